import Derived.Test.YtgipmaoplfkdoaaGreatDoorM9
import Derived.Test.YtgipmaoplfkdoaaGreatDoorM10
set_option linter.all false
set_option maxRecDepth 100000
set_option maxHeartbeats 400000000
namespace Go.Proofs.YtgipmaoplfkdoaaGreatDoor
noncomputable section
open Go.RowKit
variable{n k:Nat}{K H:D}{gv v:J}{aL cL:AT}{bT:List (Nat×Nat)}{t1:CX}{c:Nat->Nat}{S:SI}{V:SV}{ds:List bH}{rs:List bL}
structure eP where
 wh:Nat->Int
 lo:Nat->Int
 cm:Nat->Int
 wait:List Nat
 fi:Nat
variable{s:eP}
abbrev QZ(f:Nat->Int):Nat->J:=λ k=>ae (f k)
structure iq where
 w:Nat
 aR:Nat
 aG:Nat
 C:Nat
variable{L:iq}
structure rF(K:D)(L:iq)(gv:J)(n:Nat)(s:eP)(aL:List Nat):Prop where
 ob:∃t u,Lv K L.w (.cells 6 t false)/\AV t 0 gv/\AV t 1 (.sl L.aR 0 1 n n true)/\AV t 2 (.sl L.aG 0 1 n n true)/\AV t 3 u/\AV t 4 (.sl L.C 0 1 n n true)/\AV t 5 (ae s.fi)/\aX K 1 u (aZ (iY s.wait)) aL
 a:iD K L.aR n (QZ s.wh)
 b:iD K L.aG n (QZ s.lo)
 c:iD K L.C n (QZ s.cm)
def iq.ids(L:iq):AT:=[L.w,L.aR,L.aG,L.C]
def eP.nu(s:eP)(k:Nat):eP:={s with wh:=λ x=>if x=k then((s.fi+1:Nat):Int)else s.wh x,lo:=λ x=>if x=k then((s.fi+1:Nat):Int)else s.lo x,wait:=s.wait++[k],fi:=s.fi+1}
theorem rF.W{K T:D}{L:iq}{gv:J}{n:Nat}{s:eP}{aL cL:AT}(h:rF K L gv n s aL)(g:I cL K T)(O:∀y∈L.ids,y∉cL)(U:∀y∈aL,y∉cL):rF T L gv n s aL:=by have⟨⟨t,u,l,e⟩,a,b,c⟩:=h;refine⟨⟨t,u,l.W g (O _ (by simp[iq.ids])),e.1,e.2.1,e.2.2.1,e.2.2.2.1,e.2.2.2.2.1,e.2.2.2.2.2.1,e.2.2.2.2.2.2.W g U⟩,a.W g (O _ (by simp[iq.ids])),b.W g (O _ (by simp[iq.ids])),c.W g (O _ (by simp[iq.ids]))⟩
def tT(l:List (Nat×Nat)):AU:=l.flatMap λ q=>[ae q.1,ae q.2]
theorem Lr:∀l:List (Nat×Nat),(tT l).length=l.length*2
 |[]=>rfl|q::l=>by have:=Lr l;simp[tT]at this⊢;omega
def uU(K:D)(b:Nat)(l:List (Nat×Nat))(cL:AT):Prop:=∃t u,Lv K b (.cells 1 t false)/\AV t 0 u/\aX K 2 u (tT l) cL
def agk{b1 b2:Nat}(h:rF K L gv n s aL)(hw:uU K b2 bT cL)(l1:Lv K b1 (.cells 1 t1 false))(e1:AV t1 0 (.ptr L.w 0))(Q:k<n)(hc:s.fi<1048576)(mD:s.wait.length<=1048576)(hyl:bT.length<=1048576)(dN:(L.ids++[b1,b2]).Nodup)(dY:∀y∈aL,y∉L.ids++[b1,b2])(dZ:∀y∈cL,y∉L.ids++[b1,b2])(ZE:∀y∈aL,y∉cL):CN 180 [ae k,.ptr b1 0,.ptr b2 0] K λ _ T=>∃Y' Z',rF T L gv n (s.nu k) Y'/\uU T b2 (bT++[(k,0)]) Z'/\(∀y∈Y',y∈aL\/K.ab<=y)/\(∀y∈Z',y∈cL\/K.ab<=y)/\(∀y∈Y',y∉Z')/\I (L.ids++[b2]++aL++cL) K T:=by
 refine ba arp rfl λ Q' hQ=>?_
 obtain⟨⟨t,u,l,z0,z1,z2,z3,z4,z5,hu⟩,⟨ta,la,ea⟩,⟨tb,lb,eb⟩,hcC⟩:=h
 obtain⟨tw,uw,lw,ew,hZ⟩:=hw
 have ui:IntKind.wrap .i64 ((s.fi:Int)+1)=(s.fi:Int)+1:=bq (by unfold maxLen;omega)
 have dM:(L.ids++[b1,b2]).reverse.Nodup:=S_.2 (dN.imp λ h=>qj h)
 simp[iq.ids]at dN dM dY dZ
 simp[-cX,l1.get,e1,l.get,z1,z2,z3,z5,ui,la.get,lb.get,Q,dN,dM,dz Q]
 try (refine dF (by simp[dA,dm]) ?_)
 generalize ed:D.put (D.put (D.put K L.w _) L.aR _) L.aG _=K1
 have n1:K1.ab=K.ab:=by rw[<-ed];rfl
 have g1:I (L.ids++[b2]++aL++cL) K K1:=by rw[<-ed];exact((aw.put (.inr (by simp[iq.ids]))).put (.inr (by simp[iq.ids]))).put (.inr (by simp[iq.ids]))
 have IG:I [L.w,L.aR,L.aG] K K1:=by rw[<-ed];exact((aw.put (.inr ζ)).put (.inr ζ)).put (.inr ζ)
 have w1:Lv K1 L.w (.cells 6 (t.put 5 (some (ae ((s.fi:Int)+1)))) false):=by rw[<-ed];refine⟨l.lt,?_⟩;simp[dN]
 have wA:Lv K1 L.aR (.cells n (ta.put k (some (ae ((s.fi:Int)+1)))) false):=by rw[<-ed];refine⟨la.lt,?_⟩;simp[dN]
 have wB:Lv K1 L.aG (.cells n (tb.put k (some (ae ((s.fi:Int)+1)))) false):=by rw[<-ed];refine⟨lb.lt,?_⟩;simp
 clear ed
 have wC:=hcC.W IG (by simp[dM])
 have v1:=l1.W IG (by simp[dM])
 have v2:=lw.W IG (by simp[dM])
 have Vu:=hu.W IG (λ y G=>by simp[dY y G])
 have hZ1:=hZ.W IG (λ y G=>by simp[dZ y G])
 rw[<-n1]
 refine vL (c:=ae (k:Nat)) bK qF Vu rfl (by simp[aZ];omega) (by simp[aZ];omega) ?_
 intro v' K2 Y2 p1 p2 p3
 have nY:∀z∈L.ids++[b1,b2],z∉aL:=λ z hz G=>by have:=dY z G;simp[iq.ids]at hz;rcases hz with rfl|rfl|rfl|rfl|rfl|rfl<;>simp_all
 have x1:=w1.W p2 (nY _ (by simp[iq.ids]))
 have xA:=wA.W p2 (nY _ (by simp[iq.ids]))
 have xB:=wB.W p2 (nY _ (by simp[iq.ids]))
 have xC:=wC.W p2 (nY _ (by simp[iq.ids]))
 have y1:=v1.W p2 (nY _ ζ)
 have y2:=v2.W p2 (nY _ ζ)
 have hZ2:=hZ1.W p2 (λ y G hY=>ZE y hY G)
 simp[-cX]
 refine dF (by simp[dA,dm,val,y1.get,e1]) ?_
 simp[-cX,x1.get,p1.cell,p1.co,y2.get,dM,ew]
 generalize dw:D.put K2 L.w _=K3
 have g3:I [L.w] K2 K3:=by rw[<-dw];exact aw.put (.inr ζ)
 have r1:Lv K3 L.w (.cells 6 ((t.put 5 (some (ae ((s.fi:Int)+1)))).put 3 (some v')) false):=by rw[<-dw];exact x1.put_eq
 have n3:K3.ab=K2.ab:=by rw[<-dw];rfl
 clear dw
 have n2:=p2.ab
 have GJ:L.w<K1.ab:=w1.lt
 have rA:=xA.W g3 (by simp[dM])
 have rB:=xB.W g3 (by simp[dM])
 have rC:=xC.W g3 (by simp[dM])
 have s2:=y2.W g3 (by simp[dM])
 have UG:=hZ2.W g3 (λ y G=>by simp[dZ y G])
 have p1':=p1.W g3 (λ y G=>(p3 y G).elim (λ q=>by simp[dY y q]) λ q=>ξ)
 have kH:(tT bT).length=bT.length*2:=Lr bT
 rw[<-n3]
 generalize pL:D.add K3 _=K4
 have ga:I [] K3 K4:=by rw[<-pL];exact aw.add _
 have lr:∃tr,Lv K4 K3.ab (.cells 2 tr false)/\bc tr 0 (1*2)=some [ae (k:Nat),ae 0]:=by rw[<-pL];exact⟨_,Lv.new,by simp[bc]⟩
 have n4:K4.ab=K3.ab+1:=by rw[<-pL];rfl
 clear pL
 obtain⟨tr,lr,lr0⟩:=lr
 refine Fh (n:=1) Fy alm ω (UG.W ga ζ) lr.get aF lr0 rfl (λ q hq=>ω) (λ q hq=>ω) ?_
 intro v4 K5 Z5 q1 q2 q3
 have nZ:∀z∈L.ids++[b1,b2],z∉cL:=λ z hz G=>by have:=dZ z G;simp[iq.ids]at hz;rcases hz with rfl|rfl|rfl|rfl|rfl|rfl<;>simp_all
 have f1:=(r1.ai ga).W q2 (nZ _ (by simp[iq.ids]))
 have fA:=(rA.W ga ζ).W q2 (nZ _ (by simp[iq.ids]))
 have fB:=(rB.W ga ζ).W q2 (nZ _ (by simp[iq.ids]))
 have fC:=(rC.W ga ζ).W q2 (nZ _ (by simp[iq.ids]))
 have f2:=(s2.ai ga).W q2 (nZ _ ζ)
 have eG:b2<K1.ab:=v2.lt
 have LY:=(p1'.W ga ζ).W q2 (λ y G=>(p3 y G).elim (λ q=>ZE y q) λ q hz=>by have:=hZ1.lt y hz;omega)
 simp[-cX,f2.get,q1.cell,q1.co]
 have gf:I [b2] K5 (K5.put b2 (some (.cells 1 (tw.put 0 (some v4)) false))):=aw.put (.inr ζ)
 have m1:=g1.ab
 have m2:=p2.ab
 have m3:=g3.ab
 have m5:=q2.ab
 have sD:=hu.lt
 have aug:=hZ.lt
 have at3:=p1.lt
 have b2Y:∀y∈Y2,¬y=b2:=λ y G=>(p3 y G).elim (λ q=>by simp[dY y q]) λ q=>ω
 have b2Z:∀y∈Z5,¬y=b2:=λ y G=>(q3 y G).elim (λ q=>by simp[dZ y q]) λ q=>ω
 have auD:ae ((s.fi:Int)+1)=ae ((s.fi+1:Nat):Int):=ζ
 refine hQ ⟨Y2,Z5,⟨⟨_,v',f1.W gf (by simp[dN]),by simp[z0],by simp[z1],by simp[z2],ζ,by simp[z4],by simp[eP.nu],?_⟩,⟨⟨_,fA.W gf (by simp[dN]),λ x Z=>?_⟩⟩,⟨⟨_,fB.W gf (by simp[dN]),λ x Z=>?_⟩⟩,fC.W gf (by simp[dN])⟩,⟨_,v4,f2.put_eq,ζ,?_⟩,λ y G=>?_,λ y G=>?_,λ y G hz=>?_,?_⟩
 .have:=LY.W gf (by simpa using b2Y)
  simpa[eP.nu,aZ]using this
 .by_cases e:x=k
  .simp[e,eP.nu]
  .simp[e,eP.nu,ea x Z]
 .by_cases e:x=k
  .simp[e,eP.nu]
  .simp[e,eP.nu,eb x Z]
 .have:=q1.W gf (by simpa using b2Z)
  simpa[tT]using this
 .exact(p3 y G).elim .inl λ q=>.inr ω
 .exact(q3 y G).elim .inl λ q=>.inr ω
 .have U:=at3 y G
  rcases p3 y G with q|q<;>rcases q3 y hz with r|r
  .exact ZE y q r
  .have:=sD y q;omega
  .have:=aug y r;omega
  .omega
 .exact((((g1.trans (p2.mono λ x Z=>by simp[Z])).trans (g3.mono (by simp[iq.ids]))).trans (ga.mono ζ)).trans (q2.mono λ x Z=>by simp[Z])).trans (gf.mono ζ)
variable{i:Nat}
def aFk(h:(aL++[i]).Sublist cL)(hn:cL.Nodup):∃a b,cL=a++i::b/\i∉a/\aL.Sublist a:=by obtain⟨r1,r2,rfl,O,U⟩:=List.append_sublist_iff.1 h;obtain⟨c,d,rfl⟩:=List.append_of_mem (U.subset (afi));refine⟨r1++c,d,ζ,?_,O.trans (afj _ _)⟩;intro A;rw[<-FK,zd]at hn;exact hn.2.2 i A i (afi) rfl
def xb(wt:Nat->Nat)(wh:Nat->Int):Nat->Nat
 |0=>0|n+1=>xb wt wh n+if wh n=0 then wt n else 0
theorem alu{wt:Nat->Nat}{wh wh':Nat->Int}:∀{n:Nat},(∀x,x<n->wh x=wh' x)->xb wt wh n=xb wt wh' n
 |0,_=>rfl
 |n+1,h=>by
  unfold xb
  rw[alu (n:=n) λ x Z=>h x ω,h n ω]
theorem aeg{wt:Nat->Nat}{wh:Nat->Int}{k:Nat}{z:Int}(hz:z≠0)(h0:wh k=0):∀{n:Nat},k<n->xb wt (λ x=>if x=k then z else wh x) n+wt k=xb wt wh n
 |0,h=>ω
 |n+1,h=>by
  unfold xb
  by_cases e:n=k
  .subst e
   rw[alu (wh':=wh) λ x Z=>by rw[ao ω]];simp[hz,h0]
  .have:=aeg (wt:=wt) (wh:=wh) (k:=k) hz h0 (n:=n) ω
   simp only[ao e];omega
variable{g:List BW}{len:Nat->Nat}{s:eP}
def azw(hg:GI n H gv g):CN 149 [gv] H λ u K=>K=H/\u=ae (g.length:Nat):=by refine ba aq1 rfl λ Q' hQ=>?_;simp[hg.sl.aN alk];exact hQ ⟨rfl,rfl⟩
structure qh(n:Nat)(len:Nat->Nat)(s:eP)(bT:List (Nat×Nat)):Prop where
 nd:s.wait.Nodup
 sub:(bT.map (·.1)).Sublist s.wait
 bg:∀k∈s.wait,k<n/\s.wh k≠0
 pos:∀q∈bT,q.2<=len q.1
 fi:s.fi+xb (λ _=>1) s.wh n=n
def s_(n:Nat)(len:Nat->Nat)(s:eP)(bT:List (Nat×Nat)):Nat:=xb (λ k=>len k+2) s.wh n+(bT.map λ q=>len q.1-q.2+1).sum
def qh.nu{bT:List (Nat×Nat)}(h:qh n len s bT){k:Nat}(Q:k<n)(h0:s.wh k=0):qh n len (s.nu k) (bT++[(k,0)])/\s_ n len (s.nu k) (bT++[(k,0)])+1=s_ n len s bT/\s.fi<n:=by
 have hz:((s.fi+1:Nat):Int)≠0:=ω
 have e1:=aeg (wt:=λ _=>1) hz h0 Q;have e2:=aeg (wt:=λ k=>len k+2) hz h0 Q;have hc:=h.fi;have hkw:k∉s.wait:=λ B=>(h.bg k B).2 h0;refine⟨⟨?_,?_,?_,?_,?_⟩,?_,ω⟩
 .show(s.wait++[k]).Nodup;rw[zd];exact⟨h.nd,ζ,λ a ha b hb=>by simp at hb;subst hb;exactλ e=>hkw (e▸ha)⟩
 .show((bT++[(k,0)]).map λ q:Nat×Nat=>q.1).Sublist (s.wait++[k]);rw[lF];exact h.sub.append (List.Sublist.refl _)
 .intro x Z;have iX:x∈s.wait++[k]:=Z;show x<n/\(if x=k then((s.fi+1:Nat):Int)else s.wh x)≠0;rw[b_,jo]at iX;by_cases e:x=k
  .subst e;exact⟨Q,by rw[aq rfl];exact hz⟩
  .rw[ao e];exact h.bg x (iX.resolve_right e)
 .intro q hq;rw[b_,jo]at hq;rcases hq with hq|rfl
  .exact h.pos q hq
  .exact dQ _
 .show s.fi+1+xb (λ _=>1) (λ x=>if x=k then((s.fi+1:Nat):Int)else s.wh x) n=n;omega
 .show xb _ (λ x=>if x=k then((s.fi+1:Nat):Int)else s.wh x) n+_+1=_;unfold s_;rw[lF,tJ];simp only[kB,FN,sr,KJ];omega
variable{l:List (Nat×Nat)}{e:Nat}
def qh.same{s':eP}(h:qh n len s bT)(O:s'.wh=s.wh)(U:s'.wait=s.wait)(F:s'.fi=s.fi):qh n len s' bT/\s_ n len s' bT=s_ n len s bT:=⟨⟨by rw[U];exact h.nd,by rw[U];exact h.sub,by rw[O,U];exact h.bg,h.pos,by rw[O,F];exact h.fi⟩,by unfold s_;rw[O]⟩
def qh.adv(h:qh n len s (l++[(i,e)]))(he:e<len i):qh n len s (l++[(i,e+1)])/\s_ n len s (l++[(i,e+1)])+1=s_ n len s (l++[(i,e)]):=by
 refine⟨⟨h.nd,?_,h.bg,λ q hq=>?_,h.fi⟩,?_⟩
 .have:=h.sub;rw[lF]at this⊢;exact this
 .rw[b_,jo]at hq;rcases hq with hq|rfl
  .exact h.pos q (zb _ hq)
  .exact he
 .unfold s_;rw[lF,lF,tJ,tJ];simp only[kB,FN,sr,KJ];omega
def qh.pop{q:Nat×Nat}(h:qh n len s (l++[q])):qh n len s l/\s_ n len s l<s_ n len s (l++[q])/\∃a b,s.wait=a++q.1::b/\q.1∉a/\qh n len {s with wait:=a} l:=by
 have hs:=h.sub;rw[lF]at hs;have hp:∀x∈l,x.2<=len x.1:=λ x Z=>h.pos x (zb _ Z);refine⟨⟨h.nd,(afj _ _).trans hs,h.bg,hp,h.fi⟩,?_,?_⟩
 .unfold s_;rw[lF,tJ];simp only[kB,FN,sr,KJ];omega
 .have⟨a,b,hw,A,hl⟩:=aFk hs h.nd;refine⟨a,b,hw,A,⟨?_,hl,λ k Q=>h.bg k ?_,hp,h.fi⟩⟩
  .have:=h.nd;rw[hw,zd]at this;exact this.1
  .rw[hw];exact zb _ Q
def qh.last{q:Nat×Nat}(h:qh n len s (l++[q])):q.1<n:=(h.bg q.1 (h.sub.subset (jn.2 ⟨q,ζ,rfl⟩))).1
abbrev uF(g:List BW)(k:Nat):Nat:=(g[k]?.getD []).length
def eP.mn(s:eP)(l:List (Nat×Nat))(i:Nat):eP:=match l.getLast? with|none=>s|some q=>{s with lo:=aM s.lo q.1 (min (s.lo q.1) (s.lo i))}
def eP.cut(s:eP)(i:Nat):eP:={s with cm:=λ k=>if k∈s.wait.drop (s.wait.idxOf i)then(i:Int)else s.cm k,wait:=s.wait.take (s.wait.idxOf i)}
def Aj(g:List BW)(x:eP×List (Nat×Nat)):eP×List (Nat×Nat):=match x.2.getLast? with
 |none=>x
 |some q=>
  if q.2<uF g q.1 then
   if x.1.wh (((g[q.1]?.getD [])[q.2]?.getD 0).toNat)=0 then(x.1.nu (((g[q.1]?.getD [])[q.2]?.getD 0).toNat),x.2.dropLast++[(q.1,q.2+1)]++[((((g[q.1]?.getD [])[q.2]?.getD 0).toNat),0)])
   else if x.1.cm (((g[q.1]?.getD [])[q.2]?.getD 0).toNat)<0 then({x.1 with lo:=aM x.1.lo q.1 (min (x.1.lo q.1) (x.1.wh (((g[q.1]?.getD [])[q.2]?.getD 0).toNat)))},x.2.dropLast++[(q.1,q.2+1)])
   else(x.1,x.2.dropLast++[(q.1,q.2+1)])
  else if(x.1.mn x.2.dropLast q.1).lo q.1=(x.1.mn x.2.dropLast q.1).wh q.1 then((x.1.mn x.2.dropLast q.1).cut q.1,x.2.dropLast)
  else(x.1.mn x.2.dropLast q.1,x.2.dropLast)
def xc(g:List BW):Nat->eP×List (Nat×Nat)->eP×List (Nat×Nat)
 |0,x=>x|n+1,x=>Aj g (xc g n x)
theorem aen{g:List BW}{x:eP×List (Nat×Nat)}{n:Nat}(h:(xc g n x).2=[]):∀m,n<=m->xc g m x=xc g n x
 |0,B=>by rw[show n=0 by omega]
 |m+1,B=>by
  by_cases e:n=m+1
  .rw[e]
  .have ih:=aen h m ω
   show Aj g (xc g m x)=_;rw[ih];unfold Aj;rw[h];rfl
def DK(g:List BW)(s:eP)(k:Nat):eP:=@dite _ (∃n,(xc g n (s.nu k,[(k,0)])).2=[]) (Classical.propDecidable _) (λ h=>(xc g (Classical.choose h) (s.nu k,[(k,0)])).1) λ _=>s
def aGG(h:(xc g n (s.nu k,[(k,0)])).2=[]):DK g s k=(xc g n (s.nu k,[(k,0)])).1:=by
 have he:∃n,(xc g n (s.nu k,[(k,0)])).2=[]:=⟨n,h⟩;unfold DK;rw[OK he];have U:=HS he;rcases YM n (Classical.choose he)with q|q
 .rw[aen h _ q]
 .rw[aen U _ q]
def aeo:Aj g (s,l++[(i,e)])=if e<uF g i then
 if s.wh (((g[i]?.getD [])[e]?.getD 0).toNat)=0 then(s.nu (((g[i]?.getD [])[e]?.getD 0).toNat),l++[(i,e+1)]++[((((g[i]?.getD [])[e]?.getD 0).toNat),0)])
 else if s.cm (((g[i]?.getD [])[e]?.getD 0).toNat)<0 then({s with lo:=aM s.lo i (min (s.lo i) (s.wh (((g[i]?.getD [])[e]?.getD 0).toNat)))},l++[(i,e+1)])
 else(s,l++[(i,e+1)])
 else if(s.mn l i).lo i=(s.mn l i).wh i then((s.mn l i).cut i,l)
 else(s.mn l i,l):=by
 unfold Aj
 simp only[List.getLast?_append,List.getLast?_singleton,Option.some_or,List.dropLast_concat]
def eP.abv(s:eP)(l:List (Nat×Nat))(i:Nat):(s.mn l i).wh=s.wh/\(s.mn l i).wait=s.wait/\(s.mn l i).fi=s.fi/\(s.mn l i).cm=s.cm:=by unfold eP.mn;split<;>exact⟨rfl,rfl,rfl,rfl⟩
def awG(h:i∉aL):(aL++i::cL).idxOf i=aL.length:=by rw[List.idxOf_append,ao h];simp
def eP.af8(hw:s.wait=aL++i::cL)(h:i∉aL):s.cut i={s with cm:=λ k=>if k∈i::cL then(i:Int)else s.cm k,wait:=aL}:=by unfold eP.cut;rw[hw,awG h,List.drop_left,List.take_left]
def aGH(h:qh g.length (uF g) s (l++[(i,e)]))(o8:∀r∈g,∀z∈r,0<=z/\z<g.length):qh g.length (uF g) (Aj g (s,l++[(i,e)])).1 (Aj g (s,l++[(i,e)])).2/\s_ g.length (uF g) (Aj g (s,l++[(i,e)])).1 (Aj g (s,l++[(i,e)])).2<s_ g.length (uF g) s (l++[(i,e)]):=by
 rw[aeo]
 by_cases he:e<uF g i
 .rw[aq he]
  obtain⟨O,m1⟩:=h.adv he;have Q:((g[i]?.getD [])[e]?.getD 0).toNat<g.length:=by
   have A:i<g.length:=h.last;have xZ:e<g[i].length:=by simpa[uF,bf A]using he
   have:=o8 g[i] (cG A) g[i][e] (cG xZ);rw[bf A];show(g[i][e]?.getD 0).toNat<_;rw[bf xZ];show(g[i][e]).toNat<_;omega
  generalize((g[i]?.getD [])[e]?.getD 0).toNat=k at Q;split
  .rename_i h0;obtain⟨U,m2,-⟩:=O.nu Q h0;exact⟨U,by dsimp only at m2⊢;omega⟩
  .split
   .obtain⟨U,m2⟩:=O.same (s':={s with lo:=aM s.lo i (min (s.lo i) (s.wh k))}) rfl rfl rfl;exact⟨U,by dsimp only at m2⊢;omega⟩
   .exact⟨O,by dsimp only;omega⟩
 .rw[ao he]
  obtain⟨a1,a2,a3,a4⟩:=s.abv l i;obtain⟨O,m1⟩:=h.same (s':=s.mn l i) a1 a2 a3;obtain⟨U,m2,a,b,hw,A,F⟩:=O.pop;split
  .rw[eP.af8 hw A];refine⟨⟨F.nd,F.sub,F.bg,F.pos,F.fi⟩,?_⟩;have e:s_ g.length (uF g) {s.mn l i with cm:=λ k=>if k∈i::b then(i:Int)else(s.mn l i).cm k,wait:=a} l=s_ g.length (uF g) (s.mn l i) l:=rfl;dsimp only;rw[e];omega
  .exact⟨U,by dsimp only;omega⟩
def Lq(l:List (Nat×Nat))(q:Nat×Nat):tT (l++[q])=tT l++[ae q.1,ae q.2]:=by simp[tT]
def uU.last(h:uU K k (l++[(i,e)]) cL)(hb:k∉cL):∃t id ax ex tz,cL=[id]/\Lv K k (.cells 1 t false)/\AV t 0 (.sl id 0 2 (l.length+1) ax ex)/\Lv K id (.cells (ax*2) tz false)/\l.length+1<=ax/\ax<=maxLen/\tz.get (l.length*2)=some (ae (i:Nat))/\tz.get (l.length*2+1)=some (ae (e:Nat))/\(∀q,l.getLast?=some q->0<l.length/\tz.get ((l.length-1)*2)=some (ae (q.1:Nat)))/\(∀T,I [id] K T->Lv T id (.cells (ax*2) (tz.put (l.length*2+1) (some (ae ((e+1:Nat):Int)))) false)->uU T k (l++[(i,e+1)]) [id])/\(∀T,I [k] K T->Lv T k (.cells 1 (t.put 0 (some (.sl id 0 2 l.length ax ex))) false)->uU T k l [id]):=by
 have⟨t,u,lb,e0,hO⟩:=h
 have hf:=Lq l (i,e)
 have bA:(tT (l++[(i,e)])).length=(l.length+1)*2:=by rw[Lr];simp
 generalize tT (l++[(i,e)])=TA at hO hf bA
 cases hO with
 |nil=>simp at bA
 |@own id n ax ex tz _ p1 p2 p3 p4 p5 p6=>
  have hn:n=l.length+1:=ω
  subst hn
  have ck:(tT l).length=l.length*2:=Lr l
  have hbi:k≠id:=λ h=>hb (by simp[h])
  refine⟨t,id,ax,ex,tz,rfl,lb,e0,p1,p4,p6,?_,?_,λ q hq=>?_,λ T g hl=>?_,λ T g hl=>?_⟩
  .rw[p3 _ ω,hf,mi ω,ck];simp
  .rw[p3 _ ω,hf,mi ω,ck];simp
  .rcases SS l with rfl|⟨l',q',rfl⟩
   .simp at hq
   .simp only[YC]at hq hf p3 ck bA p4⊢;simp at hq;subst hq;have fF:(tT l').length=l'.length*2:=Lr l';refine⟨ζ,?_⟩;rw[p3 _ ξ,hf,jI (by simp[Lq,fF]),Lq,mi (by simp[fF]),fF];simp
  .refine⟨t,_,lb.W g (by simpa using hbi),e0,.own hl (by rw[Lq];simp[ck];omega) (λ j hj=>?_) p4 p5 p6⟩
   by_cases hje:j=l.length*2+1
   .subst hje;rw[Lq,mi ω,ck];simp
   .rw[Tr.eR,ao hje,p3 j hj,hf,Lq];by_cases yb:j<l.length*2
    .rw[jI ω,jI ω]
    .have:j=l.length*2:=ω
     subst this;rw[mi ω,mi ω,ck];simp
  .refine⟨_,_,hl,ζ,.own (p1.W g (by simp;exactλ h=>hbi h.symm)) ck (λ j hj=>?_) ω p5 p6⟩
   rw[p3 j ω,hf,jI ω]
section
variable{K T:D}{L:iq}{gv:J}{n:Nat}{s:eP}{aL:AT}
def rF.Bc(h:rF K L gv n s aL)(hn:L.ids.Nodup)(hY:∀y∈aL,y∉L.ids)(hl:Lv K L.aG (.cells n t1 false))(hu:∀x,x<n->t1.get x=some (QZ s.lo x))(x:Nat)(z:Int):rF (K.put L.aG (some (.cells n (t1.put x (some (ae z))) false))) L gv n {s with lo:=aM s.lo x z} aL/\I [L.aG] K (K.put L.aG (some (.cells n (t1.put x (some (ae z))) false))):=by
 have g:I [L.aG] K (K.put L.aG (some (.cells n (t1.put x (some (ae z))) false))):=aw.put (.inr ζ)
 have B:L.ids.reverse.Nodup:=S_.2 (hn.imp λ h=>qj h)
 simp[iq.ids]at hn B hY
 have⟨⟨t,v,l,e1,e2,e3,e4,e5,e6,e7⟩,a,b,c⟩:=h
 refine⟨⟨⟨t,v,l.W g (by simp[hn]),e1,e2,e3,e4,e5,e6,e7.W g (λ y G=>by simp[hY y G])⟩,a.W g (by simp[hn]),(iD.put hl hu).congr λ y _=>?_,c.W g (by simp[B])⟩,g⟩
 simp[aM]
def rF.cm'(h:rF K L gv n s aL)(hn:L.ids.Nodup)(hY:∀y∈aL,y∉L.ids)(hl:Lv K L.C (.cells n t1 false))(hu:∀x,x<n->t1.get x=some (QZ s.cm x))(x:Nat)(z:Int):rF (K.put L.C (some (.cells n (t1.put x (some (ae z))) false))) L gv n {s with cm:=aM s.cm x z} aL/\I [L.C] K (K.put L.C (some (.cells n (t1.put x (some (ae z))) false))):=by
 have g:I [L.C] K (K.put L.C (some (.cells n (t1.put x (some (ae z))) false))):=aw.put (.inr ζ)
 have B:L.ids.reverse.Nodup:=S_.2 (hn.imp λ h=>qj h)
 simp[iq.ids]at hn B hY
 have⟨⟨t,v,l,e1,e2,e3,e4,e5,e6,e7⟩,a,b,c⟩:=h
 refine⟨⟨⟨t,v,l.W g (by simp[hn]),e1,e2,e3,e4,e5,e6,e7.W g (λ y G=>by simp[hY y G])⟩,a.W g (by simp[hn]),b.W g (by simp[hn]),(iD.put hl hu).congr λ y _=>?_⟩,g⟩
 simp[aM]
end
def kR(c:Nat->Int):Nat->(Int->Option Nat)×Nat
 |0=>(λ _=>none,0)|j+1=>if((kR c j).1 (c j)).isSome=true then kR c j else(FA (kR c j).1 (c j) (some (kR c j).2),(kR c j).2+1)
def Bk(c:Nat->Int)(j:Nat):Nat:=((kR c (j+1)).1 (c j)).getD 0
theorem abD(c:Nat->Int):∀j,(kR c j).2<=j
 |0=>aF
 |j+1=>by
  have:=abD c j
  unfold kR;split
  .omega
  .show(kR c j).2+1<=j+1
   omega
theorem abE{c:Nat->Int}{z:Int}{k:Nat}:∀{j},(kR c j).1 z=some k->k<(kR c j).2
 |0,h=>by cases h
 |j+1,h=>by
  unfold kR at h⊢
  split at h
  .rename_i e;rw[aq e];exact abE h
  .rename_i e;rw[ao e]
   dsimp only at h⊢;unfold FA at h;split at h
   .cases h;omega
   .have:=abE h;omega
def azC(c:Nat->Int)(j:Nat):∃k,(kR c (j+1)).1 (c j)=some k:=by
 unfold kR;split
 .rename_i e;exact afu.1 e
 .exact⟨_,by simp[FA];rfl⟩
def azB(c:Nat->Int)(j:Nat):Bk c j<j+1:=by have⟨k,Q⟩:=azC c j;unfold Bk;rw[Q];have:=abE Q;have:=abD c (j+1);show k<_;omega
def J_:eP:=⟨λ _=>0,λ _=>0,λ _=>-1,[],0⟩
def ru(g:List BW):Nat->eP
 |0=>J_|i+1=>@ite _ ((ru g i).wh i=0) (Classical.propDecidable _) (DK g (ru g i) i) (ru g i)
def zp(g:List BW)(i:Nat):Nat:=Bk (ru (gC g) g.length).cm i
def Pa(g:List BW):AT:=(List.range g.length).map (zp g)
def Sp(n:Nat)(x:eP×List (Nat×Nat)):Prop:=(∀k,-1<=x.1.cm k/\x.1.cm k<n)/\∀q∈x.2,q.1<n
def Sp.step{g:List BW}{x:eP×List (Nat×Nat)}(h:Sp g.length x)(o8:∀r∈g,∀z∈r,0<=z/\z<g.length):Sp g.length (Aj g x):=by
 have⟨s,bT⟩:=x;rcases SS bT with rfl|⟨l,⟨i,e⟩,rfl⟩
 .exact h
 .rw[YC]at h⊢;have⟨O,U⟩:=h;dsimp only at O U;have hl:∀q∈l,q.1<g.length:=λ q hq=>U q (by simp[hq]);have A:i<g.length:=U (i,e) ζ;have ck:∀e',∀q∈l++[(i,e')],q.1<g.length:=λ e' q hq=>by
   rw[b_,jo]at hq;rcases hq with hq|rfl
   .exact hl q hq
   .exact A
  rw[aeo];by_cases he:e<uF g i
  .rw[aq he];have Q:((g[i]?.getD [])[e]?.getD 0).toNat<g.length:=by
    have xZ:e<g[i].length:=by simpa[uF,bf A]using he
    have:=o8 g[i] (cG A) g[i][e] (cG xZ);rw[bf A];show(g[i][e]?.getD 0).toNat<_;rw[bf xZ];show(g[i][e]).toNat<_;omega
   generalize((g[i]?.getD [])[e]?.getD 0).toNat=k at Q;split
   .refine⟨O,λ q hq=>?_⟩;rw[b_,jo]at hq;rcases hq with hq|rfl
    .exact ck _ q hq
    .exact Q
   .split
    .exact⟨O,ck _⟩
    .exact⟨O,ck _⟩
  .rw[ao he];have B:=(s.abv l i).2.2.2;split
   .refine⟨λ k=>?_,hl⟩;show-1<=(if k∈_ then(i:Int)else(s.mn l i).cm k)/\(if k∈_ then(i:Int)else(s.mn l i).cm k)<_;rw[B];split
    .omega
    .exact O k
   .refine⟨λ k=>?_,hl⟩;show-1<=(s.mn l i).cm k/\(s.mn l i).cm k<_;rw[B];exact O k
def aGF(h:∀x,-1<=s.cm x/\s.cm x<g.length)(Q:k<g.length)(o8:∀r∈g,∀z∈r,0<=z/\z<g.length):∀x,-1<=(DK g s k).cm x/\(DK g s k).cm x<g.length:=by
 have key:∀n,Sp g.length (xc g n (s.nu k,[(k,0)])):=by intro n;induction n with|zero=>exact⟨h,λ q hq=>by simp[xc]at hq;rw[hq];exact Q⟩|succ n ih=>exact ih.step o8
 unfold DK;split
 .rename_i Z;exact(key _).1
 .exact h
theorem alM{g:List BW}(o8:∀r∈g,∀z∈r,0<=z/\z<g.length):∀n,n<=g.length->∀x,-1<=(ru g n).cm x/\(ru g n).cm x<g.length
 |0,_=>λ x=>⟨Ys _,by show(-1:Int)<_;omega⟩
 |n+1,hn=>by
  have ih:=alM o8 n ω
  show∀x,-1<=(@ite _ _ (Classical.propDecidable _) (DK g (ru g n) n) (ru g n)).cm x/\(@ite _ _ (Classical.propDecidable _) (DK g (ru g n) n) (ru g n)).cm x<_
  split
  .exact aGF ih ω o8
  .exact ih
namespace SV
noncomputable def rows(V:SV)(N:Nat):List BW:=(List.range N).map λ i=>if V.first i=i then(jW (V.to i)).map λ k=>((V.first k:Nat):Int)else[]
noncomputable def eQ(V0:SV)(c:Nat->Nat):Nat->SV×(Nat->Option Nat)
 |0=>(V0,λ _=>none)
 |n+1=>if V0.first n=n then(match(eQ V0 c n).2 (c n)with|none=>((eQ V0 c n).1,aM (eQ V0 c n).2 (c n) (some n))|some j=>((eQ V0 c n).1.merge n j,(eQ V0 c n).2))
  else eQ V0 c n
noncomputable def sX(V0:SV)(c:Nat->Nat):Nat->Nat->Nat
 |0=>V0.first
 |n+1=>if V0.first n=n then(match(eQ V0 c n).2 (c n)with|none=>sX V0 c n|some j=>aM (sX V0 c n) n j)
  else sX V0 c n
noncomputable def lP(V:SV)(N:Nat):SV:=(eQ V (zp (rows V N)) N).1
structure yQ(V0:SV)(c:Nat->Nat)(n:Nat)(V:SV)(st:Nat->Option Nat)(au:Nat->Nat):Prop where
 raw:∀x,V.first x=au (au x)
 Nx:∀x,V0.first x≠x->au x=V0.first x
 rp:∀x,V0.first x=x->au x=x\/(au x<n/\x<n/\st (c x)=some (au x))
 st:∀k j,st k=some j->j<n/\au j=j/\c j=k/\V0.first j=j
section
variable{V0 V:SV}{c:Nat->Nat}{n:Nat}{st:Nat->Option Nat}{au:Nat->Nat}
theorem yQ.one(h:yQ V0 c n V st au)(Z:V0.first k=k):au (au k)=au k:=by
 rcases h.rp k Z with e|⟨_,_,e⟩
 .rw[e,e]
 .exact(h.st _ _ e).2.1
theorem yQ.qV(h:yQ V0 c n V st au)(bD:∀x,V0.first (V0.first x)=V0.first x)(x:Nat):V0.first (au x)=au x:=by
 by_cases e:V0.first x=x
 .rcases h.rp x e with e1|⟨_,_,e1⟩
  .rw[e1,e]
  .exact(h.st _ _ e1).2.2.2
 .rw[h.Nx x e,bD]
theorem yQ.fix(h:yQ V0 c n V st au)(bD:∀x,V0.first (V0.first x)=V0.first x)(x:Nat):au (au (au x))=au (au x):=h.one (h.qV bD x)
theorem yQ.A(h:yQ V0 c n V st au)(Z:n<=k):au k=V0.first k:=by
 by_cases e:V0.first k=k
 .rcases h.rp k e with e1|⟨_,e1,_⟩
  .rw[e1,e]
  .omega
 .exact h.Nx k e
end
theorem aqr{V0:SV}(bD:∀x,V0.first (V0.first x)=V0.first x):yQ V0 c 0 V0 (λ _=>none) V0.first:=⟨λ x=>(bD x).symm,λ _ _=>rfl,λ _ h=>.inl h,λ _ _ h=>by cases h⟩
theorem Ua{V0:SV}(e:¬V0.first n=n):eQ V0 c (n+1)=eQ V0 c n/\sX V0 c (n+1)=sX V0 c n:=by
 constructor
 .show(if _ then _ else _)=_;rw[ao e]
 .show(if _ then _ else _)=_;rw[ao e]
theorem T'{V0:SV}(e:V0.first n=n)(hs:(eQ V0 c n).2 (c n)=none):eQ V0 c (n+1)=((eQ V0 c n).1,aM (eQ V0 c n).2 (c n) (some n))/\sX V0 c (n+1)=sX V0 c n:=by
 constructor
 .show(if _ then _ else _)=_;rw[aq e,hs]
 .show(if _ then _ else _)=_;rw[aq e,hs]
theorem Ub{V0:SV}(e:V0.first n=n)(hs:(eQ V0 c n).2 (c n)=some k):eQ V0 c (n+1)=((eQ V0 c n).1.merge n k,(eQ V0 c n).2)/\sX V0 c (n+1)=aM (sX V0 c n) n k:=by
 constructor
 .show(if _ then _ else _)=_;rw[aq e,hs]
 .show(if _ then _ else _)=_;rw[aq e,hs]
theorem Py{V0:SV}{c:Nat->Nat}(bD:∀x,V0.first (V0.first x)=V0.first x):∀n,yQ V0 c n (eQ V0 c n).1 (eQ V0 c n).2 (sX V0 c n)
 |0=>aqr bD
 |n+1=>by
  have h:=Py (V0:=V0) (c:=c) bD n
  by_cases e:V0.first n=n
  .have C6:sX V0 c n n=n:=by rw[h.A (Nat.le_refl _),e]
   cases hs:(eQ V0 c n).2 (c n)with
   |none=>
    obtain⟨e1,e2⟩:=T' e hs
    rw[e1,e2]
    refine⟨h.raw,h.Nx,λ x Z=>?_,λ k j Q=>?_⟩
    .rcases h.rp x Z with q|⟨q1,q2,q3⟩
     .exact .inl q
     .refine .inr ⟨ω,ω,?_⟩;dsimp only;unfold aM;rw[ao]
      .exact q3
      .intro q;rw[q,hs]at q3;cases q3
    .dsimp only at Q
     unfold aM at Q;split at Q
     .rename_i ek;cases Q;exact⟨ω,C6,ek.symm,e⟩
     .obtain⟨O,U⟩:=h.st k j Q;exact⟨ω,U⟩
   |some j=>
    obtain⟨e1,e2⟩:=Ub e hs
    obtain⟨j1,j2,j3,j4⟩:=h.st _ _ hs
    have bB:j≠n:=ω
    rw[e1,e2]
    have EP:=h.qV bD
    generalize sX V0 c n=au at h j2 C6 EP
    generalize(eQ V0 c n).1=V at h
    generalize(eQ V0 c n).2=st at h hs
    refine⟨λ x=>?_,λ x Z=>?_,λ x Z=>?_,λ k i Q=>?_⟩
    .show(if V.first x=n then j else V.first x)=_
     rw[h.raw];by_cases ex:x=n
     .subst ex;rw[fE,gG bB,j2,C6,C6,aq rfl]
     .rw[gG ex];by_cases ey:au x=n
      .rw[ey,fE,C6,aq rfl]
      .rw[gG ey,ao];rcases h.rp (au x) (EP x)with q|⟨q,_,_⟩
       .rw[q];exact ey
       .omega
    .rw[gG (λ q=>Z (by rw[q];exact e))]
     exact h.Nx x Z
    .by_cases ex:x=n
     .subst ex;rw[fE];exact .inr ⟨ω,ω,hs⟩
     .rw[gG ex];rcases h.rp x Z with q|⟨q1,q2,q3⟩
      .exact .inl q
      .exact .inr ⟨ω,ω,q3⟩
    .obtain⟨O,U,F⟩:=h.st k i Q
     have:i≠n:=ω
     exact⟨ω,by rw[gG this];exact U,F⟩
  .obtain⟨e1,e2⟩:=Ua (c:=c) e
   rw[e1,e2];refine⟨h.raw,h.Nx,λ x Z=>?_,λ k j Q=>?_⟩
   .rcases h.rp x Z with q|⟨q1,q2,q3⟩
    .exact .inl q
    .exact .inr ⟨ω,ω,q3⟩
   .obtain⟨O,U⟩:=h.st k j Q;exact⟨ω,U⟩
structure nU(S:SI)(N:Nat)(V V':SV):Prop where
 ok:V'.Ok S N
 rel:∀i r,r∈V'.aO i->∃k,r∈V.aO k
 wt:V.fx N->V'.fx N
 mu:mu V' N<=mu V N
theorem nU.merge{S:SI}{N i j:Nat}{V V0:SV}(h:nU S N V0 V)(A:V.first i=i)(hj:V.first j=j)(dK:i≠j)(az:i<N)(bB:j<N):nU S N V0 (V.merge i j):=by
 refine⟨h.ok.merge hj dK bB,λ x r hr=>?_,λ q=>(h.wt q).merge hj dK bB,aY (tL (ayL A hj dK az)) h.mu⟩;have vE:r∈aM (aM V.aO j (V.aO j++V.aO i)) i [] x:=hr;unfold aM at vE;split at vE
 .simp at vE
 .split at vE
  .rw[b_]at vE;rcases vE with q|q<;>exact h.rel _ _ q
  .exact h.rel _ _ vE
theorem aiO{S:SI}{N:Nat}{V0:SV}{c:Nat->Nat}(h0:V0.Ok S N):∀n,n<=N->nU S N V0 (eQ V0 c n).1
 |0,_=>⟨h0,λ i _ h=>⟨i,h⟩,id,Nat.le_refl _⟩
 |n+1,hn=>by
  have h:=aiO (c:=c) h0 n ω
  have hI:=Py (V0:=V0) (c:=c) h0.id n
  by_cases e:V0.first n=n
  .cases hs:(eQ V0 c n).2 (c n)with
   |none=>rw[(T' e hs).1];exact h
   |some j=>
    rw[(Ub e hs).1]
    have⟨j1,j2,j3,j4⟩:=hI.st _ _ hs
    have C6:sX V0 c n n=n:=by rw[hI.A (Nat.le_refl _),e]
    refine h.merge ?_ ?_ ω ω ω
    .rw[hI.raw,C6,C6]
    .rw[hI.raw,j2,j2]
  .rw[(Ua e).1];exact h
theorem abe(h:V.Ok S n):nU S n V (V.lP n):=aiO h n (Nat.le_refl _)
noncomputable def iN(V:SV)(r:bL):SV:=if r.kind=1 then V.take r.aR.toNat (nN r.aG.toNat)
 else if r.kind=2 then V.bV r.aR r.aG
 else if r.kind=4\/r.kind=6 then{V with aO:=aM V.aO r.aR.toNat (V.aO r.aR.toNat++[r])}
 else{V with aO:=aM V.aO r.aG.toNat (V.aO r.aG.toNat++[r])}
def V0:SV:=⟨λ x=>x,λ _ _=>0,λ _ _=>0,λ _=>[],λ _=>false,0⟩
noncomputable def V1(rs:List bL):SV:=rs.foldl iN V0
def least(V:SV)(N:Nat):Option Nat:=(List.range N).find? λ i=>V.wait i
noncomputable def vU(S:SI)(ds:List bH)(N:Nat)(x:Int×SV):Int×SV:=match x.2.least N with|none=>x|some i=>(Go.IntKind.wrap .i64 (x.1+1),if Int.tmod x.1 64=0 then(x.2.round S ds i).lP N else x.2.round S ds i)
noncomputable def pA(S:SI)(ds:List bH)(N:Nat):Nat->Int×SV->Int×SV
 |0,x=>x|n+1,x=>vU S ds N (pA S ds N n x)
theorem adZ{S:SI}{ds:List bH}{N:Nat}{x:Int×SV}{n:Nat}(h:(pA S ds N n x).2.least N=none):∀m,n<=m->pA S ds N m x=pA S ds N n x
 |0,B=>by rw[show n=0 by omega]
 |m+1,B=>by
  by_cases e:n=m+1
  .rw[e]
  .have ih:=adZ h m ω
   show vU S ds N (pA S ds N m x)=_;rw[ih];unfold vU;rw[h]
noncomputable def JY(S:SI)(ds:List bH)(N:Nat)(rs:List bL):SV:=@dite _ (∃n,(pA S ds N n (1,(V1 rs).lP N)).2.least N=none) (Classical.propDecidable _) (λ h=>(pA S ds N (Classical.choose h) (1,(V1 rs).lP N)).2) λ _=>V0
theorem akE(h:(pA S ds k n (1,(V1 rs).lP k)).2.least k=none):JY S ds k rs=(pA S ds k n (1,(V1 rs).lP k)).2:=by
 have he:∃n,(pA S ds k n (1,(V1 rs).lP k)).2.least k=none:=⟨n,h⟩;unfold JY;rw[OK he];have U:=HS he;rcases YM n (Classical.choose he)with q|q
 .rw[adZ h _ q]
 .rw[adZ U _ q]
theorem ai0{i:Nat}(h:V.least n=some i):i<n/\V.wait i=true/\∀k,k<i->V.wait k=false:=by
 unfold least at h;rw[List.find?_eq_some_iff_append]at h;have⟨O,l1,l2,U,F⟩:=h;have hl:l1.length<n:=by have:=iQ List.length U;simp at this;omega
 have A:i=l1.length:=by have:=iQ (λ l:AT=>l[l1.length]?) U;simp[hl]at this;exact this.symm
 refine⟨ω,O,λ k Q=>?_⟩;have dO:k∈l1:=by
  have:l1[k]' ω=k:=by have:=iQ (λ l:AT=>l[k]?) U;simp[jI (show k<l1.length by omega),show k<n by omega]at this;rw[bf ω]at this;simpa using this.symm
  rw[<-this];exact cG _
 have:=F k dO;simpa using this
structure uT(S:SI)(ds:List bH)(V:SV):Prop where
 ok:V.Ok S (S.vars+S.br)
 wt:V.fx (S.vars+S.br)
 rel:∀i,∀r∈V.aO i,uS S ds r
section
variable{S:SI}{ds:List bH}{V:SV}
theorem uT.fold(h:uT S ds V):uT S ds (V.lP (S.vars+S.br))/\mu (V.lP (S.vars+S.br)) (S.vars+S.br)<=mu V (S.vars+S.br):=
 let k:=abe h.ok
 ⟨⟨k.ok,k.wt h.wt,λ i r hr=>let⟨j,hj⟩:=k.rel i r hr;h.rel j r hj⟩,k.mu⟩
theorem uT.round(hS:oQ S ds)(h:uT S ds V){i:Nat}(A:V.wait i=true):uT S ds (V.round S ds i)/\mu (V.round S ds i) (S.vars+S.br)<mu V (S.vars+S.br):=
 let g:=Xf hS h.ok (h.rel i)
 ⟨⟨g.ok,g.wt h.wt.pop,λ k r hr=>h.rel k r (by rw[g.rel]at hr;exact hr)⟩,KL g.mu (ayM (h.wt i A).2 A)⟩
theorem uT.step{x:Int×SV}(hS:oQ S ds)(h:uT S ds x.2){i:Nat}(A:x.2.least (S.vars+S.br)=some i):uT S ds (vU S ds (S.vars+S.br) x).2/\mu (vU S ds (S.vars+S.br) x).2 (S.vars+S.br)<mu x.2 (S.vars+S.br):=by
 have⟨O,F⟩:=h.round hS (ai0 A).2.1;unfold vU;rw[A];dsimp only;split
 .exact⟨O.fold.1,KL O.fold.2 F⟩
 .exact⟨O,F⟩
theorem aEU(hS:oQ S ds):∀(m:Nat) (x:Int×SV),mu x.2 (S.vars+S.br)<=m->uT S ds x.2->∃n,(pA S ds (S.vars+S.br) n x).2.least (S.vars+S.br)=none/\uT S ds (pA S ds (S.vars+S.br) n x).2:=by
 have shift:∀n (x:Int×SV),pA S ds (S.vars+S.br) n (vU S ds (S.vars+S.br) x)=pA S ds (S.vars+S.br) (n+1) x:=by
  intro n;induction n with
  |zero=>intro x;rfl
  |succ n ih=>
   intro x
   show vU S ds _ (pA S ds _ n (vU S ds _ x))=vU S ds _ (pA S ds _ (n+1) x)
   rw[ih]
 intro m;induction m with
 |zero=>
  intro x B h
  cases hl:x.2.least (S.vars+S.br)with|none=>exact⟨0,hl,h⟩|some i=>have:=(h.step hS hl).2;omega
 |succ m ih=>
  intro x B h
  cases hl:x.2.least (S.vars+S.br)with
  |none=>exact⟨0,hl,h⟩
  |some i=>
   have⟨O,F⟩:=h.step hS hl
   have⟨n,n1,n2⟩:=ih _ ω O
   rw[shift]at n1 n2
   exact⟨n+1,n1,n2⟩
structure SA(S:SI)(ds:List bH)(r:bL):Prop where
 ok:uS S ds r
 a:r.kind=1\/r.kind=4\/r.kind=6->0<=r.aR
 b:r.kind=1->0<=r.aG/\r.aG<S.br+S.fns
 b2:r.aG<S.vars\/r.kind=1
 c:r.kind=2->0<=r.aR/\0<=r.aG
 b3:r.kind=3\/r.kind=5->0<=r.aG
 k:r.kind=1\/r.kind=2\/r.kind=3\/r.kind=4\/r.kind=5\/r.kind=6
theorem uT.aO(hS:oQ S ds)(h:uT S ds V){r:bL}(hr:SA S ds r):uT S ds (V.iN r):=by
 have hN:=hS.N;have iw:=hS.fns;have ha:=hr.ok.a;have key:∀k:Nat,uT S ds {V with aO:=aM V.aO k (V.aO k++[r])}:=λ k=>⟨⟨h.ok.lt,h.ok.id,h.ok.wd,h.ok.wt,h.ok.tn,h.ok.sn⟩,h.wt,λ i q hq=>by
  have mN:q∈aM V.aO k (V.aO k++[r]) i:=hq;unfold aM at mN;split at mN
  .rw[b_,jo]at mN;rcases mN with e|rfl
   .exact h.rel _ _ e
   .exact hr.ok
  .exact h.rel _ _ mN⟩
 have go:∀{V':SV},dq S (S.vars+S.br) V V'->uT S ds V':=λ g=>⟨g.ok,g.wt h.wt,λ i r hr=>h.rel i r (by rw[<-g.rel];exact hr)⟩;unfold iN;split
 .rename_i O;have hA:=hr.a (.inl O);have hB:=hr.b O;exact go (.take h.ok (.one ω) (λ x Z=>by rw[GU]at Z;simp at Z;omega) ω)
 .split
  .exact go (.bV h.ok ω ω)
  .split<;>exact key _
theorem solI0:uT S ds V0:=⟨⟨λ _ h=>h,λ _=>rfl,λ _=>.zero,λ _=>.zero,λ i k h=>by simp[V0,cC]at h,λ i k h=>by simp[V0,cC]at h⟩,λ i (h:false=true)=>(by cases h),λ i r h=>(by simp[V0]at h)⟩
theorem solI_all(hS:oQ S ds)(hr:∀r∈rs,SA S ds r):∀{V:SV},uT S ds V->uT S ds (rs.foldl iN V):=by induction rs with|nil=>exact id|cons r rs ih=>exactλ h=>ih (λ q hq=>hr q (by simp[hq])) (h.aO hS (hr r ζ))
theorem ad0(hS:oQ S ds)(hr:∀r∈rs,SA S ds r):(∃n,(pA S ds (S.vars+S.br) n (1,(V1 rs).lP (S.vars+S.br))).2.least (S.vars+S.br)=none)/\uT S ds (JY S ds (S.vars+S.br) rs):=by have⟨n,n1,n2⟩:=aEU hS _ (1,(V1 rs).lP (S.vars+S.br)) (Nat.le_refl _) (solI_all hS hr solI0).fold.1;exact⟨⟨n,n1⟩,by rw[akE n1];exact n2⟩
end
end SV
structure SF(HB K:D)(L:iq)(gv:J)(g:List (List Int))(s:eP):Prop where
 wk:∃aL,rF K L gv g.length s aL/\∀y∈aL,HB.ab<=y/\y∉L.ids
 ok:qh g.length (λ k=>(g[k]?.getD []).length) s []
 rows:GI 0 HB gv g
 base:I [] HB K
 lo:∀z∈L.ids,HB.ab<=z
 nd:L.ids.Nodup
 lim:g.length<=1048576
 ZO:∀l∈g,∀z∈l,0<=z/\z<g.length
structure SG(HB:D)(c:Nat)(L:iq)(gv:J)(g:List (List Int))(x:eP×List (Nat×Nat))(K:D):Prop where
 wk:∃aL cL,rF K L gv g.length x.1 aL/\uU K (c+2) x.2 cL/\(∀y∈aL,HB.ab<=y/\y∉L.ids++[c,c+2])/\(∀y∈cL,HB.ab<=y/\y∉L.ids++[c,c+2])/\∀y∈aL,y∉cL
 ok:qh g.length (λ k=>(g[k]?.getD []).length) x.1 x.2
 base:I [] HB K
 bx:Lv K c (.cells 1 (Tr.e.put 0 (some (.ptr L.w 0))) false)
def apw(h:SF H K L gv g s)(Q:k<g.length)(h0:s.wh k=0):CN 151 [.ptr L.w 0,ae k] K λ _ T=>SF H T L gv g (DK g s k):=by
 refine ba aq4 rfl λ Q' hQ=>?_
 obtain⟨aL,hW,hY⟩:=h.wk
 have mD:L.w<K.ab:=by obtain⟨t,u,l,_⟩:=hW.ob;exact l.lt
 simp
 generalize ed:D.put (D.add (D.add (D.add _ _) _) _) _ _=K1
 have g1:I [] K K1:=by rw[<-ed];exact(((aw.add _).add _).add _).put (.inl ω)
 have n1:K1.ab=K.ab+3:=by rw[<-ed];rfl
 have b1:Lv K1 K.ab (.cells 1 (Tr.e.put 0 (some (.ptr L.w 0))) false):=by rw[<-ed];refine⟨by simp[D.add];omega,?_⟩;simp
 have b2:uU K1 (K.ab+2) [] [K.ab+1]:=by rw[<-ed];refine⟨_,_,⟨by simp[D.add],by simp;rfl⟩,by simp;rfl,?_⟩;exact .own (n:=0) (ax:=0) (t:=Tr.e) ⟨by simp[D.add],ζ⟩ rfl (λ j hj=>ω) aF ζ (by unfold maxLen;omega)
 clear ed
 have kI:∀z∈L.ids,z<K.ab:=by
  intro z hz;obtain⟨⟨t,u,l,_⟩,a,b,c⟩:=hW;simp[iq.ids]at hz;rcases hz with rfl|rfl|rfl|rfl
  .exact mD
  .exact a.lt
  .exact b.lt
  .exact c.lt
 have sD:∀y∈aL,y<K.ab:=by obtain⟨⟨t,u,l,e⟩,_⟩:=hW;exact e.2.2.2.2.2.2.lt
 have hW1:=hW.W g1 ζ ζ
 have dN:(L.ids++[K.ab,K.ab+2]).Nodup:=by rw[zd];exact⟨h.nd,ζ,λ a ha b hb=>by have:=kI a ha;simp at hb;omega⟩
 have hwn:s.wait.length<=1048576:=aY (PL.Rk h.ok.nd λ x Z=>(h.ok.bg x Z).1) h.lim
 obtain⟨aaK,aIc,hcn⟩:=h.ok.nu Q h0
 have qP:=h.base.ab
 refine CW (agk hW1 b2 b1 ζ Q (by have:=h.lim;omega) hwn ζ dN (λ y G B=>?_) (λ y G B=>?_) (λ y G B=>?_)) ?_
 .rw[b_]at B
  rcases B with B|B
  .exact(hY y G).2 B
  .have:=sD y G;simp at B;omega
 .rw[b_]at B
  rcases B with B|B
  .have:=kI y B;simp at G;omega
  .simp at G B;omega
 .have:=sD y G;simp at B;omega
 rintro v1 K2 ⟨Y2,Z2,LU,EW,Gt,hZ2,hYZ,g2⟩
 have hJ0:SG H K.ab L gv g (s.nu k,[(k,0)]) K2:=by
  have ED:∀z,K.ab<=z->z∉L.ids:=λ z hz B=>by have:=kI z B;omega
  refine⟨⟨Y2,Z2,LU,EW,λ y G=>?_,λ y G=>?_,hYZ⟩,aaK,?_,b1.W g2 ?_⟩
  .rcases Gt y G with q|q
   .refine⟨(hY y q).1,λ B=>?_⟩;rw[b_]at B;rcases B with B|B
    .exact(hY y q).2 B
    .have:=sD y q;simp at B;omega
   .refine⟨ω,λ B=>?_⟩;rw[b_]at B;rcases B with B|B
    .exact ED y ω B
    .simp at B;omega
  .rcases hZ2 y G with q|q
   .simp at q;refine⟨ω,λ B=>?_⟩;rw[b_]at B;rcases B with B|B
    .exact ED y ω B
    .simp at B;omega
   .refine⟨ω,λ B=>?_⟩;rw[b_]at B;rcases B with B|B
    .exact ED y ω B
    .simp at B;omega
  .refine ke (h.base.trans g1) g2 λ y G=>?_;simp only[b_,jo]at G;rcases G with((G|G)|G)|G
   .exact h.lo y G
   .omega
   .exact(hY y G).1
   .omega
  .intro B;simp only[b_,jo]at B;rcases B with((G|G)|G)|G
   .exact ED _ aF G
   .omega
   .have:=sD _ G;omega
   .omega
 simp
 refine bu (α:=eP×List (Nat×Nat)) (aJ:=λ x sl T=>SG H K.ab L gv g x T/\(∃m,xc g m (s.nu k,[(k,0)])=x)/\AV sl 2 (.ptr K.ab 0)/\AV sl 4 (.ptr (K.ab+2) 0)/\AV sl 5 (.fn (.func 180) [] [.ptr K.ab 0,.ptr (K.ab+2) 0])) (mu:=λ x=>s_ g.length (λ k=>(g[k]?.getD []).length) x.1 x.2) ?_ (s.nu k,[(k,0)]) _ _ ?ini
 case ini=>exact⟨hJ0,⟨0,rfl⟩,ζ⟩
 rintro bb kk-Mh ⟨s',bT⟩ sl T ⟨hJ,⟨mm,AZ⟩,s2,s4,s5⟩ ih
 obtain⟨⟨Y3,Z3,LV,Vw,Eh,UG,auc⟩,zK,UH,GA⟩:=hJ
 dsimp only at LV Vw zK
 rcases SS bT with rfl|⟨l,q,rfl⟩
 .obtain⟨tw,uw,lw,ew,hZo⟩:=Vw
  have sH:aN E0 250 uw T=val (ae 0) T:=by
   cases hZo with
   |nil=>rw[Ba Fy];rfl
   |@own id n ax ex t _ a1 a2=>
    have h9:n=0:=by simp[tT]at a2;omega
    subst h9
    rw[de Fy];rfl
  simp[s4,lw.get,ew,sH,Mh];have pd:=aGG (g:=g) (s:=s) (k:=k) (n:=mm) (by rw[AZ]);rw[AZ]at pd;rw[pd]at hQ;exact hQ ⟨⟨Y3,LV,λ y G=>⟨(Eh y G).1,λ B=>(Eh y G).2 (zb _ B)⟩⟩,zK,h.rows,UH,h.lo,h.nd,h.lim,h.ZO⟩
 .obtain⟨i,e⟩:=q
  simp only[YC]at Vw zK AZ ih;have eH:=aGH zK h.ZO;have mD:=aeo (g:=g) (s:=s') (l:=l) (i:=i) (e:=e);have eT:∀(bz:CX) (K5:D),SG H K.ab L gv g (Aj g (s',l++[(i,e)])) K5->bz.get 2=some (.ptr K.ab 0)->bz.get 4=some (.ptr (K.ab+2) 0)->bz.get 5=some (.fn (.func 180) [] [.ptr K.ab 0,.ptr (K.ab+2) 0])->aD E0 (.code (.loop bb)::kk) ⟨bz,_,_,_,_⟩ K5 _:=λ bz K5 p1 p2 p3 p4=>ih _ bz K5 eH.2 ⟨p1,⟨mm+1,by show Aj g (xc g mm _)=_;rw[AZ]⟩,p2,p3,p4⟩;clear ih;obtain⟨zL,-⟩:=eH;have aun:K.ab+2∉Z3:=λ B=>(UG _ B).2 ζ;obtain⟨tw,ic,kc,AI,tz,rfl,lw,ew,lz,UM,ahv,r0,r1,Jo,ahn,avX⟩:=Vw.last aun;have A:i<g.length:=zK.last;obtain⟨idg,aIO,aHb,exg,ng,tg,rog,ug,zH,lg,Mj,Mw,hNI,-⟩:=(h.rows.ai UH).row A;have Vb:=hNI.sl.aN bK;have atY:=LV;obtain⟨⟨tW,uW,lW,z0,z1,z2,z3,z4,z5,hu⟩,⟨ta,la,ea⟩,⟨tb,lb,eb⟩,⟨tc,lc,ec⟩⟩:=atY;have sJ:uF g i=g[i].length:=by simp[uF,bf A]
  have wl:IntKind.wrap .i64 (l.length:Int)=(l.length:Int):=fQ ω (by unfold maxLen at ahv;omega);have og:l.length*2<kc*2:=ω
  have k8:l.length*2+1<kc*2:=ω
  have Ej:l.length*2+1+1<=kc*2:=ω
  have Qd:∀y∈Y3,y∉L.ids:=λ y G B=>(Eh y G).2 (zb _ B);have Ve:∀z∈L.ids++[K.ab,K.ab+2],z<T.ab:=by
   intro z hz;simp[iq.ids]at hz;rcases hz with rfl|rfl|rfl|rfl|rfl|rfl
   .exact lW.lt
   .exact la.lt
   .exact lb.lt
   .exact lc.lt
   .exact GA.lt
   .exact lw.lt
  have avr:∀z∈L.ids++[K.ab,K.ab+2],H.ab<=z:=by
   intro z hz;rw[b_]at hz;rcases hz with hz|hz
   .exact h.lo z hz
   .have:=h.base.ab;simp at hz;omega
  have aah:=UG ic ζ;have Lg:ic∉L.ids++[K.ab,K.ab+2]:=aah.2;have Iv:(L.ids++[K.ab,K.ab+2]).Nodup:=dN;have dM2:(L.ids++[K.ab,K.ab+2]).reverse.Nodup:=S_.2 (Iv.imp λ h=>qj h);have TB:∀y∈Y3,y∉L.ids++[K.ab,K.ab+2]:=λ y G=>(Eh y G).2;have I0:ic∉Y3:=λ B=>auc _ B ζ;have hJ:∀(x:eP×List (Nat×Nat)) (K5:D) (Y5 Z5:AT),qh g.length (uF g) x.1 x.2->rF K5 L gv g.length x.1 Y5->uU K5 (K.ab+2) x.2 Z5->(∀y∈Y5,y∈Y3\/T.ab<=y)->(∀y∈Z5,y=ic\/T.ab<=y)->(∀y∈Y5,y∉Z5)->I (L.ids++[K.ab+2]++Y3++[ic]) T K5->SG H K.ab L gv g x K5:=by
   intro x K5 Y5 Z5 p1 p2 p3 p4 p5 p6 p7;have hHK:=UH.ab;refine⟨⟨Y5,Z5,p2,p3,λ y G=>?_,λ y G=>?_,p6⟩,p1,ke UH p7 λ y G=>?_,GA.W p7 λ B=>?_⟩
   .rcases p4 y G with q|q
    .exact Eh y q
    .exact⟨ω,λ B=>by have:=Ve y B;omega⟩
   .rcases p5 y G with rfl|q
    .exact aah
    .exact⟨ω,λ B=>by have:=Ve y B;omega⟩
   .simp only[b_,jo]at G;rcases G with((G|G)|G)|G
    .exact h.lo y G
    .exact avr y (by simp[G])
    .exact(Eh y G).1
    .rw[G];exact aah.1
   .simp only[b_,jo]at B;rcases B with((B|B)|B)|B
    .rw[zd]at Iv;exact Iv.2.2 _ B _ ζ rfl
    .omega
    .exact TB _ B ζ
    .exact Lg (by rw[<-B];simp)
  have dN3:=Iv;have BX:=dM2;have Ld:=Lg;have Lf:∀z∈L.ids++[K.ab,K.ab+2],¬z=ic:=λ z hz h=>Lg (by rw[<-h];exact hz);have dY3:=TB;simp[iq.ids]at dN3 BX Ld Lf dY3;by_cases he:e<g[i].length
  .obtain⟨ide,aIN,aHa,exe,ne,te,roe,rfl,le,aU,Jg,-⟩:=hNI.num he;have o8:=h.ZO g[i] (cG A) g[i][e] (cG he);obtain⟨kn,eO⟩:∃n:Nat,g[i][e]=(n:Int):=⟨g[i][e].toNat,ω⟩;rw[eO]at Jg;have kJ:kn<g.length:=ω
   have Mh:((g[i]?.getD [])[e]?.getD 0).toNat=kn:=by simp[bf A,bf he,eO]
   rw[Mh,aq (by rw[sJ];exact he)]at mD;rw[mD]at zL eT;have hem:e<maxLen:=by have:=hNI.sl.cP;omega
   have we:=bq hem;have auj:=(zK.adv (by show e<uF g i;rw[sJ];exact he)).1;by_cases h0:s'.wh kn=0
   .rw[aq h0]at zL eT;simp[s2,s4,s5,lw.get,ew,de Fy,wl,lz.get,r0,r1,og,k8,Ej,GA.get,lW.get,z0,z1,zH,lg.get,Mj,A,Mw,Vb,he,le.get,aU,Jg,we,Lf,la.get,ea kn kJ,kJ,h0];generalize pL:D.put T ic _=K4;have g4:I [ic] T K4:=by rw[<-pL];exact aw.put (.inr ζ)
    have lz4:Lv K4 ic (.cells (kc*2) (tz.put (l.length*2+1) (some (ae ((e+1:Nat):Int)))) false):=by rw[<-pL];exact lz.put_eq
    have n4:K4.ab=T.ab:=by rw[<-pL];rfl
    clear pL;have QO:=ahn K4 g4 lz4;have P_:=LV.W g4 (λ y G=>by simp;exactλ h=>Lg (by rw[<-h];exact zb _ G)) (λ y G=>by simp;exactλ h=>I0 (by rw[<-h];exact G));have auu:=GA.W g4 (by simp[Lf]);obtain⟨auq,-,hcn⟩:=auj.nu kJ h0;have aIv:s'.wait.length<=g.length:=PL.Rk zK.nd λ x Z=>(zK.bg x Z).1;have oh:=zK.sub.length_le;rw[bW]at oh;have aH1:=h.lim;refine CW (agk P_ QO auu ζ kJ ω ω (by simp at oh⊢;omega) Iv TB (λ y G=>by simp at G;rw[G];exact Lg) (λ y G=>by simp;exactλ h=>I0 (by rw[<-h];exact G))) ?_;rintro v5 K5 ⟨Y5,Z5,IY,hw5,LY,hZ5,aud,g5⟩;simp;refine eT _ K5 (hJ _ K5 Y5 Z5 auq IY hw5 (λ y G=>?_) (λ y G=>?_) aud ?_) (by simp[s2]) (by simp[s4]) (by simp[s5])
    .rcases LY y G with q|q
     .exact .inl q
     .exact .inr ω
    .rcases hZ5 y G with q|q
     .exact .inl (by simpa using q)
     .exact .inr ω
    .exact(g4.mono ζ).trans (g5.mono λ x Z=>by simp at Z⊢;omega)
   .rw[ao h0]at zL eT;have Mf:i+1<=g.length:=A;have aaS:∀K4,K4=D.put T ic (some (.cells (kc*2) (tz.put (l.length*2+1) (some (ae ((e:Int)+1)))) false))->I [ic] T K4/\uU K4 (K.ab+2) (l++[(i,e+1)]) [ic]/\rF K4 L gv g.length s' Y3/\Lv K4 L.aG (.cells g.length tb false)/\K4.ab=T.ab:=by rintro K4 rfl;have g4:I [ic] T (D.put T ic (some (.cells (kc*2) (tz.put (l.length*2+1) (some (ae ((e:Int)+1)))) false))):=aw.put (.inr ζ);refine⟨g4,ahn _ g4 ?_,LV.W g4 (λ y G=>by simp;exactλ h=>Lg (by rw[<-h];exact zb _ G)) (λ y G=>by simp;exactλ h=>I0 (by rw[<-h];exact G)),lb.W g4 (by simp[Lf]),rfl⟩;have:Lv (D.put T ic (some (.cells (kc*2) (tz.put (l.length*2+1) (some (ae ((e:Int)+1)))) false))) ic (.cells (kc*2) (tz.put (l.length*2+1) (some (ae ((e:Int)+1)))) false):=lz.put_eq;simpa using this
    by_cases C9:s'.cm kn<0
    .rw[aq C9]at zL eT;have aaF:(if s'.wh kn<s'.lo i then s'.wh kn else s'.lo i)=min (s'.lo i) (s'.wh kn):=by rw[Int.min_def];split<;>split<;>omega
     simp[s2,s4,lw.get,ew,de Fy,wl,lz.get,r0,r1,og,k8,Ej,GA.get,lW.get,z0,z1,z2,z4,zH,lg.get,Mj,A,Mf,Mw,Vb,he,le.get,aU,Jg,we,Lf,la.get,ea kn kJ,lb.get,eb i A,lc.get,ec kn kJ,kJ,h0,C9];try (refine dF (by simp[dA,dm]) ?_)
     try simp
     generalize pL:D.put T ic _=K4;obtain⟨g4,QO,P_,Dk,n4⟩:=aaS K4 pL.symm;clear pL aaS;obtain⟨IY,g5⟩:=P_.Bc h.nd Qd Dk eb i (min (s'.lo i) (s'.wh kn));rw[aaF];have hYB:∀y∈[ic],y∉[L.aG]:=λ y G=>by simp at G;rw[G];simp[Ld]
     have hw5:uU (K4.put L.aG (some (.cells g.length (tb.put i (some (ae (min (s'.lo i) (s'.wh kn))))) false))) (K.ab+2) (l++[(i,e+1)]) [ic]:=by obtain⟨t,u,q1,q2,q3⟩:=QO;exact⟨t,u,q1.W g5 (by simp[BX]),q2,q3.W g5 hYB⟩
     refine eT _ _ (hJ _ _ Y3 [ic] zL IY hw5 (λ y G=>.inl G) (λ y G=>.inl (by simpa using G)) (λ y G=>by simp;exactλ h=>I0 (by rw[<-h];exact G)) ((g4.mono ζ).trans (g5.mono (by simp[iq.ids])))) (by simp[s2]) (by simp[s4]) (by simp[s5])
    .rw[ao C9]at zL eT;simp[s2,s4,lw.get,ew,de Fy,wl,lz.get,r0,r1,og,k8,Ej,GA.get,lW.get,z0,z1,z4,zH,lg.get,Mj,A,Mw,Vb,he,le.get,aU,Jg,we,Lf,la.get,ea kn kJ,lc.get,ec kn kJ,kJ,h0,C9];generalize pL:D.put T ic _=K4;obtain⟨g4,QO,P_,Dk,n4⟩:=aaS K4 pL.symm;exact eT _ _ (hJ _ _ Y3 [ic] zL P_ QO (λ y G=>.inl G) (λ y G=>.inl (by simpa using G)) (λ y G=>by simp;exactλ h=>I0 (by rw[<-h];exact G)) (g4.mono ζ)) (by simp[s2]) (by simp[s4]) (by simp[s5])
  .rw[ao (by rw[sJ];exact he)]at mD;have Mf:i+1<=g.length:=A;have ahu:l.length<=kc:=ω
   have cT:l.length<=l.length+1:=ω
   obtain⟨cb,aaC⟩:∃cb:Bool,decide (0<l.length)=cb:=⟨_,rfl⟩;simp[s2,s4,lw.get,ew,de Fy,wl,lz.get,r0,r1,og,k8,GA.get,lW.get,z0,zH,lg.get,Mj,A,Mw,Vb,he,ahu,rU (show 0<kc by omega),aaC];generalize dU:D.put T (K.ab+2) _=Ka;have ga:I [K.ab+2] T Ka:=by rw[<-dU];exact aw.put (.inr ζ)
   have lwa:Lv Ka (K.ab+2) (.cells 1 (tw.put 0 (some (.sl ic 0 2 l.length kc AI))) false):=by rw[<-dU];exact lw.put_eq
   have na:Ka.ab=T.ab:=by rw[<-dU];rfl
   clear dU;have hwa:=avX Ka ga lwa;have dI:∀y∈L.ids,y∉[K.ab+2]:=λ y G B=>by simp only[jo]at B;rw[zd]at Iv;exact Iv.2.2 _ G _ (by simp[B]) rfl
   have hWa:=LV.W ga dI (λ y G B=>TB y G (by simp at B;simp[B]));have lza:=lz.W ga (by simp[Ld]);have ahs:=GA.W ga ζ;refine aes (λ Y Kb=>∃sl,Y=⟨sl,188,[],none,151⟩/\rF Kb L gv g.length (s'.mn l i) Y3/\I [L.aG] Ka Kb/\AV sl 2 (.ptr K.ab 0)/\AV sl 4 (.ptr (K.ab+2) 0)/\AV sl 5 (.fn (.func 180) [] [.ptr K.ab 0,.ptr (K.ab+2) 0])/\AV sl 7 (ae (i:Nat))) ?_ ?_
   .intro Q2 wz;have atZ:=hWa;obtain⟨⟨tV,uV,lV,y0,y1,y2,y3,y4,y5,hv⟩,-,⟨tb2,lb2,ZK⟩,-⟩:=atZ;cases hq:l.getLast? with
    |none=>
     have sH:l=[]:=List.getLast?_eq_none_iff.1 hq
     have hcb:cb=false:=by rw[<-aaC,sH];rfl
     subst hcb
     simp
     refine wz _ _ ⟨_,rfl,?_,aw,by simp[s2],by simp[s4],by simp[s5],ζ⟩
     have:s'.mn l i=s':=by unfold eP.mn;rw[hq]
     rw[this];exact hWa
    |some q=>
     obtain⟨sH,aaW⟩:=Jo q hq
     have hcb:cb=true:=by rw[<-aaC];simpa using sH
     subst hcb
     have Mv:q.1<g.length:=(zK.bg q.1 (zK.sub.subset (jn.2 ⟨q,zb _ (KH hq),rfl⟩))).1
     obtain⟨lm,Jc⟩:∃m,l.length=m+1:=⟨l.length-1,ω⟩
     rw[Jc]at aaW lwa
     simp only[afk]at aaW
     have wl2:IntKind.wrap .i64 (lm:Int)=(lm:Int):=fQ ω (by unfold maxLen at ahv;omega)
     have C8:lm*2<kc*2:=ω
     have UL:q.1+1<=g.length:=Mv
     have aaF:(if s'.lo i<s'.lo q.1 then s'.lo i else s'.lo q.1)=min (s'.lo q.1) (s'.lo i):=by rw[Int.min_def];split<;>split<;>omega
     simp[s2,s4,lwa.get,de Fy,wl2,lza.get,aaW,C8,UL,ahs.get,lV.get,y2,lb2.get,ZK q.1 Mv,ZK i A,Mv,A,aaF]
     obtain⟨UE,gl⟩:=hWa.Bc h.nd Qd lb2 ZK q.1 (min (s'.lo q.1) (s'.lo i))
     have ye:s'.mn l i={s' with lo:=aM s'.lo q.1 (min (s'.lo q.1) (s'.lo i))}:=by unfold eP.mn;rw[hq]
     exact wz _ _ ⟨_,rfl,by rw[ye];exact UE,gl,by simp[s2],by simp[s4],by simp[s5],ζ⟩
   .rintro _ Kb ⟨Hn,rfl,UD,gb,t2,t4,t5,t7⟩;obtain⟨m1,m2,m3,m4⟩:=s'.abv l i;obtain⟨avP,-⟩:=zK.same (s':=s'.mn l i) m1 m2 m3;obtain⟨ah9,-,wa,wb,A6,ahM,avO⟩:=avP.pop;have aal:=eP.af8 A6 ahM;generalize s'.mn l i=s1 at UD mD ah9 avO A6 aal;have at0:=UD;obtain⟨⟨tX,uX,lX,x0,x1,x2,x3,x4,x5,Z⟩,⟨ta3,Jz,ea3⟩,⟨tb3,Nc,eb3⟩,⟨tc3,lc3,ec3⟩⟩:=at0;have UK:=ahs.W gb (by simp[BX]);have hwb:uU Kb (K.ab+2) l [ic]:=by obtain⟨t,u,q1,q2,q3⟩:=hwa;exact⟨t,u,q1.W gb (by simp[BX]),q2,q3.W gb (λ y G=>by simp at G;rw[G];simp[Ld])⟩
    have Eb:I (L.ids++[K.ab+2]++Y3++[ic]) T Kb:=(ga.mono ζ).trans (gb.mono (by simp[iq.ids]));by_cases UN:s1.lo i=s1.wh i
    .rw[mD,aq UN,aal]at zL eT;simp[t2,t7,UK.get,lX.get,x1,x2,x3,A,Jz.get,ea3 i A,Nc.get,eb3 i A,UN];refine CW (awL (i:Int) Z.aZ (λ _ _ h=>h)) ?_;rintro _ K9 ⟨rfl,LI⟩;obtain rfl:Kb=K9:=LI.symm;have au4:idxOf (λ x=>decide ((i:Int)=x)) (iY s1.wait)=(wa.length:Nat):=by
      refine MV (by rw[bW,A6];simp) (by simp[A6]) λ j hj Ey=>?_;have:(iY s1.wait)[j]=((wa[j]:Nat):Int):=by rw[BO];congr 1;simp only[A6];exact HW Ey
      rw[this,OJ];intro hc;have:i=wa[j]:=ω
      exact ahM (by rw[this];exact cG _)
     rw[au4];obtain⟨idx,Zt,exx,tx,rfl,rfl,lx,ex,UP,aHI,aHG⟩:=Z.uC (by simp[A6];omega);have aa0:(aZ (iY s1.wait)).length=wa.length+(i::wb).length:=by simp[A6]
     rw[aa0]at UP x3 ex;have aiq:wa.length+(i::wb).length-wa.length=(i::wb).length:=ω
     have aiA:wa.length<=wa.length+(i::wb).length:=ω
     have ahz:0<Zt-wa.length:=by simp at UP⊢;omega
     have hML:(i::wb).length<=maxLen:=ω
     have hMx:∀j (hj:j<(i::wb).length),tx.get (wa.length+j)=some (ae ((i::wb)[j]:Nat))/\(i::wb)[j]<g.length:=by
      intro j hj;constructor
      .rw[ex _ ω];have:s1.wait[wa.length+j]?=some (i::wb)[j]:=by rw[A6,mi ω,YL,bf hj]
       simp[this]
      .exact(ah9.bg _ (by rw[A6];exact S3 _ (cG hj))).1
     generalize hM:i::wb=aD at UP x3 ex aiq aiA hML hMx aa0 aal zL eT;have hMi:0<aD.length:=by rw[<-hM];simp
     simp[t2,UK.get,lX.get,x3,aiq,aiA,UP,rU ahz,de bK];refine bu (α:=Nat) (aJ:=λ j sl K2=>rF K2 L gv g.length {s1 with cm:=λ k=>if k∈aD.take j then(i:Int)else s1.cm k} [idx]/\I [L.C] Kb K2/\j<=aD.length/\AV sl 2 (.ptr K.ab 0)/\AV sl 4 (.ptr (K.ab+2) 0)/\AV sl 5 (.fn (.func 180) [] [.ptr K.ab 0,.ptr (K.ab+2) 0])/\AV sl 7 (ae (i:Nat))/\AV sl 10 (ae (wa.length:Nat))/\AV sl 165 (.sl idx wa.length 1 aD.length (Zt-wa.length) exx)/\AV sl 166 (ae (aD.length:Nat))/\AV sl 167 (ae (j:Nat))) (mu:=λ j=>aD.length-j) ?_ 0 _ _ ?ini2;case ini2=>exact⟨by simpa using UD,aw,dQ _,by simp[t2,t4,t5,t7]⟩
     rintro b3 k3-jU j sl3 K2 ⟨LU,IH,hj,q2,q4,q5,q7,bo,NF,adB,aj0⟩ eJ;have atX:=LU;obtain⟨⟨tX2,uX2,lX2,x02,x12,x22,x32,x42,x52,MM⟩,-,-,⟨tc2,lc2,ec2⟩⟩:=atX;have aak:=UK.W IH (by simp[BX]);have hYC:∀y∈[idx],y∉[L.C]:=λ y G=>by simp at G;rw[G];have:=Qd idx ζ;simp[iq.ids]at this;simp[this]
     have lx2:=lx.W IH (hYC idx ζ);by_cases bB:j<aD.length
     .obtain⟨mx,mlt⟩:=hMx j bB;have Qk:wa.length+j<Zt:=ω
      have ayE:aD[j]+1<=g.length:=mlt;have ix:j<maxLen:=ω
      simp[q2,q7,NF,adB,aj0,bB,lx2.get,mx,Qk,aak.get,lX2.get,x42,mlt,ayE,lc2.get,bq ix];obtain⟨IY,g5⟩:=LU.cm' h.nd Qd lc2 ec2 aD[j] (i:Int);refine eJ (j+1) _ _ ω ⟨?_,IH.trans g5,bB,by simp[q2,q4,q5,q7,bo,NF,adB]⟩;have e:(λ k=>if k∈aD.take (j+1)then(i:Int)else s1.cm k)=aM (λ k=>if k∈aD.take j then(i:Int)else s1.cm k) aD[j] (i:Int):=by
       funext k;unfold aM;rw[KK bB];by_cases ek:k=aD[j]
       .have B:aD[j]∈aD.take j++[aD[j]]:=S3 _ (jo.2 rfl);rw[aq ek,aq (by rw[ek];exact B)]
       .rw[ao ek];have:(k∈aD.take j++[aD[j]])↔k∈aD.take j:=by rw[b_,jo];exact⟨λ h=>h.resolve_right ek,.inl⟩
        simp only[this]
      rw[e];exact IY
     .obtain rfl:j=aD.length:=ω
      subst jU;rw[iF]at LU;obtain⟨aa1,Zu,aqc,tx2,rfl,kI,lx3,wv,auJ,auQ,auK⟩:=MM.uC (by simp[A6];omega);obtain rfl:idx=aa1:=by simpa using kI
      rw[aa0]at auJ x32 wv;have aiz:wa.length<=Zu:=ω
      simp[q2,bo,adB,aj0,aak.get,lX2.get,x32,aiz,rU (show 0<Zu by omega)];obtain⟨-,⟨ta4,la4,ea4⟩,⟨tb4,Dk,eb4⟩,⟨tc4,lc4,ec4⟩⟩:=LU;generalize qK:D.put K2 L.w _=K5;have g5:I [L.w] K2 K5:=by rw[<-qK];exact aw.put (.inr ζ)
      have lX5:Lv K5 L.w (.cells 6 (tX2.put 3 (some (.sl idx 0 1 wa.length Zu aqc))) false):=by rw[<-qK];exact lX2.put_eq
      clear qK;have hYw:idx≠L.w:=by have:=Qd idx ζ;simp[iq.ids]at this;exact this.1
      have IY:rF K5 L gv g.length {s1 with cm:=λ k=>if k∈aD then(i:Int)else s1.cm k,wait:=wa} [idx]:=by refine⟨⟨_,_,lX5,by simp[x02],by simp[x12],by simp[x22],by simp;rfl,by simp[x42],by simp[x52],?_⟩,⟨ta4,la4.W g5 (by simp[BX]),ea4⟩,⟨tb4,Dk.W g5 (by simp[BX]),eb4⟩,⟨tc4,lc4.W g5 (by simp[BX]),ec4⟩⟩;refine .kq (lx3.W g5 (by simp[hYw])) ζ (λ j hj=>?_) aiz auQ auK;rw[wv j ω,A6];show(List.map _ (List.map _ (wa++i::wb)))[j]?=_;rw[lF,lF,jI (by simpa using hj)]
      have aww:uU K5 (K.ab+2) l [ic]:=by obtain⟨t,u,r1,r2,r3⟩:=hwb;have gg:=IH.trans (I.refl [L.C] K2);exact⟨t,u,(r1.W IH (by simp[BX])).W g5 (by simp[BX]),r2,(r3.W IH (λ y G=>by simp at G;rw[G];simp[Ld])).W g5 (λ y G=>by simp at G;rw[G];simp[Ld])⟩
      exact eT _ _ (hJ _ _ [idx] [ic] zL IY aww (λ y G=>.inl G) (λ y G=>.inl (by simpa using G)) (λ y G=>by simp at G;rw[G];simpa usingλ h=>I0 (by simp[h])) (Eb.trans ((IH.mono (by simp[iq.ids])).trans (g5.mono (by simp[iq.ids]))))) (by simp[q2]) (by simp[q4]) (by simp[q5])
    .rw[mD,ao UN]at zL eT;simp[t2,t7,UK.get,lX.get,x1,x2,A,Jz.get,ea3 i A,Nc.get,eb3 i A,UN];exact eT _ _ (hJ _ _ Y3 [ic] zL UD hwb (λ y G=>.inl G) (λ y G=>.inl (by simpa using G)) (λ y G=>by simp;exactλ h=>I0 (by rw[<-h];exact G)) Eb) (by simp[t2]) (by simp[t4]) (by simp[t5])
theorem alv:∀n,xb (λ _=>1) (λ _=>0) n=n
 |0=>rfl|n+1=>by simp[xb,alv n]
def alN:ru g (i+1)=if(ru g i).wh i=0 then DK g (ru g i) i else ru g i:=by
 show @ite _ _ (Classical.propDecidable _) _ _=_;by_cases e:(ru g i).wh i=0
 .rw[aq e,aq e]
 .rw[ao e,ao e]
def azy:(gC g).length=g.length:=by simp[gC]
def aoY(hg:GI 0 H v g)(hn:g.length<=1048576)(hr:∀l∈g,l.length<=1099511627776):CN 111 [v] H λ u K=>(∃aL,aX K 1 u (aZ (iY (Pa g))) aL/\∀y∈aL,H.ab<=y)/\I [] H K:=by
 refine ba aqA rfl λ Q' hQ=>?_
 simp
 refine CW (abB hg hn hr) ?_
 rintro gv K1 ⟨hG,g1⟩
 have LG:=azy (g:=g)
 have o8:∀l∈gC g,∀z∈l,0<=z/\z<(gC g).length:=by intro l hl z hz;obtain⟨i,A,rfl⟩:=rJ hl;rw[LG];exact abA A hz
 have bR:g.length*8<=140737488355328:=ω
 have eG:g.length<=9223372036854775807:=ω
 have fo:8*g.length<=140737488355328:=ω
 simp[hG.sl.cell,hG.sl.co]
 generalize kO:D.add K1 _=K2
 have g2:I [] K1 K2:=by rw[<-kO];exact aw.add _
 have n2:K2.ab=K1.ab+1:=by rw[<-kO];rfl
 have lw:∃t0,Lv K2 K1.ab (.cells 6 t0 false)/\AV t0 0 gv/\AV t0 3 (.lit (.slice none 0 0))/\AV t0 5 (ae 0):=by rw[<-kO];exact⟨_,Lv.new,ζ⟩
 clear kO
 obtain⟨t0,lw,w0,w3,w5⟩:=lw
 have hG2:=hG.ai g2
 have ud:=azw hG2
 rw[LG]at ud
 simp[cE ud,eG,fo,wX]
 generalize dw:D.add (D.add (D.add K2 _) _) _=K3
 have g3:I [] K2 K3:=by rw[<-dw];exact((aw.add _).add _).add _
 have n3:K3.ab=K2.ab+3:=by rw[<-dw];rfl
 have lA:Lv K3 K2.ab (.cells g.length (Tr.px [ae 0] 1 g.length 0 Tr.e) false):=by rw[<-dw];exact(Lv.new.add).add
 have lB:Lv K3 (K2.ab+1) (.cells g.length (Tr.px [ae 0] 1 g.length 0 Tr.e) false):=by rw[<-dw];exact(Lv.new (H:=K2.add _)).add
 have lM:∃tm,Lv K3 (K2.ab+1+1) (.cells 1 tm false)/\tm.get 0=some (ae (-1)):=by rw[<-dw];exact⟨_,Lv.new (H:=(K2.add _).add _),ζ⟩
 clear dw
 obtain⟨tm,lM,em⟩:=lM
 refine CW (aj8 lM em hn) ?_
 rintro _ K4 ⟨rfl,hC,g4⟩
 have Q_:=(lw.ai g3).ai g4
 simp[Q_.get]
 try (refine dF (by simp[dA,dm]) ?_)
 try simp[Q_.get]
 generalize qK:D.put (D.put (D.put K4 _ _) _ _) _ _=K5
 have g5:I [K1.ab] K4 K5:=by rw[<-qK];exact((aw.put (.inr ζ)).put (.inr ζ)).put (.inr ζ)
 have lw5:∃t,Lv K5 K1.ab (.cells 6 t false)/\AV t 0 gv/\AV t 1 (.sl K2.ab 0 1 g.length g.length true)/\AV t 2 (.sl (K2.ab+1) 0 1 g.length g.length true)/\AV t 3 (.lit (.slice none 0 0))/\AV t 4 (.sl K3.ab 0 1 g.length g.length true)/\AV t 5 (ae 0):=by rw[<-qK];exact⟨_,⟨Q_.lt,by simp;rfl⟩,by simp[w0,w3,w5]⟩
 clear qK
 obtain⟨t5,lw5,a0,a1,a2,a3,a4,a5⟩:=lw5
 have m2:=g3.ab
 have avx:=lw.lt
 generalize hL:(⟨K1.ab,K2.ab,K2.ab+1,K3.ab⟩:iq)=L
 have kI:L.ids=[K1.ab,K2.ab,K2.ab+1,K3.ab]:=by rw[<-hL];rfl
 have hI0:SF K1 K5 L gv (gC g) J_:=by
  refine⟨⟨[],?_,ζ⟩,⟨by simp[J_],ζ,by simp[J_],ζ,?_⟩,?_,?_,?_,?_,by rw[LG];exact hn,o8⟩
  .rw[LG,<-hL];refine⟨⟨t5,_,lw5,a0,a1,a2,a3,a4,by simpa[J_]using a5,by simpa[J_]using aX.nil⟩,?_,?_,?_⟩
   .refine⟨_,((lA.ai g4).W g5 ξ),λ x Z=>?_⟩;rw[Bp,aq ω];rfl
   .refine⟨_,((lB.ai g4).W g5 ξ),λ x Z=>?_⟩;rw[Bp,aq ω];rfl
   .cases hC with
    |@own _ _ _ _ tC _ c1 c2 c3 c4 c5 c6=>
     refine⟨tC,by simpa using c1.W g5 ξ,λ x Z=>?_⟩
     rw[c3 x ω]
     simp[Z,J_]
  .show 0+xb (λ _=>1) (λ _=>0) (gC g).length=_;rw[alv];omega
  .exact hG.mono (dQ _)
  .exact ke (g2.trans (g3.trans g4)) g5 ζ
  .rw[kI];simp;omega
  .rw[kI];simp;omega
 have hLw:K1.ab=L.w:=by rw[<-hL]
 rw[hLw]at*
 refine bu (α:=Nat) (aJ:=λ j sl K=>SF K1 K L gv (gC g) (ru (gC g) j)/\j<=g.length/\AV sl 3 (.ptr L.w 0)/\AV sl 4 (ae (g.length:Nat))/\AV sl 37 (ae (g.length:Nat))/\AV sl 38 (ae (j:Nat))) (mu:=λ j=>g.length-j) ?_ 0 _ _ ?ini
 case ini=>exact⟨hI0,dQ _,ζ⟩
 rintro b1 k1-cq j sl K ⟨hI,hj,s3,s4,lN,rZ⟩ ih
 obtain⟨aL,hW,hY⟩:=hI.wk
 have hW':=hW
 obtain⟨⟨tX,uX,lX,x0,x1,x2,x3,x4,x5,Z⟩,⟨ta,la,ea⟩,⟨tb,lb,eb⟩,⟨tc,lc,ec⟩⟩:=hW'
 rw[LG]at x1 x2 x4 la lb lc ea eb ec
 by_cases bB:j<g.length
 .have ix:j<maxLen:=by unfold maxLen;omega
  by_cases h0:(ru (gC g) j).wh j=0
  .simp[s3,lN,rZ,bB,lX.get,x1,la.get,ea j bB,h0];refine CW (apw hI (by rw[LG];exact bB) h0) ?_;intro v6 K6 hI6;simp[rZ,bq ix];refine ih (j+1) _ _ ω ⟨by rw[alN,aq h0];exact hI6,bB,by simp[s3,s4,lN]⟩
  .simp[s3,lN,rZ,bB,lX.get,x1,la.get,ea j bB,h0,bq ix];exact ih (j+1) _ _ ω ⟨by rw[alN,ao h0];exact hI,bB,by simp[s3,s4,lN]⟩
 .obtain rfl:j=g.length:=ω
  subst cq;have aaH:¬L.w=K.ab:=bC lX.lt;have aaI:¬L.w=K.ab+1:=λ h=>by have:=lX.lt;omega
  simp[s3,s4,lN,rZ,eG,fo,wX,aaH,aaI,lX.get,x4,de bK];generalize Gn:D.add (D.add K _) _=K7;have g7:I [] K K7:=by rw[<-Gn];exact(aw.add _).add _
  have hM7:yU K7 K.ab 3 (λ _=>none) 0:=by rw[<-Gn];exact .new (Lv.new.add)
  have pM:iD K7 (K.ab+1) g.length (λ x=>ae (if x<0 then(Bk (ru (gC g) g.length).cm x:Int)else 0)):=by rw[<-Gn];refine⟨_,Lv.new (H:=K.add _),λ x Z=>?_⟩;rw[Bp,aq ω];simp
  clear Gn;have lc7:=lc.ai g7;have hLC:L.C<K.ab:=lc.lt;have C9:=alM o8 g.length ω;unfold Pa zp at hQ;generalize(ru (gC g) g.length).cm=cm at*;refine CA (λ j sl K8=>yU K8 K.ab 3 (λ z=>((kR cm j).1 z).map λ k=>ae (k:Nat)) (kR cm j).2/\iD K8 (K.ab+1) g.length (λ x=>ae (if x<j then(Bk cm x:Int)else 0))/\I [K.ab,K.ab+1] K7 K8/\j<=g.length/\AV sl 6 (.map K.ab)/\AV sl 7 (.sl (K.ab+1) 0 1 g.length g.length true)/\AV sl 59 (.sl L.C 0 1 g.length g.length true)/\AV sl 60 (ae (g.length:Nat))/\AV sl 61 (ae (j:Nat))) g.length ⟨by simpa[kR]using hM7,pM,aw,dQ _,ζ⟩ ?_
  rintro b2 k2-dO j Hn K8 ⟨hM,⟨to,lo,eo⟩,g8,hj,q6,q7,W4,yJ,q61⟩ ih;by_cases bB:j<g.length
  .have ix:j<maxLen:=by unfold maxLen;omega
   have lc8:=lc7.W g8 ξ;have Ex:j+1<=g.length:=bB;obtain⟨mc,ml,m1,m2,m3,m4,m5,m6⟩:=hM.ob;have aU:=abD cm j;have pQ:∀(to':CX) (K9:D),Lv K9 (K.ab+1) (.cells g.length (to.put j (some (ae (Bk cm j:Nat)))) false)->iD K9 (K.ab+1) g.length (λ x=>ae (if x<j+1 then(Bk cm x:Int)else 0)):=by
    intro _ K9 hl;refine⟨_,hl,λ x Z=>?_⟩;by_cases e:x=j
    .subst e;simp
    .rw[Tr.eR,ao e,eo x Z];have:(x<j+1)↔x<j:=ω
     simp only[this]
   cases C':(kR cm j).1 (cm j)with
   |some kk=>
    have hT:kR cm (j+1)=kR cm j:=by show(if _ then _ else _)=_;rw[aq (by rw[C'];rfl)]
    have hO:Bk cm j=kk:=by unfold Bk;rw[hT,C'];rfl
    rcases Fe (key:=.int .i64 (cm j)) (l:=ml)with⟨b,v,U,O⟩|⟨U,O⟩
    .have hv:v=ae (kk:Nat):=by rw[m3,C']at U;simpa using U.symm
     subst hv;simp[q6,q7,W4,yJ,q61,bB,lc8.get,ec j bB,m1.get,O,lo.get,Ex,bq ix];have gg:I [K.ab+1] K8 (K8.put (K.ab+1) (some (.cells g.length (to.put j (some (ae (kk:Nat)))) false))):=aw.put (.inr ζ);refine ih ω ⟨by rw[hT];exact hM.W gg ζ,pQ to _ (by rw[hO];exact lo.put_eq),g8.trans (gg.mono ζ),bB,by simp[q6,q7,W4,yJ]⟩
    .rw[m3,C']at U;simp at U
   |none=>
    have hT:kR cm (j+1)=(FA (kR cm j).1 (cm j) (some (kR cm j).2),(kR cm j).2+1):=by show(if _ then _ else _)=_;rw[ao (by rw[C'];simp)]
    have hO:Bk cm j=(kR cm j).2:=by unfold Bk;rw[hT];simp[FA]
    rcases Fe (key:=.int .i64 (cm j)) (l:=ml)with⟨b,v,U,O⟩|⟨U,O⟩
    .rw[m3,C']at U;simp at U
    .simp[q6,q7,W4,yJ,q61,bB,lc8.get,ec j bB,m1.get,O,lo.get,Ex,bq ix,abj alj m1.get,m6]
     have IS:=yU.eD (v:=ae ((kR cm j).2:Nat)) (k:=cm j) m1 m2 m3 m4 m5 ⟨by have:=(C9 j).1;omega,by have:=(C9 j).2;omega⟩;rw[C']at IS;have AS:FA (λ z=>Option.map (λ k=>ae (k:Nat)) ((kR cm j).1 z)) (cm j) (some (ae ((kR cm j).2:Nat)))=λ z=>Option.map (λ k=>ae (k:Nat)) ((kR cm (j+1)).1 z):=by funext z;rw[hT];unfold FA;dsimp only;split<;>rfl
     have iW:(if(Option.map (λ k=>ae (k:Nat)) (none:Option Nat)).isSome=true then ml.length else ml.length+1)=(kR cm (j+1)).2:=by rw[hT,m6];rfl
     rw[AS,iW]at IS;generalize hKm:D.put K8 K.ab _=Km at IS⊢;have gm:I [K.ab] K8 Km:=by rw[<-hKm];exact aw.put (.inr ζ)
     have lom:=lo.W gm ζ;clear hKm;have gg:I [K.ab+1] Km (Km.put (K.ab+1) (some (.cells g.length (to.put j (some (ae ((kR cm j).2:Nat)))) false))):=aw.put (.inr ζ);refine ih ω ⟨IS.W gg ζ,pQ to _ (by rw[hO];exact lom.put_eq),g8.trans ((gm.mono ζ).trans (gg.mono ζ)),bB,by simp[q6,q7,W4,yJ]⟩
  .obtain rfl:j=g.length:=ω
   subst dO;simp[q7,yJ,q61];have hnx:=hI.base.ab;have g78:I [] K K8:=ke g7 g8 ζ;refine hQ ⟨⟨[K.ab+1],.kq lo ζ (λ x Z=>?_) aF ζ (by unfold maxLen;omega),λ y G=>?_⟩,?_⟩
   .rw[eo x Z];simp[Z]
   .have:=g1.ab;simp at G;omega
   .exact g1.trans (hI.base.trans g78)
end
end Go.Proofs.YtgipmaoplfkdoaaGreatDoor
