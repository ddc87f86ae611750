import Derived.Test.YtgipmaoplfkdoaaGreatDoorM9
import Derived.Test.YtgipmaoplfkdoaaGreatDoorM10
set_option linter.all false
set_option maxRecDepth 100000
set_option maxHeartbeats 400000000
namespace Go.Proofs.YtgipmaoplfkdoaaGreatDoor
noncomputable section
open Go.RowKit
variable{n k:Nat}{K H:D}{gv v:J}{aL cL:AT}{bT:List (Nat×Nat)}{t1:CX}{c:Nat->Nat}{S:SI}{V:SV}{ds:List bH}{rs:List bL}
structure eP where
 wh:Nat->Int
 lo:Nat->Int
 cm:Nat->Int
 wait:List Nat
 fi:Nat
variable{s:eP}
abbrev QZ(f:Nat->Int):Nat->J:=λ k=>ae (f k)
structure iq where
 w:Nat
 aR:Nat
 aG:Nat
 C:Nat
variable{L:iq}
structure rF(K:D)(L:iq)(gv:J)(n:Nat)(s:eP)(aL:List Nat):Prop where
 ob:∃t u,Lv K L.w (.cells 6 t false)/\AV t 0 gv/\AV t 1 (.sl L.aR 0 1 n n true)/\AV t 2 (.sl L.aG 0 1 n n true)/\AV t 3 u/\AV t 4 (.sl L.C 0 1 n n true)/\AV t 5 (ae s.fi)/\aX K 1 u (aZ (iY s.wait)) aL
 a:iD K L.aR n (QZ s.wh)
 b:iD K L.aG n (QZ s.lo)
 c:iD K L.C n (QZ s.cm)
def iq.ids(L:iq):AT:=[L.w,L.aR,L.aG,L.C]
def eP.nu(s:eP)(k:Nat):eP:={s with wh:=λ x=>if x=k then((s.fi+1:Nat):Int)else s.wh x,lo:=λ x=>if x=k then((s.fi+1:Nat):Int)else s.lo x,wait:=s.wait++[k],fi:=s.fi+1}
theorem rF.W{K T:D}{L:iq}{gv:J}{n:Nat}{s:eP}{aL cL:AT}(h:rF K L gv n s aL)(g:I cL K T)(O:∀y∈L.ids,y∉cL)(U:∀y∈aL,y∉cL):rF T L gv n s aL:=by have⟨⟨t,u,l,e⟩,a,b,c⟩:=h;refine⟨⟨t,u,l.W g (O _ (by simp[iq.ids])),e.1,e.2.1,e.2.2.1,e.2.2.2.1,e.2.2.2.2.1,e.2.2.2.2.2.1,e.2.2.2.2.2.2.W g U⟩,a.W g (O _ (by simp[iq.ids])),b.W g (O _ (by simp[iq.ids])),c.W g (O _ (by simp[iq.ids]))⟩
def tT(l:List (Nat×Nat)):AU:=l.flatMap λ q=>[ae q.1,ae q.2]
theorem Lr:∀l:List (Nat×Nat),(tT l).length=l.length*2
 |[]=>rfl|q::l=>by have:=Lr l;simp[tT]at this⊢;omega
def uU(K:D)(b:Nat)(l:List (Nat×Nat))(cL:AT):Prop:=∃t u,Lv K b (.cells 1 t false)/\AV t 0 u/\aX K 2 u (tT l) cL
def agk{b1 b2:Nat}(h:rF K L gv n s aL)(hw:uU K b2 bT cL)(l1:Lv K b1 (.cells 1 t1 false))(e1:AV t1 0 (.ptr L.w 0))(Q:k<n)(hc:s.fi<1048576)(mD:s.wait.length<=1048576)(hyl:bT.length<=1048576)(f:(L.ids++[b1,b2]).Nodup)(O:∀y∈aL,y∉L.ids++[b1,b2])(N:∀y∈cL,y∉L.ids++[b1,b2])(ZE:∀y∈aL,y∉cL):CN 180 [ae k,.ptr b1 0,.ptr b2 0] K λ _ T=>∃Y' Z',rF T L gv n (s.nu k) Y'/\uU T b2 (bT++[(k,0)]) Z'/\(∀y∈Y',y∈aL\/K.ab<=y)/\(∀y∈Z',y∈cL\/K.ab<=y)/\(∀y∈Y',y∉Z')/\I (L.ids++[b2]++aL++cL) K T:=by
 refine ba arp rfl λ Q' hQ=>?_
 obtain⟨⟨t,u,l,z0,z1,z2,z3,z4,z5,hu⟩,⟨ta,la,ea⟩,⟨tb,lb,eb⟩,hcC⟩:=h
 obtain⟨tw,uw,lw,ew,hZ⟩:=hw
 have ui:IntKind.wrap .i64 ((s.fi:Int)+1)=(s.fi:Int)+1:=bq (by unfold maxLen;omega)
 have b:(L.ids++[b1,b2]).reverse.Nodup:=S_.2 (f.imp λ h=>qj h)
 simp[iq.ids]at f b O N
 simp[-cX,l1.get,e1,l.get,z1,z2,z3,z5,ui,la.get,lb.get,Q,f,b,dz Q]
 try (refine dF (by simp[dA,dm]) ?_)
 generalize B:D.put (D.put (D.put K L.w _) L.aR _) L.aG _=p
 have n1:p.ab=K.ab:=by rw[<-B];rfl
 have g1:I (L.ids++[b2]++aL++cL) K p:=by rw[<-B];exact((aw.put (.inr (by simp[iq.ids]))).put (.inr (by simp[iq.ids]))).put (.inr (by simp[iq.ids]))
 have P:I [L.w,L.aR,L.aG] K p:=by rw[<-B];exact((aw.put (.inr ζ)).put (.inr ζ)).put (.inr ζ)
 have w1:Lv p L.w (.cells 6 (t.put 5 (some (ae ((s.fi:Int)+1)))) false):=by rw[<-B];refine⟨l.lt,?_⟩;simp[f]
 have wA:Lv p L.aR (.cells n (ta.put k (some (ae ((s.fi:Int)+1)))) false):=by rw[<-B];refine⟨la.lt,?_⟩;simp[f]
 have wB:Lv p L.aG (.cells n (tb.put k (some (ae ((s.fi:Int)+1)))) false):=by rw[<-B];refine⟨lb.lt,?_⟩;simp
 clear B
 have wC:=hcC.W P (by simp[b])
 have v1:=l1.W P (by simp[b])
 have v2:=lw.W P (by simp[b])
 have Vu:=hu.W P (λ y G=>by simp[O y G])
 have M:=hZ.W P (λ y G=>by simp[N y G])
 rw[<-n1]
 refine vL (c:=ae (k:Nat)) bK qF Vu rfl (by simp[aZ];omega) (by simp[aZ];omega) ?_
 intro v' K2 Y2 X a F
 have E:∀z∈L.ids++[b1,b2],z∉aL:=λ z d G=>by have:=O z G;simp[iq.ids]at d;rcases d with rfl|rfl|rfl|rfl|rfl|rfl<;>simp_all
 have x1:=w1.W a (E _ (by simp[iq.ids]))
 have xA:=wA.W a (E _ (by simp[iq.ids]))
 have xB:=wB.W a (E _ (by simp[iq.ids]))
 have xC:=wC.W a (E _ (by simp[iq.ids]))
 have y1:=v1.W a (E _ ζ)
 have y2:=v2.W a (E _ ζ)
 have hZ2:=M.W a (λ y G hY=>ZE y hY G)
 simp[-cX]
 refine dF (by simp[dA,dm,val,y1.get,e1]) ?_
 simp[-cX,x1.get,X.cell,X.co,y2.get,b,ew]
 generalize Y:D.put K2 L.w _=C
 have o:I [L.w] K2 C:=by rw[<-Y];exact aw.put (.inr ζ)
 have r1:Lv C L.w (.cells 6 ((t.put 5 (some (ae ((s.fi:Int)+1)))).put 3 (some v')) false):=by rw[<-Y];exact x1.put_eq
 have n3:C.ab=K2.ab:=by rw[<-Y];rfl
 clear Y
 have n2:=a.ab
 have GJ:L.w<p.ab:=w1.lt
 have rA:=xA.W o (by simp[b])
 have rB:=xB.W o (by simp[b])
 have rC:=xC.W o (by simp[b])
 have s2:=y2.W o (by simp[b])
 have UG:=hZ2.W o (λ y G=>by simp[N y G])
 have p1':=X.W o (λ y G=>(F y G).elim (λ q=>by simp[O y q]) λ q=>ξ)
 have kH:(tT bT).length=bT.length*2:=Lr bT
 rw[<-n3]
 generalize R:D.add C _=K4
 have m:I [] C K4:=by rw[<-R];exact aw.add _
 have lr:∃tr,Lv K4 C.ab (.cells 2 tr false)/\bc tr 0 (1*2)=some [ae (k:Nat),ae 0]:=by rw[<-R];exact⟨_,Lv.new,by simp[bc]⟩
 have n4:K4.ab=C.ab+1:=by rw[<-R];rfl
 clear R
 obtain⟨tr,lr,lr0⟩:=lr
 refine Fh (n:=1) Fy alm ω (UG.W m ζ) lr.get aF lr0 rfl (λ q hq=>ω) (λ q hq=>ω) ?_
 intro v4 K5 Z5 q1 j q3
 have J:∀z∈L.ids++[b1,b2],z∉cL:=λ z d G=>by have:=N z G;simp[iq.ids]at d;rcases d with rfl|rfl|rfl|rfl|rfl|rfl<;>simp_all
 have f1:=(r1.ai m).W j (J _ (by simp[iq.ids]))
 have fA:=(rA.W m ζ).W j (J _ (by simp[iq.ids]))
 have fB:=(rB.W m ζ).W j (J _ (by simp[iq.ids]))
 have fC:=(rC.W m ζ).W j (J _ (by simp[iq.ids]))
 have f2:=(s2.ai m).W j (J _ ζ)
 have eG:b2<p.ab:=v2.lt
 have LY:=(p1'.W m ζ).W j (λ y G=>(F y G).elim (λ q=>ZE y q) λ q d=>by have:=M.lt y d;omega)
 simp[-cX,f2.get,q1.cell,q1.co]
 have A:I [b2] K5 (K5.put b2 (some (.cells 1 (tw.put 0 (some v4)) false))):=aw.put (.inr ζ)
 have m1:=g1.ab
 have m2:=a.ab
 have m3:=o.ab
 have m5:=j.ab
 have sD:=hu.lt
 have aug:=hZ.lt
 have at3:=X.lt
 have b2Y:∀y∈Y2,¬y=b2:=λ y G=>(F y G).elim (λ q=>by simp[O y q]) λ q=>ω
 have b2Z:∀y∈Z5,¬y=b2:=λ y G=>(q3 y G).elim (λ q=>by simp[N y q]) λ q=>ω
 have auD:ae ((s.fi:Int)+1)=ae ((s.fi+1:Nat):Int):=ζ
 refine hQ ⟨Y2,Z5,⟨⟨_,v',f1.W A (by simp[f]),by simp[z0],by simp[z1],by simp[z2],ζ,by simp[z4],by simp[eP.nu],?_⟩,⟨⟨_,fA.W A (by simp[f]),λ x Z=>?_⟩⟩,⟨⟨_,fB.W A (by simp[f]),λ x Z=>?_⟩⟩,fC.W A (by simp[f])⟩,⟨_,v4,f2.put_eq,ζ,?_⟩,λ y G=>?_,λ y G=>?_,λ y G d=>?_,?_⟩
 .have:=LY.W A (by simpa using b2Y)
  simpa[eP.nu,aZ]using this
 .by_cases e:x=k
  .simp[e,eP.nu]
  .simp[e,eP.nu,ea x Z]
 .by_cases e:x=k
  .simp[e,eP.nu]
  .simp[e,eP.nu,eb x Z]
 .have:=q1.W A (by simpa using b2Z)
  simpa[tT]using this
 .exact(F y G).elim .inl λ q=>.inr ω
 .exact(q3 y G).elim .inl λ q=>.inr ω
 .have U:=at3 y G
  rcases F y G with q|q<;>rcases q3 y d with r|r
  .exact ZE y q r
  .have:=sD y q;omega
  .have:=aug y r;omega
  .omega
 .exact((((g1.trans (a.mono λ x Z=>by simp[Z])).trans (o.mono (by simp[iq.ids]))).trans (m.mono ζ)).trans (j.mono λ x Z=>by simp[Z])).trans (A.mono ζ)
variable{i:Nat}
def aFk(h:(aL++[i]).Sublist cL)(f:cL.Nodup):∃a b,cL=a++i::b/\i∉a/\aL.Sublist a:=by obtain⟨j,m,rfl,O,U⟩:=List.append_sublist_iff.1 h;obtain⟨c,d,rfl⟩:=List.append_of_mem (U.subset (afi));refine⟨j++c,d,ζ,?_,O.trans (afj _ _)⟩;intro A;rw[<-FK,zd]at f;exact f.2.2 i A i (afi) rfl
def xb(wt:Nat->Nat)(wh:Nat->Int):Nat->Nat
 |0=>0|n+1=>xb wt wh n+if wh n=0 then wt n else 0
theorem alu{wt:Nat->Nat}{wh wh':Nat->Int}:∀{n:Nat},(∀x,x<n->wh x=wh' x)->xb wt wh n=xb wt wh' n
 |0,_=>rfl
 |n+1,h=>by
  unfold xb
  rw[alu (n:=n) λ x Z=>h x ω,h n ω]
theorem aeg{wt:Nat->Nat}{wh:Nat->Int}{k:Nat}{z:Int}(a:z≠0)(b:wh k=0):∀{n:Nat},k<n->xb wt (λ x=>if x=k then z else wh x) n+wt k=xb wt wh n
 |0,h=>ω
 |n+1,h=>by
  unfold xb
  by_cases e:n=k
  .subst e
   rw[alu (wh':=wh) λ x Z=>by rw[ao ω]];simp[a,b]
  .have:=aeg (wt:=wt) (wh:=wh) (k:=k) a b (n:=n) ω
   simp only[ao e];omega
variable{g:List BW}{len:Nat->Nat}{s:eP}
def azw(a:GI n H gv g):CN 149 [gv] H λ u K=>K=H/\u=ae (g.length:Nat):=by refine ba aq1 rfl λ d b=>?_;simp[a.sl.aN alk];exact b ⟨rfl,rfl⟩
structure qh(n:Nat)(len:Nat->Nat)(s:eP)(bT:List (Nat×Nat)):Prop where
 nd:s.wait.Nodup
 sub:(bT.map (·.1)).Sublist s.wait
 bg:∀k∈s.wait,k<n/\s.wh k≠0
 pos:∀q∈bT,q.2<=len q.1
 fi:s.fi+xb (λ _=>1) s.wh n=n
def s_(n:Nat)(len:Nat->Nat)(s:eP)(bT:List (Nat×Nat)):Nat:=xb (λ k=>len k+2) s.wh n+(bT.map λ q=>len q.1-q.2+1).sum
def qh.nu{bT:List (Nat×Nat)}(h:qh n len s bT){k:Nat}(Q:k<n)(m:s.wh k=0):qh n len (s.nu k) (bT++[(k,0)])/\s_ n len (s.nu k) (bT++[(k,0)])+1=s_ n len s bT/\s.fi<n:=by
 have f:((s.fi+1:Nat):Int)≠0:=ω
 have w:=aeg (wt:=λ _=>1) f m Q;have u:=aeg (wt:=λ k=>len k+2) f m Q;have t:=h.fi;have j:k∉s.wait:=λ B=>(h.bg k B).2 m;refine⟨⟨?_,?_,?_,?_,?_⟩,?_,ω⟩
 .show(s.wait++[k]).Nodup;rw[zd];exact⟨h.nd,ζ,λ a r b p=>by simp at p;subst p;exactλ e=>j (e▸r)⟩
 .show((bT++[(k,0)]).map λ q:Nat×Nat=>q.1).Sublist (s.wait++[k]);rw[lF];exact h.sub.append (List.Sublist.refl _)
 .intro x Z;have o:x∈s.wait++[k]:=Z;show x<n/\(if x=k then((s.fi+1:Nat):Int)else s.wh x)≠0;rw[b_,jo]at o;by_cases e:x=k
  .subst e;exact⟨Q,by rw[aq rfl];exact f⟩
  .rw[ao e];exact h.bg x (o.resolve_right e)
 .intro q d;rw[b_,jo]at d;rcases d with d|rfl
  .exact h.pos q d
  .exact dQ _
 .show s.fi+1+xb (λ _=>1) (λ x=>if x=k then((s.fi+1:Nat):Int)else s.wh x) n=n;omega
 .show xb _ (λ x=>if x=k then((s.fi+1:Nat):Int)else s.wh x) n+_+1=_;unfold s_;rw[lF,tJ];simp only[kB,FN,sr,KJ];omega
variable{l:List (Nat×Nat)}{e:Nat}
def qh.same{s':eP}(h:qh n len s bT)(O:s'.wh=s.wh)(U:s'.wait=s.wait)(F:s'.fi=s.fi):qh n len s' bT/\s_ n len s' bT=s_ n len s bT:=⟨⟨by rw[U];exact h.nd,by rw[U];exact h.sub,by rw[O,U];exact h.bg,h.pos,by rw[O,F];exact h.fi⟩,by unfold s_;rw[O]⟩
def qh.adv(h:qh n len s (l++[(i,e)]))(he:e<len i):qh n len s (l++[(i,e+1)])/\s_ n len s (l++[(i,e+1)])+1=s_ n len s (l++[(i,e)]):=by
 refine⟨⟨h.nd,?_,h.bg,λ q a=>?_,h.fi⟩,?_⟩
 .have:=h.sub;rw[lF]at this⊢;exact this
 .rw[b_,jo]at a;rcases a with a|rfl
  .exact h.pos q (zb _ a)
  .exact he
 .unfold s_;rw[lF,lF,tJ,tJ];simp only[kB,FN,sr,KJ];omega
def qh.pop{q:Nat×Nat}(h:qh n len s (l++[q])):qh n len s l/\s_ n len s l<s_ n len s (l++[q])/\∃a b,s.wait=a++q.1::b/\q.1∉a/\qh n len {s with wait:=a} l:=by
 have d:=h.sub;rw[lF]at d;have f:∀x∈l,x.2<=len x.1:=λ x Z=>h.pos x (zb _ Z);refine⟨⟨h.nd,(afj _ _).trans d,h.bg,f,h.fi⟩,?_,?_⟩
 .unfold s_;rw[lF,tJ];simp only[kB,FN,sr,KJ];omega
 .have⟨a,b,hw,A,j⟩:=aFk d h.nd;refine⟨a,b,hw,A,⟨?_,j,λ k Q=>h.bg k ?_,f,h.fi⟩⟩
  .have:=h.nd;rw[hw,zd]at this;exact this.1
  .rw[hw];exact zb _ Q
def qh.last{q:Nat×Nat}(h:qh n len s (l++[q])):q.1<n:=(h.bg q.1 (h.sub.subset (jn.2 ⟨q,ζ,rfl⟩))).1
abbrev uF(g:List BW)(k:Nat):Nat:=(g[k]?.getD []).length
def eP.mn(s:eP)(l:List (Nat×Nat))(i:Nat):eP:=match l.getLast? with|none=>s|some q=>{s with lo:=aM s.lo q.1 (min (s.lo q.1) (s.lo i))}
def eP.cut(s:eP)(i:Nat):eP:={s with cm:=λ k=>if k∈s.wait.drop (s.wait.idxOf i)then(i:Int)else s.cm k,wait:=s.wait.take (s.wait.idxOf i)}
def Aj(g:List BW)(x:eP×List (Nat×Nat)):eP×List (Nat×Nat):=match x.2.getLast? with
 |none=>x
 |some q=>
  if q.2<uF g q.1 then
   if x.1.wh (((g[q.1]?.getD [])[q.2]?.getD 0).toNat)=0 then(x.1.nu (((g[q.1]?.getD [])[q.2]?.getD 0).toNat),x.2.dropLast++[(q.1,q.2+1)]++[((((g[q.1]?.getD [])[q.2]?.getD 0).toNat),0)])
   else if x.1.cm (((g[q.1]?.getD [])[q.2]?.getD 0).toNat)<0 then({x.1 with lo:=aM x.1.lo q.1 (min (x.1.lo q.1) (x.1.wh (((g[q.1]?.getD [])[q.2]?.getD 0).toNat)))},x.2.dropLast++[(q.1,q.2+1)])
   else(x.1,x.2.dropLast++[(q.1,q.2+1)])
  else if(x.1.mn x.2.dropLast q.1).lo q.1=(x.1.mn x.2.dropLast q.1).wh q.1 then((x.1.mn x.2.dropLast q.1).cut q.1,x.2.dropLast)
  else(x.1.mn x.2.dropLast q.1,x.2.dropLast)
def xc(g:List BW):Nat->eP×List (Nat×Nat)->eP×List (Nat×Nat)
 |0,x=>x|n+1,x=>Aj g (xc g n x)
theorem aen{g:List BW}{x:eP×List (Nat×Nat)}{n:Nat}(h:(xc g n x).2=[]):∀m,n<=m->xc g m x=xc g n x
 |0,B=>by rw[show n=0 by omega]
 |m+1,B=>by
  by_cases e:n=m+1
  .rw[e]
  .have a:=aen h m ω
   show Aj g (xc g m x)=_;rw[a];unfold Aj;rw[h];rfl
def DK(g:List BW)(s:eP)(k:Nat):eP:=@dite _ (∃n,(xc g n (s.nu k,[(k,0)])).2=[]) (Classical.propDecidable _) (λ h=>(xc g (Classical.choose h) (s.nu k,[(k,0)])).1) λ _=>s
def aGG(h:(xc g n (s.nu k,[(k,0)])).2=[]):DK g s k=(xc g n (s.nu k,[(k,0)])).1:=by
 have he:∃n,(xc g n (s.nu k,[(k,0)])).2=[]:=⟨n,h⟩;unfold DK;rw[OK he];have U:=HS he;rcases YM n (Classical.choose he)with q|q
 .rw[aen h _ q]
 .rw[aen U _ q]
def aeo:Aj g (s,l++[(i,e)])=if e<uF g i then
 if s.wh (((g[i]?.getD [])[e]?.getD 0).toNat)=0 then(s.nu (((g[i]?.getD [])[e]?.getD 0).toNat),l++[(i,e+1)]++[((((g[i]?.getD [])[e]?.getD 0).toNat),0)])
 else if s.cm (((g[i]?.getD [])[e]?.getD 0).toNat)<0 then({s with lo:=aM s.lo i (min (s.lo i) (s.wh (((g[i]?.getD [])[e]?.getD 0).toNat)))},l++[(i,e+1)])
 else(s,l++[(i,e+1)])
 else if(s.mn l i).lo i=(s.mn l i).wh i then((s.mn l i).cut i,l)
 else(s.mn l i,l):=by
 unfold Aj
 simp only[List.getLast?_append,List.getLast?_singleton,Option.some_or,List.dropLast_concat]
def eP.abv(s:eP)(l:List (Nat×Nat))(i:Nat):(s.mn l i).wh=s.wh/\(s.mn l i).wait=s.wait/\(s.mn l i).fi=s.fi/\(s.mn l i).cm=s.cm:=by unfold eP.mn;split<;>exact⟨rfl,rfl,rfl,rfl⟩
def awG(h:i∉aL):(aL++i::cL).idxOf i=aL.length:=by rw[List.idxOf_append,ao h];simp
def eP.af8(hw:s.wait=aL++i::cL)(h:i∉aL):s.cut i={s with cm:=λ k=>if k∈i::cL then(i:Int)else s.cm k,wait:=aL}:=by unfold eP.cut;rw[hw,awG h,List.drop_left,List.take_left]
def aGH(h:qh g.length (uF g) s (l++[(i,e)]))(j:∀r∈g,∀z∈r,0<=z/\z<g.length):qh g.length (uF g) (Aj g (s,l++[(i,e)])).1 (Aj g (s,l++[(i,e)])).2/\s_ g.length (uF g) (Aj g (s,l++[(i,e)])).1 (Aj g (s,l++[(i,e)])).2<s_ g.length (uF g) s (l++[(i,e)]):=by
 rw[aeo]
 by_cases he:e<uF g i
 .rw[aq he]
  obtain⟨O,m⟩:=h.adv he;have Q:((g[i]?.getD [])[e]?.getD 0).toNat<g.length:=by
   have A:i<g.length:=h.last;have f:e<g[i].length:=by simpa[uF,bf A]using he
   have:=j g[i] (cG A) g[i][e] (cG f);rw[bf A];show(g[i][e]?.getD 0).toNat<_;rw[bf f];show(g[i][e]).toNat<_;omega
  generalize((g[i]?.getD [])[e]?.getD 0).toNat=k at Q;split
  .rename_i o;obtain⟨U,d,-⟩:=O.nu Q o;exact⟨U,by dsimp only at d⊢;omega⟩
  .split
   .obtain⟨U,d⟩:=O.same (s':={s with lo:=aM s.lo i (min (s.lo i) (s.wh k))}) rfl rfl rfl;exact⟨U,by dsimp only at d⊢;omega⟩
   .exact⟨O,by dsimp only;omega⟩
 .rw[ao he]
  obtain⟨q,p,a3,a4⟩:=s.abv l i;obtain⟨O,m⟩:=h.same (s':=s.mn l i) q p a3;obtain⟨U,d,a,b,hw,A,F⟩:=O.pop;split
  .rw[eP.af8 hw A];refine⟨⟨F.nd,F.sub,F.bg,F.pos,F.fi⟩,?_⟩;have e:s_ g.length (uF g) {s.mn l i with cm:=λ k=>if k∈i::b then(i:Int)else(s.mn l i).cm k,wait:=a} l=s_ g.length (uF g) (s.mn l i) l:=rfl;dsimp only;rw[e];omega
  .exact⟨U,by dsimp only;omega⟩
def Lq(l:List (Nat×Nat))(q:Nat×Nat):tT (l++[q])=tT l++[ae q.1,ae q.2]:=by simp[tT]
def uU.last(h:uU K k (l++[(i,e)]) cL)(G:k∉cL):∃t id ax ex a,cL=[id]/\Lv K k (.cells 1 t false)/\AV t 0 (.sl id 0 2 (l.length+1) ax ex)/\Lv K id (.cells (ax*2) a false)/\l.length+1<=ax/\ax<=maxLen/\a.get (l.length*2)=some (ae (i:Nat))/\a.get (l.length*2+1)=some (ae (e:Nat))/\(∀q,l.getLast?=some q->0<l.length/\a.get ((l.length-1)*2)=some (ae (q.1:Nat)))/\(∀T,I [id] K T->Lv T id (.cells (ax*2) (a.put (l.length*2+1) (some (ae ((e+1:Nat):Int)))) false)->uU T k (l++[(i,e+1)]) [id])/\(∀T,I [k] K T->Lv T k (.cells 1 (t.put 0 (some (.sl id 0 2 l.length ax ex))) false)->uU T k l [id]):=by
 have⟨t,u,C,e0,E⟩:=h
 have b:=Lq l (i,e)
 have z:(tT (l++[(i,e)])).length=(l.length+1)*2:=by rw[Lr];simp
 generalize tT (l++[(i,e)])=O at E b z
 cases E with
 |nil=>simp at z
 |@own id n ax ex a _ B N f w A r=>
  have F:n=l.length+1:=ω
  subst F
  have d:(tT l).length=l.length*2:=Lr l
  have o:k≠id:=λ h=>G (by simp[h])
  refine⟨t,id,ax,ex,a,rfl,C,e0,B,w,r,?_,?_,λ q p=>?_,λ T g x=>?_,λ T g x=>?_⟩
  .rw[f _ ω,b,mi ω,d];simp
  .rw[f _ ω,b,mi ω,d];simp
  .rcases SS l with rfl|⟨l',M,rfl⟩
   .simp at p
   .simp only[YC]at p b f d z w⊢;simp at p;subst p;have y:(tT l').length=l'.length*2:=Lr l';refine⟨ζ,?_⟩;rw[f _ ξ,b,jI (by simp[Lq,y]),Lq,mi (by simp[y]),y];simp
  .refine⟨t,_,C.W g (by simpa using o),e0,.own x (by rw[Lq];simp[d];omega) (λ j D=>?_) w A r⟩
   by_cases m:j=l.length*2+1
   .subst m;rw[Lq,mi ω,d];simp
   .rw[Tr.eR,ao m,f j D,b,Lq];by_cases J:j<l.length*2
    .rw[jI ω,jI ω]
    .have:j=l.length*2:=ω
     subst this;rw[mi ω,mi ω,d];simp
  .refine⟨_,_,x,ζ,.own (B.W g (by simp;exactλ h=>o h.symm)) d (λ j D=>?_) ω A r⟩
   rw[f j ω,b,jI ω]
section
variable{K T:D}{L:iq}{gv:J}{n:Nat}{s:eP}{aL:AT}
def rF.Bc(h:rF K L gv n s aL)(d:L.ids.Nodup)(f:∀y∈aL,y∉L.ids)(j:Lv K L.aG (.cells n t1 false))(hu:∀x,x<n->t1.get x=some (QZ s.lo x))(x:Nat)(z:Int):rF (K.put L.aG (some (.cells n (t1.put x (some (ae z))) false))) L gv n {s with lo:=aM s.lo x z} aL/\I [L.aG] K (K.put L.aG (some (.cells n (t1.put x (some (ae z))) false))):=by
 have g:I [L.aG] K (K.put L.aG (some (.cells n (t1.put x (some (ae z))) false))):=aw.put (.inr ζ)
 have B:L.ids.reverse.Nodup:=S_.2 (d.imp λ h=>qj h)
 simp[iq.ids]at d B f
 have⟨⟨t,v,l,w,u,r,q,p,o,m⟩,a,b,c⟩:=h
 refine⟨⟨⟨t,v,l.W g (by simp[d]),w,u,r,q,p,o,m.W g (λ y G=>by simp[f y G])⟩,a.W g (by simp[d]),(iD.put j hu).congr λ y _=>?_,c.W g (by simp[B])⟩,g⟩
 simp[aM]
def rF.cm'(h:rF K L gv n s aL)(d:L.ids.Nodup)(f:∀y∈aL,y∉L.ids)(j:Lv K L.C (.cells n t1 false))(hu:∀x,x<n->t1.get x=some (QZ s.cm x))(x:Nat)(z:Int):rF (K.put L.C (some (.cells n (t1.put x (some (ae z))) false))) L gv n {s with cm:=aM s.cm x z} aL/\I [L.C] K (K.put L.C (some (.cells n (t1.put x (some (ae z))) false))):=by
 have g:I [L.C] K (K.put L.C (some (.cells n (t1.put x (some (ae z))) false))):=aw.put (.inr ζ)
 have B:L.ids.reverse.Nodup:=S_.2 (d.imp λ h=>qj h)
 simp[iq.ids]at d B f
 have⟨⟨t,v,l,w,u,r,q,p,o,m⟩,a,b,c⟩:=h
 refine⟨⟨⟨t,v,l.W g (by simp[d]),w,u,r,q,p,o,m.W g (λ y G=>by simp[f y G])⟩,a.W g (by simp[d]),b.W g (by simp[d]),(iD.put j hu).congr λ y _=>?_⟩,g⟩
 simp[aM]
end
def kR(c:Nat->Int):Nat->(Int->Option Nat)×Nat
 |0=>(λ _=>none,0)|j+1=>if((kR c j).1 (c j)).isSome=true then kR c j else(FA (kR c j).1 (c j) (some (kR c j).2),(kR c j).2+1)
def Bk(c:Nat->Int)(j:Nat):Nat:=((kR c (j+1)).1 (c j)).getD 0
theorem abD(c:Nat->Int):∀j,(kR c j).2<=j
 |0=>aF
 |j+1=>by
  have:=abD c j
  unfold kR;split
  .omega
  .show(kR c j).2+1<=j+1
   omega
theorem abE{c:Nat->Int}{z:Int}{k:Nat}:∀{j},(kR c j).1 z=some k->k<(kR c j).2
 |0,h=>by cases h
 |j+1,h=>by
  unfold kR at h⊢
  split at h
  .rename_i e;rw[aq e];exact abE h
  .rename_i e;rw[ao e]
   dsimp only at h⊢;unfold FA at h;split at h
   .cases h;omega
   .have:=abE h;omega
def azC(c:Nat->Int)(j:Nat):∃k,(kR c (j+1)).1 (c j)=some k:=by
 unfold kR;split
 .rename_i e;exact afu.1 e
 .exact⟨_,by simp[FA];rfl⟩
def azB(c:Nat->Int)(j:Nat):Bk c j<j+1:=by have⟨k,Q⟩:=azC c j;unfold Bk;rw[Q];have:=abE Q;have:=abD c (j+1);show k<_;omega
def J_:eP:=⟨λ _=>0,λ _=>0,λ _=>-1,[],0⟩
def ru(g:List BW):Nat->eP
 |0=>J_|i+1=>@ite _ ((ru g i).wh i=0) (Classical.propDecidable _) (DK g (ru g i) i) (ru g i)
def zp(g:List BW)(i:Nat):Nat:=Bk (ru (gC g) g.length).cm i
def Pa(g:List BW):AT:=(List.range g.length).map (zp g)
def Sp(n:Nat)(x:eP×List (Nat×Nat)):Prop:=(∀k,-1<=x.1.cm k/\x.1.cm k<n)/\∀q∈x.2,q.1<n
def Sp.step{g:List BW}{x:eP×List (Nat×Nat)}(h:Sp g.length x)(m:∀r∈g,∀z∈r,0<=z/\z<g.length):Sp g.length (Aj g x):=by
 have⟨s,bT⟩:=x;rcases SS bT with rfl|⟨l,⟨i,e⟩,rfl⟩
 .exact h
 .rw[YC]at h⊢;have⟨O,U⟩:=h;dsimp only at O U;have b:∀q∈l,q.1<g.length:=λ q a=>U q (by simp[a]);have A:i<g.length:=U (i,e) ζ;have d:∀j,∀q∈l++[(i,j)],q.1<g.length:=λ j q a=>by
   rw[b_,jo]at a;rcases a with a|rfl
   .exact b q a
   .exact A
  rw[aeo];by_cases he:e<uF g i
  .rw[aq he];have Q:((g[i]?.getD [])[e]?.getD 0).toNat<g.length:=by
    have f:e<g[i].length:=by simpa[uF,bf A]using he
    have:=m g[i] (cG A) g[i][e] (cG f);rw[bf A];show(g[i][e]?.getD 0).toNat<_;rw[bf f];show(g[i][e]).toNat<_;omega
   generalize((g[i]?.getD [])[e]?.getD 0).toNat=k at Q;split
   .refine⟨O,λ q a=>?_⟩;rw[b_,jo]at a;rcases a with a|rfl
    .exact d _ q a
    .exact Q
   .split
    .exact⟨O,d _⟩
    .exact⟨O,d _⟩
  .rw[ao he];have B:=(s.abv l i).2.2.2;split
   .refine⟨λ k=>?_,b⟩;show-1<=(if k∈_ then(i:Int)else(s.mn l i).cm k)/\(if k∈_ then(i:Int)else(s.mn l i).cm k)<_;rw[B];split
    .omega
    .exact O k
   .refine⟨λ k=>?_,b⟩;show-1<=(s.mn l i).cm k/\(s.mn l i).cm k<_;rw[B];exact O k
def aGF(h:∀x,-1<=s.cm x/\s.cm x<g.length)(Q:k<g.length)(b:∀r∈g,∀z∈r,0<=z/\z<g.length):∀x,-1<=(DK g s k).cm x/\(DK g s k).cm x<g.length:=by
 have key:∀n,Sp g.length (xc g n (s.nu k,[(k,0)])):=by intro n;induction n with|zero=>exact⟨h,λ q a=>by simp[xc]at a;rw[a];exact Q⟩|succ n d=>exact d.step b
 unfold DK;split
 .rename_i Z;exact(key _).1
 .exact h
theorem alM{g:List BW}(a:∀r∈g,∀z∈r,0<=z/\z<g.length):∀n,n<=g.length->∀x,-1<=(ru g n).cm x/\(ru g n).cm x<g.length
 |0,_=>λ x=>⟨Ys _,by show(-1:Int)<_;omega⟩
 |n+1,d=>by
  have b:=alM a n ω
  show∀x,-1<=(@ite _ _ (Classical.propDecidable _) (DK g (ru g n) n) (ru g n)).cm x/\(@ite _ _ (Classical.propDecidable _) (DK g (ru g n) n) (ru g n)).cm x<_
  split
  .exact aGF b ω a
  .exact b
namespace SV
noncomputable def rows(V:SV)(N:Nat):List BW:=(List.range N).map λ i=>if V.first i=i then(jW (V.to i)).map λ k=>((V.first k:Nat):Int)else[]
noncomputable def eQ(V0:SV)(c:Nat->Nat):Nat->SV×(Nat->Option Nat)
 |0=>(V0,λ _=>none)
 |n+1=>if V0.first n=n then(match(eQ V0 c n).2 (c n)with|none=>((eQ V0 c n).1,aM (eQ V0 c n).2 (c n) (some n))|some j=>((eQ V0 c n).1.merge n j,(eQ V0 c n).2))
  else eQ V0 c n
noncomputable def sX(V0:SV)(c:Nat->Nat):Nat->Nat->Nat
 |0=>V0.first
 |n+1=>if V0.first n=n then(match(eQ V0 c n).2 (c n)with|none=>sX V0 c n|some j=>aM (sX V0 c n) n j)
  else sX V0 c n
noncomputable def lP(V:SV)(N:Nat):SV:=(eQ V (zp (rows V N)) N).1
structure yQ(V0:SV)(c:Nat->Nat)(n:Nat)(V:SV)(st:Nat->Option Nat)(au:Nat->Nat):Prop where
 raw:∀x,V.first x=au (au x)
 Nx:∀x,V0.first x≠x->au x=V0.first x
 rp:∀x,V0.first x=x->au x=x\/(au x<n/\x<n/\st (c x)=some (au x))
 st:∀k j,st k=some j->j<n/\au j=j/\c j=k/\V0.first j=j
section
variable{V0 V:SV}{c:Nat->Nat}{n:Nat}{st:Nat->Option Nat}{au:Nat->Nat}
theorem yQ.one(h:yQ V0 c n V st au)(Z:V0.first k=k):au (au k)=au k:=by
 rcases h.rp k Z with e|⟨_,_,e⟩
 .rw[e,e]
 .exact(h.st _ _ e).2.1
theorem yQ.qV(h:yQ V0 c n V st au)(b:∀x,V0.first (V0.first x)=V0.first x)(x:Nat):V0.first (au x)=au x:=by
 by_cases e:V0.first x=x
 .rcases h.rp x e with a|⟨_,_,a⟩
  .rw[a,e]
  .exact(h.st _ _ a).2.2.2
 .rw[h.Nx x e,b]
theorem yQ.fix(h:yQ V0 c n V st au)(a:∀x,V0.first (V0.first x)=V0.first x)(x:Nat):au (au (au x))=au (au x):=h.one (h.qV a x)
theorem yQ.A(h:yQ V0 c n V st au)(Z:n<=k):au k=V0.first k:=by
 by_cases e:V0.first k=k
 .rcases h.rp k e with a|⟨_,a,_⟩
  .rw[a,e]
  .omega
 .exact h.Nx k e
end
theorem aqr{V0:SV}(a:∀x,V0.first (V0.first x)=V0.first x):yQ V0 c 0 V0 (λ _=>none) V0.first:=⟨λ x=>(a x).symm,λ _ _=>rfl,λ _ h=>.inl h,λ _ _ h=>by cases h⟩
theorem Ua{V0:SV}(e:¬V0.first n=n):eQ V0 c (n+1)=eQ V0 c n/\sX V0 c (n+1)=sX V0 c n:=by
 constructor
 .show(if _ then _ else _)=_;rw[ao e]
 .show(if _ then _ else _)=_;rw[ao e]
theorem T'{V0:SV}(e:V0.first n=n)(a:(eQ V0 c n).2 (c n)=none):eQ V0 c (n+1)=((eQ V0 c n).1,aM (eQ V0 c n).2 (c n) (some n))/\sX V0 c (n+1)=sX V0 c n:=by
 constructor
 .show(if _ then _ else _)=_;rw[aq e,a]
 .show(if _ then _ else _)=_;rw[aq e,a]
theorem Ub{V0:SV}(e:V0.first n=n)(a:(eQ V0 c n).2 (c n)=some k):eQ V0 c (n+1)=((eQ V0 c n).1.merge n k,(eQ V0 c n).2)/\sX V0 c (n+1)=aM (sX V0 c n) n k:=by
 constructor
 .show(if _ then _ else _)=_;rw[aq e,a]
 .show(if _ then _ else _)=_;rw[aq e,a]
theorem Py{V0:SV}{c:Nat->Nat}(p:∀x,V0.first (V0.first x)=V0.first x):∀n,yQ V0 c n (eQ V0 c n).1 (eQ V0 c n).2 (sX V0 c n)
 |0=>aqr p
 |n+1=>by
  have h:=Py (V0:=V0) (c:=c) p n
  by_cases e:V0.first n=n
  .have m:sX V0 c n n=n:=by rw[h.A (Nat.le_refl _),e]
   cases b:(eQ V0 c n).2 (c n)with
   |none=>
    obtain⟨f,d⟩:=T' e b
    rw[f,d]
    refine⟨h.raw,h.Nx,λ x Z=>?_,λ k j Q=>?_⟩
    .rcases h.rp x Z with q|⟨t,r,a⟩
     .exact .inl q
     .refine .inr ⟨ω,ω,?_⟩;dsimp only;unfold aM;rw[ao]
      .exact a
      .intro q;rw[q,b]at a;cases a
    .dsimp only at Q
     unfold aM at Q;split at Q
     .rename_i y;cases Q;exact⟨ω,m,y.symm,e⟩
     .obtain⟨O,U⟩:=h.st k j Q;exact⟨ω,U⟩
   |some j=>
    obtain⟨f,d⟩:=Ub e b
    obtain⟨D,u,C,B⟩:=h.st _ _ b
    have z:j≠n:=ω
    rw[f,d]
    have w:=h.qV p
    generalize sX V0 c n=au at h u m w
    generalize(eQ V0 c n).1=V at h
    generalize(eQ V0 c n).2=st at h b
    refine⟨λ x=>?_,λ x Z=>?_,λ x Z=>?_,λ k i Q=>?_⟩
    .show(if V.first x=n then j else V.first x)=_
     rw[h.raw];by_cases ex:x=n
     .subst ex;rw[fE,gG z,u,m,m,aq rfl]
     .rw[gG ex];by_cases o:au x=n
      .rw[o,fE,m,aq rfl]
      .rw[gG o,ao];rcases h.rp (au x) (w x)with q|⟨q,_,_⟩
       .rw[q];exact o
       .omega
    .rw[gG (λ q=>Z (by rw[q];exact e))]
     exact h.Nx x Z
    .by_cases ex:x=n
     .subst ex;rw[fE];exact .inr ⟨ω,ω,b⟩
     .rw[gG ex];rcases h.rp x Z with q|⟨t,r,a⟩
      .exact .inl q
      .exact .inr ⟨ω,ω,a⟩
    .obtain⟨O,U,F⟩:=h.st k i Q
     have:i≠n:=ω
     exact⟨ω,by rw[gG this];exact U,F⟩
  .obtain⟨f,d⟩:=Ua (c:=c) e
   rw[f,d];refine⟨h.raw,h.Nx,λ x Z=>?_,λ k j Q=>?_⟩
   .rcases h.rp x Z with q|⟨t,r,a⟩
    .exact .inl q
    .exact .inr ⟨ω,ω,a⟩
   .obtain⟨O,U⟩:=h.st k j Q;exact⟨ω,U⟩
structure nU(S:SI)(N:Nat)(V V':SV):Prop where
 ok:V'.Ok S N
 rel:∀i r,r∈V'.aO i->∃k,r∈V.aO k
 wt:V.fx N->V'.fx N
 mu:mu V' N<=mu V N
theorem nU.merge{S:SI}{N i j:Nat}{V V0:SV}(h:nU S N V0 V)(A:V.first i=i)(b:V.first j=j)(d:i≠j)(m:i<N)(f:j<N):nU S N V0 (V.merge i j):=by
 refine⟨h.ok.merge b d f,λ x r hr=>?_,λ q=>(h.wt q).merge b d f,aY (tL (ayL A b d m)) h.mu⟩;have a:r∈aM (aM V.aO j (V.aO j++V.aO i)) i [] x:=hr;unfold aM at a;split at a
 .simp at a
 .split at a
  .rw[b_]at a;rcases a with q|q<;>exact h.rel _ _ q
  .exact h.rel _ _ a
theorem aiO{S:SI}{N:Nat}{V0:SV}{c:Nat->Nat}(d:V0.Ok S N):∀n,n<=N->nU S N V0 (eQ V0 c n).1
 |0,_=>⟨d,λ i _ h=>⟨i,h⟩,id,Nat.le_refl _⟩
 |n+1,r=>by
  have h:=aiO (c:=c) d n ω
  have a:=Py (V0:=V0) (c:=c) d.id n
  by_cases e:V0.first n=n
  .cases b:(eQ V0 c n).2 (c n)with
   |none=>rw[(T' e b).1];exact h
   |some j=>
    rw[(Ub e b).1]
    have⟨q,f,p,o⟩:=a.st _ _ b
    have m:sX V0 c n n=n:=by rw[a.A (Nat.le_refl _),e]
    refine h.merge ?_ ?_ ω ω ω
    .rw[a.raw,m,m]
    .rw[a.raw,f,f]
  .rw[(Ua e).1];exact h
theorem abe(h:V.Ok S n):nU S n V (V.lP n):=aiO h n (Nat.le_refl _)
noncomputable def iN(V:SV)(r:bL):SV:=if r.kind=1 then V.take r.aR.toNat (nN r.aG.toNat)
 else if r.kind=2 then V.bV r.aR r.aG
 else if r.kind=4\/r.kind=6 then{V with aO:=aM V.aO r.aR.toNat (V.aO r.aR.toNat++[r])}
 else{V with aO:=aM V.aO r.aG.toNat (V.aO r.aG.toNat++[r])}
def V0:SV:=⟨λ x=>x,λ _ _=>0,λ _ _=>0,λ _=>[],λ _=>false,0⟩
noncomputable def V1(rs:List bL):SV:=rs.foldl iN V0
def least(V:SV)(N:Nat):Option Nat:=(List.range N).find? λ i=>V.wait i
noncomputable def vU(S:SI)(ds:List bH)(N:Nat)(x:Int×SV):Int×SV:=match x.2.least N with|none=>x|some i=>(Go.IntKind.wrap .i64 (x.1+1),if Int.tmod x.1 64=0 then(x.2.round S ds i).lP N else x.2.round S ds i)
noncomputable def pA(S:SI)(ds:List bH)(N:Nat):Nat->Int×SV->Int×SV
 |0,x=>x|n+1,x=>vU S ds N (pA S ds N n x)
theorem adZ{S:SI}{ds:List bH}{N:Nat}{x:Int×SV}{n:Nat}(h:(pA S ds N n x).2.least N=none):∀m,n<=m->pA S ds N m x=pA S ds N n x
 |0,B=>by rw[show n=0 by omega]
 |m+1,B=>by
  by_cases e:n=m+1
  .rw[e]
  .have a:=adZ h m ω
   show vU S ds N (pA S ds N m x)=_;rw[a];unfold vU;rw[h]
noncomputable def JY(S:SI)(ds:List bH)(N:Nat)(rs:List bL):SV:=@dite _ (∃n,(pA S ds N n (1,(V1 rs).lP N)).2.least N=none) (Classical.propDecidable _) (λ h=>(pA S ds N (Classical.choose h) (1,(V1 rs).lP N)).2) λ _=>V0
theorem akE(h:(pA S ds k n (1,(V1 rs).lP k)).2.least k=none):JY S ds k rs=(pA S ds k n (1,(V1 rs).lP k)).2:=by
 have he:∃n,(pA S ds k n (1,(V1 rs).lP k)).2.least k=none:=⟨n,h⟩;unfold JY;rw[OK he];have U:=HS he;rcases YM n (Classical.choose he)with q|q
 .rw[adZ h _ q]
 .rw[adZ U _ q]
theorem ai0{i:Nat}(h:V.least n=some i):i<n/\V.wait i=true/\∀k,k<i->V.wait k=false:=by
 unfold least at h;rw[List.find?_eq_some_iff_append]at h;have⟨O,l1,l2,U,F⟩:=h;have a:l1.length<n:=by have:=iQ List.length U;simp at this;omega
 have A:i=l1.length:=by have:=iQ (λ l:AT=>l[l1.length]?) U;simp[a]at this;exact this.symm
 refine⟨ω,O,λ k Q=>?_⟩;have b:k∈l1:=by
  have:l1[k]' ω=k:=by have:=iQ (λ l:AT=>l[k]?) U;simp[jI (show k<l1.length by omega),show k<n by omega]at this;rw[bf ω]at this;simpa using this.symm
  rw[<-this];exact cG _
 have:=F k b;simpa using this
structure uT(S:SI)(ds:List bH)(V:SV):Prop where
 ok:V.Ok S (S.vars+S.br)
 wt:V.fx (S.vars+S.br)
 rel:∀i,∀r∈V.aO i,uS S ds r
section
variable{S:SI}{ds:List bH}{V:SV}
theorem uT.fold(h:uT S ds V):uT S ds (V.lP (S.vars+S.br))/\mu (V.lP (S.vars+S.br)) (S.vars+S.br)<=mu V (S.vars+S.br):=
 let k:=abe h.ok
 ⟨⟨k.ok,k.wt h.wt,λ i r hr=>let⟨j,a⟩:=k.rel i r hr;h.rel j r a⟩,k.mu⟩
theorem uT.round(a:oQ S ds)(h:uT S ds V){i:Nat}(A:V.wait i=true):uT S ds (V.round S ds i)/\mu (V.round S ds i) (S.vars+S.br)<mu V (S.vars+S.br):=
 let g:=Xf a h.ok (h.rel i)
 ⟨⟨g.ok,g.wt h.wt.pop,λ k r hr=>h.rel k r (by rw[g.rel]at hr;exact hr)⟩,KL g.mu (ayM (h.wt i A).2 A)⟩
theorem uT.step{x:Int×SV}(a:oQ S ds)(h:uT S ds x.2){i:Nat}(A:x.2.least (S.vars+S.br)=some i):uT S ds (vU S ds (S.vars+S.br) x).2/\mu (vU S ds (S.vars+S.br) x).2 (S.vars+S.br)<mu x.2 (S.vars+S.br):=by
 have⟨O,F⟩:=h.round a (ai0 A).2.1;unfold vU;rw[A];dsimp only;split
 .exact⟨O.fold.1,KL O.fold.2 F⟩
 .exact⟨O,F⟩
theorem aEU(d:oQ S ds):∀(m:Nat) (x:Int×SV),mu x.2 (S.vars+S.br)<=m->uT S ds x.2->∃n,(pA S ds (S.vars+S.br) n x).2.least (S.vars+S.br)=none/\uT S ds (pA S ds (S.vars+S.br) n x).2:=by
 have shift:∀n (x:Int×SV),pA S ds (S.vars+S.br) n (vU S ds (S.vars+S.br) x)=pA S ds (S.vars+S.br) (n+1) x:=by
  intro n;induction n with
  |zero=>intro x;rfl
  |succ n b=>
   intro x
   show vU S ds _ (pA S ds _ n (vU S ds _ x))=vU S ds _ (pA S ds _ (n+1) x)
   rw[b]
 intro m;induction m with
 |zero=>
  intro x B h
  cases a:x.2.least (S.vars+S.br)with|none=>exact⟨0,a,h⟩|some i=>have:=(h.step d a).2;omega
 |succ m b=>
  intro x B h
  cases a:x.2.least (S.vars+S.br)with
  |none=>exact⟨0,a,h⟩
  |some i=>
   have⟨O,F⟩:=h.step d a
   have⟨n,n1,n2⟩:=b _ ω O
   rw[shift]at n1 n2
   exact⟨n+1,n1,n2⟩
structure SA(S:SI)(ds:List bH)(r:bL):Prop where
 ok:uS S ds r
 a:r.kind=1\/r.kind=4\/r.kind=6->0<=r.aR
 b:r.kind=1->0<=r.aG/\r.aG<S.br+S.fns
 b2:r.aG<S.vars\/r.kind=1
 c:r.kind=2->0<=r.aR/\0<=r.aG
 b3:r.kind=3\/r.kind=5->0<=r.aG
 k:r.kind=1\/r.kind=2\/r.kind=3\/r.kind=4\/r.kind=5\/r.kind=6
theorem uT.aO(f:oQ S ds)(h:uT S ds V){r:bL}(hr:SA S ds r):uT S ds (V.iN r):=by
 have p:=f.N;have m:=f.fns;have o:=hr.ok.a;have key:∀k:Nat,uT S ds {V with aO:=aM V.aO k (V.aO k++[r])}:=λ k=>⟨⟨h.ok.lt,h.ok.id,h.ok.wd,h.ok.wt,h.ok.tn,h.ok.sn⟩,h.wt,λ i q j=>by
  have d:q∈aM V.aO k (V.aO k++[r]) i:=j;unfold aM at d;split at d
  .rw[b_,jo]at d;rcases d with e|rfl
   .exact h.rel _ _ e
   .exact hr.ok
  .exact h.rel _ _ d⟩
 have go:∀{V':SV},dq S (S.vars+S.br) V V'->uT S ds V':=λ g=>⟨g.ok,g.wt h.wt,λ i r hr=>h.rel i r (by rw[<-g.rel];exact hr)⟩;unfold iN;split
 .rename_i O;have u:=hr.a (.inl O);have t:=hr.b O;exact go (.take h.ok (.one ω) (λ x Z=>by rw[GU]at Z;simp at Z;omega) ω)
 .split
  .exact go (.bV h.ok ω ω)
  .split<;>exact key _
theorem solI0:uT S ds V0:=⟨⟨λ _ h=>h,λ _=>rfl,λ _=>.zero,λ _=>.zero,λ i k h=>by simp[V0,cC]at h,λ i k h=>by simp[V0,cC]at h⟩,λ i (h:false=true)=>(by cases h),λ i r h=>(by simp[V0]at h)⟩
theorem solI_all(d:oQ S ds)(hr:∀r∈rs,SA S ds r):∀{V:SV},uT S ds V->uT S ds (rs.foldl iN V):=by induction rs with|nil=>exact id|cons r rs a=>exactλ h=>a (λ q b=>hr q (by simp[b])) (h.aO d (hr r ζ))
theorem ad0(a:oQ S ds)(hr:∀r∈rs,SA S ds r):(∃n,(pA S ds (S.vars+S.br) n (1,(V1 rs).lP (S.vars+S.br))).2.least (S.vars+S.br)=none)/\uT S ds (JY S ds (S.vars+S.br) rs):=by have⟨n,n1,n2⟩:=aEU a _ (1,(V1 rs).lP (S.vars+S.br)) (Nat.le_refl _) (solI_all a hr solI0).fold.1;exact⟨⟨n,n1⟩,by rw[akE n1];exact n2⟩
end
end SV
structure SF(HB K:D)(L:iq)(gv:J)(g:List (List Int))(s:eP):Prop where
 wk:∃aL,rF K L gv g.length s aL/\∀y∈aL,HB.ab<=y/\y∉L.ids
 ok:qh g.length (λ k=>(g[k]?.getD []).length) s []
 rows:GI 0 HB gv g
 base:I [] HB K
 lo:∀z∈L.ids,HB.ab<=z
 nd:L.ids.Nodup
 lim:g.length<=1048576
 ZO:∀l∈g,∀z∈l,0<=z/\z<g.length
structure SG(HB:D)(c:Nat)(L:iq)(gv:J)(g:List (List Int))(x:eP×List (Nat×Nat))(K:D):Prop where
 wk:∃aL cL,rF K L gv g.length x.1 aL/\uU K (c+2) x.2 cL/\(∀y∈aL,HB.ab<=y/\y∉L.ids++[c,c+2])/\(∀y∈cL,HB.ab<=y/\y∉L.ids++[c,c+2])/\∀y∈aL,y∉cL
 ok:qh g.length (λ k=>(g[k]?.getD []).length) x.1 x.2
 base:I [] HB K
 bx:Lv K c (.cells 1 (Tr.e.put 0 (some (.ptr L.w 0))) false)
def apw(h:SF H K L gv g s)(Q:k<g.length)(h0:s.wh k=0):CN 151 [.ptr L.w 0,ae k] K λ _ T=>SF H T L gv g (DK g s k):=by
 refine ba aq4 rfl λ Q' hQ=>?_
 obtain⟨aL,hW,hY⟩:=h.wk
 have mD:L.w<K.ab:=by obtain⟨t,u,l,_⟩:=hW.ob;exact l.lt
 simp
 generalize ed:D.put (D.add (D.add (D.add _ _) _) _) _ _=K1
 have g1:I [] K K1:=by rw[<-ed];exact(((aw.add _).add _).add _).put (.inl ω)
 have n1:K1.ab=K.ab+3:=by rw[<-ed];rfl
 have b1:Lv K1 K.ab (.cells 1 (Tr.e.put 0 (some (.ptr L.w 0))) false):=by rw[<-ed];refine⟨by simp[D.add];omega,?_⟩;simp
 have b2:uU K1 (K.ab+2) [] [K.ab+1]:=by rw[<-ed];refine⟨_,_,⟨by simp[D.add],by simp;rfl⟩,by simp;rfl,?_⟩;exact .own (n:=0) (ax:=0) (t:=Tr.e) ⟨by simp[D.add],ζ⟩ rfl (λ j hj=>ω) aF ζ (by unfold maxLen;omega)
 clear ed
 have kI:∀z∈L.ids,z<K.ab:=by
  intro z r;obtain⟨⟨t,u,l,_⟩,a,b,c⟩:=hW;simp[iq.ids]at r;rcases r with rfl|rfl|rfl|rfl
  .exact mD
  .exact a.lt
  .exact b.lt
  .exact c.lt
 have sD:∀y∈aL,y<K.ab:=by obtain⟨⟨t,u,l,e⟩,_⟩:=hW;exact e.2.2.2.2.2.2.lt
 have hW1:=hW.W g1 ζ ζ
 have dN:(L.ids++[K.ab,K.ab+2]).Nodup:=by rw[zd];exact⟨h.nd,ζ,λ a ha b hb=>by have:=kI a ha;simp at hb;omega⟩
 have hwn:s.wait.length<=1048576:=aY (PL.Rk h.ok.nd λ x Z=>(h.ok.bg x Z).1) h.lim
 obtain⟨aaK,aIc,hcn⟩:=h.ok.nu Q h0
 have qP:=h.base.ab
 refine CW (agk hW1 b2 b1 ζ Q (by have:=h.lim;omega) hwn ζ dN (λ y G B=>?_) (λ y G B=>?_) (λ y G B=>?_)) ?_
 .rw[b_]at B
  rcases B with B|B
  .exact(hY y G).2 B
  .have:=sD y G;simp at B;omega
 .rw[b_]at B
  rcases B with B|B
  .have:=kI y B;simp at G;omega
  .simp at G B;omega
 .have:=sD y G;simp at B;omega
 rintro v1 K2 ⟨Y2,Z2,LU,EW,Gt,hZ2,hYZ,g2⟩
 have hJ0:SG H K.ab L gv g (s.nu k,[(k,0)]) K2:=by
  have ED:∀z,K.ab<=z->z∉L.ids:=λ z r B=>by have:=kI z B;omega
  refine⟨⟨Y2,Z2,LU,EW,λ y G=>?_,λ y G=>?_,hYZ⟩,aaK,?_,b1.W g2 ?_⟩
  .rcases Gt y G with q|q
   .refine⟨(hY y q).1,λ B=>?_⟩;rw[b_]at B;rcases B with B|B
    .exact(hY y q).2 B
    .have:=sD y q;simp at B;omega
   .refine⟨ω,λ B=>?_⟩;rw[b_]at B;rcases B with B|B
    .exact ED y ω B
    .simp at B;omega
  .rcases hZ2 y G with q|q
   .simp at q;refine⟨ω,λ B=>?_⟩;rw[b_]at B;rcases B with B|B
    .exact ED y ω B
    .simp at B;omega
   .refine⟨ω,λ B=>?_⟩;rw[b_]at B;rcases B with B|B
    .exact ED y ω B
    .simp at B;omega
  .refine ke (h.base.trans g1) g2 λ y G=>?_;simp only[b_,jo]at G;rcases G with((G|G)|G)|G
   .exact h.lo y G
   .omega
   .exact(hY y G).1
   .omega
  .intro B;simp only[b_,jo]at B;rcases B with((G|G)|G)|G
   .exact ED _ aF G
   .omega
   .have:=sD _ G;omega
   .omega
 simp
 refine bu (α:=eP×List (Nat×Nat)) (aJ:=λ x sl T=>SG H K.ab L gv g x T/\(∃m,xc g m (s.nu k,[(k,0)])=x)/\AV sl 2 (.ptr K.ab 0)/\AV sl 4 (.ptr (K.ab+2) 0)/\AV sl 5 (.fn (.func 180) [] [.ptr K.ab 0,.ptr (K.ab+2) 0])) (mu:=λ x=>s_ g.length (λ k=>(g[k]?.getD []).length) x.1 x.2) ?_ (s.nu k,[(k,0)]) _ _ ?ini
 case ini=>exact⟨hJ0,⟨0,rfl⟩,ζ⟩
 rintro bb kk-Mh ⟨s',bT⟩ sl T ⟨hJ,⟨mm,AZ⟩,s2,X,s5⟩ ih
 obtain⟨⟨R,Z3,LV,Vw,Eh,UG,auc⟩,O,UH,GA⟩:=hJ
 dsimp only at LV Vw O
 rcases SS bT with rfl|⟨l,q,rfl⟩
 .obtain⟨tw,uw,lw,ew,hZo⟩:=Vw
  have sH:aN E0 250 uw T=val (ae 0) T:=by
   cases hZo with
   |nil=>rw[Ba Fy];rfl
   |@own id n ax ex t _ a1 a2=>
    have h9:n=0:=by simp[tT]at a2;omega
    subst h9
    rw[de Fy];rfl
  simp[X,lw.get,ew,sH,Mh];have pd:=aGG (g:=g) (s:=s) (k:=k) (n:=mm) (by rw[AZ]);rw[AZ]at pd;rw[pd]at hQ;exact hQ ⟨⟨R,LV,λ y G=>⟨(Eh y G).1,λ B=>(Eh y G).2 (zb _ B)⟩⟩,O,h.rows,UH,h.lo,h.nd,h.lim,h.ZO⟩
 .obtain⟨i,e⟩:=q
  simp only[YC]at Vw O AZ ih;have eH:=aGH O h.ZO;have mD:=aeo (g:=g) (s:=s') (l:=l) (i:=i) (e:=e);have M:∀(bz:CX) (o:D),SG H K.ab L gv g (Aj g (s',l++[(i,e)])) o->bz.get 2=some (.ptr K.ab 0)->bz.get 4=some (.ptr (K.ab+2) 0)->bz.get 5=some (.fn (.func 180) [] [.ptr K.ab 0,.ptr (K.ab+2) 0])->aD E0 (.code (.loop bb)::kk) ⟨bz,_,_,_,_⟩ o _:=λ bz o p1 p2 p3 p4=>ih _ bz o eH.2 ⟨p1,⟨mm+1,by show Aj g (xc g mm _)=_;rw[AZ]⟩,p2,p3,p4⟩;clear ih;obtain⟨N,-⟩:=eH;have aun:K.ab+2∉Z3:=λ B=>(UG _ B).2 ζ;obtain⟨tw,d,P,AI,tz,rfl,lw,ew,lz,UM,ahv,r0,r1,Jo,ahn,avX⟩:=Vw.last aun;have A:i<g.length:=O.last;obtain⟨idg,aIO,aHb,exg,ng,tg,rog,ug,zH,lg,Mj,Mw,hNI,-⟩:=(h.rows.ai UH).row A;have Vb:=hNI.sl.aN bK;have atY:=LV;obtain⟨⟨tW,uW,lW,z0,z1,z2,z3,z4,z5,hu⟩,⟨ta,la,ea⟩,⟨tb,lb,eb⟩,⟨tc,lc,ec⟩⟩:=atY;have sJ:uF g i=g[i].length:=by simp[uF,bf A]
  have wl:IntKind.wrap .i64 (l.length:Int)=(l.length:Int):=fQ ω (by unfold maxLen at ahv;omega);have og:l.length*2<P*2:=ω
  have k8:l.length*2+1<P*2:=ω
  have Ej:l.length*2+1+1<=P*2:=ω
  have Qd:∀y∈R,y∉L.ids:=λ y G B=>(Eh y G).2 (zb _ B);have Ve:∀z∈L.ids++[K.ab,K.ab+2],z<T.ab:=by
   intro z r;simp[iq.ids]at r;rcases r with rfl|rfl|rfl|rfl|rfl|rfl
   .exact lW.lt
   .exact la.lt
   .exact lb.lt
   .exact lc.lt
   .exact GA.lt
   .exact lw.lt
  have avr:∀z∈L.ids++[K.ab,K.ab+2],H.ab<=z:=by
   intro z r;rw[b_]at r;rcases r with r|r
   .exact h.lo z r
   .have:=h.base.ab;simp at r;omega
  have aah:=UG d ζ;have Lg:d∉L.ids++[K.ab,K.ab+2]:=aah.2;have Iv:(L.ids++[K.ab,K.ab+2]).Nodup:=dN;have dM2:(L.ids++[K.ab,K.ab+2]).reverse.Nodup:=S_.2 (Iv.imp λ h=>qj h);have TB:∀y∈R,y∉L.ids++[K.ab,K.ab+2]:=λ y G=>(Eh y G).2;have I0:d∉R:=λ B=>auc _ B ζ;have hJ:∀(x:eP×List (Nat×Nat)) (o:D) (Y5 Z5:AT),qh g.length (uF g) x.1 x.2->rF o L gv g.length x.1 Y5->uU o (K.ab+2) x.2 Z5->(∀y∈Y5,y∈R\/T.ab<=y)->(∀y∈Z5,y=d\/T.ab<=y)->(∀y∈Y5,y∉Z5)->I (L.ids++[K.ab+2]++R++[d]) T o->SG H K.ab L gv g x o:=by
   intro x o Y5 Z5 p1 p2 p3 p4 p5 p6 p7;have hHK:=UH.ab;refine⟨⟨Y5,Z5,p2,p3,λ y G=>?_,λ y G=>?_,p6⟩,p1,ke UH p7 λ y G=>?_,GA.W p7 λ B=>?_⟩
   .rcases p4 y G with q|q
    .exact Eh y q
    .exact⟨ω,λ B=>by have:=Ve y B;omega⟩
   .rcases p5 y G with rfl|q
    .exact aah
    .exact⟨ω,λ B=>by have:=Ve y B;omega⟩
   .simp only[b_,jo]at G;rcases G with((G|G)|G)|G
    .exact h.lo y G
    .exact avr y (by simp[G])
    .exact(Eh y G).1
    .rw[G];exact aah.1
   .simp only[b_,jo]at B;rcases B with((B|B)|B)|B
    .rw[zd]at Iv;exact Iv.2.2 _ B _ ζ rfl
    .omega
    .exact TB _ B ζ
    .exact Lg (by rw[<-B];simp)
  have dN3:=Iv;have BX:=dM2;have Ld:=Lg;have Lf:∀z∈L.ids++[K.ab,K.ab+2],¬z=d:=λ z r h=>Lg (by rw[<-h];exact r);have dY3:=TB;simp[iq.ids]at dN3 BX Ld Lf dY3;by_cases he:e<g[i].length
  .obtain⟨ide,aIN,aHa,exe,ne,te,roe,rfl,le,aU,Jg,-⟩:=hNI.num he;have o8:=h.ZO g[i] (cG A) g[i][e] (cG he);obtain⟨F,eO⟩:∃n:Nat,g[i][e]=(n:Int):=⟨g[i][e].toNat,ω⟩;rw[eO]at Jg;have kJ:F<g.length:=ω
   have Mh:((g[i]?.getD [])[e]?.getD 0).toNat=F:=by simp[bf A,bf he,eO]
   rw[Mh,aq (by rw[sJ];exact he)]at mD;rw[mD]at N M;have hem:e<maxLen:=by have:=hNI.sl.cP;omega
   have we:=bq hem;have auj:=(O.adv (by show e<uF g i;rw[sJ];exact he)).1;by_cases h0:s'.wh F=0
   .rw[aq h0]at N M;simp[s2,X,s5,lw.get,ew,de Fy,wl,lz.get,r0,r1,og,k8,Ej,GA.get,lW.get,z0,z1,zH,lg.get,Mj,A,Mw,Vb,he,le.get,aU,Jg,we,Lf,la.get,ea F kJ,kJ,h0];generalize pL:D.put T d _=p;have J:I [d] T p:=by rw[<-pL];exact aw.put (.inr ζ)
    have lz4:Lv p d (.cells (P*2) (tz.put (l.length*2+1) (some (ae ((e+1:Nat):Int)))) false):=by rw[<-pL];exact lz.put_eq
    have n4:p.ab=T.ab:=by rw[<-pL];rfl
    clear pL;have QO:=ahn p J lz4;have P_:=LV.W J (λ y G=>by simp;exactλ h=>Lg (by rw[<-h];exact zb _ G)) (λ y G=>by simp;exactλ h=>I0 (by rw[<-h];exact G));have auu:=GA.W J (by simp[Lf]);obtain⟨auq,-,hcn⟩:=auj.nu kJ h0;have aIv:s'.wait.length<=g.length:=PL.Rk O.nd λ x Z=>(O.bg x Z).1;have oh:=O.sub.length_le;rw[bW]at oh;have aH1:=h.lim;refine CW (agk P_ QO auu ζ kJ ω ω (by simp at oh⊢;omega) Iv TB (λ y G=>by simp at G;rw[G];exact Lg) (λ y G=>by simp;exactλ h=>I0 (by rw[<-h];exact G))) ?_;rintro v5 o ⟨Y5,Z5,IY,hw5,LY,hZ5,aud,E⟩;simp;refine M _ o (hJ _ o Y5 Z5 auq IY hw5 (λ y G=>?_) (λ y G=>?_) aud ?_) (by simp[s2]) (by simp[X]) (by simp[s5])
    .rcases LY y G with q|q
     .exact .inl q
     .exact .inr ω
    .rcases hZ5 y G with q|q
     .exact .inl (by simpa using q)
     .exact .inr ω
    .exact(J.mono ζ).trans (E.mono λ x Z=>by simp at Z⊢;omega)
   .rw[ao h0]at N M;have Mf:i+1<=g.length:=A;have aaS:∀p,p=D.put T d (some (.cells (P*2) (tz.put (l.length*2+1) (some (ae ((e:Int)+1)))) false))->I [d] T p/\uU p (K.ab+2) (l++[(i,e+1)]) [d]/\rF p L gv g.length s' R/\Lv p L.aG (.cells g.length tb false)/\p.ab=T.ab:=by rintro p rfl;have J:I [d] T (D.put T d (some (.cells (P*2) (tz.put (l.length*2+1) (some (ae ((e:Int)+1)))) false))):=aw.put (.inr ζ);refine⟨J,ahn _ J ?_,LV.W J (λ y G=>by simp;exactλ h=>Lg (by rw[<-h];exact zb _ G)) (λ y G=>by simp;exactλ h=>I0 (by rw[<-h];exact G)),lb.W J (by simp[Lf]),rfl⟩;have:Lv (D.put T d (some (.cells (P*2) (tz.put (l.length*2+1) (some (ae ((e:Int)+1)))) false))) d (.cells (P*2) (tz.put (l.length*2+1) (some (ae ((e:Int)+1)))) false):=lz.put_eq;simpa using this
    by_cases C9:s'.cm F<0
    .rw[aq C9]at N M;have aaF:(if s'.wh F<s'.lo i then s'.wh F else s'.lo i)=min (s'.lo i) (s'.wh F):=by rw[Int.min_def];split<;>split<;>omega
     simp[s2,X,lw.get,ew,de Fy,wl,lz.get,r0,r1,og,k8,Ej,GA.get,lW.get,z0,z1,z2,z4,zH,lg.get,Mj,A,Mf,Mw,Vb,he,le.get,aU,Jg,we,Lf,la.get,ea F kJ,lb.get,eb i A,lc.get,ec F kJ,kJ,h0,C9];try (refine dF (by simp[dA,dm]) ?_)
     try simp
     generalize pL:D.put T d _=p;obtain⟨J,QO,P_,Dk,n4⟩:=aaS p pL.symm;clear pL aaS;obtain⟨IY,E⟩:=P_.Bc h.nd Qd Dk eb i (min (s'.lo i) (s'.wh F));rw[aaF];have hYB:∀y∈[d],y∉[L.aG]:=λ y G=>by simp at G;rw[G];simp[Ld]
     have hw5:uU (p.put L.aG (some (.cells g.length (tb.put i (some (ae (min (s'.lo i) (s'.wh F))))) false))) (K.ab+2) (l++[(i,e+1)]) [d]:=by obtain⟨t,u,q1,q2,q3⟩:=QO;exact⟨t,u,q1.W E (by simp[BX]),q2,q3.W E hYB⟩
     refine M _ _ (hJ _ _ R [d] N IY hw5 (λ y G=>.inl G) (λ y G=>.inl (by simpa using G)) (λ y G=>by simp;exactλ h=>I0 (by rw[<-h];exact G)) ((J.mono ζ).trans (E.mono (by simp[iq.ids])))) (by simp[s2]) (by simp[X]) (by simp[s5])
    .rw[ao C9]at N M;simp[s2,X,lw.get,ew,de Fy,wl,lz.get,r0,r1,og,k8,Ej,GA.get,lW.get,z0,z1,z4,zH,lg.get,Mj,A,Mw,Vb,he,le.get,aU,Jg,we,Lf,la.get,ea F kJ,lc.get,ec F kJ,kJ,h0,C9];generalize pL:D.put T d _=p;obtain⟨J,QO,P_,Dk,n4⟩:=aaS p pL.symm;exact M _ _ (hJ _ _ R [d] N P_ QO (λ y G=>.inl G) (λ y G=>.inl (by simpa using G)) (λ y G=>by simp;exactλ h=>I0 (by rw[<-h];exact G)) (J.mono ζ)) (by simp[s2]) (by simp[X]) (by simp[s5])
  .rw[ao (by rw[sJ];exact he)]at mD;have Mf:i+1<=g.length:=A;have ahu:l.length<=P:=ω
   have cT:l.length<=l.length+1:=ω
   obtain⟨cb,aaC⟩:∃cb:Bool,decide (0<l.length)=cb:=⟨_,rfl⟩;simp[s2,X,lw.get,ew,de Fy,wl,lz.get,r0,r1,og,k8,GA.get,lW.get,z0,zH,lg.get,Mj,A,Mw,Vb,he,ahu,rU (show 0<P by omega),aaC];generalize dU:D.put T (K.ab+2) _=Ka;have ga:I [K.ab+2] T Ka:=by rw[<-dU];exact aw.put (.inr ζ)
   have lwa:Lv Ka (K.ab+2) (.cells 1 (tw.put 0 (some (.sl d 0 2 l.length P AI))) false):=by rw[<-dU];exact lw.put_eq
   have na:Ka.ab=T.ab:=by rw[<-dU];rfl
   clear dU;have hwa:=avX Ka ga lwa;have dI:∀y∈L.ids,y∉[K.ab+2]:=λ y G B=>by simp only[jo]at B;rw[zd]at Iv;exact Iv.2.2 _ G _ (by simp[B]) rfl
   have hWa:=LV.W ga dI (λ y G B=>TB y G (by simp at B;simp[B]));have lza:=lz.W ga (by simp[Ld]);have ahs:=GA.W ga ζ;refine aes (λ Y Kb=>∃sl,Y=⟨sl,188,[],none,151⟩/\rF Kb L gv g.length (s'.mn l i) R/\I [L.aG] Ka Kb/\AV sl 2 (.ptr K.ab 0)/\AV sl 4 (.ptr (K.ab+2) 0)/\AV sl 5 (.fn (.func 180) [] [.ptr K.ab 0,.ptr (K.ab+2) 0])/\AV sl 7 (ae (i:Nat))) ?_ ?_
   .intro Q2 wz;have atZ:=hWa;obtain⟨⟨tV,uV,lV,y0,y1,y2,y3,y4,y5,hv⟩,-,⟨tb2,lb2,ZK⟩,-⟩:=atZ;cases hq:l.getLast? with
    |none=>
     have sH:l=[]:=List.getLast?_eq_none_iff.1 hq
     have hcb:cb=false:=by rw[<-aaC,sH];rfl
     subst hcb
     simp
     refine wz _ _ ⟨_,rfl,?_,aw,by simp[s2],by simp[X],by simp[s5],ζ⟩
     have:s'.mn l i=s':=by unfold eP.mn;rw[hq]
     rw[this];exact hWa
    |some q=>
     obtain⟨sH,aaW⟩:=Jo q hq
     have hcb:cb=true:=by rw[<-aaC];simpa using sH
     subst hcb
     have Mv:q.1<g.length:=(O.bg q.1 (O.sub.subset (jn.2 ⟨q,zb _ (KH hq),rfl⟩))).1
     obtain⟨lm,Jc⟩:∃m,l.length=m+1:=⟨l.length-1,ω⟩
     rw[Jc]at aaW lwa
     simp only[afk]at aaW
     have wl2:IntKind.wrap .i64 (lm:Int)=(lm:Int):=fQ ω (by unfold maxLen at ahv;omega)
     have C8:lm*2<P*2:=ω
     have UL:q.1+1<=g.length:=Mv
     have aaF:(if s'.lo i<s'.lo q.1 then s'.lo i else s'.lo q.1)=min (s'.lo q.1) (s'.lo i):=by rw[Int.min_def];split<;>split<;>omega
     simp[s2,X,lwa.get,de Fy,wl2,lza.get,aaW,C8,UL,ahs.get,lV.get,y2,lb2.get,ZK q.1 Mv,ZK i A,Mv,A,aaF]
     obtain⟨UE,gl⟩:=hWa.Bc h.nd Qd lb2 ZK q.1 (min (s'.lo q.1) (s'.lo i))
     have ye:s'.mn l i={s' with lo:=aM s'.lo q.1 (min (s'.lo q.1) (s'.lo i))}:=by unfold eP.mn;rw[hq]
     exact wz _ _ ⟨_,rfl,by rw[ye];exact UE,gl,by simp[s2],by simp[X],by simp[s5],ζ⟩
   .rintro _ Kb ⟨Hn,rfl,UD,gb,t2,t4,t5,t7⟩;obtain⟨m1,m2,m3,m4⟩:=s'.abv l i;obtain⟨avP,-⟩:=O.same (s':=s'.mn l i) m1 m2 m3;obtain⟨ah9,-,f,U,A6,ahM,avO⟩:=avP.pop;have aal:=eP.af8 A6 ahM;generalize s'.mn l i=s1 at UD mD ah9 avO A6 aal;have at0:=UD;obtain⟨⟨tX,uX,lX,x0,x1,x2,x3,x4,x5,Z⟩,⟨ta3,Jz,ea3⟩,⟨tb3,Nc,eb3⟩,⟨tc3,lc3,ec3⟩⟩:=at0;have UK:=ahs.W gb (by simp[BX]);have hwb:uU Kb (K.ab+2) l [d]:=by obtain⟨t,u,q1,q2,q3⟩:=hwa;exact⟨t,u,q1.W gb (by simp[BX]),q2,q3.W gb (λ y G=>by simp at G;rw[G];simp[Ld])⟩
    have Eb:I (L.ids++[K.ab+2]++R++[d]) T Kb:=(ga.mono ζ).trans (gb.mono (by simp[iq.ids]));by_cases UN:s1.lo i=s1.wh i
    .rw[mD,aq UN,aal]at N M;simp[t2,t7,UK.get,lX.get,x1,x2,x3,A,Jz.get,ea3 i A,Nc.get,eb3 i A,UN];refine CW (awL (i:Int) Z.aZ (λ _ _ h=>h)) ?_;rintro _ K9 ⟨rfl,LI⟩;obtain rfl:Kb=K9:=LI.symm;have au4:idxOf (λ x=>decide ((i:Int)=x)) (iY s1.wait)=(f.length:Nat):=by
      refine MV (by rw[bW,A6];simp) (by simp[A6]) λ j hj Ey=>?_;have:(iY s1.wait)[j]=((f[j]:Nat):Int):=by rw[BO];congr 1;simp only[A6];exact HW Ey
      rw[this,OJ];intro hc;have:i=f[j]:=ω
      exact ahM (by rw[this];exact cG _)
     rw[au4];obtain⟨idx,Zt,exx,tx,rfl,rfl,lx,ex,UP,aHI,aHG⟩:=Z.uC (by simp[A6];omega);have aa0:(aZ (iY s1.wait)).length=f.length+(i::U).length:=by simp[A6]
     rw[aa0]at UP x3 ex;have aiq:f.length+(i::U).length-f.length=(i::U).length:=ω
     have aiA:f.length<=f.length+(i::U).length:=ω
     have ahz:0<Zt-f.length:=by simp at UP⊢;omega
     have hML:(i::U).length<=maxLen:=ω
     have hMx:∀j (hj:j<(i::U).length),tx.get (f.length+j)=some (ae ((i::U)[j]:Nat))/\(i::U)[j]<g.length:=by
      intro j hj;constructor
      .rw[ex _ ω];have:s1.wait[f.length+j]?=some (i::U)[j]:=by rw[A6,mi ω,YL,bf hj]
       simp[this]
      .exact(ah9.bg _ (by rw[A6];exact S3 _ (cG hj))).1
     generalize hM:i::U=aD at UP x3 ex aiq aiA hML hMx aa0 aal N M;have hMi:0<aD.length:=by rw[<-hM];simp
     simp[t2,UK.get,lX.get,x3,aiq,aiA,UP,rU ahz,de bK];refine bu (α:=Nat) (aJ:=λ j sl K2=>rF K2 L gv g.length {s1 with cm:=λ k=>if k∈aD.take j then(i:Int)else s1.cm k} [idx]/\I [L.C] Kb K2/\j<=aD.length/\AV sl 2 (.ptr K.ab 0)/\AV sl 4 (.ptr (K.ab+2) 0)/\AV sl 5 (.fn (.func 180) [] [.ptr K.ab 0,.ptr (K.ab+2) 0])/\AV sl 7 (ae (i:Nat))/\AV sl 10 (ae (f.length:Nat))/\AV sl 165 (.sl idx f.length 1 aD.length (Zt-f.length) exx)/\AV sl 166 (ae (aD.length:Nat))/\AV sl 167 (ae (j:Nat))) (mu:=λ j=>aD.length-j) ?_ 0 _ _ ?ini2;case ini2=>exact⟨by simpa using UD,aw,dQ _,by simp[t2,t4,t5,t7]⟩
     rintro b3 k3-jU j sl3 K2 ⟨LU,IH,hj,q2,q4,q5,q7,bo,NF,adB,aj0⟩ eJ;have atX:=LU;obtain⟨⟨tX2,uX2,lX2,x02,x12,x22,x32,x42,x52,MM⟩,-,-,⟨tc2,lc2,ec2⟩⟩:=atX;have aak:=UK.W IH (by simp[BX]);have hYC:∀y∈[idx],y∉[L.C]:=λ y G=>by simp at G;rw[G];have:=Qd idx ζ;simp[iq.ids]at this;simp[this]
     have lx2:=lx.W IH (hYC idx ζ);by_cases bB:j<aD.length
     .obtain⟨mx,mlt⟩:=hMx j bB;have Qk:f.length+j<Zt:=ω
      have ayE:aD[j]+1<=g.length:=mlt;have ix:j<maxLen:=ω
      simp[q2,q7,NF,adB,aj0,bB,lx2.get,mx,Qk,aak.get,lX2.get,x42,mlt,ayE,lc2.get,bq ix];obtain⟨IY,E⟩:=LU.cm' h.nd Qd lc2 ec2 aD[j] (i:Int);refine eJ (j+1) _ _ ω ⟨?_,IH.trans E,bB,by simp[q2,q4,q5,q7,bo,NF,adB]⟩;have e:(λ k=>if k∈aD.take (j+1)then(i:Int)else s1.cm k)=aM (λ k=>if k∈aD.take j then(i:Int)else s1.cm k) aD[j] (i:Int):=by
       funext k;unfold aM;rw[KK bB];by_cases ek:k=aD[j]
       .have B:aD[j]∈aD.take j++[aD[j]]:=S3 _ (jo.2 rfl);rw[aq ek,aq (by rw[ek];exact B)]
       .rw[ao ek];have:(k∈aD.take j++[aD[j]])↔k∈aD.take j:=by rw[b_,jo];exact⟨λ h=>h.resolve_right ek,.inl⟩
        simp only[this]
      rw[e];exact IY
     .obtain rfl:j=aD.length:=ω
      subst jU;rw[iF]at LU;obtain⟨aa1,Zu,aqc,tx2,rfl,kI,lx3,wv,auJ,auQ,auK⟩:=MM.uC (by simp[A6];omega);obtain rfl:idx=aa1:=by simpa using kI
      rw[aa0]at auJ x32 wv;have aiz:f.length<=Zu:=ω
      simp[q2,bo,adB,aj0,aak.get,lX2.get,x32,aiz,rU (show 0<Zu by omega)];obtain⟨-,⟨ta4,la4,ea4⟩,⟨tb4,Dk,eb4⟩,⟨tc4,lc4,ec4⟩⟩:=LU;generalize qK:D.put K2 L.w _=o;have E:I [L.w] K2 o:=by rw[<-qK];exact aw.put (.inr ζ)
      have lX5:Lv o L.w (.cells 6 (tX2.put 3 (some (.sl idx 0 1 f.length Zu aqc))) false):=by rw[<-qK];exact lX2.put_eq
      clear qK;have hYw:idx≠L.w:=by have:=Qd idx ζ;simp[iq.ids]at this;exact this.1
      have IY:rF o L gv g.length {s1 with cm:=λ k=>if k∈aD then(i:Int)else s1.cm k,wait:=f} [idx]:=by refine⟨⟨_,_,lX5,by simp[x02],by simp[x12],by simp[x22],by simp;rfl,by simp[x42],by simp[x52],?_⟩,⟨ta4,la4.W E (by simp[BX]),ea4⟩,⟨tb4,Dk.W E (by simp[BX]),eb4⟩,⟨tc4,lc4.W E (by simp[BX]),ec4⟩⟩;refine .kq (lx3.W E (by simp[hYw])) ζ (λ j hj=>?_) aiz auQ auK;rw[wv j ω,A6];show(List.map _ (List.map _ (f++i::U)))[j]?=_;rw[lF,lF,jI (by simpa using hj)]
      have aww:uU o (K.ab+2) l [d]:=by obtain⟨t,u,r1,r2,r3⟩:=hwb;have gg:=IH.trans (I.refl [L.C] K2);exact⟨t,u,(r1.W IH (by simp[BX])).W E (by simp[BX]),r2,(r3.W IH (λ y G=>by simp at G;rw[G];simp[Ld])).W E (λ y G=>by simp at G;rw[G];simp[Ld])⟩
      exact M _ _ (hJ _ _ [idx] [d] N IY aww (λ y G=>.inl G) (λ y G=>.inl (by simpa using G)) (λ y G=>by simp at G;rw[G];simpa usingλ h=>I0 (by simp[h])) (Eb.trans ((IH.mono (by simp[iq.ids])).trans (E.mono (by simp[iq.ids]))))) (by simp[q2]) (by simp[q4]) (by simp[q5])
    .rw[mD,ao UN]at N M;simp[t2,t7,UK.get,lX.get,x1,x2,A,Jz.get,ea3 i A,Nc.get,eb3 i A,UN];exact M _ _ (hJ _ _ R [d] N UD hwb (λ y G=>.inl G) (λ y G=>.inl (by simpa using G)) (λ y G=>by simp;exactλ h=>I0 (by rw[<-h];exact G)) Eb) (by simp[t2]) (by simp[t4]) (by simp[t5])
theorem alv:∀n,xb (λ _=>1) (λ _=>0) n=n
 |0=>rfl|n+1=>by simp[xb,alv n]
def alN:ru g (i+1)=if(ru g i).wh i=0 then DK g (ru g i) i else ru g i:=by
 show @ite _ _ (Classical.propDecidable _) _ _=_;by_cases e:(ru g i).wh i=0
 .rw[aq e,aq e]
 .rw[ao e,ao e]
def azy:(gC g).length=g.length:=by simp[gC]
def aoY(hg:GI 0 H v g)(hn:g.length<=1048576)(hr:∀l∈g,l.length<=1099511627776):CN 111 [v] H λ u K=>(∃aL,aX K 1 u (aZ (iY (Pa g))) aL/\∀y∈aL,H.ab<=y)/\I [] H K:=by
 refine ba aqA rfl λ Q' hQ=>?_
 simp
 refine CW (abB hg hn hr) ?_
 rintro gv d ⟨hG,g1⟩
 have E:=azy (g:=g)
 have o8:∀l∈gC g,∀z∈l,0<=z/\z<(gC g).length:=by intro l hl z hz;obtain⟨i,A,rfl⟩:=rJ hl;rw[E];exact abA A hz
 have bR:g.length*8<=140737488355328:=ω
 have eG:g.length<=9223372036854775807:=ω
 have fo:8*g.length<=140737488355328:=ω
 simp[hG.sl.cell,hG.sl.co]
 generalize kO:D.add d _=K2
 have g2:I [] d K2:=by rw[<-kO];exact aw.add _
 have n2:K2.ab=d.ab+1:=by rw[<-kO];rfl
 have lw:∃t0,Lv K2 d.ab (.cells 6 t0 false)/\AV t0 0 gv/\AV t0 3 (.lit (.slice none 0 0))/\AV t0 5 (ae 0):=by rw[<-kO];exact⟨_,Lv.new,ζ⟩
 clear kO
 obtain⟨t0,lw,w0,w3,w5⟩:=lw
 have hG2:=hG.ai g2
 have ud:=azw hG2
 rw[E]at ud
 simp[cE ud,eG,fo,wX]
 generalize B:D.add (D.add (D.add K2 _) _) _=m
 have g3:I [] K2 m:=by rw[<-B];exact((aw.add _).add _).add _
 have n3:m.ab=K2.ab+3:=by rw[<-B];rfl
 have lA:Lv m K2.ab (.cells g.length (Tr.px [ae 0] 1 g.length 0 Tr.e) false):=by rw[<-B];exact(Lv.new.add).add
 have lB:Lv m (K2.ab+1) (.cells g.length (Tr.px [ae 0] 1 g.length 0 Tr.e) false):=by rw[<-B];exact(Lv.new (H:=K2.add _)).add
 have lM:∃tm,Lv m (K2.ab+1+1) (.cells 1 tm false)/\tm.get 0=some (ae (-1)):=by rw[<-B];exact⟨_,Lv.new (H:=(K2.add _).add _),ζ⟩
 clear B
 obtain⟨tm,lM,em⟩:=lM
 refine CW (aj8 lM em hn) ?_
 rintro _ K4 ⟨rfl,hC,g4⟩
 have Q_:=(lw.ai g3).ai g4
 simp[Q_.get]
 try (refine dF (by simp[dA,dm]) ?_)
 try simp[Q_.get]
 generalize qK:D.put (D.put (D.put K4 _ _) _ _) _ _=K5
 have g5:I [d.ab] K4 K5:=by rw[<-qK];exact((aw.put (.inr ζ)).put (.inr ζ)).put (.inr ζ)
 have p:∃t,Lv K5 d.ab (.cells 6 t false)/\AV t 0 gv/\AV t 1 (.sl K2.ab 0 1 g.length g.length true)/\AV t 2 (.sl (K2.ab+1) 0 1 g.length g.length true)/\AV t 3 (.lit (.slice none 0 0))/\AV t 4 (.sl m.ab 0 1 g.length g.length true)/\AV t 5 (ae 0):=by rw[<-qK];exact⟨_,⟨Q_.lt,by simp;rfl⟩,by simp[w0,w3,w5]⟩
 clear qK
 obtain⟨t5,p,a0,a1,a2,a3,a4,a5⟩:=p
 have m2:=g3.ab
 have avx:=lw.lt
 generalize hL:(⟨d.ab,K2.ab,K2.ab+1,m.ab⟩:iq)=L
 have kI:L.ids=[d.ab,K2.ab,K2.ab+1,m.ab]:=by rw[<-hL];rfl
 have hI0:SF d K5 L gv (gC g) J_:=by
  refine⟨⟨[],?_,ζ⟩,⟨by simp[J_],ζ,by simp[J_],ζ,?_⟩,?_,?_,?_,?_,by rw[E];exact hn,o8⟩
  .rw[E,<-hL];refine⟨⟨t5,_,p,a0,a1,a2,a3,a4,by simpa[J_]using a5,by simpa[J_]using aX.nil⟩,?_,?_,?_⟩
   .refine⟨_,((lA.ai g4).W g5 ξ),λ x Z=>?_⟩;rw[Bp,aq ω];rfl
   .refine⟨_,((lB.ai g4).W g5 ξ),λ x Z=>?_⟩;rw[Bp,aq ω];rfl
   .cases hC with
    |@own _ _ _ _ tC _ c1 c2 c3 c4 c5 c6=>
     refine⟨tC,by simpa using c1.W g5 ξ,λ x Z=>?_⟩
     rw[c3 x ω]
     simp[Z,J_]
  .show 0+xb (λ _=>1) (λ _=>0) (gC g).length=_;rw[alv];omega
  .exact hG.mono (dQ _)
  .exact ke (g2.trans (g3.trans g4)) g5 ζ
  .rw[kI];simp;omega
  .rw[kI];simp;omega
 have hLw:d.ab=L.w:=by rw[<-hL]
 rw[hLw]at*
 refine bu (α:=Nat) (aJ:=λ j sl K=>SF d K L gv (gC g) (ru (gC g) j)/\j<=g.length/\AV sl 3 (.ptr L.w 0)/\AV sl 4 (ae (g.length:Nat))/\AV sl 37 (ae (g.length:Nat))/\AV sl 38 (ae (j:Nat))) (mu:=λ j=>g.length-j) ?_ 0 _ _ ?ini
 case ini=>exact⟨hI0,dQ _,ζ⟩
 rintro b1 k1-cq j sl K ⟨Y,hj,s3,s4,P,rZ⟩ R
 obtain⟨aL,hW,hY⟩:=Y.wk
 have hW':=hW
 obtain⟨⟨tX,uX,N,x0,x1,x2,x3,x4,x5,Z⟩,⟨ta,la,ea⟩,⟨tb,lb,eb⟩,⟨tc,lc,ec⟩⟩:=hW'
 rw[E]at x1 x2 x4 la lb lc ea eb ec
 by_cases a:j<g.length
 .have Q:j<maxLen:=by unfold maxLen;omega
  by_cases h0:(ru (gC g) j).wh j=0
  .simp[s3,P,rZ,a,N.get,x1,la.get,ea j a,h0];refine CW (apw Y (by rw[E];exact a) h0) ?_;intro v6 K6 hI6;simp[rZ,bq Q];refine R (j+1) _ _ ω ⟨by rw[alN,aq h0];exact hI6,a,by simp[s3,s4,P]⟩
  .simp[s3,P,rZ,a,N.get,x1,la.get,ea j a,h0,bq Q];exact R (j+1) _ _ ω ⟨by rw[alN,ao h0];exact Y,a,by simp[s3,s4,P]⟩
 .obtain rfl:j=g.length:=ω
  subst cq;have aaH:¬L.w=K.ab:=bC N.lt;have aaI:¬L.w=K.ab+1:=λ h=>by have:=N.lt;omega
  simp[s3,s4,P,rZ,eG,fo,wX,aaH,aaI,N.get,x4,de bK];generalize Gn:D.add (D.add K _) _=K7;have g7:I [] K K7:=by rw[<-Gn];exact(aw.add _).add _
  have hM7:yU K7 K.ab 3 (λ _=>none) 0:=by rw[<-Gn];exact .new (Lv.new.add)
  have pM:iD K7 (K.ab+1) g.length (λ x=>ae (if x<0 then(Bk (ru (gC g) g.length).cm x:Int)else 0)):=by rw[<-Gn];refine⟨_,Lv.new (H:=K.add _),λ x Z=>?_⟩;rw[Bp,aq ω];simp
  clear Gn;have lc7:=lc.ai g7;have hLC:L.C<K.ab:=lc.lt;have C9:=alM o8 g.length ω;unfold Pa zp at hQ;generalize(ru (gC g) g.length).cm=cm at*;refine CA (λ j sl f=>yU f K.ab 3 (λ z=>((kR cm j).1 z).map λ k=>ae (k:Nat)) (kR cm j).2/\iD f (K.ab+1) g.length (λ x=>ae (if x<j then(Bk cm x:Int)else 0))/\I [K.ab,K.ab+1] K7 f/\j<=g.length/\AV sl 6 (.map K.ab)/\AV sl 7 (.sl (K.ab+1) 0 1 g.length g.length true)/\AV sl 59 (.sl L.C 0 1 g.length g.length true)/\AV sl 60 (ae (g.length:Nat))/\AV sl 61 (ae (j:Nat))) g.length ⟨by simpa[kR]using hM7,pM,aw,dQ _,ζ⟩ ?_
  rintro b2 k2-dO j Hn f ⟨hM,⟨to,lo,eo⟩,g8,hj,q6,J,W4,F,o⟩ R;by_cases a:j<g.length
  .have Q:j<maxLen:=by unfold maxLen;omega
   have M:=lc7.W g8 ξ;have Ex:j+1<=g.length:=a;obtain⟨mc,ml,m1,m2,m3,m4,m5,m6⟩:=hM.ob;have aU:=abD cm j;have pQ:∀(to':CX) (K9:D),Lv K9 (K.ab+1) (.cells g.length (to.put j (some (ae (Bk cm j:Nat)))) false)->iD K9 (K.ab+1) g.length (λ x=>ae (if x<j+1 then(Bk cm x:Int)else 0)):=by
    intro _ K9 hl;refine⟨_,hl,λ x Z=>?_⟩;by_cases e:x=j
    .subst e;simp
    .rw[Tr.eR,ao e,eo x Z];have:(x<j+1)↔x<j:=ω
     simp only[this]
   cases q:(kR cm j).1 (cm j)with
   |some kk=>
    have r:kR cm (j+1)=kR cm j:=by show(if _ then _ else _)=_;rw[aq (by rw[q];rfl)]
    have hO:Bk cm j=kk:=by unfold Bk;rw[r,q];rfl
    rcases Fe (key:=.int .i64 (cm j)) (l:=ml)with⟨b,v,U,O⟩|⟨U,O⟩
    .have hv:v=ae (kk:Nat):=by rw[m3,q]at U;simpa using U.symm
     subst hv;simp[q6,J,W4,F,o,a,M.get,ec j a,m1.get,O,lo.get,Ex,bq Q];have gg:I [K.ab+1] f (f.put (K.ab+1) (some (.cells g.length (to.put j (some (ae (kk:Nat)))) false))):=aw.put (.inr ζ);refine R ω ⟨by rw[r];exact hM.W gg ζ,pQ to _ (by rw[hO];exact lo.put_eq),g8.trans (gg.mono ζ),a,by simp[q6,J,W4,F]⟩
    .rw[m3,q]at U;simp at U
   |none=>
    have r:kR cm (j+1)=(FA (kR cm j).1 (cm j) (some (kR cm j).2),(kR cm j).2+1):=by show(if _ then _ else _)=_;rw[ao (by rw[q];simp)]
    have hO:Bk cm j=(kR cm j).2:=by unfold Bk;rw[r];simp[FA]
    rcases Fe (key:=.int .i64 (cm j)) (l:=ml)with⟨b,v,U,O⟩|⟨U,O⟩
    .rw[m3,q]at U;simp at U
    .simp[q6,J,W4,F,o,a,M.get,ec j a,m1.get,O,lo.get,Ex,bq Q,abj alj m1.get,m6]
     have IS:=yU.eD (v:=ae ((kR cm j).2:Nat)) (k:=cm j) m1 m2 m3 m4 m5 ⟨by have:=(C9 j).1;omega,by have:=(C9 j).2;omega⟩;rw[q]at IS;have AS:FA (λ z=>Option.map (λ k=>ae (k:Nat)) ((kR cm j).1 z)) (cm j) (some (ae ((kR cm j).2:Nat)))=λ z=>Option.map (λ k=>ae (k:Nat)) ((kR cm (j+1)).1 z):=by funext z;rw[r];unfold FA;dsimp only;split<;>rfl
     have iW:(if(Option.map (λ k=>ae (k:Nat)) (none:Option Nat)).isSome=true then ml.length else ml.length+1)=(kR cm (j+1)).2:=by rw[r,m6];rfl
     rw[AS,iW]at IS;generalize X:D.put f K.ab _=Km at IS⊢;have gm:I [K.ab] f Km:=by rw[<-X];exact aw.put (.inr ζ)
     have lom:=lo.W gm ζ;clear X;have gg:I [K.ab+1] Km (Km.put (K.ab+1) (some (.cells g.length (to.put j (some (ae ((kR cm j).2:Nat)))) false))):=aw.put (.inr ζ);refine R ω ⟨IS.W gg ζ,pQ to _ (by rw[hO];exact lom.put_eq),g8.trans ((gm.mono ζ).trans (gg.mono ζ)),a,by simp[q6,J,W4,F]⟩
  .obtain rfl:j=g.length:=ω
   subst dO;simp[J,F,o];have hnx:=Y.base.ab;have g78:I [] K f:=ke g7 g8 ζ;refine hQ ⟨⟨[K.ab+1],.kq lo ζ (λ x Z=>?_) aF ζ (by unfold maxLen;omega),λ y G=>?_⟩,?_⟩
   .rw[eo x Z];simp[Z]
   .have:=g1.ab;simp at G;omega
   .exact g1.trans (Y.base.trans g78)
end
end Go.Proofs.YtgipmaoplfkdoaaGreatDoor
