import Derived.Test.YtgipmaoplfkdoaaGreatDoorM4
import Derived.Test.YtgipmaoplfkdoaaGreatDoorM6
set_option linter.all false
set_option maxRecDepth 100000
set_option maxHeartbeats 400000000
namespace Go.Proofs.YtgipmaoplfkdoaaGreatDoor
noncomputable section
open Go.RowKit
variable{va vb:J}{a b:List aI}{aH:AT}{x:bp}{lo:Nat}{ay:BW}{H:D}{α:Type}{s:aI}{L:List α}
section
variable{H HB:D}
def ap4(j:aW H 1 (One λ s=>str s) va a)(f:aW H 1 (One λ s=>str s) vb b):CN 211 [va,vb] H λ v K=>(∃r,v=bl r)/\H=K:=by
 refine ba arT rfl λ M k=>?_
 by_cases D:(a.length:Int)=b.length
 .have e:a.length=b.length:=ω
  simp[j.aN fw,f.aN fw,e];refine CA (λ i sl K=>H=K/\AV sl 0 va/\AV sl 1 vb/\AV sl 12 (ae b.length)/\AV sl 13 (ae i)/\i<=b.length) b.length ⟨rfl,ζ⟩ ?_
  rintro b' kk-Q i sl K ⟨rfl,h,s1,g,l,A⟩ C;by_cases d:i<b.length
  .obtain⟨id,ah,ax,ex,n,t,ro,c,rfl,q,z,y,B⟩:=j.gL (i:=i) ω;cases B;obtain⟨I,G,E,J,n2,t2,F,c2,rfl,p,w,u,o⟩:=f.gL d;cases o;have:=f.cP;by_cases he:a[i]=b[i]
   .simp[h,s1,g,l,d,e,q.get,y,z,p.get,u,w,he,bq (aT d this)];exact C ω ⟨rfl,by simp[h,s1,g,e,dz d]⟩
   .simp[h,s1,g,l,d,e,q.get,y,z,p.get,u,w,he];exact k ⟨⟨_,rfl⟩,rfl⟩
  .obtain rfl:i=b.length:=ω
   subst Q;simp[g,l];exact k ⟨⟨_,rfl⟩,rfl⟩
 .simp[j.aN fw,f.aN fw,D]
  exact k ⟨⟨_,rfl⟩,rfl⟩
def nothing(s:aI):Bool:=decide (s=lT)||decide (s=z_)
def aEZ(s:aI)(K:D):CN 278 [str s] K λ v T=>v=bl (nothing s)/\I [] K T:=by
 refine ba asI rfl λ d c=>?_;by_cases h:s=lT
 .simp[h];exact c ⟨by simp[nothing,h],aw⟩
 .by_cases U:s=z_
  .simp[U];exact c ⟨by simp[nothing,U],aw⟩
  .simp[h,U];exact c ⟨by simp[nothing,h,U],aw⟩
def aE0{L:List aI}(h:aX H 1 va (strs L) aH):CN 260 [va] H λ u K=>aX K 1 u (strs (L.filter λ s=>!nothing s)) aH/\I aH H K:=by
 refine ba asA rfl λ d c=>?_;simp;refine CW (ape (p:=nothing) h ?_) ?_
 .intro x Z K g;simp;exact aEZ x K
 rintro u K ⟨O,g⟩;simp;exact c ⟨O,g⟩
def aGs{M:AU}(Z:ku HB x M)(g:I [] HB H)(z:x.args.length<=1048576):CN 217 [.agg M] H λ u K=>aW K 1 (One λ s=>str s) u ((x.a::x.b::x.args).filter λ s=>!nothing s)/\I [] H K:=by
 refine ba arY rfl λ C y=>?_;obtain⟨va,vl,rfl,f,w,hr⟩:=Z;simp[-cX,f.cell,w.cell];generalize e:D.add _ _=H1;have c:I [] H H1:=by rw[<-e];exact(aw.add _).add _
 have o:aX H1 1 (.sl (H.ab+1) 0 1 2 2 true) (strs [x.a,x.b]) [H.ab+1]:=by rw[<-e];refine .kq (ax:=2) (Lv.new (H:=H.add _)) rfl (λ j v=>?_) aF (λ h=>by cases h) (by unfold maxLen;omega);match j,v with|0,_=>simp|1,_=>simp
 clear e;have⟨v',T,ids',r,q,d,p⟩:=KU (E:=E0) (t:=52) (x:=va) (n:=x.args.length) fw DH ω o (λ k=>f.strs (g.trans c) k) ζ (YZ _) (λ m B=>by simp at B;omega) (λ m B=>by simp at B;omega);refine zY r ?_;simp;refine CW (aE0 (L:=x.a::x.b::x.args) (by simpa using q)) ?_;rintro u K2 ⟨O,l⟩;simp;refine y ⟨O.strs,⟨aY c.ab (aY d.ab l.ab),λ i A _=>((l.get i (by have:=c.ab;have:=d.ab;omega) λ B=>?_).trans (d.get i (by have:=c.ab;omega) ξ)).trans (c.get i A ζ)⟩⟩;rcases p i B with h|h
 .simp at h;omega
 .have:=c.ab;omega
def aph(a b:Int)(l:NI lo H va ay)(W:ay.length<=1048576):CN 261 [va,ae a,ae b] H λ v K=>(∃r,v=bl r)/\H=K:=by
 refine ba asB rfl λ R N=>?_;have fin:∀r,R (bl r) H:=λ r=>N ⟨⟨r,rfl⟩,rfl⟩;by_cases O:a<0
 .simp[O];exact fin _
 by_cases U:b<0
 .simp[O,U];exact fin _
 by_cases F:(ay.length:Int)<=a
 .simp[O,U,F,l.sl.aN bK];exact fin _
 by_cases z:(ay.length:Int)<=b
 .simp[O,U,F,z,l.sl.aN bK];exact fin _
 obtain⟨h,rfl⟩:∃h:Nat,b=h:=⟨b.toNat,ω⟩;have u:h<ay.length:=ω
 obtain⟨id,ah,ax,ex,n,t,ro,rfl,D,J,I,_⟩:=l.num u;by_cases G:ay[h]=-2
 .simp[O,U,F,z,de bK,u,D.get,J,I,G];exact fin _
 have M:IntKind.wrap .i64 ((ay.length:Int)+1)=((ay.length+1:Nat):Int):=by rw[fQ ω ω];omega
 simp[O,U,F,z,de bK,u,D.get,J,I,G,M];refine bu (α:=Nat×Nat) (aJ:=λ p sl K=>H=K/\AV sl 0 (.sl id ah 1 ay.length ax ex)/\AV sl 1 (ae a)/\AV sl 2 (ae p.2)/\AV sl 34 (ae ((ay.length+1:Nat):Int))/\AV sl 35 (ae p.1)/\p.2<ay.length/\p.1<=ay.length+1) (mu:=λ p=>ay.length+1-p.1) ?_ (0,h) _ _ ?ini;case ini=>exact⟨rfl,ξ⟩
 rintro b' kk-Q ⟨i,q⟩ sl K ⟨rfl,k,s1,s2,f,d,g,A⟩ C;dsimp only at s2 d g A C;by_cases X:i<ay.length+1
 .by_cases he:a=q
  .have j:(i:Int)<(ay.length:Int)+1:=ω
   simp[s1,s2,f,d,j,he];exact fin _
  .have⟨jO,Y,P,V,n',t',T,e,w,B,c,_⟩:=l.num g;cases e;have j:(i:Int)<(ay.length:Int)+1:=ω
   by_cases y:ay[q]<0
   .simp[k,s1,s2,f,d,j,he,g,w.get,B,c,y];exact fin _
   .by_cases E:(ay.length:Int)<=ay[q]
    .simp[k,s1,s2,f,d,j,he,g,w.get,B,c,y,E,de bK];exact fin _
    .obtain⟨o,S⟩:∃o:Nat,ay[q]=o:=⟨ay[q].toNat,ω⟩;simp[k,s1,s2,f,d,j,he,g,w.get,B,c,y,E,de bK,fQ (show(-9223372036854775808:Int)<=(i:Int)+1 by omega) (show(i:Int)+1<=9223372036854775807 by omega)];exact C (i+1,o) _ _ (by simp only;omega) ⟨rfl,by simp[k,s1,f,S];omega⟩
 .obtain rfl:i=ay.length+1:=ω
  subst Q;simp[f,d];exact fin _
end
variable{K:D}{bs:List cU}{m:Nat}
def yR(s:aI):KP (.one .s) (.string s):=by simp[KP]
def IC(s:aI):Nat->List cU->Option Nat
 |_,[]=>none|i,b::l=>if b.label=s then some i else IC s (i+1) l
theorem agF{s:aI}:∀{l:List cU} {i:Nat},(∃b∈l,b.label=s)->∃k,IC s i l=some k
 |[],i,⟨b,h,_⟩=>by simp at h
 |b::l,i,⟨c,h,he⟩=>by
  simp only[IC]
  split
  .exact⟨_,rfl⟩
  .rcases cZ.1 h with rfl|h
   .contradiction
   .exact agF ⟨c,h,he⟩
structure Ao(K:D)(m:Nat)(bs:List cU)(i:Nat):Prop where
 ob:∃l,FG K m 9 (.one .s) l/\∀s,cH (.string s) l=(IC s i (bs.drop i)).map λ k=>ae (k:Int)
def Ao.W{T:D}{i:Nat}{S:AT}(h:Ao K m bs i)(g:I S K T)(c:m∉S):Ao T m bs i:=let⟨l,O,U⟩:=h.ob;⟨l,O.W g c,U⟩
def Ao.nil(h:Lv K m (.map 9 lo [])):Ao K m bs bs.length:=⟨[],⟨⟨lo,h⟩,by simp[bQ],by simp[bQ]⟩,λ s=>by simp[Ni,IC]⟩
def Ao.put(h:Ao K m bs (lo+1))(A:lo<bs.length):∃c l,Lv K m (.map 9 c l)/\∀T c',Lv T m (.map 9 c' (eD c (.string bs[lo].label) (ae (lo:Int)) l))->Ao T m bs lo:=by
 obtain⟨l,⟨⟨c,O⟩,U,F⟩,f⟩:=h.ob;refine⟨c,l,O,λ T c' d=>⟨_,⟨⟨c',d⟩,Jx (yR _) U,Dq (yR _) F⟩,λ s=>?_⟩⟩;rw[Bb (yR _) (yR _),Ox A];simp only[IC];by_cases e:bs[lo].label=s
 .rw[e];simp
 .have g:¬Value.string s=Value.string bs[lo].label:=by simpa usingλ h=>e h.symm
  rw[ao g,ao e,f]
section
variable{H HB:D}
def anm{bv:J}{dH:Nat}(cj:Nat->D->Prop)(u:∀i K,cj i K->I [] HB K)(g:aW HB 2 (p_ HB) bv bs)(k:∀i K,cj i K->∃t,Lv K dH (.cells 1 t false)/\AV t 0 bv)(o:cj bs.length H)(w:∀i (A:i<bs.length) M K,cj (i+1) K->p_ HB bs[i] M->CF E0 va [ae i,.agg M] K λ v T=>v=bl true/\cj i T):CN 176 [va,.ptr dH 0] H λ _ K=>cj 0 K:=by
 refine ba arj rfl λ G z=>?_
 have⟨t,l,d⟩:=k _ _ o
 have p:=g.cP
 have hw:IntKind.wrap .i64 ((bs.length:Int)-1)=(bs.length:Int)-1:=fQ ω (by unfold maxLen at p;omega)
 simp[l.get,d,g.aN nh,hw]
 refine bu (α:=Nat) (aJ:=λ i sl K=>cj i K/\AV sl 0 va/\AV sl 1 (.ptr dH 0)/\AV sl 3 (ae ((i:Int)-1))/\i<=bs.length) (mu:=λ i=>i) ?_ bs.length _ _ ?ini
 case ini=>exact⟨o,ζ⟩
 rintro b kk-Q i sl K ⟨c,h,s1,s3,A⟩ q
 have⟨t,l,d⟩:=k _ _ c
 cases i with
 |zero=>
  subst Q
  simp[s3]
  exact z c
 |succ i=>
  have e:((i+1:Nat):Int)-1=(i:Int):=ω
  rw[e]at s3
  obtain⟨id,ah,ax,ex,n,t',ro,M,rfl,r,C,B,y⟩:=g.at_ (i:=i) ω
  have f:=r.ai (u _ _ c)
  have j:i<bs.length:=ω
  simp[h,s1,s3,l.get,d,j,f.get,bY B,C]
  refine vM (w i j M K c y) ?_
  rintro _ T ⟨rfl,E⟩
  have F:IntKind.wrap .i64 ((i:Int)-1)=(i:Int)-1:=fQ ω (by unfold maxLen at p;omega)
  simp[s3,F]
  exact q i _ _ ω ⟨E,by simp[h,s1];omega⟩
end
variable{fn:aQ}
section
variable{n:Nat}
@[simp]def nx1:(n=n+1)=False:=ζ
@[simp]def nx2:(n=n+1+1)=False:=ξ
@[simp]def nx3:(n=n+1+1+1)=False:=ξ
@[simp]def nx4:(n=n+1+1+1+1)=False:=ξ
@[simp]def nx5:(n=n+1+1+1+1+1)=False:=ξ
@[simp]def nx6:(n=n+1+1+1+1+1+1)=False:=ξ
@[simp]def ny2:(n+1+1=n)=False:=ξ
@[simp]def ny3:(n+1+1+1=n)=False:=ξ
@[simp]def ny4:(n+1+1+1+1=n)=False:=ξ
@[simp]def ny5:(n+1+1+1+1+1=n)=False:=ξ
@[simp]def ny6:(n+1+1+1+1+1+1=n)=False:=ξ
end
def TS(bk:cU):List aI:=match bk.code.getLast? with|some x=>if x.op=14 then[]else x.eh|none=>[]
def E_(bs:List cU)(s:aI):Int:=((IC s 0 bs).getD 0:Nat)
def R6(bs:List cU)(bk:cU):BW:=AG (lK ((TS bk).map (E_ bs)))
def lh(bs:List cU):List BW:=bs.map (R6 bs)
structure sf(fn:aQ):Prop where
 ne:fn.blocks≠[]
 nb:fn.blocks.length<=64
 np:fn.params.length<=8
 code:∀bk∈fn.blocks,bk.code≠[]/\bk.code.length<=4096
 last:∀bk∈fn.blocks,∀x,bk.code.getLast?=some x->x.op=12\/x.op=13\/x.op=14
 axs:∀bk∈fn.blocks,∀x∈bk.code,∀s∈x.eh,∃b∈fn.blocks,b.label=s
 small:∀bk∈fn.blocks,∀x∈bk.code,x.args.length<=1048576/\x.eh.length<=1048576
section
variable{H HB:D}
def ann(bv:J)(d:km bv=true)(c:cellsOf bv=[bv]):CN 146 [bv] H λ v K=>K=H.add (.cells 1 (Tr.e.put 0 (some bv)) false)/\v=.fn (.func 176) [] [.ptr H.ab 0]:=by refine im aqY rfl ?_;simp[d,c]
def aov{M:AU}(Z:qe HB fn M)(g0:I [] HB H)(ok:sf fn):CN 109 [.agg M] H λ v K=>(∃sv pv,v=.dh [.agg [sv,pv],ae 0]/\GI H.ab K sv (lh fn.blocks)/\GI H.ab K pv (h_ (lh fn.blocks)))/\I [] H K:=by
 refine ba aqy rfl λ Q' hQ=>?_
 obtain⟨vp,vb,rfl,hp,hb⟩:=Z
 simp[hp.cell,hb.cell]
 rw[cE (ann vb hb.cell hb.co)]
 simp
 refine HA (gv:=.fn (.func 176) [] [.ptr (H.ab+1+1+1+1) 0]) ζ ?_
 refine⟨_,_,_,Im,?_⟩
 simp
 generalize hL:LR.mk _ _ _ _ _ _ _=L
 generalize P:D.add _ _=w
 have e5:w.ab=H.ab+7:=by rw[<-P];rfl
 have i0:∃t,Lv w H.ab (.cells 3 t false)/\bc t 0 3=some [str fn.name,vp,vb]:=by rw[<-P];exact⟨_,⟨by first|(simp[D.add];done)|(simp[D.add];omega),by first|(simp[D.jK];done)|(simp[D.jK];rfl)⟩,by simp[bc]⟩
 have i1:∃t,Lv w (H.ab+1) (.cells 2 t false):=by rw[<-P];exact⟨_,⟨by first|(simp[D.add];done)|(simp[D.add];omega),by first|(simp[D.jK];done)|(simp[D.jK];rfl)⟩⟩
 have i2:Lv w (H.ab+2) (.map 9 0 []):=by rw[<-P];exact⟨by first|(simp[D.add];done)|(simp[D.add];omega),by first|(simp[D.jK];done)|(simp[D.jK];rfl)⟩
 have i3:∃t,Lv w (H.ab+3) (.cells 1 t false)/\AV t 0 (.map (H.ab+2)):=by rw[<-P];exact⟨_,⟨by first|(simp[D.add];done)|(simp[D.add];omega),by first|(simp[D.jK];done)|(simp[D.jK];rfl)⟩,ζ⟩
 have i4:∃t,Lv w (H.ab+4) (.cells 1 t false)/\AV t 0 vb:=by rw[<-P];exact⟨_,⟨by first|(simp[D.add];done)|(simp[D.add];omega),by first|(simp[D.jK];done)|(simp[D.jK];rfl)⟩,ζ⟩
 have i5:Lv w (H.ab+5) .deferred:=by rw[<-P];exact⟨by first|(simp[D.add];done)|(simp[D.add];omega),by first|(simp[D.jK];done)|(simp[D.jK];rfl)⟩
 have i6:Lv w (H.ab+6) (LR.ob L .ready none):=by rw[<-P];exact Lv.new
 have g5:I [] H w:=by rw[<-P];refine I.add (I.add (I.add (I.put (I.add (I.add (I.add (I.add aw _) _) _) _) (.inl ?_)) _) _) _;first|omega|(simp[D.add];omega)
 clear P
 have eL:L.ps=[19,20]/\L.size=103:=by rw[<-hL];exact⟨rfl,rfl⟩
 have⟨t0,i0,r0⟩:=i0
 have⟨t1,i1⟩:=i1
 have⟨t3,i3,r3⟩:=i3
 have⟨t4,i4,r4⟩:=i4
 have Ls:I [] HB w:=g0.trans g5
 have LH:=g0.ab
 refine(anm (HB:=HB) (bs:=fn.blocks) (bv:=vb) (dH:=H.ab+4) (λ i K=>I [H.ab+2,H.ab+6] w K/\Ao K (H.ab+2) fn.blocks i/\Lv K (H.ab+6) (LR.ob L .ready none)) (λ i K hJ=>⟨aY Ls.ab hJ.1.ab,λ j f _=>(hJ.1.get j (by have:=Ls.ab;omega) ξ).trans (Ls.get j f ζ)⟩) hb (λ i K hJ=>⟨t4,i4.W hJ.1 ζ,r4⟩) ⟨aw,Ao.nil i2,i6⟩ ?_).mono ?_
 .rintro i A M K ⟨h,hl,k6⟩ hR
  obtain⟨vc,rfl,bX⟩:=hR;simp;refine Hu (λ Y K1=>∃s t6,Y=⟨s,103,[],some (H.ab+6),109⟩/\s.get 4=some (.ptr (H.ab+3) 0)/\s.get 5=some (ae i)/\s.get 6=some (.ptr K.ab 0)/\I [] K K1/\Lv K1 K.ab (.cells 2 t6 false)/\AV t6 0 (str fn.blocks[i].label)) k6.get (by rw[eL.1];rfl) (by rw[eL.1,eL.2];simp) ?_ ?_
  .rw[<-hL];simp[bX.cell];exact⟨I.new aw _ _,_,(Lv.new (H:=K)).put_eq,ζ⟩
  .rintro Y K1 ⟨s,t6,rfl,z,s5,s6,fY,q6,r6⟩;refine⟨none,L,(k6.ai fY).get,?_⟩;have eO:=k6.lt;have R:I [H.ab+6] K1 (K1.put (H.ab+6) (some (LR.ob L .busy none))):=aw.put (.inr ζ);have m6:=q6.W R ξ;have m3:=((i3.W h ζ).ai fY).W R ζ;have m5:=(k6.ai fY).put_eq (o':=LR.ob L .busy none);have ck:=(hl.W fY ζ).W R ζ;have r:I [H.ab+2,H.ab+6] w (K1.put (H.ab+6) (some (LR.ob L .busy none))):=(h.trans (fY.mono ζ)).trans (R.mono ζ);generalize K1.put (H.ab+6) (some (LR.ob L .busy none))=K2 at m6 m3 m5 ck r;have⟨c,l,Mk,fO⟩:=ck.put A;rw[<-iQ LR.bd hL];dsimp only;simp[z,s5,s6,m3.get,r3,m6.get,r6,Mk.get];refine⟨_,_,L,(m5.eu ω).get,rfl,?_,?_,?_⟩
   .exact(r.put (.inr ζ)).put (.inr ζ)
   .exact(fO _ _ Mk.put_eq).W ((I.refl [H.ab+6] _).put (.inr ζ)) ζ
   .exact(m5.eu ω).put_eq
 .rintro _ K ⟨h,hl,k6⟩
  refine⟨_,_,L,k6.get,ζ,?_⟩;show aD E0 _ _ _ _;have R:I [H.ab+6] K (K.put (H.ab+6) (some (LR.ob L .exhausted none))):=aw.put (.inr ζ);have ck:=hl.W R ζ;have r:I [H.ab+2,H.ab+6] w (K.put (H.ab+1+1+1+1+1+1) (some (LR.ob L .exhausted none))):=h.trans (R.mono ζ);replace ck:Ao (K.put (H.ab+1+1+1+1+1+1) (some (LR.ob L .exhausted none))) (H.ab+2) fn.blocks 0:=ck;generalize K.put (H.ab+1+1+1+1+1+1) (some (LR.ob L .exhausted none))=d at ck r;clear h hl k6 R;have⟨_,_,v2⟩:=uE r0;have j0:=i0.W r ζ;have j1:=i1.W r ζ;have j3:=i3.W r ζ;have ED:=ok.nb;have bR:fn.blocks.length*24<=140737488355328:=ω
  have eG:fn.blocks.length<=9223372036854775807:=ω
  have fo:24*fn.blocks.length<=140737488355328:=ω
  have aab:I [] HB d:=⟨aY Ls.ab r.ab,λ j f _=>(r.get j (by have:=Ls.ab;omega) ξ).trans (Ls.get j f ζ)⟩;have gH9:I [] H d:=⟨aY g5.ab r.ab,λ j f _=>(r.get j (by have:=g5.ab;omega) ξ).trans (g5.get j f ζ)⟩;have LI:H.ab+7<=d.ab:=by have:=r.ab;omega
  have hx9:¬H.ab=d.ab:=ω
  simp[j0.get,v2,hb.aN nh,eG,fo,wX,hx9];generalize IQ:D.add _ _=C;have n10:C.ab=d.ab+1:=by rw[<-IQ];rfl
  have D_:I [] d C:=by rw[<-IQ];exact aw.add _
  have oG:mh C d.ab C.ab fn.blocks.length λ _=>[]:=mh.init (t:=Tr.px [.lit (.slice none 0 0)] 1 fn.blocks.length 0 Tr.e) (λ x Z=>by rw[Bp,aq ω]) (by rw[<-IQ];exact Lv.new);have j0:=j0.ai D_;have j1:=j1.ai D_;have j3:=j3.ai D_;have fF:=ck.W D_ ζ;have Lt:=aab.trans D_;have PH:=gH9.trans D_;clear IQ;refine CA (λ i sl K=>I [d.ab] C K/\mh K d.ab C.ab fn.blocks.length (λ x=>if x<i then(lh fn.blocks)[x]?.getD []else[])/\AV sl 1 (.ptr H.ab 0)/\AV sl 2 (.ptr (H.ab+1) 0)/\AV sl 4 (.ptr (H.ab+3) 0)/\AV sl 7 (.sl d.ab 0 1 fn.blocks.length fn.blocks.length true)/\AV sl 30 vb/\AV sl 31 (ae fn.blocks.length)/\AV sl 32 (ae i)/\i<=fn.blocks.length) fn.blocks.length ⟨aw,oG.congr λ x Z=>ζ,ζ⟩ ?_
  rintro b1 k1-cq i sl K ⟨h,o,s1,s2,z,p,N,F,O,A⟩ ih;have Mn:∀{j},j<H.ab+7->j∉[d.ab]:=by intro j f;simp;omega
  have l0:=j0.W h (Mn ω);have l1:=j1.W h (Mn ω);have l3:=j3.W h (Mn ω);have ag4:I [] HB K:=⟨aY Lt.ab h.ab,λ j f _=>(h.get j (by have:=Lt.ab;omega) (by have:=aab.ab;simp;omega)).trans (Lt.get j f ζ)⟩;by_cases g:i<fn.blocks.length
  .have⟨kQ,ig,kD,iR,n1,ta,py,kE,dc,cT,iy,eZ,eI⟩:=hb.at_ g;obtain⟨vc,rfl,bX⟩:=eI;have iJ:=cT.ai ag4;have xW:fn.blocks[i]∈fn.blocks:=cG g;have⟨L9,eN⟩:=ok.code _ xW;have zI:=ok.last _ xW;have ahS:=ok.axs _ xW;have Dd:=ok.small _ xW;have MC:(lh fn.blocks)[i]?.getD []=R6 fn.blocks fn.blocks[i]:=by simp[lh,g]
   unfold R6 TS at MC;generalize fn.blocks[i]=bk at eZ bX xW L9 eN zI ahS Dd MC;have ahz:0<bk.code.length:=za.2 L9;have wE:¬bk.code.length=0:=ω
   obtain⟨x,GR⟩:∃x,bk.code.getLast?=some x:=⟨_,YG L9⟩;have hxm:=KH GR;have bP:=zI x GR;have⟨lJ,lU,rN,kY,n2,tb,qW,mR,fp,kP,gV,iz,iv⟩:=bX.at_ (i:=bk.code.length-1) ω;have hxe:bk.code[bk.code.length-1]=x:=by rw[KG]at GR;exact(cW.1 GR).2
   rw[hxe]at iv;obtain⟨va,vl,rfl,zF,EA,mY⟩:=iv;have U8:=kP.ai ag4;have Df:IntKind.wrap .i64 ((bk.code.length:Int)-1)=((bk.code.length-1:Nat):Int):=by rw[fQ ω ω];omega
   have og:bk.code.length-1<bk.code.length:=ω
   have zZ:¬lJ=K.ab:=by have:=U8.lt;omega
   have Re:¬lJ=K.ab+1:=by have:=U8.lt;omega
   rw[GR]at MC;dsimp only at MC;have MM:x.op=14\/x.op≠14:=ω
   rcases bP with LD|LD|PV;rotate_left 2
   .have⟨tq,u,aH,J,q2,X,q4,q5,q6⟩:=o.use g;have n3:¬d.ab=K.ab:=by have:=J.lt;omega
    have n4:¬d.ab=K.ab+1:=by have:=J.lt;omega
    simp[-cX,J.get,q2,X.cell,n3,n4,s1,s2,z,p,N,F,O,g,dc,iJ.get,bY eZ,iy,bX.cell,de nT,de nh,L9,wE,Df,og,fp,U8.get,bY iz,gV,zF.cell,EA.cell,zZ,Re,EA.aN fw,PV];generalize dU:D.put _ _ _=Ka;have ga:I [] K Ka:=by rw[<-dU];exact I.new (I.new aw _ _) _ _
    clear dU;have k:I [d.ab] C Ka:=h.trans (ga.mono ζ);have yu:IntKind.wrap .i64 ((i:Int)+1)=(i:Int)+1:=bq (by unfold maxLen;omega);have q3a:aX Ka 1 u (aZ []) aH:=by have:=X.W ga ζ;simpa using this
    refine CW (XQ aau q3a ζ) ?_;rintro _ K6 ⟨rfl,p3,pg⟩;have o6:=q6 K6 _ ((ga.mono ζ).trans pg) p3;have⟨tq,u2,wP,Bn,q2',W3,Rz,V,q6'⟩:=o6.use g;have IK:I [d.ab] C K6:=⟨aY k.ab pg.ab,λ j f E=>(pg.get j (by have:=k.ab;omega) λ B=>by have:=q4 _ B;omega).trans (k.get j f E)⟩;simp[s1,s2,z,p,N,F,O,g,Bn.get,q2',W3.cell];refine CW (Zz W3) ?_;rintro v7 K7 ⟨c7,Q⟩;have jf:=o6.il;have q17:=Bn.W Q λ B=>by have:=Rz _ B;omega
    have o7:=V K7 v7 _ wP Q c7 (λ y G=>.inl G);simp[s1,s2,z,p,N,F,O,g,q17.get,c7.cell,c7.co,dz g,yu];refine ih ω ⟨⟨aY IK.ab Q.ab,λ j f E=>?_⟩,o7.congr λ y G=>?_,by simp[s1,s2,z,p,N,F,dc];omega⟩
    .rw[D.eR,ao (by simpa using E)];exact(Q.get j (by have:=IK.ab;omega) λ B=>by have:=Rz _ B;omega).trans (IK.get j f E)
    .by_cases e:y=i
     .subst e;simp[MC,PV]
     .simp only[ao e];by_cases e2:y<i
      .rw[aq e2,aq ω]
      .rw[ao e2,ao ω]
   all_goals
    simp[-cX,N,F,O,g,dc,iJ.get,bY eZ,iy,de nT,wE,Df,og,fp,U8.get,bY iz,gV,zF.cell,EA.cell,zZ,EA.aN fw,LD];generalize dU:D.put _ _ _=Ka;have ga:I [] K Ka:=by rw[<-dU];exact I.new (I.new aw _ _) _ _
    clear dU;have oa:=o.W ga ζ;have gKa:I [d.ab] C Ka:=h.trans (ga.mono ζ);refine bu (α:=Nat) (aJ:=λ m sl T=>I [d.ab] C T/\mh T d.ab C.ab fn.blocks.length (λ y=>if y=i then(x.eh.take m).map (E_ fn.blocks)else if y<i then(lh fn.blocks)[y]?.getD []else[])/\AV sl 1 (.ptr H.ab 0)/\AV sl 2 (.ptr (H.ab+1) 0)/\AV sl 4 (.ptr (H.ab+3) 0)/\AV sl 7 (.sl d.ab 0 1 fn.blocks.length fn.blocks.length true)/\AV sl 8 (ae i)/\AV sl 30 vb/\AV sl 31 (ae fn.blocks.length)/\AV sl 32 (ae i)/\AV sl 57 vl/\AV sl 58 (ae x.eh.length)/\AV sl 59 (ae m)/\m<=x.eh.length) (mu:=λ m=>x.eh.length-m) ?_ 0 _ _ ?inih12;case inih12=>
     refine⟨gKa,oa.congr λ y G=>?_,by simp[s1,s2,z,p,N,F,O,dc]⟩;by_cases e:y=i
     .subst e;simp
     .simp[e]
    clear s1 s2 z p N F O;rintro b2 k2-dO m sl Kb ⟨k,oT,s1,s2,z,p,s8,N,F,O,s57,U,S,B⟩ eJ;have yu:IntKind.wrap .i64 ((i:Int)+1)=(i:Int)+1:=bq (by unfold maxLen;omega);have oo:=(Dd x hxm).2;by_cases jA:m<x.eh.length
    .have⟨GS,azU,an6,exl,nl,tl,rol,cl,mO,sJ,aaw,aaQ,⟨IV,_⟩⟩:=EA.gL jA;cases IV;have aty:I [] HB Kb:=⟨aY Lt.ab k.ab,λ j f _=>(k.get j (by have:=Lt.ab;omega) (by have:=aab.ab;simp;omega)).trans (Lt.get j f ζ)⟩;have avq:=sJ.ai aty;have l3b:=j3.W k (Mn ω);obtain⟨lm,⟨⟨cm,EB⟩,_,_⟩,hm4⟩:=(fF.W k (Mn ω)).ob;have⟨fJ,Mh⟩:=agF (i:=0) (ahS x hxm _ (cG jA));have dG:=hm4 x.eh[m];rw[SQ,Mh]at dG;obtain⟨bb,cN⟩:∃bb,lk (.string x.eh[m]) lm=some (bb,ae (fJ:Int)):=by unfold cH at dG;cases hq:lk (.string x.eh[m]) lm with|none=>rw[hq]at dG;cases dG|some q=>rw[hq]at dG;have⟨J,q2⟩:=q;simp at dG;exact⟨J,by rw[dG]⟩
     have avj:E_ fn.blocks x.eh[m]=(fJ:Int):=by unfold E_;rw[Mh];rfl
     have⟨tq,u,aH,J,q2,X,q4,q5,q6⟩:=oT.use g;simp[-cX,z,p,s8,s57,U,S,jA,mO,avq.get,aaw,aaQ,l3b.get,r3,EB.get,cN,g,J.get,q2];have MK:((x.eh.take m).map (E_ fn.blocks)).length<=1048576:=by rw[bW,eK];omega
     rw[aq rfl]at X;refine vL (c:=ae (fJ:Int)) bK qF X rfl (by rw[bW];omega) (by rw[bW];omega) ?_;intro v' T wP p1 p2 p3;have Bn:=J.W p2 λ B=>by have:=q4 _ B;have:=oT.il;omega
     simp[p1.cell,p1.co,S,Bn.get,g,dz g,fQ (show(-9223372036854775808:Int)<=(m:Int)+1 by omega) (show(m:Int)+1<=9223372036854775807 by omega)];have e1:(x.eh.take (m+1)).map (E_ fn.blocks)=(x.eh.take m).map (E_ fn.blocks)++[(fJ:Int)]:=by rw[mI,bf jA,lF];simp[avj]
     have fH:=q5 T v' ((x.eh.take (m+1)).map (E_ fn.blocks)) wP p2 (by rw[e1];show aX T 1 v' (List.map _ _) wP;rw[lF];exact p1) p3;have jf:=oT.il;refine eJ (m+1) _ _ ω ⟨⟨aY k.ab p2.ab,λ j f E=>?_⟩,fH.congr λ y G=>?_,by simp[s1,s2,z,p,s8,N,F,O,s57,U,mO];omega⟩
     .rw[D.eR,ao (by simpa using E)];exact(p2.get j (by have:=k.ab;omega) λ B=>by have:=q4 _ B;omega).trans (k.get j f E)
     .by_cases e:y=i<;>simp[e]
    .obtain rfl:m=x.eh.length:=ω
     subst dO;rw[iF]at oT;simp[U,S];have aHW:(x.eh.map (E_ fn.blocks)).length<=1152921504606846976:=by rw[bW];omega
     have⟨tq,u,aH,J,q2,X,q4,q5,q6⟩:=oT.use g;simp[p,s8,g,J.get,q2];refine CW (XQ aau X ξ) ?_;rintro _ K6 ⟨rfl,p3,pg⟩;have o6:=q6 K6 _ pg p3;have⟨tq,u2,wP,Bn,q2',W3,Rz,V,q6'⟩:=o6.use g;have IK:I [d.ab] C K6:=⟨aY k.ab pg.ab,λ j f E=>(pg.get j (by have:=k.ab;omega) λ B=>by have:=q4 _ B;omega).trans (k.get j f E)⟩;simp[p,s8,g,Bn.get,q2'];refine CW (Zz W3) ?_;rintro v7 K7 ⟨c7,Q⟩;have jf:=o6.il;have q17:=Bn.W Q λ B=>by have:=Rz _ B;omega
     have o7:=V K7 v7 _ wP Q c7 (λ y G=>.inl G);simp[O,g,q17.get,c7.cell,c7.co,dz g,yu];refine ih ω ⟨⟨aY IK.ab Q.ab,λ j f E=>?_⟩,o7.congr λ y G=>?_,by simp[s1,s2,z,p,N,F];omega⟩
     .rw[D.eR,ao (by simpa using E)];exact(Q.get j (by have:=IK.ab;omega) λ B=>by have:=Rz _ B;omega).trans (IK.get j f E)
     .by_cases e:y=i
      .subst e;simp[MC,LD]
      .simp only[ao e];by_cases e2:y<i
       .rw[aq e2,aq ω]
       .rw[ao e2,ao ω]
  .obtain rfl:i=fn.blocks.length:=ω
   subst cq;simp[F,O,p];have hgs:GI d.ab K (.sl d.ab 0 1 fn.blocks.length fn.blocks.length true) (lh fn.blocks):=o.gi (by unfold maxLen;omega) (by simp[lh]) (λ i A=>by
    have dJ:i<fn.blocks.length:=by simpa[lh]using A
    simp[dJ,A]) aF
   have auU:∀l∈lh fn.blocks,l.length<=1048576:=by
    intro l hl;obtain⟨bk,cJ,rfl⟩:=jn.1 hl;unfold R6;refine aY ZG ?_;rw[M5,bW];unfold TS;cases hq:bk.code.getLast? with
    |none=>simp
    |some x=>
     dsimp only
     split
     .simp
     .exact(ok.small bk cJ x (KH hq)).2
   refine CW (afO (hgs.mono (dQ _)) (by simp[lh];omega) auU) ?_;rintro pv K2 ⟨wM,g2⟩;have A_:=l1.ai g2;have l5':=((((i5.W r ζ).ai D_).W h (Mn ω)).ai g2);simp[s2,wM.sl.cell,wM.sl.co,A_.get,l5'.get];have gf:I [H.ab+1,H.ab+5] K2 ((K2.put (H.ab+1) (some (.cells 2 ((t1.put 0 (some (.sl d.ab 0 1 fn.blocks.length fn.blocks.length true))).put 1 (some pv)) false))).put (H.ab+5) none):=(aw.put (.inr ζ)).put (.inr ζ);have gV:=g2.ab;have U_:=h.ab;refine hQ ⟨⟨_,_,rfl,(hgs.ai g2|>.IM gf ξ).mono ω,(wM.IM gf ξ).mono ω⟩,?_⟩;exact⟨by have:=PH.ab;show H.ab<=K2.ab;omega,λ j f _=>((gf.get j (by have:=PH.ab;omega) ξ).trans (g2.get j (by have:=PH.ab;omega) ζ)).trans ((h.get j (by have:=PH.ab;omega) ξ).trans (PH.get j f ζ))⟩
end
structure se(K:D)(m:Nat):Prop where
 ob:∃l,FG K m 9 (.one .s) l/\∀s v,cH (.string s) l=some v->∃a b:Int,v=.agg [ae a,ae b]
def se.W{T:D}{S:AT}(h:se K m)(g:I S K T)(c:m∉S):se T m:=let⟨l,O,U⟩:=h.ob;⟨l,O.W g c,U⟩
def se.nil(h:Lv K m (.map 9 lo [])):se K m:=⟨[],⟨⟨lo,h⟩,by simp[bQ],by simp[bQ]⟩,λ s v h=>by simp[Ni]at h⟩
def se.put(h:se K m):∃c l,Lv K m (.map 9 c l)/\∀T c' s (a b:Int),Lv T m (.map 9 c' (eD c (.string s) (.agg [ae a,ae b]) l))->se T m:=by
 obtain⟨l,⟨⟨c,O⟩,U,F⟩,f⟩:=h.ob;refine⟨c,l,O,λ T c' s a b e=>⟨_,⟨⟨c',e⟩,Jx (yR _) U,Dq (yR _) F⟩,λ s' v d=>?_⟩⟩;rw[Bb (yR _) (yR _)]at d;split at d
 .cases d;exact⟨a,b,rfl⟩
 .exact f s' v d
def se.use(h:se K m)(s:aI):∃c l,Lv K m (.map 9 c l)/\(lk (.string s) l=none\/∃i,∃a b:Int,lk (.string s) l=some (i,.agg [ae a,ae b])):=by
 obtain⟨l,⟨⟨c,O⟩,U,F⟩,g⟩:=h.ob;refine⟨c,l,O,?_⟩;cases f:lk (.string s) l with
 |none=>exact .inl rfl
 |some q=>
  have⟨e,d⟩:=q
  obtain⟨a,b,rfl⟩:=g s d (by unfold cH;rw[f];rfl)
  exact .inr ⟨e,a,b,rfl⟩
structure tA(HB K:D)(id:Nat)(fn:aQ):Prop where
 ob:∃t vp vb sv pv tv m ay,Lv K id (.cells 7 t false)/\AV t 0 (str fn.name)/\AV t 1 vp/\AV t 2 vb/\AV t 3 sv/\AV t 4 pv/\AV t 5 tv/\AV t 6 (.map m)/\
  aW HB 1 xm vp fn.params/\aW HB 2 (p_ HB) vb fn.blocks/\GI 0 K sv (lh fn.blocks)/\GI 0 K pv (h_ (lh fn.blocks))/\NI 0 K tv ay/\ay.length=fn.blocks.length/\se K m
def tA.W{HB T:D}{id:Nat}(h:tA HB K id fn)(g:I [] K T):tA HB T id fn:=by have⟨t,vp,vb,sv,pv,tv,m,ay,O,a0,l,k,a3,a4,a5,j,U,F,i,f,e,d,c⟩:=h.ob;exact⟨t,vp,vb,sv,pv,tv,m,ay,O.ai g,a0,l,k,a3,a4,a5,j,U,F,i.ai g,f.ai g,e.ai g,d,c.W g ζ⟩
def Sm(HB:D)(lo:Nat)(K:D)(id:Nat)(fn:aQ):Prop:=∀T,I (List.range lo) K T->tA HB T id fn
def akT(ok:sf fn):∀l∈lh fn.blocks,l.length<=1048576:=by
 intro l d;obtain⟨bk,e,rfl⟩:=jn.1 d;unfold R6;refine aY ZG ?_;rw[M5,bW];unfold TS;cases c:bk.code.getLast? with
 |none=>simp
 |some x=>
  dsimp only
  split
  .simp
  .exact(ok.small bk e x (KH c)).2
def NI.mono{lo Bc:Nat}{v:J}{l:BW}(h:NI lo K v l)(c:Bc<=lo):NI Bc K v l:=⟨h.sl,h.ge.mono c⟩
theorem Ll:∀{l:AU},(∀v∈l,xO v v=true)->fy (.agg l) (.agg l)=true
 |[],_=>rfl
 |v::l,h=>by
  have e:fy (.agg (v::l)) (.agg (v::l))=aB false (fy (.agg l) (.agg l)) (xO v v):=rfl
  rw[e,h v ζ,Ll λ w hw=>h w (by simp[hw])];rfl
def aW.nC{R:α->AU->Prop}(h:aW H lo R va L):Go.Proofs.YtgipmaoplfkdoaaGreatDoor.xO va va=true:=by have:=h.fy;cases h<;>exact this
def Pk:xO (str s) (str s)=true:=agn
section
variable{H HB:D}
def aE9{M:AU}(Z:qe HB fn M)(g0:I [] HB H)(ok:sf fn):CN 126 [.agg M] H λ v K=>(∃id,v=.ptr id 0/\Sm HB H.ab K id fn)/\I [] H K:=by
 refine ba aqH rfl λ Q' hQ=>?_
 have iX:=Z
 obtain⟨vp,vb,rfl,u,w⟩:=Z
 simp[u.cell,w.cell]
 generalize aP:D.add _ _=H1
 have l1:∃t,Lv H1 H.ab (.cells 3 t false)/\bc t 0 3=some [str fn.name,vp,vb]:=by rw[<-aP];exact⟨_,Lv.new,by simp[bc]⟩
 have g1:I [] H H1:=by rw[<-aP];exact aw.add _
 clear aP
 have⟨t1,l1,r1⟩:=l1
 have⟨v0,v1,v2⟩:=uE r1
 refine CW (aov iX (g0.trans g1) ok) ?_
 rintro _ e ⟨⟨sv,pv,rfl,J,wM⟩,fY⟩
 have Y:=l1.ai fY
 have n1:¬H.ab=e.ab:=bC Y.lt
 simp[J.sl.cell,wM.sl.cell,Y.get,bY r1,n1]
 generalize X:D.add _ _=p
 have n3:p.ab=e.ab+2:=by rw[<-X];rfl
 have z:I [] e p:=by rw[<-X];exact(I.new aw _ _).add _
 have l3:∃t,Lv p e.ab (.cells 2 t false)/\bc t 0 2=some [sv,pv]:=by rw[<-X];exact⟨_,Lv.new.put_eq.add,by simp[bc]⟩
 have m3:se p (e.ab+1):=by rw[<-X];exact se.nil (Lv.new (H:=(e.add _).put _ _))
 clear X
 have⟨t3,l3,e3⟩:=l3
 have oo:(lh fn.blocks).length=fn.blocks.length:=by simp[lh]
 have ED:=ok.nb
 have cR:0<fn.blocks.length:=za.2 ok.ne
 have PF:I [] H p:=(g1.trans fY).trans z
 refine CW (aFB (root:=0) ((J.ai z).mono (dQ _)) ω (akT ok) ω) ?_
 rintro tv g ⟨⟨ay,hTl,hT⟩,E⟩
 have V:=Y.ai (z.trans E)
 have l34:=l3.ai E
 have m4:=m3.W E ζ
 simp
 have q1:fy (.agg [str fn.name,vp,vb]) (.agg [str fn.name,vp,vb])=true:=Ll λ v k=>by
  simp only[cZ,xu,xD]at k;rcases k with rfl|rfl|rfl
  .exact Pk
  .exact u.nC
  .exact w.nC
 have q2:fy (.agg [sv,pv]) (.agg [sv,pv])=true:=Ll λ v k=>by
  simp only[cZ,xu,xD]at k;rcases k with rfl|rfl
  .exact J.sl.nC
  .exact wM.sl.nC
 refine dF ?_ ?_
 .simp[dm,val,V.get,bY r1,l34.get,bY e3,q1,q2]
 have n14:¬H.ab=g.ab:=bC V.lt
 simp[hT.sl.cell,hT.sl.co,u.cell,w.cell,J.sl.cell,wM.sl.cell,n14,V.get,v1,u.aN fw]
 generalize iS:D.add _ _=h
 have n5:h.ab=g.ab+1:=by rw[<-iS];rfl
 have Q:I [] g h:=by rw[<-iS];exact aw.add _
 have G:∃t,Lv h g.ab (.cells 7 t false)/\AV t 0 (str fn.name)/\AV t 1 vp/\AV t 2 vb/\AV t 3 sv/\AV t 4 pv/\AV t 5 tv/\AV t 6 (.map (e.ab+1)):=by rw[<-iS];exact⟨_,Lv.new,ζ⟩
 have m5:=m4.W Q ζ
 have l15:=V.ai Q
 clear iS
 have⟨t5,G,f0,f1,f2,f3,f4,f5,f6⟩:=G
 have y:I [] H h:=(PF.trans E).trans Q
 have aH7:=V.lt
 have aHX:=E.ab
 have mM:=z.ab
 have U_:=fY.ab
 have iy:=g1.ab
 have kg:g.ab∉[e.ab+1]:=ξ
 have avD:H.ab∉[e.ab+1]:=by have:=Y.lt;simp;omega
 have fin:∀K,I [e.ab+1] h K->se K (e.ab+1)->Sm HB H.ab K g.ab fn/\I [] H K:=by
  intro K d hd;have CT:=E.trans Q;have hS:∀x∈[e.ab+1],x<p.ab:=ξ
  have hT':NI p.ab K tv ay:=(hT.ai Q).W d hS;have Jl:I [] e K:=⟨aY (z.trans CT).ab d.ab,λ j N _=>(d.get j (by have:=(z.trans CT).ab;omega) ξ).trans ((z.trans CT).get j N ζ)⟩;refine⟨λ T R=>?_,(g1.trans fY).trans Jl⟩;have hr:∀x∈List.range H.ab,x<H1.ab:=λ x Z=>by have:=mj.1 Z;omega
  have oi:∀x∈List.range H.ab,x<p.ab:=λ x Z=>by have:=mj.1 Z;omega
  exact⟨t5,vp,vb,sv,pv,tv,e.ab+1,ay,(G.W d kg).W R ξ,f0,f1,f2,f3,f4,f5,f6,u,w,((J.ai Jl).IM R hr).mono (dQ _),((wM.ai Jl).IM R hr).mono (dQ _),(hT'.W R oi).mono (dQ _),by rw[hTl,oo],hd.W R ξ⟩
 refine bu (α:=Nat) (aJ:=λ j sl K=>I [e.ab+1] h K/\se K (e.ab+1)/\AV sl 1 (.ptr H.ab 0)/\AV sl 5 (.ptr g.ab 0)/\AV sl 26 vp/\AV sl 27 (ae fn.params.length)/\AV sl 28 (ae j)/\j<=fn.params.length) (mu:=λ j=>fn.params.length-j) ?_ 0 _ _ ?ini
 case ini=>exact⟨aw,m5,ζ⟩
 have LH:∀{K},I [e.ab+1] h K->I [] HB K:=λ {K} d=>g0.trans (⟨aY y.ab d.ab,λ j N _=>(d.get j (by have:=y.ab;omega) ξ).trans (y.get j N ζ)⟩:I [] H K)
 rintro b1 k1-cq j sl K ⟨d,hd,s1,f,uH,mG,lZ,N⟩ ih
 by_cases C:j<fn.params.length
 .have⟨id,ah,ax,ex,n,t,ro,c,k,hl,aU,bU,⟨IV,_⟩⟩:=u.gL C
  cases IV;have hlK:=hl.ai (LH d);have Jy:=G.W d kg;have⟨c,l,B,fO⟩:=hd.put;simp[f,uH,mG,lZ,C,k,hlK.get,bU,aU,Jy.get,f6,B.get,bq (aT C u.cP)];exact ih (j+1) _ _ ω ⟨d.put (.inr ζ),fO _ _ _ _ _ B.put_eq,by simp[s1,f,uH,mG,k];omega⟩
 obtain rfl:j=fn.params.length:=ω
 subst cq
 clear ih
 have S:=l15.W d avD
 simp[s1,mG,lZ,S.get,v2,w.aN nh]
 refine CA (λ i sl K=>I [e.ab+1] h K/\se K (e.ab+1)/\AV sl 5 (.ptr g.ab 0)/\AV sl 40 vb/\AV sl 41 (ae fn.blocks.length)/\AV sl 42 (ae i)/\i<=fn.blocks.length) fn.blocks.length ⟨d,hd,by simp[f]⟩ ?_
 clear s1 f uH mG lZ S hd d
 rintro b1 k1-cq i sl K ⟨d,hd,f,F,q,r,A⟩ ih
 by_cases C:i<fn.blocks.length
 .have⟨kQ,ig,kD,iR,n1,ta,py,kE,dc,cT,iy,eZ,eI⟩:=w.at_ C
  obtain⟨vc,rfl,bX⟩:=eI;have iJ:=cT.ai (LH d);simp[F,q,r,C,dc,iJ.get,bY eZ,iy,bX.cell,bX.aN nT];have gn:=λ o o'=>I.new (I.refl [] K) o o';refine CA (λ j sl K=>I [e.ab+1] h K/\se K (e.ab+1)/\AV sl 5 (.ptr g.ab 0)/\AV sl 8 (ae i)/\AV sl 40 vb/\AV sl 41 (ae fn.blocks.length)/\AV sl 42 (ae i)/\AV sl 48 vc/\AV sl 49 (ae fn.blocks[i].code.length)/\AV sl 50 (ae j)/\j<=fn.blocks[i].code.length) (fn.blocks[i].code.length) ⟨d.trans ((gn _ _).mono ζ),hd.W (gn _ _) ζ,by simp[f,F,q,r,dc]⟩ ?_
  clear f F q r;rintro b2 k2-dO j sl K ⟨d,hd,f,s8,F,q,r,yL,pX,vS,N⟩ eJ;by_cases dK:j<fn.blocks[i].code.length
  .have⟨lJ,lU,rN,kY,n2,tb,qW,mR,fp,ck,gV,iz,iv⟩:=bX.at_ dK;have⟨va,vl,aan,zF,EA,_⟩:=iv;subst aan;have kP:=ck.ai (LH d);have Jy:=G.W d kg;have⟨c,l,B,fO⟩:=hd.put;have P:=λ o o'=>I.new (I.refl [] K) o o';have qD:¬g.ab=K.ab:=bC Jy.lt;have sT:¬e.ab+1=K.ab:=bC B.lt;simp[f,s8,yL,pX,vS,dK,fp,kP.get,bY iz,gV,zF.cell,EA.cell,Jy.get,f6,B.get,qD,sT,bq (aT dK bX.cP)];exact eJ ω ⟨(d.trans ((P _ _).mono ζ)).put (.inr ζ),fO _ _ _ _ _ ((B.ai (P _ _)).put_eq),by simp[f,s8,F,q,r,yL,pX,fp];omega⟩
  .obtain rfl:j=fn.blocks[i].code.length:=ω
   subst dO;simp[pX,vS,r,bq (aT C w.cP)];exact ih ω ⟨d,hd,by simp[f,F,q];omega⟩
 .obtain rfl:i=fn.blocks.length:=ω
  subst cq;simp[q,r,f];have⟨O,U⟩:=fin K d hd;exact hQ ⟨⟨_,rfl,O⟩,U⟩
end
end
end Go.Proofs.YtgipmaoplfkdoaaGreatDoor
