import Derived.Test.YtgipmaoplfkdoaaGreatDoorM6
set_option linter.all false
set_option maxRecDepth 100000
set_option maxHeartbeats 400000000
namespace Go.Proofs.YtgipmaoplfkdoaaGreatDoor
noncomputable section
open Go.RowKit
variable{s:(Nat->Bool)×AT}{k:Int}{x:Nat}{g:List BW}{K:D}{fv:J}{Y:BW}
inductive Rch(g:List (List Int)):Nat->Nat->Prop
 |refl (a:Nat):Rch g a a|step {a b c:Nat}:Rch g a b->c<g.length->(c:Int)∈g.getD b []->Rch g a c
def Rcf(g:List BW)(Y:BW)(x:Nat):Prop:=∃k:Nat,(k:Int)∈Y/\k<g.length/\Rch g k x
def ZO(n:Nat)(s:(Nat->Bool)×AT)(k:Int):(Nat->Bool)×AT:=if 0<=k/\k<n/\s.1 k.toNat=false then(λ x=>decide (x=k.toNat)||s.1 x,s.2++[k.toNat])else s
theorem eno{n:Nat}(h:¬(0<=k/\k<n/\s.1 k.toNat=false)):ZO n s k=s:=ao h
theorem eou{n:Nat}:(ZO n s k).1 x=true↔s.1 x=true\/(x:Int)=k/\x<n:=by
 unfold ZO;split
 .rename_i h;simp only[xt,rK];constructor
  .rintro(O|O)
   .exact .inr ω
   .exact .inl O
  .rintro(O|O)
   .exact .inr O
   .exact .inl ω
 .rename_i h;refine⟨.inl,λ O=>?_⟩;rcases O with O|⟨rfl,U⟩
  .exact O
  .cases e:s.1 x with|true=>rfl|false=>exact absurd ⟨ω,ω,e⟩ h
theorem enx{n:Nat}(h:(ZO n s k).1 x=true)(h0:s.1 x=false):x∈(ZO n s k).2:=by
 unfold ZO at h⊢;split
 .rename_i hc;rw[aq hc]at h;simp only[xt,rK,h0]at h;simp at h;simp[h]
 .rename_i hc;rw[ao hc,h0]at h;cases h
theorem eol{n:Nat}(h:x∈s.2):x∈(ZO n s k).2:=by
 unfold ZO;split
 .exact zb _ h
 .exact h
structure RcI(g:List (List Int))(Y:List Int)(s:(Nat->Bool)×List Nat)(cur:Option Nat)(t j:Nat):Prop where
 so_:∀x,s.1 x=true->Rcf g Y x
 nx:∀x∈s.2,s.1 x=true
 fr_:∀k:Nat,(k:Int)∈Y.take j->k<g.length->s.1 k=true
 cl:∀x,s.1 x=true->x∈s.2\/cur=some x\/∀c:Nat,(c:Int)∈g.getD x []->c<g.length->s.1 c=true
 cu:∀x,cur=some x->s.1 x=true/\∀c:Nat,(c:Int)∈(g.getD x []).take t->c<g.length->s.1 c=true
section
variable{g:List BW}{Y:BW}{s:(Nat->Bool)×AT}{cur:Option Nat}{t j:Nat}
theorem RcI.ini:RcI g Y (λ _=>false,[]) none 0 0:=⟨λ x h=>by simp at h,λ x h=>by simp at h,λ k h=>by simp at h,λ x h=>by simp at h,λ x h=>by cases h⟩
theorem RcI.enter(h:RcI g Y s cur t j)(hs:∀x:Nat,(x:Int)=k->x<g.length->Rcf g Y x):RcI g Y (ZO g.length s k) cur t j:=by
 refine⟨λ x Z=>?_,λ x Z=>?_,λ c hc hl=>eou.2 (.inl (h.fr_ c hc hl)),λ x Z=>?_,λ x Z=>⟨eou.2 (.inl (h.cu x Z).1),λ c hc hl=>eou.2 (.inl ((h.cu x Z).2 c hc hl))⟩⟩
 .rcases eou.1 Z with O|⟨O,U⟩
  .exact h.so_ x O
  .exact hs x O U
 .unfold ZO at Z⊢;split
  .rename_i hc;rw[aq hc,b_,jo]at Z;simp only[xt,rK];exact Z.symm.imp id (h.nx x)
  .rename_i hc;rw[ao hc]at Z;exact h.nx x Z
 .cases e:s.1 x with|false=>exact .inl (enx Z e)|true=>exact(h.cl x e).imp eol λ O=>O.imp id λ U c hc hl=>eou.2 (.inl (U c hc hl))
theorem RcI.from_(h:RcI g Y s none t j)(hj:j<Y.length):RcI g Y (ZO g.length s Y[j]) none t (j+1):=by
 have O:=h.enter (k:=Y[j]) λ x Z hl=>⟨x,by rw[Z];exact cG hj,hl,.refl x⟩;refine{O with fr_:=λ k Q hl=>?_};rw[KK hj,b_]at Q;rcases Q with Q|Q
 .exact O.fr_ k Q hl
 .exact eou.2 (.inr ⟨by simpa using Q,hl⟩)
theorem RcI.pop(h:RcI g Y s none t j){i:Nat}(A:s.2[s.2.length-1]?=some i):RcI g Y (s.1,s.2.dropLast) (some i) 0 j:=by
 have hl:s.2=s.2.dropLast++[i]:=by
  rcases SS s.2 with e|⟨l,a,e⟩
  .rw[e]at A;simp at A
  .rw[YC]at e;rw[e]at A⊢;simp at A;simp[A]
 refine⟨h.so_,λ x Z=>h.nx x (by rw[hl];exact zb _ Z),h.fr_,λ x Z=>?_,λ x Z=>?_⟩
 .rcases h.cl x Z with O|O|O
  .rw[hl,b_,jo]at O;rcases O with O|rfl
   .exact .inl O
   .exact .inr (.inl rfl)
  .cases O
  .exact .inr (.inr O)
 .obtain rfl:i=x:=FX Z;exact⟨h.nx i (by rw[hl];simp),λ c hc=>by simp at hc⟩
theorem RcI.step{i:Nat}(h:RcI g Y s (some i) t j)(A:i<g.length)(ht:t<g[i].length):RcI g Y (ZO g.length s g[i][t]) (some i) (t+1) j:=by
 have hg:g.getD i []=g[i]:=by simp[A]
 have⟨k,k1,k2,k3⟩:=h.so_ i (h.cu i rfl).1;have O:=h.enter (k:=g[i][t]) λ x Z hl=>⟨k,k1,k2,k3.step hl (by rw[hg,Z];exact cG ht)⟩;refine{O with cu:=λ x Z=>⟨(O.cu x Z).1,λ c hc hl=>?_⟩};obtain rfl:i=x:=FX Z;rw[hg,KK ht,b_]at hc;rcases hc with hc|hc
 .exact(O.cu i rfl).2 c (by rw[hg];exact hc) hl
 .exact eou.2 (.inr ⟨by simpa using hc,hl⟩)
theorem RcI.row{i:Nat}(h:RcI g Y s (some i) t j)(A:i<g.length)(ht:t=g[i].length):RcI g Y s none 0 j:=by
 have hg:g.getD i []=g[i]:=by simp[A]
 refine⟨h.so_,h.nx,h.fr_,λ x Z=>?_,λ x Z=>by cases Z⟩;rcases h.cl x Z with O|O|O
 .exact .inl O
 .obtain rfl:i=x:=FX O;exact .inr (.inr λ c hc hl=>(h.cu i rfl).2 c (by rw[hg,ht,iF,<-hg];exact hc) hl)
 .exact .inr (.inr O)
theorem RcI.done(h:RcI g Y s none t Y.length)(hn:s.2=[]):∀x,s.1 x=true↔Rcf g Y x:=λ x=>by
 refine⟨h.so_ x,?_⟩;rintro⟨k,k1,k2,k3⟩;induction k3 with
 |refl=>exact h.fr_ k (by rw[iF];exact k1) k2
 |step _ hl hc ih=>
  rcases h.cl _ ih with O|O|O
  .rw[hn]at O;simp at O
  .cases O
  .exact O _ hc hl
end
section
variable{H HB:D}{v:J}{b:Nat}
theorem rxa{out:Nat->Bool}{next:AT}(k:Int)(hR:RR HB K b g.length v out next)(hb:HB.ab<=b)(hg:GI 0 HB v g)(hn:g.length<=1048576):CN 121 [ae k,.ptr b 0,.ptr (b+2) 0,.ptr (b+3) 0] K λ u T=>RR HB T b g.length v (ZO g.length (out,next) k).1 (ZO g.length (out,next) k).2/\2*vN (ZO g.length (out,next) k).1 g.length+(ZO g.length (out,next) k).2.length<=2*vN out g.length+next.length:=by
 refine ba aqE rfl λ Q' hQ=>?_
 have⟨t2,l2,U⟩:=hR.c2
 have⟨t5,l5,h5⟩:=hR.c5
 have⟨t6,nv,aH,l6,h6,ow,kI⟩:=hR.c6
 have⟨uo,lo,ho⟩:=hR.o.ob
 have bA:=hR.len
 by_cases vz:0<=k
 .obtain⟨kn,rfl⟩:∃kn:Nat,k=kn:=⟨k.toNat,ω⟩
  by_cases eO:kn<g.length
  .have fk:=ho kn eO;cases pQ:out kn with
   |true=>
    rw[show F8 out kn=bl (out kn)from rfl,pQ]at fk
    simp[l2.get,U,l5.get,h5,hg.sl.aN yO,eO,lo.get,fk]
    exact hQ (by rw[eno (by simp[pQ])];exact⟨hR,Nat.le_refl _⟩)
   |false=>
    rw[show F8 out kn=bl (out kn)from rfl,pQ]at fk
    have hc:=ajo pQ eO
    have e1:¬b+3=b+1:=ω
    have e2:¬b+2=b+1:=ω
    simp[-cX,l2.get,U,l5.get,h5,hg.sl.aN yO,eO,lo.get,fk,dz eO,e1,l6.get,h6,ow.cell]
    generalize ed:D.put _ _ _=K1
    have gp:I [b+1] K K1:=by rw[<-ed];exact(I.refl _ _).put (.inr ζ)
    have o1:iD K1 (b+1) g.length (F8 λ x=>decide (x=kn)||out x):=by rw[<-ed];refine(iD.put lo ho).congr λ x Z=>?_;by_cases e:x=kn<;>simp[e]
    have rQ:K.ab=K1.ab:=by rw[<-ed];rfl
    clear ed
    rw[rQ]
    have ow1:=ow.W gp (by intro y G B;have:=kI y G;simp at B;omega)
    refine vL (c:=ae kn) bK qF ow1 rfl ξ ξ ?_
    intro v' K2 ids' p1 p2 p3
    have Na:Lv K2 (b+3) (.cells 1 t6 false):=(l6.W gp ζ).W p2 λ B=>by have:=kI _ B;omega
    simp[Na.get,p1.cell,p1.co]
    have bR:=l6.lt
    have gF:∀i,i<K.ab->i≠b+1->i∉aH->K2.get i=K.get i:=λ i A O U=>(p2.get i ω U).trans (gp.get i A (by simpa using O))
    have gQ:I [] HB (K2.put (b+3) (some (.cells 1 (t6.put 0 (some v')) false))):=⟨aY hR.g.ab (by have:=gp.ab;have:=p2.ab;show K.ab<=K2.ab;omega),λ i A _=>by
     have e:¬i=b+3:=ω
     rw[D.eR,ao e];exact(gF i (by have:=hR.g.ab;omega) ω (λ B=>by have:=kI _ B;omega)).trans (hR.g.get i A ζ)⟩
    have Ui:I [b+3] K2 (K2.put (b+3) (some (.cells 1 (t6.put 0 (some v')) false))):=(I.refl _ _).put (.inr ζ)
    have he:ZO g.length (out,next) (kn:Int)=(λ x=>decide (x=kn)||out x,next++[kn]):=aq ⟨vz,ω,pQ⟩
    refine hQ ?_
    rw[he]
    dsimp only
    refine⟨⟨gQ,?_,?_,?_,?_,?_,?_⟩,?_⟩
    .exact⟨t2,((l2.W gp ζ).W p2 λ B=>by have:=kI _ B;omega).W Ui ζ,U⟩
    .exact⟨t5,((l5.W gp ζ).W p2 λ B=>by have:=kI _ B;omega).W Ui ζ,h5⟩
    .exact(o1.W p2 λ B=>by have:=kI _ B;omega).W Ui ζ
    .have Mg:∀y∈ids',b+4<=y:=λ y G=>by
      rcases p3 y G with h|h
      .exact kI y h
      .omega
     exact⟨_,v',ids',Na.put_eq,ζ,by simpa[aZ,vO]using p1.W Ui (by intro y G B;have:=Mg y G;simp at B;omega),Mg⟩
    .intro x Z
     rcases b_.1 Z with h|h
     .exact hR.lt x h
     .simp at h;omega
    .simp;omega
    .simp;omega
  .have O:¬(kn:Int)<g.length:=ω
   simp[l2.get,U,hg.sl.aN yO,eO];exact hQ (by rw[eno (by simp[O])];exact⟨hR,Nat.le_refl _⟩)
 .simp[vz]
  exact hQ (by rw[eno (by simp[vz])];exact⟨hR,Nat.le_refl _⟩)
theorem rxc(hg:GI 0 H v g)(hn:g.length<=1048576)(hf:NI 0 H fv Y):CN 55 [v,fv] H λ u K=>(∃out:Nat->Bool,aW K 1 (One λ b:Bool=>bl b) u ((List.range g.length).map out)/\∀x,out x=true↔Rcf g Y x)/\I [] H K:=by
 refine ba asO rfl λ Q' hQ=>?_
 have bR:g.length<=140737488355328:=ω
 have eG:g.length<=9223372036854775807:=ω
 simp[hg.sl.aN yO,hg.sl.cell,hg.sl.co,hf.sl.aN bK,hf.sl.cell,bR,eG,wX]
 generalize aP:D.add _ _=H1
 have R0:RR H H1 H.ab g.length v (λ _=>false) []:=by
  have gH:I [] H H1:=by rw[<-aP];refine I.add (I.put (I.add (I.add (I.add (I.refl _ _) _) _) _) (.inl (by first|omega|(simp[D.add];omega)))) _
  refine⟨gH,?_,?_,?_,?_,ζ,?_⟩
  .rw[<-aP];exact⟨_,⟨by simp[D.add];omega,by simp[D.jK,show¬H.ab=H.ab+1+1+1 by omega,show¬H.ab=H.ab+1+1 by omega,show¬H.ab=H.ab+1 by omega];rfl⟩,ζ⟩
  .rw[<-aP];exact⟨_,⟨by simp[D.add],by simp[D.jK];rfl⟩,ζ⟩
  .rw[<-aP];exact⟨_,⟨by simp[D.add],by simp[D.jK,show¬H.ab+1=H.ab+1+1+1 by omega,show¬H.ab+1=H.ab+1+1 by omega];rfl⟩,λ x Z=>by simp[Bp,Z]⟩
  .rw[<-aP];exact⟨_,_,[],⟨by simp[D.add],by simp[D.jK];rfl⟩,ζ,.nil,ζ⟩
  .have:=ajm (out:=λ _=>false) (n:=g.length);show 0+_<=_;omega
 clear aP
 refine bu (α:=Nat×(Nat->Bool)×AT) (aJ:=λ p sl K=>RR H K H.ab g.length v p.2.1 p.2.2/\RcI g Y p.2 none 0 p.1/\AV sl 2 (.ptr H.ab 0)/\AV sl 5 (.ptr (H.ab+2) 0)/\AV sl 6 (.ptr (H.ab+3) 0)/\AV sl 7 (.fn (.func 121) [] [.ptr H.ab 0,.ptr (H.ab+2) 0,.ptr (H.ab+3) 0])/\AV sl 17 fv/\AV sl 18 (ae Y.length)/\AV sl 19 (ae p.1)/\p.1<=Y.length) (mu:=λ p=>Y.length-p.1) ?_ (0,(λ _=>false),[]) _ _ ?ini
 case ini=>exact⟨R0,RcI.ini,ζ⟩
 rintro b1 k1-cq ⟨i,out,next⟩ sl K ⟨R,hJ,s2,s5,s6,s7,ji,kT,i_,A⟩ ih
 dsimp only at R hJ i_ A ih
 by_cases az:i<Y.length
 .have⟨id,ah,ax,ex,n,t,ro,hv,hl,aU,bU,_⟩:=(hf.ai R.g).num az
  have Gm:=hJ.from_ az;simp[s2,s5,s6,s7,ji,kT,i_,az,hv,hl.get,bU,aU];refine CW (rxa _ R (Nat.le_refl _) hg hn) ?_;rintro u K1 ⟨R',_⟩;simp[i_,bq (aT az hf.sl.cP)];exact ih (i+1,_,_) _ _ (by simp only;omega) ⟨R',Gm,by simp[s2,s5,s6,s7,ji,kT,hv];omega⟩
 obtain rfl:i=Y.length:=ω
 subst cq
 clear ih
 simp[kT,i_]
 refine bu (α:=(Nat->Bool)×AT) (aJ:=λ p sl K=>RR H K H.ab g.length v p.1 p.2/\RcI g Y p none 0 Y.length/\AV sl 2 (.ptr H.ab 0)/\AV sl 5 (.ptr (H.ab+2) 0)/\AV sl 6 (.ptr (H.ab+3) 0)/\AV sl 7 (.fn (.func 121) [] [.ptr H.ab 0,.ptr (H.ab+2) 0,.ptr (H.ab+3) 0])) (mu:=λ p=>2*vN p.1 g.length+p.2.length) ?_ (out,next) _ _ ?ini2
 case ini2=>exact⟨R,hJ,by simp[s2,s5,s6,s7]⟩
 clear s2 s5 s6 s7 ji kT i_ R A hJ
 rintro b2 k2-dO ⟨out,next⟩ sl K ⟨R,hJ,s2,s5,s6,s7⟩ ih
 dsimp only at R ih
 have⟨t2,l2,U⟩:=R.c2
 have⟨t5,l5,h5⟩:=R.c5
 have⟨t6,nv,aH,l6,h6,ow,kI⟩:=R.c6
 have pP:=ow.aZ.aN (E:=E0) bK
 simp only[bW]at pP
 by_cases hz:next.length=0
 .subst dO
  simp[s2,s5,s6,s7,l6.get,h6,pP,hz,l5.get,h5];have⟨uo,lo,ho⟩:=R.o.ob;refine hQ ⟨⟨out,?_,hJ.done (BM hz)⟩,R.g⟩;have lR:((List.range g.length).map out).length=g.length:=ζ
  have:=aW.sl (H:=K) (es:=1) (ah:=0) (R:=One λ b:Bool=>bl b) (L:=(List.range g.length).map out) (ax:=g.length) (ex:=true) lo (by rw[lR];omega) (λ i A=>⟨[bl (out i)],iB.2 ⟨rfl,λ j hj=>by
   obtain rfl:j=0:=ω
   simp;exact ho i ω⟩,by simp[One]⟩) (by rw[lR];exact Nat.le_refl _) hg.sl.cP
  rw[lR]at this;exact this
 .obtain⟨Jr,kc,AI,tw,rfl,rfl,lw,vx,C_,Qp,Qy⟩:=ow.uC ξ
  simp only[bW]at vx C_ h6 pP;have bA:=R.len;have wL:0<next.length:=ω
  have Df:IntKind.wrap .i64 ((next.length:Int)-1)=((next.length-1:Nat):Int):=by rw[fQ ω ω];omega
  obtain⟨i,A⟩:∃i,next[next.length-1]?=some i:=⟨_,bf ω⟩;have az:i<g.length:=R.lt i (oS A);have rP:tw.get (next.length-1)=some (ae i):=by rw[vx _ ω];simp[A]
  have e1:next.length-1<next.length:=ω
  have e2:next.length-1<kc:=ω
  have e3:next.length<=kc+1:=ω
  have e4:0<kc:=ω
  have⟨MU,WJ,Tx,TZ,na,ta,Xe,r,kl,sI,AY,zP,My,_⟩:=hg.row az;have avi:=sI.ai R.g;have n1:¬H.ab=H.ab+3:=ω
  have n2:¬MU=H.ab+3:=by have:=sI.lt;omega
  simp[s2,s5,s6,s7,l6.get,h6,pP,de bK,wL,Df,lw.get,rP,e1,e2,e3,rU e4,l2.get,U,n1,n2,kl,az,avi.get,AY,zP,My.sl.cell,My.sl.aN bK];have hJ1:=hJ.pop A;generalize ed:D.put _ _ _=K1;have gp:I [H.ab+3] K K1:=by rw[<-ed];exact(I.refl _ _).put (.inr ζ)
  have Na:∃t,Lv K1 (H.ab+3) (.cells 1 t false)/\AV t 0 (.sl Jr 0 1 (next.length-1) kc AI):=by rw[<-ed];exact⟨_,l6.put_eq,ζ⟩
  clear ed;have⟨t6',Na,wy⟩:=Na;have aHQ:=kI Jr ζ;have R1:RR H K1 H.ab g.length v out next.dropLast:=by
   refine⟨⟨aY R.g.ab gp.ab,λ j hj _=>(gp.get j (by have:=R.g.ab;omega) ξ).trans (R.g.get j hj ζ)⟩,⟨t2,l2.W gp ζ,U⟩,⟨t5,l5.W gp ζ,h5⟩,R.o.W gp ζ,⟨t6',_,[Jr],Na,wy,.kq (lw.W gp ξ) ζ (λ j hj=>?_) ω Qp Qy,kI⟩,λ x Z=>R.lt x (List.dropLast_subset _ Z),?_⟩
   .rw[vx j ω];have:j<next.length:=ω
    simp[hj,this]
   .rw[aff];omega
  refine bu (α:=Nat×(Nat->Bool)×AT) (aJ:=λ p sl T=>RR H T H.ab g.length v p.2.1 p.2.2/\RcI g Y p.2 (some i) p.1 Y.length/\2*vN p.2.1 g.length+p.2.2.length<=2*vN out g.length+(next.length-1)/\AV sl 2 (.ptr H.ab 0)/\AV sl 5 (.ptr (H.ab+2) 0)/\AV sl 6 (.ptr (H.ab+3) 0)/\AV sl 7 (.fn (.func 121) [] [.ptr H.ab 0,.ptr (H.ab+2) 0,.ptr (H.ab+3) 0])/\AV sl 44 r/\AV sl 45 (ae g[i].length)/\AV sl 46 (ae p.1)/\p.1<=g[i].length) (mu:=λ p=>g[i].length-p.1) ?_ (0,out,next.dropLast) _ _ ?ini3;case ini3=>exact⟨R1,hJ1,ζ,by simp[s2,s5,s6,s7,kl]⟩
  clear s2 s5 s6 s7;rintro b3 k3-jU ⟨m,aAu,azd⟩ sl K2 ⟨R2,hJ2,Ml,s2,s5,s6,s7,RP,JS,Hi,B⟩ jg;dsimp only at R2 hJ2 Ml Hi B jg;by_cases jA:m<g[i].length
  .have⟨id,ah,ax,ex,n,t,ro,hv,hl,aU,bU,_⟩:=(My.ai R2.g).num jA;simp[s2,s5,s6,s7,RP,JS,Hi,jA,hv,hl.get,bU,aU];refine CW (rxa _ R2 (Nat.le_refl _) hg hn) ?_;rintro u K3 ⟨R',aIb⟩;simp[Hi,bq (aT jA My.sl.cP)];exact jg (m+1,_,_) _ _ (by simp only;omega) ⟨R',hJ2.step az jA,aY aIb Ml,by simp[s2,s5,s6,s7,RP,JS,hv];omega⟩
  .obtain rfl:m=g[i].length:=ω
   subst jU;simp[JS,Hi];exact ih (aAu,azd) _ _ (by simp only;omega) ⟨R2,hJ2.row az rfl,by simp[s2,s5,s6,s7]⟩
end
end
end Go.Proofs.YtgipmaoplfkdoaaGreatDoor
