import Derived.Test.YtgipmaoplfkdoaaGreatDoorM3
set_option linter.all false
set_option maxRecDepth 100000
set_option maxHeartbeats 400000000
namespace Go.Proofs.YtgipmaoplfkdoaaGreatDoor
noncomputable section
open Go.RowKit
variable{E:aK}{M z0 z:AU}{a0 b0 es n bs ax:Nat}{t e:aS}{s x v':J}{d dst:Option Tmp}{k:List fg}{Y:aE}{H':D}{aj:dE->aE->D->Prop}{L:BW}{α:Type}{g:List BW}{f:Nat->Bool}{ex:Bool}{PA:CX}{bZ:Option Nat}{au:Nat->Int}{L':Nat->BW}{a b:Option α}
section
variable{H:D}{sv fv:J}
def zY{H:D}(h:cX E t s x H=val v' H')(c:MD E d v' k Y H' aj):MO E (cX E t s x H) d k Y aj:=by rw[h];exact c
def vY(f:fD)(es:Nat):Prop:=∀{H:D} {sv:J} {α:Type} {R:α->AU->Prop} {L:List α},aW H es R sv L->(∀a M,R a M->fX M=true)->L.length<=1099511627776->
    CN f [sv] H λ v K=>I [] H K/\∃M aH,aX K es v M aH/\(∀x∈aH,H.ab<=x)/\M.length=L.length*es/\∀i (A:i<L.length),R L[i] ((M.drop (i*es)).take es)
def Ir{d:TypeDesc}(w:E.tt.get t=some ⟨.slice e,a0,b0,z0⟩)(he:E.tt.get e=some ⟨d,es,bs,z⟩)(p:0<es)(c4:∀{K:D},I [] H K->∀{β:Type} (k:Nat->AU->R β),pz es sv K k=k n M)(c1:M.length=n*es)(c2:fX M=true)(F:n*bs<=140737488355328)(J:n<=9223372036854775807):∃v' H' ids',cX E t (.sl H.ab 0 es 0 0 true) sv (H.add (.cells 0 Tr.e false))=val v' H'/\aX H' es v' M ids'/\I [] H H'/\∀y∈ids',H.ab<=y:=by
 have g:I [] H (H.add (.cells 0 Tr.e false)):=aw.add _
 have C:aX (H.add (.cells 0 Tr.e false)) es (.sl H.ab 0 es 0 0 true) [] [H.ab]:=.own (n:=0) (t:=Tr.e) ⟨sx _,ζ⟩ ζ (λ j N=>ω) aF (λ h=>by cases h) (dQ _)
 have o:∀m,([]:AU).length=m*es->m=0:=λ m B=>by rcases ze m with h|h;exact h;have:=Nat.mul_pos h p;rw[<-B]at this;cases this
 have⟨v',H',ids',u,r,c,q⟩:=KU (x:=sv) (n:=n) w he p C (λ k=>c4 g k) c1 c2 (λ m B=>by rw[o m B,mQ];exact F) (λ m B=>by rw[o m B,mQ];exact J)
 refine⟨v',H',ids',u,by simpa using r,?_,λ y G=>?_⟩
 .exact⟨aY g.ab c.ab,λ i A _=>(c.get i (KM A) ξ).trans (g.get i A ζ)⟩
 .rcases q y G with h|h
  .simp at h;omega
  .exact OE h
def Iq:vY 110 1/\vY 129 1/\vY 108 3/\vY 81 4/\vY 128 3/\vY 130 2/\vY 131 8:=by
 refine⟨?_,?_,?_,?_,?_,?_,?_⟩<;>intro H sv α R L h u w;all_goals
  first
   |refine ba aqz rfl λ r m=>?_
   |refine ba aqK rfl λ r m=>?_
   |refine ba aqx rfl λ r m=>?_
   |refine ba as6 rfl λ r m=>?_
   |refine ba aqJ rfl λ r m=>?_
   |refine ba aqL rfl λ r m=>?_
   |refine ba aqM rfl λ r m=>?_
  have⟨M,c1,c2,c3,c4⟩:=h.amX ω u;cases h
  .simp;exact m ⟨aw,[],[],.nil,ζ,ζ,λ i A=>by simp at A⟩
  all_goals
   simp[-cX];first
    |have⟨v',H',ids',c,q,p,o⟩:=Ir bK qF ω c4 c1 c2 ω ω;refine zY c ?_
    |have⟨v',H',ids',c,q,p,o⟩:=Ir fw DH ω c4 c1 c2 ω ω;refine zY c ?_
    |have⟨v',H',ids',c,q,p,o⟩:=Ir XD aef ω c4 c1 c2 ω ω;refine zY c ?_
    |have⟨v',H',ids',c,q,p,o⟩:=Ir Fz R_ ω c4 c1 c2 ω ω;refine zY c ?_
    |have⟨v',H',ids',c,q,p,o⟩:=Ir nf alq ω c4 c1 c2 ω ω;refine zY c ?_
    |have⟨v',H',ids',c,q,p,o⟩:=Ir nh alp ω c4 c1 c2 ω ω;refine zY c ?_
    |have⟨v',H',ids',c,q,p,o⟩:=Ir nT alo ω c4 c1 c2 ω ω;refine zY c ?_
   simp;exact m ⟨p,M,ids',q,o,c1,c3⟩
def aoB:vY 110 1:=Iq.1
def af3:vY 129 1:=Iq.2.1
def aoE:vY 108 3:=Iq.2.2.1
def aoF:vY 81 4:=Iq.2.2.2.1
def aoA:vY 128 3:=Iq.2.2.2.2.1
def aoz:vY 130 2:=Iq.2.2.2.2.2.1
def aoD:vY 131 8:=Iq.2.2.2.2.2.2
def aoC(h:aW H 1 (One λ n=>ae n) sv L)(c:L.length<=1099511627776):CN 110 [sv] H λ v K=>I [] H K/\∃aH,aX K 1 v (aZ L) aH/\∀x∈aH,H.ab<=x:=by
 refine(aoB h (λ a M h=>by cases h;rfl) c).mono ?_
 rintro v K ⟨g,M,aH,O,U,F,m⟩
 have:M=aZ L:=by
  refine SU λ i=>?_;by_cases A:i<L.length
  .have:=m i A;unfold One at this;have e:((M.drop (i*1)).take 1)[0]?=M[i]?:=by rw[rI,aq ω,v_];simp
   rw[<-e,this];simp[A]
  .rw[y_ ω,y_ ξ]
 subst this
 exact⟨g,aH,O,U⟩
def aoG{R:aI->AU->Prop}{L:List aI}(h:aW H 1 R sv L)(c:∀x M,R x M->M=[str x])(m:L.length<=1099511627776):CN 129 [sv] H λ v K=>I [] H K/\∃aH,aX K 1 v (strs L) aH/\∀x∈aH,H.ab<=x:=by
 refine(af3 h (λ a M h=>by cases c _ _ h;rfl) m).mono ?_
 rintro v K ⟨g,M,aH,O,U,F,o⟩
 have:M=strs L:=by
  refine SU λ i=>?_;by_cases A:i<L.length
  .have:=c _ _ (o i A);have e:((M.drop (i*1)).take 1)[0]?=M[i]?:=by rw[rI,aq ω,v_];simp
   rw[<-e,this];simp[A]
  .rw[y_ ω,y_ ξ]
 subst this
 exact⟨g,aH,O,U⟩
end
variable{i:Nat}
section
variable{H:D}{sv fv:J}{aH:AT}
def Hh(A:i<L.length):(aZ L)[i]?=some (ae L[i]):=by simp[A]
def apd{p:Int->Bool}(h:aX H 1 sv (aZ L) aH)(X:∀x∈L,∀K,I aH H K->CF E0 fv [ae x] K λ v T=>v=bl (p x)/\I [] K T):CN 177 [sv,fv] H λ v K=>aX K 1 v (aZ (L.filter λ x=>!p x)) aH/\I aH H K:=by
 refine ba ark rfl λ Q' hQ=>?_
 simp
 refine CW (DO.p QS.2 (p:=p) h.aZ ?_) ?_
 .rintro x Z c K g hc
  cases hc;exact X x Z K (g.mono ζ)
 rintro _ K1 ⟨rfl,O⟩
 have h':=h.W O ζ
 rcases aa3 p L with⟨e,dV⟩|⟨i,A,e,hp,hj⟩
 .rw[e]
  simp;refine hQ ⟨?_,O.mono ζ⟩;rw[filter_all dV];exact h'
 rw[e]
 obtain⟨id,ax,ex,t,rfl,rfl,hl,G,o,he,B⟩:=h'.uC ξ
 simp only[bW]at G o⊢
 have ui:IntKind.wrap .i64 ((i:Int)+1)=((i+1:Nat):Int):=by rw[bq (aT A (aY o B))];simp
 have e1:¬(i:Int)=-1:=ω
 simp[e1,ui]
 have J:((L.take i).filter λ x=>!p x)=L.take i:=by rw[filter_all];intro x Z;obtain⟨j,yb,rfl⟩:=rJ Z;rw[eK]at yb;rw[FL];exact hj j ω ω
 have C:((L.take (i+1)).filter λ x=>!p x)=L.take i:=by rw[Ln A,J];simp[hp]
 refine bu (α:=Nat) (aJ:=λ j sl K=>∃t',I [id] H K/\Lv K id (.cells ax t' false)/\(∀x,x<((L.take j).filter λ x=>!p x).length->t'.get x=(aZ ((L.take j).filter λ x=>!p x))[x]?)/\(∀x (Z:x<L.length),j<=x->t'.get x=some (ae L[x]))/\AV sl 0 (.sl id 0 1 L.length ax ex)/\AV sl 1 fv/\AV sl 5 (ae ((L.take j).filter λ x=>!p x).length)/\AV sl 6 (ae j)/\((L.take j).filter λ x=>!p x).length<j/\j<=L.length) (mu:=λ j=>L.length-j) ?_ (i+1) _ _ ?ini
 case ini=>
  refine⟨t,O.mono ζ,hl,λ x Z=>?_,λ x Z _=>by rw[G x Z,Hh Z],ζ,ζ,?_,ζ,?_,ω⟩
  .rw[C]at Z⊢
   rw[eK]at Z;rw[G x ω,Hh ω,Hh (by rw[eK];omega),FL]
  .rw[C,eK,FU ω];simp
  .rw[C,eK];omega
 rintro b kk-Q j sl K ⟨t',y,l',w,z,q,s1,u,r,pR,bB⟩ U
 by_cases m:j<L.length
 .have Qk:=z j m aF
  have GF:j<ax:=ω
  have Jq:((L.take j).filter λ x=>!p x).length<ax:=ω
  simp[q,s1,r,m,de bK,l'.get,Qk,GF];refine vM (X _ (cG m) K y) ?_;rintro _ K2 ⟨rfl,N⟩;have l2:=l'.ai N;cases S:p L[j]with
  |true=>
   simp[r,bq (aT m (aY o B))]
   have F:((L.take (j+1)).filter λ x=>!p x)=((L.take j).filter λ x=>!p x):=by rw[Ln m];simp[S]
   exact U (j+1) _ _ ω ⟨t',y.trans (N.mono ζ),l2,by rw[F];exact w,λ x Z o=>z x Z ω,by simp[q],by simp[s1],by simp[u,F],ζ,by rw[F];omega,ω⟩
  |false=>
   have R:((L.take (j+1)).filter λ x=>!p x)=((L.take j).filter λ x=>!p x)++[L[j]]:=by rw[Ln m];simp[S]
   have mD:((L.take j).filter λ x=>!p x).length<L.length:=ω
   have QP:IntKind.wrap .i64 ((((L.take j).filter λ x=>!p x).length:Int)+1)=((((L.take j).filter λ x=>!p x).length:Int)+1):=bq ω
   simp[q,u,r,l2.get,mD,dz Jq,QP,bq (aT m (aY o B))]
   refine U (j+1) _ _ ω ⟨_,(y.trans (N.mono ζ)).put (.inr ζ),⟨l2.lt,by rw[D.eR,aq rfl]⟩,λ x Z=>?_,λ x Z o=>?_,by simp[q],by simp[s1],by simp[R],ζ,by rw[R];simp;omega,ω⟩
   .rw[R]at Z⊢
    rw[iP,HX]at Z;rw[Tr.eR];by_cases ex:x=((L.take j).filter λ x=>!p x).length
    .rw[aq ex,ex];simp
    .rw[ao ex,w x ω];have V:x<((L.take j).filter λ x=>!p x).length:=ω
     rw[Hh V,Hh (by rw[iP];omega),HW V]
   .rw[Tr.eR,ao ω]
    exact z x Z ω
 .obtain rfl:j=L.length:=ω
  subst Q;rw[iF]at pR w u;generalize hM:(L.filter λ x=>!p x)=aD at*;have og:0<ax-aD.length:=ω
  have k8:0<L.length-aD.length:=ω
  have Ej:0<ax:=ω
  have Qh:aD.length<=L.length:=ω
  have C8:aD.length<=ax:=ω
  have UL:aD.length+(L.length-aD.length)<=ax:=ω
  simp[q,u,r,de bK,o,Qh,C8,rU og,rU k8,rU Ej,l'.get,wX];refine hQ ⟨.kq ⟨l'.lt,by rw[D.eR,aq rfl]⟩ ζ (λ x Z=>?_) C8 he B,y.put (.inr ζ)⟩;rw[Xa Z];exact w x Z
def RK{L:List aI}(A:i<L.length):(strs L)[i]?=some (str L[i]):=by simp[A]
def ape{L:List aI}{p:aI->Bool}(h:aX H 1 sv (strs L) aH)(X:∀x∈L,∀K,I aH H K->CF E0 fv [str x] K λ v T=>v=bl (p x)/\I [] K T):CN 277 [sv,fv] H λ v K=>aX K 1 v (strs (L.filter λ x=>!p x)) aH/\I aH H K:=by
 refine ba asH rfl λ Q' hQ=>?_
 simp
 refine CW (DO.p QS.1 (p:=p) h.strs ?_) ?_
 .rintro x Z c K g hc
  cases hc;exact X x Z K (g.mono ζ)
 rintro _ K1 ⟨rfl,O⟩
 have h':=h.W O ζ
 rcases aa3 p L with⟨e,dV⟩|⟨i,A,e,hp,hj⟩
 .rw[e]
  simp;refine hQ ⟨?_,O.mono ζ⟩;rw[filter_all dV];exact h'
 rw[e]
 obtain⟨id,ax,ex,t,rfl,rfl,hl,G,o,he,B⟩:=h'.uC ξ
 simp only[bW]at G o⊢
 have ui:IntKind.wrap .i64 ((i:Int)+1)=((i+1:Nat):Int):=by rw[bq (aT A (aY o B))];simp
 have e1:¬(i:Int)=-1:=ω
 simp[e1,ui]
 have J:((L.take i).filter λ x=>!p x)=L.take i:=by rw[filter_all];intro x Z;obtain⟨j,yb,rfl⟩:=rJ Z;rw[eK]at yb;rw[FL];exact hj j ω ω
 have C:((L.take (i+1)).filter λ x=>!p x)=L.take i:=by rw[Ln A,J];simp[hp]
 refine bu (α:=Nat) (aJ:=λ j sl K=>∃t',I [id] H K/\Lv K id (.cells ax t' false)/\(∀x,x<((L.take j).filter λ x=>!p x).length->t'.get x=(strs ((L.take j).filter λ x=>!p x))[x]?)/\(∀x (Z:x<L.length),j<=x->t'.get x=some (str L[x]))/\AV sl 0 (.sl id 0 1 L.length ax ex)/\AV sl 1 fv/\AV sl 5 (ae ((L.take j).filter λ x=>!p x).length)/\AV sl 6 (ae j)/\((L.take j).filter λ x=>!p x).length<j/\j<=L.length) (mu:=λ j=>L.length-j) ?_ (i+1) _ _ ?ini
 case ini=>
  refine⟨t,O.mono ζ,hl,λ x Z=>?_,λ x Z _=>by rw[G x Z,RK Z],ζ,ζ,?_,ζ,?_,ω⟩
  .rw[C]at Z⊢
   rw[eK]at Z;rw[G x ω,RK ω,RK (by rw[eK];omega),FL]
  .rw[C,eK,FU ω];simp
  .rw[C,eK];omega
 rintro b kk-Q j sl K ⟨t',y,l',w,z,q,s1,u,r,pR,bB⟩ U
 by_cases m:j<L.length
 .have Qk:=z j m aF
  have GF:j<ax:=ω
  have Jq:((L.take j).filter λ x=>!p x).length<ax:=ω
  simp[q,s1,r,m,de fw,l'.get,Qk,GF];refine vM (X _ (cG m) K y) ?_;rintro _ K2 ⟨rfl,N⟩;have l2:=l'.ai N;cases S:p L[j]with
  |true=>
   simp[r,bq (aT m (aY o B))]
   have F:((L.take (j+1)).filter λ x=>!p x)=((L.take j).filter λ x=>!p x):=by rw[Ln m];simp[S]
   exact U (j+1) _ _ ω ⟨t',y.trans (N.mono ζ),l2,by rw[F];exact w,λ x Z o=>z x Z ω,by simp[q],by simp[s1],by simp[u,F],ζ,by rw[F];omega,ω⟩
  |false=>
   have R:((L.take (j+1)).filter λ x=>!p x)=((L.take j).filter λ x=>!p x)++[L[j]]:=by rw[Ln m];simp[S]
   have mD:((L.take j).filter λ x=>!p x).length<L.length:=ω
   have QP:IntKind.wrap .i64 ((((L.take j).filter λ x=>!p x).length:Int)+1)=((((L.take j).filter λ x=>!p x).length:Int)+1):=bq ω
   simp[q,u,r,l2.get,mD,dz Jq,QP,bq (aT m (aY o B))]
   refine U (j+1) _ _ ω ⟨_,(y.trans (N.mono ζ)).put (.inr ζ),⟨l2.lt,by rw[D.eR,aq rfl]⟩,λ x Z=>?_,λ x Z o=>?_,by simp[q],by simp[s1],by simp[R],ζ,by rw[R];simp;omega,ω⟩
   .rw[R]at Z⊢
    rw[iP,HX]at Z;rw[Tr.eR];by_cases ex:x=((L.take j).filter λ x=>!p x).length
    .rw[aq ex,ex];simp
    .rw[ao ex,w x ω];have V:x<((L.take j).filter λ x=>!p x).length:=ω
     rw[RK V,RK (by rw[iP];omega),HW V]
   .rw[Tr.eR,ao ω]
    exact z x Z ω
 .obtain rfl:j=L.length:=ω
  subst Q;rw[iF]at pR w u;generalize hM:(L.filter λ x=>!p x)=aD at*;have og:0<ax-aD.length:=ω
  have k8:0<L.length-aD.length:=ω
  have Ej:0<ax:=ω
  have Qh:aD.length<=L.length:=ω
  have C8:aD.length<=ax:=ω
  have UL:aD.length+(L.length-aD.length)<=ax:=ω
  simp[q,u,r,de fw,o,Qh,C8,rU og,rU k8,rU Ej,l'.get,wX];refine hQ ⟨.kq ⟨l'.lt,by rw[D.eR,aq rfl]⟩ ζ (λ x Z=>?_) C8 he B,y.put (.inr ζ)⟩;rw[Xa Z];exact w x Z
end
section
variable{H:D}{sv:J}{aH:AT}
theorem TD{L:BW}:∀{k:Nat},k<=L.length->(∀i,1<=i->i<k->L[i]?≠L[i-1]?)->mL L k=L.take k
 |0,_,_=>by simp[mL]
 |k+1,Q,h=>by
  rw[TC Q,TD (k:=k) ω λ i O U=>h i O ω]
  have:Dj L k=true:=by
   unfold Dj;by_cases e:k=0
   .simp[e]
   .simp[e,h k ω ω]
  rw[aq this,mI,bf ω];rfl
def aiN(c:1<=i)(A:i<L.length):Dj L i=decide (L[i]≠L[i-1]):=by
 unfold Dj;rw[bf A,bf ω];have:¬i=0:=ω
 simp[this]
def Zz(h:aX H 1 sv (aZ L) aH):CN 103 [sv] H λ v K=>aX K 1 v (aZ (AG L)) aH/\I aH H K:=by
 refine ba aqv rfl λ Q' hQ=>?_
 have hs:=h.aZ
 simp[hs.aN bK]
 by_cases U:(L.length:Int)<2
 .have e:AG L=L:=by unfold AG;rw[TD aF λ i O F=>ω,iF]
  simp[U];exact hQ ⟨by rw[e];exact h,aw⟩
 obtain⟨id,ax,ex,t,rfl,rfl,hl,hg,J,he,B⟩:=h.uC ξ
 simp only[bW]at hg J⊢
 have r:∀x (Z:x<L.length),t.get x=some (ae L[x]):=λ x Z=>by rw[hg x Z];simp[Z]
 clear hg
 simp[U]
 refine bu (α:=Nat) (aJ:=λ k sl K=>H=K/\AV sl 0 (.sl id 0 1 L.length ax ex)/\AV sl 3 (ae k)/\1<=k/\k<=L.length/\∀i,1<=i->i<k->L[i]?≠L[i-1]?) (mu:=λ k=>L.length-k) ?_ 1 _ _ ?ini
 case ini=>exact⟨rfl,ζ,ζ,aF,ω,λ i O U=>ω⟩
 rintro b kk-Q k sl K ⟨rfl,c,s3,cq,eO,cR⟩ ih
 by_cases m:k<L.length
 .have Qu:k<ax:=ω
  have w:k-1<ax:=ω
  have z:k-1<L.length:=ω
  have Df:IntKind.wrap .i64 ((k:Int)-1)=((k-1:Nat):Int):=by rw[fQ ω (by unfold maxLen at B;omega)];omega
  by_cases R:L[k]=L[k-1]
  .have X:0<ax-k:=ω
   simp[c,s3,m,z,de bK,hl.get,r k m,r (k-1) z,Df,Qu,w,R,J,eO,rU X];have p:mL L (k+1)=mL L k:=by rw[TC m,aiN cq m];simp[R]
   have T:mL L k=L.take k:=TD eO cR;refine bu (α:=Nat) (aJ:=λ q sl K=>∃t',I [id] H K/\Lv K id (.cells ax t' false)/\(∀x,x<(mL L (k+q)).length->t'.get x=(aZ (mL L (k+q)))[x]?)/\(∀x (Z:x<L.length),k+q<=x+1->t'.get x=some (ae L[x]))/\AV sl 0 (.sl id 0 1 L.length ax ex)/\AV sl 3 (ae (mL L (k+q)).length)/\AV sl 4 (.sl id k 1 (L.length-k) (ax-k) ex)/\AV sl 5 (ae q)/\(mL L (k+q)).length<k+q/\1<=q/\k+q<=L.length) (mu:=λ q=>L.length-q) ?_ 1 _ _ ?ini2;case ini2=>
    refine⟨t,aw,hl,λ x Z=>?_,λ x Z _=>r x Z,by simp[c],?_,ζ,ζ,?_,aF,ω⟩
    .rw[p,T]at Z⊢;rw[eK]at Z;rw[r x ω];have:x<(L.take k).length:=by rw[eK];omega
     rw[Hh this,FL]
    .rw[p,T,eK,FU ω];simp[s3]
    .rw[p,T,eK];omega
   rintro b2 kk2-dO q sl K ⟨t',gK,l',G,A,c,s3,u,W,hw,GK,Mv⟩ eJ;by_cases o:q<L.length-k
   .have C:k+q<L.length:=ω
    have mz:k+(q-1)<L.length:=ω
    have GF:k+q<ax:=ω
    have y:k+(q-1)<ax:=ω
    have mN:q-1<L.length-k:=ω
    have Vx:IntKind.wrap .i64 ((q:Int)-1)=((q-1:Nat):Int):=by rw[fQ ω (by unfold maxLen at B;omega)];omega
    have yw:IntKind.wrap .i64 ((q:Int)+1)=(q:Int)+1:=bq ω;have g1:=A (k+q) C ω;have g2:=A (k+(q-1)) mz ω;have S:=aiN (L:=L) (i:=k+q) ω C;have e1:k+q-1=k+(q-1):=ω
    simp only[e1]at S;by_cases N:L[k+q]=L[k+(q-1)]
    .have V:mL L (k+q+1)=mL L (k+q):=by rw[TC C,S];simp[N]
     simp[u,W,o,mN,de bK,l'.get,g1,g2,Vx,GF,y,N,yw];refine eJ (q+1) _ _ ω ⟨t',gK,l',?_,λ x Z hxq=>A x Z ω,by simp[c],?_,by simp[u],ζ,?_,ω,ω⟩
     .rw[<-vd,V];exact G
     .rw[<-vd,V];simp[s3]
     .rw[<-vd,V];omega
    .have fH:mL L (k+q+1)=mL L (k+q)++[L[k+q]]:=by rw[TC C,S];simp[N]
     have mD:(mL L (k+q)).length<L.length:=ω
     have Jq:(mL L (k+q)).length<ax:=ω
     have QP:IntKind.wrap .i64 (((mL L (k+q)).length:Int)+1)=((mL L (k+q)).length:Int)+1:=bq ω;simp[c,s3,u,W,o,mN,de bK,l'.get,g1,g2,Vx,GF,y,N,yw,mD,dz Jq,QP];refine eJ (q+1) _ _ ω ⟨_,gK.put (.inr ζ),⟨l'.lt,by rw[D.eR,aq rfl]⟩,λ x Z=>?_,λ x Z hxq=>?_,by simp[c],?_,by simp[u],ζ,?_,ω,ω⟩
     .rw[<-vd,fH]at Z⊢;rw[iP,HX]at Z;rw[Tr.eR];by_cases ex:x=(mL L (k+q)).length
      .rw[aq ex,ex];simp
      .rw[ao ex,G x ω];have iX:x<(mL L (k+q)).length:=ω
       rw[Hh iX,Hh (by rw[iP];omega),HW iX]
     .rw[Tr.eR,ao ω];exact A x Z ω
     .rw[<-vd,fH];simp
     .rw[<-vd,fH];simp;omega
   .have hq:k+q=L.length:=ω
    subst dO;have pd:mL L (k+q)=AG L:=by rw[hq];rfl
    rw[pd]at G s3 hw;generalize hM:AG L=aD at*;have aHS:¬(q:Int)<((L.length-k:Nat):Int):=ω
    have X:0<ax-aD.length:=ω
    have k8:0<L.length-aD.length:=ω
    have Ej:0<ax:=ω
    have Qh:aD.length<=L.length:=ω
    have C8:aD.length<=ax:=ω
    have UL:aD.length+(L.length-aD.length)<=ax:=ω
    simp[c,s3,u,W,de bK,o,J,Qh,C8,rU X,rU k8,rU Ej,l'.get,wX];refine hQ ⟨.kq ⟨l'.lt,by rw[D.eR,aq rfl]⟩ ζ (λ x Z=>?_) C8 he B,gK.put (.inr ζ)⟩;rw[Xa Z];exact G x Z
  .simp[c,s3,m,z,de bK,hl.get,r k m,r (k-1) z,Df,Qu,w,R,bq (aT m (aY J B))];refine ih (k+1) _ _ ω ⟨rfl,by simp[c],ζ,ω,ω,λ i O F=>?_⟩;rcases pH.1 F with h4|rfl
   .exact cR i O h4
   .rw[bf m,bf z];simp[R]
 .obtain rfl:k=L.length:=ω
  subst Q;have e:AG L=L:=by unfold AG;rw[TD aF cR,iF]
  simp[c,s3,de bK];refine hQ ⟨?_,aw⟩;rw[e];rw[bW]at h;exact h
end
variable{K:D}{v:J}{l:BW}{aH:AT}
def JL(n:Nat)(k:Int):Bool:=decide (k<0)||decide ((n:Int)<=k)
def JH(n:Nat)(l:BW):BW:=AG (lK (l.filter λ k=>!JL n k))
def gC(g:List BW):List BW:=g.map (JH g.length)
def ajy{k:Int}:k∈JH n l↔k∈l/\0<=k/\k<n:=by unfold JH JL;rw[apc,(yB _).mem_iff,Oz];simp
def aW.co{R:α->AU->Prop}{L:List α}(h:aW H' es R v L):cellsOf v=[v]:=by cases h<;>rfl
def aX.co(h:aX H' es v M aH):cellsOf v=[v]:=by cases h<;>rfl
def aX.cell(h:aX H' es v M aH):km v=true:=by cases h<;>rfl
section
variable{H:D}{v:J}
def azx{t:CX}{ro:Bool}(k:Int)(p:GI 0 K v g)(m:Lv K a0 (.cells 1 t ro))(c:AV t 0 v):CN 178 [ae k,.ptr a0 0] K λ v T=>v=bl (JL g.length k)/\K=T:=by
 refine ba arl rfl λ q o=>?_
 by_cases h:k<0
 .simp[h,m.get,c]
  exact o ⟨by simp[JL,h],rfl⟩
 .simp[h,p.sl.aN yO,m.get,c]
  exact o ⟨by simp[JL,h],rfl⟩
def abB(m:GI 0 H v g)(hn:g.length<=1048576)(hr:∀l∈g,l.length<=1099511627776):CN 148 [v] H λ u K=>GI H.ab K u (gC g)/\I [] H K:=by
 refine ba aq0 rfl λ Q' hQ=>?_
 have bR:g.length*24<=140737488355328:=ω
 have eG:g.length<=9223372036854775807:=ω
 have fo:24*g.length<=140737488355328:=ω
 simp[m.sl.aN yO,m.sl.cell,m.sl.co,eG,fo,wX]
 generalize q:D.add _ _=C
 have i1:Lv C H.ab (.cells 1 (Tr.e.put 0 (some v)) false):=by rw[<-q];exact Lv.new.add
 have i2:mh C (H.ab+1) (H.ab+2) g.length λ _=>[]:=by
  have:C.ab=H.ab+2:=by rw[<-q];rfl
  rw[<-this];refine mh.init (t:=Tr.px [.lit (.slice none 0 0)] 1 g.length 0 Tr.e) (λ x Z=>?_) (by rw[<-q];exact Lv.new);rw[Bp,aq ω]
 have g2:I [] H C:=by rw[<-q];exact(aw.add _).add _
 clear q
 refine CA (λ i sl K=>I [] H K/\Lv K H.ab (.cells 1 (Tr.e.put 0 (some v)) false)/\mh K (H.ab+1) (H.ab+2) g.length (λ x=>if x<i then JH g.length (g[x]?.getD [])else[])/\AV sl 1 (.ptr H.ab 0)/\AV sl 3 (.sl (H.ab+1) 0 1 g.length g.length true)/\AV sl 10 v/\AV sl 11 (ae g.length)/\AV sl 12 (ae i)/\i<=g.length) g.length ⟨g2,i1,i2.congr λ x Z=>ζ,ζ⟩ ?_
 rintro b kk-Q i sl K ⟨o,l1,J,s1,s3,bt,N,fK,A⟩ ih
 by_cases h:i<g.length
 .have⟨id,ah,ax,ex,n,t,ro,c,hv,hl,aU,bU,kj,_⟩:=(m.ai o).row h
  simp[bt,N,fK,h,hv,hl.get,bU,aU];refine CW (aoC kj.sl (hr _ (cG h))) ?_;rintro v1 K1 ⟨r,aH,O,f1⟩;have hK:H.ab+1<K.ab:=J.lt;simp[s1];refine CW (apd (p:=JL g.length) O ?_) ?_
  .intro x Z T X;simp;have A_:Lv T H.ab (.cells 1 (Tr.e.put 0 (some v)) false):=(l1.ai r).W X λ B=>by have:=f1 _ B;omega
   have gH:I [] H T:=⟨aY o.ab (aY r.ab X.ab),λ j R _=>((X.get j (by have:=o.ab;have:=r.ab;omega) λ B=>by have:=f1 _ B;omega).trans (r.get j (by have:=o.ab;omega) ζ)).trans (o.get j R ζ)⟩;refine(azx x (m.ai gH) A_ ζ).mono ?_;rintro w K3 ⟨rfl,rfl⟩;exact⟨rfl,aw⟩
  rintro v2 K2 ⟨U,PB⟩;simp;refine CW (XQ aau U ?_) ?_
  .have:=BP (λ k=>!JL g.length k) g[i];have:=hr _ (cG h);omega
  rintro _ K3 ⟨rfl,F,g3⟩;simp[s3];refine CW (Zz F) ?_;rintro v4 K4 ⟨V,g4⟩;have gA:I aH K K4:=((r.mono ζ).trans PB).trans (g3.trans g4);have z:I [] K K4:=⟨gA.ab,λ j R _=>gA.get j R λ B=>by have:=f1 _ B;omega⟩;have⟨t',u',ids',q1,q2,q3,q4,q5,q6⟩:=J.use h;have Bn:=q1.ai z;have xX:=V.cell;have S:=V.co;simp[fK,h,Bn.get,xX,S,dz h,bq (aT h m.sl.cP)];have fH:=q5 K4 v4 _ aH (z.mono ζ) V (λ y G=>.inr (f1 y G));refine ih ω ⟨(o.trans z).put (.inl ω),(l1.ai z).eu ω,fH.congr λ x Z=>?_,by simp[s1],by simp[s3],by simp[bt,hv],by simp[N],ζ,ω⟩;by_cases e:x=i
  .subst e;simp[JH,h]
  .simp only[ao e];by_cases e2:x<i
   .rw[aq e2,aq ω]
   .rw[ao e2,ao ω]
 .obtain rfl:i=g.length:=ω
  subst Q;simp[N,fK,s3];refine hQ ⟨J.gi m.sl.cP (by simp[gC]) (λ i A=>?_) ω,o⟩;have dJ:i<g.length:=by simpa[gC]using A
  simp[gC,dJ]
end
variable{j:Nat}
def z'(l:BW)(k:Nat)(j:Nat):BW:=(l.filter λ x=>decide (x=(k:Int))).map λ _=>(j:Int)
def qI(N:List BW):Nat->Nat->BW
 |0,_=>[]|j+1,k=>qI N j k++z' (N[j]?.getD []) k j
def h_(g:List BW):List BW:=(List.range g.length).map λ k=>qI (gC g) g.length k
def azH(h:a0<l.length):z' (l.take (a0+1)) b0 j=z' (l.take a0) b0 j++(if l[a0]=b0 then[(j:Int)]else[]):=by unfold z';rw[mI,bf h,YD,lF];by_cases e:l[a0]=(b0:Int)<;>simp[e]
def ajC{k:Nat}:(z' l k j).length<=l.length:=by unfold z';rw[bW];exact BP _ _
theorem Zi{N:List BW}(h:∀l∈N,l.length<=1048576):∀{j k:Nat},(qI N j k).length<=j*1048576
 |0,k=>by simp[qI]
 |j+1,k=>by
  have O:=Zi h (j:=j) (k:=k)
  have U:=ajC (l:=N[j]?.getD []) (k:=k) (j:=j)
  have F:(N[j]?.getD []).length<=1048576:=by cases c:N[j]? with|none=>simp|some l=>exact h l (oS c)
  simp only[qI,iP];omega
def ayf{i:Int}:i∈z' l a0 j↔i=j/\(a0:Int)∈l:=by
 unfold z';simp only[jn,Oz,rK];constructor
 .rintro⟨a,⟨O,rfl⟩,U⟩;exact⟨U.symm,O⟩
 .rintro⟨rfl,h⟩;exact⟨_,⟨h,rfl⟩,rfl⟩
theorem Rc{N:List BW}{k:Nat}{i:Int}:∀{j:Nat},i∈qI N j k↔∃a,a<j/\i=(a:Int)/\(k:Int)∈N[a]?.getD []
 |0=>by simp[qI]
 |j+1=>by
  simp only[qI,b_,ayf,Rc (j:=j)]
  constructor
  .rintro(⟨a,O,U,F⟩|⟨O,U⟩)
   .exact⟨a,ω,U,F⟩
   .exact⟨j,ω,O,U⟩
  .rintro⟨a,O,U,F⟩
   rcases pH.1 O with c|rfl
   .exact .inl ⟨a,c,U,F⟩
   .exact .inr ⟨U,F⟩
def ajx:(JH n l).length<=l.length:=by unfold JH;refine aY ZG ?_;rw[M5];exact BP _ _
def vL{d:TypeDesc}(r:E.tt.get t=some ⟨.slice e,a0,b0,z0⟩)(he:E.tt.get e=some ⟨d,1,bs,z⟩){c:J}(w:aX K 1 s M aH)(A:km c=true)(B:(M.length+1)*bs<=140737488355328)(C:M.length+1<=9223372036854775807)(u:∀v' T ids',aX T 1 v' (M++[c]) ids'->I aH K T->(∀y∈ids',y∈aH\/K.ab<=y)->MD E dst v' k Y T aj):MO E (cX E t s (.sl K.ab 0 1 1 1 true) (K.add (.cells 1 (Tr.e.put 0 (some c)) false))) dst k Y aj:=by
 have g:I [] K (K.add (.cells 1 (Tr.e.put 0 (some c)) false)):=aw.add _
 have⟨v',T,ids',q,p,o,m⟩:=am2 (x:=.sl K.ab 0 1 1 1 true) r he (w.W g ζ) (c:=c) (λ k=>by unfold pz;simp) A B C
 refine zY q (u v' T ids' p ((g.mono ζ).trans o) λ y G=>?_)
 rcases m y G with h|h
 .exact .inl h
 .exact .inr (OE h)
section
variable{H:D}{v:J}
def afO(hg:GI 0 H v g)(hn:g.length<=1048576)(hr:∀l∈g,l.length<=1048576):CN 147 [v] H λ u K=>GI H.ab K u (h_ g)/\I [] H K:=by
 refine ba aqZ rfl λ Q' hQ=>?_
 have bR:g.length*24<=140737488355328:=ω
 have eG:g.length<=9223372036854775807:=ω
 have fo:24*g.length<=140737488355328:=ω
 simp[hg.sl.aN yO,eG,fo,wX]
 generalize R:D.add _ _=H2
 have i2:Lv H2 H.ab (.cells g.length (Tr.px [.lit (.slice none 0 0)] 1 g.length 0 Tr.e) false):=by rw[<-R];exact Lv.new
 have V:I [] H H2:=by rw[<-R];exact aw.add _
 have aHt:H2.ab=H.ab+1:=by rw[<-R];rfl
 clear R
 refine CW (abB (hg.ai V) hn λ l F=>by have:=hr l F;omega) ?_
 rintro u q ⟨hN,X⟩
 have i3:mh q H.ab q.ab g.length λ _=>[]:=mh.init (λ x Z=>by rw[Bp,aq ω]) (i2.ai X)
 have hNl:(gC g).length=g.length:=by simp[gC]
 have LL:∀l∈gC g,l.length<=1048576:=by intro l F;obtain⟨a,ha,rfl⟩:=jn.1 F;exact aY ajx (hr a ha)
 have hNm:∀i (h:i<(gC g).length) k,k∈(gC g)[i]->0<=k/\k<g.length:=by intro i h k Q;simp only[gC,BO]at Q;exact(ajy.1 Q).2
 unfold h_ at hQ
 generalize gC g=N at*
 simp[hN.sl.aN yO]
 refine CA (λ j sl K=>I [H.ab] q K/\mh K H.ab q.ab g.length (λ k=>qI N j k)/\AV sl 3 (.sl H.ab 0 1 g.length g.length true)/\AV sl 12 u/\AV sl 13 (ae N.length)/\AV sl 14 (ae j)/\j<=N.length) N.length ⟨aw,i3.congr λ x Z=>by simp[qI],ζ⟩ ?_
 rintro b kk-Q j sl K ⟨S,o,s3,G,w,y,hj⟩ ih
 by_cases p:j<N.length
 .obtain⟨id,ah,ax,ex,n,t,ro,c,hv,F,aU,bU,kj,aHO⟩:=hN.row p
  have bD:id∉[H.ab]:=ξ
  have Ey:=LL _ (cG p);have aHN:N[j]?.getD []=N[j]:=by simp[p]
  have hbt:=λ k=>Zi LL (j:=j) (k:=k);simp[G,w,y,p,hv,(F.W S bD).get,bU,aU,kj.sl.aN bK];refine CA (λ m sl T=>I [H.ab] q T/\mh T H.ab q.ab g.length (λ k=>qI N j k++z' (N[j].take m) k j)/\AV sl 3 (.sl H.ab 0 1 g.length g.length true)/\AV sl 4 (ae j)/\AV sl 12 u/\AV sl 13 (ae N.length)/\AV sl 14 (ae j)/\AV sl 19 c/\AV sl 20 (ae N[j].length)/\AV sl 21 (ae m)/\m<=N[j].length) (N[j].length) ⟨S,o.congr λ x Z=>by simp[z'],by simp[s3,G,w,y,hv]⟩ ?_
  rintro b2 kk2-dO m sl K2 ⟨C,z,s3,s4,G,w,y,i_,qY,jY,B⟩ eJ;by_cases r:m<N[j].length
  .obtain⟨lJ,lU,rN,kY,n2,t2,qW,fp,ck,gV,iz,aHP⟩:=kj.num r;have auY:lJ∉[H.ab]:=ξ
   obtain⟨k0,vz⟩:=hNm j p _ (cG r);obtain⟨k,Q⟩:∃k:Nat,N[j][m]=(k:Int):=⟨N[j][m].toNat,ω⟩;have eO:k<g.length:=ω
   obtain⟨t',u',ids',q1,q2,q3,q4,q5,q6⟩:=z.use eO;have bA:(qI N j k++z' (N[j].take m) k j).length<=1099511627776:=by have O:=hbt k;have U:=ajC (l:=N[j].take m) (k:=k) (j:=j);rw[eK]at U;rw[iP];omega
   simp[-cX,s3,s4,i_,qY,jY,r,fp,(ck.W C auY).get,iz,gV,Q,eO,q1.get,q2];refine vL bK qF q3 rfl (by simp at bA⊢;omega) (by simp at bA⊢;omega) ?_;intro v' T wP p1 J p3;have Bn:=q1.W J λ B=>by have:=q4 _ B;have:=z.il;omega
   simp[p1.cell,p1.co,jY,eO,Bn.get,dz eO,bq (aT r kj.sl.cP)];have jf:=z.il;have fH:=q5 T v' (qI N j k++z' (N[j].take m) k j++[(j:Int)]) wP J (by simpa using p1) p3;have hH:H.ab<q.ab:=i3.lt;have gA:I [H.ab] q T:=⟨aY C.ab J.ab,λ i A hs=>(J.get i (by have:=C.ab;omega) λ B=>by have:=q4 _ B;omega).trans (C.get i A hs)⟩;refine eJ ω ⟨gA.put (.inr ζ),fH.congr λ x Z=>?_,by simp[s3,s4,G,w,y,i_,qY,dz r]⟩;rw[azH r,Q];by_cases e:x=k
   .subst e;simp
   .have:¬(k:Int)=x:=ω
    simp[e,this]
  .obtain rfl:m=N[j].length:=ω
   subst dO;rw[iF]at z;simp[qY,jY,y,bq (aT p hN.sl.cP)];exact ih ω ⟨C,z.congr λ x Z=>by simp[qI,p],by simp[s3,G,w,dz p]⟩
 .obtain rfl:j=N.length:=ω
  subst Q;simp[w,y,s3];refine hQ ⟨o.gi hg.sl.cP ζ (λ i A=>?_) aF,⟨aY (V.trans X).ab S.ab,λ i A _=>(S.get i (by have:=(V.trans X).ab;omega) ξ).trans ((V.trans X).get i A ζ)⟩⟩;simp[hNl]
end
section
variable{H:D}{v:J}{aH:AT}
def aDY(h:aX H 1 v (aZ L) aH):CN 256 [v] H λ u K=>u=.dh []/\aX K 1 v (aZ L.reverse) aH/\I aH H K:=by
 refine ba asw rfl λ Q' w=>?_
 have hs:=h.aZ
 by_cases X:L.length=0
 .have:L=[]:=BM X
  subst this;simp[hs.aN bK];refine bu (α:=Unit) (aJ:=λ _ sl K=>H=K/\AV sl 2 (ae 0)/\AV sl 3 (ae (-1))) (mu:=λ _=>0) ?_ () _ _ ?ini;case ini=>exact⟨rfl,ζ⟩
  rintro b kk-Q _ sl K ⟨rfl,s2,s3⟩ r;subst Q;simp[s2,s3];exact w ⟨rfl,h,aw⟩
 obtain⟨id,ax,ex,t,rfl,rfl,hl,p,F,he,B⟩:=h.uC ξ
 simp only[bW]at p F⊢
 have GC:∀x (Z:x<L.length),t.get x=some (ae L[x]):=λ x Z=>by rw[p x Z];simp[Z]
 clear p
 have R:IntKind.wrap .i64 ((L.length:Int)-1)=(L.length:Int)-1:=fQ ω (by unfold maxLen at B;omega)
 simp[de bK,R]
 refine CA (λ i sl K=>∃t',I [id] H K/\Lv K id (.cells ax t' false)/\(∀x (Z:x<L.length),t'.get x=some (ae (if x<i\/L.length-1-x<i then L[L.length-1-x]else L[x])))/\AV sl 0 (.sl id 0 1 L.length ax ex)/\AV sl 2 (ae i)/\AV sl 3 (ae ((L.length:Int)-1-i))/\2*i<=L.length) L.length ⟨t,aw,hl,λ x Z=>by simp[GC x Z],ζ⟩ ?_
 rintro b kk-Q i sl K ⟨t',y,l',c,q,s2,s3,A⟩ r
 by_cases az:2*i+1<L.length
 .obtain⟨k,W⟩:∃k,k=L.length-1-i:=⟨_,rfl⟩
  have e:(L.length:Int)-1-i=(k:Int):=ω
  have O:=c i ω;have U:=c k ω;rw[ao ω]at O U;have V:i<L.length:=ω
  have T:k<L.length:=ω
  have o:i<k:=ω
  have G:i<ax:=ω
  have J:k<ax:=ω
  have N:IntKind.wrap .i64 ((i:Int)+1)=(i:Int)+1:=bq ω;have EW:IntKind.wrap .i64 ((k:Int)-1)=(k:Int)-1:=fQ ω (by unfold maxLen at B;omega);rw[e]at s3;simp[q,s2,s3,o,V,T,l'.get,O,U,G,J,dz G,dz J,N,EW];refine r ω ⟨_,(y.put (.inr ζ)).put (.inr ζ),⟨l'.lt,by rw[D.eR,aq rfl]⟩,λ x Z=>?_,by simp[q],ζ,?_,ω⟩
  .simp only[Tr.eR];by_cases C:x=k
   .subst C;rw[aq rfl,aq ω];congr 2;have:L.length-1-x=i:=ω
    simp[this]
   .rw[ao C];by_cases z:x=i
    .subst z;rw[aq rfl,aq ω];congr 2;simp[W]
    .rw[ao z,c x Z];congr 3;have S:(x<i\/L.length-1-x<i)↔(x<i+1\/L.length-1-x<i+1):=ω
     exact propext S
  .simp;omega
 .subst Q
  have m:¬((i:Int)<(L.length:Int)-1-i):=ω
  simp[s2,s3,m];refine w ⟨rfl,.kq l' ζ (λ x Z=>?_) (by simpa using F) he B,y⟩;rw[bW]at Z;rw[c x Z];simp[Z];intro O U;have:L.length-1-x=x:=ω
  simp only[this]
def ayR(p:n<=1048576)(K:D):CN 230 [.lit (.int .u64 1),.lit (.int .u64 n)] K λ v T=>v=.dh [.lit (.int .u64 0),.lit (.int .u64 n)]/\K=T:=by
 refine ba ar5 rfl λ q h=>?_;have o:Go.bits .and .u64 1 4294967295=1:=by have:=bits_and_u64_nat 1 4294967295 η η;simpa using this
 have m:Go.bits .and .u64 (n:Int) 4294967295=n:=by
  have:=bits_and_u64_nat n 4294967295 ω η;rw[show(4294967295:Int)=((4294967295:Nat):Int)from rfl,this];have:n&&&4294967295=n:=by rw[show 4294967295=2^32-1 from rfl,Nat.and_two_pow_sub_one_eq_mod];exact YN ω
  rw[this]
 have a3:Go.bits .and .u64 0 4294967295=0:=by have:=bits_and_u64_nat 0 4294967295 η η;simpa using this
 have d1:(n:Int)/4294967296=0:=ω
 have w0:IntKind.wrap .u64 0=0:=rfl;have c:IntKind.wrap .u64 (n:Int)=n:=wrap_u64 ω ω;simp[KX,Tq,o,m,a3,w0,c,d1];exact h ⟨rfl,rfl⟩
def ayS(c:n<=1048576)(K:D):CN 179 [.lit (.int .u64 1),.lit (.int .u64 n)] K λ v T=>v=.dh [.lit (.int .u64 0),.lit (.int .u64 n)]/\K=T:=by refine ba arn rfl λ m h=>?_;simp;refine CW (ayR c K) ?_;rintro _ _ ⟨rfl,rfl⟩;simp;exact h ⟨rfl,rfl⟩
def aj8{t:CX}{ro:Bool}{x:Int}(N:Lv H a0 (.cells 1 t ro))(Z:AV t 0 (ae x))(hn:n<=1048576):CN 150 [.sl a0 0 1 1 1 true,ae n] H λ v K=>v=.sl H.ab 0 1 n n true/\aX K 1 v (aZ (List.replicate n x)) [H.ab]/\I [] H K:=by
 refine ba aq3 rfl λ Q' O=>?_
 have h0:¬(n:Int)<0:=ω
 have c1:IntKind.wrap .u64 (n:Int)=n:=wrap_u64 ω ω
 have c2:IntKind.wrap .u64 1=1:=rfl
 simp[de bK,h0,c1,c2]
 refine CW (ayS hn H) ?_
 rintro _ _ ⟨rfl,rfl⟩
 have c3:¬(9223372036854775807:Int)<n:=ω
 have c4:IntKind.wrap .i64 (n:Int)=n:=fQ ω ω
 have bR:n*8<=140737488355328:=ω
 have eG:n<=9223372036854775807:=ω
 have fo:8*n<=140737488355328:=ω
 have u:bc t 0 1=some [ae x]:=by simp[bc,Z]
 have cR:¬a0=H.ab:=bC N.lt
 have EP:∀{t':CX} {m:Nat},(∀j,j<m->t'.get j=some (ae x))->bc t' 0 m=some (List.replicate m (ae x)):=by intro t' m h;refine iB.2 ⟨ζ,λ i A=>?_⟩;rw[mQ,h i A];simp[A]
 have dV:∀m,fX (List.replicate m (ae x))=true:=λ m=>YY λ y G=>by rw[(List.mem_replicate.1 G).2];rfl
 simp[-AF,c3,c4,eG,fo,wX]
 generalize w:D.add _ _=F
 have r:Lv F H.ab (.cells n (Tr.px [ae 0] 1 n 0 Tr.e) false):=by rw[<-w];exact Lv.new
 have C:I [] H F:=by rw[<-w];exact aw.add _
 clear w
 rcases ze n with X|T
 .subst X
  refine Fi (ao4 bK qF ζ) ?_;simp;refine bu (α:=Unit) (aJ:=λ _ sl K=>F=K/\AV sl 7 (.sl H.ab 0 1 0 0 true)/\AV sl 8 (ae 0)) (mu:=λ _=>0) ?_ () _ _ ?ini;case ini=>exact⟨rfl,ζ⟩
  rintro b kk-Q _ sl K ⟨rfl,o,p⟩ J;subst Q;simp[o,p,de bK];exact O ⟨rfl,.kq r ζ (λ j c=>ω) aF (λ h=>by cases h) (by unfold maxLen;omega),C⟩
 refine Fi (af6 bK qF (m:=1) r.get (N.ai C).get ω ω u rfl ω ω) ?_
 simp
 refine bu (α:=Nat) (aJ:=λ f sl K=>∃t',I [] H K/\Lv K H.ab (.cells n t' false)/\(∀j,j<f->t'.get j=some (ae x))/\AV sl 7 (.sl H.ab 0 1 n n true)/\AV sl 8 (ae f)/\1<=f/\f<=n) (mu:=λ f=>n-f) ?_ 1 _ _ ?ini3
 case ini3=>
  refine⟨_,C.put (.inl aF),⟨r.lt,by rw[D.eR,aq rfl]⟩,λ j c=>?_,ζ,ζ,ω,ω⟩
  obtain rfl:j=0:=ω
  simp
 rintro b kk-Q f sl K ⟨t',R,l',z,o,p,o_,W⟩ J
 by_cases az:f<n
 .have U:0<n-f:=ω
  have V:0<n:=T;simp[-AF,o,p,de bK,az,W,rU U,rU V];obtain⟨m,B⟩:∃m,m=min f (n-f):=⟨_,rfl⟩;refine Fi (af6 bK qF (m:=m) l'.get l'.get B ω (EP λ j c=>z j ω) (dV _) ω ω) ?_;have S:IntKind.wrap .i64 ((f:Int)+m)=((f+m:Nat):Int):=by rw[fQ ω ω];omega
  simp[S];refine J (f+m) _ _ ω ⟨_,R.put (.inl aF),⟨l'.lt,by rw[D.eR,aq rfl]⟩,λ j c=>?_,by simp[o],ζ,ω,ω⟩;rw[Tr.vn];by_cases q:f<=j/\j<f+(List.replicate m (ae x)).length
  .rw[aq q];have:j-f<m:=by simp at q;omega
   simp[this]
  .rw[ao q];exact z j (by simp at q;omega)
 .obtain rfl:f=n:=ω
  subst Q;simp[o,p,de bK];refine O ⟨rfl,.kq l' ζ (λ j c=>?_) aF (λ h=>by cases h) (by unfold maxLen;omega),R⟩;rw[z j c];simp[c]
end
namespace PL
theorem Rk:∀{n:Nat} {l:AT},l.Nodup->(∀x∈l,x<n)->l.length<=n
 |0,l,_,h=>by
  cases l with|nil=>simp|cons a l=>have:=h a ζ;omega
 |n+1,l,c,h=>by
  have O:(l.erase n).Nodup:=c.erase n
  have U:∀x∈l.erase n,x<n:=λ x Z=>by have F:=h x (List.mem_of_mem_erase Z);have m:x≠n:=((List.Nodup.mem_erase_iff c).1 Z).1;omega
  have F:=Rk O U
  have m:l.length<=(l.erase n).length+1:=by rw[List.length_erase];split<;>omega
  omega
structure PW(n:Nat)(e:Nat->Nat->Prop)(kZ:Nat)(bT left:List Nat)(seen:Nat->Bool):Prop where
 nd:(bT++left).Nodup
 lt:∀x∈bT++left,x<n
 sn:∀x,seen x=true↔x∈bT++left
 hd:∀(x:Nat),bT[0]?=some x->x=kZ
 en:bT=[]->left.getLast?=some kZ
 Ty:∀(k a b:Nat),bT[k]?=some a->bT[k+1]?=some b->e a b
 pre:∀(t:Nat) (x:Nat),left[t]?=some x->x=kZ\/∃p,e p x/\(p∈bT\/∃s:Nat,t<s/\left[s]?=some p)
 cl:∀i∈left,∀k,e i k->seen k=true
section
variable{n:Nat}{e:Nat->Nat->Prop}{kZ:Nat}{bT left:AT}{seen:Nat->Bool}
def PW.init(h:kZ<n):PW n e kZ [kZ] [] (λ x=>decide (x=kZ))where
 nd:=ζ
 lt:=by simp[h]
 sn x:=ζ
 hd x:=by simp;exactλ h=>h.symm
 en:=ζ
 Ty k a b O U:=by simp at U
 pre t x h:=by simp at h
 cl i h:=by simp at h
def PW.len(h:PW n e kZ bT left seen):bT.length+left.length<=n:=by rw[<-iP];exact Rk h.nd h.lt
def PW.push(h:PW n e kZ bT left seen)(A:bT.getLast?=some i)(he:e i a0)(Q:seen a0=false)(r:a0<n):PW n e kZ (bT++[a0]) left (λ x=>decide (x=a0)||seen x):=by
 have q:a0∉bT++left:=λ B=>by rw[(h.sn a0).2 B]at Q;cases Q
 have w:bT≠[]:=by rintro rfl;simp at A
 have u:0<bT.length:=za.2 w;refine⟨?_,λ x Z=>?_,λ x=>?_,λ x Z=>?_,λ Z=>by simp at Z,λ t a b O U=>?_,λ t x Z=>?_,λ a o b m=>by simp[h.cl a o b m]⟩
 .have O:=h.nd;simp only[b_,not_or]at q;rw[zd]at O⊢;refine⟨?_,O.2.1,λ a o b m=>?_⟩
  .rw[zd];exact⟨O.1,ζ,λ a o b m=>by simp at m;subst m;rintro rfl;exact q.1 o⟩
  .rcases b_.1 o with U|U
   .exact O.2.2 a U b m
   .simp at U;subst U;rintro rfl;exact q.2 m
 .simp only[b_,jo]at Z;rcases Z with(Z|rfl)|Z
  .exact h.lt x (by simp[Z])
  .exact r
  .exact h.lt x (by simp[Z])
 .have:=h.sn x;simp only[b_]at this;simp only[xt,rK,b_,jo,this];constructor
  .rintro(h|h|h)
   .exact .inl (.inr h)
   .exact .inl (.inl h)
   .exact .inr h
  .rintro((h|h)|h)
   .exact .inr (.inl h)
   .exact .inl h
   .exact .inr (.inr h)
 .rw[jI u]at Z;exact h.hd x Z
 .have y:t+1<bT.length+1:=by have:=(cW.1 U).1;simpa using this
  rw[jI ω]at O;by_cases c:t+1<bT.length
  .rw[jI c]at U;exact h.Ty t a b O U
  .have:t+1=bT.length:=ω
   rw[this,mi aF]at U;simp at U;subst U;rw[KG,show bT.length-1=t by omega,O]at A;cases A;exact he
 .rcases h.pre t x Z with O|⟨p,O,U⟩
  .exact .inl O
  .exact .inr ⟨p,O,U.imp (λ h=>by simp[h]) id⟩
def PW.pop(h:PW n e kZ bT left seen)(A:bT.getLast?=some i)(u:∀k,e i k->seen k=true):PW n e kZ bT.dropLast (left++[i]) seen:=by
 have c:bT≠[]:=by rintro rfl;simp at A
 have G:0<bT.length:=za.2 c;have hw:bT=bT.dropLast++[i]:=by have:=List.dropLast_concat_getLast c;rw[YG c]at A;cases A;exact this.symm
 have m:∀x,x∈bT.dropLast++(left++[i])↔x∈bT++left:=by
  intro x;conv=>rhs;rw[hw]
  simp only[b_,jo];constructor
  .rintro(h|h|h)
   .exact .inl (.inl h)
   .exact .inr h
   .exact .inl (.inr h)
  .rintro((h|h)|h)
   .exact .inl h
   .exact .inr (.inr h)
   .exact .inr (.inl h)
 refine⟨?_,λ x Z=>h.lt x ((m x).1 Z),λ x=>(h.sn x).trans (m x).symm,λ x Z=>?_,λ Z=>?_,λ t a b O U=>?_,λ t x Z=>?_,λ a C b q=>?_⟩
 .have O:=h.nd;rw[hw]at O;have:(bT.dropLast++(left++[i])).Perm (bT.dropLast++[i]++left):=by rw[FK];exact List.Perm.append_left _ List.perm_append_comm
  exact this.nodup_iff.2 O
 .refine h.hd x ?_;have:=(cW.1 Z).1;rw[hw,jI this];exact Z
 .rw[Z]at hw;have:=h.hd i (by rw[hw];rfl);rw[this];simp
 .refine h.Ty t a b ?_ ?_
  .have:=(cW.1 O).1;rw[hw,jI this];exact O
  .have:=(cW.1 U).1;rw[hw,jI this];exact U
 .by_cases o:t<left.length
  .rw[jI o]at Z;rcases h.pre t x Z with O|⟨p,O,U⟩
   .exact .inl O
   .refine .inr ⟨p,O,?_⟩;rcases U with U|⟨s,U,F⟩
    .rw[hw]at U;rcases b_.1 U with U|U
     .exact .inl U
     .simp at U;subst U;exact .inr ⟨left.length,o,ζ⟩
    .exact .inr ⟨s,U,by rw[jI (cW.1 F).1];exact F⟩
  .have z:=(cW.1 Z).1;have:t=left.length:=by simp at z;omega
   subst this;simp at Z;subst Z;cases hd:bT.dropLast.getLast? with
   |none=>
    have y:bT.dropLast=[]:=by simpa using hd
    rw[y]at hw
    exact .inl (h.hd i (by rw[hw];rfl))
   |some p=>
    refine .inr ⟨p,?_,.inl (KH hd)⟩
    have D:0<bT.dropLast.length:=by cases r:bT.dropLast with|nil=>rw[r]at hd;simp at hd|cons _ _=>simp
    refine h.Ty (bT.dropLast.length-1) p i ?_ ?_
    .rw[hw,jI (by simp at D⊢;omega)]
     rw[KG]at hd;simpa using hd
    .have B:bT.dropLast.length-1+1=bT.dropLast.length:=ω
     rw[B];have key:∀w:AT,(w++[i])[w.length]?=some i:=λ w=>ζ
     have:=key bT.dropLast;rwa[<-hw]at this
 .rcases b_.1 C with O|O
  .exact h.cl a O b q
  .simp at O;subst O;exact u b q
structure aeG(n:Nat)(e:Nat->Nat->Prop)(kZ:Nat)(L:List Nat):Prop where
 nd:L.Nodup
 lt:∀x∈L,x<n
 hd:L[0]?=some kZ
 pre:∀(t x:Nat),L[t]?=some x->0<t->∃s p:Nat,s<t/\L[s]?=some p/\e p x
 cl:∀i∈L,∀k,e i k->k∈L
def PW.fin(h:PW n e kZ [] left seen):aeG n e kZ left.reverse:=by
 have m:left.Nodup:=by have:=h.nd;simpa using this
 have c:=h.en rfl;refine⟨(List.reverse_perm left).nodup_iff.2 m,λ x Z=>h.lt x (by simpa using Z),?_,λ t x Z y=>?_,λ i A k Q=>?_⟩
 .rw[<-c,List.getLast?_eq_head?_reverse,List.head?_eq_getElem?]
 .have o:=(cW.1 Z).1;rw[List.length_reverse]at o;rw[afa o]at Z;rcases h.pre _ _ Z with rfl|⟨p,O,U|⟨s,U,F⟩⟩
  .exfalso;rw[KG]at c;have⟨w,u⟩:=cW.1 Z;have⟨r,q⟩:=cW.1 c;exact(HZ.1 m) _ _ w r ω (u.trans q.symm)
  .simp at U
  .have z:=(cW.1 F).1;refine⟨left.length-1-s,p,ω,?_,O⟩;rw[afa ω,show left.length-1-(left.length-1-s)=s by omega];exact F
 .have:=(h.sn k).1 (h.cl i (by simpa using A) k Q);simpa using this
end
end PL
variable{x:Nat}
abbrev vO(l:AT):BW:=l.map λ n:Nat=>(n:Int)
abbrev F8(f:Nat->Bool):Nat->J:=λ x=>bl (f x)
def bV(N:List BW)(i k:Nat):Prop:=(k:Int)∈N[i]?.getD []
def abA{k:Int}(h:i<(gC g).length)(Q:k∈(gC g)[i]):0<=k/\k<g.length:=by simp only[gC,BO]at Q;exact(ajy.1 Q).2
def adw:((Tr.e:Tr α).put 0 a).put 0 b=Tr.e.put 0 b:=rfl
section
variable{H:D}{v:J}
def aCh{t:CX}(m:Lv K a0 (.cells 1 t false))(c:AV t 0 (.sl b0 0 1 n n true))(h:iD K b0 n (F8 f))(Q:es<n):CN 255 [ae es,.ptr a0 0] K λ v T=>v=bl (!f es)/\K=T:=by
 refine ba asv rfl λ p o=>?_
 have⟨u,l2,U⟩:=h.ob
 simp[m.get,c,l2.get,U es Q,Q]
 exact o ⟨rfl,rfl⟩
def iD.put{id:Nat}{f:Nat->J}{c:J}{u:CX}(h:Lv K id (.cells n u false))(hu:∀x,x<n->u.get x=some (f x)):iD (K.put id (some (.cells n (u.put x (some c)) false))) id n (λ y=>if y=x then c else f y):=
 ⟨_,⟨h.lt,by rw[D.eR,aq rfl]⟩,λ y G=>by
   rw[Tr.eR]
   by_cases e:y=x
   .simp[e]
   .simp[e,hu y G]⟩
def aCi(hg:GI 0 H v g)(hn:g.length<=1048576)(hr:∀l∈g,l.length<=1048576)(hf:a0<g.length):CN 203 [v,ae a0] H λ u K=>∃L aH,aX K 1 u (aZ (vO L)) aH/\(∀y∈aH,H.ab<=y)/\PL.aeG g.length (bV (gC g)) a0 L/\I [] H K:=by
 refine ba arL rfl λ Q' hQ=>?_
 have h0:¬(a0:Int)<0:=ω
 have O:¬g.length<=a0:=ω
 simp[h0,O,hg.sl.aN yO]
 refine CW (abB hg hn λ l hl=>by have:=hr l hl;omega) ?_
 rintro u m ⟨hN,g1⟩
 have bR:g.length<=140737488355328:=ω
 have eG:g.length<=9223372036854775807:=ω
 simp[hg.sl.aN yO,bR,eG,wX,hf,dz hf]
 generalize U:D.add _ _=H2
 have kO:H2.ab=m.ab+3:=by rw[<-U];rfl
 have g2:I [] m H2:=by rw[<-U];refine I.add (I.put (I.put (I.add (I.add aw _) _) ?_) ?_) _<;>exact .inl ζ
 have i0:iD H2 m.ab g.length (F8 λ x=>decide (x=a0)):=by
  rw[<-U];refine⟨⟨_,⟨by simp[D.add];omega,by simp[D.jK,show¬m.ab=m.ab+1+1 by omega];rfl⟩,λ x Z=>?_⟩⟩;by_cases e:x=a0
  .simp[e]
  .simp[e,Bp,Z]
 have i1:∃t,Lv H2 (m.ab+1) (.cells 1 t false)/\AV t 0 (.sl m.ab 0 1 g.length g.length true):=by rw[<-U];exact⟨_,⟨by simp[D.add],by simp[D.jK];rfl⟩,ζ⟩
 have i2:aX H2 1 (.sl (m.ab+2) 0 1 1 1 true) (aZ (vO [a0])) [m.ab+2]:=by
  rw[<-U];exact .kq (ax:=1) (t:=Tr.e.put 0 (some (ae a0))) ⟨by simp[D.add],by simp[D.jK];rfl⟩ rfl (λ j V=>by
   obtain rfl:j=0:=ω
   simp) aF (λ h=>by cases h) (by unfold maxLen;omega)
 clear U
 refine bu (α:=AT×AT×(Nat->Bool)) (aJ:=λ p sl K=>I [] m K/\iD K m.ab g.length (F8 p.2.2)/\(∃t,Lv K (m.ab+1) (.cells 1 t false)/\AV t 0 (.sl m.ab 0 1 g.length g.length true))/\PL.PW g.length (bV (gC g)) a0 p.1 p.2.1 p.2.2/\∃w l ic GS,aX K 1 w (aZ (vO p.1)) ic/\aX K 1 l (aZ (vO p.2.1)) GS/\(∀y∈ic,m.ab+2<=y)/\(∀y∈GS,m.ab+2<=y)/\(∀y∈ic,y∉GS)/\AV sl 5 u/\AV sl 6 (.ptr (m.ab+1) 0)/\AV sl 7 w/\AV sl 8 l) (mu:=λ p=>2*(g.length-(p.1.length+p.2.1.length))+p.1.length) ?_ ([a0],[],λ x=>decide (x=a0)) _ _ ?ini
 case ini=>exact⟨g2,i0,i1,PL.PW.init hf,_,_,_,_,i2,.nil,ζ,ζ,ζ,ζ⟩
 rintro b kk-Q ⟨bT,left,seen⟩ sl K ⟨X,o0,⟨tc,l1,t1⟩,P,w,l,ic,GS,ow,ol,Ew,J,US,s5,s6,s7,s8⟩ ih
 dsimp only at o0 P ow ol
 have mD:=ow.aZ.aN (E:=E0) bK
 simp only[bW]at mD
 by_cases hz:bT=[]
 .subst hz
  subst Q;simp[s7,s8,mD];refine CW (aDY ol) ?_;rintro _ K3 ⟨rfl,F,C⟩;simp[s8];refine hQ ⟨left.reverse,GS,by simpa[aZ,vO]using F,λ y G=>?_,P.fin,?_⟩
  .have:=J y G;have:=g1.ab;omega
  .exact⟨aY g1.ab (aY X.ab C.ab),λ i A _=>((C.get i (by have:=g1.ab;have:=X.ab;omega) λ B=>by have:=J _ B;have:=g1.ab;omega).trans (X.get i (by have:=g1.ab;omega) ζ)).trans (g1.get i A ζ)⟩
 have wL:0<bT.length:=za.2 hz
 obtain⟨Jr,kc,AI,tw,rfl,rfl,lw,vx,C_,Qp,Qy⟩:=ow.uC (by simpa using wL)
 simp only[bW]at vx C_
 have bA:=P.len
 have Df:IntKind.wrap .i64 ((bT.length:Int)-1)=((bT.length-1:Nat):Int):=by rw[fQ ω ω];omega
 obtain⟨i,A⟩:∃i,bT.getLast?=some i:=⟨_,YG hz⟩
 have au5:bT[bT.length-1]?=some i:=by rw[<-KG];exact A
 have jA:i∈bT:=KH A
 have az:i<g.length:=P.lt i (by simp[jA])
 have rP:tw.get (bT.length-1)=some (ae i):=by rw[vx _ ω];simp[au5]
 have hNl:(gC g).length=g.length:=by simp[gC]
 have S:i<(gC g).length:=ω
 have⟨MU,WJ,Tx,TZ,na,ta,Xe,c,kl,sI,AY,zP,My,_⟩:=hN.row S
 have kj:=My.ai X
 have mC:bT.length-1<kc:=ω
 have avW:bT.length-1<bT.length:=ω
 simp[s5,s6,s7,de bK,wL,Df,lw.get,rP,mC,avW,kl,S,(sI.ai X).get,AY,zP]
 have aIq:=kj.sl.cP
 refine CW (DO.p QS.2 (p:=λ k=>!seen k.toNat) kj.sl ?_) ?_
 .intro k Q q T gx hc
  cases hc;have vz:=abA S Q;obtain⟨o,rfl⟩:∃o:Nat,k=o:=⟨k.toNat,ω⟩;simp;refine(aCh (l1.ai gx) t1 (o0.W gx ζ) ω).mono ?_;rintro v' dP ⟨rfl,rfl⟩;exact⟨ζ,aw⟩
 rintro _ K2 ⟨rfl,C⟩
 have A_:=l1.ai C
 have Nu:=o0.W C ζ
 have R:=ol.W C ζ
 have lw':=lw.ai C
 have z:=X.trans C
 have UU:∀k:Nat,bV (gC g) i k↔(k:Int)∈(gC g)[i]:=by intro k;unfold bV;simp[S]
 rcases aa3 (λ k:Int=>!seen k.toNat) (gC g)[i]with⟨e,dV⟩|⟨q,hq,e,hp,_⟩
 .rw[e]
  simp[-cX,s8];refine vL bK qF R rfl ξ ξ ?_;intro l' K4 awD p1 r p3;have Q_:=lw'.W r (by intro B;exact US Jr ζ B);have avx:bT.length-1<=kc:=ω
  have hcw:0<kc:=ω
  have avy:bT.length<=kc+1:=ω
  simp[s7,de bK,Df,avy,rU hcw];have zI:bT.dropLast.length=bT.length-1:=aff;have P':=P.pop A (λ k Q=>by have:=dV _ ((UU k).1 Q);simpa using this);refine ih (bT.dropLast,left++[i],seen) _ _ ?_ ⟨?_,?_,⟨tc,?_,t1⟩,P',.sl Jr 0 1 (bT.length-1) kc AI,l',[Jr],awD,?_,?_,Ew,λ y G=>?_,λ y G B=>?_,by simp[s5],by simp[s6],ζ,ζ⟩
  .simp[zI];omega
  .exact⟨aY z.ab r.ab,λ j V _=>(r.get j (by have:=z.ab;omega) λ B=>by have:=J _ B;omega).trans (z.get j V ζ)⟩
  .exact Nu.W r λ B=>by have:=J _ B;omega
  .exact A_.W r λ B=>by have:=J _ B;omega
  .refine .kq Q_ ζ (λ j V=>?_) ω Qp Qy;rw[vx j ω];have:j<bT.length:=ω
   simp[V,this]
  .simpa[aZ,vO]using p1
  .rcases p3 y G with h|h
   .exact J y h
   .have:=z.ab;have:=Nu.lt;have:=A_.lt;omega
  .simp at G;subst G;rcases p3 y B with h|h
   .exact US y ζ h
   .have:=lw'.lt;omega
 .rw[e]
  have⟨idr,ajE,afZ,exr,nr,tr,ror,nL,yd,Jb,Db,_⟩:=My.num hq;have vz:=abA S (cG hq);obtain⟨o,eO⟩:∃o:Nat,(gC g)[i][q]=o:=⟨(gC g)[i][q].toNat,ω⟩;rw[eO]at vz hp Db;have kJ:o<g.length:=ω
  have gS:seen o=false:=by simpa using hp
  have⟨us,ls,hus⟩:=Nu.ob;have aaH:¬MU=m.ab:=bC sI.lt;have aaI:¬idr=m.ab:=bC yd.lt;have EF:¬(q:Int)<0:=ω
  simp[-cX,s5,s6,s7,EF,hq,kl,S,(sI.ai z).get,AY,zP,nL,(yd.ai z).get,Jb,Db,A_.get,t1,ls.get,kJ,dz kJ,aaH,aaI];generalize dw:D.put _ _ _=K3;have N:I [m.ab] K2 K3:=by rw[<-dw];exact aw.put (.inr ζ)
  have o3:iD K3 m.ab g.length (F8 λ x=>decide (x=o)||seen x):=by rw[<-dw];refine(iD.put ls hus).congr λ x Z=>?_;by_cases e:x=o<;>simp[e]
  have wK:K2.ab=K3.ab:=by rw[<-dw];rfl
  clear dw;rw[wK,adw];have ow':=(ow.W C ζ).W N (by intro y G B;have:=Ew y G;simp at B;omega);simp only[bW]at ow';refine vL (c:=ae o) bK qF ow' rfl ξ ξ ?_;intro w' K4 awE p1 r p3;simp;have P':=P.push A ((UU o).2 (by rw[<-eO];exact cG hq)) gS kJ;have aH6:=o3.lt;have cT:=A_.lt;refine ih (bT++[o],left,λ x=>decide (x=o)||seen x) _ _ ?_ ⟨?_,?_,⟨tc,?_,t1⟩,P',w',l,awE,GS,?_,?_,λ y G=>?_,J,λ y G B=>?_,by simp[s5,kl],by simp[s6],ζ,by simp[s8]⟩
  .have:=P'.len;simp at this⊢;omega
  .exact⟨aY z.ab (aY N.ab r.ab),λ j V _=>((r.get j (by have:=z.ab;have:=N.ab;omega) λ B=>by have:=Ew _ B;omega).trans (N.get j (by have:=z.ab;omega) ξ)).trans (z.get j V ζ)⟩
  .exact o3.W r λ B=>by have:=Ew _ B;omega
  .exact(A_.W N ζ).W r λ B=>by have:=Ew _ B;omega
  .simpa[aZ,vO]using p1
  .exact(R.W N (by intro y G B;have:=J y G;simp at B;omega)).W r λ y G B=>US y B G
  .rcases p3 y G with h|h
   .exact Ew y h
   .have:=z.ab;have:=N.ab;omega
  .rcases p3 y G with h|h
   .exact US y h B
   .have:=R.lt y B;have:=N.ab;omega
end
def vN(out:Nat->Bool):Nat->Nat
 |0=>0|n+1=>vN out n+if out n then 0 else 1
theorem ajn{out rW:Nat->Bool}:∀{n:Nat},(∀x,x<n->out x=rW x)->vN out n=vN rW n
 |0,_=>rfl|n+1,h=>by simp only[vN];rw[ajn (n:=n) λ x Z=>h x ω,h n ω]
theorem ajo{out:Nat->Bool}{k:Nat}(c:out k=false):∀{n:Nat},k<n->vN (λ x=>decide (x=k)||out x) n+1=vN out n
 |0,h=>ω
 |n+1,h=>by
  simp only[vN]
  by_cases e:n=k
  .subst e
   rw[ajn (out:=λ x=>decide (x=n)||out x) (rW:=out) λ x Z=>ξ];simp[c]
  .have:=ajo c (n:=n) ω
   simp[e];omega
theorem ajm{out:Nat->Bool}:∀{n:Nat},vN out n<=n
 |0=>aF|n+1=>by simp only[vN];have:=ajm (out:=out) (n:=n);split<;>omega
structure RR(HB K:D)(b n:Nat)(v:J)(out:Nat->Bool)(next:List Nat):Prop where
 g:I [] HB K
 c2:∃t,Lv K b (.cells 1 t false)/\AV t 0 v
 c5:∃t,Lv K (b+2) (.cells 1 t false)/\AV t 0 (.sl (b+1) 0 1 n n true)
 o:iD K (b+1) n (F8 out)
 c6:∃t nv aH,Lv K (b+3) (.cells 1 t false)/\AV t 0 nv/\aX K 1 nv (aZ (vO next)) aH/\∀y∈aH,b+4<=y
 lt:∀x∈next,x<n
 len:next.length+vN out n<=n
section
variable{H HB:D}{v:J}{b:Nat}
def aj2{next:AT}(k:Int)(p:RR HB K b g.length v f next)(hb:HB.ab<=b)(X:GI 0 HB v g)(hn:g.length<=1048576):CN 121 [ae k,.ptr b 0,.ptr (b+2) 0,.ptr (b+3) 0] K λ u T=>∃rW next',RR HB T b g.length v rW next'/\2*vN rW g.length+next'.length<=2*vN f g.length+next.length:=by
 refine ba aqE rfl λ Q' z=>?_
 have⟨t2,l2,U⟩:=p.c2
 have⟨t5,V,h5⟩:=p.c5
 have⟨t6,nv,aH,S,h6,ow,q⟩:=p.c6
 have⟨uo,lo,ho⟩:=p.o.ob
 have bA:=p.len
 by_cases vz:0<=k
 .obtain⟨m,rfl⟩:∃m:Nat,k=m:=⟨k.toNat,ω⟩
  by_cases eO:m<g.length
  .have C:=ho m eO;cases N:f m with
   |true=>
    rw[show F8 f m=bl (f m)from rfl,N]at C
    simp[l2.get,U,V.get,h5,X.sl.aN yO,eO,lo.get,C]
    exact z ⟨f,next,p,aF⟩
   |false=>
    rw[show F8 f m=bl (f m)from rfl,N]at C
    have hc:=ajo N eO
    have e1:¬b+3=b+1:=ω
    have e2:¬b+2=b+1:=ω
    simp[-cX,l2.get,U,V.get,h5,X.sl.aN yO,eO,lo.get,C,dz eO,S.get,h6]
    generalize F:D.put _ _ _=K1
    have w:I [b+1] K K1:=by rw[<-F];exact aw.put (.inr ζ)
    have o1:iD K1 (b+1) g.length (F8 λ x=>decide (x=m)||f x):=by rw[<-F];refine(iD.put lo ho).congr λ x Z=>?_;by_cases e:x=m<;>simp[e]
    have rQ:K.ab=K1.ab:=by rw[<-F];rfl
    clear F
    rw[rQ]
    have R:=ow.W w (by intro y G B;have:=q y G;simp at B;omega)
    refine vL (c:=ae m) bK qF R rfl ξ ξ ?_
    intro v' K2 ids' Q r p3
    have Na:Lv K2 (b+3) (.cells 1 t6 false):=(S.W w ζ).W r λ B=>by have:=q _ B;omega
    simp[Na.get,Q.cell,Q.co]
    have bR:=S.lt
    have gF:∀i,i<K.ab->i≠b+1->i∉aH->K2.get i=K.get i:=λ i A O U=>(r.get i ω U).trans (w.get i A (by simpa using O))
    have gQ:I [] HB (K2.put (b+3) (some (.cells 1 (t6.put 0 (some v')) false))):=⟨aY p.g.ab (by have:=w.ab;have:=r.ab;show K.ab<=K2.ab;omega),λ i A _=>by
     have e:¬i=b+3:=ω
     rw[D.eR,ao e];exact(gF i (by have:=p.g.ab;omega) ω (λ B=>by have:=q _ B;omega)).trans (p.g.get i A ζ)⟩
    have J:I [b+3] K2 (K2.put (b+3) (some (.cells 1 (t6.put 0 (some v')) false))):=aw.put (.inr ζ)
    refine z ⟨λ x=>decide (x=m)||f x,next++[m],⟨gQ,?_,?_,?_,?_,?_,?_⟩,?_⟩
    .exact⟨t2,((l2.W w ζ).W r λ B=>by have:=q _ B;omega).W J ζ,U⟩
    .exact⟨t5,((V.W w ζ).W r λ B=>by have:=q _ B;omega).W J ζ,h5⟩
    .exact(o1.W r λ B=>by have:=q _ B;omega).W J ζ
    .have Mg:∀y∈ids',b+4<=y:=λ y G=>by
      rcases p3 y G with h|h
      .exact q y h
      .omega
     exact⟨_,v',ids',Na.put_eq,ζ,by simpa[aZ,vO]using Q.W J (by intro y G B;have:=Mg y G;simp at B;omega),Mg⟩
    .intro x Z
     rcases b_.1 Z with h|h
     .exact p.lt x h
     .simp at h;omega
    .simp;omega
    .simp;omega
  .have O:¬(m:Int)<g.length:=ω
   simp[l2.get,U,X.sl.aN yO,eO];exact z ⟨f,next,p,aF⟩
 .simp[vz]
  exact z ⟨f,next,p,aF⟩
def aDJ{Y:BW}(w:GI 0 H v g)(hn:g.length<=1048576)(hf:NI 0 H s Y):CN 55 [v,s] H λ u K=>(∃out:Nat->Bool,aW K 1 (One λ b:Bool=>bl b) u ((List.range g.length).map out))/\I [] H K:=by
 refine ba asO rfl λ Q' hQ=>?_
 have bR:g.length<=140737488355328:=ω
 have eG:g.length<=9223372036854775807:=ω
 simp[w.sl.aN yO,w.sl.cell,w.sl.co,hf.sl.aN bK,bR,eG,wX]
 generalize F:D.add _ _=H1
 have R0:RR H H1 H.ab g.length v (λ _=>false) []:=by
  have gH:I [] H H1:=by rw[<-F];refine I.add (I.put (I.add (I.add (I.add aw _) _) _) (.inl (by first|omega|(simp[D.add];omega)))) _
  refine⟨gH,?_,?_,?_,?_,ζ,?_⟩
  .rw[<-F];exact⟨_,⟨by simp[D.add];omega,by simp[D.jK,show¬H.ab=H.ab+1+1+1 by omega,show¬H.ab=H.ab+1+1 by omega];rfl⟩,ζ⟩
  .rw[<-F];exact⟨_,⟨by simp[D.add],by simp[D.jK];rfl⟩,ζ⟩
  .rw[<-F];exact⟨_,⟨by simp[D.add],by simp[D.jK];rfl⟩,λ x Z=>by simp[Bp,Z]⟩
  .rw[<-F];exact⟨_,_,[],⟨by simp[D.add],by simp[D.jK];rfl⟩,ζ,.nil,ζ⟩
  .have:=ajm (out:=λ _=>false) (n:=g.length);show 0+_<=_;omega
 clear F
 refine bu (α:=Nat×(Nat->Bool)×AT) (aJ:=λ p sl K=>RR H K H.ab g.length v p.2.1 p.2.2/\AV sl 2 (.ptr H.ab 0)/\AV sl 5 (.ptr (H.ab+2) 0)/\AV sl 6 (.ptr (H.ab+3) 0)/\AV sl 7 (.fn (.func 121) [] [.ptr H.ab 0,.ptr (H.ab+2) 0,.ptr (H.ab+3) 0])/\AV sl 17 s/\AV sl 18 (ae Y.length)/\AV sl 19 (ae p.1)/\p.1<=Y.length) (mu:=λ p=>Y.length-p.1) ?_ (0,(λ _=>false),[]) _ _ ?ini
 case ini=>exact⟨R0,ζ⟩
 rintro b1 k1-cq ⟨i,out,next⟩ sl K ⟨R,s2,q,h,c,ji,Q,G,A⟩ y
 dsimp only at R G A y
 by_cases C:i<Y.length
 .have⟨id,ah,ax,ex,n,t,ro,J,hl,aU,bU,_⟩:=(hf.ai R.g).num C
  simp[c,ji,Q,G,C,J,hl.get,bU,aU];refine CW (aj2 _ R aF w hn) ?_;rintro u X ⟨rW,next',R',_⟩;simp[G,bq (aT C hf.sl.cP)];exact y (i+1,rW,next') _ _ (by simp only;omega) ⟨R',by simp[s2,q,h,c,ji,Q,J];omega⟩
 obtain rfl:i=Y.length:=ω
 subst cq
 clear y
 simp[Q,G]
 refine bu (α:=(Nat->Bool)×AT) (aJ:=λ p sl K=>RR H K H.ab g.length v p.1 p.2/\AV sl 2 (.ptr H.ab 0)/\AV sl 5 (.ptr (H.ab+2) 0)/\AV sl 6 (.ptr (H.ab+3) 0)/\AV sl 7 (.fn (.func 121) [] [.ptr H.ab 0,.ptr (H.ab+2) 0,.ptr (H.ab+3) 0])) (mu:=λ p=>2*vN p.1 g.length+p.2.length) ?_ (out,next) _ _ ?ini2
 case ini2=>exact⟨R,by simp[s2,q,h,c]⟩
 clear s2 q h c ji Q G R A
 rintro b2 k2-dO ⟨out,next⟩ sl K ⟨R,s2,q,h,c⟩ y
 dsimp only at R y
 have⟨t2,l2,U⟩:=R.c2
 have⟨t5,l5,h5⟩:=R.c5
 have⟨t6,nv,aH,l6,h6,ow,kI⟩:=R.c6
 have N:=ow.aZ.aN (E:=E0) bK
 simp only[bW]at N
 by_cases hz:next.length=0
 .subst dO
  simp[q,h,l6.get,h6,N,hz,l5.get,h5];have⟨uo,lo,ho⟩:=R.o.ob;refine hQ ⟨⟨out,?_⟩,R.g⟩;have lR:((List.range g.length).map out).length=g.length:=ζ
  have:=aW.sl (H:=K) (es:=1) (ah:=0) (R:=One λ b:Bool=>bl b) (L:=(List.range g.length).map out) (ax:=g.length) (ex:=true) lo (by rw[lR];omega) (λ i A=>⟨[bl (out i)],iB.2 ⟨rfl,λ j S=>by
   obtain rfl:j=0:=ω
   simp;exact ho i ω⟩,by simp[One]⟩) (by rw[lR];exact aF) w.sl.cP
  rw[lR]at this;exact this
 .obtain⟨Jr,O,AI,tw,rfl,rfl,lw,vx,C_,Qp,Qy⟩:=ow.uC ξ
  simp only[bW]at vx C_ h6 N;have bA:=R.len;have wL:0<next.length:=ω
  have Df:IntKind.wrap .i64 ((next.length:Int)-1)=((next.length-1:Nat):Int):=by rw[fQ ω ω];omega
  obtain⟨i,A⟩:∃i,next[next.length-1]?=some i:=⟨_,bf ω⟩;have C:i<g.length:=R.lt i (oS A);have rP:tw.get (next.length-1)=some (ae i):=by rw[vx _ ω];simp[A]
  have e1:next.length-1<next.length:=ω
  have e2:next.length-1<O:=ω
  have e3:next.length<=O+1:=ω
  have e4:0<O:=ω
  have⟨MU,WJ,Tx,TZ,na,ta,Xe,r,kl,sI,AY,zP,My,_⟩:=w.row C;have avi:=sI.ai R.g;have n1:¬H.ab=H.ab+3:=ω
  have n2:¬MU=H.ab+3:=by have:=sI.lt;omega
  simp[s2,h,l6.get,h6,N,wL,Df,lw.get,rP,e1,e2,e3,rU e4,l2.get,U,n2,kl,C,avi.get,AY,zP,My.sl.aN bK];generalize ed:D.put _ _ _=X;have z:I [H.ab+3] K X:=by rw[<-ed];exact aw.put (.inr ζ)
  have Na:∃t,Lv X (H.ab+3) (.cells 1 t false)/\AV t 0 (.sl Jr 0 1 (next.length-1) O AI):=by rw[<-ed];exact⟨_,l6.put_eq,ζ⟩
  clear ed;have⟨t6',Na,wy⟩:=Na;have aHQ:=kI Jr ζ;have R1:RR H X H.ab g.length v out next.dropLast:=by
   refine⟨⟨aY R.g.ab z.ab,λ j S _=>(z.get j (by have:=R.g.ab;omega) ξ).trans (R.g.get j S ζ)⟩,⟨t2,l2.W z ζ,U⟩,⟨t5,l5.W z ζ,h5⟩,R.o.W z ζ,⟨t6',_,[Jr],Na,wy,.kq (lw.W z ξ) ζ (λ j S=>?_) ω Qp Qy,kI⟩,λ x Z=>R.lt x (List.dropLast_subset _ Z),?_⟩
   .rw[vx j ω];have:j<next.length:=ω
    simp[S,this]
   .rw[aff];omega
  refine bu (α:=Nat×(Nat->Bool)×AT) (aJ:=λ p sl T=>RR H T H.ab g.length v p.2.1 p.2.2/\2*vN p.2.1 g.length+p.2.2.length<=2*vN out g.length+(next.length-1)/\AV sl 2 (.ptr H.ab 0)/\AV sl 5 (.ptr (H.ab+2) 0)/\AV sl 6 (.ptr (H.ab+3) 0)/\AV sl 7 (.fn (.func 121) [] [.ptr H.ab 0,.ptr (H.ab+2) 0,.ptr (H.ab+3) 0])/\AV sl 44 r/\AV sl 45 (ae g[i].length)/\AV sl 46 (ae p.1)/\p.1<=g[i].length) (mu:=λ p=>g[i].length-p.1) ?_ (0,out,next.dropLast) _ _ ?ini3;case ini3=>exact⟨R1,ζ,by simp[s2,q,h,c]⟩
  clear s2 q h c;rintro b3 k3-jU ⟨m,aAu,azd⟩ sl K2 ⟨V,Ml,s2,q,h,c,RP,JS,Hi,B⟩ jg;dsimp only at V Ml Hi B jg;by_cases jA:m<g[i].length
  .have⟨id,ah,ax,ex,n,t,ro,J,hl,aU,bU,_⟩:=(My.ai V.g).num jA;simp[c,RP,JS,Hi,jA,J,hl.get,bU,aU];refine CW (aj2 _ V aF w hn) ?_;rintro u K3 ⟨rW,next',R',aIb⟩;simp[Hi,bq (aT jA My.sl.cP)];exact jg (m+1,rW,next') _ _ (by simp only;omega) ⟨R',by simp only;omega,by simp[s2,q,h,c,RP,JS,J];omega⟩
  .obtain rfl:m=g[i].length:=ω
   subst jU;simp[JS,Hi];exact y (aAu,azd) _ _ (by simp only;omega) ⟨V,by simp[s2,q,h,c]⟩
def awK{L:List Bool}(a:Bool)(q:aW H 1 (One λ b:Bool=>bl b) s L):CN 208 [s,bl a] H λ v H'=>v=ae (idxOf (λ x=>decide (a=x)) L)/\H'=H:=by
 refine ba arQ rfl λ I z=>?_
 simp[q.aN alr]
 refine CA (λ i sl K=>H=K/\(∀j (h:j<L.length),j<i->decide (a=L[j])=false)/\AV sl 0 s/\AV sl 1 (bl a)/\AV sl 7 (ae L.length)/\AV sl 8 (ae i)/\i<=L.length) L.length ⟨rfl,λ j _ h=>ω,ζ⟩ ?_
 rintro b kk-Q i sl K ⟨rfl,r,y,w,p,u,A⟩ G
 by_cases m:i<L.length
 .obtain⟨id,ah,ax,ex,n,t,ro,c,rfl,o,C,B,F⟩:=q.gL m
  cases F;have:=q.cP;by_cases he:a=L[i]
  .simp[y,w,p,u,m,o.get,B,C,<-he];refine z ⟨?_,rfl⟩;rw[MV m (by simp[he]) r]
  .have D:(a==L[i])=false:=by simpa using he
   simp[y,w,p,u,m,o.get,B,C,D,bq (aT m this)];refine G ω ⟨rfl,λ j h o=>?_,by simp[y,w,p,dz m]⟩;rcases pH.1 o with O|rfl
   .exact r j h O
   .simp[he]
 .obtain rfl:i=L.length:=ω
  subst Q;simp[p,u];refine z ⟨?_,rfl⟩;rw[QT λ j h=>r j h h]
end
variable{a b z:Nat}
namespace DT
structure dW where
 ord:List Nat
 pos:Nat->Nat
 e:Nat->Nat->Prop
 root:Nat
structure BE(g:dW):Prop where
 pos:∀i (h:i<g.ord.length),g.pos g.ord[i]=i
 root:g.pos g.root=0
 rt:g.root∈g.ord
 fwd:∀v∈g.ord,v≠g.root->∃u∈g.ord,g.e u v/\g.pos u<g.pos v
variable{g:dW}
def BE.inj(h:BE g)(o:a∈g.ord)(m:b∈g.ord)(he:g.pos a=g.pos b):a=b:=by obtain⟨i,A,rfl⟩:=rJ o;obtain⟨j,c,rfl⟩:=rJ m;rw[h.pos i A,h.pos j c]at he;subst he;rfl
def BE.lt(h:BE g)(c:a∈g.ord):g.pos a<g.ord.length:=by obtain⟨i,A,rfl⟩:=rJ c;rw[h.pos i A];exact A
abbrev St:=Nat->Option Nat
inductive ch(σ:St):Nat->Nat->Prop
 |refl (x:Nat):ch σ x x|up {x y z:Nat}:σ x=some y->ch σ y z->ch σ x z
def ch.trans{σ:St}(h:ch σ x a0)(U:ch σ a0 z):ch σ x z:=by induction h with|refl=>exact U|up a _ c=>exact .up a (c U)
def ch.ab{σ:St}(h:ch σ x z)(G:σ x=some a0)(c:z≠x):ch σ a0 z:=by cases h with|refl=>exact absurd rfl c|up a b=>rw[a]at G;cases G;exact b
inductive FP(g:dW):Nat->Nat->Prop
 |one {u v:Nat}:u∈g.ord->v∈g.ord->g.e u v->g.pos u<g.pos v->FP g u v|Fx {a u v:Nat}:FP g a u->v∈g.ord->g.e u v->g.pos u<g.pos v->FP g a v
def FP.trans(h:FP g a b)(U:FP g b a0):FP g a a0:=by induction U with|one O U F c=>exact .Fx h U F c|Fx _ U F c m=>exact .Fx m U F c
structure tu(g:dW)(σ:St):Prop where
 root:σ g.root=some g.root
 up:∀v x,σ v=some x->v∈g.ord/\x∈g.ord/\σ x≠none/\(v≠g.root->g.pos x<g.pos v)
 down:∀v u,σ v≠none->u∈g.ord->g.pos u<g.pos v->σ u≠none
 bT:∀v x,v≠g.root->σ v=some x->FP g x v
def tu.mem{σ:St}(h:tu g σ)(c:σ a0≠none):a0∈g.ord:=by cases Z:σ a0 with|none=>exact absurd Z c|some x=>exact(h.up a0 x Z).1
def tu.zl{σ:St}(h:tu g σ)(c:ch σ x z)(Z:σ x≠none):σ z≠none/\(z=x\/g.pos z<g.pos x)/\(z=x\/FP g z x):=by
 induction c with
 |refl=>exact⟨Z,.inl rfl,.inl rfl⟩
 |@up x y z G c m=>
  have⟨O,U,F,p⟩:=h.up x y G
  have⟨i1,i2,i3⟩:=m F
  by_cases hr:x=g.root
  .have:=h.root
   rw[<-hr,G]at this;cases this;exact⟨i1,i2,i3⟩
  .have o:=p hr
   have hw:=h.bT x y hr G;refine⟨i1,.inr ?_,.inr ?_⟩
   .rcases i2 with rfl|i2
    .exact o
    .omega
   .rcases i3 with rfl|i3
    .exact hw
    .exact i3.trans hw
def tu.Y9{σ:St}(h:tu g σ)(c:ch σ x z)(Z:σ x≠none):g.pos z<=g.pos x:=by
 rcases(h.zl c Z).2.1 with rfl|h
 .exact aF
 .exact tL h
def ajg{σ:St}(h:tu g σ)(c:σ a=some a0)(m:σ b≠none)(q:g.pos b<g.pos a)(hr:g.pos g.root=0):σ a0≠none/\g.pos a0<g.pos a/\∀z,ch σ a z->ch σ b z->ch σ a0 z:=by
 have p:a≠g.root:=by rintro rfl;omega
 have⟨_,_,F,o⟩:=h.up a a0 c
 refine⟨F,o p,λ z O U=>O.ab c ?_⟩
 rintro rfl
 have:=h.Y9 U m
 omega
structure Inv(g:dW)(σ:St)(j:Nat):Prop where
 base:tu g σ
 done:∀v∈g.ord,g.pos v<j->σ v≠none
 au:∀v x u,v≠g.root->g.pos v<j->σ v=some x->u∈g.ord->g.e u v->g.pos u<g.pos v->ch σ u x
 H:∀v x z,v≠g.root->σ v=some x->(∀p,g.e p v->σ p≠none->ch σ p z)->ch σ x z\/∃c,g.pos c<j/\σ c≠none/\g.pos z<g.pos c/\¬ch σ c z/\FP g c v
def Inv.back{σ:St}(aJ:Inv g σ j)(h:FP g a0 b0)(hw:g.pos b0<j)(w:g.pos z<g.pos a0)(c:ch σ b0 z)(hr:g.pos g.root=0):ch σ a0 z:=by
 have key:∀u v,v∈g.ord->g.e u v->g.pos u<g.pos v->u∈g.ord->g.pos v<j->g.pos z<g.pos v->ch σ v z->ch σ u z:=by
  intro u v y he A hu p w c;have r:v≠g.root:=by rintro rfl;omega
  cases Z:σ v with|none=>exact absurd Z (aJ.done v y p)|some x=>exact(aJ.au v x u r p Z hu he A).trans (c.ab Z (by rintro rfl;omega))
 induction h with
 |one O U F o=>exact key _ _ U F o O hw ω c
 |@Fx u v q U F o m=>
  have hu:u∈g.ord:=by cases q with|one _ a _ _=>exact a|Fx _ a _ _=>exact a
  have B:g.pos a0<=g.pos u:=by
   clear m;have:∀a b,FP g a b->g.pos a<g.pos b:=by intro a b h;induction h with|one _ _ _ h=>exact h|Fx _ _ _ h m=>omega
   exact tL (this _ _ q)
  exact m ω (key _ _ U F o hu hw ω c)
def FP.mem(h:FP g a b):a∈g.ord/\b∈g.ord/\g.pos a<g.pos b:=by induction h with|one O U _ c=>exact⟨O,U,c⟩|Fx _ U _ c m=>exact⟨m.1,U,ω⟩
def Inv.no{σ:St}(aJ:Inv g σ j)(hr:g.pos g.root=0)(w:g.pos a0<=j)(y:g.pos b0<j)(h:σ b0≠none)(q:g.pos z<g.pos b0)(o:¬ch σ b0 z)(c:FP g b0 a0)(m:∀p,g.e p a0->σ p≠none->ch σ p z):False:=by
 cases c with
 |one O U F r=>exact o (m b0 F h)
 |@Fx u _ c U F r=>
  have hu:=c.mem.2.1
  exact o (aJ.back c ω q (m u F (aJ.done u hu ω)) hr)
def St.set(σ:St)(v d:Nat):St:=λ x=>if x=v then some d else σ x
section
variable{σ:St}{v d:Nat}
def Bs:σ.set v d v=some d:=by simp[St.set]
def Hm(h:x≠v):σ.set v d x=σ x:=by simp[St.set,h]
def tu.A9(h:tu g σ)(Z:σ x≠none)(o:g.pos x<g.pos v):ch (σ.set v d) x z↔ch σ x z:=by
 have p:∀{y},g.pos y<g.pos v->y≠v:=by rintro y h rfl;omega
 constructor
 .intro c;induction c with
  |refl=>exact .refl _
  |@up x y z G c m=>
   rw[Hm (p o)]at G
   have q:g.pos y<=g.pos x:=h.Y9 (.up G (.refl _)) Z
   exact .up G (m (h.up x y G).2.2.1 ω)
 .intro c;induction c with
  |refl=>exact .refl _
  |@up x y z G c m=>
   have q:g.pos y<=g.pos x:=h.Y9 (.up G (.refl _)) Z
   exact .up (by rw[Hm (p o)];exact G) (m (h.up x y G).2.2.1 ω)
def tu.shrink(h:tu g σ)(m:∀x,σ v=some x->ch σ x d)(Z:σ x≠none)(p:ch (σ.set v d) x z):ch σ x z:=by
 induction p with
 |refl=>exact .refl _
 |@up x y z G p o=>
  by_cases e:x=v
  .subst e
   rw[Bs]at G;cases G;cases c:σ x with
   |none=>exact absurd c Z
   |some w=>
    have O:=m w c
    have U:=(h.zl O (h.up x w c).2.2.1).1
    exact .up c (O.trans (o U))
  .rw[Hm e]at G
   exact .up G (o (h.up x y G).2.2.1)
def amZ(m:ch σ x z):ch (σ.set v d) x z\/(ch σ x v/\ch σ v z/\¬ch (σ.set v d) v z/\z≠v):=by
 induction m with
 |refl=>exact .inl (.refl _)
 |@up x y z G m o=>
  by_cases e:x=v
  .subst e
   by_cases c:ch (σ.set x d) x z
   .exact .inl c
   .exact .inr ⟨.refl _,.up G m,c,by rintro rfl;exact c (.refl _)⟩
  .rcases o with h|⟨O,U⟩
   .exact .inl (.up (by rw[Hm e];exact G) h)
   .exact .inr ⟨.up G O,U⟩
end
def Inv.step{σ:St}{j d:Nat}(ok:BE g)(aJ:Inv g σ j)(h0:0<j)(hj:j<g.ord.length)(hd:∃p,g.e p g.ord[j]/\σ p≠none)(I:∀p,g.e p g.ord[j]->σ p≠none->ch σ p d)(T:∀z,(∀p,g.e p g.ord[j]->σ p≠none->ch σ p z)->ch σ d z):Inv g (σ.set g.ord[j] d) (j+1)/\(∀x,σ g.ord[j]=some x->x≠d->g.pos d<g.pos x)/\d∈g.ord/\g.pos d<j:=by
 have hr:=ok.root
 generalize hv:g.ord[j]=v at*
 have wM:g.pos v=j:=by rw[<-hv];exact ok.pos j hj
 have r:v∈g.ord:=by rw[<-hv];exact cG hj
 have J:v≠g.root:=by rintro rfl;omega
 obtain⟨u,hu,W,Jo⟩:=ok.fwd v r J
 have QL:σ u≠none:=aJ.done u hu ω
 have V:=I u W QL
 obtain⟨d1,d2,d3⟩:=aJ.base.zl V QL
 have C:g.pos d<j:=by
  rcases d2 with rfl|h
  .omega
  .omega
 have UT:=aJ.base.mem d1
 have S:FP g d v:=by
  rcases d3 with rfl|h
  .exact .one hu r W Jo
  .exact .Fx h r W Jo
 have hold:∀x,σ v=some x->ch σ x d:=by
  intro x Z;rcases aJ.H v x d J Z I with h|⟨c,c1,c2,c3,c4,c5⟩
  .exact h
  .exact(aJ.no hr ω c1 c2 c3 c4 c5 I).elim
 have A9:∀{x z},σ x≠none->g.pos x<j->(ch (σ.set v d) x z↔ch σ x z):=λ Z m=>aJ.base.A9 Z ω
 have q:∀{y},y≠v->σ.set v d y=σ y:=λ h=>Hm h
 have o:∀{y},σ y≠none->σ.set v d y≠none:=by
  intro y G;by_cases e:y=v
  .subst e;rw[Bs];simp
  .rw[q e];exact G
 have hB:tu g (σ.set v d):=by
  refine⟨by rw[q (qj J)];exact aJ.base.root,λ w x Z=>?_,λ w y hw G m=>?_,λ w x hw Z=>?_⟩
  .by_cases e:w=v
   .subst e;rw[Bs]at Z;cases Z;exact⟨r,UT,o d1,λ _=>ω⟩
   .rw[q e]at Z;obtain⟨a,b,c,f⟩:=aJ.base.up w x Z;exact⟨a,b,o c,f⟩
  .by_cases e:w=v
   .subst e;exact o (aJ.done y G ω)
   .rw[q e]at hw;exact o (aJ.base.down w y hw G m)
  .by_cases e:w=v
   .subst e;rw[Bs]at Z;cases Z;exact S
   .rw[q e]at Z;exact aJ.base.bT w x hw Z
 refine⟨⟨hB,λ w hw m=>?_,λ w x y hw m Z G he hyp=>?_,λ w x z hw Z X=>?_⟩,λ x Z N=>?_,UT,C⟩
 .by_cases e:w=v
  .subst e;rw[Bs];simp
  .refine o (aJ.done w hw ?_);have:g.pos w≠g.pos v:=λ h=>e (ok.inj hw r h);omega
 .by_cases e:w=v
  .subst e;rw[Bs]at Z;cases Z;have D:σ y≠none:=aJ.done y G ω;exact(A9 D ω).2 (I y he D)
  .rw[q e]at Z;have Q:=(aJ.base.up w x Z).1;have:g.pos w≠g.pos v:=λ h=>e (ok.inj Q r h);have D:σ y≠none:=aJ.done y G ω;exact(A9 D ω).2 (aJ.au w x y hw ω Z G he hyp)
 .by_cases e:w=v
  .subst e;rw[Bs]at Z;cases Z;refine .inl ((A9 d1 C).2 (T z λ p he m=>aJ.base.shrink hold m (X p he (o m))))
  .rw[q e]at Z;obtain⟨a1,a2,a3,a4⟩:=aJ.base.up w x Z;rcases aJ.H w x z hw Z (λ p he m=>aJ.base.shrink hold m (X p he (o m)))with h|⟨c,c1,c2,c3,c4,c5⟩
   .rcases amZ (v:=v) (d:=d) h with h|⟨O,U,F,h4⟩
    .exact .inl h
    .have B:=(aJ.base.zl O a3).1;have R:=(aJ.base.zl O a3).2.2;refine .inr ⟨v,ω,o B,?_,F,?_⟩
     .rcases(aJ.base.zl U B).2.1 with e'|h
      .exact absurd e' h4
      .exact h
     .have A:=aJ.base.bT w x hw Z;rcases R with rfl|h
      .exact A
      .exact h.trans A
   .exact .inr ⟨c,ω,o c2,c3,λ h=>c4 ((A9 c2 c1).1 h),c5⟩
 .rcases(aJ.base.zl (hold x Z) (aJ.base.up v x Z).2.2.1).2.1 with e|h
  .exact absurd e.symm N
  .exact h
def Inv.again{σ:St}(ok:BE g)(aJ:Inv g σ g.ord.length):Inv g σ 1:=by
 have hr:=ok.root;have q:∀v∈g.ord,g.pos v<1->v=g.root:=λ v m p=>ok.inj m ok.rt ω;refine⟨aJ.base,λ v m p=>aJ.done v m (by have:=ok.lt m;omega),λ v x u m p Z hu he r=>?_,λ v x z m Z o=>?_⟩
 .omega
 .rcases aJ.H v x z m Z o with h|⟨c,c1,c2,c3,c4,c5⟩
  .exact .inl h
  .exact(aJ.no hr (tL (ok.lt (aJ.base.up v x Z).1)) c1 c2 c3 c4 c5 o).elim
def Inv.start(ok:BE g){σ:St}(O:σ g.root=some g.root)(U:∀v,v≠g.root->σ v=none):Inv g σ 1:=by
 have hr:=ok.root;have hd:∀v,σ v≠none->v=g.root:=λ v c=>ae2 λ o=>c (U v o);refine⟨⟨O,λ v x Z=>?_,λ v u c hu m=>?_,λ v x c Z=>?_⟩,λ v c m=>?_,λ v x u c m Z hu he q=>?_,λ v x z c Z p=>?_⟩
 .have:=hd v (by rw[Z];simp);subst this;rw[O]at Z;cases Z;exact⟨ok.rt,ok.rt,by rw[O];simp,λ h=>absurd rfl h⟩
 .have:=hd v c;subst this;omega
 .rw[U v c]at Z;cases Z
 .have:=ok.inj c ok.rt ω;subst this;rw[O];simp
 .rw[U v c]at Z;cases Z
 .rw[U v c]at Z;cases Z
def mu(g:dW)(σ:St):Nat:=(g.ord.map λ v=>match σ v with|none=>g.ord.length+1|some x=>g.pos x).sum
theorem akV{f h:Nat->Nat}:∀{l:AT},(∀x∈l,f x<=h x)->(∃x∈l,f x<h x)->(l.map f).sum<(l.map h).sum
 |[],_,Z=>by have⟨x,Z,_⟩:=Z;simp at Z
 |a::l,c,Z=>by
  have p:∀{l:AT},(∀x∈l,f x<=h x)->(l.map f).sum<=(l.map h).sum:=by
   intro l m;induction l with
   |nil=>simp
   |cons a l o=>
    have O:=m a ζ
    have U:=o λ x Z=>m x (by simp[Z])
    simp only[kB,sr];omega
  have O:=c a ζ
  have U:=p (l:=l) λ x Z=>c x (by simp[Z])
  simp only[kB,sr]
  have⟨x,B,q⟩:=Z
  rcases cZ.1 B with rfl|B
  .omega
  .have:=akV (l:=l) (λ x Z=>c x (by simp[Z])) ⟨x,B,q⟩
   omega
def ayQ{σ:St}(ok:BE g)(m:a0∈g.ord)(hd:b0∈g.ord)(h:∀x,σ a0=some x->g.pos b0<g.pos x):mu g (σ.set a0 b0)<mu g σ:=by
 unfold mu;refine akV (λ x Z=>?_) ⟨a0,m,?_⟩
 .by_cases e:x=a0
  .subst e;rw[Bs];cases c:σ x with|none=>exact tL (KM (ok.lt hd))|some y=>exact tL (h y c)
  .rw[Hm e];exact aF
 .rw[Bs];cases c:σ a0 with|none=>exact KM (ok.lt hd)|some y=>exact h y c
end DT
def qJ:Option Nat->Int
 |none=>-2|some x=>x
variable{σ:DT.St}
structure HJ(K:D)(c7 c5 HN JK n:Nat)(pos:Nat->Nat)(σ:DT.St):Prop where
 ca:∃t,Lv K c7 (.cells 1 t false)/\AV t 0 (.sl HN 0 1 n n true)
 co:∃t,Lv K c5 (.cells 1 t false)/\AV t 0 (.sl JK 0 1 n n true)
 at':iD K HN n λ x=>ae (pos x)
 out:iD K JK n λ x=>ae (qJ (σ x))
def HJ.W{T:D}{c7 c5 HN JK:Nat}{pos:Nat->Nat}{σ:DT.St}(h:HJ K c7 c5 HN JK n pos σ)(g:I [] K T):HJ T c7 c5 HN JK n pos σ:=⟨let⟨t,a,b⟩:=h.ca;⟨t,a.ai g,b⟩,let⟨t,a,b⟩:=h.co;⟨t,a.ai g,b⟩,h.at'.W g ζ,h.out.W g ζ⟩
def DR(σ:DT.St)(a0 b0 a b:Nat):Prop:=σ a≠none/\σ b≠none/\DT.ch σ a0 a/\DT.ch σ b0 b/\∀z,DT.ch σ a0 z->DT.ch σ b0 z->DT.ch σ a z/\DT.ch σ b z
section
variable{K:D}{c7 c5 HN JK n:Nat}{g:DT.dW}{σ:DT.St}
def DR.upA(h:DR σ a0 b0 a b)(aG:DT.tu g σ)(hr:g.pos g.root=0)(m:σ a=some es)(w:g.pos b<g.pos a):DR σ a0 b0 es b/\g.pos es<g.pos a:=by have⟨O,U,F,y,c⟩:=h;have⟨u,r,o⟩:=DT.ajg aG m U w hr;exact⟨⟨u,U,F.trans (.up m (.refl _)),y,λ z p q=>⟨o z (c z p q).1 (c z p q).2,(c z p q).2⟩⟩,r⟩
def DR.upB(h:DR σ a0 b0 a b)(aG:DT.tu g σ)(hr:g.pos g.root=0)(m:σ b=some es)(w:g.pos a<g.pos b):DR σ a0 b0 a es/\g.pos es<g.pos b:=by have⟨O,U,F,y,c⟩:=h;have⟨u,r,o⟩:=DT.ajg aG m O w hr;exact⟨⟨O,u,F,y.trans (.up m (.refl _)),λ z p q=>⟨(c z p q).1,o z (c z p q).2 (c z p q).1⟩⟩,r⟩
def ayc(N:HJ K c7 c5 HN JK n g.pos σ)(ok:DT.BE g)(aG:DT.tu g σ)(hn:∀x∈g.ord,x<n)(X:σ a0≠none)(Ei:σ b0≠none):CN 204 [ae a0,ae b0,.ptr c7 0,.ptr c5 0] K λ v T=>K=T/\∃d:Nat,v=ae d/\DT.ch σ a0 d/\DT.ch σ b0 d/\∀z,DT.ch σ a0 z->DT.ch σ b0 z->DT.ch σ d z:=by
 refine ba arM rfl λ Q' hQ=>?_
 have⟨ta,J,V⟩:=N.ca
 have⟨to,lo,Nu⟩:=N.co
 have⟨ua,R,EU⟩:=N.at'.ob
 have⟨uo,B,C⟩:=N.out.ob
 have hr:=ok.root
 have Z:∀{x},σ x≠none->x<n:=λ h=>hn _ (aG.mem h)
 simp
 refine bu (α:=Nat×Nat) (aJ:=λ p sl T=>K=T/\DR σ a0 b0 p.1 p.2/\AV sl 0 (ae p.1)/\AV sl 1 (ae p.2)/\AV sl 2 (.ptr c7 0)/\AV sl 3 (.ptr c5 0)) (mu:=λ p=>g.pos p.1+g.pos p.2) ?_ (a0,b0) _ _ ?ini
 case ini=>exact⟨rfl,⟨X,Ei,.refl _,.refl _,λ z O U=>⟨O,U⟩⟩,ζ⟩
 rintro b kk-Q ⟨u,b1⟩ sl T ⟨rfl,cj,c,s1,s2,s3⟩ ih
 dsimp only at cj c s1 ih
 by_cases t_:u=b1
 .subst t_
  subst Q;simp[c,s1];have⟨O,U,F,h4,h5⟩:=cj;exact hQ ⟨rfl,u,rfl,F,h4,λ z p q=>(h5 z p q).1⟩
 have auh:¬(u:Int)=b1:=ω
 have aIl:g.pos u≠g.pos b1:=λ h=>t_ (ok.inj (aG.mem cj.1) (aG.mem cj.2.1) h)
 simp[c,s1,auh]
 refine bu (α:=Nat) (aJ:=λ a sl T=>K=T/\DR σ a0 b0 a b1/\(a=u\/g.pos a<g.pos u)/\AV sl 0 (ae a)/\AV sl 1 (ae b1)/\AV sl 2 (.ptr c7 0)/\AV sl 3 (.ptr c5 0)) (mu:=λ a=>g.pos a) ?_ u _ _ ?ini2
 case ini2=>exact⟨rfl,cj,.inl rfl,by simp[c,s1,s2,s3]⟩
 rintro b2 kk2-dO a sl T ⟨rfl,G,Gw,c,s1,s2,s3⟩ eJ
 have w:=Z G.1
 have o:=Z G.2.1
 have I:=EU a w
 have A:=EU b1 o
 by_cases W:g.pos b1<g.pos a
 .obtain⟨a',D⟩:∃a',σ a=some a':=by cases h:σ a with|none=>exact absurd h G.1|some x=>exact⟨x,rfl⟩
  have y:=C a w;rw[D]at y;have⟨J3,Ve⟩:=G.upA aG hr D W;simp[c,s1,s2,s3,J.get,V,lo.get,Nu,R.get,B.get,I,A,y,w,o,W,qJ];exact eJ a' _ _ Ve ⟨rfl,J3,.inr (by rcases Gw with rfl|h<;>omega),by simp[s1,s2,s3]⟩
 .subst dO
  simp[c,s1,s2,J.get,V,R.get,I,A,w,o,W];refine bu (α:=Nat) (aJ:=λ m sl T=>K=T/\DR σ a0 b0 a m/\(m=b1\/g.pos m<g.pos b1)/\AV sl 0 (ae a)/\AV sl 1 (ae m)/\AV sl 2 (.ptr c7 0)/\AV sl 3 (.ptr c5 0)) (mu:=λ m=>g.pos m) ?_ b1 _ _ ?ini3;case ini3=>exact⟨rfl,G,.inl rfl,by simp[c,s1,s2,s3]⟩
  rintro b3 kk3-jU m sl T ⟨rfl,S,bR,c,s1,s2,s3⟩ jg;have o:=Z S.2.1;have A:=EU m o;by_cases r:g.pos a<g.pos m
  .obtain⟨b',D⟩:∃b',σ m=some b':=by cases h:σ m with|none=>exact absurd h S.2.1|some x=>exact⟨x,rfl⟩
   have y:=C m o;rw[D]at y;have⟨J5,avw⟩:=S.upB aG hr D r;simp[c,s1,s2,s3,J.get,V,lo.get,Nu,R.get,B.get,I,A,y,w,o,r,qJ];exact jg b' _ _ avw ⟨rfl,J5,.inr (by rcases bR with rfl|h<;>omega),by simp[c,s2,s3]⟩
  .subst jU;simp[c,s1,s2,J.get,V,R.get,I,A,w,o,r];refine ih (a,m) _ _ ?_ ⟨rfl,S,by simp[c,s1,s2,s3]⟩;rcases Gw with rfl|O<;>rcases bR with rfl|U<;>simp only<;>omega
end
def aAx(h:aX K 1 v (aZ L) aH)(T:D):aN E0 41 v T=val (ae L.length) T:=h.aZ.aN bK T
def ayG{d:TypeDesc}(m:E.tt.get t=some ⟨.slice e,a0,b0,z0⟩)(he:E.tt.get e=some ⟨d,1,bs,M⟩){len:Nat}(O:1<=len)(U:len<=ax)(o:∀v',(∀K,aN E t v' K=val (ae ((len-1:Nat):Int)) K)->(1<len->v'=.sl es 1 1 (len-1) (ax-1) ex)->MD E dst v' k Y K aj):MO E (NP E t (.sl es 0 1 len ax ex) (some (.const (.int .i64 1))) none none PA K) dst k Y aj:=by
 have p:∀es ah n c x K,aN E t (.sl es ah 1 n c x) K=val (ae (n:Int)) K:=λ es ah n c x K=>de m
 by_cases q:ax-1=0
 .have u:len=1:=ω
  subst u;cases ex with
  |true=>
   simp[m,he,U,q]
   exact o _ (λ K=>by rw[p]) (λ h=>ω)
  |false=>
   simp[m,he,U,q]
   exact o _ (λ K=>by rw[axC m];rfl) (λ h=>ω)
 .have r:0<ax-1:=ω
  simp[m,he,O,U,rU r];exact o _ (λ K=>by rw[p]) λ _=>rfl
def PD(σ:DT.St)(l:AT):Option Nat->Prop
 |none=>∀p∈l,σ p=none|some d=>(∃p∈l,σ p≠none)/\(∀p∈l,σ p≠none->DT.ch σ p d)/\∀z,(∀p∈l,σ p≠none->DT.ch σ p z)->DT.ch σ d z
def PD.skip{l:AT}(h:PD σ l bZ)(m:σ a0=none):PD σ (l++[a0]) bZ:=by
 cases bZ with
 |none=>intro q u;rcases b_.1 u with c|c;exact h q c;simp at c;rw[c];exact m
 |some d=>
  have⟨⟨q,O,U⟩,F,w⟩:=h
  refine⟨⟨q,by simp[O],U⟩,λ r hr o=>?_,λ z p=>w z λ r hr=>p r (by simp[hr])⟩
  rcases b_.1 hr with c|c
  .exact F r c o
  .simp at c;subst c;exact absurd m o
def PD.first{l:AT}(h:PD σ l none)(m:σ a0≠none):PD σ (l++[a0]) (some a0):=by
 refine⟨⟨a0,ζ,m⟩,λ r hr p=>?_,λ z o=>o a0 ζ m⟩;rcases b_.1 hr with c|c
 .exact absurd (h r c) p
 .simp at c;subst c;exact .refl _
def PD.ayb{l:AT}(h:PD σ l (some b0))(y:σ a0≠none)(O:DT.ch σ b0 es)(U:DT.ch σ a0 es)(F:∀z,DT.ch σ b0 z->DT.ch σ a0 z->DT.ch σ es z):PD σ (l++[a0]) (some es):=by
 have⟨⟨q,w,u⟩,p,o⟩:=h;refine⟨⟨q,by simp[w],u⟩,λ r hr A=>?_,λ z m=>F z (o z λ r hr=>m r (by simp[hr])) (m a0 ζ y)⟩;rcases b_.1 hr with c|c
 .exact(p r c A).trans O
 .simp at c;subst c;exact U
def iD.ni(h:iD K a0 n λ x=>ae (au x))(o:b0<=a0)(m:n<=maxLen):NI b0 K (.sl a0 0 1 n n ex) ((List.range n).map au):=by
 have⟨t,O,U⟩:=h.ob;have c:((List.range n).map au).length=n:=ζ
 refine⟨?_,λ jO _ _ _ _ _ e=>by cases e;exact o⟩;have:=aW.sl (H:=K) (es:=1) (ah:=0) (R:=One λ n=>ae n) (L:=(List.range n).map au) (ax:=n) (ex:=ex) O (by rw[c];omega) (λ i A=>⟨[ae (au i)],iB.2 ⟨rfl,λ j p=>by
  obtain rfl:j=0:=ω
  simp;exact U i ω⟩,by simp[One]⟩) (by rw[c];exact aF) m
 rw[c]at this;exact this
section
variable{H:D}{v:J}
def aFB{g:List BW}{root:Nat}(hg:GI 0 H v g)(hn:g.length<=1048576)(hr:∀l∈g,l.length<=1048576)(Mx:root<g.length):CN 156 [v,ae root] H λ u K=>(∃ay:BW,ay.length=g.length/\NI H.ab K u ay)/\I [] H K:=by
 refine ba aq8 rfl λ Q' hQ=>?_
 simp[hg.sl.aN yO]
 generalize aP:D.add _ _=H1
 have rQ:H1.ab=H.ab+1:=by rw[<-aP];rfl
 have g1:I [] H H1:=by rw[<-aP];exact aw.add _
 have l1:∃t,Lv H1 H.ab (.cells 1 t false)/\AV t 0 (ae (-2)):=by rw[<-aP];exact⟨_,Lv.new,ζ⟩
 clear aP
 have⟨t1,l1,O⟩:=l1
 refine CW (aj8 l1 O hn) ?_
 rintro _ J ⟨rfl,oR,fY⟩
 have hoR:iD J H1.ab g.length λ _=>ae (-2):=by
  have⟨jO,afY,mS,t',e1,e2,l2,U,_⟩:=oR.uC ξ;injection e1 with q1 q2 q3 q4 q5 q6
  subst q1;subst q5;exact⟨t',l2,λ x Z=>by rw[U x (by simpa using Z)];simp[Z]⟩
 have aHu:H1.ab<J.ab:=hoR.lt
 simp
 generalize iH:D.put _ _ _=H2
 have iW:H2.ab=J.ab+1:=by rw[<-iH];rfl
 have g2:I [] J H2:=by rw[<-iH];exact I.new aw _ _
 have l5:∃t,Lv H2 J.ab (.cells 1 t false)/\AV t 0 (.sl H1.ab 0 1 g.length g.length true):=by rw[<-iH];exact⟨_,Lv.new.put_eq,ζ⟩
 clear iH
 have⟨t5,l5,h5⟩:=l5
 have zy:I [] H H2:=(g1.trans fY).trans g2
 refine CW (aCi (hg.ai zy) hn hr Mx) ?_
 rintro w K2 ⟨L,aH,oL,kI,P,iu⟩
 have hLl:L.length<=g.length:=PL.Rk P.nd P.lt
 have Uu:0<L.length:=(cW.1 P.hd).1
 have hLn:¬L.length=0:=ω
 have aHx:¬L=[]:=by rintro rfl;simp at Uu
 have bR:8*g.length<=140737488355328:=ω
 have eG:g.length<=9223372036854775807:=ω
 have fo:g.length*8<=140737488355328:=ω
 simp[hg.sl.aN yO,aAx oL,hLn,bR,eG,wX]
 generalize AL:D.put _ _ _=H3
 have wK:H3.ab=K2.ab+2:=by rw[<-AL];rfl
 have g3:I [] K2 H3:=by rw[<-AL];refine I.put (I.add (I.add aw _) _) (.inl ζ)
 have oA:iD H3 K2.ab g.length λ _=>ae 0:=by rw[<-AL];exact⟨_,(Lv.new.add).eu ζ,λ x Z=>by simp[Bp,Z]⟩
 have l7:∃t,Lv H3 (K2.ab+1) (.cells 1 t false)/\AV t 0 (.sl K2.ab 0 1 g.length g.length true):=by rw[<-AL];exact⟨_,(Lv.new (H:=K2.add _)).put_eq,ζ⟩
 clear AL
 have⟨t7,l7,h7⟩:=l7
 have PF:I [] H H3:=(zy.trans iu).trans g3
 have atz:I [] J H3:=(g2.trans iu).trans g3
 have ge1:=g2.ab
 have ge2:=iu.ab
 have ge3:=g3.ab
 have ge0:=zy.ab
 refine bu (α:=Nat×(Nat->Nat)) (aJ:=λ p sl K=>I [K2.ab] H3 K/\iD K K2.ab g.length (λ x=>ae (p.2 x))/\(∀j (h:j<L.length),j<p.1->p.2 L[j]=j)/\AV sl 0 v/\AV sl 1 (ae root)/\AV sl 5 (.ptr J.ab 0)/\AV sl 6 w/\AV sl 7 (.ptr (K2.ab+1) 0)/\AV sl 32 w/\AV sl 33 (ae L.length)/\AV sl 34 (ae p.1)/\p.1<=L.length) (mu:=λ p=>L.length-p.1) ?_ (0,λ _=>0) _ _ ?ini
 case ini=>exact⟨aw,oA,λ j h U=>by simp at U,ζ⟩
 rintro b kk-Q ⟨i,f⟩ sl K ⟨gK,oA,hf,s0,s1,C,N,s7,jZ,Br,w8,A⟩ ih
 dsimp only at oA hf w8 A ih
 have oLK:aX K 1 w (aZ (vO L)) aH:=(oL.W g3 ζ).W gK (by intro y G B;have:=oL.lt y G;simp at B;omega)
 have l7K:=l7.W gK ζ
 by_cases az:i<L.length
 .obtain⟨ic,kc,AI,tw,rfl,rfl,lw,vx,C_,Qp,Qy⟩:=oLK.uC ξ
  simp only[bW]at vx C_ N jZ;have⟨ua,la,EU⟩:=oA.ob;have yu:tw.get i=some (ae L[i]):=by rw[vx i az];simp[az]
  have hLi:L[i]<g.length:=P.lt _ (cG az);have U2:i<kc:=ω
  simp[s7,jZ,Br,w8,az,lw.get,yu,U2,l7K.get,h7,la.get,hLi,dz hLi,fQ (show(-9223372036854775808:Int)<=(i:Int)+1 by omega) (show(i:Int)+1<=9223372036854775807 by omega)];refine ih (i+1,λ y=>if y=L[i]then i else f y) _ _ (by simp only;omega) ⟨gK.put (.inr ζ),(iD.put la EU).congr λ x Z=>?_,λ j hj hji=>?_,by simp[s0],by simp[s1],by simp[C],by simp[N],by simp[s7],by simp[jZ],by simp[Br],ζ,by simp only;omega⟩
  .by_cases e:x=L[i]<;>simp[e]
  .by_cases e:j=i
   .subst e;simp
   .have cR:L[j]≠L[i]:=by
     rcases Nat.lt_or_gt_of_ne e with h|h
     .exact(HZ.1 P.nd) _ _ hj az h
     .exactλ h'=>(HZ.1 P.nd) _ _ az hj h h'.symm
    simp only[cR,n_];exact hf j hj (by simp only at hji;omega)
 obtain rfl:i=L.length:=ω
 subst Q
 clear ih
 have PJ:I [] H K:=⟨aY PF.ab gK.ab,λ j hj _=>(gK.get j (by have:=PF.ab;omega) ξ).trans (PF.get j hj ζ)⟩
 simp[s0,Br,w8]
 refine CW (afO (hg.ai PJ) hn hr) ?_
 rintro bk K5 ⟨hB,g5⟩
 have ahU:=g5.ab
 have U_:=gK.ab
 have Jy:Lv K5 J.ab (.cells 1 t5 false):=((l5.ai (iu.trans g3)).W gK ξ).ai g5
 have oRK:iD K5 H1.ab g.length λ _=>ae (-2):=((hoR.W atz ζ).W gK ξ).W g5 ζ
 have⟨ur,lr,hur⟩:=oRK.ob
 simp[s1,C,s7,Jy.get,h5,lr.get,Mx,dz Mx]
 generalize hH6:D.put _ _ _=H6
 have g6:I [H1.ab] K5 H6:=by rw[<-hH6];exact aw.put (.inr ζ)
 have hBl:(h_ g).length=g.length:=by simp[h_]
 have UU:∀u v,((u:Nat):Int)∈(h_ g)[v]?.getD []->v<g.length/\u<g.length/\bV (gC g) u v:=by
  intro u v B;by_cases hv:v<g.length
  .have e:(h_ g)[v]?.getD []=qI (gC g) g.length v:=by simp[h_,hv]
   rw[e,Rc]at B;have⟨a,ha,e2,F⟩:=B;have:u=a:=ω
   subst this;exact⟨hv,ha,F⟩
  .rw[y_ ω]at B;simp at B
 have ok:DT.BE ⟨L,f,λ u v=>(u:Int)∈(h_ g)[v]?.getD [],root⟩:=by
  refine⟨λ i A=>hf i A A,?_,?_,?_⟩
  .have:=(cW.1 P.hd).2;have U:=hf 0 Uu Uu;rw[this]at U;exact U
  .exact oS P.hd
  .intro x Z cR;obtain⟨t,ht,rfl⟩:=rJ Z;have lS:0<t:=by
    rcases ze t with rfl|h
    .exact absurd (cW.1 P.hd).2 cR
    .exact h
   have⟨s,p,hs,hp,he⟩:=P.pre t _ (bf ht) lS;obtain⟨oo,rfl⟩:=cW.1 hp;refine⟨L[s],cG oo,?_,by show f L[s]<f L[t];rw[hf s oo oo,hf t ht ht];exact hs⟩;have bm:=P.lt _ (cG ht);have e:(h_ g)[L[t]]?.getD []=qI (gC g) g.length L[t]:=by simp[h_,bm]
   show((L[s]:Nat):Int)∈(h_ g)[L[t]]?.getD [];rw[e,Rc];exact⟨L[s],P.lt _ (cG oo),rfl,he⟩
 generalize hG:(⟨L,f,λ u v=>(u:Int)∈(h_ g)[v]?.getD [],root⟩:DT.dW)=dW at ok
 have IP:dW.ord=L:=by rw[<-hG]
 have hGp:dW.pos=f:=by rw[<-hG]
 have hGr:dW.root=root:=by rw[<-hG]
 have hGe:∀u v,dW.e u v↔(u:Int)∈(h_ g)[v]?.getD []:=by rw[<-hG];exactλ _ _=>so
 have hGn:∀x∈dW.ord,x<g.length:=by rw[IP];exact P.lt
 clear hG
 have hT6:HJ H6 (K2.ab+1) J.ab K2.ab H1.ab g.length dW.pos (λ x=>if x=root then some root else none):=by refine⟨⟨t7,(l7K.ai g5).W g6 ξ,h7⟩,⟨t5,Jy.W g6 ξ,h5⟩,by rw[hGp];exact(oA.W g5 ζ).W g6 ξ,?_⟩;rw[<-hH6];refine(iD.put lr hur).congr λ x Z=>?_;by_cases e:x=root<;>simp[e,qJ]
 have I6:DT.Inv dW (λ x=>if x=root then some root else none) 1:=DT.Inv.start ok (by simp[hGr]) (λ v hv=>by rw[hGr]at hv;simp[hv])
 have oL6:aX H6 1 w (aZ (vO L)) aH:=(oLK.W g5 ζ).W g6 (by intro y G B;have:=kI y G;simp at B;omega)
 have hB6:GI K.ab H6 bk (h_ g):=hB.IM g6 ξ
 have zx:I [] H H6:=⟨aY PJ.ab (aY g5.ab g6.ab),λ j hj _=>((g6.get j (by have:=PJ.ab;omega) ξ).trans (g5.get j (by have:=PJ.ab;omega) ζ)).trans (PJ.get j hj ζ)⟩
 clear hH6
 have hn6:=g6.ab
 refine bu (α:=DT.St×Bool) (aJ:=λ p sl T=>I [H1.ab] H6 T/\HJ T (K2.ab+1) J.ab K2.ab H1.ab g.length dW.pos p.1/\DT.Inv dW p.1 1/\AV sl 1 (ae root)/\AV sl 5 (.ptr J.ab 0)/\AV sl 6 w/\AV sl 10 bk/\AV sl 11 (.fn (.func 204) [] [.ptr (K2.ab+1) 0,.ptr J.ab 0])/\AV sl 12 (bl p.2)) (mu:=λ p=>2*DT.mu dW p.1+(if p.2 then 1 else 0)) ?_ ((λ x=>if x=root then some root else none),true) _ _ ?ini2
 case ini2=>exact⟨aw,hT6,I6,by simp[s1,C,N]⟩
 rintro b1 k1-cq ⟨XK,tn0⟩ sl K7 ⟨g7,T7,I7,s1,C,N,V,S,R⟩ ih
 dsimp only at T7 I7 R
 cases tn0 with
 |false=>
  subst cq
  have⟨tq,lq,EG⟩:=T7.co
  have⟨uq,Fg,QM⟩:=T7.out.ob
  simp[R,s1,C,lq.get,EG,Fg.get,Mx,dz Mx]
  have cR:¬J.ab=H1.ab:=ω
  simp[cR,EG]
  have o9:=iD.put (c:=ae (-1)) (x:=root) Fg QM
  have o9':iD (K7.put H1.ab (some (.cells g.length (uq.put root (some (ae (-1)))) false))) H1.ab g.length λ x=>ae (if x=root then-1 else qJ (XK x)):=o9.congr λ x Z=>by by_cases e:x=root<;>simp[e]
  refine hQ ⟨⟨_,ζ,o9'.ni ω (by unfold maxLen;omega)⟩,?_⟩
  exact⟨aY zx.ab g7.ab,λ j hj _=>by
   have Ex:¬j=H1.ab:=ω
   rw[D.eR,ao Ex];exact(g7.get j (by have:=zx.ab;omega) (by simpa using Ex)).trans (zx.get j hj ζ)⟩
 |true=>
  obtain⟨ic,kc,AI,tw,rfl,rfl,lw,vx,C_,Qp,Qy⟩:=oL6.uC ξ
  simp only[bW]at vx C_ N
  simp[-NP,R,N]
  refine ayG bK qF ω C_ ?_
  intro v' dc fp
  simp[dc]
  refine bu (α:=DT.St×Bool×Nat) (aJ:=λ p sl T=>I [H1.ab] H6 T/\HJ T (K2.ab+1) J.ab K2.ab H1.ab g.length dW.pos p.1/\DT.Inv dW p.1 (p.2.2+1)/\((p.2.1=true/\DT.mu dW p.1<DT.mu dW XK)\/(p.2.1=false/\DT.mu dW p.1=DT.mu dW XK))/\AV sl 1 (ae root)/\AV sl 5 (.ptr J.ab 0)/\AV sl 6 (.sl ic 0 1 L.length kc AI)/\AV sl 10 bk/\AV sl 11 (.fn (.func 204) [] [.ptr (K2.ab+1) 0,.ptr J.ab 0])/\AV sl 12 (bl p.2.1)/\AV sl 53 v'/\AV sl 54 (ae ((L.length-1:Nat):Int))/\AV sl 55 (ae p.2.2)/\p.2.2+1<=L.length) (mu:=λ p=>L.length-p.2.2) ?_ (XK,false,0) _ _ ?ini3
  case ini3=>exact⟨g7,T7,I7,.inr ⟨rfl,rfl⟩,by simp[s1,C,N,V,S];omega⟩
  rintro b2 k2-dO ⟨σ,tn,q⟩ sl K8 ⟨g8,T8,I8,Ml,s1,C,N,V,S,R,sZ,qE,X,hq⟩ eJ
  dsimp only at T8 I8 Ml R X hq eJ
  by_cases az:q<L.length-1
  .have GK:q+1<L.length:=ω
   obtain⟨o,qP⟩:∃o,o=L[q+1]:=⟨_,rfl⟩;have UJ:o<g.length:=by rw[qP];exact P.lt _ (cG GK)
   have zH:dW.ord[q+1]'(by rw[IP];exact GK)=o:=by rw[qP];simp only[IP]
   have Vx:tw.get (1+q)=some (ae o):=by rw[vx _ ω,qP];simp[Nat.add_comm 1 q,GK]
   have Jq:1+q<kc:=ω
   have lw8:Lv K8 ic (.cells kc tw false):=lw.W g8 (by have:=kI ic ζ;simp;omega);have hbB:o<(h_ g).length:=ω
   have hB8:GI K.ab K8 bk (h_ g):=hB6.IM g8 ξ;have⟨idb,azT,BT,Lm,nb,tb,rob,r,Jp,vB,U',QF,kj,_⟩:=hB8.row hbB;have uh:=fp ω;subst uh;have Mu:q<L.length-1:=az;simp[V,sZ,qE,X,az,lw8.get,Vx,Jq,Jp,hbB,vB.get,U',QF,kj.sl.aN bK];obtain⟨ps,zO⟩:∃ps:AT,(h_ g)[o]=vO ps:=by
    refine⟨(h_ g)[o].map Int.toNat,?_⟩;simp only[vO,u_];refine(List.map_id _).symm.trans (SZ λ x Z=>?_);have e:(h_ g)[o]=qI (gC g) g.length o:=by simp[h_]
    rw[e,Rc]at Z;have⟨a,_,U,_⟩:=Z;simp[U]
   have Vn:∀p,p∈ps↔dW.e p o:=by
    intro p;rw[hGe,bf hbB];show p∈ps↔(p:Int)∈(h_ g)[o];rw[zO];simp[vO];exact⟨λ h=>⟨p,h,rfl⟩,λ ⟨a,h,e⟩=>by
     have:a=p:=ω
     rw[<-this];exact h⟩
   rw[zO]at kj;have mC:∀p∈ps,p<g.length:=λ p hp=>(UU p o ((hGe _ _).1 ((Vn p).1 hp))).2.1;have avY:(h_ g)[o].length=ps.length:=by rw[zO];simp
   have avZ:ps.length<=maxLen:=by have:=kj.sl.cP;simpa using this
   rw[avY];have⟨tq,lq,EG⟩:=T8.co;have⟨uq,Fg,QM⟩:=T8.out.ob;refine bu (α:=Nat×Option Nat) (aJ:=λ p sl T=>K8=T/\PD σ (ps.take p.1) p.2/\AV sl 1 (ae root)/\AV sl 5 (.ptr J.ab 0)/\AV sl 6 (.sl ic 0 1 L.length kc AI)/\AV sl 10 bk/\AV sl 11 (.fn (.func 204) [] [.ptr (K2.ab+1) 0,.ptr J.ab 0])/\AV sl 12 (bl tn)/\AV sl 53 (.sl ic 1 1 (L.length-1) (kc-1) AI)/\AV sl 54 (ae ((L.length-1:Nat):Int))/\AV sl 55 (ae q)/\AV sl 14 (ae o)/\AV sl 15 (ae (qJ p.2))/\AV sl 62 r/\AV sl 63 (ae ps.length)/\AV sl 64 (ae p.1)/\p.1<=ps.length) (mu:=λ p=>ps.length-p.1) ?_ (0,none) _ _ ?ini4;case ini4=>exact⟨rfl,(λ p hp=>by simp at hp),by simp[s1,C,N,V,S,R,sZ,qE,X,Jp,qJ]⟩
   rintro b3 k3-jU ⟨m,bZ⟩ sl K9 ⟨rfl,Gs,s1,C,N,V,S,R,sZ,qE,X,cy,dg,l_,uI,qZ,B⟩ jg;dsimp only at Gs dg qZ B jg;by_cases jA:m<ps.length
   .have⟨idr,ajE,afZ,exr,nr,tr,ror,nL,yd,Jb,Db,_⟩:=kj.num (i:=m) (by simpa using jA);have nJ:(vO ps)[m]'(by simpa using jA)=((ps[m]:Nat):Int):=ζ
    rw[nJ]at Db;simp only[bW]at nL;have Mt:=mC _ (cG jA);have pQ:=QM _ Mt;have GN:ps.take (m+1)=ps.take m++[ps[m]]:=by rw[mI,bf jA];rfl
    have yw:IntKind.wrap .i64 ((m:Int)+1)=(m:Int)+1:=bq (aT jA avZ);cases hs:σ ps[m]with
    |none=>
     rw[hs]at pQ
     simp[C,l_,uI,qZ,jA,nL,yd.get,Jb,Db,lq.get,EG,Fg.get,Mt,pQ,qJ,yw]
     exact jg (m+1,bZ) _ _ (by simp only;omega) ⟨rfl,by simp only;rw[GN];exact Gs.skip hs,by simp[s1,C,N,V,S,R,sZ,qE,X,cy,dg,l_,uI,nL];omega⟩
    |some x=>
     rw[hs]at pQ
     have MM:¬(x:Int)=-2:=ω
     cases bZ with
     |none=>
      simp[C,dg,l_,uI,qZ,jA,nL,yd.get,Jb,Db,lq.get,EG,Fg.get,Mt,pQ,qJ,yw,MM]
      exact jg (m+1,some ps[m]) _ _ (by simp only;omega) ⟨rfl,by simp only;rw[GN];exact Gs.first (by rw[hs];simp),by simp[s1,C,N,V,S,R,sZ,qE,X,cy,l_,uI,nL,qJ];omega⟩
     |some d=>
      have hd2:¬(d:Int)=-2:=ω
      simp[C,S,dg,l_,uI,qZ,jA,nL,yd.get,Jb,Db,lq.get,EG,Fg.get,Mt,pQ,qJ,MM,hd2]
      have⟨⟨q0,k1',k2'⟩,k3',_⟩:=id Gs
      have UQ:σ d≠none:=(I8.base.zl (k3' q0 k1' k2') k2').1
      refine CW (ayc T8 ok I8.base hGn UQ (by rw[hs];simp)) ?_
      rintro _ _ ⟨rfl,d',rfl,m1,m2,m3⟩
      simp[qZ,yw]
      exact jg (m+1,some d') _ _ (by simp only;omega) ⟨rfl,by simp only;rw[GN];exact Gs.ayb (by rw[hs];simp) m1 m2 m3,by simp[s1,C,N,V,S,R,sZ,qE,X,cy,l_,uI,nL,qJ];omega⟩
   .obtain rfl:m=ps.length:=ω
    subst jU;rw[iF]at Gs;have hbr:o≠dW.root:=by rw[hGr,qP];intro h;have h0:=(cW.1 P.hd).2;exact(HZ.1 P.nd) 0 (q+1) Uu GK ω (h0.trans h.symm)
    have xW:o∈dW.ord:=by rw[IP,qP];exact cG GK
    have aIm:dW.pos o=q+1:=by have:=ok.pos (q+1) (by rw[IP];exact GK);rw[zH]at this;exact this
    have⟨u,hu,MH,Jo⟩:=ok.fwd o xW hbr;have QL:σ u≠none:=I8.done u hu ω;cases bZ with
    |none=>exact absurd (Gs u ((Vn u).2 MH)) QL
    |some d=>
     have⟨_,atL,atM⟩:=Gs
     have⟨J1,J2,J3,J4⟩:=I8.step (d:=d) ok ω (by rw[IP];exact GK) ⟨u,by rw[zH];exact MH,QL⟩ (by rw[zH];exactλ p he hp=>atL p ((Vn p).2 he) hp) (by rw[zH];exactλ z hz=>atM z λ p hp hn=>hz p ((Vn p).1 hp) hn)
     rw[zH]at J1 J2
     have pQ:=QM o UJ
     have yw:IntKind.wrap .i64 ((q:Int)+1)=(q:Int)+1:=fQ ω ω
     have e15:qJ (some d)=(d:Int):=rfl
     by_cases sN:σ o=some d
     .rw[sN]at pQ
      have nK:σ.set o d=σ:=by
       funext y;by_cases e:y=o
       .subst e;rw[DT.Bs,sN]
       .rw[DT.Hm e]
      rw[nK]at J1;simp[C,X,cy,dg,uI,qZ,lq.get,EG,Fg.get,UJ,pQ,qJ,yw];exact eJ (σ,tn,q+1) _ _ (by simp only;omega) ⟨g8,T8,J1,Ml,by simp[s1,C,N,V,S,R,sZ,qE];omega⟩
     .have cR:¬qJ (σ o)=(d:Int):=by
       cases hs:σ o with
       |none=>simp[qJ]
       |some x=>
        simp only[qJ]
        intro e
        have:x=d:=ω
        rw[hs,this]at sN;exact sN rfl
      have bm:DT.mu dW (σ.set o d)<DT.mu dW σ:=DT.ayQ ok xW J3 λ x Z=>J2 x Z λ e=>sN (by rw[Z,e]);simp[C,X,cy,dg,uI,qZ,lq.get,EG,Fg.get,UJ,dz UJ,pQ,cR,e15,yw];refine eJ (σ.set o d,true,q+1) _ _ (by simp only;omega) ⟨g8.put (.inr ζ),?_,J1,.inl ⟨rfl,?_⟩,by simp[s1,C,N,V,S,sZ,qE];omega⟩
      .have⟨ta,la,ha⟩:=T8.ca;refine⟨⟨ta,la.eu ω,ha⟩,⟨tq,lq.eu ω,EG⟩,T8.at'.W ((I.refl [H1.ab] _).put (.inr ζ)) ξ,?_⟩;refine(iD.put Fg QM).congr λ x Z=>?_;show _=ae (qJ (σ.set o d x));by_cases e:x=o
       .subst e;rw[DT.Bs];simp[qJ]
       .rw[DT.Hm e];simp[e]
      .rcases Ml with⟨_,h⟩|⟨_,h⟩<;>simp only<;>omega
  .obtain rfl:q=L.length-1:=ω
   subst dO;simp[qE,X];have e:L.length-1+1=dW.ord.length:=by rw[IP];omega
   rw[e]at I8;refine ih (σ,tn) _ _ ?_ ⟨g8,T8,I8.again ok,by simp[s1,C,N,V,S,R]⟩;rcases Ml with⟨rfl,h⟩|⟨rfl,h⟩<;>simp<;>omega
end
variable{L:Nat->BW}{P:Nat->Prop}
structure oN(K:D)(id:Nat)(P:Nat->Prop)(n:Nat)(L:Nat->List Int):Prop where
 np:¬P id
 ob:∃t,Lv K id (.cells n t false)/\∃aH:Nat->List Nat,(∀x,x<n->∃u,t.get x=some u/\aX K 1 u (aZ (L x)) (aH x)/\∀y∈aH x,P y)/\∀x y,x<n->y<n->x≠y->∀z∈aH x,z∉aH y
def oN.W{T:D}{id:Nat}(h:oN K id P n L){S:AT}(g:I S K T)(m:∀x∈S,x≠id/\¬P x):oN T id P n L:=by have⟨t,O,aH,U,F⟩:=h.ob;refine⟨h.np,t,O.W g (λ Z=>(m _ Z).1 rfl),aH,λ x Z=>?_,F⟩;have⟨u,a,b,c⟩:=U x Z;exact⟨u,a,b.W g λ y G B=>(m _ B).2 (c y G),c⟩
def oN.now{aj:Nat->Prop}(h:oN K a0 P n L)(o:∀y,y<K.ab->P y->aj y)(m:¬aj a0):oN K a0 aj n L:=by have⟨t,O,aH,U,F⟩:=h.ob;refine⟨m,t,O,aH,λ x Z=>?_,F⟩;have⟨u,a,b,c⟩:=U x Z;exact⟨u,a,b,λ y G=>o y (b.lt y G) (c y G)⟩
def oN.congr(h:oN K a0 P n L)(he:∀x,x<n->L x=L' x):oN K a0 P n L':=by have⟨t,O,aH,U,F⟩:=h.ob;refine⟨h.np,t,O,aH,λ x Z=>?_,F⟩;have⟨u,a,b,c⟩:=U x Z;exact⟨u,a,by rw[<-he x Z];exact b,c⟩
def oN.init{t:CX}(h:∀x,x<n->t.get x=some (.lit (.slice none 0 0)))(o:Lv H' a0 (.cells n t false))(m:¬P a0):oN H' a0 P n λ _=>[]:=⟨m,t,o,λ _=>[],λ x Z=>⟨_,h x Z,.nil,ζ⟩,λ _ _ _ _ _ z c=>by simp at c⟩
def oN.lt{id:Nat}(h:oN K id P n L):id<K.ab:=by have⟨t,O,_⟩:=h.ob;exact O.lt
def oN.use(h:oN K a0 P n L)(Z:x<n):∃t u aH,Lv K a0 (.cells n t false)/\t.get x=some u/\aX K 1 u (aZ (L x)) aH/\(∀y∈aH,P y)/\(∀T o l' ids',I aH K T->aX T 1 o (aZ l') ids'->(∀y∈ids',y∈aH\/(K.ab<=y/\P y))->oN (T.put a0 (some (.cells n (t.put x (some o)) false))) a0 P n (λ y=>if y=x then l' else L y)):=by
 have⟨t,O,aH,U,F⟩:=h.ob
 have⟨u,a,b,c⟩:=U x Z
 have q:=h.np
 have V:∀T:D,I (aH x) K T->Lv T a0 (.cells n t false):=λ T g=>O.W g λ B=>q (c _ B)
 refine⟨t,u,aH x,O,a,b,c,λ T o l' ids' g S A=>?_⟩
 have l1:=V T g
 have N:I [a0] T (T.put a0 (some (.cells n (t.put x (some o)) false))):=aw.put (.inr ζ)
 refine⟨q,_,⟨l1.lt,by rw[D.eR,aq rfl]⟩,λ y=>if y=x then ids' else aH y,λ y G=>?_,λ y z G m R w hw=>?_⟩
 .by_cases e:y=x
  .subst e;refine⟨o,ζ,?_,?_⟩
   .dsimp only;rw[aq rfl,aq rfl];refine S.W N λ z m B=>?_;simp at B;rcases A z m with h|h
    .exact q (B▸c z h)
    .exact q (B▸h.2)
   .dsimp only;rw[aq rfl];intro z m;rcases A z m with h|h
    .exact c z h
    .exact h.2
  .have⟨J,Q,b2,c2⟩:=U y G;refine⟨J,by simp[e,Q],?_,by dsimp only;rw[ao e];exact c2⟩;dsimp only;rw[ao e,ao e];refine(b2.W g λ z m B=>F y x G Z e z m B).W N λ z m B=>?_;simp at B;exact q (B▸c2 z m)
 .have key:∀y,y<n->y≠x->∀w∈ids',w∉aH y:=by
   intro y G C w hw B;rcases A w hw with h|h
   .exact F x y Z G (qj C) w h B
   .have⟨J,Q,b2,c2⟩:=U y G;have:=b2.lt w B;omega
  dsimp only at hw⊢;by_cases r:y=x
  .rw[aq r]at hw;have p:z≠x:=by rintro rfl;exact R r
   rw[ao p];exact key z m p w hw
  .rw[ao r]at hw;by_cases p:z=x
   .rw[aq p];intro B;exact key y G r w B hw
   .rw[ao p];exact F y z G m R w hw
def oN.gi{lo:Nat}(h:oN K a0 P n L)(q:∀y,P y->lo<=y)(o:n<=maxLen){g:List BW}(p:g.length=n)(he:∀i (A:i<g.length),g[i]=L i)(m:lo<=a0):GI lo K (.sl a0 0 1 n n ex) g:=by
 have⟨t,O,aH,U,F⟩:=h.ob;subst p;refine⟨.sl O ω (λ i A=>?_) aF o,λ jO _ _ _ _ _ e=>by cases e;exact m⟩;have⟨u,a,b,c⟩:=U i A;refine⟨[u],iB.2 ⟨rfl,λ j r=>?_⟩,u,rfl,?_⟩
 .obtain rfl:j=0:=ω
  simp[a]
 .rw[he i A];exact .own b λ y G=>q y (c y G)
end
end Go.Proofs.YtgipmaoplfkdoaaGreatDoor
