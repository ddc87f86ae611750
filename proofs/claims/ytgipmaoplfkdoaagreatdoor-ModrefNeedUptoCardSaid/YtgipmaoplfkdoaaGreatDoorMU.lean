import Derived.Test.YtgipmaoplfkdoaaGreatDoorM11
import Derived.Test.YtgipmaoplfkdoaaGreatDoorM12
set_option linter.all false
set_option maxRecDepth 100000
set_option maxHeartbeats 400000000
namespace Go.Proofs.YtgipmaoplfkdoaaGreatDoor
noncomputable section
open Go.RowKit
variable{N j:Nat}{V:SV}{c:Nat->Nat×Nat}{aA:Nat->Nat}{cL:AT}{H:D}{v:J}{rv:Nat->Option J}{key:aC}{l:List AE}
namespace SV
def k_(V:SV)(N:Nat):Nat:=m_ (λ i=>(V.aO i).length) N
def W9{V:SV}{i:Nat}(A:i<N):(V.aO i).length<=V.k_ N:=by
 unfold k_;induction N with
 |zero=>omega
 |succ n ih=>
  unfold m_
  by_cases e:i=n
  .subst e;omega
  .have:=ih ω;omega
def aDO{i:Nat}(dK:i≠j)(A:i<N)(hj:j<N):(V.merge i j).k_ N=V.k_ N:=by
 have e:(V.merge i j).k_ N=m_ (aM (aM (λ x=>(V.aO x).length) j ((V.aO j).length+(V.aO i).length)) i 0) N:=by
  refine NV N λ x _=>?_;show(aM (aM V.aO j (V.aO j++V.aO i)) i [] x).length=_;unfold aM;by_cases e1:x=i
  .simp[e1]
  .by_cases e2:x=j
   .have:¬j=i:=λ h=>dK h.symm;simp[e2,this]
   .simp[e1,e2]
 rw[e];have O:=J0 (f:=aM (λ x=>(V.aO x).length) j ((V.aO j).length+(V.aO i).length)) (k:=i) (x:=0) N A;have U:=J0 (f:=λ x=>(V.aO x).length) (k:=j) (x:=(V.aO j).length+(V.aO i).length) N hj;rw[gG dK]at O;unfold k_;omega
end SV
section
variable{X:Fix}{K T:D}{L:nk}{au:Nat->Nat}{V:SV}{t:CX}{tn tf:CX}{mn mf cn cf:Nat}{en ef:Bool}{dv:J}
def tE.RF{K:D}{c':Nat->Nat×Nat}{aO:Nat->List bL}(h:tE K j N c aO)(hc:∀y,y<K.ab->c' y=c y):tE K j N c' aO:=by
 have⟨rv,a,b⟩:=h;refine⟨rv,a,λ i A=>?_⟩;rcases b i A with h|⟨v,aL,p1,p2,p3⟩
 .exact .inl h
 .exact .inr ⟨v,aL,p1,p2,λ y G=>by rw[hc y (p2.lt y G)];exact p3 y G⟩
def fm.RF(h:fm X K L au V t tn tf mn mf cn cf en ef dv){c':Nat->Nat×Nat}(hc:∀y,y<K.ab->c' y=L.c y)(hn:∀y,K.ab<=y->8<=(c' y).1):fm X K {L with c:=c'} au V t tn tf mn mf cn cf en ef dv:=by
 have l2:∀{b:Nat} {m:Nat} {aA:Nat->Nat},e_ K b m aA->b<K.ab/\m<K.ab:=λ hB=>⟨by have⟨t,s1,_⟩:=hB.ob;exact s1.lt,hB.mp.lt⟩;have⟨rv,ra,rb⟩:=h.aO;exact{h with
  aO:=h.aO.RF hc
  ca:=by show c' L.a=_;rw[hc _ h.ob.lt];exact h.ca
  D5:=λ q=>by show c' L.nd=_;rw[hc _ (h.nd q).lt];exact h.D5 q
  mq:=by show c' L.rm=_;rw[hc _ ra.lt];exact h.mq
  ny:=by show c' L.wm=_;rw[hc _ h.wait.lt];exact h.ny
  Gb:=λ q=>by show c' L.fs=_;rw[hc _ (h.fs q).lt];exact h.Gb q
  cn:=λ i A=>by show c' (L.n i)=_;have⟨tt,a,_⟩:=h.n i A;rw[hc _ a.lt];exact h.cn i A
  M:=λ i A=>by show c' (L.s i)=_/\c' (L.sm i)=_;have⟨a,b⟩:=l2 (h.s i A);rw[hc _ a,hc _ b];exact h.M i A
  ct:=λ i A=>by show c' (L.t i)=_/\c' (L.tm i)=_;have⟨a,b⟩:=l2 (h.t i A);rw[hc _ a,hc _ b];exact h.ct i A
  lo:=λ y G=>by
   have hy':(c' y).1<8:=G;by_cases e:y<K.ab
   .rw[hc y e]at hy';exact h.lo y hy'
   .have:=hn y ω;omega
  low:=λ y G=>by show 8<(c' y).1;rw[hc y (aT G h.base.ab)];exact h.low y G
  xM:=by have⟨bZ,d1,d2⟩:=h.xM;refine⟨bZ,λ y G=>⟨(d1 y G).1,?_⟩,d2⟩;show 8<(c' y).1;rw[hc y (aT (d1 y G).1 h.ay)];exact(d1 y G).2}
def fm.aFf(hO:fm X K L au V t tn tf mn mf cn cf en ef dv)(oE:Int):fm X (K.put L.a (some (.cells 7 (t.put 6 (some (ae oE))) false))) L au {V with iC:=oE} (t.put 6 (some (ae oE))) tn tf mn mf cn cf en ef dv/\I [L.a] K (K.put L.a (some (.cells 7 (t.put 6 (some (ae oE))) false))):=by
 have ga:I [L.a] K (K.put L.a (some (.cells 7 (t.put 6 (some (ae oE))) false))):=aw.put (.inr ζ);have na:∀{y:Nat} {k:Nat×Nat},L.c y=k->k≠(0,0)->y∉[L.a]:=λ h Q B=>by simp at B;subst B;exact Q (h.symm.trans hO.ca)
 have aaA:=(hO.lo L.a (by rw[hO.ca];decide)).1;refine⟨hO.own ga (λ y G=>by simp at G;subst G;rw[hO.ca];exact⟨η,aaA⟩) hO.ob.put_eq ζ ζ ζ ζ ζ ζ ζ ?_ ?_ ?_ (λ i A=>?_) (λ i A=>?_) ?_ ?_,ga⟩
 .intro y G;simp at G;subst G;rw[hO.ca];decide
 .intro y G;simp at G;subst G;rw[hO.ca];decide
 .intro y G;simp at G;subst G;rw[hO.ca];decide
 .exact(hO.s i A).W ga (na (hO.M i A).1 ζ) (na (hO.M i A).2 ζ)
 .exact(hO.t i A).W ga (na (hO.ct i A).1 ζ) (na (hO.ct i A).2 ζ)
 .exact hO.aO.W ga (na hO.mq η) (λ y G=>by simp at G;subst G;rw[hO.ca];decide)
 .exact hO.wait.W ga (na hO.ny η)
def fm.aEu(hO:fm X K L au V t tn tf mn mf cn cf en ef dv)(hj:j<X.N)(gU:I [L.s j,L.sm j] K T)(hU:e_ T (L.s j) (L.sm j) aA):fm X T L au {V with set:=aM V.set j aA} t tn tf mn mf cn cf en ef dv:=by
 have⟨kE,mR⟩:=hO.M j hj;have cu:∀y∈[L.s j,L.sm j],L.c y=(6,j):=λ y G=>by
  simp at G;rcases G with rfl|rfl
  .exact kE
  .exact mR
 refine hO.own gU (λ y G=>?_) (hO.ob.W gU (gZ hO.ca λ y G=>by rw[cu y G];simp)) rfl rfl rfl rfl rfl rfl hO.t6 ?_ ?_ ?_ (λ i A=>?_) (λ i A=>?_) ?_ ?_
 .have:=hO.lo y (by rw[cu y G];exact zf rfl);rw[cu y G];exact⟨ζ,this.1⟩
 .intro y G;rw[cu y G];simp
 .intro y G;rw[cu y G];simp
 .intro y G;rw[cu y G];simp
 .show e_ T _ _ (aM V.set j aA i);by_cases e:i=j
  .subst e;rw[fE];exact hU
  .rw[gG e];exact(hO.s i A).W gU (gZ (hO.M i A).1 λ y G=>by rw[cu y G];simp;exactλ h=>e h.symm) (gZ (hO.M i A).2 λ y G=>by rw[cu y G];simp;exactλ h=>e h.symm)
 .exact(hO.t i A).W gU (gZ (hO.ct i A).1 λ y G=>by rw[cu y G];simp) (gZ (hO.ct i A).2 λ y G=>by rw[cu y G];simp)
 .exact hO.aO.W gU (gZ hO.mq λ y G=>by rw[cu y G];simp) (λ y G=>by rw[cu y G];simp)
 .exact hO.wait.W gU (gZ hO.ny λ y G=>by rw[cu y G];simp)
def fm.alF(hO:fm X K L au V t tn tf mn mf cn cf en ef dv){w:Nat->Bool}(gw:I [L.wm] K T)(hw:lp T L.wm 3 X.N λ i=>uN (w i)):fm X T L au {V with wait:=w} t tn tf mn mf cn cf en ef dv:=by
 have mK:∀y∈[L.wm],L.c y=(3,0):=λ y G=>by simp at G;subst G;exact hO.ny
 refine hO.own gw (λ y G=>?_) (hO.ob.W gw (gZ hO.ca λ y G=>by rw[mK y G];decide)) rfl rfl rfl rfl rfl rfl hO.t6 ?_ ?_ ?_ (λ i A=>?_) (λ i A=>?_) ?_ hw
 .have:=hO.lo y (by rw[mK y G];decide);rw[mK y G];exact⟨η,this.1⟩
 .intro y G;rw[mK y G];decide
 .intro y G;rw[mK y G];decide
 .intro y G;rw[mK y G];decide
 .exact(hO.s i A).W gw (gZ (hO.M i A).1 λ y G=>by rw[mK y G];simp) (gZ (hO.M i A).2 λ y G=>by rw[mK y G];simp)
 .exact(hO.t i A).W gw (gZ (hO.ct i A).1 λ y G=>by rw[mK y G];simp) (gZ (hO.ct i A).2 λ y G=>by rw[mK y G];simp)
 .exact hO.aO.W gw (gZ hO.mq λ y G=>by rw[mK y G];decide) (λ y G=>by rw[mK y G];decide)
def fm.aj7(hO:fm X K L au V t tn tf mn mf cn cf en ef dv){aO:Nat->List bL}(g:I cL K T)(hz:∀y∈cL,(y=L.rm\/(L.c y).1=8/\X.HB.ab<=y))(hr:tE T L.rm X.N L.c aO):fm X T L au {V with aO:=aO} t tn tf mn mf cn cf en ef dv:=by
 have cz:∀y∈cL,(L.c y).1=2\/(L.c y).1=8:=λ y G=>by
  rcases hz y G with rfl|h
  .rw[hO.mq];exact .inl rfl
  .exact .inr h.1
 have nz:∀{y:Nat} {k:Nat×Nat},L.c y=k->k.1≠2->k.1≠8->y∉cL:=λ h U h8 B=>by
  rcases cz _ B with q|q
  .rw[h]at q;exact U q
  .rw[h]at q;exact h8 q
 refine hO.own g (λ y G=>?_) (hO.ob.W g (nz hO.ca η η)) rfl rfl rfl rfl rfl rfl hO.t6 ?_ ?_ ?_ (λ i A=>?_) (λ i A=>?_) hr ?_
 .rcases hz y G with rfl|h
  .have:=hO.lo L.rm (by rw[hO.mq];decide);rw[hO.mq];exact⟨η,this.1⟩
  .rw[h.1];exact⟨aF,h.2⟩
 .intro y G;have:=cz y G;omega
 .intro y G;have:=cz y G;omega
 .intro y G;have:=cz y G;omega
 .exact(hO.s i A).W g (nz (hO.M i A).1 ζ ζ) (nz (hO.M i A).2 ζ ζ)
 .exact(hO.t i A).W g (nz (hO.ct i A).1 ζ ζ) (nz (hO.ct i A).2 ζ ζ)
 .exact hO.wait.W g (nz hO.ny η η)
def fm.agZ(hO:fm X K L au V t tn tf mn mf cn cf en ef dv){i:Nat}(hj:j<X.N):fm X (K.put L.fs (some (.cells mf (tf.put i (some (ae (j:Nat)))) false))) L (aM au i j) V t tn (tf.put i (some (ae (j:Nat)))) mn mf cn cf en ef dv/\I [L.fs] K (K.put L.fs (some (.cells mf (tf.put i (some (ae (j:Nat)))) false))):=by
 have dt:0<X.N:=FV hj;have gf:I [L.fs] K (K.put L.fs (some (.cells mf (tf.put i (some (ae (j:Nat)))) false))):=aw.put (.inr ζ);have AD:∀y∈[L.fs],L.c y=(4,0):=λ y G=>by simp at G;subst G;exact hO.Gb dt
 have gY:=(hO.lo L.fs (by rw[hO.Gb dt];decide));refine⟨?_,gf⟩;generalize hK':K.put L.fs (some (.cells mf (tf.put i (some (ae (j:Nat)))) false))=T at gf;have lf:Lv T L.fs (.cells mf (tf.put i (some (ae (j:Nat)))) false):=by rw[<-hK'];exact(hO.fs dt).put_eq
 exact{hO with
  ob:=hO.ob.W gf (gZ hO.ca λ y G=>by rw[AD y G];decide)
  nd:=λ q=>(hO.nd q).W gf (gZ (hO.D5 q) λ y G=>by rw[AD y G];decide)
  n:=λ x Z=>by have⟨tt,a,b⟩:=hO.n x Z;exact⟨tt,a.W gf (gZ (hO.cn x Z) λ y G=>by rw[AD y G];simp),b⟩
  s:=λ x Z=>(hO.s x Z).W gf (gZ (hO.M x Z).1 λ y G=>by rw[AD y G];simp) (gZ (hO.M x Z).2 λ y G=>by rw[AD y G];simp)
  t:=λ x Z=>(hO.t x Z).W gf (gZ (hO.ct x Z).1 λ y G=>by rw[AD y G];simp) (gZ (hO.ct x Z).2 λ y G=>by rw[AD y G];simp)
  fs:=λ _=>lf
  sC:=λ x Z=>by
   by_cases e:x=i
   .subst e;rw[fE];simp
   .rw[gG e,Tr.eR,ao e];exact hO.sC x Z
  fst:=λ x Z=>by
   by_cases e:x=i
   .subst e;rw[fE];exact hj
   .rw[gG e];exact hO.fst x Z
  aO:=hO.aO.W gf (gZ hO.mq λ y G=>by rw[AD y G];decide) (λ y G=>by rw[AD y G];decide)
  wait:=hO.wait.W gf (gZ hO.ny λ y G=>by rw[AD y G];decide)
  ay:=aY hO.ay gf.ab
  base:=ke hO.base gf λ y G=>by simp at G;rw[G];exact gY.1
  xM:=by have⟨bZ,d1,d2⟩:=hO.xM;refine⟨bZ,d1,λ dP hn hq=>d2 dP hn λ y hd=>?_⟩;rw[hq y hd,gf.get y (aT (d1 y hd).1 hO.ay) λ B=>?_];have:=(d1 y hd).2;rw[AD y B]at this;simp at this}
end
def aX.cells{M:AU}(h:aX H N v M cL):∃n,M.length=n*N/\∀{β:Type} (k:Nat->AU->R β),pz N v H k=k n M:=by
 cases h with
 |nil=>exact⟨0,ζ,λ k=>rfl⟩
 |@own id n ax ex t _ O U F h4 h5 h6=>
  have aU:n*N<=ax*N:=nW _ h4
  refine⟨n,U,λ k=>?_⟩
  unfold pz
  simp[qS,O.get,aU,bY (adG U F)]
theorem aj4:∀(l:List bL),fX (l.flatMap kS)=true
 |[]=>rfl|r::l=>by simp[kS,aj4 l]
abbrev Dp:J:=.lit (.slice none 0 0)
def tE.at_{aO:Nat->List bL}(h:∀i,i<N->(rv i=none/\aO i=[])\/∃v aL,rv i=some v/\aX H 4 v ((aO i).flatMap kS) aL/\∀y∈aL,c y=(8,i)){i:Nat}(A:i<N):∃aL,aX H 4 ((rv i).getD Dp) ((aO i).flatMap kS) aL/\∀y∈aL,c y=(8,i):=by
 rcases h i A with⟨a,b⟩|⟨v,aL,a,b,d⟩
 .rw[a,b];exact⟨[],.nil,ζ⟩
 .rw[a];exact⟨aL,b,d⟩
def Wn:(match lk key l with|some p=>val p.snd H|none=>val v H)=val ((cH key l).getD v) H:=by unfold cH;cases lk key l<;>rfl
section
variable{aG c k:Nat}{f:Nat->Option J}{l:List AE}{v:J}
def ax5(hf:jE c l=true)(hq:∀q:Nat,cH (.int .i64 q) l=f q)(hb:∀x∈bQ l,∃q:Nat,q<aG/\x=.int .i64 q)(hn:(bQ l).Nodup)(Q:k<aG)(hB:aG<=9223372036854775807):jE (oC c (.int .i64 k) l) (eD c (.int .i64 k) v l)=true/\(∀q:Nat,cH (.int .i64 q) (eD c (.int .i64 k) v l)=aM f k (some v) q)/\(∀x∈bQ (eD c (.int .i64 k) v l),∃q:Nat,q<aG/\x=.int .i64 q)/\(bQ (eD c (.int .i64 k) v l)).Nodup:=by
 refine⟨ZY (mH _) (aiJ ω) (kpN hb) hf,λ q=>?_,λ x Z=>?_,Dq (mH _) hn⟩
 .rw[Bb (mH _) (mH _),M9]
  unfold aM;split
  .rfl
  .exact hq q
 .rw[Jv (mH _)]at Z
  split at Z
  .exact hb x Z
  .rw[b_]at Z;rcases Z with Z|Z
   .exact hb x Z
   .simp at Z;exact⟨k,Q,Z⟩
def ax4(hf:jE c l=true)(hq:∀q:Nat,cH (.int .i64 q) l=f q)(hb:∀x∈bQ l,∃q:Nat,q<aG/\x=.int .i64 q)(hn:(bQ l).Nodup):jE c (nA (.int .i64 k) l)=true/\(∀q:Nat,cH (.int .i64 q) (nA (.int .i64 k) l)=aM f k none q)/\(∀x∈bQ (nA (.int .i64 k) l),∃q:Nat,q<aG/\x=.int .i64 q)/\(bQ (nA (.int .i64 k) l)).Nodup:=by
 refine⟨ZX hf,λ q=>?_,λ x Z=>?_,ajv (mH _) hn⟩
 .rw[abn (mH _) (mH _) _ hn,M9]
  unfold aM;split
  .rfl
  .exact hq q
 .exact hb x (abt Z)
end
end
end Go.Proofs.YtgipmaoplfkdoaaGreatDoor
