import Derived.Test.YtgipmaoplfkdoaaGreatDoorM11
import Derived.Test.YtgipmaoplfkdoaaGreatDoorM12
set_option linter.all false
set_option maxRecDepth 100000
set_option maxHeartbeats 400000000
namespace Go.Proofs.YtgipmaoplfkdoaaGreatDoor
noncomputable section
open Go.RowKit
variable{N j:Nat}{V:SV}{c:Nat->Nat×Nat}{aA:Nat->Nat}{cL:AT}{H:D}{v:J}{rv:Nat->Option J}{key:aC}{l:List AE}
namespace SV
def k_(V:SV)(N:Nat):Nat:=m_ (λ i=>(V.aO i).length) N
def W9{V:SV}{i:Nat}(A:i<N):(V.aO i).length<=V.k_ N:=by
 unfold k_;induction N with
 |zero=>omega
 |succ n a=>
  unfold m_
  by_cases e:i=n
  .subst e;omega
  .have:=a ω;omega
def aDO{i:Nat}(d:i≠j)(A:i<N)(g:j<N):(V.merge i j).k_ N=V.k_ N:=by
 have e:(V.merge i j).k_ N=m_ (aM (aM (λ x=>(V.aO x).length) j ((V.aO j).length+(V.aO i).length)) i 0) N:=by
  refine NV N λ x _=>?_;show(aM (aM V.aO j (V.aO j++V.aO i)) i [] x).length=_;unfold aM;by_cases b:x=i
  .simp[b]
  .by_cases a:x=j
   .have:¬j=i:=λ h=>d h.symm;simp[a,this]
   .simp[b,a]
 rw[e];have O:=J0 (f:=aM (λ x=>(V.aO x).length) j ((V.aO j).length+(V.aO i).length)) (k:=i) (x:=0) N A;have U:=J0 (f:=λ x=>(V.aO x).length) (k:=j) (x:=(V.aO j).length+(V.aO i).length) N g;rw[gG d]at O;unfold k_;omega
end SV
section
variable{X:Fix}{K T:D}{L:nk}{au:Nat->Nat}{V:SV}{t:CX}{tn tf:CX}{mn mf cn cf:Nat}{en ef:Bool}{dv:J}
def tE.RF{K:D}{c':Nat->Nat×Nat}{aO:Nat->List bL}(h:tE K j N c aO)(m:∀y,y<K.ab->c' y=c y):tE K j N c' aO:=by
 have⟨rv,a,b⟩:=h;refine⟨rv,a,λ i A=>?_⟩;rcases b i A with h|⟨v,aL,g,d,e⟩
 .exact .inl h
 .exact .inr ⟨v,aL,g,d,λ y G=>by rw[m y (d.lt y G)];exact e y G⟩
def fm.RF(h:fm X K L au V t tn tf mn mf cn cf en ef dv){c':Nat->Nat×Nat}(d:∀y,y<K.ab->c' y=L.c y)(r:∀y,K.ab<=y->8<=(c' y).1):fm X K {L with c:=c'} au V t tn tf mn mf cn cf en ef dv:=by
 have l2:∀{b:Nat} {m:Nat} {aA:Nat->Nat},e_ K b m aA->b<K.ab/\m<K.ab:=λ o=>⟨by have⟨t,s1,_⟩:=o.ob;exact s1.lt,o.mp.lt⟩;have⟨rv,p,u⟩:=h.aO;exact{h with
  aO:=h.aO.RF d
  ca:=by show c' L.a=_;rw[d _ h.ob.lt];exact h.ca
  D5:=λ q=>by show c' L.nd=_;rw[d _ (h.nd q).lt];exact h.D5 q
  mq:=by show c' L.rm=_;rw[d _ p.lt];exact h.mq
  ny:=by show c' L.wm=_;rw[d _ h.wait.lt];exact h.ny
  Gb:=λ q=>by show c' L.fs=_;rw[d _ (h.fs q).lt];exact h.Gb q
  cn:=λ i A=>by show c' (L.n i)=_;have⟨tt,a,_⟩:=h.n i A;rw[d _ a.lt];exact h.cn i A
  M:=λ i A=>by show c' (L.s i)=_/\c' (L.sm i)=_;have⟨a,b⟩:=l2 (h.s i A);rw[d _ a,d _ b];exact h.M i A
  ct:=λ i A=>by show c' (L.t i)=_/\c' (L.tm i)=_;have⟨a,b⟩:=l2 (h.t i A);rw[d _ a,d _ b];exact h.ct i A
  lo:=λ y G=>by
   have g:(c' y).1<8:=G;by_cases e:y<K.ab
   .rw[d y e]at g;exact h.lo y g
   .have:=r y ω;omega
  low:=λ y G=>by show 8<(c' y).1;rw[d y (aT G h.base.ab)];exact h.low y G
  xM:=by have⟨bZ,d1,d2⟩:=h.xM;refine⟨bZ,λ y G=>⟨(d1 y G).1,?_⟩,d2⟩;show 8<(c' y).1;rw[d y (aT (d1 y G).1 h.ay)];exact(d1 y G).2}
def fm.aFf(b:fm X K L au V t tn tf mn mf cn cf en ef dv)(g:Int):fm X (K.put L.a (some (.cells 7 (t.put 6 (some (ae g))) false))) L au {V with iC:=g} (t.put 6 (some (ae g))) tn tf mn mf cn cf en ef dv/\I [L.a] K (K.put L.a (some (.cells 7 (t.put 6 (some (ae g))) false))):=by
 have e:I [L.a] K (K.put L.a (some (.cells 7 (t.put 6 (some (ae g))) false))):=aw.put (.inr ζ);have d:∀{y:Nat} {k:Nat×Nat},L.c y=k->k≠(0,0)->y∉[L.a]:=λ h Q B=>by simp at B;subst B;exact Q (h.symm.trans b.ca)
 have m:=(b.lo L.a (by rw[b.ca];decide)).1;refine⟨b.own e (λ y G=>by simp at G;subst G;rw[b.ca];exact⟨η,m⟩) b.ob.put_eq ζ ζ ζ ζ ζ ζ ζ ?_ ?_ ?_ (λ i A=>?_) (λ i A=>?_) ?_ ?_,e⟩
 .intro y G;simp at G;subst G;rw[b.ca];decide
 .intro y G;simp at G;subst G;rw[b.ca];decide
 .intro y G;simp at G;subst G;rw[b.ca];decide
 .exact(b.s i A).W e (d (b.M i A).1 ζ) (d (b.M i A).2 ζ)
 .exact(b.t i A).W e (d (b.ct i A).1 ζ) (d (b.ct i A).2 ζ)
 .exact b.aO.W e (d b.mq η) (λ y G=>by simp at G;subst G;rw[b.ca];decide)
 .exact b.wait.W e (d b.ny η)
def fm.aEu(a:fm X K L au V t tn tf mn mf cn cf en ef dv)(n:j<X.N)(d:I [L.s j,L.sm j] K T)(o:e_ T (L.s j) (L.sm j) aA):fm X T L au {V with set:=aM V.set j aA} t tn tf mn mf cn cf en ef dv:=by
 have⟨m,g⟩:=a.M j n;have b:∀y∈[L.s j,L.sm j],L.c y=(6,j):=λ y G=>by
  simp at G;rcases G with rfl|rfl
  .exact m
  .exact g
 refine a.own d (λ y G=>?_) (a.ob.W d (gZ a.ca λ y G=>by rw[b y G];simp)) rfl rfl rfl rfl rfl rfl a.t6 ?_ ?_ ?_ (λ i A=>?_) (λ i A=>?_) ?_ ?_
 .have:=a.lo y (by rw[b y G];exact zf rfl);rw[b y G];exact⟨ζ,this.1⟩
 .intro y G;rw[b y G];simp
 .intro y G;rw[b y G];simp
 .intro y G;rw[b y G];simp
 .show e_ T _ _ (aM V.set j aA i);by_cases e:i=j
  .subst e;rw[fE];exact o
  .rw[gG e];exact(a.s i A).W d (gZ (a.M i A).1 λ y G=>by rw[b y G];simp;exactλ h=>e h.symm) (gZ (a.M i A).2 λ y G=>by rw[b y G];simp;exactλ h=>e h.symm)
 .exact(a.t i A).W d (gZ (a.ct i A).1 λ y G=>by rw[b y G];simp) (gZ (a.ct i A).2 λ y G=>by rw[b y G];simp)
 .exact a.aO.W d (gZ a.mq λ y G=>by rw[b y G];simp) (λ y G=>by rw[b y G];simp)
 .exact a.wait.W d (gZ a.ny λ y G=>by rw[b y G];simp)
def fm.alF(a:fm X K L au V t tn tf mn mf cn cf en ef dv){w:Nat->Bool}(gw:I [L.wm] K T)(hw:lp T L.wm 3 X.N λ i=>uN (w i)):fm X T L au {V with wait:=w} t tn tf mn mf cn cf en ef dv:=by
 have b:∀y∈[L.wm],L.c y=(3,0):=λ y G=>by simp at G;subst G;exact a.ny
 refine a.own gw (λ y G=>?_) (a.ob.W gw (gZ a.ca λ y G=>by rw[b y G];decide)) rfl rfl rfl rfl rfl rfl a.t6 ?_ ?_ ?_ (λ i A=>?_) (λ i A=>?_) ?_ hw
 .have:=a.lo y (by rw[b y G];decide);rw[b y G];exact⟨η,this.1⟩
 .intro y G;rw[b y G];decide
 .intro y G;rw[b y G];decide
 .intro y G;rw[b y G];decide
 .exact(a.s i A).W gw (gZ (a.M i A).1 λ y G=>by rw[b y G];simp) (gZ (a.M i A).2 λ y G=>by rw[b y G];simp)
 .exact(a.t i A).W gw (gZ (a.ct i A).1 λ y G=>by rw[b y G];simp) (gZ (a.ct i A).2 λ y G=>by rw[b y G];simp)
 .exact a.aO.W gw (gZ a.mq λ y G=>by rw[b y G];decide) (λ y G=>by rw[b y G];decide)
def fm.aj7(a:fm X K L au V t tn tf mn mf cn cf en ef dv){aO:Nat->List bL}(g:I cL K T)(e:∀y∈cL,(y=L.rm\/(L.c y).1=8/\X.HB.ab<=y))(hr:tE T L.rm X.N L.c aO):fm X T L au {V with aO:=aO} t tn tf mn mf cn cf en ef dv:=by
 have d:∀y∈cL,(L.c y).1=2\/(L.c y).1=8:=λ y G=>by
  rcases e y G with rfl|h
  .rw[a.mq];exact .inl rfl
  .exact .inr h.1
 have b:∀{y:Nat} {k:Nat×Nat},L.c y=k->k.1≠2->k.1≠8->y∉cL:=λ h U m B=>by
  rcases d _ B with q|q
  .rw[h]at q;exact U q
  .rw[h]at q;exact m q
 refine a.own g (λ y G=>?_) (a.ob.W g (b a.ca η η)) rfl rfl rfl rfl rfl rfl a.t6 ?_ ?_ ?_ (λ i A=>?_) (λ i A=>?_) hr ?_
 .rcases e y G with rfl|h
  .have:=a.lo L.rm (by rw[a.mq];decide);rw[a.mq];exact⟨η,this.1⟩
  .rw[h.1];exact⟨aF,h.2⟩
 .intro y G;have:=d y G;omega
 .intro y G;have:=d y G;omega
 .intro y G;have:=d y G;omega
 .exact(a.s i A).W g (b (a.M i A).1 ζ ζ) (b (a.M i A).2 ζ ζ)
 .exact(a.t i A).W g (b (a.ct i A).1 ζ ζ) (b (a.ct i A).2 ζ ζ)
 .exact a.wait.W g (b a.ny η η)
def fm.agZ(d:fm X K L au V t tn tf mn mf cn cf en ef dv){i:Nat}(p:j<X.N):fm X (K.put L.fs (some (.cells mf (tf.put i (some (ae (j:Nat)))) false))) L (aM au i j) V t tn (tf.put i (some (ae (j:Nat)))) mn mf cn cf en ef dv/\I [L.fs] K (K.put L.fs (some (.cells mf (tf.put i (some (ae (j:Nat)))) false))):=by
 have o:0<X.N:=FV p;have g:I [L.fs] K (K.put L.fs (some (.cells mf (tf.put i (some (ae (j:Nat)))) false))):=aw.put (.inr ζ);have h:∀y∈[L.fs],L.c y=(4,0):=λ y G=>by simp at G;subst G;exact d.Gb o
 have z:=(d.lo L.fs (by rw[d.Gb o];decide));refine⟨?_,g⟩;generalize m:K.put L.fs (some (.cells mf (tf.put i (some (ae (j:Nat)))) false))=T at g;have r:Lv T L.fs (.cells mf (tf.put i (some (ae (j:Nat)))) false):=by rw[<-m];exact(d.fs o).put_eq
 exact{d with
  ob:=d.ob.W g (gZ d.ca λ y G=>by rw[h y G];decide)
  nd:=λ q=>(d.nd q).W g (gZ (d.D5 q) λ y G=>by rw[h y G];decide)
  n:=λ x Z=>by have⟨tt,a,b⟩:=d.n x Z;exact⟨tt,a.W g (gZ (d.cn x Z) λ y G=>by rw[h y G];simp),b⟩
  s:=λ x Z=>(d.s x Z).W g (gZ (d.M x Z).1 λ y G=>by rw[h y G];simp) (gZ (d.M x Z).2 λ y G=>by rw[h y G];simp)
  t:=λ x Z=>(d.t x Z).W g (gZ (d.ct x Z).1 λ y G=>by rw[h y G];simp) (gZ (d.ct x Z).2 λ y G=>by rw[h y G];simp)
  fs:=λ _=>r
  sC:=λ x Z=>by
   by_cases e:x=i
   .subst e;rw[fE];simp
   .rw[gG e,Tr.eR,ao e];exact d.sC x Z
  fst:=λ x Z=>by
   by_cases e:x=i
   .subst e;rw[fE];exact p
   .rw[gG e];exact d.fst x Z
  aO:=d.aO.W g (gZ d.mq λ y G=>by rw[h y G];decide) (λ y G=>by rw[h y G];decide)
  wait:=d.wait.W g (gZ d.ny λ y G=>by rw[h y G];decide)
  ay:=aY d.ay g.ab
  base:=ke d.base g λ y G=>by simp at G;rw[G];exact z.1
  xM:=by have⟨bZ,d1,d2⟩:=d.xM;refine⟨bZ,d1,λ dP w u=>d2 dP w λ y hd=>?_⟩;rw[u y hd,g.get y (aT (d1 y hd).1 d.ay) λ B=>?_];have:=(d1 y hd).2;rw[h y B]at this;simp at this}
end
def aX.cells{M:AU}(h:aX H N v M cL):∃n,M.length=n*N/\∀{β:Type} (k:Nat->AU->R β),pz N v H k=k n M:=by
 cases h with
 |nil=>exact⟨0,ζ,λ k=>rfl⟩
 |@own id n ax ex t _ O U F a e d=>
  have b:n*N<=ax*N:=nW _ a
  refine⟨n,U,λ k=>?_⟩
  unfold pz
  simp[qS,O.get,b,bY (adG U F)]
theorem aj4:∀(l:List bL),fX (l.flatMap kS)=true
 |[]=>rfl|r::l=>by simp[kS,aj4 l]
abbrev Dp:J:=.lit (.slice none 0 0)
def tE.at_{aO:Nat->List bL}(h:∀i,i<N->(rv i=none/\aO i=[])\/∃v aL,rv i=some v/\aX H 4 v ((aO i).flatMap kS) aL/\∀y∈aL,c y=(8,i)){i:Nat}(A:i<N):∃aL,aX H 4 ((rv i).getD Dp) ((aO i).flatMap kS) aL/\∀y∈aL,c y=(8,i):=by
 rcases h i A with⟨a,b⟩|⟨v,aL,a,b,d⟩
 .rw[a,b];exact⟨[],.nil,ζ⟩
 .rw[a];exact⟨aL,b,d⟩
def Wn:(match lk key l with|some p=>val p.snd H|none=>val v H)=val ((cH key l).getD v) H:=by unfold cH;cases lk key l<;>rfl
section
variable{aG c k:Nat}{f:Nat->Option J}{l:List AE}{v:J}
def ax5(e:jE c l=true)(b:∀q:Nat,cH (.int .i64 q) l=f q)(a:∀x∈bQ l,∃q:Nat,q<aG/\x=.int .i64 q)(d:(bQ l).Nodup)(Q:k<aG)(g:aG<=9223372036854775807):jE (oC c (.int .i64 k) l) (eD c (.int .i64 k) v l)=true/\(∀q:Nat,cH (.int .i64 q) (eD c (.int .i64 k) v l)=aM f k (some v) q)/\(∀x∈bQ (eD c (.int .i64 k) v l),∃q:Nat,q<aG/\x=.int .i64 q)/\(bQ (eD c (.int .i64 k) v l)).Nodup:=by
 refine⟨ZY (mH _) (aiJ ω) (kpN a) e,λ q=>?_,λ x Z=>?_,Dq (mH _) d⟩
 .rw[Bb (mH _) (mH _),M9]
  unfold aM;split
  .rfl
  .exact b q
 .rw[Jv (mH _)]at Z
  split at Z
  .exact a x Z
  .rw[b_]at Z;rcases Z with Z|Z
   .exact a x Z
   .simp at Z;exact⟨k,Q,Z⟩
def ax4(d:jE c l=true)(b:∀q:Nat,cH (.int .i64 q) l=f q)(e:∀x∈bQ l,∃q:Nat,q<aG/\x=.int .i64 q)(a:(bQ l).Nodup):jE c (nA (.int .i64 k) l)=true/\(∀q:Nat,cH (.int .i64 q) (nA (.int .i64 k) l)=aM f k none q)/\(∀x∈bQ (nA (.int .i64 k) l),∃q:Nat,q<aG/\x=.int .i64 q)/\(bQ (nA (.int .i64 k) l)).Nodup:=by
 refine⟨ZX d,λ q=>?_,λ x Z=>?_,ajv (mH _) a⟩
 .rw[abn (mH _) (mH _) _ a,M9]
  unfold aM;split
  .rfl
  .exact b q
 .exact e x (abt Z)
end
end
end Go.Proofs.YtgipmaoplfkdoaaGreatDoor
