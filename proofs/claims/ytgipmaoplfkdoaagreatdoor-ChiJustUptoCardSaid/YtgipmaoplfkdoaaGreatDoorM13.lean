import Derived.Test.YtgipmaoplfkdoaaGreatDoorMA
import Derived.Test.YtgipmaoplfkdoaaGreatDoorMB
set_option linter.all false
set_option maxRecDepth 100000
set_option maxHeartbeats 400000000
namespace Go.Proofs.YtgipmaoplfkdoaaGreatDoor
noncomputable section
open Go.RowKit
variable{H:D}{l L:AT}{rs rs0:List bL}{N aG x:Nat}{V V':SV}{kt:aS}{r:bL}{E:aK}{a:Int}{cL:SI}{ds:List bH}{S:SM}{Q':J->D->Prop}{au:Nat->Prop}
def avS(E:aK)(f:J)(H:D):vD E 3 [f] H=(EZ E f H λ ks=>q_ ks λ l=>vK l λ b=>jV b λ n=>
    eC (.ok (.lit (.slice none 0 0),H)) (λ _=>iA (λ n k=>k (Value.int .i64 n)) l λ b=>kM H (.tN b) λ id H'=>.ok (.sl id 0 1 n n false,H')) n):=rfl
theorem ajd{β:Type}:∀(l:BW) (k:List aC->R β),iA (λ (n:Int) (k:aC->R β)=>k (Value.int .i64 n)) l k=k (l.map (Value.int .i64))
 |[],k=>rfl
 |n::l,k=>by
  show iA (λ (n:Int) (k:aC->R β)=>k (Value.int .i64 n)) l (λ r=>k (Value.int .i64 n::r))=_
  rw[ajd];rfl
def aoX{g jO id:Nat}{t:CX}{ro:Bool}{l:List AE}(i:E0.Q.get g=some 1)(O:H.get jO=some (.cells 1 t ro))(U:AV t 0 (.map id))(F:H.get id=some (.map kt N l))(j:jE N l=true)(c:∀x∈bQ l,∃q:Nat,q<aG/\x=.int .i64 q)(b:(bQ l).Nodup)(s:aG<=1000000){p:Nat->Bool}(h:∀q:Nat,q<aG->((cH (.int .i64 q) l).isSome=true↔p q=true))(k:(List.range aG).filter p=x::L):CN 78 [.fn (.func g) [] [.ptr jO 0]] H λ v K=>v=.sl H.ab 0 1 (L.length+1) (L.length+1) false/\K=H.add (.tN ((x::L).map λ n=>Value.int .i64 ((n:Nat):Int))):=by
 have⟨m,f,d⟩:=V_ c b h
 have u:=aiV c b
 have Q:vD E0 3 [.fn (.func g) [] [.ptr jO 0]] H=.ok (.sl H.ab 0 1 (L.length+1) (L.length+1) false,H.add (.tN ((x::L).map λ n=>Value.int .i64 ((n:Nat):Int)))):=by
  rw[avS,aiS i O U F j ω,f,RU,Wm,d,JA,k];have e:(List.map (λ n=>J.lit (Value.int .i64 n)) (List.map Int.ofNat (x::L))).length=L.length+1:=ζ
  rw[e,WD,ajd,JG,u_];rfl
 exact Ht (n:=1) avb Q ⟨rfl,rfl⟩
def ayo(f:(x::L).Pairwise (·< ·))(g:H.get N=some (.tN ((x::L).map λ n=>Value.int .i64 ((n:Nat):Int)))):CN 77 [.sl N 0 1 (L.length+1) (L.length+1) false] H λ v K=>K=H/\v=ae (x:Nat):=by
 have B:((x::L).map λ n=>Value.int .i64 ((n:Nat):Int))=((x::L).map λ n:Nat=>(n:Int)).map (Value.int .i64):=by rw[u_];rfl
 have i:((x::L).map λ n=>Value.int .i64 ((n:Nat):Int)).length=L.length+1:=ζ
 have A:∃aD,lK ((x::L).map λ n:Nat=>(n:Int))=(x:Int)::aD:=by
  have O:=yB ((x::L).map λ n:Nat=>(n:Int));have U:=QY ((x::L).map λ n:Nat=>(n:Int));generalize lK ((x::L).map λ n:Nat=>(n:Int))=S at O U;cases S with
  |nil=>have:=O.length_eq;simp at this
  |cons y aD=>
   refine⟨aD,?_⟩
   have G:y∈(x::L).map λ n:Nat=>(n:Int):=O.mem_iff.1 ζ
   have Z:(x:Int)∈y::aD:=O.mem_iff.2 ζ
   have a:(x:Int)<=y:=by
    obtain⟨z,c,rfl⟩:=jn.1 G;rcases cZ.1 c with rfl|c
    .exact Ys _
    .have:=(xw.1 f).1 z c;try dsimp only
     omega
   have b:y<=(x:Int):=by
    rcases cZ.1 Z with e|c
    .omega
    .exact(xw.1 U).1 _ c
   have:y=(x:Int):=ω
   rw[this]
 have⟨aD,h⟩:=A
 have Q:vD E0 4 [.sl N 0 1 (L.length+1) (L.length+1) false] H=.ok (ae (x:Nat),H):=by
  show(ie H N λ o=>match o with
      |.tN l=>jV l λ m=>aB (.er [154]) (q_ l λ d=>match d with|x::_=>(R.ok (J.lit (.int .i64 x),H):R (J×D))|[]=>.er [155]) (Nat.beq m (L.length+1))
      |_=>.er [156])=_
  rw[qS,g];show(jV ((x::L).map λ n=>Value.int .i64 ((n:Nat):Int)) λ m=>aB (.er [154]) (q_ ((x::L).map λ n=>Value.int .i64 ((n:Nat):Int)) λ d=>match d with|x::_=>(R.ok (J.lit (.int .i64 x),H):R (J×D))|[]=>.er [155]) (Nat.beq m (L.length+1)))=_;rw[JA,i,show Nat.beq (L.length+1) (L.length+1)=true by simp,pS,B,RU,h]
 exact Ht (n:=2) ava Q ⟨rfl,rfl⟩
def ayC(H:D)(m:Nat):CN 79 [.map m] H λ v K=>K=H.add (.cells 1 (Tr.e.put 0 (some (.map m))) false)/\v=.fn (.func 134) [] [.ptr H.ab 0]:=by refine im as4 rfl ?_;simp
def axA(h:(List.range N).filter (λ q=>V.wait q)=x::L):V.least N=some x:=by unfold SV.least;rw[<-afe,h];rfl
def aqj(h:(List.range N).filter (λ q=>V.wait q)=[]):V.least N=none:=by unfold SV.least;rw[<-afe,h];rfl
def aFz(h:V'.aO=V.aO):V'.k_ N=V.k_ N:=by unfold SV.k_;rw[h]
def BG(rs:List bL)(V:SV):Prop:=∀i,∀r∈V.aO i,r∈rs/\(r.kind=3\/r.kind=4\/r.kind=5\/r.kind=6)
def aDQ(h:BG rs V)(hr:r∈rs)(Q:r.kind=1\/r.kind=2\/r.kind=3\/r.kind=4\/r.kind=5\/r.kind=6):BG rs (V.iN r):=by
 have key:∀k:Nat,(r.kind=3\/r.kind=4\/r.kind=5\/r.kind=6)->BG rs {V with aO:=aM V.aO k (V.aO k++[r])}:=by
  intro k d i q c;have b:q∈aM V.aO k (V.aO k++[r]) i:=c;unfold aM at b;split at b
  .rw[b_,jo]at b;rcases b with e|rfl
   .exact h _ _ e
   .exact⟨hr,d⟩
  .exact h _ _ b
 unfold SV.iN;split
 .exact h
 .split
  .intro i q c;rw[agf]at c;exact h i q c
  .split
   .exact key _ ω
   .exact key _ ω
def aDP(hr:∀r∈rs,r∈rs0/\(r.kind=1\/r.kind=2\/r.kind=3\/r.kind=4\/r.kind=5\/r.kind=6)):∀{V:SV},BG rs0 V->BG rs0 (rs.foldl SV.iN V):=by induction rs with|nil=>intro V h;exact h|cons r rs b=>intro V h;exact b (λ q c=>hr q (by simp[c])) (aDQ h (hr r ζ).1 (hr r ζ).2)
def afK:fh E .rem kt (.lit (.int .i64 a)) (.lit (.int .i64 64)) H=val (.lit (.int .i64 (Int.tmod a 64))) H:=by simp[fh,Go.binOp,lY,pure,Op.intDiv]
def am6(Q:N<rs.length):V.apps cL ds (rs.take (N+1)) l=(V.apps cL ds (rs.take N) l).app cL ds rs[N] l:=by unfold SV.apps;rw[CR Q]
def afG:(V.apps cL ds rs l).first=V.first:=by induction rs generalizing V with|nil=>rfl|cons r rs b=>exact(b (V:=V.app cL ds r l)).trans Zc
def aCD{i:Nat}(Q:N<l.length):V.push i (l.take (N+1))=if(V.push i (l.take N)).first l[N]≠i then(V.push i (l.take N)).take l[N] ((V.push i (l.take N)).set i)else V.push i (l.take N):=by unfold SV.push;rw[CR Q]
def aCC:(V.push N l).first=V.first:=by
 induction l generalizing V with
 |nil=>rfl
 |cons k l b=>
  show(SV.push (if V.first k≠N then V.take k (V.set N)else V) N l).first=_
  rw[b]
  split<;>rfl
def Bv(S:SM):SV:=SV.JY (bJ S) (bG S).2 (S.vars.length+S.of.length) (bG S).1
def aEV(hR:HF S)(p:SD S)(hQ:∀(X:Fix) (L:nk) (K:D),X.S=S->X.HB=H->X.mid=aG->X.ds=(bG S).2->X.N=S.vars.length+S.of.length->fM X K L (Bv S).first (Bv S)->Q' (.ptr L.a 0) K):∀c,(Tryz.f15.body).bind (Pe 7)=some c->∀(sl:CX) (K1:D) (X:Fix) (L:nk),X.S=S->X.HB=H->X.mid=aG->X.ds=(bG S).2->X.N=S.vars.length+S.of.length->fM X K1 L (SV.V1 (bG S).1).first (SV.V1 (bG S).1)->AV sl 3 (.ptr L.a 0)->aD E0 [.code c] ⟨sl,219,[],none,15⟩ K1 (qb E0 [ResultVar.tmp 2] Q'):=by
 intro c hc sl K1 X L xS Sg Sh J' xN eI s3
 cases(show some _=some c from hc)
 clear hc
 have hNb:=p.N
 have P4:(bJ S).vars+(bJ S).br=X.N:=by rw[xN];rfl
 have auP:=(SV.ad0 p.si p.rel).1
 have P2:=SV.solI_all p.si p.rel SV.solI0
 have UC:SV.V1 (bG S).1=(bG S).1.foldl SV.iN SV.V0:=rfl
 rw[<-UC]at P2;have i4:∀x,(SV.V1 (bG S).1).first x=x:=λ x=>by rw[UC,amv];rfl
 have A3:(SV.V1 (bG S).1).k_ X.N<=4194304:=by have:=alc (N:=X.N) (rs:=(bG S).1) (V:=SV.V0);rw[aec]at this;have:=p.len;rw[UC];omega
 simp[s3]
 refine CW (agU eI ω ω (λ x=>by rw[i4,i4]) (λ i k Q=>by have:=P2.ok.tn i k Q;omega)) ?_
 rintro v2 K2 ⟨c2,iv⟩
 simp
 have yc:=SV.abe P2.ok
 rw[P4]at yc
 have hfI:=P2.fold.1
 rw[P4]at hfI
 have aih:BG (bG S).1 (SV.V1 (bG S).1):=aDP (λ r hr=>⟨hr,(p.rel r hr).k⟩) (λ i r hr=>by simp[SV.V0]at hr)
 have aii:BG (bG S).1 ((SV.V1 (bG S).1).lP X.N):=λ i r hr=>by obtain⟨k,Q⟩:=yc.rel i r hr;exact aih k r Q
 have I_:∀V:SV,(∀x,V.first (V.first x)=V.first x)->(V.lP X.N).k_ X.N=V.k_ X.N:=λ V bD=>Z8 bD X.N aF
 have awh:∀n,(SV.pA (bJ S) (bG S).2 X.N n (1,(SV.V1 (bG S).1).lP X.N)).2.least X.N=none->Bv S=(SV.pA (bJ S) (bG S).2 X.N n (1,(SV.V1 (bG S).1).lP X.N)).2:=λ n hn=>by unfold Bv;rw[xN]at hn⊢;exact SV.akE hn
 refine bu (α:=Int×SV) (aJ:=λ x sl K=>(∃c',fM X K {L with c:=c'} x.2.first x.2)/\SV.uT (bJ S) (bG S).2 x.2/\(∃n,SV.pA (bJ S) (bG S).2 X.N n (1,(SV.V1 (bG S).1).lP X.N)=x)/\x.2.k_ X.N<=4194304/\BG (bG S).1 x.2/\AV sl 3 (.ptr L.a 0)/\AV sl 8 (ae x.1)) (mu:=λ x=>SV.mu x.2 X.N) ?_ (1,(SV.V1 (bG S).1).lP X.N) _ _ ?ini
 case ini=>exact⟨⟨c2,iv⟩,hfI,⟨0,rfl⟩,by rw[I_ _ λ x=>by rw[i4,i4]];exact A3,aii,by simp[s3],ζ⟩
 clear eI iv P2 i4 UC A3 yc hfI aih aii auP
 rintro b1 k1-cq ⟨z,V⟩ sl K ⟨⟨c',hRV⟩,C,⟨nn,fS⟩,Vt,jC,s3,s8⟩ ih
 dsimp only at hRV C Vt jC s8
 have atS:=hRV
 obtain⟨t,tn,tf,mn,mf,cn,cf,en,ef,dv,b⟩:=atS
 obtain⟨wc,wl,w1,w2,w3,w4,w5⟩:=b.wait.ob
 have LS:=b.ay
 have mU:¬L.a=K.ab:=bC b.ob.lt
 have hp:∀q:Nat,q<X.N->((cH (.int .i64 q) wl).isSome=true↔(λ q=>V.wait q) q=true):=λ q hq=>by rw[w3];show(uN (V.wait q)).isSome=true↔V.wait q=true;unfold uN;split<;>simp_all
 obtain⟨ns,ks1,ks2⟩:=V_ w4 w5 hp
 have mD:wl.length=((List.range X.N).filter λ q=>V.wait q).length:=by have e1:=iQ List.length ks1;have e2:=iQ List.length ks2;rw[M5]at e2;simp[bQ]at e1;simp at e2;omega
 cases kH:(List.range X.N).filter (λ q=>V.wait q)with
 |nil=>
  rw[kH]at mD
  have awx:wl.length=0:=mD
  have bA:=abj (E:=E0) aed w1.get
  rw[awx]at bA
  subst cq
  simp[s3,b.ob.get,b.t4,bA]
  have vC:=aqj kH
  have pd:=awh nn (by rw[fS];exact vC)
  rw[fS]at pd
  dsimp only at pd
  rw[pd]at hQ
  exact hQ X {L with c:=c'} K xS Sg Sh J' xN hRV
 |cons i aA=>
  have vC:=axA kH
  obtain⟨m,Ew,-⟩:=SV.ai0 vC
  rw[kH]at mD
  have bA:=abj (E:=E0) aed w1.get
  rw[mD]at bA
  have GD:=(C.wt i Ew).1
  have eH:SV.vU (bJ S) (bG S).2 X.N (z,V)=(IntKind.wrap .i64 (z+1),if Int.tmod z 64=0 then(V.round (bJ S) (bG S).2 i).lP X.N else V.round (bJ S) (bG S).2 i):=by unfold SV.vU;dsimp only;rw[vC]
  have ET:=C.step (x:=(z,V)) p.si (by rw[P4];exact vC)
  rw[P4]at ET
  obtain⟨j1,j3⟩:=ET
  have av8:=C.round p.si Ew
  have eT:∀(bz:CX) (K5:D) (c5:Nat->Nat×Nat),fM X K5 {L with c:=c5} (if Int.tmod z 64=0 then(V.round (bJ S) (bG S).2 i).lP X.N else V.round (bJ S) (bG S).2 i).first (if Int.tmod z 64=0 then(V.round (bJ S) (bG S).2 i).lP X.N else V.round (bJ S) (bG S).2 i)->(if Int.tmod z 64=0 then(V.round (bJ S) (bG S).2 i).lP X.N else V.round (bJ S) (bG S).2 i).k_ X.N<=4194304->BG (bG S).1 (if Int.tmod z 64=0 then(V.round (bJ S) (bG S).2 i).lP X.N else V.round (bJ S) (bG S).2 i)->bz.get 3=some (.ptr L.a 0)->bz.get 8=some (ae (IntKind.wrap .i64 (z+1)))->aD E0 (.code (.loop b1)::k1) ⟨bz,_,_,_,_⟩ K5 _:=λ bz K5 c5 p1 p2 p3 p4 p5=>ih (SV.vU (bJ S) (bG S).2 X.N (z,V)) bz K5 j3 ⟨⟨c5,by rw[eH];exact p1⟩,j1,⟨nn+1,by show SV.vU _ _ _ (SV.pA _ _ _ nn _)=_;rw[fS]⟩,by rw[eH];exact p2,by rw[eH];exact p3,p4,by rw[eH];exact p5⟩
  clear ih
  simp[s3,b.ob.get,b.t4,bA,cE (ayC _ _)]
  refine CW (aoX (g:=134) (jO:=K.ab) (id:=L.wm) (t:=Tr.e.put 0 (some (.map L.wm))) (ro:=false) au7 PN ζ (by rw[ag6 w1.lt];exact w1.get) w2 w4 w5 ω hp kH) ?_
  rintro _ _ ⟨rfl,rfl⟩
  show MD E0 _ (.sl (K.ab+1) 0 1 (aA.length+1) (aA.length+1) false) _ _ _ _
  simp
  refine CW (ayo (x:=i) (L:=aA) (by rw[<-kH];exact S8.filter _) (by show D.get (D.add (D.add K _) _) ((D.add K (.cells 1 (Tr.e.put 0 (some (.map L.wm))) false)).ab)=_;rw[PN];simp)) ?_
  rintro _ _ ⟨rfl,rfl⟩
  simp
  generalize hKc:D.add (D.add K _) _=Kc
  have gc:I [] K Kc:=by rw[<-hKc];exact(aw.add _).add _
  clear hKc
  have IU:=b.W gc ζ
  have w1c:=w1.ai gc
  have Y:0<X.N:=FV m
  have c3:i<mn:=aT m b.Dn
  have mT:=b.ca
  have AQ:=b.ny
  have El:=b.D5 Y
  have aam:=b.cn i m
  dsimp only at mT AQ El aam
  have d1:¬L.a=L.wm:=λ h=>by rw[h,AQ]at mT;cases mT
  have d2:¬L.nd=L.wm:=λ h=>by rw[h,AQ]at El;cases El
  have d3:¬L.n i=L.wm:=λ h=>by rw[h,AQ]at aam;cases aam
  obtain⟨tc1,nc1,nc2,nc3⟩:=IU.n i m
  simp[s3,IU.ob.get,b.t4,w1c.get,d1,d2,d3,IU.DF Y,m,(IU.nd Y).get,c3,IU.wS i m,nc1.get,nc2]
  have hM:=lp.nA (k:=i) w1c w2 w3 w4 w5
  generalize LJ:D.put Kc L.wm _=Kd at hM⊢
  have gd:I [L.wm] Kc Kd:=by rw[<-LJ];exact aw.put (.inr ζ)
  clear LJ
  have P7:=IU.alF (w:=aM V.wait i false) gd (by
   have:(λ q=>uN (aM V.wait i false q))=aM (λ q=>uN (V.wait q)) i none:=by
    funext q;unfold aM;by_cases e:q=i
    .simp[e,uN]
    .simp[e]
   rw[this];exact hM)
  refine CW (Wl (P7.s i m) (P7.g_.W P7.base)) ?_
  rintro lv Ke ⟨⟨Yl,hl,Qe⟩,ge⟩
  have Ux:=P7.W ge ζ
  obtain⟨rv,QH,zR⟩:=Ux.aO
  obtain⟨rc,rl,r1,r2,r3,r4,r5⟩:=QH.ob
  simp[s3,Ux.ob.get,b.t2,r1.get]
  refine Fi (v:=(rv i).getD Dp) (T:=Ke) (by rw[<-r3];exact Wn) ?_
  obtain⟨Yr,orr,yr⟩:=tE.at_ zR m
  have Vr:aW Ke 4 Ol ((rv i).getD Dp) (V.aO i):=orr.yN ω (IF (c:=kS) (es:=4) λ _=>rfl) λ i A=>Lo (c:=kS) (es:=4) (λ _=>rfl) A
  have vF:(V.aO i).length<=4194304:=by have:=SV.W9 (V:=V) m;omega
  simp
  refine CW (aoF Vr (by rintro a M rfl;simp[kS]) ω) ?_
  rintro cv Kf ⟨gf,M,Yc,En,hYc,eN,hcR⟩
  have hOf:=Ux.W gf ζ
  have Va:=hl.W gf ζ
  have hsc:aW Kf 4 Ol cv (V.aO i):=En.yN ω eN hcR
  have AW:=ge.ab
  have hgc:=gc.ab
  have hgd:=gd.ab
  have ahm:∀y∈Yl,X.ay<=y:=λ y G=>by have:=Qe y G;omega
  have aue:∀y∈Yc,X.ay<=y:=λ y G=>by have:=hYc y G;omega
  simp[hsc.aN Fz]
  have hFX:An X:=⟨by rw[xS];exact hR,by rw[xN,xS]⟩
  have hDX:aew X:=λ d hd=>by rw[J']at hd;have O:=p.si.ds d hd;have U:(bJ S).vars=S.vars.length:=rfl;refine⟨λ a ha=>?_,ω⟩;have:=p.da d hd a ha;omega
  have vB:∀o∈jW (V.set i),o<1048576:=λ o ho=>by have O:=C.ok.sn i o ((Dm (C.ok.wd i)).1 ho);have U:=p.si.fns;have F:=hR.nD.2.2.2.1;have h4:(bJ S).br=S.of.length:=rfl;omega
  have atT:∀k (Q:k<(V.aO i).length),aeI X (V.aO i)[k]:=λ k Q=>by obtain⟨O,U⟩:=jC i _ (cG Q);have hg:=p.rel _ O;have F:(bJ S).vars=S.vars.length:=rfl;refine⟨U,by have:=hg.ok.a;omega,by have:=hg.b2;omega,λ e=>⟨hg.ok.f e,p.w5 _ O e⟩,λ e=>by rw[J'];exact p.w6 _ O e⟩
  have au1:∀x,(V.pop i).first ((V.pop i).first x)=(V.pop i).first x:=C.ok.id
  have jL:fM X Kf {L with c:=c'} (V.pop i).first (V.pop i):=⟨_,_,_,_,_,_,_,_,_,_,hOf⟩
  have hLe:(jW (V.set i)).length<=4194304:=Wk _
  have av9:V.round (bJ S) (bG S).2 i=((V.pop i).apps (bJ S) (bG S).2 (V.aO i) (jW (V.set i))).push i (jW (((V.pop i).apps (bJ S) (bG S).2 (V.aO i) (jW (V.set i))).to i)):=rfl
  have Mq:((V.pop i).apps (bJ S) (bG S).2 (V.aO i) (jW (V.set i))).Ok (bJ S) ((bJ S).vars+(bJ S).br):=(SV.dq.apps p.si (C.rel i) (l:=jW (V.set i)) (C.ok.pop (i:=i))).ok
  have hfp:(V.pop i).first=V.first:=rfl
  have hrp:(V.pop i).aO=V.aO:=rfl
  have hgR:((V.pop i).apps (bJ S) (bG S).2 (V.aO i) (jW (V.set i))).aO=(V.pop i).aO:=(SV.dq.apps p.si (C.rel i) (l:=jW (V.set i)) (C.ok.pop (i:=i))).rel
  generalize jW (V.set i)=lo at*
  generalize V.aO i=P at*
  clear b IU P7 Ux hOf Vr orr
  refine bu (α:=Nat) (aJ:=λ k sl K=>fM X K {L with c:=c'} ((V.pop i).apps (bJ S) (bG S).2 (P.take k) lo).first ((V.pop i).apps (bJ S) (bG S).2 (P.take k) lo)/\I X.sg Kf K/\k<=P.length/\AV sl 3 (.ptr L.a 0)/\AV sl 8 (ae z)/\AV sl 9 (ae (i:Nat))/\AV sl 10 lv/\AV sl 163 cv/\AV sl 164 (ae (P.length:Nat))/\AV sl 165 (ae (k:Nat))) (mu:=λ k=>P.length-k) ?_ 0 _ _ ?ini2
  case ini2=>exact⟨jL,aw,dQ _,by simp[s3,s8]⟩
  rintro b2 k2-dO k Hn Kg ⟨J,gk,Q,q3,q8,q9,bo,ajZ,adA,NF⟩ eJ
  have hsg:∀{aL:AT},(∀y∈aL,X.ay<=y)->∀y∈aL,y∉X.sg:=λ hY y G B=>by have:=(Np.1 B).1;have:=hY y G;omega
  by_cases eO:k<P.length
  .have U7:k<maxLen:=by unfold maxLen;omega
   have hcg:=En.W gk (hsg aue);have awd:aW Kg 4 Ol cv P:=hcg.yN ω eN hcR;obtain⟨uj,uB,tQ,exp,np,tp,uG,ZC,Z,fG,ib,gq,aae⟩:=awd.at_ eO;have auI:ZC=kS P[k]:=aae;subst auI;have Mj:=Va.W gk (hsg ahm);have hfk:((V.pop i).apps (bJ S) (bG S).2 (P.take k) lo).first=(V.pop i).first:=afG;simp[q3,bo,ajZ,adA,NF,eO,Z,fG.get,ib,bY gq];generalize dU:D.put (D.add Kg _) Kg.ab _=Ka;have ga:I [] Kg Ka:=by rw[<-dU];exact(aw.add _).put (.inl aF)
   clear dU;have Qg:=am5 (J.ai ga) hFX hDX (λ x=>by rw[hfk];exact au1 x) (atT k eO) (Mj.W ga ζ) ahm vB;rw[xS,J']at Qg;refine CW Qg ?_;rintro v Kh ⟨hRh,gh⟩;simp[NF,bq U7];refine eJ (k+1) _ _ ω ⟨?_,gk.trans ((ga.mono ζ).trans gh),eO,by simp[q3,q8,q9,bo,ajZ,adA,Z]⟩;rw[am6 eO,Zc];exact hRh
  .obtain rfl:k=P.length:=ω
   subst dO;rw[iF]at J;have hfk:((V.pop i).apps (bJ S) (bG S).2 P lo).first=V.first:=afG;generalize(V.pop i).apps (bJ S) (bG S).2 P lo=R at*;have hRA:=J;obtain⟨t,tn,tf,mn,mf,cn,cf,en,ef,dv,b⟩:=J;have c3:i<mn:=aT m b.Dn;obtain⟨tn1,n1,n2,n3⟩:=b.n i m;simp[q3,q9,adA,NF,b.ob.get,b.DF Y,m,(b.nd Y).get,c3,b.wS i m,n1.get,n3];refine CW (Wl (b.t i m) (b.g_.W b.base)) ?_;rintro tv Kh ⟨⟨Yt,htv,hYt⟩,gh⟩;have auf:∀y∈Yt,X.ay<=y:=λ y G=>by have:=hYt y G;have:=b.ay;omega
   have bm:=htv.aZ.aN bK;rw[bW]at bm;have Ez:∀k∈jW (R.to i),k<X.N:=λ k Q=>by have:=Mq.tn i k ((Dm (Mq.wt i)).1 Q);omega
   have sJ:=Wk (R.to i);generalize jW (R.to i)=lt at*;have atQ:fM X Kh {L with c:=c'} R.first R:=⟨_,_,_,_,_,_,_,_,_,_,b.W gh ζ⟩;simp[bm];refine bu (α:=Nat) (aJ:=λ k sl K=>fM X K {L with c:=c'} (R.push i (lt.take k)).first (R.push i (lt.take k))/\I X.sg Kh K/\k<=lt.length/\AV sl 3 (.ptr L.a 0)/\AV sl 8 (ae z)/\AV sl 9 (ae (i:Nat))/\AV sl 184 tv/\AV sl 185 (ae (lt.length:Nat))/\AV sl 186 (ae (k:Nat))) (mu:=λ k=>lt.length-k) ?_ 0 _ _ ?ini3;case ini3=>exact⟨atQ,aw,dQ _,by simp[q3,q8,q9]⟩
   rintro b3 k3-jU k sl3 Ki ⟨J,gk,Q,u3,Sb,u9,XF,N0,Sa⟩ jg;by_cases eO:k<lt.length
   .have U7:k<maxLen:=by unfold maxLen;omega
    have Jk:=htv.W gk (hsg auf);obtain⟨uj,uB,tQ,exp,np,tp,uG,cp,Z,fG,ib,gq,aae⟩:=Jk.aZ.gL (i:=k) (by rw[bW];exact eO);have qw:cp=ae ((lt[k]:Nat):Int):=by
     have:[cp]=[ae ((iY lt)[k]'(by rw[bW];exact eO))]:=aae
     simpa using this
    subst qw;rw[bW]at Z;have kJ:=Ez _ (cG eO);have jN:(R.push i (lt.take k)).first=R.first:=aCC;have zO:=aCD (V:=R) (i:=i) eO;have atV:=J;obtain⟨t,tn,tf,mn,mf,cn,cf,en,ef,dv,u⟩:=atV;have c4:lt[k]<mf:=aT kJ u.zw;have c5:i<mn:=aT m u.Dn;obtain⟨tm1,m1,m2,m3⟩:=u.n i m;have hfg:=u.sC _ kJ;by_cases he:(R.push i (lt.take k)).first lt[k]=i
    .rw[ao (by simpa using he)]at zO;rw[he]at hfg;simp[u3,u9,XF,N0,Sa,eO,Z,fG.get,ib,gq,u.ob.get,u.vV Y,kJ,(u.fs Y).get,c4,hfg,bq U7];exact jg (k+1) _ _ ω ⟨by rw[zO];exact J,gk,eO,by simp[u3,Sb,u9,XF,N0,Z]⟩
    .rw[aq he]at zO;have Er:¬(((R.push i (lt.take k)).first lt[k]:Nat):Int)=(i:Int):=ω
     simp[u3,u9,XF,N0,Sa,eO,Z,fG.get,ib,gq,u.ob.get,u.vV Y,u.DF Y,kJ,(u.fs Y).get,c4,hfg,Er,m,(u.nd Y).get,c5,u.wS i m,m1.get,m2];obtain⟨kE,mR⟩:=u.M i m;refine CW (Xy (L:={L with c:=c'}) J kJ (u.s i m) (λ y G=>?_)) ?_
     .rcases G with rfl|rfl
      .rw[kE];simp;exactλ h=>he h.symm
      .rw[mR];simp;exactλ h=>he h.symm
     .rintro v Kj ⟨xU,gj⟩;simp[Sa,bq U7];exact jg (k+1) _ _ ω ⟨by rw[zO];exact xU,gk.trans gj,eO,by simp[u3,Sb,u9,XF,N0,Z]⟩
   .obtain rfl:k=lt.length:=ω
    subst jU;rw[iF]at J;rw[<-av9]at J;have aif:(V.round (bJ S) (bG S).2 i).aO=V.aO:=(SV.Xf p.si C.ok (C.rel i)).rel;have wO:(V.round (bJ S) (bG S).2 i).k_ X.N<=4194304:=by rw[aFz aif];exact Vt
    have aik:BG (bG S).1 (V.round (bJ S) (bG S).2 i):=λ j r hr=>jC j r (by rw[<-aif];exact hr);have Ur:=av8.1;by_cases hz:Int.tmod z 64=0
    .rw[aq hz]at eT;simp[N0,Sa,Sb,u3,afK,hz];refine CW (agU (L:={L with c:=c'}) J ω (aY wO ω) Ur.ok.id (λ i k Q=>by have:=Ur.ok.tn i k Q;omega)) ?_;rintro v Kz ⟨cz,hRz⟩;have yc:=SV.abe Ur.ok;rw[P4]at yc;simp[Sb];exact eT _ _ cz hRz (by rw[I_ _ Ur.ok.id];exact wO) (λ j r hr=>by obtain⟨k,Q⟩:=yc.rel j r hr;exact aik k r Q) (by simp[u3]) ζ
    .rw[ao hz]at eT;simp[N0,Sa,Sb,afK,hz];exact eT _ _ c' J wO aik (by simp[u3]) ζ
def aEX(B:lu H aG S)(i:xn H)(f:HF S)(b:SD S):CN 15 [.ptr aG 0] H λ v K=>∃(X:Fix) (L:nk),v=.ptr L.a 0/\X.S=S/\X.HB=H/\X.mid=aG/\X.ds=(bG S).2/\X.N=S.vars.length+S.of.length/\fM X K L (Bv S).first (Bv S):=by refine XP λ Q' j=>?_;have p:=b.N;refine aEY B ω (aEW B i f b λ c h sl n X L O U F e d g m k=>?_);exact aEV f b (λ X L K O U F e d g=>j ⟨X,L,rfl,O,U,F,e,d,g⟩) c h sl n X L O U F e d m k
variable{o:Nat}{S:SI}
section
variable{X:Fix}{V:SV}
def aji(Q:V.Ok S N):o∈Be V N a↔0<=a/\a<N/\cC (V.set (V.first a.toNat)) o=true:=by
 unfold Be;split
 .rename_i h;rw[Dm (Q.wd _)];exact⟨λ e=>⟨h.1,h.2,e⟩,λ e=>e.2.2⟩
 .rename_i h;exact⟨λ e=>by simp at e,λ e=>absurd ⟨e.1,e.2.1⟩ h⟩
def ayg(Q:V.Ok S X.N)(b:X.N=X.S.vars.length+X.S.of.length):o∈jk X V a↔0<=a/\a<X.S.vars.length/\cC (V.set (V.first a.toNat)) o=true:=by
 unfold jk;split
 .rename_i h;rw[aji Q];exact⟨λ e=>⟨e.1,h,e.2.2⟩,λ e=>⟨e.1,ω,e.2.2⟩⟩
 .rename_i h;exact⟨λ e=>by simp at e,λ e=>absurd e.2.1 h⟩
end
def Og.mp{S:SM}(h:Og au H N S):lu H N S:=by have⟨vf,cY,cM,mid,O,U⟩:=h;exact⟨au,vf,cY,cM,mid,O,U 0 (λ y G=>ω) H ⟨aF,λ _ _ _=>rfl⟩⟩
end
end Go.Proofs.YtgipmaoplfkdoaaGreatDoor
