import Derived.Test.YtgipmaoplfkdoaaGreatDoorMU
set_option linter.all false
set_option maxRecDepth 100000
set_option maxHeartbeats 400000000
namespace Go.Proofs.YtgipmaoplfkdoaaGreatDoor
noncomputable section
open Go.RowKit
variable{S:SM}{E:aK}{x y:fg}{k:List fg}{Y:aE}{H:D}{aj:dE->aE->D->Prop}{mid rc:Nat}{Q':J->D->Prop}{Yk:AT}{rv:Nat->Option J}{rl:List AE}{a b:Int}{rs:List bL}{s:aI}{ps:List aI}{w:bp->Nat}{bs:List cU}{α:Type}{vf:J}
structure uR where
 n:Nat->Nat
 s:Nat->Nat
 sm:Nat->Nat
 t:Nat->Nat
 tm:Nat->Nat
 c:Nat->Nat×Nat
structure BI(H K:D)(a mid j:Nat)(L:uR)(t:Tr J)(nv fv:J)(Yn Yf:List Nat):Prop where
 z:j=0->nv=Dp/\fv=Dp
 ob:Lv K a (.cells 7 t false)
 t0:AV t 0 (.ptr mid 0)
 t1:AV t 1 nv
 t2:AV t 2 (.map H.ab)
 t4:AV t 4 (.map (H.ab+1))
 t5:AV t 5 fv
 t6:AV t 6 (ae 0)
 nv:aX K 1 nv ((List.range j).map λ i=>.ptr (L.n i) 0) Yn
 fv:aX K 1 fv (aZ (iY (List.range j))) Yf
 nd:∀i,i<j->∃x,Lv K (L.n i) (.cells 2 x false)/\x.get 0=some (.ptr (L.s i) 0)/\x.get 1=some (.ptr (L.t i) 0)
 s:∀i,i<j->e_ K (L.s i) (L.sm i) λ _=>0
 t:∀i,i<j->e_ K (L.t i) (L.tm i) λ _=>0
 rm:Lv K H.ab (.map 3 0 [])
 wm:Lv K (H.ab+1) (.map 3 0 [])
 ca:L.c a=(0,0)
 mq:L.c H.ab=(2,0)
 ny:L.c (H.ab+1)=(3,0)
 cn:∀i,i<j->L.c (L.n i)=(5,i)
 M:∀i,i<j->L.c (L.s i)=(6,i)/\L.c (L.sm i)=(6,i)
 ct:∀i,i<j->L.c (L.t i)=(7,i)/\L.c (L.tm i)=(7,i)
 D3:∀y∈Yn,L.c y=(1,0)
 AB:∀y∈Yf,L.c y=(4,0)
 lo:∀y,L.c y≠(9,0)->H.ab<=y/\y<K.ab
 A:∀y,(L.c y).1<8\/L.c y=(9,0)
 base:I [] H K
section
variable{H K T:D}{a mid j:Nat}{L:uR}{t:CX}{nv fv:J}{Yn Yf:AT}
def BI.lt(h:BI H K a mid j L t nv fv Yn Yf){y:Nat}(G:(L.c y).1<8):H.ab<=y/\y<K.ab:=h.lo y λ e=>by rw[e]at G;simp at G
theorem BI.W(h:BI H K a mid j L t nv fv Yn Yf)(g:I [] K T):BI H T a mid j L t nv fv Yn Yf:=
 {h with
  ob:=h.ob.ai g,nv:=h.nv.W g ζ,fv:=h.fv.W g ζ
  nd:=λ i A=>by have⟨x,p,q⟩:=h.nd i A;exact⟨x,p.ai g,q⟩
  s:=λ i A=>(h.s i A).W g ζ ζ,t:=λ i A=>(h.t i A).W g ζ ζ
  rm:=h.rm.ai g,wm:=h.wm.ai g,lo:=λ y G=>⟨(h.lo y G).1,aT (h.lo y G).2 g.ab⟩,base:=h.base.trans g}
end
def uR.add(L:uR)(K j n s sm t tm:Nat)(Y1 d:AT):uR:=⟨aM L.n j n,aM L.s j s,aM L.sm j sm,aM L.t j t,aM L.tm j tm,λ y=>if y<K then L.c y else if y=n then(5,j)else if y=s\/y=sm then(6,j)else if y=t\/y=tm then(7,j)else if y∈Y1 then(1,0)else if y∈d then(4,0)else(9,0)⟩
def Pe:Nat->Code->Option Code
 |0,c=>some c|n+1,.seq _ b=>Pe n b|_+1,_=>none
def aeD(h:∀ay,k=ay->aD E (x::y::ay) Y H aj):aD E (x::y::k) Y H aj:=h k rfl
def aEY(B:lu H mid S)(hN:S.vars.length+S.of.length<=1048576)(zQ:∀c,(Tryz.f15.body).bind (Pe 4)=some c->∀(sl:CX) (K1:D) (L:uR) (t:CX) (nv fv:J) (Yn Yf:AT),BI H K1 (H.ab+1+1) mid (S.vars.length+S.of.length) L t nv fv Yn Yf->AV sl 0 (.ptr mid 0)->AV sl 3 (.ptr (H.ab+1+1) 0)->aD E0 [.code c] ⟨sl,219,[],none,15⟩ K1 (qb E0 [ResultVar.tmp 2] Q')):CN 15 [.ptr mid 0] H Q':=by
 refine im aq2 rfl ?_
 simp
 generalize pK:D.add (D.add (D.add H _) _) _=K0
 have g0:I [] H K0:=by rw[<-pK];exact((aw.add _).add _).add _
 have n0:K0.ab=H.ab+3:=by rw[<-pK];rfl
 have l0:Lv K0 H.ab (.map 3 0 []):=by rw[<-pK];exact Lv.new.add.add
 have l1:Lv K0 (H.ab+1) (.map 3 0 []):=by rw[<-pK];exact(Lv.new (H:=H.add _)).add
 have l2:∃t,Lv K0 (H.ab+1+1) (.cells 7 t false)/\AV t 0 (.ptr mid 0)/\AV t 1 (.lit (.slice none 0 0))/\AV t 2 (.map H.ab)/\AV t 4 (.map (H.ab+1))/\AV t 5 (.lit (.slice none 0 0))/\AV t 6 (ae 0):=by rw[<-pK];exact⟨_,Lv.new (H:=(H.add _).add _),ζ⟩
 clear pK
 obtain⟨t0,l2,a0,a1,a2,a4,a5,a6⟩:=l2
 have Vg:=B.W g0
 have hwN:IntKind.wrap .i64 ((S.vars.length:Int)+(S.of.length:Int))=((S.vars.length+S.of.length:Nat):Int):=by rw[fQ ω ω];omega
 simp[cE (NS Vg),cE (DD Vg),hwN]
 generalize hNN:S.vars.length+S.of.length=N at hN hwN zQ
 have hI0:BI H K0 (H.ab+1+1) mid 0 ⟨λ _=>0,λ _=>0,λ _=>0,λ _=>0,λ _=>0,λ y=>if y=H.ab then(2,0)else if y=H.ab+1 then(3,0)else if y=H.ab+1+1 then(0,0)else(9,0)⟩ t0 Dp Dp [] []:=by
  refine{ob:=l2,t0:=a0,t1:=a1,t2:=a2,t4:=a4,t5:=a5,t6:=a6,nv:=by simpa using aX.nil,fv:=by simpa[iY,aZ]using aX.nil,nd:=λ i A=>ω,s:=λ i A=>ω,t:=λ i A=>ω,rm:=l0,wm:=l1,ca:=ζ,mq:=ζ,ny:=ζ,cn:=λ i A=>ω,M:=λ i A=>ω,ct:=λ i A=>ω,D3:=ζ,AB:=ζ,lo:=λ y G=>?_,A:=λ y=>?_,base:=g0,z:=λ _=>⟨rfl,rfl⟩}
  .dsimp only at G;split at G
   .omega
   .split at G
    .omega
    .split at G
     .omega
     .exact absurd rfl G
  .dsimp only;split
   .simp
   .split
    .simp
    .split
     .simp
     .simp
 refine aeD ?_
 intro ay P9
 have rest:∀(sl:CX) (K1:D) (L:uR) (t:CX) (nv fv:J) (Yn Yf:AT),BI H K1 (H.ab+1+1) mid N L t nv fv Yn Yf->AV sl 0 (.ptr mid 0)->AV sl 3 (.ptr (H.ab+1+1) 0)->aD E0 ay ⟨sl,219,[],none,15⟩ K1 (qb E0 [ResultVar.tmp 2] Q'):=by subst P9;exact zQ _ rfl
 clear P9
 refine CA (λ j sl K=>(∃L t nv fv Yn Yf,BI H K (H.ab+1+1) mid j L t nv fv Yn Yf)/\j<=N/\AV sl 0 (.ptr mid 0)/\AV sl 3 (.ptr (H.ab+1+1) 0)/\AV sl 26 (ae (N:Nat))/\AV sl 27 (ae (j:Nat))) N ⟨⟨_,_,_,_,_,_,hI0⟩,dQ _,by simp[<-hNN]⟩ ?_
 rintro b1 k1-cq j sl K ⟨⟨L,t,nv,fv,Yn,Yf,h⟩,hj,s0,s3,uH,mG⟩ ih
 by_cases bB:j<N
 .have ix:j<maxLen:=by unfold maxLen;omega
  have Mo:∀K,aW K 1 (One λ n=>ae ((n:Nat):Int)) (.lit (.slice none 0 0)) []:=λ _=>.nil;simp[-cX,s3,uH,mG,bB,h.ob.get,h.t1];refine CW (WI (Mo _) ζ) ?_;rintro _ K1 ⟨g,m,rfl,IX,yp,ES,g1⟩;have O:=h.W g1;simp[-cX];refine dF (by simp[dA,dm,val,O.ob.get,O.t1,O.nv.fy]) ?_;simp[-cX];refine CW (WI (Mo _) ζ) ?_;rintro _ K2 ⟨tid,o,rfl,eX,A3,ht2,g2⟩;have U:=O.W g2;simp[-cX];refine dF (by simp[dA,dm,val,U.ob.get,U.t1,U.nv.fy]) ?_;simp[-cX];generalize dw:D.add K2 _=K3;have g3:I [] K2 K3:=by rw[<-dw];exact aw.add _
  have ln:∃x,Lv K3 K2.ab (.cells 2 x false)/\x.get 0=some (.ptr g 0)/\x.get 1=some (.ptr tid 0):=by rw[<-dw];exact⟨_,Lv.new,ζ⟩
  have n3:K3.ab=K2.ab+1:=by rw[<-dw];rfl
  clear dw;have F:=U.W g3;rw[<-n3,adw];refine vL (c:=.ptr K2.ab 0) aee alh F.nv rfl ξ ξ ?_;intro v4 K4 C p1 p2 p3;simp[-cX];have nY:∀y,(L.c y).1≠1->y∉Yn:=λ y hc B=>hc (by rw[h.D3 y B]);have ob4:=F.ob.W p2 (nY _ (by rw[h.ca];decide));simp[-cX,s3,ob4.get,p1.cell,p1.co,h.t5];generalize qK:D.put K4 _ _=K5;have g5:I [H.ab+1+1] K4 K5:=by rw[<-qK];exact aw.put (.inr ζ)
  have ob5:Lv K5 (H.ab+1+1) (.cells 7 (t.put 1 (some v4)) false):=by rw[<-qK];exact ob4.put_eq
  have n5:K5.ab=K4.ab:=by rw[<-qK];rfl
  clear qK;have nF:∀y,(L.c y).1≠4->y∉Yf:=λ y hc B=>hc (by rw[h.AB y B]);have fv5:=(F.fv.W p2 (λ y G=>nY y (by rw[h.AB y G];decide))).W g5 (λ y G B=>by simp at B;have:=h.AB y G;rw[B,h.ca]at this;cases this);rw[<-n5,adw];refine vL (c:=ae (j:Nat)) bK qF fv5 rfl (by simp[aZ];omega) (by simp[aZ];omega) ?_;intro v6 K6 R q1 q2 q3;have ob6:=ob5.W q2 (nF _ (by rw[h.ca];decide));simp[-cX,ob6.get,q1.cell,q1.co,mG,bq ix];generalize Gn:D.put K6 _ _=K7;have g7:I [H.ab+1+1] K6 K7:=by rw[<-Gn];exact aw.put (.inr ζ)
  have ob7:Lv K7 (H.ab+1+1) (.cells 7 ((t.put 1 (some v4)).put 5 (some v6)) false):=by rw[<-Gn];exact ob6.put_eq
  clear Gn;have P:I (Yn++[H.ab+1+1]++Yf) K3 K7:=(((p2.mono λ x Z=>by simp[Z]).trans (g5.mono λ x Z=>by simp at Z;simp[Z])).trans (q2.mono λ x Z=>by simp[Z])).trans (g7.mono λ x Z=>by simp at Z;simp[Z]);have hXc:∀y∈Yn++[H.ab+1+1]++Yf,L.c y=(1,0)\/L.c y=(0,0)\/L.c y=(4,0):=by
   intro y G;simp only[b_,jo]at G;rcases G with(G|rfl)|G
   .exact .inl (h.D3 y G)
   .exact .inr (.inl h.ca)
   .exact .inr (.inr (h.AB y G))
  have hXl:∀y∈Yn++[H.ab+1+1]++Yf,H.ab<=y/\y<K.ab:=λ y G=>h.lt (by rcases hXc y G with q|q|q<;>rw[q]<;>decide);have fH:∀y,K.ab<=y->y∉Yn++[H.ab+1+1]++Yf:=λ y G B=>by have:=hXl y B;omega
  have Em:∀y,(L.c y).1≠1->(L.c y).1≠0->(L.c y).1≠4->y∉Yn++[H.ab+1+1]++Yf:=λ y c1 c0 c4 B=>by
   rcases hXc y B with q|q|q
   .rw[q]at c1;exact c1 rfl
   .rw[q]at c0;exact c0 rfl
   .rw[q]at c4;exact c4 rfl
  have rQ:=g1.ab;have iW:=g2.ab;have Vl:=p2.ab;have hn6:=q2.ab;have hn7:=g7.ab;have hS3:e_ K7 g m λ _=>0:=((IX.ai g2).ai g3).W P (fH _ yp) (fH _ ES);have xV:e_ K7 tid o λ _=>0:=(eX.ai g3).W P (fH _ ω) (fH _ ω);have oo:g<K1.ab/\m<K1.ab:=⟨by obtain⟨t,s1,_⟩:=IX.ob;exact s1.lt,IX.mp.lt⟩;have htl:tid<K2.ab/\o<K2.ab:=⟨by obtain⟨t,s1,_⟩:=eX.ob;exact s1.lt,eX.mp.lt⟩;have ahk:=p1.lt;have at5:=q1.lt;obtain⟨x,lx,x0,x1⟩:=ln;have kG:∀y,y<K.ab->(L.add K.ab j K2.ab g m tid o C R).c y=L.c y:=λ y G=>aq G;have hold:∀{y:Nat} {k:Nat×Nat},L.c y=k->k.1<8->(L.add K.ab j K2.ab g m tid o C R).c y=k:=λ {y k} e Q=>by rw[kG y (h.lt (by rw[e];exact Q)).2];exact e
  refine ih ω ⟨⟨L.add K.ab j K2.ab g m tid o C R,(t.put 1 (some v4)).put 5 (some v6),v4,v6,C,R,?_⟩,bB,by simp[s0,s3,uH]⟩;have l:∀(f:Nat->Nat) (z i:Nat),i<j->aM f j z i=f i:=λ f z i A=>gG ω;have qv:∀i,i<j+1->i<j\/i=j:=λ i A=>ω
  have nvE:(List.range (j+1)).map (λ i=>J.ptr (aM L.n j K2.ab i) 0)=(List.range j).map (λ i=>J.ptr (L.n i) 0)++[J.ptr K2.ab 0]:=by
   rw[YK,lF];congr 1
   .refine SZ λ i A=>?_;rw[l _ _ _ (mj.1 A)]
   .simp[fE]
  exact
   {ob:=ob7,t0:=by simp[h.t0],t1:=ζ,t2:=by simp[h.t2],t4:=by simp[h.t4],t5:=ζ,t6:=by simp[h.t6]
    nv:=by
     show aX K7 1 v4 ((List.range (j+1)).map λ i=>J.ptr (aM L.n j K2.ab i) 0) C;rw[nvE];refine((p1.W g5 λ y G B=>?_).W q2 λ y G B=>?_).W g7 λ y G B=>?_
     .simp at B;rcases p3 y G with r|r
      .have:=h.D3 y r;rw[B,h.ca]at this;cases this
      .have:=h.lt (y:=H.ab+1+1) (by rw[h.ca];decide);omega
     .rcases p3 y G with r|r
      .have:=h.D3 y r;rw[h.AB y B]at this;cases this
      .have:=h.lt (y:=y) (by rw[h.AB y B];decide);omega
     .simp at B;rcases p3 y G with r|r
      .have:=h.D3 y r;rw[B,h.ca]at this;cases this
      .have:=h.lt (y:=H.ab+1+1) (by rw[h.ca];decide);omega
    fv:=by
     have e:aZ (iY (List.range (j+1)))=aZ (iY (List.range j))++[ae (j:Nat)]:=by simp[aZ,iY,YK]
     rw[e];refine q1.W g7 λ y G B=>?_;simp at B;rcases q3 y G with r|r
     .have:=h.AB y r;rw[B,h.ca]at this;cases this
     .have:=h.lt (y:=H.ab+1+1) (by rw[h.ca];decide);omega
    nd:=λ i A=>by
     show∃x,Lv K7 (aM L.n j K2.ab i) (.cells 2 x false)/\x.get 0=some (.ptr (aM L.s j g i) 0)/\x.get 1=some (.ptr (aM L.t j tid i) 0);rcases qv i A with d|rfl
     .rw[l _ _ _ d,l _ _ _ d,l _ _ _ d];obtain⟨x,r1,r2⟩:=F.nd i d;have:=h.cn i d;exact⟨x,r1.W P (Em _ (by rw[this];simp) (by rw[this];simp) (by rw[this];simp)),r2⟩
     .rw[fE,fE,fE];exact⟨x,lx.W P (fH _ ω),x0,x1⟩
    s:=λ i A=>by
     show e_ K7 (aM L.s j g i) (aM L.sm j m i) _
     rcases qv i A with d|rfl
     .rw[l _ _ _ d,l _ _ _ d]
      obtain⟨c1,c2⟩:=h.M i d;exact(F.s i d).W P (Em _ (by rw[c1];simp) (by rw[c1];simp) (by rw[c1];simp)) (Em _ (by rw[c2];simp) (by rw[c2];simp) (by rw[c2];simp))
     .rw[fE,fE];exact hS3
    t:=λ i A=>by
     show e_ K7 (aM L.t j tid i) (aM L.tm j o i) _
     rcases qv i A with d|rfl
     .rw[l _ _ _ d,l _ _ _ d]
      obtain⟨c1,c2⟩:=h.ct i d;exact(F.t i d).W P (Em _ (by rw[c1];simp) (by rw[c1];simp) (by rw[c1];simp)) (Em _ (by rw[c2];simp) (by rw[c2];simp) (by rw[c2];simp))
     .rw[fE,fE];exact xV
    rm:=F.rm.W P (Em _ (by rw[h.mq];decide) (by rw[h.mq];decide) (by rw[h.mq];decide))
    wm:=F.wm.W P (Em _ (by rw[h.ny];decide) (by rw[h.ny];decide) (by rw[h.ny];decide))
    ca:=hold h.ca η,mq:=hold h.mq η,ny:=hold h.ny η
    cn:=λ i A=>by
     show(L.add K.ab j K2.ab g m tid o C R).c (aM L.n j K2.ab i)=_;rcases qv i A with d|rfl
     .rw[l _ _ _ d];exact hold (h.cn i d) ζ
     .rw[fE];unfold uR.add;dsimp only;rw[ao ω,aq rfl]
    M:=λ i A=>by
     show(L.add K.ab j K2.ab g m tid o C R).c (aM L.s j g i)=_/\(L.add K.ab j K2.ab g m tid o C R).c (aM L.sm j m i)=_;rcases qv i A with d|rfl
     .rw[l _ _ _ d,l _ _ _ d];exact⟨hold (h.M i d).1 ζ,hold (h.M i d).2 ζ⟩
     .rw[fE,fE];unfold uR.add;dsimp only;exact⟨by rw[ao ω,ao ω,aq (.inl rfl)],by rw[ao ω,ao ω,aq (.inr rfl)]⟩
    ct:=λ i A=>by
     show(L.add K.ab j K2.ab g m tid o C R).c (aM L.t j tid i)=_/\(L.add K.ab j K2.ab g m tid o C R).c (aM L.tm j o i)=_;rcases qv i A with d|rfl
     .rw[l _ _ _ d,l _ _ _ d];exact⟨hold (h.ct i d).1 ζ,hold (h.ct i d).2 ζ⟩
     .rw[fE,fE];unfold uR.add;dsimp only;exact⟨by rw[ao ω,ao ω,ao ω,aq (.inl rfl)],by rw[ao ω,ao ω,ao ω,aq (.inr rfl)]⟩
    D3:=λ y G=>by
     rcases p3 y G with r|r
     .exact hold (h.D3 y r) η
     .unfold uR.add;dsimp only;rw[ao ω,ao ω,ao ω,ao ω,aq G]
    AB:=λ y G=>by
     rcases q3 y G with r|r
     .exact hold (h.AB y r) η
     .unfold uR.add;dsimp only;rw[ao ω,ao ω,ao ω,ao ω,ao (λ B=>by have:=ahk y B;omega),aq G]
    lo:=λ y G=>by
     by_cases e:y<K.ab
     .rw[kG y e]at G;have:=h.lo y G;exact⟨this.1,ω⟩
     .have hHK:=h.base.ab;refine⟨ω,?_⟩;unfold uR.add at G;dsimp only at G;rw[ao e]at G;split at G
      .omega
      .split at G
       .omega
       .split at G
        .omega
        .split at G
         .rename_i B;have:=ahk y B;omega
         .split at G
          .rename_i B;have:=at5 y B;omega
          .exact absurd rfl G
    A:=λ y=>by
     by_cases e:y<K.ab
     .rw[kG y e];exact h.A y
     .unfold uR.add;dsimp only;rw[ao e];split
      .simp
      .split
       .simp
       .split
        .simp
        .split
         .simp
         .split
          .simp
          .simp
    base:=ke F.base P λ y G=>(hXl y G).1
    z:=λ h=>by omega}
 .obtain rfl:j=N:=ω
  subst cq;simp[uH,mG];exact rest _ _ L t nv fv Yn Yf h (by simp[s0]) (by simp[s3])
variable{r:bL}{V:SV}
structure SD(S:SM):Prop where
 si:SV.oQ (bJ S) (bG S).2
 rel:∀r∈(bG S).1,SV.SA (bJ S) (bG S).2 r
 w5:∀r∈(bG S).1,r.kind=5->-1048576<=r.K/\r.K<=1048576
 w6:∀r∈(bG S).1,r.kind=6->0<=r.K/\r.K.toNat<(bG S).2.length
 da:∀d∈(bG S).2,∀a∈d.args,a<(S.vars.length:Int)
 N:S.vars.length+S.of.length<=1000000
 len:(bG S).1.length<=4194304
section
variable{X:Fix}{K T:D}{L:nk}{au:Nat->Nat}{V:SV}{t:CX}{tn tf:CX}{mn mf cn cf:Nat}{en ef:Bool}{dv:J}
def fm.aDR(m:fm X K L au V t tn tf mn mf cn cf en ef dv)(Q:mid<X.N)(d:∀y∈Yk,L.c y=(8,mid))(M:∀y∈Yk,y<K.ab){v':J}{ids':AT}{newl:List bL}(g:I Yk K H)(ho:aX H 4 v' (newl.flatMap kS) ids')(hs:∀y∈ids',y∈Yk\/K.ab<=y)(P:Lv K L.rm (.map 3 rc rl))(r2:jE rc rl=true)(r3:∀q:Nat,cH (.int .i64 q) rl=rv q)(r4:∀x∈bQ rl,∃q:Nat,q<X.N/\x=.int .i64 q)(r5:(bQ rl).Nodup)(zR:∀i,i<X.N->(rv i=none/\V.aO i=[])\/∃v aL,rv i=some v/\aX K 4 v ((V.aO i).flatMap kS) aL/\∀y∈aL,L.c y=(8,i)):fm X (H.put L.rm (some (.map 3 (oC rc (.int .i64 (mid:Int)) rl) (eD rc (.int .i64 (mid:Int)) v' rl)))) {L with c:=λ y=>if y<K.ab then L.c y else(8,mid)} au {V with aO:=aM V.aO mid newl} t tn tf mn mf cn cf en ef dv/\I (Yk++[L.rm]) K (H.put L.rm (some (.map 3 (oC rc (.int .i64 (mid:Int)) rl) (eD rc (.int .i64 (mid:Int)) v' rl)))):=by
 have Qc:=m.N
 have z:=m.mq
 have e:∀{y:Nat} {q:Nat×Nat},L.c y=q->q.1≠8->y∉Yk:=λ h l B=>by have:=d _ B;rw[h]at this;rw[this]at l;exact l rfl
 have Xd:=P.W g (e z η)
 have hM:=lp.eD (v:=v') Xd r2 r3 r4 r5 Q ω
 have n:I [L.rm] H (H.put L.rm (some (.map 3 (oC rc (.int .i64 (mid:Int)) rl) (eD rc (.int .i64 (mid:Int)) v' rl)))):=aw.put (.inr ζ)
 generalize H.put L.rm (some (.map 3 (oC rc (.int .i64 (mid:Int)) rl) (eD rc (.int .i64 (mid:Int)) v' rl)))=K2 at hM n⊢
 have F:I (Yk++[L.rm]) K K2:=(g.mono λ x Z=>by simp[Z]).trans (n.mono ζ)
 refine⟨?_,F⟩
 have D:=m.RF (c':=λ y=>if y<K.ab then L.c y else(8,mid)) (λ y G=>aq G) (λ y G=>by rw[ao ω];exact aF)
 have hR:tE K2 L.rm X.N (λ y=>if y<K.ab then L.c y else(8,mid)) (aM V.aO mid newl):=by
  refine⟨_,hM,λ i A=>?_⟩;have hz:∀(y:Nat),y∈[L.rm]->y=L.rm:=λ y G=>by simpa using G
  by_cases o:i=mid
  .right;rw[o,fE,fE];refine⟨v',ids',rfl,ho.W n λ y G B=>?_,λ y G=>?_⟩
   .rw[hz y B]at G;rcases hs _ G with q|q
    .exact e z η q
    .exact absurd P.lt (Te.2 q)
   .dsimp only;rcases hs y G with q|q
    .rw[aq (M y q)];exact d y q
    .rw[ao ω]
  .rw[gG o,gG o];rcases zR i A with h|⟨v,aL,p1,R,C⟩
   .exact .inl h
   .right;refine⟨v,aL,p1,(R.W g λ y G B=>?_).W n λ y G B=>?_,λ y G=>?_⟩
    .have O:=C y G;have U:=d y B;rw[O]at U;simp at U;exact o U
    .rw[hz y B]at G;have h9:L.c L.rm=(8,i):=C _ G;rw[z]at h9;cases h9
    .dsimp only;rw[aq (R.lt y G)];exact C y G
 refine D.aj7 F (λ y G=>?_) hR
 rw[b_]at G
 rcases G with G|G
 .refine .inr ⟨?_,?_⟩
  .show(if y<K.ab then L.c y else(8,mid)).1=8;rw[aq (M y G),d y G]
  .rcases kb y X.HB.ab with q|q
   .have l:=m.low y q;rw[d y G]at l;simp at l
   .exact q
 .exact .inl (by simpa using G)
end
def agf:(V.bV a b).aO=V.aO:=by
 unfold SV.bV;split
 .rfl
 .split<;>rfl
def ald:({V with aO:=aM V.aO rc (V.aO rc++[r])}:SV).k_ mid<=V.k_ mid+1:=by
 have e:({V with aO:=aM V.aO rc (V.aO rc++[r])}:SV).k_ mid=SV.m_ (aM (λ i=>(V.aO i).length) rc ((V.aO rc).length+1)) mid:=by
  refine SV.NV mid λ x _=>?_;show(aM V.aO rc (V.aO rc++[r]) x).length=_;unfold aM;by_cases c:x=rc
  .simp[c]
  .simp[c]
 rw[e];rcases kb rc mid with q|q
 .have:=SV.J0 (f:=λ i=>(V.aO i).length) (k:=rc) (x:=(V.aO rc).length+1) mid q;unfold SV.k_;omega
 .rw[SV.ad6 mid q];unfold SV.k_;omega
def aFA{N:Nat}:(V.iN r).k_ N<=V.k_ N+1:=by
 unfold SV.iN;split
 .exact H7 _
 .split
  .show SV.m_ (λ i=>((V.bV r.aR r.aG).aO i).length) N<=_;rw[agf];exact H7 _
  .split
   .exact ald
   .exact ald
def alc{N:Nat}{rs:List bL}:∀{V:SV},(rs.foldl SV.iN V).k_ N<=V.k_ N+rs.length:=by
 induction rs with
 |nil=>intro V;exact aF
 |cons r rs c=>
  intro V
  have O:=c (V:=V.iN r)
  have U:=aFA (V:=V) (N:=N) (r:=r)
  rw[DV,qi]
  omega
theorem aec:∀N,SV.V0.k_ N=0
 |0=>rfl
 |n+1=>by
  have h:=aec n
  show SV.V0.k_ n+0=0
  rw[h]
def aDN:(V.iN r).first=V.first:=by
 unfold SV.iN;split
 .rfl
 .split
  .exact Lj
  .split<;>rfl
def amv:∀{V:SV},(rs.foldl SV.iN V).first=V.first:=by induction rs with|nil=>intro V;rfl|cons r rs c=>intro V;exact c.trans aDN
def amw(c:mid<rs.length):(rs.take (mid+1)).foldl SV.iN SV.V0=((rs.take mid).foldl SV.iN SV.V0).iN rs[mid]:=CR c
def aEW(B:lu H mid S)(hT:xn H)(hR:HF S)(hP:SD S)(zQ:∀c,(Tryz.f15.body).bind (Pe 7)=some c->∀(sl:CX) (m:D) (X:Fix) (L:nk),X.S=S->X.HB=H->X.mid=mid->X.ds=(bG S).2->X.N=S.vars.length+S.of.length->L.a=H.ab+1+1->fM X m L (SV.V1 (bG S).1).first (SV.V1 (bG S).1)->AV sl 3 (.ptr L.a 0)->aD E0 [.code c] ⟨sl,219,[],none,15⟩ m (qb E0 [ResultVar.tmp 2] Q')):∀c,(Tryz.f15.body).bind (Pe 4)=some c->∀(sl:CX) (m:D) (L:uR) (t:CX) (nv fv:J) (Yn Yf:AT),BI H m (H.ab+1+1) mid (S.vars.length+S.of.length) L t nv fv Yn Yf->AV sl 0 (.ptr mid 0)->AV sl 3 (.ptr (H.ab+1+1) 0)->aD E0 [.code c] ⟨sl,219,[],none,15⟩ m (qb E0 [ResultVar.tmp 2] Q'):=by
 intro c hc sl m L t nv fv Yn Yf h s0 s3
 cases(show some _=some c from hc)
 clear hc
 simp[s0,s3]
 refine CW (ake (B.W h.base) hR) ?_
 rintro _ K2 ⟨lv,dv,rfl,yd,Mb,g2,⟨Y1,gY,hY1⟩,bA,us,MB⟩
 have U:=h.W g2
 have iW:=g2.ab
 simp[U.ob.get,yd.aN Fz,Mb.co,Mb.cell]
 generalize dw:D.put K2 _ _=K3
 have g3:I [H.ab+1+1] K2 K3:=by rw[<-dw];exact aw.put (.inr ζ)
 have ob3:Lv K3 (H.ab+1+1) (.cells 7 (t.put 3 (some dv)) false):=by rw[<-dw];exact U.ob.put_eq
 have n3:K3.ab=K2.ab:=by rw[<-dw];rfl
 clear dw
 have o:∀{y:Nat} {k:Nat×Nat},L.c y=k->k≠(0,0)->y∉[H.ab+1+1]:=λ e Q B=>by simp at B;rw[B,h.ca]at e;exact Q e.symm
 have avN:∃nd cn en tn mn,nv=DC (S.vars.length+S.of.length) nd cn en/\(0<S.vars.length+S.of.length->Lv K3 nd (.cells mn tn false)/\L.c nd=(1,0))/\S.vars.length+S.of.length<=mn/\∀i,i<S.vars.length+S.of.length->tn.get i=some (.ptr (L.n i) 0):=by
  rcases ze (S.vars.length+S.of.length)with q|q
  .exact⟨0,0,false,Tr.e,0,by rw[(h.z q).1,q];rfl,λ h=>ω,ω,λ i A=>ω⟩
  .obtain⟨id,ax,ex,tn,Z,e2,e3,e4,e5,e6,e7⟩:=U.nv.uC (by simpa using q);simp only[bW,Aw]at Z e4 e5;have hc:L.c id=(1,0):=h.D3 id (by rw[e2];simp);refine⟨id,ax,ex,tn,ax,by rw[NR q,Z],λ _=>⟨e3.W g3 (o hc η),hc⟩,e5,λ i A=>?_⟩;rw[e4 i A];simp[A]
 have auS:∃nd cn en tn mn,fv=DC (S.vars.length+S.of.length) nd cn en/\(0<S.vars.length+S.of.length->Lv K3 nd (.cells mn tn false)/\L.c nd=(4,0))/\S.vars.length+S.of.length<=mn/\∀i,i<S.vars.length+S.of.length->tn.get i=some (ae (i:Nat)):=by
  rcases ze (S.vars.length+S.of.length)with q|q
  .exact⟨0,0,false,Tr.e,0,by rw[(h.z q).2,q];rfl,λ h=>ω,ω,λ i A=>ω⟩
  .obtain⟨id,ax,ex,tn,Z,e2,e3,e4,e5,e6,e7⟩:=U.fv.uC (by simpa using q);simp only[bW,Aw]at Z e4 e5;have hc:L.c id=(4,0):=h.AB id (by rw[e2];simp);refine⟨id,ax,ex,tn,ax,by rw[NR q,Z],λ _=>⟨e3.W g3 (o hc η),hc⟩,e5,λ i A=>?_⟩;rw[e4 i A];simp[A]
 obtain⟨nd,cn,en,tn,mn,rfl,f1,f2,f3⟩:=avN
 obtain⟨fs,cf,ef,tf,mf,rfl,k1,k2,k3⟩:=auS
 have Vd:∀y,(L.c y).1<8->H.ab<=y/\y<K2.ab:=λ y G=>⟨(h.lt G).1,(U.lt G).2⟩
 have d:fm ⟨H,mid,S,(bG S).2,us,S.vars.length+S.of.length,K2.ab,λ K=>aX K 4 lv ((bG S).1.flatMap kS) Y1⟩ K3 ⟨H.ab+1+1,nd,H.ab,H.ab+1,fs,L.n,L.s,L.sm,L.t,L.tm,L.c⟩ (λ x=>x) SV.V0 (t.put 3 (some dv)) tn tf mn mf cn cf en ef dv:=
  {ob:=ob3,t0:=by simp[h.t0],t1:=by simp[h.t1],t2:=by simp[h.t2],t3:=ζ,t4:=by simp[h.t4],t5:=by simp[h.t5],t6:=by simpa[SV.V0]using h.t6
   nd:=λ q=>(f1 q).1,Dn:=f2,wS:=f3
   n:=λ i A=>by obtain⟨x,p,q⟩:=U.nd i A;exact⟨x,p.W g3 (o (h.cn i A) ζ),q⟩
   s:=λ i A=>(U.s i A).W g3 (o (h.M i A).1 ζ) (o (h.M i A).2 ζ)
   t:=λ i A=>(U.t i A).W g3 (o (h.ct i A).1 ζ) (o (h.ct i A).2 ζ)
   fs:=λ q=>(k1 q).1,zw:=k2,sC:=k3,fst:=λ i A=>A
   aO:=⟨_,.new (U.rm.W g3 (o h.mq η)),λ i A=>.inl ⟨rfl,rfl⟩⟩
   wait:=.new (U.wm.W g3 (o h.ny η))
   ca:=h.ca,D5:=λ q=>(f1 q).2,mq:=h.mq,ny:=h.ny,Gb:=λ q=>(k1 q).2
   cn:=h.cn,M:=h.M,ct:=h.ct,lo:=Vd
   low:=λ y G=>by
    show 8<(L.c y).1;rcases h.A y with q|q
    .have h8:=(h.lt q).1;have hy':y<H.ab:=G;omega
    .rw[q];decide
   ay:=by show K2.ab<=K3.ab;omega
   base:=ke U.base g3 ξ
   mp:=B,g_:=hT,N:=by have:=hP.N;show S.vars.length+S.of.length<=2097152;omega
   xM:=by
    obtain⟨bZ,d1,d2⟩:=MB.both (gY.sta (X:=λ y=>y<m.ab) λ y G=>Te.2 (hY1 y G));have I1:=(h.lt (y:=H.ab+1+1) (by rw[h.ca];decide)).2;refine⟨bZ,λ y G=>⟨(d1 y G).1,?_⟩,λ dP hn hj=>d2 dP hn λ y hd=>?_⟩
    .show 8<(L.c y).1;rcases h.A y with q|q
     .have h8:=(h.lt q).2;have h9:¬y<m.ab:=(d1 y G).2;omega
     .rw[q];decide
    .rw[hj y hd];refine g3.get y (d1 y hd).1 λ B=>?_;have h9:¬y<m.ab:=(d1 y hd).2;simp at B;omega}
 clear Vd f1 f2 f3 k1 k2 k3 MB U h Mb
 generalize IZ:(⟨H,mid,S,(bG S).2,us,S.vars.length+S.of.length,K2.ab,λ K=>aX K 4 lv ((bG S).1.flatMap kS) Y1⟩:Fix)=X at d
 generalize hLL:(⟨H.ab+1+1,nd,H.ab,H.ab+1,fs,L.n,L.s,L.sm,L.t,L.tm,L.c⟩:nk)=C at d
 have xS:X.S=S:=by rw[<-IZ]
 have Sg:X.HB=H:=by rw[<-IZ]
 have Sh:X.mid=mid:=by rw[<-IZ]
 have J':X.ds=(bG S).2:=by rw[<-IZ]
 have xN:X.N=S.vars.length+S.of.length:=by rw[<-IZ]
 have xP:∀K,X.P K->aX K 4 lv ((bG S).1.flatMap kS) Y1:=λ K Q=>by rw[<-IZ]at Q;exact Q
 have la:C.a=H.ab+1+1:=by rw[<-hLL]
 clear IZ hLL
 rw[<-la]at s3
 have hRP:=hP.rel
 generalize hrs:(bG S).1=rs at*
 refine aeD ?_
 intro ay P9
 have rest:∀(sl:CX) (m:D) (c':Nat->Nat×Nat),fM X m {C with c:=c'} (SV.V1 rs).first (SV.V1 rs)->AV sl 3 (.ptr C.a 0)->aD E0 ay ⟨sl,219,[],none,15⟩ m (qb E0 [ResultVar.tmp 2] Q'):=by subst P9;intro sl m c' hR' F;exact zQ _ rfl sl m X {C with c:=c'} xS Sg Sh J' xN la hR' F
 clear P9 zQ
 refine bu (α:=Nat) (aJ:=λ j sl K=>(∃c',fM X K {C with c:=c'} ((rs.take j).foldl SV.iN SV.V0).first ((rs.take j).foldl SV.iN SV.V0))/\j<=rs.length/\AV sl 3 (.ptr C.a 0)/\AV sl 62 lv/\AV sl 63 (ae (rs.length:Nat))/\AV sl 64 (ae (j:Nat))) (mu:=λ j=>rs.length-j) ?_ 0 _ _ ?ini
 case ini=>exact⟨⟨C.c,_,_,_,_,_,_,_,_,_,_,d⟩,dQ _,by simp[s3]⟩
 rintro b1 k1-cq j sl K ⟨⟨c',xU⟩,hj,s3,l_,uI,qZ⟩ ih
 by_cases bB:j<rs.length
 .have ix:j<maxLen:=by unfold maxLen;omega
  have uc:aX K 4 lv (rs.flatMap kS) Y1:=by obtain⟨t,tn,tf,mn,mf,cn,cf,en,ef,dv,hOj⟩:=xU;exact xP K hOj.amY
  have Vr:aW K 4 Ol lv rs:=uc.yN ω (IF (c:=kS) (es:=4) λ _=>rfl) λ i A=>Lo (c:=kS) (es:=4) (λ _=>rfl) A;obtain⟨uj,uB,tQ,exp,np,tp,uG,M,cr,fG,ib,gq,jL⟩:=Vr.at_ bB;have gR:M=kS rs[j]:=jL;subst gR;have hr:=hRP rs[j] (cG bB);have air:=amw bB;have qN:((rs.take j).foldl SV.iN SV.V0).first=λ x=>x:=amv;have hVt:((rs.take j).foldl SV.iN SV.V0).k_ X.N<=4194304:=by have:=alc (N:=X.N) (rs:=rs.take j) (V:=SV.V0);rw[aec,eK]at this;omega
  generalize(rs.take j).foldl SV.iN SV.V0=V at xU air qN hVt;have bD:∀x,V.first (V.first x)=V.first x:=λ x=>by rw[qN]
  have hsi:=hP.si;have hNb:=hP.N;have hAv:=hr.ok.a;have hAN:rs[j].aR<X.N:=by have:(bJ S).vars=S.vars.length:=rfl;omega
  have eT:∀(bz:CX) (K5:D) (c5:Nat->Nat×Nat),fM X K5 {C with c:=c5} (V.iN rs[j]).first (V.iN rs[j])->bz.get 3=some (.ptr C.a 0)->bz.get 62=some lv->bz.get 63=some (ae (rs.length:Nat))->bz.get 64=some (ae ((j:Int)+1))->aD E0 (.code (.loop b1)::k1) ⟨bz,_,_,_,_⟩ K5 _:=λ bz K5 c5 p1 p2 p3 p4 p5=>ih (j+1) bz K5 ω ⟨⟨c5,by rw[air];exact p1⟩,bB,p2,p3,p4,by simpa using p5⟩;clear ih;rcases hr.k with Q|Q|Q|Q|Q|Q
  .have eH:V.iN rs[j]=V.take rs[j].aR.toNat (nN rs[j].aG.toNat):=by unfold SV.iN;rw[aq Q]
   obtain⟨aR,hA⟩:∃aR:Nat,rs[j].aR=(aR:Int):=⟨rs[j].aR.toNat,by have:=hr.a (.inl Q);omega⟩;obtain⟨aG,hB⟩:∃aG:Nat,rs[j].aG=(aG:Int):=⟨rs[j].aG.toNat,by have:=(hr.b Q).1;omega⟩;have hBl:=(hr.b Q).2;have iw:=hsi.fns;have kH:(bJ S).br=S.of.length:=rfl;rw[hA,hB]at eH;rw[hB]at hBl;simp[s3,l_,uI,qZ,bB,cr,fG.get,ib,bY gq,Q,hA,hB];generalize O:D.add (D.put (D.add K _) K.ab _) _=g;have R:I [] K g:=by rw[<-O];exact((aw.add _).put (.inl aF)).add _
   have l7:∃t7,Lv g K.ab (.cells 4 t7 false)/\AV t7 1 (ae (aR:Nat))/\AV t7 2 (ae (aG:Nat)):=by rw[<-O];exact⟨_,Lv.new.put_eq.add,ζ⟩
   have oo:aW g 1 (One λ n=>ae ((n:Nat):Int)) (.sl (K.ab+1) 0 1 1 1 true) [aG]:=by refine aW.sl (L:=[aG]) (ah:=0) (ax:=1) (ex:=true) (n:=1) (ro:=false) (t:=(Tr.e.put 0 (some (ae 0))).put 0 (some (ae ((aG:Nat):Int)))) (by rw[<-O];exact Lv.new (H:=(K.add _).put _ _)) ζ (λ i A=>?_) ζ (by unfold maxLen;simp);match i,A with|0,_=>exact⟨[ae ((aG:Nat):Int)],by simp[bc],rfl⟩
   clear O;obtain⟨t7,l7,Z,e2⟩:=l7;refine CW (WI oo (by intro z hz;simp at hz;subst hz;omega)) ?_;rintro _ K5 ⟨pY,uL,rfl,hBs,yp,ES,g5⟩;have hB':e_ K5 pY uL (nN aG):=by have:=hBs;simp only[DV,List.foldl_nil,or_zero]at this;exact this
   have l75:=l7.ai g5;have Ef:=xU.ai (R.trans g5);have LS:X.ay<=K.ab:=by obtain⟨t,tn,tf,mn,mf,cn,cf,en,ef,dv',d⟩:=xU;exact d.ay
   have avt:∀y,X.ay<=y->¬(c' y).1<8:=by obtain⟨t,tn,tf,mn,mf,cn,cf,en,ef,dv',d⟩:=xU;exactλ y G h8=>by have:=(d.lo y h8).2;omega
   have o:=R.ab;repeat (first|simp[s3]|refine dF (by simp[dA,dm,val,s3,l75.get,Z,e2]) ?_)
   refine CW (Xy (L:={C with c:=c'}) (i:=aR) Ef ω hB' (λ y G=>?_)) ?_
   .have hyT:X.ay<=y:=by rcases G with rfl|rfl<;>omega
    have:=avt y hyT;refine⟨λ h=>this (by show(c' y).1<8;rw[show c' y=_ from h];exact zf rfl),λ h=>this (by show(c' y).1<8;rw[show c' y=_ from h];decide)⟩
   .rintro v K6 ⟨Eg,g6⟩;simp[qZ,bq ix];exact eT _ _ c' (by rw[eH];exact Eg) (by simp[s3]) (by simp[l_,cr]) (by simp[uI]) ζ
  .have eH:V.iN rs[j]=V.bV rs[j].aR rs[j].aG:=by unfold SV.iN;rw[ao ω,aq Q]
   have hBN:rs[j].aG<X.N:=by have:=hr.b2;have:(bJ S).vars=S.vars.length:=rfl;omega
   simp[s3,l_,uI,qZ,bB,cr,fG.get,ib,bY gq,Q];generalize O:D.put (D.add K _) K.ab _=g;have R:I [] K g:=by rw[<-O];exact(aw.add _).put (.inl aF)
   clear O;refine CW (Pf (xU.ai R) bD hAN hBN) ?_;rintro v K6 ⟨Eg,g6⟩;simp[qZ,bq ix];exact eT _ _ c' (by rw[eH,Lj];exact Eg) (by simp[s3]) (by simp[l_,cr]) (by simp[uI]) ζ
  all_goals
   first
    |obtain⟨aR,hA⟩:∃aR:Nat,rs[j].aR=(aR:Int):=⟨rs[j].aR.toNat,by have:=hr.a ω;omega⟩
     have Uo:aR<X.N:=by have:(bJ S).vars=S.vars.length:=rfl;omega
     have eH:V.iN rs[j]={V with aO:=aM V.aO aR (V.aO aR++[rs[j]])}:=by unfold SV.iN;rw[ao ω,ao ω,aq ω,hA];rfl
    |obtain⟨aR,hA⟩:∃aR:Nat,rs[j].aG=(aR:Int):=⟨rs[j].aG.toNat,by have:=hr.b3 ω;omega⟩
     have Uo:aR<X.N:=by have:(bJ S).vars=S.vars.length:=rfl;have:=hr.b2;omega
     have eH:V.iN rs[j]={V with aO:=aM V.aO aR (V.aO aR++[rs[j]])}:=by unfold SV.iN;rw[ao ω,ao ω,ao ω,hA];rfl
   obtain⟨t,tn,tf,mn,mf,cn,cf,en,ef,dv',d⟩:=xU;have Vt:=SV.W9 (V:=V) Uo;have o:¬C.a=K.ab:=bC d.ob.lt;obtain⟨rv,QH,zR⟩:=d.aO;obtain⟨rc,rl,r1,r2,r3,r4,r5⟩:=QH.ob;have hnr:¬C.rm=K.ab:=bC r1.lt;simp[-cX,s3,l_,uI,qZ,bB,cr,fG.get,ib,bY gq,Q,hA,d.ob.get,d.t2,r1.get,o,hnr];generalize O:D.put (D.add K _) K.ab _=g;have R:I [] K g:=by rw[<-O];exact(aw.add _).put (.inl aF)
   have l7:∃t7,Lv g K.ab (.cells 4 t7 false)/\AV t7 0 (u8 rs[j].kind)/\AV t7 1 (ae rs[j].aR)/\AV t7 2 (ae rs[j].aG)/\AV t7 3 (ae rs[j].K):=by rw[<-O];exact⟨_,Lv.new.put_eq,by simp[Q,hA]⟩
   clear O;obtain⟨t7,l7,e0,Z,e2,e3⟩:=l7;have hOa:=d.W R ζ;refine Fi (v:=(rv aR).getD Dp) (T:=g) (by rw[<-r3];exact Wn) ?_;have awa:=λ i A=>(zR i A).imp id λ ⟨v,aL,p1,p2,p3⟩=>(⟨v,aL,p1,p2.W R ζ,p3⟩:∃v aL,rv i=some v/\aX g 4 v ((V.aO i).flatMap kS) aL/\∀y∈aL,c' y=(8,i));obtain⟨Yj,oj0,yj⟩:=tE.at_ zR Uo;have Qe:=oj0.lt;have oj:=oj0.W R ζ;have lcj:=RH (l:=V.aO aR);have r1a:=r1.ai R;have l7r:bc t7 0 4=some [u8 rs[j].kind,ae rs[j].aR,ae rs[j].aG,ae rs[j].K]:=by simp[bc,e0,Z,e2,e3]
   simp[-cX,l7.get,bY l7r];generalize Ut:D.add g _=Kb;have gb:I [] g Kb:=by rw[<-Ut];exact aw.add _
   have lr:∃tr,Lv Kb g.ab (.cells 4 tr false)/\bc tr 0 (1*4)=some [u8 rs[j].kind,ae rs[j].aR,ae rs[j].aG,ae rs[j].K]:=by rw[<-Ut];exact⟨_,Lv.new,by simp[bc]⟩
   have nb:Kb.ab=g.ab+1:=by rw[<-Ut];rfl
   clear Ut;obtain⟨tr,lr,lr0⟩:=lr;refine Fh (n:=1) Fz R_ ω (oj.W gb ζ) lr.get aF lr0 rfl (λ q hq=>ω) (λ q hq=>ω) ?_;intro v' Kc ids' p1 p2 p3;have aIg:=R.ab;have mT:=d.ca;have wF:=d.mq;dsimp only at mT wF;have JF:∀{y:Nat} {q:Nat×Nat},c' y=q->q.1≠8->y∉Yj:=λ h h8 B=>by have h9:c' _=(8,aR):=yj _ B;rw[h]at h9;rw[h9]at h8;exact h8 rfl
   have obc:=(hOa.ob.ai gb).W p2 (JF mT η);have r1c:=(r1a.ai gb).W p2 (JF wF η);have l7c:=(l7.ai gb).W p2 (λ B=>by have:=Qe _ B;omega);simp[p1.cell,p1.co];try (refine dF (by simp[dA,dm,val,s3,obc.get,d.t2,r1c.get,l7c.get,e0,Z,e2,e3,hA]) ?_)
   try simp[s3,obc.get,d.t2,r1c.get,qZ,bq ix]
   have hrp:=hOa.aDR Uo yj (λ y G=>by have:=Qe y G;omega) ((gb.mono ζ).trans p2) (newl:=V.aO aR++[rs[j]]) (v':=v') (ids':=ids') (by rw[HV];simpa using p1) (λ y G=>(p3 y G).imp id λ q=>ω) r1a r2 r3 r4 r5 awa;refine eT _ _ (λ y=>if y<g.ab then c' y else(8,aR)) ?_ (by simp[s3]) (by simp[l_,cr]) (by simp[uI]) ζ;rw[eH];exact⟨_,_,_,_,_,_,_,_,_,_,hrp.1⟩
 .obtain rfl:j=rs.length:=ω
  subst cq;simp[uI,qZ];rw[iF]at xU;exact rest _ _ c' xU (by simp[s3])
variable{p:List aQ}
section
variable{p:List aQ}{f b i:Nat}{x:bp}
def alK(h:pF p)(d:At p f b i x):∃s,uJ x.op=some s/\KZ true s x=false/\Ig s x=false/\bk x=false:=by
 have c:=WH (h 9 ω ω:¬jF p λ _ _ _ x=>vQ x) d;unfold vQ at c;cases e:uJ x.op with
 |none=>rw[e]at c;simp at c
 |some s=>
  rw[e]at c
  simp only[HQ]at c
  exact⟨s,rfl,c.1.1,c.1.2,c.2⟩
def aGE(h:pF p)(d:At p f b i x):Dv x=false:=WH (λ c=>(h 2 ω ω) (.inr (.inr c)):¬jF p λ _ _ _ x=>Dv x) d
def aGD(h:pF p)(l:At p f b i x)(o:x.op=1\/x.op=2\/x.op=4\/x.op=5\/x.op=6\/x.op=7\/x.op=8):x.dst≠ByteArray.empty/\x.dst≠JI:=by
 have⟨s,O,U,F,A⟩:=alK h l;have c:=aGE h l;unfold Dv at c;rw[O]at c;simp only[Option.getD_some,D2,F_,Ij,Ii,Ih,K_,HQ]at c;have d:=c.1.1.1.1.1;simp only[Ig,O0,OZ,OY,HQ]at F;have g:=F.1.1.1;have hd:s.dst=true/\GV x.op=false:=by rcases o with e|e|e|e|e|e|e<;>(rw[e]at O;simp[uJ]at O;subst O;simp[GV,e])
 rw[hd.1,hd.2]at g;rw[hd.1]at d;have m:x.dst≠ByteArray.empty:=by intro e;have:x.dst=e0:=e;simp[this]at g
 refine⟨m,λ e=>?_⟩;have z:mZ JI=false:=by cases q:mZ JI with|false=>rfl|true=>exact absurd rfl (aiL q).2
 have n:¬JI=(⟨#[]⟩:aI):=η
 rw[e]at d;simp[wo,z,n]at d
def alD(g:mid<S.p.length)(d:s≠JI)(B:((mid:Int),s)∈S.vars):0<=S.aV mid s:=by
 unfold SM.aV;have c:S.oF (mid:Int)=true:=by unfold SM.oF;simp;omega
 rw[aq c,ao d];cases e:mF S.vars ((mid:Int),s)with|none=>rw[adt]at e;exact absurd B e|some k=>simp
def pT(p:List aQ):(bj p).p=p:=Xk p _
def XH(h:pF p)(d:At p f b i x)(l:x.op=1\/x.op=2\/x.op=4\/x.op=5\/x.op=6\/x.op=7\/x.op=8):0<=(bj p).aV f x.dst:=by
 have⟨O,U⟩:=aGD h d l;have⟨fn,bk,c,e,Z⟩:=d;have g:f<p.length:=by rw[cW]at c;exact c.1
 exact alD (by rw[pT];exact g) U (ay9 ⟨fn,bk,c,e,Z⟩ O)
def Sf(h:pF p):0<p.length/\p.length<=64:=by
 have b1:¬(p=[]\/64<p.length):=h 1 ω ω;refine⟨?_,?_⟩
 .rcases ze p.length with e|e
  .exact absurd (.inl (BM e)) b1
  .exact e
 .rcases kb 64 p.length with q|q
  .exact absurd (.inr q) b1
  .exact q
def atw(h:pF p)(s:aI):0<=(bj p).gP s/\(bj p).gP s<p.length:=by
 have c:=(Sf h).1;unfold SM.gP;cases e:mF (bj p).names s with
 |none=>simp;omega
 |some k=>
  have:=ajS e
  rw[ajs (ajp h),bW]at this
  simp;omega
def azF(h:pF p)(s:aI):0<=(bj p).Fk ((bj p).gP s)/\(bj p).Fk ((bj p).gP s)<(bj p).of.length+p.length:=by
 have⟨O,U⟩:=atw h s;unfold SM.Fk;have c:(bj p).oF ((bj p).gP s)=true:=by unfold SM.oF;rw[pT];simp;omega
 rw[aq c];omega
def aEK(h:pF p)(q:Pt):0<=(bj p).Bt q/\(bj p).Bt q<=(bj p).of.length:=by
 have c:=ajt h;unfold SM.Bt;cases e:(bj p).idx q with
 |none=>simp
 |some k=>
  dsimp only
  cases d:(bj p).sites[k]? with
  |none=>simp
  |some s=>
   dsimp only
   have:=c.sites k s d
   omega
structure RG(S:SM)(n:Nat)(r:bL):Prop where
 a:r.aR<S.vars.length
 f:r.kind=5->0<=r.aR
 a0:r.kind=1\/r.kind=3\/r.kind=4\/r.kind=6->0<=r.aR
 b:r.kind=1->0<=r.aG/\r.aG<S.of.length+S.p.length
 b2:r.aG<S.vars.length\/r.kind=1
 c:r.kind=2->0<=r.aR/\0<=r.aG
 b3:r.kind=3\/r.kind=5->0<=r.aG
 k:r.kind=1\/r.kind=2\/r.kind=3\/r.kind=4\/r.kind=5\/r.kind=6
 w5:r.kind=5->-1048576<=r.K/\r.K<=1048576
 w6:r.kind=6->0<=r.K/\r.K.toNat<n
def RG.mono(h:RG S mid r)(B:mid<=rc):RG S rc r:={h with w6:=λ e=>⟨(h.w6 e).1,by have:=(h.w6 e).2;omega⟩}
def PG(S:SM)(a:List bL×List bH):Prop:=(∀r∈a.1,RG S a.2.length r)/\∀d∈a.2,d.dst<S.vars.length/\∀z∈d.args,z<S.vars.length
def PG.app{a:List bL×List bH}(h:PG S a)(hr:RG S a.2.length r):PG S (a.1++[r],a.2):=⟨λ q c=>by
 rw[b_,jo]at c;rcases c with c|rfl
 .exact h.1 q c
 .exact hr,h.2⟩
theorem PG.jT{S:SM}{a:List bL×List bH}{u v:Int}(h:PG S a)(hu:u<S.vars.length)(c:v<S.vars.length):PG S (jT a.1 u v,a.2):=by
 unfold Go.Proofs.YtgipmaoplfkdoaaGreatDoor.jT;split
 .rename_i e;refine h.app ⟨hu,λ e=>by simp at e,λ e=>by simp at e,λ e=>by simp at e,.inl c,λ _=>e,λ e=>by simp at e,.inr (.inl rfl),λ e=>by simp at e,λ e=>by simp at e⟩
 .exact h
def PG.D6{S:SM}{α:Type}{g:α->Int×Int}{d:List bH}:∀{ls:List α} {l:List bL},PG S (l,d)->(∀s∈ls,(g s).1<S.vars.length/\(g s).2<S.vars.length)->PG S (ls.foldl (λ l s=>Go.Proofs.YtgipmaoplfkdoaaGreatDoor.jT l (g s).1 (g s).2) l,d)
 |[],l,h,_=>h|s::ls,l,h,c=>PG.D6 (ls:=ls) (h.jT (c s ζ).1 (c s ζ).2) λ q e=>c q (by simp[e])
def adp(S:SM)(f:Int):∀v∈S.fU f,v<S.vars.length:=by
 intro v c;unfold SM.fU at c;split at c
 .split at c
  .obtain⟨s,_,rfl⟩:=jn.1 c;exact(S.N5 _ _).1
  .simp at c
 .simp at c
def aDX(S:SM)(f:Int):∀v∈S.jX f,v<S.vars.length:=by
 intro v c;unfold SM.jX at c;split at c
 .split at c
  .unfold SM.vR at c;obtain⟨s,_,rfl⟩:=jn.1 c;exact(S.N5 _ _).1
  .simp at c
 .simp at c
theorem PG.rX{p:List aQ}{q:Pt}{x:bp}(h:pF p)(o:At p q.1 q.2.1 q.2.2 x){a:List bL×List bH}(l:PG (bj p) a):PG (bj p) (Go.Proofs.YtgipmaoplfkdoaaGreatDoor.rX (bj p) q x a):=by
 have c:=λ s=>((bj p).N5 (q.1:Int) s).1;unfold Go.Proofs.YtgipmaoplfkdoaaGreatDoor.rX;split
 .rename_i e;have hd:=XH h o ω;have A:=aEK h q;have J:=(Sf h).1;exact l.app ⟨c _,λ e=>by simp at e,λ _=>hd,λ _=>⟨A.1,by rw[pT];dsimp only;omega⟩,.inr rfl,λ e=>by simp at e,λ e=>by simp at e,.inl rfl,λ e=>by simp at e,λ e=>by simp at e⟩
 .split
  .rename_i e;have hd:=XH h o ω;have D:=azF h x.fn;exact l.app ⟨c _,λ e=>by simp at e,λ _=>hd,λ _=>⟨D.1,by rw[pT];exact D.2⟩,.inr rfl,λ e=>by simp at e,λ e=>by simp at e,.inl rfl,λ e=>by simp at e,λ e=>by simp at e⟩
  .split
   .exact l.jT (c _) (c _)
   .split
    .exact PG.D6 (g:=λ s=>((bj p).aV q.1 x.dst,(bj p).aV q.1 s)) l λ s _=>⟨c _,c _⟩
    .split
     .rename_i e;have hd:=XH h o ω;try dsimp only
      split
      .rename_i m;obtain⟨s,O,U,F,B⟩:=alK h o;have M:0<=x.n/\x.n<64:=by unfold bk at B;rw[ao ω,aq e]at B;simp at B;omega
       exact l.app ⟨c _,λ _=>hd,λ e=>by simp at e,λ e=>by simp at e,.inl (c _),λ e=>by simp at e,λ _=>m,.inr (.inr (.inr (.inr (.inl rfl)))),λ _=>by dsimp only;omega,λ e=>by simp at e⟩
      .exact l
     .split
      .rename_i e;try dsimp only
       split
       .rename_i m;exact l.app ⟨c _,λ e=>by simp at e,λ _=>XH h o ω,λ e=>by simp at e,.inl (c _),λ e=>by simp at e,λ _=>m,.inr (.inr (.inl rfl)),λ e=>by simp at e,λ e=>by simp at e⟩
       .exact l
      .split
       .rename_i e;try dsimp only
        split
        .rename_i m;exact l.app ⟨c _,λ e=>by simp at e,λ _=>m.2,λ e=>by simp at e,.inl (c _),λ e=>by simp at e,λ e=>by simp at e,.inr (.inr (.inr (.inl rfl))),λ e=>by simp at e,λ e=>by simp at e⟩
        .exact l
       .split
        .unfold Ga;refine PG.D6 (g:=λ v=>((bj p).aV q.1 x.dst,v)) (PG.D6 (g:=λ s:Int×aI=>(s.1,(bj p).aV q.1 s.2)) l λ s A=>⟨adp _ _ _ (KI A).1,c _⟩) λ v G=>⟨c _,aDX _ _ _ G⟩
        .split
         .refine⟨λ r hr=>?_,λ d hd=>?_⟩
          .have I:(a.2++[ot (bj p) q x]).length=a.2.length+1:=ζ
           dsimp only at hr⊢;rw[I];unfold MS at hr;split at hr
           .rename_i m;rw[b_,jo]at hr;rcases hr with hr|rfl
            .exact(l.1 r hr).mono ω
            .exact⟨c _,λ e=>by simp at e,λ _=>m,λ e=>by simp at e,.inl (by have:=c x.a;dsimp only;omega),λ e=>by simp at e,λ e=>by simp at e,.inr (.inr (.inr (.inr (.inr rfl)))),λ e=>by simp at e,λ _=>by dsimp only;omega⟩
           .exact(l.1 r hr).mono ω
          .dsimp only at hd;rw[b_,jo]at hd;rcases hd with hd|rfl
           .exact l.2 d hd
           .refine⟨c _,λ z C=>?_⟩;unfold ot at C;obtain⟨s,_,rfl⟩:=jn.1 C;exact c _
         .exact l
def PG.all(h:pF p):PG (bj p) (bG (bj p)):=by
 unfold bG;have key:∀(l:List Pt) (a:List bL×List bH),(∀q∈l,∃x,At p q.1 q.2.1 q.2.2 x)->PG (bj p) a->PG (bj p) (l.foldl (pV (bj p)) a):=by
  intro l;induction l with
  |nil=>intro a _ c;exact c
  |cons q l m=>
   intro a d c
   have⟨x,Z⟩:=d q ζ
   refine m _ (λ e g=>d e (by simp[g])) ?_
   unfold pV
   rw[pT,V5 Z]
   exact c.rX h Z
 exact key _ _ abx ⟨ζ,ζ⟩
def vT(w:bp->Nat)(l:List cU):Nat:=(l.map λ b=>(b.code.map w).sum).sum
def uK(w:bp->Nat)(l:List aQ):Nat:=(l.map λ f=>vT w f.blocks).sum
def gw(p:List aQ)(w:bp->Nat)(q:Pt):Nat:=match Js p q with|some x=>w x|none=>0
def aAz:∀j,(S.par mid ps j).a_=S.a_:=λ j=>Ru (P:=λ ay=>ay.a_=S.a_) rfl (λ ay s _ h=>h) j
theorem aiH{p:List aQ}{w:bp->Nat}{S:SM}{f b:Nat}{code:List bp}(c:∀i x,code[i]?=some x->gw p w (f,b,i)=w x):∀i,i<=code.length->((S.ins f b code i).a_.map (gw p w)).sum=(S.a_.map (gw p w)).sum+((code.take i).map w).sum
 |0,_=>by simp[SM.ins]
 |i+1,A=>by
  have d:=aiH (S:=S) c i (OE A)
  have e:i<code.length:=A
  have Z:code[i]?=some code[i]:=bf e
  simp only[SM.ins,Z]
  rw[ajU,lF,tJ,d,KK (show i<code.length by omega),lF,tJ]
  simp[c i _ Z];omega
theorem afT{p:List aQ}{w:bp->Nat}{S:SM}{f:Nat}{bs:List cU}(c:∀b bk i x,bs[b]?=some bk->bk.code[i]?=some x->gw p w (f,b,i)=w x):∀b,b<=bs.length->((S.bF f bs b).a_.map (gw p w)).sum=(S.a_.map (gw p w)).sum+vT w (bs.take b)
 |0,_=>by simp[SM.bF,vT]
 |b+1,d=>by
  have e:b<bs.length:=d
  have g:=afT (S:=S) c b (OE d)
  have Z:bs[b]?=some bs[b]:=bf e
  simp only[SM.bF,Z]
  rw[aiH (λ i x h=>c b _ i x Z h) _ aF,g,iF]
  unfold vT
  rw[KK (show b<bs.length by omega),lF,tJ]
  simp;omega
theorem akh{p:List aQ}{w:bp->Nat}:∀f,f<=p.length->((SM.run p f).a_.map (gw p w)).sum=uK w (p.take f)
 |0,_=>rfl
 |f+1,c=>by
  have d:f<p.length:=c
  have e:=akh (w:=w) f (OE c)
  have Z:p[f]?=some p[f]:=bf d
  simp only[SM.run,Z,SM.CQ]
  rw[afT (λ b bk i x O U=>?_) _ aF,aAz,iF]
  .show((SM.run p f).a_.map (gw p w)).sum+_=_
   rw[e];unfold uK;rw[KK (show f<p.length by omega),lF,tJ];simp
  .unfold gw
   rw[V5 (q:=(f,b,i)) ⟨p[f],bk,Z,O,U⟩]
def aCo(p:List aQ)(w:bp->Nat):((bj p).a_.map (gw p w)).sum=uK w p:=by unfold bj;rw[akh _ aF,iF]
def aky{bk:cU}:vT w (bk::bs)=(bk.code.map w).sum+vT w bs:=by simp[vT]
def aFn{bk:cU}:fL (bk::bs)=bk.code.length+fL bs:=by simp[fL]
def akB{fn:aQ}:uK w (fn::p)=vT w fn.blocks+uK w p:=by simp[uK]
def aFp{fn:aQ}:ij (fn::p)=fL fn.blocks+ij p:=by simp[ij]
theorem akx{a:bp->Nat}{c:Nat}:∀bs:List cU,vT (λ x=>a x+c) bs=vT a bs+c*fL bs
 |[]=>by simp[vT,fL]
 |bk::bs=>by
  have d:=akx (a:=a) (c:=c) bs
  have key:∀l:List bp,(l.map λ x=>a x+c).sum=(l.map a).sum+c*l.length:=by intro l;induction l with|nil=>rfl|cons x l d=>simp only[kB,sr,d,qi,Nat.mul_succ];omega
  rw[aky,aky,aFn,d,key,YO]
  omega
theorem akz{a:bp->Nat}{c:Nat}:∀p:List aQ,uK (λ x=>a x+c) p=uK a p+c*ij p
 |[]=>by simp[uK,ij]
 |fn::p=>by
  have d:=akz (a:=a) (c:=c) p
  rw[akB,akB,aFp,d,akx,YO]
  omega
theorem R7{α:Type}{g:α->Nat}:∀{l:List α} {x:α},x∈l->g x<=(l.map g).sum
 |y::l,x,h=>by
  rw[kB,sr]
  rcases cZ.1 h with rfl|h
  .omega
  .have:=R7 (g:=g) h;omega
def Xr{i:Nat}{x:bp}(h:At p mid rc i x):w x<=uK w p:=by
 have⟨fn,bk,O,U,F⟩:=h;have d:=R7 (g:=w) (oS F);have c:=R7 (g:=λ rc:cU=>(rc.code.map w).sum) (oS U);have a3:=R7 (g:=λ mid:aQ=>vT w mid.blocks) (oS O);unfold uK;unfold vT at a3⊢;try dsimp only at c
 try dsimp only at a3
 omega
structure Fit(p:List aQ):Prop where
 sz:ij p<=100
 tot:uK (λ x=>x.args.length) p<=1048576
 tol:uK (λ x=>x.eh.length) p<=1048576
def akY{fn:aQ}(h:fn∈p):fL fn.blocks<=ij p:=R7 (g:=λ f:aQ=>fL f.blocks) h
def aoR(bs:List cU):(zo bs).length=fL bs:=by unfold zo fL;rw[afg]
def aDW(d:Fit p)(f:Int):((bj p).jX f).length<=100:=by
 unfold SM.jX;split
 .rw[pT];split
  .rename_i fn c;unfold SM.vR;rw[bW];have O:=BP (λ x:bp=>decide (x.op=14)) (zo fn.blocks);have U:=akY (oS c);have F:=d.sz;rw[aoR]at O;omega
  .simp
 .simp
def aGC{i:Nat}{x:bp}(h:pF p)(c:At p mid rc i x)(d:x.op=10):((bj p).fU ((bj p).gP x.fn)).length=x.args.length:=by
 have O:=WH (h 13 ω ω:¬jF p λ _ _ _ x=>JO p x) c;have U:=WH (h 14 ω ω:¬jF p λ _ _ _ x=>JN p x) c;have l:mF (bj p).names x.fn=p.findIdx? λ g=>decide (g.name=x.fn):=by unfold mF;rw[ajs (ajp h),List.findIdx?_map];rfl
 unfold JO isNone idxOf at O;unfold JN WG idxOf at U;cases e:p.findIdx? (λ g=>decide (g.name=x.fn))with
 |none=>rw[e]at O;simp[d]at O
 |some k=>
  rw[e]at U
  have Q:k<p.length:=by rw[KD]at e;exact e.1
  simp[d,bf Q]at U
  have m:(bj p).gP x.fn=(k:Int):=by unfold SM.gP;rw[l,e]
  rw[m]
  unfold SM.fU
  have n:(bj p).oF (k:Int)=true:=by unfold SM.oF;rw[pT];simp;omega
  rw[aq n,pT]
  simp[bf Q,U]
def aGt(c:Fit p)(q:Pt):wI (bj p) q<=gw p (λ x=>x.args.length+101) q:=by unfold wI gw;rw[pT];cases Js p q with|none=>exact aF|some x=>have:=aDW c ((bj p).gP x.fn);dsimp only;omega
theorem akU{α:Type}{g h:α->Nat}(c:∀x,g x<=h x):∀l:List α,(l.map g).sum<=(l.map h).sum
 |[]=>aF
 |x::l=>by
  have:=akU c l
  have:=c x
  simp only[kB,sr];omega
def aem(h:pF p)(c:Fit p):HF (bj p)where
 ok:=ajt h
 nD:=agE h
 fns:=by rw[pT];have:=(Sf h).2;omega
 ps:=λ fn e=>by
  rw[pT]at e;have m:¬((∃(f:Nat) (x:aQ),p[f]?=some x/\8<x.params.length)\/jF p λ _ _ _ x=>Ab x):=h 5 ω ω;have⟨f,c⟩:=sq e;rcases kb 8 fn.params.length with q|q
  .exact absurd (.inl ⟨f,fn,c,q⟩) m
  .omega
 sz:=λ fn e=>by rw[pT]at e;have:=akY e;have:=c.sz;omega
 a_:=λ q g=>by rw[pT];exact abx q g
 args:=λ f b i x d=>by rw[pT]at d;have O:=Xr (w:=λ x=>x.args.length) d;have U:=Xr (w:=λ x=>x.eh.length) d;have F:=c.tot;have n:=c.tol;omega
 call:=λ f b i x d l=>by rw[pT]at d;exact aGC h d l
 Ts:=by have O:=akU (aGt c) (bj p).a_;rw[aCo,akz]at O;have U:=c.tot;have F:=c.sz;omega
def alL(h:pF p)(m:Fit p):SD (bj p):=by
 have B:=aem h m;have l:=PG.all h;have G:(bj p).vars.length+(bj p).of.length<=1000000:=by
  have Q:ij p<=4096:=by have:=m.sz;omega
  have Z:∀fn∈p,fn.params.length<=8/\∀bk∈fn.blocks,∀x∈bk.code,x.op=1\/x.op=2->x.n<=64:=by
   intro fn z;have N:¬((∃(f:Nat) (x:aQ),p[f]?=some x/\8<x.params.length)\/jF p λ _ _ _ x=>Ab x):=h 5 ω ω;refine⟨?_,λ bk I x Z J=>?_⟩
   .have⟨f,m⟩:=sq z;rcases kb 8 fn.params.length with q|q
    .exact absurd (.inl ⟨f,fn,m,q⟩) N
    .omega
   .have⟨f,b,i,_,F⟩:=At.of z I Z;exact(XG h F J).2
  have A:=gJ.run p Z _ aF;rw[iF]at A;have P:=(Sf h).2;unfold bj;simp only[gJ,SM.run,wg]at A⊢;omega
 have M:(bG (bj p)).1.length<=4194304:=by have O:=(Xi (S:=bj p) (qs:=(bj p).a_) (a:=([],[]))).1;have U:=B.Ts;unfold bG;simp only[wg]at O;omega
 refine⟨⟨?_,?_,?_,?_,?_⟩,λ r hr=>?_,λ r hr=>(l.1 r hr).w5,λ r hr=>(l.1 r hr).w6,λ d hd=>(l.2 d hd).2,G,M⟩
 .show(bj p).vars.length+(bj p).of.length<=_;omega
 .show(bj p).p.length<=64;rw[pT];exact(Sf h).2
 .intro o k q D;exact ad4 B.ok D
 .intro f v C;exact adp _ _ v C
 .intro d hd;exact(l.2 d hd).1
 .have g:=l.1 r hr;exact⟨⟨g.a,g.f⟩,λ e=>g.a0 ω,λ e=>⟨(g.b e).1,by show r.aG<(((bj p).of.length:Nat):Int)+(((bj p).p.length:Nat):Int);exact(g.b e).2⟩,g.b2,g.c,g.b3,g.k⟩
end
def akW(L:List α):(L.map λ _=>1).sum=L.length:=by induction L with|nil=>rfl|cons a L c=>simp only[kB,sr,qi,c];omega
def ai7{k:IntKind}{lo A:Int}(O:k.min=lo)(U:k.max=A)(h:(Lit.int k a).wf=true):lo<=a/\a<=A:=by have c:(decide (k.min<=a)&&decide (a<=k.max))=true:=h;rw[O,U]at c;simpa using c
theorem aon:Tryz.prog.cellsOf 9=1:=κ
theorem aok:Tryz.prog.cellsOf 54=8:=κ
theorem aol:Tryz.prog.cellsOf 60=2:=κ
theorem aom:Tryz.prog.cellsOf 63=3:=κ
section
variable{E:aK}{w:bI}{ay:Type}{enc:aS×aC->ay}{bk:DataW ay->Nat}
def ZN(c:BK bk):xf bk E Tryz.prog w enc 52 (XZ 1 X0) List.length:=Pj id (TO c Tryz.underlying52 aon ω DJ (D7 c (Iy Tryz.underlying9))) (λ _ _ _ h=>h) λ a=>by rw[akW];exact H7 _
def alz:Up ku:=λ _ _ _ _ g h=>h.W g
def alx:Up p_:=λ _ _ _ _ g h=>h.W g
def aly:Up qe:=λ _ _ _ _ g h=>h.W g
theorem apr(c:BK bk):xf bk E Tryz.prog w enc 54 ku zm:=by
 refine Pj (λ p:Int×aI×aI×aI×Int×aI×List aI×List aI×Unit=>bp.mk p.1 p.2.1 p.2.2.1 p.2.2.2.1 p.2.2.2.2.1 p.2.2.2.2.2.1 p.2.2.2.2.2.2.1 p.2.2.2.2.2.2.2.1) (TP c Tryz.underlying54 κ κ (wu alA (D7 c (agh Tryz.underlying51)) (wu DJ (D7 c (Iy Tryz.underlying9)) (wu DJ (D7 c (Iy Tryz.underlying9)) (wu DJ (D7 c (Iy Tryz.underlying9)) (wu alA (D7 c (agh Tryz.underlying3)) (wu DJ (D7 c (Iy Tryz.underlying9)) (wu (N3 DJ) (ZN c) (wu (N3 DJ) (ZN c) TQ))))))))) ?_ ?_
 .rintro H ⟨op,d,a,b,n,f,J,g,un⟩ l h;obtain⟨l1,l2,rfl,⟨rfl,O⟩,Z,W,rfl,⟨rfl,U⟩,R,Q,rfl,⟨rfl,F⟩,P,N,rfl,⟨rfl,h4⟩,M,B,rfl,⟨rfl,I⟩,z,q,rfl,⟨rfl,h6⟩,o,M',rfl,⟨va,rfl,G⟩,m,e,rfl,⟨vl,rfl,D⟩,C⟩:=h;cases(show e=[]from C);refine⟨va,vl,rfl,G,D,?_,?_⟩
  .exact ai7 (lo:=0) (A:=255) η η O
  .exact ai7 (lo:=-9223372036854775808) (A:=9223372036854775807) η η I
 .rintro⟨op,d,a,b,n,f,J,g,un⟩;simp only[zm];omega
theorem apo(d:BK bk):xf bk E Tryz.prog w enc 60 p_ Ic:=by
 refine Pj (λ p:aI×List bp×Unit=>cU.mk p.1 p.2.1) (TP d Tryz.underlying60 κ κ (wu DJ (D7 d (Iy Tryz.underlying9)) (wu (N3 alz) (TO d Tryz.underlying58 aok ω alz (apr d)) TQ))) ?_ ?_
 .rintro H ⟨s,c,un⟩ l h;obtain⟨l1,l2,rfl,⟨rfl,O⟩,m,g,rfl,⟨e,rfl,U⟩,F⟩:=h;cases(show g=[]from F);exact⟨e,rfl,U⟩
 .rintro⟨s,c,un⟩;simp only[Ic];omega
theorem apq(c:BK bk):xf bk E Tryz.prog w enc 63 qe Zg:=by
 refine Pj (λ p:aI×List aI×List cU×Unit=>aQ.mk p.1 p.2.1 p.2.2.1) (TP c Tryz.underlying63 κ κ (wu DJ (D7 c (Iy Tryz.underlying9)) (wu (N3 DJ) (ZN c) (wu (N3 alx) (TO c Tryz.underlying61 aol ω alx (apo c)) TQ)))) ?_ ?_
 .rintro H ⟨s,ps,bs,un⟩ l h;obtain⟨l1,l2,rfl,⟨rfl,O⟩,n,m,rfl,⟨vp,rfl,U⟩,g,d,rfl,⟨vb,rfl,F⟩,e⟩:=h;cases(show d=[]from e);exact⟨vp,vb,rfl,U,F⟩
 .rintro⟨s,ps,bs,un⟩;simp only[Zg];omega
def amq(H:D)(p:List aQ)(l:AU):Prop:=∃vf,l=[vf]/\oO H vf p
theorem aps(c:BK bk):xf bk E Tryz.prog w enc 24 amq OO:=by
 refine Pj (λ p:List aQ×Unit=>p.1) (TP c Tryz.underlying24 κ κ (wu (N3 aly) (TO c Tryz.underlying22 aom ω aly (apq c)) TQ)) ?_ ?_
 .rintro H ⟨p,un⟩ l h;obtain⟨l1,l2,rfl,⟨vf,rfl,O⟩,U⟩:=h;cases(show l2=[]from U);exact⟨vf,rfl,O⟩
 .rintro⟨p,un⟩;simp only[OO];omega
end
section
variable{H:D}{u v:J}
def atG(hp:oO H vf p)(hz:ij p<=1048576):CN 57 [.agg [vf]] H λ w K=>(∃b:Bool,w=bl b/\(b=false->ij p<=100))/\I [] H K:=by
 refine ba aqD rfl λ Q' z=>?_;simp[hp.cell];generalize Z:D.add _ _=K0;have g:I [] H K0:=by rw[<-Z];exact aw.add _
 have l1:Lv K0 H.ab (.cells 1 (Tr.e.put 0 (some vf)) false):=by rw[<-Z];exact Lv.new
 clear Z;have hp0:=hp.zB g;have bA:=hp.aN nf;by_cases h6:(6:Int)<(p.length:Int)
 .simp[bA,h6];exact z ⟨⟨true,rfl,λ e=>by simp at e⟩,g⟩
 simp[bA,h6];refine CA (λ i sl K=>K=K0/\AV sl 1 (.ptr H.ab 0)/\AV sl 3 (ae (ij (p.take i):Nat))/\AV sl 4 (ae i)/\i<=p.length) p.length ⟨rfl,by simp[ij]⟩ ?_
 rintro b1 k1-cq i sl K ⟨rfl,s1,s3,h,A⟩ ih;by_cases c:i<p.length
 .have⟨id,ah,ax,ex,n,t,ro,M,F,q,aU,bU,hR⟩:=hp0.at_ c;obtain⟨vp,vb,rfl,cr,Jp⟩:=hR;have⟨r0,r1,l⟩:=uE bU;have mC:=cr.aN fw;have O:=Jp.aN nh;have jA:i<maxLen:=by unfold maxLen;omega
  have e1:ah+i*3+1<n:=ω
  have C:ah+i*3+2<n:=ω
  by_cases hb:(20:Int)<(p[i].blocks.length:Int)
  .simp[s1,h,l1.get,de nf,c,F,q.get,l,C,O,hb];exact z ⟨⟨true,rfl,λ e=>by simp at e⟩,g⟩
  by_cases hq:(20:Int)<(p[i].params.length:Int)
  .simp[s1,h,l1.get,de nf,c,F,q.get,r1,l,e1,C,O,mC,hb,hq];exact z ⟨⟨true,rfl,λ e=>by simp at e⟩,g⟩
  simp[s1,h,l1.get,de nf,c,F,q.get,r1,l,e1,C,O,mC,hb,hq];have iK:p[i]?=some p[i]:=bf c;have gu:=ad8 iK;have aIt:=ak0 p (i+1);refine CA (λ j sl T=>T=K/\AV sl 1 (.ptr H.ab 0)/\AV sl 3 (ae ((ij (p.take i)+fL (p[i].blocks.take j):Nat):Int))/\AV sl 4 (ae i)/\AV sl 5 (ae j)/\j<=p[i].blocks.length) (p[i].blocks.length) ⟨rfl,by simp[s1,s3,h,fL]⟩ ?_
  rintro b2 k2-dO j Hn T ⟨rfl,N,W,U,R,hj⟩ eJ;by_cases P:j<p[i].blocks.length
  .have⟨lJ,lU,rN,kY,n2,t2,qW,mR,awu,ck,gV,iz,iv⟩:=Jp.at_ P;obtain⟨vc,rfl,o⟩:=iv;have⟨z0,z1⟩:=JQ iz;have eN:=o.aN nT;have e3:lU+j*2+1<n2:=ω
   have ix:j<maxLen:=by unfold maxLen;omega
   have hbj:p[i].blocks[j]?=some p[i].blocks[j]:=bf P;have hsb:=ad7 hbj;have aIr:=akX p[i].blocks (j+1);have hw:IntKind.wrap .i64 (((ij (p.take i):Nat):Int)+((fL (p[i].blocks.take j):Nat):Int)+((p[i].blocks[j].code.length:Nat):Int))=((ij (p.take i)+fL (p[i].blocks.take (j+1)):Nat):Int):=by rw[fQ ω ω];omega
   simp[N,W,U,R,l1.get,de nh,c,F,q.get,l,C,P,awu,ck.get,z1,e3,eN,hw];refine CA (λ m sl Kx=>Kx=T/\AV sl 1 (.ptr H.ab 0)/\AV sl 3 (ae ((ij (p.take i)+fL (p[i].blocks.take (j+1)):Nat):Int))/\AV sl 4 (ae i)/\AV sl 5 (ae j)/\AV sl 6 vc/\AV sl 7 (ae m)/\m<=p[i].blocks[j].code.length) (p[i].blocks[j].code.length) ⟨rfl,by simp[N,U,R]⟩ ?_
   rintro b3 k3-jU m sl3 T ⟨rfl,u1,u3,u4,u5,J,Q,B⟩ jg;by_cases G:m<p[i].blocks[j].code.length
   .have⟨yy,Aa,xJ,wv,n3,t3,Bq,BV,d,fF,mM,kh,f_⟩:=o.at_ G;obtain⟨va,vl,rfl,kl,mO,hx1,MM⟩:=f_;have AZ:m<maxLen:=by unfold maxLen;omega
    have z4:=(iB.1 kh).2 4 ω;have e4:Aa+m*8+4<n3:=ω
    by_cases hN:20<p[i].blocks[j].code[m].n
    .simp[J,Q,G,d,fF.get,z4,e4,hN,de nT];exact z ⟨⟨true,rfl,λ e=>by simp at e⟩,g⟩
    .simp[J,Q,G,d,fF.get,z4,e4,hN,de nT,bq AZ];refine jg ω ⟨rfl,?_⟩;simp[u1,u3,u4,u5,J,d,dz G]
   .obtain rfl:m=p[i].blocks[j].code.length:=ω
    subst jU;simp[u5,J,Q,eN,bq ix];exact eJ ω ⟨rfl,by simp[u1,u3,u4,dz P]⟩
  .obtain rfl:j=p[i].blocks.length:=ω
   subst dO;rw[iF]at W;simp[N,U,R,l1.get,c,F,q.get,l,C,O,bq jA];exact ih ω ⟨rfl,by simp[N,W,gu,dz c]⟩
 .obtain rfl:i=p.length:=ω
  subst cq;rw[iF]at s3;simp[s1,s3,h,l1.get,bA];exact z ⟨⟨decide ((100:Int)<(ij p:Int)),ζ,λ e=>by have:=of_decide_eq_false e;omega⟩,g⟩
end
end
end Go.Proofs.YtgipmaoplfkdoaaGreatDoor
