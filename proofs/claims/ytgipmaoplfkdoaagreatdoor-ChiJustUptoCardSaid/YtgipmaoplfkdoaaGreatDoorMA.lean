import Derived.Test.YtgipmaoplfkdoaaGreatDoorMU
set_option linter.all false
set_option maxRecDepth 100000
set_option maxHeartbeats 400000000
namespace Go.Proofs.YtgipmaoplfkdoaaGreatDoor
noncomputable section
open Go.RowKit
variable{E:aK}{a c b:Code}{Y:aE}{H:D}{aj:dE->aE->D->Prop}{au F':Nat->Nat}{t tn tf:CX}{mf cn cf:Nat}{en ef:Bool}{x:fg}
section
variable{X:Fix}{K T:D}{L:nk}{V:SV}
def amb(h:∀ay,b=ay->aD E [.code (.seq a (.seq c ay))] Y H aj):aD E [.code (.seq a (.seq c b))] Y H aj:=h b rfl
theorem Z8{V:SV}{c:Nat->Nat}{N:Nat}(g:∀x,V.first (V.first x)=V.first x):∀n,n<=N->(SV.eQ V c n).1.k_ N=V.k_ N
 |0,_=>rfl
 |n+1,h=>by
  have d:=Z8 (c:=c) (N:=N) g n ω
  by_cases e:V.first n=n
  .cases f:(SV.eQ V c n).2 (c n)with
   |none=>rw[(SV.T' e f).1];exact d
   |some j=>
    have⟨i,_⟩:=(SV.Py (c:=c) g n).st _ _ f
    have O:n≠j:=ω
    have U:j<N:=ω
    rw[(SV.Ub e f).1,<-d]
    exact SV.aDO O h U
  .rw[(SV.Ua e).1];exact d
def fm.ZA{mn:Nat}{dv:J}(h:fm X K L au V t tn tf mn mf cn cf en ef dv)(he:∀x,x<X.N->au x=F' x):fm X K L F' V t tn tf mn mf cn cf en ef dv:=
 {h with
  sC:=λ x Z=>by rw[<-he x Z];exact h.sC x Z
  fst:=λ x Z=>by rw[<-he x Z];exact h.fst x Z}
def amc(h:∀ay,b=ay->aD E [x,.code (.seq a (.seq c ay))] Y H aj):aD E [x,.code (.seq a (.seq c b))] Y H aj:=h b rfl
def Hg(V:SV)(i:Nat):BW:=if V.first i=i then(jW (V.to i)).map λ k=>((V.first k:Nat):Int)else[]
def akd(A:cn<(SV.rows V mf).length):(SV.rows V mf)[cn]=Hg V cn:=by simp[SV.rows,Hg]
def Xh:(SV.rows V mf).length=mf:=by simp[SV.rows]
def Wk(aA:Nat->Nat):(jW aA).length<=4194304:=by rw[Wj];exact aY (WR _ _) (by rw[Aw];omega)
def agU(h:fM X K L V.first V)(hN:X.N<=1048576)(hRT:V.k_ X.N<=1099511627776)(bD:∀x,V.first (V.first x)=V.first x)(htn:∀i k,cC (V.to i) k=true->k<X.N):CN 76 [.ptr L.a 0] K λ _ T=>∃c',fM X T {L with c:=c'} (V.lP X.N).first (V.lP X.N):=by
 refine ba as2 rfl λ Q' hQ=>?_;simp only[NN];refine amc ?_;intro ay hT;have rest:∀(sl:CX) (cv:J) (aL:AT) (S:D),AV sl 0 (.ptr L.a 0)->AV sl 7 cv->aX S 1 cv (aZ (iY (Pa (SV.rows V X.N)))) aL->(∀y∈aL,K.ab<=y)->I [] K S->aD E0 [.code ay] ⟨sl,236,[],none,76⟩ S (qb E0 [] Q'):=by
  subst hT;intro sl cv aL S s0 s7 En hY fY;refine amb ?_;intro ay hT;have rest:∀(sl:CX) (K2:D) (c':Nat->Nat×Nat),AV sl 0 (.ptr L.a 0)->fM X K2 {L with c:=c'} (SV.sX V (zp (SV.rows V X.N)) X.N) (SV.eQ V (zp (SV.rows V X.N)) X.N).1->aD E0 [.code ay] ⟨sl,236,[],none,76⟩ K2 (qb E0 [] Q'):=by
   subst hT;intro sl K2 c' s0 hR;have hI:=SV.Py (V0:=V) (c:=zp (SV.rows V X.N)) bD X.N;have Me:(SV.eQ V (zp (SV.rows V X.N)) X.N).1=V.lP X.N:=rfl;rw[Me]at hR hI;have QE:=hI.raw;have aaq:=hI.fix bD;generalize SV.sX V (zp (SV.rows V X.N)) X.N=au at hR QE aaq;generalize V.lP X.N=V' at hR QE hQ;clear hI Me;have hR':=hR;obtain⟨t,tn,tf,mn,mf,cn,cf,en,ef,dv,f⟩:=hR';have ahV:=Wi (E:=E0) (H:=K2) (id:=L.fs) (n:=X.N) (ax:=cf) (ex:=ef) bK;simp[s0,f.ob.get,f.t5,ahV];clear f ahV;refine bu (α:=Nat) (aJ:=λ i sl C=>fM X C {L with c:=c'} (λ x=>if x<i then V'.first x else au x) V'/\i<=X.N/\AV sl 0 (.ptr L.a 0)/\AV sl 191 (ae (X.N:Nat))/\AV sl 192 (ae (i:Nat))) (mu:=λ i=>X.N-i) ?_ 0 _ _ ?ini;case ini=>exact⟨by simpa using hR,dQ _,by simp[s0]⟩
   rintro b1 k1-cq i sl C ⟨f_,A,R,adC,adD⟩ ih;by_cases az:i<X.N
   .have w:0<X.N:=FV az;have jA:i<maxLen:=by unfold maxLen;omega
    have G:∀y,V'.first (au y)=au (au y):=λ y=>by rw[QE,aaq]
    have hz:∀y,(if au y<i then V'.first (au y)else au (au y))=au (au y):=λ y=>by split;exact G y;rfl
    have Dg:∀y,(if au (au y)<i then V'.first (au (au y))else au (au (au y)))=au (au y):=λ y=>by rw[hz (au y),aaq]
    simp[adC,adD,az];refine bu (α:=Nat) (aJ:=λ b sl K4=>fM X K4 {L with c:=c'} (if b=0 then(λ x=>if x<i then V'.first x else au x)else aM (λ x=>if x<i then V'.first x else au x) i (au (au i))) V'/\b<=1/\AV sl 0 (.ptr L.a 0)/\AV sl 13 (ae (i:Nat))/\AV sl 191 (ae (X.N:Nat))/\AV sl 192 (ae (i:Nat))) (mu:=λ b=>1-b) ?_ 0 _ _ ?ini2;case ini2=>exact⟨f_,ω,by simp[R,adC,adD]⟩
    rintro b2 k2-dO b Hn K4 ⟨pN,hb,r0,W5,adE,adF⟩ eJ;obtain⟨t,tn,tf,mn,mf,cn,cf,en,ef,dv,f⟩:=pN;have c4:i<mf:=aT az f.zw;have Zs:i+1<=mf:=c4;have hg:=f.sC i az;have z:=f.fst i az;by_cases Ei:b=0
    .subst Ei;rw[aq rfl]at f hg z;try dsimp only at hg
     try dsimp only at z
     rw[ao (Tb i)]at hg z;have nG:=f.sC (au i) z;try dsimp only at nG
     rw[hz i]at nG;have ck:=f.fst (au i) z;try dsimp only at ck
     rw[hz i]at ck;have c5:au i<mf:=aT z f.zw;by_cases he:au i=au (au i)
     .rw[<-he]at nG;subst dO;simp[r0,W5,adF,az,z,f.ob.get,(f.vV w),(f.fs w).get,c4,c5,hg,nG,bq jA];refine ih (i+1) _ _ ω ⟨⟨_,_,_,_,_,_,_,_,_,_,f.ZA λ x Z=>?_⟩,az,by simp[r0,adE]⟩;by_cases e:x=i
      .subst e;rw[ao (Tb x),aq ω,QE,<-he]
      .have:(x<i+1)↔x<i:=ω
       simp only[this]
     .have Er:¬((au i:Nat):Int)=((au (au i):Nat):Int):=ω
      simp[r0,W5,az,z,f.ob.get,(f.vV w),(f.fs w).get,c4,Zs,c5,hg,nG,Er];obtain⟨Gq,g4⟩:=f.agZ (i:=i) ck;refine eJ 1 _ _ ω ⟨⟨_,_,_,_,_,_,_,_,_,_,by rw[ao ω];exact Gq⟩,aF,by simp[r0,W5,adE,adF]⟩
    .obtain rfl:b=1:=ω
     rw[ao ω]at f hg z;rw[fE]at hg z;have nG:=f.sC (au (au i)) z;have he2:aM (λ x=>if x<i then V'.first x else au x) i (au (au i)) (au (au i))=au (au i):=by
      unfold aM;split
      .rfl
      .exact Dg i
     rw[he2]at nG;have c5:au (au i)<mf:=aT z f.zw;subst dO;simp[r0,W5,adF,az,z,f.ob.get,(f.vV w),(f.fs w).get,c4,c5,hg,nG,bq jA];refine ih (i+1) _ _ ω ⟨⟨_,_,_,_,_,_,_,_,_,_,f.ZA λ x Z=>?_⟩,az,by simp[r0,adE]⟩;by_cases e:x=i
     .subst e;rw[fE,aq ω,QE]
     .have:(x<i+1)↔x<i:=ω
      rw[gG e];simp only[this]
   .obtain rfl:i=X.N:=ω
    subst cq;simp[adC,adD];obtain⟨t,tn,tf,mn,mf,cn,cf,en,ef,dv,f⟩:=f_;exact hQ ⟨c',_,_,_,_,_,_,_,_,_,_,f.ZA λ x Z=>by rw[aq Z]⟩
  clear hT;obtain⟨t,tn,tf,mn,mf,cn,cf,en,ef,dv,f⟩:=h;have hcn:∀n,zp (SV.rows V X.N) n<n+1:=λ n=>azB _ _;have eN:iY (Pa (SV.rows V X.N))=iY ((List.range X.N).map (zp (SV.rows V X.N))):=by unfold Pa;rw[Xh]
  rw[eN]at En;clear eN;have Me:(SV.eQ V (zp (SV.rows V X.N)) X.N).1=V.lP X.N:=rfl;generalize zp (SV.rows V X.N)=r at*;have bA:=En.aZ.aN bK;rw[bW,bW,Aw]at bA;have hO0:=f.RF (c':=λ y=>if y<K.ab then L.c y else(9,0)) (λ y G=>by rw[aq G]) (λ y G=>by rw[ao ω];decide);simp[s7];generalize kO:D.add S _=K2;have g2:I [] S K2:=by rw[<-kO];exact aw.add _
  have hM2:lp K2 S.ab 3 X.N λ _=>none:=by rw[<-kO];exact .new Lv.new
  have n2:K2.ab=S.ab+1:=by rw[<-kO];rfl
  clear kO;have ahB:=En.W g2 ζ;have Qw:=ahB.aZ.aN bK;rw[bW,bW,Aw]at Qw;simp[Qw];have sD:=En.lt;have rQ:=fY.ab;have xT:=hO0.W (fY.trans g2) ζ;generalize wE:(λ y=>if y<K.ab then L.c y else((9,0):Nat×Nat))=c0 at xT;have hc9:∀y,K.ab<=y->y<K2.ab->c0 y=(9,0):=λ y O U=>by rw[<-wE];dsimp only;rw[ao ω]
  clear wE hO0;refine bu (α:=Nat) (aJ:=λ n sl C=>∃c',fM X C {L with c:=c'} (SV.sX V r n) (SV.eQ V r n).1/\(∀y,K.ab<=y->y<K2.ab->c' y=(9,0))/\lp C S.ab 3 X.N (λ k=>((SV.eQ V r n).2 k).map λ j=>ae (j:Nat))/\aX C 1 cv (aZ (iY ((List.range X.N).map r))) aL/\K2.ab<=C.ab/\n<=X.N/\AV sl 0 (.ptr L.a 0)/\AV sl 8 (.map S.ab)/\AV sl 70 cv/\AV sl 71 (ae (X.N:Nat))/\AV sl 72 (ae (n:Nat))) (mu:=λ n=>X.N-n) ?_ 0 _ _ ?ini;case ini=>exact⟨c0,⟨_,_,_,_,_,_,_,_,_,_,xT⟩,hc9,by simpa[SV.eQ]using hM2,ahB,aF,dQ _,by simp[s0]⟩
  rintro b1 k1-cq n sl C ⟨c',hR,Qi,hM,UO,dw,hn,R,q8,NG,JM,RB⟩ ih;obtain⟨t,tn,tf,mn,mf,cn,cf,en,ef,dv,p⟩:=hR;by_cases u:n<X.N
  .have w:0<X.N:=FV u;have kg:n<maxLen:=by unfold maxLen;omega
   obtain⟨uj,uB,tQ,exp,np,tp,uG,cp,cr,fG,ib,gq,jL⟩:=UO.aZ.gL (i:=n) (by simpa using u);have qw:cp=ae ((r n:Nat):Int):=by
    have:[cp]=[ae ((iY ((List.range X.N).map r))[n]'(by simpa using u))]:=jL
    simpa using this
   subst qw;simp only[bW,Aw]at cr;have hI:=SV.Py (V0:=V) (c:=r) bD n;have C6:SV.sX V r n n=V.first n:=hI.A aF;have c4:n<mf:=aT u p.zw;have vw:=p.sC n u;rw[C6]at vw;have aHE:=hcn n;by_cases hf:V.first n=n
   .rw[hf]at vw;obtain⟨mc,ml,m1,m2,m3,m4,m5⟩:=hM.ob;cases hs:(SV.eQ V r n).2 (r n)with
    |none=>
     rcases Fe (key:=.int .i64 ((r n:Nat):Int)) (l:=ml)with⟨b,v,U,O⟩|⟨U,O⟩
     .rw[m3,hs]at U;simp at U
     .simp[R,q8,NG,JM,RB,u,cr,fG.get,ib,gq,p.ob.get,(p.vV w),(p.fs w).get,c4,vw,m1.get,O,bq kg]
      obtain⟨e1,e2⟩:=SV.T' hf hs;have IS:=lp.eD (v:=ae ((n:Nat):Int)) (k:=r n) m1 m2 m3 m4 m5 ω ω;generalize pL:D.put C S.ab _=K4 at IS⊢;have g4:I [S.ab] C K4:=by rw[<-pL];exact aw.put (.inr ζ)
      clear pL;refine ih (n+1) _ _ ω ⟨c',?_,Qi,?_,UO.W g4 (λ y G=>by simp;have:=sD y G;omega),by have:=g4.ab;omega,u,by simp[R,q8,NG,JM,cr]⟩
      .rw[e1,e2];refine⟨_,_,_,_,_,_,_,_,_,_,p.W g4 λ y G=>?_⟩;simp at G;subst G;refine⟨by have:=f.ay;omega,?_⟩;show(c' S.ab).1≠8;rw[Qi _ rQ ω];decide
      .have e3:(λ k=>((SV.eQ V r (n+1)).2 k).map λ j=>ae (j:Nat))=aM (λ k=>((SV.eQ V r n).2 k).map λ j=>ae (j:Nat)) (r n) (some (ae (n:Nat))):=by funext k;rw[e1];unfold aM;dsimp only;split<;>rfl
       rw[e3];exact IS
    |some j=>
     have eH:=hI.st _ _ hs
     obtain⟨j1,j2,j3,j4⟩:=eH
     rcases Fe (key:=.int .i64 ((r n:Nat):Int)) (l:=ml)with⟨b,v,U,O⟩|⟨U,O⟩
     .have hv:v=ae (j:Nat):=by rw[m3,hs]at U;simpa using U.symm
      subst hv;have d:j<X.N:=ω
      have Zs:n+1<=mf:=c4;have c5:n<mn:=aT u p.Dn;have c6:j<mn:=aT d p.Dn;have mT:=p.ca;have L8:=p.Gb w;have El:=p.D5 w;have Ql:=p.cn j d;have Qm:=p.cn n u;dsimp only at mT L8 El Ql Qm;have d1:¬L.a=L.fs:=λ h=>by rw[h,L8]at mT;cases mT
      have d2:¬L.nd=L.fs:=λ h=>by rw[h,L8]at El;cases El
      have d3:¬L.nd=L.a:=λ h=>by rw[h,mT]at El;cases El
      have d4:¬L.n j=L.fs:=λ h=>by rw[h,L8]at Ql;cases Ql
      have d5:¬L.n j=L.a:=λ h=>by rw[h,mT]at Ql;cases Ql
      have d6:¬L.n n=L.fs:=λ h=>by rw[h,L8]at Qm;cases Qm
      have d7:¬L.n n=L.a:=λ h=>by rw[h,mT]at Qm;cases Qm
      obtain⟨tj,nj1,nj2,nj3⟩:=p.n j d;obtain⟨tk,nk1,nk2,nk3⟩:=p.n n u;have Qc:=p.N;simp[R,q8,NG,JM,RB,u,d,cr,fG.get,ib,gq,p.ob.get,(p.DF w),(p.vV w),p.t6,(p.fs w).get,c4,Zs,c5,c6,vw,m1.get,O,d1,d2,d3,d4,d5,d6,d7,(p.nd w).get,p.wS j d,p.wS n u,nj1.get,nj2,nk1.get,nk2];obtain⟨Gq,g4⟩:=p.agZ (i:=n) d;obtain⟨IT,g5⟩:=Gq.aFf (IntKind.wrap .i64 ((SV.eQ V r n).1.iC+1));generalize qK:D.put (D.put C L.fs _) L.a _=K5;dsimp only at IT g5 g4;rw[qK]at IT g5;have CT:I [L.fs,L.a] C K5:=(g4.mono ζ).trans (g5.mono ζ);clear qK g4 g5 Gq;have dK:¬j=n:=ω
      have gR:=IT.M;have AP:=IT.ct;dsimp only at gR AP;have Tm:∀{a b:Nat} {k:Nat×Nat},c' a=(6,n)->c' b=(6,j)->a≠b:=λ O U h=>by rw[h,U]at O;simp at O;omega
      have Tn:∀{a b:Nat} {k:Nat×Nat},c' a=(7,n)->c' b=(7,j)->a≠b:=λ O U h=>by rw[h,U]at O;simp at O;omega
      refine CW (aeh (IT.s j d) (IT.s n u) (Tm (k:=(0,0)) (gR n u).1 (gR j d).1) (Tm (k:=(0,0)) (gR n u).1 (gR j d).2) (Tm (k:=(0,0)) (gR n u).2 (gR j d).1) (Tm (k:=(0,0)) (gR n u).2 (gR j d).2)) ?_;rintro _ K6 ⟨rfl,hU,gU⟩;have C7:=IT.aEu d gU hU;obtain⟨tj6,azh,aIF,azi⟩:=C7.n j d;obtain⟨tk6,azj,aIJ,azk⟩:=C7.n n u;try (refine dF (by simp[dA,dm]) ?_)
      simp[R,u,d,C7.ob.get,(C7.DF w),c5,c6,(C7.nd w).get,C7.wS j d,C7.wS n u,azh.get,azi,azj.get,azk];refine CW (aeh (C7.t j d) (C7.t n u) (Tn (k:=(0,0)) (AP n u).1 (AP j d).1) (Tn (k:=(0,0)) (AP n u).1 (AP j d).2) (Tn (k:=(0,0)) (AP n u).2 (AP j d).1) (Tn (k:=(0,0)) (AP n u).2 (AP j d).2)) ?_;rintro _ K7 ⟨rfl,hT7,gT7⟩;obtain⟨F,g67⟩:=C7.alb d gT7 hT7;obtain⟨tj7,aIG,aIH,aII⟩:=F.n j d;obtain⟨tk7,aIK,aIL,aIM⟩:=F.n n u;try (refine dF (by simp[dA,dm]) ?_)
      obtain⟨rv,QH,zR⟩:=F.aO;obtain⟨rc,rl,r1,r2,r3,r4,r5⟩:=QH.ob;simp[-cX,R,F.ob.get,F.t2,r1.get];refine Fi (v:=(rv j).getD Dp) (T:=K7) (by rw[<-r3];exact Wn) ?_;simp[-cX,R,F.ob.get,F.t2,r1.get];refine Fi (v:=(rv n).getD Dp) (T:=K7) (by rw[<-r3];exact Wn) ?_;obtain⟨Yj,oj,yj⟩:=tE.at_ zR d;obtain⟨Yn,on,yn⟩:=tE.at_ zR u;simp[-cX];have hTn:=Z8 (c:=r) (N:=X.N) bD n ω;have hLj:((SV.eQ V r n).1.aO j).length<=1099511627776:=by have:=SV.W9 (V:=(SV.eQ V r n).1) d;omega
      have hLn:((SV.eQ V r n).1.aO n).length<=1099511627776:=by have:=SV.W9 (V:=(SV.eQ V r n).1) u;omega
      have lcj:=RH (l:=(SV.eQ V r n).1.aO j);have lcn:=RH (l:=(SV.eQ V r n).1.aO n);dsimp only at oj on zR;obtain⟨nn,ah3,avE⟩:=on.cells;obtain⟨v',K8,ids',k81,k82,M7,k84⟩:=KU Fz R_ ω oj avE ah3 (aj4 _) (λ m B=>ω) (λ m B=>ω);refine zY k81 ?_;have wF:=F.mq;have AQ:=F.ny;dsimp only at wF AQ;have JF:∀{y:Nat} {k:Nat×Nat},c' y=k->k.1≠8->y∉Yj:=λ h h8 B=>by have:=yj _ B;dsimp only at this;rw[h]at this;rw[this]at h8;exact h8 rfl
      have e1:¬L.a=L.rm:=λ h=>by rw[h,wF]at mT;cases mT
      have e2:¬L.wm=L.rm:=λ h=>by rw[h,wF]at AQ;cases AQ
      have e3:¬L.a=L.wm:=λ h=>by rw[h,AQ]at mT;cases mT
      obtain⟨wc,wl,w1,w2,w3,w4,w5⟩:=F.wait.ob;have ob8:=F.ob.W M7 (JF mT η);have Xd:=r1.W M7 (JF wF η);have wm8:=w1.W M7 (JF AQ η);simp;refine dF (by simp[dA,dm,val,ob8.get,F.t2]) ?_;simp[R,ob8.get,F.t2,Xd.get,F.t4,wm8.get,e1,e2,e3,RB,bq kg];have hNB:X.N<=9223372036854775807:=ω
      obtain⟨r2',r3',r4',r5'⟩:=ax5 (v:=v') r2 r3 r4 r5 d hNB;have rm9:Lv (D.put K8 L.rm (some (.map 3 (oC rc (.int .i64 ((j:Nat):Int)) rl) (eD rc (.int .i64 ((j:Nat):Int)) v' rl)))) L.rm (.map 3 (oC rc (.int .i64 ((j:Nat):Int)) rl) (eD rc (.int .i64 ((j:Nat):Int)) v' rl)):=Xd.put_eq;have ahg:=lp.nA (k:=n) rm9 r2' r3' r4' r5';generalize IQ:D.put (D.put K8 L.rm _) L.rm _=qf at ahg⊢;have Uc:I [L.rm] K8 qf:=by rw[<-IQ];exact(aw.put (.inr ζ)).put (.inr ζ)
      clear IQ rm9;have aGI:=wm8.W Uc (by simp[e2]);obtain⟨w2',w3',w4',w5'⟩:=ax4 (k:=n) w2 w3 w4 w5;have alO:Lv (D.put qf L.wm (some (.map 3 wc (nA (.int .i64 ((n:Nat):Int)) wl)))) L.wm (.map 3 wc (nA (.int .i64 ((n:Nat):Int)) wl)):=aGI.put_eq;have ahh:=lp.eD (k:=j) (v:=bl true) alO w2' w3' w4' w5' d hNB;generalize ahf:D.put (D.put qf L.wm _) L.wm _=XS at ahh⊢;have ag2:I [L.wm] qf XS:=by rw[<-ahf];exact(aw.put (.inr ζ)).put (.inr ζ)
      clear ahf alO;have hO8:=F.RF (c':=λ y=>if y<K7.ab then c' y else(8,j)) (λ y G=>aq G) (λ y G=>by rw[ao ω];exact aF);have ahl:=oj.lt;have n78:=M7.ab;have avs:=F.lo;dsimp only at avs;have aHy:=F.ay;have hb7:=F.base.ab;have atO:tE qf L.rm X.N (λ y=>if y<K7.ab then c' y else(8,j)) (aM (aM (SV.eQ V r n).1.aO j ((SV.eQ V r n).1.aO j++(SV.eQ V r n).1.aO n)) n []):=by
       refine⟨_,ahg,λ i A=>?_⟩;by_cases ZM:i=n
       .left;rw[ZM,fE,fE];exact⟨rfl,rfl⟩
       .rw[gG ZM,gG ZM];have hz:∀(y:Nat),y∈[L.rm]->y=L.rm:=λ y G=>by simpa using G
        by_cases TM:i=j
        .right;rw[TM,fE,fE,HV];refine⟨v',ids',rfl,k82.W Uc λ y G B=>?_,λ y G=>?_⟩
         .rw[hz y B]at G;rcases k84 _ G with q|q
          .exact JF wF η q
          .exact absurd r1.lt (Te.2 q)
         .dsimp only;rcases k84 y G with q|q
          .rw[aq (ahl y q)];exact yj y q
          .rw[ao ω]
        .rw[gG TM,gG TM];rcases zR i A with h|⟨v,aL,p1,p2,p3⟩
         .exact .inl h
         .right;refine⟨v,aL,p1,(p2.W M7 λ y G B=>?_).W Uc λ y G B=>?_,λ y G=>?_⟩
          .have O:=p3 y G;have U:=yj y B;dsimp only at O U;rw[O]at U;simp at U;exact TM U
          .rw[hz y B]at G;have h9:c' L.rm=(8,i):=p3 _ G;rw[wF]at h9;cases h9
          .dsimp only;rw[aq (p2.lt y G)];exact p3 y G
      have ag3:I (Yj++[L.rm]) K7 qf:=(M7.mono λ x Z=>by simp[Z]).trans (Uc.mono ζ);have hO9:=hO8.aj7 ag3 (λ y G=>?_) atO
      .have atW:lp XS L.wm 3 X.N λ i=>uN (aM (aM (SV.eQ V r n).1.wait n false) j true i):=by
        have:(λ i=>uN (aM (aM (SV.eQ V r n).1.wait n false) j true i))=aM (aM (λ i=>uN ((SV.eQ V r n).1.wait i)) n none) j (some (bl true)):=by
         funext i;unfold aM;by_cases a1:i=j
         .simp[a1,uN]
         .by_cases a2:i=n
          .simp[a2,uN]
          .simp[a1,a2]
        rw[this];exact ahh
       have atK:=hO9.alF ag2 atW;obtain⟨q1,q2⟩:=SV.Ub hf hs;have tZ:I ([L.fs,L.a]++[L.s j,L.sm j]++[L.t j,L.tm j]++(Yj++[L.rm])++[L.wm]) C XS:=((((CT.mono λ x Z=>by simp at Z⊢;omega).trans (gU.mono λ x Z=>by simp at Z⊢;omega)).trans (gT7.mono λ x Z=>by simp at Z⊢;omega)).trans (ag3.mono λ x Z=>by simp at Z⊢;rcases Z with h|h<;>simp[h])).trans (ag2.mono λ x Z=>by simp at Z⊢;simp[Z]);have Em:∀y∈[L.fs,L.a]++[L.s j,L.sm j]++[L.t j,L.tm j]++(Yj++[L.rm])++[L.wm],(c' y).1<=8:=by
        intro y G;simp only[b_,cZ,xu,xD]at G;rcases G with(((((rfl|rfl)|(rfl|rfl))|(rfl|rfl))|(G|rfl))|rfl)
        .rw[L8];decide
        .rw[mT];decide
        .rw[(gR j d).1];simp
        .rw[(gR j d).2];simp
        .rw[(AP j d).1];simp
        .rw[(AP j d).2];simp
        .have h9:c' y=(8,j):=yj y G;rw[h9];simp
        .rw[wF];decide
        .rw[AQ];decide
       have yc:∀y,K.ab<=y->y<K2.ab->y∉[L.fs,L.a]++[L.s j,L.sm j]++[L.t j,L.tm j]++(Yj++[L.rm])++[L.wm]:=λ y O U B=>by have:=Em y B;rw[Qi y O U]at this;simp at this
       have n37:C.ab<=K7.ab:=aY CT.ab (aY gU.ab gT7.ab);refine ih (n+1) _ _ ω ⟨λ y=>if y<K7.ab then c' y else(8,j),?_,λ y O U=>?_,?_,UO.W tZ (λ y G=>yc y (hY y G) (by have:=sD y G;omega)),aY dw tZ.ab,u,by simp[R,q8,NG,JM,cr]⟩
       .rw[q1,q2];exact⟨_,_,_,_,_,_,_,_,_,_,{atK with}⟩
       .dsimp only;rw[aq ω];exact Qi y O U
       .have e3:(SV.eQ V r (n+1)).2=(SV.eQ V r n).2:=by rw[q1]
        rw[e3];exact hM.W tZ (yc _ rQ ω)
      .rw[b_]at G;rcases G with G|G
       .have h9:c' y=(8,j):=yj y G;refine .inr ⟨?_,?_⟩
        .show(if y<K7.ab then c' y else(8,j)).1=8;rw[aq (ahl y G),h9]
        .rcases kb y X.HB.ab with q|q
         .have h8:8<(c' y).1:=F.low y q;rw[h9]at h8;simp at h8
         .exact q
       .exact .inl (by simpa using G)
     .rw[m3,hs]at U;simp at U
   .have vv:¬((V.first n:Nat):Int)=(n:Int):=ω
    obtain⟨e1,e2⟩:=SV.Ua (c:=r) hf;simp[R,NG,JM,RB,u,cr,fG.get,ib,gq,p.ob.get,(p.vV w),(p.fs w).get,c4,vw,vv,bq kg];refine ih (n+1) _ _ ω ⟨c',?_,Qi,?_,UO,dw,u,by simp[R,q8,NG,JM,cr]⟩
    .rw[e1,e2];exact⟨_,_,_,_,_,_,_,_,_,_,p⟩
    .rw[e1];exact hM
  .obtain rfl:n=X.N:=ω
   subst cq;simp[JM,RB];exact rest _ _ c' (by simp[R]) ⟨_,_,_,_,_,_,_,_,_,_,p⟩
 clear hT
 .clear hQ;have h':=h;obtain⟨t,tn,tf,mn,mf,cn,cf,en,ef,dv,f⟩:=h';have bR:X.N*24<=140737488355328:=ω
  have eG:X.N<=9223372036854775807:=ω
  have fo:24*X.N<=140737488355328:=ω
  have mU:¬L.a=K.ab:=bC f.ob.lt;simp[f.ob.get,f.t1,Wi aee,eG,fo,wX,mU];generalize hKg:D.add K _=Kg;have gg0:I [] K Kg:=by rw[<-hKg];exact aw.add _
  have i2:Lv Kg K.ab (.cells X.N (Tr.px [.lit (.slice none 0 0)] 1 X.N 0 Tr.e) false):=by rw[<-hKg];exact Lv.new
  clear hKg;have i3:oN Kg K.ab (λ y=>K.ab<y) X.N λ _=>[]:=oN.init (λ x Z=>by rw[Bp,aq ω]) i2 ω;refine CA (λ j sl S=>I [] K S/\oN S K.ab (λ y=>K.ab<y) X.N (λ x=>if x<j then Hg V x else[])/\j<=X.N/\AV sl 0 (.ptr L.a 0)/\AV sl 2 (.sl K.ab 0 1 X.N X.N true)/\AV sl 23 (DC X.N L.nd cn en)/\AV sl 24 (ae (X.N:Nat))/\AV sl 25 (ae (j:Nat))) X.N ⟨gg0,i3.congr λ x Z=>ζ,dQ _,ζ⟩ ?_
  rintro b1 k1-cq j sl S ⟨gK,o,hj,s0,s2,dx,iO,yK⟩ ih;have P:=f.W gK ζ;by_cases d:j<X.N
  .have w:0<X.N:=FV d;have ix:j<maxLen:=by unfold maxLen;omega
   have c3:j<mn:=aT d P.Dn;have c4:j<mf:=aT d P.zw;obtain⟨tt,n1,n2,n3⟩:=P.n j d;by_cases hf:V.first j=j
   .have vw:=P.sC j d;rw[hf]at vw;simp[s0,dx,NR w,iO,yK,d,(P.nd w).get,c3,P.wS j d,P.ob.get,(P.vV w),(P.fs w).get,c4,vw,n1.get,n3];refine CW (Wl (P.t j d) (P.g_.W P.base)) ?_;rintro lv K2 ⟨⟨aL,z,hY⟩,g2⟩;have bA:=z.aZ.aN bK;rw[bW]at bA;simp[bA];have sD:=z.lt;have hKn:=gK.ab;have aHw:=o.lt;have oP:=(o.now (aj:=λ y=>K.ab<y/\y∉aL) (λ y G hp=>⟨hp,λ B=>by have:=hY y B;omega⟩) ζ).W g2 ζ;have bm:∀k∈jW (V.to j),k<X.N:=λ k Q=>htn j k ((Dm (P.t j d).wd).1 Q);have sJ:=Wk (V.to j);have kj:Hg V j=(jW (V.to j)).map λ k=>((V.first k:Nat):Int):=by unfold Hg;rw[aq hf]
    generalize jW (V.to j)=lo at z bA bm sJ kj;refine CA (λ m sl C=>I [] K C/\oN C K.ab (λ y=>K.ab<y/\y∉aL) X.N (λ x=>if x=j then(lo.take m).map (λ k=>((V.first k:Nat):Int))else if x<j then Hg V x else[])/\aX C 1 lv (aZ (iY lo)) aL/\K2.ab<=C.ab/\m<=lo.length/\AV sl 0 (.ptr L.a 0)/\AV sl 2 (.sl K.ab 0 1 X.N X.N true)/\AV sl 3 (ae (j:Nat))/\AV sl 23 (DC X.N L.nd cn en)/\AV sl 24 (ae (X.N:Nat))/\AV sl 25 (ae (j:Nat))/\AV sl 43 lv/\AV sl 44 (ae (lo.length:Nat))/\AV sl 45 (ae (m:Nat))) lo.length ⟨gK.trans g2,oP.congr λ x Z=>by by_cases e:x=j<;>simp[e],z,aF,dQ _,by simp[s0,s2,dx,iO,yK]⟩ ?_
    rintro b2 k2-dO m Hn C ⟨g3,o3,fF,n23,B,R,q2,q3,q23,q24,q25,q43,q44,q45⟩ eJ;have p:=f.W g3 ζ;by_cases ye:m<lo.length
    .obtain⟨uj,uB,tQ,exp,np,tp,uG,cp,cr,fG,ib,gq,jL⟩:=fF.aZ.gL (i:=m) (by rw[bW];exact ye);have qw:cp=ae ((lo[m]:Nat):Int):=by
      have:[cp]=[ae ((iY lo)[m]'(by rw[bW];exact ye))]:=jL
      simpa using this
     subst qw;rw[bW]at cr;have kJ:=bm _ (cG ye);have AZ:m<maxLen:=by unfold maxLen;omega
     have c5:lo[m]<mf:=aT kJ p.zw;obtain⟨t',u',ids',r1,r2,r3,r4,r5⟩:=o3.use d;have Ex:j+1<=X.N:=d;simp[-cX,R,q2,q3,q43,q44,q45,ye,cr,fG.get,ib,gq,d,r1.get,r2,p.ob.get,(p.vV w),kJ,(p.fs w).get,c5,p.sC _ kJ];have hnY:∀y∈ids',y∉aL:=λ y G=>(r4 y G).2;refine vL (c:=ae ((V.first lo[m]:Nat):Int)) bK qF r3 rfl (by simp[aZ];omega) (by simp[aZ];omega) ?_;intro v' K4 wP p1 p2 p3;have g4:I [] K K4:=ke g3 p2 λ y G=>by have:=(r4 y G).1;omega
     have Gq:=f.W g4 ζ;have r1':=r1.W p2 λ B=>o3.np (r4 _ B);have Ja:=fF.W p2 λ y G B=>hnY y B G;have n4:=p2.ab;simp;simp[p1.cell,p1.co,d,r1'.get,Ex,q45,bq AZ];have aHv:=o3.lt;have fH:=r5 K4 v' ((lo.take m).map (λ k=>((V.first k:Nat):Int))++[((V.first lo[m]:Nat):Int)]) wP p2 (by simpa[aZ]using p1) (λ y G=>(p3 y G).elim .inl λ q=>.inr ⟨q,ω,λ B=>by have:=sD y B;omega⟩);have ahd:I [K.ab] K4 (K4.put K.ab (some (.cells X.N (t'.put j (some v')) false))):=aw.put (.inr ζ);refine eJ ω ⟨ke g4 ahd ζ,fH.congr λ x Z=>?_,Ja.W ahd (λ y G B=>by have:=hY y G;simp at B;omega),by show _<=K4.ab;omega,ye,by simp[R,q2,q3,q23,q24,q25,q43,q44,cr]⟩;by_cases e:x=j
     .subst e;rw[aq rfl,aq rfl,KK ye,lF];rfl
     .simp[e]
    .obtain rfl:m=lo.length:=ω
     subst dO;rw[iF]at o3;simp[q44,q45,q25,bq ix];refine ih ω ⟨g3,(o3.now (aj:=λ y=>K.ab<y) (λ y _ hp=>hp.1) ω).congr λ x Z=>?_,d,by simp[R,q2,q23,q24]⟩;by_cases e:x=j
     .subst e;simp[kj]
     .have:(x<j+1)↔x<j:=ω
      simp[e,this]
   .have vw:=P.sC j d;have vv:¬((V.first j:Nat):Int)=(j:Int):=ω
    simp[s0,dx,NR w,iO,yK,d,(P.nd w).get,c3,P.wS j d,P.ob.get,(P.vV w),(P.fs w).get,c4,vw,vv,bq ix];refine ih ω ⟨gK,o.congr λ x Z=>?_,d,by simp[s0,s2,dx,iO]⟩;by_cases e:x=j
    .subst e;simp[Hg,hf]
    .have:(x<j+1)↔x<j:=ω
     simp[this]
  .obtain rfl:j=X.N:=ω
   subst cq;simp[iO,yK,s2];have hGI:=o.gi (lo:=0) (ex:=true) (g:=SV.rows V X.N) (λ y _=>dQ _) (by unfold maxLen;omega) Xh (λ i A=>by rw[akd A];rw[Xh]at A;simp[A]) (dQ _);refine CW (aoY hGI (by rw[Xh];exact hN) λ l z=>?_) ?_
   .obtain⟨i,A,rfl⟩:=rJ z;rw[akd A];unfold Hg;split
    .rw[bW];have:=Wk (V.to i);omega
    .simp
   rintro cv K5 ⟨⟨aL,hc,hY⟩,g5⟩;simp;exact rest _ cv aL K5 (by simp[s0]) ζ hc (λ y G=>by have:=hY y G;have:=gK.ab;omega) (gK.trans g5)
end
end
end Go.Proofs.YtgipmaoplfkdoaaGreatDoor
