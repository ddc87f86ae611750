import Derived.Test.YtgipmaoplfkdoaaGreatDoorM4
import Derived.Test.YtgipmaoplfkdoaaGreatDoorM5
set_option linter.all false
set_option maxRecDepth 100000
set_option maxHeartbeats 400000000
namespace Go.Proofs.YtgipmaoplfkdoaaGreatDoor
noncomputable section
open Go.RowKit
variable{L:List aI}{sv:J}{H:D}{a b:Code}
def HH(p:List aQ):Prop:=∀f b i x,At p f b i x->x.args.length<=1048576
section
variable{p:List aQ}{HB:D}{id mid:Nat}{vf:J}
structure DS(H K T:D):Prop where
 g:I [] H T
 c2:Lv T H.ab oK
 m:∃P,kW T (K.ab+1) P
 c6:∃t,Lv T (K.ab+2) (.cells 1 t false)/\AV t 0 (.map (K.ab+1))
def DS.W{H K T K2:D}(h:DS H K T)(g:I [] T K2):DS H K K2:=⟨h.g.trans g,h.c2.ai g,let⟨P,m⟩:=h.m;⟨P,m.W g ζ⟩,let⟨t,a,b⟩:=h.c6;⟨t,a.ai g,b⟩⟩
def azv(hw:lD HB p vf id mid)(Dd:HH p):sj 202 HB id False:=by
 intro H g;refine ba arK rfl λ Q' hQ=>?_;have⟨t',sY,w1,w2,w3⟩:=hw.ob;have ik:=w1.ai g;have h6:=hw.pr;simp[bC ik.lt,ik.get,w2,h6.aN nf];generalize aP:D.add _ _=H1;have a1:Lv H1 H.ab oK:=by rw[<-aP];exact Lv.new
 have gH:I [] H H1:=by rw[<-aP];exact(I.refl [] H).add _
 clear aP;refine CA (λ f sl K=>I [] H K/\Lv K H.ab oK/\AV sl 2 (.ptr H.ab 0)/\AV sl 21 vf/\AV sl 22 (ae p.length)/\AV sl 23 (ae f)/\f<=p.length) p.length ⟨gH,a1,ζ⟩ ?_
 rintro b1 k1-cq f sl K ⟨gK,c2,s2,l,d,e,kH⟩ sO;by_cases az:f<p.length
 .have⟨kQ,ig,kD,iR,n1,t1,py,kE,dc,cT,iy,eZ,eI⟩:=h6.at_ az;obtain⟨vp,vb,rfl,eY,S⟩:=eI;have iJ:=cT.ai (g.trans gK);have jN:p[f]?=some p[f]:=bf az;have z0:¬K.ab=K.ab+1+1:=ω
  have z1:¬K.ab+1=K.ab+1+1:=ω
  simp[l,d,e,az,dc,iJ.get,bY eZ,iy,eY.cell,S.cell,eY.aN fw,lk,eD,oC,z0];generalize dw:D.put _ _ _=K3;have g3:I [] K K3:=by rw[<-dw];exact(((((((I.refl [] K).add _).put (.inl aF)).add _).put (.inl ω)).put (.inl ω)).add _).put (.inl ω)
  have n3:K3.ab=K.ab+3:=by rw[<-dw];rfl
  obtain⟨t5,u,e5⟩:∃t5,Lv K3 K.ab (.cells 3 t5 false)/\AV t5 2 vb:=by rw[<-dw];exact⟨_,⟨ξ,by simp[z0];rfl⟩,ζ⟩
  have m3:kW K3 (K.ab+1) (λ s=>s=lT\/s=z_\/s∈p[f].params.take 0):=by
   rw[<-dw];refine⟨_,⟨⟨_,⟨ζ,by simp;exact⟨rfl,rfl⟩⟩⟩,?_,?_⟩,λ s=>?_⟩
   .intro x Z;simp[bQ]at Z;rcases Z with rfl|rfl<;>exact DQ _
   .simp[bQ]
   .by_cases O:s=lT
    .subst O;simp[cH,lk]
    .by_cases U:s=z_
     .subst U;simp[cH,lk]
     .have fj:¬lT=s:=λ h=>O h.symm;have fR:¬z_=s:=λ h=>U h.symm;simp[cH,lk,O,U,fj,fR]
  have c6:∃t,Lv K3 (K.ab+2) (.cells 1 t false)/\AV t 0 (.map (K.ab+1)):=by rw[<-dw];exact⟨_,⟨ζ,by simp;rfl⟩,ζ⟩
  clear dw;have hKn:=gK.ab;have k8:=c2.lt;have nv3:DS H K K3:=⟨gK.trans g3,c2.ai g3,⟨_,m3⟩,c6⟩;clear m3 c6;refine CA (λ j sl T=>DS H K T/\Lv T K.ab (.cells 3 t5 false)/\AV sl 2 (.ptr H.ab 0)/\AV sl 21 vf/\AV sl 22 (ae p.length)/\AV sl 23 (ae f)/\AV sl 4 (ae f)/\AV sl 5 (.ptr K.ab 0)/\AV sl 6 (.ptr (K.ab+2) 0)/\AV sl 31 vp/\AV sl 32 (ae p[f].params.length)/\AV sl 33 (ae j)/\j<=p[f].params.length) (p[f].params.length) ⟨nv3,u,by simp[s2,l,d,e,dc]⟩ ?_
  clear nv3 u g3 n3;rintro b2 k2-dO j sl K4 ⟨nv,u,s2,l,d,e,r,q,n,kU,jZ,Br,Ey⟩ eJ;have⟨t6,A,C⟩:=nv.c6;by_cases dK:j<p[f].params.length
  .have⟨uj,uB,tQ,exp,np,tp,uG,cp,cr,fG,ib,gq,⟨jL,gu⟩⟩:=eY.gL dK;cases jL;have Vc:=fG.ai (g.trans nv.g);have⟨P,mP⟩:=nv.m;have⟨cm,lm,B,qv,fO⟩:=mP.use p[f].params[j];simp[n,kU,jZ,Br,dK,cr,Vc.get,gq,ib,A.get,C,B.get,bq (aT dK eY.cP)];exact eJ ω ⟨⟨nv.g.put (.inl ω),nv.c2.eu ω,⟨_,fO _ _ B.put_eq⟩,t6,A.eu ω,C⟩,u.eu ω,by simp[s2,l,d,e,r,q,n,kU,jZ,cr,dz dK]⟩
  .obtain rfl:j=p[f].params.length:=ω
   subst dO;simp[jZ,Br,q,u.get,e5,S.aN nh];refine CA (λ b sl T=>DS H K T/\Lv T K.ab (.cells 3 t5 false)/\AV sl 2 (.ptr H.ab 0)/\AV sl 21 vf/\AV sl 22 (ae p.length)/\AV sl 23 (ae f)/\AV sl 4 (ae f)/\AV sl 5 (.ptr K.ab 0)/\AV sl 6 (.ptr (K.ab+2) 0)/\AV sl 41 vb/\AV sl 42 (ae p[f].blocks.length)/\AV sl 43 (ae b)/\b<=p[f].blocks.length) (p[f].blocks.length) ⟨nv,u,by simp[s2,l,d,e,r,q,n]⟩ ?_
   clear eJ nv u s2 l d e r q n kU jZ Br A C;rintro b3 k3-jU b sl K5 ⟨nv,u,s2,l,d,e,r,q,n,pW,Q,M,jM⟩ jg;by_cases y:b<p[f].blocks.length
   .have⟨lJ,lU,rN,kY,n2,t2,qW,mR,fp,ck,gV,iz,iv⟩:=S.at_ y;obtain⟨vc,rfl,z⟩:=iv;have kP:=ck.ai (g.trans nv.g);have CZ:=λ o o'=>I.new (I.refl [] K5) o o';simp[pW,Q,M,y,fp,kP.get,bY iz,gV,z.aN nT,z.cell];refine CA (λ i sl T=>DS H K T/\Lv T K.ab (.cells 3 t5 false)/\AV sl 2 (.ptr H.ab 0)/\AV sl 21 vf/\AV sl 22 (ae p.length)/\AV sl 23 (ae f)/\AV sl 4 (ae f)/\AV sl 5 (.ptr K.ab 0)/\AV sl 6 (.ptr (K.ab+2) 0)/\AV sl 41 vb/\AV sl 42 (ae p[f].blocks.length)/\AV sl 43 (ae b)/\AV sl 48 vc/\AV sl 49 (ae p[f].blocks[b].code.length)/\AV sl 50 (ae i)/\i<=p[f].blocks[b].code.length) (p[f].blocks[b].code.length) ⟨nv.W (CZ _ _),u.ai (CZ _ _),by simp[s2,l,d,e,r,q,n,pW,Q,M,fp]⟩ ?_
    rintro b4 k4-Qt i sl K6 ⟨nv,u,s2,l,d,e,r,q,n,pW,Q,M,yL,pX,vS,jf⟩ QU;have⟨t6,A,C⟩:=nv.c6;by_cases w:i<p[f].blocks[b].code.length
    .have⟨yy,Aa,xJ,wv,n3,t3,Bq,BV,jD,fF,mM,kh,f_⟩:=z.at_ w;obtain⟨va,vl,rfl,iU,fo,oi⟩:=f_;have qx:=fF.ai (g.trans nv.g);generalize p[f].blocks[b].code[i]=x at kh iU fo oi;have R:=λ o o'=>I.new (I.refl [] K6) o o';have⟨P,mP⟩:=nv.m;have⟨cm,lm,B,qv,fO⟩:=mP.use x.dst;simp[n,yL,pX,vS,w,jD,qx.get,bY kh,mM,iU.cell,fo.cell,bC A.lt,A.get,C,bC B.lt,B.get,bq (aT w z.cP)];exact QU ω ⟨⟨(nv.g.trans (R _ _)).put (.inl ω),(nv.c2.ai (R _ _)).eu ω,⟨_,fO _ _ ((B.ai (R _ _)).put_eq)⟩,t6,(A.ai (R _ _)).eu ω,C⟩,(u.ai (R _ _)).eu ω,by simp[s2,l,d,e,r,q,n,pW,Q,M,yL,pX,jD,dz w]⟩
    .obtain rfl:i=p[f].blocks[b].code.length:=ω
     subst Qt;simp[pX,vS,M,bq (aT y S.cP)];exact jg ω ⟨nv,u,by simp[s2,l,d,e,r,q,n,pW,Q,dz y]⟩
   .obtain rfl:b=p[f].blocks.length:=ω
    subst jU;simp[Q,M,q,u.get,e5,S.aN nh];refine CA (λ b sl T=>DS H K T/\AV sl 2 (.ptr H.ab 0)/\AV sl 21 vf/\AV sl 22 (ae p.length)/\AV sl 23 (ae f)/\AV sl 4 (ae f)/\AV sl 5 (.ptr K.ab 0)/\AV sl 6 (.ptr (K.ab+2) 0)/\AV sl 60 vb/\AV sl 61 (ae p[f].blocks.length)/\AV sl 62 (ae b)/\b<=p[f].blocks.length) (p[f].blocks.length) ⟨nv,by simp[s2,l,d,e,r,q,n]⟩ ?_
    clear jg nv u s2 l d e r q n pW Q M;rintro b5 k5-hk5 b sl K7 ⟨nv,s2,l,d,e,r,q,n,Ad,F,N,jM⟩ ih5;by_cases y:b<p[f].blocks.length
    .have⟨lJ,lU,rN,kY,n2,t2,qW,mR,fp,ck,gV,iz,iv⟩:=S.at_ y;obtain⟨vc,rfl,z⟩:=iv;have kP:=ck.ai (g.trans nv.g);have mX:p[f].blocks[b]?=some p[f].blocks[b]:=bf y;have gn7:=λ o o'=>I.new (I.refl [] K7) o o';simp[Ad,F,N,y,fp,kP.get,bY iz,gV,z.aN nT,z.cell];refine CA (λ i sl T=>DS H K T/\AV sl 2 (.ptr H.ab 0)/\AV sl 21 vf/\AV sl 22 (ae p.length)/\AV sl 23 (ae f)/\AV sl 4 (ae f)/\AV sl 5 (.ptr K.ab 0)/\AV sl 6 (.ptr (K.ab+2) 0)/\AV sl 60 vb/\AV sl 61 (ae p[f].blocks.length)/\AV sl 62 (ae b)/\AV sl 13 (ae b)/\AV sl 68 vc/\AV sl 69 (ae p[f].blocks[b].code.length)/\AV sl 70 (ae i)/\i<=p[f].blocks[b].code.length) (p[f].blocks[b].code.length) ⟨nv.W (gn7 _ _),by simp[s2,l,d,e,r,q,n,Ad,F,N,fp]⟩ ?_
     clear s2 l d e r q n Ad F N;rintro b6 k6-hk6 i sl K8 ⟨nv,s2,l,d,e,r,q,n,Ad,F,N,ez,s68,J,G,jf⟩ ih6;have⟨t6,A,C⟩:=nv.c6;by_cases w:i<p[f].blocks[b].code.length
     .have⟨yy,Aa,xJ,wv,n3,t3,Bq,BV,jD,fF,mM,kh,f_⟩:=z.at_ w;obtain⟨va,vl,rfl,iU,fo,oi⟩:=f_;have qx:=fF.ai (g.trans nv.g);have cQ:At p f b i p[f].blocks[b].code[i]:=⟨_,_,jN,mX,bf w⟩;have hsa:=Dd _ _ _ _ cQ;generalize p[f].blocks[b].code[i]=x at cQ kh iU fo oi hsa;have R:∀o o' o2,I [] K8 (((K8.add o).put K8.ab (some o')).add o2):=λ o o' o2=>(I.new (I.refl [] K8) o o').add o2;simp[s68,J,G,w,jD,qx.get,bY kh,mM,iU.cell,fo.cell,-cX];generalize LI:D.add _ _=K9;have g9:I [] K8 K9:=by rw[<-LI];exact R _ _ _
      obtain⟨t9,l9,e90,e91⟩:∃t9,Lv K9 (K8.ab+1) (.cells 2 t9 false)/\AV t9 0 (str x.a)/\AV t9 1 (str x.b):=by rw[<-LI];exact⟨_,Lv.new (H:=(K8.add _).put _ _),ζ⟩
      clear LI;have nv9:=nv.W g9;have⟨va2,qf,eap,oo,D_⟩:=am1 (a:=x.a) (b:=x.b) iU (g.trans nv9.g) hsa l9 e90 e91;rw[eap];have X:=nv9.W D_;have⟨pC,bo,aCI⟩:=X.c6;have⟨P,mP⟩:=X.m;simp[n];refine CW (Tz (p:=λ s=>!@decide (P s) (Classical.propDecidable _)) oo ?_) ?_
      .rintro s hs c K11 hg hc;cases hc;simp;refine(azu s (bo.ai hg) aCI (mP.W hg ζ)).mono ?_;rintro v T ⟨rfl,rfl⟩;exact⟨rfl,aw⟩
      .rintro v K11 ⟨rfl,hg⟩;have V:=X.W hg;cases wN:(x.a::x.b::x.args).any (λ s=>!@decide (P s) (Classical.propDecidable _)) with
       |true=>
        simp[s2,r,ez,V.c2.get]
        exact hQ ⟨f,b,i,true,rfl,λ _=>rfl,V.g.put (.inl aF)⟩
       |false=>
        simp[G,bq (aT w z.cP)]
        exact ih6 ω ⟨V,by simp[s2,l,d,e,r,q,n,Ad,F,N,ez,s68,J,jD,dz w]⟩
     .obtain rfl:i=p[f].blocks[b].code.length:=ω
      subst hk6;simp[J,G,N,bq (aT y S.cP)];exact ih5 ω ⟨nv,by simp[s2,l,d,e,r,q,n,Ad,F,dz y]⟩
    .obtain rfl:b=p[f].blocks.length:=ω
     subst hk5;simp[F,N,e,bq (aT az h6.cP)];exact sO ω ⟨nv.g,nv.c2,by simp[s2,l,d,dz az]⟩
 .obtain rfl:f=p.length:=ω
  subst cq;simp[d,e,s2,c2.get];exact hQ ⟨0,0,0,false,rfl,λ h=>h.elim,gK.put (.inl aF)⟩
end
section
variable{α:Type}{H:D}{sv:J}
def awM{R:aI->AU->Prop}(a:aI)(g:aW H 1 R sv L)(B:∀x M,R x M->M=[str x]):CN 257 [sv,str a] H λ v H'=>v=ae (idxOf (λ x=>decide (a=x)) L)/\H'=H:=by
 refine ba asx rfl λ C r=>?_
 simp[g.aN fw]
 refine CA (λ i sl K=>K=H/\(∀j (h:j<L.length),j<i->decide (a=L[j])=false)/\AV sl 0 sv/\AV sl 1 (str a)/\AV sl 7 (ae L.length)/\AV sl 8 (ae i)/\i<=L.length) L.length ⟨rfl,λ j _ h=>ω,ζ⟩ ?_
 rintro b kk-Q i sl K ⟨rfl,l,q,o,f,m,A⟩ y
 by_cases d:i<L.length
 .obtain⟨id,ah,ax,ex,n,t,ro,c,rfl,e,u,s,w⟩:=g.gL d
  have z:=B _ _ w;cases z;have:=g.cP;by_cases he:a=L[i]
  .simp[q,o,f,m,d,e.get,s,u,<-he];refine r ⟨?_,rfl⟩;rw[MV d (by simp[he]) l]
  .simp[q,o,f,m,d,e.get,s,u,he,bq (aT d this)];refine y ω ⟨rfl,λ j h e=>?_,by simp[q,o,f,dz d]⟩;rcases pH.1 e with O|rfl
   .exact l j h O
   .simp[he]
 .obtain rfl:i=L.length:=ω
  subst Q;simp[f,m];refine r ⟨?_,rfl⟩;rw[QT λ j h=>l j h h]
def awL{R:Int->AU->Prop}{L:BW}(a:Int)(g:aW H 1 R sv L)(B:∀x M,R x M->M=[ae x]):CN 152 [sv,ae a] H λ v H'=>v=ae (idxOf (λ x=>decide (a=x)) L)/\H'=H:=by
 refine ba aq5 rfl λ C r=>?_
 simp[g.aN bK]
 refine CA (λ i sl K=>K=H/\(∀j (h:j<L.length),j<i->decide (a=L[j])=false)/\AV sl 0 sv/\AV sl 1 (ae a)/\AV sl 7 (ae L.length)/\AV sl 8 (ae i)/\i<=L.length) L.length ⟨rfl,λ j _ h=>ω,ζ⟩ ?_
 rintro b kk-Q i sl K ⟨rfl,l,q,o,f,m,A⟩ y
 by_cases d:i<L.length
 .obtain⟨id,ah,ax,ex,n,t,ro,c,rfl,e,u,s,w⟩:=g.gL d
  have z:=B _ _ w;cases z;have:=g.cP;by_cases he:a=L[i]
  .simp[q,o,f,m,d,e.get,s,u,<-he];refine r ⟨?_,rfl⟩;rw[MV d (by simp[he]) l]
  .simp[q,o,f,m,d,e.get,s,u,he,bq (aT d this)];refine y ω ⟨rfl,λ j h e=>?_,by simp[q,o,f,dz d]⟩;rcases pH.1 e with O|rfl
   .exact l j h O
   .simp[he]
 .obtain rfl:i=L.length:=ω
  subst Q;simp[f,m];refine r ⟨?_,rfl⟩;rw[QT λ j h=>l j h h]
def ZB{R:aI->AU->Prop}(a:aI)(c:aW H 1 R sv L)(d:∀x M,R x M->M=[str x]):CN 207 [sv,str a] H λ v H'=>v=bl (L.any λ x=>decide (a=x))/\H'=H:=by
 refine ba arP rfl λ g f=>?_
 simp
 refine CW (awM a c d) ?_
 rintro v H' ⟨rfl,rfl⟩
 have e:decide (0<=idxOf (λ x=>decide (a=x)) L)=L.any λ x=>decide (a=x):=by rw[qH,rK];exact VZ
 simp[e]
 exact f ⟨rfl,rfl⟩
end
def KY{R:aI->AU->Prop}{operand:Bool}{l:List aI}(f:aW H 1 R sv l)(i:∀x M,R x M->M=[str x]):CN 235 [bl operand,sv] H λ v H'=>v=bl (l.any (wo operand))/\I [] H H':=by
 refine ba ar8 rfl λ m j=>?_
 simp
 have g:I [] H (H.add (.cells 1 (Tr.e.put 0 (some (bl operand))) false)):=aw.add _
 refine CW (Tz (p:=wo operand) (f.fZ g) ?_) ?_
 .rintro x Z c K d h
  cases i _ _ h;simp;refine(ano operand x K (id:=H.ab) (t:=Tr.e.put 0 (some (bl operand))) (ro:=false) ?_ ζ).mono ?_
  .rw[d.get _ (sx _) ζ,PN]
  .rintro v T ⟨rfl,rfl⟩;exact⟨rfl,aw⟩
 .rintro v H' ⟨rfl,d⟩
  simp;exact j ⟨rfl,g.trans d⟩
def ans(s:aI)(H:D):CN 234 [str s] H λ v H'=>v=bl (!mZ s)/\H'=H:=by refine ba ar7 rfl λ d c=>?_;simp[cE (M4 _ _)];exact c ⟨rfl,rfl⟩
section
variable{E:aK}{k:List fg}{Y:aE}{H:D}{aj:dE->aE->D->Prop}
def Kn(aR:aE->D->Prop)(O:∀c:dE->aE->D->Prop,(∀an H',aR an H'->c .normal an H')->aD E [.code a] Y H c)(U:∀an H',aR an H'->aD E (.code b::k) an H' aj):aD E (.code (.seq a b)::k) Y H aj:=HC.2 (Ap 1 aR (λ c h=>O c h) U)
end
def gI(l:AT)(s s':CX):Prop:=∀n∈l,s'.get n=s.get n
def gI.refl(l:AT)(s:CX):gI l s s:=λ _ _=>rfl
def gI.put{l:AT}{s s':CX}(h:gI l s s'){n:Nat}{v:Option J}(c:n∉l):gI l s (s'.put n v):=λ m B=>by rw[Tr.eR,ao (by rintro rfl;exact c B)];exact h m B
theorem gI.trans{l:AT}{s s' s2:CX}(h:gI l s s')(U:gI l s' s2):gI l s s2:=λ m B=>(U m B).trans (h m B)
def K_(s:iE)(x:bp):Bool:=s.dst&&wo false x.dst
def Ih(s:iE)(x:bp):Bool:=K_ s x||(s.fn&&wo false x.fn)
def Ii(s:iE)(x:bp):Bool:=Ih s x||(s.a&&wo true x.a)
def Ij(s:iE)(x:bp):Bool:=Ii s x||(s.b&&wo true x.b)
def F_(s:iE)(x:bp):Bool:=Ij s x||(s.args&&(x.args.any (wo true)||x.args.any λ y=>decide (lT=y)))
def D2(s:iE)(x:bp):Bool:=F_ s x||(s.eh&&(x.eh.any (wo false)||x.eh.any λ y=>decide (lT=y)))
def Dv(x:bp):Bool:=D2 ((uJ x.op).getD JW) x
section
variable{p:List aQ}{HB:D}{id mid:Nat}{vf:J}
def Du(fn:aQ):Bool:=!mZ fn.name||fn.params.any λ s=>!mZ s
def XO(p:List aQ):Prop:=∃(f b:Nat) (fn:aQ) (bk:cU),p[f]?=some fn/\fn.blocks[b]?=some bk/\mZ bk.label=false
def XN(p:List aQ):Prop:=∃(f:Nat) (fn:aQ),p[f]?=some fn/\Du fn=true
def ant(hw:lD HB p vf id mid)(Ji:HG HB mid):sj 188 HB id (XN p\/XO p\/jF p λ _ _ _ x=>Dv x):=by
 intro H g;refine ba aru rfl λ N t=>?_;have⟨t',sY,w1,w2,w3⟩:=hw.ob;have⟨cm,lm,s1,s2x⟩:=Ji;have ik:=w1.ai g;have h6:=hw.pr;simp[bC ik.lt,ik.get,w2,h6.aN nf];generalize aP:D.add _ _=H1;have a1:Lv H1 H.ab oK:=by rw[<-aP];exact Lv.new
 have gH:I [] H H1:=by rw[<-aP];exact(I.refl [] H).add _
 clear aP;refine CA (λ f sl K=>I [] H K/\Lv K H.ab oK/\(∀(f':Nat) (fn:aQ),p[f']?=some fn->f'<f->Du fn=false/\∀bk∈fn.blocks,mZ bk.label=true)/\lC p (λ _ _ _ x=>Dv x) f 0 0/\AV sl 0 (.ptr id 0)/\AV sl 2 (.ptr H.ab 0)/\AV sl 16 vf/\AV sl 17 (ae p.length)/\AV sl 18 (ae f)/\f<=p.length) p.length ⟨gH,a1,λ f' x _ h=>ω,lC.zero,ζ⟩ ?_
 rintro b1 k1-cq f sl K ⟨gK,c2,nF,U,P,s2,Q,J,G,kH⟩ sO;by_cases az:f<p.length
 .have⟨kQ,ig,kD,iR,n1,t1,py,kE,dc,cT,iy,eZ,eI⟩:=h6.at_ az;obtain⟨vp,vb,rfl,eY,bR⟩:=eI;have iJ:=cT.ai (g.trans gK);have jN:p[f]?=some p[f]:=bf az;have Ly:=λ o o'=>I.new (I.refl [] K) o o';have stF:∀(T:D) (o2:Option AO),I [] K T->Du p[f]=true->N (.dh [wV f 0 0,bl true]) (T.put H.ab o2):=λ T o2 gk h=>t ⟨f,0,0,true,rfl,λ _=>rfl,(gK.trans gk).put (.inl aF)⟩;have eN:=bC c2.lt;cases hn:mZ p[f].name with
  |false=>
   simp[s2,Q,J,G,az,dc,iJ.get,bY eZ,iy,eY.cell,bR.cell,cE (M4 _ _),hn,eN,c2.get]
   exact stF _ _ (Ly _ _) (by simp[Du,hn])
  |true=>
  simp[Q,J,G,az,dc,iJ.get,bY eZ,iy,eY.cell,bR.cell,cE (M4 _ _),hn];generalize kO:D.put _ _ _=K2;have g2:I [] K K2:=by rw[<-kO];exact Ly _ _
  obtain⟨t5,l5,e5⟩:∃t5,Lv K2 K.ab (.cells 3 t5 false)/\AV t5 2 vb:=by rw[<-kO];exact⟨_,Lv.new.put_eq,ζ⟩
  clear kO;refine CW (Tz (p:=λ s=>!mZ s) (eY.fZ (g.trans (gK.trans g2))) ?_) ?_
  .rintro s w c K3 hg ⟨e,_⟩;cases e;simp;refine(ans s K3).mono ?_;rintro v T ⟨rfl,rfl⟩;exact⟨rfl,aw⟩
  rintro v K3 ⟨rfl,g3⟩;have c23:=c2.ai (g2.trans g3);cases qy:(p[f].params.any λ s=>!mZ s)with
  |true=>
   simp[s2,c23.get]
   exact stF _ _ (g2.trans g3) (by simp only[Du,qy,Kv])
  |false=>
  have hqf:Du p[f]=false:=by simp only[Du,hn,qy];rfl
  simp[(l5.ai g3).get,e5,bR.aN nh];refine CA (λ b sl K=>I [] H K/\Lv K H.ab oK/\(∀(b':Nat) bk,p[f].blocks[b']?=some bk->b'<b->mZ bk.label=true)/\lC p (λ _ _ _ x=>Dv x) f b 0/\AV sl 0 (.ptr id 0)/\AV sl 2 (.ptr H.ab 0)/\AV sl 16 vf/\AV sl 17 (ae p.length)/\AV sl 18 (ae f)/\AV sl 4 (ae f)/\AV sl 35 vb/\AV sl 36 (ae p[f].blocks.length)/\AV sl 37 (ae b)/\b<=p[f].blocks.length) (p[f].blocks.length) ⟨gK.trans (g2.trans g3),c23,λ b' x _ h=>ω,U,by simp[P,s2,Q,J,G,dc]⟩ ?_
  rintro b2 k2-dO b sl K4 ⟨pJ,Tv,nB,U,P,s2,Q,J,G,s4,w9,rY,lN,jM⟩ eJ;by_cases dp:b<p[f].blocks.length
  .have⟨lJ,lU,rN,kY,n2,t2,qW,mR,fp,ck,gV,iz,iv⟩:=bR.at_ dp;obtain⟨vc,rfl,bX⟩:=iv;have kP:=ck.ai (g.trans pJ);have mX:p[f].blocks[b]?=some p[f].blocks[b]:=bf dp;have gn4:=λ o o'=>I.new (I.refl [] K4) o o';cases vB:mZ p[f].blocks[b].label with
   |false=>
    simp[s2,s4,w9,rY,lN,dp,fp,kP.get,bY iz,gV,bX.cell,cE (M4 _ _),vB,bC Tv.lt,Tv.get]
    exact t ⟨f,b,0,true,rfl,λ _=>rfl,(pJ.trans (gn4 _ _)).put (.inl aF)⟩
   |true=>
   simp[w9,rY,lN,dp,fp,kP.get,bY iz,gV,bX.cell,cE (M4 _ _),vB,bX.aN nT];refine CA (λ i sl K=>I [] H K/\Lv K H.ab oK/\lC p (λ _ _ _ x=>Dv x) f b i/\AV sl 0 (.ptr id 0)/\AV sl 2 (.ptr H.ab 0)/\AV sl 16 vf/\AV sl 17 (ae p.length)/\AV sl 18 (ae f)/\AV sl 4 (ae f)/\AV sl 35 vb/\AV sl 36 (ae p[f].blocks.length)/\AV sl 37 (ae b)/\AV sl 6 (ae b)/\AV sl 50 vc/\AV sl 51 (ae p[f].blocks[b].code.length)/\AV sl 52 (ae i)/\i<=p[f].blocks[b].code.length) (p[f].blocks[b].code.length) ⟨pJ.trans (gn4 _ _),Tv.ai (gn4 _ _),U,by simp[P,s2,Q,J,G,s4,w9,rY,lN,fp]⟩ ?_
   clear U P s2 Q J G s4 w9 rY lN;rintro b3 k3-jU i sl X ⟨zz,c25,U,P,s2,Q,J,G,s4,w9,rY,lN,s6,vS,Hj,JT,jf⟩ jg;by_cases du:i<p[f].blocks[b].code.length
   .have⟨yy,Aa,xJ,wv,n3,t3,Bq,BV,jD,fF,mM,kh,f_⟩:=bX.at_ du;obtain⟨va,vl,rfl,iU,fo,oi⟩:=f_;have qx:=fF.ai (g.trans zz);have cQ:At p f b i p[f].blocks[b].code[i]:=⟨_,_,jN,mX,bf du⟩;generalize p[f].blocks[b].code[i]=x at cQ kh iU fo oi;refine Kn (Bf 188 140 λ s' H'=>gI [0,2,4,6,16,17,18,35,36,37,50,51,52] sl s'/\H'=X/\s'.get 53=some (bl true)) ?_ ?_
    .intro N t;simp[Hj,JT,du];exact t _ _ ⟨_,rfl,(gI.refl _ _).put η,rfl,ζ⟩
    rintro _ X ⟨S,rfl,d,rfl,sZ⟩;refine Kn (Bf 188 140 λ s' H'=>gI [0,2,4,6,16,17,18,35,36,37,50,51,52] sl s'/\H'=X) ?_ ?_
    .intro N t;simp[sZ];exact t _ _ ⟨_,rfl,d,rfl⟩
    rintro _ X ⟨S,rfl,d,rfl⟩;rw[HC,aeC];refine Kn (Bf 188 140 λ s' H'=>gI [0,2,4,6,16,17,18,35,36,37,50,51,52] sl s'/\I [] X H'/\CI H' X.ab x va vl/\s'.get 8=some (ae i)/\s'.get 9=some (.ptr X.ab 0)) ?_ ?_
    .intro N t;simp[(d 50 η),vS,(d 52 η),JT,du,jD,qx.get,bY kh,mM,iU.cell,fo.cell];exact t _ _ ⟨_,rfl,by repeat (first|exact d|refine gI.put ?_ η),I.new aw _ _,⟨_,Lv.new.put_eq,ζ⟩,ζ,ζ⟩
    clear d;rintro _ K6 ⟨S,rfl,d,zx,⟨ti,ci⟩,u,m⟩;have w16:=w1.ai (g.trans (zz.trans zx));have akj:=s1.ai (g.trans (zz.trans zx));have V:=s2x x.op;refine Kn (Bf 188 140 λ s' H'=>gI [0,2,4,6,16,17,18,35,36,37,50,51,52] sl s'/\I [] K6 H'/\CS H' K6.ab ((uJ x.op).getD JW)/\s'.get 8=some (ae i)/\s'.get 9=some (.ptr X.ab 0)/\s'.get 10=some (.ptr K6.ab 0)) ?_ ?_
    .intro N t;cases zS:uJ x.op with
     |none=>
      rw[zS]at V
      have iW:lk (.int .u8 x.op) lm=none:=by simpa[cH]using V
      simp[(d 0 η),P,m,w16.get,w3,akj.get,ci.1.get,ci.2.1,iW]
      exact t _ _ ⟨_,rfl,by repeat (first|exact d|refine gI.put ?_ η),I.new aw _ _,⟨_,Lv.new.put_eq,by simp[zS,JW]⟩,by simp[u],by simp[m],ζ⟩
     |some sh=>
      rw[zS]at V
      obtain⟨bb,iW⟩:∃bb,lk (.int .u8 x.op) lm=some (bb,.agg sh.M):=by unfold cH at V;cases ck:lk (.int .u8 x.op) lm with|none=>rw[ck]at V;cases V|some q=>rw[ck]at V;have⟨q1,q2⟩:=q;simp at V;exact⟨q1,by rw[V]⟩
      simp[(d 0 η),P,m,w16.get,w3,akj.get,ci.1.get,ci.2.1,iW,iE.M]
      exact t _ _ ⟨_,rfl,by repeat (first|exact d|refine gI.put ?_ η),I.new aw _ _,⟨_,Lv.new.put_eq,by simp[zS]⟩,by simp[u],by simp[m],ζ⟩
    clear d u m;rintro _ W ⟨S,rfl,d,g69,⟨ts,M⟩,u,m,n⟩;have AK:=zz.trans (zx.trans g69);have c29:=c25.ai (zx.trans g69);have hqx:Dv x=D2 ((uJ x.op).getD JW) x:=rfl;replace ci:=And.intro (ci.1.ai g69) ci.2;generalize(uJ x.op).getD JW=sh at M hqx;generalize X.ab=m9 at ci m;generalize K6.ab=Bg at M n;refine Kn (Bf 188 140 λ s' H'=>gI [0,2,4,6,16,17,18,35,36,37,50,51,52] sl s'/\I [] W H'/\s'.get 8=some (ae i)/\s'.get 9=some (.ptr m9 0)/\s'.get 10=some (.ptr Bg 0)/\s'.get 11=some (bl (Ij sh x))) ?_ ?_
    .intro N t;show aD E0 [.code _] _ _ _;rw[Xn];obtain⟨F,hKs,gs⟩:∃F,F=W/\I [] W F:=⟨W,rfl,aw⟩;rw[<-hKs];refine xj 9 (Bf 188 140 λ s' H'=>gI [0,2,4,6,16,17,18,35,36,37,50,51,52] sl s'/\I [] W H'/\s'.get 8=some (ae i)/\s'.get 9=some (.ptr m9 0)/\s'.get 10=some (.ptr Bg 0)/\s'.get 72=some (bl (K_ sh x))) ?_ ?_
     .intro N t;have B:=M.1.ai gs;have C:=ci.1.ai gs;cases w:sh.dst with
      |false=>simp[m,n,w,B.get,M.2.1];(refine t _ _ ⟨_,rfl,?_,gs,?_,?_,?_,?_⟩;(·repeat (first|refine gI.put ?_ η|exact d));(· simp[u]);(· simp[m]);(· simp[n]);(· simp[K_,w]))|true=>
      simp[m,n,w,B.get,M.2.1,C.get,ci.2.2.1];have gz:=λ o=>(I.refl [] F).add o;refine CW (KY (R:=SR) (operand:=false) (l:=[x.dst]) (aW.row (L:=[x.dst]) Lv.new ζ (λ i A=>by simp at A;subst A;simp) ζ (by unfold maxLen;simp)) λ _ _ h=>h) ?_;rintro v Kz ⟨rfl,z⟩;simp;(refine t _ _ ⟨_,rfl,?_,gs.trans ((gz _).trans z),?_,?_,?_,?_⟩;(·repeat (first|refine gI.put ?_ η|exact d));(· simp[u]);(· simp[m]);(· simp[n]);(· simp[K_,w]))
     clear d u m n gs;rintro _ F ⟨S,rfl,d,gs,u,m,n,y⟩;refine xj 10 (Bf 188 140 λ s' H'=>gI [0,2,4,6,16,17,18,35,36,37,50,51,52] sl s'/\I [] W H'/\s'.get 8=some (ae i)/\s'.get 9=some (.ptr m9 0)/\s'.get 10=some (.ptr Bg 0)/\s'.get 82=some (bl (Ih sh x))) ?_ ?_
     .intro N t;have B:=M.1.ai gs;have C:=ci.1.ai gs;cases r:K_ sh x with
      |true=>simp[m,n,r,y];(refine t _ _ ⟨_,rfl,?_,gs,?_,?_,?_,?_⟩;(·repeat (first|refine gI.put ?_ η|exact d));(· simp[u]);(· simp[m]);(· simp[n]);(· simp[Ih,r]))|false=>
      cases w:sh.fn with
      |false=>simp[m,n,r,y,w,B.get,M.2.2.2.2.2.1];(refine t _ _ ⟨_,rfl,?_,gs,?_,?_,?_,?_⟩;(·repeat (first|refine gI.put ?_ η|exact d));(· simp[u]);(· simp[m]);(· simp[n]);(· simp[Ih,r,w]))|true=>
      simp[m,n,r,y,w,B.get,M.2.2.2.2.2.1,C.get,ci.2.2.2.2.2.2.1];have gz:=λ o=>(I.refl [] F).add o;refine CW (KY (R:=SR) (operand:=false) (l:=[x.fn]) (aW.row (L:=[x.fn]) Lv.new ζ (λ i A=>by simp at A;subst A;simp) ζ (by unfold maxLen;simp)) λ _ _ h=>h) ?_;rintro v Kz ⟨rfl,z⟩;simp[r,y];(refine t _ _ ⟨_,rfl,?_,gs.trans ((gz _).trans z),?_,?_,?_,?_⟩;(·repeat (first|refine gI.put ?_ η|exact d));(· simp[u]);(· simp[m]);(· simp[n]);(· simp[Ih,r,w]))
     clear y d u m n gs;rintro _ F ⟨S,rfl,d,gs,u,m,n,y⟩;refine xj 10 (Bf 188 140 λ s' H'=>gI [0,2,4,6,16,17,18,35,36,37,50,51,52] sl s'/\I [] W H'/\s'.get 8=some (ae i)/\s'.get 9=some (.ptr m9 0)/\s'.get 10=some (.ptr Bg 0)/\s'.get 92=some (bl (Ii sh x))) ?_ ?_
     .intro N t;have B:=M.1.ai gs;have C:=ci.1.ai gs;cases r:Ih sh x with
      |true=>simp[m,n,r,y];(refine t _ _ ⟨_,rfl,?_,gs,?_,?_,?_,?_⟩;(·repeat (first|refine gI.put ?_ η|exact d));(· simp[u]);(· simp[m]);(· simp[n]);(· simp[Ii,r]))|false=>
      cases w:sh.a with
      |false=>simp[m,n,r,y,w,B.get,M.2.2.1];(refine t _ _ ⟨_,rfl,?_,gs,?_,?_,?_,?_⟩;(·repeat (first|refine gI.put ?_ η|exact d));(· simp[u]);(· simp[m]);(· simp[n]);(· simp[Ii,r,w]))|true=>
      simp[m,n,r,y,w,B.get,M.2.2.1,C.get,ci.2.2.2.1];have gz:=λ o=>(I.refl [] F).add o;refine CW (KY (R:=SR) (operand:=true) (l:=[x.a]) (aW.row (L:=[x.a]) Lv.new ζ (λ i A=>by simp at A;subst A;simp) ζ (by unfold maxLen;simp)) λ _ _ h=>h) ?_;rintro v Kz ⟨rfl,z⟩;simp[r,y];(refine t _ _ ⟨_,rfl,?_,gs.trans ((gz _).trans z),?_,?_,?_,?_⟩;(·repeat (first|refine gI.put ?_ η|exact d));(· simp[u]);(· simp[m]);(· simp[n]);(· simp[Ii,r,w]))
     clear y d u m n gs;rintro _ F ⟨S,rfl,d,gs,u,m,n,y⟩;have B:=M.1.ai gs;have C:=ci.1.ai gs;cases r:Ii sh x with
     |true=>simp[m,n,r,y];(refine t _ _ ⟨_,rfl,?_,gs,?_,?_,?_,?_⟩;(·repeat (first|refine gI.put ?_ η|exact d));(· simp[u]);(· simp[m]);(· simp[n]);(· simp[Ij,r]))|false=>
     cases w:sh.b with
     |false=>simp[m,n,r,y,w,B.get,M.2.2.2.1];(refine t _ _ ⟨_,rfl,?_,gs,?_,?_,?_,?_⟩;(·repeat (first|refine gI.put ?_ η|exact d));(· simp[u]);(· simp[m]);(· simp[n]);(· simp[Ij,r,w]))|true=>
     simp[m,n,r,y,w,B.get,M.2.2.2.1,C.get,ci.2.2.2.2.1];have gz:=λ o=>(I.refl [] F).add o;refine CW (KY (R:=SR) (operand:=true) (l:=[x.b]) (aW.row (L:=[x.b]) Lv.new ζ (λ i A=>by simp at A;subst A;simp) ζ (by unfold maxLen;simp)) λ _ _ h=>h) ?_;rintro v Kz ⟨rfl,z⟩;simp[r,y];(refine t _ _ ⟨_,rfl,?_,gs.trans ((gz _).trans z),?_,?_,?_,?_⟩;(·repeat (first|refine gI.put ?_ η|exact d));(· simp[u]);(· simp[m]);(· simp[n]);(· simp[Ij,r,w]))
    clear d u m n;rintro _ F ⟨S,rfl,d,gs,u,m,n,y⟩;refine Kn (Bf 188 140 λ s' H'=>gI [0,2,4,6,16,17,18,35,36,37,50,51,52] sl s'/\I [] W H'/\s'.get 8=some (ae i)/\s'.get 9=some (.ptr m9 0)/\s'.get 10=some (.ptr Bg 0)/\s'.get 11=some (bl (D2 sh x))) ?_ ?_
    .intro N t;show aD E0 [.code _] _ _ _;rw[Xn];refine xj 16 (Bf 188 140 λ s' H'=>gI [0,2,4,6,16,17,18,35,36,37,50,51,52] sl s'/\I [] W H'/\s'.get 8=some (ae i)/\s'.get 9=some (.ptr m9 0)/\s'.get 10=some (.ptr Bg 0)/\s'.get 117=some (bl (F_ sh x))) ?_ ?_
     .intro N t;have B:=M.1.ai gs;have C:=ci.1.ai gs;cases r:Ij sh x with
      |true=>simp[m,n,r,y];(refine t _ _ ⟨_,rfl,?_,gs,?_,?_,?_,?_⟩;(·repeat (first|refine gI.put ?_ η|exact d));(· simp[u]);(· simp[m]);(· simp[n]);(· simp[F_,r]))|false=>
      cases w:sh.args with
      |false=>simp[m,n,r,y,w,B.get,M.2.2.2.2.2.2.1];(refine t _ _ ⟨_,rfl,?_,gs,?_,?_,?_,?_⟩;(·repeat (first|refine gI.put ?_ η|exact d));(· simp[u]);(· simp[m]);(· simp[n]);(· simp[F_,r,w]))|true=>
      simp[m,n,r,y,w,B.get,M.2.2.2.2.2.2.1,C.get,ci.2.2.2.2.2.2.2.1];refine CW (KY (operand:=true) (iU.fZ (g.trans (AK.trans gs))) λ _ _ h=>h.1) ?_;rintro v Kz ⟨rfl,z⟩;have Zx:=C.ai z;cases hb:x.args.any (wo true)with
      |true=>
       simp[m]
       (refine t _ _ ⟨_,rfl,?_,gs.trans z,?_,?_,?_,?_⟩;(·repeat (first|refine gI.put ?_ η|exact d));(· simp[u]);(· simp[m]);(· simp[n]);(· simp only[F_,r,w,hb];simp))
      |false=>
       simp[m,Zx.get,ci.2.2.2.2.2.2.2.1,cE ((ZB lT (iU.fZ (g.trans (AK.trans (gs.trans z)))) λ _ _ h=>h.1).mono λ _ _ h=>⟨h.2,h.1⟩)]
       (refine t _ _ ⟨_,rfl,?_,gs.trans z,?_,?_,?_,?_⟩;(·repeat (first|refine gI.put ?_ η|exact d));(· simp[u]);(· simp[m]);(· simp[n]);(· simp only[F_,r,w,hb];simp))
     clear y d u m n gs;rintro _ F ⟨S,rfl,d,gs,u,m,n,y⟩;have B:=M.1.ai gs;have C:=ci.1.ai gs;cases r:F_ sh x with
     |true=>simp[m,n,r,y];(refine t _ _ ⟨_,rfl,?_,gs,?_,?_,?_,?_⟩;(·repeat (first|refine gI.put ?_ η|exact d));(· simp[u]);(· simp[m]);(· simp[n]);(· simp[D2,r]))|false=>
     cases w:sh.eh with
     |false=>simp[m,n,r,y,w,B.get,M.2.2.2.2.2.2.2];(refine t _ _ ⟨_,rfl,?_,gs,?_,?_,?_,?_⟩;(·repeat (first|refine gI.put ?_ η|exact d));(· simp[u]);(· simp[m]);(· simp[n]);(· simp[D2,r,w]))|true=>
     simp[m,n,r,y,w,B.get,M.2.2.2.2.2.2.2,C.get,ci.2.2.2.2.2.2.2.2];refine CW (KY (operand:=false) (fo.fZ (g.trans (AK.trans gs))) λ _ _ h=>h.1) ?_;rintro v Kz ⟨rfl,z⟩;have Zx:=C.ai z;cases hb:x.eh.any (wo false)with
     |true=>
      simp[m,r,y]
      (refine t _ _ ⟨_,rfl,?_,gs.trans z,?_,?_,?_,?_⟩;(·repeat (first|refine gI.put ?_ η|exact d));(· simp[u]);(· simp[m]);(· simp[n]);(· simp only[D2,r,w,hb];simp))
     |false=>
      simp[m,r,y,Zx.get,ci.2.2.2.2.2.2.2.2,cE ((ZB lT (fo.fZ (g.trans (AK.trans (gs.trans z)))) λ _ _ h=>h.1).mono λ _ _ h=>⟨h.2,h.1⟩)]
      (refine t _ _ ⟨_,rfl,?_,gs.trans z,?_,?_,?_,?_⟩;(·repeat (first|refine gI.put ?_ η|exact d));(· simp[u]);(· simp[m]);(· simp[n]);(· simp only[D2,r,w,hb];simp))
    clear y d u m n gs;rintro _ F ⟨S,rfl,d,gs,u,m,n,y⟩;have c2s:=c29.ai gs;cases wN:D2 sh x with
    |true=>
     simp[y,wN,(d 2 η),s2,(d 4 η),s4,(d 6 η),s6,u,c2s.get]
     exact t ⟨f,b,i,true,rfl,λ _=>rfl,(AK.trans gs).put (.inl aF)⟩
    |false=>
     simp[y,wN,(d 52 η),JT,bq (aT du bX.cP)]
     exact jg ω ⟨AK.trans gs,c2s,U.step cQ (hqx.trans wN),by simp[(d 0 η),P,(d 2 η),s2,(d 4 η),s4,(d 6 η),s6,(d 16 η),Q,(d 17 η),J,(d 18 η),G,(d 35 η),w9,(d 36 η),rY,(d 37 η),lN,(d 50 η),vS,(d 51 η),Hj,jD,dz du]⟩
   .obtain rfl:i=p[f].blocks[b].code.length:=ω
    subst jU;simp[Hj,JT,lN,bq (aT dp bR.cP)];refine eJ ω ⟨zz,c25,λ b' x Z hl=>?_,U.bF jN mX,by simp[P,s2,Q,J,G,s4,w9,rY,dz dp]⟩;rcases pH.1 hl with O|rfl
    .exact nB _ _ Z O
    .rw[mX]at Z;cases Z;exact vB
  .obtain rfl:b=p[f].blocks.length:=ω
   subst dO;simp[rY,lN,G,bq (aT az h6.cP)];refine sO ω ⟨pJ,Tv,λ f' fn Z hl=>?_,U.fn jN,by simp[P,s2,Q,J,dz az]⟩;rcases pH.1 hl with O|rfl
   .exact nF _ _ Z O
   .rw[jN]at Z;cases Z;refine⟨hqf,λ bk cJ=>?_⟩;obtain⟨j,hj,rfl⟩:=rJ cJ;exact nB j _ (bf hj) hj
 .obtain rfl:f=p.length:=ω
  subst cq;simp[J,G,s2,c2.get];refine t ⟨0,0,0,false,rfl,?_,gK.put (.inl aF)⟩;rintro(⟨f',x,Z,h8⟩|⟨f',b',fn,bk,Z,hb,hn⟩|hI)
  .rw[(nF _ _ Z (cW.1 Z).1).1]at h8;cases h8
  .rw[(nF _ _ Z (cW.1 Z).1).2 _ (oS hb)]at hn;cases hn
  .exact(U.all hI).elim
end
theorem aW.xO{H:D}{es:Nat}{α:Type}{R:α->AU->Prop}{v:J}{L:List α}(h:aW H es R v L):Go.Proofs.YtgipmaoplfkdoaaGreatDoor.fy (.agg [v]) (.agg [v])=true:=by
 have e:Go.Proofs.YtgipmaoplfkdoaaGreatDoor.fy (.agg [v]) (.agg [v])=aB false true (Go.Proofs.YtgipmaoplfkdoaaGreatDoor.xO v v):=rfl;have c:Go.Proofs.YtgipmaoplfkdoaaGreatDoor.xO v v=true:=by have:=h.fy;cases h<;>exact this
 rw[e,c];rfl
def FF(p:List aQ)(r:Nat):Prop:=match r with
 |1=>p=[]\/64<p.length|2=>XN p\/XO p\/jF p λ _ _ _ x=>Dv x
 |3=>SE p|5=>(∃(f:Nat) (x:aQ),p[f]?=some x/\8<x.params.length)\/jF p λ _ _ _ x=>Ab x
 |6=>Sl p λ _ x=>Bo x
 |8=>4096<ij p|9=>jF p λ _ _ _ x=>vQ x
 |10=>XR p\/jF p (wW p)|11=>jF p λ f b i x=>RC p f b i x
 |12=>jF p λ f _ _ x=>NH p f x
 |13=>jF p λ _ _ _ x=>JO p x
 |14=>jF p λ _ _ _ x=>JN p x
 |_=>False
section
variable{p:List aQ}{vf:J}
def aqo(r:Nat)(O:1<=r)(U:r<=16)(H:D)(g:oO H vf p)(A:HH p):CN 155 [.agg [vf],u8 r] H (RA (FF p r) H):=by
 have hr:r=1\/r=2\/r=3\/r=4\/r=5\/r=6\/r=7\/r=8\/r=9\/r=10\/r=11\/r=12\/r=13\/r=14\/r=15\/r=16:=ω
 rcases hr with rfl|rfl|rfl|rfl|rfl|rfl|rfl|rfl|rfl|rfl|rfl|rfl|rfl|rfl|rfl|rfl;all_goals
  refine ba aq7 rfl λ B u=>?_;simp[g.cell];generalize l:D.add _ _=H1;have x:Lv H1 H.ab (.cells 1 (Tr.e.put 0 (some vf)) false):=by rw[<-l];exact Lv.new.add
  have a4:Lv H1 (H.ab+1) oK:=by rw[<-l];exact Lv.new (H:=H.add _)
  have q:I [] H H1:=by rw[<-l];exact((I.refl [] H).add _).add _
  clear l;refine CW (aEx H1) ?_;rintro v K ⟨rfl,y,j⟩;have z:=x.ai j;have n:=a4.ai j;simp;refine dF ?_ ?_
  .simp[dm,val,z.get,g.xO]
  simp[g.cell,lk,eD,oC,NC];generalize o:D.put _ _ _=K2;have h:I [] (K.add (.cells 2 ((Tr.e.put 0 (some vf)).put 1 (some (.map H1.ab))) false)) K2:=by
   rw[<-o];repeat (refine I.put ?_ (.inl aF))
   exact aw.add _
  clear o;have w:I [] H K2:=(q.trans j).trans ((aw.add _).trans h);have hw:lD K2 p vf K.ab H1.ab:=(lD.mk (H:=K.add (.cells 2 ((Tr.e.put 0 (some vf)).put 1 (some (.map H1.ab))) false)) ⟨_,_,Lv.new,ζ,ζ⟩ (g.zB ((q.trans j).trans (aw.add _)))).W h;have d:HG K2 H1.ab:=y.W ((aw.add _).trans h);first
   |refine CW (axZ hw K2 aw) ?_|refine CW (ant hw d K2 aw) ?_|refine CW (aGh hw K2 aw) ?_|refine CW (azt hw K2 aw) ?_|refine CW (ax0 hw K2 aw) ?_|refine CW (axW hw K2 aw) ?_|refine CW (aGi hw K2 aw) ?_|refine CW (axY hw K2 aw) ?_|refine CW (anq hw d K2 aw) ?_|refine CW (anp hw K2 aw) ?_|refine CW (anv hw K2 aw) ?_|refine CW (azr hw K2 aw) ?_|refine CW (azn hw K2 aw) ?_|refine CW (anb hw K2 aw) ?_|refine CW (aGj hw K2 aw) ?_|refine CW (azv hw A K2 aw) ?_
  rintro v C ⟨f,b,i,c,rfl,t,s⟩;have m:=n.ai ((aw.add _).trans (h.trans s));simp[m.get];refine u ⟨f,b,i,c,rfl,t,(w.trans s).put (.inl ω)⟩
end
section
variable{p:List aQ}{vf:J}
def alZ(p:List aQ)(H:D)(v:J)(K:D):Prop:=∃(r f b i:Nat),v=.agg [u8 r,ae f,ae b,ae i]/\((r=0/\f=0/\b=0/\i=0/\∀k,1<=k->k<=16->¬FF p k)\/(1<=r/\r<=16))/\I [] H K
def aow(H:D)(s:oO H vf p)(G:HH p):CN 125 [.agg [vf]] H (alZ p H):=by
 refine ba aqG rfl λ M t=>?_;simp[s.cell];generalize h:D.add _ _=H1;have F:Lv H1 H.ab (.cells 1 (Tr.e.put 0 (some vf)) false):=by rw[<-h];exact Lv.new.add
 have C:Lv H1 (H.ab+1) (.cells 4 ((((Tr.e.put 0 (some (u8 0))).put 1 (some (ae 0))).put 2 (some (ae 0))).put 3 (some (ae 0))) false):=by rw[<-h];exact Lv.new (H:=H.add _)
 have l:I [] H H1:=by rw[<-h];exact((I.refl [] H).add _).add _
 clear h;refine bu (α:=Nat) (aJ:=λ r sl K=>I [] H1 K/\(∀k,1<=k->k<r->¬FF p k)/\1<=r/\r<=17/\AV sl 1 (.ptr H.ab 0)/\AV sl 2 (.ptr (H.ab+1) 0)/\AV sl 3 (u8 r)) (mu:=λ r=>17-r) ?_ 1 _ _ ?j;case j=>exact⟨aw,λ k O U=>ω,ω,ω,ζ⟩
 rintro b kk-Q r sl K ⟨d,q,n,y,s1,s2,s3⟩ z;have J:=F.ai d;have w:=C.ai d;by_cases hr:r<=16
 .have x:(r:Int)<=16:=ω
  simp[s1,s2,s3,x,J.get];refine CW (aqo r n hr K (s.zB (l.trans d)) G) ?_;rintro v K2 ⟨f,b,i,c,rfl,A,m⟩;have g:=w.ai m;have u:=λ o o'=>I.new (I.refl [] K2) o o';cases c with
  |true=>
   simp[s1,s2,s3,bC g.lt,g.get]
   exact t ⟨r,f,b,i,rfl,.inr ⟨n,hr⟩,(l.trans (d.trans (m.trans (u _ _)))).put (.inl ω)⟩
  |false=>
   have hw:IntKind.wrap .u8 ((r:Int)+1)=(r:Int)+1:=by show(if(false&&decide (((r:Int)+1)%256>=128))=true then((r:Int)+1)%256-256 else((r:Int)+1)%256)=_;simp;omega
   simp[s3,hw]
   refine z (r+1) _ _ ω ⟨d.trans (m.trans (u _ _)),λ k O U=>?_,ω,ω,by simp[s1,s2]⟩
   by_cases e:k<r
   .exact q k O e
   .obtain rfl:k=r:=ω
    intro B;cases A B
 .obtain rfl:r=17:=ω
  subst Q;simp[s1,s2,s3,w.get];exact t ⟨0,0,0,0,rfl,.inl ⟨rfl,rfl,rfl,rfl,λ k O U=>q k O ω⟩,(l.trans d).put (.inl ω)⟩
end
end
end Go.Proofs.YtgipmaoplfkdoaaGreatDoor
