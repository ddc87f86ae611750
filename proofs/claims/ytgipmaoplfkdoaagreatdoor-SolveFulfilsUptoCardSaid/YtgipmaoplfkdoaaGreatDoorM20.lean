import Derived.Test.YtgipmaoplfkdoaaGreatDoorM13
import Derived.Test.YtgipmaoplfkdoaaGreatDoorWK17
import Derived.Test.YtgipmaoplfkdoaaGreatDoorWK18
import Derived.Test.YtgipmaoplfkdoaaGreatDoorWK19
import Derived.Test.YtgipmaoplfkdoaaGreatDoorWK20
set_option linter.all false
set_option maxRecDepth 100000
set_option maxHeartbeats 400000000
namespace Go.Proofs.YtgipmaoplfkdoaaGreatDoor
noncomputable section
open Go.RowKit
section
variable{X:Fix}{K:D}{L:nk}{V:SV}{r:bL}{lv dv:J}{i b9:Nat}{bd:Code}{sl:Tr J}{kk:List fg}{aj:dE->aE->D->Prop}{rs:Option Nat}
def ats(hc:Lc Tryz.f3 7=some bd)(h:tB X K L V r dv b9)(hr:Hy X V r)(hG:RG X.S (bG X.S).2.length r)(he:r.kind=4)(hs:oM X L lv dv i b9 sl)(Q:∀bz T,oM X L lv dv i b9 bz->I [] K T->aD E0 kk ⟨bz,280,[],rs,3⟩ T aj):aD E0 (.code bd::kk) ⟨sl,280,[],rs,3⟩ K aj:=by
 cases(show some _=some bd from hc)
 obtain⟨t,l,e0,e1,e2,e3⟩:=h.l9
 have AT:=hr.k4 he
 simp[hs.s5,hs.s9,l.get,e1]
 refine MT.step (yX h.R _) ?_
 have bm:∀o∈jk X V r.aR,o<1048576:=λ o ho=>h.Sd ho
 have oh:=Sc (X:=X) (V:=V) (v:=r.aR)
 generalize jk X V r.aR=lo at AT bm oh
 rintro u K2 ⟨⟨aL,hu,-⟩,g2⟩
 simp
 refine bu (α:=Nat) (aJ:=λ j sl K3=>oM X L lv dv i b9 sl/\I [] K2 K3/\sl.get 13=some u/\sl.get 14=some (ae (j:Nat))/\j<=lo.length) (mu:=λ j=>lo.length-j) ?_ 0 _ _ ?ini
 case ini=>exact⟨hs.of (by simp) (by simp[hs.bt]),aw,by simp⟩
 rintro b1 k1-cq j sl K3 ⟨kK,g3,ez,cy,hj⟩ ih
 have F:=(h.W g2).W g3
 have A5:=hu.aZ.fZ g3
 have bA:=A5.aN bK K3
 by_cases hn:j<lo.length
 .obtain⟨t,l,e0,e1,e2,e3⟩:=F.l9
  obtain⟨id,ah,ax,ex,n,tp,ro,c,hv,hl,aU,bU,oZ⟩:=A5.gL (i:=j) (by rw[bW];exact hn);have hc:c=ae (lo[j]:Nat):=by have:[c]=[ae ((iY lo)[j]'(by rw[bW];exact hn))]:=oZ;simpa using this
  subst hc;have ix:j<maxLen:=by unfold maxLen;omega
  have B:lo[j]∈lo:=cG _;by_cases hf:lo[j]<X.S.of.length
  .have kf:¬X.S.of.length<=lo[j]:=by omega
   repeat (first|simp[kK.s3,kK.s5,kK.s9,kK.bt,ez,cy,bA,de bK,hn,hv,hl.get,bU,aU,l.get,e1,e2,cE (DD F.mp),hf,kf]|refine dF (by simp[dA,dm,val,kK.s3,kK.s5,kK.s9,kK.bt,ez,cy,bA,de bK,hn,hv,hl.get,bU,aU,l.get,e1,e2,cE (DD F.mp),hf,kf]) ?_)
   refine MT.step (yX F.R _) ?_;rintro u4 K4 ⟨⟨Y4,hu4,-⟩,g4⟩;have h4:=F.W g4;have Ja:=hl.ai g4;obtain⟨t,l,e0,e1,e2,e3⟩:=h4.l9;simp;try (refine dF (by simp[dA,dm,val,Ja.get,bU,aU]) ?_)
   try simp
   refine MT.step (aeQ h4.R h4.X' (o:=lo[j]) (by have:=bm _ B;omega)) ?_;rintro u5 K5 ⟨⟨Y5,Jn,-⟩,g5⟩;have h5:=h4.W g5;have hl5:=Ja.ai g5;obtain⟨t,l,e0,e1,e2,e3⟩:=h5.l9;simp;try (refine dF (by simp[dA,dm]) ?_)
   simp[cE (QV (hu4.aZ.fZ g5) Jn.aZ (AT _ B hf)),cy,bq ix];exact ih (j+1) _ _ (by omega) ⟨kK.of (by simp) (by simp),(g3.trans g4).trans g5,by simp[ez,hv],by simp,by omega⟩
  .have kf:X.S.of.length<=lo[j]:=by omega
   repeat (first|simp[kK.s3,kK.s5,kK.s9,kK.bt,ez,cy,bA,de bK,hn,hv,hl.get,bU,aU,l.get,e1,e2,cE (DD F.mp),hf,kf,bq ix]|refine dF (by simp[dA,dm,val,kK.s3,kK.s5,kK.s9,kK.bt,ez,cy,bA,de bK,hn,hv,hl.get,bU,aU,l.get,e1,e2,cE (DD F.mp),hf,kf]) ?_)
   refine ih (j+1) _ _ (by omega) ⟨?_,g3,?_,?_,by omega⟩
   .exact kK.of (by simp) (by simp)
   .simp[ez,hv]
   .simp
 .obtain rfl:j=lo.length:=by omega
  subst cq;simp[ez,cy,bA];exact Q _ _ (kK.of (by simp) (by simp[kK.bt])) (g2.trans g3)
def att(hc:Lc Tryz.f3 9=some bd)(h:tB X K L V r dv b9)(hr:Hy X V r)(hG:RG X.S (bG X.S).2.length r)(he:r.kind=5)(hs:oM X L lv dv i b9 sl)(Q:∀bz T,oM X L lv dv i b9 bz->I [] K T->aD E0 kk ⟨bz,280,[],rs,3⟩ T aj):aD E0 (.code bd::kk) ⟨sl,280,[],rs,3⟩ K aj:=by
 cases(show some _=some bd from hc)
 obtain⟨t,l,e0,e1,e2,e3⟩:=h.l9
 have AT:=hr.k5 he
 simp[hs.s5,hs.s9,l.get,e2]
 refine MT.step (yX h.R _) ?_
 have bm:∀o∈jk X V r.aG,o<1048576:=λ o ho=>h.Sd ho
 have oh:=Sc (X:=X) (V:=V) (v:=r.aG)
 generalize jk X V r.aG=lo at AT bm oh
 rintro u K2 ⟨⟨aL,hu,-⟩,g2⟩
 simp
 refine bu (α:=Nat) (aJ:=λ j sl K3=>oM X L lv dv i b9 sl/\I [] K2 K3/\sl.get 15=some u/\sl.get 16=some (ae (j:Nat))/\j<=lo.length) (mu:=λ j=>lo.length-j) ?_ 0 _ _ ?ini
 case ini=>exact⟨hs.of (by simp) (by simp[hs.bt]),aw,by simp⟩
 rintro b1 k1-cq j sl K3 ⟨kK,g3,dg,fP,hj⟩ ih
 have F:=(h.W g2).W g3
 have A5:=hu.aZ.fZ g3
 have bA:=A5.aN bK K3
 by_cases hn:j<lo.length
 .obtain⟨t,l,e0,e1,e2,e3⟩:=F.l9
  obtain⟨id,ah,ax,ex,n,tp,ro,c,hv,hl,aU,bU,oZ⟩:=A5.gL (i:=j) (by rw[bW];exact hn);have hc:c=ae (lo[j]:Nat):=by have:[c]=[ae ((iY lo)[j]'(by rw[bW];exact hn))]:=oZ;simpa using this
  subst hc;have ix:j<maxLen:=by unfold maxLen;omega
  have B:lo[j]∈lo:=cG _;obtain⟨w0,w1⟩:=hG.w5 he;simp[kK.s3,kK.s9,dg,fP,de bK,hn,hv,hl.get,bU,aU,l.get,e3];refine MT.step (akD F.mp F.X'.qX.ok F.X'.qX.nD lo[j] (by have:=bm _ B;omega) w0 w1) ?_;rintro _ K4 ⟨rfl,g4⟩;have h4:=F.W g4;obtain⟨t,l,e0,e1,e2,e3⟩:=h4.l9;cases hq:X.S.Bw lo[j] r.K with
  |none=>
   simp[JZ,kK.bt,fP,bq ix]
   exact ih (j+1) _ _ (by omega) ⟨kK.of (by simp) (by simp),g3.trans g4,by simp[dg,hv],by simp,by omega⟩
  |some q=>
   have hv5:=AT _ B q hq
   simp[JZ,kK.s5,kK.s9,kK.bt,l.get,e1,fP,bq ix,cE (aeP h4.R h4.X' r.aR (o:=q) (by have:=ad4 h4.X'.qX.ok hq;have:=h4.X'.qX.nD;unfold uP at this;omega)),hv5]
   exact ih (j+1) _ _ (by omega) ⟨kK.of (by simp) (by simp),g3.trans g4,by simp[dg,hv],by simp,by omega⟩
 .obtain rfl:j=lo.length:=by omega
  subst cq;simp[dg,fP,bA];exact Q _ _ (kK.of (by simp) (by simp[kK.bt])) (g2.trans g3)
end
section
variable{X:Fix}{K:D}{L:nk}{V:SV}{r:bL}{lv dv:J}{i b9:Nat}{bd:Code}{sl:Tr J}{kk:List fg}{aj:dE->aE->D->Prop}{rs:Option Nat}
def tB.xM(h:tB X K L V r dv b9){kn:Nat}{d:bH}(hd:(bG X.S).2[kn]?=some d):∃id ah ax ex n t ro u,dv=.sl id ah 5 (bG X.S).2.length ax ex/\kn<(bG X.S).2.length/\Lv K id (.cells n t ro)/\ah+kn*5+5<=n/\bc t (ah+kn*5) 3=some [ae d.at_.1,ae d.at_.2.1,ae d.at_.2.2]/\t.get (ah+kn*5+3)=some u/\t.get (ah+kn*5+4)=some (ae d.dst)/\aW K 1 (One λ n=>ae n) u d.args:=by
 obtain⟨vr,je⟩:=cW.1 hd
 obtain⟨id,ah,ax,ex,n,t,ro,M,hv,hl,aU,bU,hR⟩:=h.d.at_ vr
 rw[je]at hR
 obtain⟨u,rfl,hu⟩:=hR
 obtain⟨-,hq⟩:=iB.1 bU
 have q0:=hq 0 (by omega)
 have q1:=hq 1 (by omega)
 have q2:=hq 2 (by omega)
 have q3:=hq 3 (by omega)
 have q4:=hq 4 (by omega)
 simp at q0 q1 q2 q3 q4
 refine⟨id,ah,ax,ex,n,t,ro,u,hv,vr,hl,by omega,iB.2 ⟨rfl,λ j hj=>?_⟩,q3,q4,hu⟩
 match j,hj with|0,_=>simpa using q0|1,_=>simpa using q1|2,_=>simpa using q2
def atu(hc:Lc Tryz.f3 11=some bd)(h:tB X K L V r dv b9)(hr:Hy X V r)(hG:RG X.S (bG X.S).2.length r)(he:r.kind=6)(hs:oM X L lv dv i b9 sl)(Q:∀bz T,oM X L lv dv i b9 bz->I [] K T->aD E0 kk ⟨bz,280,[],rs,3⟩ T aj):aD E0 (.code bd::kk) ⟨sl,280,[],rs,3⟩ K aj:=by
 cases(show some _=some bd from hc)
 obtain⟨t,l,e0,e1,e2,e3⟩:=h.l9
 obtain⟨q,x,cQ,bP,hd,dV⟩:=hr.k6 he
 obtain⟨w0,w1⟩:=hG.w6 he
 obtain⟨kn,eO⟩:∃k:Nat,r.K=(k:Int):=⟨r.K.toNat,by omega⟩
 rw[eO,Kw]at hd
 obtain⟨idz,WK,an8,exz,nz,tz,roz,uz,GO,vr,GH,aaz,hz3,hzu,VU,huz⟩:=h.xM hd
 have a0:WK+kn*5+3<nz:=by omega
 have a1:WK+kn*5+4<nz:=by omega
 have a2:WK+kn*5+3<=nz:=by omega
 simp[hs.s5,hs.s7,hs.s9,l.get,e3,eO,GO,vr,GH.get,a2,bY hz3]
 refine MT.step (amC (q:=q) h.R h.X' cQ) ?_
 have I5:D4 X V q.1 x=sy X.S x.args.length (jk X V (X.S.aV q.1 x.a)):=by unfold D4;rw[ao (by omega),aq bP]
 rw[I5]
 have mC:∀f∈sy X.S x.args.length (jk X V (X.S.aV q.1 x.a)),(X.S.fU f).length=x.args.length:=λ f hf=>by unfold sy at hf;have h:=(Oz.1 hf).2;simp at h;exact h.2
 have oh:(sy X.S x.args.length (jk X V (X.S.aV q.1 x.a))).length<=4194304:=aY afW Sc
 generalize sy X.S x.args.length (jk X V (X.S.aV q.1 x.a))=fs at dV mC oh
 rintro u K2 ⟨⟨aL,hu,-⟩,g2⟩
 simp
 refine bu (α:=Nat) (aJ:=λ j sl K3=>oM X L lv dv i b9 sl/\I [] K2 K3/\sl.get 19=some u/\sl.get 20=some (ae (j:Nat))/\j<=fs.length) (mu:=λ j=>fs.length-j) ?_ 0 _ _ ?ini
 case ini=>exact⟨hs.of (by simp) (by simp[hs.bt]),aw,by simp⟩
 rintro b1 k1-cq j sl K3 ⟨kK,g3,i_,qY,hj⟩ ih
 have G3:I [] K K3:=g2.trans g3
 have F:=h.W G3
 have A5:=hu.aZ.fZ g3
 have bA:=A5.aN bK K3
 by_cases hn:j<fs.length
 .obtain⟨id,ah,ax,ex,n,tp,ro,c,hv,hl,aU,bU,oZ⟩:=A5.gL (i:=j) hn
  have hc:c=ae fs[j]:=by have:[c]=[ae fs[j]]:=oZ;simpa using this
  subst hc;have ix:j<maxLen:=by unfold maxLen;omega
  have B:fs[j]∈fs:=cG _;obtain⟨eY,Ms⟩:=dV _ B;have Vo:=mC _ B;obtain⟨I1,-⟩:=h.X'.qX.args _ _ _ _ cQ;have gu:=h.X'.qX.sz;generalize fs[j]=f at eY Ms Vo bU;simp[kK.s3,i_,qY,de bK,hn,hv,hl.get,bU,aU];refine MT.step (Xs F.mp F.X'.qX.ps f) ?_;rintro up K4 ⟨⟨Yp,Jo,-⟩,g4⟩;have G4:=G3.trans g4;simp;refine bu (α:=Nat) (aJ:=λ m sl K5=>oM X L lv dv i b9 sl/\I [] K4 K5/\sl.get 19=some u/\sl.get 20=some (ae (j:Nat))/\sl.get 21=some up/\sl.get 22=some (ae (m:Nat))/\m<=(X.S.fU f).length) (mu:=λ m=>(X.S.fU f).length-m) ?_ 0 _ _ ?ini2;case ini2=>exact⟨kK.of (by simp) (by simp[kK.bt]),aw,by simp[i_,hv],by simp[qY],by simp⟩
  rintro b2 k2-dO m RS K5 ⟨yq,g5,W0,W1,Ry,W2,AZ⟩ eJ;have G5:I [] K K5:=G4.trans g5;have h5:=h.W G5;have aiv:=Jo.aZ.fZ g5;have Qw:=aiv.aN bK K5;by_cases iW:m<(X.S.fU f).length
  .obtain⟨uj,uB,tQ,exp,np,tq,uG,c,cr,fG,ib,gq,jL⟩:=aiv.gL (i:=m) iW;have hc:c=ae (X.S.fU f)[m]:=by have:[c]=[ae (X.S.fU f)[m]]:=jL;simpa using this
   subst hc;have aws:=huz.fZ G5;have Vi:m<(ot X.S q x).args.length:=by unfold ot;rw[bW];omega
   obtain⟨MU,WJ,Tx,TZ,na,ta,Xe,c,kl,sI,AY,zP,LO⟩:=aws.gL (i:=m) Vi;have hc:c=ae (ot X.S q x).args[m]:=by have:[c]=[ae (ot X.S q x).args[m]]:=LO;simpa using this
   subst hc;have qy:=eY ((X.S.fU f)[m],(ot X.S q x).args[m]) (by rw[<-Oy (h:=by rw[HY];omega)];exact cG _);dsimp only at qy;have hmj:m<maxLen:=by unfold maxLen;omega
   have aaD:=GH.ai G5;obtain⟨t,l,e0,e1,e2,e3⟩:=h5.l9;generalize(X.S.fU f)[m]=pm at qy gq;generalize(ot X.S q x).args[m]=am at qy zP;clear LO;generalize(ot X.S q x).args.length=al at kl Vi;by_cases Qf:am<0
   .repeat (first|simp[yq.s3,yq.s5,yq.s7,yq.s9,yq.bt,Ry,W2,Qw,de bK,iW,GO,vr,aaD.get,a0,hzu,l.get,e3,eO,kl,Vi,sI.get,AY,zP,Qf,bq hmj]|refine dF (by simp[dA,dm,val,yq.s3,yq.s5,yq.s7,yq.s9,yq.bt,Ry,W2,Qw,de bK,iW,GO,vr,aaD.get,a0,hzu,l.get,e3,eO,kl,Vi,sI.get,AY,zP,Qf]) ?_)
    exact eJ (m+1) _ _ (by omega) ⟨yq.of (by simp) (by simp),g5,by simp[W0],by simp[W1],by simp[Ry],by simp,by omega⟩
   .have hpo:=qy.resolve_left Qf;simp[yq.s5,yq.s7,yq.s9,yq.bt,Ry,W2,de bK,iW,GO,vr,aaD.get,a0,hzu,l.get,e3,eO,kl,Vi,sI.get,AY,zP,Qf,cr,fG.get,ib,gq];refine MT.step (yX h5.R _) ?_;rintro u5 K6 ⟨⟨Y5,Jn,-⟩,g6⟩;have h6:=h5.W g6;have ahX:=fG.ai g6;have avz:=aaD.ai g6;have avh:=sI.ai g6;obtain⟨t,l,e0,e1,e2,e3⟩:=h6.l9;simp;try (refine dF (by simp[dA,dm,val,ahX.get,ib,gq]) ?_)
    try simp
    refine MT.step (yX h6.R _) ?_;rintro u7 K7 ⟨⟨Y7,MF,-⟩,g7⟩;have h7:=h6.W g7;have aH3:=ahX.ai g7;have Vf:=avz.ai g7;have aHV:=avh.ai g7;obtain⟨t,l,e0,e1,e2,e3⟩:=h7.l9;simp;try (refine dF (by simp[dA,dm]) ?_)
    simp[cE (QV (Jn.aZ.fZ g7) MF.aZ hpo),W2,bq hmj];exact eJ (m+1) _ _ (by omega) ⟨yq.of (by simp) (by simp),(g5.trans g6).trans g7,by simp[W0],by simp[W1],by simp[Ry,cr],by simp,by omega⟩
  .obtain rfl:m=(X.S.fU f).length:=by omega
   subst dO;have hl5:Lv K5 id _:=hl.ai (g4.trans g5);simp[yq.s3,W0,W1,Ry,W2,Qw,hv,hn,hl5.get,bU,aU];refine MT.step (adY h5.mp gu f) ?_;rintro ur K6 ⟨⟨Yr,hur,-⟩,g6⟩;have G6:=G5.trans g6;simp;refine bu (α:=Nat) (aJ:=λ m sl K7=>oM X L lv dv i b9 sl/\I [] K6 K7/\sl.get 19=some u/\sl.get 20=some (ae (j:Nat))/\sl.get 23=some ur/\sl.get 24=some (ae (m:Nat))/\m<=(X.S.jX f).length) (mu:=λ m=>(X.S.jX f).length-m) ?_ 0 _ _ ?ini3;case ini3=>exact⟨yq.of (by simp) (by simp[yq.bt]),aw,by simp[W0,hv],by simp[W1],by simp⟩
   rintro b3 k3-jU m sl6 K7 ⟨sM,g7,W6,W7,Fp,RE,AZ⟩ jg;have G7:I [] K K7:=G6.trans g7;have h7:=h.W G7;have aaX:=hur.aZ.fZ g7;have avm:=aaX.aN bK K7;by_cases wK:m<(X.S.jX f).length
   .obtain⟨uj,uB,tQ,exp,np,tq,uG,c,cr,fG,ib,gq,jL⟩:=aaX.gL (i:=m) wK;have hc:c=ae (X.S.jX f)[m]:=by have:[c]=[ae (X.S.jX f)[m]]:=jL;simpa using this
    subst hc;have qy:=Ms _ (cG wK);have hmj:m<maxLen:=by unfold maxLen;have:=aaX.cP;unfold maxLen at this;omega
    have Vf:=GH.ai G7;obtain⟨t,l,e0,e1,e2,e3⟩:=h7.l9;generalize(X.S.jX f)[m]=pm at qy gq;generalize(ot X.S q x).dst=am at qy VU;by_cases Gw:pm<0
    .repeat (first|simp[sM.s3,sM.s5,sM.s7,sM.s9,sM.bt,Fp,RE,avm,de bK,wK,cr,fG.get,ib,gq,Gw,bq hmj]|refine dF (by simp[dA,dm,val,sM.s3,sM.s5,sM.s7,sM.s9,sM.bt,Fp,RE,avm,de bK,wK,cr,fG.get,ib,gq,Gw]) ?_)
     exact jg (m+1) _ _ (by omega) ⟨sM.of (by simp) (by simp),g7,by simp[W6],by simp[W7],by simp[Fp,cr],by simp,by omega⟩
    by_cases zF:am<0
    .repeat (first|simp[sM.s3,sM.s5,sM.s7,sM.s9,sM.bt,Fp,RE,avm,de bK,wK,cr,fG.get,ib,gq,Gw,GO,vr,Vf.get,a1,VU,l.get,e3,eO,zF,bq hmj]|refine dF (by simp[dA,dm,val,sM.s3,sM.s5,sM.s7,sM.s9,sM.bt,Fp,RE,avm,de bK,wK,cr,fG.get,ib,gq,Gw,GO,vr,Vf.get,a1,VU,l.get,e3,eO,zF]) ?_)
     exact jg (m+1) _ _ (by omega) ⟨sM.of (by simp) (by simp),g7,by simp[W6],by simp[W7],by simp[Fp,cr],by simp,by omega⟩
    have hpo:=(qy.resolve_left Gw).resolve_left zF;simp[sM.s5,sM.s7,sM.s9,sM.bt,Fp,RE,de bK,wK,cr,fG.get,ib,gq,Gw,GO,vr,Vf.get,a1,VU,l.get,e3,eO,zF];refine MT.step (yX h7.R _) ?_;rintro u5 K8 ⟨⟨Y5,Jn,-⟩,g8⟩;have h8:=h7.W g8;have ahZ:=Vf.ai g8;obtain⟨t,l,e0,e1,e2,e3⟩:=h8.l9;have avv:=fG.ai g8;simp;try (refine dF (by simp[dA,dm,val,ahZ.get,a1,VU,l.get,e3,eO]) ?_)
    try simp
    refine MT.step (yX h8.R _) ?_;rintro u7 K9 ⟨⟨Y7,MF,-⟩,g9⟩;have h9:=h8.W g9;have aH4:=avv.ai g9;have aH9:=ahZ.ai g9;obtain⟨t,l,e0,e1,e2,e3⟩:=h9.l9;simp;try (refine dF (by simp[dA,dm]) ?_)
    simp[cE (QV (Jn.aZ.fZ g9) MF.aZ hpo),RE,bq hmj];exact jg (m+1) _ _ (by omega) ⟨sM.of (by simp) (by simp),(g7.trans g8).trans g9,by simp[W6],by simp[W7],by simp[Fp,cr],by simp,by omega⟩
   .obtain rfl:m=(X.S.jX f).length:=by omega
    subst jU;simp[W7,Fp,RE,avm,bq ix];exact ih (j+1) _ _ (by omega) ⟨sM.of (by simp) (by simp[sM.bt]),((g3.trans g4).trans g5).trans (g6.trans g7),by simp[W6,hv],by simp,by omega⟩
 .obtain rfl:j=fs.length:=by omega
  subst cq;simp[i_,qY,bA];exact Q _ _ (kK.of (by simp) (by simp[kK.bt])) G3
end
def alW{E:aK}{xv:Option J}{a b:Code}{k:List fg}{Y:aE}{H:D}{aj:dE->aE->D->Prop}(h:∀ay,k=ay->CB xv E a b ay Y H aj):CB xv E a b k Y H aj:=h k rfl
def axw{H:D}{p:List aQ}{vf:J}(hp:oO H vf p)(hz:ij p<=1048576)(ht:uK (λ x=>x.args.length) p<=1048576)(hl:uK (λ x=>x.eh.length) p<=1048576)(hT:xn H):C E0 (.call 3 [.agg [vf]]) H λ v _=>v=bl true:=by
 refine ba ft3 rfl λ Q' hQ=>?_;simp[hp.cell];generalize pK:D.add _ _=K0;have g0:I [] H K0:=by rw[<-pK];exact aw.add _
 have l1:Lv K0 H.ab (.cells 1 (Tr.e.put 0 (some vf)) false):=by rw[<-pK];exact Lv.new
 clear pK;try simp[l1.get]
 refine MT.step (atG (hp.zB g0) hz) ?_;rintro _ K1 ⟨⟨b,rfl,hb⟩,g1⟩;cases b with
 |true=>
  simp[cE (aej _)]
  exact hQ rfl
 |false=>
  have hF:Fit p:=⟨hb rfl,ht,hl⟩
  have A_:=l1.ai g1
  simp[A_.get]
  have hSA:HH p:=λ f b i x ha=>by have:=Xr (w:=λ x=>x.args.length) ha;omega
  have hSL:SC p:=λ f b i x ha=>by have:=Xr (w:=λ x=>x.eh.length) ha;omega
  refine MT.step (azc ((hp.zB g0).zB g1) hSA hSL agE) ?_
  rintro _ K2 ⟨rfl|⟨hW,id,rfl,hMI⟩,g2⟩
  .simp[cE (aej _)]
   exact hQ rfl
  have hM:=hMI.mp
  have UA:=aem hW hF
  have Uy:=alL hW hF
  simp
  refine MT.step (aEX hM ((hT.W (g0.trans g1)).W g2) UA Uy) ?_
  rintro _ K3 ⟨X,L,rfl,xS,Sg,Sh,J',xN,f_⟩
  have fo:I [] K2 K3:=by obtain⟨t,tn,tf,mn,mf,cn,cf,en,ef,dv,hO⟩:=f_;rw[<-Sg];exact hO.base
  have hM3:=hM.W fo
  simp
  refine MT.step (ake hM3 UA) ?_
  rintro _ K4 ⟨lv,dv,rfl,yd,Mb,g4,-,bA,-⟩
  have pN:=f_.ai g4
  have hM4:=hM3.W g4
  have AT:=atv (X:=X) hW hF xS xN
  have hPG:=(PG.all hW).1
  have hFX:An X:=⟨by rw[xS];exact UA,by rw[xN,xS]⟩
  have jB:∀i o,cC ((Bv (bj p)).set i) o=true->o<1048576:=λ i o ho=>by obtain⟨-,hI,-,-⟩:=SV.ad0 Uy.si Uy.rel;have O:=hI.ok.sn i o ho;have U:=Uy.si.fns;have F:=UA.nD.2.2.2.1;have h4:(bJ (bj p)).br=(bj p).of.length:=rfl;omega
  simp
  generalize Bv (bj p)=V at*
  rw[<-xS]at yd Mb AT hPG bA
  refine bu (α:=Nat) (aJ:=λ i sl K=>I [] K4 K/\sl.get 3=some (.ptr X.mid 0)/\sl.get 5=some (.ptr L.a 0)/\sl.get 6=some lv/\sl.get 7=some dv/\sl.get 8=some (ae (i:Nat))/\i<=(bG X.S).1.length) (mu:=λ i=>(bG X.S).1.length-i) ?_ 0 _ _ ?ini
  case ini=>exact⟨aw,by simp[Sh]⟩
  rintro b1 k1-cq i sl K ⟨g5,s3,s5,s6,s7,s8,A⟩ ih
  have Ef:=pN.ai g5
  have ahY:=yd.fZ g5
  have aax:=ahY.aN Fz K
  by_cases az:i<(bG X.S).1.length
  .obtain⟨id9,ah,ax,ex,n,t,ro,M,hv,hl,aU,bU,oZ⟩:=ahY.at_ az
   have jA:i<maxLen:=by unfold maxLen;omega
   have hr:=AT _ (cG az);have hG:=hPG _ (cG az);generalize(bG X.S).1[i]=r at oZ hr hG;have gR:M=kS r:=oZ;subst gR;simp[s6,s8,de Fz,az,hv,hl.get,aU,bY bU];generalize hK6:D.put _ _ _=K6;have l9:∃t,Lv K6 K.ab (.cells 4 t false)/\t.get 0=some (u8 r.kind)/\t.get 1=some (ae r.aR)/\t.get 2=some (ae r.aG)/\t.get 3=some (ae r.K):=by rw[<-hK6];exact⟨_,(Lv.new (H:=K)).put_eq,by simp⟩
   have g6:I [] K K6:=by rw[<-hK6];exact ke (aw.add _) (aw.put (.inr (by simp))) (X:=[K.ab]) (by simp)
   clear hK6;have zx:=g5.trans g6;have hC:tB X K6 L V r dv K.ab:=⟨Ef.ai g6,hFX,jB,Mb.W zx λ _ _ _ q=>Hw.W q zx,l9⟩;refine alW ?_;intro ay hT;have L_:∀bz T,oM X L lv dv i K.ab bz->I [] K6 T->aD E0 ay ⟨bz,280,[],none,3⟩ T (qb E0 [ResultVar.tmp 2] Q'):=by subst hT;intro bz T hs gk;simp[hs.bt,hs.s8,bq jA];exact ih (i+1) _ _ (by omega) ⟨zx.trans gk,by simp[hs.s3],by simp[hs.s5],by simp[hs.s6],by simp[hs.s7],by simp,by omega⟩
   clear hT;obtain⟨t9,Q3,z0,z1,z2,z3⟩:=l9;refine CB.mk (c:=decide (r.kind=1)) (λ e1=>atp rfl hC hr hG (by simpa using e1) ⟨by simp[s3],by simp[s5],by simp[s6,hv],by simp[s7],by simp[s8],by simp,by simp⟩ L_) (λ e1=>?_);have e1:¬r.kind=1:=by simpa using e1
   simp;refine CB.mk (c:=decide (r.kind=2)) (λ e2=>atq rfl hC hr hG (by simpa using e2) ⟨by simp[s3],by simp[s5],by simp[s6,hv],by simp[s7],by simp[s8],by simp,by simp⟩ L_) (λ e2=>?_);have e2:¬r.kind=2:=by simpa using e2
   simp;refine CB.mk (c:=decide (r.kind=3)) (λ e3=>atr rfl hC hr hG (by simpa using e3) ⟨by simp[s3],by simp[s5],by simp[s6,hv],by simp[s7],by simp[s8],by simp,by simp⟩ L_) (λ e3=>?_);have e3:¬r.kind=3:=by simpa using e3
   simp;refine CB.mk (c:=decide (r.kind=4)) (λ e4=>ats rfl hC hr hG (by simpa using e4) ⟨by simp[s3],by simp[s5],by simp[s6,hv],by simp[s7],by simp[s8],by simp,by simp⟩ L_) (λ e4=>?_);have e4:¬r.kind=4:=by simpa using e4
   simp;refine CB.mk (c:=decide (r.kind=5)) (λ e5=>att rfl hC hr hG (by simpa using e5) ⟨by simp[s3],by simp[s5],by simp[s6,hv],by simp[s7],by simp[s8],by simp,by simp⟩ L_) (λ e5=>?_);have e5:¬r.kind=5:=by simpa using e5
   simp;refine CB.mk (c:=decide (r.kind=6)) (λ e6=>atu rfl hC hr hG (by simpa using e6) ⟨by simp[s3],by simp[s5],by simp[s6,hv],by simp[s7],by simp[s8],by simp,by simp⟩ L_) (λ e6=>?_);have e6:¬r.kind=6:=by simpa using e6
   have:=hG.k;omega
  .obtain rfl:i=(bG X.S).1.length:=by omega
   subst cq;simp[s6,s8,aax,cE (aej _)];exact hQ rfl
theorem J6{α:Type}{f g:α->Nat}:∀(L:List α) (_:∀x∈L,f x<=g x),(L.map f).sum<=(L.map g).sum
 |[],_=>aF
 |a::L,h=>by
  have O:=h a (by simp)
  have U:=J6 L λ x Z=>h x (by simp[Z])
  simp only[kB,sr]
  omega
def aFo(p:List aQ):ij p<=OO p:=J6 (α:=aQ) p λ f _=>by
 have h:fL f.blocks<=(f.blocks.map Ic).sum:=J6 (α:=cU) f.blocks λ b _=>by
  have O:b.code.length<=(b.code.map zm).sum:=by
   have:=J6 (f:=λ _=>1) (g:=zm) b.code λ x _=>by unfold zm;omega
   rw[akW]at this;exact this
  show b.code.length<=(b.code.map zm).sum+1;omega
 show fL f.blocks<=(f.blocks.map Ic).sum+1;omega
def akA{w:bp->Nat}(hw:∀x,w x<=zm x)(p:List aQ):uK w p<=OO p:=J6 (α:=aQ) p λ f _=>by
 have h:vT w f.blocks<=(f.blocks.map Ic).sum:=J6 (α:=cU) f.blocks λ b _=>by have O:=J6 (f:=w) (g:=zm) b.code λ x _=>hw x;show(b.code.map w).sum<=(b.code.map zm).sum+1;omega
 show vT w f.blocks<=(f.blocks.map Ic).sum+1;omega
def axv{H:D}{p:List aQ}{vf:J}(hp:oO H vf p)(hb:OO p<=1048576)(hT:xn H):C E0 (.call 3 [.agg [vf]]) H λ v _=>v=bl true:=axw hp (aY (aFo p) hb) (aY (akA (λ x=>by unfold zm;omega) p) hb) (aY (akA (λ x=>by unfold zm;omega) p) hb) hT
def ak7:Bool:=match H0.get 0 with
 |some (.cells 64 t _)=>(List.range 64).all λ j=>match t.get j with|some (.lit (.int .u8 n))=>n==((Lib.deBruijn64tab.getD j 0:Nat):Int)|_=>false
 |_=>false
theorem aFu:ak7=true:=by kernel_rfl
theorem aze:Nat.ble 1 H0.ab=true:=by kernel_rfl
def aFv:xn H0:=by
 have h:=aFu;unfold ak7 at h;split at h
 .rename_i t ro e;refine⟨t,ro,⟨OD aze,e⟩,λ j hj=>?_⟩;have O:=yZ.1 h j (mj.2 hj);split at O
  .rename_i n e2;rw[e2];have:n=((Lib.deBruijn64tab.getD j 0:Nat):Int):=by simpa using O
   rw[this]
  .cases O
 .cases h
def axu{w:bI}{ay:Type}{enc:aS×aC->ay}{bk:DataW ay->Nat}(cJ:BK bk)(ht:yW w g_)(hT:∀f∈FC,Kr Tryz.prog w f)(o8:∀E,eW Tryz.prog E->(∀f n,E.Q.get f=some n->(f,n)∈yg++FC.map λ f=>(f,5))->Hz Tryz.prog E w){fuel:Nat}{xs:Array aC}{x:DataW ay×List MemPlace}(Z:DataW.trod enc Tryz.prog w 0 (λ _=>true) true fuel 24 xs.toList=some x)(hb:bk x.1<=1048576):Calls Tryz.prog 3 #[.agg xs] w λ e w'=>e=.returned (.bool true)/\jG (λ _=>False) w w':=by
 obtain⟨ρ,hr⟩:=auO given (agl _) (auN _) ht
 obtain⟨eU,H1,p,l,k1,k2,k3,k4,⟨vf,rfl,hp⟩,k6⟩:=aps cJ fuel _ x Z ρ H0 hr
 exact an5 given (agl _) k1 (axv hp (aY k6 hb) (aFv.W k3)) (.cons (.agg k4) .nil) o8
def aGB(w:World)(ht:yW w g_):∀f∈FC,Kr Tryz.prog w f:=by
 intro f hf;simp only[FC,cZ,xu,xD]at hf;rcases hf with rfl|rfl|rfl|rfl
 .exact XA ht λ w ht=>Xl (ws:=[]) aGw (λ _=>.nil) w ht (λ f h=>by cases h) (λ f h=>by cases h)
 .exact XA ht λ w ht=>Xl (ws:=[]) aGx (λ _=>.nil) w ht (λ f h=>by cases h) (λ f h=>by cases h)
 .exact XA ht λ w ht=>Xl (ws:=[]) aGy (λ _=>.nil) w ht (λ f h=>by cases h) (λ f h=>by cases h)
 .exact XA ht λ w ht=>Xl (ws:=[]) aGz (λ _=>.nil) w ht (λ f h=>by cases h) (λ f h=>by cases h)
theorem aGA:∀f∈FC,∀args w,(callFunc f args).run Tryz.prog w=.ok (.enter f args) w:=by
 intro f hf;simp only[FC,cZ,xu,xD]at hf;rcases hf with rfl|rfl|rfl|rfl
 .exact enters_of Tryz.func13 (by kernel_rfl) rfl
 .exact enters_of Tryz.func35 (by kernel_rfl) rfl
 .exact enters_of Tryz.func50 (by kernel_rfl) rfl
 .exact enters_of Tryz.func58 (by kernel_rfl) rfl
end
end Go.Proofs.YtgipmaoplfkdoaaGreatDoor
