import Derived.Test.YtgipmaoplfkdoaaGreatDoorM7
import Derived.Test.YtgipmaoplfkdoaaGreatDoorM8
import Derived.Test.YtgipmaoplfkdoaaGreatDoorMR
set_option linter.all false
set_option maxRecDepth 100000
set_option maxHeartbeats 400000000
namespace Go.Proofs.YtgipmaoplfkdoaaGreatDoor
noncomputable section
open Go.RowKit
variable{H:D}{s:aI}{x:bp}{M z0 z:AU}{dH b i c2 c3 m:Nat}{t t2 t3 tf tb t9 pC:CX}{l:List AE}{fv sv vl:J}{g:List BW}{k:Int}{L:List aI}{aH:AT}{X F':Nat->Prop}{E:aK}{e:aS}{d:TypeDesc}{ex:Bool}{dst:Option Tmp}{Y:aE}{aj:dE->aE->D->Prop}{a:Int×aI}{o:AO}{V:List (Int×aI)}{xv:Option J}{bd:Code}{r:Option Nat}{β:Type}{f:fD}
def ai8(hu:lk (.string s) l=none\/∃bb,∃a b:Int,lk (.string s) l=some (bb,.agg [ae a,ae b])):∃x y:Int,(match lk (.string s) l with|some p=>val p.snd H|none=>val (.agg [ae 0,ae 0]) H)=val (.agg [ae x,ae y]) H:=by
 rcases hu with hu|⟨bb,x,y,hu⟩
 .exact⟨0,0,by rw[hu]⟩
 .exact⟨x,y,by rw[hu]⟩
def DP(v:J):Prop:=∃r,v=bl r
def IsR(v:J):Prop:=∃(b i:Nat) (r:Bool),v=.dh [ae b,ae i,bl r]
section
variable{H HB:D}{id:Nat}{fn:aQ}
def afJ(s:aI)(b:Int)(hB:tA HB H id fn)(ok:sf fn):CN 220 [.ptr id 0,str s,ae b] H λ v K=>DP v/\I [] H K:=by
 refine ba ar2 rfl λ Q' hQ=>?_;have⟨t,vp,vb,sv,pv,tv,m,ay,O,a0,a1,a2,a3,a4,a5,a6,U,F,h4,h5,h6,h7,h8⟩:=hB.ob;have⟨c,l,B,hu⟩:=h8.use s;have hT:ay.length<=1048576:=by rw[h7];have:=ok.nb;omega
 have qD:¬id=H.ab:=bC O.lt;have⟨x,y,e⟩:=ai8 (H:=H) hu;have gn:=λ o o'=>I.new (I.refl [] H) o o';have fin:∀r o o',Q' (bl r) ((H.add o).put H.ab (some o')):=λ r o o'=>hQ ⟨⟨r,rfl⟩,gn o o'⟩;simp[O.get,a6,B.get];refine Fi e ?_;simp;by_cases hs:s=z_
 .simp[hs];exact fin _ _ _
 .by_cases Z:x<0
  .simp[hs,Z];exact fin _ _ _
  .simp[hs,Z,O.get,qD,a5];refine CW (aph x b (h6.ai (gn _ _)) hT) ?_;rintro _ K ⟨⟨r,rfl⟩,rfl⟩;simp;exact fin _ _ _
def ang(s:aI)(b i:Int)(hB:tA HB H id fn)(ok:sf fn):CN 219 [.ptr id 0,str s,ae b,ae i] H λ v K=>DP v/\I [] H K:=by
 refine ba ar0 rfl λ Q' hQ=>?_;have⟨t,vp,vb,sv,pv,tv,m,ay,O,a0,a1,a2,a3,a4,a5,a6,U,F,h4,h5,h6,h7,h8⟩:=hB.ob;have⟨c,l,B,hu⟩:=h8.use s;have⟨x,y,e⟩:=ai8 (H:=H) hu;have gn:=λ o o'=>I.new (I.refl [] H) o o';simp[O.get,a6,B.get];refine Fi e ?_;simp;by_cases Z:x=b
 .simp[Z];exact hQ ⟨⟨_,rfl⟩,gn _ _⟩
 .simp[Z];refine CW (afJ s b (hB.W (gn _ _)) ok) ?_;rintro _ K ⟨⟨r,rfl⟩,g⟩;simp;exact hQ ⟨⟨_,rfl⟩,(gn _ _).trans g⟩
def adV(hB:tA HB H id fn)(g0:I [] HB H)(hf:∀(b i:Nat) (hb:b<fn.blocks.length) (A:i<fn.blocks[b].code.length) M K,I [] H K->ku HB fn.blocks[b].code[i] M->CF E0 fv [ae b,ae i,.agg M] K λ v T=>DP v/\I [] K T):CN 205 [.ptr id 0,fv] H λ v K=>IsR v/\I [] H K:=by
 refine ba arN rfl λ Q' hQ=>?_
 have⟨t,vp,vb,sv,pv,tv,m,ay,O,a0,a1,a2,a3,a4,a5,a6,U,F,h4,h5,h6,h7,h8⟩:=hB.ob
 simp[O.get,a2,F.aN nh]
 refine CA (λ b sl K=>I [] H K/\AV sl 1 fv/\AV sl 15 vb/\AV sl 16 (ae fn.blocks.length)/\AV sl 17 (ae b)/\b<=fn.blocks.length) fn.blocks.length ⟨aw,ζ⟩ ?_
 rintro b1 k1-cq b sl K ⟨gK,s1,dg,fP,ji,hb⟩ ih
 by_cases az:b<fn.blocks.length
 .have⟨kQ,ig,kD,iR,n1,ta,py,kE,dc,cT,iy,eZ,eI⟩:=F.at_ az
  obtain⟨vc,rfl,bX⟩:=eI;have iJ:=cT.ai (g0.trans gK);simp[dg,fP,ji,az,dc,iJ.get,bY eZ,iy,bX.cell,bX.aN nT];have gn:=λ o o'=>I.new (I.refl [] K) o o';refine CA (λ i sl K=>I [] H K/\AV sl 1 fv/\AV sl 7 (ae b)/\AV sl 15 vb/\AV sl 16 (ae fn.blocks.length)/\AV sl 17 (ae b)/\AV sl 23 vc/\AV sl 24 (ae fn.blocks[b].code.length)/\AV sl 25 (ae i)/\i<=fn.blocks[b].code.length) (fn.blocks[b].code.length) ⟨gK.trans (gn _ _),by simp[s1,dg,fP,ji,dc]⟩ ?_
  clear s1 dg fP ji gK iJ gn;rintro b2 k2-dO i sl K ⟨gK,s1,s7,dg,fP,ji,dx,iO,yK,A⟩ eJ;by_cases dK:i<fn.blocks[b].code.length
  .have⟨lJ,lU,rN,kY,n2,tb,qW,mR,fp,ck,gV,iz,iv⟩:=bX.at_ dK;have kP:=ck.ai (g0.trans gK);have gn:=λ o o'=>I.new (I.refl [] K) o o';have atP:=iv;have⟨va,vl,aan,zF,EA,mY⟩:=atP;subst aan;simp[s1,s7,dx,iO,yK,dK,fp,kP.get,bY iz,gV,zF.cell,EA.cell];refine vM (hf b i az dK _ _ (gK.trans (gn _ _)) iv) ?_;rintro _ T ⟨⟨r,rfl⟩,g'⟩;cases r with
   |true=>
    simp[s7]
    exact hQ ⟨⟨b,i,true,rfl⟩,(gK.trans (gn _ _)).trans g'⟩
   |false=>
    simp[yK,bq (aT dK bX.cP)]
    exact eJ ω ⟨(gK.trans (gn _ _)).trans g',by simp[s1,s7,dg,fP,ji,dx,iO,fp];omega⟩
  .obtain rfl:i=fn.blocks[b].code.length:=ω
   subst dO;simp[iO,yK,ji,bq (aT az F.cP)];exact ih ω ⟨gK,by simp[s1,dg,fP];omega⟩
 .obtain rfl:b=fn.blocks.length:=ω
  subst cq;simp[fP,ji];exact hQ ⟨⟨0,0,false,rfl⟩,gK⟩
def Om(HB:D)(f:Nat)(fn:aQ):Prop:=∀(H:D) (id:Nat),tA HB H id fn->I [] HB H->CN f [.ptr id 0] H λ v K=>IsR v/\I [] H K
def apy(Z:ku HB x M)(g0:I [] HB H)(hc:Lv H dH (.cells 1 t false))(ht:AV t 0 (.ptr id 0))(hB:tA HB H id fn)(ok:sf fn):CN 206 [ae b,ae i,.agg M,.ptr dH 0] H λ v K=>DP v/\I [] H K:=by
 refine ba arO rfl λ Q' hQ=>?_
 obtain⟨va,vl,rfl,ha,hl,hr⟩:=Z
 have⟨t',vp,vb,sv,pv,tv,m,ay,O,a0,a1,a2,a3,a4,a5,a6,U,F,h4,h5,h6,h7,h8⟩:=hB.ob
 have qD:¬id=H.ab:=bC O.lt
 have sT:¬dH=H.ab:=bC hc.lt
 have cR:0<fn.blocks.length:=za.2 ok.ne
 have⟨kQ,ig,kD,iR,n1,ta,py,kE,dc,cT,iy,eZ,eI⟩:=F.at_ cR
 obtain⟨vc,rfl,bX⟩:=eI
 have iJ:=cT.ai g0
 have ne3:¬kQ=H.ab:=bC iJ.lt
 have⟨q0,q1⟩:=JQ eZ
 have q0':ta.get ig=some (str fn.blocks[0].label):=by simpa using q0
 have bm:ig<n1:=ω
 have gn:=λ o=>(I.refl [] H).add o
 by_cases bP:x.op=6
 .simp[ha.cell,hl.cell,bP]
  exact hQ ⟨⟨_,rfl⟩,gn _⟩
 .simp[ha.cell,hl.cell,bP,qD,sT,ne3,hc.get,ht,O.get,a2,dc,cR,iJ.get,q0',bm]
  refine CW (ZB _ (hl.fZ (g0.trans (gn _))) λ _ _ h=>h.1) ?_;rintro _ K ⟨rfl,rfl⟩;simp;exact hQ ⟨⟨_,rfl⟩,gn _⟩
def apz(ok:sf fn):Om HB 158 fn:=by
 intro H id hB g0;refine ba ara rfl λ Q' hQ=>?_;simp;generalize aP:D.add _ _=H1;have l1:Lv H1 H.ab (.cells 1 (Tr.e.put 0 (some (.ptr id 0))) false):=by rw[<-aP];exact Lv.new
 have g1:I [] H H1:=by rw[<-aP];exact aw.add _
 clear aP;refine CW (adV (hB.W g1) (g0.trans g1) ?_) ?_
 .intro b i hb A M K gK Z;simp;exact apy Z ((g0.trans g1).trans gK) (l1.ai gK) ζ ((hB.W g1).W gK) ok
 rintro _ K ⟨⟨b,i,r,rfl⟩,g⟩;simp;exact hQ ⟨⟨b,i,r,rfl⟩,g1.trans g⟩
def aGq(ok:sf fn):Om HB 159 fn:=by
 intro H id hB g0;refine ba arb rfl λ Q' hQ=>?_;have⟨t',vp,vb,sv,pv,tv,m,ay,O,a0,a1,a2,a3,a4,a5,a6,U,F,h4,h5,h6,h7,h8⟩:=hB.ob;simp[O.get,a3];generalize aP:D.add _ _=H1;have l1:Lv H1 H.ab (.cells 1 (Tr.e.put 0 (some (ae 0))) false):=by rw[<-aP];exact Lv.new
 have g1:I [] H H1:=by rw[<-aP];exact aw.add _
 clear aP;have ED:=ok.nb;have hn:NI 0 H1 (.sl H.ab 0 1 1 1 true) [0]:=NI.own (aH:=[H.ab]) (.kq l1 rfl (λ j hj=>by
  obtain rfl:j=0:=ω
  simp) aF (λ h=>by cases h) (by unfold maxLen;omega)) (λ _ _=>dQ _)
 refine CW (rxc (h4.ai g1) (by simp[lh];omega) hn) ?_;rintro u K ⟨⟨out,hu,-⟩,g⟩;simp;obtain⟨z,hz,MP⟩:∃z,idxOf (λ x=>decide (false=x)) (List.map out (List.range (lh fn.blocks).length))=z/\(z=-1\/∃i:Nat,z=(i:Int)):=by
  rcases aa2 (λ x=>decide (false=x)) (List.map out (List.range (lh fn.blocks).length))with⟨e,_⟩|⟨i,_,e,_⟩
  .exact⟨_,e,.inl rfl⟩
  .exact⟨_,e,.inr ⟨i,rfl⟩⟩
 refine CW (awK false hu) ?_;rintro _ K2 ⟨rfl,rfl⟩;rw[hz];rcases MP with rfl|⟨i,rfl⟩
 .simp;exact hQ ⟨⟨0,0,false,rfl⟩,g1.trans g⟩
 .have hi0:¬(i:Int)<0:=ω
  simp[hi0];exact hQ ⟨⟨i,0,true,rfl⟩,g1.trans g⟩
end
section
variable{H HB:D}{id:Nat}{fn:aQ}
def ank(hb:b<(h_ g).length)(Q:k∈(h_ g)[b]):∃p:Nat,k=p/\p<g.length:=by
 have lQ:b<g.length:=by simpa[h_]using hb
 have e:(h_ g)[b]=qI (gC g) g.length b:=by simp[h_]
 rw[e,Rc]at Q;have⟨a,O,U,_⟩:=Q;exact⟨a,U,O⟩
def anl(hr:∀l∈g,l.length<=1048576)(hb:b<(h_ g).length):(h_ g)[b].length<=g.length*1048576:=by
 have e:(h_ g)[b]=qI (gC g) g.length b:=by simp[h_]
 rw[e];refine Zi λ l hl=>?_;obtain⟨a,ha,rfl⟩:=jn.1 hl;exact aY ajx (hr a ha)
def aAB(Z:ku HB x M)(g0:I [] HB H)(hc:Lv H dH (.cells 1 t false))(ht:AV t 0 (.ptr id 0))(hB:tA HB H id fn)(ok:sf fn)(hb:b<fn.blocks.length)(vB:x.eh.length<=1048576):CN 209 [ae b,ae i,.agg M,.ptr dH 0] H λ v K=>DP v/\I [] H K:=by
 refine ba arR rfl λ Q' hQ=>?_
 obtain⟨va,vl,rfl,ha,hl,hr⟩:=Z
 have⟨t',vp,vb,sv,pv,tv,m,ay,O,a0,a1,a2,a3,a4,a5,a6,U,F,h4,h5,h6,h7,h8⟩:=hB.ob
 have qD:¬id=H.ab:=bC O.lt
 have sT:¬dH=H.ab:=bC hc.lt
 have gn:=λ o=>(I.refl [] H).add o
 have Gz:b<(h_ (lh fn.blocks)).length:=by simp[h_,lh,hb]
 have⟨idb,azT,BT,Lm,nb,tb,rob,r,Jp,ahT,U',QF,kj,_⟩:=h5.row Gz
 have ne3:¬idb=H.ab:=bC ahT.lt
 have ED:=ok.nb
 have vF:(h_ (lh fn.blocks))[b].length<=67108864:=by
  have:=anl (akT ok) Gz;have e:(lh fn.blocks).length=fn.blocks.length:=by simp[lh]
  omega
 by_cases bP:x.op=6
 .simp[ha.cell,hl.cell,bP,qD,sT,ne3,hc.get,ht,O.get,a4,Jp,Gz,ahT.get,U',QF,kj.sl.aN bK]
  generalize aP:D.add _ _=H1;have g1:I [] H H1:=by rw[<-aP];exact aw.add _
  have l1:∃t,Lv H1 H.ab (.cells 8 t false)/\AV t 7 vl:=by rw[<-aP];exact⟨_,Lv.new,ζ⟩
  clear aP;have⟨t1,l1,w7⟩:=l1;have Vd:=l1.lt;refine bu (α:=Nat×List aI) (aJ:=λ p sl K=>I [] H1 K/\(∃w aH,aX K 1 w (strs p.2) aH/\(∀y∈aH,H1.ab<=y)/\AV sl 8 w)/\p.2.length=p.1/\AV sl 3 (.ptr dH 0)/\AV sl 6 (.ptr H.ab 0)/\AV sl 22 r/\AV sl 23 (ae (h_ (lh fn.blocks))[b].length)/\AV sl 24 (ae p.1)/\p.1<=(h_ (lh fn.blocks))[b].length) (mu:=λ p=>(h_ (lh fn.blocks))[b].length-p.1) ?_ (0,[]) _ _ ?ini;case ini=>exact⟨aw,⟨_,[],.nil,ζ,ζ⟩,rfl,ζ⟩
  rintro b1 k1-cq ⟨j,aA⟩ sl K ⟨gK,⟨w,aH,ow,kI,s8⟩,UE,s3,s6,fu,dx,iO,hj⟩ ih;dsimp only at ow UE iO hj ih;have hBK:=(hB.W g1).W gK;have Qj:=(hc.ai g1).ai gK;have h1K:=(O.ai g1).ai gK;have zU:=l1.ai gK;by_cases az:j<(h_ (lh fn.blocks))[b].length
  .have⟨idr,ajE,afZ,exr,nr,tr,ror,nL,yd,Jb,Db,_⟩:=((kj.ai g1).ai gK).num az;have⟨pn,Mt,mC⟩:=ank Gz (cG az);have Vo:pn<fn.blocks.length:=by simpa[lh]using mC
   rw[Mt]at Db;have⟨kQ,ig,kD,iR,n1,ta,py,kE,dc,cT,iy,eZ,eI⟩:=F.at_ Vo;obtain⟨vc,rfl,bX⟩:=eI;have iJ:=cT.ai ((g0.trans g1).trans gK);have⟨q0,q1⟩:=JQ eZ;have bm:ig+pn*2<n1:=ω
   simp[-cX,s3,s8,fu,dx,iO,az,nL,yd.get,Jb,Db,Qj.get,ht,h1K.get,a2,dc,Vo,iJ.get,q0,bm];refine vL (c:=str fn.blocks[pn].label) fw DH ow rfl ξ ξ ?_;intro v' T wP p1 p2 p3;simp[iO,fQ (show(-9223372036854775808:Int)<=(j:Int)+1 by omega) (show(j:Int)+1<=9223372036854775807 by omega)];refine ih (j+1,aA++[fn.blocks[pn].label]) _ _ (by simp only;omega) ⟨⟨aY gK.ab p2.ab,λ q hq _=>(p2.get q (by have:=gK.ab;omega) λ B=>by have:=kI _ B;omega).trans (gK.get q hq ζ)⟩,⟨v',wP,by simpa using p1,λ y G=>?_,ζ⟩,by simp[UE],by simp[s3,s6,fu,dx,nL];omega⟩;rcases p3 y G with h|h
   .exact kI y h
   .have:=gK.ab;omega
  .obtain rfl:j=(h_ (lh fn.blocks))[b].length:=ω
   subst cq;simp[s6,dx,iO,zU.get,w7];refine CW (aoG (hl.fZ ((g0.trans g1).trans gK)) (λ _ _ h=>h.1) ω) ?_;rintro u K2 ⟨g2,wP,ou,ahL⟩;simp[s8];refine CW (aeu ahP (ow.W g2 ζ) ω) ?_;rintro _ K3 ⟨rfl,ow3,g3⟩;simp;have ahD:∀x∈wP,x∉aH:=λ x Z B=>by have:=ahL x Z;have:=ow.lt x B;omega
   refine CW (aeu ahP (ou.W g3 ahD) ω) ?_;rintro _ K4 ⟨rfl,ou4,g4⟩;simp[s8];have ow4:=ow3.W g4 (λ x Z B=>ahD x B Z);refine CW (ap4 ow4.strs ou4.strs) ?_;rintro _ K5 ⟨⟨r,rfl⟩,rfl⟩;simp;refine hQ ⟨⟨_,rfl⟩,⟨aY (g1.trans gK).ab (aY g2.ab (aY g3.ab g4.ab)),λ q hq _=>?_⟩⟩;have e1:=(g1.trans gK).ab;have e0:=g1.ab;have e2:=g2.ab;have e3:=g3.ab;rw[g4.get q ω (λ B=>by have:=ahL q B;omega),g3.get q ω (λ B=>by have:=kI q B;omega),g2.get q ω ζ,(g1.trans gK).get q hq ζ]
 .simp[ha.cell,hl.cell,bP]
  exact hQ ⟨⟨_,rfl⟩,gn _⟩
def aAC(ok:sf fn):Om HB 160 fn:=by
 intro H id hB g0;refine ba ard rfl λ Q' hQ=>?_;simp;generalize aP:D.add _ _=H1;have l1:Lv H1 H.ab (.cells 1 (Tr.e.put 0 (some (.ptr id 0))) false):=by rw[<-aP];exact Lv.new
 have g1:I [] H H1:=by rw[<-aP];exact aw.add _
 clear aP;refine CW (adV (hB.W g1) (g0.trans g1) ?_) ?_
 .intro b i hb A M K gK Z;simp;exact aAB Z ((g0.trans g1).trans gK) (l1.ai gK) ζ ((hB.W g1).W gK) ok hb (ok.small _ (cG hb) _ (cG A)).2
 rintro _ K ⟨⟨b,i,r,rfl⟩,g⟩;simp;exact hQ ⟨⟨b,i,r,rfl⟩,g1.trans g⟩
end
def Sz(fn:aQ):Prop:=∀bk∈fn.blocks,∀x∈bk.code,x.op=6->x.args.length<=x.eh.length
section
variable{H HB:D}{id:Nat}{fn:aQ}
def ao1(hs:aW H 1 (One λ s=>str s) sv L)(hf:∀s∈L,∀K,I [] H K->CF E0 fv [str s] K λ v T=>DP v/\I [] K T):CN 216 [sv,fv] H λ v K=>DP v/\I [] H K:=by
 refine ba ag0 rfl λ Q' hQ=>?_
 simp
 refine CW (awF (λ _ K=>I [] H K) (λ _ K=>I [] H K) (λ i K g=>hs.fZ g) aw ?_) ?_
 .intro i A c K g hc
  cases hc;refine(hf _ (cG A) K g).mono ?_;rintro _ T ⟨⟨r,rfl⟩,g'⟩;exact⟨r,rfl,λ _=>g.trans g',λ _=>g.trans g'⟩
 rintro v K h
 have:∃z:Int,v=ae z/\I [] H K:=by
  rcases h with⟨i,_,rfl,g⟩|⟨rfl,g⟩
  .exact⟨_,rfl,g⟩
  .exact⟨_,rfl,g⟩
 obtain⟨z,rfl,g⟩:=this
 simp
 exact hQ ⟨⟨_,rfl⟩,g⟩
def ay0{bk:cU}(Z:p_ HB bk M)(hc:Lv H dH (.cells 1 t false))(ht:AV t 0 (str s)):CN 214 [.agg M,.ptr dH 0] H λ v K=>v=bl (decide (bk.label=s))/\I [] H K:=by
 refine ba arW rfl λ Q' hQ=>?_
 obtain⟨vc,rfl,bX⟩:=Z
 simp[bX.cell,bC hc.lt,hc.get,ht]
 exact hQ ⟨rfl,aw.add _⟩
def ay1(g0:I [] HB H)(hB:tA HB H id fn)(hc:Lv H dH (.cells 1 t false))(ht:AV t 0 (.ptr id 0)):CN 212 [str s,.ptr dH 0] H λ v K=>(∃z:Int,v=ae z)/\I [] H K:=by
 refine ba arU rfl λ Q' hQ=>?_
 have⟨t',vp,vb,sv,pv,tv,m,ay,O,a0,a1,a2,a3,a4,a5,a6,U,F,h4,h5,h6,h7,h8⟩:=hB.ob
 have qD:¬id=H.ab:=bC O.lt
 have sT:¬dH=H.ab:=bC hc.lt
 simp[qD,sT,hc.get,ht,O.get,a2]
 generalize aP:D.add _ _=H1
 have g1:I [] H H1:=by rw[<-aP];exact aw.add _
 have l1:Lv H1 H.ab (.cells 1 (Tr.e.put 0 (some (str s))) false):=by rw[<-aP];exact Lv.new
 clear aP
 refine CW (DN.p VW.1 (p:=λ bk:cU=>decide (bk.label=s)) (F.W (g0.trans g1) λ _ _ _ h=>h.W (g0.trans g1)) ?_) ?_
 .intro x Z M K g hR
  simp;exact ay0 hR (l1.ai g) ζ
 rintro _ K ⟨rfl,g⟩
 simp
 exact hQ ⟨⟨_,rfl⟩,g1.trans g⟩
def ay2{i:Int}(hB:tA HB H id fn)(ok:sf fn)(l1:Lv H dH (.cells 1 t false))(w1:AV t 0 (.ptr id 0))(l2:Lv H c2 (.cells 1 t2 false))(w2:AV t2 0 (ae k))(l3:Lv H c3 (.cells 1 t3 false))(w3:AV t3 0 (ae i)):CN 218 [str s,.ptr dH 0,.ptr c2 0,.ptr c3 0] H λ v K=>DP v/\I [] H K:=by
 refine ba arZ rfl λ Q' hQ=>?_
 simp[l1.get,w1,l2.get,w2,l3.get,w3]
 refine CW (ang s k i hB ok) ?_
 rintro _ K ⟨⟨r,rfl⟩,g⟩
 simp
 exact hQ ⟨⟨_,rfl⟩,g⟩
def ay3(Z:ku HB x M)(g0:I [] HB H)(hc:Lv H dH (.cells 1 t false))(ht:AV t 0 (.ptr id 0))(hf:Lv H c2 (.cells 1 tf false))(I_:tf.get 0=some (.fn (.func 212) [] [.ptr dH 0]))(hB:tA HB H id fn)(ok:sf fn)(I1:x.args.length<=1048576)(hph:x.op=6->x.args.length<=x.eh.length):CN 215 [ae b,ae i,.agg M,.ptr dH 0,.ptr c2 0] H λ v K=>DP v/\I [] H K:=by
 refine ba arX rfl λ Q' hQ=>?_
 have iX:=Z
 obtain⟨va,vl,rfl,ha,hl,hr⟩:=Z
 have sT:¬dH=H.ab:=bC hc.lt
 by_cases bP:x.op=6
 .simp[ha.cell,hl.cell,bP,ha.aN fw]
  generalize aP:D.add _ _=H1;have g1:I [] H H1:=by rw[<-aP];exact((aw.add _).add _).add _
  have l3:∃t,Lv H1 (H.ab+2) (.cells 8 t false)/\AV t 7 vl:=by rw[<-aP];exact⟨_,Lv.new,ζ⟩
  clear aP;have⟨t3,l3,w7⟩:=l3;refine CA (λ k sl K=>I [] H1 K/\AV sl 3 (.ptr dH 0)/\AV sl 4 (.ptr c2 0)/\AV sl 7 (.ptr (H.ab+2) 0)/\AV sl 19 va/\AV sl 20 (ae x.args.length)/\AV sl 21 (ae k)/\k<=x.args.length) x.args.length ⟨aw,ζ⟩ ?_
  rintro b1 k1-cq k sl K ⟨gK,s3,s4,s7,i_,qY,jY,Q⟩ ih;have vj:=g1.trans gK;have Qj:=hc.ai vj;have hfK:=hf.ai vj;have l3K:=l3.ai gK;have hBK:=hB.W vj;by_cases az:k<x.args.length
  .have kJ:k<x.eh.length:=aT az (hph bP);have⟨MU,WJ,Tx,TZ,na,ta,Xe,ca,kl,sI,AY,zP,⟨LO,_⟩⟩:=(ha.fZ (g0.trans vj)).gL az;cases LO;have⟨GS,azU,an6,exl,nl,tl,rol,cl,mO,sJ,aaw,aaQ,⟨IV,_⟩⟩:=(hl.fZ (g0.trans vj)).gL kJ;cases IV;simp[s3,s4,s7,i_,qY,jY,az,kl,sI.get,AY,zP,Qj.get,ht,hfK.get,I_,l3K.get,w7,mO,kJ,sJ.get,aaw,aaQ];refine CW (ay1 (g0.trans vj) hBK Qj ht) ?_;rintro _ K2 ⟨⟨z,rfl⟩,g2⟩;simp;refine dF ?_ ?_
   .simp[dm,val,s3,(Qj.ai g2).get,ht]
   simp;refine CW (afJ _ z (hBK.W g2) ok) ?_;rintro _ K3 ⟨⟨r,rfl⟩,g3⟩;cases r with
   |true=>
    simp[jY,bq (aT az ha.cP)]
    exact ih ω ⟨(gK.trans g2).trans g3,by simp[s3,s4,s7,i_,qY,kl];omega⟩
   |false=>
    simp
    exact hQ ⟨⟨_,rfl⟩,(vj.trans g2).trans g3⟩
  .obtain rfl:k=x.args.length:=ω
   subst cq;simp[qY,jY];exact hQ ⟨⟨_,rfl⟩,vj⟩
 .simp[ha.cell,hl.cell,bP]
  generalize aP:D.add _ _=H1;have g1:I [] H H1:=by rw[<-aP];exact((aw.add _).add _).add _
  have l1:∃t,Lv H1 H.ab (.cells 1 t false)/\AV t 0 (ae b):=by rw[<-aP];exact⟨_,Lv.new.add.add,ζ⟩
  have l2:∃t,Lv H1 (H.ab+1) (.cells 1 t false)/\AV t 0 (ae i):=by rw[<-aP];exact⟨_,(Lv.new (H:=H.add _)).add,ζ⟩
  clear aP;have⟨t1,l1,w1⟩:=l1;have⟨t2,l2,w2⟩:=l2;refine CW (aGs iX (g0.trans g1) I1) ?_;rintro u K ⟨hu,gK⟩;simp;refine CW (ao1 hu ?_) ?_
  .intro s hs K2 g2;simp;have gA:=(g1.trans gK).trans g2;exact ay2 (hB.W gA) ok (hc.ai gA) ht (l1.ai (gK.trans g2)) w1 (l2.ai (gK.trans g2)) w2
  rintro _ K3 ⟨⟨r,rfl⟩,g3⟩;simp;exact hQ ⟨⟨_,rfl⟩,(g1.trans gK).trans g3⟩
def azz(ok:sf fn)(hph:Sz fn):Om HB 161 fn:=by
 intro H id hB g0;refine ba are rfl λ Q' hQ=>?_;simp;generalize aP:D.put _ _ _=H1;have l1:Lv H1 H.ab (.cells 1 (Tr.e.put 0 (some (.ptr id 0))) false):=by rw[<-aP];exact Lv.new.add.eu ζ
 have l2:∃t,Lv H1 (H.ab+1) (.cells 1 t false)/\AV t 0 (.fn (.func 212) [] [.ptr H.ab 0]):=by rw[<-aP];exact⟨_,(Lv.new (H:=H.add _)).put_eq,ζ⟩
 have g1:I [] H H1:=by rw[<-aP];exact I.new (aw.add _) _ _
 clear aP;have⟨t2,l2,w2⟩:=l2;refine CW (adV (hB.W g1) (g0.trans g1) ?_) ?_
 .intro b i hb A M K gK Z;simp;have EB:=cG hb;have Jd:=cG A;exact ay3 Z ((g0.trans g1).trans gK) (l1.ai gK) ζ (l2.ai gK) w2 ((hB.W g1).W gK) ok (ok.small _ EB _ Jd).1 (hph _ EB _ Jd)
 rintro _ K ⟨⟨b,i,r,rfl⟩,g⟩;simp;exact hQ ⟨⟨b,i,r,rfl⟩,g1.trans g⟩
end
variable{fn:aQ}
def SC(p:List aQ):Prop:=∀f b i x,At p f b i x->x.eh.length<=1048576
theorem abu:∀{l:AT} {x:Nat},x∈l->x<=l.sum
 |[],x,h=>by simp at h
 |a::l,x,h=>by
  rw[sr]
  rcases cZ.1 h with rfl|h
  .omega
  .have:=abu h;omega
def Z7{p:List aQ}(h:∀k,1<=k->k<=16->¬FF p k)(hA:HH p)(hL:SC p)(hf:p[dH]?=some fn):sf fn/\Sz fn:=by
 have b5:¬((∃(dH:Nat) (x:aQ),p[dH]?=some x/\8<x.params.length)\/jF p λ _ _ _ x=>Ab x):=h 5 ω ω;have b6:¬Sl p λ _ x=>Bo x:=h 6 ω ω;have b8:¬4096<ij p:=h 8 ω ω;have b9:¬jF p λ _ _ _ x=>vQ x:=h 9 ω ω;have b10:¬(XR p\/jF p (wW p)):=h 10 ω ω;have b12:¬jF p λ dH _ _ x=>NH p dH x:=h 12 ω ω;have hq:Bo fn=false:=by cases hq:Bo fn with|false=>rfl|true=>exact absurd ⟨dH,fn,hf,hq⟩ b6
 unfold Bo at hq;simp only[HQ,Th]at hq;have at_:∀{bk:cU} {x:bp},bk∈fn.blocks->x∈bk.code->∃b i,At p dH b i x/\fn.blocks[b]?=some bk/\bk.code[i]?=some x:=by intro bk x O U;have⟨b,hb⟩:=sq O;have⟨i,A⟩:=sq U;exact⟨b,i,⟨fn,bk,hf,hb,A⟩,hb,A⟩
 refine⟨⟨hq.1,ω,?_,λ bk cJ=>⟨?_,?_⟩,λ bk cJ x Z=>?_,λ bk cJ x Z s hs=>?_,λ bk cJ x Z=>?_⟩,λ bk cJ x Z bP=>?_⟩
 .rcases kb 8 fn.params.length with h'|h'
  .exact absurd (.inl ⟨dH,fn,hf,h'⟩) b5
  .exact h'
 .rintro hc;have⟨b,hb⟩:=sq cJ;exact b10 (.inl ⟨dH,b,fn,bk,hf,hb,hc⟩)
 .have O:fL fn.blocks<=ij p:=abu (jn.2 ⟨fn,oS hf,rfl⟩);have U:bk.code.length<=fL fn.blocks:=abu (jn.2 ⟨bk,cJ,rfl⟩);omega
 .have⟨b,hb⟩:=sq cJ;rw[KG]at Z;have cQ:At p dH b (bk.code.length-1) x:=⟨fn,bk,hf,hb,Z⟩;have bm:=(cW.1 Z).1;cases uf:wW p dH b (bk.code.length-1) x with
  |true=>exact absurd (.inr ⟨dH,b,_,x,cQ,uf⟩) b10
  |false=>
   unfold wW at uf
   have eN:Lb p dH b=bk.code.length:=by unfold Lb;rw[hf];dsimp only;rw[hb]
   have he:bk.code.length-1+1=Lb p dH b:=ω
   have:M1 x.op=true:=by simpa[he]using uf
   unfold M1 at this
   simp only[xt,rK]at this
   rcases this with(h|h)|h
   .exact .inl h
   .exact .inr (.inl h)
   .exact .inr (.inr h)
 .have⟨b,i,cQ,_⟩:=at_ cJ Z;cases uf:NH p dH x with
  |true=>exact absurd ⟨dH,b,i,x,cQ,uf⟩ b12
  |false=>
   unfold NH at uf
   rw[hf]at uf
   dsimp only at uf
   rw[Yz]at uf
   have U:=uf s hs
   have F:L5 fn s=true:=by simpa using U
   unfold L5 at F
   rw[YB]at F
   have⟨b',h4,h5⟩:=F
   exact⟨b',h4,by simpa using h5⟩
 .have⟨b,i,cQ,_⟩:=at_ cJ Z;exact⟨hA _ _ _ _ cQ,hL _ _ _ _ cQ⟩
 .have⟨b,i,cQ,_⟩:=at_ cJ Z;cases uf:vQ x with
  |true=>exact absurd ⟨dH,b,i,x,cQ,uf⟩ b9
  |false=>
   unfold vQ at uf
   have e:uJ x.op=some ⟨true,false,false,false,false,true,true⟩:=by rw[bP];rfl
   rw[e]at uf
   simp only[HQ]at uf
   have F:Go.Proofs.YtgipmaoplfkdoaaGreatDoor.bk x=false:=uf.2
   unfold Go.Proofs.YtgipmaoplfkdoaaGreatDoor.bk at F
   simp[bP]at F
   omega
variable{K T:D}{es:Nat}
def Tp(k:Nat):fD:=match k with|0=>158|1=>159|2=>160|_=>161
def al1(H5:D)(l:Nat)(L:LR)(T:D):Prop:=I [l] H5 T/\Lv T l (LR.ob L .ready none)
def al0(H5:D)(l c2:Nat)(L:LR)(T:D):Prop:=∃(rr ff bb ii:Nat) (t:CX),1<=rr/\I [l,c2] H5 T/\Lv T c2 (.cells 4 t false)/\bc t 0 4=some [u8 rr,ae ff,ae bb,ae ii]/\Lv T l (LR.ob L .done (some .ret))
def amt(cj bZ:D->Prop)(v:J)(K:D):Prop:=∃r,v=bl r/\(r=true->cj K)/\(r=false->bZ K)
section
variable{H HB:D}
def anf(ok:sf fn)(ph:Sz fn)(k:Nat):Om HB (Tp k) fn:=by match k with|0=>exact apz ok|1=>exact aGq ok|2=>exact aAC ok|_+3=>exact azz ok ph
def aD6(cj bZ:D->Prop)(h0:cj H)(hf:∀(k:Nat) K,k<4->cj K->CF E0 fv [u8 (17+k:Nat),.fn (.func (Tp k)) [] []] K (amt cj bZ)):CN 157 [fv] H λ _ K=>cj K\/bZ K:=by
 refine ba aq9 rfl λ Q' hQ=>?_
 simp
 refine vM (hf 0 H ω h0) ?_
 rintro _ K1 ⟨r1,rfl,j1,d1⟩
 cases r1 with
 |false=>simp;exact hQ (.inr (d1 rfl))
 |true=>
  simp
  refine vM (hf 1 K1 ω (j1 rfl)) ?_
  rintro _ K2 ⟨r2,rfl,j2,d2⟩
  cases r2 with
  |false=>simp;exact hQ (.inr (d2 rfl))
  |true=>
   simp
   refine vM (hf 2 K2 ω (j2 rfl)) ?_
   rintro _ K3 ⟨r3,rfl,j3,d3⟩
   cases r3 with
   |false=>simp;exact hQ (.inr (d3 rfl))
   |true=>
    simp
    refine vM (hf 3 K3 ω (j3 rfl)) ?_
    rintro _ K4 ⟨r4,rfl,j4,d4⟩
    cases r4 with|false=>simp;exact hQ (.inr (d4 rfl))|true=>simp;exact hQ (.inl (j4 rfl))
end
def aX.apE(h:aX K es fv M aH):Go.Proofs.YtgipmaoplfkdoaaGreatDoor.fy fv fv=true:=by cases h<;>simp
def BD(HB:D)(X:Nat->Prop)(K:D)(d:Nat)(fn:aQ):Prop:=∃lo A,A<=K.ab/\(∀y,X y->y<lo\/A<=y)/\∀dP,A<=dP.ab->(∀j,lo<=j->j<A->dP.get j=K.get j)->tA HB dP d fn
def BD.body(h:BD H X K dH fn):tA H K dH fn:=by have⟨lo,A,O,_,F⟩:=h;exact F K O λ _ _ _=>rfl
def BD.step{HB K K2:D}{X X':Nat->Prop}{S:AT}{d:Nat}{fn:aQ}(h:BD HB X K d fn)(g:I S K K2)(hS:∀s∈S,X s)(hX:∀y,X' y->X y\/K.ab<=y):BD HB X' K2 d fn:=by
 have⟨lo,A,O,U,F⟩:=h;refine⟨lo,A,aY O g.ab,λ y G=>?_,λ dP hn hj=>F dP hn λ j hl hh=>?_⟩
 .rcases hX y G with h|h
  .exact U y h
  .exact .inr (aY O h)
 .rw[hj j hl hh,g.get j ω λ B=>?_];have:=U j (hS j B);omega
def Sm.q(h:Sm H K.ab T dH fn)(hX:∀y,X y->y<K.ab\/T.ab<=y):BD H X T dH fn:=⟨K.ab,T.ab,aF,hX,λ dP hn hj=>h dP ⟨hn,λ i A hs=>hj i (by
 rcases kb i K.ab with h|h
 .exact absurd (mj.2 h) hs
 .exact h) A⟩⟩
def amu(p:List aQ)(H:D)(v:J)(K:D):Prop:=∃(r f b i:Nat),v=.agg [u8 r,ae f,ae b,ae i]/\(r=0->(f=0/\b=0/\i=0)/\∀k,1<=k->k<=16->¬FF p k)/\I [] H K
section
variable{H:D}{vf:J}{p:List aQ}
def aD7:CN 127 [] H λ v K=>K=H/\v=.fn (.func 157) [] []:=by refine im aqI rfl ?_;simp
def aET(hp:oO H vf p)(hA:HH p)(hL:SC p):CN 66 [.agg [vf]] H (amu p H):=by
 refine ba asQ rfl λ Q' hQ=>?_;simp[hp.cell];generalize aP:D.add _ _=H1;have a1:Lv H1 H.ab (.cells 1 (Tr.e.put 0 (some vf)) false):=by rw[<-aP];exact Lv.new.add
 have a2:∃t,Lv H1 (H.ab+1) (.cells 4 t false):=by rw[<-aP];exact⟨_,Lv.new (H:=H.add _)⟩
 have g1:I [] H H1:=by rw[<-aP];exact((I.refl [] H).add _).add _
 clear aP;have⟨t2,a2⟩:=a2;refine CW (aow H1 (hp.zB g1) hA) ?_;rintro _ K1 ⟨r,f,b,i,rfl,hr,fY⟩;have SK:=a2.ai fY;have n1:¬H.ab+1=K1.ab:=bC SK.lt;by_cases Jf:r=0
 .have mB:f=0/\b=0/\i=0/\∀k,1<=k->k<=16->¬FF p k:=by
   rcases hr with⟨_,h⟩|⟨h,_⟩
   .exact h
   .omega
  obtain⟨rfl,rfl,rfl,mB⟩:=mB;subst Jf;have Kt:=a1.ai fY;have n0:¬H.ab=K1.ab:=bC Kt.lt;have n0':¬H.ab=K1.ab+1:=by have:=Kt.lt;omega
  simp[n0,n0',Kt.get,hp.aN nf];generalize iH:D.add _ _=H2;have n2:H2.ab=K1.ab+2:=by rw[<-iH];rfl
  have g2:I [] K1 H2:=by rw[<-iH];exact(I.new aw _ _).add _
  have l4:∃t,Lv H2 (K1.ab+1) (.cells 1 t false)/\AV t 0 (.lit (.slice none 0 0)):=by rw[<-iH];exact⟨_,Lv.new (H:=(K1.add _).put _ _),ζ⟩
  have a2H:=SK.ai g2;clear iH;have⟨t4,l4,w4⟩:=l4;have zy:I [] H H2:=(g1.trans fY).trans g2;have avk:=zy.ab;have aH5:=Kt.lt;have Vd:=SK.lt;have aIj:p.length<=64:=by have:¬(p=[]\/64<p.length):=mB 1 ω ω;omega
  refine CA (λ f sl K=>I [K1.ab+1] H2 K/\(∃t w aH tP,Lv K (K1.ab+1) (.cells 1 t false)/\AV t 0 w/\aX K 1 w (List.map (λ d:Nat=>J.ptr d 0) tP) aH/\(∀y∈aH,H2.ab<=y)/\tP.length=f/\∀k (Q:k<tP.length) fn,p[k]?=some fn->BD H (λ y=>y=K1.ab+1\/y∈aH) K tP[k] fn)/\(∃z1 z2:Int,AV sl 5 (ae z1)/\AV sl 6 (ae z2))/\AV sl 2 (.ptr (H.ab+1) 0)/\AV sl 4 (.ptr (K1.ab+1) 0)/\AV sl 30 vf/\AV sl 31 (ae p.length)/\AV sl 32 (ae f)/\f<=p.length) p.length ⟨aw,⟨t4,_,[],[],l4,w4,.nil,ζ,rfl,λ k Q=>by simp at Q⟩,⟨0,p.length,ζ⟩,ζ⟩ ?_
  rintro b1 k1-cq f sl K ⟨gK,⟨tw,w,aH,tP,lw,hw,ow,kI,jM,hbq⟩,⟨z1,z2,s5,s6⟩,s2,s4,kr,kU,jZ,hf⟩ ih;have vj:I [] H K:=⟨aY avk gK.ab,λ j hj _=>(gK.get j ω ξ).trans (zy.get j hj ζ)⟩;have U_:=gK.ab;by_cases az:f<p.length
  .have⟨kQ,ig,kD,iR,zZ,ta,py,kE,dc,cT,iy,eZ,eI⟩:=hp.at_ az;have atN:=eI;have⟨vp,vb,auG,A2,I3⟩:=atN;subst auG;have iJ:=cT.ai vj;have jN:p[f]?=some p[f]:=bf az;have⟨Fl,phf⟩:=Z7 mB hA hL jN;have nw:¬K1.ab+1=K.ab:=bC lw.lt;simp[-cX,s4,kr,kU,jZ,az,dc,iJ.get,bY eZ,iy,A2.cell,I3.cell,nw,lw.get,hw];generalize dU:D.put _ _ _=Ka;have ga:I [] K Ka:=by rw[<-dU];exact I.new aw _ _
   have l8:∃t,Lv Ka K.ab (.cells 3 t false)/\bc t 0 3=some [str p[f].name,vp,vb]:=by rw[<-dU];exact⟨_,Lv.new.put_eq,by simp[bc]⟩
   clear dU;have⟨t8,l8,r8⟩:=l8;have⟨_,v81,v82⟩:=uE r8;refine CW (aE9 eI (vj.trans ga) Fl) ?_;rintro _ Kb ⟨⟨d,rfl,hd⟩,gb⟩;have lwb:=lw.ai (ga.trans gb);have owb:=ow.W (ga.trans gb) ζ;have eqw:fy w w=true:=ow.apE;simp;refine dF ?_ ?_
   .simp[dm,val,s4,lwb.get,hw,eqw]
   simp[-cX];refine vL (c:=.ptr d 0) R9 ali owb rfl ξ ξ ?_;intro w' Kc ids' p1 p2 p3;have auZ:∀y∈aH,y≠K1.ab+1:=λ y G=>by have:=kI y G;omega
   have lwc:=lwb.W p2 λ B=>(auZ _ B) rfl;have l8c:=(l8.ai gb).W p2 λ B=>by have:=ow.lt _ B;omega
   have nw8:¬K.ab=K1.ab+1:=ω
   simp[s4,lwc.get,p1.cell,p1.co,s5,l8c.get,v81,v82,nw8,A2.aN fw,I3.aN nh];generalize LJ:D.put _ _ _=Kd;have gcd:I [K1.ab+1] Kc Kd:=by rw[<-LJ];exact aw.put (.inr ζ)
   have lwd:∃t,Lv Kd (K1.ab+1) (.cells 1 t false)/\AV t 0 w':=by rw[<-LJ];exact⟨_,lwc.put_eq,ζ⟩
   clear LJ;have U':=(ga.trans gb).ab;have aHZ:=p2.ab;have aH0:=gcd.ab;have Mg:∀y∈ids',H2.ab<=y/\(y∈aH\/Kb.ab<=y):=λ y G=>by
    rcases p3 y G with h|h
    .exact⟨kI y h,.inl h⟩
    .exact⟨ω,.inr h⟩
   have owd:aX Kd 1 w' (List.map (λ d:Nat=>J.ptr d 0) (tP++[d])) ids':=by have:=p1.W gcd (by intro y G B;have:=(Mg y G).1;simp at B;omega);simpa using this
   have gKd:I [K1.ab+1] H2 Kd:=⟨ω,λ j hj hs=>by rw[gcd.get j ω hs,p2.get j ω λ B=>?_,(ga.trans gb).get j ω ζ,gK.get j hj hs];have:=kI j B;omega⟩;have aur:∀k (Q:k<(tP++[d]).length) fn,p[k]?=some fn->BD H (λ y=>y=K1.ab+1\/y∈ids') Kd (tP++[d])[k] fn:=by
    intro k Q fn iw;have akP:∀{e:Nat} {g:aQ},BD H (λ y=>y=K1.ab+1\/y∈aH) Kb e g->BD H (λ y=>y=K1.ab+1\/y∈ids') Kd e g:=λ h=>
     (h.step (X':=λ y=>y=K1.ab+1\/y∈ids') p2 (λ s hs=>.inr hs) (λ y G=>by
      rcases G with h|h
      .exact .inl (.inl h)
      .rcases(Mg y h).2 with h|h
       .exact .inl (.inr h)
       .exact .inr h)).step gcd (λ s hs=>by simp at hs;exact .inl hs) (λ y G=>.inl G)
    by_cases kJ:k<tP.length
    .rw[HW kJ];exact akP ((hbq k kJ fn iw).step (ga.trans gb) ζ (λ y G=>.inl G))
    .have hkf:k=f:=by simp at Q;omega
     subst hkf;rw[jN]at iw;cases iw;have e:(tP++[d])[k]=d:=by rw[afb ω];simp
     rw[e];refine akP (hd.q λ y G=>.inl ?_);rcases G with rfl|h
     .have:=lw.lt;have:=ga.ab;omega
     .have:=ow.lt y h;have:=ga.ab;omega
   refine CA (λ b sl K=>I [] Kd K/\(∃z1 z2:Int,AV sl 5 (ae z1)/\AV sl 6 (ae z2))/\AV sl 2 (.ptr (H.ab+1) 0)/\AV sl 4 (.ptr (K1.ab+1) 0)/\AV sl 30 vf/\AV sl 31 (ae p.length)/\AV sl 32 (ae f)/\AV sl 47 vb/\AV sl 48 (ae p[f].blocks.length)/\AV sl 49 (ae b)/\b<=p[f].blocks.length) (p[f].blocks.length) ⟨aw,⟨_,_,by simp[s6];exact⟨rfl,rfl⟩⟩,by simp[s2,s4,kr,kU,jZ,dc]⟩ ?_
   clear s2 s4 s5 s6 kr kU jZ;rintro b2 k2-dO b sl Ke ⟨IJ,⟨z1,z2,s5,s6⟩,s2,s4,kr,kU,jZ,NM,yL,pX,hb⟩ eJ;have gHe:I [] H Ke:=⟨by have:=IJ.ab;omega,λ j hj _=>by rw[IJ.get j ω ζ,gKd.get j ω ξ,zy.get j hj ζ]⟩;by_cases dp:b<p[f].blocks.length
   .have⟨lJ,lU,rN,kY,Re,tb,qW,mR,fp,ck,gV,iz,iv⟩:=I3.at_ dp;obtain⟨vc,rfl,bX⟩:=iv;have kP:=ck.ai gHe;have gn:=λ o o'=>I.new (I.refl [] Ke) o o';simp[NM,yL,pX,dp,fp,kP.get,bY iz,gV,bX.cell,bX.aN nT];refine CA (λ i sl K=>I [] Kd K/\(∃z1 z2:Int,AV sl 5 (ae z1)/\AV sl 6 (ae z2))/\AV sl 2 (.ptr (H.ab+1) 0)/\AV sl 4 (.ptr (K1.ab+1) 0)/\AV sl 30 vf/\AV sl 31 (ae p.length)/\AV sl 32 (ae f)/\AV sl 47 vb/\AV sl 48 (ae p[f].blocks.length)/\AV sl 49 (ae b)/\AV sl 54 vc/\AV sl 55 (ae p[f].blocks[b].code.length)/\AV sl 56 (ae i)/\i<=p[f].blocks[b].code.length) (p[f].blocks[b].code.length) ⟨IJ.trans (gn _ _),⟨_,_,by simp[s5,s6];exact⟨rfl,rfl⟩⟩,by simp[s2,s4,kr,kU,jZ,NM,yL,pX,fp]⟩ ?_
    clear s2 s4 s5 s6 kr kU jZ NM yL pX;rintro b3 k3-jU i sl Kf ⟨Ue,⟨z1,z2,s5,s6⟩,s2,s4,kr,kU,jZ,NM,yL,pX,qE,r_,s56,A⟩ jg;by_cases du:i<p[f].blocks[b].code.length
    .have⟨yy,Aa,xJ,wv,n3,tc,Bq,BV,jD,fF,mM,kh,f_⟩:=bX.at_ du;have⟨va,vl,auH,iU,fo,oi⟩:=f_;subst auH;have gHf:I [] H Kf:=⟨by have:=Ue.ab;omega,λ j hj _=>by rw[Ue.get j ω ζ,gKd.get j ω ξ,zy.get j hj ζ]⟩;have qx:=fF.ai gHf;have gn3:=λ o o'=>I.new (I.refl [] Kf) o o';have yu:=bq (aT du bX.cP);generalize p[f].blocks[b].code[i]=x at kh iU fo oi;by_cases hd0:x.dst=lT<;>by_cases sL:x.op=1<;>by_cases mV:x.op=2<;>simp[s5,s6,qE,r_,s56,du,jD,qx.get,bY kh,mM,iU.cell,fo.cell,hd0,sL,mV,yu]<;>exact jg ω ⟨Ue.trans (gn3 _ _),⟨_,_,by simp[s5,s6];exact⟨rfl,rfl⟩⟩,by simp[s2,s4,kr,kU,jZ,NM,yL,pX,qE,r_,jD];omega⟩
    .obtain rfl:i=p[f].blocks[b].code.length:=ω
     subst jU;simp[r_,s56,pX,bq (aT dp I3.cP)];exact eJ ω ⟨Ue,⟨z1,z2,by simp[s5,s6]⟩,by simp[s2,s4,kr,kU,jZ,NM,yL];omega⟩
   .obtain rfl:b=p[f].blocks.length:=ω
    subst dO;simp[yL,pX,jZ,bq (aT az hp.cP)];have⟨td,lwd,hwd⟩:=lwd;refine ih ω ⟨gKd.trans (IJ.mono ζ),⟨td,w',ids',tP++[d],lwd.ai IJ,hwd,owd.W IJ ζ,λ y G=>(Mg y G).1,by simp[jM],λ k Q fn iw=>(aur k Q fn iw).step IJ ζ (λ y G=>.inl G)⟩,⟨z1,z2,by simp[s5,s6]⟩,by simp[s2,s4,kr,kU];omega⟩
  obtain rfl:f=p.length:=ω
  subst cq;clear ih;have aaa:=vj;simp[kU,jZ];rw[cE aD7];simp;refine HA (gv:=.fn (.func 157) [] []) ζ ?_;refine⟨_,_,_,Im,?_⟩;simp;generalize qL:LR.mk _ _ _ _ _ _ _=L;generalize iS:D.add _ _=H5;have e5:H5.ab=K.ab+2:=by rw[<-iS];rfl
  have i5:Lv H5 K.ab .deferred:=by rw[<-iS];exact Lv.new.add
  have i6:Lv H5 (K.ab+1) (LR.ob L .ready none):=by rw[<-iS];exact Lv.new (H:=K.add _)
  have g5:I [] K H5:=by rw[<-iS];exact(aw.add _).add _
  clear iS;have eL:L.ps=[81,82]/\L.size=113:=by rw[<-qL];exact⟨rfl,rfl⟩
  have ahU:=g5.ab;refine(aD6 (al1 H5 (K.ab+1) L) (al0 H5 (K.ab+1) (H.ab+1) L) ⟨aw,i6⟩ ?_).mono ?_
  .rintro k T Q ⟨Gj,k6⟩;simp;refine Hu (λ Y K1'=>∃s,Y=⟨s,113,[],some (K.ab+1),66⟩/\s.get 2=some (.ptr (H.ab+1) 0)/\s.get 4=some (.ptr (K1.ab+1) 0)/\s.get 13=some (u8 (17+k:Nat))/\s.get 14=some (.fn (.func (Tp k)) [] [])/\T=K1') k6.get (by rw[eL.1];rfl) (by rw[eL.1,eL.2];simp) ?_ ?_
   .rw[<-qL];simp[s2,s4]
   .rintro Y K1' ⟨s,rfl,s2,s4,ez,cy,rfl⟩;refine⟨none,L,k6.get,?_⟩;have gx:I [K.ab+1] H5 (T.put (K.ab+1) (some (LR.ob L .busy none))):=Gj.put (.inr ζ);have kx:=k6.put_eq (o':=LR.ob L .busy none);generalize T.put (K.ab+1) (some (LR.ob L .busy none))=Kx at gx kx;have PK:I [] K Kx:=⟨by have:=gx.ab;omega,λ j hj _=>by rw[gx.get j ω ξ,g5.get j hj ζ]⟩;have lwx:=lw.ai PK;have owx:=ow.W PK ζ;have a2x:=((a2H.W gK ξ).ai PK);rw[<-iQ LR.bd qL];dsimp only;have awy:∀K,aN E0 169 w K=val (ae (p.length:Int)) K:=by
     intro K;cases hc:tP with
     |nil=>
      rw[hc]at ow jM
      have:w=.lit (.slice none 0 0)\/∃id ax ex,w=.sl id 0 1 0 ax ex:=by
       generalize gR:List.map (λ d:Nat=>J.ptr d 0) []=M at ow;cases ow with
       |nil=>exact .inl rfl
       |own O U F h4 h5 h6=>
        rw[<-gR]at U
        simp at U
        subst U
        exact .inr ⟨_,_,_,rfl⟩
      simp at jM
      rcases this with rfl|⟨id,ax,ex,rfl⟩
      .rw[Ba R9,<-jM]
      .rw[de R9,<-jM]
     |cons d ds=>
      obtain⟨id,ax,ex,t,rfl,_⟩:=ow.uC (by rw[hc];simp)
      rw[de R9,bW,jM]
    simp[s4,lwx.get,hw,awy];refine CA (λ j sl dP=>I [] Kx dP/\AV sl 2 (.ptr (H.ab+1) 0)/\AV sl 13 (u8 (17+k:Nat))/\AV sl 14 (.fn (.func (Tp k)) [] [])/\AV sl 83 w/\AV sl 84 (ae p.length)/\AV sl 85 (ae j)/\j<=p.length) p.length ⟨aw,by simp[s2,ez,cy]⟩ ?_
    clear s2 s4 ez cy;rintro b4 k4-Qt j sl Ky ⟨gy,s2,ez,cy,Xm,s84,s85,hj⟩ QU;by_cases dK:j<p.length
    .have sG:j<tP.length:=ω
     obtain⟨ic,kc,AI,tw2,rfl,rfl,lww,vx,C_,_⟩:=owx.uC ξ;have lwy:=lww.ai gy;have hgj:tw2.get j=some (.ptr tP[j] 0):=by rw[vx j ξ];simp[sG]
     simp only[bW]at C_ Xm;have GF:j<kc:=ω
     have zN:p[j]?=some p[j]:=bf dK;have⟨okj,phj⟩:=Z7 mB hA hL zN;have hBj:tA H Ky tP[j] p[j]:=((hbq j sG _ zN).body.W PK).W gy;rw[jM]at Xm;simp[cy,Xm,s84,s85,dK,lwy.get,hgj,GF];refine CW (anf okj phj k Ky tP[j] hBj ((aaa.trans PK).trans gy)) ?_;rintro _ Kz ⟨⟨bb,ii,rr,rfl⟩,gz⟩;cases rr with
     |false=>
      simp[s85,fQ (show(-9223372036854775808:Int)<=(j:Int)+1 by omega) (show(j:Int)+1<=9223372036854775807 by omega)]
      exact QU ω ⟨gy.trans gz,by simp[s2,ez,cy,Xm,s84,jM];omega⟩
     |true=>
      have a2z:=(a2x.ai gy).ai gz
      have kz:=(kx.ai gy).ai gz
      simp[s2,ez,a2z.get]
      have qD:¬K.ab+1=H.ab+1:=ω
      refine⟨_,_,L,(kz.eu qD).get,false,rfl,(λ h=>by cases h),λ _=>⟨17+k,j,bb,ii,_,ω,?_,(a2z.put_eq).eu ω,by simp[bc],(kz.eu qD).put_eq⟩⟩
      exact((((gx.mono ζ).trans (gy.mono ζ)).trans (gz.mono ζ)).put (.inr ζ)).put (.inr ζ)
    .obtain rfl:j=p.length:=ω
     subst Qt;simp[s84,s85];have ky:=kx.ai gy;exact⟨_,_,L,ky.get,true,rfl,λ _=>⟨(gx.trans (gy.mono ζ)).put (.inr ζ),ky.put_eq⟩,λ h=>by cases h⟩
  .rintro _ T (⟨Gj,k6⟩|⟨rr,ff,bb,ii,t,zR,Gj,l2,r2,k6⟩)
   .refine⟨_,_,L,k6.get,ζ,?_⟩;show aD E0 _ _ _ _;have gb:I [K.ab+1] H5 (T.put (K.ab+1) (some (LR.ob L .exhausted none))):=Gj.put (.inr ζ);generalize T.put (K.ab+1) (some (LR.ob L .exhausted none))=K9 at gb;have l5:=i5.W gb ζ;have a29:=((a2H.W gK ξ).ai g5).W gb ξ;have n5:¬K.ab=H.ab+1:=ω
    have Rf:¬H.ab+1=K.ab:=ω
    have aac:∀o,I [] H ((K9.put (H.ab+1) (some o)).put K.ab none):=λ o=>by
     refine⟨by have:=gb.ab;show H.ab<=K9.ab;omega,λ j hj _=>?_⟩;have e1:¬j=K.ab:=ω
     have e2:¬j=H.ab+1:=ω
     rw[D.eR,ao e1,D.eR,ao e2,gb.get j ω ξ,g5.get j ω ζ,aaa.get j hj ζ]
    by_cases VT:(65536:Int)<z1
    .simp[s2,s5,s6,VT,a29.get,n5,Rf,l5.get];exact hQ ⟨21,0,0,0,rfl,λ h=>ω,aac _⟩
    .by_cases MP:(65536:Int)<z2
     .simp[s2,s5,s6,VT,MP,a29.get,n5,Rf,l5.get];exact hQ ⟨21,0,0,0,rfl,λ h=>ω,aac _⟩
     .simp[s2,s5,s6,VT,MP,a29.get,n5,Rf,l5.get];exact hQ ⟨0,0,0,0,rfl,λ _=>⟨⟨rfl,rfl,rfl⟩,mB⟩,aac _⟩
   .refine⟨_,_,L,k6.get,ζ,?_⟩;show MX E0 _ .ret _ _ _;have gb:I [K.ab+1,H.ab+1] H5 (T.put (K.ab+1) (some (LR.ob L .exhausted (some .ret)))):=Gj.put (.inr ζ);have l2':=l2.eu (k:=K.ab+1) (o':=some (LR.ob L .exhausted (some .ret))) ω;generalize T.put (K.ab+1) (some (LR.ob L .exhausted (some .ret)))=K9 at gb l2';have l5:=i5.W gb ξ;have Rf:¬H.ab+1=K.ab:=ω
    simp[s2,l2'.get,bY r2,l5.get,Rf];refine hQ ⟨rr,ff,bb,ii,rfl,λ h=>ω,⟨by have:=gb.ab;show H.ab<=K9.ab;omega,λ j hj _=>?_⟩⟩;have e1:¬j=K.ab:=ω
    rw[D.eR,ao e1,gb.get j ω ξ,g5.get j ω ζ,aaa.get j hj ζ]
 .have aIp:¬(r:Int)=0:=ω
  simp[n1,SK.get,Jf];refine hQ ⟨r,f,b,i,rfl,λ h=>absurd h Jf,?_⟩;exact((g1.trans fY).trans (I.new aw _ _)).put (.inl ω)
end
variable{X:AT}{n:Nat}
def Fh{t:aS}(ht:E.tt.get t=some ⟨.slice e,b,i,z0⟩)(he:E.tt.get e=some ⟨d,es,dH,z⟩)(h0:0<es){new:AU}{ro:Bool}(ho:aX K es fv M aH)(hn:K.get c2=some (.cells m t2 ro))(B:n*es<=m)(hr:bc t2 0 (n*es)=some new)(wD:fX new=true)(bR:∀q,M.length=q*es->(q+n)*dH<=140737488355328)(eG:∀q,M.length=q*es->q+n<=9223372036854775807){k:List fg}(hq:∀v' T ids',aX T es v' (M++new) ids'->I aH K T->(∀y∈ids',y∈aH\/K.ab<=y)->MD E dst v' k Y T aj):MO E (cX E t fv (.sl c2 0 es n c3 ex) K) dst k Y aj:=by
 have⟨v',T,ids',k1,k2,k3,k4⟩:=KU (x:=.sl c2 0 es n c3 ex) ht he h0 ho (n:=n) (new:=new) (λ k=>by unfold pz;simp[qS,hn,B,bY hr]) (iB.1 hr).1 wD bR eG
 exact zY k1 (hq v' T ids' k2 k3 k4)
section
variable{α:Type}[DecidableEq α]
def mF(L:List α)(k:α):Option Nat:=L.findIdx? λ x=>decide (x=k)
def lE(L:List α)(k:α):List α:=if k∈L then L else L++[k]
def adt{L:List α}{k:α}:mF L k=none↔k∉L:=by
 unfold mF;rw[KB];constructor
 .intro h B;have:=h k B;simp at this
 .intro h x Z;simp;rintro rfl;exact h Z
def adu{L:List α}{k:α}(h:mF L k=some i):∃A:i<L.length,L[i]=k:=by unfold mF at h;rw[KD]at h;have⟨A,O,_⟩:=h;exact⟨A,by simpa using O⟩
def WZ{L:List α}{k x:α}(h:k∉L):mF (L++[k]) x=if x=k then some L.length else mF L x:=by
 unfold mF;rw[List.findIdx?_append];by_cases e:x=k
 .subst e;have:L.findIdx? (λ y=>decide (y=x))=none:=by rw[KB];intro y G;simp;rintro rfl;exact h G
  simp[this]
 .have e2:¬k=x:=λ h'=>e h'.symm;simp[e,e2]
structure HI(key:α->Value)(cells:α->List J)(kt:TypeId)(ks:KS)(es:Nat)(K:D)(id:Nat)(L:List α)(X:List Nat):Prop where
 ob:∃m aH t w l,X=id::m::aH/\Lv K id (.cells 2 t false)/\AV t 0 (.map m)/\AV t 1 w/\aX K es w (L.flatMap cells) aH/\FG K m kt ks l/\(∀k,cH (key k) l=(mF L k).map λ i=>ae (i:Int))/\id≠m/\id∉aH/\m∉aH
def HI.W{key:α->aC}{cells:α->AU}{kt:aS}{ks:KS}{id:Nat}{L:List α}{S:AT}(h:HI key cells kt ks es K id L X)(g:I S K T)(hs:∀x∈X,x∉S):HI key cells kt ks es T id L X:=by obtain⟨m,aH,t,w,l,rfl,O,U,F,h4,h5,h6,h7,h8,h9⟩:=h.ob;exact⟨m,aH,t,w,l,rfl,O.W g (hs _ ζ),U,F,h4.W g (λ x Z=>hs _ (by simp[Z])),h5.W g (hs _ ζ),h6,h7,h8,h9⟩
end
abbrev qC:Int×aI->aC:=λ k=>.agg ⟨[.int .i64 k.1,.string k.2]⟩
abbrev Nk:Int×aI->AU:=λ k=>[ae k.1,str k.2]
abbrev rh:aI->aC:=λ s=>.string s
abbrev RZ:aI->AU:=λ s=>[str s]
abbrev FH:=HI qC Nk 98 (.agg [.i .i64,.s]) 2
abbrev Kq:=HI rh RZ 9 (.one .s) 1
def Sv(k:Int×aI):KP (.agg [.i .i64,.s]) (qC k):=⟨_,rfl,ζ⟩
def axJ{b:Int×aI}:qC a=qC b↔a=b:=by
 constructor
 .intro h;simp only[qC,Value.agg.injEq,Ym,KA,Value.int.injEq,Value.string.injEq,KN,OH]at h;exact Prod.ext h.1 h.2
 .rintro rfl;rfl
def aFh{b:aI}:rh s=rh b↔s=b:=by simp[rh]
section
variable{H:D}
theorem IE:∀{L:List (Int×aI)},(L.flatMap Nk).length=L.length*2
 |[]=>rfl|a::l=>by rw[BN,iP,IE (L:=l)];simp[Nk];omega
def aiC{L:List (Int×aI)}(k:Int×aI)(hT:FH H dH L X)(hn:L.length<=1048576):CN 71 [.ptr dH 0,.agg [ae k.1,str k.2]] H λ v K=>∃X' i,v=ae ((i:Nat):Int)/\mF (lE L k) k=some i/\FH K dH (lE L k) X'/\I X H K/\∀y∈X',y∈X\/H.ab<=y:=by
 refine ba asV rfl λ Q' hQ=>?_
 obtain⟨m,aH,t,w,l,rfl,O,U,F,h4,⟨⟨c,h5⟩,PY,PZ⟩,h6,h7,h8,h9⟩:=hT.ob
 have dG:=h6 k
 have ga:∀o,I (dH::m::aH) H (H.add o):=λ o=>aw.add o
 have qD:¬dH=H.ab:=bC O.lt
 have sT:¬m=H.ab:=bC h5.lt
 cases hp:mF L k with
 |some i=>
  rw[hp]at dG
  have cN:∃bb,lk (qC k) l=some (bb,ae (i:Int)):=by unfold cH at dG;cases hq:lk (qC k) l with|none=>rw[hq]at dG;cases dG|some q=>rw[hq]at dG;have⟨q1,q2⟩:=q;simp at dG;exact⟨q1,by rw[dG]⟩
  have⟨bb,cN⟩:=cN
  have pj:k∈L:=by have⟨A,e⟩:=adu hp;rw[<-e];exact cG A
  have qu:lE L k=L:=by unfold lE;rw[aq pj]
  simp[O.get,U,h5.get,qD,sT]
  simp only[qC]at cN
  simp[cN]
  first
  |exact hQ ⟨dH::m::aH,i,rfl,by rw[qu];exact hp,by rw[qu];exact hT,aw,λ y G=>.inl G⟩|exact hQ ⟨dH::m::aH,i,rfl,by rw[qu];exact hp,by rw[qu];exact hT.W ((I.refl [] H).add _) ζ,ga _,λ y G=>.inl G⟩
 |none=>
  rw[hp]at dG
  have cN:lk (qC k) l=none:=by unfold cH at dG;cases hq:lk (qC k) l with|none=>rfl|some q=>rw[hq]at dG;cases dG
  have pj:k∉L:=adt.1 hp
  have qu:lE L k=L++[k]:=by unfold lE;rw[ao pj]
  have mD:∀K,aN E0 183 w K=val (ae (L.length:Int)) K:=by
   intro K;generalize gR:List.flatMap Nk L=M at h4;cases h4 with
   |nil=>
    have hz:=IE (L:=L)
    rw[gR]at hz
    have:L.length=0:=by simp only[wg]at hz;omega
    rw[Ba J9,this]
   |own q1 q2 q3 q4 q5 q6=>
    have hz:=IE (L:=L)
    rw[gR]at hz
    rw[de J9]
    congr 3;omega
  simp only[qC]at cN
  simp[-cX,O.get,U,h5.get,qD,sT,cN,F,mD,h7,qj sT]
  generalize kO:D.add _ _=K2
  have g2:I [m] H K2:=by rw[<-kO];refine I.add (I.put ?_ (.inr ζ)) _;exact aw.add _
  have lm:∃c',Lv K2 m (.map 98 c' (eD c (qC k) (ae (L.length:Int)) l)):=by
   rw[<-kO];first
   |exact⟨_,(h5.add.put_eq).add⟩|exact⟨_,(h5.put_eq).add⟩
  have iW:∃tn,K2.get (H.ab+1)=some (.cells 2 tn false)/\bc tn 0 2=some (Nk k):=by rw[<-kO];refine⟨_,by simp[D.jK];rfl,by simp[bc]⟩
  clear kO
  have⟨c',lm⟩:=lm
  have⟨tn,iW,QG⟩:=iW
  have h9':∀y∈aH,y∉[m]:=λ y G B=>by simp at B;subst B;exact h9 G
  refine Fh J9 als ω (h4.W g2 h9') iW aF QG rfl (λ q hq=>by rw[IE]at hq;omega) (λ q hq=>by rw[IE]at hq;omega) ?_
  intro v' K3 ids' p1 p2 p3
  have l3:=(O.W g2 (by simp[h7])).W p2 h8
  simp[l3.get,p1.cell,p1.co]
  have gp:I [dH] K3 (K3.put dH (some (.cells 2 (t.put 1 (some v')) false))):=aw.put (.inr ζ)
  have AX:dH∉ids':=λ B=>by
   rcases p3 _ B with h|h
   .exact h8 h
   .have:=O.lt;have:=g2.ab;omega
  have nH:m∉ids':=λ B=>by
   rcases p3 _ B with h|h
   .exact h9 h
   .have:=lm.lt;omega
  refine hQ ⟨dH::m::ids',L.length,rfl,by rw[qu,WZ pj,aq rfl],⟨⟨m,ids',_,v',_,rfl,l3.put_eq,by simp[U],ζ,?_,⟨⟨c',(lm.W p2 h9).W gp (by simp[qj h7])⟩,Jx (Sv k) PY,Dq (Sv k) PZ⟩,λ x=>?_,h7,AX,nH⟩⟩,?_,?_⟩
  .rw[qu,HV]
   have:=p1.W gp (λ y G B=>by simp at B;subst B;exact AX G);simpa using this
  .rw[Bb (Sv k) (Sv x),qu,WZ pj]
   by_cases e:x=k
   .subst e;simp
   .have e2:¬qC x=qC k:=λ h'=>e (axJ.1 h');rw[ao e2,ao e,h6]
  .exact((g2.mono ζ).trans (p2.mono (by intro x Z;simp[Z]))).trans (gp.mono ζ)
  .intro y G
   simp only[cZ]at G⊢;rcases G with rfl|rfl|G
   .exact .inl (.inl rfl)
   .exact .inl (.inr (.inl rfl))
   .rcases p3 y G with h|h
    .exact .inl (.inr (.inr h))
    .exact .inr (aY g2.ab h)
theorem Pv:∀{L:List (aI)},(L.flatMap RZ).length=L.length*1
 |[]=>rfl|a::l=>by rw[BN,iP,Pv (L:=l)];simp[RZ];omega
def awA{L:List (aI)}(k:aI)(hT:Kq H dH L X)(hn:L.length<=1048576):CN 70 [.ptr dH 0,str k] H λ v K=>∃X' i,v=ae ((i:Nat):Int)/\mF (lE L k) k=some i/\Kq K dH (lE L k) X'/\I X H K/\∀y∈X',y∈X\/H.ab<=y:=by
 refine ba asU rfl λ Q' hQ=>?_
 obtain⟨m,aH,t,w,l,rfl,O,U,F,h4,⟨⟨c,h5⟩,PY,PZ⟩,h6,h7,h8,h9⟩:=hT.ob
 have dG:=h6 k
 have ga:∀o,I (dH::m::aH) H (H.add o):=λ o=>aw.add o
 have qD:¬dH=H.ab:=bC O.lt
 have sT:¬m=H.ab:=bC h5.lt
 cases hp:mF L k with
 |some i=>
  rw[hp]at dG
  have cN:∃bb,lk (rh k) l=some (bb,ae (i:Int)):=by unfold cH at dG;cases hq:lk (rh k) l with|none=>rw[hq]at dG;cases dG|some q=>rw[hq]at dG;have⟨q1,q2⟩:=q;simp at dG;exact⟨q1,by rw[dG]⟩
  have⟨bb,cN⟩:=cN
  have pj:k∈L:=by have⟨A,e⟩:=adu hp;rw[<-e];exact cG A
  have qu:lE L k=L:=by unfold lE;rw[aq pj]
  simp[O.get,U,h5.get]
  simp only[rh]at cN
  simp[cN]
  first
  |exact hQ ⟨dH::m::aH,i,rfl,by rw[qu];exact hp,by rw[qu];exact hT,aw,λ y G=>.inl G⟩|exact hQ ⟨dH::m::aH,i,rfl,by rw[qu];exact hp,by rw[qu];exact hT.W ((I.refl [] H).add _) ζ,ga _,λ y G=>.inl G⟩
 |none=>
  rw[hp]at dG
  have cN:lk (rh k) l=none:=by unfold cH at dG;cases hq:lk (rh k) l with|none=>rfl|some q=>rw[hq]at dG;cases dG
  have pj:k∉L:=adt.1 hp
  have qu:lE L k=L++[k]:=by unfold lE;rw[ao pj]
  have mD:∀K,aN E0 52 w K=val (ae (L.length:Int)) K:=by
   intro K;generalize gR:List.flatMap RZ L=M at h4;cases h4 with
   |nil=>
    have hz:=Pv (L:=L)
    rw[gR]at hz
    have:L.length=0:=by simp only[wg]at hz;omega
    rw[Ba fw,this]
   |own q1 q2 q3 q4 q5 q6=>
    have hz:=Pv (L:=L)
    rw[gR]at hz
    rw[de fw]
    congr 3;omega
  simp only[rh]at cN
  simp[-cX,O.get,U,h5.get,cN,F,mD,h7]
  generalize kO:D.add _ _=K2
  have g2:I [m] H K2:=by rw[<-kO];refine I.add (I.put ?_ (.inr ζ)) _;exact aw
  have lm:∃c',Lv K2 m (.map 9 c' (eD c (rh k) (ae (L.length:Int)) l)):=by
   rw[<-kO];first
   |exact⟨_,(h5.add.put_eq).add⟩|exact⟨_,(h5.put_eq).add⟩
  have iW:∃tn,K2.get (H.ab)=some (.cells 1 tn false)/\bc tn 0 1=some (RZ k):=by rw[<-kO];refine⟨_,by simp[D.jK];rfl,by simp[bc]⟩
  clear kO
  have⟨c',lm⟩:=lm
  have⟨tn,iW,QG⟩:=iW
  have h9':∀y∈aH,y∉[m]:=λ y G B=>by simp at B;subst B;exact h9 G
  refine Fh fw DH ω (h4.W g2 h9') iW aF QG rfl (λ q hq=>by rw[Pv]at hq;omega) (λ q hq=>by rw[Pv]at hq;omega) ?_
  intro v' K3 ids' p1 p2 p3
  have l3:=(O.W g2 (by simp[h7])).W p2 h8
  simp[l3.get,p1.cell,p1.co]
  have gp:I [dH] K3 (K3.put dH (some (.cells 2 (t.put 1 (some v')) false))):=aw.put (.inr ζ)
  have AX:dH∉ids':=λ B=>by
   rcases p3 _ B with h|h
   .exact h8 h
   .have:=O.lt;have:=g2.ab;omega
  have nH:m∉ids':=λ B=>by
   rcases p3 _ B with h|h
   .exact h9 h
   .have:=lm.lt;omega
  refine hQ ⟨dH::m::ids',L.length,rfl,by rw[qu,WZ pj,aq rfl],⟨⟨m,ids',_,v',_,rfl,l3.put_eq,by simp[U],ζ,?_,⟨⟨c',(lm.W p2 h9).W gp (by simp[qj h7])⟩,Jx (yR k) PY,Dq (yR k) PZ⟩,λ x=>?_,h7,AX,nH⟩⟩,?_,?_⟩
  .rw[qu,HV]
   have:=p1.W gp (λ y G B=>by simp at B;subst B;exact AX G);simpa using this
  .rw[Bb (yR k) (yR x),qu,WZ pj]
   by_cases e:x=k
   .subst e;simp
   .have e2:¬rh x=rh k:=λ h'=>e (aFh.1 h');rw[ao e2,ao e,h6]
  .exact((g2.mono ζ).trans (p2.mono (by intro x Z;simp[Z]))).trans (gp.mono ζ)
  .intro y G
   simp only[cZ]at G⊢;rcases G with rfl|rfl|G
   .exact .inl (.inl rfl)
   .exact .inl (.inr (.inl rfl))
   .rcases p3 y G with h|h
    .exact .inl (.inr (.inr h))
    .exact .inr (aY g2.ab h)
end
section
variable{H:D}
def aqp(L:List (Int×aI))(k:Int×aI)(v:J):Prop:=(∃i,mF L k=some i/\v=.dh [ae (i:Nat),bl true])\/(mF L k=none/\v=.dh [ae 0,bl false])
def aqk{L:List (Int×aI)}{X:AT}(k:Int×aI)(hT:FH H dH L X):CN 122 [.ptr dH 0,.agg [ae k.1,str k.2]] H λ v K=>aqp L k v/\I [] H K:=by
 refine ba aqF rfl λ Q' hQ=>?_
 obtain⟨m,aH,t,w,l,rfl,O,U,F,h4,⟨⟨c,h5⟩,PY,PZ⟩,h6,h7,h8,h9⟩:=hT.ob
 have dG:=h6 k
 have ga:∀o,I [] H (H.add o):=λ o=>aw.add o
 have qD:¬dH=H.ab:=bC O.lt
 have sT:¬m=H.ab:=bC h5.lt
 cases hp:mF L k with
 |some i=>
  rw[hp]at dG
  have cN:∃bb,lk (qC k) l=some (bb,ae (i:Int)):=by unfold cH at dG;cases hq:lk (qC k) l with|none=>rw[hq]at dG;cases dG|some q=>rw[hq]at dG;have⟨q1,q2⟩:=q;simp at dG;exact⟨q1,by rw[dG]⟩
  have⟨bb,cN⟩:=cN
  simp only[qC]at cN
  simp[O.get,U,h5.get,qD,sT,cN]
  first
  |exact hQ ⟨.inl ⟨i,hp,rfl⟩,aw⟩|exact hQ ⟨.inl ⟨i,hp,rfl⟩,ga _⟩
 |none=>
  rw[hp]at dG
  have cN:lk (qC k) l=none:=by unfold cH at dG;cases hq:lk (qC k) l with|none=>rfl|some q=>rw[hq]at dG;cases dG
  simp only[qC]at cN
  simp[O.get,U,h5.get,qD,sT,cN]
  first
  |exact hQ ⟨.inr ⟨hp,rfl⟩,aw⟩|exact hQ ⟨.inr ⟨hp,rfl⟩,ga _⟩
def ay8:CN 68 [.lit (.slice none 0 0)] H λ v K=>∃id X,v=.ptr id 0/\FH K id [] X/\(∀y∈X,H.ab<=y)/\I [] H K:=by
 refine ba asS rfl λ Q' hQ=>?_;simp[Ba J9];generalize aP:D.add _ _=H1;have l1:∃t,Lv H1 (H.ab+1) (.cells 2 t false)/\AV t 0 (.map H.ab)/\AV t 1 (.lit (.slice none 0 0)):=by rw[<-aP];exact⟨_,Lv.new (H:=H.add _),ζ⟩
 have lm:Lv H1 H.ab (.map 98 0 []):=by rw[<-aP];exact Lv.new.add
 have g1:I [] H H1:=by rw[<-aP];exact(aw.add _).add _
 clear aP;have⟨t,l1,w0,w1⟩:=l1;refine bu (α:=Unit) (aJ:=λ _ sl K=>H1=K/\AV sl 3 (.ptr (H.ab+1) 0)/\AV sl 10 (ae 0)/\AV sl 11 (ae 0)) (mu:=λ _=>0) ?_ () _ _ ?ini;case ini=>exact⟨rfl,ζ⟩
 rintro b kk-Q _ sl K ⟨rfl,s3,bt,jR⟩ ih;subst Q;simp[s3,bt,jR];refine hQ ⟨H.ab+1,[H.ab+1,H.ab],rfl,⟨⟨H.ab,[],t,_,[],rfl,l1,w0,w1,.nil,⟨⟨0,lm⟩,by simp[bQ],by simp[bQ]⟩,λ k=>by simp[Ni,mF],ω,ζ,ζ⟩⟩,ζ,g1⟩
def axD{L:List (Int×aI)}{X:AT}(hT:FH H dH L X):∃t w,Lv H dH (.cells 2 t false)/\AV t 1 w/\∀K,aN E0 183 w K=val (ae (L.length:Int)) K:=by
 obtain⟨m,aH,t,w,l,rfl,O,U,F,h4,_⟩:=hT.ob;refine⟨t,w,O,F,λ K=>?_⟩;generalize gR:List.flatMap Nk L=M at h4;cases h4 with
 |nil=>
  have hz:=IE (L:=L)
  rw[gR]at hz
  have:L.length=0:=by simp only[wg]at hz;omega
  rw[Ba J9,this]
 |own q1 q2 q3 q4 q5 q6=>
  have hz:=IE (L:=L)
  rw[gR]at hz
  rw[de J9]
  congr 3;omega
def aqq(L:List (aI))(k:aI)(v:J):Prop:=(∃i,mF L k=some i/\v=.dh [ae (i:Nat),bl true])\/(mF L k=none/\v=.dh [ae 0,bl false])
def aql{L:List (aI)}{X:AT}(k:aI)(hT:Kq H dH L X):CN 106 [.ptr dH 0,str k] H λ v K=>aqq L k v/\I [] H K:=by
 refine ba aqw rfl λ Q' hQ=>?_
 obtain⟨m,aH,t,w,l,rfl,O,U,F,h4,⟨⟨c,h5⟩,PY,PZ⟩,h6,h7,h8,h9⟩:=hT.ob
 have dG:=h6 k
 have ga:∀o,I [] H (H.add o):=λ o=>aw.add o
 have qD:¬dH=H.ab:=bC O.lt
 have sT:¬m=H.ab:=bC h5.lt
 cases hp:mF L k with
 |some i=>
  rw[hp]at dG
  have cN:∃bb,lk (rh k) l=some (bb,ae (i:Int)):=by unfold cH at dG;cases hq:lk (rh k) l with|none=>rw[hq]at dG;cases dG|some q=>rw[hq]at dG;have⟨q1,q2⟩:=q;simp at dG;exact⟨q1,by rw[dG]⟩
  have⟨bb,cN⟩:=cN
  simp only[rh]at cN
  simp[O.get,U,h5.get,cN]
  first
  |exact hQ ⟨.inl ⟨i,hp,rfl⟩,aw⟩|exact hQ ⟨.inl ⟨i,hp,rfl⟩,ga _⟩
 |none=>
  rw[hp]at dG
  have cN:lk (rh k) l=none:=by unfold cH at dG;cases hq:lk (rh k) l with|none=>rfl|some q=>rw[hq]at dG;cases dG
  simp only[rh]at cN
  simp[O.get,U,h5.get,cN]
  first
  |exact hQ ⟨.inr ⟨hp,rfl⟩,aw⟩|exact hQ ⟨.inr ⟨hp,rfl⟩,ga _⟩
def azb:CN 69 [.lit (.slice none 0 0)] H λ v K=>∃id X,v=.ptr id 0/\Kq K id [] X/\(∀y∈X,H.ab<=y)/\I [] H K:=by
 refine ba asT rfl λ Q' hQ=>?_;simp[Ba fw];generalize aP:D.add _ _=H1;have l1:∃t,Lv H1 (H.ab+1) (.cells 2 t false)/\AV t 0 (.map H.ab)/\AV t 1 (.lit (.slice none 0 0)):=by rw[<-aP];exact⟨_,Lv.new (H:=H.add _),ζ⟩
 have lm:Lv H1 H.ab (.map 9 0 []):=by rw[<-aP];exact Lv.new.add
 have g1:I [] H H1:=by rw[<-aP];exact(aw.add _).add _
 clear aP;have⟨t,l1,w0,w1⟩:=l1;refine bu (α:=Unit) (aJ:=λ _ sl K=>H1=K/\AV sl 3 (.ptr (H.ab+1) 0)/\AV sl 10 (ae 0)/\AV sl 11 (ae 0)) (mu:=λ _=>0) ?_ () _ _ ?ini;case ini=>exact⟨rfl,ζ⟩
 rintro b kk-Q _ sl K ⟨rfl,s3,bt,jR⟩ ih;subst Q;simp[s3,bt,jR];refine hQ ⟨H.ab+1,[H.ab+1,H.ab],rfl,⟨⟨H.ab,[],t,_,[],rfl,l1,w0,w1,.nil,⟨⟨0,lm⟩,by simp[bQ],by simp[bQ]⟩,λ k=>by simp[Ni,mF],ω,ζ,ζ⟩⟩,ζ,g1⟩
def axE{L:List (Int×aI)}(hT:FH H dH L aH):CN 98 [.ptr dH 0] H λ v K=>v=ae (L.length:Int)/\H=K:=by refine ba atn rfl λ Q' hQ=>?_;have⟨t,w,O,F,hw⟩:=axD hT;simp[O.get,F,hw];exact hQ ⟨rfl,rfl⟩
end
def fN(X:Nat->Prop)(K:D)(P:D->Prop):Prop:=∃bZ:Nat->Prop,(∀y,bZ y->y<K.ab/\¬X y)/\∀dP,K.ab<=dP.ab->(∀j,bZ j->dP.get j=K.get j)->P dP
namespace fN
variable{X X':Nat->Prop}{K K2:D}{P P':D->Prop}{S:AT}
def now(h:fN X K P):P K:=by have⟨bZ,_,U⟩:=h;exact U K aF λ _ _=>rfl
def step(h:fN X K P)(g:I S K K2)(hS:∀s∈S,X s)(hX:∀y,X' y->X y\/K.ab<=y):fN X' K2 P:=by
 have⟨bZ,O,U⟩:=h;refine⟨bZ,λ y G=>⟨aT (O y G).1 g.ab,λ Z=>?_⟩,λ dP hn hj=>U dP (aY g.ab hn) λ j hd=>?_⟩
 .rcases hX y Z with h|h
  .exact(O y G).2 h
  .have:=(O y G).1;omega
 .rw[hj j hd,g.get j (O j hd).1 λ B=>(O j hd).2 (hS j B)]
def fresh{lo:Nat}(h:∀T,I (List.range lo) K T->P T)(hX:∀y,X y->y<lo\/K.ab<=y):fN X K P:=⟨λ j=>lo<=j/\j<K.ab,λ y G=>⟨G.2,λ Z=>by have:=hX y Z;omega⟩,λ dP hn hj=>h dP ⟨hn,λ i A hs=>hj i ⟨by
 rcases kb i lo with h|h
 .exact absurd (mj.2 h) hs
 .exact h,A⟩⟩⟩
def imp(h:fN X K P)(hp:∀K,P K->P' K):fN X K P':=by have⟨bZ,O,U⟩:=h;exact⟨bZ,O,λ dP a b=>hp _ (U dP a b)⟩
def all{aj:Nat->D->Prop}(h:∀i,i<dH->fN X K (aj i)):fN X K λ K=>∀i,i<dH->aj i K:=by
 classical
 have h':∀i,∃bZ:Nat->Prop,i<dH->(∀y,bZ y->y<K.ab/\¬X y)/\∀dP,K.ab<=dP.ab->(∀j,bZ j->dP.get j=K.get j)->aj i dP:=λ i=>by
  by_cases A:i<dH
  .have⟨bZ,O,U⟩:=h i A;exact⟨bZ,λ _=>⟨O,U⟩⟩
  .exact⟨λ _=>False,λ hc=>absurd hc A⟩
 refine⟨λ y=>∃i,i<dH/\(h' i).choose y,λ y ⟨i,A,G⟩=>((h' i).choose_spec A).1 y G,λ dP hn hj i A=>((h' i).choose_spec A).2 dP hn λ j hd=>hj j ⟨i,A,hd⟩⟩
def both(h:fN X K P)(U:fN X K P'):fN X K λ K=>P K/\P' K:=by have⟨bZ,a1,a2⟩:=h;have⟨D',b1,b2⟩:=U;exact⟨λ y=>bZ y\/D' y,λ y G=>G.elim (a1 y) (b1 y),λ dP hn hj=>⟨a2 dP hn λ j hd=>hj j (.inl hd),b2 dP hn λ j hd=>hj j (.inr hd)⟩⟩
def lv(h:Lv K dH o)(Z:¬X dH):fN X K λ K=>Lv K dH o:=⟨λ y=>y=dH,λ y G=>by subst G;exact⟨h.lt,Z⟩,λ dP hn hj=>⟨aT h.lt hn,(hj dH rfl).trans h.get⟩⟩
def const{p:Prop}(h:p):fN X K λ _=>p:=⟨λ _=>False,λ _ h=>h.elim,λ _ _ _=>h⟩
end fN
section
variable{H HB:D}
def Zy(h:aW H 1 xm sv L)(hn:L.length<=1048576):CN 129 [sv] H λ v K=>I [] H K/\∀T,I (List.range H.ab) K T->aW T 1 xm v L:=by
 refine(af3 h (λ a M h=>by cases h.1;rfl) ω).mono ?_
 rintro v K ⟨g,M,aH,O,U,F,h4⟩
 refine⟨g,λ T g'=>?_⟩
 exact(O.W g' λ x Z B=>by have:=U x Z;have:=mj.1 B;omega).yN ω F h4
def af5(Z:ku HB x M)(g0:I [] HB H)(ha:x.args.length<=1048576)(hl:x.eh.length<=1048576):CN 97 [.agg M] H λ v K=>∃cI,v=.agg cI/\cI.length=8/\fX cI=true/\(∀T,I (List.range H.ab) K T->ku T x cI)/\I [] H K:=by
 refine ba atm rfl λ Q' hQ=>?_
 obtain⟨va,vl,rfl,kl,mO,hr⟩:=Z
 simp[kl.cell,mO.cell]
 generalize aP:D.add _ _=H1
 have l1:∃t,Lv H1 H.ab (.cells 8 t false)/\bc t 0 8=some [u8 x.op,str x.dst,str x.a,str x.b,ae x.n,str x.fn,va,vl]:=by rw[<-aP];exact⟨_,Lv.new.add,by simp[bc]⟩
 have l2:∃t,Lv H1 (H.ab+1) (.cells 8 t false):=by rw[<-aP];exact⟨_,Lv.new (H:=H.add _)⟩
 have g1:I [] H H1:=by rw[<-aP];exact(aw.add _).add _
 have n1:H1.ab=H.ab+2:=by rw[<-aP];rfl
 clear aP
 have⟨t1,l1,r1⟩:=l1
 have⟨t2,l2⟩:=l2
 have⟨_,q⟩:=iB.1 r1
 have q0:AV t1 0 (u8 x.op):=by simpa using q 0 ω
 have q1:AV t1 1 (str x.dst):=by simpa using q 1 ω
 have q2:AV t1 2 (str x.a):=by simpa using q 2 ω
 have q3:AV t1 3 (str x.b):=by simpa using q 3 ω
 have q4:AV t1 4 (ae x.n):=by simpa using q 4 ω
 have q5:AV t1 5 (str x.fn):=by simpa using q 5 ω
 have q6:AV t1 6 va:=by simpa using q 6 ω
 have q7:AV t1 7 vl:=by simpa using q 7 ω
 refine CW (Zy (kl.fZ (g0.trans g1)) ha) ?_
 rintro ua K1 ⟨fY,EU⟩
 have zU:=l1.ai fY
 simp
 refine dF ?_ ?_
 .simp[dm,val,zU.get,q7,mO.fy]
 simp
 refine CW (Zy (mO.fZ ((g0.trans g1).trans fY)) hl) ?_
 rintro ul K2 ⟨iu,MK⟩
 have axp:=zU.ai iu
 have axq:=(l2.ai fY).ai iu
 have mY:I (List.range H1.ab) K1 K2:=iu.mono ζ
 have ca:=(EU K2 mY).cell
 have coa:=(EU K2 mY).co
 have cl:=(MK K2 aw).cell
 have oV:=(MK K2 aw).co
 simp[axp.get,ca,coa,cl,oV,q0,q1,q2,q3,q4,q5,axq.get]
 refine hQ ⟨_,rfl,rfl,by simp[ca,cl],λ T g'=>?_,?_⟩
 .have iy:=fY.ab
  have gV:=iu.ab;have gA:I (List.range H1.ab) K1 T:=⟨aY iu.ab g'.ab,λ i A hs=>by
   have Mz:¬i<H1.ab:=λ h=>hs (mj.2 h);have e1:¬i=H.ab:=ω
   have e2:¬i=H.ab+1:=ω
   rw[g'.get i (by show i<K2.ab;omega) ξ];simp only[D.eR,e1,e2,n_];exact iu.get i A ζ⟩
  have gB:I (List.range K1.ab) K2 T:=⟨g'.ab,λ i A hs=>by
   have Mz:¬i<K1.ab:=λ h=>hs (mj.2 h);have e1:¬i=H.ab:=ω
   have e2:¬i=H.ab+1:=ω
   rw[g'.get i A ξ];simp only[D.eR,e1,e2,n_]⟩
  exact⟨ua,ul,rfl,EU T gA,MK T gB,hr⟩
 .exact((((g1.trans fY).trans iu).put (.inl aF)).put (.inl aF)).put (.inl ω)
end
variable{α:Type}{L:List α}
def aj1{t:Tr α}{l:List α}(h:b+n<=dH\/dH+l.length<=b):bc (t.iM dH l) b n=bc t b n:=by
 cases hr:bc t b n with
 |some M=>
  have⟨O,U⟩:=iB.1 hr
  refine iB.2 ⟨O,λ i A=>?_⟩
  rw[Tr.vn,ao ω];exact U i A
 |none=>
  cases mY:bc (t.iM dH l) b n with
  |none=>rfl
  |some M=>
   have⟨O,U⟩:=iB.1 mY
   have:bc t b n=some M:=iB.2 ⟨O,λ i A=>by have:=U i A;rw[Tr.vn,ao ω]at this;exact this⟩
   rw[hr]at this;cases this
def aDI{t:Tr α}{a:Nat}{l:List α}:bc (t.iM a l) a l.length=some l:=iB.2 ⟨rfl,λ i A=>by rw[Tr.vn,aq ω,YL]⟩
def Dw{t:Tr α}{v:Option α}(h:b+n<=dH\/dH<b):bc (t.put dH v) b n=bc t b n:=by
 cases hr:bc t b n with
 |some M=>
  have⟨O,U⟩:=iB.1 hr
  refine iB.2 ⟨O,λ i A=>?_⟩
  rw[Tr.eR,ao ω];exact U i A
 |none=>
  cases mY:bc (t.put dH v) b n with
  |none=>rfl
  |some M=>
   have⟨O,U⟩:=iB.1 mY
   have:bc t b n=some M:=iB.2 ⟨O,λ i A=>by have:=U i A;rw[Tr.eR,ao ω]at this;exact this⟩
   rw[hr]at this;cases this
def aX.WS(h:aX H es fv M aH)(h0:0<es)(hl:M.length=n*es)(hn:0<n):∃id ax ex t,fv=.sl id 0 es n ax ex/\aH=[id]/\Lv H id (.cells (ax*es) t false)/\n<=ax/\ax<=maxLen/\∀i,i<n->bc t (i*es) es=some ((M.drop (i*es)).take es):=by
 cases h with
 |nil=>
  exfalso
  have:=YQ hn h0
  simp at hl
  omega
 |@own id n' ax ex t _ O U F h4 h5 h6=>
  have:n'=n:=by rw[U]at hl;exact afn h0 hl
  subst this
  refine⟨_,_,_,_,rfl,rfl,O,h4,h6,λ i A=>?_⟩
  have hb:i*es+es<=n'*es:=by have:=nW es (dz A);rw[ve]at this;exact this
  refine iB.2 ⟨ξ,λ j hj=>?_⟩
  rw[F _ ω,rI,aq hj,v_]
def fN.out{X:Nat->Prop}{P:D->Prop}(h:fN X K P)(hX:∀y,y<dH->X y):∀T,I (List.range dH) K T->P T:=by have⟨bZ,O,U⟩:=h;intro T g;refine U T g.ab λ j hd=>g.get j (O j hd).1 λ B=>(O j hd).2 (hX j (mj.1 B))
section
variable{H:D}{vf:J}{p:List aQ}
def ku.OM(h:ku H x M):fX M=true:=by obtain⟨va,vl,rfl,O,U,_⟩:=h;simp[O.cell,U.cell]
def p_.OM{x:cU}(h:p_ H x M):fX M=true:=by obtain⟨vc,rfl,O⟩:=h;simp[O.cell]
def qe.OM{x:aQ}(h:qe H x M):fX M=true:=by obtain⟨vp,vb,rfl,O,U⟩:=h;simp[O.cell,U.cell]
def ad2{R:D->α->AU->Prop}{X:Nat->Prop}(hL:L.length=n)(hl:Lv K dH (.cells (b*es) t false))(Z:¬X dH)(hn:n<=b)(B:b<=maxLen)(he:∀i (A:i<L.length),∃M,bc t (i*es) es=some M/\fN X K λ K=>R K L[i] M):fN X K λ K=>aW K es (R K) (.sl dH 0 es n b ex) L:=by
 subst hL
 have U:fN X K λ K=>∀i,i<L.length->∀A:i<L.length,∃M,bc t (i*es) es=some M/\R K L[i] M:=fN.all λ i A=>by have⟨M,O,U⟩:=he i A;exact U.imp λ K h=>λ _=>⟨M,O,h⟩
 refine((fN.lv hl Z).both U).imp λ T h=>?_
 refine .sl h.1 ?_ (λ i A=>?_) hn B
 .have:=nW es hn;omega
 .have⟨M,F,h4⟩:=h.2 i A A
  exact⟨M,by rw[mQ];exact F,h4⟩
def aCk(hp:oO H vf p)(hf:∀fn∈p,sf fn)(Um:p.length<=64)(cR:p≠[]):CN 67 [.agg [vf]] H λ v K=>∃vf',v=.agg [vf']/\(∀T,I (List.range H.ab) K T->oO T vf' p)/\I [] H K:=by
 refine ba asR rfl λ Q' hQ=>?_
 simp[hp.cell]
 generalize aP:D.add _ _=H1
 have l1:Lv H1 H.ab (.cells 1 (Tr.e.put 0 (some vf)) false):=by rw[<-aP];exact Lv.new.add
 have l2:∃t,Lv H1 (H.ab+1) (.cells 1 t false):=by rw[<-aP];exact⟨_,Lv.new (H:=H.add _)⟩
 have g1:I [] H H1:=by rw[<-aP];exact(aw.add _).add _
 have n1:H1.ab=H.ab+2:=by rw[<-aP];rfl
 clear aP
 have⟨t2,l2⟩:=l2
 refine CW (aoA (R:=qe H) (hp.W g1 λ _ _ _ h=>h) (λ _ _ h=>h.OM) ω) ?_
 rintro v1 K1 ⟨fY,TA,aH,ow,kI,eN,hR⟩
 have mC:0<p.length:=za.2 cR
 obtain⟨o,ax,ex,t,rfl,rfl,lo,UM,C9,bU⟩:=ow.WS ω eN mC
 have ho:=kI o ζ
 have zU:=l1.ai fY
 have n1o:¬o=H.ab:=ω
 simp[zU.get,de nf]
 generalize iH:D.put _ _ _=H2
 have g2:I [H.ab] K1 H2:=by rw[<-iH];exact aw.put (.inr ζ)
 have l1H:∃t,Lv H2 H.ab (.cells 1 t false)/\AV t 0 (.sl o 0 3 p.length ax ex):=by rw[<-iH];exact⟨_,zU.put_eq,ζ⟩
 have iW:H2.ab=K1.ab:=by rw[<-iH];rfl
 clear iH
 have⟨t1,l1H,w1⟩:=l1H
 have loH:=lo.W g2 ξ
 have l2H:=(l2.ai fY).W g2 ζ
 have U_:=fY.ab
 have aH8:=lo.lt
 have gHH:I [] H H2:=⟨ω,λ j hj _=>by rw[g2.get j ω ξ,fY.get j ω ζ,g1.get j hj ζ]⟩
 refine CA (λ f sl K=>I [o] H2 K/\(∃t,Lv K o (.cells (ax*3) t false)/\(∀i (A:i<p.length),i<f->∃M,bc t (i*3) 3=some M/\fN (λ y=>y=o\/y<H.ab+2) K λ K=>qe K p[i] M)/\(∀i (A:i<p.length),f<=i->∃M,bc t (i*3) 3=some M/\qe H p[i] M))/\AV sl 1 (.ptr H.ab 0)/\AV sl 2 (.ptr (H.ab+1) 0)/\AV sl 14 (ae p.length)/\AV sl 15 (ae f)/\f<=p.length) p.length ⟨aw,⟨t,loH,λ i A h=>ω,λ i A _=>⟨_,bU i A,hR i A⟩⟩,ζ⟩ ?_
 rintro b1 k1-cq f sl K ⟨gK,⟨tf,lf,GB,aaT⟩,s1,s2,cy,dg,kH⟩ ih
 have l1f:=l1H.W gK ξ
 have aHY:=gK.ab
 by_cases az:f<p.length
 .have⟨csf,rf,hRf⟩:=aaT f az aF
  have Fl:=hf _ (cG az);obtain⟨vp,vb,rfl,A2,I3⟩:=hRf;have⟨_,rq⟩:=iB.1 rf;have f1:tf.get (f*3+1)=some vp:=by simpa using rq 1 ω
  have f2:tf.get (f*3+2)=some vb:=by simpa using rq 2 ω
  have KV:f*3+1<ax*3:=ω
  have KW:f*3+2<ax*3:=ω
  have b3':f*3+1+1<=ax*3:=ω
  have b4':f*3+2+1<=ax*3:=ω
  have vj:I [] H K:=⟨ω,λ j hj _=>by rw[gK.get j ω ξ,gHH.get j hj ζ]⟩;simp[s1,cy,dg,az,l1f.get,w1,lf.get,f1,f2,KV,KW];refine CW (Zy (A2.fZ vj) (by have:=Fl.np;omega)) ?_;rintro u1 Ka ⟨ga,Vu⟩;have lfa:=lf.ai ga;simp;refine dF ?_ ?_
  .simp[dm,val,lfa.get,f2,KW,I3.fy]
  simp;refine CW (aoz (R:=p_ H) (I3.W (vj.trans ga) λ _ _ _ h=>h) (λ _ _ h=>h.OM) (by have:=Fl.nb;omega)) ?_;rintro u2 Kb ⟨gb,csb,aIw,owb,au2,auz,hRb⟩;have lfb:=lfa.ai gb;have jM:0<p[f].blocks.length:=za.2 Fl.ne;obtain⟨bO,BT,Lm,tb,rfl,rfl,lb,auv,auB,QF⟩:=owb.WS ω auz jM;have hbO:=au2 bO ζ;have aiu:aW Kb 1 xm u1 p[f].params:=Vu Kb (gb.mono ζ);simp[lfb.get,aiu.cell,aiu.co,b3',b4',KW,de nh];generalize Ee:D.put _ _ _=Hb;have hga:=ga.ab;have U0:=gb.ab;have gY:=lf.lt;have vB:=lb.lt;have Uj:I [o] Kb Hb:=by rw[<-Ee];exact(aw.put (.inr ζ)).put (.inr ζ)
  have lfH:∃t,Lv Hb o (.cells (ax*3) t false)/\t=(tf.put (f*3+1) (some u1)).put (f*3+2) (some (.sl bO 0 2 p[f].blocks.length BT Lm)):=by rw[<-Ee];exact⟨_,(lfb.put_eq).put_eq,rfl⟩
  have ED:Hb.ab=Kb.ab:=by rw[<-Ee];rfl
  clear Ee;have⟨tg,lfH,Jk⟩:=lfH;have lbH:=lb.W Uj ξ;have Eb:I [o] H2 Hb:=(gK.trans ((ga.trans gb).mono ζ)).trans Uj;have gHb:I [] H Hb:=⟨ω,λ j hj _=>by rw[Eb.get j ω ξ,gHH.get j hj ζ]⟩;have awl:fN (λ y=>y=o\/y=bO\/y<H.ab+2) Hb λ K=>aW K 1 xm u1 p[f].params:=by
   have O:fN (λ y=>y=o\/y<H.ab+2) Ka λ K=>aW K 1 xm u1 p[f].params:=fN.fresh (lo:=K.ab) Vu λ y G=>.inl (by rcases G with rfl|h<;>omega);exact(O.step (X':=λ y=>y=o\/y=bO\/y<H.ab+2) gb ζ λ y G=>by
    rcases G with h|rfl|h
    .exact .inl (.inl h)
    .exact .inr hbO
    .exact .inl (.inr h)).step Uj ζ λ y G=>.inl G
  have PB:tg.get (f*3+2)=some (.sl bO 0 2 p[f].blocks.length BT Lm):=by rw[Jk];simp
  have auL:∀i (A:i<p.length),i<f->∃M,bc tg (i*3) 3=some M/\fN (λ y=>y=o\/y=bO\/y<H.ab+2) Hb λ K=>qe K p[i] M:=by
   intro i A GD;have⟨M,O,U⟩:=GB i A GD;refine⟨M,?_,?_⟩
   .rw[Jk,Dw ω,Dw ω];exact O
   .exact(U.step (X':=λ y=>y=o\/y=bO\/y<H.ab+2) (ga.trans gb) ζ λ y G=>by
     rcases G with h|rfl|h
     .exact .inl (.inl h)
     .exact .inr ω
     .exact .inl (.inr h)).step Uj ζ λ y G=>.inl G
  have awp:∀i (A:i<p.length),f+1<=i->∃M,bc tg (i*3) 3=some M/\qe H p[i] M:=by intro i A GD;have⟨M,O,U⟩:=aaT i A ω;refine⟨M,?_,U⟩;rw[Jk,Dw ω,Dw ω];exact O
  have Mw:bc tg (f*3) 3=some [str p[f].name,u1,.sl bO 0 2 p[f].blocks.length BT Lm]:=by
   have q0:tf.get (f*3)=some (str p[f].name):=by simpa using rq 0 ω
   rw[Jk];simp[bc,q0]
  clear GB aaT Jk lfb lfa lf;refine bu (α:=Nat) (aJ:=λ j sl K=>I [bO] Hb K/\(∃t,Lv K bO (.cells (BT*2) t false)/\(∀i (A:i<p[f].blocks.length),i<j->∃M,bc t (i*2) 2=some M/\fN (λ y=>y=o\/y=bO\/y<H.ab+2) K λ K=>p_ K p[f].blocks[i] M)/\(∀i (A:i<p[f].blocks.length),j<=i->∃M,bc t (i*2) 2=some M/\p_ H p[f].blocks[i] M))/\AV sl 1 (.ptr H.ab 0)/\AV sl 2 (.ptr (H.ab+1) 0)/\AV sl 4 (.ptr o (f*3))/\AV sl 14 (ae p.length)/\AV sl 15 (ae f)/\AV sl 42 (ae p[f].blocks.length)/\AV sl 43 (ae j)/\j<=p[f].blocks.length) (mu:=λ j=>p[f].blocks.length-j) ?_ 0 _ _ ?ini2;case ini2=>exact⟨aw,⟨tb,lbH,λ i A h=>ω,λ i A _=>⟨_,QF i A,hRb i A⟩⟩,by simp[s1,s2,cy,dg]⟩
  clear s1 s2 cy dg;rintro b2 k2-dO j sl Kc ⟨gc,⟨tc,lc,aao,aaU⟩,s1,s2,s4,cy,dg,kV,oD,Ey⟩ eJ;have lfc:=lfH.W gc ξ;have hgc:=gc.ab;by_cases bB:j<p[f].blocks.length
  .have⟨csj,rj,xU⟩:=aaU j bB aF;obtain⟨vc,rfl,bX⟩:=xU;have xW:p[f].blocks[j]∈p[f].blocks:=cG bB;have⟨L9,aHF⟩:=Fl.code _ xW;have Dd:=Fl.small _ xW;have avH:0<p[f].blocks[j].code.length:=za.2 L9;have⟨c0,c1⟩:=JQ rj;have d1:j*2+1<BT*2:=ω
   have d2:j*2+1+1<=BT*2:=ω
   have gHc:I [] H Kc:=⟨ω,λ q hq _=>by rw[gc.get q ω ξ,gHb.get q hq ζ]⟩;simp[s4,kV,oD,bB,lfc.get,PB,KW,lc.get,c1,d1];refine CW (aoD (R:=ku H) (bX.W gHc λ _ _ _ h=>h) (λ _ _ h=>h.OM) ω) ?_;rintro u3 Kd ⟨gd,csd,aIx,owd,au3,auA,hRd⟩;obtain⟨cO,Io,T0,td,rfl,rfl,ld,auw,auC,av4⟩:=owd.WS ω auA avH;have hcO:=au3 cO ζ;have lcd:=lc.ai gd;have hgd:=gd.ab;have hlc:=lc.lt;have hld:=ld.lt;simp[lcd.get,d2,de nT,d1];generalize Uq:D.put _ _ _=Hd;have Lz:I [bO] Kd Hd:=by rw[<-Uq];exact aw.put (.inr ζ)
   have lbd:∃t,Lv Hd bO (.cells (BT*2) t false)/\t=tc.put (j*2+1) (some (.sl cO 0 8 p[f].blocks[j].code.length Io T0)):=by rw[<-Uq];exact⟨_,lcd.put_eq,rfl⟩
   have ud:Hd.ab=Kd.ab:=by rw[<-Uq];rfl
   clear Uq;have⟨NX,lbd,QJ⟩:=lbd;have ldd:=ld.W Lz ξ;have e1:NX.get (j*2+1)=some (.sl cO 0 8 p[f].blocks[j].code.length Io T0):=by rw[QJ];simp
   have hdb:∀i (A:i<p[f].blocks.length),i<j->∃M,bc NX (i*2) 2=some M/\fN (λ y=>y=o\/y=bO\/y=cO\/y<H.ab+2) Hd λ K=>p_ K p[f].blocks[i] M:=by
    intro i A dK;have⟨M,O,U⟩:=aao i A dK;refine⟨M,by rw[QJ,Dw ω];exact O,?_⟩;exact(U.step (X':=λ y=>y=o\/y=bO\/y=cO\/y<H.ab+2) gd ζ λ y G=>by
     rcases G with h|h|rfl|h
     .exact .inl (.inl h)
     .exact .inl (.inr (.inl h))
     .exact .inr hcO
     .exact .inl (.inr (.inr h))).step Lz ζ λ y G=>.inl G
   have htb:∀i (A:i<p[f].blocks.length),j+1<=i->∃M,bc NX (i*2) 2=some M/\p_ H p[f].blocks[i] M:=by intro i A dK;have⟨M,O,U⟩:=aaU i A ω;exact⟨M,by rw[QJ,Dw ω];exact O,U⟩
   have hrj:bc NX (j*2) 2=some [str p[f].blocks[j].label,.sl cO 0 8 p[f].blocks[j].code.length Io T0]:=by rw[QJ];simp[bc,c0]
   clear aao aaU QJ;refine CA (λ l sl K=>I [cO] Hd K/\(∃t,Lv K cO (.cells (Io*8) t false)/\(∀i (A:i<p[f].blocks[j].code.length),i<l->∃M,bc t (i*8) 8=some M/\fN (λ y=>y=o\/y=bO\/y=cO\/y<H.ab+2) K λ K=>ku K p[f].blocks[j].code[i] M)/\(∀i (A:i<p[f].blocks[j].code.length),l<=i->∃M,bc t (i*8) 8=some M/\ku H p[f].blocks[j].code[i] M))/\AV sl 1 (.ptr H.ab 0)/\AV sl 2 (.ptr (H.ab+1) 0)/\AV sl 4 (.ptr o (f*3))/\AV sl 6 (.ptr bO (j*2))/\AV sl 14 (ae p.length)/\AV sl 15 (ae f)/\AV sl 42 (ae p[f].blocks.length)/\AV sl 43 (ae j)/\AV sl 64 (ae p[f].blocks[j].code.length)/\AV sl 65 (ae l)/\l<=p[f].blocks[j].code.length) (p[f].blocks[j].code.length) ⟨aw,⟨td,ldd,λ i A h=>ω,λ i A _=>⟨_,av4 i A,hRd i A⟩⟩,by simp[s1,s2,s4,cy,dg,kV,oD]⟩ ?_
   clear s1 s2 s4 cy dg kV oD;rintro b3 k3-jU l sl Ke ⟨ge,⟨te,le,ahE,ais⟩,s1,s2,s4,s6,cy,dg,kV,oD,qZ,s65,sJ⟩ jg;have lbe:=lbd.W ge ξ;have AW:=ge.ab;have aU:=le.lt;by_cases oh:l<p[f].blocks[j].code.length
   .have⟨csl,rl,IV⟩:=ais l oh aF;have Jc:=Dd _ (cG oh);have d3:l*8+8<=Io*8:=ω
    have gHe:I [] H Ke:=⟨ω,λ q hq _=>by rw[ge.get q ω ξ,Lz.get q ω ξ,gd.get q ω ζ,gHc.get q hq ζ]⟩;simp[s6,qZ,s65,oh,lbe.get,e1,d1,le.get,bY rl,d3];refine CW (af5 IV gHe Jc.1 Jc.2) ?_;rintro _ Kf ⟨cI,rfl,ahy,aui,U3,gf⟩;have lef:=le.ai gf;have lbf:=lbe.ai gf;have hgf:=gf.ab;simp;refine dF ?_ ?_
    .simp[dm,val,lbf.get,e1,d1]
    simp[s65,lef.get,oh,ahy,aui,d3,fQ (show(-9223372036854775808:Int)<=(l:Int)+1 by omega) (show(l:Int)+1<=9223372036854775807 by omega)];have gp:I [cO] Kf (Kf.put cO (some (.cells (Io*8) (te.iM (l*8) cI) false))):=aw.put (.inr ζ);refine jg ω ⟨(ge.trans (gf.mono ζ)).trans gp,⟨_,lef.put_eq,λ i A jf=>?_,λ i A jf=>?_⟩,?sl⟩;case sl=>simp[s1,s2,s4,s6,cy,dg,kV,oD,qZ];exact oh
    .rcases pH.1 jf with h|h
     .have⟨M,O,U⟩:=ahE i A h;exact⟨M,by rw[aj1 ω];exact O,(U.step gf ζ λ y G=>.inl G).step gp ζ λ y G=>.inl G⟩
     .have h':=h.symm;clear h;subst h';refine⟨cI,by have:=aDI (t:=te) (a:=l*8) (l:=cI);rw[ahy]at this;exact this,?_⟩;have O:fN (λ y=>y=o\/y=bO\/y=cO\/y<H.ab+2) Kf λ K=>ku K p[f].blocks[j].code[l] cI:=fN.fresh (lo:=Ke.ab) U3 λ y G=>.inl (by rcases G with rfl|rfl|rfl|h<;>omega);exact O.step gp ζ λ y G=>.inl G
    .have⟨M,O,U⟩:=ais i A ω;exact⟨M,by rw[aj1 ω];exact O,U⟩
   .obtain rfl:l=p[f].blocks[j].code.length:=ω
    subst jU;simp[qZ,s65,oD,fQ (show(-9223372036854775808:Int)<=(j:Int)+1 by have:=Fl.nb;omega) (show(j:Int)+1<=9223372036854775807 by have:=Fl.nb;omega)];have hX:∀y,(y=o\/y=bO\/y<H.ab+2)->(y=o\/y=bO\/y=cO\/y<H.ab+2)\/Hd.ab<=y:=λ y G=>.inl (by rcases G with h|h|h<;>simp[h]);have hsc:fN (λ y=>y=o\/y=bO\/y<H.ab+2) Ke λ K=>aW K 8 (ku K) (.sl cO 0 8 p[f].blocks[j].code.length Io T0) p[f].blocks[j].code:=by refine ad2 rfl le ω auw auC λ i A=>?_;have⟨M,O,U⟩:=ahE i A A;exact⟨M,O,U.step (I.refl [] _) ζ λ y G=>.inl (by rcases G with h|h|h<;>simp[h])⟩
    have m1:p[f].blocks.length-(j+1)<p[f].blocks.length-j:=YT bB (sx j);have m2:Hb.ab<=Ke.ab:=aY hgc (aY hgd (aY Lz.ab AW));have m3:I [bO] Hb Ke:=by refine⟨m2,λ q hq hs=>?_⟩;have q1:q<Kc.ab:=aT hq hgc;have q2:q<Kd.ab:=aT q1 hgd;rw[ge.get q (aT q2 Lz.ab) (by simp;exact bC (aT q1 hcO)),Lz.get q q2 hs,gd.get q q1 ζ,gc.get q hq hs]
    have m4:∀i (A:i<p[f].blocks.length),i<j+1->∃M,bc NX (i*2) 2=some M/\fN (λ y=>y=o\/y=bO\/y<H.ab+2) Ke λ K=>p_ K p[f].blocks[i] M:=by
     intro i A dK;rcases pH.1 dK with h|h
     .have⟨M,O,U⟩:=hdb i A h;exact⟨M,O,U.step ge ζ hX⟩
     .have h':=h.symm;clear h;subst h';exact⟨_,hrj,hsc.imp λ K h=>⟨_,rfl,h⟩⟩
    refine eJ (j+1) _ _ m1 ⟨m3,⟨NX,lbe,m4,λ i A dK=>htb i A dK⟩,?_⟩;simp[s1,s2,s4,cy,dg,kV];exact bB
  .obtain rfl:j=p[f].blocks.length:=ω
   subst dO;simp[kV,oD,dg,fQ (show(-9223372036854775808:Int)<=(f:Int)+1 by omega) (show(f:Int)+1<=9223372036854775807 by omega)];have hsb:fN (λ y=>y=o\/y<H.ab+2) Kc λ K=>aW K 2 (p_ K) (.sl bO 0 2 p[f].blocks.length BT Lm) p[f].blocks:=by refine ad2 rfl lc ω auv auB λ i A=>?_;have⟨M,O,U⟩:=aao i A A;exact⟨M,O,U.step (I.refl [] _) ζ λ y G=>.inl (by rcases G with h|h<;>simp[h])⟩
   have hX:∀y,(y=o\/y<H.ab+2)->(y=o\/y=bO\/y<H.ab+2)\/Hb.ab<=y:=λ y G=>.inl (by rcases G with h|h<;>simp[h]);refine ih ω ⟨⟨ω,λ q hq hs=>by rw[gc.get q ω ξ,Eb.get q hq hs]⟩,⟨tg,lfc,λ i A GD=>?_,λ i A GD=>awp i A GD⟩,by simp[s1,s2,cy];omega⟩;rcases pH.1 GD with h|h
   .have⟨M,O,U⟩:=auL i A h;exact⟨M,O,U.step gc ζ hX⟩
   .have h':=h.symm;clear h;subst h';exact⟨_,Mw,((awl.step gc ζ hX).both hsb).imp λ K h=>⟨_,_,rfl,h.1,h.2⟩⟩
 .obtain rfl:f=p.length:=ω
  subst cq;have l2f:=l2H.W gK ξ;have yi:bc t1 0 1=some [.sl o 0 3 p.length ax ex]:=by simp[bc,w1]
  simp[s1,s2,cy,dg,l1f.get,bY yi,l2f.get];have kj:fN (λ y=>y<H.ab+2) K λ K=>oO K (.sl o 0 3 p.length ax ex) p:=ad2 rfl lf ω UM C9 λ i A=>by have⟨M,O,U⟩:=GB i A A;exact⟨M,O,U.step (I.refl [] _) ζ λ y G=>.inl (.inr G)⟩
  have gp:I [H.ab+1] K (K.put (H.ab+1) (some (.cells 1 (t2.put 0 (some (.sl o 0 3 p.length ax ex))) false))):=aw.put (.inr ζ);refine hQ ⟨_,rfl,(kj.step (X':=λ y=>y<H.ab+2) gp ζ λ y G=>.inl G).out (λ y G=>ω),⟨by have:=gp.ab;omega,λ j hj _=>?_⟩⟩;rw[gp.get j ω ξ,gK.get j ω ξ,gHH.get j hj ζ]
end
section
variable{H HB:D}
def akp(vf:J)(hv:km vf=true)(H:D):CN 72 [.agg [vf]] H λ v K=>K=H.add (.cells 1 (Tr.e.put 0 (some vf)) false)/\v=.fn (.func 132) [] [.ptr H.ab 0]:=by refine im asW rfl ?_;simp[hv]
def ako{p:List aQ}{vf:J}(cj:Nat->Nat->Nat->D->Prop)(hw:oO HB vf p)(hB:∀f b i K,cj f b i K->I [] HB K)(B:∀f b i K T,cj f b i K->I [] K T->cj f b i T)(h0:cj 0 0 0 H)(hc:∀f b i K,cj f b i K->∃t ro,Lv K dH (.cells 1 t ro)/\AV t 0 vf)(hf:∀f b i x M K,At p f b i x->cj f b i K->ku HB x M->CF E0 fv [wV f b i,.agg M] K λ v T=>v=bl true/\cj f b (i+1) T)(hb:∀f b fn bk K,p[f]?=some fn->fn.blocks[b]?=some bk->cj f b bk.code.length K->cj f (b+1) 0 K)(hg:∀f fn K,p[f]?=some fn->cj f fn.blocks.length 0 K->cj (f+1) 0 0 K):CN 132 [fv,.ptr dH 0] H λ _ K=>cj p.length 0 0 K:=by
 refine ba aqN rfl λ Q' hQ=>?_
 have⟨t,ro,O,U⟩:=hc _ _ _ _ h0
 simp[O.get,U,hw.aN nf]
 refine CA (λ f sl K=>cj f 0 0 K/\AV sl 0 fv/\AV sl 1 (.ptr dH 0)/\AV sl 9 (ae p.length)/\AV sl 10 (ae f)/\f<=p.length) p.length ⟨h0,ζ⟩ ?_
 rintro b1 k1-cq f sl K ⟨hJ,s0,s1,s9,bt,kH⟩ sO
 by_cases az:f<p.length
 .have⟨kQ,ig,kD,iR,n1,t1,py,kE,dc,cT,iy,eZ,eI⟩:=hw.at_ az
  obtain⟨vp,vb,rfl,eY,bR⟩:=eI;have⟨_,_,e1⟩:=uE eZ;have g1:=hB _ _ _ _ hJ;have⟨t,ro,O,U⟩:=hc _ _ _ _ hJ;have KV:ig+f*3+2<n1:=ω
  simp[s1,s9,bt,az,O.get,U,dc,(cT.ai g1).get,e1,KV,bR.aN nh];refine CA (λ b sl K=>cj f b 0 K/\AV sl 0 fv/\AV sl 1 (.ptr dH 0)/\AV sl 9 (ae p.length)/\AV sl 10 (ae f)/\AV sl 3 (ae f)/\AV sl 19 (ae p[f].blocks.length)/\AV sl 20 (ae b)/\b<=p[f].blocks.length) (p[f].blocks.length) ⟨hJ,by simp[s0,s1,s9,bt]⟩ ?_
  clear s0 s1 s9 bt O U g1 hJ;rintro b2 k2-dO b sl K ⟨hJ,s0,s1,s9,bt,s3,i_,qY,jM⟩ eJ;by_cases dp:b<p[f].blocks.length
  .have⟨lJ,lU,rN,kY,n2,t2,qW,mR,fp,ck,gV,iz,iv⟩:=bR.at_ dp;obtain⟨vc,rfl,bX⟩:=iv;have⟨_,e2⟩:=JQ iz;have g2:=hB _ _ _ _ hJ;have⟨t,ro,O,U⟩:=hc _ _ _ _ hJ;have KW:lU+b*2+1<n2:=ω
   simp[s1,s3,i_,qY,az,dp,O.get,U,dc,fp,(cT.ai g2).get,e1,KV,(ck.ai g2).get,e2,KW,bX.aN nT];refine CA (λ i sl K=>cj f b i K/\AV sl 0 fv/\AV sl 1 (.ptr dH 0)/\AV sl 9 (ae p.length)/\AV sl 10 (ae f)/\AV sl 3 (ae f)/\AV sl 19 (ae p[f].blocks.length)/\AV sl 20 (ae b)/\AV sl 4 (ae b)/\AV sl 32 vc/\AV sl 33 (ae p[f].blocks[b].code.length)/\AV sl 34 (ae i)/\i<=p[f].blocks[b].code.length) (p[f].blocks[b].code.length) ⟨hJ,by simp[s0,s1,s9,bt,s3,i_,qY]⟩ ?_
   clear s0 s1 s9 bt s3 i_ qY O U g2 hJ;rintro b3 k3-jU i sl K ⟨hJ,s0,s1,s9,bt,s3,i_,qY,s4,jZ,Br,w8,jf⟩ jg;by_cases du:i<p[f].blocks[b].code.length
   .have⟨yy,Aa,xJ,wv,n3,t3,Bq,BV,jD,fF,mM,kh,f_⟩:=bX.at_ du;obtain⟨va,vl,rfl,iU,fo,oi⟩:=f_;have g3:=hB _ _ _ _ hJ;simp[s0,s3,s4,jZ,Br,w8,du,jD,(fF.ai g3).get,bY kh,mM,iU.cell,fo.cell];have gn:=λ o o'=>I.new (I.refl [] K) o o';refine vM (hf f b i p[f].blocks[b].code[i] _ _ ⟨_,_,bf az,bf dp,bf du⟩ (B _ _ _ _ _ hJ (gn _ _)) ⟨va,vl,rfl,iU,fo,oi⟩) ?_;rintro v T ⟨rfl,og⟩;simp[w8,bq (aT du bX.cP)];exact jg ω ⟨og,by simp[s0,s1,s9,bt,s3,i_,qY,s4,jZ,Br,dz du]⟩
   .obtain rfl:i=p[f].blocks[b].code.length:=ω
    subst jU;simp[Br,w8,qY,bq (aT dp bR.cP)];exact eJ ω ⟨hb f b _ _ _ (bf az) (bf dp) hJ,by simp[s0,s1,s9,bt,s3,i_,dz dp]⟩
  .obtain rfl:b=p[f].blocks.length:=ω
   subst dO;simp[i_,qY,bt,bq (aT az hw.cP)];exact sO ω ⟨hg f _ _ (bf az) hJ,by simp[s0,s1,s9,dz az]⟩
 .obtain rfl:f=p.length:=ω
  subst cq;simp[s9,bt];exact hQ hJ
end
variable{j:Nat}
abbrev Pt:=Nat×Nat×Nat
structure SM where
 p:List aQ
 vars:List (Int×aI)
 names:List aI
 sites:List (Pt×Int×Int)
 idx:Pt->Option Nat
 of:List Int
 a_:List Pt
variable{ay As:SM}
abbrev SM.var(S:SM)(f:Nat)(s:aI):SM:={S with vars:=lE S.vars ((f:Int),s)}
def SM.kq(S:SM)(q:Pt)(n:Int):SM:={S with sites:=S.sites++[(q,(S.of.length:Int),n)],idx:=λ q'=>if q'=q then some S.sites.length else S.idx q'}
def SM.eA(S:SM)(k:Nat):SM:={S with of:=S.of++List.replicate k ((S.sites.length:Int)-1)}
def SM.iC(S:SM)(f b i:Nat)(x:bp):SM:=
 let S1:SM:={S with a_:=S.a_++[(f,b,i)]}
 let S2:=if x.dst=ByteArray.empty then S1 else S1.var f x.dst
 if x.op=1\/x.op=2 then(S2.kq (f,b,i) x.n).eA x.n.toNat else S2
def SM.ins(S:SM)(f b:Nat)(code:List bp):Nat->SM
 |0=>S|i+1=>match code[i]? with|some x=>(SM.ins S f b code i).iC f b i x|none=>SM.ins S f b code i
def SM.bF(S:SM)(f:Nat)(bs:List cU):Nat->SM
 |0=>S|b+1=>match bs[b]? with|some bk=>(SM.bF S f bs b).ins f b bk.code bk.code.length|none=>SM.bF S f bs b
def SM.par(S:SM)(f:Nat)(ps:List aI):Nat->SM
 |0=>S|j+1=>match ps[j]? with|some s=>(SM.par S f ps j).var f s|none=>SM.par S f ps j
def SM.CQ(S:SM)(f:Nat)(fn:aQ):SM:=(({S with names:=lE S.names fn.name}:SM).par f fn.params fn.params.length).bF f fn.blocks fn.blocks.length
def SM.run(p:List aQ):Nat->SM
 |0=>⟨p,[],[],[],λ _=>none,[],[]⟩|f+1=>match p[f]? with|some fn=>(SM.run p f).CQ f fn|none=>SM.run p f
def bj(p:List aQ):SM:=SM.run p p.length
def SM.le(S ay:SM):Prop:=S.vars.length<=ay.vars.length/\S.names.length<=ay.names.length/\S.sites.length<=ay.sites.length/\S.of.length<=ay.of.length/\S.a_.length<=ay.a_.length
def SM.le.refl(S:SM):S.le S:=⟨aF,aF,aF,aF,aF⟩
def SM.le.trans{S:SM}(h:S.le ay)(g:ay.le As):S.le As:=⟨aY h.1 g.1,aY h.2.1 g.2.1,aY h.2.2.1 g.2.2.1,aY h.2.2.2.1 g.2.2.2.1,aY h.2.2.2.2 g.2.2.2.2⟩
def aeR[DecidableEq α](L:List α)(k:α):L.length<=(lE L k).length:=by unfold lE;split<;>simp
def SM.le.var(S:SM)(f:Nat)(s:aI):S.le (S.var f s):=⟨aeR _ _,aF,aF,aF,aF⟩
def SM.le.kq(S:SM)(q:Pt)(n:Int):S.le (S.kq q n):=⟨aF,aF,by simp[SM.kq],aF,aF⟩
def SM.le.eA(S:SM)(k:Nat):S.le (S.eA k):=⟨aF,aF,aF,by simp[SM.eA],aF⟩
def SM.le.pt(S:SM)(q:Pt):S.le {S with a_:=S.a_++[q]}:=⟨aF,aF,aF,aF,ζ⟩
def SM.le.iC(S:SM)(f b i:Nat)(x:bp):S.le (S.iC f b i x):=by
 unfold SM.iC;dsimp only;split<;>split
 .exact(SM.le.pt S _).trans ((SM.le.kq _ _ _).trans (SM.le.eA _ _))
 .exact((SM.le.pt S _).trans (SM.le.var _ _ _)).trans ((SM.le.kq _ _ _).trans (SM.le.eA _ _))
 .exact(SM.le.pt S _)
 .exact(SM.le.pt S _).trans (SM.le.var _ _ _)
def SM.le.awP(S:SM)(f b:Nat)(code:List bp)(i:Nat):(S.ins f b code i).le (S.ins f b code (i+1)):=by
 simp only[SM.ins];split
 .exact SM.le.iC _ _ _ _ _
 .exact SM.le.refl _
def SM.le.ins(S:SM)(f b:Nat)(code:List bp)(h:i<=j):(S.ins f b code i).le (S.ins f b code j):=by induction h with|refl=>exact SM.le.refl _|step _ ih=>exact ih.trans (SM.le.awP _ _ _ _ _)
def SM.le.bF(S:SM)(f:Nat)(bs:List cU)(h:i<=j):(S.bF f bs i).le (S.bF f bs j):=by
 induction h with
 |refl=>exact SM.le.refl _
 |@step m _ ih=>
  refine ih.trans ?_
  simp only[SM.bF];split
  .exact SM.le.ins _ _ _ _ (i:=0) (dQ _)
  .exact SM.le.refl _
def SM.le.par(S:SM)(f:Nat)(ps:List aI)(h:i<=j):(S.par f ps i).le (S.par f ps j):=by
 induction h with
 |refl=>exact SM.le.refl _
 |@step m _ ih=>
  refine ih.trans ?_
  simp only[SM.par];split
  .exact SM.le.var _ _ _
  .exact SM.le.refl _
def SM.le.name(S:SM)(s:aI):S.le {S with names:=lE S.names s}:=⟨aF,aeR _ _,aF,aF,aF⟩
def SM.le.run(p:List aQ)(h:i<=j):(SM.run p i).le (SM.run p j):=by
 induction h with
 |refl=>exact SM.le.refl _
 |@step m _ ih=>
  refine ih.trans ?_
  simp only[SM.run];split
  .exact(SM.le.name _ _).trans ((SM.le.par _ _ _ (i:=0) (dQ _)).trans (SM.le.bF _ _ _ (i:=0) (dQ _)))
  .exact SM.le.refl _
def SM.cur(S:SM)(f:Nat)(bs:List cU)(b i:Nat):SM:=match bs[b]? with|some bk=>(S.bF f bs b).ins f b bk.code i|none=>S.bF f bs b
def SM.ZD(S:SM)(f:Nat)(bs:List cU)(b:Nat):S.cur f bs b 0=S.bF f bs b:=by unfold SM.cur;split<;>rfl
def SM.ao6(S:SM)(f:Nat)(bs:List cU){bk:cU}(h:bs[b]?=some bk):S.cur f bs (b+1) 0=S.cur f bs b bk.code.length:=by rw[SM.ZD];simp[SM.cur,SM.bF,h]
def SM.ao7(S:SM)(f:Nat)(bs:List cU){bk:cU}(h:bs[b]?=some bk)(Z:bk.code[i]?=some x):S.cur f bs b (i+1)=(S.cur f bs b i).iC f b i x:=by simp[SM.cur,SM.ins,h,Z]
def SM.ao5(S:SM)(f:Nat)(bs:List cU){bk:cU}(h:bs[b]?=some bk)(A:i<=bk.code.length):(S.cur f bs b i).le (S.bF f bs bs.length):=by
 have hb:b<bs.length:=by rw[cW]at h;exact h.1
 have e:S.bF f bs (b+1)=(S.bF f bs b).ins f b bk.code bk.code.length:=by simp[SM.bF,h]
 simp only[SM.cur,h];refine(SM.le.ins _ _ _ _ A).trans ?_;rw[<-e];exact SM.le.bF _ _ _ hb
abbrev yI(q:Pt):AU:=[ae q.1,ae q.2.1,ae q.2.2]
abbrev Ae(s:Pt×Int×Int):AU:=[ae s.1.1,ae s.1.2.1,ae s.1.2.2,ae s.2.1,ae s.2.2]
abbrev qU(q:Pt):aC:=.agg ⟨[.int .i64 q.1,.int .i64 q.2.1,.int .i64 q.2.2]⟩
abbrev ajT:KS:=.agg [.i .i64,.i .i64,.i .i64]
def Sw(q:Pt):KP ajT (qU q):=⟨_,rfl,ζ⟩
def aCl{a b:Pt}:qU a=qU b↔a=b:=by
 constructor
 .intro h;simp only[qU,Value.agg.injEq,Ym,KA,Value.int.injEq,KN,OH]at h;have⟨O,U,F⟩:=h;exact Prod.ext ω (Prod.ext ω ω)
 .rintro rfl;rfl
theorem ZZ:∀{L:List Pt},(L.flatMap yI).length=L.length*3
 |[]=>rfl|a::l=>by rw[BN,iP,ZZ (L:=l)];simp;omega
theorem Ps:∀{L:List (Pt×Int×Int)},(L.flatMap Ae).length=L.length*5
 |[]=>rfl|a::l=>by rw[BN,iP,Ps (L:=l)];simp;omega
structure qg(au:Nat->Prop)(K:D)(id:Nat)(vf:J)(cY cM mid:Nat)(S:SM)(t:Tr J)(sv ov pv:J)(X1 X2 i3 i5 i6:List Nat)(l:List AE)(c:Nat->Nat):Prop where
 ob:Lv K id (.cells 7 t false)
 t0:AV t 0 vf
 t1:AV t 1 (.ptr cY 0)
 t2:AV t 2 (.ptr cM 0)
 t3:AV t 3 sv
 t4:AV t 4 (.map mid)
 t5:AV t 5 ov
 t6:AV t 6 pv
 vars:FH K cY S.vars X1
 names:Kq K cM S.names X2
 sites:aX K 5 sv (S.sites.flatMap Ae) i3
 idx:FG K mid 48 ajT l
 qB:∀q,cH (qU q) l=(S.idx q).map λ k=>ae ((k:Nat):Int)
 of:aX K 1 ov (aZ S.of) i5
 a_:aX K 3 pv (S.a_.flatMap yI) i6
 c0:c id=0/\¬au id
 c1:∀y∈X1,c y=1/\¬au y/\y<K.ab
 c2:∀y∈X2,c y=2/\¬au y/\y<K.ab
 c3:∀y∈i3,c y=3/\¬au y/\y<K.ab
 c4:c mid=4/\¬au mid
 c5:∀y∈i5,c y=5/\¬au y/\y<K.ab
 c6:∀y∈i6,c y=6/\¬au y/\y<K.ab
 cF:∀y,au y->y<K.ab
def ly(au:Nat->Prop)(K:D)(id:Nat)(vf:J)(cY cM mid:Nat)(S:SM):Prop:=∃t sv ov pv X1 X2 i3 i5 i6 l c,qg au K id vf cY cM mid S t sv ov pv X1 X2 i3 i5 i6 l c
def oV(c:Nat->Nat)(n k:Nat):Nat->Nat:=λ y=>if y<n then c y else k
section
variable{au:Nat->Prop}{K T:D}{id:Nat}{vf:J}{cY cM mid:Nat}{S:SM}{t:CX}{sv ov pv:J}{X1 X2 i3 i5 i6:AT}{l:List AE}{c:Nat->Nat}
def qg.W{cL:AT}(h:qg au K id vf cY cM mid S t sv ov pv X1 X2 i3 i5 i6 l c)(g:I cL K T)(hz:∀z∈cL,au z):qg au T id vf cY cM mid S t sv ov pv X1 X2 i3 i5 i6 l c:=by have a0:id∉cL:=λ B=>h.c0.2 (hz _ B);have a4:mid∉cL:=λ B=>h.c4.2 (hz _ B);have aa:∀{X:AT} {k:Nat},(∀y∈X,c y=k/\¬au y/\y<K.ab)->∀y∈X,y∉cL:=λ hX y G B=>(hX y G).2.1 (hz _ B);have bb:∀{X:AT} {k:Nat},(∀y∈X,c y=k/\¬au y/\y<K.ab)->∀y∈X,c y=k/\¬au y/\y<T.ab:=λ hX y G=>⟨(hX y G).1,(hX y G).2.1,aT (hX y G).2.2 g.ab⟩;exact{ob:=h.ob.W g a0,t0:=h.t0,t1:=h.t1,t2:=h.t2,t3:=h.t3,t4:=h.t4,t5:=h.t5,t6:=h.t6,vars:=h.vars.W g (aa h.c1),names:=h.names.W g (aa h.c2),sites:=h.sites.W g (aa h.c3),idx:=h.idx.W g a4,qB:=h.qB,of:=h.of.W g (aa h.c5),a_:=h.a_.W g (aa h.c6),c0:=h.c0,c1:=bb h.c1,c2:=bb h.c2,c3:=bb h.c3,c4:=h.c4,c5:=bb h.c5,c6:=bb h.c6,cF:=λ y G=>aT (h.cF y G) g.ab}
def ly.W{cL:AT}(h:ly au K id vf cY cM mid S)(g:I cL K T)(hz:∀z∈cL,au z):ly au T id vf cY cM mid S:=by have⟨t,sv,ov,pv,X1,X2,i3,i5,i6,l,c,h⟩:=h;exact⟨t,sv,ov,pv,X1,X2,i3,i5,i6,l,c,h.W g hz⟩
def ly.for(h:ly au K id vf cY cM mid S)(g:I [] K T)(hn:n<=T.ab):ly (λ y=>au y\/(K.ab<=y/\y<n)) T id vf cY cM mid S:=by have⟨t,sv,ov,pv,X1,X2,i3,i5,i6,l,c,h0⟩:=h;have⟨c',bD⟩:=h0.idx.ob;have h:=h0.W g ζ;have bb:∀{X:AT} {k:Nat},(∀y∈X,c y=k/\¬au y/\y<K.ab)->∀y∈X,c y=k/\¬(au y\/(K.ab<=y/\y<n))/\y<T.ab:=λ hX y G=>⟨(hX y G).1,λ hf=>hf.elim (hX y G).2.1 λ hf=>by have:=(hX y G).2.2;omega,aT (hX y G).2.2 g.ab⟩;exact⟨t,sv,ov,pv,X1,X2,i3,i5,i6,l,c,{ob:=h.ob,t0:=h.t0,t1:=h.t1,t2:=h.t2,t3:=h.t3,t4:=h.t4,t5:=h.t5,t6:=h.t6,vars:=h.vars,names:=h.names,sites:=h.sites,idx:=h.idx,qB:=h.qB,of:=h.of,a_:=h.a_,c0:=⟨h.c0.1,λ hf=>hf.elim h.c0.2 λ hf=>by have:=h0.ob.lt;omega⟩,c1:=bb h0.c1,c2:=bb h0.c2,c3:=bb h0.c3,c4:=⟨h.c4.1,λ hf=>hf.elim h.c4.2 λ hf=>by have:=bD.lt;omega⟩,c5:=bb h0.c5,c6:=bb h0.c6,cF:=λ y G=>G.elim (h.cF y) λ G=>by omega}⟩
def ly.less(h:ly au K id vf cY cM mid S)(hF:∀y,F' y->au y):ly F' K id vf cY cM mid S:=by have⟨t,sv,ov,pv,X1,X2,i3,i5,i6,l,c,h⟩:=h;have bb:∀{X:AT} {k:Nat},(∀y∈X,c y=k/\¬au y/\y<K.ab)->∀y∈X,c y=k/\¬F' y/\y<K.ab:=λ hX y G=>⟨(hX y G).1,λ hf=>(hX y G).2.1 (hF y hf),(hX y G).2.2⟩;exact⟨t,sv,ov,pv,X1,X2,i3,i5,i6,l,c,{ob:=h.ob,t0:=h.t0,t1:=h.t1,t2:=h.t2,t3:=h.t3,t4:=h.t4,t5:=h.t5,t6:=h.t6,vars:=h.vars,names:=h.names,sites:=h.sites,idx:=h.idx,qB:=h.qB,of:=h.of,a_:=h.a_,c0:=⟨h.c0.1,λ hf=>h.c0.2 (hF _ hf)⟩,c1:=bb h.c1,c2:=bb h.c2,c3:=bb h.c3,c4:=⟨h.c4.1,λ hf=>h.c4.2 (hF _ hf)⟩,c5:=bb h.c5,c6:=bb h.c6,cF:=λ y G=>h.cF y (hF y G)}⟩
def qp(hX:∀y∈X,c y=dH/\¬au y/\y<K.ab)(hn:K.ab<=T.ab):∀y∈X,oV c K.ab j y=dH/\¬au y/\y<T.ab:=λ y G=>by have⟨O,U,F⟩:=hX y G;exact⟨by unfold oV;rw[aq F];exact O,U,ω⟩
def O'(hX:∀y∈X,c y=dH/\¬au y/\y<K.ab)(hn:∀y,au y->y<K.ab)(hs:∀y∈aH,y∈X\/K.ab<=y)(hl:∀y∈aH,y<T.ab):∀y∈aH,oV c K.ab dH y=dH/\¬au y/\y<T.ab:=λ y G=>by
 rcases hs y G with h|h
 .have⟨O,U,F⟩:=hX y h;exact⟨by unfold oV;rw[aq F];exact O,U,hl y G⟩
 .exact⟨by unfold oV;rw[ao ω],λ hf=>by have:=hn y hf;omega,hl y G⟩
def qo(hX:∀y∈X,c y=dH/\¬au y/\y<K.ab)(hY:∀y∈aH,c y=j/\¬au y/\y<K.ab)(h:j≠dH):∀y∈X,y∉aH:=λ y G B=>h ((hY y B).1.symm.trans (hX y G).1)
def xL(hX:c dH=b)(hY:∀y∈aH,c y=j/\¬au y/\y<K.ab)(h:j≠b):dH∉aH:=λ B=>h ((hY dH B).1.symm.trans hX)
def HI.lt[DecidableEq α]{key:α->aC}{cells:α->AU}{kt:aS}{ks:KS}(h:HI key cells kt ks es K id L X):∀y∈X,y<K.ab:=by
 obtain⟨m,aH,t,w,l,rfl,O,U,F,h4,⟨⟨c,h5⟩,_⟩,_⟩:=h.ob;intro y G;simp only[cZ]at G;rcases G with rfl|rfl|G
 .exact O.lt
 .exact h5.lt
 .exact h4.lt y G
def qg.vars'(h:qg au K id vf cY cM mid S t sv ov pv X1 X2 i3 i5 i6 l c)(g:I X1 K T)(hT:FH T cY V aH)(hs:∀y∈aH,y∈X1\/K.ab<=y):ly au T id vf cY cM mid {S with vars:=V}:=by have gY:=h.cF;have hn:=g.ab;have e0:c mid=4:=h.c4.1;have⟨c',bD⟩:=h.idx.ob;exact⟨t,sv,ov,pv,aH,X2,i3,i5,i6,l,oV c K.ab 1,{ob:=h.ob.W g (xL h.c0.1 h.c1 ω),t0:=h.t0,t1:=h.t1,t2:=h.t2,t3:=h.t3,t4:=h.t4,t5:=h.t5,t6:=h.t6,vars:=hT,names:=h.names.W g (qo h.c2 h.c1 ω),sites:=h.sites.W g (qo h.c3 h.c1 ω),idx:=h.idx.W g (xL e0 h.c1 ω),qB:=h.qB,of:=h.of.W g (qo h.c5 h.c1 ω),a_:=h.a_.W g (qo h.c6 h.c1 ω),c0:=⟨by unfold oV;rw[aq h.ob.lt];exact h.c0.1,h.c0.2⟩,c1:=O' h.c1 gY hs hT.lt,c2:=qp h.c2 hn,c3:=qp h.c3 hn,c4:=⟨by unfold oV;rw[aq bD.lt];exact e0,h.c4.2⟩,c5:=qp h.c5 hn,c6:=qp h.c6 hn,cF:=λ y G=>aT (h.cF y G) hn}⟩
def qg.ayV{V:List aI}(h:qg au K id vf cY cM mid S t sv ov pv X1 X2 i3 i5 i6 l c)(g:I X2 K T)(hT:Kq T cM V aH)(hs:∀y∈aH,y∈X2\/K.ab<=y):ly au T id vf cY cM mid {S with names:=V}:=by have gY:=h.cF;have hn:=g.ab;have e0:c mid=4:=h.c4.1;have⟨c',bD⟩:=h.idx.ob;exact⟨t,sv,ov,pv,X1,aH,i3,i5,i6,l,oV c K.ab 2,{ob:=h.ob.W g (xL h.c0.1 h.c2 ω),t0:=h.t0,t1:=h.t1,t2:=h.t2,t3:=h.t3,t4:=h.t4,t5:=h.t5,t6:=h.t6,vars:=h.vars.W g (qo h.c1 h.c2 ω),names:=hT,sites:=h.sites.W g (qo h.c3 h.c2 ω),idx:=h.idx.W g (xL e0 h.c2 ω),qB:=h.qB,of:=h.of.W g (qo h.c5 h.c2 ω),a_:=h.a_.W g (qo h.c6 h.c2 ω),c0:=⟨by unfold oV;rw[aq h.ob.lt];exact h.c0.1,h.c0.2⟩,c1:=qp h.c1 hn,c2:=O' h.c2 gY hs hT.lt,c3:=qp h.c3 hn,c4:=⟨by unfold oV;rw[aq bD.lt];exact e0,h.c4.2⟩,c5:=qp h.c5 hn,c6:=qp h.c6 hn,cF:=λ y G=>aT (h.cF y G) hn}⟩
def qg.aa1{q:Pt}{k:Nat}{b':Nat}(h:qg au K id vf cY cM mid S t sv ov pv X1 X2 i3 i5 i6 l c):ly au (K.put mid (some (.map 48 b' (eD b (qU q) (ae (k:Int)) l)))) id vf cY cM mid {S with idx:=λ q'=>if q'=q then some k else S.idx q'}:=by
 have g:I [mid] K (K.put mid (some (.map 48 b' (eD b (qU q) (ae (k:Int)) l)))):=aw.put (.inr ζ);have e0:c mid=4:=h.c4.1;have⟨c',bD⟩:=h.idx.ob;have ne:∀{X:AT} {j:Nat},(∀y∈X,c y=j/\¬au y/\y<K.ab)->j≠4->∀y∈X,y∉[mid]:=λ hX hj y G B=>by simp at B;subst B;exact hj ((hX y G).1.symm.trans e0)
 have sK:∀q',cH (qU q') (eD b (qU q) (ae (k:Int)) l)=(if q'=q then some k else S.idx q').map λ k=>ae ((k:Nat):Int):=λ q'=>by
  rw[Bb (Sw _) (Sw _),aCl];by_cases e:q'=q
  .simp[e]
  .simp[e,h.qB]
 exact⟨t,sv,ov,pv,X1,X2,i3,i5,i6,_,c,{ob:=h.ob.W g (by simp;rintro rfl;have:=h.c0.1;omega),t0:=h.t0,t1:=h.t1,t2:=h.t2,t3:=h.t3,t4:=h.t4,t5:=h.t5,t6:=h.t6,vars:=h.vars.W g (ne h.c1 ω),names:=h.names.W g (ne h.c2 ω),sites:=h.sites.W g (ne h.c3 ω),idx:=⟨⟨b',bD.put_eq⟩,Jx (Sw _) h.idx.kp,Dq (Sw _) h.idx.nd⟩,qB:=sK,of:=h.of.W g (ne h.c5 ω),a_:=h.a_.W g (ne h.c6 ω),c0:=h.c0,c1:=h.c1,c2:=h.c2,c3:=h.c3,c4:=h.c4,c5:=h.c5,c6:=h.c6,cF:=h.cF}⟩
def qg.aEL{V:List (Pt×Int×Int)}(h:qg au K id vf cY cM mid S t sv ov pv X1 X2 i3 i5 i6 l c)(g:I i3 K T)(hv:aX T 5 fv (V.flatMap Ae) aH)(hs:∀y∈aH,y∈i3\/K.ab<=y):ly au (T.put id (some (.cells 7 (t.put 3 (some fv)) false))) id vf cY cM mid {S with sites:=V}:=by
 have gp:I [id] T (T.put id (some (.cells 7 (t.put 3 (some fv)) false))):=aw.put (.inr ζ);have gY:=h.cF;have hn:=g.ab;have hl:=hv.lt;have e0:c mid=4:=h.c4.1;have e1:c id=0:=h.c0.1;have⟨c',bD⟩:=h.idx.ob;have AX:=h.ob.W g (xL h.c0.1 h.c3 ω);have nq:∀{X:AT} {j:Nat},(∀y∈X,c y=j/\¬au y/\y<K.ab)->j≠0->∀y∈X,y∉[id]:=λ hX hj y G B=>by simp at B;subst B;exact hj ((hX y G).1.symm.trans e1)
 have np:∀y∈aH,y∉[id]:=λ y G B=>by
  simp at B;subst B;rcases hs _ G with O|O
  .exact absurd ((h.c3 _ O).1.symm.trans e1) ω
  .have:=h.ob.lt;omega
 exact⟨(t.put 3 (some fv)),fv,ov,pv,X1,X2,aH,i5,i6,l,oV c K.ab 3,{ob:=AX.put_eq,t0:=by simp[h.t0],t1:=by simp[h.t1],t2:=by simp[h.t2],t3:=ζ,t4:=by simp[h.t4],t5:=by simp[h.t5],t6:=by simp[h.t6],vars:=(h.vars.W g (qo h.c1 h.c3 ω)).W gp (nq (j:=1) h.c1 ω),names:=(h.names.W g (qo h.c2 h.c3 ω)).W gp (nq (j:=2) h.c2 ω),sites:=hv.W gp np,idx:=(h.idx.W g (xL e0 h.c3 ω)).W gp (by simp;rintro rfl;omega),qB:=h.qB,of:=(h.of.W g (qo h.c5 h.c3 ω)).W gp (nq (j:=5) h.c5 ω),a_:=(h.a_.W g (qo h.c6 h.c3 ω)).W gp (nq (j:=6) h.c6 ω),c0:=⟨by unfold oV;rw[aq h.ob.lt];exact h.c0.1,h.c0.2⟩,c1:=qp h.c1 hn,c2:=qp h.c2 hn,c3:=O' h.c3 gY hs hl,c4:=⟨by unfold oV;rw[aq bD.lt];exact e0,h.c4.2⟩,c5:=qp h.c5 hn,c6:=qp h.c6 hn,cF:=λ y G=>aT (h.cF y G) hn}⟩
def qg.of'{V:List (Int)}(h:qg au K id vf cY cM mid S t sv ov pv X1 X2 i3 i5 i6 l c)(g:I i5 K T)(hv:aX T 1 fv (aZ V) aH)(hs:∀y∈aH,y∈i5\/K.ab<=y):ly au (T.put id (some (.cells 7 (t.put 5 (some fv)) false))) id vf cY cM mid {S with of:=V}:=by
 have gp:I [id] T (T.put id (some (.cells 7 (t.put 5 (some fv)) false))):=aw.put (.inr ζ);have gY:=h.cF;have hn:=g.ab;have hl:=hv.lt;have e0:c mid=4:=h.c4.1;have e1:c id=0:=h.c0.1;have⟨c',bD⟩:=h.idx.ob;have AX:=h.ob.W g (xL h.c0.1 h.c5 ω);have nq:∀{X:AT} {j:Nat},(∀y∈X,c y=j/\¬au y/\y<K.ab)->j≠0->∀y∈X,y∉[id]:=λ hX hj y G B=>by simp at B;subst B;exact hj ((hX y G).1.symm.trans e1)
 have np:∀y∈aH,y∉[id]:=λ y G B=>by
  simp at B;subst B;rcases hs _ G with O|O
  .exact absurd ((h.c5 _ O).1.symm.trans e1) ω
  .have:=h.ob.lt;omega
 exact⟨(t.put 5 (some fv)),sv,fv,pv,X1,X2,i3,aH,i6,l,oV c K.ab 5,{ob:=AX.put_eq,t0:=by simp[h.t0],t1:=by simp[h.t1],t2:=by simp[h.t2],t3:=by simp[h.t3],t4:=by simp[h.t4],t5:=ζ,t6:=by simp[h.t6],vars:=(h.vars.W g (qo h.c1 h.c5 ω)).W gp (nq (j:=1) h.c1 ω),names:=(h.names.W g (qo h.c2 h.c5 ω)).W gp (nq (j:=2) h.c2 ω),sites:=(h.sites.W g (qo h.c3 h.c5 ω)).W gp (nq (j:=3) h.c3 ω),idx:=(h.idx.W g (xL e0 h.c5 ω)).W gp (by simp;rintro rfl;omega),qB:=h.qB,of:=hv.W gp np,a_:=(h.a_.W g (qo h.c6 h.c5 ω)).W gp (nq (j:=6) h.c6 ω),c0:=⟨by unfold oV;rw[aq h.ob.lt];exact h.c0.1,h.c0.2⟩,c1:=qp h.c1 hn,c2:=qp h.c2 hn,c3:=qp h.c3 hn,c4:=⟨by unfold oV;rw[aq bD.lt];exact e0,h.c4.2⟩,c5:=O' h.c5 gY hs hl,c6:=qp h.c6 hn,cF:=λ y G=>aT (h.cF y G) hn}⟩
def qg.aCm{V:List (Pt)}(h:qg au K id vf cY cM mid S t sv ov pv X1 X2 i3 i5 i6 l c)(g:I i6 K T)(hv:aX T 3 fv (V.flatMap yI) aH)(hs:∀y∈aH,y∈i6\/K.ab<=y):ly au (T.put id (some (.cells 7 (t.put 6 (some fv)) false))) id vf cY cM mid {S with a_:=V}:=by
 have gp:I [id] T (T.put id (some (.cells 7 (t.put 6 (some fv)) false))):=aw.put (.inr ζ);have gY:=h.cF;have hn:=g.ab;have hl:=hv.lt;have e0:c mid=4:=h.c4.1;have e1:c id=0:=h.c0.1;have⟨c',bD⟩:=h.idx.ob;have AX:=h.ob.W g (xL h.c0.1 h.c6 ω);have nq:∀{X:AT} {j:Nat},(∀y∈X,c y=j/\¬au y/\y<K.ab)->j≠0->∀y∈X,y∉[id]:=λ hX hj y G B=>by simp at B;subst B;exact hj ((hX y G).1.symm.trans e1)
 have np:∀y∈aH,y∉[id]:=λ y G B=>by
  simp at B;subst B;rcases hs _ G with O|O
  .exact absurd ((h.c6 _ O).1.symm.trans e1) ω
  .have:=h.ob.lt;omega
 exact⟨(t.put 6 (some fv)),sv,ov,fv,X1,X2,i3,i5,aH,l,oV c K.ab 6,{ob:=AX.put_eq,t0:=by simp[h.t0],t1:=by simp[h.t1],t2:=by simp[h.t2],t3:=by simp[h.t3],t4:=by simp[h.t4],t5:=by simp[h.t5],t6:=ζ,vars:=(h.vars.W g (qo h.c1 h.c6 ω)).W gp (nq (j:=1) h.c1 ω),names:=(h.names.W g (qo h.c2 h.c6 ω)).W gp (nq (j:=2) h.c2 ω),sites:=(h.sites.W g (qo h.c3 h.c6 ω)).W gp (nq (j:=3) h.c3 ω),idx:=(h.idx.W g (xL e0 h.c6 ω)).W gp (by simp;rintro rfl;omega),qB:=h.qB,of:=(h.of.W g (qo h.c5 h.c6 ω)).W gp (nq (j:=5) h.c5 ω),a_:=hv.W gp np,c0:=⟨by unfold oV;rw[aq h.ob.lt];exact h.c0.1,h.c0.2⟩,c1:=qp h.c1 hn,c2:=qp h.c2 hn,c3:=qp h.c3 hn,c4:=⟨by unfold oV;rw[aq bD.lt];exact e0,h.c4.2⟩,c5:=qp h.c5 hn,c6:=O' h.c6 gY hs hl,cF:=λ y G=>aT (h.cF y G) hn}⟩
end
def Hf:Code->Option Code
 |.rangeFunc _ _ _ bd=>some bd|.seq a b=>match Hf a with|some x=>some x|none=>Hf b
 |.cond _ a b=>match Hf a with|some x=>some x|none=>Hf b
 |.block _ a=>Hf a|.loop a=>Hf a|_=>none
def aez(f:Func)(bd:Code):Prop:=∃c,f.body=some c/\Hf c=some bd
theorem aX.fy{H:D}{es:Nat}{v:J}{M:AU}{aH:AT}(h:aX H es v M aH):Go.Proofs.YtgipmaoplfkdoaaGreatDoor.fy v v=true:=by cases h<;>simp
structure tD(au:Nat->Prop)(z:Nat)(K T:D):Prop where
 ab:K.ab<=T.ab
 get:∀y,au y->y≠z->T.get y=K.get y
def tD.of(hF:∀y,F' y->y<K.ab)(g:I aH K T)(hz:∀y∈aH,y=dH\/¬F' y):tD F' dH K T:=⟨g.ab,λ y G hn=>g.get y (hF y G) λ B=>(hz y B).elim hn λ h=>h G⟩
theorem tD.trans{au:Nat->Prop}{z:Nat}{K T dP:D}(h:tD au z K T)(g:tD au z T dP):tD au z K dP:=⟨aY h.ab g.ab,λ y G hn=>(g.get y G hn).trans (h.get y G hn)⟩
def tD.lv(g:tD F' dH K T)(h:Lv K b o)(G:F' b)(hn:b≠dH):Lv T b o:=⟨aT h.lt g.ab,(g.get b G hn).trans h.get⟩
def aes{a b:Code}{k:List fg}(aR:aE->D->Prop)(O:∀Q':dE->aE->D->Prop,(∀an H',aR an H'->Q' .normal an H')->CB xv E a b [] Y H Q')(U:∀an H',aR an H'->aD E k an H' aj):CB xv E a b k Y H aj:=by
 have⟨c,Z,ht,hf⟩:=O (λ ex an H'=>ex=.normal/\aR an H') λ _ _ h=>⟨rfl,h⟩;refine⟨c,Z,λ e=>?_,λ e=>?_⟩
 .exact Ap 1 aR (λ Q' hq=>(ht e).mono λ ex an H' h=>by obtain⟨rfl,h⟩:=h;exact hq _ _ h) U
 .exact Ap 1 aR (λ Q' hq=>(hf e).mono λ ex an H' h=>by obtain⟨rfl,h⟩:=h;exact hq _ _ h) U
def Oi(au:Nat->Prop)(K:D)(id:Nat)(vf:J)(cY cM mid:Nat)(S:SM)(c9 bx fb wq:Nat)(tb tf t9 pC:CX)(s:CX)(K5:D):Prop:=ly au K5 id vf cY cM mid S/\tD au c9 K K5/\s.get 4=some (.ptr bx 0)/\s.get 5=some (.ptr fb 0)/\s.get 9=some (.ptr c9 0)/\s.get 10=some (.ptr wq 0)/\Lv K5 bx (.cells 1 tb false)/\Lv K5 fb (.cells 1 tf false)/\Lv K5 c9 (.cells 3 t9 false)/\Lv K5 wq (.cells 8 pC false)
section
variable{au:Nat->Prop}{K:D}{id:Nat}{vf:J}{cY cM mid:Nat}{S:SM}
def ay6(Gy:aez Tryz.f14 bd){f:Nat}{c9 wq:Nat}(hN:ly au K id vf cY cM mid S)(Z:x.op=1\/x.op=2->0<=x.n/\x.n<=64)(awt:S.vars.length<=1048576)(ain:S.sites.length<=1048576)(Da:S.of.length<=1048576-64)(aIo:S.a_.length<=1048576)(s4:t2.get 4=some (.ptr c2 0))(s5:t2.get 5=some (.ptr m 0))(s9:t2.get 9=some (.ptr c9 0))(bt:t2.get 10=some (.ptr wq 0))(lb:Lv K c2 (.cells 1 tb false))(uM:tb.get 0=some (.ptr id 0))(lf:Lv K m (.cells 1 tf false))(J8:tf.get 0=some (ae (f:Nat)))(l9:Lv K c9 (.cells 3 t9 false))(r9:bc t9 0 3=some [ae 0,ae (b:Nat),ae (i:Nat)])(l10:Lv K wq (.cells 8 pC false))(RD:bc pC 0 8=some [u8 x.op,str x.dst,str x.a,str x.b,ae x.n,str x.fn,fv,vl])(Fb:au c2)(Ff:au m)(F9:au c9)(DM:au wq)(n1:c2≠c9)(n2:m≠c9)(n3:wq≠c9):aD E0 [.code bd] ⟨t2,164,[],r,14⟩ K λ ex _ T=>ex=.normal/\ly au T id vf cY cM mid (S.iC f b i x)/\tD au c9 K T:=by
 have⟨c,hc,hb⟩:=Gy
 simp only[Tryz.f14,zi]at hc
 subst hc
 simp only[Hf,zi]at hb
 subst hb
 have⟨u0,u1,u2⟩:=uE r9
 have⟨_,q⟩:=iB.1 RD
 have q0:pC.get 0=some (u8 x.op):=by simpa using q 0 ω
 have q1:pC.get 1=some (str x.dst):=by simpa using q 1 ω
 have q4:pC.get 4=some (ae x.n):=by simpa using q 4 ω
 suffices h:∀Q':dE->aE->D->Prop,(∀Y T,ly au T id vf cY cM mid (S.iC f b i x)/\tD au c9 K T->Q' .normal Y T)->aD E0 _ _ _ Q' from h _ λ Y T h=>⟨rfl,h⟩
 intro Q' hQ
 have⟨t,sv,ov,pv,X1,X2,i3,i5,i6,l,cc,hO⟩:=hN
 have hF:=hO.cF
 have h9:¬c9=c2:=λ h=>n1 h.symm
 have h8:¬id=c9:=λ h=>hO.c0.2 (h▸F9)
 simp[-cX,s4,s5,s9,lb.get,uM,lf.get,J8,l9.get,u1,u2,hO.ob.get,hO.t6,n1,h8]
 generalize dU:D.add _ _=Ka
 have g1:I [c9] K Ka:=by rw[<-dU];exact(aw.put (.inr ζ)).add _
 have la:∃tn,Lv Ka K.ab (.cells 3 tn false)/\bc tn 0 3=some [ae (f:Nat),ae (b:Nat),ae (i:Nat)]:=by rw[<-dU];exact⟨_,Lv.new (H:=K.put _ _),by simp[bc]⟩
 have Q3:∃t,Lv Ka c9 (.cells 3 t false)/\bc t 0 3=some [ae (f:Nat),ae (b:Nat),ae (i:Nat)]:=by rw[<-dU];exact⟨_,(l9.put_eq).add,by simp[bc,u1,u2]⟩
 clear dU
 have⟨tn,la,lr⟩:=la
 have⟨R8,Q3,W8⟩:=Q3
 have oe:=hO.W g1 (λ z hz=>by simp at hz;subst hz;exact F9)
 have GY:=lb.W g1 (by simpa using n1)
 have Nh:=lf.W g1 (by simpa using n2)
 have M_:=l10.W g1 (by simpa using n3)
 have gF1:tD au c9 K Ka:=.of hF g1 λ y G=>by simp at G;exact .inl G
 refine Fh XD aef ω oe.a_ la.get aF lr rfl (λ x Z=>by rw[ZZ]at Z;omega) (λ x Z=>by rw[ZZ]at Z;omega) ?_
 intro v' K3 ii p1 p2 p3
 have Rg:∀{y:Nat},au y->y∉i6:=λ G B=>(oe.c6 _ B).2.1 G
 have Nc:=GY.W p2 (Rg Fb)
 have lf3:=Nh.W p2 (Rg Ff)
 have l93:=Q3.W p2 (Rg F9)
 have abi:=M_.W p2 (Rg DM)
 have Nj:=oe.ob.W p2 (xL oe.c0.1 oe.c6 ω)
 have AJ:tD au c9 Ka K3:=.of oe.cF p2 λ y G=>.inr λ h=>Rg h G
 have Gp:=oe.aCm (V:=S.a_++[(f,b,i)]) p2 (by simpa using p1) p3
 have gp:I [id] K3 (K3.put id (some (.cells 7 (t.put 6 (some v')) false))):=aw.put (.inr ζ)
 have gF4:tD au c9 K3 (K3.put id (some (.cells 7 (t.put 6 (some v')) false))):=.of (λ y G=>aT (oe.cF y G) p2.ab) gp λ y G=>by simp at G;subst G;exact .inr hO.c0.2
 have nM:∀{y:Nat},au y->y∉[id]:=λ G B=>by simp at B;subst B;exact hO.c0.2 G
 have Dk:=Nc.W gp (nM Fb)
 have Q6:=lf3.W gp (nM Ff)
 have Wf:=l93.W gp (nM F9)
 have Q1:=abi.W gp (nM DM)
 simp[-cX]
 refine dF ?_ ?_
 .simp[dA,dm,val,s4,Nc.get,uM]
  done
 have auX:¬wq=id:=λ h=>hO.c0.2 (h▸DM)
 simp[-cX,bt,Nj.get,p1.cell,p1.co,auX,abi.get,q1]
 have Ud:=(gF1.trans AJ).trans gF4
 generalize K3.put id (some (.cells 7 (t.put 6 (some v')) false))=K4 at Gp Dk Q6 Wf Q1 Ud⊢
 clear gF1 AJ gF4 p1 p2 p3 oe hO lb lf l9 l10 GY Nh Q3 M_ la Nc lf3 l93 abi Nj gp g1
 refine aes (λ Y K5=>∃t2,Y=⟨t2,164,[],r,14⟩/\Oi au K id vf cY cM mid (if x.dst=ByteArray.empty then{S with a_:=S.a_++[(f,b,i)]}else SM.var {S with a_:=S.a_++[(f,b,i)]} f x.dst) c9 c2 m wq tb tf R8 pC t2 K5) ?_ ?_
 .intro Q2 wz
  have eE:ByteArray.empty=⟨#[]⟩:=rfl;by_cases hd:x.dst=⟨#[]⟩
  .rw[aq (hd.trans eE.symm)]at wz;simp[hd];exact wz _ _ ⟨_,rfl,Gp,Ud,by simp[s4],by simp[s5],by simp[s9],by simp[bt],Dk,Q6,Wf,Q1⟩
  .rw[ao (λ h=>hd (h.trans eE))]at wz;have⟨t,sv,ov,pv,X1,X2,i3,i5,i6,l,cc,hO⟩:=Gp;simp[hd,s4,s5,bt,Dk.get,uM,hO.ob.get,hO.t1,Q6.get,J8,Q1.get,q1];refine CW (aiC ((f:Int),x.dst) hO.vars awt) ?_;rintro _ K5 ⟨Oq,_,rfl,_,hT,g5,hs⟩;have qM:=hO.vars' g5 hT hs;have nF:∀{y:Nat},au y->y∉X1:=λ G B=>(hO.c1 _ B).2.1 G;simp;exact wz _ _ ⟨_,rfl,qM,Ud.trans (.of hO.cF g5 λ y G=>.inr λ h=>nF h G),by simp[s4],by simp[s5],by simp[s9],by simp[bt],Dk.W g5 (nF Fb),Q6.W g5 (nF Ff),Wf.W g5 (nF F9),Q1.W g5 (nF DM)⟩
 .rintro _ K5 ⟨s',rfl,qM,tY,z4,z5,z9,pZ,sQ,wR,uv,qR⟩
  clear s4 s5 s9 bt Dk Q6 Wf Q1 Ud Gp;have awk:S.iC f b i x=if x.op=1\/x.op=2 then((if x.dst=ByteArray.empty then{S with a_:=S.a_++[(f,b,i)]}else SM.var {S with a_:=S.a_++[(f,b,i)]} f x.dst).kq (f,b,i) x.n).eA x.n.toNat else(if x.dst=ByteArray.empty then{S with a_:=S.a_++[(f,b,i)]}else SM.var {S with a_:=S.a_++[(f,b,i)]} f x.dst):=rfl
  have Vq:(if x.dst=ByteArray.empty then{S with a_:=S.a_++[(f,b,i)]}else SM.var {S with a_:=S.a_++[(f,b,i)]} f x.dst:SM).sites=S.sites:=by split<;>rfl
  have aaJ:(if x.dst=ByteArray.empty then{S with a_:=S.a_++[(f,b,i)]}else SM.var {S with a_:=S.a_++[(f,b,i)]} f x.dst:SM).of=S.of:=by split<;>rfl
  rw[awk]at hQ;generalize(if x.dst=ByteArray.empty then{S with a_:=S.a_++[(f,b,i)]}else SM.var {S with a_:=S.a_++[(f,b,i)]} f x.dst:SM)=S5 at qM hQ Vq aaJ;by_cases bP:x.op=1\/x.op=2
  .rw[aq bP]at hQ;have⟨t,sv,ov,pv,X1,X2,i3,i5,i6,l,cc,hO⟩:=qM;have⟨dH,bD⟩:=hO.idx.ob;have avU:∀h:¬x.op=1,x.op=2:=λ h=>bP.resolve_left h;simp only[NN];refine Ap 2 (λ Y K6=>∃t2,Y=⟨t2,164,[],r,14⟩/\Oi au K id vf cY cM mid S5 c9 c2 m wq tb tf R8 pC t2 K6) ?_ ?_
   .intro Q2 wz;by_cases O:x.op=1
    .simp[pZ,qR.get,q0,O];exact wz _ _ ⟨_,rfl,⟨t,sv,ov,pv,X1,X2,i3,i5,i6,l,cc,hO⟩,tY,by simp[z4],by simp[z5],by simp[z9],by simp[pZ],sQ,wR,uv,qR⟩
    .simp[pZ,qR.get,q0,avU O];exact wz _ _ ⟨_,rfl,⟨t,sv,ov,pv,X1,X2,i3,i5,i6,l,cc,hO⟩,tY,by simp[z4],by simp[z5],by simp[z9],by simp[pZ],sQ,wR,uv,qR⟩
   .clear hO bD z4 z5 z9 pZ sQ wR uv qR tY;rintro _ K6 ⟨s',rfl,qM,tY,z4,z5,z9,pZ,sQ,wR,uv,qR⟩;simp only[List.drop,NN];refine Ap 1 (λ Y K7=>∃t2,Y=⟨t2,164,[],r,14⟩/\Oi au K id vf cY cM mid {S5 with idx:=λ q'=>if q'=(f,b,i)then some S5.sites.length else S5.idx q'} c9 c2 m wq tb tf R8 pC t2 K7) ?_ ?_
    .intro Q2 wz;have⟨t,sv,ov,pv,X1,X2,i3,i5,i6,l,cc,hO⟩:=qM;have⟨dH,bD⟩:=hO.idx.ob;have⟨v0,v1,v2⟩:=uE W8;have oo:∀K,aN E0 102 sv K=val (ae (S5.sites.length:Int)) K:=by
      intro K;have h4:=hO.sites;generalize gR:List.flatMap Ae S5.sites=M at h4;have hz:=Ps (L:=S5.sites);rw[gR]at hz;cases h4 with
      |nil=>
       have:S5.sites.length=0:=by simp only[wg]at hz;omega
       rw[Ba NZ,this]
      |own q1 q2 q3 q4 q5 q6=>
       rw[de NZ]
       congr 3;omega
     simp[-cX,z4,z9,sQ.get,uM,hO.ob.get,hO.t3,hO.t4,uv.get,bY W8,oo,bD.get];have gi:I [mid] K6 (K6.put mid (some (.map 48 (oC dH (qU (f,b,i)) l) (eD dH (qU (f,b,i)) (ae ((S5.sites.length:Nat):Int)) l)))):=aw.put (.inr ζ);have nm:∀{y:Nat},au y->y∉[mid]:=λ G B=>by simp at B;subst B;exact hO.c4.2 G
     exact wz _ _ ⟨_,rfl,hO.aa1 (q:=(f,b,i)) (k:=S5.sites.length) (b:=dH) (b':=oC dH (qU (f,b,i)) l),tY.trans (.of hO.cF gi λ y G=>.inr λ h=>nm h G),by simp[z4],by simp[z5],by simp[z9],by simp[pZ],sQ.W gi (nm Fb),wR.W gi (nm Ff),uv.W gi (nm F9),qR.W gi (nm DM)⟩
    .clear qM z4 z5 z9 pZ sQ wR uv qR tY;rintro _ K7 ⟨s',rfl,qM,tY,z4,z5,z9,pZ,sQ,wR,uv,qR⟩;simp only[List.drop,NN];have Qx:(S5.kq (f,b,i) x.n)={{S5 with idx:=λ q'=>if q'=(f,b,i)then some S5.sites.length else S5.idx q'}with sites:=S5.sites++[((f,b,i),(S5.of.length:Int),x.n)]}:=rfl;rw[Qx]at hQ;generalize hS6:({S5 with idx:=λ q'=>if q'=(f,b,i)then some S5.sites.length else S5.idx q'}:SM)=S6 at qM hQ;have aim:S5.sites=S6.sites:=by rw[<-hS6]
     have ah7:S5.of=S6.of:=by rw[<-hS6]
     rw[aim,ah7]at hQ;rw[aim]at Vq;rw[ah7]at aaJ;clear hS6 Qx;refine Ap 1 (λ Y K7=>∃t2,Y=⟨t2,164,[],r,14⟩/\Oi au K id vf cY cM mid {S6 with sites:=S6.sites++[((f,b,i),(S6.of.length:Int),x.n)]} c9 c2 m wq tb tf R8 pC t2 K7) ?_ ?_
     .intro Q2 wz;have⟨t,sv,ov,pv,X1,X2,i3,i5,i6,l,cc,hO⟩:=qM;have⟨v0,v1,v2⟩:=uE W8;have A1:∀K,aN E0 41 ov K=val (ae (S6.of.length:Int)) K:=λ K=>hO.of.aZ.aN bK K;simp[-cX,z4,z9,pZ,sQ.get,uM,hO.ob.get,hO.t3,hO.t5,uv.get,bY W8,A1,qR.get,q4];generalize dU:D.add _ _=Ka;have g1:I [] K7 Ka:=by rw[<-dU];exact aw.add _
      have la:∃tn,Lv Ka K7.ab (.cells 5 tn false)/\bc tn 0 5=some [ae (f:Nat),ae (b:Nat),ae (i:Nat),ae ((S6.of.length:Nat):Int),ae x.n]:=by rw[<-dU];exact⟨_,Lv.new,by simp[bc]⟩
      clear dU;have⟨tn,la,lr⟩:=la;have hl6:S6.sites.length<=1048576:=by rw[Vq];exact ain
      have oe:=hO.W g1 ζ;refine Fh NZ alg ω oe.sites la.get aF lr rfl (λ x Z=>by rw[Ps]at Z;omega) (λ x Z=>by rw[Ps]at Z;omega) ?_;intro v' K3 ii p1 p2 p3;have Bj:∀{y:Nat},au y->y∉i3:=λ G B=>(oe.c3 _ B).2.1 G;have GY:=(sQ.ai g1).W p2 (Bj Fb);have Nh:=(wR.ai g1).W p2 (Bj Ff);have l9A:=(uv.ai g1).W p2 (Bj F9);have M_:=(qR.ai g1).W p2 (Bj DM);have Nj:=oe.ob.W p2 (xL oe.c0.1 oe.c3 ω);have Gp:=oe.aEL (V:=S6.sites++[((f,b,i),(S6.of.length:Int),x.n)]) p2 (by simpa using p1) p3;have gp:I [id] K3 (K3.put id (some (.cells 7 (t.put 3 (some v')) false))):=aw.put (.inr ζ);have nM:∀{y:Nat},au y->y∉[id]:=λ G B=>by simp at B;subst B;exact hO.c0.2 G
      simp[-cX];refine dF ?_ ?_
      .simp[dA,dm,val,z4,GY.get,uM];done
      simp[-cX,Nj.get,p1.cell,p1.co];have ga:=((g1.mono ζ).trans p2);refine wz _ _ ⟨_,rfl,Gp,tY.trans ((tD.of hO.cF ga λ y G=>.inr λ h=>Bj h G).trans (.of (λ y G=>aT (hO.cF y G) ga.ab) gp λ y G=>.inr λ h=>nM h G)),by simp[z4],by simp[z5],by simp[z9],by simp[pZ],GY.W gp (nM Fb),Nh.W gp (nM Ff),l9A.W gp (nM F9),M_.W gp (nM DM)⟩
     .clear qM z4 z5 z9 pZ sQ wR uv qR tY;rintro _ K7 ⟨s',rfl,qM,tY,z4,z5,z9,pZ,sQ,wR,uv,qR⟩;simp only[List.drop,NN];have⟨C',avG⟩:=Z bP;obtain⟨n,hn⟩:∃n:Nat,x.n=(n:Int):=⟨x.n.toNat,ω⟩;have hS7:({S6 with sites:=S6.sites++[((f,b,i),(S6.of.length:Int),x.n)]}:SM).sites.length=S6.sites.length+1:=ζ
      have ah8:({S6 with sites:=S6.sites++[((f,b,i),(S6.of.length:Int),x.n)]}:SM).of=S.of:=aaJ;have aHU:S6.sites.length<=1048576:=by rw[Vq];exact ain
      generalize({S6 with sites:=S6.sites++[((f,b,i),(S6.of.length:Int),x.n)]}:SM)=S7 at qM hQ hS7 ah8;simp[pZ,qR.get,q4];rw[hn]at hQ avG⊢;rw[show((n:Nat):Int).toNat=n from rfl]at hQ;refine CA (λ j sl T=>Oi au K id vf cY cM mid (S7.eA j) c9 c2 m wq tb tf R8 pC sl T/\j<=n/\AV sl 143 (ae (n:Nat))/\AV sl 144 (ae (j:Nat))) n ⟨⟨by simpa[SM.eA]using qM,tY,by simp[z4],by simp[z5],by simp[z9],by simp[pZ],sQ,wR,uv,qR⟩,dQ _,ζ⟩ ?_
      clear qM z4 z5 z9 pZ sQ wR uv qR tY;rintro b1 k1-cq j sl K8 ⟨⟨qM,tY,z4,z5,z9,pZ,sQ,wR,uv,qR⟩,hj,aeq,aer⟩ ih;by_cases bB:j<n
      .have⟨t,sv,ov,pv,X1,X2,i3,i5,i6,l,cc,hO⟩:=qM;have hss:(S7.eA j).sites=S7.sites:=rfl;have hoo:(S7.eA j).of.length=S.of.length+j:=by simp[SM.eA,ah8]
       have oo:∀K,aN E0 102 sv K=val (ae (S7.sites.length:Int)) K:=by
        intro K;have h4:=hO.sites;rw[hss]at h4;generalize gR:List.flatMap Ae S7.sites=M at h4;have hz:=Ps (L:=S7.sites);rw[gR]at hz;cases h4 with
        |nil=>
         have:S7.sites.length=0:=by simp only[wg]at hz;omega
         rw[Ba NZ,this]
        |own q1 q2 q3 q4 q5 q6=>
         rw[de NZ]
         congr 3;omega
       have hwr:IntKind.wrap .i64 ((S7.sites.length:Int)-1)=(S7.sites.length:Int)-1:=fQ ω ω;simp[-cX,z4,aeq,aer,bB,sQ.get,uM,hO.ob.get,hO.t3,hO.t5,oo,hwr];generalize dU:D.add _ _=Ka;have g1:I [] K8 Ka:=by rw[<-dU];exact aw.add _
       have la:∃tn,Lv Ka K8.ab (.cells 1 tn false)/\bc tn 0 1=some [ae ((S7.sites.length:Int)-1)]:=by rw[<-dU];exact⟨_,Lv.new,by simp[bc]⟩
       clear dU;have⟨tn,la,lr⟩:=la;have oe:=hO.W g1 ζ;have hio:(aZ (S7.eA j).of).length<=1048576:=by rw[bW,hoo];omega
       refine Fh bK qF ω oe.of la.get aF lr rfl (λ x Z=>ω) (λ x Z=>ω) ?_;intro v' K3 ii p1 p2 p3;have Bj:∀{y:Nat},au y->y∉i5:=λ G B=>(oe.c5 _ B).2.1 G;have GY:=(sQ.ai g1).W p2 (Bj Fb);have Nh:=(wR.ai g1).W p2 (Bj Ff);have l9A:=(uv.ai g1).W p2 (Bj F9);have M_:=(qR.ai g1).W p2 (Bj DM);have Nj:=oe.ob.W p2 (xL oe.c0.1 oe.c5 ω);have Gp:=oe.of' (V:=(S7.eA j).of++[(S7.sites.length:Int)-1]) p2 (by simpa using p1) p3;have gp:I [id] K3 (K3.put id (some (.cells 7 (t.put 5 (some v')) false))):=aw.put (.inr ζ);have nM:∀{y:Nat},au y->y∉[id]:=λ G B=>by simp at B;subst B;exact hO.c0.2 G
       simp[-cX];refine dF ?_ ?_
       .simp[dA,dm,val,z4,GY.get,uM]
       simp[-cX,aer,Nj.get,p1.cell,p1.co,bq (show j<maxLen by unfold maxLen;omega)];have ga:=((g1.mono ζ).trans p2);refine ih ω ⟨⟨?_,tY.trans ((tD.of hO.cF ga λ y G=>.inr λ h=>Bj h G).trans (.of (λ y G=>aT (hO.cF y G) ga.ab) gp λ y G=>.inr λ h=>nM h G)),by simp[z4],by simp[z5],by simp[z9],by simp[pZ],GY.W gp (nM Fb),Nh.W gp (nM Ff),l9A.W gp (nM F9),M_.W gp (nM DM)⟩,bB,by simp[aeq]⟩;have e:({S7.eA j with of:=(S7.eA j).of++[(S7.sites.length:Int)-1]}:SM)=S7.eA (j+1):=by simp[SM.eA,List.replicate_succ']
       rw[<-e];exact Gp
      .obtain rfl:j=n:=ω
       subst cq;simp[aeq,aer];exact hQ _ _ ⟨qM,tY⟩
  .rw[ao bP]at hQ;have O:¬x.op=1:=λ h=>bP (.inl h);have U:¬x.op=2:=λ h=>bP (.inr h);simp[pZ,qR.get,q0,O,U];exact hQ _ _ ⟨qM,tY⟩
end
def pF(p:List aQ):Prop:=∀k,1<=k->k<=16->¬FF p k
def aFg(S:SM)(f b i:Nat)(x:bp):(S.iC f b i x).p=S.p:=by unfold SM.iC;dsimp only;split<;>split<;>rfl
theorem abc(S:SM)(f b:Nat)(code:List bp):∀i,(S.ins f b code i).p=S.p
 |0=>rfl|i+1=>by simp only[SM.ins];split;rw[aFg];exact abc S f b code i;exact abc S f b code i
theorem Zl(S:SM)(f:Nat)(bs:List cU):∀i,(S.bF f bs i).p=S.p
 |0=>rfl|i+1=>by simp only[SM.bF];split;rw[abc];exact Zl S f bs i;exact Zl S f bs i
theorem ajM(S:SM)(f:Nat)(ps:List aI):∀i,(S.par f ps i).p=S.p
 |0=>rfl|i+1=>by simp only[SM.par];split<;>exact ajM S f ps i
theorem Xk(p:List aQ):∀i,(SM.run p i).p=p
 |0=>rfl|i+1=>by simp only[SM.run];split;(unfold SM.CQ;rw[Zl,ajM];exact Xk p i);exact Xk p i
def Og(au:Nat->Prop)(K:D)(id:Nat)(S:SM):Prop:=∃vf cY cM mid,ly au K id vf cY cM mid S/\∀n,(∀y,y<n->au y)->∀T,I (List.range n) K T->oO T vf S.p
def amo(p:List aQ)(H:D)(v:J)(K:D):Prop:=(v=.dh [.lit (.pointer none),ae 5]\/(pF p/\∃id,v=.dh [.ptr id 0,ae 0]/\Og (λ y=>y<H.ab) K id (bj p)))/\I [] H K
def uP(S:SM):Prop:=S.vars.length<=1048576/\S.names.length<=1048576/\S.sites.length<=1048576/\S.of.length<=524288/\S.a_.length<=1048576
def uP.le{S ay:SM}(h:uP ay)(g:S.le ay):uP S:=⟨aY g.1 h.1,aY g.2.1 h.2.1,aY g.2.2.1 h.2.2.1,aY g.2.2.2.1 h.2.2.2.1,aY g.2.2.2.2 h.2.2.2.2⟩
def ke(h:I [] H K)(g:I X K T)(Z:∀y∈X,H.ab<=y):I [] H T:=⟨aY h.ab g.ab,λ j hj _=>(g.get j (aT hj h.ab) λ B=>by have:=Z j B;omega).trans (h.get j hj ζ)⟩
def aW.inv{R:α->AU->Prop}(h:aW H es R fv L)(hv:fv=.sl b c2 dH n c3 ex):L.length<=c3/\c3<=maxLen/\∃n' t ro,Lv H b (.cells n' t ro)/\c2+L.length*es<=n'/\∀i (h:i<L.length),∃M,bc t (c2+i*es) es=some M/\R L[i] M:=by cases h with|nil=>cases hv|eF=>cases hv|sl q1 q2 q3 q4 q5=>cases hv;exact⟨q4,q5,_,_,_,q1,q2,q3⟩
def ajr{k:Nat->R β}:sS (.lit (.int .i64 ((n:Int)+1))) k=k (n+1):=by
 have e:((n:Int)+1)=((n+1:Nat):Int):=ω
 rw[e];rfl
abbrev Hp(r f b i:Int):aC:=.agg {toList:=[.int .u8 r,.int .i64 f,.int .i64 b,.int .i64 i]}
def aeA(r f b i:Int):KP (.agg [.i .u8,.i .i64,.i .i64,.i .i64]) (Hp r f b i):=⟨_,rfl,ζ⟩
def aGS:c8 (Hp 0 0 0 0) (Hp 0 0 0 0)=true:=(pI (aeA _ _ _ _)).2 rfl
def aGT{b i:Int}(h:¬dH=0):c8 (Hp dH k b i) (Hp 0 0 0 0)=false:=by
 cases e:c8 (Hp dH k b i) (Hp 0 0 0 0)with
 |false=>rfl
 |true=>
  have:=(pI (aeA _ _ _ _)).1 e
  simp only[Hp,Value.agg.injEq,Ym,KA,Value.int.injEq]at this
  omega
def amd{k:List fg}(aJ:α->CX->AT->D->Prop)(mu:α->Nat)(step:∀(b:Code) (kk:List fg),b=bd->kk=k->∀x s m H,aJ x s m H->(∀y s' m' H',mu y<mu x->aJ y s' m' H'->aD E (.code (.loop b)::kk) ⟨s',n,m',r,f⟩ H' aj)->aD E (.code bd::.code (.loop b)::kk) ⟨s,n,m,r,f⟩ H aj):∀x s m H,aJ x s m H->aD E (.code (.loop bd)::k) ⟨s,n,m,r,f⟩ H aj:=by
 intro x
 generalize hN:mu x=N
 induction N using Nat.strongRecOn generalizing x with
 |ind N ih=>
  intro s m H h
  refine aeE ?_
  exact step bd k rfl rfl x s m H h λ y s' m' H' G hI=>ih (mu y) ω y rfl s' m' H' hI
def xk(m:AT)(K:D):Prop:=∀d∈m,Lv K d .deferred
theorem xk.W{m cL:AT}{K T:D}(h:xk m K)(g:I cL K T)(hz:∀d∈m,d∉cL):xk m T:=λ d hd=>(h d hd).W g (hz d hd)
def xk.ai(h:xk aH K)(g:I [] K T):xk aH T:=h.W g ζ
theorem agB:∀{m:AT} {K:D},xk m K->m.Nodup->∃T,(∀{β:Type} (k:D->R β),xQ m K k=k T)/\I m K T
 |[],K,_,_=>⟨K,λ _=>rfl,aw⟩
 |d::m,K,h,hn=>by
  rw[OA]at hn
  have hd:=h d ζ
  have g:I [d] K (K.put d none):=aw.put (.inr ζ)
  have⟨T,e,g'⟩:=agB (m:=m) (K:=K.put d none) (λ x Z=>(h x (by simp[Z])).W g (by simp;rintro rfl;exact hn.1 Z)) hn.2
  refine⟨T,λ {β} k=>?_,(g.mono ζ).trans (g'.mono (by intro x Z;simp[Z]))⟩
  have e1:xQ (d::m) K k=ie K d λ o=>match o with|.deferred=>me K d none λ H=>xQ m H k|_=>.er [185]:=rfl
  rw[e1,qS,hd.get]
  dsimp only
  rw[Bz,e]
def XG{p:List aQ}(h:pF p)(ha:At p dH b i x)(bP:x.op=1\/x.op=2):1<=x.n/\x.n<=64:=by
 have b9:¬jF p λ _ _ _ x=>vQ x:=h 9 ω ω;have:vQ x=false:=by cases e:vQ x with|false=>rfl|true=>exact absurd ⟨dH,b,i,x,ha,e⟩ b9
 unfold vQ at this;rcases bP with e|e<;>(rw[e]at this;simp[uJ,bk,e]at this;omega)
section
variable{H:D}{vf:J}{p:List aQ}
def azc(hp:oO H vf p)(hA:HH p)(hL:SC p)(ahH:pF p->uP (bj p)):CN 14 [.agg [vf]] H (amo p H):=by
 refine ba aqT rfl λ Q' hQ=>?_;simp[hp.cell];generalize aP:D.add _ _=H1;have a1:Lv H1 H.ab (.cells 1 (Tr.e.put 0 (some vf)) false):=by rw[<-aP];exact Lv.new
 have g1:I [] H H1:=by rw[<-aP];exact aw.add _
 have n1:H1.ab=H.ab+1:=by rw[<-aP];rfl
 clear aP;have r1:bc (Tr.e.put 0 (some vf)) 0 1=some [vf]:=by simp[bc]
 refine CW (aET (hp.zB g1) hA hL) ?_;rintro _ K1 ⟨r,f,b,i,rfl,hr,fY⟩;have Kt:=a1.ai fY;by_cases Jf:r=0
 .obtain⟨⟨rfl,rfl,rfl⟩,ML⟩:=hr Jf;subst Jf;have fk:∀fn∈p,sf fn/\Sz fn:=λ fn iw=>by have⟨i,A⟩:=sq iw;exact Z7 ML hA hL A
  have bR:¬(p=[]\/64<p.length):=ML 1 ω ω;have cR:p≠[]:=λ h=>bR (.inl h);have Um:p.length<=64:=by rcases kb 64 p.length with h|h;exact absurd (.inr h) bR;exact h
  simp[Kt.get,bY r1,aGS];refine CW (aCk (hp.zB (g1.trans fY)) (λ fn h=>(fk fn h).1) Um cR) ?_;rintro _ K2 ⟨vp,rfl,cr,iu⟩;simp;refine CW ay8 ?_;rintro _ K3 ⟨cY,X1,rfl,kF,hX1,gK3⟩;simp;refine CW azb ?_;rintro _ K4 ⟨cM,X2,rfl,eX,hX2,pJ⟩;have aix:oO K4 vp p:=cr _ ((gK3.trans pJ).mono ζ);simp[aix.cell];generalize iS:D.put _ _ _=H5;have hg4:=pJ.ab;have hg3:=gK3.ab;have aHA:∀y∈X1,y<K4.ab:=λ y G=>aT (kF.lt y G) pJ.ab;have g5:I [] K4 H5:=by rw[<-iS];exact(((aw.add _).add _).add _).put (.inl ω)
  have b5:∃tb,Lv H5 (K4.ab+2) (.cells 1 tb false)/\tb.get 0=some (.ptr (K4.ab+1) 0):=by rw[<-iS];exact⟨_,(Lv.new (H:=(K4.add _).add _)).put_eq,ζ⟩
  have m5:Lv H5 K4.ab (.map 48 0 []):=by rw[<-iS];exact Lv.new.add.add.eu ω
  have o5:∃t,Lv H5 (K4.ab+1) (.cells 7 t false)/\AV t 0 vp/\AV t 1 (.ptr cY 0)/\AV t 2 (.ptr cM 0)/\AV t 3 (.lit (.slice none 0 0))/\AV t 4 (.map K4.ab)/\AV t 5 (.lit (.slice none 0 0))/\AV t 6 (.lit (.slice none 0 0)):=by rw[<-iS];exact⟨_,(Lv.new (H:=K4.add _)).add.eu (by simp[D.add]),ζ⟩
  have n5:H5.ab=K4.ab+3:=by rw[<-iS];rfl
  clear iS;have⟨tb,b5,uM⟩:=b5;have fH:ly (λ y=>y<K2.ab\/y=K4.ab+2) H5 (K4.ab+1) vp cY cM K4.ab (SM.run p 0):=by
   have⟨t,o1,w0,w1,w2,w3,w4,w5,w6⟩:=o5;refine⟨t,.lit (.slice none 0 0),.lit (.slice none 0 0),.lit (.slice none 0 0),X1,X2,[],[],[],[],λ y=>if y=K4.ab+1 then 0 else if y=K4.ab then 4 else if y<K3.ab then 1 else 2,?_⟩;have d1:∀y∈X1,(if y=K4.ab+1 then 0 else if y=K4.ab then 4 else if y<K3.ab then 1 else 2)=1/\¬(y<K2.ab\/y=K4.ab+2)/\y<H5.ab:=λ y G=>by have q1:=hX1 y G;have q2:=kF.lt y G;refine⟨?_,ω,ω⟩;rw[ao ω,ao ω,aq q2]
   have d2:∀y∈X2,(if y=K4.ab+1 then 0 else if y=K4.ab then 4 else if y<K3.ab then 1 else 2)=2/\¬(y<K2.ab\/y=K4.ab+2)/\y<H5.ab:=λ y G=>by have q1:=hX2 y G;have q2:=eX.lt y G;refine⟨?_,ω,ω⟩;rw[ao ω,ao ω,ao ω]
   have wE:∀{k:Nat},∀y∈([]:AT),(if y=K4.ab+1 then 0 else if y=K4.ab then 4 else if y<K3.ab then 1 else 2)=k/\¬(y<K2.ab\/y=K4.ab+2)/\y<H5.ab:=λ y G=>by cases G
   have sK:∀q,cH (qU q) []=((SM.run p 0).idx q).map λ k=>ae ((k:Nat):Int):=λ q=>rfl;have hcF:∀y,(y<K2.ab\/y=K4.ab+2)->y<H5.ab:=λ y G=>ω
   exact{ob:=o1,t0:=w0,t1:=w1,t2:=w2,t3:=w3,t4:=w4,t5:=w5,t6:=w6,vars:=(kF.W pJ ζ).W g5 ζ,names:=eX.W g5 ζ,sites:=.nil,idx:=⟨⟨0,m5⟩,by simp[bQ],by simp[bQ]⟩,qB:=sK,of:=.nil,a_:=.nil,c0:=⟨ζ,ω⟩,c1:=d1,c2:=d2,c3:=wE,c4:=⟨ζ,ω⟩,c5:=wE,c6:=wE,cF:=hcF}
  have ag5:I [] K2 H5:=(gK3.trans pJ).trans g5;have dV:∀K,I [] K2 K->oO K vp p:=λ K g=>cr K (g.mono ζ);generalize bD:K4.ab+1=id at fH uM;generalize L7:K4.ab+2=bx at fH b5;generalize K4.ab=mid at fH;have aak:K2.ab<=bx:=ω
  rw[aix.aN nf];simp;refine amd (α:=Nat) (aJ:=λ f sl m K=>ly (λ y=>y<K2.ab\/y=bx\/y∈m) K id vp cY cM mid (SM.run p f)/\I [] K2 K/\Lv K bx (.cells 1 tb false)/\AV sl 4 (.ptr bx 0)/\AV sl 27 (ae p.length)/\AV sl 28 (ae f)/\f<=p.length/\xk m K/\m.Nodup/\bx∉m/\∀d∈m,K2.ab<=d) (mu:=λ f=>p.length-f) ?_ 0 _ _ _ ?ini;case ini=>exact⟨by simpa using fH,ag5,b5,ξ,ζ,ζ,dQ _,by intro d hd;simp at hd,ζ,ζ,ζ⟩
  clear fH ag5 b5;rintro b1 k1-cq f sl m K ⟨hN,gK,lb,s4,mG,lZ,kH,mk,mnd,mbx,mge⟩ ih;by_cases az:f<p.length
  .have hpK:=dV K2 aw;have⟨kQ,ig,kD,iR,zZ,t1,py,kE,dc,cT,iy,eZ,eI⟩:=hpK.at_ az;obtain⟨vpp,vbb,rfl,eY,bR⟩:=eI;have⟨e0,e1,e2⟩:=uE eZ;have⟨t,sv,ov,pv,X1,X2,i3,i5,i6,l,c,hO⟩:=hN;have q1:¬bx=K.ab:=bC lb.lt;have q2:¬id=K.ab:=bC hO.ob.lt;have q3:¬kQ=K.ab:=bC (cT.ai gK).lt;have r0:ig+f*3<zZ:=ω
   have r1':ig+f*3+1<zZ:=ω
   simp[s4,mG,lZ,az,lb.get,uM,hO.ob.get,hO.t0,hO.t2,q1,q2,q3,dc,(cT.ai gK).get,e0,r0];generalize Ee:D.put _ _ _=Hb;have gb:I [] K Hb:=by rw[<-Ee];exact I.new aw _ _
   have lf:∃tf,Lv Hb K.ab (.cells 1 tf false)/\tf.get 0=some (ae f):=by rw[<-Ee];exact⟨_,(Lv.new (H:=K)).put_eq,ζ⟩
   have nb:Hb.ab=K.ab+1:=by rw[<-Ee];rfl
   clear Ee;have⟨tf,lf,J8⟩:=lf;have Uv:=ly.for (n:=K.ab+1) ⟨t,sv,ov,pv,X1,X2,i3,i5,i6,l,c,hO⟩ gb ω;clear hO;have lbb:=lb.ai gb;have mkb:=mk.ai gb;have aHC:=lb.lt;have dO:=gK.ab;have⟨t,sv,ov,pv,X1,X2,i3,i5,i6,l,c,hO⟩:=Uv;have hfS:uP (SM.run p (f+1)):=(ahH ML).le (SM.le.run p ω);have eS:SM.run p (f+1)=(SM.run p f).CQ f p[f]:=by simp[SM.run,az]
   have IW:(SM.run p f).names.length<=1048576:=((ahH ML).le (SM.le.run p ω)).2.1;refine CW (awA p[f].name hO.names IW) ?_;rintro _ K6 ⟨SJ,_,rfl,_,hT,g6,hs⟩;have Uw:=hO.ayV g6 hT hs;have nF:∀{y:Nat},(y<K2.ab\/y=bx\/y∈m)\/(K.ab<=y/\y<K.ab+1)->y∉X2:=λ G B=>(hO.c2 _ B).2.1 G;have lb6:=lbb.W g6 (nF (.inl (.inr (.inl rfl))));have lf6:=lf.W g6 (nF (.inr ω));have mk6:=mkb.W g6 λ d hd=>nF (.inl (.inr (.inr hd)));have II:I [] K2 K6:=ke (gK.trans gb) g6 λ y G=>by have:=(hO.c2 y G).2.1;omega
   clear hO hT hs g6 nF lbb lf mkb;have⟨t,sv,ov,pv,X1,X2,i3,i5,i6,l,c,hO⟩:=Uw;have r3:ig+f*3+2<zZ:=ω
   simp[s4,lb6.get,uM,hO.ob.get,hO.t0,lf6.get,J8,dc,(cT.ai II).get,e1,r1',az,eY.aN fw];have aHT:K2.ab<=K.ab:=dO;generalize IX:({SM.run p f with names:=lE (SM.run p f).names p[f].name}:SM)=S1 at hO;have UB:(S1.par f p[f].params p[f].params.length).bF f p[f].blocks p[f].blocks.length=SM.run p (f+1):=by rw[<-IX,eS];rfl
   refine bu (α:=Nat) (aJ:=λ j sl T=>ly (λ y=>(y<K2.ab\/y=bx\/y∈m)\/(K.ab<=y/\y<K.ab+1)) T id vp cY cM mid (S1.par f p[f].params j)/\I [] K2 T/\Lv T bx (.cells 1 tb false)/\Lv T K.ab (.cells 1 tf false)/\K6.ab<=T.ab/\AV sl 4 (.ptr bx 0)/\AV sl 5 (.ptr K.ab 0)/\AV sl 27 (ae p.length)/\AV sl 28 (ae f)/\AV sl 53 vpp/\AV sl 54 (ae p[f].params.length)/\AV sl 55 (ae j)/\j<=p[f].params.length/\xk m T) (mu:=λ j=>p[f].params.length-j) ?_ 0 _ _ ?ini2;case ini2=>exact⟨⟨t,sv,ov,pv,X1,X2,i3,i5,i6,l,c,hO⟩,II,lb6,lf6,aF,by simp[s4],ζ,by simp[mG],by simp[lZ],ζ,ζ,ζ,dQ _,mk6⟩
   clear hO lb6 lf6 s4 mG lZ;rintro b2 k2-au8 j sl K7 ⟨hN,Lu,Nd,Q7,h67,s4,s5,mG,lZ,sZ,qE,r_,Ey,mk7⟩ eJ;have⟨t,sv,ov,pv,X1,X2,i3,i5,i6,l,c,hO⟩:=hN;by_cases bB:j<p[f].params.length
   .have hp7:aW K7 1 xm vpp p[f].params:=eY.fZ Lu;have⟨uj,uB,tQ,exp,np,tp,uG,cp,aaZ,fG,Gz,hgp,jL⟩:=hp7.gL bB;obtain⟨rfl,hzp⟩:cp=str p[f].params[j]/\_:=⟨by have:=jL.1;simpa using this,jL.2⟩;simp[s4,s5,sZ,qE,r_,bB,aaZ,fG.get,Gz,hgp,Nd.get,uM,hO.ob.get,hO.t1,Q7.get,J8];have hV:(S1.par f p[f].params j).vars.length<=1048576:=by have:=((SM.le.par S1 f p[f].params (tL bB)).trans (SM.le.bF _ f p[f].blocks (dQ p[f].blocks.length)));rw[UB]at this;exact(hfS.le this).1
    refine CW (aiC ((f:Int),p[f].params[j]) hO.vars hV) ?_;rintro _ K8 ⟨Oq,_,rfl,_,hT,g8,hs⟩;have hN8:=hO.vars' g8 hT hs;have nF:∀{y:Nat},(y<K2.ab\/y=bx\/y∈m)\/(K.ab<=y/\y<K.ab+1)->y∉X1:=λ G B=>(hO.c1 _ B).2.1 G;have lb8:=Nd.W g8 (nF (.inl (.inr (.inl rfl))));have lf8:=Q7.W g8 (nF (.inr ω));have mk8:=mk7.W g8 λ d hd=>nF (.inl (.inr (.inr hd)));have gK8:I [] K2 K8:=ke Lu g8 λ y G=>by have:=(hO.c1 y G).2.1;omega
    simp[r_,bq (aT bB hp7.cP)];refine eJ (j+1) _ _ (YT bB (sx j)) ⟨?_,gK8,lb8,lf8,aY h67 g8.ab,by simp[s4],by simp[s5],by simp[mG],by simp[lZ],by simp[sZ],by simp[qE],ζ,bB,mk8⟩;simpa[SM.par,bB]using hN8
   .obtain rfl:j=p[f].params.length:=ω
    subst au8;have aht:p.length<=kD/\kD<=maxLen/\ig+p.length*3<=zZ:=by have⟨q4,q5,n',t',sY,q1,q2,q3⟩:=aW.inv hpK dc;have:=q1.get.symm.trans cT.get;simp at this;exact⟨q4,q5,ω⟩
    obtain⟨d,hd⟩:∃d,kD-f=d+1:=⟨kD-f-1,ω⟩;have ui:IntKind.wrap .i64 ((f:Int)+1)=((f+1:Nat):Int):=by rw[bq ω];omega
    have zG:f+1<=kD:=ω
    have hff:f+1-f=1:=ω
    simp[s4,s5,qE,r_,Nd.get,uM,hO.ob.get,hO.t0,Q7.get,J8,dc,ui,ajr,zG,hd,hff];rw[cE (akp _ rfl _)];simp;refine HA (gv:=.fn (.func 132) [] [.ptr (K7.ab+1) 0]) ζ ?_;refine⟨_,_,_,Im,?_⟩;simp;generalize qL:LR.mk _ _ _ _ _ _ _=L;generalize lH:D.add _ (LR.ob L _ _)=Hr;have PR:I [] K7 Hr:=by rw[<-lH];exact(((I.new aw _ _).add _).add _).add _
    have nr:Hr.ab=K7.ab+4:=by rw[<-lH];rfl
    have i1:∃t,Lv Hr (K7.ab+1) (.cells 1 t false)/\AV t 0 (.sl kQ (ig+f*3) 3 1 (d+1) iR):=by rw[<-lH];exact⟨_,⟨by first|(simp[D.add];done)|(simp[D.add];omega),by first|(simp[D.jK];done)|(simp[D.jK];rfl)⟩,ζ⟩
    have i2:Lv Hr (K7.ab+2) .deferred:=by rw[<-lH];exact⟨by first|(simp[D.add];done)|(simp[D.add];omega),by first|(simp[D.jK];done)|(simp[D.jK];rfl)⟩
    have i3r:Lv Hr (K7.ab+3) (LR.ob L .ready none):=by rw[<-lH];exact Lv.new
    clear lH;have eL:L.ps=[80,81]/\L.size=164/\L.fn=14/\L.tmps.get 4=some (.ptr bx 0)/\L.tmps.get 5=some (.ptr K.ab 0):=by rw[<-qL];exact⟨rfl,rfl,rfl,by simp[s4],by simp[s5]⟩
    have⟨tc,i1,tc0⟩:=i1;have LL:=ly.for (n:=K7.ab+4) ⟨t,sv,ov,pv,X1,X2,i3,i5,i6,l,c,hO⟩ PR ω;clear hO;have lbr:=Nd.ai PR;have mkr:=mk7.ai PR;have lfr:=Q7.ai PR;have gKr:=Lu.trans PR;generalize hS2:S1.par f p[f].params p[f].params.length=S2 at LL UB;generalize P1:(λ y=>((y<K2.ab\/y=bx\/y∈m)\/K.ab<=y/\y<K.ab+1)\/K7.ab<=y/\y<K7.ab+4)=F2 at LL;have ZV:F2 bx:=by rw[<-P1];exact .inl (.inl (.inr (.inl rfl)))
    have fmk:∀d∈m,F2 d:=λ d hd=>by rw[<-P1];exact .inl (.inl (.inr (.inr hd)))
    have m7:∀d∈m,d<K7.ab:=λ d hd=>(mk7 d hd).lt;have fbf:F2 K.ab:=by rw[<-P1];exact .inl (.inr ω)
    have f7:∀y,K7.ab<=y->y<K7.ab+4->F2 y:=λ y O U=>by rw[<-P1];exact .inr ⟨O,U⟩
    have f2:∀y,y<K2.ab->F2 y:=λ y O=>by rw[<-P1];exact .inl (.inl (.inl O))
    have hP1:oO K2 (.sl kQ (ig+f*3) 3 1 (d+1) iR) [p[f]]:=by
     refine aW.sl (L:=[p[f]]) cT ξ (λ i A=>?_) ζ ω;obtain rfl:i=0:=by simpa using A
     exact⟨_,by simpa using eZ,vpp,vbb,rfl,eY,bR⟩
    have aHL:=Lu.ab;refine(ako (HB:=K2) (p:=[p[f]]) (dH:=K7.ab+1) (vf:=.sl kQ (ig+f*3) 3 1 (d+1) iR) (λ f' b i T=>ly F2 T id vp cY cM mid (if f'=0 then S2.cur f p[f].blocks b i else S2.bF f p[f].blocks p[f].blocks.length)/\I [] K2 T/\Lv T bx (.cells 1 tb false)/\Lv T K.ab (.cells 1 tf false)/\Lv T (K7.ab+1) (.cells 1 tc false)/\Lv T (K7.ab+2) .deferred/\Lv T (K7.ab+3) (LR.ob L .ready none)/\xk m T) hP1 (λ _ _ _ _ h=>h.2.1) (λ _ _ _ T dP h g=>⟨h.1.W g ζ,h.2.1.trans g,h.2.2.1.ai g,h.2.2.2.1.ai g,h.2.2.2.2.1.ai g,h.2.2.2.2.2.1.ai g,h.2.2.2.2.2.2.1.ai g,h.2.2.2.2.2.2.2.ai g⟩) ⟨by rw[aq rfl,SM.ZD];exact LL,gKr,lbr,lfr,i1,i2,i3r,mkr⟩ (λ _ _ _ T h=>⟨tc,false,h.2.2.2.2.1,tc0⟩) ?_ ?_ ?_).mono ?_
    .rintro f' b i x M T cQ ⟨AM,Uf,Wh,lfj,j1,j2,j3,jm⟩ Z;have⟨fn,bk,kf,lQ,dJ⟩:=cQ;obtain⟨rfl,rfl⟩:f'=0/\fn=p[f]:=by cases f' with|zero=>simp at kf;exact⟨rfl,kf.symm⟩|succ m=>simp at kf
     rw[aq rfl]at AM⊢;obtain⟨va,vl,rfl,kl,mO,QD⟩:=Z;simp;refine Hu (λ Y K1=>∃s t9 pC,Y=⟨s,164,[],some (K7.ab+3),14⟩/\s.get 4=some (.ptr bx 0)/\s.get 5=some (.ptr K.ab 0)/\s.get 9=some (.ptr T.ab 0)/\s.get 10=some (.ptr (T.ab+1) 0)/\I [] T K1/\K1.ab=T.ab+2/\Lv K1 T.ab (.cells 3 t9 false)/\bc t9 0 3=some [ae 0,ae b,ae i]/\Lv K1 (T.ab+1) (.cells 8 pC false)/\bc pC 0 8=some [u8 x.op,str x.dst,str x.a,str x.b,ae x.n,str x.fn,va,vl]) j3.get (by rw[eL.1];rfl) (by rw[eL.1,eL.2.1];simp) ?_ ?_
     .rw[eL.1,eL.2.1,eL.2.2.1];rw[<-iQ LR.aI4 qL];dsimp only;simp[kl.cell,mO.cell,bc,eL.2.2.2.1,eL.2.2.2.2];refine⟨(I.new aw _ _).trans (I.new aw _ _),_,(Lv.new (H:=T)).put_eq.add.eu (bC (sx _)),ζ,_,(Lv.new (H:=(T.add _).put _ _)).put_eq,ζ⟩
     .rintro Y K1 ⟨s,t9,pC,rfl,z4,z5,z9,pZ,Ed,nj1,q9,r9,bo,RD⟩;refine⟨none,L,(j3.ai Ed).get,?_⟩;have eO:=j3.lt;have Uv:=ly.for (n:=T.ab+2) AM Ed ω;have CU:I [K7.ab+3] K1 (K1.put (K7.ab+3) (some (LR.ob L .busy none))):=aw.put (.inr ζ);have aIA:=Nd.lt;have aIC:=Q7.lt;have m9:=q9.W CU ξ;have Bg:=bo.W CU ξ;have mb:=(Wh.ai Ed).W CU ξ;have mf:=(lfj.ai Ed).W CU ξ;have mm:=(jm.ai Ed).W CU (λ d hd=>by have:=m7 d hd;simp;omega);have m1:=(j1.ai Ed).W CU ζ;have m2:=(j2.ai Ed).W CU ζ;have m3:=(j3.ai Ed).put_eq (o':=LR.ob L .busy none);have Uw:=Uv.W CU (by simp;exact .inl (f7 _ ω ω));have Eb:I [] K2 (K1.put (K7.ab+3) (some (LR.ob L .busy none))):=ke (Uf.trans Ed) CU ξ;clear AM Wh lfj j1 j2 j3 q9 bo Uv CU Uf;show aD E0 _ _ (K1.put (K7.ab+3) (some (LR.ob L .busy none))) _;have nKb:(K1.put (K7.ab+3) (some (LR.ob L .busy none))).ab=T.ab+2:=nj1;generalize K1.put (K7.ab+3) (some (LR.ob L .busy none))=Kb at m9 Bg mb mf mm m1 m2 m3 Uw Eb nKb;have Gy:aez Tryz.f14 L.bd:=by rw[<-iQ LR.bd qL];exact⟨_,rfl,rfl⟩
      have aum:At p f b i x:=⟨p[f],bk,bf az,by simpa using lQ,dJ⟩;have jf:i<bk.code.length:=by rw[cW]at dJ;exact dJ.1
      have aU:=SM.ao5 S2 f p[f].blocks lQ (tL jf);rw[UB]at aU;have zG:=hfS.le aU;refine(ay6 (f:=f) (b:=b) (i:=i) (x:=x) (c9:=T.ab) (wq:=T.ab+1) Gy Uw (λ bP=>by have:=XG ML aum bP;omega) zG.1 zG.2.2.1 (by have:=zG.2.2.2.1;omega) zG.2.2.2.2 z4 z5 z9 pZ mb uM mf J8 m9 r9 Bg RD (.inl ZV) (.inl fbf) (.inr ω) (.inr ω) ω ω ω).mono ?_;rintro _ _ K3 ⟨rfl,hN3,AJ⟩;have hf7:∀{y:Nat},K7.ab<=y->y<K7.ab+4->y≠T.ab:=λ _ h=>ω
      have w3:=AJ.lv m3 (.inl (f7 _ ω ω)) ω;refine⟨_,_,L,w3.get,?_⟩;have ge:I [K7.ab+3] K3 (K3.put (K7.ab+3) (some (LR.ob L .ready none))):=aw.put (.inr ζ);have wb:=AJ.lv mb (.inl ZV) ω;have wf:=AJ.lv mf (.inl fbf) ω;have wm:xk m K3:=λ d hd=>AJ.lv (mm d hd) (.inl (fmk d hd)) (by have:=m7 d hd;omega);have w1:=AJ.lv m1 (.inl (f7 _ ω ω)) ω;have w2:=AJ.lv m2 (.inl (f7 _ ω ω)) ω;refine⟨rfl,⟨?_,?_,wb.W ge ξ,wf.W ge ξ,w1.W ge ζ,w2.W ge ζ,w3.put_eq,wm.W ge λ d hd=>by have:=m7 d hd;simp;omega⟩⟩
      .rw[SM.ao7 _ _ _ lQ dJ];exact(hN3.W ge (by simp;exact .inl (f7 _ ω ω))).less λ y G=>.inl G
      .have g3:I [] K2 K3:=⟨aY Eb.ab AJ.ab,λ y G _=>(AJ.get y (.inl (f2 y G)) ω).trans (Eb.get y G ζ)⟩;exact ke g3 ge ξ
    .rintro f' b fn bk T kf lQ ⟨AM,zQ⟩;obtain⟨rfl,rfl⟩:f'=0/\fn=p[f]:=by cases f' with|zero=>simp at kf;exact⟨rfl,kf.symm⟩|succ m=>simp at kf
     refine⟨?_,zQ⟩;rw[aq rfl]at AM⊢;rw[SM.ao6 _ _ _ lQ];exact AM
    .rintro f' fn T kf ⟨AM,zQ⟩;obtain⟨rfl,rfl⟩:f'=0/\fn=p[f]:=by cases f' with|zero=>simp at kf;exact⟨rfl,kf.symm⟩|succ m=>simp at kf
     refine⟨?_,zQ⟩;rw[aq rfl,SM.ZD]at AM;rw[ao ω];exact AM
    .rintro _ T ⟨AM,Uf,Wh,lfj,j1,j2,j3,jm⟩;refine⟨_,_,L,j3.get,ζ,?_⟩;show aD E0 _ _ _ _;have aHB:=Nd.lt;have g9:I [K7.ab+3] T (T.put (K7.ab+3) (some (LR.ob L .exhausted none))):=aw.put (.inr ζ);have Wg:=Wh.W g9 ξ;have Wz:xk ((K7.ab+1+1)::m) (T.put (K7.ab+3) (some (LR.ob L .exhausted none))):=λ d hd=>by
      rw[cZ]at hd;rcases hd with rfl|hd
      .exact j2.W g9 ζ
      .exact(jm d hd).W g9 (by have:=m7 d hd;simp;omega)
     have P3:=AM.W g9 (by simp;exact f7 _ ω ω);have AK:I [] K2 (T.put (K7.ab+3) (some (LR.ob L .exhausted none))):=ke Uf g9 ξ;replace P3:ly F2 (T.put (K7.ab+1+1+1) (some (LR.ob L .exhausted none))) id vp cY cM mid _:=P3;replace Wg:Lv (T.put (K7.ab+1+1+1) (some (LR.ob L .exhausted none))) bx _:=Wg;replace AK:I [] K2 (T.put (K7.ab+1+1+1) (some (LR.ob L .exhausted none))):=AK;replace Wz:xk _ (T.put (K7.ab+1+1+1) (some (LR.ob L .exhausted none))):=Wz;generalize T.put (K7.ab+1+1+1) (some (LR.ob L .exhausted none))=K9 at P3 Wg AK Wz;simp[lZ,bq (show f<maxLen from aT ω aht.2.1)];refine ih (f+1) _ _ _ (YT az (sx f)) ⟨?_,AK,Wg,by simp[s4],by simp[mG],ζ,az,Wz,OA.2 ⟨λ h=>by have:=m7 _ h;omega,mnd⟩,by simp;exact⟨ω,mbx⟩,λ d hd=>?_⟩;rotate_left
     .have:=Lu.ab;rw[cZ]at hd;rcases hd with rfl|hd
      .have:=Lu.ab;omega
      .exact mge _ hd
     rw[ao ζ,UB]at P3;refine P3.less λ y G=>?_;rcases G with h|rfl|h
     .exact f2 y h
     .exact ZV
     .rw[cZ]at h;rcases h with rfl|h
      .exact f7 _ ω ω
      .exact fmk y h
  .obtain rfl:f=p.length:=ω
   subst cq;have⟨KE,hE,gE⟩:=agB mk mnd;simp[s4,mG,lZ,lb.get,uM,hE];have hNE:=hN.W gE λ z hz=>.inr (.inr hz);have gK:=ke gK gE mge;refine hQ ⟨.inr ⟨ML,id,rfl,vp,cY,cM,mid,hNE.less λ y G=>?_,λ n hn T g=>?_⟩,?_⟩
   .have:=g1.ab;have:=fY.ab;have:=iu.ab;omega
   .have ep:(bj p).p=p:=Xk p _;rw[ep];refine cr T ?_;have Mm:n<=H.ab:=by
     rcases kb H.ab n with h|h
     .exact absurd (hn _ h) (Tb _)
     .exact h
    have:=g1.ab;have:=fY.ab;have:=iu.ab;refine(gK.mono ζ).trans (g.mono λ y G=>?_);rw[mj]at G⊢;omega
   .exact((g1.trans fY).trans iu).trans gK
 .simp[aGT Jf];exact hQ ⟨.inl rfl,g1.trans fY⟩
end
end
end Go.Proofs.YtgipmaoplfkdoaaGreatDoor
