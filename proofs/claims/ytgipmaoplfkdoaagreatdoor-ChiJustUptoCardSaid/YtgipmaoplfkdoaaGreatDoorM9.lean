import Derived.Test.YtgipmaoplfkdoaaGreatDoorM7
import Derived.Test.YtgipmaoplfkdoaaGreatDoorM8
set_option linter.all false
set_option maxRecDepth 100000
set_option maxHeartbeats 400000000
namespace Go.Proofs.YtgipmaoplfkdoaaGreatDoor
noncomputable section
open Go.RowKit
variable{H:D}{s:aI}{x:bp}{M z0 z:AU}{dH b i c2 c3 m:Nat}{t t2 t3 tf tb t9 pC:CX}{l:List AE}{fv sv vl:J}{g:List BW}{k:Int}{L:List aI}{aH:AT}{X F':Nat->Prop}{E:aK}{e:aS}{d:TypeDesc}{ex:Bool}{dst:Option Tmp}{Y:aE}{aj:dE->aE->D->Prop}{a:Int×aI}{o:AO}{V:List (Int×aI)}{xv:Option J}{bd:Code}{r:Option Nat}{β:Type}{f:fD}
def ai8(hu:lk (.string s) l=none\/∃h,∃a b:Int,lk (.string s) l=some (h,.agg [ae a,ae b])):∃x y:Int,(match lk (.string s) l with|some p=>val p.snd H|none=>val (.agg [ae 0,ae 0]) H)=val (.agg [ae x,ae y]) H:=by
 rcases hu with hu|⟨h,x,y,hu⟩
 .exact⟨0,0,by rw[hu]⟩
 .exact⟨x,y,by rw[hu]⟩
def DP(v:J):Prop:=∃r,v=bl r
def IsR(v:J):Prop:=∃(b i:Nat) (r:Bool),v=.dh [ae b,ae i,bl r]
section
variable{H HB:D}{id:Nat}{fn:aQ}
def afJ(s:aI)(b:Int)(A:tA HB H id fn)(ok:sf fn):CN 220 [.ptr id 0,str s,ae b] H λ v K=>DP v/\I [] H K:=by
 refine ba ar2 rfl λ N z=>?_;have⟨t,vp,vb,sv,pv,tv,m,ay,O,a0,a1,W,a3,a4,a5,J,U,F,R,Q,G,D,C⟩:=A.ob;have⟨c,l,B,hu⟩:=C.use s;have w:ay.length<=1048576:=by rw[D];have:=ok.nb;omega
 have u:¬id=H.ab:=bC O.lt;have⟨x,y,e⟩:=ai8 (H:=H) hu;have q:=λ o o'=>I.new (I.refl [] H) o o';have fin:∀r o o',N (bl r) ((H.add o).put H.ab (some o')):=λ r o o'=>z ⟨⟨r,rfl⟩,q o o'⟩;simp[O.get,J,B.get];refine Fi e ?_;simp;by_cases h:s=z_
 .simp[h];exact fin _ _ _
 .by_cases Z:x<0
  .simp[h,Z];exact fin _ _ _
  .simp[h,Z,O.get,u,a5];refine CW (aph x b (G.ai (q _ _)) w) ?_;rintro _ K ⟨⟨r,rfl⟩,rfl⟩;simp;exact fin _ _ _
def ang(s:aI)(b i:Int)(u:tA HB H id fn)(ok:sf fn):CN 219 [.ptr id 0,str s,ae b,ae i] H λ v K=>DP v/\I [] H K:=by
 refine ba ar0 rfl λ Q q=>?_;have⟨t,vp,vb,sv,pv,tv,m,ay,O,a0,N,J,a3,a4,a5,z,U,F,G,D,C,A,w⟩:=u.ob;have⟨c,l,B,hu⟩:=w.use s;have⟨x,y,e⟩:=ai8 (H:=H) hu;have h:=λ o o'=>I.new (I.refl [] H) o o';simp[O.get,z,B.get];refine Fi e ?_;simp;by_cases Z:x=b
 .simp[Z];exact q ⟨⟨_,rfl⟩,h _ _⟩
 .simp[Z];refine CW (afJ s b (u.W (h _ _)) ok) ?_;rintro _ K ⟨⟨r,rfl⟩,g⟩;simp;exact q ⟨⟨_,rfl⟩,(h _ _).trans g⟩
def adV(hB:tA HB H id fn)(g0:I [] HB H)(hf:∀(b i:Nat) (hb:b<fn.blocks.length) (A:i<fn.blocks[b].code.length) M K,I [] H K->ku HB fn.blocks[b].code[i] M->CF E0 fv [ae b,ae i,.agg M] K λ v T=>DP v/\I [] K T):CN 205 [.ptr id 0,fv] H λ v K=>IsR v/\I [] H K:=by
 refine ba arN rfl λ Q' Z=>?_
 have⟨t,vp,vb,sv,pv,tv,m,ay,O,a0,a1,a2,a3,a4,a5,a6,U,F,h4,h5,h6,h7,h8⟩:=hB.ob
 simp[O.get,a2,F.aN nh]
 refine CA (λ b sl K=>I [] H K/\AV sl 1 fv/\AV sl 15 vb/\AV sl 16 (ae fn.blocks.length)/\AV sl 17 (ae b)/\b<=fn.blocks.length) fn.blocks.length ⟨aw,ζ⟩ ?_
 rintro b1 k1-cq b sl K ⟨h,s1,y,u,q,hb⟩ ih
 by_cases C:b<fn.blocks.length
 .have⟨kQ,ig,kD,iR,n1,ta,py,kE,dc,cT,iy,eZ,eI⟩:=F.at_ C
  obtain⟨vc,rfl,B⟩:=eI;have W:=cT.ai (g0.trans h);simp[y,u,q,C,dc,W.get,bY eZ,iy,B.cell,B.aN nT];have w:=λ o o'=>I.new (I.refl [] K) o o';refine CA (λ i sl K=>I [] H K/\AV sl 1 fv/\AV sl 7 (ae b)/\AV sl 15 vb/\AV sl 16 (ae fn.blocks.length)/\AV sl 17 (ae b)/\AV sl 23 vc/\AV sl 24 (ae fn.blocks[b].code.length)/\AV sl 25 (ae i)/\i<=fn.blocks[b].code.length) (fn.blocks[b].code.length) ⟨h.trans (w _ _),by simp[s1,y,u,q,dc]⟩ ?_
  clear s1 y u q h W w;rintro b2 k2-dO i sl K ⟨h,s1,G,y,u,q,dx,J,D,A⟩ eJ;by_cases z:i<fn.blocks[b].code.length
  .have⟨lJ,lU,rN,kY,n2,tb,qW,mR,fp,ck,gV,iz,R⟩:=B.at_ z;have kP:=ck.ai (g0.trans h);have w:=λ o o'=>I.new (I.refl [] K) o o';have N:=R;have⟨va,vl,Q,zF,EA,mY⟩:=N;subst Q;simp[s1,G,dx,J,D,z,fp,kP.get,bY iz,gV,zF.cell,EA.cell];refine vM (hf b i C z _ _ (h.trans (w _ _)) R) ?_;rintro _ T ⟨⟨r,rfl⟩,g'⟩;cases r with
   |true=>
    simp[G]
    exact Z ⟨⟨b,i,true,rfl⟩,(h.trans (w _ _)).trans g'⟩
   |false=>
    simp[D,bq (aT z B.cP)]
    exact eJ ω ⟨(h.trans (w _ _)).trans g',by simp[s1,G,y,u,q,dx,J,fp];omega⟩
  .obtain rfl:i=fn.blocks[b].code.length:=ω
   subst dO;simp[J,D,q,bq (aT C F.cP)];exact ih ω ⟨h,by simp[s1,y,u];omega⟩
 .obtain rfl:b=fn.blocks.length:=ω
  subst cq;simp[u,q];exact Z ⟨⟨0,0,false,rfl⟩,h⟩
def Om(HB:D)(f:Nat)(fn:aQ):Prop:=∀(H:D) (id:Nat),tA HB H id fn->I [] HB H->CN f [.ptr id 0] H λ v K=>IsR v/\I [] H K
def apy(Z:ku HB x M)(G:I [] HB H)(B:Lv H dH (.cells 1 t false))(ht:AV t 0 (.ptr id 0))(hB:tA HB H id fn)(ok:sf fn):CN 206 [ae b,ae i,.agg M,.ptr dH 0] H λ v K=>DP v/\I [] H K:=by
 refine ba arO rfl λ Q' D=>?_
 obtain⟨va,vl,rfl,C,w,hr⟩:=Z
 have⟨t',vp,vb,sv,pv,tv,m,ay,O,a0,a1,a2,a3,a4,a5,a6,U,F,h4,h5,h6,h7,h8⟩:=hB.ob
 have W:¬id=H.ab:=bC O.lt
 have R:¬dH=H.ab:=bC B.lt
 have J:0<fn.blocks.length:=za.2 ok.ne
 have⟨kQ,z,kD,iR,n1,Q,py,kE,dc,cT,iy,eZ,eI⟩:=F.at_ J
 obtain⟨vc,rfl,bX⟩:=eI
 have A:=cT.ai G
 have u:¬kQ=H.ab:=bC A.lt
 have⟨q0,q1⟩:=JQ eZ
 have q:Q.get z=some (str fn.blocks[0].label):=by simpa using q0
 have bm:z<n1:=ω
 have y:=λ o=>(I.refl [] H).add o
 by_cases N:x.op=6
 .simp[C.cell,w.cell,N]
  exact D ⟨⟨_,rfl⟩,y _⟩
 .simp[C.cell,w.cell,N,W,R,u,B.get,ht,O.get,a2,dc,J,A.get,q,bm]
  refine CW (ZB _ (w.fZ (G.trans (y _))) λ _ _ h=>h.1) ?_;rintro _ K ⟨rfl,rfl⟩;simp;exact D ⟨⟨_,rfl⟩,y _⟩
def apz(ok:sf fn):Om HB 158 fn:=by
 intro H id v w;refine ba ara rfl λ B y=>?_;simp;generalize u:D.add _ _=H1;have l1:Lv H1 H.ab (.cells 1 (Tr.e.put 0 (some (.ptr id 0))) false):=by rw[<-u];exact Lv.new
 have h:I [] H H1:=by rw[<-u];exact aw.add _
 clear u;refine CW (adV (v.W h) (w.trans h) ?_) ?_
 .intro b i z A M K q Z;simp;exact apy Z ((w.trans h).trans q) (l1.ai q) ζ ((v.W h).W q) ok
 rintro _ K ⟨⟨b,i,r,rfl⟩,g⟩;simp;exact y ⟨⟨b,i,r,rfl⟩,h.trans g⟩
def aGq(ok:sf fn):Om HB 159 fn:=by
 intro H id C g0;refine ba arb rfl λ Q' y=>?_;have⟨t',vp,vb,sv,pv,tv,m,ay,O,a0,a1,a2,a3,a4,a5,a6,U,F,G,Z,W,R,Q⟩:=C.ob;simp[O.get,a3];generalize w:D.add _ _=H1;have l1:Lv H1 H.ab (.cells 1 (Tr.e.put 0 (some (ae 0))) false):=by rw[<-w];exact Lv.new
 have v:I [] H H1:=by rw[<-w];exact aw.add _
 clear w;have ED:=ok.nb;have B:NI 0 H1 (.sl H.ab 0 1 1 1 true) [0]:=NI.own (aH:=[H.ab]) (.kq l1 rfl (λ j N=>by
  obtain rfl:j=0:=ω
  simp) aF (λ h=>by cases h) (by unfold maxLen;omega)) (λ _ _=>dQ _)
 refine CW (aDJ (G.ai v) (by simp[lh];omega) B) ?_;rintro u K ⟨⟨out,hu⟩,g⟩;simp;obtain⟨z,A,J⟩:∃z,idxOf (λ x=>decide (false=x)) (List.map out (List.range (lh fn.blocks).length))=z/\(z=-1\/∃i:Nat,z=(i:Int)):=by
  rcases aa2 (λ x=>decide (false=x)) (List.map out (List.range (lh fn.blocks).length))with⟨e,_⟩|⟨i,_,e,_⟩
  .exact⟨_,e,.inl rfl⟩
  .exact⟨_,e,.inr ⟨i,rfl⟩⟩
 refine CW (awK false hu) ?_;rintro _ K2 ⟨rfl,rfl⟩;rw[A];rcases J with rfl|⟨i,rfl⟩
 .simp;exact y ⟨⟨0,0,false,rfl⟩,v.trans g⟩
 .have q:¬(i:Int)<0:=ω
  simp[q];exact y ⟨⟨i,0,true,rfl⟩,v.trans g⟩
end
section
variable{H HB:D}{id:Nat}{fn:aQ}
def ank(h:b<(h_ g).length)(Q:k∈(h_ g)[b]):∃p:Nat,k=p/\p<g.length:=by
 have q:b<g.length:=by simpa[h_]using h
 have e:(h_ g)[b]=qI (gC g) g.length b:=by simp[h_]
 rw[e,Rc]at Q;have⟨a,O,U,_⟩:=Q;exact⟨a,U,O⟩
def anl(hr:∀l∈g,l.length<=1048576)(u:b<(h_ g).length):(h_ g)[b].length<=g.length*1048576:=by
 have e:(h_ g)[b]=qI (gC g) g.length b:=by simp[h_]
 rw[e];refine Zi λ l h=>?_;obtain⟨a,q,rfl⟩:=jn.1 h;exact aY ajx (hr a q)
def aAB(Z:ku HB x M)(g0:I [] HB H)(hc:Lv H dH (.cells 1 t false))(ht:AV t 0 (.ptr id 0))(hB:tA HB H id fn)(ok:sf fn)(hb:b<fn.blocks.length)(vB:x.eh.length<=1048576):CN 209 [ae b,ae i,.agg M,.ptr dH 0] H λ v K=>DP v/\I [] H K:=by
 refine ba arR rfl λ Q' hQ=>?_
 obtain⟨va,vl,rfl,ha,hl,hr⟩:=Z
 have⟨t',vp,vb,sv,pv,tv,m,ay,O,a0,a1,a2,a3,a4,a5,a6,U,F,h4,h5,h6,h7,h8⟩:=hB.ob
 have qD:¬id=H.ab:=bC O.lt
 have sT:¬dH=H.ab:=bC hc.lt
 have gn:=λ o=>(I.refl [] H).add o
 have Gz:b<(h_ (lh fn.blocks)).length:=by simp[h_,lh,hb]
 have⟨idb,azT,BT,Lm,nb,tb,rob,r,Jp,C,U',QF,kj,_⟩:=h5.row Gz
 have ne3:¬idb=H.ab:=bC C.lt
 have ED:=ok.nb
 have vF:(h_ (lh fn.blocks))[b].length<=67108864:=by
  have:=anl (akT ok) Gz;have e:(lh fn.blocks).length=fn.blocks.length:=by simp[lh]
  omega
 by_cases bP:x.op=6
 .simp[ha.cell,hl.cell,bP,qD,sT,ne3,hc.get,ht,O.get,a4,Jp,Gz,C.get,U',QF,kj.sl.aN bK]
  generalize aP:D.add _ _=H1;have A:I [] H H1:=by rw[<-aP];exact aw.add _
  have l1:∃t,Lv H1 H.ab (.cells 8 t false)/\AV t 7 vl:=by rw[<-aP];exact⟨_,Lv.new,ζ⟩
  clear aP;have⟨t1,l1,w7⟩:=l1;have Vd:=l1.lt;refine bu (α:=Nat×List aI) (aJ:=λ p sl K=>I [] H1 K/\(∃w aH,aX K 1 w (strs p.2) aH/\(∀y∈aH,H1.ab<=y)/\AV sl 8 w)/\p.2.length=p.1/\AV sl 3 (.ptr dH 0)/\AV sl 6 (.ptr H.ab 0)/\AV sl 22 r/\AV sl 23 (ae (h_ (lh fn.blocks))[b].length)/\AV sl 24 (ae p.1)/\p.1<=(h_ (lh fn.blocks))[b].length) (mu:=λ p=>(h_ (lh fn.blocks))[b].length-p.1) ?_ (0,[]) _ _ ?ini;case ini=>exact⟨aw,⟨_,[],.nil,ζ,ζ⟩,rfl,ζ⟩
  rintro b1 k1-cq ⟨j,aA⟩ sl K ⟨z,⟨w,aH,R,kI,s8⟩,UE,s3,s6,fu,dx,iO,hj⟩ ih;dsimp only at R UE iO hj ih;have hBK:=(hB.W A).W z;have Qj:=(hc.ai A).ai z;have h1K:=(O.ai A).ai z;have zU:=l1.ai z;by_cases az:j<(h_ (lh fn.blocks))[b].length
  .have⟨idr,ajE,afZ,exr,nr,tr,ror,nL,yd,Jb,Db,_⟩:=((kj.ai A).ai z).num az;have⟨Q,Mt,mC⟩:=ank Gz (cG az);have Vo:Q<fn.blocks.length:=by simpa[lh]using mC
   rw[Mt]at Db;have⟨kQ,ig,kD,iR,n1,ta,py,kE,dc,cT,iy,eZ,eI⟩:=F.at_ Vo;obtain⟨vc,rfl,bX⟩:=eI;have iJ:=cT.ai ((g0.trans A).trans z);have⟨q0,q1⟩:=JQ eZ;have bm:ig+Q*2<n1:=ω
   simp[-cX,s3,s8,fu,dx,iO,az,nL,yd.get,Jb,Db,Qj.get,ht,h1K.get,a2,dc,Vo,iJ.get,q0,bm];refine vL (c:=str fn.blocks[Q].label) fw DH R rfl ξ ξ ?_;intro v' T wP p1 p2 p3;simp[iO,fQ (show(-9223372036854775808:Int)<=(j:Int)+1 by omega) (show(j:Int)+1<=9223372036854775807 by omega)];refine ih (j+1,aA++[fn.blocks[Q].label]) _ _ (by simp only;omega) ⟨⟨aY z.ab p2.ab,λ q hq _=>(p2.get q (by have:=z.ab;omega) λ B=>by have:=kI _ B;omega).trans (z.get q hq ζ)⟩,⟨v',wP,by simpa using p1,λ y G=>?_,ζ⟩,by simp[UE],by simp[s3,s6,fu,dx,nL];omega⟩;rcases p3 y G with h|h
   .exact kI y h
   .have:=z.ab;omega
  .obtain rfl:j=(h_ (lh fn.blocks))[b].length:=ω
   subst cq;simp[s6,dx,iO,zU.get,w7];refine CW (aoG (hl.fZ ((g0.trans A).trans z)) (λ _ _ h=>h.1) ω) ?_;rintro u K2 ⟨g2,wP,ou,J⟩;simp[s8];refine CW (aeu ahP (R.W g2 ζ) ω) ?_;rintro _ K3 ⟨rfl,ow3,g3⟩;simp;have N:∀x∈wP,x∉aH:=λ x Z B=>by have:=J x Z;have:=R.lt x B;omega
   refine CW (aeu ahP (ou.W g3 N) ω) ?_;rintro _ K4 ⟨rfl,ou4,g4⟩;simp[s8];have ow4:=ow3.W g4 (λ x Z B=>N x B Z);refine CW (ap4 ow4.strs ou4.strs) ?_;rintro _ K5 ⟨⟨r,rfl⟩,rfl⟩;simp;refine hQ ⟨⟨_,rfl⟩,⟨aY (A.trans z).ab (aY g2.ab (aY g3.ab g4.ab)),λ q hq _=>?_⟩⟩;have e1:=(A.trans z).ab;have e0:=A.ab;have e2:=g2.ab;have e3:=g3.ab;rw[g4.get q ω (λ B=>by have:=J q B;omega),g3.get q ω (λ B=>by have:=kI q B;omega),g2.get q ω ζ,(A.trans z).get q hq ζ]
 .simp[ha.cell,hl.cell,bP]
  exact hQ ⟨⟨_,rfl⟩,gn _⟩
def aAC(ok:sf fn):Om HB 160 fn:=by
 intro H id w y;refine ba ard rfl λ B z=>?_;simp;generalize u:D.add _ _=H1;have l1:Lv H1 H.ab (.cells 1 (Tr.e.put 0 (some (.ptr id 0))) false):=by rw[<-u];exact Lv.new
 have h:I [] H H1:=by rw[<-u];exact aw.add _
 clear u;refine CW (adV (w.W h) (y.trans h) ?_) ?_
 .intro b i v A M K q Z;simp;exact aAB Z ((y.trans h).trans q) (l1.ai q) ζ ((w.W h).W q) ok v (ok.small _ (cG v) _ (cG A)).2
 rintro _ K ⟨⟨b,i,r,rfl⟩,g⟩;simp;exact z ⟨⟨b,i,r,rfl⟩,h.trans g⟩
end
def Sz(fn:aQ):Prop:=∀bk∈fn.blocks,∀x∈bk.code,x.op=6->x.args.length<=x.eh.length
section
variable{H HB:D}{id:Nat}{fn:aQ}
def ao1(u:aW H 1 (One λ s=>str s) sv L)(w:∀s∈L,∀K,I [] H K->CF E0 fv [str s] K λ v T=>DP v/\I [] K T):CN 216 [sv,fv] H λ v K=>DP v/\I [] H K:=by
 refine ba ag0 rfl λ C B=>?_
 simp
 refine CW (awF (λ _ K=>I [] H K) (λ _ K=>I [] H K) (λ i K g=>u.fZ g) aw ?_) ?_
 .intro i A c K g y
  cases y;refine(w _ (cG A) K g).mono ?_;rintro _ T ⟨⟨r,rfl⟩,q⟩;exact⟨r,rfl,λ _=>g.trans q,λ _=>g.trans q⟩
 rintro v K h
 have:∃z:Int,v=ae z/\I [] H K:=by
  rcases h with⟨i,_,rfl,g⟩|⟨rfl,g⟩
  .exact⟨_,rfl,g⟩
  .exact⟨_,rfl,g⟩
 obtain⟨z,rfl,g⟩:=this
 simp
 exact B ⟨⟨_,rfl⟩,g⟩
def ay0{bk:cU}(Z:p_ HB bk M)(h:Lv H dH (.cells 1 t false))(q:AV t 0 (str s)):CN 214 [.agg M,.ptr dH 0] H λ v K=>v=bl (decide (bk.label=s))/\I [] H K:=by
 refine ba arW rfl λ z u=>?_
 obtain⟨y,rfl,w⟩:=Z
 simp[w.cell,bC h.lt,h.get,q]
 exact u ⟨rfl,aw.add _⟩
def ay1(y:I [] HB H)(N:tA HB H id fn)(w:Lv H dH (.cells 1 t false))(C:AV t 0 (.ptr id 0)):CN 212 [str s,.ptr dH 0] H λ v K=>(∃z:Int,v=ae z)/\I [] H K:=by
 refine ba arU rfl λ Q' J=>?_
 have⟨t',vp,vb,sv,pv,tv,m,ay,O,a0,a1,Q,a3,a4,a5,a6,U,F,h4,h5,h6,h7,R⟩:=N.ob
 have B:¬id=H.ab:=bC O.lt
 have A:¬dH=H.ab:=bC w.lt
 simp[B,A,w.get,C,O.get,Q]
 generalize u:D.add _ _=H1
 have q:I [] H H1:=by rw[<-u];exact aw.add _
 have l1:Lv H1 H.ab (.cells 1 (Tr.e.put 0 (some (str s))) false):=by rw[<-u];exact Lv.new
 clear u
 refine CW (DN.p VW.1 (p:=λ bk:cU=>decide (bk.label=s)) (F.W (y.trans q) λ _ _ _ h=>h.W (y.trans q)) ?_) ?_
 .intro x Z M K g G
  simp;exact ay0 G (l1.ai g) ζ
 rintro _ K ⟨rfl,g⟩
 simp
 exact J ⟨⟨_,rfl⟩,q.trans g⟩
def ay2{i:Int}(z:tA HB H id fn)(ok:sf fn)(l1:Lv H dH (.cells 1 t false))(u:AV t 0 (.ptr id 0))(l2:Lv H c2 (.cells 1 t2 false))(q:AV t2 0 (ae k))(w:Lv H c3 (.cells 1 t3 false))(h:AV t3 0 (ae i)):CN 218 [str s,.ptr dH 0,.ptr c2 0,.ptr c3 0] H λ v K=>DP v/\I [] H K:=by
 refine ba arZ rfl λ A y=>?_
 simp[l1.get,u,l2.get,q,w.get,h]
 refine CW (ang s k i z ok) ?_
 rintro _ K ⟨⟨r,rfl⟩,g⟩
 simp
 exact y ⟨⟨_,rfl⟩,g⟩
def ay3(Z:ku HB x M)(J:I [] HB H)(hc:Lv H dH (.cells 1 t false))(F:AV t 0 (.ptr id 0))(hf:Lv H c2 (.cells 1 tf false))(I_:tf.get 0=some (.fn (.func 212) [] [.ptr dH 0]))(hB:tA HB H id fn)(ok:sf fn)(I1:x.args.length<=1048576)(hph:x.op=6->x.args.length<=x.eh.length):CN 215 [ae b,ae i,.agg M,.ptr dH 0,.ptr c2 0] H λ v K=>DP v/\I [] H K:=by
 refine ba arX rfl λ Q' hQ=>?_
 have iX:=Z
 obtain⟨va,vl,rfl,A,hl,hr⟩:=Z
 have sT:¬dH=H.ab:=bC hc.lt
 by_cases bP:x.op=6
 .simp[A.cell,hl.cell,bP,A.aN fw]
  generalize y:D.add _ _=H1;have C:I [] H H1:=by rw[<-y];exact((aw.add _).add _).add _
  have U:∃t,Lv H1 (H.ab+2) (.cells 8 t false)/\AV t 7 vl:=by rw[<-y];exact⟨_,Lv.new,ζ⟩
  clear y;have⟨t3,U,w7⟩:=U;refine CA (λ k sl K=>I [] H1 K/\AV sl 3 (.ptr dH 0)/\AV sl 4 (.ptr c2 0)/\AV sl 7 (.ptr (H.ab+2) 0)/\AV sl 19 va/\AV sl 20 (ae x.args.length)/\AV sl 21 (ae k)/\k<=x.args.length) x.args.length ⟨aw,ζ⟩ ?_
  rintro b1 k1-cq k sl K ⟨q,s3,s4,s7,i_,O,jY,Q⟩ ih;have h:=C.trans q;have Qj:=hc.ai h;have hfK:=hf.ai h;have R:=U.ai q;have B:=hB.W h;by_cases N:k<x.args.length
  .have kJ:k<x.eh.length:=aT N (hph bP);have⟨MU,WJ,Tx,TZ,na,ta,Xe,ca,kl,sI,AY,zP,⟨LO,_⟩⟩:=(A.fZ (J.trans h)).gL N;cases LO;have⟨GS,azU,an6,exl,nl,tl,rol,cl,mO,sJ,aaw,aaQ,⟨IV,_⟩⟩:=(hl.fZ (J.trans h)).gL kJ;cases IV;simp[s3,s4,s7,i_,O,jY,N,kl,sI.get,AY,zP,Qj.get,F,hfK.get,I_,R.get,w7,mO,kJ,sJ.get,aaw,aaQ];refine CW (ay1 (J.trans h) B Qj F) ?_;rintro _ K2 ⟨⟨z,rfl⟩,w⟩;simp;refine dF ?_ ?_
   .simp[dm,val,s3,(Qj.ai w).get,F]
   simp;refine CW (afJ _ z (B.W w) ok) ?_;rintro _ K3 ⟨⟨r,rfl⟩,G⟩;cases r with
   |true=>
    simp[jY,bq (aT N A.cP)]
    exact ih ω ⟨(q.trans w).trans G,by simp[s3,s4,s7,i_,O,kl];omega⟩
   |false=>
    simp
    exact hQ ⟨⟨_,rfl⟩,(h.trans w).trans G⟩
  .obtain rfl:k=x.args.length:=ω
   subst cq;simp[O,jY];exact hQ ⟨⟨_,rfl⟩,h⟩
 .simp[A.cell,hl.cell,bP]
  generalize y:D.add _ _=H1;have C:I [] H H1:=by rw[<-y];exact((aw.add _).add _).add _
  have l1:∃t,Lv H1 H.ab (.cells 1 t false)/\AV t 0 (ae b):=by rw[<-y];exact⟨_,Lv.new.add.add,ζ⟩
  have l2:∃t,Lv H1 (H.ab+1) (.cells 1 t false)/\AV t 0 (ae i):=by rw[<-y];exact⟨_,(Lv.new (H:=H.add _)).add,ζ⟩
  clear y;have⟨t1,l1,w1⟩:=l1;have⟨t2,l2,w2⟩:=l2;refine CW (aGs iX (J.trans C) I1) ?_;rintro u K ⟨hu,q⟩;simp;refine CW (ao1 hu ?_) ?_
  .intro s hs K2 w;simp;have gA:=(C.trans q).trans w;exact ay2 (hB.W gA) ok (hc.ai gA) F (l1.ai (q.trans w)) w1 (l2.ai (q.trans w)) w2
  rintro _ K3 ⟨⟨r,rfl⟩,G⟩;simp;exact hQ ⟨⟨_,rfl⟩,(C.trans q).trans G⟩
def azz(ok:sf fn)(v:Sz fn):Om HB 161 fn:=by
 intro H id w y;refine ba are rfl λ J G=>?_;simp;generalize u:D.put _ _ _=H1;have l1:Lv H1 H.ab (.cells 1 (Tr.e.put 0 (some (.ptr id 0))) false):=by rw[<-u];exact Lv.new.add.eu ζ
 have l2:∃t,Lv H1 (H.ab+1) (.cells 1 t false)/\AV t 0 (.fn (.func 212) [] [.ptr H.ab 0]):=by rw[<-u];exact⟨_,(Lv.new (H:=H.add _)).put_eq,ζ⟩
 have h:I [] H H1:=by rw[<-u];exact I.new (aw.add _) _ _
 clear u;have⟨t2,l2,C⟩:=l2;refine CW (adV (w.W h) (y.trans h) ?_) ?_
 .intro b i F A M K q Z;simp;have B:=cG F;have z:=cG A;exact ay3 Z ((y.trans h).trans q) (l1.ai q) ζ (l2.ai q) C ((w.W h).W q) ok (ok.small _ B _ z).1 (v _ B _ z)
 rintro _ K ⟨⟨b,i,r,rfl⟩,g⟩;simp;exact G ⟨⟨b,i,r,rfl⟩,h.trans g⟩
end
variable{fn:aQ}
def SC(p:List aQ):Prop:=∀f b i x,At p f b i x->x.eh.length<=1048576
theorem abu:∀{l:AT} {x:Nat},x∈l->x<=l.sum
 |[],x,h=>by simp at h
 |a::l,x,h=>by
  rw[sr]
  rcases cZ.1 h with rfl|h
  .omega
  .have:=abu h;omega
def Z7{p:List aQ}(h:∀k,1<=k->k<=16->¬FF p k)(R:HH p)(Q:SC p)(v:p[dH]?=some fn):sf fn/\Sz fn:=by
 have b5:¬((∃(dH:Nat) (x:aQ),p[dH]?=some x/\8<x.params.length)\/jF p λ _ _ _ x=>Ab x):=h 5 ω ω;have b6:¬Sl p λ _ x=>Bo x:=h 6 ω ω;have b8:¬4096<ij p:=h 8 ω ω;have b9:¬jF p λ _ _ _ x=>vQ x:=h 9 ω ω;have B:¬(XR p\/jF p (wW p)):=h 10 ω ω;have D:¬jF p λ dH _ _ x=>NH p dH x:=h 12 ω ω;have z:Bo fn=false:=by cases z:Bo fn with|false=>rfl|true=>exact absurd ⟨dH,fn,v,z⟩ b6
 unfold Bo at z;simp only[HQ,Th]at z;have at_:∀{bk:cU} {x:bp},bk∈fn.blocks->x∈bk.code->∃b i,At p dH b i x/\fn.blocks[b]?=some bk/\bk.code[i]?=some x:=by intro bk x O U;have⟨b,y⟩:=sq O;have⟨i,A⟩:=sq U;exact⟨b,i,⟨fn,bk,v,y,A⟩,y,A⟩
 refine⟨⟨z.1,ω,?_,λ bk u=>⟨?_,?_⟩,λ bk u x Z=>?_,λ bk u x Z s I=>?_,λ bk u x Z=>?_⟩,λ bk u x Z G=>?_⟩
 .rcases kb 8 fn.params.length with C|C
  .exact absurd (.inl ⟨dH,fn,v,C⟩) b5
  .exact C
 .rintro J;have⟨b,y⟩:=sq u;exact B (.inl ⟨dH,b,fn,bk,v,y,J⟩)
 .have O:fL fn.blocks<=ij p:=abu (jn.2 ⟨fn,oS v,rfl⟩);have U:bk.code.length<=fL fn.blocks:=abu (jn.2 ⟨bk,u,rfl⟩);omega
 .have⟨b,y⟩:=sq u;rw[KG]at Z;have w:At p dH b (bk.code.length-1) x:=⟨fn,bk,v,y,Z⟩;have bm:=(cW.1 Z).1;cases q:wW p dH b (bk.code.length-1) x with
  |true=>exact absurd (.inr ⟨dH,b,_,x,w,q⟩) B
  |false=>
   unfold wW at q
   have eN:Lb p dH b=bk.code.length:=by unfold Lb;rw[v];dsimp only;rw[y]
   have he:bk.code.length-1+1=Lb p dH b:=ω
   have:M1 x.op=true:=by simpa[he]using q
   unfold M1 at this
   simp only[xt,rK]at this
   rcases this with(h|h)|h
   .exact .inl h
   .exact .inr (.inl h)
   .exact .inr (.inr h)
 .have⟨b,i,w,_⟩:=at_ u Z;cases q:NH p dH x with
  |true=>exact absurd ⟨dH,b,i,x,w,q⟩ D
  |false=>
   unfold NH at q
   rw[v]at q
   dsimp only at q
   rw[Yz]at q
   have U:=q s I
   have F:L5 fn s=true:=by simpa using U
   unfold L5 at F
   rw[YB]at F
   have⟨b',h4,W⟩:=F
   exact⟨b',h4,by simpa using W⟩
 .have⟨b,i,w,_⟩:=at_ u Z;exact⟨R _ _ _ _ w,Q _ _ _ _ w⟩
 .have⟨b,i,w,_⟩:=at_ u Z;cases q:vQ x with
  |true=>exact absurd ⟨dH,b,i,x,w,q⟩ b9
  |false=>
   unfold vQ at q
   have e:uJ x.op=some ⟨true,false,false,false,false,true,true⟩:=by rw[G];rfl
   rw[e]at q
   simp only[HQ]at q
   have F:Go.Proofs.YtgipmaoplfkdoaaGreatDoor.bk x=false:=q.2
   unfold Go.Proofs.YtgipmaoplfkdoaaGreatDoor.bk at F
   simp[G]at F
   omega
variable{K T:D}{es:Nat}
def Tp(k:Nat):fD:=match k with|0=>158|1=>159|2=>160|_=>161
def al1(h:D)(l:Nat)(L:LR)(T:D):Prop:=I [l] h T/\Lv T l (LR.ob L .ready none)
def al0(v:D)(l c2:Nat)(L:LR)(T:D):Prop:=∃(h q u ii:Nat) (t:CX),1<=h/\I [l,c2] v T/\Lv T c2 (.cells 4 t false)/\bc t 0 4=some [u8 h,ae q,ae u,ae ii]/\Lv T l (LR.ob L .done (some .ret))
def amt(cj bZ:D->Prop)(v:J)(K:D):Prop:=∃r,v=bl r/\(r=true->cj K)/\(r=false->bZ K)
section
variable{H HB:D}
def anf(ok:sf fn)(h:Sz fn)(k:Nat):Om HB (Tp k) fn:=by match k with|0=>exact apz ok|1=>exact aGq ok|2=>exact aAC ok|_+3=>exact azz ok h
def aD6(cj bZ:D->Prop)(F:cj H)(q:∀(k:Nat) K,k<4->cj K->CF E0 fv [u8 (17+k:Nat),.fn (.func (Tp k)) [] []] K (amt cj bZ)):CN 157 [fv] H λ _ K=>cj K\/bZ K:=by
 refine ba aq9 rfl λ J h=>?_
 simp
 refine vM (q 0 H ω F) ?_
 rintro _ I ⟨y,rfl,C,d1⟩
 cases y with
 |false=>simp;exact h (.inr (d1 rfl))
 |true=>
  simp
  refine vM (q 1 I ω (C rfl)) ?_
  rintro _ K2 ⟨w,rfl,B,d2⟩
  cases w with
  |false=>simp;exact h (.inr (d2 rfl))
  |true=>
   simp
   refine vM (q 2 K2 ω (B rfl)) ?_
   rintro _ G ⟨v,rfl,A,d3⟩
   cases v with
   |false=>simp;exact h (.inr (d3 rfl))
   |true=>
    simp
    refine vM (q 3 G ω (A rfl)) ?_
    rintro _ N ⟨u,rfl,z,d4⟩
    cases u with|false=>simp;exact h (.inr (d4 rfl))|true=>simp;exact h (.inl (z rfl))
end
def aX.apE(h:aX K es fv M aH):Go.Proofs.YtgipmaoplfkdoaaGreatDoor.fy fv fv=true:=by cases h<;>simp
def BD(HB:D)(X:Nat->Prop)(K:D)(d:Nat)(fn:aQ):Prop:=∃lo A,A<=K.ab/\(∀y,X y->y<lo\/A<=y)/\∀dP,A<=dP.ab->(∀j,lo<=j->j<A->dP.get j=K.get j)->tA HB dP d fn
def BD.body(h:BD H X K dH fn):tA H K dH fn:=by have⟨lo,A,O,_,F⟩:=h;exact F K O λ _ _ _=>rfl
def BD.step{HB K K2:D}{X X':Nat->Prop}{S:AT}{d:Nat}{fn:aQ}(h:BD HB X K d fn)(g:I S K K2)(C:∀s∈S,X s)(z:∀y,X' y->X y\/K.ab<=y):BD HB X' K2 d fn:=by
 have⟨lo,A,O,U,F⟩:=h;refine⟨lo,A,aY O g.ab,λ y G=>?_,λ dP q v=>F dP q λ j u w=>?_⟩
 .rcases z y G with h|h
  .exact U y h
  .exact .inr (aY O h)
 .rw[v j u w,g.get j ω λ B=>?_];have:=U j (C j B);omega
def Sm.q(h:Sm H K.ab T dH fn)(z:∀y,X y->y<K.ab\/T.ab<=y):BD H X T dH fn:=⟨K.ab,T.ab,aF,z,λ dP v w=>h dP ⟨v,λ i A u=>w i (by
 rcases kb i K.ab with h|h
 .exact absurd (mj.2 h) u
 .exact h) A⟩⟩
def amu(p:List aQ)(H:D)(v:J)(K:D):Prop:=∃(r f b i:Nat),v=.agg [u8 r,ae f,ae b,ae i]/\(r=0->(f=0/\b=0/\i=0)/\∀k,1<=k->k<=16->¬FF p k)/\I [] H K
section
variable{H:D}{vf:J}{p:List aQ}
def aD7:CN 127 [] H λ v K=>K=H/\v=.fn (.func 157) [] []:=by refine im aqI rfl ?_;simp
def aET(hp:oO H vf p)(hA:HH p)(hL:SC p):CN 66 [.agg [vf]] H (amu p H):=by
 refine ba asQ rfl λ Q' hQ=>?_;simp[hp.cell];generalize aP:D.add _ _=H1;have a1:Lv H1 H.ab (.cells 1 (Tr.e.put 0 (some vf)) false):=by rw[<-aP];exact Lv.new.add
 have a2:∃t,Lv H1 (H.ab+1) (.cells 4 t false):=by rw[<-aP];exact⟨_,Lv.new (H:=H.add _)⟩
 have g1:I [] H H1:=by rw[<-aP];exact((I.refl [] H).add _).add _
 clear aP;have⟨t2,a2⟩:=a2;refine CW (aow H1 (hp.zB g1) hA) ?_;rintro _ u ⟨r,f,b,i,rfl,hr,fY⟩;have SK:=a2.ai fY;have n1:¬H.ab+1=u.ab:=bC SK.lt;by_cases Jf:r=0
 .have mB:f=0/\b=0/\i=0/\∀k,1<=k->k<=16->¬FF p k:=by
   rcases hr with⟨_,h⟩|⟨h,_⟩
   .exact h
   .omega
  obtain⟨rfl,rfl,rfl,mB⟩:=mB;subst Jf;have Kt:=a1.ai fY;have n0:¬H.ab=u.ab:=bC Kt.lt;have n0':¬H.ab=u.ab+1:=by have:=Kt.lt;omega
  simp[n0,n0',Kt.get,hp.aN nf];generalize iH:D.add _ _=H2;have n2:H2.ab=u.ab+2:=by rw[<-iH];rfl
  have g2:I [] u H2:=by rw[<-iH];exact(I.new aw _ _).add _
  have l4:∃t,Lv H2 (u.ab+1) (.cells 1 t false)/\AV t 0 (.lit (.slice none 0 0)):=by rw[<-iH];exact⟨_,Lv.new (H:=(u.add _).put _ _),ζ⟩
  have a2H:=SK.ai g2;clear iH;have⟨t4,l4,w4⟩:=l4;have zy:I [] H H2:=(g1.trans fY).trans g2;have avk:=zy.ab;have aH5:=Kt.lt;have Vd:=SK.lt;have aIj:p.length<=64:=by have:¬(p=[]\/64<p.length):=mB 1 ω ω;omega
  refine CA (λ f sl K=>I [u.ab+1] H2 K/\(∃t w aH z,Lv K (u.ab+1) (.cells 1 t false)/\AV t 0 w/\aX K 1 w (List.map (λ d:Nat=>J.ptr d 0) z) aH/\(∀y∈aH,H2.ab<=y)/\z.length=f/\∀k (Q:k<z.length) fn,p[k]?=some fn->BD H (λ y=>y=u.ab+1\/y∈aH) K z[k] fn)/\(∃z1 z2:Int,AV sl 5 (ae z1)/\AV sl 6 (ae z2))/\AV sl 2 (.ptr (H.ab+1) 0)/\AV sl 4 (.ptr (u.ab+1) 0)/\AV sl 30 vf/\AV sl 31 (ae p.length)/\AV sl 32 (ae f)/\f<=p.length) p.length ⟨aw,⟨t4,_,[],[],l4,w4,.nil,ζ,rfl,λ k Q=>by simp at Q⟩,⟨0,p.length,ζ⟩,ζ⟩ ?_
  rintro b1 k1-cq f sl K ⟨gK,⟨tw,w,aH,z,lw,hw,ow,kI,jM,hbq⟩,⟨z1,z2,Z,R⟩,s2,C,kr,kU,jZ,hf⟩ ih;have vj:I [] H K:=⟨aY avk gK.ab,λ j N _=>(gK.get j ω ξ).trans (zy.get j N ζ)⟩;have U_:=gK.ab;by_cases az:f<p.length
  .have⟨kQ,ig,kD,iR,zZ,ta,py,kE,dc,cT,iy,eZ,eI⟩:=hp.at_ az;have atN:=eI;have⟨vp,vb,auG,A2,I3⟩:=atN;subst auG;have iJ:=cT.ai vj;have jN:p[f]?=some p[f]:=bf az;have⟨Fl,phf⟩:=Z7 mB hA hL jN;have nw:¬u.ab+1=K.ab:=bC lw.lt;simp[-cX,C,kr,kU,jZ,az,dc,iJ.get,bY eZ,iy,A2.cell,I3.cell,nw,lw.get,hw];generalize dU:D.put _ _ _=Ka;have ga:I [] K Ka:=by rw[<-dU];exact I.new aw _ _
   have l8:∃t,Lv Ka K.ab (.cells 3 t false)/\bc t 0 3=some [str p[f].name,vp,vb]:=by rw[<-dU];exact⟨_,Lv.new.put_eq,by simp[bc]⟩
   clear dU;have⟨t8,l8,r8⟩:=l8;have⟨_,v81,v82⟩:=uE r8;refine CW (aE9 eI (vj.trans ga) Fl) ?_;rintro _ Kb ⟨⟨d,rfl,hd⟩,v⟩;have lwb:=lw.ai (ga.trans v);have owb:=ow.W (ga.trans v) ζ;have eqw:fy w w=true:=ow.apE;simp;refine dF ?_ ?_
   .simp[dm,val,C,lwb.get,hw,eqw]
   simp[-cX];refine vL (c:=.ptr d 0) R9 ali owb rfl ξ ξ ?_;intro w' Kc ids' p1 p2 p3;have auZ:∀y∈aH,y≠u.ab+1:=λ y G=>by have:=kI y G;omega
   have lwc:=lwb.W p2 λ B=>(auZ _ B) rfl;have l8c:=(l8.ai v).W p2 λ B=>by have:=ow.lt _ B;omega
   have nw8:¬K.ab=u.ab+1:=ω
   simp[C,lwc.get,p1.cell,p1.co,Z,l8c.get,v81,v82,nw8,A2.aN fw,I3.aN nh];generalize LJ:D.put _ _ _=Kd;have gcd:I [u.ab+1] Kc Kd:=by rw[<-LJ];exact aw.put (.inr ζ)
   have lwd:∃t,Lv Kd (u.ab+1) (.cells 1 t false)/\AV t 0 w':=by rw[<-LJ];exact⟨_,lwc.put_eq,ζ⟩
   clear LJ;have U':=(ga.trans v).ab;have aHZ:=p2.ab;have aH0:=gcd.ab;have Mg:∀y∈ids',H2.ab<=y/\(y∈aH\/Kb.ab<=y):=λ y G=>by
    rcases p3 y G with h|h
    .exact⟨kI y h,.inl h⟩
    .exact⟨ω,.inr h⟩
   have owd:aX Kd 1 w' (List.map (λ d:Nat=>J.ptr d 0) (z++[d])) ids':=by have:=p1.W gcd (by intro y G B;have:=(Mg y G).1;simp at B;omega);simpa using this
   have gKd:I [u.ab+1] H2 Kd:=⟨ω,λ j N hs=>by rw[gcd.get j ω hs,p2.get j ω λ B=>?_,(ga.trans v).get j ω ζ,gK.get j N hs];have:=kI j B;omega⟩;have aur:∀k (Q:k<(z++[d]).length) fn,p[k]?=some fn->BD H (λ y=>y=u.ab+1\/y∈ids') Kd (z++[d])[k] fn:=by
    intro k Q fn iw;have akP:∀{e:Nat} {g:aQ},BD H (λ y=>y=u.ab+1\/y∈aH) Kb e g->BD H (λ y=>y=u.ab+1\/y∈ids') Kd e g:=λ h=>
     (h.step (X':=λ y=>y=u.ab+1\/y∈ids') p2 (λ s hs=>.inr hs) (λ y G=>by
      rcases G with h|h
      .exact .inl (.inl h)
      .rcases(Mg y h).2 with h|h
       .exact .inl (.inr h)
       .exact .inr h)).step gcd (λ s hs=>by simp at hs;exact .inl hs) (λ y G=>.inl G)
    by_cases kJ:k<z.length
    .rw[HW kJ];exact akP ((hbq k kJ fn iw).step (ga.trans v) ζ (λ y G=>.inl G))
    .have hkf:k=f:=by simp at Q;omega
     subst hkf;rw[jN]at iw;cases iw;have e:(z++[d])[k]=d:=by rw[afb ω];simp
     rw[e];refine akP (hd.q λ y G=>.inl ?_);rcases G with rfl|h
     .have:=lw.lt;have:=ga.ab;omega
     .have:=ow.lt y h;have:=ga.ab;omega
   refine CA (λ b sl K=>I [] Kd K/\(∃z1 z2:Int,AV sl 5 (ae z1)/\AV sl 6 (ae z2))/\AV sl 2 (.ptr (H.ab+1) 0)/\AV sl 4 (.ptr (u.ab+1) 0)/\AV sl 30 vf/\AV sl 31 (ae p.length)/\AV sl 32 (ae f)/\AV sl 47 vb/\AV sl 48 (ae p[f].blocks.length)/\AV sl 49 (ae b)/\b<=p[f].blocks.length) (p[f].blocks.length) ⟨aw,⟨_,_,by simp[R];exact⟨rfl,rfl⟩⟩,by simp[s2,C,kr,kU,jZ,dc]⟩ ?_
   clear s2 C Z R kr kU jZ;rintro b2 k2-dO b sl Ke ⟨IJ,⟨z1,z2,Z,R⟩,s2,C,kr,kU,jZ,NM,yL,pX,hb⟩ eJ;have gHe:I [] H Ke:=⟨by have:=IJ.ab;omega,λ j N _=>by rw[IJ.get j ω ζ,gKd.get j ω ξ,zy.get j N ζ]⟩;by_cases dp:b<p[f].blocks.length
   .have⟨lJ,lU,rN,kY,Re,tb,qW,mR,fp,ck,gV,iz,iv⟩:=I3.at_ dp;obtain⟨vc,rfl,bX⟩:=iv;have kP:=ck.ai gHe;have gn:=λ o o'=>I.new (I.refl [] Ke) o o';simp[NM,yL,pX,dp,fp,kP.get,bY iz,gV,bX.cell,bX.aN nT];refine CA (λ i sl K=>I [] Kd K/\(∃z1 z2:Int,AV sl 5 (ae z1)/\AV sl 6 (ae z2))/\AV sl 2 (.ptr (H.ab+1) 0)/\AV sl 4 (.ptr (u.ab+1) 0)/\AV sl 30 vf/\AV sl 31 (ae p.length)/\AV sl 32 (ae f)/\AV sl 47 vb/\AV sl 48 (ae p[f].blocks.length)/\AV sl 49 (ae b)/\AV sl 54 vc/\AV sl 55 (ae p[f].blocks[b].code.length)/\AV sl 56 (ae i)/\i<=p[f].blocks[b].code.length) (p[f].blocks[b].code.length) ⟨IJ.trans (gn _ _),⟨_,_,by simp[Z,R];exact⟨rfl,rfl⟩⟩,by simp[s2,C,kr,kU,jZ,NM,yL,pX,fp]⟩ ?_
    clear s2 C Z R kr kU jZ NM yL pX;rintro b3 k3-jU i sl Kf ⟨Ue,⟨z1,z2,Z,R⟩,s2,C,kr,kU,jZ,NM,yL,pX,qE,r_,s56,A⟩ jg;by_cases du:i<p[f].blocks[b].code.length
    .have⟨yy,Aa,xJ,wv,n3,tc,Bq,BV,jD,fF,mM,kh,f_⟩:=bX.at_ du;have⟨va,vl,auH,iU,fo,oi⟩:=f_;subst auH;have gHf:I [] H Kf:=⟨by have:=Ue.ab;omega,λ j N _=>by rw[Ue.get j ω ζ,gKd.get j ω ξ,zy.get j N ζ]⟩;have qx:=fF.ai gHf;have gn3:=λ o o'=>I.new (I.refl [] Kf) o o';have yu:=bq (aT du bX.cP);generalize p[f].blocks[b].code[i]=x at kh iU fo oi;by_cases hd0:x.dst=lT<;>by_cases sL:x.op=1<;>by_cases mV:x.op=2<;>simp[Z,R,qE,r_,s56,du,jD,qx.get,bY kh,mM,iU.cell,fo.cell,hd0,sL,mV,yu]<;>exact jg ω ⟨Ue.trans (gn3 _ _),⟨_,_,by simp[Z,R];exact⟨rfl,rfl⟩⟩,by simp[s2,C,kr,kU,jZ,NM,yL,pX,qE,r_,jD];omega⟩
    .obtain rfl:i=p[f].blocks[b].code.length:=ω
     subst jU;simp[r_,s56,pX,bq (aT dp I3.cP)];exact eJ ω ⟨Ue,⟨z1,z2,by simp[Z,R]⟩,by simp[s2,C,kr,kU,jZ,NM,yL];omega⟩
   .obtain rfl:b=p[f].blocks.length:=ω
    subst dO;simp[yL,pX,jZ,bq (aT az hp.cP)];have⟨td,lwd,hwd⟩:=lwd;refine ih ω ⟨gKd.trans (IJ.mono ζ),⟨td,w',ids',z++[d],lwd.ai IJ,hwd,owd.W IJ ζ,λ y G=>(Mg y G).1,by simp[jM],λ k Q fn iw=>(aur k Q fn iw).step IJ ζ (λ y G=>.inl G)⟩,⟨z1,z2,by simp[Z,R]⟩,by simp[s2,C,kr,kU];omega⟩
  obtain rfl:f=p.length:=ω
  subst cq;clear ih;have aaa:=vj;simp[kU,jZ];rw[cE aD7];simp;refine HA (gv:=.fn (.func 157) [] []) ζ ?_;refine⟨_,_,_,Im,?_⟩;simp;generalize qL:LR.mk _ _ _ _ _ _ _=L;generalize iS:D.add _ _=H5;have e5:H5.ab=K.ab+2:=by rw[<-iS];rfl
  have i5:Lv H5 K.ab .deferred:=by rw[<-iS];exact Lv.new.add
  have i6:Lv H5 (K.ab+1) (LR.ob L .ready none):=by rw[<-iS];exact Lv.new (H:=K.add _)
  have g5:I [] K H5:=by rw[<-iS];exact(aw.add _).add _
  clear iS;have eL:L.ps=[81,82]/\L.size=113:=by rw[<-qL];exact⟨rfl,rfl⟩
  have ahU:=g5.ab;refine(aD6 (al1 H5 (K.ab+1) L) (al0 H5 (K.ab+1) (H.ab+1) L) ⟨aw,i6⟩ ?_).mono ?_
  .rintro k T Q ⟨Gj,k6⟩;simp;refine Hu (λ Y K1'=>∃s,Y=⟨s,113,[],some (K.ab+1),66⟩/\s.get 2=some (.ptr (H.ab+1) 0)/\s.get 4=some (.ptr (u.ab+1) 0)/\s.get 13=some (u8 (17+k:Nat))/\s.get 14=some (.fn (.func (Tp k)) [] [])/\T=K1') k6.get (by rw[eL.1];rfl) (by rw[eL.1,eL.2];simp) ?_ ?_
   .rw[<-qL];simp[s2,C]
   .rintro Y K1' ⟨s,rfl,s2,C,ez,cy,rfl⟩;refine⟨none,L,k6.get,?_⟩;have gx:I [K.ab+1] H5 (T.put (K.ab+1) (some (LR.ob L .busy none))):=Gj.put (.inr ζ);have kx:=k6.put_eq (o':=LR.ob L .busy none);generalize T.put (K.ab+1) (some (LR.ob L .busy none))=Kx at gx kx;have PK:I [] K Kx:=⟨by have:=gx.ab;omega,λ j N _=>by rw[gx.get j ω ξ,g5.get j N ζ]⟩;have lwx:=lw.ai PK;have owx:=ow.W PK ζ;have a2x:=((a2H.W gK ξ).ai PK);rw[<-iQ LR.bd qL];dsimp only;have awy:∀K,aN E0 169 w K=val (ae (p.length:Int)) K:=by
     intro K;cases hc:z with
     |nil=>
      rw[hc]at ow jM
      have:w=.lit (.slice none 0 0)\/∃id ax ex,w=.sl id 0 1 0 ax ex:=by
       generalize gR:List.map (λ d:Nat=>J.ptr d 0) []=M at ow;cases ow with
       |nil=>exact .inl rfl
       |own O U F h4 h5 h6=>
        rw[<-gR]at U
        simp at U
        subst U
        exact .inr ⟨_,_,_,rfl⟩
      simp at jM
      rcases this with rfl|⟨id,ax,ex,rfl⟩
      .rw[Ba R9,<-jM]
      .rw[de R9,<-jM]
     |cons d ds=>
      obtain⟨id,ax,ex,t,rfl,_⟩:=ow.uC (by rw[hc];simp)
      rw[de R9,bW,jM]
    simp[C,lwx.get,hw,awy];refine CA (λ j sl dP=>I [] Kx dP/\AV sl 2 (.ptr (H.ab+1) 0)/\AV sl 13 (u8 (17+k:Nat))/\AV sl 14 (.fn (.func (Tp k)) [] [])/\AV sl 83 w/\AV sl 84 (ae p.length)/\AV sl 85 (ae j)/\j<=p.length) p.length ⟨aw,by simp[s2,ez,cy]⟩ ?_
    clear s2 C ez cy;rintro b4 k4-Qt j sl Ky ⟨gy,s2,ez,cy,Xm,s84,s85,N⟩ QU;by_cases dK:j<p.length
    .have sG:j<z.length:=ω
     obtain⟨ic,kc,AI,tw2,rfl,rfl,lww,vx,C_,_⟩:=owx.uC ξ;have lwy:=lww.ai gy;have hgj:tw2.get j=some (.ptr z[j] 0):=by rw[vx j ξ];simp[sG]
     simp only[bW]at C_ Xm;have GF:j<kc:=ω
     have zN:p[j]?=some p[j]:=bf dK;have⟨okj,phj⟩:=Z7 mB hA hL zN;have hBj:tA H Ky z[j] p[j]:=((hbq j sG _ zN).body.W PK).W gy;rw[jM]at Xm;simp[cy,Xm,s84,s85,dK,lwy.get,hgj,GF];refine CW (anf okj phj k Ky z[j] hBj ((aaa.trans PK).trans gy)) ?_;rintro _ Kz ⟨⟨bb,ii,rr,rfl⟩,gz⟩;cases rr with
     |false=>
      simp[s85,fQ (show(-9223372036854775808:Int)<=(j:Int)+1 by omega) (show(j:Int)+1<=9223372036854775807 by omega)]
      exact QU ω ⟨gy.trans gz,by simp[s2,ez,cy,Xm,s84,jM];omega⟩
     |true=>
      have a2z:=(a2x.ai gy).ai gz
      have kz:=(kx.ai gy).ai gz
      simp[s2,ez,a2z.get]
      have qD:¬K.ab+1=H.ab+1:=ω
      refine⟨_,_,L,(kz.eu qD).get,false,rfl,(λ h=>by cases h),λ _=>⟨17+k,j,bb,ii,_,ω,?_,(a2z.put_eq).eu ω,by simp[bc],(kz.eu qD).put_eq⟩⟩
      exact((((gx.mono ζ).trans (gy.mono ζ)).trans (gz.mono ζ)).put (.inr ζ)).put (.inr ζ)
    .obtain rfl:j=p.length:=ω
     subst Qt;simp[s84,s85];have ky:=kx.ai gy;exact⟨_,_,L,ky.get,true,rfl,λ _=>⟨(gx.trans (gy.mono ζ)).put (.inr ζ),ky.put_eq⟩,λ h=>by cases h⟩
  .rintro _ T (⟨Gj,k6⟩|⟨rr,ff,bb,ii,t,zR,Gj,l2,r2,k6⟩)
   .refine⟨_,_,L,k6.get,ζ,?_⟩;show aD E0 _ _ _ _;have v:I [K.ab+1] H5 (T.put (K.ab+1) (some (LR.ob L .exhausted none))):=Gj.put (.inr ζ);generalize T.put (K.ab+1) (some (LR.ob L .exhausted none))=K9 at v;have l5:=i5.W v ζ;have a29:=((a2H.W gK ξ).ai g5).W v ξ;have n5:¬K.ab=H.ab+1:=ω
    have Rf:¬H.ab+1=K.ab:=ω
    have aac:∀o,I [] H ((K9.put (H.ab+1) (some o)).put K.ab none):=λ o=>by
     refine⟨by have:=v.ab;show H.ab<=K9.ab;omega,λ j N _=>?_⟩;have e1:¬j=K.ab:=ω
     have e2:¬j=H.ab+1:=ω
     rw[D.eR,ao e1,D.eR,ao e2,v.get j ω ξ,g5.get j ω ζ,aaa.get j N ζ]
    by_cases VT:(65536:Int)<z1
    .simp[s2,Z,R,VT,a29.get,n5,Rf,l5.get];exact hQ ⟨21,0,0,0,rfl,λ h=>ω,aac _⟩
    .by_cases MP:(65536:Int)<z2
     .simp[s2,Z,R,VT,MP,a29.get,n5,Rf,l5.get];exact hQ ⟨21,0,0,0,rfl,λ h=>ω,aac _⟩
     .simp[s2,Z,R,VT,MP,a29.get,n5,Rf,l5.get];exact hQ ⟨0,0,0,0,rfl,λ _=>⟨⟨rfl,rfl,rfl⟩,mB⟩,aac _⟩
   .refine⟨_,_,L,k6.get,ζ,?_⟩;show MX E0 _ .ret _ _ _;have v:I [K.ab+1,H.ab+1] H5 (T.put (K.ab+1) (some (LR.ob L .exhausted (some .ret)))):=Gj.put (.inr ζ);have l2':=l2.eu (k:=K.ab+1) (o':=some (LR.ob L .exhausted (some .ret))) ω;generalize T.put (K.ab+1) (some (LR.ob L .exhausted (some .ret)))=K9 at v l2';have l5:=i5.W v ξ;have Rf:¬H.ab+1=K.ab:=ω
    simp[s2,l2'.get,bY r2,l5.get,Rf];refine hQ ⟨rr,ff,bb,ii,rfl,λ h=>ω,⟨by have:=v.ab;show H.ab<=K9.ab;omega,λ j N _=>?_⟩⟩;have e1:¬j=K.ab:=ω
    rw[D.eR,ao e1,v.get j ω ξ,g5.get j ω ζ,aaa.get j N ζ]
 .have aIp:¬(r:Int)=0:=ω
  simp[n1,SK.get,Jf];refine hQ ⟨r,f,b,i,rfl,λ h=>absurd h Jf,?_⟩;exact((g1.trans fY).trans (I.new aw _ _)).put (.inl ω)
end
variable{X:AT}{n:Nat}
def Fh{t:aS}(C:E.tt.get t=some ⟨.slice e,b,i,z0⟩)(he:E.tt.get e=some ⟨d,es,dH,z⟩)(J:0<es){new:AU}{ro:Bool}(F:aX K es fv M aH)(G:K.get c2=some (.cells m t2 ro))(B:n*es<=m)(hr:bc t2 0 (n*es)=some new)(h:fX new=true)(O:∀q,M.length=q*es->(q+n)*dH<=140737488355328)(N:∀q,M.length=q*es->q+n<=9223372036854775807){k:List fg}(D:∀v' T ids',aX T es v' (M++new) ids'->I aH K T->(∀y∈ids',y∈aH\/K.ab<=y)->MD E dst v' k Y T aj):MO E (cX E t fv (.sl c2 0 es n c3 ex) K) dst k Y aj:=by
 have⟨v',T,ids',A,w,v,u⟩:=KU (x:=.sl c2 0 es n c3 ex) C he J F (n:=n) (new:=new) (λ k=>by unfold pz;simp[qS,G,B,bY hr]) (iB.1 hr).1 h O N
 exact zY A (D v' T ids' w v u)
section
variable{α:Type}[DecidableEq α]
def mF(L:List α)(k:α):Option Nat:=L.findIdx? λ x=>decide (x=k)
def lE(L:List α)(k:α):List α:=if k∈L then L else L++[k]
def adt{L:List α}{k:α}:mF L k=none↔k∉L:=by
 unfold mF;rw[KB];constructor
 .intro h B;have:=h k B;simp at this
 .intro h x Z;simp;rintro rfl;exact h Z
def adu{L:List α}{k:α}(h:mF L k=some i):∃A:i<L.length,L[i]=k:=by unfold mF at h;rw[KD]at h;have⟨A,O,_⟩:=h;exact⟨A,by simpa using O⟩
def WZ{L:List α}{k x:α}(h:k∉L):mF (L++[k]) x=if x=k then some L.length else mF L x:=by
 unfold mF;rw[List.findIdx?_append];by_cases e:x=k
 .subst e;have:L.findIdx? (λ y=>decide (y=x))=none:=by rw[KB];intro y G;simp;rintro rfl;exact h G
  simp[this]
 .have u:¬k=x:=λ q=>e q.symm;simp[e,u]
structure HI(key:α->Value)(cells:α->List J)(kt:TypeId)(ks:KS)(es:Nat)(K:D)(id:Nat)(L:List α)(X:List Nat):Prop where
 ob:∃m aH t w l,X=id::m::aH/\Lv K id (.cells 2 t false)/\AV t 0 (.map m)/\AV t 1 w/\aX K es w (L.flatMap cells) aH/\FG K m kt ks l/\(∀k,cH (key k) l=(mF L k).map λ i=>ae (i:Int))/\id≠m/\id∉aH/\m∉aH
def HI.W{key:α->aC}{cells:α->AU}{kt:aS}{ks:KS}{id:Nat}{L:List α}{S:AT}(h:HI key cells kt ks es K id L X)(g:I S K T)(q:∀x∈X,x∉S):HI key cells kt ks es T id L X:=by obtain⟨m,aH,t,w,l,rfl,O,U,F,B,A,z,y,v,u⟩:=h.ob;exact⟨m,aH,t,w,l,rfl,O.W g (q _ ζ),U,F,B.W g (λ x Z=>q _ (by simp[Z])),A.W g (q _ ζ),z,y,v,u⟩
end
abbrev qC:Int×aI->aC:=λ k=>.agg ⟨[.int .i64 k.1,.string k.2]⟩
abbrev Nk:Int×aI->AU:=λ k=>[ae k.1,str k.2]
abbrev rh:aI->aC:=λ s=>.string s
abbrev RZ:aI->AU:=λ s=>[str s]
abbrev FH:=HI qC Nk 98 (.agg [.i .i64,.s]) 2
abbrev Kq:=HI rh RZ 9 (.one .s) 1
def Sv(k:Int×aI):KP (.agg [.i .i64,.s]) (qC k):=⟨_,rfl,ζ⟩
def axJ{b:Int×aI}:qC a=qC b↔a=b:=by
 constructor
 .intro h;simp only[qC,Value.agg.injEq,Ym,KA,Value.int.injEq,Value.string.injEq,KN,OH]at h;exact Prod.ext h.1 h.2
 .rintro rfl;rfl
def aFh{b:aI}:rh s=rh b↔s=b:=by simp[rh]
section
variable{H:D}
theorem IE:∀{L:List (Int×aI)},(L.flatMap Nk).length=L.length*2
 |[]=>rfl|a::l=>by rw[BN,iP,IE (L:=l)];simp[Nk];omega
def aiC{L:List (Int×aI)}(k:Int×aI)(hT:FH H dH L X)(hn:L.length<=1048576):CN 71 [.ptr dH 0,.agg [ae k.1,str k.2]] H λ v K=>∃X' i,v=ae ((i:Nat):Int)/\mF (lE L k) k=some i/\FH K dH (lE L k) X'/\I X H K/\∀y∈X',y∈X\/H.ab<=y:=by
 refine ba asV rfl λ Q' hQ=>?_
 obtain⟨m,aH,t,w,l,rfl,O,U,F,h4,⟨⟨c,R⟩,PY,PZ⟩,h6,h7,h8,h9⟩:=hT.ob
 have u:=h6 k
 have ga:∀o,I (dH::m::aH) H (H.add o):=λ o=>aw.add o
 have qD:¬dH=H.ab:=bC O.lt
 have sT:¬m=H.ab:=bC R.lt
 cases N:mF L k with
 |some i=>
  rw[N]at u
  have J:∃bb,lk (qC k) l=some (bb,ae (i:Int)):=by unfold cH at u;cases C:lk (qC k) l with|none=>rw[C]at u;cases u|some q=>rw[C]at u;have⟨q1,q2⟩:=q;simp at u;exact⟨q1,by rw[u]⟩
  have⟨bb,J⟩:=J
  have Q:k∈L:=by have⟨A,e⟩:=adu N;rw[<-e];exact cG A
  have z:lE L k=L:=by unfold lE;rw[aq Q]
  simp[O.get,U,R.get,qD,sT]
  simp only[qC]at J
  simp[J]
  first
  |exact hQ ⟨dH::m::aH,i,rfl,by rw[z];exact N,by rw[z];exact hT,aw,λ y G=>.inl G⟩|exact hQ ⟨dH::m::aH,i,rfl,by rw[z];exact N,by rw[z];exact hT.W ((I.refl [] H).add _) ζ,ga _,λ y G=>.inl G⟩
 |none=>
  rw[N]at u
  have J:lk (qC k) l=none:=by unfold cH at u;cases C:lk (qC k) l with|none=>rfl|some q=>rw[C]at u;cases u
  have Q:k∉L:=adt.1 N
  have z:lE L k=L++[k]:=by unfold lE;rw[ao Q]
  have mD:∀K,aN E0 183 w K=val (ae (L.length:Int)) K:=by
   intro K;generalize gR:List.flatMap Nk L=M at h4;cases h4 with
   |nil=>
    have hz:=IE (L:=L)
    rw[gR]at hz
    have:L.length=0:=by simp only[wg]at hz;omega
    rw[Ba J9,this]
   |own q1 q2 q3 q4 q5 q6=>
    have hz:=IE (L:=L)
    rw[gR]at hz
    rw[de J9]
    congr 3;omega
  simp only[qC]at J
  simp[-cX,O.get,U,R.get,qD,sT,J,F,mD,h7,qj sT]
  generalize kO:D.add _ _=K2
  have g2:I [m] H K2:=by rw[<-kO];refine I.add (I.put ?_ (.inr ζ)) _;exact aw.add _
  have lm:∃c',Lv K2 m (.map 98 c' (eD c (qC k) (ae (L.length:Int)) l)):=by
   rw[<-kO];first
   |exact⟨_,(R.add.put_eq).add⟩|exact⟨_,(R.put_eq).add⟩
  have iW:∃tn,K2.get (H.ab+1)=some (.cells 2 tn false)/\bc tn 0 2=some (Nk k):=by rw[<-kO];refine⟨_,by simp[D.jK];rfl,by simp[bc]⟩
  clear kO
  have⟨c',lm⟩:=lm
  have⟨tn,iW,QG⟩:=iW
  have h9':∀y∈aH,y∉[m]:=λ y G B=>by simp at B;subst B;exact h9 G
  refine Fh J9 als ω (h4.W g2 h9') iW aF QG rfl (λ q C=>by rw[IE]at C;omega) (λ q C=>by rw[IE]at C;omega) ?_
  intro v' K3 ids' p1 p2 p3
  have l3:=(O.W g2 (by simp[h7])).W p2 h8
  simp[l3.get,p1.cell,p1.co]
  have gp:I [dH] K3 (K3.put dH (some (.cells 2 (t.put 1 (some v')) false))):=aw.put (.inr ζ)
  have AX:dH∉ids':=λ B=>by
   rcases p3 _ B with h|h
   .exact h8 h
   .have:=O.lt;have:=g2.ab;omega
  have nH:m∉ids':=λ B=>by
   rcases p3 _ B with h|h
   .exact h9 h
   .have:=lm.lt;omega
  refine hQ ⟨dH::m::ids',L.length,rfl,by rw[z,WZ Q,aq rfl],⟨⟨m,ids',_,v',_,rfl,l3.put_eq,by simp[U],ζ,?_,⟨⟨c',(lm.W p2 h9).W gp (by simp[qj h7])⟩,Jx (Sv k) PY,Dq (Sv k) PZ⟩,λ x=>?_,h7,AX,nH⟩⟩,?_,?_⟩
  .rw[z,HV]
   have:=p1.W gp (λ y G B=>by simp at B;subst B;exact AX G);simpa using this
  .rw[Bb (Sv k) (Sv x),z,WZ Q]
   by_cases e:x=k
   .subst e;simp
   .have e2:¬qC x=qC k:=λ h'=>e (axJ.1 h');rw[ao e2,ao e,h6]
  .exact((g2.mono ζ).trans (p2.mono (by intro x Z;simp[Z]))).trans (gp.mono ζ)
  .intro y G
   simp only[cZ]at G⊢;rcases G with rfl|rfl|G
   .exact .inl (.inl rfl)
   .exact .inl (.inr (.inl rfl))
   .rcases p3 y G with h|h
    .exact .inl (.inr (.inr h))
    .exact .inr (aY g2.ab h)
theorem Pv:∀{L:List (aI)},(L.flatMap RZ).length=L.length*1
 |[]=>rfl|a::l=>by rw[BN,iP,Pv (L:=l)];simp[RZ];omega
def awA{L:List (aI)}(k:aI)(hT:Kq H dH L X)(hn:L.length<=1048576):CN 70 [.ptr dH 0,str k] H λ v K=>∃X' i,v=ae ((i:Nat):Int)/\mF (lE L k) k=some i/\Kq K dH (lE L k) X'/\I X H K/\∀y∈X',y∈X\/H.ab<=y:=by
 refine ba asU rfl λ Q' hQ=>?_
 obtain⟨m,aH,t,w,l,rfl,O,U,F,h4,⟨⟨c,R⟩,PY,PZ⟩,h6,h7,h8,h9⟩:=hT.ob
 have u:=h6 k
 have ga:∀o,I (dH::m::aH) H (H.add o):=λ o=>aw.add o
 have qD:¬dH=H.ab:=bC O.lt
 have sT:¬m=H.ab:=bC R.lt
 cases N:mF L k with
 |some i=>
  rw[N]at u
  have J:∃bb,lk (rh k) l=some (bb,ae (i:Int)):=by unfold cH at u;cases C:lk (rh k) l with|none=>rw[C]at u;cases u|some q=>rw[C]at u;have⟨q1,q2⟩:=q;simp at u;exact⟨q1,by rw[u]⟩
  have⟨bb,J⟩:=J
  have Q:k∈L:=by have⟨A,e⟩:=adu N;rw[<-e];exact cG A
  have z:lE L k=L:=by unfold lE;rw[aq Q]
  simp[O.get,U,R.get]
  simp only[rh]at J
  simp[J]
  first
  |exact hQ ⟨dH::m::aH,i,rfl,by rw[z];exact N,by rw[z];exact hT,aw,λ y G=>.inl G⟩|exact hQ ⟨dH::m::aH,i,rfl,by rw[z];exact N,by rw[z];exact hT.W ((I.refl [] H).add _) ζ,ga _,λ y G=>.inl G⟩
 |none=>
  rw[N]at u
  have J:lk (rh k) l=none:=by unfold cH at u;cases C:lk (rh k) l with|none=>rfl|some q=>rw[C]at u;cases u
  have Q:k∉L:=adt.1 N
  have z:lE L k=L++[k]:=by unfold lE;rw[ao Q]
  have mD:∀K,aN E0 52 w K=val (ae (L.length:Int)) K:=by
   intro K;generalize gR:List.flatMap RZ L=M at h4;cases h4 with
   |nil=>
    have hz:=Pv (L:=L)
    rw[gR]at hz
    have:L.length=0:=by simp only[wg]at hz;omega
    rw[Ba fw,this]
   |own q1 q2 q3 q4 q5 q6=>
    have hz:=Pv (L:=L)
    rw[gR]at hz
    rw[de fw]
    congr 3;omega
  simp only[rh]at J
  simp[-cX,O.get,U,R.get,J,F,mD,h7]
  generalize kO:D.add _ _=K2
  have g2:I [m] H K2:=by rw[<-kO];refine I.add (I.put ?_ (.inr ζ)) _;exact aw
  have lm:∃c',Lv K2 m (.map 9 c' (eD c (rh k) (ae (L.length:Int)) l)):=by
   rw[<-kO];first
   |exact⟨_,(R.add.put_eq).add⟩|exact⟨_,(R.put_eq).add⟩
  have iW:∃tn,K2.get (H.ab)=some (.cells 1 tn false)/\bc tn 0 1=some (RZ k):=by rw[<-kO];refine⟨_,by simp[D.jK];rfl,by simp[bc]⟩
  clear kO
  have⟨c',lm⟩:=lm
  have⟨tn,iW,QG⟩:=iW
  have h9':∀y∈aH,y∉[m]:=λ y G B=>by simp at B;subst B;exact h9 G
  refine Fh fw DH ω (h4.W g2 h9') iW aF QG rfl (λ q C=>by rw[Pv]at C;omega) (λ q C=>by rw[Pv]at C;omega) ?_
  intro v' K3 ids' p1 p2 p3
  have l3:=(O.W g2 (by simp[h7])).W p2 h8
  simp[l3.get,p1.cell,p1.co]
  have gp:I [dH] K3 (K3.put dH (some (.cells 2 (t.put 1 (some v')) false))):=aw.put (.inr ζ)
  have AX:dH∉ids':=λ B=>by
   rcases p3 _ B with h|h
   .exact h8 h
   .have:=O.lt;have:=g2.ab;omega
  have nH:m∉ids':=λ B=>by
   rcases p3 _ B with h|h
   .exact h9 h
   .have:=lm.lt;omega
  refine hQ ⟨dH::m::ids',L.length,rfl,by rw[z,WZ Q,aq rfl],⟨⟨m,ids',_,v',_,rfl,l3.put_eq,by simp[U],ζ,?_,⟨⟨c',(lm.W p2 h9).W gp (by simp[qj h7])⟩,Jx (yR k) PY,Dq (yR k) PZ⟩,λ x=>?_,h7,AX,nH⟩⟩,?_,?_⟩
  .rw[z,HV]
   have:=p1.W gp (λ y G B=>by simp at B;subst B;exact AX G);simpa using this
  .rw[Bb (yR k) (yR x),z,WZ Q]
   by_cases e:x=k
   .subst e;simp
   .have e2:¬rh x=rh k:=λ h'=>e (aFh.1 h');rw[ao e2,ao e,h6]
  .exact((g2.mono ζ).trans (p2.mono (by intro x Z;simp[Z]))).trans (gp.mono ζ)
  .intro y G
   simp only[cZ]at G⊢;rcases G with rfl|rfl|G
   .exact .inl (.inl rfl)
   .exact .inl (.inr (.inl rfl))
   .rcases p3 y G with h|h
    .exact .inl (.inr (.inr h))
    .exact .inr (aY g2.ab h)
end
section
variable{H:D}
def aqp(L:List (Int×aI))(k:Int×aI)(v:J):Prop:=(∃i,mF L k=some i/\v=.dh [ae (i:Nat),bl true])\/(mF L k=none/\v=.dh [ae 0,bl false])
def aqk{L:List (Int×aI)}{X:AT}(k:Int×aI)(Q:FH H dH L X):CN 122 [.ptr dH 0,.agg [ae k.1,str k.2]] H λ v K=>aqp L k v/\I [] H K:=by
 refine ba aqF rfl λ Q' A=>?_
 obtain⟨m,aH,t,w,l,rfl,O,U,F,h4,⟨⟨c,B⟩,PY,PZ⟩,R,h7,h8,Z⟩:=Q.ob
 have h:=R k
 have G:∀o,I [] H (H.add o):=λ o=>aw.add o
 have D:¬dH=H.ab:=bC O.lt
 have C:¬m=H.ab:=bC B.lt
 cases y:mF L k with
 |some i=>
  rw[y]at h
  have u:∃J,lk (qC k) l=some (J,ae (i:Int)):=by unfold cH at h;cases z:lk (qC k) l with|none=>rw[z]at h;cases h|some q=>rw[z]at h;have⟨N,W⟩:=q;simp at h;exact⟨N,by rw[h]⟩
  have⟨J,u⟩:=u
  simp only[qC]at u
  simp[O.get,U,B.get,D,C,u]
  first
  |exact A ⟨.inl ⟨i,y,rfl⟩,aw⟩|exact A ⟨.inl ⟨i,y,rfl⟩,G _⟩
 |none=>
  rw[y]at h
  have u:lk (qC k) l=none:=by unfold cH at h;cases z:lk (qC k) l with|none=>rfl|some q=>rw[z]at h;cases h
  simp only[qC]at u
  simp[O.get,U,B.get,D,C,u]
  first
  |exact A ⟨.inr ⟨y,rfl⟩,aw⟩|exact A ⟨.inr ⟨y,rfl⟩,G _⟩
def ay8:CN 68 [.lit (.slice none 0 0)] H λ v K=>∃id X,v=.ptr id 0/\FH K id [] X/\(∀y∈X,H.ab<=y)/\I [] H K:=by
 refine ba asS rfl λ C w=>?_;simp[Ba J9];generalize h:D.add _ _=H1;have l1:∃t,Lv H1 (H.ab+1) (.cells 2 t false)/\AV t 0 (.map H.ab)/\AV t 1 (.lit (.slice none 0 0)):=by rw[<-h];exact⟨_,Lv.new (H:=H.add _),ζ⟩
 have lm:Lv H1 H.ab (.map 98 0 []):=by rw[<-h];exact Lv.new.add
 have z:I [] H H1:=by rw[<-h];exact(aw.add _).add _
 clear h;have⟨t,l1,w0,q⟩:=l1;refine bu (α:=Unit) (aJ:=λ _ sl K=>H1=K/\AV sl 3 (.ptr (H.ab+1) 0)/\AV sl 10 (ae 0)/\AV sl 11 (ae 0)) (mu:=λ _=>0) ?_ () _ _ ?ini;case ini=>exact⟨rfl,ζ⟩
 rintro b kk-Q _ sl K ⟨rfl,s3,A,u⟩ B;subst Q;simp[s3,A,u];refine w ⟨H.ab+1,[H.ab+1,H.ab],rfl,⟨⟨H.ab,[],t,_,[],rfl,l1,w0,q,.nil,⟨⟨0,lm⟩,by simp[bQ],by simp[bQ]⟩,λ k=>by simp[Ni,mF],ω,ζ,ζ⟩⟩,ζ,z⟩
def axD{L:List (Int×aI)}{X:AT}(v:FH H dH L X):∃t w,Lv H dH (.cells 2 t false)/\AV t 1 w/\∀K,aN E0 183 w K=val (ae (L.length:Int)) K:=by
 obtain⟨m,aH,t,w,l,rfl,O,U,F,q,_⟩:=v.ob;refine⟨t,w,O,F,λ K=>?_⟩;generalize u:List.flatMap Nk L=M at q;cases q with
 |nil=>
  have h:=IE (L:=L)
  rw[u]at h
  have:L.length=0:=by simp only[wg]at h;omega
  rw[Ba J9,this]
 |own D C B A z y=>
  have h:=IE (L:=L)
  rw[u]at h
  rw[de J9]
  congr 3;omega
def aqq(L:List (aI))(k:aI)(v:J):Prop:=(∃i,mF L k=some i/\v=.dh [ae (i:Nat),bl true])\/(mF L k=none/\v=.dh [ae 0,bl false])
def aql{L:List (aI)}{X:AT}(k:aI)(J:Kq H dH L X):CN 106 [.ptr dH 0,str k] H λ v K=>aqq L k v/\I [] H K:=by
 refine ba aqw rfl λ Q' A=>?_
 obtain⟨m,aH,t,w,l,rfl,O,U,F,h4,⟨⟨c,B⟩,PY,PZ⟩,N,h7,h8,Z⟩:=J.ob
 have h:=N k
 have C:∀o,I [] H (H.add o):=λ o=>aw.add o
 have R:¬dH=H.ab:=bC O.lt
 have Q:¬m=H.ab:=bC B.lt
 cases y:mF L k with
 |some i=>
  rw[y]at h
  have u:∃D,lk (rh k) l=some (D,ae (i:Int)):=by unfold cH at h;cases z:lk (rh k) l with|none=>rw[z]at h;cases h|some q=>rw[z]at h;have⟨G,W⟩:=q;simp at h;exact⟨G,by rw[h]⟩
  have⟨D,u⟩:=u
  simp only[rh]at u
  simp[O.get,U,B.get,u]
  first
  |exact A ⟨.inl ⟨i,y,rfl⟩,aw⟩|exact A ⟨.inl ⟨i,y,rfl⟩,C _⟩
 |none=>
  rw[y]at h
  have u:lk (rh k) l=none:=by unfold cH at h;cases z:lk (rh k) l with|none=>rfl|some q=>rw[z]at h;cases h
  simp only[rh]at u
  simp[O.get,U,B.get,u]
  first
  |exact A ⟨.inr ⟨y,rfl⟩,aw⟩|exact A ⟨.inr ⟨y,rfl⟩,C _⟩
def azb:CN 69 [.lit (.slice none 0 0)] H λ v K=>∃id X,v=.ptr id 0/\Kq K id [] X/\(∀y∈X,H.ab<=y)/\I [] H K:=by
 refine ba asT rfl λ C w=>?_;simp[Ba fw];generalize h:D.add _ _=H1;have l1:∃t,Lv H1 (H.ab+1) (.cells 2 t false)/\AV t 0 (.map H.ab)/\AV t 1 (.lit (.slice none 0 0)):=by rw[<-h];exact⟨_,Lv.new (H:=H.add _),ζ⟩
 have lm:Lv H1 H.ab (.map 9 0 []):=by rw[<-h];exact Lv.new.add
 have z:I [] H H1:=by rw[<-h];exact(aw.add _).add _
 clear h;have⟨t,l1,w0,q⟩:=l1;refine bu (α:=Unit) (aJ:=λ _ sl K=>H1=K/\AV sl 3 (.ptr (H.ab+1) 0)/\AV sl 10 (ae 0)/\AV sl 11 (ae 0)) (mu:=λ _=>0) ?_ () _ _ ?ini;case ini=>exact⟨rfl,ζ⟩
 rintro b kk-Q _ sl K ⟨rfl,s3,A,u⟩ B;subst Q;simp[s3,A,u];refine w ⟨H.ab+1,[H.ab+1,H.ab],rfl,⟨⟨H.ab,[],t,_,[],rfl,l1,w0,q,.nil,⟨⟨0,lm⟩,by simp[bQ],by simp[bQ]⟩,λ k=>by simp[Ni,mF],ω,ζ,ζ⟩⟩,ζ,z⟩
def axE{L:List (Int×aI)}(h:FH H dH L aH):CN 98 [.ptr dH 0] H λ v K=>v=ae (L.length:Int)/\H=K:=by refine ba atn rfl λ u q=>?_;have⟨t,w,O,F,hw⟩:=axD h;simp[O.get,F,hw];exact q ⟨rfl,rfl⟩
end
def fN(X:Nat->Prop)(K:D)(P:D->Prop):Prop:=∃bZ:Nat->Prop,(∀y,bZ y->y<K.ab/\¬X y)/\∀dP,K.ab<=dP.ab->(∀j,bZ j->dP.get j=K.get j)->P dP
namespace fN
variable{X X':Nat->Prop}{K K2:D}{P P':D->Prop}{S:AT}
def now(h:fN X K P):P K:=by have⟨bZ,_,U⟩:=h;exact U K aF λ _ _=>rfl
def step(h:fN X K P)(g:I S K K2)(w:∀s∈S,X s)(v:∀y,X' y->X y\/K.ab<=y):fN X' K2 P:=by
 have⟨bZ,O,U⟩:=h;refine⟨bZ,λ y G=>⟨aT (O y G).1 g.ab,λ Z=>?_⟩,λ dP q u=>U dP (aY g.ab q) λ j hd=>?_⟩
 .rcases v y Z with h|h
  .exact(O y G).2 h
  .have:=(O y G).1;omega
 .rw[u j hd,g.get j (O j hd).1 λ B=>(O j hd).2 (w j B)]
def fresh{lo:Nat}(h:∀T,I (List.range lo) K T->P T)(w:∀y,X y->y<lo\/K.ab<=y):fN X K P:=⟨λ j=>lo<=j/\j<K.ab,λ y G=>⟨G.2,λ Z=>by have:=w y Z;omega⟩,λ dP u v=>h dP ⟨u,λ i A q=>v i ⟨by
 rcases kb i lo with h|h
 .exact absurd (mj.2 h) q
 .exact h,A⟩⟩⟩
def imp(h:fN X K P)(q:∀K,P K->P' K):fN X K P':=by have⟨bZ,O,U⟩:=h;exact⟨bZ,O,λ dP a b=>q _ (U dP a b)⟩
def all{aj:Nat->D->Prop}(h:∀i,i<dH->fN X K (aj i)):fN X K λ K=>∀i,i<dH->aj i K:=by
 classical
 have q:∀i,∃bZ:Nat->Prop,i<dH->(∀y,bZ y->y<K.ab/\¬X y)/\∀dP,K.ab<=dP.ab->(∀j,bZ j->dP.get j=K.get j)->aj i dP:=λ i=>by
  by_cases A:i<dH
  .have⟨bZ,O,U⟩:=h i A;exact⟨bZ,λ _=>⟨O,U⟩⟩
  .exact⟨λ _=>False,λ w=>absurd w A⟩
 refine⟨λ y=>∃i,i<dH/\(q i).choose y,λ y ⟨i,A,G⟩=>((q i).choose_spec A).1 y G,λ dP u v i A=>((q i).choose_spec A).2 dP u λ j hd=>v j ⟨i,A,hd⟩⟩
def both(h:fN X K P)(U:fN X K P'):fN X K λ K=>P K/\P' K:=by have⟨bZ,w,v⟩:=h;have⟨z,b1,b2⟩:=U;exact⟨λ y=>bZ y\/z y,λ y G=>G.elim (w y) (b1 y),λ dP q u=>⟨v dP q λ j hd=>u j (.inl hd),b2 dP q λ j hd=>u j (.inr hd)⟩⟩
def lv(h:Lv K dH o)(Z:¬X dH):fN X K λ K=>Lv K dH o:=⟨λ y=>y=dH,λ y G=>by subst G;exact⟨h.lt,Z⟩,λ dP q u=>⟨aT h.lt q,(u dH rfl).trans h.get⟩⟩
def const{p:Prop}(h:p):fN X K λ _=>p:=⟨λ _=>False,λ _ h=>h.elim,λ _ _ _=>h⟩
end fN
section
variable{H HB:D}
def Zy(h:aW H 1 xm sv L)(w:L.length<=1048576):CN 129 [sv] H λ v K=>I [] H K/\∀T,I (List.range H.ab) K T->aW T 1 xm v L:=by
 refine(af3 h (λ a M h=>by cases h.1;rfl) ω).mono ?_
 rintro v K ⟨g,M,aH,O,U,F,q⟩
 refine⟨g,λ T u=>?_⟩
 exact(O.W u λ x Z B=>by have:=U x Z;have:=mj.1 B;omega).yN ω F q
def af5(Z:ku HB x M)(g0:I [] HB H)(ha:x.args.length<=1048576)(hl:x.eh.length<=1048576):CN 97 [.agg M] H λ v K=>∃B,v=.agg B/\B.length=8/\fX B=true/\(∀T,I (List.range H.ab) K T->ku T x B)/\I [] H K:=by
 refine ba atm rfl λ Q' hQ=>?_
 obtain⟨va,vl,rfl,kl,F,hr⟩:=Z
 simp[kl.cell,F.cell]
 generalize y:D.add _ _=H1
 have l1:∃t,Lv H1 H.ab (.cells 8 t false)/\bc t 0 8=some [u8 x.op,str x.dst,str x.a,str x.b,ae x.n,str x.fn,va,vl]:=by rw[<-y];exact⟨_,Lv.new.add,by simp[bc]⟩
 have l2:∃t,Lv H1 (H.ab+1) (.cells 8 t false):=by rw[<-y];exact⟨_,Lv.new (H:=H.add _)⟩
 have J:I [] H H1:=by rw[<-y];exact(aw.add _).add _
 have n1:H1.ab=H.ab+2:=by rw[<-y];rfl
 clear y
 have⟨t1,l1,r1⟩:=l1
 have⟨t2,l2⟩:=l2
 have⟨_,q⟩:=iB.1 r1
 have q0:AV t1 0 (u8 x.op):=by simpa using q 0 ω
 have q1:AV t1 1 (str x.dst):=by simpa using q 1 ω
 have q2:AV t1 2 (str x.a):=by simpa using q 2 ω
 have q3:AV t1 3 (str x.b):=by simpa using q 3 ω
 have q4:AV t1 4 (ae x.n):=by simpa using q 4 ω
 have q5:AV t1 5 (str x.fn):=by simpa using q 5 ω
 have q6:AV t1 6 va:=by simpa using q 6 ω
 have q7:AV t1 7 vl:=by simpa using q 7 ω
 refine CW (Zy (kl.fZ (g0.trans J)) ha) ?_
 rintro ua C ⟨w,EU⟩
 have zU:=l1.ai w
 simp
 refine dF ?_ ?_
 .simp[dm,val,zU.get,q7,F.fy]
 simp
 refine CW (Zy (F.fZ ((g0.trans J).trans w)) hl) ?_
 rintro ul K2 ⟨u,W⟩
 have U:=zU.ai u
 have R:=(l2.ai w).ai u
 have mY:I (List.range H1.ab) C K2:=u.mono ζ
 have ca:=(EU K2 mY).cell
 have Q:=(EU K2 mY).co
 have cl:=(W K2 aw).cell
 have oV:=(W K2 aw).co
 simp[U.get,ca,Q,cl,oV,q0,q1,q2,q3,q4,q5,R.get]
 refine hQ ⟨_,rfl,rfl,by simp[ca,cl],λ T z=>?_,?_⟩
 .have iy:=w.ab
  have gV:=u.ab;have gA:I (List.range H1.ab) C T:=⟨aY u.ab z.ab,λ i A G=>by
   have Mz:¬i<H1.ab:=λ h=>G (mj.2 h);have O:¬i=H.ab:=ω
   have N:¬i=H.ab+1:=ω
   rw[z.get i (by show i<K2.ab;omega) ξ];simp only[D.eR,O,N,n_];exact u.get i A ζ⟩
  have gB:I (List.range C.ab) K2 T:=⟨z.ab,λ i A G=>by
   have Mz:¬i<C.ab:=λ h=>G (mj.2 h);have O:¬i=H.ab:=ω
   have N:¬i=H.ab+1:=ω
   rw[z.get i A ξ];simp only[D.eR,O,N,n_]⟩
  exact⟨ua,ul,rfl,EU T gA,W T gB,hr⟩
 .exact((((J.trans w).trans u).put (.inl aF)).put (.inl aF)).put (.inl ω)
end
variable{α:Type}{L:List α}
def aj1{t:Tr α}{l:List α}(h:b+n<=dH\/dH+l.length<=b):bc (t.iM dH l) b n=bc t b n:=by
 cases hr:bc t b n with
 |some M=>
  have⟨O,U⟩:=iB.1 hr
  refine iB.2 ⟨O,λ i A=>?_⟩
  rw[Tr.vn,ao ω];exact U i A
 |none=>
  cases q:bc (t.iM dH l) b n with
  |none=>rfl
  |some M=>
   have⟨O,U⟩:=iB.1 q
   have:bc t b n=some M:=iB.2 ⟨O,λ i A=>by have:=U i A;rw[Tr.vn,ao ω]at this;exact this⟩
   rw[hr]at this;cases this
def aDI{t:Tr α}{a:Nat}{l:List α}:bc (t.iM a l) a l.length=some l:=iB.2 ⟨rfl,λ i A=>by rw[Tr.vn,aq ω,YL]⟩
def Dw{t:Tr α}{v:Option α}(h:b+n<=dH\/dH<b):bc (t.put dH v) b n=bc t b n:=by
 cases hr:bc t b n with
 |some M=>
  have⟨O,U⟩:=iB.1 hr
  refine iB.2 ⟨O,λ i A=>?_⟩
  rw[Tr.eR,ao ω];exact U i A
 |none=>
  cases q:bc (t.put dH v) b n with
  |none=>rfl
  |some M=>
   have⟨O,U⟩:=iB.1 q
   have:bc t b n=some M:=iB.2 ⟨O,λ i A=>by have:=U i A;rw[Tr.eR,ao ω]at this;exact this⟩
   rw[hr]at this;cases this
def aX.WS(h:aX H es fv M aH)(u:0<es)(q:M.length=n*es)(v:0<n):∃id ax ex t,fv=.sl id 0 es n ax ex/\aH=[id]/\Lv H id (.cells (ax*es) t false)/\n<=ax/\ax<=maxLen/\∀i,i<n->bc t (i*es) es=some ((M.drop (i*es)).take es):=by
 cases h with
 |nil=>
  exfalso
  have:=YQ v u
  simp at q
  omega
 |@own id n' ax ex t _ O U F z C y=>
  have:n'=n:=by rw[U]at q;exact afn u q
  subst this
  refine⟨_,_,_,_,rfl,rfl,O,z,y,λ i A=>?_⟩
  have B:i*es+es<=n'*es:=by have:=nW es (dz A);rw[ve]at this;exact this
  refine iB.2 ⟨ξ,λ j w=>?_⟩
  rw[F _ ω,rI,aq w,v_]
def fN.out{X:Nat->Prop}{P:D->Prop}(h:fN X K P)(q:∀y,y<dH->X y):∀T,I (List.range dH) K T->P T:=by have⟨bZ,O,U⟩:=h;intro T g;refine U T g.ab λ j hd=>g.get j (O j hd).1 λ B=>(O j hd).2 (q j (mj.1 B))
section
variable{H:D}{vf:J}{p:List aQ}
def ku.OM(h:ku H x M):fX M=true:=by obtain⟨va,vl,rfl,O,U,_⟩:=h;simp[O.cell,U.cell]
def p_.OM{x:cU}(h:p_ H x M):fX M=true:=by obtain⟨q,rfl,O⟩:=h;simp[O.cell]
def qe.OM{x:aQ}(h:qe H x M):fX M=true:=by obtain⟨vp,vb,rfl,O,U⟩:=h;simp[O.cell,U.cell]
def ad2{R:D->α->AU->Prop}{X:Nat->Prop}(v:L.length=n)(u:Lv K dH (.cells (b*es) t false))(Z:¬X dH)(q:n<=b)(B:b<=maxLen)(he:∀i (A:i<L.length),∃M,bc t (i*es) es=some M/\fN X K λ K=>R K L[i] M):fN X K λ K=>aW K es (R K) (.sl dH 0 es n b ex) L:=by
 subst v
 have U:fN X K λ K=>∀i,i<L.length->∀A:i<L.length,∃M,bc t (i*es) es=some M/\R K L[i] M:=fN.all λ i A=>by have⟨M,O,U⟩:=he i A;exact U.imp λ K h=>λ _=>⟨M,O,h⟩
 refine((fN.lv u Z).both U).imp λ T h=>?_
 refine .sl h.1 ?_ (λ i A=>?_) q B
 .have:=nW es q;omega
 .have⟨M,F,w⟩:=h.2 i A A
  exact⟨M,by rw[mQ];exact F,w⟩
def aCk(hp:oO H vf p)(hf:∀fn∈p,sf fn)(Um:p.length<=64)(cR:p≠[]):CN 67 [.agg [vf]] H λ v K=>∃vf',v=.agg [vf']/\(∀T,I (List.range H.ab) K T->oO T vf' p)/\I [] H K:=by
 refine ba asR rfl λ Q' hQ=>?_
 simp[hp.cell]
 generalize aP:D.add _ _=H1
 have l1:Lv H1 H.ab (.cells 1 (Tr.e.put 0 (some vf)) false):=by rw[<-aP];exact Lv.new.add
 have l2:∃t,Lv H1 (H.ab+1) (.cells 1 t false):=by rw[<-aP];exact⟨_,Lv.new (H:=H.add _)⟩
 have g1:I [] H H1:=by rw[<-aP];exact(aw.add _).add _
 have n1:H1.ab=H.ab+2:=by rw[<-aP];rfl
 clear aP
 have⟨t2,l2⟩:=l2
 refine CW (aoA (R:=qe H) (hp.W g1 λ _ _ _ h=>h) (λ _ _ h=>h.OM) ω) ?_
 rintro v1 K1 ⟨fY,TA,aH,ow,kI,eN,hR⟩
 have mC:0<p.length:=za.2 cR
 obtain⟨o,ax,ex,t,rfl,rfl,lo,UM,C9,bU⟩:=ow.WS ω eN mC
 have ho:=kI o ζ
 have zU:=l1.ai fY
 have n1o:¬o=H.ab:=ω
 simp[zU.get,de nf]
 generalize iH:D.put _ _ _=H2
 have g2:I [H.ab] K1 H2:=by rw[<-iH];exact aw.put (.inr ζ)
 have l1H:∃t,Lv H2 H.ab (.cells 1 t false)/\AV t 0 (.sl o 0 3 p.length ax ex):=by rw[<-iH];exact⟨_,zU.put_eq,ζ⟩
 have iW:H2.ab=K1.ab:=by rw[<-iH];rfl
 clear iH
 have⟨t1,l1H,w1⟩:=l1H
 have loH:=lo.W g2 ξ
 have l2H:=(l2.ai fY).W g2 ζ
 have U_:=fY.ab
 have aH8:=lo.lt
 have gHH:I [] H H2:=⟨ω,λ j hj _=>by rw[g2.get j ω ξ,fY.get j ω ζ,g1.get j hj ζ]⟩
 refine CA (λ f sl K=>I [o] H2 K/\(∃t,Lv K o (.cells (ax*3) t false)/\(∀i (A:i<p.length),i<f->∃M,bc t (i*3) 3=some M/\fN (λ y=>y=o\/y<H.ab+2) K λ K=>qe K p[i] M)/\(∀i (A:i<p.length),f<=i->∃M,bc t (i*3) 3=some M/\qe H p[i] M))/\AV sl 1 (.ptr H.ab 0)/\AV sl 2 (.ptr (H.ab+1) 0)/\AV sl 14 (ae p.length)/\AV sl 15 (ae f)/\f<=p.length) p.length ⟨aw,⟨t,loH,λ i A h=>ω,λ i A _=>⟨_,bU i A,hR i A⟩⟩,ζ⟩ ?_
 rintro b1 k1-cq f sl K ⟨gK,⟨tf,lf,GB,aaT⟩,s1,s2,B,z,kH⟩ ih
 have l1f:=l1H.W gK ξ
 have aHY:=gK.ab
 by_cases az:f<p.length
 .have⟨csf,rf,hRf⟩:=aaT f az aF
  have Fl:=hf _ (cG az);obtain⟨vp,vb,rfl,A2,I3⟩:=hRf;have⟨_,rq⟩:=iB.1 rf;have f1:tf.get (f*3+1)=some vp:=by simpa using rq 1 ω
  have f2:tf.get (f*3+2)=some vb:=by simpa using rq 2 ω
  have KV:f*3+1<ax*3:=ω
  have KW:f*3+2<ax*3:=ω
  have b3':f*3+1+1<=ax*3:=ω
  have b4':f*3+2+1<=ax*3:=ω
  have vj:I [] H K:=⟨ω,λ j hj _=>by rw[gK.get j ω ξ,gHH.get j hj ζ]⟩;simp[s1,B,z,az,l1f.get,w1,lf.get,f1,f2,KV,KW];refine CW (Zy (A2.fZ vj) (by have:=Fl.np;omega)) ?_;rintro u1 Ka ⟨ga,Vu⟩;have lfa:=lf.ai ga;simp;refine dF ?_ ?_
  .simp[dm,val,lfa.get,f2,KW,I3.fy]
  simp;refine CW (aoz (R:=p_ H) (I3.W (vj.trans ga) λ _ _ _ h=>h) (λ _ _ h=>h.OM) (by have:=Fl.nb;omega)) ?_;rintro u2 Kb ⟨gb,csb,aIw,owb,au2,auz,hRb⟩;have Z:=lfa.ai gb;have jM:0<p[f].blocks.length:=za.2 Fl.ne;obtain⟨u,J,Lm,tb,rfl,rfl,lb,auv,auB,QF⟩:=owb.WS ω auz jM;have hbO:=au2 u ζ;have aiu:aW Kb 1 xm u1 p[f].params:=Vu Kb (gb.mono ζ);simp[Z.get,aiu.cell,aiu.co,b3',b4',KW,de nh];generalize Ee:D.put _ _ _=C;have hga:=ga.ab;have U0:=gb.ab;have gY:=lf.lt;have vB:=lb.lt;have Uj:I [o] Kb C:=by rw[<-Ee];exact(aw.put (.inr ζ)).put (.inr ζ)
  have lfH:∃t,Lv C o (.cells (ax*3) t false)/\t=(tf.put (f*3+1) (some u1)).put (f*3+2) (some (.sl u 0 2 p[f].blocks.length J Lm)):=by rw[<-Ee];exact⟨_,(Z.put_eq).put_eq,rfl⟩
  have ED:C.ab=Kb.ab:=by rw[<-Ee];rfl
  clear Ee;have⟨tg,lfH,Jk⟩:=lfH;have lbH:=lb.W Uj ξ;have Eb:I [o] H2 C:=(gK.trans ((ga.trans gb).mono ζ)).trans Uj;have gHb:I [] H C:=⟨ω,λ j hj _=>by rw[Eb.get j ω ξ,gHH.get j hj ζ]⟩;have awl:fN (λ y=>y=o\/y=u\/y<H.ab+2) C λ K=>aW K 1 xm u1 p[f].params:=by
   have O:fN (λ y=>y=o\/y<H.ab+2) Ka λ K=>aW K 1 xm u1 p[f].params:=fN.fresh (lo:=K.ab) Vu λ y G=>.inl (by rcases G with rfl|h<;>omega);exact(O.step (X':=λ y=>y=o\/y=u\/y<H.ab+2) gb ζ λ y G=>by
    rcases G with h|rfl|h
    .exact .inl (.inl h)
    .exact .inr hbO
    .exact .inl (.inr h)).step Uj ζ λ y G=>.inl G
  have PB:tg.get (f*3+2)=some (.sl u 0 2 p[f].blocks.length J Lm):=by rw[Jk];simp
  have auL:∀i (A:i<p.length),i<f->∃M,bc tg (i*3) 3=some M/\fN (λ y=>y=o\/y=u\/y<H.ab+2) C λ K=>qe K p[i] M:=by
   intro i A GD;have⟨M,O,U⟩:=GB i A GD;refine⟨M,?_,?_⟩
   .rw[Jk,Dw ω,Dw ω];exact O
   .exact(U.step (X':=λ y=>y=o\/y=u\/y<H.ab+2) (ga.trans gb) ζ λ y G=>by
     rcases G with h|rfl|h
     .exact .inl (.inl h)
     .exact .inr ω
     .exact .inl (.inr h)).step Uj ζ λ y G=>.inl G
  have awp:∀i (A:i<p.length),f+1<=i->∃M,bc tg (i*3) 3=some M/\qe H p[i] M:=by intro i A GD;have⟨M,O,U⟩:=aaT i A ω;refine⟨M,?_,U⟩;rw[Jk,Dw ω,Dw ω];exact O
  have Mw:bc tg (f*3) 3=some [str p[f].name,u1,.sl u 0 2 p[f].blocks.length J Lm]:=by
   have q0:tf.get (f*3)=some (str p[f].name):=by simpa using rq 0 ω
   rw[Jk];simp[bc,q0]
  clear GB aaT Jk Z lfa lf;refine bu (α:=Nat) (aJ:=λ j sl K=>I [u] C K/\(∃t,Lv K u (.cells (J*2) t false)/\(∀i (A:i<p[f].blocks.length),i<j->∃M,bc t (i*2) 2=some M/\fN (λ y=>y=o\/y=u\/y<H.ab+2) K λ K=>p_ K p[f].blocks[i] M)/\(∀i (A:i<p[f].blocks.length),j<=i->∃M,bc t (i*2) 2=some M/\p_ H p[f].blocks[i] M))/\AV sl 1 (.ptr H.ab 0)/\AV sl 2 (.ptr (H.ab+1) 0)/\AV sl 4 (.ptr o (f*3))/\AV sl 14 (ae p.length)/\AV sl 15 (ae f)/\AV sl 42 (ae p[f].blocks.length)/\AV sl 43 (ae j)/\j<=p[f].blocks.length) (mu:=λ j=>p[f].blocks.length-j) ?_ 0 _ _ ?ini2;case ini2=>exact⟨aw,⟨tb,lbH,λ i A h=>ω,λ i A _=>⟨_,QF i A,hRb i A⟩⟩,by simp[s1,s2,B,z]⟩
  clear s1 s2 B z;rintro b2 k2-dO j sl Kc ⟨gc,⟨tc,lc,aao,aaU⟩,s1,s2,s4,B,z,kV,Q,Ey⟩ eJ;have lfc:=lfH.W gc ξ;have hgc:=gc.ab;by_cases bB:j<p[f].blocks.length
  .have⟨csj,rj,xU⟩:=aaU j bB aF;obtain⟨vc,rfl,bX⟩:=xU;have xW:p[f].blocks[j]∈p[f].blocks:=cG bB;have⟨L9,aHF⟩:=Fl.code _ xW;have Dd:=Fl.small _ xW;have avH:0<p[f].blocks[j].code.length:=za.2 L9;have⟨c0,c1⟩:=JQ rj;have d1:j*2+1<J*2:=ω
   have d2:j*2+1+1<=J*2:=ω
   have gHc:I [] H Kc:=⟨ω,λ q F _=>by rw[gc.get q ω ξ,gHb.get q F ζ]⟩;simp[s4,kV,Q,bB,lfc.get,PB,KW,lc.get,c1,d1];refine CW (aoD (R:=ku H) (bX.W gHc λ _ _ _ h=>h) (λ _ _ h=>h.OM) ω) ?_;rintro u3 Kd ⟨gd,csd,aIx,owd,au3,auA,hRd⟩;obtain⟨w,Io,T0,td,rfl,rfl,ld,auw,auC,av4⟩:=owd.WS ω auA avH;have hcO:=au3 w ζ;have lcd:=lc.ai gd;have hgd:=gd.ab;have hlc:=lc.lt;have hld:=ld.lt;simp[lcd.get,d2,de nT,d1];generalize Uq:D.put _ _ _=Hd;have Lz:I [u] Kd Hd:=by rw[<-Uq];exact aw.put (.inr ζ)
   have lbd:∃t,Lv Hd u (.cells (J*2) t false)/\t=tc.put (j*2+1) (some (.sl w 0 8 p[f].blocks[j].code.length Io T0)):=by rw[<-Uq];exact⟨_,lcd.put_eq,rfl⟩
   have ud:Hd.ab=Kd.ab:=by rw[<-Uq];rfl
   clear Uq;have⟨NX,lbd,QJ⟩:=lbd;have ldd:=ld.W Lz ξ;have e1:NX.get (j*2+1)=some (.sl w 0 8 p[f].blocks[j].code.length Io T0):=by rw[QJ];simp
   have hdb:∀i (A:i<p[f].blocks.length),i<j->∃M,bc NX (i*2) 2=some M/\fN (λ y=>y=o\/y=u\/y=w\/y<H.ab+2) Hd λ K=>p_ K p[f].blocks[i] M:=by
    intro i A dK;have⟨M,O,U⟩:=aao i A dK;refine⟨M,by rw[QJ,Dw ω];exact O,?_⟩;exact(U.step (X':=λ y=>y=o\/y=u\/y=w\/y<H.ab+2) gd ζ λ y G=>by
     rcases G with h|h|rfl|h
     .exact .inl (.inl h)
     .exact .inl (.inr (.inl h))
     .exact .inr hcO
     .exact .inl (.inr (.inr h))).step Lz ζ λ y G=>.inl G
   have htb:∀i (A:i<p[f].blocks.length),j+1<=i->∃M,bc NX (i*2) 2=some M/\p_ H p[f].blocks[i] M:=by intro i A dK;have⟨M,O,U⟩:=aaU i A ω;exact⟨M,by rw[QJ,Dw ω];exact O,U⟩
   have hrj:bc NX (j*2) 2=some [str p[f].blocks[j].label,.sl w 0 8 p[f].blocks[j].code.length Io T0]:=by rw[QJ];simp[bc,c0]
   clear aao aaU QJ;refine CA (λ l sl K=>I [w] Hd K/\(∃t,Lv K w (.cells (Io*8) t false)/\(∀i (A:i<p[f].blocks[j].code.length),i<l->∃M,bc t (i*8) 8=some M/\fN (λ y=>y=o\/y=u\/y=w\/y<H.ab+2) K λ K=>ku K p[f].blocks[j].code[i] M)/\(∀i (A:i<p[f].blocks[j].code.length),l<=i->∃M,bc t (i*8) 8=some M/\ku H p[f].blocks[j].code[i] M))/\AV sl 1 (.ptr H.ab 0)/\AV sl 2 (.ptr (H.ab+1) 0)/\AV sl 4 (.ptr o (f*3))/\AV sl 6 (.ptr u (j*2))/\AV sl 14 (ae p.length)/\AV sl 15 (ae f)/\AV sl 42 (ae p[f].blocks.length)/\AV sl 43 (ae j)/\AV sl 64 (ae p[f].blocks[j].code.length)/\AV sl 65 (ae l)/\l<=p[f].blocks[j].code.length) (p[f].blocks[j].code.length) ⟨aw,⟨td,ldd,λ i A h=>ω,λ i A _=>⟨_,av4 i A,hRd i A⟩⟩,by simp[s1,s2,s4,B,z,kV,Q]⟩ ?_
   clear s1 s2 s4 B z kV Q;rintro b3 k3-jU l sl Ke ⟨ge,⟨te,le,ahE,ais⟩,s1,s2,s4,s6,B,z,kV,Q,qZ,N,sJ⟩ jg;have lbe:=lbd.W ge ξ;have AW:=ge.ab;have aU:=le.lt;by_cases oh:l<p[f].blocks[j].code.length
   .have⟨csl,rl,IV⟩:=ais l oh aF;have Jc:=Dd _ (cG oh);have d3:l*8+8<=Io*8:=ω
    have gHe:I [] H Ke:=⟨ω,λ q F _=>by rw[ge.get q ω ξ,Lz.get q ω ξ,gd.get q ω ζ,gHc.get q F ζ]⟩;simp[s6,qZ,N,oh,lbe.get,e1,d1,le.get,bY rl,d3];refine CW (af5 IV gHe Jc.1 Jc.2) ?_;rintro _ Kf ⟨cI,rfl,ahy,aui,U3,gf⟩;have lef:=le.ai gf;have lbf:=lbe.ai gf;have hgf:=gf.ab;simp;refine dF ?_ ?_
    .simp[dm,val,lbf.get,e1,d1]
    simp[N,lef.get,oh,ahy,aui,d3,fQ (show(-9223372036854775808:Int)<=(l:Int)+1 by omega) (show(l:Int)+1<=9223372036854775807 by omega)];have gp:I [w] Kf (Kf.put w (some (.cells (Io*8) (te.iM (l*8) cI) false))):=aw.put (.inr ζ);refine jg ω ⟨(ge.trans (gf.mono ζ)).trans gp,⟨_,lef.put_eq,λ i A jf=>?_,λ i A jf=>?_⟩,?sl⟩;case sl=>simp[s1,s2,s4,s6,B,z,kV,Q,qZ];exact oh
    .rcases pH.1 jf with h|h
     .have⟨M,O,U⟩:=ahE i A h;exact⟨M,by rw[aj1 ω];exact O,(U.step gf ζ λ y G=>.inl G).step gp ζ λ y G=>.inl G⟩
     .have h':=h.symm;clear h;subst h';refine⟨cI,by have:=aDI (t:=te) (a:=l*8) (l:=cI);rw[ahy]at this;exact this,?_⟩;have O:fN (λ y=>y=o\/y=u\/y=w\/y<H.ab+2) Kf λ K=>ku K p[f].blocks[j].code[l] cI:=fN.fresh (lo:=Ke.ab) U3 λ y G=>.inl (by rcases G with rfl|rfl|rfl|h<;>omega);exact O.step gp ζ λ y G=>.inl G
    .have⟨M,O,U⟩:=ais i A ω;exact⟨M,by rw[aj1 ω];exact O,U⟩
   .obtain rfl:l=p[f].blocks[j].code.length:=ω
    subst jU;simp[qZ,N,Q,fQ (show(-9223372036854775808:Int)<=(j:Int)+1 by have:=Fl.nb;omega) (show(j:Int)+1<=9223372036854775807 by have:=Fl.nb;omega)];have hX:∀y,(y=o\/y=u\/y<H.ab+2)->(y=o\/y=u\/y=w\/y<H.ab+2)\/Hd.ab<=y:=λ y G=>.inl (by rcases G with h|h|h<;>simp[h]);have hsc:fN (λ y=>y=o\/y=u\/y<H.ab+2) Ke λ K=>aW K 8 (ku K) (.sl w 0 8 p[f].blocks[j].code.length Io T0) p[f].blocks[j].code:=by refine ad2 rfl le ω auw auC λ i A=>?_;have⟨M,O,U⟩:=ahE i A A;exact⟨M,O,U.step (I.refl [] _) ζ λ y G=>.inl (by rcases G with h|h|h<;>simp[h])⟩
    have m1:p[f].blocks.length-(j+1)<p[f].blocks.length-j:=YT bB (sx j);have m2:C.ab<=Ke.ab:=aY hgc (aY hgd (aY Lz.ab AW));have m3:I [u] C Ke:=by refine⟨m2,λ q F hs=>?_⟩;have q1:q<Kc.ab:=aT F hgc;have q2:q<Kd.ab:=aT q1 hgd;rw[ge.get q (aT q2 Lz.ab) (by simp;exact bC (aT q1 hcO)),Lz.get q q2 hs,gd.get q q1 ζ,gc.get q F hs]
    have m4:∀i (A:i<p[f].blocks.length),i<j+1->∃M,bc NX (i*2) 2=some M/\fN (λ y=>y=o\/y=u\/y<H.ab+2) Ke λ K=>p_ K p[f].blocks[i] M:=by
     intro i A dK;rcases pH.1 dK with h|h
     .have⟨M,O,U⟩:=hdb i A h;exact⟨M,O,U.step ge ζ hX⟩
     .have h':=h.symm;clear h;subst h';exact⟨_,hrj,hsc.imp λ K h=>⟨_,rfl,h⟩⟩
    refine eJ (j+1) _ _ m1 ⟨m3,⟨NX,lbe,m4,λ i A dK=>htb i A dK⟩,?_⟩;simp[s1,s2,s4,B,z,kV];exact bB
  .obtain rfl:j=p[f].blocks.length:=ω
   subst dO;simp[kV,Q,z,fQ (show(-9223372036854775808:Int)<=(f:Int)+1 by omega) (show(f:Int)+1<=9223372036854775807 by omega)];have hsb:fN (λ y=>y=o\/y<H.ab+2) Kc λ K=>aW K 2 (p_ K) (.sl u 0 2 p[f].blocks.length J Lm) p[f].blocks:=by refine ad2 rfl lc ω auv auB λ i A=>?_;have⟨M,O,U⟩:=aao i A A;exact⟨M,O,U.step (I.refl [] _) ζ λ y G=>.inl (by rcases G with h|h<;>simp[h])⟩
   have hX:∀y,(y=o\/y<H.ab+2)->(y=o\/y=u\/y<H.ab+2)\/C.ab<=y:=λ y G=>.inl (by rcases G with h|h<;>simp[h]);refine ih ω ⟨⟨ω,λ q F hs=>by rw[gc.get q ω ξ,Eb.get q F hs]⟩,⟨tg,lfc,λ i A GD=>?_,λ i A GD=>awp i A GD⟩,by simp[s1,s2,B];omega⟩;rcases pH.1 GD with h|h
   .have⟨M,O,U⟩:=auL i A h;exact⟨M,O,U.step gc ζ hX⟩
   .have h':=h.symm;clear h;subst h';exact⟨_,Mw,((awl.step gc ζ hX).both hsb).imp λ K h=>⟨_,_,rfl,h.1,h.2⟩⟩
 .obtain rfl:f=p.length:=ω
  subst cq;have l2f:=l2H.W gK ξ;have yi:bc t1 0 1=some [.sl o 0 3 p.length ax ex]:=by simp[bc,w1]
  simp[s1,s2,B,z,l1f.get,bY yi,l2f.get];have kj:fN (λ y=>y<H.ab+2) K λ K=>oO K (.sl o 0 3 p.length ax ex) p:=ad2 rfl lf ω UM C9 λ i A=>by have⟨M,O,U⟩:=GB i A A;exact⟨M,O,U.step (I.refl [] _) ζ λ y G=>.inl (.inr G)⟩
  have gp:I [H.ab+1] K (K.put (H.ab+1) (some (.cells 1 (t2.put 0 (some (.sl o 0 3 p.length ax ex))) false))):=aw.put (.inr ζ);refine hQ ⟨_,rfl,(kj.step (X':=λ y=>y<H.ab+2) gp ζ λ y G=>.inl G).out (λ y G=>ω),⟨by have:=gp.ab;omega,λ j hj _=>?_⟩⟩;rw[gp.get j ω ξ,gK.get j ω ξ,gHH.get j hj ζ]
end
section
variable{H HB:D}
def akp(vf:J)(h:km vf=true)(H:D):CN 72 [.agg [vf]] H λ v K=>K=H.add (.cells 1 (Tr.e.put 0 (some vf)) false)/\v=.fn (.func 132) [] [.ptr H.ab 0]:=by refine im asW rfl ?_;simp[h]
def ako{p:List aQ}{vf:J}(cj:Nat->Nat->Nat->D->Prop)(hw:oO HB vf p)(Q:∀f b i K,cj f b i K->I [] HB K)(B:∀f b i K T,cj f b i K->I [] K T->cj f b i T)(h0:cj 0 0 0 H)(N:∀f b i K,cj f b i K->∃t ro,Lv K dH (.cells 1 t ro)/\AV t 0 vf)(hf:∀f b i x M K,At p f b i x->cj f b i K->ku HB x M->CF E0 fv [wV f b i,.agg M] K λ v T=>v=bl true/\cj f b (i+1) T)(hb:∀f b fn bk K,p[f]?=some fn->fn.blocks[b]?=some bk->cj f b bk.code.length K->cj f (b+1) 0 K)(hg:∀f fn K,p[f]?=some fn->cj f fn.blocks.length 0 K->cj (f+1) 0 0 K):CN 132 [fv,.ptr dH 0] H λ _ K=>cj p.length 0 0 K:=by
 refine ba aqN rfl λ Q' hQ=>?_
 have⟨t,ro,O,U⟩:=N _ _ _ _ h0
 simp[O.get,U,hw.aN nf]
 refine CA (λ f sl K=>cj f 0 0 K/\AV sl 0 fv/\AV sl 1 (.ptr dH 0)/\AV sl 9 (ae p.length)/\AV sl 10 (ae f)/\f<=p.length) p.length ⟨h0,ζ⟩ ?_
 rintro b1 k1-cq f sl K ⟨h,w,s1,q,u,kH⟩ sO
 by_cases y:f<p.length
 .have⟨kQ,ig,kD,iR,n1,t1,py,kE,dc,cT,iy,eZ,eI⟩:=hw.at_ y
  obtain⟨vp,vb,rfl,eY,Z⟩:=eI;have⟨_,_,e1⟩:=uE eZ;have g1:=Q _ _ _ _ h;have⟨t,ro,O,U⟩:=N _ _ _ _ h;have KV:ig+f*3+2<n1:=ω
  simp[s1,q,u,y,O.get,U,dc,(cT.ai g1).get,e1,KV,Z.aN nh];refine CA (λ b sl K=>cj f b 0 K/\AV sl 0 fv/\AV sl 1 (.ptr dH 0)/\AV sl 9 (ae p.length)/\AV sl 10 (ae f)/\AV sl 3 (ae f)/\AV sl 19 (ae p[f].blocks.length)/\AV sl 20 (ae b)/\b<=p[f].blocks.length) (p[f].blocks.length) ⟨h,by simp[w,s1,q,u]⟩ ?_
  clear w s1 q u O U g1 h;rintro b2 k2-dO b sl K ⟨h,w,s1,q,u,s3,A,z,jM⟩ eJ;by_cases C:b<p[f].blocks.length
  .have⟨lJ,lU,rN,kY,n2,t2,qW,mR,fp,ck,gV,iz,iv⟩:=Z.at_ C;obtain⟨vc,rfl,W⟩:=iv;have⟨_,e2⟩:=JQ iz;have R:=Q _ _ _ _ h;have⟨t,ro,O,U⟩:=N _ _ _ _ h;have KW:lU+b*2+1<n2:=ω
   simp[s1,s3,A,z,y,C,O.get,U,dc,fp,(cT.ai R).get,e1,KV,(ck.ai R).get,e2,KW,W.aN nT];refine CA (λ i sl K=>cj f b i K/\AV sl 0 fv/\AV sl 1 (.ptr dH 0)/\AV sl 9 (ae p.length)/\AV sl 10 (ae f)/\AV sl 3 (ae f)/\AV sl 19 (ae p[f].blocks.length)/\AV sl 20 (ae b)/\AV sl 4 (ae b)/\AV sl 32 vc/\AV sl 33 (ae p[f].blocks[b].code.length)/\AV sl 34 (ae i)/\i<=p[f].blocks[b].code.length) (p[f].blocks[b].code.length) ⟨h,by simp[w,s1,q,u,s3,A,z]⟩ ?_
   clear w s1 q u s3 A z O U R h;rintro b3 k3-jU i sl K ⟨h,w,s1,q,u,s3,A,z,s4,jZ,Br,G,jf⟩ jg;by_cases F:i<p[f].blocks[b].code.length
   .have⟨yy,Aa,xJ,wv,n3,t3,Bq,BV,jD,fF,mM,kh,f_⟩:=W.at_ F;obtain⟨va,vl,rfl,iU,fo,oi⟩:=f_;have g3:=Q _ _ _ _ h;simp[w,s3,s4,jZ,Br,G,F,jD,(fF.ai g3).get,bY kh,mM,iU.cell,fo.cell];have gn:=λ o o'=>I.new (I.refl [] K) o o';refine vM (hf f b i p[f].blocks[b].code[i] _ _ ⟨_,_,bf y,bf C,bf F⟩ (B _ _ _ _ _ h (gn _ _)) ⟨va,vl,rfl,iU,fo,oi⟩) ?_;rintro v T ⟨rfl,og⟩;simp[G,bq (aT F W.cP)];exact jg ω ⟨og,by simp[w,s1,q,u,s3,A,z,s4,jZ,Br,dz F]⟩
   .obtain rfl:i=p[f].blocks[b].code.length:=ω
    subst jU;simp[Br,G,z,bq (aT C Z.cP)];exact eJ ω ⟨hb f b _ _ _ (bf y) (bf C) h,by simp[w,s1,q,u,s3,A,dz C]⟩
  .obtain rfl:b=p[f].blocks.length:=ω
   subst dO;simp[A,z,u,bq (aT y hw.cP)];exact sO ω ⟨hg f _ _ (bf y) h,by simp[w,s1,q,dz y]⟩
 .obtain rfl:f=p.length:=ω
  subst cq;simp[q,u];exact hQ h
end
variable{j:Nat}
abbrev Pt:=Nat×Nat×Nat
structure SM where
 p:List aQ
 vars:List (Int×aI)
 names:List aI
 sites:List (Pt×Int×Int)
 idx:Pt->Option Nat
 of:List Int
 a_:List Pt
variable{ay As:SM}
abbrev SM.var(S:SM)(f:Nat)(s:aI):SM:={S with vars:=lE S.vars ((f:Int),s)}
def SM.kq(S:SM)(q:Pt)(n:Int):SM:={S with sites:=S.sites++[(q,(S.of.length:Int),n)],idx:=λ h=>if h=q then some S.sites.length else S.idx h}
def SM.eA(S:SM)(k:Nat):SM:={S with of:=S.of++List.replicate k ((S.sites.length:Int)-1)}
def SM.iC(S:SM)(f b i:Nat)(x:bp):SM:=
 let q:SM:={S with a_:=S.a_++[(f,b,i)]}
 let h:=if x.dst=ByteArray.empty then q else q.var f x.dst
 if x.op=1\/x.op=2 then(h.kq (f,b,i) x.n).eA x.n.toNat else h
def SM.ins(S:SM)(f b:Nat)(code:List bp):Nat->SM
 |0=>S|i+1=>match code[i]? with|some x=>(SM.ins S f b code i).iC f b i x|none=>SM.ins S f b code i
def SM.bF(S:SM)(f:Nat)(bs:List cU):Nat->SM
 |0=>S|b+1=>match bs[b]? with|some bk=>(SM.bF S f bs b).ins f b bk.code bk.code.length|none=>SM.bF S f bs b
def SM.par(S:SM)(f:Nat)(ps:List aI):Nat->SM
 |0=>S|j+1=>match ps[j]? with|some s=>(SM.par S f ps j).var f s|none=>SM.par S f ps j
def SM.CQ(S:SM)(f:Nat)(fn:aQ):SM:=(({S with names:=lE S.names fn.name}:SM).par f fn.params fn.params.length).bF f fn.blocks fn.blocks.length
def SM.run(p:List aQ):Nat->SM
 |0=>⟨p,[],[],[],λ _=>none,[],[]⟩|f+1=>match p[f]? with|some fn=>(SM.run p f).CQ f fn|none=>SM.run p f
def bj(p:List aQ):SM:=SM.run p p.length
def SM.le(S ay:SM):Prop:=S.vars.length<=ay.vars.length/\S.names.length<=ay.names.length/\S.sites.length<=ay.sites.length/\S.of.length<=ay.of.length/\S.a_.length<=ay.a_.length
def SM.le.refl(S:SM):S.le S:=⟨aF,aF,aF,aF,aF⟩
def SM.le.trans{S:SM}(h:S.le ay)(g:ay.le As):S.le As:=⟨aY h.1 g.1,aY h.2.1 g.2.1,aY h.2.2.1 g.2.2.1,aY h.2.2.2.1 g.2.2.2.1,aY h.2.2.2.2 g.2.2.2.2⟩
def aeR[DecidableEq α](L:List α)(k:α):L.length<=(lE L k).length:=by unfold lE;split<;>simp
def SM.le.var(S:SM)(f:Nat)(s:aI):S.le (S.var f s):=⟨aeR _ _,aF,aF,aF,aF⟩
def SM.le.kq(S:SM)(q:Pt)(n:Int):S.le (S.kq q n):=⟨aF,aF,by simp[SM.kq],aF,aF⟩
def SM.le.eA(S:SM)(k:Nat):S.le (S.eA k):=⟨aF,aF,aF,by simp[SM.eA],aF⟩
def SM.le.pt(S:SM)(q:Pt):S.le {S with a_:=S.a_++[q]}:=⟨aF,aF,aF,aF,ζ⟩
def SM.le.iC(S:SM)(f b i:Nat)(x:bp):S.le (S.iC f b i x):=by
 unfold SM.iC;dsimp only;split<;>split
 .exact(SM.le.pt S _).trans ((SM.le.kq _ _ _).trans (SM.le.eA _ _))
 .exact((SM.le.pt S _).trans (SM.le.var _ _ _)).trans ((SM.le.kq _ _ _).trans (SM.le.eA _ _))
 .exact(SM.le.pt S _)
 .exact(SM.le.pt S _).trans (SM.le.var _ _ _)
def SM.le.awP(S:SM)(f b:Nat)(code:List bp)(i:Nat):(S.ins f b code i).le (S.ins f b code (i+1)):=by
 simp only[SM.ins];split
 .exact SM.le.iC _ _ _ _ _
 .exact SM.le.refl _
def SM.le.ins(S:SM)(f b:Nat)(code:List bp)(h:i<=j):(S.ins f b code i).le (S.ins f b code j):=by induction h with|refl=>exact SM.le.refl _|step _ q=>exact q.trans (SM.le.awP _ _ _ _ _)
def SM.le.bF(S:SM)(f:Nat)(bs:List cU)(h:i<=j):(S.bF f bs i).le (S.bF f bs j):=by
 induction h with
 |refl=>exact SM.le.refl _
 |@step m _ q=>
  refine q.trans ?_
  simp only[SM.bF];split
  .exact SM.le.ins _ _ _ _ (i:=0) (dQ _)
  .exact SM.le.refl _
def SM.le.par(S:SM)(f:Nat)(ps:List aI)(h:i<=j):(S.par f ps i).le (S.par f ps j):=by
 induction h with
 |refl=>exact SM.le.refl _
 |@step m _ q=>
  refine q.trans ?_
  simp only[SM.par];split
  .exact SM.le.var _ _ _
  .exact SM.le.refl _
def SM.le.name(S:SM)(s:aI):S.le {S with names:=lE S.names s}:=⟨aF,aeR _ _,aF,aF,aF⟩
def SM.le.run(p:List aQ)(h:i<=j):(SM.run p i).le (SM.run p j):=by
 induction h with
 |refl=>exact SM.le.refl _
 |@step m _ q=>
  refine q.trans ?_
  simp only[SM.run];split
  .exact(SM.le.name _ _).trans ((SM.le.par _ _ _ (i:=0) (dQ _)).trans (SM.le.bF _ _ _ (i:=0) (dQ _)))
  .exact SM.le.refl _
def SM.cur(S:SM)(f:Nat)(bs:List cU)(b i:Nat):SM:=match bs[b]? with|some bk=>(S.bF f bs b).ins f b bk.code i|none=>S.bF f bs b
def SM.ZD(S:SM)(f:Nat)(bs:List cU)(b:Nat):S.cur f bs b 0=S.bF f bs b:=by unfold SM.cur;split<;>rfl
def SM.ao6(S:SM)(f:Nat)(bs:List cU){bk:cU}(h:bs[b]?=some bk):S.cur f bs (b+1) 0=S.cur f bs b bk.code.length:=by rw[SM.ZD];simp[SM.cur,SM.bF,h]
def SM.ao7(S:SM)(f:Nat)(bs:List cU){bk:cU}(h:bs[b]?=some bk)(Z:bk.code[i]?=some x):S.cur f bs b (i+1)=(S.cur f bs b i).iC f b i x:=by simp[SM.cur,SM.ins,h,Z]
def SM.ao5(S:SM)(f:Nat)(bs:List cU){bk:cU}(h:bs[b]?=some bk)(A:i<=bk.code.length):(S.cur f bs b i).le (S.bF f bs bs.length):=by
 have q:b<bs.length:=by rw[cW]at h;exact h.1
 have e:S.bF f bs (b+1)=(S.bF f bs b).ins f b bk.code bk.code.length:=by simp[SM.bF,h]
 simp only[SM.cur,h];refine(SM.le.ins _ _ _ _ A).trans ?_;rw[<-e];exact SM.le.bF _ _ _ q
abbrev yI(q:Pt):AU:=[ae q.1,ae q.2.1,ae q.2.2]
abbrev Ae(s:Pt×Int×Int):AU:=[ae s.1.1,ae s.1.2.1,ae s.1.2.2,ae s.2.1,ae s.2.2]
abbrev qU(q:Pt):aC:=.agg ⟨[.int .i64 q.1,.int .i64 q.2.1,.int .i64 q.2.2]⟩
abbrev ajT:KS:=.agg [.i .i64,.i .i64,.i .i64]
def Sw(q:Pt):KP ajT (qU q):=⟨_,rfl,ζ⟩
def aCl{a b:Pt}:qU a=qU b↔a=b:=by
 constructor
 .intro h;simp only[qU,Value.agg.injEq,Ym,KA,Value.int.injEq,KN,OH]at h;have⟨O,U,F⟩:=h;exact Prod.ext ω (Prod.ext ω ω)
 .rintro rfl;rfl
theorem ZZ:∀{L:List Pt},(L.flatMap yI).length=L.length*3
 |[]=>rfl|a::l=>by rw[BN,iP,ZZ (L:=l)];simp;omega
theorem Ps:∀{L:List (Pt×Int×Int)},(L.flatMap Ae).length=L.length*5
 |[]=>rfl|a::l=>by rw[BN,iP,Ps (L:=l)];simp;omega
structure qg(au:Nat->Prop)(K:D)(id:Nat)(vf:J)(cY cM mid:Nat)(S:SM)(t:Tr J)(sv ov pv:J)(X1 X2 i3 i5 i6:List Nat)(l:List AE)(c:Nat->Nat):Prop where
 ob:Lv K id (.cells 7 t false)
 t0:AV t 0 vf
 t1:AV t 1 (.ptr cY 0)
 t2:AV t 2 (.ptr cM 0)
 t3:AV t 3 sv
 t4:AV t 4 (.map mid)
 t5:AV t 5 ov
 t6:AV t 6 pv
 vars:FH K cY S.vars X1
 names:Kq K cM S.names X2
 sites:aX K 5 sv (S.sites.flatMap Ae) i3
 idx:FG K mid 48 ajT l
 qB:∀q,cH (qU q) l=(S.idx q).map λ k=>ae ((k:Nat):Int)
 of:aX K 1 ov (aZ S.of) i5
 a_:aX K 3 pv (S.a_.flatMap yI) i6
 c0:c id=0/\¬au id
 c1:∀y∈X1,c y=1/\¬au y/\y<K.ab
 c2:∀y∈X2,c y=2/\¬au y/\y<K.ab
 c3:∀y∈i3,c y=3/\¬au y/\y<K.ab
 c4:c mid=4/\¬au mid
 c5:∀y∈i5,c y=5/\¬au y/\y<K.ab
 c6:∀y∈i6,c y=6/\¬au y/\y<K.ab
 cF:∀y,au y->y<K.ab
def ly(au:Nat->Prop)(K:D)(id:Nat)(vf:J)(cY cM mid:Nat)(S:SM):Prop:=∃t sv ov pv X1 X2 i3 i5 i6 l c,qg au K id vf cY cM mid S t sv ov pv X1 X2 i3 i5 i6 l c
def oV(c:Nat->Nat)(n k:Nat):Nat->Nat:=λ y=>if y<n then c y else k
section
variable{au:Nat->Prop}{K T:D}{id:Nat}{vf:J}{cY cM mid:Nat}{S:SM}{t:CX}{sv ov pv:J}{X1 X2 i3 i5 i6:AT}{l:List AE}{c:Nat->Nat}
def qg.W{cL:AT}(h:qg au K id vf cY cM mid S t sv ov pv X1 X2 i3 i5 i6 l c)(g:I cL K T)(w:∀z∈cL,au z):qg au T id vf cY cM mid S t sv ov pv X1 X2 i3 i5 i6 l c:=by have a0:id∉cL:=λ B=>h.c0.2 (w _ B);have a4:mid∉cL:=λ B=>h.c4.2 (w _ B);have v:∀{X:AT} {k:Nat},(∀y∈X,c y=k/\¬au y/\y<K.ab)->∀y∈X,y∉cL:=λ q y G B=>(q y G).2.1 (w _ B);have u:∀{X:AT} {k:Nat},(∀y∈X,c y=k/\¬au y/\y<K.ab)->∀y∈X,c y=k/\¬au y/\y<T.ab:=λ q y G=>⟨(q y G).1,(q y G).2.1,aT (q y G).2.2 g.ab⟩;exact{ob:=h.ob.W g a0,t0:=h.t0,t1:=h.t1,t2:=h.t2,t3:=h.t3,t4:=h.t4,t5:=h.t5,t6:=h.t6,vars:=h.vars.W g (v h.c1),names:=h.names.W g (v h.c2),sites:=h.sites.W g (v h.c3),idx:=h.idx.W g a4,qB:=h.qB,of:=h.of.W g (v h.c5),a_:=h.a_.W g (v h.c6),c0:=h.c0,c1:=u h.c1,c2:=u h.c2,c3:=u h.c3,c4:=h.c4,c5:=u h.c5,c6:=u h.c6,cF:=λ y G=>aT (h.cF y G) g.ab}
def ly.W{cL:AT}(h:ly au K id vf cY cM mid S)(g:I cL K T)(q:∀z∈cL,au z):ly au T id vf cY cM mid S:=by have⟨t,sv,ov,pv,X1,X2,i3,i5,i6,l,c,h⟩:=h;exact⟨t,sv,ov,pv,X1,X2,i3,i5,i6,l,c,h.W g q⟩
def ly.for(h:ly au K id vf cY cM mid S)(g:I [] K T)(A:n<=T.ab):ly (λ y=>au y\/(K.ab<=y/\y<n)) T id vf cY cM mid S:=by have⟨t,sv,ov,pv,X1,X2,i3,i5,i6,l,c,u⟩:=h;have⟨c',z⟩:=u.idx.ob;have h:=u.W g ζ;have v:∀{X:AT} {k:Nat},(∀y∈X,c y=k/\¬au y/\y<K.ab)->∀y∈X,c y=k/\¬(au y\/(K.ab<=y/\y<n))/\y<T.ab:=λ w y G=>⟨(w y G).1,λ q=>q.elim (w y G).2.1 λ q=>by have:=(w y G).2.2;omega,aT (w y G).2.2 g.ab⟩;exact⟨t,sv,ov,pv,X1,X2,i3,i5,i6,l,c,{ob:=h.ob,t0:=h.t0,t1:=h.t1,t2:=h.t2,t3:=h.t3,t4:=h.t4,t5:=h.t5,t6:=h.t6,vars:=h.vars,names:=h.names,sites:=h.sites,idx:=h.idx,qB:=h.qB,of:=h.of,a_:=h.a_,c0:=⟨h.c0.1,λ q=>q.elim h.c0.2 λ q=>by have:=u.ob.lt;omega⟩,c1:=v u.c1,c2:=v u.c2,c3:=v u.c3,c4:=⟨h.c4.1,λ q=>q.elim h.c4.2 λ q=>by have:=z.lt;omega⟩,c5:=v u.c5,c6:=v u.c6,cF:=λ y G=>G.elim (h.cF y) λ G=>by omega}⟩
def ly.less(h:ly au K id vf cY cM mid S)(v:∀y,F' y->au y):ly F' K id vf cY cM mid S:=by have⟨t,sv,ov,pv,X1,X2,i3,i5,i6,l,c,h⟩:=h;have u:∀{X:AT} {k:Nat},(∀y∈X,c y=k/\¬au y/\y<K.ab)->∀y∈X,c y=k/\¬F' y/\y<K.ab:=λ w y G=>⟨(w y G).1,λ q=>(w y G).2.1 (v y q),(w y G).2.2⟩;exact⟨t,sv,ov,pv,X1,X2,i3,i5,i6,l,c,{ob:=h.ob,t0:=h.t0,t1:=h.t1,t2:=h.t2,t3:=h.t3,t4:=h.t4,t5:=h.t5,t6:=h.t6,vars:=h.vars,names:=h.names,sites:=h.sites,idx:=h.idx,qB:=h.qB,of:=h.of,a_:=h.a_,c0:=⟨h.c0.1,λ q=>h.c0.2 (v _ q)⟩,c1:=u h.c1,c2:=u h.c2,c3:=u h.c3,c4:=⟨h.c4.1,λ q=>h.c4.2 (v _ q)⟩,c5:=u h.c5,c6:=u h.c6,cF:=λ y G=>h.cF y (v y G)}⟩
def qp(h:∀y∈X,c y=dH/\¬au y/\y<K.ab)(q:K.ab<=T.ab):∀y∈X,oV c K.ab j y=dH/\¬au y/\y<T.ab:=λ y G=>by have⟨O,U,F⟩:=h y G;exact⟨by unfold oV;rw[aq F];exact O,U,ω⟩
def O'(z:∀y∈X,c y=dH/\¬au y/\y<K.ab)(v:∀y,au y->y<K.ab)(u:∀y∈aH,y∈X\/K.ab<=y)(q:∀y∈aH,y<T.ab):∀y∈aH,oV c K.ab dH y=dH/\¬au y/\y<T.ab:=λ y G=>by
 rcases u y G with h|h
 .have⟨O,U,F⟩:=z y h;exact⟨by unfold oV;rw[aq F];exact O,U,q y G⟩
 .exact⟨by unfold oV;rw[ao ω],λ w=>by have:=v y w;omega,q y G⟩
def qo(u:∀y∈X,c y=dH/\¬au y/\y<K.ab)(q:∀y∈aH,c y=j/\¬au y/\y<K.ab)(h:j≠dH):∀y∈X,y∉aH:=λ y G B=>h ((q y B).1.symm.trans (u y G).1)
def xL(u:c dH=b)(q:∀y∈aH,c y=j/\¬au y/\y<K.ab)(h:j≠b):dH∉aH:=λ B=>h ((q dH B).1.symm.trans u)
def HI.lt[DecidableEq α]{key:α->aC}{cells:α->AU}{kt:aS}{ks:KS}(h:HI key cells kt ks es K id L X):∀y∈X,y<K.ab:=by
 obtain⟨m,aH,t,w,l,rfl,O,U,F,u,⟨⟨c,q⟩,_⟩,_⟩:=h.ob;intro y G;simp only[cZ]at G;rcases G with rfl|rfl|G
 .exact O.lt
 .exact q.lt
 .exact u.lt y G
def qg.vars'(h:qg au K id vf cY cM mid S t sv ov pv X1 X2 i3 i5 i6 l c)(g:I X1 K T)(u:FH T cY V aH)(v:∀y∈aH,y∈X1\/K.ab<=y):ly au T id vf cY cM mid {S with vars:=V}:=by have w:=h.cF;have q:=g.ab;have e0:c mid=4:=h.c4.1;have⟨c',z⟩:=h.idx.ob;exact⟨t,sv,ov,pv,aH,X2,i3,i5,i6,l,oV c K.ab 1,{ob:=h.ob.W g (xL h.c0.1 h.c1 ω),t0:=h.t0,t1:=h.t1,t2:=h.t2,t3:=h.t3,t4:=h.t4,t5:=h.t5,t6:=h.t6,vars:=u,names:=h.names.W g (qo h.c2 h.c1 ω),sites:=h.sites.W g (qo h.c3 h.c1 ω),idx:=h.idx.W g (xL e0 h.c1 ω),qB:=h.qB,of:=h.of.W g (qo h.c5 h.c1 ω),a_:=h.a_.W g (qo h.c6 h.c1 ω),c0:=⟨by unfold oV;rw[aq h.ob.lt];exact h.c0.1,h.c0.2⟩,c1:=O' h.c1 w v u.lt,c2:=qp h.c2 q,c3:=qp h.c3 q,c4:=⟨by unfold oV;rw[aq z.lt];exact e0,h.c4.2⟩,c5:=qp h.c5 q,c6:=qp h.c6 q,cF:=λ y G=>aT (h.cF y G) q}⟩
def qg.ayV{V:List aI}(h:qg au K id vf cY cM mid S t sv ov pv X1 X2 i3 i5 i6 l c)(g:I X2 K T)(u:Kq T cM V aH)(v:∀y∈aH,y∈X2\/K.ab<=y):ly au T id vf cY cM mid {S with names:=V}:=by have w:=h.cF;have q:=g.ab;have e0:c mid=4:=h.c4.1;have⟨c',z⟩:=h.idx.ob;exact⟨t,sv,ov,pv,X1,aH,i3,i5,i6,l,oV c K.ab 2,{ob:=h.ob.W g (xL h.c0.1 h.c2 ω),t0:=h.t0,t1:=h.t1,t2:=h.t2,t3:=h.t3,t4:=h.t4,t5:=h.t5,t6:=h.t6,vars:=h.vars.W g (qo h.c1 h.c2 ω),names:=u,sites:=h.sites.W g (qo h.c3 h.c2 ω),idx:=h.idx.W g (xL e0 h.c2 ω),qB:=h.qB,of:=h.of.W g (qo h.c5 h.c2 ω),a_:=h.a_.W g (qo h.c6 h.c2 ω),c0:=⟨by unfold oV;rw[aq h.ob.lt];exact h.c0.1,h.c0.2⟩,c1:=qp h.c1 q,c2:=O' h.c2 w v u.lt,c3:=qp h.c3 q,c4:=⟨by unfold oV;rw[aq z.lt];exact e0,h.c4.2⟩,c5:=qp h.c5 q,c6:=qp h.c6 q,cF:=λ y G=>aT (h.cF y G) q}⟩
def qg.aa1{q:Pt}{k:Nat}{b':Nat}(h:qg au K id vf cY cM mid S t sv ov pv X1 X2 i3 i5 i6 l c):ly au (K.put mid (some (.map 48 b' (eD b (qU q) (ae (k:Int)) l)))) id vf cY cM mid {S with idx:=λ u=>if u=q then some k else S.idx u}:=by
 have g:I [mid] K (K.put mid (some (.map 48 b' (eD b (qU q) (ae (k:Int)) l)))):=aw.put (.inr ζ);have e0:c mid=4:=h.c4.1;have⟨c',A⟩:=h.idx.ob;have ne:∀{X:AT} {j:Nat},(∀y∈X,c y=j/\¬au y/\y<K.ab)->j≠4->∀y∈X,y∉[mid]:=λ z w y G B=>by simp at B;subst B;exact w ((z y G).1.symm.trans e0)
 have v:∀u,cH (qU u) (eD b (qU q) (ae (k:Int)) l)=(if u=q then some k else S.idx u).map λ k=>ae ((k:Nat):Int):=λ u=>by
  rw[Bb (Sw _) (Sw _),aCl];by_cases e:u=q
  .simp[e]
  .simp[e,h.qB]
 exact⟨t,sv,ov,pv,X1,X2,i3,i5,i6,_,c,{ob:=h.ob.W g (by simp;rintro rfl;have:=h.c0.1;omega),t0:=h.t0,t1:=h.t1,t2:=h.t2,t3:=h.t3,t4:=h.t4,t5:=h.t5,t6:=h.t6,vars:=h.vars.W g (ne h.c1 ω),names:=h.names.W g (ne h.c2 ω),sites:=h.sites.W g (ne h.c3 ω),idx:=⟨⟨b',A.put_eq⟩,Jx (Sw _) h.idx.kp,Dq (Sw _) h.idx.nd⟩,qB:=v,of:=h.of.W g (ne h.c5 ω),a_:=h.a_.W g (ne h.c6 ω),c0:=h.c0,c1:=h.c1,c2:=h.c2,c3:=h.c3,c4:=h.c4,c5:=h.c5,c6:=h.c6,cF:=h.cF}⟩
def qg.aEL{V:List (Pt×Int×Int)}(h:qg au K id vf cY cM mid S t sv ov pv X1 X2 i3 i5 i6 l c)(g:I i3 K T)(w:aX T 5 fv (V.flatMap Ae) aH)(z:∀y∈aH,y∈i3\/K.ab<=y):ly au (T.put id (some (.cells 7 (t.put 3 (some fv)) false))) id vf cY cM mid {S with sites:=V}:=by
 have q:I [id] T (T.put id (some (.cells 7 (t.put 3 (some fv)) false))):=aw.put (.inr ζ);have J:=h.cF;have u:=g.ab;have C:=w.lt;have e0:c mid=4:=h.c4.1;have A:c id=0:=h.c0.1;have⟨c',N⟩:=h.idx.ob;have Q:=h.ob.W g (xL h.c0.1 h.c3 ω);have v:∀{X:AT} {j:Nat},(∀y∈X,c y=j/\¬au y/\y<K.ab)->j≠0->∀y∈X,y∉[id]:=λ F D y G B=>by simp at B;subst B;exact D ((F y G).1.symm.trans A)
 have np:∀y∈aH,y∉[id]:=λ y G B=>by
  simp at B;subst B;rcases z _ G with O|O
  .exact absurd ((h.c3 _ O).1.symm.trans A) ω
  .have:=h.ob.lt;omega
 exact⟨(t.put 3 (some fv)),fv,ov,pv,X1,X2,aH,i5,i6,l,oV c K.ab 3,{ob:=Q.put_eq,t0:=by simp[h.t0],t1:=by simp[h.t1],t2:=by simp[h.t2],t3:=ζ,t4:=by simp[h.t4],t5:=by simp[h.t5],t6:=by simp[h.t6],vars:=(h.vars.W g (qo h.c1 h.c3 ω)).W q (v (j:=1) h.c1 ω),names:=(h.names.W g (qo h.c2 h.c3 ω)).W q (v (j:=2) h.c2 ω),sites:=w.W q np,idx:=(h.idx.W g (xL e0 h.c3 ω)).W q (by simp;rintro rfl;omega),qB:=h.qB,of:=(h.of.W g (qo h.c5 h.c3 ω)).W q (v (j:=5) h.c5 ω),a_:=(h.a_.W g (qo h.c6 h.c3 ω)).W q (v (j:=6) h.c6 ω),c0:=⟨by unfold oV;rw[aq h.ob.lt];exact h.c0.1,h.c0.2⟩,c1:=qp h.c1 u,c2:=qp h.c2 u,c3:=O' h.c3 J z C,c4:=⟨by unfold oV;rw[aq N.lt];exact e0,h.c4.2⟩,c5:=qp h.c5 u,c6:=qp h.c6 u,cF:=λ y G=>aT (h.cF y G) u}⟩
def qg.of'{V:List (Int)}(h:qg au K id vf cY cM mid S t sv ov pv X1 X2 i3 i5 i6 l c)(g:I i5 K T)(w:aX T 1 fv (aZ V) aH)(z:∀y∈aH,y∈i5\/K.ab<=y):ly au (T.put id (some (.cells 7 (t.put 5 (some fv)) false))) id vf cY cM mid {S with of:=V}:=by
 have q:I [id] T (T.put id (some (.cells 7 (t.put 5 (some fv)) false))):=aw.put (.inr ζ);have J:=h.cF;have u:=g.ab;have C:=w.lt;have e0:c mid=4:=h.c4.1;have A:c id=0:=h.c0.1;have⟨c',N⟩:=h.idx.ob;have Q:=h.ob.W g (xL h.c0.1 h.c5 ω);have v:∀{X:AT} {j:Nat},(∀y∈X,c y=j/\¬au y/\y<K.ab)->j≠0->∀y∈X,y∉[id]:=λ F D y G B=>by simp at B;subst B;exact D ((F y G).1.symm.trans A)
 have np:∀y∈aH,y∉[id]:=λ y G B=>by
  simp at B;subst B;rcases z _ G with O|O
  .exact absurd ((h.c5 _ O).1.symm.trans A) ω
  .have:=h.ob.lt;omega
 exact⟨(t.put 5 (some fv)),sv,fv,pv,X1,X2,i3,aH,i6,l,oV c K.ab 5,{ob:=Q.put_eq,t0:=by simp[h.t0],t1:=by simp[h.t1],t2:=by simp[h.t2],t3:=by simp[h.t3],t4:=by simp[h.t4],t5:=ζ,t6:=by simp[h.t6],vars:=(h.vars.W g (qo h.c1 h.c5 ω)).W q (v (j:=1) h.c1 ω),names:=(h.names.W g (qo h.c2 h.c5 ω)).W q (v (j:=2) h.c2 ω),sites:=(h.sites.W g (qo h.c3 h.c5 ω)).W q (v (j:=3) h.c3 ω),idx:=(h.idx.W g (xL e0 h.c5 ω)).W q (by simp;rintro rfl;omega),qB:=h.qB,of:=w.W q np,a_:=(h.a_.W g (qo h.c6 h.c5 ω)).W q (v (j:=6) h.c6 ω),c0:=⟨by unfold oV;rw[aq h.ob.lt];exact h.c0.1,h.c0.2⟩,c1:=qp h.c1 u,c2:=qp h.c2 u,c3:=qp h.c3 u,c4:=⟨by unfold oV;rw[aq N.lt];exact e0,h.c4.2⟩,c5:=O' h.c5 J z C,c6:=qp h.c6 u,cF:=λ y G=>aT (h.cF y G) u}⟩
def qg.aCm{V:List (Pt)}(h:qg au K id vf cY cM mid S t sv ov pv X1 X2 i3 i5 i6 l c)(g:I i6 K T)(w:aX T 3 fv (V.flatMap yI) aH)(z:∀y∈aH,y∈i6\/K.ab<=y):ly au (T.put id (some (.cells 7 (t.put 6 (some fv)) false))) id vf cY cM mid {S with a_:=V}:=by
 have q:I [id] T (T.put id (some (.cells 7 (t.put 6 (some fv)) false))):=aw.put (.inr ζ);have J:=h.cF;have u:=g.ab;have C:=w.lt;have e0:c mid=4:=h.c4.1;have A:c id=0:=h.c0.1;have⟨c',N⟩:=h.idx.ob;have Q:=h.ob.W g (xL h.c0.1 h.c6 ω);have v:∀{X:AT} {j:Nat},(∀y∈X,c y=j/\¬au y/\y<K.ab)->j≠0->∀y∈X,y∉[id]:=λ F D y G B=>by simp at B;subst B;exact D ((F y G).1.symm.trans A)
 have np:∀y∈aH,y∉[id]:=λ y G B=>by
  simp at B;subst B;rcases z _ G with O|O
  .exact absurd ((h.c6 _ O).1.symm.trans A) ω
  .have:=h.ob.lt;omega
 exact⟨(t.put 6 (some fv)),sv,ov,fv,X1,X2,i3,i5,aH,l,oV c K.ab 6,{ob:=Q.put_eq,t0:=by simp[h.t0],t1:=by simp[h.t1],t2:=by simp[h.t2],t3:=by simp[h.t3],t4:=by simp[h.t4],t5:=by simp[h.t5],t6:=ζ,vars:=(h.vars.W g (qo h.c1 h.c6 ω)).W q (v (j:=1) h.c1 ω),names:=(h.names.W g (qo h.c2 h.c6 ω)).W q (v (j:=2) h.c2 ω),sites:=(h.sites.W g (qo h.c3 h.c6 ω)).W q (v (j:=3) h.c3 ω),idx:=(h.idx.W g (xL e0 h.c6 ω)).W q (by simp;rintro rfl;omega),qB:=h.qB,of:=(h.of.W g (qo h.c5 h.c6 ω)).W q (v (j:=5) h.c5 ω),a_:=w.W q np,c0:=⟨by unfold oV;rw[aq h.ob.lt];exact h.c0.1,h.c0.2⟩,c1:=qp h.c1 u,c2:=qp h.c2 u,c3:=qp h.c3 u,c4:=⟨by unfold oV;rw[aq N.lt];exact e0,h.c4.2⟩,c5:=qp h.c5 u,c6:=O' h.c6 J z C,cF:=λ y G=>aT (h.cF y G) u}⟩
end
def Hf:Code->Option Code
 |.rangeFunc _ _ _ bd=>some bd|.seq a b=>match Hf a with|some x=>some x|none=>Hf b
 |.cond _ a b=>match Hf a with|some x=>some x|none=>Hf b
 |.block _ a=>Hf a|.loop a=>Hf a|_=>none
def aez(f:Func)(bd:Code):Prop:=∃c,f.body=some c/\Hf c=some bd
theorem aX.fy{H:D}{es:Nat}{v:J}{M:AU}{aH:AT}(h:aX H es v M aH):Go.Proofs.YtgipmaoplfkdoaaGreatDoor.fy v v=true:=by cases h<;>simp
structure tD(au:Nat->Prop)(z:Nat)(K T:D):Prop where
 ab:K.ab<=T.ab
 get:∀y,au y->y≠z->T.get y=K.get y
def tD.of(v:∀y,F' y->y<K.ab)(g:I aH K T)(q:∀y∈aH,y=dH\/¬F' y):tD F' dH K T:=⟨g.ab,λ y G u=>g.get y (v y G) λ B=>(q y B).elim u λ h=>h G⟩
theorem tD.trans{au:Nat->Prop}{z:Nat}{K T dP:D}(h:tD au z K T)(g:tD au z T dP):tD au z K dP:=⟨aY h.ab g.ab,λ y G q=>(g.get y G q).trans (h.get y G q)⟩
def tD.lv(g:tD F' dH K T)(h:Lv K b o)(G:F' b)(q:b≠dH):Lv T b o:=⟨aT h.lt g.ab,(g.get b G q).trans h.get⟩
def aes{a b:Code}{k:List fg}(aR:aE->D->Prop)(O:∀q:dE->aE->D->Prop,(∀an H',aR an H'->q .normal an H')->CB xv E a b [] Y H q)(U:∀an H',aR an H'->aD E k an H' aj):CB xv E a b k Y H aj:=by
 have⟨c,Z,v,w⟩:=O (λ ex an H'=>ex=.normal/\aR an H') λ _ _ h=>⟨rfl,h⟩;refine⟨c,Z,λ e=>?_,λ e=>?_⟩
 .exact Ap 1 aR (λ q u=>(v e).mono λ ex an H' h=>by obtain⟨rfl,h⟩:=h;exact u _ _ h) U
 .exact Ap 1 aR (λ q u=>(w e).mono λ ex an H' h=>by obtain⟨rfl,h⟩:=h;exact u _ _ h) U
def Oi(au:Nat->Prop)(K:D)(id:Nat)(vf:J)(cY cM mid:Nat)(S:SM)(c9 bx fb wq:Nat)(tb tf t9 pC:CX)(s:CX)(h:D):Prop:=ly au h id vf cY cM mid S/\tD au c9 K h/\s.get 4=some (.ptr bx 0)/\s.get 5=some (.ptr fb 0)/\s.get 9=some (.ptr c9 0)/\s.get 10=some (.ptr wq 0)/\Lv h bx (.cells 1 tb false)/\Lv h fb (.cells 1 tf false)/\Lv h c9 (.cells 3 t9 false)/\Lv h wq (.cells 8 pC false)
section
variable{au:Nat->Prop}{K:D}{id:Nat}{vf:J}{cY cM mid:Nat}{S:SM}
def ay6(Gy:aez Tryz.f14 bd){f:Nat}{c9 wq:Nat}(hN:ly au K id vf cY cM mid S)(Z:x.op=1\/x.op=2->0<=x.n/\x.n<=64)(awt:S.vars.length<=1048576)(ain:S.sites.length<=1048576)(Da:S.of.length<=1048576-64)(aIo:S.a_.length<=1048576)(s4:t2.get 4=some (.ptr c2 0))(s5:t2.get 5=some (.ptr m 0))(s9:t2.get 9=some (.ptr c9 0))(bt:t2.get 10=some (.ptr wq 0))(lb:Lv K c2 (.cells 1 tb false))(uM:tb.get 0=some (.ptr id 0))(lf:Lv K m (.cells 1 tf false))(J8:tf.get 0=some (ae (f:Nat)))(l9:Lv K c9 (.cells 3 t9 false))(r9:bc t9 0 3=some [ae 0,ae (b:Nat),ae (i:Nat)])(l10:Lv K wq (.cells 8 pC false))(RD:bc pC 0 8=some [u8 x.op,str x.dst,str x.a,str x.b,ae x.n,str x.fn,fv,vl])(Fb:au c2)(Ff:au m)(F9:au c9)(DM:au wq)(n1:c2≠c9)(n2:m≠c9)(n3:wq≠c9):aD E0 [.code bd] ⟨t2,164,[],r,14⟩ K λ ex _ T=>ex=.normal/\ly au T id vf cY cM mid (S.iC f b i x)/\tD au c9 K T:=by
 have⟨c,hc,hb⟩:=Gy
 simp only[Tryz.f14,zi]at hc
 subst hc
 simp only[Hf,zi]at hb
 subst hb
 have⟨u0,u1,u2⟩:=uE r9
 have⟨_,q⟩:=iB.1 RD
 have q0:pC.get 0=some (u8 x.op):=by simpa using q 0 ω
 have q1:pC.get 1=some (str x.dst):=by simpa using q 1 ω
 have q4:pC.get 4=some (ae x.n):=by simpa using q 4 ω
 suffices h:∀Q':dE->aE->D->Prop,(∀Y T,ly au T id vf cY cM mid (S.iC f b i x)/\tD au c9 K T->Q' .normal Y T)->aD E0 _ _ _ Q' from h _ λ Y T h=>⟨rfl,h⟩
 intro Q' hQ
 have⟨t,sv,ov,pv,X1,X2,i3,i5,i6,l,cc,u⟩:=hN
 have hF:=u.cF
 have h9:¬c9=c2:=λ h=>n1 h.symm
 have h8:¬id=c9:=λ h=>u.c0.2 (h▸F9)
 simp[-cX,s4,s5,s9,lb.get,uM,lf.get,J8,l9.get,u1,u2,u.ob.get,u.t6,n1,h8]
 generalize dU:D.add _ _=Ka
 have F:I [c9] K Ka:=by rw[<-dU];exact(aw.put (.inr ζ)).add _
 have la:∃tn,Lv Ka K.ab (.cells 3 tn false)/\bc tn 0 3=some [ae (f:Nat),ae (b:Nat),ae (i:Nat)]:=by rw[<-dU];exact⟨_,Lv.new (H:=K.put _ _),by simp[bc]⟩
 have Q3:∃t,Lv Ka c9 (.cells 3 t false)/\bc t 0 3=some [ae (f:Nat),ae (b:Nat),ae (i:Nat)]:=by rw[<-dU];exact⟨_,(l9.put_eq).add,by simp[bc,u1,u2]⟩
 clear dU
 have⟨tn,la,lr⟩:=la
 have⟨R8,Q3,W8⟩:=Q3
 have w:=u.W F (λ z hz=>by simp at hz;subst hz;exact F9)
 have GY:=lb.W F (by simpa using n1)
 have Nh:=lf.W F (by simpa using n2)
 have M_:=l10.W F (by simpa using n3)
 have gF1:tD au c9 K Ka:=.of hF F λ y G=>by simp at G;exact .inl G
 refine Fh XD aef ω w.a_ la.get aF lr rfl (λ x Z=>by rw[ZZ]at Z;omega) (λ x Z=>by rw[ZZ]at Z;omega) ?_
 intro v' K3 ii p1 v p3
 have Rg:∀{y:Nat},au y->y∉i6:=λ G B=>(w.c6 _ B).2.1 G
 have Nc:=GY.W v (Rg Fb)
 have lf3:=Nh.W v (Rg Ff)
 have l93:=Q3.W v (Rg F9)
 have abi:=M_.W v (Rg DM)
 have Nj:=w.ob.W v (xL w.c0.1 w.c6 ω)
 have AJ:tD au c9 Ka K3:=.of w.cF v λ y G=>.inr λ h=>Rg h G
 have Gp:=w.aCm (V:=S.a_++[(f,b,i)]) v (by simpa using p1) p3
 have R:I [id] K3 (K3.put id (some (.cells 7 (t.put 6 (some v')) false))):=aw.put (.inr ζ)
 have gF4:tD au c9 K3 (K3.put id (some (.cells 7 (t.put 6 (some v')) false))):=.of (λ y G=>aT (w.cF y G) v.ab) R λ y G=>by simp at G;subst G;exact .inr u.c0.2
 have nM:∀{y:Nat},au y->y∉[id]:=λ G B=>by simp at B;subst B;exact u.c0.2 G
 have Dk:=Nc.W R (nM Fb)
 have Q6:=lf3.W R (nM Ff)
 have Wf:=l93.W R (nM F9)
 have Q1:=abi.W R (nM DM)
 simp[-cX]
 refine dF ?_ ?_
 .simp[dA,dm,val,s4,Nc.get,uM]
  done
 have auX:¬wq=id:=λ h=>u.c0.2 (h▸DM)
 simp[-cX,bt,Nj.get,p1.cell,p1.co,auX,abi.get,q1]
 have Ud:=(gF1.trans AJ).trans gF4
 generalize K3.put id (some (.cells 7 (t.put 6 (some v')) false))=K4 at Gp Dk Q6 Wf Q1 Ud⊢
 clear gF1 AJ gF4 p1 v p3 w u lb lf l9 l10 GY Nh Q3 M_ la Nc lf3 l93 abi Nj R F
 refine aes (λ Y K5=>∃t2,Y=⟨t2,164,[],r,14⟩/\Oi au K id vf cY cM mid (if x.dst=ByteArray.empty then{S with a_:=S.a_++[(f,b,i)]}else SM.var {S with a_:=S.a_++[(f,b,i)]} f x.dst) c9 c2 m wq tb tf R8 pC t2 K5) ?_ ?_
 .intro Q2 wz
  have eE:ByteArray.empty=⟨#[]⟩:=rfl;by_cases hd:x.dst=⟨#[]⟩
  .rw[aq (hd.trans eE.symm)]at wz;simp[hd];exact wz _ _ ⟨_,rfl,Gp,Ud,by simp[s4],by simp[s5],by simp[s9],by simp[bt],Dk,Q6,Wf,Q1⟩
  .rw[ao (λ h=>hd (h.trans eE))]at wz;have⟨t,sv,ov,pv,X1,X2,i3,i5,i6,l,cc,u⟩:=Gp;simp[hd,s4,s5,bt,Dk.get,uM,u.ob.get,u.t1,Q6.get,J8,Q1.get,q1];refine CW (aiC ((f:Int),x.dst) u.vars awt) ?_;rintro _ K5 ⟨Oq,_,rfl,_,hT,g5,hs⟩;have N:=u.vars' g5 hT hs;have nF:∀{y:Nat},au y->y∉X1:=λ G B=>(u.c1 _ B).2.1 G;simp;exact wz _ _ ⟨_,rfl,N,Ud.trans (.of u.cF g5 λ y G=>.inr λ h=>nF h G),by simp[s4],by simp[s5],by simp[s9],by simp[bt],Dk.W g5 (nF Fb),Q6.W g5 (nF Ff),Wf.W g5 (nF F9),Q1.W g5 (nF DM)⟩
 .rintro _ K5 ⟨s',rfl,N,tY,z4,z5,z9,Q,sQ,wR,uv,J⟩
  clear s4 s5 s9 bt Dk Q6 Wf Q1 Ud Gp;have awk:S.iC f b i x=if x.op=1\/x.op=2 then((if x.dst=ByteArray.empty then{S with a_:=S.a_++[(f,b,i)]}else SM.var {S with a_:=S.a_++[(f,b,i)]} f x.dst).kq (f,b,i) x.n).eA x.n.toNat else(if x.dst=ByteArray.empty then{S with a_:=S.a_++[(f,b,i)]}else SM.var {S with a_:=S.a_++[(f,b,i)]} f x.dst):=rfl
  have Vq:(if x.dst=ByteArray.empty then{S with a_:=S.a_++[(f,b,i)]}else SM.var {S with a_:=S.a_++[(f,b,i)]} f x.dst:SM).sites=S.sites:=by split<;>rfl
  have aaJ:(if x.dst=ByteArray.empty then{S with a_:=S.a_++[(f,b,i)]}else SM.var {S with a_:=S.a_++[(f,b,i)]} f x.dst:SM).of=S.of:=by split<;>rfl
  rw[awk]at hQ;generalize(if x.dst=ByteArray.empty then{S with a_:=S.a_++[(f,b,i)]}else SM.var {S with a_:=S.a_++[(f,b,i)]} f x.dst:SM)=C at N hQ Vq aaJ;by_cases bP:x.op=1\/x.op=2
  .rw[aq bP]at hQ;have⟨t,sv,ov,pv,X1,X2,i3,i5,i6,l,cc,u⟩:=N;have⟨dH,bD⟩:=u.idx.ob;have avU:∀h:¬x.op=1,x.op=2:=λ h=>bP.resolve_left h;simp only[NN];refine Ap 2 (λ Y K6=>∃t2,Y=⟨t2,164,[],r,14⟩/\Oi au K id vf cY cM mid C c9 c2 m wq tb tf R8 pC t2 K6) ?_ ?_
   .intro Q2 wz;by_cases O:x.op=1
    .simp[Q,J.get,q0,O];exact wz _ _ ⟨_,rfl,⟨t,sv,ov,pv,X1,X2,i3,i5,i6,l,cc,u⟩,tY,by simp[z4],by simp[z5],by simp[z9],by simp[Q],sQ,wR,uv,J⟩
    .simp[Q,J.get,q0,avU O];exact wz _ _ ⟨_,rfl,⟨t,sv,ov,pv,X1,X2,i3,i5,i6,l,cc,u⟩,tY,by simp[z4],by simp[z5],by simp[z9],by simp[Q],sQ,wR,uv,J⟩
   .clear u bD z4 z5 z9 Q sQ wR uv J tY;rintro _ K6 ⟨s',rfl,N,tY,z4,z5,z9,Q,sQ,wR,uv,J⟩;simp only[List.drop,NN];refine Ap 1 (λ Y K7=>∃t2,Y=⟨t2,164,[],r,14⟩/\Oi au K id vf cY cM mid {C with idx:=λ q'=>if q'=(f,b,i)then some C.sites.length else C.idx q'} c9 c2 m wq tb tf R8 pC t2 K7) ?_ ?_
    .intro Q2 wz;have⟨t,sv,ov,pv,X1,X2,i3,i5,i6,l,cc,u⟩:=N;have⟨dH,bD⟩:=u.idx.ob;have⟨v0,v1,v2⟩:=uE W8;have oo:∀K,aN E0 102 sv K=val (ae (C.sites.length:Int)) K:=by
      intro K;have h4:=u.sites;generalize gR:List.flatMap Ae C.sites=M at h4;have hz:=Ps (L:=C.sites);rw[gR]at hz;cases h4 with
      |nil=>
       have:C.sites.length=0:=by simp only[wg]at hz;omega
       rw[Ba NZ,this]
      |own q1 q2 q3 q4 q5 q6=>
       rw[de NZ]
       congr 3;omega
     simp[-cX,z4,z9,sQ.get,uM,u.ob.get,u.t3,u.t4,uv.get,bY W8,oo,bD.get];have gi:I [mid] K6 (K6.put mid (some (.map 48 (oC dH (qU (f,b,i)) l) (eD dH (qU (f,b,i)) (ae ((C.sites.length:Nat):Int)) l)))):=aw.put (.inr ζ);have nm:∀{y:Nat},au y->y∉[mid]:=λ G B=>by simp at B;subst B;exact u.c4.2 G
     exact wz _ _ ⟨_,rfl,u.aa1 (q:=(f,b,i)) (k:=C.sites.length) (b:=dH) (b':=oC dH (qU (f,b,i)) l),tY.trans (.of u.cF gi λ y G=>.inr λ h=>nm h G),by simp[z4],by simp[z5],by simp[z9],by simp[Q],sQ.W gi (nm Fb),wR.W gi (nm Ff),uv.W gi (nm F9),J.W gi (nm DM)⟩
    .clear N z4 z5 z9 Q sQ wR uv J tY;rintro _ K7 ⟨s',rfl,N,tY,z4,z5,z9,Q,sQ,wR,uv,J⟩;simp only[List.drop,NN];have Qx:(C.kq (f,b,i) x.n)={{C with idx:=λ q'=>if q'=(f,b,i)then some C.sites.length else C.idx q'}with sites:=C.sites++[((f,b,i),(C.of.length:Int),x.n)]}:=rfl;rw[Qx]at hQ;generalize hS6:({C with idx:=λ q'=>if q'=(f,b,i)then some C.sites.length else C.idx q'}:SM)=A at N hQ;have aim:C.sites=A.sites:=by rw[<-hS6]
     have ah7:C.of=A.of:=by rw[<-hS6]
     rw[aim,ah7]at hQ;rw[aim]at Vq;rw[ah7]at aaJ;clear hS6 Qx;refine Ap 1 (λ Y K7=>∃t2,Y=⟨t2,164,[],r,14⟩/\Oi au K id vf cY cM mid {A with sites:=A.sites++[((f,b,i),(A.of.length:Int),x.n)]} c9 c2 m wq tb tf R8 pC t2 K7) ?_ ?_
     .intro Q2 wz;have⟨t,sv,ov,pv,X1,X2,i3,i5,i6,l,cc,u⟩:=N;have⟨v0,v1,v2⟩:=uE W8;have A1:∀K,aN E0 41 ov K=val (ae (A.of.length:Int)) K:=λ K=>u.of.aZ.aN bK K;simp[-cX,z4,z9,Q,sQ.get,uM,u.ob.get,u.t3,u.t5,uv.get,bY W8,A1,J.get,q4];generalize dU:D.add _ _=Ka;have F:I [] K7 Ka:=by rw[<-dU];exact aw.add _
      have la:∃tn,Lv Ka K7.ab (.cells 5 tn false)/\bc tn 0 5=some [ae (f:Nat),ae (b:Nat),ae (i:Nat),ae ((A.of.length:Nat):Int),ae x.n]:=by rw[<-dU];exact⟨_,Lv.new,by simp[bc]⟩
      clear dU;have⟨tn,la,lr⟩:=la;have hl6:A.sites.length<=1048576:=by rw[Vq];exact ain
      have w:=u.W F ζ;refine Fh NZ alg ω w.sites la.get aF lr rfl (λ x Z=>by rw[Ps]at Z;omega) (λ x Z=>by rw[Ps]at Z;omega) ?_;intro v' K3 ii p1 v p3;have Bj:∀{y:Nat},au y->y∉i3:=λ G B=>(w.c3 _ B).2.1 G;have GY:=(sQ.ai F).W v (Bj Fb);have Nh:=(wR.ai F).W v (Bj Ff);have l9A:=(uv.ai F).W v (Bj F9);have M_:=(J.ai F).W v (Bj DM);have Nj:=w.ob.W v (xL w.c0.1 w.c3 ω);have Gp:=w.aEL (V:=A.sites++[((f,b,i),(A.of.length:Int),x.n)]) v (by simpa using p1) p3;have R:I [id] K3 (K3.put id (some (.cells 7 (t.put 3 (some v')) false))):=aw.put (.inr ζ);have nM:∀{y:Nat},au y->y∉[id]:=λ G B=>by simp at B;subst B;exact u.c0.2 G
      simp[-cX];refine dF ?_ ?_
      .simp[dA,dm,val,z4,GY.get,uM];done
      simp[-cX,Nj.get,p1.cell,p1.co];have ga:=((F.mono ζ).trans v);refine wz _ _ ⟨_,rfl,Gp,tY.trans ((tD.of u.cF ga λ y G=>.inr λ h=>Bj h G).trans (.of (λ y G=>aT (u.cF y G) ga.ab) R λ y G=>.inr λ h=>nM h G)),by simp[z4],by simp[z5],by simp[z9],by simp[Q],GY.W R (nM Fb),Nh.W R (nM Ff),l9A.W R (nM F9),M_.W R (nM DM)⟩
     .clear N z4 z5 z9 Q sQ wR uv J tY;rintro _ K7 ⟨s',rfl,N,tY,z4,z5,z9,Q,sQ,wR,uv,J⟩;simp only[List.drop,NN];have⟨C',avG⟩:=Z bP;obtain⟨n,hn⟩:∃n:Nat,x.n=(n:Int):=⟨x.n.toNat,ω⟩;have hS7:({A with sites:=A.sites++[((f,b,i),(A.of.length:Int),x.n)]}:SM).sites.length=A.sites.length+1:=ζ
      have ah8:({A with sites:=A.sites++[((f,b,i),(A.of.length:Int),x.n)]}:SM).of=S.of:=aaJ;have aHU:A.sites.length<=1048576:=by rw[Vq];exact ain
      generalize({A with sites:=A.sites++[((f,b,i),(A.of.length:Int),x.n)]}:SM)=S7 at N hQ hS7 ah8;simp[Q,J.get,q4];rw[hn]at hQ avG⊢;rw[show((n:Nat):Int).toNat=n from rfl]at hQ;refine CA (λ j sl T=>Oi au K id vf cY cM mid (S7.eA j) c9 c2 m wq tb tf R8 pC sl T/\j<=n/\AV sl 143 (ae (n:Nat))/\AV sl 144 (ae (j:Nat))) n ⟨⟨by simpa[SM.eA]using N,tY,by simp[z4],by simp[z5],by simp[z9],by simp[Q],sQ,wR,uv,J⟩,dQ _,ζ⟩ ?_
      clear N z4 z5 z9 Q sQ wR uv J tY;rintro b1 k1-cq j sl K8 ⟨⟨N,tY,z4,z5,z9,Q,sQ,wR,uv,J⟩,hj,aeq,aer⟩ ih;by_cases bB:j<n
      .have⟨t,sv,ov,pv,X1,X2,i3,i5,i6,l,cc,u⟩:=N;have hss:(S7.eA j).sites=S7.sites:=rfl;have hoo:(S7.eA j).of.length=S.of.length+j:=by simp[SM.eA,ah8]
       have oo:∀K,aN E0 102 sv K=val (ae (S7.sites.length:Int)) K:=by
        intro K;have h4:=u.sites;rw[hss]at h4;generalize gR:List.flatMap Ae S7.sites=M at h4;have hz:=Ps (L:=S7.sites);rw[gR]at hz;cases h4 with
        |nil=>
         have:S7.sites.length=0:=by simp only[wg]at hz;omega
         rw[Ba NZ,this]
        |own q1 q2 q3 q4 q5 q6=>
         rw[de NZ]
         congr 3;omega
       have hwr:IntKind.wrap .i64 ((S7.sites.length:Int)-1)=(S7.sites.length:Int)-1:=fQ ω ω;simp[-cX,z4,aeq,aer,bB,sQ.get,uM,u.ob.get,u.t3,u.t5,oo,hwr];generalize dU:D.add _ _=Ka;have F:I [] K8 Ka:=by rw[<-dU];exact aw.add _
       have la:∃tn,Lv Ka K8.ab (.cells 1 tn false)/\bc tn 0 1=some [ae ((S7.sites.length:Int)-1)]:=by rw[<-dU];exact⟨_,Lv.new,by simp[bc]⟩
       clear dU;have⟨tn,la,lr⟩:=la;have w:=u.W F ζ;have hio:(aZ (S7.eA j).of).length<=1048576:=by rw[bW,hoo];omega
       refine Fh bK qF ω w.of la.get aF lr rfl (λ x Z=>ω) (λ x Z=>ω) ?_;intro v' K3 ii p1 v p3;have Bj:∀{y:Nat},au y->y∉i5:=λ G B=>(w.c5 _ B).2.1 G;have GY:=(sQ.ai F).W v (Bj Fb);have Nh:=(wR.ai F).W v (Bj Ff);have l9A:=(uv.ai F).W v (Bj F9);have M_:=(J.ai F).W v (Bj DM);have Nj:=w.ob.W v (xL w.c0.1 w.c5 ω);have Gp:=w.of' (V:=(S7.eA j).of++[(S7.sites.length:Int)-1]) v (by simpa using p1) p3;have R:I [id] K3 (K3.put id (some (.cells 7 (t.put 5 (some v')) false))):=aw.put (.inr ζ);have nM:∀{y:Nat},au y->y∉[id]:=λ G B=>by simp at B;subst B;exact u.c0.2 G
       simp[-cX];refine dF ?_ ?_
       .simp[dA,dm,val,z4,GY.get,uM]
       simp[-cX,aer,Nj.get,p1.cell,p1.co,bq (show j<maxLen by unfold maxLen;omega)];have ga:=((F.mono ζ).trans v);refine ih ω ⟨⟨?_,tY.trans ((tD.of u.cF ga λ y G=>.inr λ h=>Bj h G).trans (.of (λ y G=>aT (u.cF y G) ga.ab) R λ y G=>.inr λ h=>nM h G)),by simp[z4],by simp[z5],by simp[z9],by simp[Q],GY.W R (nM Fb),Nh.W R (nM Ff),l9A.W R (nM F9),M_.W R (nM DM)⟩,bB,by simp[aeq]⟩;have e:({S7.eA j with of:=(S7.eA j).of++[(S7.sites.length:Int)-1]}:SM)=S7.eA (j+1):=by simp[SM.eA,List.replicate_succ']
       rw[<-e];exact Gp
      .obtain rfl:j=n:=ω
       subst cq;simp[aeq,aer];exact hQ _ _ ⟨N,tY⟩
  .rw[ao bP]at hQ;have O:¬x.op=1:=λ h=>bP (.inl h);have U:¬x.op=2:=λ h=>bP (.inr h);simp[Q,J.get,q0,O,U];exact hQ _ _ ⟨N,tY⟩
end
def pF(p:List aQ):Prop:=∀k,1<=k->k<=16->¬FF p k
def aFg(S:SM)(f b i:Nat)(x:bp):(S.iC f b i x).p=S.p:=by unfold SM.iC;dsimp only;split<;>split<;>rfl
theorem abc(S:SM)(f b:Nat)(code:List bp):∀i,(S.ins f b code i).p=S.p
 |0=>rfl|i+1=>by simp only[SM.ins];split;rw[aFg];exact abc S f b code i;exact abc S f b code i
theorem Zl(S:SM)(f:Nat)(bs:List cU):∀i,(S.bF f bs i).p=S.p
 |0=>rfl|i+1=>by simp only[SM.bF];split;rw[abc];exact Zl S f bs i;exact Zl S f bs i
theorem ajM(S:SM)(f:Nat)(ps:List aI):∀i,(S.par f ps i).p=S.p
 |0=>rfl|i+1=>by simp only[SM.par];split<;>exact ajM S f ps i
theorem Xk(p:List aQ):∀i,(SM.run p i).p=p
 |0=>rfl|i+1=>by simp only[SM.run];split;(unfold SM.CQ;rw[Zl,ajM];exact Xk p i);exact Xk p i
def Og(au:Nat->Prop)(K:D)(id:Nat)(S:SM):Prop:=∃vf cY cM mid,ly au K id vf cY cM mid S/\∀n,(∀y,y<n->au y)->∀T,I (List.range n) K T->oO T vf S.p
def amo(p:List aQ)(H:D)(v:J)(K:D):Prop:=(v=.dh [.lit (.pointer none),ae 5]\/(pF p/\∃id,v=.dh [.ptr id 0,ae 0]/\Og (λ y=>y<H.ab) K id (bj p)))/\I [] H K
def uP(S:SM):Prop:=S.vars.length<=1048576/\S.names.length<=1048576/\S.sites.length<=1048576/\S.of.length<=524288/\S.a_.length<=1048576
def uP.le{S ay:SM}(h:uP ay)(g:S.le ay):uP S:=⟨aY g.1 h.1,aY g.2.1 h.2.1,aY g.2.2.1 h.2.2.1,aY g.2.2.2.1 h.2.2.2.1,aY g.2.2.2.2 h.2.2.2.2⟩
def ke(h:I [] H K)(g:I X K T)(Z:∀y∈X,H.ab<=y):I [] H T:=⟨aY h.ab g.ab,λ j q _=>(g.get j (aT q h.ab) λ B=>by have:=Z j B;omega).trans (h.get j q ζ)⟩
def aW.inv{R:α->AU->Prop}(h:aW H es R fv L)(q:fv=.sl b c2 dH n c3 ex):L.length<=c3/\c3<=maxLen/\∃n' t ro,Lv H b (.cells n' t ro)/\c2+L.length*es<=n'/\∀i (h:i<L.length),∃M,bc t (c2+i*es) es=some M/\R L[i] M:=by cases h with|nil=>cases q|eF=>cases q|sl z y w v u=>cases q;exact⟨v,u,_,_,_,z,y,w⟩
def ajr{k:Nat->R β}:sS (.lit (.int .i64 ((n:Int)+1))) k=k (n+1):=by
 have e:((n:Int)+1)=((n+1:Nat):Int):=ω
 rw[e];rfl
abbrev Hp(r f b i:Int):aC:=.agg {toList:=[.int .u8 r,.int .i64 f,.int .i64 b,.int .i64 i]}
def aeA(r f b i:Int):KP (.agg [.i .u8,.i .i64,.i .i64,.i .i64]) (Hp r f b i):=⟨_,rfl,ζ⟩
def aGS:c8 (Hp 0 0 0 0) (Hp 0 0 0 0)=true:=(pI (aeA _ _ _ _)).2 rfl
def aGT{b i:Int}(h:¬dH=0):c8 (Hp dH k b i) (Hp 0 0 0 0)=false:=by
 cases e:c8 (Hp dH k b i) (Hp 0 0 0 0)with
 |false=>rfl
 |true=>
  have:=(pI (aeA _ _ _ _)).1 e
  simp only[Hp,Value.agg.injEq,Ym,KA,Value.int.injEq]at this
  omega
def amd{k:List fg}(aJ:α->CX->AT->D->Prop)(mu:α->Nat)(step:∀(b:Code) (kk:List fg),b=bd->kk=k->∀x s m H,aJ x s m H->(∀y s' m' H',mu y<mu x->aJ y s' m' H'->aD E (.code (.loop b)::kk) ⟨s',n,m',r,f⟩ H' aj)->aD E (.code bd::.code (.loop b)::kk) ⟨s,n,m,r,f⟩ H aj):∀x s m H,aJ x s m H->aD E (.code (.loop bd)::k) ⟨s,n,m,r,f⟩ H aj:=by
 intro x
 generalize v:mu x=N
 induction N using Nat.strongRecOn generalizing x with
 |ind N q=>
  intro s m H h
  refine aeE ?_
  exact step bd k rfl rfl x s m H h λ y s' m' H' G u=>q (mu y) ω y rfl s' m' H' u
def xk(m:AT)(K:D):Prop:=∀d∈m,Lv K d .deferred
theorem xk.W{m cL:AT}{K T:D}(h:xk m K)(g:I cL K T)(q:∀d∈m,d∉cL):xk m T:=λ d hd=>(h d hd).W g (q d hd)
def xk.ai(h:xk aH K)(g:I [] K T):xk aH T:=h.W g ζ
theorem agB:∀{m:AT} {K:D},xk m K->m.Nodup->∃T,(∀{β:Type} (k:D->R β),xQ m K k=k T)/\I m K T
 |[],K,_,_=>⟨K,λ _=>rfl,aw⟩
 |d::m,K,h,q=>by
  rw[OA]at q
  have hd:=h d ζ
  have g:I [d] K (K.put d none):=aw.put (.inr ζ)
  have⟨T,e,u⟩:=agB (m:=m) (K:=K.put d none) (λ x Z=>(h x (by simp[Z])).W g (by simp;rintro rfl;exact q.1 Z)) q.2
  refine⟨T,λ {β} k=>?_,(g.mono ζ).trans (u.mono (by intro x Z;simp[Z]))⟩
  have v:xQ (d::m) K k=ie K d λ o=>match o with|.deferred=>me K d none λ H=>xQ m H k|_=>.er [185]:=rfl
  rw[v,qS,hd.get]
  dsimp only
  rw[Bz,e]
def XG{p:List aQ}(h:pF p)(q:At p dH b i x)(u:x.op=1\/x.op=2):1<=x.n/\x.n<=64:=by
 have v:¬jF p λ _ _ _ x=>vQ x:=h 9 ω ω;have:vQ x=false:=by cases e:vQ x with|false=>rfl|true=>exact absurd ⟨dH,b,i,x,q,e⟩ v
 unfold vQ at this;rcases u with e|e<;>(rw[e]at this;simp[uJ,bk,e]at this;omega)
section
variable{H:D}{vf:J}{p:List aQ}
def azc(hp:oO H vf p)(hA:HH p)(hL:SC p)(ahH:pF p->uP (bj p)):CN 14 [.agg [vf]] H (amo p H):=by
 refine ba aqT rfl λ Q' hQ=>?_;simp[hp.cell];generalize aP:D.add _ _=H1;have a1:Lv H1 H.ab (.cells 1 (Tr.e.put 0 (some vf)) false):=by rw[<-aP];exact Lv.new
 have g1:I [] H H1:=by rw[<-aP];exact aw.add _
 have n1:H1.ab=H.ab+1:=by rw[<-aP];rfl
 clear aP;have r1:bc (Tr.e.put 0 (some vf)) 0 1=some [vf]:=by simp[bc]
 refine CW (aET (hp.zB g1) hA hL) ?_;rintro _ C ⟨r,f,b,i,rfl,hr,fY⟩;have Kt:=a1.ai fY;by_cases Jf:r=0
 .obtain⟨⟨rfl,rfl,rfl⟩,ML⟩:=hr Jf;subst Jf;have fk:∀fn∈p,sf fn/\Sz fn:=λ fn iw=>by have⟨i,A⟩:=sq iw;exact Z7 ML hA hL A
  have bR:¬(p=[]\/64<p.length):=ML 1 ω ω;have cR:p≠[]:=λ h=>bR (.inl h);have Um:p.length<=64:=by rcases kb 64 p.length with h|h;exact absurd (.inr h) bR;exact h
  simp[Kt.get,bY r1,aGS];refine CW (aCk (hp.zB (g1.trans fY)) (λ fn h=>(fk fn h).1) Um cR) ?_;rintro _ K2 ⟨vp,rfl,cr,iu⟩;simp;refine CW ay8 ?_;rintro _ K3 ⟨cY,X1,rfl,kF,hX1,gK3⟩;simp;refine CW azb ?_;rintro _ w ⟨cM,X2,rfl,eX,hX2,pJ⟩;have aix:oO w vp p:=cr _ ((gK3.trans pJ).mono ζ);simp[aix.cell];generalize iS:D.put _ _ _=N;have hg4:=pJ.ab;have hg3:=gK3.ab;have aHA:∀y∈X1,y<w.ab:=λ y G=>aT (kF.lt y G) pJ.ab;have g5:I [] w N:=by rw[<-iS];exact(((aw.add _).add _).add _).put (.inl ω)
  have b5:∃tb,Lv N (w.ab+2) (.cells 1 tb false)/\tb.get 0=some (.ptr (w.ab+1) 0):=by rw[<-iS];exact⟨_,(Lv.new (H:=(w.add _).add _)).put_eq,ζ⟩
  have m5:Lv N w.ab (.map 48 0 []):=by rw[<-iS];exact Lv.new.add.add.eu ω
  have o5:∃t,Lv N (w.ab+1) (.cells 7 t false)/\AV t 0 vp/\AV t 1 (.ptr cY 0)/\AV t 2 (.ptr cM 0)/\AV t 3 (.lit (.slice none 0 0))/\AV t 4 (.map w.ab)/\AV t 5 (.lit (.slice none 0 0))/\AV t 6 (.lit (.slice none 0 0)):=by rw[<-iS];exact⟨_,(Lv.new (H:=w.add _)).add.eu (by simp[D.add]),ζ⟩
  have n5:N.ab=w.ab+3:=by rw[<-iS];rfl
  clear iS;have⟨tb,b5,uM⟩:=b5;have fH:ly (λ y=>y<K2.ab\/y=w.ab+2) N (w.ab+1) vp cY cM w.ab (SM.run p 0):=by
   have⟨t,o1,w0,w1,w2,w3,w4,w5,w6⟩:=o5;refine⟨t,.lit (.slice none 0 0),.lit (.slice none 0 0),.lit (.slice none 0 0),X1,X2,[],[],[],[],λ y=>if y=w.ab+1 then 0 else if y=w.ab then 4 else if y<K3.ab then 1 else 2,?_⟩;have d1:∀y∈X1,(if y=w.ab+1 then 0 else if y=w.ab then 4 else if y<K3.ab then 1 else 2)=1/\¬(y<K2.ab\/y=w.ab+2)/\y<N.ab:=λ y G=>by have q1:=hX1 y G;have q2:=kF.lt y G;refine⟨?_,ω,ω⟩;rw[ao ω,ao ω,aq q2]
   have d2:∀y∈X2,(if y=w.ab+1 then 0 else if y=w.ab then 4 else if y<K3.ab then 1 else 2)=2/\¬(y<K2.ab\/y=w.ab+2)/\y<N.ab:=λ y G=>by have q1:=hX2 y G;have q2:=eX.lt y G;refine⟨?_,ω,ω⟩;rw[ao ω,ao ω,ao ω]
   have wE:∀{k:Nat},∀y∈([]:AT),(if y=w.ab+1 then 0 else if y=w.ab then 4 else if y<K3.ab then 1 else 2)=k/\¬(y<K2.ab\/y=w.ab+2)/\y<N.ab:=λ y G=>by cases G
   have sK:∀q,cH (qU q) []=((SM.run p 0).idx q).map λ k=>ae ((k:Nat):Int):=λ q=>rfl;have hcF:∀y,(y<K2.ab\/y=w.ab+2)->y<N.ab:=λ y G=>ω
   exact{ob:=o1,t0:=w0,t1:=w1,t2:=w2,t3:=w3,t4:=w4,t5:=w5,t6:=w6,vars:=(kF.W pJ ζ).W g5 ζ,names:=eX.W g5 ζ,sites:=.nil,idx:=⟨⟨0,m5⟩,by simp[bQ],by simp[bQ]⟩,qB:=sK,of:=.nil,a_:=.nil,c0:=⟨ζ,ω⟩,c1:=d1,c2:=d2,c3:=wE,c4:=⟨ζ,ω⟩,c5:=wE,c6:=wE,cF:=hcF}
  have ag5:I [] K2 N:=(gK3.trans pJ).trans g5;have dV:∀K,I [] K2 K->oO K vp p:=λ K g=>cr K (g.mono ζ);generalize bD:w.ab+1=id at fH uM;generalize L7:w.ab+2=bx at fH b5;generalize w.ab=mid at fH;have aak:K2.ab<=bx:=ω
  rw[aix.aN nf];simp;refine amd (α:=Nat) (aJ:=λ f sl m K=>ly (λ y=>y<K2.ab\/y=bx\/y∈m) K id vp cY cM mid (SM.run p f)/\I [] K2 K/\Lv K bx (.cells 1 tb false)/\AV sl 4 (.ptr bx 0)/\AV sl 27 (ae p.length)/\AV sl 28 (ae f)/\f<=p.length/\xk m K/\m.Nodup/\bx∉m/\∀d∈m,K2.ab<=d) (mu:=λ f=>p.length-f) ?_ 0 _ _ _ ?ini;case ini=>exact⟨by simpa using fH,ag5,b5,ξ,ζ,ζ,dQ _,by intro d hd;simp at hd,ζ,ζ,ζ⟩
  clear fH ag5 b5;rintro b1 k1-cq f sl m K ⟨hN,gK,lb,F,mG,lZ,kH,mk,mnd,mbx,mge⟩ ih;by_cases az:f<p.length
  .have hpK:=dV K2 aw;have⟨kQ,ig,kD,iR,zZ,t1,py,kE,dc,cT,iy,eZ,eI⟩:=hpK.at_ az;obtain⟨vpp,vbb,rfl,eY,bR⟩:=eI;have⟨e0,e1,e2⟩:=uE eZ;have⟨t,sv,ov,pv,X1,X2,i3,i5,i6,l,c,v⟩:=hN;have q1:¬bx=K.ab:=bC lb.lt;have q2:¬id=K.ab:=bC v.ob.lt;have q3:¬kQ=K.ab:=bC (cT.ai gK).lt;have r0:ig+f*3<zZ:=ω
   have r1':ig+f*3+1<zZ:=ω
   simp[F,mG,lZ,az,lb.get,uM,v.ob.get,v.t0,v.t2,q1,q2,q3,dc,(cT.ai gK).get,e0,r0];generalize Ee:D.put _ _ _=Hb;have gb:I [] K Hb:=by rw[<-Ee];exact I.new aw _ _
   have lf:∃tf,Lv Hb K.ab (.cells 1 tf false)/\tf.get 0=some (ae f):=by rw[<-Ee];exact⟨_,(Lv.new (H:=K)).put_eq,ζ⟩
   have nb:Hb.ab=K.ab+1:=by rw[<-Ee];rfl
   clear Ee;have⟨tf,lf,J8⟩:=lf;have Uv:=ly.for (n:=K.ab+1) ⟨t,sv,ov,pv,X1,X2,i3,i5,i6,l,c,v⟩ gb ω;clear v;have lbb:=lb.ai gb;have mkb:=mk.ai gb;have aHC:=lb.lt;have dO:=gK.ab;have⟨t,sv,ov,pv,X1,X2,i3,i5,i6,l,c,v⟩:=Uv;have hfS:uP (SM.run p (f+1)):=(ahH ML).le (SM.le.run p ω);have eS:SM.run p (f+1)=(SM.run p f).CQ f p[f]:=by simp[SM.run,az]
   have IW:(SM.run p f).names.length<=1048576:=((ahH ML).le (SM.le.run p ω)).2.1;refine CW (awA p[f].name v.names IW) ?_;rintro _ K6 ⟨SJ,_,rfl,_,hT,g6,hs⟩;have Uw:=v.ayV g6 hT hs;have nF:∀{y:Nat},(y<K2.ab\/y=bx\/y∈m)\/(K.ab<=y/\y<K.ab+1)->y∉X2:=λ G B=>(v.c2 _ B).2.1 G;have lb6:=lbb.W g6 (nF (.inl (.inr (.inl rfl))));have lf6:=lf.W g6 (nF (.inr ω));have mk6:=mkb.W g6 λ d hd=>nF (.inl (.inr (.inr hd)));have II:I [] K2 K6:=ke (gK.trans gb) g6 λ y G=>by have:=(v.c2 y G).2.1;omega
   clear v hT hs g6 nF lbb lf mkb;have⟨t,sv,ov,pv,X1,X2,i3,i5,i6,l,c,v⟩:=Uw;have r3:ig+f*3+2<zZ:=ω
   simp[F,lb6.get,uM,v.ob.get,v.t0,lf6.get,J8,dc,(cT.ai II).get,e1,r1',az,eY.aN fw];have aHT:K2.ab<=K.ab:=dO;generalize IX:({SM.run p f with names:=lE (SM.run p f).names p[f].name}:SM)=S1 at v;have UB:(S1.par f p[f].params p[f].params.length).bF f p[f].blocks p[f].blocks.length=SM.run p (f+1):=by rw[<-IX,eS];rfl
   refine bu (α:=Nat) (aJ:=λ j sl T=>ly (λ y=>(y<K2.ab\/y=bx\/y∈m)\/(K.ab<=y/\y<K.ab+1)) T id vp cY cM mid (S1.par f p[f].params j)/\I [] K2 T/\Lv T bx (.cells 1 tb false)/\Lv T K.ab (.cells 1 tf false)/\K6.ab<=T.ab/\AV sl 4 (.ptr bx 0)/\AV sl 5 (.ptr K.ab 0)/\AV sl 27 (ae p.length)/\AV sl 28 (ae f)/\AV sl 53 vpp/\AV sl 54 (ae p[f].params.length)/\AV sl 55 (ae j)/\j<=p[f].params.length/\xk m T) (mu:=λ j=>p[f].params.length-j) ?_ 0 _ _ ?ini2;case ini2=>exact⟨⟨t,sv,ov,pv,X1,X2,i3,i5,i6,l,c,v⟩,II,lb6,lf6,aF,by simp[F],ζ,by simp[mG],by simp[lZ],ζ,ζ,ζ,dQ _,mk6⟩
   clear v lb6 lf6 F mG lZ;rintro b2 k2-au8 j sl u ⟨hN,Lu,Nd,Q7,h67,F,s5,mG,lZ,sZ,qE,r_,Ey,mk7⟩ eJ;have⟨t,sv,ov,pv,X1,X2,i3,i5,i6,l,c,v⟩:=hN;by_cases bB:j<p[f].params.length
   .have hp7:aW u 1 xm vpp p[f].params:=eY.fZ Lu;have⟨uj,uB,tQ,exp,np,tp,uG,cp,aaZ,fG,Gz,hgp,jL⟩:=hp7.gL bB;obtain⟨rfl,hzp⟩:cp=str p[f].params[j]/\_:=⟨by have:=jL.1;simpa using this,jL.2⟩;simp[F,s5,sZ,qE,r_,bB,aaZ,fG.get,Gz,hgp,Nd.get,uM,v.ob.get,v.t1,Q7.get,J8];have hV:(S1.par f p[f].params j).vars.length<=1048576:=by have:=((SM.le.par S1 f p[f].params (tL bB)).trans (SM.le.bF _ f p[f].blocks (dQ p[f].blocks.length)));rw[UB]at this;exact(hfS.le this).1
    refine CW (aiC ((f:Int),p[f].params[j]) v.vars hV) ?_;rintro _ K8 ⟨Oq,_,rfl,_,hT,g8,hs⟩;have hN8:=v.vars' g8 hT hs;have nF:∀{y:Nat},(y<K2.ab\/y=bx\/y∈m)\/(K.ab<=y/\y<K.ab+1)->y∉X1:=λ G B=>(v.c1 _ B).2.1 G;have lb8:=Nd.W g8 (nF (.inl (.inr (.inl rfl))));have lf8:=Q7.W g8 (nF (.inr ω));have mk8:=mk7.W g8 λ d hd=>nF (.inl (.inr (.inr hd)));have gK8:I [] K2 K8:=ke Lu g8 λ y G=>by have:=(v.c1 y G).2.1;omega
    simp[r_,bq (aT bB hp7.cP)];refine eJ (j+1) _ _ (YT bB (sx j)) ⟨?_,gK8,lb8,lf8,aY h67 g8.ab,by simp[F],by simp[s5],by simp[mG],by simp[lZ],by simp[sZ],by simp[qE],ζ,bB,mk8⟩;simpa[SM.par,bB]using hN8
   .obtain rfl:j=p[f].params.length:=ω
    subst au8;have aht:p.length<=kD/\kD<=maxLen/\ig+p.length*3<=zZ:=by have⟨q4,q5,n',t',sY,q1,q2,q3⟩:=aW.inv hpK dc;have:=q1.get.symm.trans cT.get;simp at this;exact⟨q4,q5,ω⟩
    obtain⟨d,hd⟩:∃d,kD-f=d+1:=⟨kD-f-1,ω⟩;have ui:IntKind.wrap .i64 ((f:Int)+1)=((f+1:Nat):Int):=by rw[bq ω];omega
    have zG:f+1<=kD:=ω
    have hff:f+1-f=1:=ω
    simp[F,s5,qE,r_,Nd.get,uM,v.ob.get,v.t0,Q7.get,J8,dc,ui,ajr,zG,hd,hff];rw[cE (akp _ rfl _)];simp;refine HA (gv:=.fn (.func 132) [] [.ptr (u.ab+1) 0]) ζ ?_;refine⟨_,_,_,Im,?_⟩;simp;generalize qL:LR.mk _ _ _ _ _ _ _=L;generalize lH:D.add _ (LR.ob L _ _)=Hr;have PR:I [] u Hr:=by rw[<-lH];exact(((I.new aw _ _).add _).add _).add _
    have nr:Hr.ab=u.ab+4:=by rw[<-lH];rfl
    have i1:∃t,Lv Hr (u.ab+1) (.cells 1 t false)/\AV t 0 (.sl kQ (ig+f*3) 3 1 (d+1) iR):=by rw[<-lH];exact⟨_,⟨by first|(simp[D.add];done)|(simp[D.add];omega),by first|(simp[D.jK];done)|(simp[D.jK];rfl)⟩,ζ⟩
    have i2:Lv Hr (u.ab+2) .deferred:=by rw[<-lH];exact⟨by first|(simp[D.add];done)|(simp[D.add];omega),by first|(simp[D.jK];done)|(simp[D.jK];rfl)⟩
    have i3r:Lv Hr (u.ab+3) (LR.ob L .ready none):=by rw[<-lH];exact Lv.new
    clear lH;have eL:L.ps=[80,81]/\L.size=164/\L.fn=14/\L.tmps.get 4=some (.ptr bx 0)/\L.tmps.get 5=some (.ptr K.ab 0):=by rw[<-qL];exact⟨rfl,rfl,rfl,by simp[F],by simp[s5]⟩
    have⟨tc,i1,tc0⟩:=i1;have LL:=ly.for (n:=u.ab+4) ⟨t,sv,ov,pv,X1,X2,i3,i5,i6,l,c,v⟩ PR ω;clear v;have lbr:=Nd.ai PR;have mkr:=mk7.ai PR;have lfr:=Q7.ai PR;have gKr:=Lu.trans PR;generalize hS2:S1.par f p[f].params p[f].params.length=S2 at LL UB;generalize P1:(λ y=>((y<K2.ab\/y=bx\/y∈m)\/K.ab<=y/\y<K.ab+1)\/u.ab<=y/\y<u.ab+4)=F2 at LL;have ZV:F2 bx:=by rw[<-P1];exact .inl (.inl (.inr (.inl rfl)))
    have fmk:∀d∈m,F2 d:=λ d hd=>by rw[<-P1];exact .inl (.inl (.inr (.inr hd)))
    have m7:∀d∈m,d<u.ab:=λ d hd=>(mk7 d hd).lt;have fbf:F2 K.ab:=by rw[<-P1];exact .inl (.inr ω)
    have f7:∀y,u.ab<=y->y<u.ab+4->F2 y:=λ y O U=>by rw[<-P1];exact .inr ⟨O,U⟩
    have f2:∀y,y<K2.ab->F2 y:=λ y O=>by rw[<-P1];exact .inl (.inl (.inl O))
    have hP1:oO K2 (.sl kQ (ig+f*3) 3 1 (d+1) iR) [p[f]]:=by
     refine aW.sl (L:=[p[f]]) cT ξ (λ i A=>?_) ζ ω;obtain rfl:i=0:=by simpa using A
     exact⟨_,by simpa using eZ,vpp,vbb,rfl,eY,bR⟩
    have aHL:=Lu.ab;refine(ako (HB:=K2) (p:=[p[f]]) (dH:=u.ab+1) (vf:=.sl kQ (ig+f*3) 3 1 (d+1) iR) (λ R b i T=>ly F2 T id vp cY cM mid (if R=0 then S2.cur f p[f].blocks b i else S2.bF f p[f].blocks p[f].blocks.length)/\I [] K2 T/\Lv T bx (.cells 1 tb false)/\Lv T K.ab (.cells 1 tf false)/\Lv T (u.ab+1) (.cells 1 tc false)/\Lv T (u.ab+2) .deferred/\Lv T (u.ab+3) (LR.ob L .ready none)/\xk m T) hP1 (λ _ _ _ _ h=>h.2.1) (λ _ _ _ T dP h g=>⟨h.1.W g ζ,h.2.1.trans g,h.2.2.1.ai g,h.2.2.2.1.ai g,h.2.2.2.2.1.ai g,h.2.2.2.2.2.1.ai g,h.2.2.2.2.2.2.1.ai g,h.2.2.2.2.2.2.2.ai g⟩) ⟨by rw[aq rfl,SM.ZD];exact LL,gKr,lbr,lfr,i1,i2,i3r,mkr⟩ (λ _ _ _ T h=>⟨tc,false,h.2.2.2.2.1,tc0⟩) ?_ ?_ ?_).mono ?_
    .rintro R b i x M T cQ ⟨Q,Uf,Wh,lfj,j1,j2,j3,jm⟩ Z;have⟨fn,bk,J,lQ,dJ⟩:=cQ;obtain⟨rfl,rfl⟩:R=0/\fn=p[f]:=by cases R with|zero=>simp at J;exact⟨rfl,J.symm⟩|succ m=>simp at J
     rw[aq rfl]at Q⊢;obtain⟨va,vl,rfl,kl,mO,QD⟩:=Z;simp;refine Hu (λ Y C=>∃s t9 pC,Y=⟨s,164,[],some (u.ab+3),14⟩/\s.get 4=some (.ptr bx 0)/\s.get 5=some (.ptr K.ab 0)/\s.get 9=some (.ptr T.ab 0)/\s.get 10=some (.ptr (T.ab+1) 0)/\I [] T C/\C.ab=T.ab+2/\Lv C T.ab (.cells 3 t9 false)/\bc t9 0 3=some [ae 0,ae b,ae i]/\Lv C (T.ab+1) (.cells 8 pC false)/\bc pC 0 8=some [u8 x.op,str x.dst,str x.a,str x.b,ae x.n,str x.fn,va,vl]) j3.get (by rw[eL.1];rfl) (by rw[eL.1,eL.2.1];simp) ?_ ?_
     .rw[eL.1,eL.2.1,eL.2.2.1];rw[<-iQ LR.aI4 qL];dsimp only;simp[kl.cell,mO.cell,bc,eL.2.2.2.1,eL.2.2.2.2];refine⟨(I.new aw _ _).trans (I.new aw _ _),_,(Lv.new (H:=T)).put_eq.add.eu (bC (sx _)),ζ,_,(Lv.new (H:=(T.add _).put _ _)).put_eq,ζ⟩
     .rintro Y C ⟨s,t9,pC,rfl,z4,z5,z9,pZ,Ed,nj1,q9,r9,bo,RD⟩;refine⟨none,L,(j3.ai Ed).get,?_⟩;have eO:=j3.lt;have Uv:=ly.for (n:=T.ab+2) Q Ed ω;have CU:I [u.ab+3] C (C.put (u.ab+3) (some (LR.ob L .busy none))):=aw.put (.inr ζ);have aIA:=Nd.lt;have aIC:=Q7.lt;have m9:=q9.W CU ξ;have Bg:=bo.W CU ξ;have mb:=(Wh.ai Ed).W CU ξ;have mf:=(lfj.ai Ed).W CU ξ;have mm:=(jm.ai Ed).W CU (λ d hd=>by have:=m7 d hd;simp;omega);have m1:=(j1.ai Ed).W CU ζ;have m2:=(j2.ai Ed).W CU ζ;have m3:=(j3.ai Ed).put_eq (o':=LR.ob L .busy none);have Uw:=Uv.W CU (by simp;exact .inl (f7 _ ω ω));have Eb:I [] K2 (C.put (u.ab+3) (some (LR.ob L .busy none))):=ke (Uf.trans Ed) CU ξ;clear Q Wh lfj j1 j2 j3 q9 bo Uv CU Uf;show aD E0 _ _ (C.put (u.ab+3) (some (LR.ob L .busy none))) _;have nKb:(C.put (u.ab+3) (some (LR.ob L .busy none))).ab=T.ab+2:=nj1;generalize C.put (u.ab+3) (some (LR.ob L .busy none))=Kb at m9 Bg mb mf mm m1 m2 m3 Uw Eb nKb;have Gy:aez Tryz.f14 L.bd:=by rw[<-iQ LR.bd qL];exact⟨_,rfl,rfl⟩
      have aum:At p f b i x:=⟨p[f],bk,bf az,by simpa using lQ,dJ⟩;have jf:i<bk.code.length:=by rw[cW]at dJ;exact dJ.1
      have aU:=SM.ao5 S2 f p[f].blocks lQ (tL jf);rw[UB]at aU;have zG:=hfS.le aU;refine(ay6 (f:=f) (b:=b) (i:=i) (x:=x) (c9:=T.ab) (wq:=T.ab+1) Gy Uw (λ bP=>by have:=XG ML aum bP;omega) zG.1 zG.2.2.1 (by have:=zG.2.2.2.1;omega) zG.2.2.2.2 z4 z5 z9 pZ mb uM mf J8 m9 r9 Bg RD (.inl ZV) (.inl fbf) (.inr ω) (.inr ω) ω ω ω).mono ?_;rintro _ _ K3 ⟨rfl,hN3,AJ⟩;have hf7:∀{y:Nat},u.ab<=y->y<u.ab+4->y≠T.ab:=λ _ h=>ω
      have w3:=AJ.lv m3 (.inl (f7 _ ω ω)) ω;refine⟨_,_,L,w3.get,?_⟩;have ge:I [u.ab+3] K3 (K3.put (u.ab+3) (some (LR.ob L .ready none))):=aw.put (.inr ζ);have wb:=AJ.lv mb (.inl ZV) ω;have wf:=AJ.lv mf (.inl fbf) ω;have wm:xk m K3:=λ d hd=>AJ.lv (mm d hd) (.inl (fmk d hd)) (by have:=m7 d hd;omega);have w1:=AJ.lv m1 (.inl (f7 _ ω ω)) ω;have w2:=AJ.lv m2 (.inl (f7 _ ω ω)) ω;refine⟨rfl,⟨?_,?_,wb.W ge ξ,wf.W ge ξ,w1.W ge ζ,w2.W ge ζ,w3.put_eq,wm.W ge λ d hd=>by have:=m7 d hd;simp;omega⟩⟩
      .rw[SM.ao7 _ _ _ lQ dJ];exact(hN3.W ge (by simp;exact .inl (f7 _ ω ω))).less λ y G=>.inl G
      .have g3:I [] K2 K3:=⟨aY Eb.ab AJ.ab,λ y G _=>(AJ.get y (.inl (f2 y G)) ω).trans (Eb.get y G ζ)⟩;exact ke g3 ge ξ
    .rintro R b fn bk T J lQ ⟨Q,zQ⟩;obtain⟨rfl,rfl⟩:R=0/\fn=p[f]:=by cases R with|zero=>simp at J;exact⟨rfl,J.symm⟩|succ m=>simp at J
     refine⟨?_,zQ⟩;rw[aq rfl]at Q⊢;rw[SM.ao6 _ _ _ lQ];exact Q
    .rintro R fn T J ⟨Q,zQ⟩;obtain⟨rfl,rfl⟩:R=0/\fn=p[f]:=by cases R with|zero=>simp at J;exact⟨rfl,J.symm⟩|succ m=>simp at J
     refine⟨?_,zQ⟩;rw[aq rfl,SM.ZD]at Q;rw[ao ω];exact Q
    .rintro _ T ⟨Q,Uf,Wh,lfj,j1,j2,j3,jm⟩;refine⟨_,_,L,j3.get,ζ,?_⟩;show aD E0 _ _ _ _;have aHB:=Nd.lt;have g9:I [u.ab+3] T (T.put (u.ab+3) (some (LR.ob L .exhausted none))):=aw.put (.inr ζ);have Wg:=Wh.W g9 ξ;have Wz:xk ((u.ab+1+1)::m) (T.put (u.ab+3) (some (LR.ob L .exhausted none))):=λ d hd=>by
      rw[cZ]at hd;rcases hd with rfl|hd
      .exact j2.W g9 ζ
      .exact(jm d hd).W g9 (by have:=m7 d hd;simp;omega)
     have P3:=Q.W g9 (by simp;exact f7 _ ω ω);have AK:I [] K2 (T.put (u.ab+3) (some (LR.ob L .exhausted none))):=ke Uf g9 ξ;replace P3:ly F2 (T.put (u.ab+1+1+1) (some (LR.ob L .exhausted none))) id vp cY cM mid _:=P3;replace Wg:Lv (T.put (u.ab+1+1+1) (some (LR.ob L .exhausted none))) bx _:=Wg;replace AK:I [] K2 (T.put (u.ab+1+1+1) (some (LR.ob L .exhausted none))):=AK;replace Wz:xk _ (T.put (u.ab+1+1+1) (some (LR.ob L .exhausted none))):=Wz;generalize T.put (u.ab+1+1+1) (some (LR.ob L .exhausted none))=K9 at P3 Wg AK Wz;simp[lZ,bq (show f<maxLen from aT ω aht.2.1)];refine ih (f+1) _ _ _ (YT az (sx f)) ⟨?_,AK,Wg,by simp[F],by simp[mG],ζ,az,Wz,OA.2 ⟨λ h=>by have:=m7 _ h;omega,mnd⟩,by simp;exact⟨ω,mbx⟩,λ d hd=>?_⟩;rotate_left
     .have:=Lu.ab;rw[cZ]at hd;rcases hd with rfl|hd
      .have:=Lu.ab;omega
      .exact mge _ hd
     rw[ao ζ,UB]at P3;refine P3.less λ y G=>?_;rcases G with h|rfl|h
     .exact f2 y h
     .exact ZV
     .rw[cZ]at h;rcases h with rfl|h
      .exact f7 _ ω ω
      .exact fmk y h
  .obtain rfl:f=p.length:=ω
   subst cq;have⟨KE,hE,gE⟩:=agB mk mnd;simp[F,mG,lZ,lb.get,uM,hE];have hNE:=hN.W gE λ z hz=>.inr (.inr hz);have gK:=ke gK gE mge;refine hQ ⟨.inr ⟨ML,id,rfl,vp,cY,cM,mid,hNE.less λ y G=>?_,λ n hn T g=>?_⟩,?_⟩
   .have:=g1.ab;have:=fY.ab;have:=iu.ab;omega
   .have ep:(bj p).p=p:=Xk p _;rw[ep];refine cr T ?_;have Mm:n<=H.ab:=by
     rcases kb H.ab n with h|h
     .exact absurd (hn _ h) (Tb _)
     .exact h
    have:=g1.ab;have:=fY.ab;have:=iu.ab;refine(gK.mono ζ).trans (g.mono λ y G=>?_);rw[mj]at G⊢;omega
   .exact((g1.trans fY).trans iu).trans gK
 .simp[aGT Jf];exact hQ ⟨.inl rfl,g1.trans fY⟩
end
end
end Go.Proofs.YtgipmaoplfkdoaaGreatDoor
