import Derived.Test.YtgipmaoplfkdoaaGreatDoorM3
set_option linter.all false
set_option maxRecDepth 100000
set_option maxHeartbeats 400000000
namespace Go.Proofs.YtgipmaoplfkdoaaGreatDoor
noncomputable section
open Go.RowKit
variable{f dH:Nat}{H:D}{fv:J}{x:aQ}{l:List cU}{P':aI->Prop}{r:List aI}{s:aI}{β:Type}{S:AT}{o:AO}
section
variable{p:List aQ}{HB:D}{id mid:Nat}{vf:J}
def axZ(hw:lD HB p vf id mid):sj 187 HB id (p=[]\/64<p.length):=by
 intro H g;refine XP λ Q' hQ=>?_;have⟨t',sY,w1,w2,w3⟩:=hw.ob;have ik:=w1.ai g;have gn:=λ o o'=>I.new (I.refl [] H) o o';have hc:km vf=true:=hw.pr.cell;have key:∀c:Bool,(c=true↔p=[]\/64<p.length)->CN 187 [.ptr id 0] H Q':=by
  intro c k8;refine im art rfl ?_;by_cases O:p=[]
  .obtain rfl:c=true:=k8.2 (.inl O);simp[bC ik.lt,ik.get,w2,hw.pr.aN nf,O];refine dF (by simp[dm,val]) ?_;simp;exact hQ ⟨0,0,0,true,rfl,k8.2,gn _ _⟩
  .by_cases U:64<p.length
   .obtain rfl:c=true:=k8.2 (.inr U);have fR:(64:Int)<p.length:=ω
    simp[bC ik.lt,ik.get,w2,hw.pr.aN nf,O,fR];refine dF (by simp[dm,val,bC ik.lt,ik.get,w2,hw.pr.aN nf,hw.pr.fy]) ?_;simp;exact hQ ⟨0,0,0,true,rfl,k8.2,gn _ _⟩
   .obtain rfl:c=false:=by cases c with|false=>rfl|true=>exact absurd (k8.1 rfl) (by simp[O,U])
    have fR:¬(64:Int)<p.length:=ω
    simp[bC ik.lt,ik.get,w2,hw.pr.aN nf,O,fR];refine dF (by simp[dm,val,bC ik.lt,ik.get,w2,hw.pr.aN nf,hw.pr.fy]) ?_;simp;exact hQ ⟨0,0,0,false,rfl,k8.2,gn _ _⟩
 exact key (decide (p=[]\/64<p.length)) ζ
def Wu:aI:=⟨#[109,97,105,110]⟩
def Ri(p:List aQ)(s:aI):Int:=idxOf (λ x=>decide (x.name=s)) p
def azt(hw:lD HB p vf id mid):sj 190 HB id False:=by
 intro H g;refine ba arx rfl λ Q' hQ=>?_;have⟨t',sY,w1,w2,w3⟩:=hw.ob;have ik:=w1.ai g;simp;generalize aP:D.add _ _=H1;have a1:Lv H1 H.ab (.cells 3 (((Tr.e.put 0 (some (ae 0))).put 1 (some (ae 0))).put 2 (some (ae 0))) false):=by rw[<-aP];exact Lv.new
 have gH:I [] H H1:=by rw[<-aP];exact(I.refl [] H).add _
 clear aP;refine CW (WE Wu H1 hw (g.trans gH)) ?_;rintro v K ⟨rfl,gK⟩;have BL:=a1.ai gK;have alE:=ik.ai (gH.trans gK);have gp:=λ o'=>(gH.trans gK).put (id:=H.ab) (o:=o') (.inl aF);rcases aa2 (λ x:aQ=>decide (x.name=Wu)) p with⟨e,_⟩|⟨i,A,e,_⟩
 .simp[e,BL.get];exact hQ ⟨0,0,0,true,rfl,λ _=>rfl,gp _⟩
 .have⟨kQ,ig,kD,iR,n1,t1,py,kE,dc,cT,iy,eZ,eI⟩:=hw.pr.at_ A;obtain⟨vp,vb,rfl,eY,bR⟩:=eI;have⟨r0,r1,r2⟩:=uE eZ;have iJ:=cT.ai (g.trans (gH.trans gK));have aU:ig+i*3+1<n1:=ω
  have e0:¬(i:Int)<0:=ω
  by_cases qy:p[i].params=[]
  .simp[e,e0,BL.get,alE.get,w2,dc,A,iJ.get,r1,aU,eY.aN fw,qy];exact hQ ⟨0,0,0,false,rfl,λ h=>h.elim,gp _⟩
  .have mC:0<p[i].params.length:=za.2 qy;simp[e,e0,BL.get,alE.get,w2,dc,A,iJ.get,r1,aU,eY.aN fw,mC];exact hQ ⟨i,0,0,true,rfl,λ _=>rfl,gp _⟩
def Sl(p:List aQ)(q:Nat->aQ->Bool):Prop:=∃(f:Nat) (x:aQ),p[f]?=some x/\q f x=true
def atx(q:Nat->aQ->Bool)(hw:lD HB p vf id mid)(g0:I [] HB H)(hf:∀(f:Nat) x M K,p[f]?=some x->I [] H K->qe HB x M->CF E0 fv [ae f,.agg M] K λ v T=>v=bl (q f x)/\I [] K T):CN 236 [.ptr id 0,fv] H (RA (Sl p q) H):=by
 refine(ag1 (λ f K=>I [] H K/\∀(f':Nat) x,p[f']?=some x->f'<f->q f' x=false) (λ f K=>I [] H K/\∃x,p[f]?=some x/\q f x=true) hw (λ f K h=>g0.trans h.1) (λ f K T h g=>⟨h.1.C0 g aF,h.2⟩) (λ f K T h g=>⟨h.1.C0 g aF,h.2⟩) ⟨aw,λ f' x _ h=>(by omega:False).elim⟩ ?_).mono ?_
 .rintro f x M K Z ⟨g,hq⟩ hR
  refine(hf f x M K Z g hR).mono ?_;rintro v T ⟨rfl,g'⟩;refine⟨g'.u _,_,rfl,λ h=>⟨g.trans g',x,Z,h⟩,λ h=>⟨g.trans g',λ f' x' iX hl=>?_⟩⟩;rcases pH.1 hl with O|rfl
  .exact hq _ _ iX O
  .rw[Z]at iX;cases iX;exact h
 .rintro v K (⟨f,x,rfl,Z,g,y,G,Vy⟩|⟨rfl,g,hq⟩)
  .exact⟨f,0,0,true,rfl,λ _=>rfl,g⟩
  .refine⟨0,0,0,false,rfl,?_,g⟩;rintro⟨f,x,Z,wN⟩;rw[hq f x Z (cW.1 Z).1]at wN;exact wN
def Bo(x:aQ):Bool:=decide (x.blocks=[])||decide (64<x.blocks.length)
def axV{M:AU}(K:D)(Z:qe HB x M):CN 240 [ae f,.agg M] K λ v T=>v=bl (Bo x)/\I [] K T:=by
 obtain⟨vp,vb,rfl,hp,hb⟩:=Z;refine ba ase rfl λ Q' hQ=>?_;have g:=λ o=>(I.refl [] K).add o;by_cases O:x.blocks=[]
 .simp[hp.cell,hb.cell,hb.aN nh,O];exact hQ ⟨by simp[Bo,O],g _⟩
 .by_cases U:64<x.blocks.length<;>have fR:((64:Int)<x.blocks.length)=(64<x.blocks.length):=by rw[OL];omega
  .simp[hp.cell,hb.cell,hb.aN nh,O,fR,U];exact hQ ⟨by simp[Bo,O,U],g _⟩
  .have F:(x.blocks.length:Int)<=64:=ω
   simp[hp.cell,hb.cell,hb.aN nh,O];exact hQ ⟨by simp[Bo,O]<;>omega,g _⟩
def axW(hw:lD HB p vf id mid):sj 192 HB id (Sl p λ _ x=>Bo x):=by
 intro H g;refine ba arz rfl λ Q' hQ=>?_;simp;generalize aP:D.add _ _=H1;have a1:Lv H1 H.ab (.cells 3 (((Tr.e.put 0 (some (ae 0))).put 1 (some (ae 0))).put 2 (some (ae 0))) false):=by rw[<-aP];exact Lv.new
 have gH:I [] H H1:=by rw[<-aP];exact(I.refl [] H).add _
 clear aP;refine CW (atx (λ _ x=>Bo x) hw (g.trans gH) ?_) ?_
 .intro f x M K Z g hR;simp;exact axV K hR
 .rintro v K ⟨f,b,i,c,rfl,hc,gK⟩;simp[(a1.ai gK).get];exact hQ ⟨f,b,i,c,rfl,hc,(gH.trans gK).put (.inl aF)⟩
end
variable{K:D}{b:Nat}{t:CX}
def fL(l:List cU):Nat:=(l.map λ b=>b.code.length).sum
def ij(l:List aQ):Nat:=(l.map λ f=>fL f.blocks).sum
def ad7{x:cU}(h:l[b]?=some x):fL (l.take (b+1))=fL (l.take b)+x.code.length:=by unfold fL;rw[mI,h];simp
def ad8{l:List aQ}(h:l[f]?=some x):ij (l.take (f+1))=ij (l.take f)+fL x.blocks:=by unfold ij;rw[mI,h];simp
def akX(l:List cU)(n:Nat):fL (l.take n)<=fL l:=by have:=iQ fL (wj n l);unfold fL at*;simp only[lF,tJ]at this;omega
def ak0(l:List aQ)(n:Nat):ij (l.take n)<=ij l:=by have:=iQ ij (wj n l);unfold ij at*;simp only[lF,tJ]at this;omega
def fi(p:List aQ)(f b i:Nat):Nat:=ij (p.take f)+(match p[f]? with|some fn=>fL (fn.blocks.take b)|none=>0)+i
section
variable{p:List aQ}{HB:D}{id mid:Nat}{vf:J}
def axX{x:bp}{M:AU}{i:Nat}{n:Nat}(Z:ku HB x M)(hc:Lv K dH (.cells 1 t false))(ht:AV t 0 (ae n))(hn:n<=4096):CN 242 [wV f b i,.agg M,.ptr dH 0] K λ v T=>v=bl (decide (4096<n+1))/\I [dH] K T/\∃t,Lv T dH (.cells 1 t false)/\AV t 0 (ae (n+1:Nat)):=by
 obtain⟨va,vl,rfl,ha,hl,hr⟩:=Z
 refine ba asg rfl λ Q' hQ=>?_
 have g:∀o o' o2,I [dH] K (((K.add o).add o').put dH o2):=λ o o' o2=>((aw.add _).add _).put (.inr ζ)
 have e1:¬dH=K.ab:=bC hc.lt
 have e2:¬dH=K.ab+1:=by have:=hc.lt;omega
 have w:IntKind.wrap .i64 ((n:Int)+1)=(n:Int)+1:=fQ ω ω
 have e3:((4096:Int)<(n:Int)+1)=(4096<n+1):=by rw[OL];omega
 simp[ha.cell,hl.cell,e1,e2,hc.get,ht,w,e3]
 exact hQ ⟨rfl,g _ _ _,_,hc.add.add.put_eq,ζ⟩
def axY(hw:lD HB p vf id mid):sj 194 HB id (4096<ij p):=by
 intro H g;refine ba arB rfl λ Q' hQ=>?_;simp;generalize aP:D.put _ _ _=H1;have a1:Lv H1 H.ab (.cells 3 (((Tr.e.put 0 (some (ae 0))).put 1 (some (ae 0))).put 2 (some (ae 0))) false):=by rw[<-aP];exact Lv.new.add.eu ω
 have a2:Lv H1 (H.ab+1) (.cells 1 ((Tr.e.put 0 (some (ae 0))).put 0 (some (ae 0))) false):=by rw[<-aP];exact(Lv.new (H:=H.add _)).put_eq
 have gH:I [] H H1:=by rw[<-aP];exact(((I.refl [] H).add _).add _).put (.inl ω)
 have en:H1.ab=H.ab+2:=by rw[<-aP];rfl
 clear aP;refine CW (agO (λ f b i K=>I [] H K/\fi p f b i<=4096/\(∃t,Lv K (H.ab+1) (.cells 1 t false)/\AV t 0 (ae (fi p f b i)))/\Lv K H.ab (.cells 3 (((Tr.e.put 0 (some (ae 0))).put 1 (some (ae 0))).put 2 (some (ae 0))) false)) (λ f b i K=>I [] H K/\4096<ij p/\Lv K H.ab (.cells 3 (((Tr.e.put 0 (some (ae 0))).put 1 (some (ae 0))).put 2 (some (ae 0))) false)) hw (λ f b i K h=>g.trans h.1) ?_ ?_ ?_ ?_ ?_ ?_) ?_
 .rintro f b i K T ⟨O,U,⟨t,F,h4⟩,h5⟩ gn;exact⟨O.C0 gn ω,U,⟨t,⟨aT F.lt gn.ab,(gn.get _ ω).trans F.get⟩,h4⟩,⟨aT h5.lt gn.ab,(gn.get _ ω).trans h5.get⟩⟩
 .rintro f b i K T ⟨O,U,h5⟩ gn;exact⟨O.C0 gn ω,U,⟨aT h5.lt gn.ab,(gn.get _ ω).trans h5.get⟩⟩
 .have e0:fi p 0 0 0=0:=by unfold fi;cases p<;>simp[ij,fL]
  exact⟨gH,ω,⟨_,a2,by simp[e0]⟩,a1⟩
 .rintro f b i x M K ⟨fn,bk,q1,q2,q3⟩ ⟨O,U,⟨t,F,h4⟩,h5⟩ Z;refine af1.2 (C.mono (axX Z F h4 U) ?_);rintro v T ⟨rfl,g',t',h6,h7⟩;have og:fi p f b (i+1)=fi p f b i+1:=rfl;have hg:I [] H T:=⟨aY O.ab g'.ab,λ j hj hn=>(g'.get j (aT hj O.ab) ξ).trans (O.get j hj hn)⟩;have C5:=h5.W g' ζ;have Vt:fi p f b i+1<=ij p:=by have b1:=ad8 q1;have b2:=ad7 q2;have b3:=(cW.1 q3).1;have b4:=ak0 p (f+1);have b5:=akX fn.blocks (b+1);unfold fi;rw[q1];dsimp only;omega
  refine⟨⟨g'.ab,λ j hj hl=>g'.get j hl ξ⟩,_,rfl,λ h=>⟨hg,?_,C5⟩,λ h=>⟨hg,?_,⟨t',h6,by rw[og];exact h7⟩,C5⟩⟩
  .simp at h;omega
  .simp at h;omega
 .rintro f b fn bk K q1 q2 ⟨O,U,F,h5⟩;have e:fi p f (b+1) 0=fi p f b bk.code.length:=by unfold fi;rw[q1];dsimp only;rw[ad7 q2];omega
  exact⟨O,ω,by rw[e];exact F,h5⟩
 .rintro f fn K q1 ⟨O,U,F,h5⟩;have e:fi p (f+1) 0 0=fi p f fn.blocks.length 0:=by unfold fi;rw[q1];dsimp only;rw[ad8 q1,iF];cases p[f+1]?<;>simp[fL]
  exact⟨O,ω,by rw[e];exact F,h5⟩
 .rintro v K (⟨f,b,i,x,rfl,cQ,O,U,h5⟩|⟨rfl,O,U,F,h5⟩)
  .simp[h5.get];exact hQ ⟨f,b,i,true,rfl,λ _=>rfl,O.put (.inl aF)⟩
  .simp[h5.get];refine hQ ⟨0,0,0,false,rfl,?_,O.put (.inl aF)⟩;have e:fi p p.length 0 0=ij p:=by unfold fi;simp
   rw[e]at U;simp;omega
end
variable{P:aI->Prop}{m:Nat}
def DQ(s:aI):KP (.one .s) (.string s):=by simp[KP]
structure kW(K:D)(m:Nat)(P:ByteArray->Prop):Prop where
 ob:∃l,FG K m 9 (.one .s) l/\∀s,(P s->cH (.string s) l=some (bl true))/\(¬P s->cH (.string s) l=none)
def kW.W{T:D}{S:AT}(h:kW K m P)(g:I S K T)(hs:m∉S):kW T m P:=let⟨l,O,U⟩:=h.ob;⟨l,O.W g hs,U⟩
def kW.C0(h:kW K m P)(g:lO f K H)(B:m<f):kW H m P:=by obtain⟨l,⟨⟨c,O⟩,F,h4⟩,U⟩:=h.ob;exact⟨l,⟨⟨c,aT O.lt g.ab,(g.get _ B).trans O.get⟩,F,h4⟩,U⟩
section
variable{p:List aQ}{HB:D}{id mid:Nat}{vf:J}
def aGg{M:AU}(Z:qe HB x M)(hc:Lv K dH (.cells 1 t false))(ht:AV t 0 (.map m))(B:kW K m P)(C9:dH≠m):CN 237 [ae f,.agg M,.ptr dH 0] K λ v T=>(∃b,v=bl b/\(b=true↔P x.name))/\I [m] K T/\kW T m (λ s=>P s\/s=x.name):=by
 obtain⟨vp,vb,rfl,hp,hb⟩:=Z
 obtain⟨l,⟨⟨c,hl⟩,mA,ud⟩,hP⟩:=B.ob
 refine ba asa rfl λ Q' hQ=>?_
 have e1:¬dH=K.ab:=bC hc.lt
 have e2:¬m=K.ab:=bC hl.lt
 have g:∀o o2,I [m] K ((K.add o).put m o2):=λ o o2=>(aw.add _).put (.inr ζ)
 have fin:∀(T:D) (b:Bool) (c':Nat),(b=true↔P x.name)->I [m] K T->Lv T m (.map 9 c' (eD c (.string x.name) (bl true) l))->Q' (bl b) T:=by
  intro T b c' eG gK ck;refine hQ ⟨⟨b,rfl,eG⟩,gK,⟨_,⟨⟨c',ck⟩,Jx (DQ _) mA,Dq (DQ _) ud⟩,λ s=>?_⟩⟩;rw[Bb (DQ _) (DQ _)];by_cases e:s=x.name
  .subst e;simp
  .have:¬Value.string s=Value.string x.name:=by simpa using e
   rw[ao this];exact⟨λ h=>(hP s).1 (h.resolve_right e),λ h=>(hP s).2 λ h'=>h (.inl h')⟩
 by_cases h:P x.name
 .obtain⟨bb,Q⟩:∃bb,lk (.string x.name) l=some (bb,bl true):=by have:=(hP x.name).1 h;unfold cH at this;cases hq:lk (.string x.name) l with|none=>rw[hq]at this;cases this|some q=>rw[hq]at this;have⟨q1,q2⟩:=q;simp at this;exact⟨q1,by rw[this]⟩
  simp[hp.cell,hb.cell,e1,e2,hc.get,ht,hl.get,Q];exact fin _ true _ (by simp[h]) (g _ _) hl.add.put_eq
 .have Q:lk (.string x.name) l=none:=by have:=(hP x.name).2 h;unfold cH at this;cases hq:lk (.string x.name) l with|none=>rfl|some q=>rw[hq]at this;cases this
  simp[hp.cell,hb.cell,e1,e2,hc.get,ht,hl.get,Q];exact fin _ false _ (by simp[h]) (g _ _) hl.add.put_eq
def SE(p:List aQ):Prop:=∃(i j:Nat) (x y:aQ),i<j/\p[i]?=some x/\p[j]?=some y/\x.name=y.name
def aGh(hw:lD HB p vf id mid):sj 189 HB id (SE p):=by
 intro H g;refine ba arv rfl λ Q' hQ=>?_;simp;generalize aP:D.put _ _ _=H1;have a1:Lv H1 H.ab (.cells 3 (((Tr.e.put 0 (some (ae 0))).put 1 (some (ae 0))).put 2 (some (ae 0))) false):=by rw[<-aP];exact Lv.new.add.add.eu ω
 have a2:kW H1 (H.ab+1) (λ _=>False):=by rw[<-aP];exact⟨[],⟨⟨0,(Lv.new (H:=H.add _)).add.eu (bC (sx _))⟩,by simp[bQ],by simp[bQ]⟩,λ s=>⟨λ h=>h.elim,λ _=>rfl⟩⟩
 have a3:Lv H1 (H.ab+2) (.cells 1 ((Tr.e.put 0 (some (.lit (.map none)))).put 0 (some (.map (H.ab+1)))) false):=by rw[<-aP];exact(Lv.new (H:=(H.add _).add _)).put_eq
 have gH:I [] H H1:=by rw[<-aP];exact((((I.refl [] H).add _).add _).add _).put (.inl ω)
 have en:H1.ab=H.ab+3:=by rw[<-aP];rfl
 clear aP;refine CW (ag1 (λ f K=>I [] H K/\kW K (H.ab+1) (λ s=>∃i x,i<f/\p[i]?=some x/\x.name=s)/\(¬∃i j x y,i<j/\j<f/\p[i]?=some x/\p[j]?=some y/\x.name=y.name)/\Lv K (H.ab+2) (.cells 1 ((Tr.e.put 0 (some (.lit (.map none)))).put 0 (some (.map (H.ab+1)))) false)/\Lv K H.ab (.cells 3 (((Tr.e.put 0 (some (ae 0))).put 1 (some (ae 0))).put 2 (some (ae 0))) false)) (λ f K=>I [] H K/\SE p/\Lv K H.ab (.cells 3 (((Tr.e.put 0 (some (ae 0))).put 1 (some (ae 0))).put 2 (some (ae 0))) false)) hw (λ f K h=>g.trans h.1) ?_ ?_ ?_ ?_) ?_
 .rintro f K T ⟨O,U,F,h4,h5⟩ gn;exact⟨O.C0 gn ω,U.C0 gn ω,F,⟨aT h4.lt gn.ab,(gn.get _ ω).trans h4.get⟩,⟨aT h5.lt gn.ab,(gn.get _ ω).trans h5.get⟩⟩
 .rintro f K T ⟨O,U,h5⟩ gn;exact⟨O.C0 gn ω,U,⟨aT h5.lt gn.ab,(gn.get _ ω).trans h5.get⟩⟩
 .refine⟨gH,?_,?_,a3,a1⟩
  .have⟨l,q1,q2⟩:=a2.ob;exact⟨l,q1,λ s=>⟨λ ⟨i,x,h,_⟩=>ω,λ _=>(q2 s).2 λ h=>h⟩⟩
  .rintro⟨i,j,x,y,O,U,_⟩;omega
 .rintro f x M K Z ⟨O,U,F,h4,h5⟩ hR;refine af1.2 (C.mono (aGg hR h4 ζ U ω) ?_);rintro v T ⟨⟨b,rfl,hb⟩,g',hs⟩;have hg:I [] H T:=⟨aY O.ab g'.ab,λ j hj hn=>(g'.get j (aT hj O.ab) ξ).trans (O.get j hj hn)⟩;refine⟨⟨g'.ab,λ j hj hl=>g'.get j hl ξ⟩,b,rfl,λ h=>⟨hg,?_,h5.W g' ζ⟩,λ h=>⟨hg,?_,?_,h4.W g' ζ,h5.W g' ζ⟩⟩
  .have⟨i,y,q1,q2,q3⟩:=hb.1 h;exact⟨i,f,y,x,q1,q2,Z,q3⟩
  .have⟨l,q1,q2⟩:=hs.ob;refine⟨l,q1,λ s=>⟨λ ⟨i,y,r1,r2,r3⟩=>(q2 s).1 ?_,λ hn=>(q2 s).2 λ hp=>hn ?_⟩⟩
   .by_cases e:i<f
    .exact .inl ⟨i,y,e,r2,r3⟩
    .obtain rfl:i=f:=ω
     rw[Z]at r2;cases r2;exact .inr r3.symm
   .rcases hp with⟨i,y,r1,r2,r3⟩|r
    .exact⟨i,y,ω,r2,r3⟩
    .exact⟨f,x,ω,Z,r.symm⟩
  .rintro⟨i,j,y,z,r1,r2,r3,r4,r5⟩;by_cases e:j<f
   .exact F ⟨i,j,y,z,r1,e,r3,r4,r5⟩
   .obtain rfl:j=f:=ω
    rw[Z]at r4;cases r4;have:=hb.2 ⟨i,y,r1,r3,r5⟩;rw[h]at this;cases this
 .rintro v K (⟨f,x,rfl,Z,O,U,h5⟩|⟨rfl,O,U,F,h4,h5⟩)
  .simp[h5.get];exact hQ ⟨f,0,0,true,rfl,λ _=>rfl,O.put (.inl aF)⟩
  .simp[h5.get];refine hQ ⟨0,0,0,false,rfl,?_,O.put (.inl aF)⟩;rintro⟨i,j,x,y,r1,r2,r3,r4⟩;exact(F ⟨i,j,x,y,r1,(cW.1 r3).1,r2,r3,r4⟩).elim
end
def lC(p:List aQ)(q:Nat->Nat->Nat->bp->Bool)(f b i:Nat):Prop:=∀f' b' i' x,At p f' b' i' x->yS f' b' i' f b i->q f' b' i' x=false
section
variable{p:List aQ}{q:Nat->Nat->Nat->bp->Bool}{f b i:Nat}
def lC.zero:lC p q 0 0 0:=λ f' b' i' x _ h=>by unfold yS at h;omega
def lC.step(h:lC p q f b i){x:bp}(cQ:At p f b i x)(Z:q f b i x=false):lC p q f b (i+1):=by
 intro f' b' i' x' sE hl;by_cases he:f'=f/\b'=b/\i'=i
 .obtain⟨rfl,rfl,rfl⟩:=he;have⟨fn,bk,a1,a2,a3⟩:=cQ;have⟨nE,O1,b1,b2,b3⟩:=sE;rw[a1]at b1;cases b1;rw[a2]at b2;cases b2;rw[a3]at b3;cases b3;exact Z
 .exact h _ _ _ _ sE (by unfold yS at hl⊢;omega)
def lC.bF{bk:cU}(O:p[f]?=some x)(U:x.blocks[b]?=some bk)(h:lC p q f b bk.code.length):lC p q f (b+1) 0:=by
 intro f' b' i' x' sE hl;refine h _ _ _ _ sE ?_;have⟨nE,O1,b1,b2,b3⟩:=sE;unfold yS at hl⊢;by_cases he:f'=f/\b'=b
 .obtain⟨rfl,rfl⟩:=he;rw[O]at b1;cases b1;rw[U]at b2;cases b2;have:=(cW.1 b3).1;omega
 .omega
theorem lC.fn{fn:aQ}(O:p[f]?=some fn)(h:lC p q f fn.blocks.length 0):lC p q (f+1) 0 0:=by
 intro f' b' i' x' sE hl;refine h _ _ _ _ sE ?_;have⟨nE,O1,b1,b2,b3⟩:=sE;unfold yS at hl⊢;by_cases he:f'=f
 .subst he;rw[O]at b1;cases b1;have:=(cW.1 b2).1;omega
 .omega
def lC.all(h:lC p q p.length 0 0):¬jF p q:=by
 rintro⟨f,b,i,x,cQ,Z⟩;have bm:f<p.length:=by have⟨fn,bk,O,_⟩:=cQ;exact(cW.1 O).1
 rw[h f b i x cQ (by unfold yS;omega)]at Z;cases Z
end
abbrev oK:AO:=.cells 3 (((Tr.e.put 0 (some (ae 0))).put 1 (some (ae 0))).put 2 (some (ae 0))) false
section
variable{p:List aQ}{HB:D}{id mid:Nat}{vf:J}
def Ab(x:bp):Bool:=GV x.op&&decide (8<x.args.length)
def ax0(hw:lD HB p vf id mid):sj 191 HB id ((∃(f:Nat) (x:aQ),p[f]?=some x/\8<x.params.length)\/jF p λ _ _ _ x=>Ab x):=by
 intro H g;refine ba ary rfl λ Q' hQ=>?_;have⟨t',sY,w1,w2,w3⟩:=hw.ob;have ik:=w1.ai g;have h6:=hw.pr;simp[bC ik.lt,ik.get,w2,h6.aN nf];generalize aP:D.add _ _=H1;have a1:Lv H1 H.ab oK:=by rw[<-aP];exact Lv.new
 have gH:I [] H H1:=by rw[<-aP];exact(I.refl [] H).add _
 clear aP;refine CA (λ f sl K=>I [] H K/\Lv K H.ab oK/\(∀(f':Nat) x,p[f']?=some x->f'<f->¬8<x.params.length)/\lC p (λ _ _ _ x=>Ab x) f 0 0/\AV sl 2 (.ptr H.ab 0)/\AV sl 14 vf/\AV sl 15 (ae p.length)/\AV sl 16 (ae f)/\f<=p.length) p.length ⟨gH,a1,λ f' x _ h=>ω,lC.zero,ζ⟩ ?_
 rintro b1 k1-cq f sl K ⟨gK,c2,nF,nI,s2,cy,dg,fP,kH⟩ sO;by_cases az:f<p.length
 .have⟨kQ,ig,kD,iR,n1,t1,py,kE,dc,cT,iy,eZ,eI⟩:=h6.at_ az;obtain⟨vp,vb,rfl,eY,bR⟩:=eI;have iJ:=cT.ai (g.trans gK);have jN:p[f]?=some p[f]:=bf az;by_cases A2:8<p[f].params.length
  .have aaO:(8:Int)<p[f].params.length:=ω
   have O7:=c2.ai (I.new (I.refl [] K) (.cells 3 Tr.e false) (.cells 3 Tr.e false));simp[s2,cy,dg,fP,az,dc,iJ.get,bY eZ,iy,eY.cell,bR.cell,eY.aN fw,aaO,bC c2.lt,c2.get];exact hQ ⟨f,0,0,true,rfl,λ _=>rfl,(gK.trans (I.new aw _ _)).put (.inl aF)⟩
  .have aaO:¬(8:Int)<p[f].params.length:=ω
   simp[cy,dg,fP,az,dc,iJ.get,bY eZ,iy,eY.cell,bR.cell,eY.aN fw,bR.aN nh,aaO];refine CA (λ b sl K=>I [] H K/\Lv K H.ab oK/\lC p (λ _ _ _ x=>Ab x) f b 0/\AV sl 2 (.ptr H.ab 0)/\AV sl 14 vf/\AV sl 15 (ae p.length)/\AV sl 16 (ae f)/\AV sl 4 (ae f)/\AV sl 28 vb/\AV sl 29 (ae p[f].blocks.length)/\AV sl 30 (ae b)/\b<=p[f].blocks.length) (p[f].blocks.length) ⟨gK.trans (I.new aw _ _),c2.ai (I.new aw _ _),nI,by simp[s2,cy,dg,fP,dc]⟩ ?_
   rintro b2 k2-dO b sl K ⟨gK,c2,nI,s2,cy,dg,fP,s4,lZ,Dz,kr,jM⟩ eJ;by_cases dp:b<p[f].blocks.length
   .have⟨lJ,lU,rN,kY,n2,t2,qW,mR,fp,ck,gV,iz,iv⟩:=bR.at_ dp;obtain⟨vc,rfl,bX⟩:=iv;have kP:=ck.ai (g.trans gK);simp[lZ,Dz,kr,dp,fp,kP.get,bY iz,gV,bX.aN nT,bX.cell];refine bu (α:=Nat) (aJ:=λ i sl K=>I [] H K/\Lv K H.ab oK/\lC p (λ _ _ _ x=>Ab x) f b i/\AV sl 2 (.ptr H.ab 0)/\AV sl 14 vf/\AV sl 15 (ae p.length)/\AV sl 16 (ae f)/\AV sl 4 (ae f)/\AV sl 28 vb/\AV sl 29 (ae p[f].blocks.length)/\AV sl 30 (ae b)/\AV sl 6 (ae b)/\AV sl 36 vc/\AV sl 37 (ae p[f].blocks[b].code.length)/\AV sl 38 (ae i)/\i<=p[f].blocks[b].code.length) (mu:=λ i=>p[f].blocks[b].code.length-i) ?_ 0 _ _ ?ini;case ini=>exact⟨gK.trans (I.new aw _ _),c2.ai (I.new aw _ _),nI,by simp[s2,cy,dg,fP,s4,lZ,Dz,kr,fp]⟩
    rintro b3 k3-jU i sl K ⟨gK,c2,nI,s2,cy,dg,fP,s4,lZ,Dz,kr,s6,rY,lN,rZ,jf⟩ jg;by_cases du:i<p[f].blocks[b].code.length
    .have⟨yy,Aa,xJ,wv,n3,t3,Bq,BV,jD,fF,mM,kh,f_⟩:=bX.at_ du;obtain⟨va,vl,rfl,iU,fo,oi⟩:=f_;have qx:=fF.ai (g.trans gK);have cQ:At p f b i p[f].blocks[b].code[i]:=⟨_,_,jN,bf dp,bf du⟩;generalize p[f].blocks[b].code[i]=x at cQ kh iU fo oi;have gn:=λ o o'=>I.new (I.refl [] K) o o';have O7:=λ o o'=>c2.ai (gn o o');cases hq:Ab x with
     |true=>
      have wN:=hq
      unfold Ab at wN;simp at wN
      have hq3:(8:Int)<x.args.length:=ω
      simp[s2,s4,s6,rY,lN,rZ,du,jD,qx.get,bY kh,mM,iU.cell,fo.cell,cE (Tw _ _),wN.1,iU.aN fw,hq3,bC c2.lt,c2.get]
      exact hQ ⟨f,b,i,true,rfl,λ _=>rfl,(gK.trans (gn _ _)).put (.inl aF)⟩
     |false=>
      have pd:∀bz,(bz.get 2=some (.ptr H.ab 0)/\bz.get 14=some vf/\bz.get 15=some (ae p.length)/\bz.get 16=some (ae f)/\bz.get 4=some (ae f)/\bz.get 28=some vb/\bz.get 29=some (ae p[f].blocks.length)/\bz.get 30=some (ae b)/\bz.get 6=some (ae b)/\bz.get 36=some vc/\bz.get 37=some (ae p[f].blocks[b].code.length)/\bz.get 38=some (ae (i+1:Nat)))->∀o o',aD E0 (.code (.loop b3)::k3) ⟨bz,60,[],none,191⟩ ((K.add o).put K.ab (some o')) (qb E0 [.cell 2 48,.tmp 3] Q'):=by rintro bz hs o o';exact jg (i+1) bz _ ω ⟨gK.trans (gn _ _),O7 _ _,nI.step cQ hq,hs.1,hs.2.1,hs.2.2.1,hs.2.2.2.1,hs.2.2.2.2.1,hs.2.2.2.2.2.1,hs.2.2.2.2.2.2.1,hs.2.2.2.2.2.2.2.1,hs.2.2.2.2.2.2.2.2.1,hs.2.2.2.2.2.2.2.2.2.1,hs.2.2.2.2.2.2.2.2.2.2.1,hs.2.2.2.2.2.2.2.2.2.2.2,du⟩
      cases hc:GV x.op with
      |true=>
       have hq3:¬(8:Int)<x.args.length:=by unfold Ab at hq;simp[hc]at hq;omega
       simp[rY,lN,rZ,du,jD,qx.get,bY kh,mM,iU.cell,fo.cell,cE (Tw _ _),hc,iU.aN fw,hq3,bq (aT du bX.cP)]
       exact pd _ (by simp[s2,cy,dg,fP,s4,s6,lZ,Dz,kr,rY,lN,jD]) _ _
      |false=>
       simp[rY,lN,rZ,du,jD,qx.get,bY kh,mM,iU.cell,fo.cell,cE (Tw _ _),hc,bq (aT du bX.cP)]
       exact pd _ (by simp[s2,cy,dg,fP,s4,s6,lZ,Dz,kr,rY,lN,jD]) _ _
    .obtain rfl:i=p[f].blocks[b].code.length:=ω
     subst jU;simp[lN,rZ,kr,bq (aT dp bR.cP)];exact eJ ω ⟨gK,c2,nI.bF jN (bf dp),by simp[s2,cy,dg,fP,s4,lZ,Dz,dz dp]⟩
   .obtain rfl:b=p[f].blocks.length:=ω
    subst dO;simp[Dz,kr,fP,bq (aT az h6.cP)];refine sO ω ⟨gK,c2,λ f' x Z hl=>?_,nI.fn jN,by simp[s2,cy,dg,dz az]⟩;rcases pH.1 hl with O|rfl
    .exact nF _ _ Z O
    .rw[jN]at Z;cases Z;exact A2
 .obtain rfl:f=p.length:=ω
  subst cq;simp[dg,fP,s2,c2.get];refine hQ ⟨0,0,0,false,rfl,?_,gK.put (.inl aF)⟩;rintro(⟨f',x,Z,h8⟩|hI)
  .exact(nF _ _ Z (cW.1 Z).1 h8).elim
  .exact(nI.all hI).elim
end
@[simp]def aI2{Y:aE}{all:List Oper}:dA Y all none=some true:=rfl
section
variable{p:List aQ}{HB:D}{id mid:Nat}{vf:J}
def Lb(p:List aQ)(f b:Nat):Nat:=match p[f]? with|some fn=>(match fn.blocks[b]? with|some bk=>bk.code.length|none=>0)|none=>0
def wW(p:List aQ)(f b i:Nat)(x:bp):Bool:=M1 x.op !=decide (i+1=Lb p f b)
def XR(p:List aQ):Prop:=∃(f b:Nat) (fn:aQ) (bk:cU),p[f]?=some fn/\fn.blocks[b]?=some bk/\bk.code=[]
def anp(hw:lD HB p vf id mid):sj 196 HB id (XR p\/jF p (wW p)):=by
 intro H g;refine ba arD rfl λ Q' hQ=>?_;have⟨t',sY,w1,w2,w3⟩:=hw.ob;have ik:=w1.ai g;have h6:=hw.pr;simp[bC ik.lt,ik.get,w2,h6.aN nf];generalize aP:D.add _ _=H1;have a1:Lv H1 H.ab oK:=by rw[<-aP];exact Lv.new
 have gH:I [] H H1:=by rw[<-aP];exact(I.refl [] H).add _
 clear aP;refine CA (λ f sl K=>I [] H K/\Lv K H.ab oK/\(∀(f':Nat) x,p[f']?=some x->f'<f->∀bk∈x.blocks,bk.code≠[])/\lC p (wW p) f 0 0/\AV sl 2 (.ptr H.ab 0)/\AV sl 14 vf/\AV sl 15 (ae p.length)/\AV sl 16 (ae f)/\f<=p.length) p.length ⟨gH,a1,λ f' x _ h=>ω,lC.zero,ζ⟩ ?_
 rintro b1 k1-cq f sl K ⟨gK,c2,nF,nI,s2,cy,dg,fP,kH⟩ sO;by_cases az:f<p.length
 .have⟨kQ,ig,kD,iR,n1,t1,py,kE,dc,cT,iy,eZ,eI⟩:=h6.at_ az;obtain⟨vp,vb,rfl,eY,bR⟩:=eI;have iJ:=cT.ai (g.trans gK);have jN:p[f]?=some p[f]:=bf az;simp[cy,dg,fP,az,dc,iJ.get,bY eZ,iy,eY.cell,bR.cell,bR.aN nh];refine CA (λ b sl K=>I [] H K/\Lv K H.ab oK/\(∀(b':Nat) x,p[f].blocks[b']?=some x->b'<b->x.code≠[])/\lC p (wW p) f b 0/\AV sl 2 (.ptr H.ab 0)/\AV sl 14 vf/\AV sl 15 (ae p.length)/\AV sl 16 (ae f)/\AV sl 4 (ae f)/\AV sl 22 vb/\AV sl 23 (ae p[f].blocks.length)/\AV sl 24 (ae b)/\b<=p[f].blocks.length) (p[f].blocks.length) ⟨gK.trans (I.new aw _ _),c2.ai (I.new aw _ _),λ b' x _ h=>ω,nI,by simp[s2,cy,dg,fP,dc]⟩ ?_
  rintro b2 k2-dO b sl K ⟨gK,c2,nB,nI,s2,cy,dg,fP,s4,fu,dx,iO,jM⟩ eJ;by_cases dp:b<p[f].blocks.length
  .have⟨lJ,lU,rN,kY,n2,t2,qW,mR,fp,ck,gV,iz,iv⟩:=bR.at_ dp;obtain⟨vc,rfl,bX⟩:=iv;have kP:=ck.ai (g.trans gK);have mX:p[f].blocks[b]?=some p[f].blocks[b]:=bf dp;by_cases hz:p[f].blocks[b].code=[]
   .simp[s2,s4,fu,dx,iO,dp,fp,kP.get,bY iz,gV,bX.aN nT,bX.cell,hz,bC c2.lt,c2.get];exact hQ ⟨f,b,0,true,rfl,λ _=>rfl,(gK.trans (I.new aw _ _)).put (.inl aF)⟩
   .have eN:Lb p f b=p[f].blocks[b].code.length:=by unfold Lb;rw[jN];dsimp only;rw[mX]
    simp[fu,dx,iO,dp,fp,kP.get,bY iz,gV,bX.aN nT,bX.cell,hz];generalize dw:D.put _ _ _=K3;have g3:I [] K K3:=by rw[<-dw];exact I.new aw _ _
    obtain⟨t7,l7,e7⟩:∃t7,Lv K3 K.ab (.cells 2 t7 false)/\AV t7 1 vc:=by rw[<-dw];exact⟨_,Lv.new.put_eq,ζ⟩
    clear dw;refine bu (α:=Nat) (aJ:=λ i sl T=>I [] K3 T/\lC p (wW p) f b i/\AV sl 2 (.ptr H.ab 0)/\AV sl 14 vf/\AV sl 15 (ae p.length)/\AV sl 16 (ae f)/\AV sl 4 (ae f)/\AV sl 22 vb/\AV sl 23 (ae p[f].blocks.length)/\AV sl 24 (ae b)/\AV sl 6 (ae b)/\AV sl 7 (.ptr K.ab 0)/\AV sl 37 vc/\AV sl 38 (ae p[f].blocks[b].code.length)/\AV sl 39 (ae i)/\i<=p[f].blocks[b].code.length) (mu:=λ i=>p[f].blocks[b].code.length-i) ?_ 0 _ _ ?ini;case ini=>exact⟨aw,nI,by simp[s2,cy,dg,fP,s4,fu,dx,iO,fp]⟩
    rintro b3 k3-jU i sl K4 ⟨g4,nI,s2,cy,dg,fP,s4,fu,dx,iO,s6,s7,lN,rZ,s39,jf⟩ jg;by_cases du:i<p[f].blocks[b].code.length
    .have⟨yy,Aa,xJ,wv,n3,t3,Bq,BV,jD,fF,mM,kh,f_⟩:=bX.at_ du;obtain⟨va,vl,rfl,iU,fo,oi⟩:=f_;have gA:=gK.trans (g3.trans g4);have qx:=fF.ai (g.trans gA);have O7:=c2.ai (g3.trans g4);have We:=l7.ai g4;have cQ:At p f b i p[f].blocks[b].code[i]:=⟨_,_,jN,mX,bf du⟩;generalize p[f].blocks[b].code[i]=x at cQ kh iU fo oi;have gn:=λ o o'=>I.new (I.refl [] K4) o o';have bA:=bX.cP;have w51:IntKind.wrap .i64 ((p[f].blocks[b].code.length:Int)-1)=(p[f].blocks[b].code.length:Int)-1:=fQ ω (by unfold maxLen at bA;omega);have e52:((i:Int)=(p[f].blocks[b].code.length:Int)-1)=(i+1=p[f].blocks[b].code.length):=by rw[OL];omega
     have hq:wW p f b i x=(M1 x.op !=decide (i+1=p[f].blocks[b].code.length)):=by unfold wW;rw[eN]
     have pd:wW p f b i x=false->∀bz,(bz.get 2=some (.ptr H.ab 0)/\bz.get 14=some vf/\bz.get 15=some (ae p.length)/\bz.get 16=some (ae f)/\bz.get 4=some (ae f)/\bz.get 22=some vb/\bz.get 23=some (ae p[f].blocks.length)/\bz.get 24=some (ae b)/\bz.get 6=some (ae b)/\bz.get 7=some (.ptr K.ab 0)/\bz.get 37=some vc/\bz.get 38=some (ae p[f].blocks[b].code.length)/\bz.get 39=some (ae (i+1:Nat))/\i+1<=p[f].blocks[b].code.length)->∀o o',aD E0 (.code (.loop b3)::k3) ⟨bz,62,[],none,196⟩ ((K4.add o).put K4.ab (some o')) (qb E0 [.cell 2 48,.tmp 3] Q'):=λ EF bz hs o o'=>jg (i+1) bz _ ω ⟨g4.trans (gn _ _),nI.step cQ EF,hs⟩;have awq:wW p f b i x=true->∀o o' o2,Q' (.dh [wV f b i,bl true]) (((K4.add o).put K4.ab (some o')).put H.ab o2):=λ EF o o' o2=>hQ ⟨f,b,i,true,rfl,λ _=>rfl,(gA.trans (gn _ _)).put (.inl aF)⟩;simp[s7,lN,rZ,s39,du,jD,qx.get,bY kh,mM,iU.cell,fo.cell,cE (apt _ _),bC We.lt,We.get,e7,de nT,w51,e52];refine dF ?_ ?_
     .simp[dm,val,bC We.lt,We.get,e7,jD,de nT]
     simp;refine CB.mk (λ hc=>?_) (λ hc=>?_)
     .have EF:wW p f b i x=true:=by rw[hq];simpa[bne]using hc
      simp[s2,s4,s6,bC O7.lt,O7.get];exact awq EF _ _ _
     .have EF:wW p f b i x=false:=by rw[hq];simpa[bne]using hc
      simp[s39,bq (aT du bA)];exact pd EF _ (by simp[s2,cy,dg,fP,s4,s6,s7,fu,dx,iO,lN,rZ,jD,dz du]) _ _
    .obtain rfl:i=p[f].blocks[b].code.length:=ω
     subst jU;simp[rZ,s39,iO,bq (aT dp bR.cP)];refine eJ ω ⟨gK.trans (g3.trans g4),c2.ai (g3.trans g4),λ b' x Z hl=>?_,nI.bF jN mX,by simp[s2,cy,dg,fP,s4,fu,dx,dz dp]⟩;rcases pH.1 hl with O|rfl
     .exact nB _ _ Z O
     .rw[mX]at Z;cases Z;exact hz
  .obtain rfl:b=p[f].blocks.length:=ω
   subst dO;simp[dx,iO,fP,bq (aT az h6.cP)];refine sO ω ⟨gK,c2,λ f' x Z hl=>?_,nI.fn jN,by simp[s2,cy,dg,dz az]⟩;rcases pH.1 hl with O|rfl
   .exact nF _ _ Z O
   .rw[jN]at Z;cases Z;intro bk cJ;obtain⟨j,hj,rfl⟩:=rJ cJ;exact nB j _ (bf hj) hj
 .obtain rfl:f=p.length:=ω
  subst cq;simp[dg,fP,s2,c2.get];refine hQ ⟨0,0,0,false,rfl,?_,gK.put (.inl aF)⟩;rintro(⟨f',b',fn,bk,Z,h8,hz⟩|hI)
  .exact(nF _ _ Z (cW.1 Z).1 _ (oS h8) hz).elim
  .exact(nI.all hI).elim
end
def kW.use(h:kW K m P)(s:aI):∃c l,Lv K m (.map 9 c l)/\((P s/\∃b,lk (.string s) l=some (b,bl true))\/(¬P s/\lk (.string s) l=none))/\(∀T c',Lv T m (.map 9 c' (eD c (.string s) (bl true) l))->kW T m (λ x=>P x\/x=s)):=by
 obtain⟨l,⟨⟨c,hl⟩,mA,ud⟩,hP⟩:=h.ob
 refine⟨c,l,hl,?_,λ T c' ck=>⟨_,⟨⟨c',ck⟩,Jx (DQ _) mA,Dq (DQ _) ud⟩,λ x=>?_⟩⟩
 .by_cases h:P s
  .have:=(hP s).1 h;unfold cH at this;cases hq:lk (.string s) l with|none=>rw[hq]at this;cases this|some q=>rw[hq]at this;have⟨q1,q2⟩:=q;simp at this;exact .inl ⟨h,q1,by rw[this]⟩
  .have:=(hP s).2 h;unfold cH at this;cases hq:lk (.string s) l with|none=>exact .inr ⟨h,rfl⟩|some q=>rw[hq]at this;cases this
 .rw[Bb (DQ _) (DQ _)]
  by_cases e:x=s
  .subst e;simp
  .have:¬Value.string x=Value.string s:=by simpa using e
   rw[ao this];exact⟨λ h=>(hP x).1 (h.resolve_right e),λ h=>(hP x).2 λ h'=>h (.inl h')⟩
def kW.mono(h:kW K m P)(he:∀s,P s↔P' s):kW K m P':=by have:P=P':=funext λ s=>propext (he s);rw[<-this];exact h
def kW.nil(h:Lv K m (.map 9 f [])):kW K m (λ _=>False):=⟨[],⟨⟨f,h⟩,by simp[bQ],by simp[bQ]⟩,λ s=>⟨λ h=>h.elim,λ _=>rfl⟩⟩
section
variable{p:List aQ}{HB:D}{id mid:Nat}{vf:J}
def aGi(hw:lD HB p vf id mid):sj 193 HB id False:=by
 intro H g;refine ba arA rfl λ Q' hQ=>?_;have⟨t',sY,w1,w2,w3⟩:=hw.ob;have ik:=w1.ai g;have h6:=hw.pr;simp[bC ik.lt,ik.get,w2,h6.aN nf];generalize aP:D.add _ _=H1;have a1:Lv H1 H.ab oK:=by rw[<-aP];exact Lv.new
 have gH:I [] H H1:=by rw[<-aP];exact(I.refl [] H).add _
 clear aP;refine CA (λ f sl K=>I [] H K/\Lv K H.ab oK/\AV sl 2 (.ptr H.ab 0)/\AV sl 13 vf/\AV sl 14 (ae p.length)/\AV sl 15 (ae f)/\f<=p.length) p.length ⟨gH,a1,ζ⟩ ?_
 rintro b1 k1-cq f sl K ⟨gK,c2,s2,ez,cy,dg,kH⟩ sO;by_cases az:f<p.length
 .have⟨kQ,ig,kD,iR,n1,t1,py,kE,dc,cT,iy,eZ,eI⟩:=h6.at_ az;obtain⟨vp,vb,rfl,eY,bR⟩:=eI;have iJ:=cT.ai (g.trans gK);have jN:p[f]?=some p[f]:=bf az;simp[ez,cy,dg,az,dc,iJ.get,bY eZ,iy,eY.cell,bR.cell,bR.aN nh];generalize dw:D.add _ _=K3;have g3:I [] K K3:=by rw[<-dw];exact(I.new aw _ _).add _
  have m3:∃P,kW K3 (K.ab+1) P:=by rw[<-dw];exact⟨_,kW.nil (Lv.new (H:=(K.add _).put _ _))⟩
  clear dw;refine CA (λ b sl T=>I [] H T/\Lv T H.ab oK/\(∃P,kW T (K.ab+1) P)/\AV sl 2 (.ptr H.ab 0)/\AV sl 13 vf/\AV sl 14 (ae p.length)/\AV sl 15 (ae f)/\AV sl 4 (ae f)/\AV sl 6 (.map (K.ab+1))/\AV sl 22 vb/\AV sl 23 (ae p[f].blocks.length)/\AV sl 24 (ae b)/\b<=p[f].blocks.length) (p[f].blocks.length) ⟨gK.trans g3,c2.ai g3,m3,by simp[s2,ez,cy,dg,dc]⟩ ?_
  have hKn:=gK.ab;have k8:=c2.lt;rintro b2 k2-dO b sl K4 ⟨pJ,c4,⟨P,m4⟩,s2,ez,cy,dg,s4,s6,fu,dx,iO,jM⟩ eJ;by_cases dp:b<p[f].blocks.length
  .have⟨lJ,lU,rN,kY,n2,t2,qW,mR,fp,ck,gV,iz,iv⟩:=bR.at_ dp;obtain⟨vc,rfl,bX⟩:=iv;have kP:=ck.ai (g.trans pJ);have⟨cm,lm,B,qv,fO⟩:=m4.use p[f].blocks[b].label;have gn:=λ o o'=>I.new (I.refl [] K4) o o';rcases qv with⟨-,bb,Q⟩|⟨-,Q⟩
   .simp[s2,s4,s6,fu,dx,iO,dp,fp,kP.get,bY iz,gV,bX.cell,bC B.lt,B.get,Q,bC c4.lt,c4.get];exact hQ ⟨f,b,0,true,rfl,λ _=>rfl,(pJ.trans (gn _ _)).put (.inl aF)⟩
   .simp[s6,fu,dx,iO,dp,fp,kP.get,bY iz,gV,bX.cell,bC B.lt,B.get,Q,bq (aT dp bR.cP)];exact eJ ω ⟨(pJ.trans (gn _ _)).put (.inl ω),(c4.ai (gn _ _)).eu ω,⟨_,fO _ _ ((B.ai (gn _ _)).put_eq)⟩,by simp[s2,ez,cy,dg,s4,s6,fu,dx,fp,dz dp]⟩
  .obtain rfl:b=p[f].blocks.length:=ω
   subst dO;simp[dx,iO,dg,bq (aT az h6.cP)];exact sO ω ⟨pJ,c4,by simp[s2,ez,cy,dz az]⟩
 .obtain rfl:f=p.length:=ω
  subst cq;simp[cy,dg,s2,c2.get];exact hQ ⟨0,0,0,false,rfl,λ h=>h.elim,gK.put (.inl aF)⟩
end
variable{l:List aI}
abbrev lT:aI:=⟨#[]⟩
def dC(l:List bp):List aI:=(l.map λ x=>x.dst).filter λ s=>decide (s≠lT)
def dB(l:List cU):List aI:=l.flatMap λ b=>dC b.code
def ajw(h:s∈l):¬(l++s::r).Nodup:=by intro hn;rw[zd]at hn;exact hn.2.2 s h s ζ rfl
section
variable{p:List aQ}{HB:D}{id mid:Nat}{vf:J}
def aGj(hw:lD HB p vf id mid):sj 201 HB id False:=by
 intro H g;refine ba arJ rfl λ Q' hQ=>?_;have⟨t',sY,w1,w2,w3⟩:=hw.ob;have ik:=w1.ai g;have h6:=hw.pr;simp[bC ik.lt,ik.get,w2,h6.aN nf];generalize aP:D.add _ _=H1;have a1:Lv H1 H.ab oK:=by rw[<-aP];exact Lv.new
 have gH:I [] H H1:=by rw[<-aP];exact(I.refl [] H).add _
 clear aP;refine CA (λ f sl K=>I [] H K/\Lv K H.ab oK/\AV sl 2 (.ptr H.ab 0)/\AV sl 17 vf/\AV sl 18 (ae p.length)/\AV sl 19 (ae f)/\f<=p.length) p.length ⟨gH,a1,ζ⟩ ?_
 rintro b1 k1-cq f sl K ⟨gK,c2,s2,ji,kT,i_,kH⟩ sO;by_cases az:f<p.length
 .have⟨kQ,ig,kD,iR,n1,t1,py,kE,dc,cT,iy,eZ,eI⟩:=h6.at_ az;obtain⟨vp,vb,rfl,eY,bR⟩:=eI;have iJ:=cT.ai (g.trans gK);simp[ji,kT,i_,az,dc,iJ.get,bY eZ,iy,eY.cell,bR.cell,eY.aN fw];generalize dw:D.add _ _=K3;have g3:I [] K K3:=by rw[<-dw];exact(I.new aw _ _).add _
  have m3:∃P,kW K3 (K.ab+1) P:=by rw[<-dw];exact⟨_,kW.nil (Lv.new (H:=(K.add _).put _ _))⟩
  obtain⟨t5,l5,e5⟩:∃t5,Lv K3 K.ab (.cells 3 t5 false)/\AV t5 2 vb:=by rw[<-dw];exact⟨_,(Lv.new.put_eq).add,ζ⟩
  clear dw;have hKn:=gK.ab;have k8:=c2.lt;refine CA (λ j sl T=>I [] H T/\Lv T H.ab oK/\(∃P,kW T (K.ab+1) P)/\Lv T K.ab (.cells 3 t5 false)/\AV sl 2 (.ptr H.ab 0)/\AV sl 17 vf/\AV sl 18 (ae p.length)/\AV sl 19 (ae f)/\AV sl 4 (ae f)/\AV sl 5 (.ptr K.ab 0)/\AV sl 6 (.map (K.ab+1))/\AV sl 26 vp/\AV sl 27 (ae p[f].params.length)/\AV sl 28 (ae j)/\j<=p[f].params.length) (p[f].params.length) ⟨gK.trans g3,c2.ai g3,m3,l5,by simp[s2,ji,kT,i_,dc]⟩ ?_
  rintro b2 k2-dO j sl K4 ⟨pJ,c4,⟨P,m4⟩,l5,s2,ji,kT,i_,s4,s5,s6,uH,mG,lZ,Ey⟩ eJ;by_cases dK:j<p[f].params.length
  .have⟨uj,uB,tQ,exp,np,tp,uG,cp,cr,fG,ib,gq,⟨jL,gu⟩⟩:=eY.gL dK;cases jL;have Vc:=fG.ai (g.trans pJ);have⟨cm,lm,B,qv,fO⟩:=m4.use p[f].params[j]
   rcases qv with⟨-,bb,Q⟩|⟨-,Q⟩
   .simp[s2,s4,s6,uH,mG,lZ,dK,cr,Vc.get,gq,ib,B.get,Q,c4.get];exact hQ ⟨f,0,0,true,rfl,λ _=>rfl,pJ.put (.inl aF)⟩
   .simp[s6,uH,mG,lZ,dK,cr,Vc.get,gq,ib,B.get,Q,bq (aT dK eY.cP)];exact eJ ω ⟨pJ.put (.inl ω),c4.eu ω,⟨_,fO _ _ B.put_eq⟩,l5.eu ω,by simp[s2,ji,kT,i_,s4,s5,s6,uH,mG,cr,dz dK]⟩
  .obtain rfl:j=p[f].params.length:=ω
   subst dO;simp[mG,lZ,s5,l5.get,e5,bR.aN nh];refine CA (λ b sl T=>I [] H T/\Lv T H.ab oK/\(∃P,kW T (K.ab+1) P)/\AV sl 2 (.ptr H.ab 0)/\AV sl 17 vf/\AV sl 18 (ae p.length)/\AV sl 19 (ae f)/\AV sl 4 (ae f)/\AV sl 6 (.map (K.ab+1))/\AV sl 41 vb/\AV sl 42 (ae p[f].blocks.length)/\AV sl 43 (ae b)/\b<=p[f].blocks.length) (p[f].blocks.length) ⟨pJ,c4,⟨_,m4⟩,by simp[s2,ji,kT,i_,s4,s6]⟩ ?_
   clear eJ m4 c4 pJ s2 ji kT i_ s4 s5 s6 uH mG lZ l5;rintro b3 k3-jU b sl K5 ⟨zz,c5,⟨P5,m5⟩,s2,ji,kT,i_,s4,s6,pW,kV,oD,jM⟩ jg;by_cases dp:b<p[f].blocks.length
   .have⟨lJ,lU,rN,kY,n2,t2,qW,mR,fp,ck,gV,iz,iv⟩:=bR.at_ dp;obtain⟨vc,rfl,bX⟩:=iv;have kP:=ck.ai (g.trans zz);have CZ:=λ o o'=>I.new (I.refl [] K5) o o';simp[pW,kV,oD,dp,fp,kP.get,bY iz,gV,bX.aN nT,bX.cell];refine bu (α:=Nat) (aJ:=λ i sl T=>I [] H T/\Lv T H.ab oK/\(∃P,kW T (K.ab+1) P)/\AV sl 2 (.ptr H.ab 0)/\AV sl 17 vf/\AV sl 18 (ae p.length)/\AV sl 19 (ae f)/\AV sl 4 (ae f)/\AV sl 6 (.map (K.ab+1))/\AV sl 41 vb/\AV sl 42 (ae p[f].blocks.length)/\AV sl 43 (ae b)/\AV sl 9 (ae b)/\AV sl 49 vc/\AV sl 50 (ae p[f].blocks[b].code.length)/\AV sl 51 (ae i)/\i<=p[f].blocks[b].code.length) (mu:=λ i=>p[f].blocks[b].code.length-i) ?_ 0 _ _ ?ini;case ini=>exact⟨zz.trans (CZ _ _),c5.ai (CZ _ _),⟨_,m5.W (CZ _ _) ζ⟩,by simp[s2,ji,kT,i_,s4,s6,pW,kV,oD,fp]⟩
    rintro b4 k4-Qt i sl K6 ⟨II,c6,⟨P6,m6⟩,s2,ji,kT,i_,s4,s6,pW,kV,oD,s9,pX,vS,Hj,jf⟩ QU;by_cases du:i<p[f].blocks[b].code.length
    .have⟨yy,Aa,xJ,wv,n3,t3,Bq,BV,jD,fF,mM,kh,f_⟩:=bX.at_ du;obtain⟨va,vl,rfl,iU,fo,oi⟩:=f_;have qx:=fF.ai (g.trans II);generalize p[f].blocks[b].code[i]=x at kh iU fo oi;have gn:=λ o o'=>I.new (I.refl [] K6) o o';have⟨cm,lm,B,qv,fO⟩:=m6.use x.dst
     have pd:∀bz o o',(bz.get 2=some (.ptr H.ab 0)/\bz.get 17=some vf/\bz.get 18=some (ae p.length)/\bz.get 19=some (ae f)/\bz.get 4=some (ae f)/\bz.get 6=some (.map (K.ab+1))/\bz.get 41=some vb/\bz.get 42=some (ae p[f].blocks.length)/\bz.get 43=some (ae b)/\bz.get 9=some (ae b)/\bz.get 49=some vc/\bz.get 50=some (ae p[f].blocks[b].code.length)/\bz.get 51=some (ae (i+1:Nat))/\i+1<=p[f].blocks[b].code.length)->aD E0 (.code (.loop b4)::k4) ⟨bz,76,[],none,201⟩ (((K6.add o).put K6.ab (some o')).put (K.ab+1) (some (.map 9 (oC cm (.string x.dst) lm) (eD cm (.string x.dst) (bl true) lm)))) (qb E0 [.cell 2 48,.tmp 3] Q'):=by
      intro bz o o' hs
      exact QU (i+1) bz _ ω ⟨(II.trans (gn _ _)).put (.inl ω),(c6.ai (gn _ _)).eu ω,⟨_,fO _ _ ((B.ai (gn _ _)).put_eq)⟩,hs⟩
     by_cases hd:x.dst=lT
     .simp[s6,pX,vS,Hj,du,jD,qx.get,bY kh,mM,iU.cell,fo.cell,hd,bC B.lt,B.get,bq (aT du bX.cP)];rw[hd]at pd;exact pd _ _ _ (by simp[s2,ji,kT,i_,s4,s6,pW,kV,oD,s9,pX,vS,jD,dz du])
     .rcases qv with⟨-,bb,Q⟩|⟨-,Q⟩
      .simp[s2,s4,s6,s9,pX,vS,Hj,du,jD,qx.get,bY kh,mM,iU.cell,fo.cell,hd,bC B.lt,B.get,Q,bC c6.lt,c6.get];exact hQ ⟨f,b,i,true,rfl,λ _=>rfl,(II.trans (gn _ _)).put (.inl aF)⟩
      .simp[s6,pX,vS,Hj,du,jD,qx.get,bY kh,mM,iU.cell,fo.cell,hd,bC B.lt,B.get,Q,bq (aT du bX.cP)];exact pd _ _ _ (by simp[s2,ji,kT,i_,s4,s6,pW,kV,oD,s9,pX,vS,jD,dz du])
    .obtain rfl:i=p[f].blocks[b].code.length:=ω
     subst Qt;simp[vS,Hj,oD,bq (aT dp bR.cP)];exact jg ω ⟨II,c6,⟨P6,m6⟩,by simp[s2,ji,kT,i_,s4,s6,pW,kV,dz dp]⟩
   .obtain rfl:b=p[f].blocks.length:=ω
    subst jU;simp[kV,oD,i_,bq (aT az h6.cP)];exact sO ω ⟨zz,c5,by simp[s2,ji,kT,dz az]⟩
 .obtain rfl:f=p.length:=ω
  subst cq;simp[kT,i_,s2,c2.get];exact hQ ⟨0,0,0,false,rfl,λ h=>h.elim,gK.put (.inl aF)⟩
end
def aW.strs(h:aW H 1 xm fv r)(g:I [] H K)(k:Nat->AU->R β):pz 1 fv K k=k r.length (r.map λ s=>str s):=by
 cases h with
 |nil=>rfl|eF=>rfl
 |@sl id ah ax ex n t ro r O U F h4 h5=>
  have e:bc t ah r.length=some (r.map λ s=>str s):=by refine iB.2 ⟨ζ,λ i A=>?_⟩;have⟨M,c1,⟨c2,_⟩⟩:=F i A;subst c2;have⟨_,c3⟩:=iB.1 c1;have:=c3 0 ω;simp only[BR,xx,ae9]at this;rw[this,y',bf A];rfl
  have fR:ah+r.length<=n:=ω
  unfold pz
  simp[(O.ai g).get,bY e,fR]
abbrev SR:aI->AU->Prop:=λ s M=>M=[str s]
def aW.row{ro ex:Bool}{L:List aI}(h:Lv K f (.cells dH t ro))(hn:L.length<=dH)(ht:∀i (A:i<L.length),t.get i=some (str L[i])){ax:Nat}(hc:L.length<=ax)(B:ax<=maxLen):aW K 1 SR (.sl f 0 1 L.length ax ex) L:=by
 refine .sl h ω (λ i A=>⟨_,?_,rfl⟩) hc B;refine iB.2 ⟨rfl,λ j hj=>?_⟩;obtain rfl:j=0:=ω
 simp[ht i A]
abbrev z_:aI:=⟨#[110,117,108,108]⟩
def Ge(l:List cU):List aI:=l.flatMap λ b=>b.code.map λ x=>x.dst
def Ia(fn:aQ):List aI:=lT::z_::(fn.params++Ge fn.blocks)
def azu(s:aI)(hc:Lv K dH (.cells 1 t false))(ht:AV t 0 (.map m))(B:kW K m P'):CN 254 [str s,.ptr dH 0] K λ v T=>v=bl (!@decide (P' s) (Classical.propDecidable _))/\T=K:=by
 refine ba asu rfl λ Q' hQ=>?_
 have⟨c,lm,hl,qv,_⟩:=B.use s
 rcases qv with⟨h,bb,Q⟩|⟨h,Q⟩
 .simp[hc.get,ht,hl.get,Q]
  exact hQ ⟨by simp[h],rfl⟩
 .simp[hc.get,ht,hl.get,Q]
  exact hQ ⟨by simp[h],rfl⟩
theorem YZ:∀(l:List aI),fX (l.map λ s=>str s)=true
 |[]=>rfl|s::l=>by rw[kB,all_cons,YZ l];rfl
def I.same(g:I S H K)(h:K.get f=some o):I S H (K.put f (some o)):=⟨g.ab,λ i A hs=>by
 rw[D.eR];by_cases e:i=f
 .subst e;rw[aq rfl,<-h];exact g.get i A hs
 .rw[ao e];exact g.get i A hs⟩
def am1{a b:aI}(h:aW H 1 xm fv l)(g:I [] H K)(hn:l.length<=1048576)(hl:Lv K f (.cells 2 t false))(t0:AV t 0 (str a))(t1:AV t 1 (str b)):∃v T,cX E0 52 (.sl f 0 1 2 2 true) fv K=val v T/\aW T 1 SR v (a::b::l)/\I [] K T:=by
 have bU:bc t 0 2=some [str a,str b]:=by simp[bc,t0,t1]
 cases l with
 |nil=>
  refine⟨.sl f 0 1 2 2 true,K.put f (some (.cells 2 t false)),?_,?_,aw.same hl.get⟩
  .unfold cX tS
   rw[vW,fw];dsimp only;rw[vW,DH];dsimp only;rw[h.strs g];simp[hl.get]
  .refine aW.row (L:=[a,b]) hl.put_eq ζ (λ i A=>?_) ζ (by unfold maxLen;simp)
   match i,A with|0,_=>exact t0|1,_=>exact t1
 |cons c l=>
  have e1:¬(2+(l.length+1)<=2):=ω
  have e2:2+(l.length+1)<=9223372036854775807:=by simp at hn;omega
  have e3:(2+(l.length+1))*16<=140737488355328:=by simp at hn;omega
  have wD:=YZ (c::l)
  refine⟨.sl K.ab 0 1 (2+(l.length+1)) (2+(l.length+1)) false,K.add (.cells (2+(l.length+1)) ((Tr.e.iM 0 [str a,str b]).iM 2 ((c::l).map λ s=>str s)) false),?_,?_,aw.add _⟩
  .unfold cX tS
   rw[vW,fw];dsimp only;rw[vW,DH];dsimp only;rw[h.strs g];rw[wD];simp[e1,e2,e3,hl.get,bY bU]
  .have:=aW.row (K:=K.add (.cells (2+(l.length+1)) ((Tr.e.iM 0 [str a,str b]).iM 2 ((c::l).map λ s=>str s)) false)) (L:=a::b::c::l) (ax:=2+(l.length+1)) (ex:=false) Lv.new ξ (λ i A=>?_) ξ (by unfold maxLen;simp at hn;omega)
   .have e:(a::b::c::l).length=2+(l.length+1):=ξ
    rw[e]at this;exact this
   .have B:((c::l).map λ s=>str s).length=l.length+1:=ζ
    rcases i with _|_|i
    .rw[Tr.vn,ao ω];simp
    .rw[Tr.vn,ao ω];simp
    .have dJ:i<(c::l).length:=by simpa using A
     rw[Tr.vn,aq (by rw[B];simp at dJ;omega)];simp only[afc];rw[show i+1+1-2=i by omega,y',bf dJ];rfl
end
end Go.Proofs.YtgipmaoplfkdoaaGreatDoor
