import Derived.Test.YtgipmaoplfkdoaaGreatDoorM3
set_option linter.all false
set_option maxRecDepth 100000
set_option maxHeartbeats 400000000
namespace Go.Proofs.YtgipmaoplfkdoaaGreatDoor
noncomputable section
open Go.RowKit
variable{f dH:Nat}{H:D}{fv:J}{x:aQ}{l:List cU}{P':aI->Prop}{r:List aI}{s:aI}{β:Type}{S:AT}{o:AO}
section
variable{p:List aQ}{HB:D}{id mid:Nat}{vf:J}
def axZ(hw:lD HB p vf id mid):sj 187 HB id (p=[]\/64<p.length):=by
 intro H g;refine XP λ u h=>?_;have⟨t',w,n,e,v⟩:=hw.ob;have a:=n.ai g;have j:=λ o o'=>I.new (I.refl [] H) o o';have y:km vf=true:=hw.pr.cell;have key:∀c:Bool,(c=true↔p=[]\/64<p.length)->CN 187 [.ptr id 0] H u:=by
  intro c d;refine im art rfl ?_;by_cases O:p=[]
  .obtain rfl:c=true:=d.2 (.inl O);simp[bC a.lt,a.get,e,hw.pr.aN nf,O];refine dF (by simp[dm,val]) ?_;simp;exact h ⟨0,0,0,true,rfl,d.2,j _ _⟩
  .by_cases U:64<p.length
   .obtain rfl:c=true:=d.2 (.inr U);have k:(64:Int)<p.length:=ω
    simp[bC a.lt,a.get,e,hw.pr.aN nf,O,k];refine dF (by simp[dm,val,bC a.lt,a.get,e,hw.pr.aN nf,hw.pr.fy]) ?_;simp;exact h ⟨0,0,0,true,rfl,d.2,j _ _⟩
   .obtain rfl:c=false:=by cases c with|false=>rfl|true=>exact absurd (d.1 rfl) (by simp[O,U])
    have k:¬(64:Int)<p.length:=ω
    simp[bC a.lt,a.get,e,hw.pr.aN nf,O,k];refine dF (by simp[dm,val,bC a.lt,a.get,e,hw.pr.aN nf,hw.pr.fy]) ?_;simp;exact h ⟨0,0,0,false,rfl,d.2,j _ _⟩
 exact key (decide (p=[]\/64<p.length)) ζ
def Wu:aI:=⟨#[109,97,105,110]⟩
def Ri(p:List aQ)(s:aI):Int:=idxOf (λ x=>decide (x.name=s)) p
def azt(hw:lD HB p vf id mid):sj 190 HB id False:=by
 intro H g;refine ba arx rfl λ Q' j=>?_;have⟨t',U,G,w,T⟩:=hw.ob;have L:=G.ai g;simp;generalize n:D.add _ _=H1;have R:Lv H1 H.ab (.cells 3 (((Tr.e.put 0 (some (ae 0))).put 1 (some (ae 0))).put 2 (some (ae 0))) false):=by rw[<-n];exact Lv.new
 have d:I [] H H1:=by rw[<-n];exact(I.refl [] H).add _
 clear n;refine CW (WE Wu H1 hw (g.trans d)) ?_;rintro v K ⟨rfl,c⟩;have u:=R.ai c;have a:=L.ai (d.trans c);have k:=λ o'=>(d.trans c).put (id:=H.ab) (o:=o') (.inl aF);rcases aa2 (λ x:aQ=>decide (x.name=Wu)) p with⟨e,_⟩|⟨i,A,e,_⟩
 .simp[e,u.get];exact j ⟨0,0,0,true,rfl,λ _=>rfl,k _⟩
 .have⟨Y,M,kD,iR,n1,t1,X,Z,E,Q,iy,N,O⟩:=hw.pr.at_ A;obtain⟨vp,vb,rfl,C,bR⟩:=O;have⟨W,y,V⟩:=uE N;have B:=Q.ai (g.trans (d.trans c));have F:M+i*3+1<n1:=ω
  have e0:¬(i:Int)<0:=ω
  by_cases z:p[i].params=[]
  .simp[e,e0,u.get,a.get,w,E,A,B.get,y,F,C.aN fw,z];exact j ⟨0,0,0,false,rfl,λ h=>h.elim,k _⟩
  .have J:0<p[i].params.length:=za.2 z;simp[e,e0,u.get,a.get,w,E,A,B.get,y,F,C.aN fw,J];exact j ⟨i,0,0,true,rfl,λ _=>rfl,k _⟩
def Sl(p:List aQ)(q:Nat->aQ->Bool):Prop:=∃(f:Nat) (x:aQ),p[f]?=some x/\q f x=true
def atx(q:Nat->aQ->Bool)(hw:lD HB p vf id mid)(z:I [] HB H)(n:∀(f:Nat) x M K,p[f]?=some x->I [] H K->qe HB x M->CF E0 fv [ae f,.agg M] K λ v T=>v=bl (q f x)/\I [] K T):CN 236 [.ptr id 0,fv] H (RA (Sl p q) H):=by
 refine(ag1 (λ f K=>I [] H K/\∀(a:Nat) x,p[a]?=some x->a<f->q a x=false) (λ f K=>I [] H K/\∃x,p[f]?=some x/\q f x=true) hw (λ f K h=>z.trans h.1) (λ f K T h g=>⟨h.1.C0 g aF,h.2⟩) (λ f K T h g=>⟨h.1.C0 g aF,h.2⟩) ⟨aw,λ a x _ h=>(by omega:False).elim⟩ ?_).mono ?_
 .rintro f x M K Z ⟨g,d⟩ w
  refine(n f x M K Z g w).mono ?_;rintro v T ⟨rfl,e⟩;refine⟨e.u _,_,rfl,λ h=>⟨g.trans e,x,Z,h⟩,λ h=>⟨g.trans e,λ a A c k=>?_⟩⟩;rcases pH.1 k with O|rfl
  .exact d _ _ c O
  .rw[Z]at c;cases c;exact h
 .rintro v K (⟨f,x,rfl,Z,g,y,G,B⟩|⟨rfl,g,d⟩)
  .exact⟨f,0,0,true,rfl,λ _=>rfl,g⟩
  .refine⟨0,0,0,false,rfl,?_,g⟩;rintro⟨f,x,Z,j⟩;rw[d f x Z (cW.1 Z).1]at j;exact j
def Bo(x:aQ):Bool:=decide (x.blocks=[])||decide (64<x.blocks.length)
def axV{M:AU}(K:D)(Z:qe HB x M):CN 240 [ae f,.agg M] K λ v T=>v=bl (Bo x)/\I [] K T:=by
 obtain⟨vp,vb,rfl,c,a⟩:=Z;refine ba ase rfl λ h d=>?_;have g:=λ o=>(I.refl [] K).add o;by_cases O:x.blocks=[]
 .simp[c.cell,a.cell,a.aN nh,O];exact d ⟨by simp[Bo,O],g _⟩
 .by_cases U:64<x.blocks.length<;>have e:((64:Int)<x.blocks.length)=(64<x.blocks.length):=by rw[OL];omega
  .simp[c.cell,a.cell,a.aN nh,O,e,U];exact d ⟨by simp[Bo,O,U],g _⟩
  .have F:(x.blocks.length:Int)<=64:=ω
   simp[c.cell,a.cell,a.aN nh,O];exact d ⟨by simp[Bo,O]<;>omega,g _⟩
def axW(hw:lD HB p vf id mid):sj 192 HB id (Sl p λ _ x=>Bo x):=by
 intro H g;refine ba arz rfl λ w n=>?_;simp;generalize a:D.add _ _=H1;have u:Lv H1 H.ab (.cells 3 (((Tr.e.put 0 (some (ae 0))).put 1 (some (ae 0))).put 2 (some (ae 0))) false):=by rw[<-a];exact Lv.new
 have h:I [] H H1:=by rw[<-a];exact(I.refl [] H).add _
 clear a;refine CW (atx (λ _ x=>Bo x) hw (g.trans h) ?_) ?_
 .intro f x M K Z g k;simp;exact axV K k
 .rintro v K ⟨f,b,i,c,rfl,j,d⟩;simp[(u.ai d).get];exact n ⟨f,b,i,c,rfl,j,(h.trans d).put (.inl aF)⟩
end
variable{K:D}{b:Nat}{t:CX}
def fL(l:List cU):Nat:=(l.map λ b=>b.code.length).sum
def ij(l:List aQ):Nat:=(l.map λ f=>fL f.blocks).sum
def ad7{x:cU}(h:l[b]?=some x):fL (l.take (b+1))=fL (l.take b)+x.code.length:=by unfold fL;rw[mI,h];simp
def ad8{l:List aQ}(h:l[f]?=some x):ij (l.take (f+1))=ij (l.take f)+fL x.blocks:=by unfold ij;rw[mI,h];simp
def akX(l:List cU)(n:Nat):fL (l.take n)<=fL l:=by have:=iQ fL (wj n l);unfold fL at*;simp only[lF,tJ]at this;omega
def ak0(l:List aQ)(n:Nat):ij (l.take n)<=ij l:=by have:=iQ ij (wj n l);unfold ij at*;simp only[lF,tJ]at this;omega
def fi(p:List aQ)(f b i:Nat):Nat:=ij (p.take f)+(match p[f]? with|some fn=>fL (fn.blocks.take b)|none=>0)+i
section
variable{p:List aQ}{HB:D}{id mid:Nat}{vf:J}
def axX{x:bp}{M:AU}{i:Nat}{n:Nat}(Z:ku HB x M)(a:Lv K dH (.cells 1 t false))(d:AV t 0 (ae n))(z:n<=4096):CN 242 [wV f b i,.agg M,.ptr dH 0] K λ v T=>v=bl (decide (4096<n+1))/\I [dH] K T/\∃t,Lv T dH (.cells 1 t false)/\AV t 0 (ae (n+1:Nat)):=by
 obtain⟨va,vl,rfl,h,e,hr⟩:=Z
 refine ba asg rfl λ A j=>?_
 have g:∀o o' c,I [dH] K (((K.add o).add o').put dH c):=λ o o' c=>((aw.add _).add _).put (.inr ζ)
 have y:¬dH=K.ab:=bC a.lt
 have u:¬dH=K.ab+1:=by have:=a.lt;omega
 have w:IntKind.wrap .i64 ((n:Int)+1)=(n:Int)+1:=fQ ω ω
 have k:((4096:Int)<(n:Int)+1)=(4096<n+1):=by rw[OL];omega
 simp[h.cell,e.cell,y,u,a.get,d,w,k]
 exact j ⟨rfl,g _ _ _,_,a.add.add.put_eq,ζ⟩
def axY(hw:lD HB p vf id mid):sj 194 HB id (4096<ij p):=by
 intro H g;refine ba arB rfl λ Q' A=>?_;simp;generalize n:D.put _ _ _=H1;have X:Lv H1 H.ab (.cells 3 (((Tr.e.put 0 (some (ae 0))).put 1 (some (ae 0))).put 2 (some (ae 0))) false):=by rw[<-n];exact Lv.new.add.eu ω
 have V:Lv H1 (H.ab+1) (.cells 1 ((Tr.e.put 0 (some (ae 0))).put 0 (some (ae 0))) false):=by rw[<-n];exact(Lv.new (H:=H.add _)).put_eq
 have R:I [] H H1:=by rw[<-n];exact(((I.refl [] H).add _).add _).put (.inl ω)
 have en:H1.ab=H.ab+2:=by rw[<-n];rfl
 clear n;refine CW (agO (λ f b i K=>I [] H K/\fi p f b i<=4096/\(∃t,Lv K (H.ab+1) (.cells 1 t false)/\AV t 0 (ae (fi p f b i)))/\Lv K H.ab (.cells 3 (((Tr.e.put 0 (some (ae 0))).put 1 (some (ae 0))).put 2 (some (ae 0))) false)) (λ f b i K=>I [] H K/\4096<ij p/\Lv K H.ab (.cells 3 (((Tr.e.put 0 (some (ae 0))).put 1 (some (ae 0))).put 2 (some (ae 0))) false)) hw (λ f b i K h=>g.trans h.1) ?_ ?_ ?_ ?_ ?_ ?_) ?_
 .rintro f b i K T ⟨O,U,⟨t,F,y⟩,a⟩ c;exact⟨O.C0 c ω,U,⟨t,⟨aT F.lt c.ab,(c.get _ ω).trans F.get⟩,y⟩,⟨aT a.lt c.ab,(c.get _ ω).trans a.get⟩⟩
 .rintro f b i K T ⟨O,U,a⟩ c;exact⟨O.C0 c ω,U,⟨aT a.lt c.ab,(c.get _ ω).trans a.get⟩⟩
 .have e0:fi p 0 0 0=0:=by unfold fi;cases p<;>simp[ij,fL]
  exact⟨R,ω,⟨_,V,by simp[e0]⟩,X⟩
 .rintro f b i x M K ⟨fn,bk,d,u,E⟩ ⟨O,U,⟨t,F,y⟩,a⟩ Z;refine af1.2 (C.mono (axX Z F y U) ?_);rintro v T ⟨rfl,k,t',Q,N⟩;have G:fi p f b (i+1)=fi p f b i+1:=rfl;have z:I [] H T:=⟨aY O.ab k.ab,λ j w J=>(k.get j (aT w O.ab) ξ).trans (O.get j w J)⟩;have B:=a.W k ζ;have Vt:fi p f b i+1<=ij p:=by have b1:=ad8 d;have b2:=ad7 u;have b3:=(cW.1 E).1;have b4:=ak0 p (f+1);have b5:=akX fn.blocks (b+1);unfold fi;rw[d];dsimp only;omega
  refine⟨⟨k.ab,λ j w L=>k.get j L ξ⟩,_,rfl,λ h=>⟨z,?_,B⟩,λ h=>⟨z,?_,⟨t',Q,by rw[G];exact N⟩,B⟩⟩
  .simp at h;omega
  .simp at h;omega
 .rintro f b fn bk K d u ⟨O,U,F,a⟩;have e:fi p f (b+1) 0=fi p f b bk.code.length:=by unfold fi;rw[d];dsimp only;rw[ad7 u];omega
  exact⟨O,ω,by rw[e];exact F,a⟩
 .rintro f fn K d ⟨O,U,F,a⟩;have e:fi p (f+1) 0 0=fi p f fn.blocks.length 0:=by unfold fi;rw[d];dsimp only;rw[ad8 d,iF];cases p[f+1]?<;>simp[fL]
  exact⟨O,ω,by rw[e];exact F,a⟩
 .rintro v K (⟨f,b,i,x,rfl,Y,O,U,a⟩|⟨rfl,O,U,F,a⟩)
  .simp[a.get];exact A ⟨f,b,i,true,rfl,λ _=>rfl,O.put (.inl aF)⟩
  .simp[a.get];refine A ⟨0,0,0,false,rfl,?_,O.put (.inl aF)⟩;have e:fi p p.length 0 0=ij p:=by unfold fi;simp
   rw[e]at U;simp;omega
end
variable{P:aI->Prop}{m:Nat}
def DQ(s:aI):KP (.one .s) (.string s):=by simp[KP]
structure kW(K:D)(m:Nat)(P:ByteArray->Prop):Prop where
 ob:∃l,FG K m 9 (.one .s) l/\∀s,(P s->cH (.string s) l=some (bl true))/\(¬P s->cH (.string s) l=none)
def kW.W{T:D}{S:AT}(h:kW K m P)(g:I S K T)(a:m∉S):kW T m P:=let⟨l,O,U⟩:=h.ob;⟨l,O.W g a,U⟩
def kW.C0(h:kW K m P)(g:lO f K H)(B:m<f):kW H m P:=by obtain⟨l,⟨⟨c,O⟩,F,a⟩,U⟩:=h.ob;exact⟨l,⟨⟨c,aT O.lt g.ab,(g.get _ B).trans O.get⟩,F,a⟩,U⟩
section
variable{p:List aQ}{HB:D}{id mid:Nat}{vf:J}
def aGg{M:AU}(Z:qe HB x M)(k:Lv K dH (.cells 1 t false))(u:AV t 0 (.map m))(B:kW K m P)(W:dH≠m):CN 237 [ae f,.agg M,.ptr dH 0] K λ v T=>(∃b,v=bl b/\(b=true↔P x.name))/\I [m] K T/\kW T m (λ s=>P s\/s=x.name):=by
 obtain⟨vp,vb,rfl,w,y⟩:=Z
 obtain⟨l,⟨⟨c,a⟩,G,E⟩,j⟩:=B.ob
 refine ba asa rfl λ U J=>?_
 have A:¬dH=K.ab:=bC k.lt
 have z:¬m=K.ab:=bC a.lt
 have g:∀o n,I [m] K ((K.add o).put m n):=λ o n=>(aw.add _).put (.inr ζ)
 have fin:∀(T:D) (b:Bool) (c':Nat),(b=true↔P x.name)->I [m] K T->Lv T m (.map 9 c' (eD c (.string x.name) (bl true) l))->U (bl b) T:=by
  intro T b c' O N R;refine J ⟨⟨b,rfl,O⟩,N,⟨_,⟨⟨c',R⟩,Jx (DQ _) G,Dq (DQ _) E⟩,λ s=>?_⟩⟩;rw[Bb (DQ _) (DQ _)];by_cases e:s=x.name
  .subst e;simp
  .have:¬Value.string s=Value.string x.name:=by simpa using e
   rw[ao this];exact⟨λ h=>(j s).1 (h.resolve_right e),λ h=>(j s).2 λ L=>h (.inl L)⟩
 by_cases h:P x.name
 .obtain⟨C,Q⟩:∃C,lk (.string x.name) l=some (C,bl true):=by have:=(j x.name).1 h;unfold cH at this;cases d:lk (.string x.name) l with|none=>rw[d]at this;cases this|some q=>rw[d]at this;have⟨F,V⟩:=q;simp at this;exact⟨F,by rw[this]⟩
  simp[w.cell,y.cell,A,z,k.get,u,a.get,Q];exact fin _ true _ (by simp[h]) (g _ _) a.add.put_eq
 .have Q:lk (.string x.name) l=none:=by have:=(j x.name).2 h;unfold cH at this;cases d:lk (.string x.name) l with|none=>rfl|some q=>rw[d]at this;cases this
  simp[w.cell,y.cell,A,z,k.get,u,a.get,Q];exact fin _ false _ (by simp[h]) (g _ _) a.add.put_eq
def SE(p:List aQ):Prop:=∃(i j:Nat) (x y:aQ),i<j/\p[i]?=some x/\p[j]?=some y/\x.name=y.name
def aGh(hw:lD HB p vf id mid):sj 189 HB id (SE p):=by
 intro H g;refine ba arv rfl λ Q' V=>?_;simp;generalize B:D.put _ _ _=H1;have a1:Lv H1 H.ab (.cells 3 (((Tr.e.put 0 (some (ae 0))).put 1 (some (ae 0))).put 2 (some (ae 0))) false):=by rw[<-B];exact Lv.new.add.add.eu ω
 have a2:kW H1 (H.ab+1) (λ _=>False):=by rw[<-B];exact⟨[],⟨⟨0,(Lv.new (H:=H.add _)).add.eu (bC (sx _))⟩,by simp[bQ],by simp[bQ]⟩,λ s=>⟨λ h=>h.elim,λ _=>rfl⟩⟩
 have a3:Lv H1 (H.ab+2) (.cells 1 ((Tr.e.put 0 (some (.lit (.map none)))).put 0 (some (.map (H.ab+1)))) false):=by rw[<-B];exact(Lv.new (H:=(H.add _).add _)).put_eq
 have gH:I [] H H1:=by rw[<-B];exact((((I.refl [] H).add _).add _).add _).put (.inl ω)
 have en:H1.ab=H.ab+3:=by rw[<-B];rfl
 clear B;refine CW (ag1 (λ f K=>I [] H K/\kW K (H.ab+1) (λ s=>∃i x,i<f/\p[i]?=some x/\x.name=s)/\(¬∃i j x y,i<j/\j<f/\p[i]?=some x/\p[j]?=some y/\x.name=y.name)/\Lv K (H.ab+2) (.cells 1 ((Tr.e.put 0 (some (.lit (.map none)))).put 0 (some (.map (H.ab+1)))) false)/\Lv K H.ab (.cells 3 (((Tr.e.put 0 (some (ae 0))).put 1 (some (ae 0))).put 2 (some (ae 0))) false)) (λ f K=>I [] H K/\SE p/\Lv K H.ab (.cells 3 (((Tr.e.put 0 (some (ae 0))).put 1 (some (ae 0))).put 2 (some (ae 0))) false)) hw (λ f K h=>g.trans h.1) ?_ ?_ ?_ ?_) ?_
 .rintro f K T ⟨O,U,F,A,a⟩ d;exact⟨O.C0 d ω,U.C0 d ω,F,⟨aT A.lt d.ab,(d.get _ ω).trans A.get⟩,⟨aT a.lt d.ab,(d.get _ ω).trans a.get⟩⟩
 .rintro f K T ⟨O,U,a⟩ d;exact⟨O.C0 d ω,U,⟨aT a.lt d.ab,(d.get _ ω).trans a.get⟩⟩
 .refine⟨gH,?_,?_,a3,a1⟩
  .have⟨l,G,w⟩:=a2.ob;exact⟨l,G,λ s=>⟨λ ⟨i,x,h,_⟩=>ω,λ _=>(w s).2 λ h=>h⟩⟩
  .rintro⟨i,j,x,y,O,U,_⟩;omega
 .rintro f x M K Z ⟨O,U,F,A,a⟩ hR;refine af1.2 (C.mono (aGg hR A ζ U ω) ?_);rintro v T ⟨⟨b,rfl,R⟩,n,Y⟩;have Q:I [] H T:=⟨aY O.ab n.ab,λ j L J=>(n.get j (aT L O.ab) ξ).trans (O.get j L J)⟩;refine⟨⟨n.ab,λ j L hl=>n.get j hl ξ⟩,b,rfl,λ h=>⟨Q,?_,a.W n ζ⟩,λ h=>⟨Q,?_,?_,A.W n ζ,a.W n ζ⟩⟩
  .have⟨i,y,G,w,X⟩:=R.1 h;exact⟨i,f,y,x,G,w,Z,X⟩
  .have⟨l,G,w⟩:=Y.ob;refine⟨l,G,λ s=>⟨λ ⟨i,y,u,k,c⟩=>(w s).1 ?_,λ J=>(w s).2 λ hp=>J ?_⟩⟩
   .by_cases e:i<f
    .exact .inl ⟨i,y,e,k,c⟩
    .obtain rfl:i=f:=ω
     rw[Z]at k;cases k;exact .inr c.symm
   .rcases hp with⟨i,y,u,k,c⟩|r
    .exact⟨i,y,ω,k,c⟩
    .exact⟨f,x,ω,Z,r.symm⟩
  .rintro⟨i,j,y,z,u,k,c,E,N⟩;by_cases e:j<f
   .exact F ⟨i,j,y,z,u,e,c,E,N⟩
   .obtain rfl:j=f:=ω
    rw[Z]at E;cases E;have:=R.2 ⟨i,y,u,c,N⟩;rw[h]at this;cases this
 .rintro v K (⟨f,x,rfl,Z,O,U,a⟩|⟨rfl,O,U,F,A,a⟩)
  .simp[a.get];exact V ⟨f,0,0,true,rfl,λ _=>rfl,O.put (.inl aF)⟩
  .simp[a.get];refine V ⟨0,0,0,false,rfl,?_,O.put (.inl aF)⟩;rintro⟨i,j,x,y,u,k,c,E⟩;exact(F ⟨i,j,x,y,u,(cW.1 c).1,k,c,E⟩).elim
end
def lC(p:List aQ)(q:Nat->Nat->Nat->bp->Bool)(f b i:Nat):Prop:=∀a b' i' x,At p a b' i' x->yS a b' i' f b i->q a b' i' x=false
section
variable{p:List aQ}{q:Nat->Nat->Nat->bp->Bool}{f b i:Nat}
def lC.zero:lC p q 0 0 0:=λ a b' i' x _ h=>by unfold yS at h;omega
def lC.step(h:lC p q f b i){x:bp}(e:At p f b i x)(Z:q f b i x=false):lC p q f b (i+1):=by
 intro d b' i' k a c;by_cases he:d=f/\b'=b/\i'=i
 .obtain⟨rfl,rfl,rfl⟩:=he;have⟨fn,bk,j,g,a3⟩:=e;have⟨n,u,b1,b2,b3⟩:=a;rw[j]at b1;cases b1;rw[g]at b2;cases b2;rw[a3]at b3;cases b3;exact Z
 .exact h _ _ _ _ a (by unfold yS at c⊢;omega)
def lC.bF{bk:cU}(O:p[f]?=some x)(U:x.blocks[b]?=some bk)(h:lC p q f b bk.code.length):lC p q f (b+1) 0:=by
 intro d b' i' e a c;refine h _ _ _ _ a ?_;have⟨g,j,b1,b2,b3⟩:=a;unfold yS at c⊢;by_cases he:d=f/\b'=b
 .obtain⟨rfl,rfl⟩:=he;rw[O]at b1;cases b1;rw[U]at b2;cases b2;have:=(cW.1 b3).1;omega
 .omega
theorem lC.fn{fn:aQ}(O:p[f]?=some fn)(h:lC p q f fn.blocks.length 0):lC p q (f+1) 0 0:=by
 intro d b' i' e a c;refine h _ _ _ _ a ?_;have⟨g,j,b1,b2,b3⟩:=a;unfold yS at c⊢;by_cases he:d=f
 .subst he;rw[O]at b1;cases b1;have:=(cW.1 b2).1;omega
 .omega
def lC.all(h:lC p q p.length 0 0):¬jF p q:=by
 rintro⟨f,b,i,x,a,Z⟩;have c:f<p.length:=by have⟨fn,bk,O,_⟩:=a;exact(cW.1 O).1
 rw[h f b i x a (by unfold yS;omega)]at Z;cases Z
end
abbrev oK:AO:=.cells 3 (((Tr.e.put 0 (some (ae 0))).put 1 (some (ae 0))).put 2 (some (ae 0))) false
section
variable{p:List aQ}{HB:D}{id mid:Nat}{vf:J}
def Ab(x:bp):Bool:=GV x.op&&decide (8<x.args.length)
def ax0(hw:lD HB p vf id mid):sj 191 HB id ((∃(f:Nat) (x:aQ),p[f]?=some x/\8<x.params.length)\/jF p λ _ _ _ x=>Ab x):=by
 intro H g;refine ba ary rfl λ Q' hQ=>?_;have⟨t',sY,w1,w2,w3⟩:=hw.ob;have ik:=w1.ai g;have h6:=hw.pr;simp[bC ik.lt,ik.get,w2,h6.aN nf];generalize aP:D.add _ _=H1;have a1:Lv H1 H.ab oK:=by rw[<-aP];exact Lv.new
 have gH:I [] H H1:=by rw[<-aP];exact(I.refl [] H).add _
 clear aP;refine CA (λ f sl K=>I [] H K/\Lv K H.ab oK/\(∀(N:Nat) x,p[N]?=some x->N<f->¬8<x.params.length)/\lC p (λ _ _ _ x=>Ab x) f 0 0/\AV sl 2 (.ptr H.ab 0)/\AV sl 14 vf/\AV sl 15 (ae p.length)/\AV sl 16 (ae f)/\f<=p.length) p.length ⟨gH,a1,λ N x _ h=>ω,lC.zero,ζ⟩ ?_
 rintro b1 k1-cq f sl K ⟨c,c2,nF,u,s2,n,k,j,kH⟩ sO;by_cases J:f<p.length
 .have⟨kQ,ig,kD,iR,n1,t1,py,kE,dc,cT,iy,eZ,eI⟩:=h6.at_ J;obtain⟨vp,vb,rfl,Y,R⟩:=eI;have iJ:=cT.ai (g.trans c);have V:p[f]?=some p[f]:=bf J;by_cases A2:8<p[f].params.length
  .have z:(8:Int)<p[f].params.length:=ω
   have O7:=c2.ai (I.new (I.refl [] K) (.cells 3 Tr.e false) (.cells 3 Tr.e false));simp[s2,n,k,j,J,dc,iJ.get,bY eZ,iy,Y.cell,R.cell,Y.aN fw,z,bC c2.lt,c2.get];exact hQ ⟨f,0,0,true,rfl,λ _=>rfl,(c.trans (I.new aw _ _)).put (.inl aF)⟩
  .have z:¬(8:Int)<p[f].params.length:=ω
   simp[n,k,j,J,dc,iJ.get,bY eZ,iy,Y.cell,R.cell,Y.aN fw,R.aN nh,z];refine CA (λ b sl K=>I [] H K/\Lv K H.ab oK/\lC p (λ _ _ _ x=>Ab x) f b 0/\AV sl 2 (.ptr H.ab 0)/\AV sl 14 vf/\AV sl 15 (ae p.length)/\AV sl 16 (ae f)/\AV sl 4 (ae f)/\AV sl 28 vb/\AV sl 29 (ae p[f].blocks.length)/\AV sl 30 (ae b)/\b<=p[f].blocks.length) (p[f].blocks.length) ⟨c.trans (I.new aw _ _),c2.ai (I.new aw _ _),u,by simp[s2,n,k,j,dc]⟩ ?_
   rintro b2 k2-dO b sl K ⟨c,c2,u,s2,n,k,j,B,C,A,w,jM⟩ eJ;by_cases G:b<p[f].blocks.length
   .have⟨lJ,lU,rN,kY,n2,t2,qW,mR,fp,ck,gV,iz,iv⟩:=R.at_ G;obtain⟨vc,rfl,Q⟩:=iv;have kP:=ck.ai (g.trans c);simp[C,A,w,G,fp,kP.get,bY iz,gV,Q.aN nT,Q.cell];refine bu (α:=Nat) (aJ:=λ i sl K=>I [] H K/\Lv K H.ab oK/\lC p (λ _ _ _ x=>Ab x) f b i/\AV sl 2 (.ptr H.ab 0)/\AV sl 14 vf/\AV sl 15 (ae p.length)/\AV sl 16 (ae f)/\AV sl 4 (ae f)/\AV sl 28 vb/\AV sl 29 (ae p[f].blocks.length)/\AV sl 30 (ae b)/\AV sl 6 (ae b)/\AV sl 36 vc/\AV sl 37 (ae p[f].blocks[b].code.length)/\AV sl 38 (ae i)/\i<=p[f].blocks[b].code.length) (mu:=λ i=>p[f].blocks[b].code.length-i) ?_ 0 _ _ ?ini;case ini=>exact⟨c.trans (I.new aw _ _),c2.ai (I.new aw _ _),u,by simp[s2,n,k,j,B,C,A,w,fp]⟩
    rintro b3 k3-jU i sl K ⟨c,c2,u,s2,n,k,j,B,C,A,w,s6,L,E,T,jf⟩ jg;by_cases v:i<p[f].blocks[b].code.length
    .have⟨yy,Aa,xJ,wv,n3,t3,Bq,BV,M,fF,mM,U,f_⟩:=Q.at_ v;obtain⟨va,vl,rfl,F,X,oi⟩:=f_;have qx:=fF.ai (g.trans c);have cQ:At p f b i p[f].blocks[b].code[i]:=⟨_,_,V,bf G,bf v⟩;generalize p[f].blocks[b].code[i]=x at cQ U F X oi;have gn:=λ o o'=>I.new (I.refl [] K) o o';have O7:=λ o o'=>c2.ai (gn o o');cases W:Ab x with
     |true=>
      have wN:=W
      unfold Ab at wN;simp at wN
      have y:(8:Int)<x.args.length:=ω
      simp[s2,B,s6,L,E,T,v,M,qx.get,bY U,mM,F.cell,X.cell,cE (Tw _ _),wN.1,F.aN fw,y,bC c2.lt,c2.get]
      exact hQ ⟨f,b,i,true,rfl,λ _=>rfl,(c.trans (gn _ _)).put (.inl aF)⟩
     |false=>
      have pd:∀a,(a.get 2=some (.ptr H.ab 0)/\a.get 14=some vf/\a.get 15=some (ae p.length)/\a.get 16=some (ae f)/\a.get 4=some (ae f)/\a.get 28=some vb/\a.get 29=some (ae p[f].blocks.length)/\a.get 30=some (ae b)/\a.get 6=some (ae b)/\a.get 36=some vc/\a.get 37=some (ae p[f].blocks[b].code.length)/\a.get 38=some (ae (i+1:Nat)))->∀o o',aD E0 (.code (.loop b3)::k3) ⟨a,60,[],none,191⟩ ((K.add o).put K.ab (some o')) (qb E0 [.cell 2 48,.tmp 3] Q'):=by rintro a d o o';exact jg (i+1) a _ ω ⟨c.trans (gn _ _),O7 _ _,u.step cQ W,d.1,d.2.1,d.2.2.1,d.2.2.2.1,d.2.2.2.2.1,d.2.2.2.2.2.1,d.2.2.2.2.2.2.1,d.2.2.2.2.2.2.2.1,d.2.2.2.2.2.2.2.2.1,d.2.2.2.2.2.2.2.2.2.1,d.2.2.2.2.2.2.2.2.2.2.1,d.2.2.2.2.2.2.2.2.2.2.2,v⟩
      cases hc:GV x.op with
      |true=>
       have y:¬(8:Int)<x.args.length:=by unfold Ab at W;simp[hc]at W;omega
       simp[L,E,T,v,M,qx.get,bY U,mM,F.cell,X.cell,cE (Tw _ _),hc,F.aN fw,y,bq (aT v Q.cP)]
       exact pd _ (by simp[s2,n,k,j,B,s6,C,A,w,L,E,M]) _ _
      |false=>
       simp[L,E,T,v,M,qx.get,bY U,mM,F.cell,X.cell,cE (Tw _ _),hc,bq (aT v Q.cP)]
       exact pd _ (by simp[s2,n,k,j,B,s6,C,A,w,L,E,M]) _ _
    .obtain rfl:i=p[f].blocks[b].code.length:=ω
     subst jU;simp[E,T,w,bq (aT G R.cP)];exact eJ ω ⟨c,c2,u.bF V (bf G),by simp[s2,n,k,j,B,C,A,dz G]⟩
   .obtain rfl:b=p[f].blocks.length:=ω
    subst dO;simp[A,w,j,bq (aT J h6.cP)];refine sO ω ⟨c,c2,λ N x Z hl=>?_,u.fn V,by simp[s2,n,k,dz J]⟩;rcases pH.1 hl with O|rfl
    .exact nF _ _ Z O
    .rw[V]at Z;cases Z;exact A2
 .obtain rfl:f=p.length:=ω
  subst cq;simp[k,j,s2,c2.get];refine hQ ⟨0,0,0,false,rfl,?_,c.put (.inl aF)⟩;rintro(⟨N,x,Z,h8⟩|hI)
  .exact(nF _ _ Z (cW.1 Z).1 h8).elim
  .exact(u.all hI).elim
end
@[simp]def aI2{Y:aE}{all:List Oper}:dA Y all none=some true:=rfl
section
variable{p:List aQ}{HB:D}{id mid:Nat}{vf:J}
def Lb(p:List aQ)(f b:Nat):Nat:=match p[f]? with|some fn=>(match fn.blocks[b]? with|some bk=>bk.code.length|none=>0)|none=>0
def wW(p:List aQ)(f b i:Nat)(x:bp):Bool:=M1 x.op !=decide (i+1=Lb p f b)
def XR(p:List aQ):Prop:=∃(f b:Nat) (fn:aQ) (bk:cU),p[f]?=some fn/\fn.blocks[b]?=some bk/\bk.code=[]
def anp(hw:lD HB p vf id mid):sj 196 HB id (XR p\/jF p (wW p)):=by
 intro H g;refine ba arD rfl λ Q' hQ=>?_;have⟨t',sY,w1,w2,w3⟩:=hw.ob;have ik:=w1.ai g;have h6:=hw.pr;simp[bC ik.lt,ik.get,w2,h6.aN nf];generalize aP:D.add _ _=H1;have a1:Lv H1 H.ab oK:=by rw[<-aP];exact Lv.new
 have gH:I [] H H1:=by rw[<-aP];exact(I.refl [] H).add _
 clear aP;refine CA (λ f sl K=>I [] H K/\Lv K H.ab oK/\(∀(J:Nat) x,p[J]?=some x->J<f->∀bk∈x.blocks,bk.code≠[])/\lC p (wW p) f 0 0/\AV sl 2 (.ptr H.ab 0)/\AV sl 14 vf/\AV sl 15 (ae p.length)/\AV sl 16 (ae f)/\f<=p.length) p.length ⟨gH,a1,λ J x _ h=>ω,lC.zero,ζ⟩ ?_
 rintro b1 k1-cq f sl K ⟨c,c2,nF,k,s2,n,e,d,kH⟩ sO;by_cases M:f<p.length
 .have⟨kQ,ig,kD,iR,n1,t1,py,kE,dc,cT,iy,eZ,eI⟩:=h6.at_ M;obtain⟨vp,vb,rfl,eY,U⟩:=eI;have iJ:=cT.ai (g.trans c);have F:p[f]?=some p[f]:=bf M;simp[n,e,d,M,dc,iJ.get,bY eZ,iy,eY.cell,U.cell,U.aN nh];refine CA (λ b sl K=>I [] H K/\Lv K H.ab oK/\(∀(b':Nat) x,p[f].blocks[b']?=some x->b'<b->x.code≠[])/\lC p (wW p) f b 0/\AV sl 2 (.ptr H.ab 0)/\AV sl 14 vf/\AV sl 15 (ae p.length)/\AV sl 16 (ae f)/\AV sl 4 (ae f)/\AV sl 22 vb/\AV sl 23 (ae p[f].blocks.length)/\AV sl 24 (ae b)/\b<=p[f].blocks.length) (p[f].blocks.length) ⟨c.trans (I.new aw _ _),c2.ai (I.new aw _ _),λ b' x _ h=>ω,k,by simp[s2,n,e,d,dc]⟩ ?_
  rintro b2 k2-dO b sl K ⟨c,c2,nB,k,s2,n,e,d,y,A,w,v,jM⟩ eJ;by_cases B:b<p[f].blocks.length
  .have⟨lJ,lU,rN,kY,n2,t2,qW,mR,fp,ck,gV,iz,iv⟩:=U.at_ B;obtain⟨X,rfl,C⟩:=iv;have kP:=ck.ai (g.trans c);have Q:p[f].blocks[b]?=some p[f].blocks[b]:=bf B;by_cases G:p[f].blocks[b].code=[]
   .simp[s2,y,A,w,v,B,fp,kP.get,bY iz,gV,C.aN nT,C.cell,G,bC c2.lt,c2.get];exact hQ ⟨f,b,0,true,rfl,λ _=>rfl,(c.trans (I.new aw _ _)).put (.inl aF)⟩
   .have eN:Lb p f b=p[f].blocks[b].code.length:=by unfold Lb;rw[F];dsimp only;rw[Q]
    simp[A,w,v,B,fp,kP.get,bY iz,gV,C.aN nT,C.cell,G];generalize dw:D.put _ _ _=K3;have R:I [] K K3:=by rw[<-dw];exact I.new aw _ _
    obtain⟨t7,l7,e7⟩:∃t7,Lv K3 K.ab (.cells 2 t7 false)/\AV t7 1 X:=by rw[<-dw];exact⟨_,Lv.new.put_eq,ζ⟩
    clear dw;refine bu (α:=Nat) (aJ:=λ i sl T=>I [] K3 T/\lC p (wW p) f b i/\AV sl 2 (.ptr H.ab 0)/\AV sl 14 vf/\AV sl 15 (ae p.length)/\AV sl 16 (ae f)/\AV sl 4 (ae f)/\AV sl 22 vb/\AV sl 23 (ae p[f].blocks.length)/\AV sl 24 (ae b)/\AV sl 6 (ae b)/\AV sl 7 (.ptr K.ab 0)/\AV sl 37 X/\AV sl 38 (ae p[f].blocks[b].code.length)/\AV sl 39 (ae i)/\i<=p[f].blocks[b].code.length) (mu:=λ i=>p[f].blocks[b].code.length-i) ?_ 0 _ _ ?ini;case ini=>exact⟨aw,k,by simp[s2,n,e,d,y,A,w,v,fp]⟩
    rintro b3 k3-jU i sl N ⟨z,k,s2,n,e,d,y,A,w,v,s6,s7,lN,Y,u,jf⟩ jg;by_cases L:i<p[f].blocks[b].code.length
    .have⟨yy,Aa,xJ,wv,n3,t3,Bq,BV,jD,fF,mM,kh,f_⟩:=C.at_ L;obtain⟨va,vl,rfl,iU,fo,oi⟩:=f_;have gA:=c.trans (R.trans z);have qx:=fF.ai (g.trans gA);have O7:=c2.ai (R.trans z);have V:=l7.ai z;have cQ:At p f b i p[f].blocks[b].code[i]:=⟨_,_,F,Q,bf L⟩;generalize p[f].blocks[b].code[i]=x at cQ kh iU fo oi;have gn:=λ o o'=>I.new (I.refl [] N) o o';have bA:=C.cP;have W:IntKind.wrap .i64 ((p[f].blocks[b].code.length:Int)-1)=(p[f].blocks[b].code.length:Int)-1:=fQ ω (by unfold maxLen at bA;omega);have e52:((i:Int)=(p[f].blocks[b].code.length:Int)-1)=(i+1=p[f].blocks[b].code.length):=by rw[OL];omega
     have hq:wW p f b i x=(M1 x.op !=decide (i+1=p[f].blocks[b].code.length)):=by unfold wW;rw[eN]
     have pd:wW p f b i x=false->∀a,(a.get 2=some (.ptr H.ab 0)/\a.get 14=some vf/\a.get 15=some (ae p.length)/\a.get 16=some (ae f)/\a.get 4=some (ae f)/\a.get 22=some vb/\a.get 23=some (ae p[f].blocks.length)/\a.get 24=some (ae b)/\a.get 6=some (ae b)/\a.get 7=some (.ptr K.ab 0)/\a.get 37=some X/\a.get 38=some (ae p[f].blocks[b].code.length)/\a.get 39=some (ae (i+1:Nat))/\i+1<=p[f].blocks[b].code.length)->∀o o',aD E0 (.code (.loop b3)::k3) ⟨a,62,[],none,196⟩ ((N.add o).put N.ab (some o')) (qb E0 [.cell 2 48,.tmp 3] Q'):=λ E a hs o o'=>jg (i+1) a _ ω ⟨z.trans (gn _ _),k.step cQ E,hs⟩;have awq:wW p f b i x=true->∀o o' o2,Q' (.dh [wV f b i,bl true]) (((N.add o).put N.ab (some o')).put H.ab o2):=λ E o o' o2=>hQ ⟨f,b,i,true,rfl,λ _=>rfl,(gA.trans (gn _ _)).put (.inl aF)⟩;simp[s7,lN,Y,u,L,jD,qx.get,bY kh,mM,iU.cell,fo.cell,cE (apt _ _),bC V.lt,V.get,e7,de nT,W,e52];refine dF ?_ ?_
     .simp[dm,val,bC V.lt,V.get,e7,jD,de nT]
     simp;refine CB.mk (λ hc=>?_) (λ hc=>?_)
     .have E:wW p f b i x=true:=by rw[hq];simpa[bne]using hc
      simp[s2,y,s6,bC O7.lt,O7.get];exact awq E _ _ _
     .have E:wW p f b i x=false:=by rw[hq];simpa[bne]using hc
      simp[u,bq (aT L bA)];exact pd E _ (by simp[s2,n,e,d,y,s6,s7,A,w,v,lN,Y,jD,dz L]) _ _
    .obtain rfl:i=p[f].blocks[b].code.length:=ω
     subst jU;simp[Y,u,v,bq (aT B U.cP)];refine eJ ω ⟨c.trans (R.trans z),c2.ai (R.trans z),λ b' x Z hl=>?_,k.bF F Q,by simp[s2,n,e,d,y,A,w,dz B]⟩;rcases pH.1 hl with O|rfl
     .exact nB _ _ Z O
     .rw[Q]at Z;cases Z;exact G
  .obtain rfl:b=p[f].blocks.length:=ω
   subst dO;simp[w,v,d,bq (aT M h6.cP)];refine sO ω ⟨c,c2,λ J x Z hl=>?_,k.fn F,by simp[s2,n,e,dz M]⟩;rcases pH.1 hl with O|rfl
   .exact nF _ _ Z O
   .rw[F]at Z;cases Z;intro bk cJ;obtain⟨j,hj,rfl⟩:=rJ cJ;exact nB j _ (bf hj) hj
 .obtain rfl:f=p.length:=ω
  subst cq;simp[e,d,s2,c2.get];refine hQ ⟨0,0,0,false,rfl,?_,c.put (.inl aF)⟩;rintro(⟨J,b',fn,bk,Z,h8,G⟩|hI)
  .exact(nF _ _ Z (cW.1 Z).1 _ (oS h8) G).elim
  .exact(k.all hI).elim
end
def kW.use(h:kW K m P)(s:aI):∃c l,Lv K m (.map 9 c l)/\((P s/\∃b,lk (.string s) l=some (b,bl true))\/(¬P s/\lk (.string s) l=none))/\(∀T c',Lv T m (.map 9 c' (eD c (.string s) (bl true) l))->kW T m (λ x=>P x\/x=s)):=by
 obtain⟨l,⟨⟨c,n⟩,k,g⟩,d⟩:=h.ob
 refine⟨c,l,n,?_,λ T c' v=>⟨_,⟨⟨c',v⟩,Jx (DQ _) k,Dq (DQ _) g⟩,λ x=>?_⟩⟩
 .by_cases h:P s
  .have:=(d s).1 h;unfold cH at this;cases a:lk (.string s) l with|none=>rw[a]at this;cases this|some q=>rw[a]at this;have⟨j,w⟩:=q;simp at this;exact .inl ⟨h,j,by rw[this]⟩
  .have:=(d s).2 h;unfold cH at this;cases a:lk (.string s) l with|none=>exact .inr ⟨h,rfl⟩|some q=>rw[a]at this;cases this
 .rw[Bb (DQ _) (DQ _)]
  by_cases e:x=s
  .subst e;simp
  .have:¬Value.string x=Value.string s:=by simpa using e
   rw[ao this];exact⟨λ h=>(d x).1 (h.resolve_right e),λ h=>(d x).2 λ u=>h (.inl u)⟩
def kW.mono(h:kW K m P)(he:∀s,P s↔P' s):kW K m P':=by have:P=P':=funext λ s=>propext (he s);rw[<-this];exact h
def kW.nil(h:Lv K m (.map 9 f [])):kW K m (λ _=>False):=⟨[],⟨⟨f,h⟩,by simp[bQ],by simp[bQ]⟩,λ s=>⟨λ h=>h.elim,λ _=>rfl⟩⟩
section
variable{p:List aQ}{HB:D}{id mid:Nat}{vf:J}
def aGi(hw:lD HB p vf id mid):sj 193 HB id False:=by
 intro H g;refine ba arA rfl λ Q' O=>?_;have⟨t',sY,Z,Y,w3⟩:=hw.ob;have N:=Z.ai g;have A:=hw.pr;simp[bC N.lt,N.get,Y,A.aN nf];generalize G:D.add _ _=H1;have a1:Lv H1 H.ab oK:=by rw[<-G];exact Lv.new
 have gH:I [] H H1:=by rw[<-G];exact(I.refl [] H).add _
 clear G;refine CA (λ f sl K=>I [] H K/\Lv K H.ab oK/\AV sl 2 (.ptr H.ab 0)/\AV sl 13 vf/\AV sl 14 (ae p.length)/\AV sl 15 (ae f)/\f<=p.length) p.length ⟨gH,a1,ζ⟩ ?_
 rintro b1 k1-cq f sl K ⟨u,c2,s2,d,c,a,kH⟩ sO;by_cases j:f<p.length
 .have⟨kQ,ig,kD,iR,n1,t1,py,kE,V,cT,iy,eZ,eI⟩:=A.at_ j;obtain⟨vp,vb,rfl,eY,w⟩:=eI;have iJ:=cT.ai (g.trans u);have jN:p[f]?=some p[f]:=bf j;simp[d,c,a,j,V,iJ.get,bY eZ,iy,eY.cell,w.cell,w.aN nh];generalize F:D.add _ _=X;have U:I [] K X:=by rw[<-F];exact(I.new aw _ _).add _
  have m3:∃P,kW X (K.ab+1) P:=by rw[<-F];exact⟨_,kW.nil (Lv.new (H:=(K.add _).put _ _))⟩
  clear F;refine CA (λ b sl T=>I [] H T/\Lv T H.ab oK/\(∃P,kW T (K.ab+1) P)/\AV sl 2 (.ptr H.ab 0)/\AV sl 13 vf/\AV sl 14 (ae p.length)/\AV sl 15 (ae f)/\AV sl 4 (ae f)/\AV sl 6 (.map (K.ab+1))/\AV sl 22 vb/\AV sl 23 (ae p[f].blocks.length)/\AV sl 24 (ae b)/\b<=p[f].blocks.length) (p[f].blocks.length) ⟨u.trans U,c2.ai U,m3,by simp[s2,d,c,a,V]⟩ ?_
  have hKn:=u.ab;have k8:=c2.lt;rintro b2 k2-dO b sl K4 ⟨k,c4,⟨P,m4⟩,s2,d,c,a,J,y,C,v,z,jM⟩ eJ;by_cases e:b<p[f].blocks.length
  .have⟨lJ,lU,rN,kY,n2,t2,qW,mR,E,ck,R,M,iv⟩:=w.at_ e;obtain⟨vc,rfl,W⟩:=iv;have L:=ck.ai (g.trans k);have⟨cm,lm,B,qv,fO⟩:=m4.use p[f].blocks[b].label;have n:=λ o o'=>I.new (I.refl [] K4) o o';rcases qv with⟨-,bb,Q⟩|⟨-,Q⟩
   .simp[s2,J,y,C,v,z,e,E,L.get,bY M,R,W.cell,bC B.lt,B.get,Q,bC c4.lt,c4.get];exact O ⟨f,b,0,true,rfl,λ _=>rfl,(k.trans (n _ _)).put (.inl aF)⟩
   .simp[y,C,v,z,e,E,L.get,bY M,R,W.cell,bC B.lt,B.get,Q,bq (aT e w.cP)];exact eJ ω ⟨(k.trans (n _ _)).put (.inl ω),(c4.ai (n _ _)).eu ω,⟨_,fO _ _ ((B.ai (n _ _)).put_eq)⟩,by simp[s2,d,c,a,J,y,C,v,E,dz e]⟩
  .obtain rfl:b=p[f].blocks.length:=ω
   subst dO;simp[v,z,a,bq (aT j A.cP)];exact sO ω ⟨k,c4,by simp[s2,d,c,dz j]⟩
 .obtain rfl:f=p.length:=ω
  subst cq;simp[c,a,s2,c2.get];exact O ⟨0,0,0,false,rfl,λ h=>h.elim,u.put (.inl aF)⟩
end
variable{l:List aI}
abbrev lT:aI:=⟨#[]⟩
def dC(l:List bp):List aI:=(l.map λ x=>x.dst).filter λ s=>decide (s≠lT)
def dB(l:List cU):List aI:=l.flatMap λ b=>dC b.code
def ajw(h:s∈l):¬(l++s::r).Nodup:=by intro a;rw[zd]at a;exact a.2.2 s h s ζ rfl
section
variable{p:List aQ}{HB:D}{id mid:Nat}{vf:J}
def aGj(hw:lD HB p vf id mid):sj 201 HB id False:=by
 intro H g;refine ba arJ rfl λ Q' hQ=>?_;have⟨t',sY,w1,w2,w3⟩:=hw.ob;have ik:=w1.ai g;have h6:=hw.pr;simp[bC ik.lt,ik.get,w2,h6.aN nf];generalize aP:D.add _ _=H1;have a1:Lv H1 H.ab oK:=by rw[<-aP];exact Lv.new
 have gH:I [] H H1:=by rw[<-aP];exact(I.refl [] H).add _
 clear aP;refine CA (λ f sl K=>I [] H K/\Lv K H.ab oK/\AV sl 2 (.ptr H.ab 0)/\AV sl 17 vf/\AV sl 18 (ae p.length)/\AV sl 19 (ae f)/\f<=p.length) p.length ⟨gH,a1,ζ⟩ ?_
 rintro b1 k1-cq f sl K ⟨V,c2,s2,k,d,e,kH⟩ sO;by_cases az:f<p.length
 .have⟨kQ,ig,kD,iR,n1,t1,py,kE,dc,cT,iy,eZ,eI⟩:=h6.at_ az;obtain⟨vp,vb,rfl,Y,bR⟩:=eI;have iJ:=cT.ai (g.trans V);simp[k,d,e,az,dc,iJ.get,bY eZ,iy,Y.cell,bR.cell,Y.aN fw];generalize Z:D.add _ _=K3;have g3:I [] K K3:=by rw[<-Z];exact(I.new aw _ _).add _
  have m3:∃P,kW K3 (K.ab+1) P:=by rw[<-Z];exact⟨_,kW.nil (Lv.new (H:=(K.add _).put _ _))⟩
  obtain⟨t5,F,e5⟩:∃t5,Lv K3 K.ab (.cells 3 t5 false)/\AV t5 2 vb:=by rw[<-Z];exact⟨_,(Lv.new.put_eq).add,ζ⟩
  clear Z;have hKn:=V.ab;have k8:=c2.lt;refine CA (λ j sl T=>I [] H T/\Lv T H.ab oK/\(∃P,kW T (K.ab+1) P)/\Lv T K.ab (.cells 3 t5 false)/\AV sl 2 (.ptr H.ab 0)/\AV sl 17 vf/\AV sl 18 (ae p.length)/\AV sl 19 (ae f)/\AV sl 4 (ae f)/\AV sl 5 (.ptr K.ab 0)/\AV sl 6 (.map (K.ab+1))/\AV sl 26 vp/\AV sl 27 (ae p[f].params.length)/\AV sl 28 (ae j)/\j<=p[f].params.length) (p[f].params.length) ⟨V.trans g3,c2.ai g3,m3,F,by simp[s2,k,d,e,dc]⟩ ?_
  rintro b2 k2-dO j sl K4 ⟨C,c4,⟨P,m4⟩,F,s2,k,d,e,n,s5,c,M,E,N,Ey⟩ eJ;by_cases J:j<p[f].params.length
  .have⟨uj,uB,tQ,exp,np,tp,uG,cp,cr,fG,ib,gq,⟨jL,gu⟩⟩:=Y.gL J;cases jL;have Vc:=fG.ai (g.trans C);have⟨cm,lm,B,qv,fO⟩:=m4.use p[f].params[j]
   rcases qv with⟨-,bb,Q⟩|⟨-,Q⟩
   .simp[s2,n,c,M,E,N,J,cr,Vc.get,gq,ib,B.get,Q,c4.get];exact hQ ⟨f,0,0,true,rfl,λ _=>rfl,C.put (.inl aF)⟩
   .simp[c,M,E,N,J,cr,Vc.get,gq,ib,B.get,Q,bq (aT J Y.cP)];exact eJ ω ⟨C.put (.inl ω),c4.eu ω,⟨_,fO _ _ B.put_eq⟩,F.eu ω,by simp[s2,k,d,e,n,s5,c,M,E,cr,dz J]⟩
  .obtain rfl:j=p[f].params.length:=ω
   subst dO;simp[E,N,s5,F.get,e5,bR.aN nh];refine CA (λ b sl T=>I [] H T/\Lv T H.ab oK/\(∃P,kW T (K.ab+1) P)/\AV sl 2 (.ptr H.ab 0)/\AV sl 17 vf/\AV sl 18 (ae p.length)/\AV sl 19 (ae f)/\AV sl 4 (ae f)/\AV sl 6 (.map (K.ab+1))/\AV sl 41 vb/\AV sl 42 (ae p[f].blocks.length)/\AV sl 43 (ae b)/\b<=p[f].blocks.length) (p[f].blocks.length) ⟨C,c4,⟨_,m4⟩,by simp[s2,k,d,e,n,c]⟩ ?_
   clear eJ m4 c4 C s2 k d e n s5 c M E N F;rintro b3 k3-jU b sl K5 ⟨zz,c5,⟨P5,m5⟩,s2,k,d,e,n,c,z,w,v,jM⟩ jg;by_cases dp:b<p[f].blocks.length
   .have⟨lJ,lU,rN,kY,n2,t2,qW,mR,fp,ck,gV,iz,iv⟩:=bR.at_ dp;obtain⟨vc,rfl,L⟩:=iv;have kP:=ck.ai (g.trans zz);have CZ:=λ o o'=>I.new (I.refl [] K5) o o';simp[z,w,v,dp,fp,kP.get,bY iz,gV,L.aN nT,L.cell];refine bu (α:=Nat) (aJ:=λ i sl T=>I [] H T/\Lv T H.ab oK/\(∃P,kW T (K.ab+1) P)/\AV sl 2 (.ptr H.ab 0)/\AV sl 17 vf/\AV sl 18 (ae p.length)/\AV sl 19 (ae f)/\AV sl 4 (ae f)/\AV sl 6 (.map (K.ab+1))/\AV sl 41 vb/\AV sl 42 (ae p[f].blocks.length)/\AV sl 43 (ae b)/\AV sl 9 (ae b)/\AV sl 49 vc/\AV sl 50 (ae p[f].blocks[b].code.length)/\AV sl 51 (ae i)/\i<=p[f].blocks[b].code.length) (mu:=λ i=>p[f].blocks[b].code.length-i) ?_ 0 _ _ ?ini;case ini=>exact⟨zz.trans (CZ _ _),c5.ai (CZ _ _),⟨_,m5.W (CZ _ _) ζ⟩,by simp[s2,k,d,e,n,c,z,w,v,fp]⟩
    rintro b4 k4-Qt i sl K6 ⟨II,c6,⟨P6,m6⟩,s2,k,d,e,n,c,z,w,v,s9,A,y,Hj,jf⟩ QU;by_cases u:i<p[f].blocks[b].code.length
    .have⟨yy,Aa,xJ,wv,n3,t3,Bq,BV,G,fF,mM,O,f_⟩:=L.at_ u;obtain⟨va,vl,rfl,R,X,oi⟩:=f_;have qx:=fF.ai (g.trans II);generalize p[f].blocks[b].code[i]=x at O R X oi;have U:=λ o o'=>I.new (I.refl [] K6) o o';have⟨cm,lm,B,qv,fO⟩:=m6.use x.dst
     have pd:∀a o o',(a.get 2=some (.ptr H.ab 0)/\a.get 17=some vf/\a.get 18=some (ae p.length)/\a.get 19=some (ae f)/\a.get 4=some (ae f)/\a.get 6=some (.map (K.ab+1))/\a.get 41=some vb/\a.get 42=some (ae p[f].blocks.length)/\a.get 43=some (ae b)/\a.get 9=some (ae b)/\a.get 49=some vc/\a.get 50=some (ae p[f].blocks[b].code.length)/\a.get 51=some (ae (i+1:Nat))/\i+1<=p[f].blocks[b].code.length)->aD E0 (.code (.loop b4)::k4) ⟨a,76,[],none,201⟩ (((K6.add o).put K6.ab (some o')).put (K.ab+1) (some (.map 9 (oC cm (.string x.dst) lm) (eD cm (.string x.dst) (bl true) lm)))) (qb E0 [.cell 2 48,.tmp 3] Q'):=by
      intro a o o' hs
      exact QU (i+1) a _ ω ⟨(II.trans (U _ _)).put (.inl ω),(c6.ai (U _ _)).eu ω,⟨_,fO _ _ ((B.ai (U _ _)).put_eq)⟩,hs⟩
     by_cases hd:x.dst=lT
     .simp[c,A,y,Hj,u,G,qx.get,bY O,mM,R.cell,X.cell,hd,bC B.lt,B.get,bq (aT u L.cP)];rw[hd]at pd;exact pd _ _ _ (by simp[s2,k,d,e,n,c,z,w,v,s9,A,y,G,dz u])
     .rcases qv with⟨-,bb,Q⟩|⟨-,Q⟩
      .simp[s2,n,c,s9,A,y,Hj,u,G,qx.get,bY O,mM,R.cell,X.cell,hd,bC B.lt,B.get,Q,bC c6.lt,c6.get];exact hQ ⟨f,b,i,true,rfl,λ _=>rfl,(II.trans (U _ _)).put (.inl aF)⟩
      .simp[c,A,y,Hj,u,G,qx.get,bY O,mM,R.cell,X.cell,hd,bC B.lt,B.get,Q,bq (aT u L.cP)];exact pd _ _ _ (by simp[s2,k,d,e,n,c,z,w,v,s9,A,y,G,dz u])
    .obtain rfl:i=p[f].blocks[b].code.length:=ω
     subst Qt;simp[y,Hj,v,bq (aT dp bR.cP)];exact jg ω ⟨II,c6,⟨P6,m6⟩,by simp[s2,k,d,e,n,c,z,w,dz dp]⟩
   .obtain rfl:b=p[f].blocks.length:=ω
    subst jU;simp[w,v,e,bq (aT az h6.cP)];exact sO ω ⟨zz,c5,by simp[s2,k,d,dz az]⟩
 .obtain rfl:f=p.length:=ω
  subst cq;simp[d,e,s2,c2.get];exact hQ ⟨0,0,0,false,rfl,λ h=>h.elim,V.put (.inl aF)⟩
end
def aW.strs(h:aW H 1 xm fv r)(g:I [] H K)(k:Nat->AU->R β):pz 1 fv K k=k r.length (r.map λ s=>str s):=by
 cases h with
 |nil=>rfl|eF=>rfl
 |@sl id ah ax ex n t ro r O U F d c=>
  have e:bc t ah r.length=some (r.map λ s=>str s):=by refine iB.2 ⟨ζ,λ i A=>?_⟩;have⟨M,c1,⟨c2,_⟩⟩:=F i A;subst c2;have⟨_,c3⟩:=iB.1 c1;have:=c3 0 ω;simp only[BR,xx,ae9]at this;rw[this,y',bf A];rfl
  have a:ah+r.length<=n:=ω
  unfold pz
  simp[(O.ai g).get,bY e,a]
abbrev SR:aI->AU->Prop:=λ s M=>M=[str s]
def aW.row{ro ex:Bool}{L:List aI}(h:Lv K f (.cells dH t ro))(d:L.length<=dH)(a:∀i (A:i<L.length),t.get i=some (str L[i])){ax:Nat}(c:L.length<=ax)(B:ax<=maxLen):aW K 1 SR (.sl f 0 1 L.length ax ex) L:=by
 refine .sl h ω (λ i A=>⟨_,?_,rfl⟩) c B;refine iB.2 ⟨rfl,λ j e=>?_⟩;obtain rfl:j=0:=ω
 simp[a i A]
abbrev z_:aI:=⟨#[110,117,108,108]⟩
def Ge(l:List cU):List aI:=l.flatMap λ b=>b.code.map λ x=>x.dst
def Ia(fn:aQ):List aI:=lT::z_::(fn.params++Ge fn.blocks)
def azu(s:aI)(e:Lv K dH (.cells 1 t false))(a:AV t 0 (.map m))(B:kW K m P'):CN 254 [str s,.ptr dH 0] K λ v T=>v=bl (!@decide (P' s) (Classical.propDecidable _))/\T=K:=by
 refine ba asu rfl λ n g=>?_
 have⟨c,lm,d,j,_⟩:=B.use s
 rcases j with⟨h,k,Q⟩|⟨h,Q⟩
 .simp[e.get,a,d.get,Q]
  exact g ⟨by simp[h],rfl⟩
 .simp[e.get,a,d.get,Q]
  exact g ⟨by simp[h],rfl⟩
theorem YZ:∀(l:List aI),fX (l.map λ s=>str s)=true
 |[]=>rfl|s::l=>by rw[kB,all_cons,YZ l];rfl
def I.same(g:I S H K)(h:K.get f=some o):I S H (K.put f (some o)):=⟨g.ab,λ i A a=>by
 rw[D.eR];by_cases e:i=f
 .subst e;rw[aq rfl,<-h];exact g.get i A a
 .rw[ao e];exact g.get i A a⟩
def am1{a b:aI}(h:aW H 1 xm fv l)(g:I [] H K)(j:l.length<=1048576)(d:Lv K f (.cells 2 t false))(t0:AV t 0 (str a))(t1:AV t 1 (str b)):∃v T,cX E0 52 (.sl f 0 1 2 2 true) fv K=val v T/\aW T 1 SR v (a::b::l)/\I [] K T:=by
 have z:bc t 0 2=some [str a,str b]:=by simp[bc,t0,t1]
 cases l with
 |nil=>
  refine⟨.sl f 0 1 2 2 true,K.put f (some (.cells 2 t false)),?_,?_,aw.same d.get⟩
  .unfold cX tS
   rw[vW,fw];dsimp only;rw[vW,DH];dsimp only;rw[h.strs g];simp[d.get]
  .refine aW.row (L:=[a,b]) d.put_eq ζ (λ i A=>?_) ζ (by unfold maxLen;simp)
   match i,A with|0,_=>exact t0|1,_=>exact t1
 |cons c l=>
  have y:¬(2+(l.length+1)<=2):=ω
  have w:2+(l.length+1)<=9223372036854775807:=by simp at j;omega
  have u:(2+(l.length+1))*16<=140737488355328:=by simp at j;omega
  have n:=YZ (c::l)
  refine⟨.sl K.ab 0 1 (2+(l.length+1)) (2+(l.length+1)) false,K.add (.cells (2+(l.length+1)) ((Tr.e.iM 0 [str a,str b]).iM 2 ((c::l).map λ s=>str s)) false),?_,?_,aw.add _⟩
  .unfold cX tS
   rw[vW,fw];dsimp only;rw[vW,DH];dsimp only;rw[h.strs g];rw[n];simp[y,w,u,d.get,bY z]
  .have:=aW.row (K:=K.add (.cells (2+(l.length+1)) ((Tr.e.iM 0 [str a,str b]).iM 2 ((c::l).map λ s=>str s)) false)) (L:=a::b::c::l) (ax:=2+(l.length+1)) (ex:=false) Lv.new ξ (λ i A=>?_) ξ (by unfold maxLen;simp at j;omega)
   .have e:(a::b::c::l).length=2+(l.length+1):=ξ
    rw[e]at this;exact this
   .have B:((c::l).map λ s=>str s).length=l.length+1:=ζ
    rcases i with _|_|i
    .rw[Tr.vn,ao ω];simp
    .rw[Tr.vn,ao ω];simp
    .have k:i<(c::l).length:=by simpa using A
     rw[Tr.vn,aq (by rw[B];simp at k;omega)];simp only[afc];rw[show i+1+1-2=i by omega,y',bf k];rfl
end
end Go.Proofs.YtgipmaoplfkdoaaGreatDoor
