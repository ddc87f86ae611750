import Derived.Test.YtgipmaoplfkdoaaGreatDoorM9
import Derived.Test.YtgipmaoplfkdoaaGreatDoorM10
set_option linter.all false
set_option maxRecDepth 100000
set_option maxHeartbeats 400000000
namespace Go.Proofs.YtgipmaoplfkdoaaGreatDoor
noncomputable section
open Go.RowKit
variable{K T dP:D}{i k' n' mid:Nat}{α β:Type}{l:List cU}{v:Int×aI}{au:Nat->Prop}{vf sv ov pv:J}{t:CX}{X1 X2 i3 i5 i6:AT}{c Wo:Nat->Nat}{l':List bL}{d' ds:List bH}{yE:BW}{us:AU}{a:List bL×List bH}{w:Nat->Bool}{dst:Int}{V:SV}{L:List α}{k:α}{f:β->α->β}{b:β}
def lu(K:D)(id:Nat)(S:SM):Prop:=∃au vf cY cM mid,ly au K id vf cY cM mid S/\oO K vf S.p
def lu.W{id:Nat}{S:SM}(h:lu K id S)(g:I [] K T):lu T id S:=by have⟨au,vf,cY,cM,mid,O,U⟩:=h;exact⟨au,vf,cY,cM,mid,O.W g ζ,U.zB g⟩
section
variable{H:D}{id:Nat}{S:SM}
def NS(h:lu H id S):CN 28 [.ptr id 0] H λ v K=>K=H/\v=ae (S.vars.length:Nat):=by refine ba asK rfl λ n g=>?_;have⟨au,vf,cY,cM,mid,⟨t,sv,ov,pv,X1,X2,i3,i5,i6,l,c,e⟩,m⟩:=h;simp[e.ob.get,e.t1];refine CW (axE e.vars) ?_;rintro _ K ⟨rfl,rfl⟩;simp;exact g ⟨rfl,rfl⟩
def DD(h:lu H id S):CN 21 [.ptr id 0] H λ v K=>K=H/\v=ae (S.of.length:Nat):=by refine ba arS rfl λ n g=>?_;have⟨au,vf,cY,cM,mid,⟨t,sv,ov,pv,X1,X2,i3,i5,i6,l,c,e⟩,m⟩:=h;simp[e.ob.get,e.t5,e.of.aZ.aN bK];exact g ⟨rfl,rfl⟩
def aEQ(h:lu H id S):CN 99 [.ptr id 0] H λ v K=>K=H/\v=ae (S.p.length:Nat):=by refine ba ato rfl λ n m=>?_;have⟨au,vf,cY,cM,mid,⟨t,sv,ov,pv,X1,X2,i3,i5,i6,l,c,e⟩,g⟩:=h;simp[e.ob.get,e.t0,g.aN nf];exact m ⟨rfl,rfl⟩
def SM.oF(S:SM)(f:Int):Bool:=decide (0<=f)&&decide (f<S.p.length)
def RT(h:lu H id S)(f:Int):CN 96 [.ptr id 0,ae f] H λ v K=>K=H/\v=bl (S.oF f):=by
 refine ba atl rfl λ g e=>?_;by_cases O:0<=f
 .simp[cE (aEQ h),O];exact e ⟨rfl,by simp[SM.oF,O]⟩
 .simp[O];exact e ⟨rfl,by simp[SM.oF,O]⟩
abbrev JI:aI:=⟨#[110,117,108,108]⟩
def SM.aV(S:SM)(f:Int)(s:aI):Int:=if S.oF f=true then(if s=JI then-1 else match mF S.vars (f,s)with|some i=>(i:Int)|none=>-1)else-1
def ajS[DecidableEq α](h:mF L k=some i):i<L.length:=(adu h).1
def SM.N5(S:SM)(f:Int)(s:aI):S.aV f s<S.vars.length/\-1<=S.aV f s:=by
 unfold SM.aV;split
 .split
  .omega
  .split
   .rename_i h;have:=ajS h;omega
   .omega
 .omega
def Xt(h:lu H id S)(f:Int)(s:aI):CN 56 [.ptr id 0,ae f,str s] H λ v K=>(∃b,v=.dh [ae (S.aV f s),bl b])/\I [] H K:=by
 refine ba asP rfl λ D y=>?_;have m:=RT h f;cases e:S.oF f with
 |false=>
  rw[e]at m
  simp[cE m]
  exact y ⟨⟨false,by simp[SM.aV,e]⟩,aw⟩
 |true=>
  rw[e]at m
  by_cases n:s=JI
  .simp[cE m,n]
   exact y ⟨⟨true,by simp[SM.aV,e,n]⟩,aw⟩
  .have⟨au,vf,cY,cM,mid,⟨t,sv,ov,pv,X1,X2,i3,i5,i6,l,c,z⟩,C⟩:=h
   simp[cE m,n,z.ob.get,z.t1];refine CW (aqk (f,s) z.vars) ?_;rintro v K ⟨B,g⟩;rcases B with⟨i,A,rfl⟩|⟨A,rfl⟩
   .simp;exact y ⟨⟨true,by simp[SM.aV,e,n,A]⟩,g⟩
   .simp;exact y ⟨⟨false,by simp[SM.aV,e,n,A]⟩,g⟩
end
variable{x:bp}{p:List aQ}
variable{S ay As:SM}
def gJ(S ay:SM)(k n:Nat):Prop:=ay.vars.length<=S.vars.length+k+n/\ay.names.length<=S.names.length+k/\ay.sites.length<=S.sites.length+n/\ay.of.length<=S.of.length+64*n/\ay.a_.length<=S.a_.length+n
def gJ.refl(S:SM):gJ S S 0 0:=⟨ω,ω,ω,ω,ω⟩
def gJ.trans{n k' n':Nat}(h:gJ S ay i n)(g:gJ ay As k' n'):gJ S As (i+k') (n+n'):=by have⟨O,U,F,m,e⟩:=h;have⟨B,A,z,y,s⟩:=g;exact⟨ω,ω,ω,ω,ω⟩
def gJ.mono{n:Nat}(h:gJ S ay i n)(O:i<=k')(U:n<=n'):gJ S ay k' n':=by have⟨g,e,a3,a4,a5⟩:=h;exact⟨ω,ω,ω,ω,ω⟩
def Yd[DecidableEq α](L:List α)(k:α):(lE L k).length<=L.length+1:=by unfold lE;split<;>simp
def RY(S:SM)(f b i:Nat)(x:bp):S.iC f b i x=if x.op=1\/x.op=2 then((if x.dst=ByteArray.empty then{S with a_:=S.a_++[(f,b,i)]}else SM.var {S with a_:=S.a_++[(f,b,i)]} f x.dst).kq (f,b,i) x.n).eA x.n.toNat else(if x.dst=ByteArray.empty then{S with a_:=S.a_++[(f,b,i)]}else SM.var {S with a_:=S.a_++[(f,b,i)]} f x.dst):=rfl
def gJ.iC(S:SM)(f b i:Nat)(x:bp)(Z:x.op=1\/x.op=2->x.n<=64):gJ S (S.iC f b i x) 0 1:=by
 have g:=Yd S.vars ((f:Int),x.dst);rw[RY];by_cases hd:x.dst=ByteArray.empty<;>by_cases e:x.op=1\/x.op=2
 .have:=Z e;rw[aq hd,aq e];simp only[gJ,SM.kq,SM.eA,iP,afh,HX];omega
 .rw[aq hd,ao e];simp only[gJ,iP,HX];omega
 .have:=Z e;rw[ao hd,aq e];simp only[gJ,SM.kq,SM.eA,iP,afh,HX];omega
 .rw[ao hd,ao e];simp only[gJ,iP,HX];omega
def gJ.ins(S:SM)(f b:Nat)(code:List bp)(Z:∀x∈code,x.op=1\/x.op=2->x.n<=64):∀i,i<=code.length->gJ S (S.ins f b code i) 0 i
 |0,_=>gJ.refl S
 |i+1,A=>by
  have h:=(gJ.ins S f b code Z i ω)
  have e:code[i]?=some code[i]:=bf ω
  simp only[SM.ins,e]
  exact h.trans (gJ.iC _ _ _ _ _ (Z _ (cG ω)))
def akZ(h:i<l.length):fL (l.take (i+1))=fL (l.take i)+l[i].code.length:=by unfold fL;rw[mI,bf h,Ay,lF,tJ];simp only[kB,FN,sr,KJ,xx]
def aFq{l:List aQ}(h:i<l.length):ij (l.take (i+1))=ij (l.take i)+fL l[i].blocks:=by unfold ij;rw[mI,bf h,Ay,lF,tJ];simp only[kB,FN,sr,KJ,xx]
def gJ.bF(S:SM)(f:Nat)(bs:List cU)(Z:∀bk∈bs,∀x∈bk.code,x.op=1\/x.op=2->x.n<=64):∀b,b<=bs.length->gJ S (S.bF f bs b) 0 (fL (bs.take b))
 |0,_=>gJ.refl S
 |b+1,g=>by
  have h:=gJ.bF S f bs Z b ω
  have e:bs[b]?=some bs[b]:=bf ω
  rw[akZ ω]
  simp only[SM.bF,e]
  exact h.trans (gJ.ins _ _ _ _ (Z _ (cG ω)) _ aF)
def gJ.par(S:SM)(f:Nat)(ps:List aI):∀j,j<=ps.length->gJ S (S.par f ps j) j 0
 |0,_=>gJ.refl S
 |j+1,m=>by
  have h:=gJ.par S f ps j ω
  have e:ps[j]?=some ps[j]:=bf ω
  simp only[SM.par,e]
  refine h.trans (n':=0) (k':=1) ?_
  have g:=Yd (S.par f ps j).vars ((f:Int),ps[j])
  simp only[gJ];omega
def gJ.run(p:List aQ)(Z:∀fn∈p,fn.params.length<=8/\∀bk∈fn.blocks,∀x∈bk.code,x.op=1\/x.op=2->x.n<=64):∀f,f<=p.length->gJ (SM.run p 0) (SM.run p f) (9*f) (ij (p.take f))
 |0,_=>gJ.refl _
 |f+1,A=>by
  have h:=gJ.run p Z f ω
  have s:p[f]?=some p[f]:=bf ω
  have⟨B,y⟩:=Z _ (cG (show f<p.length by omega))
  rw[aFq ω]
  have e:SM.run p (f+1)=(SM.run p f).CQ f p[f]:=by simp only[SM.run,s]
  rw[e]
  unfold SM.CQ
  have m:gJ (SM.run p f) {SM.run p f with names:=lE (SM.run p f).names p[f].name} 1 0:=by have z:=Yd (SM.run p f).names p[f].name;simp only[gJ];omega
  have g:=(m.trans (gJ.par _ f p[f].params _ aF)).trans (gJ.bF _ f p[f].blocks y _ aF)
  rw[iF]at g
  exact(h.trans g).mono ω ω
def aqe(p:List aQ)(g:p.length<=64)(e:ij p<=4096)(Z:∀fn∈p,fn.params.length<=8/\∀bk∈fn.blocks,∀x∈bk.code,x.op=1\/x.op=2->x.n<=64):uP (bj p):=by have h:=gJ.run p Z _ aF;rw[iF]at h;unfold bj uP;simp only[gJ,SM.run,wg]at h⊢;omega
def WH{q:Nat->Nat->Nat->bp->Bool}(h:¬jF p q)(g:At p k' n' i x):q k' n' i x=false:=by cases e:q k' n' i x with|false=>rfl|true=>exact absurd ⟨k',n',i,x,g,e⟩ h
def At.of{fn:aQ}{bk:cU}(O:fn∈p)(U:bk∈fn.blocks)(F:x∈bk.code):∃f b i,p[f]?=some fn/\At p f b i x:=by have⟨f,e⟩:=sq O;have⟨b,g⟩:=sq U;have⟨i,A⟩:=sq F;exact⟨f,b,i,e,fn,bk,e,g,A⟩
def agE(h:pF p):uP (bj p):=by
 have b1:¬(p=[]\/64<p.length):=h 1 ω ω;have z:¬4096<ij p:=h 8 ω ω;have y:¬((∃(f:Nat) (x:aQ),p[f]?=some x/\8<x.params.length)\/jF p λ _ _ _ x=>Ab x):=h 5 ω ω;refine aqe p (by rcases kb 64 p.length with q|q;exact absurd (.inr q) b1;exact q) ω λ fn e=>⟨?_,λ bk n x Z s=>?_⟩
 .have⟨f,g⟩:=sq e;rcases kb 8 fn.params.length with q|q
  .exact absurd (.inl ⟨f,fn,g,q⟩) y
  .exact q
 .have⟨f,b,i,_,m⟩:=At.of e n Z;exact(XG h m s).2
structure nV(S:SM):Prop where
 idx:∀q k,S.idx q=some k->∃s,S.sites[k]?=some s/\s.1=q
 sites:∀(k:Nat) (s:Pt×Int×Int),S.sites[k]?=some s->0<=s.2.1/\0<=s.2.2/\s.2.1+s.2.2<=S.of.length
 of:∀(j:Nat) (e:Int),S.of[j]?=some e->∃(k:Nat) (s:Pt×Int×Int),e=(k:Int)/\S.sites[k]?=some s/\s.2.1<=j/\(j:Int)<s.2.1+s.2.2
def nV.var{S:SM}(h:nV S)(f:Nat)(s:aI):nV (S.var f s):=⟨h.idx,h.sites,h.of⟩
def nV.pt(h:nV S)(q:Pt):nV {S with a_:=S.a_++[q]}:=⟨h.idx,h.sites,h.of⟩
def nV.name(h:nV S)(s:aI):nV {S with names:=lE S.names s}:=⟨h.idx,h.sites,h.of⟩
def nV.site(h:nV S)(q:Pt){n:Int}(D:0<=n):nV ((S.kq q n).eA n.toNat):=by
 have y:((S.kq q n).eA n.toNat).sites=S.sites++[(q,(S.of.length:Int),n)]:=rfl;have z:((S.kq q n).eA n.toNat).of=S.of++List.replicate n.toNat (((S.sites++[(q,(S.of.length:Int),n)]).length:Int)-1):=rfl;have A:∀m,((S.kq q n).eA n.toNat).idx m=if m=q then some S.sites.length else S.idx m:=λ _=>rfl
 have C:((S.kq q n).eA n.toNat).of.length=S.of.length+n.toNat:=by rw[z];simp
 have old:∀{k:Nat} {s:Pt×Int×Int},S.sites[k]?=some s->((S.kq q n).eA n.toNat).sites[k]?=some s:=λ {k s} Q=>by rw[y,jI (by rw[cW]at Q;exact Q.1)];exact Q
 refine⟨λ m k Q=>?_,λ k s Q=>?_,λ j e g=>?_⟩
 .rw[A]at Q;split at Q
  .rename_i e;cases Q;exact⟨(q,(S.of.length:Int),n),by rw[y,mi aF];simp,e.symm⟩
  .obtain⟨s,O,U⟩:=h.idx _ _ Q;exact⟨s,old O,U⟩
 .rw[C];rw[y]at Q;rcases kb k S.sites.length with O|O
  .rw[jI O]at Q;have:=h.sites k s Q;omega
  .rw[mi O]at Q;have B:k-S.sites.length=0:=by
    rcases ze (k-S.sites.length)with U|U
    .exact U
    .rw[y_ ξ]at Q;cases Q
   rw[B]at Q;simp at Q;subst Q;dsimp only;omega
 .rw[z]at g;rcases kb j S.of.length with O|O
  .rw[jI O]at g;obtain⟨k,s,a,b,c⟩:=h.of j e g;exact⟨k,s,a,old b,c⟩
  .rw[mi O,List.getElem?_replicate]at g;split at g
   .rename_i U;cases g;refine⟨S.sites.length,(q,(S.of.length:Int),n),ζ,by rw[y,mi aF];simp,?_⟩;dsimp only;omega
   .cases g
def nV.iC{S:SM}(h:nV S)(f b i:Nat)(x:bp)(Z:x.op=1\/x.op=2->0<=x.n):nV (S.iC f b i x):=by
 have O:nV (if x.dst=ByteArray.empty then{S with a_:=S.a_++[(f,b,i)]}else SM.var {S with a_:=S.a_++[(f,b,i)]} f x.dst):=by
  split
  .exact h.pt _
  .exact(h.pt _).var _ _
 rw[RY];split
 .rename_i U;exact O.site _ (Z U)
 .exact O
def SL[DecidableEq α]{x:α}:x∈lE L k↔x∈L\/x=k:=by
 unfold lE;split
 .rename_i h;constructor
  .exact .inl
  .rintro(e|rfl);exact e;exact h
 .simp
def Se:v∈(S.iC k' n' i x).vars↔v∈S.vars\/(x.dst≠ByteArray.empty/\v=((k':Int),x.dst)):=by
 have key:(S.iC k' n' i x).vars=(if x.dst=ByteArray.empty then({S with a_:=S.a_++[(k',n',i)]}:SM)else SM.var {S with a_:=S.a_++[(k',n',i)]} k' x.dst).vars:=by rw[RY];split<;>rfl
 rw[key];split
 .rename_i h;simp[h]
 .rename_i h;simp only[SL];simp[h]
def ajU:(S.iC k' n' i x).a_=S.a_++[(k',n',i)]:=by rw[RY];split<;>split<;>rfl
def ayX:(S.iC k' n' i x).names=S.names:=by rw[RY];split<;>split<;>rfl
theorem abb{P:SM->Prop}{S:SM}{f b:Nat}{code:List bp}(h:P S)(g:∀ay i x,code[i]?=some x->P ay->P (ay.iC f b i x)):∀i,P (S.ins f b code i)
 |0=>h
 |i+1=>by
  have e:=abb h g i
  simp only[SM.ins]
  split
  .rename_i x Z;exact g _ _ _ Z e
  .exact e
theorem O2{P:SM->Prop}{S:SM}{f:Nat}{bs:List cU}(h:P S)(g:∀ay b bk i x,bs[b]?=some bk->bk.code[i]?=some x->P ay->P (ay.iC f b i x)):∀b,P (S.bF f bs b)
 |0=>h
 |b+1=>by
  have e:=O2 h g b
  simp only[SM.bF]
  split
  .rename_i bk m;exact abb e (λ ay i x Z n=>g ay b bk i x m Z n) _
  .exact e
theorem Ru{P:SM->Prop}{S:SM}{f:Nat}{ps:List aI}(h:P S)(g:∀ay s,s∈ps->P ay->P (ay.var f s)):∀j,P (S.par f ps j)
 |0=>h
 |j+1=>by
  have e:=Ru h g j
  simp only[SM.par]
  split
  .rename_i s m;exact g _ _ (oS m) e
  .exact e
theorem adM{P:SM->Prop}{p:List aQ}(y:P (SM.run p 0))(n:∀ay s,P ay->P {ay with names:=lE ay.names s})(h:∀ay f s,P ay->P (ay.var f s))(m:∀ay f b i x,At p f b i x->P ay->P (ay.iC f b i x)):∀f,P (SM.run p f)
 |0=>y
 |f+1=>by
  have g:=adM y n h m f
  simp only[SM.run]
  split
  .rename_i fn z
   exact O2 (Ru (n _ _ g) (λ ay s _ e=>h ay f s e) _) (λ ay b bk i x A Z e=>m ay f b i x ⟨fn,bk,z,A,Z⟩ e) _
  .exact g
def ajt(h:pF p):nV (bj p):=adM (P:=nV) ⟨λ q k Q=>by simp[SM.run]at Q,λ k s Q=>by simp[SM.run]at Q,λ j e m=>by simp[SM.run]at m⟩ (λ ay s g=>g.name s) (λ ay f s g=>g.var f s) (λ ay f b i x n g=>g.iC f b i x λ y=>by have:=XG h n y;omega) _
def abx:∀q∈(bj p).a_,∃x,At p q.1 q.2.1 q.2.2 x:=adM (P:=λ S=>∀q∈S.a_,∃x,At p q.1 q.2.1 q.2.2 x) (by simp[SM.run]) (λ ay s e=>e) (λ ay f s e=>e) (λ ay f b i x h e=>by
 rw[ajU];intro q g;rw[b_,jo]at g;rcases g with g|rfl
 .exact e q g
 .exact⟨x,h⟩) _
theorem aiG{S:SM}{f b:Nat}{code:List bp}{v:Int×aI}{i:Nat}{x:bp}(Z:code[i]?=some x)(hd:x.dst≠ByteArray.empty)(m:v=((f:Int),x.dst)):∀n,i<n->v∈(S.ins f b code n).vars
 |n+1,h=>by
  simp only[SM.ins]
  by_cases e:i=n
  .subst e
   rw[Z];exact Se.2 (.inr ⟨hd,m⟩)
  .have g:=aiG (S:=S) (b:=b) Z hd m n ω
   split
   .exact Se.2 (.inl g)
   .exact g
theorem afS{S:SM}{f:Nat}{bs:List cU}{v:Int×aI}{b i:Nat}{bk:cU}{x:bp}(s:bs[b]?=some bk)(Z:bk.code[i]?=some x)(hd:x.dst≠ByteArray.empty)(m:v=((f:Int),x.dst)):∀n,b<n->v∈(S.bF f bs n).vars
 |n+1,h=>by
  simp only[SM.bF]
  by_cases e:b=n
  .subst e
   rw[s];exact aiG Z hd m _ (by rw[cW]at Z;exact Z.1)
  .have g:=afS (S:=S) s Z hd m n ω
   split
   .exact abb (P:=λ ay=>v∈ay.vars) g (λ ay i x _ y=>Se.2 (.inl y)) _
   .exact g
theorem adN{p:List aQ}{v:Int×aI}{f:Nat}(h:v∈(SM.run p f).vars):∀g,f<=g->v∈(SM.run p g).vars
 |0,hg=>by obtain rfl:f=0:=ω
           exact h
 |g+1,hg=>by
  by_cases e:f=g+1
  .subst e;exact h
  .have ih:=adN h g ω
   simp only[SM.run];split
   .unfold SM.CQ;refine O2 (P:=λ ay=>v∈ay.vars) (Ru (P:=λ ay=>v∈ay.vars) ?_ (λ ay s _ hT=>SL.2 (.inl hT)) _) (λ ay b bk i x _ _ hT=>Se.2 (.inl hT)) _;exact ih
   .exact ih
def ay9(h:At p k' n' i x)(hd:x.dst≠ByteArray.empty):((k':Int),x.dst)∈(bj p).vars:=by
 have⟨fn,bk,e,g,Z⟩:=h;have m:k'<p.length:=by rw[cW]at e;exact e.1
 refine adN (f:=k'+1) ?_ _ ω;simp only[SM.run,e,SM.CQ];exact afS g Z hd rfl _ (by rw[cW]at g;exact g.1)
theorem akf{p:List aQ}(m:(p.map (·.name)).Nodup):∀f,f<=p.length->(SM.run p f).names=(p.map (·.name)).take f
 |0,_=>rfl
 |f+1,h=>by
  have z:=akf m f ω
  have C:p[f]?=some p[f]:=bf ω
  simp only[SM.run,C,SM.CQ]
  have e:∀L,(SM.run p f).names=L->lE L p[f].name=(p.map (·.name)).take (f+1)->((({SM.run p f with names:=lE (SM.run p f).names p[f].name}:SM).par f p[f].params p[f].params.length).bF f p[f].blocks p[f].blocks.length).names=(p.map (·.name)).take (f+1):=by intro L O U;refine O2 (P:=λ ay=>ay.names=(p.map (·.name)).take (f+1)) (Ru (P:=λ ay=>ay.names=(p.map (·.name)).take (f+1)) ?_ (λ ay s _ g=>g) _) (λ ay b bk i x _ _ g=>by rw[ayX];exact g) _;show lE (SM.run p f).names p[f].name=_;rw[O];exact U
  refine e _ z ?_
  have n:f<(p.map (·.name)).length:=by rw[bW];omega
  rw[mI,bf n,BO,Ay]
  unfold lE
  rw[ao]
  intro B
  have⟨i,A,y⟩:=rJ B
  rw[FL,BO]at y
  rw[eK]at A
  have:=HZ.1 m i f ω n ω
  rw[BO,BO]at this
  exact this y
def ajs(e:(p.map (·.name)).Nodup):(bj p).names=p.map (·.name):=by unfold bj;rw[akf e _ aF,OB ζ]
def ajp(h:pF p):(p.map (·.name)).Nodup:=by have b3:¬SE p:=h 3 ω ω;rw[List.nodup_iff_pairwise_ne,HZ];intro i j A g m e;rw[bW]at A g;rw[BO,BO]at e;exact b3 ⟨i,j,p[i],p[j],m,bf A,bf g,e⟩
theorem Lo{α:Type}{c:α->AU}{es:Nat}(e:∀a,(c a).length=es):∀{L:List α} {i:Nat} (A:i<L.length),((L.flatMap c).drop (i*es)).take es=c L[i]
 |a::L,0,_=>by
  rw[BN,OG,SQ,List.take_append_of_le_length (by rw[e];exact aF),OB (by rw[e];exact aF)]
  rfl
 |a::L,i+1,A=>by
  have g:=Lo e (L:=L) (i:=i) (by simpa using A)
  rw[BN,ve,List.drop_append,e,ae5 (by rw[e];omega),S4,show i*es+es-es=i*es by omega]
  exact g
theorem IF{α:Type}{c:α->AU}{es:Nat}(e:∀a,(c a).length=es):∀{L:List α},(L.flatMap c).length=L.length*es
 |[]=>ζ
 |a::L=>by rw[BN,iP,e,IF e (L:=L),qi,ve];omega
def XX:Pt->AU->Prop:=λ q M=>M=yI q
def SiR:Pt×Int×Int->AU->Prop:=λ q M=>M=Ae q
section
variable{H:D}{id:Nat}{S:SM}
def qg.aCn{l:List AE}(h:qg au K id vf k' n' mid S t sv ov pv X1 X2 i3 i5 i6 l c):aW K 3 XX pv S.a_:=h.a_.yN ω (IF (c:=yI) (es:=3) λ _=>rfl) λ i A=>Lo (c:=yI) (es:=3) (λ _=>rfl) A
def qg.akv{l:List AE}(h:qg au K id vf k' n' mid S t sv ov pv X1 X2 i3 i5 i6 l c):aW K 5 SiR sv S.sites:=h.sites.yN ω (IF (c:=Ae) (es:=5) λ _=>rfl) λ i A=>Lo (c:=Ae) (es:=5) (λ _=>rfl) A
def aER(h:lu H id S)(s:uP S):CN 48 [.ptr id 0] H λ v K=>aW K 3 XX v S.a_/\xh H.ab v/\I [] H K:=by refine ba asN rfl λ B y=>?_;have⟨au,vf,cY,cM,mid,⟨t,sv,ov,pv,X1,X2,i3,i5,i6,l,c,m⟩,A⟩:=h;simp[m.ob.get,m.t6];have:=s.2.2.2.2;refine CW (aoE m.aCn (λ a M h=>by rw[h];rfl) ω) ?_;rintro v K ⟨g,M,aH,O,U,F,z⟩;simp;refine y ⟨O.yN ω F z,?_,g⟩;intro id ah es n ax ex e;subst e;cases O with|own=>exact U _ ζ
def SM.Fk(S:SM)(f:Int):Int:=if S.oF f=true then(S.of.length:Int)+f else-1
def aEP(h:lu H id S)(s:uP S)(y:S.p.length<=1048576)(f:Int):CN 141 [.ptr id 0,ae f] H λ v K=>K=H/\v=ae (S.Fk f):=by
 refine ba aqV rfl λ A n=>?_;have g:=RT h f;cases e:S.oF f with
 |false=>
  rw[e]at g
  simp[cE g]
  exact n ⟨rfl,by simp[SM.Fk,e]⟩
 |true=>
  rw[e]at g
  have z:0<=f/\f<S.p.length:=by simpa[SM.oF]using e
  have⟨au,vf,cY,cM,mid,⟨t,sv,ov,pv,X1,X2,i3,i5,i6,l,c,m⟩,_⟩:=h
  have:=s.2.2.2.1
  simp[cE g,m.ob.get,m.t5,m.of.aZ.aN bK,fQ (x:=(S.of.length:Int)+f) ω ω]
  exact n ⟨rfl,by simp[SM.Fk,e]⟩
def SM.gP(S:SM)(s:aI):Int:=match mF S.names s with|some i=>(i:Int)|none=>0
def adX(h:lu H id S)(s:aI):CN 37 [.ptr id 0,str s] H λ v K=>(∃b,v=.dh [ae (S.gP s),bl b])/\I [] H K:=by
 refine ba asL rfl λ A n=>?_;have⟨au,vf,cY,cM,mid,⟨t,sv,ov,pv,X1,X2,i3,i5,i6,l,c,e⟩,z⟩:=h;simp[e.ob.get,e.t2];refine CW (aql s e.names) ?_;rintro v K ⟨y,g⟩;rcases y with⟨i,m,rfl⟩|⟨m,rfl⟩
 .simp;exact n ⟨⟨true,by simp[SM.gP,m]⟩,g⟩
 .simp;exact n ⟨⟨false,by simp[SM.gP,m]⟩,g⟩
def SM.Bw(S:SM)(o:Nat)(k:Int):Option Nat:=match S.of[o]? with|none=>none|some e=>match S.sites[e.toNat]? with|none=>none|some s=>if k< -((o:Int)-s.2.1)\/s.2.2-((o:Int)-s.2.1)<=k then none else some ((o:Int)+k).toNat
def JZ:Option Nat->J
 |some q=>.dh [ae (q:Nat),bl true]|none=>.dh [ae 0,bl false]
def akD(h:lu H id S)(Q:nV S)(hf:uP S)(o:Nat)(ho:o<=2097152){k:Int}(k0:-1048576<=k)(k1:k<=1048576):CN 22 [.ptr id 0,ae o,ae k] H λ v K=>v=JZ (S.Bw o k)/\I [] H K:=by
 refine ba ar1 rfl λ Q' A=>?_;have A0:¬(o:Int)<0:=ω
 by_cases D:o<S.of.length
 .have C:¬S.of.length<=o:=ω
  obtain⟨e,he⟩:∃e,S.of[o]?=some e:=⟨_,bf D⟩;obtain⟨m,s,rfl,n,bR,eG⟩:=Q.of _ _ he;have W:m<S.sites.length:=by rw[cW]at n;exact n.1
  have⟨GL,yp,ES⟩:=Q.sites _ _ n;have UY:=hf.2.2.2.1;have vv:=DD h;have⟨au,vf,cY,cM,mid,⟨t,sv,ov,pv,X1,X2,i3,i5,i6,l,c,y⟩,_⟩:=h;have⟨ido,aIP,aHc,exo,no,to,roo,co,J,gY,Z,av5,zE⟩:=y.of.aZ.gL D;have O:S.of[o]=(m:Int):=by rw[bf D,zi]at he;exact he
  have P:co=ae (m:Nat):=by have:[co]=[ae (S.of[o])]:=zE;rw[O]at this;simpa using this
  subst P;have⟨aH,Nw,an7,exs,ns,ts,ros,M,kL,vC,z,aaR,LQ⟩:=y.akv.at_ W;have N:S.sites[m]=s:=by rw[bf W,zi]at n;exact n
  have gR:M=Ae s:=by have:M=Ae S.sites[m]:=LQ;rw[N]at this;exact this
  subst gR;have⟨⟨sq1,sq2,sq3⟩,g,sn⟩:=s;dsimp only at bR eG GL yp ES;have Y:S.Bw o k=if k< -((o:Int)-g)\/sn-((o:Int)-g)<=k then none else some ((o:Int)+k).toNat:=by unfold SM.Bw;rw[he];show(match S.sites[((m:Nat):Int).toNat]? with|none=>none|some s=>_)=_;rw[show((m:Nat):Int).toNat=m from rfl,n]
  have w1:IntKind.wrap .i64 ((o:Int)-g)=(o:Int)-g:=fQ ω ω;have E:IntKind.wrap .i64 (-((o:Int)-g))=-((o:Int)-g):=fQ ω ω;have w3:IntKind.wrap .i64 (sn-((o:Int)-g))=sn-((o:Int)-g):=fQ ω ω;have w4:IntKind.wrap .i64 ((o:Int)+k)=(o:Int)+k:=fQ ω ω;have U:∀G F:AO,I [] H ((H.add G).put H.ab (some F)):=λ G F=>I.new aw G F;have ahU:Nw+m*5+5<=ns:=z;simp[A0,cE vv,C,y.ob.get,y.t3,y.t5,J,gY.get,Z,av5,D,kL,vC.get,W,z,bY aaR,w1];by_cases B:k< -((o:Int)-g)
  .simp[B,E];exact A ⟨by rw[Y,aq (.inl B)];rfl,U _ _⟩
  .by_cases R:sn-((o:Int)-g)<=k
   .simp[B,R,E,w3];exact A ⟨by rw[Y,aq (.inr R)];rfl,U _ _⟩
   .simp[B,R,E,w3,w4];refine A ⟨?_,U _ _⟩;rw[Y,ao ω];have:(((o:Int)+k).toNat:Int)=(o:Int)+k:=ω
    simp[JZ,this]
 .have C:S.of.length<=o:=ω
  simp[A0,cE (DD h),C];exact A ⟨by simp[SM.Bw,y_ C,JZ],aw⟩
end
def SM.fU(S:SM)(f:Int):BW:=if S.oF f=true then(match S.p[f.toNat]? with|some fn=>fn.params.map λ s=>S.aV f s|none=>[])else[]
section
variable{H:D}{id:Nat}{S:SM}
def Xs(h:lu H id S)(D:∀fn∈S.p,fn.params.length<=1048576)(f:Int):CN 24 [.ptr id 0,ae f] H λ v K=>(∃aL,aX K 1 v (aZ (S.fU f)) aL/\∀y∈aL,H.ab<=y)/\I [] H K:=by
 refine ba asd rfl λ Q' hQ=>?_;have A:=RT h f;cases g:S.oF f with
 |false=>
  rw[g]at A
  simp[cE A]
  exact hQ ⟨⟨[],by simp[SM.fU,g];exact .nil,ζ⟩,aw⟩
 |true=>
  rw[g]at A
  have h0:0<=f/\f<S.p.length:=by simpa[SM.oF]using g
  obtain⟨e,rfl⟩:∃n:Nat,f=(n:Int):=⟨f.toNat,ω⟩
  have B:e<S.p.length:=ω
  have R:S.fU (e:Int)=S.p[e].params.map λ s=>S.aV e s:=by unfold SM.fU;rw[aq g,show((e:Nat):Int).toNat=e from rfl,bf B]
  have mC:=D _ (cG B)
  have hM:=h
  have⟨au,vf,cY,cM,mid,⟨t,sv,ov,pv,X1,X2,i3,i5,i6,l,c,hO⟩,hp⟩:=h
  have⟨kQ,ig,kD,iR,n1,t1,py,kE,dc,cT,iy,eZ,eI⟩:=hp.at_ B
  obtain⟨vp,vb,rfl,N,bR⟩:=eI
  have⟨e0,e1,e2⟩:=uE eZ
  have KV:ig+e*3+1<n1:=ω
  simp[cE A,hO.ob.get,hO.t0,dc,B,cT.get,e1,KV,N.aN fw]
  refine CA (λ j sl K=>I [] H K/\j<=S.p[e].params.length/\AV sl 0 (.ptr id 0)/\AV sl 1 (ae (e:Nat))/\AV sl 22 vp/\AV sl 23 (ae (S.p[e].params.length:Nat))/\AV sl 24 (ae (j:Nat))/\∃u aL,AV sl 5 u/\aX K 1 u (aZ ((S.p[e].params.take j).map λ s=>S.aV e s)) aL/\∀y∈aL,H.ab<=y) (S.p[e].params.length) ⟨aw,dQ _,ζ,ζ,ζ,ζ,ζ,_,[],by simp;rfl,by simp;exact .nil,ζ⟩ ?_
  rintro b kk-Q j sl K ⟨z,hj,Y,s1,fu,O,C,u,aL,U,hu,F⟩ ih
  by_cases m:j<S.p[e].params.length
  .have⟨uj,uB,tQ,exp,np,tp,uG,cp,P,fG,Gz,E,jL⟩:=(N.fZ z).gL m
   obtain⟨rfl,hzp⟩:cp=str S.p[e].params[j]/\_:=⟨by have:=jL.1;simpa using this,jL.2⟩;simp[Y,s1,fu,O,C,m,P,fG.get,Gz,E];refine CW (Xt (hM.W z) _ _) ?_;rintro _ K2 ⟨⟨bb,rfl⟩,J⟩;simp[-cX,U];refine vL (c:=ae (S.aV e S.p[e].params[j])) bK qF (hu.W J ζ) rfl (by rw[bW,bW,eK];omega) (by rw[bW,bW,eK];omega) ?_;intro v' K3 Y3 Z p2 p3;simp[C,bq (aT m N.cP)];have g3:=ke (z.trans J) p2 F;refine ih ω ⟨g3,m,by simp[Y],by simp[s1],by simp[fu],by simp[O],ζ,_,Y3,by simp;rfl,?_,λ y G=>?_⟩
   .rw[mI,bf m,Ay];simp only[aZ,lF,kB,FN]at Z⊢;exact Z
   .rcases p3 y G with q|q
    .exact F y q
    .exact aY (z.trans J).ab q
  .obtain rfl:j=S.p[e].params.length:=ω
   subst Q;simp[O,C,U];rw[iF]at hu;exact hQ ⟨⟨aL,by rw[R];exact hu,F⟩,z⟩
end
def SM.Bt(S:SM)(q:Pt):Int:=match S.idx q with|some k=>(match S.sites[k]? with|some s=>s.2.1|none=>0)|none=>0
section
variable{H:D}{id:Nat}{S:SM}
abbrev ptV(q:Pt):J:=.agg [ae q.1,ae q.2.1,ae q.2.2]
def aES(h:lu H id S)(Q:nV S)(q:Pt):CN 138 [.ptr id 0,ptV q] H λ v K=>(∃n b,v=.dh [ae (S.Bt q),ae n,bl b])/\I [] H K:=by
 refine ba aqR rfl λ Q' C=>?_;have⟨au,vf,cY,cM,mid,⟨t,sv,ov,pv,X1,X2,i3,i5,i6,l,c,g⟩,hp⟩:=h;have⟨dH,J⟩:=g.idx.ob;have n1:¬id=H.ab:=bC g.ob.lt;have n2:¬mid=H.ab:=bC J.lt;have Y:∀m E:AO,I [] H ((H.add m).put H.ab (some E)):=λ m E=>I.new aw m E;have B:∀m:AO,I [] H (H.add m):=λ m=>aw.add m;have e:=g.qB q;cases A:S.idx q with
 |none=>
  rw[A]at e
  have y:lk (qU q) l=none:=by
   rcases Fe (key:=qU q) (l:=l)with⟨b,v,O,U⟩|⟨O,U⟩
   .rw[O]at e;cases e
   .exact U
  simp only[qU]at y
  simp[n1,n2,g.ob.get,g.t4,J.get,y]
  first
  |exact C ⟨⟨0,false,by simp[SM.Bt,A]⟩,B _⟩|exact C ⟨⟨0,false,by simp[SM.Bt,A]⟩,Y _ _⟩
 |some k=>
  rw[A]at e
  have⟨s,z,hsq⟩:=Q.idx _ _ A
  have y:∃b,lk (qU q) l=some (b,ae (k:Nat)):=by
   rcases Fe (key:=qU q) (l:=l)with⟨b,v,O,U⟩|⟨O,U⟩
   .rw[O]at e;simp at e;subst e;exact⟨b,U⟩
   .rw[O]at e;cases e
  have⟨b,y⟩:=y
  have G:k<S.sites.length:=by rw[cW]at z;exact z.1
  have F:S.sites[k]=s:=by rw[bf G,zi]at z;exact z
  have⟨aH,D,an7,exs,W,ts,ros,M,kL,P,aay,N,LQ⟩:=g.akv.at_ G
  have gR:M=Ae s:=by have:M=Ae S.sites[k]:=LQ;rw[F]at this;exact this
  subst gR
  have⟨⟨sq1,sq2,Z⟩,sb,sn⟩:=s
  have⟨_,R⟩:=iB.1 N
  have q3:ts.get (D+k*5+3)=some (ae sb):=by simpa using R 3 ω
  have q4:ts.get (D+k*5+4)=some (ae sn):=by simpa using R 4 ω
  have n3:¬aH=H.ab:=bC P.lt
  have l3:D+k*5+3<W:=ω
  have l4:D+k*5+4<W:=ω
  simp only[qU]at y
  simp[n1,n2,n3,g.ob.get,g.t3,g.t4,J.get,y,kL,G,P.get,q3,q4,l3,l4]
  first
  |exact C ⟨⟨sn,true,by simp[SM.Bt,A,z]⟩,B _⟩|exact C ⟨⟨sn,true,by simp[SM.Bt,A,z]⟩,Y _ _⟩
def akC(h:lu H id S){q:Pt}(ha:At S.p q.1 q.2.1 q.2.2 x)(hl:x.args.length<=1048576)(ck:x.eh.length<=1048576):CN 26 [.ptr id 0,ptV q] H λ v K=>(∃M,v=.dh [.agg M,bl true]/\ku K x M/\∀T,I (List.range H.ab) K T->ku T x M)/\I [] H K:=by
 refine ba asz rfl λ Q' hQ=>?_;have⟨f,b,i⟩:=q;have⟨fn,bk,N,O,A⟩:=ha;dsimp only at N O A;have R:f<S.p.length:=by rw[cW]at N;exact N.1
 have dp:b<fn.blocks.length:=by rw[cW]at O;exact O.1
 have du:i<bk.code.length:=by rw[cW]at A;exact A.1
 have hfe:S.p[f]=fn:=by rw[bf R,zi]at N;exact N
 have hbe:fn.blocks[b]=bk:=by rw[bf dp,zi]at O;exact O
 have hie:bk.code[i]=x:=by rw[bf du,zi]at A;exact A
 have awn:S.oF f=true:=by simp[SM.oF];exact R
 have nb:¬(b:Int)<0:=ω
 have ni:¬(i:Int)<0:=ω
 simp;generalize P:D.add _ _=H1;have a3:∃t,Lv H1 H.ab (.cells 3 t false)/\AV t 0 (ae (f:Nat))/\AV t 1 (ae (b:Nat))/\AV t 2 (ae (i:Nat)):=by rw[<-P];exact⟨_,Lv.new.add,ζ⟩
 have a4:∃t,Lv H1 (H.ab+1) (.cells 8 t false):=by rw[<-P];exact⟨_,Lv.new (H:=H.add _)⟩
 have e:I [] H H1:=by rw[<-P];exact(aw.add _).add _
 have n1:H1.ab=H.ab+2:=by rw[<-P];rfl
 clear P;have⟨t3,a3,b0,b1,b2⟩:=a3;have⟨t4,a4⟩:=a4;have hM:=h.W e;have ht:=RT hM f;rw[awn]at ht;have⟨au,vf,cY,cM,mid,⟨t,sv,ov,pv,X1,X2,i3,i5,i6,l,c,hO⟩,hp⟩:=h;have⟨kQ,ig,kD,iR,zZ,t1,py,kE,dc,cT,iy,eZ,eI⟩:=hp.at_ R;rw[hfe]at eI;obtain⟨vp,vb,rfl,eY,bR⟩:=eI;have⟨Z,lU,rN,kY,n2,t2,qW,mR,fp,kP,gV,iz,iv⟩:=bR.at_ dp;rw[hbe]at iv;obtain⟨vc,rfl,bX⟩:=iv;have⟨yy,Aa,xJ,wv,n3,t3',Bq,BV,jD,fF,mM,kh,f_⟩:=bX.at_ du;rw[hie]at f_;have⟨d0,d1⟩:=JQ iz;have c1:lU+b*2+1<n2:=ω
 have q2:=kP.lt;have q3:=fF.lt;have m0:¬Z=H1.ab:=ω
 have m1:¬yy=H1.ab:=ω
 have m2:¬H.ab=H1.ab:=bC a3.lt;have Y:¬fn.blocks.length<=b:=ω
 have nil:¬bk.code.length<=i:=ω
 simp[cE ht,a3.get,b0,b1,b2,nb,ni,(hO.ob.ai e).get,hO.t0,dc,R,(cT.ai e).get,iy,bY eZ,eY.cell,m0,m1,m2,fp,dp,(kP.ai e).get,d1,c1,de nh,de nT,Y,nil,du,jD,(fF.ai e).get,mM,bY kh];generalize Q:D.put _ _ _=U;have m:I [] H1 U:=by rw[<-Q];exact I.new aw _ _
 have a6:∃t,Lv U H1.ab (.cells 3 t false)/\AV t 2 (.sl Z lU 2 fn.blocks.length rN kY):=by rw[<-Q];exact⟨_,(Lv.new (H:=H1)).put_eq,ζ⟩
 have Re:U.ab=H1.ab+1:=by rw[<-Q];rfl
 clear Q;have⟨t6,a6,b6⟩:=a6;refine CW (af5 f_ (e.trans m) hl ck) ?_;rintro _ K ⟨cI,rfl,bA,wD,iX,g⟩;have a3K:=(a3.ai m).ai g;have a4K:=(a4.ai m).ai g;have a6K:=a6.ai g;have l2K:=((kP.ai e).ai m).ai g;have l3K:=((fF.ai e).ai m).ai g;have e1:¬H1.ab=H.ab+1:=ω
 have e2:¬Z=H.ab+1:=ω
 have e3:¬yy=H.ab+1:=ω
 obtain⟨J,F,E,C,B,z,s,n,rfl⟩:∃J F E C B z s n,cI=[J,F,E,C,B,z,s,n]:=by match cI,bA with|[J,F,E,C,B,z,s,n],_=>exact⟨_,_,_,_,_,_,_,_,rfl⟩
 simp[a4K.get,wD];have gz:I (List.range U.ab) K (K.put (H.ab+1) (some (.cells 8 (t4.iM 0 [J,F,E,C,B,z,s,n]) false))):=aw.put (.inr (mj.2 ω));have gy:I [] H (K.put (H.ab+1) (some (.cells 8 (t4.iM 0 [J,F,E,C,B,z,s,n]) false))):=((e.trans m).trans g).put (.inl ω);exact hQ ⟨⟨_,rfl,iX _ gz,λ T g'=>iX T (gz.trans (g'.mono λ y G=>by rw[mj]at G⊢;omega))⟩,gy⟩
end
variable{bs:List cU}{l:BW}{aL:AT}
def SM.vR(S:SM)(f:Int)(l:List bp):BW:=(l.filter λ x=>decide (x.op=14)).map λ x=>S.aV f x.a
def zo(bs:List cU):List bp:=bs.flatMap λ b=>b.code
def SM.jX(S:SM)(f:Int):BW:=if S.oF f=true then(match S.p[f.toNat]? with|some fn=>S.vR f (zo fn.blocks)|none=>[])else[]
def vg(bs:List cU)(b i:Nat):List bp:=zo (bs.take b)++(match bs[b]? with|some bk=>bk.code.take i|none=>[])
def aoP{bk:cU}(h:bs[i]?=some bk):vg bs (i+1) 0=vg bs i bk.code.length:=by unfold vg zo;rw[mI,h,HV];cases bs[i+1]?<;>simp
def aoQ{bk:cU}(h:bs[k']?=some bk)(Z:bk.code[i]?=some x):vg bs k' (i+1)=vg bs k' i++[x]:=by unfold vg;rw[h];dsimp only;rw[mI,Z,Ay,FK]
def aoM:vg bs 0 0=[]:=by unfold vg zo;cases bs[0]?<;>simp
def aoN:vg bs bs.length 0=zo bs:=by unfold vg;rw[y_ aF];simp
def aoO{bk:cU}(h:bs[k']?=some bk)(Z:bk.code[i]?=some x):(vg bs k' i).length<=fL bs:=by
 have m:k'<bs.length:=by rw[cW]at h;exact h.1
 have e:∀l:List cU,(zo l).length=fL l:=by intro l;unfold zo fL;rw[afg]
 have O:fL (bs.take (k'+1))<=fL bs:=by have:=iQ fL (wj (k'+1) bs);unfold fL at this⊢;rw[lF,tJ]at this;omega
 have U:=akZ m;have g:bs[k']=bk:=by rw[bf m,zi]at h;exact h
 rw[g]at U;unfold vg;rw[h];dsimp only;rw[iP,e,eK];omega
section
variable{H:D}{id:Nat}{S:SM}
def Kl(K:D)(tO:Nat)(l:BW)(aL:AT):Prop:=∃t u,Lv K tO (.cells 1 t false)/\AV t 0 u/\aX K 1 u (aZ l) aL
def Kl.W{tO:Nat}{cL:AT}(h:Kl K tO l aL)(g:I cL K T)(O:tO∉cL)(U:∀y∈aL,y∉cL):Kl T tO l aL:=by have⟨t,u,a,b,c⟩:=h;exact⟨t,u,a.W g O,b,c.W g U⟩
def HE(H:D)(id f:Nat)(L:LR)(M:CX)(l:BW)(K:D):Prop:=∃aL,Kl K (H.ab+2) l aL/\(∀y∈aL,H.ab+6<=y)/\(∃t,Lv K H.ab (.cells 1 t false)/\AV t 0 (.ptr id 0))/\(∃t,Lv K (H.ab+1) (.cells 1 t false)/\AV t 0 (ae (f:Nat)))/\Lv K (H.ab+3) (.cells 1 M false)/\Lv K (H.ab+4) .deferred/\Lv K (H.ab+5) (LR.ob L .ready none)/\I [] H K
def HE.W{H:D}{id f:Nat}{L:LR}{M:CX}(h:HE H id f L M l K)(g:I [] K T):HE H id f L M l T:=by have⟨aL,a,b,⟨t,c,c'⟩,⟨t',d,d'⟩,s,n,m,e⟩:=h;exact⟨aL,a.W g ζ ζ,b,⟨t,c.ai g,c'⟩,⟨t',d.ai g,d'⟩,s.ai g,n.ai g,m.ai g,e.trans g⟩
def adY(h:lu H id S)(gu:∀fn∈S.p,fL fn.blocks<=1048576)(f:Int):CN 25 [.ptr id 0,ae f] H λ v K=>(∃aL,aX K 1 v (aZ (S.jX f)) aL/\∀y∈aL,H.ab<=y)/\I [] H K:=by
 refine ba asp rfl λ Q' hQ=>?_;simp;generalize aP:D.add _ _=H1;have a0:∃t,Lv H1 H.ab (.cells 1 t false)/\t.get 0=some (.ptr id 0):=by rw[<-aP];exact⟨_,Lv.new.add,ζ⟩
 have a1:∃t,Lv H1 (H.ab+1) (.cells 1 t false)/\t.get 0=some (ae f):=by rw[<-aP];exact⟨_,Lv.new (H:=H.add _),ζ⟩
 have g1:I [] H H1:=by rw[<-aP];exact(aw.add _).add _
 have n1:H1.ab=H.ab+2:=by rw[<-aP];rfl
 clear aP;obtain⟨t0,a0,HL⟩:=a0;obtain⟨t1,a1,BL⟩:=a1;have ht:=RT (h.W g1) f;cases lS:S.oF f with
 |false=>
  rw[lS]at ht
  simp[cE ht]
  exact hQ ⟨⟨[],by simp[SM.jX,lS];exact .nil,ζ⟩,g1⟩
 |true=>
  rw[lS]at ht
  have h0:0<=f/\f<S.p.length:=by simpa[SM.oF]using lS
  obtain⟨f,rfl⟩:∃n:Nat,f=(n:Int):=⟨f.toNat,ω⟩
  have az:f<S.p.length:=ω
  have hM:=h
  obtain⟨au,vf,cY,cM,mid,⟨t,sv,ov,pv,X1,X2,i3,i5,i6,l,c,hO⟩,hp⟩:=h
  obtain⟨kQ,ig,kD,iR,zZ,DF,py,kE,dc,cT,iy,eZ,eI⟩:=hp.at_ az
  have aht:S.p.length<=kD/\kD<=maxLen:=by obtain⟨q4,q5,_⟩:=aW.inv hp dc;exact⟨q4,q5⟩
  obtain⟨d,hd⟩:∃d,kD-f=d+1:=⟨kD-f-1,ω⟩
  have ui:IntKind.wrap .i64 ((f:Int)+1)=((f+1:Nat):Int):=by rw[bq ω];omega
  have zG:f+1<=kD:=ω
  have hff:f+1-f=1:=ω
  have m0:¬H.ab=H1.ab:=ω
  have m1:¬H.ab+1=H1.ab:=ω
  have m2:¬id=H1.ab:=by have:=hO.ob.lt;omega
  simp[a0.get,HL,a1.get,BL,cE ht,m0,m1,m2,(hO.ob.ai g1).get,hO.t0,dc,ui,ajr,zG,hd,hff]
  rw[cE (akp _ rfl _)]
  simp
  refine HA (gv:=.fn (.func 132) [] [.ptr (H1.ab+1) 0]) ζ ?_
  refine⟨_,_,_,Im,?_⟩
  simp
  generalize qL:LR.mk _ _ _ _ _ _ _=L
  generalize lH:D.add _ (LR.ob L _ _)=Hr
  have W:I [] H1 Hr:=by rw[<-lH];exact(((aw.add _).add _).add _).add _
  have i0:Kl Hr (H.ab+2) [] []:=by rw[<-lH,<-n1];exact⟨_,_,Lv.new.add.add.add,ζ,.nil⟩
  have i1:∃t,Lv Hr (H.ab+3) (.cells 1 t false)/\t.get 0=some (.sl kQ (ig+f*3) 3 1 (d+1) iR):=by rw[<-lH,show H.ab+3=H1.ab+1 by omega];exact⟨_,(Lv.new (H:=H1.add _)).add.add,ζ⟩
  have i2:Lv Hr (H.ab+4) .deferred:=by rw[<-lH,show H.ab+4=H1.ab+2 by omega];exact(Lv.new (H:=(H1.add _).add _)).add
  have i3':Lv Hr (H.ab+5) (LR.ob L .ready none):=by rw[<-lH,show H.ab+5=H1.ab+3 by omega];exact Lv.new
  clear lH
  obtain⟨tc,i1,tc0⟩:=i1
  have O:L.ps=[25,26]/\L.size=43/\L.fn=25/\L.tmps.get 2=some (.ptr H.ab 0)/\L.tmps.get 3=some (.ptr (H.ab+1) 0)/\L.tmps.get 5=some (.ptr (H.ab+2) 0):=by rw[<-qL];exact⟨rfl,rfl,rfl,ζ,ζ,by simp[n1]⟩
  rw[n1]
  have fS:H.ab+2+1+1+1=H.ab+5:=rfl
  have avK:H.ab+2+1=H.ab+3:=rfl
  have avL:H.ab+2+1+1=H.ab+4:=rfl
  simp only[fS,avK,avL]
  have hP1:oO H (.sl kQ (ig+f*3) 3 1 (d+1) iR) [S.p[f]]:=by
   refine aW.sl (L:=[S.p[f]]) cT ξ (λ i A=>?_) ζ ω;obtain rfl:i=0:=by simpa using A
   exact⟨_,by simpa using eZ,eI⟩
  have hJ0:HE H id f L tc (S.vR f (vg S.p[f].blocks 0 0)) Hr:=by rw[aoM];exact⟨[],i0,ζ,⟨t0,a0.ai W,HL⟩,⟨t1,a1.ai W,BL⟩,i1,i2,i3',g1.trans W⟩
  have av7:S.jX (f:Int)=S.vR f (zo S.p[f].blocks):=by unfold SM.jX;rw[aq lS,show((f:Nat):Int).toNat=f from rfl,bf az]
  have aIs:=gu _ (cG az)
  refine(ako (HB:=H) (p:=[S.p[f]]) (dH:=H.ab+3) (vf:=.sl kQ (ig+f*3) 3 1 (d+1) iR) (λ F b i T=>HE H id f L tc (S.vR f (if F=0 then vg S.p[f].blocks b i else zo S.p[f].blocks)) T) hP1 (λ _ _ _ _ ⟨aL,_,_,_,_,_,_,_,g⟩=>g) (λ _ _ _ T dP h g=>h.W g) (by rw[aq rfl];exact hJ0) (λ _ _ _ T ⟨aL,_,_,_,_,e,_⟩=>⟨tc,false,e,tc0⟩) ?_ ?_ ?_).mono ?_
  .rintro F b i x M T cQ N Z
   obtain⟨fn,bk,C,lQ,dJ⟩:=cQ;obtain⟨rfl,rfl⟩:F=0/\fn=S.p[f]:=by cases F with|zero=>simp at C;exact⟨rfl,C.symm⟩|succ m=>simp at C
   rw[aq rfl]at N⊢;rw[aoQ lQ dJ];have eN:=aoO lQ dJ;generalize vg S.p[f].blocks b i=pre at N eN⊢;obtain⟨aL,hB,J,⟨u0,j0,j0'⟩,⟨u1,j1,j1'⟩,j3,j4,j5,jH⟩:=N;obtain⟨va,vl,rfl,kl,mO,QD⟩:=Z;refine CF.mono (aj:=λ v K2=>v=bl true/\HE H id f L tc (S.vR f (pre++[x])) K2) ?_ λ v K2 h=>h;clear hQ;simp;refine Hu (λ Y K1=>∃s t7,Y=⟨s,43,[],some (H.ab+5),25⟩/\s.get 2=some (.ptr H.ab 0)/\s.get 3=some (.ptr (H.ab+1) 0)/\s.get 5=some (.ptr (H.ab+2) 0)/\s.get 7=some (.ptr T.ab 0)/\I [] T K1/\K1.ab=T.ab+1/\Lv K1 T.ab (.cells 8 t7 false)/\t7.get 0=some (u8 x.op)/\t7.get 2=some (str x.a)) j5.get (by rw[O.1];rfl) (by rw[O.1,O.2.1];simp) ?_ ?_
   .rw[O.1,O.2.1,O.2.2.1];rw[<-iQ LR.aI4 qL];dsimp only;simp[kl.cell,mO.cell,O.2.2.2.1,O.2.2.2.2.1,O.2.2.2.2.2];refine⟨I.new aw _ _,_,(Lv.new (H:=T)).put_eq,ζ,ζ⟩
   .rintro Y K1 ⟨s,t7,rfl,z2,z3,z5,z7,R,nj,l7,q0,q2⟩;refine⟨none,L,(j5.ai R).get,?_⟩;have bm:=j5.lt;have gb:I [H.ab+5] K1 (K1.put (H.ab+5) (some (LR.ob L .busy none))):=aw.put (.inr ζ);have w0:=(j0.ai R).W gb ζ;have w1:=(j1.ai R).W gb ζ;have w3:=(j3.ai R).W gb ζ;have P:=(j4.ai R).W gb ζ;have w5:=(j5.ai R).put_eq (o':=LR.ob L .busy none);have w7:=l7.W gb ξ;have wB:=(hB.W R ζ ζ).W gb ζ (λ y G=>by have:=J y G;simp;omega);have wH:I [] H (K1.put (H.ab+5) (some (LR.ob L .busy none))):=ke (jH.trans R) gb ζ;generalize K1.put (H.ab+5) (some (LR.ob L .busy none))=Kb at w0 w1 w3 P w5 w7 wB wH⊢;rw[<-iQ LR.bd qL];dsimp only;have fin:∀(l:BW) (Y':AT) (z:D),l=S.vR f (pre++[x])->Kl z (H.ab+2) l Y'->(∀y∈Y',H.ab+6<=y)->Lv z H.ab (.cells 1 u0 false)->Lv z (H.ab+1) (.cells 1 u1 false)->Lv z (H.ab+3) (.cells 1 tc false)->Lv z (H.ab+4) .deferred->Lv z (H.ab+5) (LR.ob L .busy none)->I [] H z->XY (H.ab+5) (λ v K2=>v=bl true/\HE H id f L tc (S.vR f (pre++[x])) K2) .normal z:=by rintro l Y' z rfl p1 E p3 p4 p5 p6 p7 p8;have ge:I [H.ab+5] z (z.put (H.ab+5) (some (LR.ob L .ready none))):=aw.put (.inr ζ);exact⟨_,_,L,p7.get,rfl,Y',p1.W ge ζ (λ y G=>by have:=E y G;simp;omega),E,⟨u0,p3.W ge ζ,j0'⟩,⟨u1,p4.W ge ζ,j1'⟩,p5.W ge ζ,p6.W ge ζ,p7.put_eq,ke p8 ge ζ⟩
    by_cases bP:x.op=14
    .simp[z2,z3,z7,w7.get,q0,q2,bP,w0.get,j0',w1.get,j1'];refine CW (Xt (hM.W wH) _ _) ?_;rintro _ K2 ⟨⟨bb,rfl⟩,U⟩;obtain⟨tb,ub,wBt,wB0,wBo⟩:=wB.W U ζ ζ;simp[-cX,z5,wBt.get,wB0];have bA:(aZ (S.vR f pre)).length<=1048576:=by unfold SM.vR;rw[bW,bW];exact aY (BP _ _) ω
     refine vL (c:=ae (S.aV f x.a)) bK qF wBo rfl ω ω ?_;intro v' z Y3 p1 E p3;have eG:=wBt.lt;have nY:∀k,k<H.ab+6->k∉aL:=λ k Q B=>by have:=J k B;omega
     have r2:=wBt.W E (nY _ ω);simp[z5,r2.get,p1.cell,p1.co];have gp:I [H.ab+2] z (z.put (H.ab+2) (some (.cells 1 (tb.put 0 (some v')) false))):=aw.put (.inr ζ);have Eh:∀y∈Y3,H.ab+6<=y:=λ y G=>(p3 y G).elim (J y) λ q=>by have:=w5.lt;have:=U.ab;omega
     refine fin (S.vR f pre++[S.aV f x.a]) Y3 _ (by simp[SM.vR,bP]) ⟨_,v',r2.put_eq,ζ,?_⟩ Eh (((w0.ai U).W E (nY _ ω)).W gp ζ) (((w1.ai U).W E (nY _ ω)).W gp ζ) (((w3.ai U).W E (nY _ ω)).W gp ζ) (((P.ai U).W E (nY _ ω)).W gp ζ) (((w5.ai U).W E (nY _ ω)).W gp ζ) (ke (ke (wH.trans U) E λ y G=>by have:=J y G;omega) gp ζ);have:=p1.W gp λ y G=>by have:=Eh y G;simp;omega
     simpa using this
    .simp[z7,w7.get,q0,bP];exact fin _ aL _ (by simp[SM.vR,bP]) wB J w0 w1 w3 P w5 wH
  .rintro F b fn bk T C lQ N
   obtain⟨rfl,rfl⟩:F=0/\fn=S.p[f]:=by cases F with|zero=>simp at C;exact⟨rfl,C.symm⟩|succ m=>simp at C
   rw[aq rfl]at N⊢;rw[aoP lQ];exact N
  .rintro F fn T C N
   obtain⟨rfl,rfl⟩:F=0/\fn=S.p[f]:=by cases F with|zero=>simp at C;exact⟨rfl,C.symm⟩|succ m=>simp at C
   rw[aq rfl,aoN]at N;rw[ao ω];exact N
  .rintro _ T ⟨aL,hB,J,⟨u0,j0,j0'⟩,⟨u1,j1,j1'⟩,j3,j4,j5,jH⟩
   refine⟨_,_,L,j5.get,ζ,?_⟩;show aD E0 _ _ _ _;have ge:I [H.ab+5] T (T.put (H.ab+5) (some (LR.ob L .exhausted none))):=aw.put (.inr ζ);obtain⟨tb,ub,b1,b2,b3⟩:=hB.W ge ζ (λ y G=>by have:=J y G;simp;omega);have P:=j4.W ge ζ;have wH:=ke jH ge ζ;generalize T.put (H.ab+5) (some (LR.ob L .exhausted none))=K9 at b1 b3 P wH⊢;simp[b1.get,b2];replace P:Lv K9 (H.ab+2+1+1) .deferred:=P;simp[P.get];have gz:I [H.ab+4] K9 (K9.put (H.ab+2+1+1) none):=aw.put (.inr ζ);rw[ao ζ]at b3;exact hQ ⟨⟨aL,by rw[av7];exact b3.W gz λ y G=>by have:=J y G;simp;omega,λ y G=>by have:=J y G;omega⟩,ke wH gz ζ⟩
end
variable{r:bL}
abbrev kS(r:bL):AU:=[u8 r.kind,ae r.aR,ae r.aG,ae r.K]
abbrev sB(d:bH)(u:J):AU:=[ae d.at_.1,ae d.at_.2.1,ae d.at_.2.2,u,ae d.dst]
def zq:List bH->AU->AU
 |d::ds,u::us=>sB d u++zq ds us|_,_=>[]
theorem af9:∀{ds:List bH} {us:AU} {d:bH} {u:J},ds.length=us.length->zq (ds++[d]) (us++[u])=zq ds us++sB d u
 |[],[],d,u,_=>rfl
 |a::ds,b::us,d,u,h=>by
  show sB a b++zq (ds++[d]) (us++[u])=(sB a b++zq ds us)++sB d u
  rw[af9 (by simpa using h),FK]
 |[],_::_,_,_,h=>by simp at h
 |_::_,[],_,_,h=>by simp at h
theorem Pb:∀{ds:List bH} {us:AU},ds.length=us.length->(zq ds us).length=ds.length*5
 |[],[],_=>rfl
 |a::ds,b::us,h=>by
  show(sB a b++zq ds us).length=_
  rw[iP,Pb (by simpa using h)]
  simp;omega
 |[],_::_,h=>by simp at h
 |_::_,[],h=>by simp at h
def N7(ds:List bH)(us:AU)(K:D):Prop:=∀(i:Nat) (d:bH) (u:J),ds[i]?=some d->us[i]?=some u->aW K 1 (One λ n=>ae n) u d.args/\km u=true
structure MkO(HB:D)(K:D)(mk mid:Nat)(S:SM)(q:Pt)(x:bp)(M:List J)(l:List bL)(d:List bH)(t:Tr J)(lv dv:J)(us:List J)(Y1 Y2:List Nat):Prop where
 ob:Lv K mk (.cells 14 t false)
 t0:AV t 0 (.ptr mid 0)
 at_:bc t 1 3=some (yI q)
 ins:bc t 4 8=some M
 DG:AV t 12 lv
 Bx:AV t 13 dv
 lr:aX K 4 lv (l.flatMap kS) Y1
 dr:aX K 5 dv (zq d us) Y2
 len:d.length=us.length
 args:fN (λ y=>y<HB.ab\/y∈mk::(Y1++Y2)) K (N7 d us)
 EX:fN (λ y=>y∈mk::(Y1++Y2)) K λ K=>ku K x M
 n1:mk∉Y1
 n2:mk∉Y2
 n3:∀y∈Y1,y∉Y2
 lo:∀y∈mk::(Y1++Y2),HB.ab<=y
 base:I [] HB K
 mp:lu HB mid S
 nD:l.length<=4194304/\d.length<=4194304
def mg(HB:D)(K:D)(mk mid:Nat)(S:SM)(q:Pt)(x:bp)(M:AU)(l:List bL)(d:List bH)(X:AT):Prop:=∃t lv dv us Y1 Y2,X=mk::(Y1++Y2)/\MkO HB K mk mid S q x M l d t lv dv us Y1 Y2
section
variable{HB K T:D}{mk mid:Nat}{S:SM}{q:Pt}{x:bp}{M:AU}{l:List bL}{d:List bH}{X:AT}
def mg.ai(h:mg HB K mk mid S q x M l d X)(g:I [] K T):mg HB T mk mid S q x M l d X:=by obtain⟨t,lv,dv,us,Y1,Y2,rfl,h⟩:=h;exact⟨t,lv,dv,us,Y1,Y2,rfl,{ob:=h.ob.ai g,t0:=h.t0,at_:=h.at_,ins:=h.ins,DG:=h.DG,Bx:=h.Bx,lr:=h.lr.W g ζ,dr:=h.dr.W g ζ,len:=h.len,args:=h.args.step g ζ (λ y G=>.inl G),EX:=h.EX.step g ζ (λ y G=>.inl G),n1:=h.n1,n2:=h.n2,n3:=h.n3,lo:=h.lo,base:=h.base.trans g,mp:=h.mp,nD:=h.nD}⟩
def fW(HB:D)(K:D)(mk mid:Nat)(S:SM)(q:Pt)(x:bp)(M:AU)(X:AT)(l:List bL)(d:List bH)(T:D):Prop:=∃X',mg HB T mk mid S q x M l d X'/\I X K T/\∀y∈X',y∈X\/K.ab<=y
def fW.trans(g:I X K T)(Z:∀y∈X1,y∈X\/K.ab<=y)(h:fW HB T mk mid S q x M X1 l' d' dP):fW HB K mk mid S q x M X l' d' dP:=by
 have⟨X2,O,U,F⟩:=h;refine⟨X2,O,⟨aY g.ab U.ab,λ i A e=>?_⟩,λ y G=>?_⟩
 .rw[U.get i (aT A g.ab) λ B=>(Z i B).elim e λ h=>ω];exact g.get i A e
 .rcases F y G with h|h
  .exact Z y h
  .exact .inr (aY g.ab h)
def fW.self(h:mg HB K mk mid S q x M l d X)(g:I [] K T):fW HB K mk mid S q x M X l d T:=⟨X,h.ai g,g.mono ζ,λ y G=>.inl G⟩
def sR(h:mg HB K mk mid S q x M l d X)(s:aI):CN 140 [.ptr mk 0,str s] K λ v T=>v=ae (S.aV q.1 s)/\I [] K T:=by refine ba aqU rfl λ y e=>?_;obtain⟨t,lv,dv,us,Y1,Y2,rfl,h⟩:=h;have⟨a0,n,m⟩:=uE h.at_;simp[h.ob.get,h.t0,a0];refine CW (Xt (h.mp.W h.base) _ _) ?_;rintro _ K2 ⟨⟨b,rfl⟩,g⟩;simp;exact e ⟨rfl,g⟩
def RH{l:List bL}:(l.flatMap kS).length=l.length*4:=IF (c:=kS) (es:=4) λ _=>rfl
def JE(h:mg HB K mk mid S q x M l d X)(hl:l.length<4194304)(hr:0<=r.kind/\r.kind<=255)(B:aW K 1 (One λ n=>ae n) vf yE):CN 139 [.ptr mk 0,.agg (kS r),vf] K λ _ T=>fW HB K mk mid S q x M X (if yE.all (λ n=>decide (0<=n))=true then l++[r]else l) d T:=by
 refine ba aqS rfl λ Q' hQ=>?_
 simp[B.aN bK]
 generalize ed:D.add _ _=A
 have l4:∃t,Lv A K.ab (.cells 4 t false)/\bc t 0 4=some (kS r):=by rw[<-ed];exact⟨_,Lv.new,by simp[bc]⟩
 have C:I [] K A:=by rw[<-ed];exact aw.add _
 clear ed
 have⟨t4,l4,r4⟩:=l4
 refine CA (λ j sl K2=>A=K2/\(∀n∈yE.take j,0<=n)/\j<=yE.length/\AV sl 0 (.ptr mk 0)/\AV sl 4 (.ptr K.ab 0)/\AV sl 8 vf/\AV sl 9 (ae (yE.length:Nat))/\AV sl 10 (ae (j:Nat))) yE.length ⟨rfl,ζ,dQ _,ζ⟩ ?_
 rintro b kk-Q j sl _ ⟨rfl,dV,hj,s0,s4,R,N,bt⟩ ih
 by_cases m:j<yE.length
 .have⟨id,ah,ax,ex,n,tt,ro,c,hv,uc,aU,bU,hR⟩:=(B.fZ C).gL m
  have hc:c=ae yE[j]:=by have:[c]=[ae yE[j]]:=hR;simpa using this
  subst hc;by_cases A0:yE[j]<0
  .simp[R,N,bt,m,hv,uc.get,aU,bU,A0];refine hQ ?_;have:yE.all (λ n=>decide (0<=n))=false:=by rw[Yy];exact⟨_,cG m,ξ⟩
   rw[this,ao ζ];exact .self h C
  .simp[R,N,bt,m,hv,uc.get,aU,bU,A0,bq (aT m B.cP)];refine ih ω ⟨rfl,?_,m,by simp[s0],by simp[s4],by simp[R,hv],by simp[N],ζ⟩;intro z g;rw[mI,bf m,Ay,b_,jo]at g;rcases g with g|rfl
   .exact dV z g
   .omega
 .obtain rfl:j=yE.length:=ω
  subst Q;rw[iF]at dV;have ha:yE.all (λ n=>decide (0<=n))=true:=by rw[yZ];intro z g;simp;exact dV z g
  rw[ha,aq rfl]at hQ;have Qx:¬mk=K.ab:=by have⟨_,_,_,_,_,_,_,h0⟩:=h;exact bC h0.ob.lt
  obtain⟨t,lv,dv,us,Y1,Y2,rfl,e⟩:=h.ai C;simp[-cX,s0,s4,N,bt,e.ob.get,e.DG,l4.get,bY r4];generalize dU:D.add _ _=Ka;have s:I [] A Ka:=by rw[<-dU];exact aw.add _
  have la:∃tn,Lv Ka A.ab (.cells 4 tn false)/\bc tn 0 4=some (kS r):=by rw[<-dU];exact⟨_,Lv.new,by simp[bc]⟩
  clear dU;have⟨tn,la,lr⟩:=la;refine Fh Fz R_ ω (e.lr.W s ζ) la.get aF lr rfl (λ z g=>by rw[RH]at g;omega) (λ z g=>by rw[RH]at g;omega) ?_;intro v' K3 F Z Y U;have r1:=(e.ob.ai s).W Y e.n1;simp[r1.get,Z.cell,Z.co];have gp:I [mk] K3 (K3.put mk (some (.cells 14 (t.put 12 (some v')) false))):=aw.put (.inr ζ);have E:mk∉F:=λ B=>(U _ B).elim e.n1 λ q=>by have:=e.ob.lt;have:=s.ab;omega
  have Jd:∀y∈F,y∉Y2:=λ y G B=>(U y G).elim (λ q=>e.n3 y q B) λ q=>by have:=e.dr.lt y B;have:=s.ab;omega
  have J:I (mk::Y1) A (K3.put mk (some (.cells 14 (t.put 12 (some v')) false))):=((s.mono ζ).trans (Y.mono (by intro y G;simp[G]))).trans (gp.mono ζ);have O:∀y,y∈mk::(F++Y2)->y∈mk::(Y1++Y2)\/A.ab<=y:=λ y G=>by
   simp only[cZ,b_]at G⊢;rcases G with rfl|G|G
   .exact .inl (.inl rfl)
   .rcases U y G with q|q
    .exact .inl (.inr (.inl q))
    .exact .inr (aY s.ab q)
   .exact .inl (.inr (.inr G))
  have P:∀y∈mk::Y1,y∈mk::(Y1++Y2):=λ y G=>by
   simp only[cZ,b_]at G⊢;rcases G with rfl|G
   .exact .inl rfl
   .exact .inr (.inl G)
  have gY:∀y∈mk::Y1,HB.ab<=y:=λ y G=>e.lo y (P y G);refine hQ ⟨mk::(F++Y2),⟨_,v',dv,us,F,Y2,rfl,{ob:=r1.put_eq,t0:=by simp[e.t0],at_:=by rw[Dw ω];exact e.at_,ins:=by rw[Dw ω];exact e.ins,DG:=ζ,Bx:=by simp[e.Bx],lr:=?_,dr:=(((e.dr.W s ζ).W Y λ y G B=>e.n3 y B G).W gp λ y G=>by simp;rintro rfl;exact e.n2 G),len:=e.len,args:=e.args.step J (λ y G=>.inr (P y G)) (λ y G=>G.elim (λ q=>.inl (.inl q)) λ q=>(O y q).imp .inr id),EX:=e.EX.step J P O,n1:=E,n2:=e.n2,n3:=Jd,lo:=λ y G=>(O y G).elim (e.lo y) λ q=>aY e.base.ab q,base:=ke e.base J gY,mp:=e.mp,nD:=⟨by rw[iP];simp;omega,e.nD.2⟩}⟩,(C.mono ζ).trans (J.mono P),λ y G=>(O y G).elim .inl λ q=>.inr (aY C.ab q)⟩;rw[HV];have:=Z.W gp λ y G=>by simp;rintro rfl;exact E G
  simpa using this
def WA(h:mg HB K mk mid S q x M l d X)(C:l.length<4194304)(a b:Int):CN 142 [.ptr mk 0,ae a,ae b] K λ _ T=>fW HB K mk mid S q x M X (if 0<=a/\0<=b then l++[⟨2,a,b,0⟩]else l) d T:=by
 refine ba aqW rfl λ F E=>?_;simp;generalize g:D.add _ _=z;have s:I [] K z:=by rw[<-g];exact aw.add _
 have B:aW z 1 (One λ n=>ae n) (.sl K.ab 0 1 2 2 true) [a,b]:=by refine aW.sl (L:=[a,b]) (ah:=0) (ax:=2) (ex:=true) (n:=2) (ro:=false) (t:=((Tr.e.put 0 (some (ae 0))).put 1 (some (ae 0))).put 0 (some (ae a))|>.put 1 (some (ae b))) (by rw[<-g];exact Lv.new) ζ (λ i A=>?_) ζ (by unfold maxLen;simp);match i,A with|0,_=>exact⟨[ae a],by simp[bc],rfl⟩|1,_=>exact⟨[ae b],by simp[bc],rfl⟩
 clear g;refine CW (JE (r:=⟨2,a,b,0⟩) (h.ai s) C ζ B) ?_;intro v K2 m;simp;have e:([a,b].all λ n=>decide (0<=n))=true↔0<=a/\0<=b:=ζ
 simp only[e]at m;exact E (fW.trans (s.mono ζ) (λ y G=>.inl G) m)
end
section
variable{HB K T:D}{mk mid:Nat}{S:SM}{q:Pt}{x:bp}{M:AU}{l:List bL}{d:List bH}{X:AT}
structure Sx(K:D)(mk mid:Nat)(q:Pt)(x:bp)(t:Tr J)(va:J)(vl:J):Prop where
 ob:Lv K mk (.cells 14 t false)
 t0:AV t 0 (.ptr mid 0)
 pt:bc t 1 3=some (yI q)
 t4:AV t 4 (u8 x.op)
 t5:AV t 5 (str x.dst)
 t6:AV t 6 (str x.a)
 t7:AV t 7 (str x.b)
 t8:AV t 8 (ae x.n)
 t9:AV t 9 (str x.fn)
 pC:AV t 10 va
 args:aW K 1 xm va x.args
 n:-9223372036854775808<=x.n/\x.n<=9223372036854775807
def mg.op(h:mg HB K mk mid S q x M l d X):∃t va vl,M=[u8 x.op,str x.dst,str x.a,str x.b,ae x.n,str x.fn,va,vl]/\Sx K mk mid q x t va vl:=by obtain⟨t,lv,dv,us,Y1,Y2,rfl,h⟩:=h;obtain⟨va,vl,rfl,e,g,hr⟩:=h.EX.now;have⟨_,z⟩:=iB.1 h.ins;exact⟨t,va,vl,rfl,{ob:=h.ob,t0:=h.t0,pt:=h.at_,t4:=by simpa using z 0 ω,t5:=by simpa using z 1 ω,t6:=by simpa using z 2 ω,t7:=by simpa using z 3 ω,t8:=by simpa using z 4 ω,t9:=by simpa using z 5 ω,pC:=by simpa using z 6 ω,args:=e,n:=hr.2}⟩
def Sx.W(h:Sx K mk mid q x t vf sv)(g:I [] K T):Sx T mk mid q x t vf sv:={h with ob:=h.ob.ai g,args:=h.args.fZ g}
def mg.mp(h:mg HB K mk mid S q x M l d X):lu K mid S:=by obtain⟨t,lv,dv,us,Y1,Y2,rfl,h⟩:=h;exact h.mp.W h.base
def fW.ai(g:I [] K T)(h:fW HB T mk mid S q x M X l' d' dP):fW HB K mk mid S q x M X l' d' dP:=fW.trans (g.mono ζ) (λ y G=>.inl G) h
def aW.aju:aW K 1 (One λ n=>ae n) (.lit (.slice none 0 0)) []:=.nil
def ayA(h:mg HB K mk mid S q x M l d X)(Q:nV S)(y:l.length<4194304):CN 83 [.ptr mk 0] K λ _ T=>fW HB K mk mid S q x M X (l++[⟨1,S.aV q.1 x.dst,S.Bt q,0⟩]) d T:=by refine ba as8 rfl λ C z=>?_;obtain⟨t,va,vl,rfl,e⟩:=h.op;simp[e.ob.get,e.t0,bY e.pt];refine CW (aES h.mp Q q) ?_;rintro _ E ⟨⟨n,b,rfl⟩,g⟩;have s:=e.W g;simp[s.ob.get,s.t5];refine CW (sR (h.ai g) _) ?_;rintro _ K2 ⟨rfl,B⟩;have m:=g.trans B;simp;refine CW (JE (r:=⟨1,S.aV q.1 x.dst,S.Bt q,0⟩) (h.ai m) y ζ aW.aju) ?_;intro v D A;simp;exact z (fW.ai m (by simpa using A))
def ays(h:mg HB K mk mid S q x M l d X)(A:uP S)(y:S.p.length<=1048576)(z:l.length<4194304):CN 84 [.ptr mk 0] K λ _ T=>fW HB K mk mid S q x M X (l++[⟨1,S.aV q.1 x.dst,S.Fk (S.gP x.fn),0⟩]) d T:=by
 refine ba as9 rfl λ F B=>?_;obtain⟨t,va,vl,rfl,g⟩:=h.op;simp[g.ob.get,g.t0,g.t9];refine CW (adX h.mp _) ?_;rintro _ G ⟨⟨b,rfl⟩,s⟩;have n:=g.W s;simp[n.ob.get,n.t0,n.t5];refine CW (sR (h.ai s) _) ?_;rintro _ K2 ⟨rfl,D⟩;have m:=s.trans D;have e:=g.W m;simp;try (refine dF (by simp[dA,dm,val,e.ob.get,e.t0]) ?_)
 try simp
 refine CW (aEP (h.ai m).mp A y _) ?_;rintro _ E ⟨rfl,rfl⟩;simp;try (refine dF (by simp[dA,dm]) ?_)
 try simp[e.ob.get,e.t0,e.t5,e.t6,e.t7,e.t8,e.t9]
 refine CW (JE (r:=⟨1,S.aV q.1 x.dst,S.Fk (S.gP x.fn),0⟩) (h.ai m) z ζ aW.aju) ?_;intro v E C;simp;exact B (fW.ai m (by simpa using C))
def ayu(h:mg HB K mk mid S q x M l d X)(y:l.length<4194304):CN 85 [.ptr mk 0] K λ _ T=>fW HB K mk mid S q x M X (if 0<=S.aV q.1 x.dst/\0<=S.aV q.1 x.a then l++[⟨2,S.aV q.1 x.dst,S.aV q.1 x.a,0⟩]else l) d T:=by
 refine ba ata rfl λ C z=>?_;obtain⟨t,va,vl,rfl,g⟩:=h.op;simp[g.ob.get,g.t5,g.t6];refine CW (sR h _) ?_;rintro _ E ⟨rfl,n⟩;have s:=g.W n;simp;try (refine dF (by simp[dA,dm,val,s.ob.get,s.t6]) ?_)
 try simp
 refine CW (sR (h.ai n) _) ?_;rintro _ K2 ⟨rfl,B⟩;have m:=n.trans B;have e:=g.W m;try simp
 try (refine dF (by simp[dA,dm]) ?_)
 try simp[e.ob.get,e.t0,e.t5,e.t6,e.t7,e.t8,e.t9]
 refine CW (WA (h.ai m) y _ _) ?_;intro v D A;simp;exact z (fW.ai m A)
def ayw(h:mg HB K mk mid S q x M l d X)(O:l.length<4194304):CN 87 [.ptr mk 0] K λ _ T=>fW HB K mk mid S q x M X (if 0<=S.aV q.1 x.a then l++[⟨5,S.aV q.1 x.dst,S.aV q.1 x.a,x.n⟩]else l) d T:=by
 refine ba atc rfl λ U P=>?_;obtain⟨t,va,vl,rfl,g⟩:=h.op;simp[g.ob.get,g.t6];refine CW (sR h _) ?_;rintro _ N ⟨rfl,F⟩;have m:=g.W F;simp[m.ob.get,m.t5,m.t8];generalize s:D.add _ _=J;have Q:I [] N J:=by rw[<-s];exact aw.add _
 have B:aW J 1 (One λ n=>ae n) (.sl N.ab 0 1 1 1 true) [S.aV q.1 x.a]:=by refine aW.sl (L:=[S.aV q.1 x.a]) (ah:=0) (ax:=1) (ex:=true) (n:=1) (ro:=false) (t:=(Tr.e.put 0 (some (ae 0))).put 0 (some (ae (S.aV q.1 x.a)))) (by rw[<-s];exact Lv.new) ζ (λ i A=>?_) ζ (by unfold maxLen;simp);match i,A with|0,_=>exact⟨[ae (S.aV q.1 x.a)],by simp[bc],rfl⟩
 clear s;have z:=F.trans Q;have R:=g.W z;refine CW (sR (h.ai z) _) ?_;rintro _ K2 ⟨rfl,E⟩;have y:=z.trans E;have G:=g.W y;simp;try (refine dF (by simp[dA,dm,val,G.ob.get,G.t8]) ?_)
 try simp
 refine CW (JE (r:=⟨5,S.aV q.1 x.dst,S.aV q.1 x.a,x.n⟩) (h.ai y) O ζ (B.fZ E)) ?_;intro v Y C;simp;refine P (fW.ai y ?_);have e:([S.aV q.1 x.a].all λ n=>decide (0<=n))=true↔0<=S.aV q.1 x.a:=ζ
 simp only[e]at C;exact C
def ayy(h:mg HB K mk mid S q x M l d X)(J:l.length<4194304):CN 88 [.ptr mk 0] K λ _ T=>fW HB K mk mid S q x M X (if 0<=S.aV q.1 x.a then l++[⟨3,S.aV q.1 x.dst,S.aV q.1 x.a,0⟩]else l) d T:=by
 refine ba atd rfl λ Q N=>?_;obtain⟨t,va,vl,rfl,m⟩:=h.op;simp[m.ob.get,m.t6];refine CW (sR h _) ?_;rintro _ U ⟨rfl,s⟩;have C:=m.W s;simp[C.ob.get,C.t5];refine CW (sR (h.ai s) _) ?_;rintro _ K2 ⟨rfl,P⟩;have z:=s.trans P;have g:=m.W z;try simp
 try (refine dF (by simp[dA,dm]) ?_)
 try simp[g.ob.get,g.t0,g.t5,g.t6,g.t7,g.t8,g.t9]
 generalize y:D.add _ _=F;have O:I [] K2 F:=by rw[<-y];exact aw.add _
 have B:aW F 1 (One λ n=>ae n) (.sl K2.ab 0 1 1 1 true) [S.aV q.1 x.a]:=by refine aW.sl (L:=[S.aV q.1 x.a]) (ah:=0) (ax:=1) (ex:=true) (n:=1) (ro:=false) (t:=(Tr.e.put 0 (some (ae 0))).put 0 (some (ae (S.aV q.1 x.a)))) (by rw[<-y];exact Lv.new) ζ (λ i A=>?_) ζ (by unfold maxLen;simp);match i,A with|0,_=>exact⟨[ae (S.aV q.1 x.a)],by simp[bc],rfl⟩
 clear y;have G:=z.trans O;refine CW (JE (r:=⟨3,S.aV q.1 x.dst,S.aV q.1 x.a,0⟩) (h.ai G) J ζ B) ?_;intro v R E;simp;refine N (fW.ai G ?_);have e:([S.aV q.1 x.a].all λ n=>decide (0<=n))=true↔0<=S.aV q.1 x.a:=ζ
 simp only[e]at E;exact E
def ayB(h:mg HB K mk mid S q x M l d X)(J:l.length<4194304):CN 89 [.ptr mk 0] K λ _ T=>fW HB K mk mid S q x M X (if 0<=S.aV q.1 x.a/\0<=S.aV q.1 x.b then l++[⟨4,S.aV q.1 x.b,S.aV q.1 x.a,0⟩]else l) d T:=by
 refine ba ate rfl λ Q N=>?_;obtain⟨t,va,vl,rfl,m⟩:=h.op;simp[m.ob.get,m.t6,m.t7];refine CW (sR h _) ?_;rintro _ U ⟨rfl,s⟩;have C:=m.W s;simp;try (refine dF (by simp[dA,dm,val,C.ob.get,C.t7]) ?_)
 try simp
 refine CW (sR (h.ai s) _) ?_;rintro _ K2 ⟨rfl,P⟩;have z:=s.trans P;have g:=m.W z;try simp
 try (refine dF (by simp[dA,dm]) ?_)
 try simp[g.ob.get,g.t0,g.t5,g.t6,g.t7,g.t8,g.t9]
 generalize y:D.add _ _=F;have O:I [] K2 F:=by rw[<-y];exact aw.add _
 have B:aW F 1 (One λ n=>ae n) (.sl K2.ab 0 1 2 2 true) [S.aV q.1 x.a,S.aV q.1 x.b]:=by refine aW.sl (L:=[S.aV q.1 x.a,S.aV q.1 x.b]) (ah:=0) (ax:=2) (ex:=true) (n:=2) (ro:=false) (t:=((Tr.e.put 0 (some (ae 0))).put 1 (some (ae 0))).put 0 (some (ae (S.aV q.1 x.a)))|>.put 1 (some (ae (S.aV q.1 x.b)))) (by rw[<-y];exact Lv.new) ζ (λ i A=>?_) ζ (by unfold maxLen;simp);match i,A with|0,_=>exact⟨[ae (S.aV q.1 x.a)],by simp[bc],rfl⟩|1,_=>exact⟨[ae (S.aV q.1 x.b)],by simp[bc],rfl⟩
 clear y;have G:=z.trans O;refine CW (JE (r:=⟨4,S.aV q.1 x.b,S.aV q.1 x.a,0⟩) (h.ai G) J ζ B) ?_;intro v R E;simp;refine N (fW.ai G ?_);have e:([S.aV q.1 x.a,S.aV q.1 x.b].all λ n=>decide (0<=n))=true↔0<=S.aV q.1 x.a/\0<=S.aV q.1 x.b:=ζ
 simp only[e]at E;exact E
end
variable{j:Nat}
def jT(l:List bL)(a b:Int):List bL:=if 0<=a/\0<=b then l++[⟨2,a,b,0⟩]else l
def af7{l:List bL}{a b:Int}:(jT l a b).length<=l.length+1:=by unfold jT;split<;>simp
theorem Iu{α:Type}{f:α->Int×Int}:∀{ls:List α} {l:List bL},(ls.foldl (λ l s=>jT l (f s).1 (f s).2) l).length<=l.length+ls.length
 |[],l=>aF
 |s::ls,l=>by
  have O:=Iu (f:=f) (ls:=ls) (l:=jT l (f s).1 (f s).2)
  have U:=af7 (l:=l) (a:=(f s).1) (b:=(f s).2)
  simp only[DV,qi];omega
def CR(h:j<L.length):(L.take (j+1)).foldl f b=f ((L.take j).foldl f b) L[j]:=by rw[mI,bf h,Ay,ae8];rfl
section
variable{HB K T:D}{mk mid:Nat}{S:SM}{q:Pt}{x:bp}{M:AU}{l:List bL}{d:List bH}{X:AT}
def mg.lt(h:mg HB K mk mid S q x M l d X):∀y∈X,y<K.ab:=by
 obtain⟨t,lv,dv,us,Y1,Y2,rfl,h⟩:=h;intro y G;simp only[cZ,b_]at G;rcases G with rfl|G|G
 .exact h.ob.lt
 .exact h.lr.lt y G
 .exact h.dr.lt y G
def ayz(h:mg HB K mk mid S q x M l d X)(hl:l.length+x.args.length<4194304):CN 86 [.ptr mk 0] K λ _ T=>fW HB K mk mid S q x M X (x.args.foldl (λ l s=>jT l (S.aV q.1 x.dst) (S.aV q.1 s)) l) d T:=by
 refine ba atb rfl λ Q' W=>?_;obtain⟨t,va,vl,rfl,A⟩:=h.op;simp[A.ob.get,A.pC,A.args.aN fw];refine CA (λ j sl K2=>fW HB K mk mid S q x [u8 x.op,str x.dst,str x.a,str x.b,ae x.n,str x.fn,va,vl] X ((x.args.take j).foldl (λ l s=>jT l (S.aV q.1 x.dst) (S.aV q.1 s)) l) d K2/\j<=x.args.length/\AV sl 0 (.ptr mk 0)/\AV sl 8 va/\AV sl 9 (ae (x.args.length:Nat))/\AV sl 10 (ae (j:Nat))) x.args.length ⟨.self h aw,dQ _,ζ⟩ ?_
 rintro b kk-Q j sl K2 ⟨⟨X2,U,G,E⟩,hj,z,C,y,B⟩ R;have⟨t2,O,N,e,m⟩:=U.op;simp only[KA,OH,KN]at e;obtain⟨rfl,rfl⟩:=e;by_cases g:j<x.args.length
 .have bA:((x.args.take j).foldl (λ l s=>jT l (S.aV q.1 x.dst) (S.aV q.1 s)) l).length<=l.length+(x.args.take j).length:=Iu (f:=λ s=>(S.aV q.1 x.dst,S.aV q.1 s)) (ls:=x.args.take j) (l:=l);rw[eK]at bA;have⟨id,ah,ax,ex,n,tt,ro,c,D,P,aU,bU,F⟩:=m.args.gL g;obtain⟨rfl,hz⟩:c=str x.args[j]/\_:=⟨by have:=F.1;simpa using this,F.2⟩;simp[z,C,y,B,g,D,P.get,aU,bU,m.ob.get,m.t5];refine CW (sR U _) ?_;rintro _ K3 ⟨rfl,I⟩;simp[z];refine CW (sR (U.ai I) _) ?_;rintro _ K4 ⟨rfl,Z⟩;have J:=I.trans Z;simp;refine CW (WA (U.ai J) ω _ _) ?_;intro v K5 Y;simp[B,bq (aT g m.args.cP)];refine R ω ⟨?_,g,by simp[z],by simp[C,D],by simp[y],ζ⟩;rw[CR g];exact fW.trans G E (fW.ai J Y)
 .obtain rfl:j=x.args.length:=ω
  subst Q;simp[y,B];rw[iF]at U;exact W ⟨X2,U,G,E⟩
def Ga(S:SM)(q:Pt)(x:bp)(l:List bL):List bL:=(S.jX (S.gP x.fn)).foldl (λ l v=>jT l (S.aV q.1 x.dst) v) (((S.fU (S.gP x.fn)).zip x.args).foldl (λ l p=>jT l p.1 (S.aV q.1 p.2)) l)
def ayt(h:mg HB K mk mid S q x M l d X)(hp8:∀fn∈S.p,fn.params.length<=1048576)(gu:∀fn∈S.p,fL fn.blocks<=1048576)(aaN:(S.fU (S.gP x.fn)).length=x.args.length)(hl:l.length+x.args.length+(S.jX (S.gP x.fn)).length<4194304):CN 90 [.ptr mk 0] K λ _ T=>fW HB K mk mid S q x M X (Ga S q x l) d T:=by
 refine ba atf rfl λ Q' J=>?_;obtain⟨t,va,vl,rfl,hT⟩:=h.op;simp[hT.ob.get,hT.t0,hT.t9];refine CW (adX h.mp _) ?_;rintro _ K1 ⟨⟨b,rfl⟩,g1⟩;have kF:=hT.W g1;simp[kF.ob.get,kF.t0];refine CW (Xs (h.ai g1).mp hp8 _) ?_;rintro pv K2 ⟨⟨YP,D,Uz⟩,g2⟩;have lG:=g1.trans g2;simp[D.aZ.aN bK];have aag:∀y∈X,y<K.ab:=h.lt;have hL:Ga S q x l=(S.jX (S.gP x.fn)).foldl (λ l v=>jT l (S.aV q.1 x.dst) v) (((S.fU (S.gP x.fn)).zip x.args).foldl (λ l p=>jT l p.1 (S.aV q.1 p.2)) l):=rfl;rw[hL]at J;generalize hPs:S.fU (S.gP x.fn)=ps at D aaN J;have rQ:=g1.ab;have iW:=g2.ab;refine bu (α:=Nat) (aJ:=λ j sl K3=>fW HB K2 mk mid S q x [u8 x.op,str x.dst,str x.a,str x.b,ae x.n,str x.fn,va,vl] X (((ps.zip x.args).take j).foldl (λ l p=>jT l p.1 (S.aV q.1 p.2)) l) d K3/\aX K3 1 pv (aZ ps) YP/\j<=ps.length/\AV sl 0 (.ptr mk 0)/\AV sl 2 (ae (S.gP x.fn))/\AV sl 26 pv/\AV sl 27 (ae (ps.length:Nat))/\AV sl 28 (ae (j:Nat))) (mu:=λ j=>ps.length-j) ?_ 0 _ _ ?ini;case ini=>exact⟨.self (h.ai lG) aw,D,dQ _,ζ⟩
 rintro b1 k1-cq j sl K3 ⟨⟨X3,F,gX,hX⟩,R,hj,m,s2,uH,Y,Z⟩ ih;have hYX:∀y∈YP,y∉X3:=λ y G B=>by
  rcases hX y B with E|E
  .have:=aag y E;have:=Uz y G;omega
  .have:=D.lt y G;omega
 have⟨t3,va3,vl3,e,z⟩:=F.op;simp only[KA,OH,KN]at e;obtain⟨rfl,rfl⟩:=e;have MQ:(ps.zip x.args).length=ps.length:=by rw[HY];omega
 have bA:(((ps.zip x.args).take j).foldl (λ l p=>jT l p.1 (S.aV q.1 p.2)) l).length<=l.length+((ps.zip x.args).take j).length:=Iu (f:=λ p:Int×aI=>(p.1,S.aV q.1 p.2)) (ls:=(ps.zip x.args).take j) (l:=l);rw[eK]at bA;by_cases g:j<ps.length
 .have mU:j<x.args.length:=ω
  have hnz:j<(ps.zip x.args).length:=ω
  have⟨uj,uB,tQ,exp,np,tp,uG,P,O,fG,ib,gq,jL⟩:=R.aZ.gL g;have qw:P=ae ps[j]:=by have:[P]=[ae ps[j]]:=jL;simpa using this
  subst qw;have⟨id,ah,ax,ex,n,tt,ro,c,hv,uc,aU,bU,hR⟩:=z.args.gL mU;obtain⟨rfl,hz⟩:c=str x.args[j]/\_:=⟨by have:=hR.1;simpa using this,hR.2⟩;simp[m,uH,Y,Z,g,O,fG.get,ib,gq,mU,hv,uc.get,aU,bU,z.ob.get,z.pC];refine CW (sR F _) ?_;rintro _ K4 ⟨rfl,A⟩;simp;refine CW (WA (F.ai A) ω _ _) ?_;intro v K5 hP;simp[Z,bq (aT g D.aZ.cP)];have⟨X5,s,g5,U⟩:=hP;refine ih (j+1) _ _ ω ⟨?_,(R.W A ζ).W g5 hYX,g,by simp[m],by simp[s2],by simp[uH,O],by simp[Y],ζ⟩;rw[CR hnz,Oy];exact fW.trans gX hX (fW.ai A ⟨X5,s,g5,U⟩)
 .obtain rfl:j=ps.length:=ω
  subst cq;rw[show(ps.zip x.args).take ps.length=ps.zip x.args from OB ω]at F bA;simp[m,s2,Y,Z,z.ob.get,z.t0];refine CW (adY F.mp gu _) ?_;rintro rv K4 ⟨⟨YR,C,hRY⟩,A⟩;simp[C.aZ.aN bK];generalize LQ:S.jX (S.gP x.fn)=rs at C hl J;generalize sH:(ps.zip x.args).foldl (λ l p=>jT l p.1 (S.aV q.1 p.2)) l=l0 at F bA J;have at2:∀y∈X3,y<K3.ab:=F.lt;refine CA (λ j sl K5=>fW HB K4 mk mid S q x [u8 x.op,str x.dst,str x.a,str x.b,ae x.n,str x.fn,va,vl] X3 ((rs.take j).foldl (λ l v=>jT l (S.aV q.1 x.dst) v) l0) d K5/\aX K5 1 rv (aZ rs) YR/\j<=rs.length/\AV sl 0 (.ptr mk 0)/\AV sl 52 rv/\AV sl 53 (ae (rs.length:Nat))/\AV sl 54 (ae (j:Nat))) rs.length ⟨.self (F.ai A) aw,C,dQ _,by simp[m]⟩ ?_
  clear m s2 uH Y Z ih z;rintro b2 k2-dO j sl K5 ⟨⟨X5,s,N,U⟩,Q,hj,m,JT,sZ,qE⟩ ih;have aub:∀y∈YR,y∉X5:=λ y G B=>by
   rcases U y B with E|E
   .have:=at2 y E;have:=hRY y G;omega
   .have:=C.lt y G;omega
  have⟨t5,va5,vl5,e,I⟩:=s.op;simp only[KA,OH,KN]at e;obtain⟨rfl,rfl⟩:=e;have aax:((rs.take j).foldl (λ l v=>jT l (S.aV q.1 x.dst) v) l0).length<=l0.length+(rs.take j).length:=Iu (f:=λ v=>(S.aV q.1 x.dst,v)) (ls:=rs.take j) (l:=l0);rw[eK]at aax;by_cases g:j<rs.length
  .have⟨uj,uB,tQ,exp,np,tp,uG,P,O,fG,ib,gq,jL⟩:=Q.aZ.gL g;have qw:P=ae rs[j]:=by have:[P]=[ae rs[j]]:=jL;simpa using this
   subst qw;simp[m,JT,sZ,qE,g,O,fG.get,ib,gq,I.ob.get,I.t5];refine CW (sR s _) ?_;rintro _ K6 ⟨rfl,g6⟩;simp;refine CW (WA (s.ai g6) ω _ _) ?_;intro v K7 hP;simp[qE,bq (aT g C.aZ.cP)];have⟨X7,h7,g7,LX⟩:=hP;refine ih ω ⟨?_,(Q.W g6 ζ).W g7 aub,g,by simp[m],by simp[JT,O],by simp[sZ],ζ⟩;rw[CR g];exact fW.trans N U (fW.ai g6 ⟨X7,h7,g7,LX⟩)
  .obtain rfl:j=rs.length:=ω
   subst dO;simp[sZ,qE];rw[iF]at s;exact J (fW.ai lG (fW.trans gX hX (fW.ai A ⟨X5,s,N,U⟩)))
end
variable{u:J}{d:bH}
def apD(a b c:Int):fy (.agg [ae a,ae b,ae c]) (.agg [ae a,ae b,ae c])=true:=by
 refine Ll λ v g=>?_;simp only[cZ,xu,xD]at g;rcases g with rfl|rfl|rfl
 .have e:fy (ae a) (ae a)=true:=IA;exact e
 .have e:fy (ae b) (ae b)=true:=IA;exact e
 .have e:fy (ae c) (ae c)=true:=IA;exact e
def aX.sta{X:Nat->Prop}{M:AU}(h:aX K i u M aL)(m:∀y∈aL,¬X y):fN X K λ K=>aX K i u M aL:=⟨λ y=>y∈aL,λ y G=>⟨h.lt y G,m y G⟩,λ dP e g=>by cases h with|nil=>exact .nil|own O U F z s n=>exact .own ⟨aT O.lt e,(g _ ζ).trans O.get⟩ U F z s n⟩
def ana(s:ds.length=us.length)(h:N7 ds us K)(hu:aW K 1 (One λ n=>ae n) u d.args):N7 (ds++[d]) (us++[u]) K:=by
 intro i d' g O U;rcases kb i ds.length with q|q
 .rw[jI q]at O;rw[jI ω]at U;exact h i d' g O U
 .rw[mi q]at O;rw[mi ω]at U;have m:i-ds.length=0:=by
   rcases ze (i-ds.length)with z|z
   .exact z
   .rw[y_ ξ]at O;cases O
  have e:i-us.length=0:=ω
  rw[m]at O;rw[e]at U;simp at O U;subst O U;exact⟨hu,hu.cell⟩
def ot(S:SM)(q:Pt)(x:bp):bH:=⟨q,x.args.map λ s=>S.aV q.1 s,S.aV q.1 x.dst⟩
def MS(S:SM)(q:Pt)(x:bp)(l:List bL)(n:Nat):List bL:=if 0<=S.aV q.1 x.a then l++[⟨6,S.aV q.1 x.a,0,(n:Int)⟩]else l
section
variable{HB K T:D}{mk mid:Nat}{S:SM}{q:Pt}{x:bp}{M:AU}{l:List bL}{d:List bH}{X:AT}
def ayx(h:mg HB K mk mid S q x M l d X)(ha:x.args.length<=1048576)(hl:l.length<4194304)(hd:d.length<4194304):CN 91 [.ptr mk 0] K λ _ T=>fW HB K mk mid S q x M X (MS S q x l d.length) (d++[ot S q x]) T:=by
 refine ba atg rfl λ Q' hQ=>?_;obtain⟨t,va,vl,rfl,J⟩:=h.op;have aag:=h.lt;simp[J.ob.get,bY J.pt,J.t5];generalize pK:D.add _ _=K0;have g0:I [] K K0:=by rw[<-pK];exact aw.add _
 have l0:∃t,Lv K0 K.ab (.cells 5 t false)/\AV t 3 (.lit (.slice none 0 0)):=by rw[<-pK];exact⟨_,Lv.new,ζ⟩
 clear pK;have⟨t0,l0,l03⟩:=l0;refine CW (sR (h.ai g0) _) ?_;rintro _ K1 ⟨rfl,g1⟩;have m:=J.W (g0.trans g1);have l1:=l0.ai g1;have avA:¬mk=K.ab:=bC J.ob.lt;simp;try (refine dF (by simp[dA,dm,val,m.ob.get,bY m.pt,apD]) ?_)
 repeat (first|simp[l1.get,m.ob.get,m.t0,m.pC,m.args.aN fw,avA]|refine dF (by simp[dA,dm,val,m.ob.get,m.t0,bY m.pt,m.t5,avA,apD]) ?_)
 generalize kO:D.put _ _ _=K2;have g2:I [] K K2:=by rw[<-kO];exact(g0.trans g1).put (.inl aF)
 have l2:∃t,Lv K2 K.ab (.cells 5 t false)/\AV t 0 (ae q.1)/\AV t 1 (ae q.2.1)/\AV t 2 (ae q.2.2)/\AV t 3 (.lit (.slice none 0 0))/\AV t 4 (ae (S.aV q.1 x.dst)):=by rw[<-kO];exact⟨_,l1.put_eq,ζ⟩
 clear kO;have⟨t2,l2,e0,e1,e2,O,e4⟩:=l2;refine CA (λ j sl K3=>I [] K K3/\(∃t u P,Lv K3 K.ab (.cells 5 t false)/\AV t 0 (ae q.1)/\AV t 1 (ae q.2.1)/\AV t 2 (ae q.2.2)/\AV t 3 u/\AV t 4 (ae (S.aV q.1 x.dst))/\aX K3 1 u (aZ ((x.args.take j).map λ s=>S.aV q.1 s)) P/\∀y∈P,K.ab<y)/\j<=x.args.length/\AV sl 0 (.ptr mk 0)/\AV sl 2 (.ptr K.ab 0)/\AV sl 22 va/\AV sl 23 (ae (x.args.length:Nat))/\AV sl 24 (ae (j:Nat))) x.args.length ⟨g2,⟨t2,_,[],l2,e0,e1,e2,O,e4,by simp;exact .nil,ζ⟩,dQ _,ζ⟩ ?_
 clear e0 e1 e2 O e4 l2;rintro b1 k1-cq j sl K3 ⟨Y,⟨t3,u,P,l3,e0,e1,e2,O,e4,hu,Z⟩,hj,E,s2,fu,dx,iO⟩ ih;have xV:=J.W Y;by_cases hn:j<x.args.length
 .have⟨id,ah,ax,ex,n,tt,ro,c,hv,uc,aU,bU,hR⟩:=xV.args.gL hn;obtain⟨rfl,hz⟩:c=str x.args[j]/\_:=⟨by have:=hR.1;simpa using this,hR.2⟩;simp[E,s2,fu,dx,iO,hn,hv,uc.get,aU,bU,l3.get,O];refine CW (sR (h.ai Y) _) ?_;rintro _ K4 ⟨rfl,C⟩;have l4:=l3.ai C;repeat (first|simp[-cX,s2,l4.get,O]|refine dF (by simp[dA,dm,val,E,s2,l4.get,O,hu.fy]) ?_)
  have bA:(aZ ((x.args.take j).map λ s=>S.aV q.1 s)).length<=1048576:=by rw[bW,bW,eK];omega
  refine vL (c:=ae (S.aV q.1 x.args[j])) bK qF (hu.W C ζ) rfl ω ω ?_;intro v' K5 Y5 F R p3;have Q:=l4.W R λ B=>by have:=Z _ B;omega
  simp[s2,iO,Q.get,F.cell,F.co,bq (aT hn J.args.cP)];have at6:∀y∈P,K.ab<=y:=λ y G=>tL (Z y G);have N:=ke (Y.trans C) R at6;have Vl:=(Y.trans C).ab;have Ja:=l4.lt;have LY:∀y∈Y5,K.ab<y:=λ y G=>(p3 y G).elim (Z y) λ q=>ω
  have U:I [K.ab] K5 (K5.put K.ab (some (.cells 5 (t3.put 3 (some v')) false))):=aw.put (.inr ζ);refine ih ω ⟨ke N U ζ,⟨_,v',Y5,Q.put_eq,by simp[e0],by simp[e1],by simp[e2],ζ,by simp[e4],?_,LY⟩,hn,by simp[E],by simp[s2],by simp[fu,hv],by simp[dx],ζ⟩;rw[mI,bf hn,Ay];have:=F.W U λ y G=>by have:=LY y G;simp;omega
  simp only[aZ,lF,kB,FN]at this⊢;exact this
 .obtain rfl:j=x.args.length:=ω
  subst cq;rw[iF]at hu;simp[E,dx,iO,xV.ob.get,xV.t6];refine CW (sR (h.ai Y) _) ?_;rintro _ K4 ⟨rfl,C⟩;have PE:=Y.trans C;have h4:=h.ai PE;have Eo:∃tm dv,Lv K4 mk (.cells 14 tm false)/\tm.get 13=some dv/\∀K,aN E0 34 dv K=val (ae (d.length:Nat)) K:=by
   obtain⟨tm,lv,dv,us,Y1,Y2,rfl,g⟩:=h4;refine⟨tm,dv,g.ob,g.Bx,λ K=>?_⟩;have h5:=g.dr;generalize gR:zq d us=cI at h5;have hz:=Pb g.len;rw[gR]at hz;cases h5 with
   |nil=>
    have:d.length=0:=by simp only[wg]at hz;omega
    rw[Ba XC,this]
   |own q1 q2 q3 q4 q5 q6=>
    rw[de XC]
    congr 3;omega
  have⟨tm,dv,lm,ak9,Eo⟩:=Eo;simp[E,lm.get,ak9,Eo];generalize qK:D.add _ _=K5;have N:I [] K4 K5:=by rw[<-qK];exact aw.add _
  have B:aW K5 1 (One λ n=>ae n) (.sl K4.ab 0 1 1 1 true) [S.aV q.1 x.a]:=by refine aW.sl (L:=[S.aV q.1 x.a]) (ah:=0) (ax:=1) (ex:=true) (n:=1) (ro:=false) (t:=(Tr.e.put 0 (some (ae 0))).put 0 (some (ae (S.aV q.1 x.a)))) (by rw[<-qK];exact Lv.new) ζ (λ i A=>?_) ζ (by unfold maxLen;simp);match i,A with|0,_=>exact⟨[ae (S.aV q.1 x.a)],by simp[bc],rfl⟩
  clear qK;have CT:=PE.trans N;refine CW (JE (r:=⟨6,S.aV q.1 x.a,0,(d.length:Int)⟩) (h.ai CT) hl ζ B) ?_;intro v K6 hP;have e:([S.aV q.1 x.a].all λ n=>decide (0<=n))=true↔0<=S.aV q.1 x.a:=ζ
  simp only[e]at hP;have jf:(if 0<=S.aV q.1 x.a then l++[⟨6,S.aV q.1 x.a,0,(d.length:Int)⟩]else l)=MS S q x l d.length:=rfl;rw[jf]at hP;have⟨X6,h6,Ec,Qb⟩:=hP;have aId:=CT.ab;have nX:∀y,K.ab<=y->y∉X:=λ y G B=>by have:=aag y B;omega
  have l6:=((l3.ai C).ai N).W Ec (nX _ aF);have hu6:=((hu.W C ζ).W N ζ).W Ec λ y G=>nX y (tL (Z y G));have fF:=l3.lt;have sD:∀y∈P,y<K5.ab:=λ y G=>aT (hu.lt y G) (C.trans N).ab;have aIe:=(C.trans N).ab;clear Eo lm ak9;obtain⟨tm,lv,dv,us,Y1,Y2,rfl,g⟩:=h6;have r6:bc t3 0 5=some [ae q.1,ae q.2.1,ae q.2.2,u,ae (S.aV q.1 x.dst)]:=by simp[bc,e0,e1,e2,O,e4]
  simp[-cX,E,s2,g.ob.get,g.Bx,l6.get,bY r6,hu.cell];generalize dU:D.add _ _=Ka;have ga:I [] K6 Ka:=by rw[<-dU];exact aw.add _
  have la:∃tn,Lv Ka K6.ab (.cells 5 tn false)/\bc tn 0 5=some [ae q.1,ae q.2.1,ae q.2.2,u,ae (S.aV q.1 x.dst)]:=by rw[<-dU];exact⟨_,Lv.new,by simp[bc]⟩
  clear dU;have⟨tn,la,lr⟩:=la;have aHH:=Pb g.len;refine Fh (n:=1) XC aln ω (g.dr.W ga ζ) la.get aF lr (show fX [ae q.1,ae q.2.1,ae q.2.2,u,ae (S.aV q.1 x.dst)]=true by simp[hu.cell]) (λ z hz=>ω) (λ z hz=>ω) ?_;intro v' K7 Y7 F R p3;have Q:=(g.ob.ai ga).W R g.n2;repeat (first|simp[E,Q.get,F.cell,F.co]|refine dF (by simp[dA,dm,val,E,s2,Q.get,g.Bx,g.dr.fy]) ?_)
  have U:I [mk] K7 (K7.put mk (some (.cells 14 (tm.put 13 (some v')) false))):=aw.put (.inr ζ);have aIa:=g.ob.lt;have hga:=ga.ab;have ah1:mk∉Y7:=λ B=>(p3 _ B).elim g.n2 λ q=>ω
  have h17:∀y∈Y1,y∉Y7:=λ y G B=>(p3 y B).elim (λ q=>g.n3 y G q) λ q=>by have:=g.lr.lt y G;omega
  have tU:I (mk::Y2) K6 (K7.put mk (some (.cells 14 (tm.put 13 (some v')) false))):=((ga.mono ζ).trans (R.mono (by intro y G;simp[G]))).trans (U.mono ζ);have LX:∀y,y∈mk::(Y1++Y7)->y∈mk::(Y1++Y2)\/K6.ab<=y:=λ y G=>by
   simp only[cZ,b_]at G⊢;rcases G with rfl|G|G
   .exact .inl (.inl rfl)
   .exact .inl (.inr (.inl G))
   .rcases p3 y G with q|q
    .exact .inl (.inr (.inr q))
    .exact .inr ω
  have hS:∀y∈mk::Y2,y∈mk::(Y1++Y2):=λ y G=>by
   simp only[cZ,b_]at G⊢;rcases G with rfl|G
   .exact .inl rfl
   .exact .inr (.inr G)
  have nYA:∀y∈P,y∉mk::(Y1++Y2):=λ y G B=>by
   rcases Qb y B with q|q
   .exact nX y (tL (Z y G)) q
   .have:=sD y G;omega
  have LH:HB.ab<=K.ab:=by have⟨_,_,_,_,_,_,_,h0⟩:=h;exact h0.base.ab
  have MB:fN (λ y=>y<HB.ab\/y∈mk::(Y1++Y2)) K6 λ K=>aX K 1 u (aZ (x.args.map λ s=>S.aV q.1 s)) P:=hu6.sta λ y G B=>B.elim (λ q=>by have:=Z y G;omega) (nYA y G);have dj:fN (λ y=>y<HB.ab\/y∈mk::(Y1++Y2)) K6 (N7 (d++[ot S q x]) (us++[u])):=(g.args.both MB).imp λ K h=>ana g.len h.1 h.2.aZ;refine hQ (fW.ai CT ⟨mk::(Y1++Y7),⟨_,lv,v',us++[u],Y1,Y7,rfl,{ob:=Q.put_eq,t0:=by simp[g.t0],at_:=by rw[Dw ω];exact g.at_,ins:=by rw[Dw ω];exact g.ins,DG:=by simp[g.DG],Bx:=ζ,lr:=(((g.lr.W ga ζ).W R g.n3).W U λ y G=>by simp;rintro rfl;exact g.n1 G),dr:=?_,len:=by simp[g.len],args:=dj.step tU (λ y G=>.inr (hS y G)) (λ y G=>G.elim (λ q=>.inl (.inl q)) λ q=>(LX y q).imp .inr id),EX:=g.EX.step tU hS LX,n1:=g.n1,n2:=ah1,n3:=h17,lo:=λ y G=>(LX y G).elim (g.lo y) λ q=>aY g.base.ab q,base:=ke g.base tU (λ y G=>g.lo y (hS y G)),mp:=g.mp,nD:=⟨g.nD.1,by rw[iP];simp;omega⟩}⟩,?_,λ y G=>?_⟩)
  .rw[af9 g.len];have:=F.W U λ y G=>by simp;rintro rfl;exact ah1 G
   exact this
  .refine⟨aY Ec.ab tU.ab,λ i A hs=>?_⟩;rw[tU.get i (aT A Ec.ab) λ B=>(Qb i (hS i B)).elim hs λ q=>ω];exact Ec.get i A hs
  .rcases LX y G with q|q
   .exact Qb y q
   .exact .inr (aY Ec.ab q)
end
def rX(S:SM)(q:Pt)(x:bp)(a:List bL×List bH):List bL×List bH:=if x.op=1\/x.op=2 then(a.1++[⟨1,S.aV q.1 x.dst,S.Bt q,0⟩],a.2)
 else if x.op=4 then(a.1++[⟨1,S.aV q.1 x.dst,S.Fk (S.gP x.fn),0⟩],a.2)
 else if x.op=5 then(jT a.1 (S.aV q.1 x.dst) (S.aV q.1 x.a),a.2)
 else if x.op=6 then(x.args.foldl (λ l s=>jT l (S.aV q.1 x.dst) (S.aV q.1 s)) a.1,a.2)
 else if x.op=7 then(if 0<=S.aV q.1 x.a then a.1++[⟨5,S.aV q.1 x.dst,S.aV q.1 x.a,x.n⟩]else a.1,a.2)
 else if x.op=8 then(if 0<=S.aV q.1 x.a then a.1++[⟨3,S.aV q.1 x.dst,S.aV q.1 x.a,0⟩]else a.1,a.2)
 else if x.op=9 then(if 0<=S.aV q.1 x.a/\0<=S.aV q.1 x.b then a.1++[⟨4,S.aV q.1 x.b,S.aV q.1 x.a,0⟩]else a.1,a.2)
 else if x.op=10 then(Ga S q x a.1,a.2)
 else if x.op=11 then(MS S q x a.1 a.2.length,a.2++[ot S q x])
 else a
def Js(p:List aQ)(q:Pt):Option bp:=match p[q.1]? with|none=>none|some fn=>match fn.blocks[q.2.1]? with|none=>none|some bk=>bk.code[q.2.2]?
def V5{q:Pt}(h:At p q.1 q.2.1 q.2.2 x):Js p q=some x:=by have⟨fn,bk,O,U,F⟩:=h;unfold Js;rw[O];dsimp only;rw[U];exact F
def pV(S:SM)(a:List bL×List bH)(q:Pt):List bL×List bH:=match Js S.p q with|some x=>rX S q x a|none=>a
def bG(S:SM):List bL×List bH:=S.a_.foldl (pV S) ([],[])
def wI(S:SM)(q:Pt):Nat:=match Js S.p q with|some x=>1+x.args.length+(S.jX (S.gP x.fn)).length|none=>0
def aD5{q:Pt}:(rX S q x a).1.length<=a.1.length+(1+x.args.length+(S.jX (S.gP x.fn)).length)/\(rX S q x a).2.length<=a.2.length+1:=by
 have g:(Ga S q x a.1).length<=a.1.length+x.args.length+(S.jX (S.gP x.fn)).length:=by
  have O:(((S.fU (S.gP x.fn)).zip x.args).foldl (λ l p=>jT l p.1 (S.aV q.1 p.2)) a.1).length<=a.1.length+((S.fU (S.gP x.fn)).zip x.args).length:=Iu (f:=λ p:Int×aI=>(p.1,S.aV q.1 p.2)) (ls:=(S.fU (S.gP x.fn)).zip x.args) (l:=a.1);have U:(Ga S q x a.1).length<=(((S.fU (S.gP x.fn)).zip x.args).foldl (λ l p=>jT l p.1 (S.aV q.1 p.2)) a.1).length+(S.jX (S.gP x.fn)).length:=by unfold Ga;exact Iu (f:=λ v=>(S.aV q.1 x.dst,v)) (ls:=S.jX (S.gP x.fn)) (l:=((S.fU (S.gP x.fn)).zip x.args).foldl (λ l p=>jT l p.1 (S.aV q.1 p.2)) a.1)
  have F:((S.fU (S.gP x.fn)).zip x.args).length<=x.args.length:=by rw[HY];omega
  omega
 have e:(x.args.foldl (λ l s=>jT l (S.aV q.1 x.dst) (S.aV q.1 s)) a.1).length<=a.1.length+x.args.length:=Iu (f:=λ s=>(S.aV q.1 x.dst,S.aV q.1 s)) (ls:=x.args) (l:=a.1);have h:=af7 (l:=a.1) (a:=S.aV q.1 x.dst) (b:=S.aV q.1 x.a);unfold rX;split
 .simp;omega
 .split
  .simp;omega
  .split
   .constructor<;>dsimp only<;>omega
   .split
    .constructor<;>dsimp only<;>omega
    .split
     .split<;>simp<;>omega
     .split
      .split<;>simp<;>omega
      .split
       .split<;>simp<;>omega
       .split
        .constructor<;>dsimp only<;>omega
        .split
         .unfold MS;split<;>simp<;>omega
         .constructor<;>omega
theorem Xi{S:SM}:∀{qs:List Pt} {a:List bL×List bH},(qs.foldl (pV S) a).1.length<=a.1.length+(qs.map (wI S)).sum/\(qs.foldl (pV S) a).2.length<=a.2.length+qs.length
 |[],a=>ζ
 |q::qs,a=>by
  have O:=Xi (S:=S) (qs:=qs) (a:=pV S a q)
  have U:(pV S a q).1.length<=a.1.length+wI S q/\(pV S a q).2.length<=a.2.length+1:=by unfold pV wI;cases Js S.p q with|none=>simp|some x=>exact aD5
  simp only[DV,kB,sr,qi]
  omega
def Iw(op:Int):Option fD:=if op=1\/op=2 then some 83 else if op=4 then some 84 else if op=5 then some 85 else if op=6 then some 86 else if op=7 then some 87 else if op=8 then some 88 else if op=9 then some 89 else if op=10 then some 90 else if op=11 then some 91 else none
def apg{q:Pt}(h:Iw x.op=none):rX S q x a=a:=by
 unfold Iw at h;unfold rX;by_cases O:x.op=1\/x.op=2
 .rw[aq O]at h;cases h
 .rw[ao O]at h⊢;by_cases U:x.op=4
  .rw[aq U]at h;cases h
  .rw[ao U]at h⊢;by_cases F:x.op=5
   .rw[aq F]at h;cases h
   .rw[ao F]at h⊢;by_cases y:x.op=6
    .rw[aq y]at h;cases h
    .rw[ao y]at h⊢;by_cases s:x.op=7
     .rw[aq s]at h;cases h
     .rw[ao s]at h⊢;by_cases n:x.op=8
      .rw[aq n]at h;cases h
      .rw[ao n]at h⊢;by_cases m:x.op=9
       .rw[aq m]at h;cases h
       .rw[ao m]at h⊢;by_cases g:x.op=10
        .rw[aq g]at h;cases h
        .rw[ao g]at h⊢;by_cases e:x.op=11
         .rw[aq e]at h;cases h
         .rw[ao e]
def awO:bp:=⟨0,ByteArray.empty,ByteArray.empty,ByteArray.empty,0,ByteArray.empty,[],[]⟩
structure HF(S:SM):Prop where
 ok:nV S
 nD:uP S
 fns:S.p.length<=1048576
 ps:∀fn∈S.p,fn.params.length<=1048576
 sz:∀fn∈S.p,fL fn.blocks<=1048576
 a_:∀q∈S.a_,∃x,At S.p q.1 q.2.1 q.2.2 x
 args:∀f b i x,At S.p f b i x->x.args.length<=1048576/\x.eh.length<=1048576
 call:∀f b i x,At S.p f b i x->x.op=10->(S.fU (S.gP x.fn)).length=x.args.length
 Ts:(S.a_.map (wI S)).sum<4194304
section
variable{HB K T:D}{mk mid:Nat}{S:SM}{q:Pt}{x:bp}{M:AU}{l:List bL}{d:List bH}{X:AT}
def ayv(g:HF S)(m:At S.p q.1 q.2.1 q.2.2 x)(h:mg HB K mk mid S q x M l d X)(s:l.length+(1+x.args.length+(S.jX (S.gP x.fn)).length)<4194304)(hd:d.length<4194304){f:fD}(e:Iw x.op=some f):CN f [.ptr mk 0] K λ _ T=>fW HB K mk mid S q x M X (rX S q x (l,d)).1 (rX S q x (l,d)).2 T:=by
 unfold Iw at e;unfold rX;obtain⟨n,_⟩:=g.args _ _ _ _ m;split at e
 .rename_i O;cases e;rw[aq O];exact ayA (l:=l) (d:=d) h g.ok ω
 .rename_i O;rw[ao O];split at e
  .rename_i O;cases e;rw[aq O];exact ays (l:=l) (d:=d) h g.nD g.fns ω
  .rename_i O;rw[ao O];split at e
   .rename_i O;cases e;rw[aq O];exact ayu (l:=l) (d:=d) h ω
   .rename_i O;rw[ao O];split at e
    .rename_i O;cases e;rw[aq O];exact ayz (l:=l) (d:=d) h ω
    .rename_i O;rw[ao O];split at e
     .rename_i O;cases e;rw[aq O];exact ayw (l:=l) (d:=d) h ω
     .rename_i O;rw[ao O];split at e
      .rename_i O;cases e;rw[aq O];exact ayy (l:=l) (d:=d) h ω
      .rename_i O;rw[ao O];split at e
       .rename_i O;cases e;rw[aq O];exact ayB (l:=l) (d:=d) h ω
       .rename_i O;rw[ao O];split at e
        .rename_i O;cases e;rw[aq O];exact ayt (l:=l) (d:=d) h g.ps g.sz (g.call _ _ _ _ m O) ω
        .rename_i O;rw[ao O];split at e
         .rename_i O;cases e;rw[aq O];exact ayx (l:=l) (d:=d) h n ω hd
         .cases e
end
theorem ZF:∀{ds:List bH} {us:AU} (_:ds.length=us.length) {i:Nat} (A:i<ds.length) (hu:i<us.length),((zq ds us).drop (i*5)).take 5=sB ds[i] us[i]
 |d::ds,u::us,_,0,_,_=>rfl
 |d::ds,u::us,h,i+1,A,hu=>by
  have g:=ZF (ds:=ds) (us:=us) (by simpa using h) (i:=i) (by simpa using A) (by simpa using hu)
  have e:zq (d::ds) (u::us)=sB d u++zq ds us:=rfl
  rw[e,ve,List.drop_append,ae5 ζ,S4]
  have:i*5+5-(sB d u).length=i*5:=ζ
  rw[this];exact g
def DzR:bH×J->AU->Prop:=λ p M=>M=sB p.1 p.2
def Sq(K:D)(dv:J)(ds:List bH)(us:AU):Prop:=ds.length=us.length/\aW K 5 DzR dv (ds.zip us)/\N7 ds us K
def Ol:bL->AU->Prop:=λ r M=>M=kS r
def Hw(K:D):bH->AU->Prop:=λ d M=>∃u,M=sB d u/\aW K 1 (One λ n=>ae n) u d.args
section
variable{H:D}{id:Nat}{S:SM}
def ake(h:lu H id S)(J:HF S):CN 16 [.ptr id 0] H λ v K=>∃lv dv,v=.dh [lv,dv]/\aW K 4 Ol lv (bG S).1/\aW K 5 (Hw K) dv (bG S).2/\I [] H K/\(∃Y1,aX K 4 lv ((bG S).1.flatMap kS) Y1/\∀y∈Y1,H.ab<=y)/\((bG S).1.length<=4194304)/\∃us,fN (λ y=>y<H.ab) K λ K=>Sq K dv (bG S).2 us:=by
 refine ba arc rfl λ Q' hQ=>?_;simp[lk,eD,oC];generalize aP:D.put _ _ _=H1;have a0:∃t,Lv H1 H.ab (.cells 14 t false)/\AV t 0 (.ptr id 0)/\bc t 1 3=some (yI (0,0,0))/\bc t 4 8=some [u8 0,str ByteArray.empty,str ByteArray.empty,str ByteArray.empty,ae 0,str ByteArray.empty,.lit (.slice none 0 0),.lit (.slice none 0 0)]/\AV t 12 (.lit (.slice none 0 0))/\AV t 13 (.lit (.slice none 0 0)):=by rw[<-aP];refine⟨_,by repeat (first|exact Lv.new.add|refine Lv.eu ?_ (bC (sx _))),?_,?_,?_,?_,?_⟩;all_goals simp[bc]
 have a1:∃c l,Lv H1 (H.ab+1) (.map 51 c l)/\∀op:Int,cH (.int .u8 op) l=(Iw op).map λ f=>.fn (.func f) [.ptr H.ab 0] []:=by
  rw[<-aP];refine⟨_,_,⟨sx _,by rw[D.eR,aq rfl]⟩,λ op=>?_⟩;simp[cH,Iw,lk];have hc:∀k:Int,(k=op)=(op=k):=λ k=>propext ⟨Ou,Ou⟩;simp only[hc];by_cases O:op=1
  .simp[O]
  by_cases U:op=2
  .simp[U]
  by_cases h4:op=4
  .simp[h4]
  by_cases h5:op=5
  .simp[h5]
  by_cases h6:op=6
  .simp[h6]
  by_cases h7:op=7
  .simp[h7]
  by_cases h8:op=8
  .simp[h8]
  by_cases h9:op=9
  .simp[h9]
  by_cases xR:op=10
  .simp[xR]
  by_cases PU:op=11
  .simp[PU]
  simp[O,U,h4,h5,h6,h7,h8,h9,xR,PU]
 have g1:I [] H H1:=by rw[<-aP];repeat (first|exact(aw.add _).add _|refine I.put ?_ (.inl (H7 _)))
 have n1:H1.ab=H.ab+2:=by rw[<-aP];rfl
 clear aP;have⟨t0,a0,a00,a0p,a0i,amz,amA⟩:=a0;have⟨c1,l1,a1,UT⟩:=a1;refine CW (aER (h.W g1) J.nD) ?_;rintro pv K2 ⟨wM,AW,g2⟩;have lG:=g1.trans g2;have iW:=g2.ab;simp[wM.aN XD];have pd:∀j,j<=S.a_.length->((S.a_.take j).foldl (pV S) ([],[])).1.length<4194304/\((S.a_.take j).foldl (pV S) ([],[])).2.length<=j:=by
  intro j hj;have O:=Xi (S:=S) (qs:=S.a_.take j) (a:=([],[]));have U:((S.a_.take j).map (wI S)).sum<=(S.a_.map (wI S)).sum:=by have:=iQ (λ l=>(l.map (wI S)).sum) (wj j S.a_);simp only[lF,tJ]at this;omega
  have F:=J.Ts;rw[eK]at O;simp only[wg]at O;omega
 refine bu (α:=Nat) (aJ:=λ j sl K=>(∃q x M X,mg H K H.ab id S q x M ((S.a_.take j).foldl (pV S) ([],[])).1 ((S.a_.take j).foldl (pV S) ([],[])).2 X/\(∀y∈X,y=H.ab\/K2.ab<=y)/\H.ab∈X)/\I [H.ab] K2 K/\j<=S.a_.length/\AV sl 0 (.ptr id 0)/\AV sl 4 (.ptr H.ab 0)/\AV sl 5 (.map (H.ab+1))/\AV sl 36 pv/\AV sl 37 (ae (S.a_.length:Nat))/\AV sl 38 (ae (j:Nat))) (mu:=λ j=>S.a_.length-j) ?_ 0 _ _ ?ini;case ini=>have b0:=a0.ai g2;refine⟨⟨(0,0,0),awO,_,[H.ab],⟨t0,_,_,[],[],[],rfl,{ob:=b0,t0:=a00,at_:=a0p,ins:=a0i,DG:=amz,Bx:=amA,lr:=.nil,dr:=.nil,len:=rfl,args:=(fN.const (p:=True) trivial).imp λ _ _ i d u h=>by simp at h,EX:=(fN.const (p:=True) trivial).imp λ K _=>⟨_,_,rfl,.nil,.nil,⟨η,η⟩,⟨η,η⟩⟩,n1:=ζ,n2:=ζ,n3:=ζ,lo:=ζ,base:=lG,mp:=h,nD:=by simp}⟩,ζ,ζ⟩,aw,dQ _,ζ⟩
 rintro b kk-Q j sl K ⟨⟨q,x,M,X,hM,hX,Y⟩,gK,hj,s0,R,s5,rY,lN,rZ⟩ ih;have av1:aW K 3 XX pv S.a_:=wM.Uk AW gK ξ λ _ _ _ h=>h;by_cases z:j<S.a_.length
 .have⟨ip,op,cp,ep,np,tp,rp,ZC,cr,fG,ib,gq,jL⟩:=av1.at_ z;have qw:ZC=yI S.a_[j]:=jL;subst qw;have⟨s,cQ⟩:=J.a_ _ (cG z);have⟨I1,sJ⟩:=J.args _ _ _ _ cQ;have hq:=V5 cQ;have bm:=hM.lt;have Qx:=bm _ Y;have cR:¬H.ab=K.ab:=bC Qx;have aIh:¬ip=K.ab:=bC fG.lt;obtain⟨t,lv,dv,us,Y1,Y2,rfl,m⟩:=hM;have ah4:¬K.ab=H.ab:=λ h=>cR h.symm;simp[s0,R,rY,lN,rZ,z,cr,fG.get,ib,bY gq,m.ob.get,cR,ah4];generalize ed:D.put _ H.ab _=N;have gA:I [H.ab] K N:=by rw[<-ed];exact((I.new aw _ _).mono ζ).put (.inr ζ)
  have m1:∃t',Lv N H.ab (.cells 14 t' false)/\t'.get 0=some (.ptr id 0)/\bc t' 1 3=some (yI S.a_[j])/\t'.get 12=some lv/\t'.get 13=some dv:=by rw[<-ed];exact⟨_,((m.ob.ai (I.new aw _ _))).put_eq,by simp[m.t0],by simp[bc],by simp[m.DG],by simp[m.Bx]⟩
  have m7:∃t',Lv N K.ab (.cells 3 t' false)/\bc t' 0 3=some (yI S.a_[j]):=by rw[<-ed];exact⟨_,(Lv.new (H:=K)).put_eq.eu ah4,by simp[bc]⟩
  have ah3:N.ab=K.ab+1:=by rw[<-ed];rfl
  clear ed;have⟨t1,m1,Bg,m1p,axR,axS⟩:=m1;have⟨t7,m7,m7r⟩:=m7;have hB1:I [] H N:=ke m.base gA ζ;refine CW (akC (q:=S.a_[j]) (h.W hB1) cQ I1 sJ) ?_;rintro _ K3 ⟨⟨cI,rfl,U3,MB⟩,g3⟩;have m3:=m1.ai g3;have aHR:=U3;obtain⟨va,vl,rfl,kl,mO,QD⟩:=U3;simp[R,s5,m3.get,kl.cell,mO.cell];generalize pL:D.put _ H.ab _=K4;have gB:I [H.ab] K3 K4:=by rw[<-pL];exact aw.put (.inr ζ)
  have m4:∃t',Lv K4 H.ab (.cells 14 t' false)/\t'.get 0=some (.ptr id 0)/\bc t' 1 3=some (yI S.a_[j])/\bc t' 4 8=some [u8 s.op,str s.dst,str s.a,str s.b,ae s.n,str s.fn,va,vl]/\t'.get 4=some (u8 s.op)/\t'.get 12=some lv/\t'.get 13=some dv:=by have⟨z0,z1,z2⟩:=uE m1p;rw[<-pL];exact⟨_,m3.put_eq,by simp[Bg],by simp[bc,z0,z1,z2],by simp[bc],ζ,by simp[axR],by simp[axS]⟩
  clear pL;have⟨t4,m4,m40,m4p,m4i,m44,axT,axU⟩:=m4;have P:I [H.ab] K K4:=(gA.trans (g3.mono ζ)).trans gB;have Us:=gK.trans P;have hXn:∀y∈H.ab::(Y1++Y2),y<N.ab:=λ y G=>by have:=bm y G;omega
  have a13:=(((a1.ai g2).W gK ζ).W gA ζ).ai g3;have Gq:mg H K4 H.ab id S S.a_[j] s [u8 s.op,str s.dst,str s.a,str s.b,ae s.n,str s.fn,va,vl] ((S.a_.take j).foldl (pV S) ([],[])).1 ((S.a_.take j).foldl (pV S) ([],[])).2 (H.ab::(Y1++Y2)):=by
   have IX:∀y∈[H.ab],y∈H.ab::(Y1++Y2):=ζ
   refine⟨t4,lv,dv,us,Y1,Y2,rfl,{ob:=m4,t0:=m40,at_:=m4p,ins:=m4i,DG:=axT,Bx:=axU,lr:=m.lr.W P (λ y G=>by simp;rintro rfl;exact m.n1 G),dr:=m.dr.W P (λ y G=>by simp;rintro rfl;exact m.n2 G),len:=m.len,args:=m.args.step P (λ y G=>.inr (IX y G)) λ y G=>.inl G,EX:=fN.fresh (lo:=N.ab) (λ T g=>MB T ((gB.mono ξ).trans g)) λ y G=>.inl (hXn y G),n1:=m.n1,n2:=m.n2,n3:=m.n3,lo:=m.lo,base:=ke m.base P ζ,mp:=m.mp,nD:=m.nD}⟩
  have hfj:=pd j (tL z);have aHK:=(pd (j+1) z);have ET:(S.a_.take (j+1)).foldl (pV S) ([],[])=rX S S.a_[j] s ((S.a_.take j).foldl (pV S) ([],[])):=by rw[CR z];unfold pV;rw[hq]
  have aus:((S.a_.take j).foldl (pV S) ([],[])).1.length+(1+s.args.length+(S.jX (S.gP s.fn)).length)<4194304:=by
   have O:=(Xi (S:=S) (qs:=S.a_.take j) (a:=([],[]))).1;have U:((S.a_.take (j+1)).map (wI S)).sum=((S.a_.take j).map (wI S)).sum+(1+s.args.length+(S.jX (S.gP s.fn)).length):=by rw[mI,bf z,Ay,lF,tJ];simp[wI,hq]
   have F:((S.a_.take (j+1)).map (wI S)).sum<=(S.a_.map (wI S)).sum:=by have:=iQ (λ l=>(l.map (wI S)).sum) (wj (j+1) S.a_);simp only[lF,tJ]at this;omega
   have h4:=J.Ts;simp only[wg]at O;omega
  have aIn:S.a_.length<=1048576:=J.nD.2.2.2.2;have C:=UT s.op;cases UR:Iw s.op with
  |none=>
   rw[UR]at C
   have cN:lk (.int .u8 s.op) l1=none:=by
    rcases Fe (key:=.int .u8 s.op) (l:=l1)with⟨b,v,O,U⟩|⟨O,U⟩
    .rw[O]at C;cases C
    .exact U
   simp[rZ,a13.get,cN,bq (aT z wM.cP)]
   refine ih (j+1) _ _ ω ⟨⟨S.a_[j],s,_,_,by rw[ET,apg UR];exact Gq,hX,Y⟩,Us,z,by simp[s0],by simp[R],by simp[s5],by simp[rY,cr],by simp[lN],ζ⟩
  |some f=>
   rw[UR]at C
   have cN:∃b,lk (.int .u8 s.op) l1=some (b,.fn (.func f) [.ptr H.ab 0] []):=by
    rcases Fe (key:=.int .u8 s.op) (l:=l1)with⟨b,v,O,U⟩|⟨O,U⟩
    .rw[O]at C;simp at C;subst C;exact⟨b,U⟩
    .rw[O]at C;cases C
   have⟨bb,cN⟩:=cN
   simp[a13.get,cN]
   refine CW (ayv J cQ Gq aus ω UR) ?_
   rintro v K6 ⟨X6,h6,Ec,Qb⟩
   simp[rZ,bq (aT z wM.cP)]
   have Vl:=Us.ab
   refine ih (j+1) _ _ ω ⟨⟨S.a_[j],s,_,X6,by rw[ET];exact h6,λ y G=>?_,?_⟩,⟨aY Us.ab Ec.ab,λ i A hs=>?_⟩,z,by simp[s0],by simp[R],by simp[s5],by simp[rY,cr],by simp[lN],ζ⟩
   .rcases Qb y G with E|E
    .exact hX y E
    .exact .inr ω
   .obtain⟨_,_,_,_,Z1,Z2,rfl,_⟩:=h6;simp
   .rw[Ec.get i ω λ B=>?_]
    .exact Us.get i A hs
    .rcases hX i B with E|E
     .simp at hs;exact hs E
     .omega
 .obtain rfl:j=S.a_.length:=ω
  subst Q;obtain⟨t,lv,dv,us,Y1,Y2,rfl,m⟩:=hM;simp[R,lN,rZ,m.ob.get,m.DG,m.Bx];rw[iF]at m;have hgF:I [] H K:=m.base;refine hQ ⟨lv,dv,rfl,m.lr.yN ω (IF (c:=kS) (es:=4) λ _=>rfl) λ i A=>Lo (c:=kS) (es:=4) (λ _=>rfl) A,m.dr.yN ω (Pb m.len) λ i A=>?_,hgF,⟨Y1,m.lr,λ y G=>m.lo y (by simp[G])⟩,m.nD.1,us,?_⟩
  .have Z:i<us.length:=by rw[<-m.len];exact A
   have hA:=m.args.now i _ _ (bf A) (bf Z);exact⟨us[i],ZF m.len A Z,hA.1⟩
  .have O:=m.args.step (K2:=K) (X':=λ y=>y<H.ab) (I.refl [] K) ζ λ y G=>.inl (.inl G);have U:=m.dr.sta (X:=λ y=>y<H.ab) λ y G=>Te.2 (m.lo y (by simp[G]));refine(O.both U).imp λ dP ⟨E,q2⟩=>⟨m.len,q2.yN ω ?_ λ i A=>?_,E⟩
   .have ahW:(bG S).2.length=us.length:=m.len;have hmU:min (bG S).2.length us.length=us.length:=by rw[ahW,Nat.min_self]
    have hd:=Pb m.len;rw[HY,hmU];first|exact hd|(rw[hd];exact iQ (·*5) m.len)
   .have ahW:(bG S).2.length=us.length:=m.len;rw[HY]at A;have Mf:i<(bG S).2.length:=ω
    have pO:i<us.length:=ω
    have e:=ZF m.len (i:=i) Mf pO;show _=sB _ _;rw[e,Oy];rfl
end
variable{o:Nat}
structure nk where
 a:Nat
 nd:Nat
 rm:Nat
 wm:Nat
 fs:Nat
 n:Nat->Nat
 s:Nat->Nat
 sm:Nat->Nat
 t:Nat->Nat
 tm:Nat->Nat
 c:Nat->Nat×Nat
structure Fix where
 HB:D
 mid:Nat
 S:SM
 ds:List bH
 us:List J
 N:Nat
 ay:Nat
 P:D->Prop
def seg(lo ay:Nat):AT:=(List.range ay).filter λ y=>decide (lo<=y)
def Np:n'∈seg i k'↔n'<k'/\i<=n':=by simp[seg]
abbrev Fix.sg(X:Fix):AT:=seg X.HB.ab X.ay
def uN(w:Bool):Option J:=if w=true then some (bl true)else none
def tE(K:D)(rm N:Nat)(c:Nat->Nat×Nat)(aO:Nat->List bL):Prop:=∃e:Nat->Option J,lp K rm 3 N e/\∀i,i<N->(e i=none/\aO i=[])\/∃v aL,e i=some v/\aX K 4 v ((aO i).flatMap kS) aL/\∀y∈aL,c y=(8,i)
def tE.W{rm N:Nat}{c:Nat->Nat×Nat}{aO:Nat->List bL}{cL:AT}(h:tE K rm N c aO)(g:I cL K T)(O:rm∉cL)(U:∀y∈cL,(c y).1≠8):tE T rm N c aO:=by
 have⟨m,a,b⟩:=h;refine⟨m,a.W g O,λ i A=>?_⟩;rcases b i A with h|⟨v,aL,s,n,e⟩
 .exact .inl h
 .exact .inr ⟨v,aL,s,n.W g (λ y G B=>U y B (by rw[e y G])),e⟩
def DC(n id ax:Nat)(ex:Bool):J:=if n=0 then .lit (.slice none 0 0)else .sl id 0 1 n ax ex
def NR(h:0<i)(id ax:Nat)(ex:Bool):DC i id ax ex=.sl id 0 1 i ax ex:=by unfold DC;rw[ao ω]
def Wi{E:aK}{H:D}{n id ax:Nat}{ex:Bool}(e:E.tt.get i=some ⟨.slice k',n',mid,us⟩):aN E i (DC n id ax ex) H=val (ae n) H:=by
 unfold DC;split
 .rename_i h;subst h;rw[Ba e]
 .exact de e
structure fm(X:Fix)(K:D)(L:nk)(au:Nat->Nat)(V:SV)(t:Tr J)(tn tf:Tr J)(mn mf cn cf:Nat)(en ef:Bool)(dv:J):Prop where
 ob:Lv K L.a (.cells 7 t false)
 t0:AV t 0 (.ptr X.mid 0)
 t1:AV t 1 (DC X.N L.nd cn en)
 t2:AV t 2 (.map L.rm)
 t3:AV t 3 dv
 t4:AV t 4 (.map L.wm)
 t5:AV t 5 (DC X.N L.fs cf ef)
 t6:AV t 6 (ae V.iC)
 nd:0<X.N->Lv K L.nd (.cells mn tn false)
 Dn:X.N<=mn
 wS:∀i,i<X.N->tn.get i=some (.ptr (L.n i) 0)
 n:∀i,i<X.N->∃tt,Lv K (L.n i) (.cells 2 tt false)/\tt.get 0=some (.ptr (L.s i) 0)/\tt.get 1=some (.ptr (L.t i) 0)
 s:∀i,i<X.N->e_ K (L.s i) (L.sm i) (V.set i)
 t:∀i,i<X.N->e_ K (L.t i) (L.tm i) (V.to i)
 fs:0<X.N->Lv K L.fs (.cells mf tf false)
 zw:X.N<=mf
 sC:∀i,i<X.N->tf.get i=some (ae (au i:Nat))
 fst:∀i,i<X.N->au i<X.N
 aO:tE K L.rm X.N L.c V.aO
 wait:lp K L.wm 3 X.N λ i=>uN (V.wait i)
 ca:L.c L.a=(0,0)
 D5:0<X.N->L.c L.nd=(1,0)
 mq:L.c L.rm=(2,0)
 ny:L.c L.wm=(3,0)
 Gb:0<X.N->L.c L.fs=(4,0)
 cn:∀i,i<X.N->L.c (L.n i)=(5,i)
 M:∀i,i<X.N->L.c (L.s i)=(6,i)/\L.c (L.sm i)=(6,i)
 ct:∀i,i<X.N->L.c (L.t i)=(7,i)/\L.c (L.tm i)=(7,i)
 lo:∀y,(L.c y).1<8->X.HB.ab<=y/\y<X.ay
 low:∀y,y<X.HB.ab->8<(L.c y).1
 ay:X.ay<=K.ab
 base:I [] X.HB K
 mp:lu X.HB X.mid X.S
 g_:xn X.HB
 N:X.N<=2097152
 xM:∃bZ:Nat->Prop,(∀y,bZ y->y<X.ay/\8<(L.c y).1)/\∀dP,X.ay<=dP.ab->(∀j,bZ j->dP.get j=K.get j)->Sq dP dv X.ds X.us/\X.P dP
def fM(X:Fix)(K:D)(L:nk)(au:Nat->Nat)(V:SV):Prop:=∃t tn tf mn mf cn cf en ef dv,fm X K L au V t tn tf mn mf cn cf en ef dv
section
variable{X:Fix}{K T:D}{L:nk}{au:Nat->Nat}{V:SV}{t tn tf:CX}{mn mf cn cf:Nat}{en ef:Bool}{dv:J}
def fm.DF(h:fm X K L au V t tn tf mn mf cn cf en ef dv)(q:0<X.N):t.get 1=some (.sl L.nd 0 1 X.N cn en):=by rw[h.t1,NR q]
def fm.vV(h:fm X K L au V t tn tf mn mf cn cf en ef dv)(q:0<X.N):t.get 5=some (.sl L.fs 0 1 X.N cf ef):=by rw[h.t5,NR q]
def gZ{c:Nat->Nat×Nat}{k:Nat×Nat}(h:c i=k)(e:∀z∈X1,c z≠k):i∉X1:=λ B=>e i B h
theorem fm.W(h:fm X K L au V t tn tf mn mf cn cf en ef dv){cL:AT}(g:I cL K T)(m:∀y∈cL,X.ay<=y/\(L.c y).1≠8):fm X T L au V t tn tf mn mf cn cf en ef dv:=by
 have e:∀{y:Nat},(L.c y).1<8->y∉cL:=λ G B=>by have:=(h.lo _ G).2;have:=(m _ B).1;omega
 have D:X.HB.ab<=X.ay:=by have:=h.lo L.a (by rw[h.ca];decide);omega
 exact{h with
  ob:=h.ob.W g (e (by rw[h.ca];decide)),nd:=λ q=>(h.nd q).W g (e (by rw[h.D5 q];decide))
  n:=λ i A=>by have⟨tt,a,b⟩:=h.n i A;exact⟨tt,a.W g (e (by rw[h.cn i A];exact zf rfl)),b⟩
  s:=λ i A=>(h.s i A).W g (e (by rw[(h.M i A).1];exact zf rfl)) (e (by rw[(h.M i A).2];exact zf rfl))
  t:=λ i A=>(h.t i A).W g (e (by rw[(h.ct i A).1];exact zf rfl)) (e (by rw[(h.ct i A).2];exact zf rfl))
  fs:=λ q=>(h.fs q).W g (e (by rw[h.Gb q];decide)),aO:=h.aO.W g (e (by rw[h.mq];decide)) (λ y G=>(m y G).2)
  wait:=h.wait.W g (e (by rw[h.ny];decide)),ay:=aY h.ay g.ab,base:=ke h.base g λ y G=>by have:=(m y G).1;omega
  xM:=by have⟨bZ,d1,d2⟩:=h.xM;refine⟨bZ,d1,λ dP z C=>d2 dP z λ j hd=>?_⟩;rw[C j hd,g.get j (aT (d1 j hd).1 h.ay) λ B=>?_];have:=(d1 j hd).1;have:=(m j B).1;omega}
def fm.own(h:fm X K L au V t tn tf mn mf cn cf en ef dv){cL:AT}(g:I cL K T)(e:∀y∈cL,(L.c y).1<=8/\X.HB.ab<=y){t':CX}{V':SV}(ob:Lv T L.a (.cells 7 t' false))(t0:t'.get 0=t.get 0)(t1:t'.get 1=t.get 1)(t2:t'.get 2=t.get 2)(t3:t'.get 3=t.get 3)(t4:t'.get 4=t.get 4)(t5:t'.get 5=t.get 5)(t6:t'.get 6=some (ae V'.iC))(O:∀y∈cL,(L.c y).1≠1)(D:∀y∈cL,(L.c y).1≠4)(C:∀y∈cL,(L.c y).1≠5)(s:∀i,i<X.N->e_ T (L.s i) (L.sm i) (V'.set i))(tt:∀i,i<X.N->e_ T (L.t i) (L.tm i) (V'.to i))(aO:tE T L.rm X.N L.c V'.aO)(wait:lp T L.wm 3 X.N λ i=>uN (V'.wait i)):fm X T L au V' t' tn tf mn mf cn cf en ef dv:=
 {h with
  ob:=ob,t0:=t0.trans h.t0,t1:=t1.trans h.t1,t2:=t2.trans h.t2,t3:=t3.trans h.t3,t4:=t4.trans h.t4,t5:=t5.trans h.t5,t6:=t6
  nd:=λ q=>(h.nd q).W g λ B=>O _ B (by rw[h.D5 q])
  n:=λ i A=>by have⟨tt,a,b⟩:=h.n i A;exact⟨tt,a.W g λ B=>C _ B (by rw[h.cn i A]),b⟩
  s:=s,t:=tt,fs:=λ q=>(h.fs q).W g λ B=>D _ B (by rw[h.Gb q]),aO:=aO,wait:=wait,ay:=aY h.ay g.ab,base:=ke h.base g λ y G=>(e y G).2
  xM:=by have⟨bZ,d1,d2⟩:=h.xM;refine⟨bZ,d1,λ dP m z=>d2 dP m λ j hd=>?_⟩;rw[z j hd,g.get j (aT (d1 j hd).1 h.ay) λ B=>?_];have:=(d1 j hd).2;have:=(e j B).1;omega}
def aGv:(λ i=>uN (aM w j true i))=aM (λ i=>uN (w i)) j (some (bl true)):=by funext i;unfold aM;split<;>rfl
def vZ(X:Fix)(K:D)(L:nk)(au:Nat->Nat)(V:SV)(T:D):Prop:=fM X T L au V/\I X.sg K T
def Xy(h:fM X K L V.first V)(A:i<X.N)(ho:e_ K o k' Wo)(P:∀y,y=o\/y=k'->L.c y≠(6,V.first i)/\L.c y≠(0,0)):CN 74 [.ptr L.a 0,ae i,.ptr o 0] K λ _ T=>vZ X K L V.first (V.take i Wo) T:=by
 refine ba asY rfl λ Q' hQ=>?_;have⟨t,tn,tf,mn,mf,cn,cf,en,ef,dv,g⟩:=h;have Z:0<X.N:=FV A;have E:=g.fst i A;have vw:=g.sC i A;have b1:i<mf:=aT A g.zw;generalize GG:V.first i=j at E vw P;have b2:j<mn:=aT E g.Dn;have⟨tt,n1,n2,n3⟩:=g.n j E;have e1:¬L.nd=L.a:=λ h=>by have:=g.D5 Z;rw[h,g.ca]at this;cases this
 have e2:¬L.n j=L.a:=λ h=>by have:=g.cn j E;rw[h,g.ca]at this;cases this
 simp[g.ob.get,(g.vV Z),(g.DF Z),g.t6,A,(g.fs Z).get,b1,vw,E,(g.nd Z).get,b2,g.wS j E,n1.get,n2,e1,e2];generalize eH:IntKind.wrap .i64 (V.iC+1)=D;have J:I [L.a] K (K.put L.a (some (.cells 7 (t.put 6 (some (ae D))) false))):=aw.put (.inr ζ);have Y:∀{y:Nat} {k:Nat×Nat},L.c y=k->k≠(0,0)->y∉[L.a]:=λ h Q B=>by simp at B;subst B;exact Q (h.symm.trans g.ca)
 have aaA:=(g.lo L.a (by rw[g.ca];decide)).1;have F:fm X (K.put L.a (some (.cells 7 (t.put 6 (some (ae D))) false))) L V.first {V with iC:=D} (t.put 6 (some (ae D))) tn tf mn mf cn cf en ef dv:=by
  refine g.own J (λ y G=>by simp at G;subst G;rw[g.ca];exact⟨η,aaA⟩) g.ob.put_eq ζ ζ ζ ζ ζ ζ ζ ?_ ?_ ?_ (λ i A=>?_) (λ i A=>?_) ?_ ?_
  .intro y G;simp at G;subst G;rw[g.ca];decide
  .intro y G;simp at G;subst G;rw[g.ca];decide
  .intro y G;simp at G;subst G;rw[g.ca];decide
  .exact(g.s i A).W J (Y (g.M i A).1 ζ) (Y (g.M i A).2 ζ)
  .exact(g.t i A).W J (Y (g.ct i A).1 ζ) (Y (g.ct i A).2 ζ)
  .exact g.aO.W J (Y g.mq η) (λ y G=>by simp at G;subst G;rw[g.ca];decide)
  .exact g.wait.W J (Y g.ny η)
 have sL:=ho.W J (λ B=>(P o (.inl rfl)).2 (by simp at B;rw[B];exact g.ca)) (λ B=>(P k' (.inr rfl)).2 (by simp at B;rw[B];exact g.ca));generalize K.put L.a (some (.cells 7 (t.put 6 (some (ae D))) false))=K1 at J F sL⊢;have⟨kE,mR⟩:=g.M j E;refine CW (aeh (F.s j E) sL (λ h=>(P o (.inl rfl)).1 (by rw[h];exact kE)) (λ h=>(P o (.inl rfl)).1 (by rw[h];exact mR)) (λ h=>(P k' (.inr rfl)).1 (by rw[h];exact kE)) (λ h=>(P k' (.inr rfl)).1 (by rw[h];exact mR))) ?_;rintro _ K2 ⟨rfl,hU,R⟩;have m:∀y∈[L.s j,L.sm j],L.c y=(6,j):=λ y G=>by
  simp at G;rcases G with rfl|rfl
  .exact kE
  .exact mR
 have C:fm X K2 L V.first {V with set:=aM V.set j (fT (V.set j) Wo),iC:=D} (t.put 6 (some (ae D))) tn tf mn mf cn cf en ef dv:=by
  refine F.own R (λ y G=>?_) (F.ob.W R (gZ g.ca λ y G=>by rw[m y G];simp)) rfl rfl rfl rfl rfl rfl ζ ?_ ?_ ?_ (λ i A=>?_) (λ i A=>?_) ?_ ?_
  .have:=g.lo y (by rw[m y G];exact zf rfl);rw[m y G];exact⟨ζ,this.1⟩
  .intro y G;rw[m y G];simp
  .intro y G;rw[m y G];simp
  .intro y G;rw[m y G];simp
  .show e_ K2 _ _ (aM V.set j (fT (V.set j) Wo) i);by_cases e:i=j
   .subst e;rw[fE];exact hU
   .rw[gG e];exact(F.s i A).W R (gZ (g.M i A).1 λ y G=>by rw[m y G];simp;exactλ h=>e h.symm) (gZ (g.M i A).2 λ y G=>by rw[m y G];simp;exactλ h=>e h.symm)
  .exact(F.t i A).W R (gZ (g.ct i A).1 λ y G=>by rw[m y G];simp) (gZ (g.ct i A).2 λ y G=>by rw[m y G];simp)
  .exact F.aO.W R (gZ g.mq λ y G=>by rw[m y G];simp) (λ y G=>by rw[m y G];simp)
  .exact F.wait.W R (gZ g.ny λ y G=>by rw[m y G];simp)
 have RQ:∀y,(L.c y).1<8->y∈X.sg:=λ y G=>by have:=g.lo y G;exact Np.2 ⟨this.2,this.1⟩
 have lG:I X.sg K K2:=(J.mono (λ y G=>by simp at G;subst G;exact RQ _ (by rw[g.ca];decide))).trans (R.mono λ y G=>RQ _ (by rw[m y G];exact zf rfl));by_cases hg:zA (V.set j) Wo
 .have⟨cw,lw,w1,w2,w3,w4,w5⟩:=C.wait.ob;have Qc:=g.N;have B:=lp.eD (k:=j) (v:=bl true) w1 w2 w3 w4 w5 E ω;have gw:I [L.wm] K2 (K2.put L.wm (some (.map 3 (oC cw (.int .i64 (j:Int)) lw) (eD cw (.int .i64 (j:Int)) (bl true) lw)))):=aw.put (.inr ζ);have z:∀y∈[L.wm],L.c y=(3,0):=λ y G=>by simp at G;subst G;exact g.ny
  simp[hg,C.ob.get,C.t4,w1.get];have e:V.take i Wo={V with set:=aM V.set j (fT (V.set j) Wo),wait:=aM V.wait j true,iC:=D}:=by unfold SV.take;rw[GG,aq hg,eH]
  have aHJ:(V.take i Wo).first=V.first:=rfl;have pd:∀Kf,fm X Kf L V.first (V.take i Wo) (t.put 6 (some (ae D))) tn tf mn mf cn cf en ef dv->I X.sg K Kf->vZ X K L V.first (V.take i Wo) Kf:=λ Kf O U=>⟨⟨_,_,_,_,_,_,_,_,_,_,O⟩,U⟩;refine hQ (pd _ ?_ (lG.trans (gw.mono λ y G=>RQ _ (by rw[z y G];decide))));rw[e];refine C.own gw (λ y G=>?_) (C.ob.W gw (gZ g.ca λ y G=>by rw[z y G];decide)) rfl rfl rfl rfl rfl rfl C.t6 ?_ ?_ ?_ (λ i A=>?_) (λ i A=>?_) ?_ ?_
  .have:=g.lo y (by rw[z y G];decide);rw[z y G];exact⟨η,this.1⟩
  .intro y G;rw[z y G];decide
  .intro y G;rw[z y G];decide
  .intro y G;rw[z y G];decide
  .exact(C.s i A).W gw (gZ (g.M i A).1 λ y G=>by rw[z y G];simp) (gZ (g.M i A).2 λ y G=>by rw[z y G];simp)
  .exact(C.t i A).W gw (gZ (g.ct i A).1 λ y G=>by rw[z y G];simp) (gZ (g.ct i A).2 λ y G=>by rw[z y G];simp)
  .exact C.aO.W gw (gZ g.mq λ y G=>by rw[z y G];decide) (λ y G=>by rw[z y G];decide)
  .show lp _ _ _ _ (λ i=>uN (aM V.wait j true i));rw[aGv];exact B
 .simp[hg];have e:V.take i Wo={V with set:=aM V.set j (fT (V.set j) Wo),iC:=D}:=by unfold SV.take;rw[GG,ao hg,eH]
  rw[e]at hQ;exact hQ ⟨⟨_,_,_,_,_,_,_,_,_,_,C⟩,lG⟩
end
section
variable{X:Fix}{K T:D}{L:nk}{au:Nat->Nat}{V:SV}{t tn tf:CX}{mn mf cn cf:Nat}{en ef:Bool}{dv:J}
def fm.RQ(e:fm X K L au V t tn tf mn mf cn cf en ef dv):∀y,(L.c y).1<8->y∈X.sg:=λ y G=>by have:=e.lo y G;exact Np.2 ⟨this.2,this.1⟩
def fm.alb(g:fm X K L au V t tn tf mn mf cn cf en ef dv)(C:j<X.N)(n:I [L.t j,L.tm j] K T)(D:e_ T (L.t j) (L.tm j) Wo):fm X T L au {V with to:=aM V.to j Wo} t tn tf mn mf cn cf en ef dv/\I X.sg K T:=by
 have⟨B,z⟩:=g.ct j C;have m:∀y∈[L.t j,L.tm j],L.c y=(7,j):=λ y G=>by
  simp at G;rcases G with rfl|rfl
  .exact B
  .exact z
 refine⟨?_,n.mono λ y G=>g.RQ _ (by rw[m y G];exact zf rfl)⟩;refine g.own n (λ y G=>?_) (g.ob.W n (gZ g.ca λ y G=>by rw[m y G];simp)) rfl rfl rfl rfl rfl rfl g.t6 ?_ ?_ ?_ (λ i A=>?_) (λ i A=>?_) ?_ ?_
 .have:=g.lo y (by rw[m y G];exact zf rfl);rw[m y G];exact⟨ζ,this.1⟩
 .intro y G;rw[m y G];simp
 .intro y G;rw[m y G];simp
 .intro y G;rw[m y G];simp
 .exact(g.s i A).W n (gZ (g.M i A).1 λ y G=>by rw[m y G];simp) (gZ (g.M i A).2 λ y G=>by rw[m y G];simp)
 .show e_ T _ _ (aM V.to j Wo i);by_cases e:i=j
  .subst e;rw[fE];exact D
  .rw[gG e];exact(g.t i A).W n (gZ (g.ct i A).1 λ y G=>by rw[m y G];simp;exactλ h=>e h.symm) (gZ (g.ct i A).2 λ y G=>by rw[m y G];simp;exactλ h=>e h.symm)
 .exact g.aO.W n (gZ g.mq λ y G=>by rw[m y G];simp) (λ y G=>by rw[m y G];simp)
 .exact g.wait.W n (gZ g.ny λ y G=>by rw[m y G];simp)
def vZ.W(h:vZ X T L au V dP)(g:I [] K T):vZ X K L au V dP:=⟨h.1,(g.mono ζ).trans h.2⟩
def fM.ai(h:fM X K L au V)(g:I [] K T):fM X T L au V:=by have⟨t,tn,tf,mn,mf,cn,cf,en,ef,dv,e⟩:=h;exact⟨t,tn,tf,mn,mf,cn,cf,en,ef,dv,e.W g ζ⟩
def vZ.self(h:fM X K L au V):vZ X K L au V K:=⟨h,aw⟩
def Pf(h:fM X K L V.first V)(bD:∀x,V.first (V.first x)=V.first x){a b:Int}(ha:a<X.N)(hb:b<X.N):CN 75 [.ptr L.a 0,ae a,ae b] K λ _ T=>vZ X K L V.first (V.bV a b) T:=by
 refine ba asZ rfl λ Q' C=>?_;by_cases O:a<0
 .simp[O];exact C (by unfold SV.bV;rw[aq (.inl O)];exact .self h)
 by_cases U:b<0
 .simp[O,U];exact C (by unfold SV.bV;rw[aq (.inr U)];exact .self h)
 obtain⟨a,rfl⟩:∃n:Nat,a=(n:Int):=⟨a.toNat,ω⟩;obtain⟨b,rfl⟩:∃n:Nat,b=(n:Int):=⟨b.toNat,ω⟩;have I:a<X.N:=ω
 have J:b<X.N:=ω
 have hE:V.bV (a:Int) (b:Int)=if V.first a≠V.first b/\cC (V.to (V.first b)) (V.first a)=false then(V.tH (V.first b) (V.first a)).take (V.first a) (V.set (V.first b))else V:=by unfold SV.bV;rw[ao ω];rfl
 rw[hE]at C;have hK:=h;have⟨t,tn,tf,mn,mf,cn,cf,en,ef,dv,g⟩:=h;have D:0<X.N:=FV I;have F:=g.sC a I;have E:=g.sC b J;have c1:a<mf:=aT I g.zw;have c2:b<mf:=aT J g.zw;have Z:=g.fst a I;have z:=g.fst b J;have Q:=bD a;generalize V.first a=A at F Z Q C;generalize V.first b=m at E z C;have c3:m<mn:=aT z g.Dn;have⟨tt,n1,n2,n3⟩:=g.n m z;by_cases P:A=m
 .simp[O,U,g.ob.get,(g.vV D),I,J,(g.fs D).get,c1,c2,F,E,P];exact C (by rw[ao (λ h=>h.1 P)];exact .self hK)
 .have hNN:=g.N;have W:¬(A:Int)=(m:Int):=ω
  simp[W,O,U,g.ob.get,(g.vV D),(g.DF D),I,J,(g.fs D).get,c1,c2,F,E,z,(g.nd D).get,c3,g.wS m z,n1.get,n3];refine CW (aeS (g.t m z) (i:=A) ω) ?_;rintro _ K1 ⟨rfl,hA,gA⟩;have⟨B,Y⟩:=g.alb z gA hA;have⟨tt',zZ,Re,n3'⟩:=B.n m z;cases R:cC (V.to m) A with
  |true=>
   simp
   refine C ⟨?_,Y⟩
   rw[ao (λ h=>by have:=h.2;rw[R]at this;cases this)]
   have e:aM V.to m (fT (V.to m) (nN A))=V.to:=by rw[ajG (g.t m z).wd ω R,alC]
   rw[e]at B
   exact⟨_,_,_,_,_,_,_,_,_,_,B⟩
  |false=>
   simp[B.ob.get,(B.DF D),z,(B.nd D).get,c3,B.wS m z,zZ.get,Re]
   have eI:fM X K1 L (V.tH m A).first (V.tH m A):=⟨_,_,_,_,_,_,_,_,_,_,B⟩
   have⟨q1,q2⟩:=g.M m z
   refine CW (Xy eI (i:=A) Z (B.s m z) (λ y G=>?_)) ?_
   .show L.c y≠(6,V.first A)/\_
    rw[Q];rcases G with rfl|rfl
    .rw[q1];simp;exactλ h=>P h.symm
    .rw[q2];simp;exactλ h=>P h.symm
   .rintro v K2 ⟨iv,g2⟩
    simp;refine C ⟨?_,Y.trans g2⟩;rw[aq ⟨P,R⟩];exact iv
end
def bJ(S:SM):SI:=⟨S.vars.length,S.of.length,S.p.length,S.Bw,λ f=>S.fU f,λ f=>S.jX f⟩
structure An(X:Fix):Prop where
 qX:HF X.S
 N:X.N=X.S.vars.length+X.S.of.length
section
variable{X:Fix}{K T:D}{L:nk}{au:Nat->Nat}{V:SV}{t tn tf:CX}{mn mf cn cf:Nat}{en ef:Bool}{dv:J}
def fm.now(e:fm X K L au V t tn tf mn mf cn cf en ef dv):Sq K dv X.ds X.us:=by have⟨bZ,d1,d2⟩:=e.xM;exact(d2 K e.ay λ _ _=>rfl).1
def fm.amY(e:fm X K L au V t tn tf mn mf cn cf en ef dv):X.P K:=by have⟨bZ,d1,d2⟩:=e.xM;exact(d2 K e.ay λ _ _=>rfl).2
def agG(h:fM X K L au V)(y:An X)(z:o<=4194304):CN 95 [.ptr L.a 0,ae o] K λ v T=>T=K/\v=ae ((bJ X.S).eA o):=by
 refine ba atk rfl λ A m=>?_;have⟨t,tn,tf,mn,mf,cn,cf,en,ef,dv,e⟩:=h;have g:=e.mp.W e.base;have n:¬(o:Int)<0:=ω
 have s:=y.qX.nD;have⟨f1,f2,f3,f4,f5⟩:=s;by_cases O:o<X.S.of.length
 .have U:¬X.S.of.length<=o:=ω
  have hw:IntKind.wrap .i64 ((X.S.vars.length:Int)+(o:Int))=((X.S.vars.length+o:Nat):Int):=by rw[fQ ω ω];omega
  simp[n,e.ob.get,e.t0,cE (DD g),U,cE (NS g),hw];refine m ⟨rfl,?_⟩;have:(bJ X.S).eA o=((X.S.vars.length+o:Nat):Int):=by unfold SI.eA;rw[aq (show o<(bJ X.S).br from O)];rfl
  rw[this];try simp
 .have U:X.S.of.length<=o:=ω
  simp[n,e.ob.get,e.t0,cE (DD g),U];refine m ⟨rfl,?_⟩;have:(bJ X.S).eA o=-1:=by unfold SI.eA;rw[ao (show¬o<(bJ X.S).br from O)]
  rw[this]
def aX.sg{X:Fix}{M:AU}(h:aX K 1 u M aL)(g:I X.sg K T)(e:∀y∈aL,X.ay<=y):aX T 1 u M aL:=h.W g λ y G B=>by have:=(Np.1 B).1;have:=e y G;omega
def Lj{V:SV}{a b:Int}:(V.bV a b).first=V.first:=by
 unfold SV.bV;split
 .rfl
 .split<;>rfl
def ZL{l:List (Int×Int)}:∀{V:SV},(l.foldl (λ V p=>V.bV p.1 p.2) V).first=V.first:=by induction l with|nil=>intro V;rfl|cons p l e=>intro V;rw[DV,e,Lj]
def aka:∀{V:SV},(l.foldl (λ V v=>V.bV dst v) V).first=V.first:=by induction l with|nil=>intro V;rfl|cons p l e=>intro V;rw[DV,e,Lj]
def amD(h:fM X K L V.first V)(hX:An X)(bD:∀x,V.first (V.first x)=V.first x)(hd:X.ds[i]?=some d)(hu:X.us[i]?=some u)(Ma:∀a∈d.args,a<X.N)(UQ:d.dst<X.N)(f:Nat):CN 137 [.ptr L.a 0,.agg (sB d u),ae f] K λ _ T=>vZ X K L V.first (V.sA (bJ X.S) d f) T:=by
 refine ba aqQ rfl λ Q' E=>?_;have hu0:km u=true:=by have⟨t,tn,tf,mn,mf,cn,cf,en,ef,dv,m⟩:=h;exact(m.now.2.2 i d u hd hu).2
 have hM:∀{K2:D} {V2:SV} {F2:Nat->Nat},fM X K2 L F2 V2->lu K2 X.mid X.S/\aW K2 1 (One λ n=>ae n) u d.args/\∃t,Lv K2 L.a (.cells 7 t false)/\AV t 0 (.ptr X.mid 0):=by rintro K2 V2 F2 ⟨t,tn,tf,mn,mf,cn,cf,en,ef,dv,m⟩;exact⟨m.mp.W m.base,(m.now.2.2 i d u hd hu).1,t,m.ob,m.t0⟩
 have⟨_,_,ta,la,GX⟩:=hM h;have cR:¬L.a=K.ab:=bC la.lt;simp[hu0,la.get,GX,cR];generalize ed:D.add _ _=K1;have l4:∃t,Lv K1 K.ab (.cells 5 t false)/\AV t 3 u/\AV t 4 (ae d.dst):=by rw[<-ed];exact⟨_,Lv.new,ζ⟩
 have g1:I [] K K1:=by rw[<-ed];exact aw.add _
 clear ed;have⟨t4,l4,e3,e4⟩:=l4;have O:=h.ai g1;have LS:X.ay<=K.ab:=by have⟨t,tn,tf,mn,mf,cn,cf,en,ef,dv,m⟩:=h;exact m.ay
 have⟨EB,Gw,ta,la,GX⟩:=hM O;refine CW (Xs EB hX.qX.ps _) ?_;rintro pv K2 ⟨⟨YP,zC,Uz⟩,g2⟩;have lG:=g1.trans g2;have U:=h.ai lG;have⟨Jd,zF,ta2,la2,aIz⟩:=hM U;have Q:=l4.ai g2;have rQ:=g1.ab;have hC:V.sA (bJ X.S) d f=if(X.S.fU f).length≠d.args.length then V else(X.S.jX f).foldl (λ V v=>V.bV d.dst v) (((X.S.fU f).zip d.args).foldl (λ V p=>V.bV p.1 p.2) V):=rfl
 rw[hC]at E;have aic:∀z∈X.S.fU f,z<X.N:=by
  intro z e;have hN:=hX.N;unfold SM.fU at e;split at e
  .split at e
   .rw[jn]at e;obtain⟨s,_,rfl⟩:=e;have:=(X.S.N5 f s).1;omega
   .simp at e
  .simp at e
 have awb:∀z∈X.S.jX f,z<X.N:=by
  intro z e;have hN:=hX.N;unfold SM.jX at e;split at e
  .split at e
   .unfold SM.vR at e;rw[jn]at e;obtain⟨s,_,rfl⟩:=e;have:=(X.S.N5 f s.a).1;omega
   .simp at e
  .simp at e
 generalize X.S.fU f=ps at zC E aic;simp[zC.aZ.aN bK,Q.get,e3,zF.aN bK];by_cases R:ps.length=d.args.length
 .have lR:((ps.length:Nat):Int)=(d.args.length:Nat):=ω
  simp[lR,zC.aZ.aN bK];rw[ao (by simpa using R)]at E;have MQ:(ps.zip d.args).length=ps.length:=by rw[HY];omega
  have Vp:∀{z:Nat} {o:AO} {aR aG:D},Lv aR z o->I X.sg aR aG->X.ay<=z->Lv aG z o:=λ R hg e=>R.W hg λ B=>by have:=(Np.1 B).1;omega
  have hYT:∀y∈YP,X.ay<=y:=λ y G=>by have:=Uz y G;omega
  refine bu (α:=Nat) (aJ:=λ j sl K3=>vZ X K2 L V.first (((ps.zip d.args).take j).foldl (λ V p=>V.bV p.1 p.2) V) K3/\j<=ps.length/\AV sl 0 (.ptr L.a 0)/\AV sl 2 (ae (f:Nat))/\AV sl 4 (.ptr K.ab 0)/\AV sl 23 pv/\AV sl 24 (ae (d.args.length:Nat))/\AV sl 25 (ae (j:Nat))) (mu:=λ j=>ps.length-j) ?_ 0 _ _ ?ini;case ini=>exact⟨.self U,dQ _,ζ⟩
  rintro b1 k1-cq j sl K3 ⟨⟨Z,P⟩,hj,A,s2,C,dx,iO,yK⟩ ih;have⟨Vh,iU,ta3,Jz,axr⟩:=hM Z;have hP3:=zC.sg P hYT;have A':=Vp Q P LS;by_cases g:j<ps.length
  .have mU:j<d.args.length:=ω
   have hnz:j<(ps.zip d.args).length:=ω
   have⟨uj,uB,tQ,exp,np,tp,uG,cp,cr,fG,ib,gq,jL⟩:=hP3.aZ.gL g;have qw:cp=ae ps[j]:=by have:[cp]=[ae ps[j]]:=jL;simpa using this
   subst qw;have⟨MU,WJ,Tx,TZ,na,ta',Xe,ca,kl,sI,AY,zP,LO⟩:=iU.gL mU;have mT:ca=ae d.args[j]:=by have:[ca]=[ae d.args[j]]:=LO;simpa using this
   subst mT;simp[A,C,dx,iO,yK,mU,g,cr,fG.get,ib,gq,A'.get,e3,kl,sI.get,AY,zP];have J:(((ps.zip d.args).take j).foldl (λ V p=>V.bV p.1 p.2) V).first=V.first:=ZL;refine CW (Pf (V:=((ps.zip d.args).take j).foldl (λ V p=>V.bV p.1 p.2) V) (by rw[J];exact Z) (by rw[J];exact bD) (aic _ (cG g)) (Ma _ (cG mU))) ?_;rintro v K4 ⟨pN,Y⟩;have U4:j<maxLen:=aT mU iU.cP;simp[yK,bq U4];refine ih (j+1) _ _ ω ⟨⟨?_,P.trans Y⟩,g,by simp[A],by simp[s2],by simp[C],by simp[dx,cr],by simp[iO],ζ⟩;rw[CR hnz,Oy];rw[J]at pN;exact pN
  .obtain rfl:j=ps.length:=ω
   subst cq;rw[show(ps.zip d.args).take ps.length=ps.zip d.args from OB ω]at Z;have ud:¬((ps.length:Nat):Int)<(d.args.length:Nat):=ω
   simp[A,s2,iO,yK,R,Jz.get,axr];refine CW (adY Vh hX.qX.sz _) ?_;rintro rv K4 ⟨⟨YR,zE,hRY⟩,Y⟩;have J:((ps.zip d.args).foldl (λ V p=>V.bV p.1 p.2) V).first=V.first:=ZL;generalize UC:(ps.zip d.args).foldl (λ V p=>V.bV p.1 p.2) V=V1 at Z J E;generalize LQ:X.S.jX (f:Int)=rs at zE E;have pN:=Z.ai Y;simp[zE.aZ.aN bK];have wK:K2.ab<=K3.ab:=P.ab;have iW:=g2.ab;have aua:∀y∈YR,X.ay<=y:=λ y G=>by have:=hRY y G;omega
   have Wd:=A'.ai Y;refine CA (λ j sl K5=>vZ X K4 L V.first ((rs.take j).foldl (λ V v=>V.bV d.dst v) V1) K5/\j<=rs.length/\AV sl 0 (.ptr L.a 0)/\AV sl 4 (.ptr K.ab 0)/\AV sl 44 rv/\AV sl 45 (ae (rs.length:Nat))/\AV sl 46 (ae (j:Nat))) rs.length ⟨.self pN,dQ _,by simp[A,C]⟩ ?_
   clear A s2 C dx iO yK ih;rintro b2 k2-dO j sl K5 ⟨⟨Ef,Uh⟩,hj,A,C,RP,JS,Hi⟩ ih;have hP5:=zE.sg Uh aua;have l45:=Vp Wd Uh LS;by_cases g:j<rs.length
   .have⟨uj,uB,tQ,exp,np,tp,uG,cp,cr,fG,ib,gq,jL⟩:=hP5.aZ.gL g;have qw:cp=ae rs[j]:=by have:[cp]=[ae rs[j]]:=jL;simpa using this
    subst qw;simp[A,C,RP,JS,Hi,g,cr,fG.get,ib,gq,l45.get,e4];have F:((rs.take j).foldl (λ V v=>V.bV d.dst v) V1).first=V.first:=aka.trans J;have hrb:rs[j]<X.N:=awb _ (by rw[LQ];exact cG g);refine CW (Pf (V:=(rs.take j).foldl (λ V v=>V.bV d.dst v) V1) (by rw[F];exact Ef) (by rw[F];exact bD) UQ hrb) ?_;rintro v K6 ⟨Eg,g6⟩;simp[Hi,bq (aT g zE.aZ.cP)];refine ih ω ⟨⟨?_,Uh.trans g6⟩,g,by simp[A],by simp[C],by simp[RP,cr],by simp[JS],ζ⟩;rw[CR g];rw[F]at Eg;exact Eg
   .obtain rfl:j=rs.length:=ω
    subst dO;simp[JS,Hi];rw[iF]at Ef;exact E ⟨Ef,(((lG.mono ζ).trans P).trans (Y.mono ζ)).trans Uh⟩
 .have lR:¬((ps.length:Nat):Int)=(d.args.length:Nat):=ω
  simp[lR];refine E ?_;rw[aq R];exact(vZ.self U).W lG
end
def apB(h:aW K 1 (One λ n=>ae n) u l):fy (.agg (sB d u)) (.agg (sB d u))=true:=by
 have A:∀a:Int,fy (ae a) (ae a)=true:=λ a=>IA;refine Ll λ v g=>?_;simp only[cZ,xu,xD]at g;rcases g with rfl|rfl|rfl|rfl|rfl
 .have e:=A d.at_.1;exact e
 .have e:=A d.at_.2.1;exact e
 .have e:=A d.at_.2.2;exact e
 .exact h.nC
 .have e:=A d.dst;exact e
def or_zero:fT (λ _=>0) (nN i)=nN i:=by funext x;simp[fT]
def an3{S:SI}:(V.sA S d i).first=V.first:=by
 unfold SV.sA;split
 .rfl
 .exact aka.trans ZL
def am0{S:SI}:(V.mJ S ds r o).first=V.first:=by
 unfold SV.mJ;split
 .exact Lj
 .split
  .exact Lj
  .split
   .split<;>rfl
   .split
    .split
     .exact an3
     .rfl
    .rfl
def Zc{S:SI}:∀{V:SV},(V.app S ds r X1).first=V.first:=by induction X1 with|nil=>intro V;rfl|cons o X1 e=>intro V;exact e.trans am0
def ad4(h:nV S)(g:S.Bw o dst=some i):i<S.of.length:=by
 unfold SM.Bw at g;split at g
 .cases g
 .rename_i e he;obtain⟨k',s',rfl,m,O,U⟩:=h.of _ _ he;rw[show((k':Nat):Int).toNat=k' from rfl,m]at g;dsimp only at g;split at g
  .cases g
  .cases g;have:=h.sites _ _ m;omega
structure aeI(X:Fix)(r:bL):Prop where
 kind:r.kind=3\/r.kind=4\/r.kind=5\/r.kind=6
 a:r.aR<X.N
 b:r.aG<X.N
 f:r.kind=5->0<=r.aR/\-1048576<=r.K/\r.K<=1048576
 k:r.kind=6->0<=r.K/\r.K.toNat<X.ds.length
def aew(X:Fix):Prop:=∀d∈X.ds,(∀a∈d.args,a<X.N)/\d.dst<X.N
section
variable{X:Fix}{K T:D}{L:nk}{au:Nat->Nat}{V:SV}
def Pw{X:Fix}(e:An X)(o:Nat):(bJ X.S).eA o<X.N:=by have g:=e.N;unfold SI.eA bJ;dsimp only;split<;>omega
def am5(h:fM X K L V.first V)(hX:An X)(hD:aew X)(bD:∀x,V.first (V.first x)=V.first x)(hr:aeI X r)(hl:aX K 1 vf (aZ (iY X1)) aL)(hY:∀y∈aL,X.ay<=y)(vB:∀o∈X1,o<1048576):CN 82 [.ptr L.a 0,.agg (kS r),vf] K λ _ T=>vZ X K L V.first (V.app (bJ X.S) X.ds r X1) T:=by
 refine ba as7 rfl λ Q' hQ=>?_;simp[hl.aZ.aN bK];generalize ed:D.add _ _=K1;have l4:∃t,Lv K1 K.ab (.cells 4 t false)/\AV t 0 (u8 r.kind)/\AV t 1 (ae r.aR)/\AV t 2 (ae r.aG)/\AV t 3 (ae r.K):=by rw[<-ed];exact⟨_,Lv.new,ζ⟩
 have g1:I [] K K1:=by rw[<-ed];exact aw.add _
 clear ed;have⟨t4,l4,e0,e1,e2,e3⟩:=l4;have O:=h.ai g1;have LS:X.ay<=K.ab:=by have⟨t,tn,tf,mn,mf,cn,cf,en,ef,dv,E⟩:=h;exact E.ay
 have Vp:∀{z:Nat} {o:AO} {aR aG:D},Lv aR z o->I X.sg aR aG->X.ay<=z->Lv aG z o:=λ hl hg hz=>hl.W hg λ B=>by have:=(Np.1 B).1;omega
 refine bu (α:=Nat) (aJ:=λ j sl K3=>vZ X K1 L V.first (V.app (bJ X.S) X.ds r (X1.take j)) K3/\j<=X1.length/\AV sl 0 (.ptr L.a 0)/\AV sl 4 (.ptr K.ab 0)/\AV sl 11 vf/\AV sl 12 (ae (X1.length:Nat))/\AV sl 13 (ae (j:Nat))) (mu:=λ j=>X1.length-j) ?_ 0 _ _ ?ini;case ini=>exact⟨.self O,dQ _,ζ⟩
 rintro b1 k1-cq j sl K3 ⟨⟨Z,R⟩,hj,C,m,jR,fK,Y⟩ ih;have fF:=(hl.W g1 ζ).sg R hY;have A':=Vp l4 R LS;by_cases hn:j<X1.length
 .have⟨uj,uB,tQ,exp,np,tp,uG,cp,cr,fG,ib,gq,jL⟩:=fF.aZ.gL (i:=j) (by rw[bW];exact hn);have qw:cp=ae ((X1[j]:Nat):Int):=by
   have:[cp]=[ae ((iY X1)[j]'(by rw[bW];exact hn))]:=jL
   simpa using this
  subst qw;rw[bW]at cr;have jB:=vB _ (cG hn);have ix:j<maxLen:=by have:=hl.aZ.cP;rw[bW]at this;omega
  have U:(V.app (bJ X.S) X.ds r (X1.take j)).first=V.first:=Zc;have ET:V.app (bJ X.S) X.ds r (X1.take (j+1))=(V.app (bJ X.S) X.ds r (X1.take j)).mJ (bJ X.S) X.ds r X1[j]:=by unfold SV.app;rw[CR hn]
  have kH:=Pw hX X1[j];have g:∀(bz:CX) (K5:D),fM X K5 L V.first ((V.app (bJ X.S) X.ds r (X1.take j)).mJ (bJ X.S) X.ds r X1[j])->I X.sg K1 K5->bz.get 0=some (.ptr L.a 0)->bz.get 4=some (.ptr K.ab 0)->bz.get 11=some vf->bz.get 12=some (ae (X1.length:Nat))->bz.get 13=some (ae ((j:Int)+1))->aD E0 (.code (.loop b1)::k1) ⟨bz,_,_,_,_⟩ K5 _:=λ bz K5 p1 p2 p3 p4 p5 p6 p7=>ih (j+1) bz K5 ω ⟨⟨by rw[ET];exact p1,p2⟩,hn,p3,p4,p5,p6,by simpa using p7⟩;clear ih;generalize V.app (bJ X.S) X.ds r (X1.take j)=s at Z U g;have LN:fM X K3 L s.first s:=by rw[U];exact Z
  have aat:∀x,s.first (s.first x)=s.first x:=by rw[U];exact bD
  simp[C,m,jR,fK,Y,hn,cr,fG.get,ib,gq,cE (agG LN hX (o:=X1[j]) ω),A'.get,e0];have hM:lu K3 X.mid X.S/\∃t dv,Lv K3 L.a (.cells 7 t false)/\AV t 0 (.ptr X.mid 0)/\AV t 3 dv/\Sq K3 dv X.ds X.us/\xn K3:=by have⟨t,tn,tf,mn,mf,cn,cf,en,ef,dv,E⟩:=Z;exact⟨E.mp.W E.base,t,dv,E.ob,E.t0,E.t3,E.now,E.g_.W E.base⟩
  have⟨Vh,ta,dv,la,GX,Jz,hdz,_⟩:=hM;have gY:∀y,X.ay<=y->¬(L.c y).1<8:=by have⟨t,tn,tf,mn,mf,cn,cf,en,ef,dv,E⟩:=Z;exactλ y G h8=>by have:=(E.lo y h8).2;omega
  have aHz:X.ay<=K3.ab:=by have⟨t,tn,tf,mn,mf,cn,cf,en,ef,dv,E⟩:=Z;exact E.ay
  rcases hr.kind with Q|Q|Q|Q
  .rw[Q]at e0;have I2:s.mJ (bJ X.S) X.ds r X1[j]=s.bV r.aR ((bJ X.S).eA X1[j]):=by unfold SV.mJ;rw[aq Q]
   rw[I2]at g;simp[Q,C,m,A'.get,e1];refine CW (Pf LN aat hr.a kH) ?_;rintro v K4 ⟨F,P⟩;rw[U]at F;simp[Y,bq ix];exact g _ _ F (R.trans P) (by simp[C]) (by simp[m]) (by simp[jR,cr]) (by simp[fK]) ζ
  .rw[Q]at e0;have I2:s.mJ (bJ X.S) X.ds r X1[j]=s.bV ((bJ X.S).eA X1[j]) r.aG:=by unfold SV.mJ;rw[ao ω,aq Q]
   rw[I2]at g;simp[Q,C,m,A'.get,e0,e2];refine CW (Pf LN aat kH hr.b) ?_;rintro v K4 ⟨F,P⟩;rw[U]at F;simp[Y,bq ix];exact g _ _ F (R.trans P) (by simp[C]) (by simp[m]) (by simp[jR,cr]) (by simp[fK]) ζ
  .rw[Q]at e0;have⟨hA0,pK,ed⟩:=hr.f Q;have I2:s.mJ (bJ X.S) X.ds r X1[j]=match X.S.Bw X1[j] r.K with|some q=>s.take r.aR.toNat (nN q)|none=>s:=by unfold SV.mJ;rw[ao ω,ao ω,aq Q];rfl
   rw[I2]at g;simp[Q,C,m,A'.get,e0,e3,la.get,GX];refine CW (akD Vh hX.qX.ok hX.qX.nD X1[j] ω pK ed) ?_;rintro _ K4 ⟨rfl,P⟩;have F:=LN.ai P;have Wd:=A'.ai P;cases hq:X.S.Bw X1[j] r.K with
   |none=>
    rw[hq]at g
    repeat (first|simp[JZ,Y,bq ix]|refine dF (by simp[dA,dm,val,C,m,la.get,Wd.get]) ?_)
    rw[U]at F
    exact g _ _ F (R.trans (P.mono ζ)) (by simp[C]) (by simp[m]) (by simp[jR,cr]) (by simp[fK]) ζ
   |some q=>
    rw[hq]at g
    have hql:=ad4 hX.qX.ok hq
    have UY:=hX.qX.nD.2.2.2.1
    obtain⟨aR,hA⟩:∃aR:Nat,r.aR=(aR:Int):=⟨r.aR.toNat,ω⟩
    have hAN:aR<X.N:=by have:=hr.a;omega
    rw[hA]at e1 g
    rw[show((aR:Nat):Int).toNat=aR from rfl]at g
    simp[JZ,C,m,Wd.get,e1]
    generalize dU:D.add _ _=Ka
    have ga:I [] K4 Ka:=by rw[<-dU];exact aw.add _
    have oo:aW Ka 1 (One λ n=>ae ((n:Nat):Int)) (.sl K4.ab 0 1 1 1 true) [q]:=by refine aW.sl (L:=[q]) (ah:=0) (ax:=1) (ex:=true) (n:=1) (ro:=false) (t:=(Tr.e.put 0 (some (ae 0))).put 0 (some (ae ((q:Nat):Int)))) (by rw[<-dU];exact Lv.new) ζ (λ i A=>?_) ζ (by unfold maxLen;simp);match i,A with|0,_=>exact⟨[ae ((q:Nat):Int)],by simp[bc],rfl⟩
    clear dU
    refine CW (WI oo (by intro z hz;simp at hz;subst hz;omega)) ?_
    rintro _ K5 ⟨pY,uL,rfl,hB,yp,ES,g5⟩
    have hB':e_ K5 pY uL (nN q):=by have:=hB;simp only[DV,List.foldl_nil,or_zero]at this;exact this
    have g45:=ga.trans g5
    have Ef:=F.ai g45
    have l45:=Wd.ai g45
    have Vl:=P.ab
    have mU:=ga.ab
    repeat (first|simp[C,m,Y]|refine dF (by simp[dA,dm,val,C,m,l45.get,e1]) ?_)
    refine CW (Xy Ef hAN hB' (λ y G=>?_)) ?_
    .have hyT:X.ay<=y:=by rcases G with rfl|rfl<;>omega
     have:=gY y hyT;refine⟨λ h=>this (by rw[h];exact zf rfl),λ h=>this (by rw[h];decide)⟩
    .rintro v K6 ⟨Eg,g6⟩
     rw[U]at Eg;simp[Y,bq ix];exact g _ _ Eg ((R.trans ((P.trans g45).mono ζ)).trans g6) (by simp[C]) (by simp[m]) (by simp[jR,cr]) (by simp[fK]) ζ
  .rw[Q]at e0;have I2:s.mJ (bJ X.S) X.ds r X1[j]=if(bJ X.S).eA X1[j]<0 then(match X.ds[r.K.toNat]? with|some d=>s.sA (bJ X.S) d (X1[j]-(bJ X.S).br)|none=>s)else s:=by by_cases hq:(bJ X.S).eA X1[j]<0<;>(unfold SV.mJ;rw[ao ω,ao ω,ao ω];rfl)
   rw[I2]at g;by_cases hf:(bJ X.S).eA X1[j]<0
   .rw[aq hf]at g;have⟨pK,vr⟩:=hr.k Q;obtain⟨J,eO⟩:∃k:Nat,r.K=(k:Int):=⟨r.K.toNat,ω⟩;rw[eO]at e3 g vr;rw[show((J:Nat):Int).toNat=J from rfl]at g vr;have⟨VT,MP,hz3⟩:=hdz;have hku:J<X.us.length:=ω
    have hkz:J<(X.ds.zip X.us).length:=by rw[HY];omega
    have⟨idz,WK,an8,exz,nz,tz,roz,csz,GO,GH,aaz,aie,hRz⟩:=MP.at_ hkz;have hcz:csz=sB X.ds[J] X.us[J]:=by have:csz=sB (X.ds.zip X.us)[J].1 (X.ds.zip X.us)[J].2:=hRz;rw[Oy]at this;exact this
    subst hcz;have avg:J<min X.ds.length X.us.length:=ω
    rw[bf vr]at g;have atJ:=apB (d:=X.ds[J]) (hz3 J _ _ (bf vr) (bf hku)).1;have Da:¬X1[j]<X.S.of.length:=λ bm=>by
     have:(bJ X.S).eA X1[j]=((X.S.vars.length+X1[j]:Nat):Int):=by unfold SI.eA;rw[aq (show X1[j]<(bJ X.S).br from bm)];rfl
     omega
    have hw:IntKind.wrap .i64 (((X1[j]:Nat):Int)-((X.S.of.length:Nat):Int))=((X1[j]-(bJ X.S).br:Nat):Int):=by rw[fQ ω ω];show _=((X1[j]-X.S.of.length:Nat):Int);omega
    simp[Q,hf,C,m,A'.get,e0,e3,la.get,GX,Jz,GO,avg,GH.get,aaz,bY aie,cE (DD Vh)];try (refine dF (by simp[dA,dm,val,la.get,Jz,GO,A'.get,e3,GH.get,aaz,bY aie,atJ]) ?_)
    try simp[hw]
    have hd:=hD _ (cG vr);refine CW (amD LN hX aat (i:=J) (bf vr) (bf hku) hd.1 hd.2 (X1[j]-(bJ X.S).br)) ?_;rintro v K4 ⟨F,P⟩;rw[U]at F;simp[Y,bq ix];exact g _ _ F (R.trans P) (by simp[C]) (by simp[m]) (by simp[jR,cr]) (by simp[fK]) ζ
   .rw[ao hf]at g;simp[Q,hf,m,Y,A'.get,e0,bq ix];rw[U]at LN;exact g _ _ Z R (by simp[C]) (by simp[m]) (by simp[jR,cr]) (by simp[fK]) ζ
 .obtain rfl:j=X1.length:=ω
  subst cq;simp[fK,Y];rw[iF]at Z;exact hQ ⟨Z,(g1.mono ζ).trans R⟩
end
def Be(V:SV)(N:Nat)(i:Int):AT:=if 0<=i/\i<N then jW (V.set (V.first i.toNat))else[]
section
variable{X:Fix}{K T:D}{L:nk}{V:SV}
def fM.nil(h:fM X K L V.first V):X.ay<=K.ab/\xn K/\lu K X.mid X.S:=by have⟨t,tn,tf,mn,mf,cn,cf,en,ef,dv,e⟩:=h;exact⟨e.ay,e.g_.W e.base,e.mp.W e.base⟩
def afC(h:fM X K L V.first V)(A:i<X.N):CN 92 [.ptr L.a 0,ae i] K λ v T=>T=K/\v=.ptr (L.n (V.first i)) 0:=by refine ba ath rfl λ y s=>?_;have⟨t,tn,tf,mn,mf,cn,cf,en,ef,dv,e⟩:=h;have m:=e.fst i A;have b1:i<mf:=aT A e.zw;have b2:V.first i<mn:=aT m e.Dn;have g:0<X.N:=FV A;simp[e.ob.get,(e.vV g),(e.DF g),A,(e.fs g).get,b1,e.sC i A,m,(e.nd g).get,b2,e.wS _ m];exact s ⟨rfl,rfl⟩
def afy(h:fM X K L V.first V)(i:Int):CN 94 [.ptr L.a 0,ae i] K λ v T=>(∃aL,aX T 1 v (aZ (iY (Be V X.N i))) aL/\∀y∈aL,K.ab<=y)/\I [] K T:=by
 refine ba atj rfl λ J z=>?_;have B:=h;have⟨t,tn,tf,mn,mf,cn,cf,en,ef,dv,e⟩:=h;have m:¬(0<=i/\i<X.N)->aX K 1 (.lit (.slice none 0 0)) (aZ (iY (Be V X.N i))) []:=λ G=>by unfold Be;rw[ao G];exact .nil
 by_cases O:i<0
 .simp[O];exact z ⟨⟨[],m ω,ζ⟩,aw⟩
 .by_cases U:(X.N:Int)<=i
  .simp[O,U,e.ob.get,e.t5,Wi bK];exact z ⟨⟨[],m ω,ζ⟩,aw⟩
  .obtain⟨n,rfl⟩:∃n:Nat,i=(n:Int):=⟨i.toNat,ω⟩;have A:n<X.N:=ω
   have F:¬X.N<=n:=ω
   have C:=e.fst n A;have⟨tt,n1,n2,n3⟩:=e.n _ C;simp[O,U,e.ob.get,e.t5,Wi bK,cE (afC B A),n1.get,n2];refine CW (Wl (e.s _ C) B.nil.2.1) ?_;rintro v K2 ⟨⟨aL,E,D⟩,g⟩;simp;refine z ⟨⟨aL,?_,D⟩,g⟩;unfold Be;rw[aq ⟨ω,ω⟩];exact E
end
def jk(X:Fix)(V:SV)(v:Int):AT:=if v<X.S.vars.length then Be V X.N v else[]
def Gx(X:Fix)(V:SV)(v:Int)(o:Nat):Bool:=decide (0<=v)&&decide (v<X.S.vars.length)&&cC (V.set (V.first v.toNat)) o
section
variable{X:Fix}{K T:D}{L:nk}{V:SV}
def fM.am(h:fM X K L V.first V):∃t,Lv K L.a (.cells 7 t false)/\AV t 0 (.ptr X.mid 0):=by have⟨t,tn,tf,mn,mf,cn,cf,en,ef,dv,e⟩:=h;exact⟨t,e.ob,e.t0⟩
def yX(h:fM X K L V.first V)(v:Int):CN 19 [.ptr L.a 0,ae v] K λ u T=>(∃aL,aX T 1 u (aZ (iY (jk X V v))) aL/\∀y∈aL,K.ab<=y)/\I [] K T:=by
 refine ba arw rfl λ m e=>?_;have⟨t,l,t0⟩:=h.am;by_cases O:v<X.S.vars.length
 .have U:¬(X.S.vars.length:Int)<=v:=ω
  simp[l.get,t0,cE (NS h.nil.2.2),U];refine CW (afy h v) ?_;rintro u K2 ⟨hu,g⟩;simp;refine e ⟨?_,g⟩;unfold jk;rw[aq O];exact hu
 .have U:(X.S.vars.length:Int)<=v:=ω
  simp[l.get,t0,cE (NS h.nil.2.2),U];refine e ⟨⟨[],?_,ζ⟩,aw⟩;unfold jk;rw[ao O];exact .nil
def aeP(h:fM X K L V.first V)(C:An X)(v:Int)(B:o<4611686018427387904):CN 17 [.ptr L.a 0,ae v,ae o] K λ u T=>T=K/\u=bl (Gx X V v o):=by
 refine ba ari rfl λ G g=>?_;have⟨t,l,t0⟩:=h.am;by_cases e:0<=v
 .by_cases O:v<X.S.vars.length
  .obtain⟨n,rfl⟩:∃n:Nat,v=(n:Int):=⟨v.toNat,ω⟩;have F:=C.N;have A:n<X.N:=ω
   have y:=h;have⟨E,tn,tf,mn,mf,cn,cf,en,ef,dv,m⟩:=h;have z:=m.fst n A;have⟨tt,n1,n2,n3⟩:=m.n _ z;have D:n<X.S.vars.length:=ω
   simp[l.get,t0,cE (NS y.nil.2.2),e,O,cE (afC y A),n1.get,n2,cE (ahq (m.s _ z) B)];refine g ⟨rfl,?_⟩;simp[Gx,D]
  .simp[l.get,t0,cE (NS h.nil.2.2),e,O];exact g ⟨rfl,by simp[Gx,e,O]⟩
 .simp[e];exact g ⟨rfl,by simp[Gx,e]⟩
end
end
end Go.Proofs.YtgipmaoplfkdoaaGreatDoor
