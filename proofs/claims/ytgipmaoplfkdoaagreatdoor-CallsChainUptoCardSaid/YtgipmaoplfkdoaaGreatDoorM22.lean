import Derived.Test.YtgipmaoplfkdoaaGreatDoorM21
import Derived.Test.YtgipmaoplfkdoaaGreatDoorWK18
set_option linter.all false
set_option maxRecDepth 100000
set_option maxHeartbeats 400000000
namespace Go.Proofs.YtgipmaoplfkdoaaGreatDoor
noncomputable section
open Go.RowKit
theorem Gd:(fq 29,fq 38,fq 39,fq 41,fq 42,fq 107,pq 41 6,pq 41 7,pq 41 8,pq 42 4,())=(some Tryz.f29,some Tryz.f38,some Tryz.f39,some Tryz.f41,some Tryz.f42,some Tryz.f107,some [.op 0,.op 1,.op 2,.op 3,.op 4,.op 5,.op 6,.op 7,.wr 8 [5,6],.op 9,.op 10,.op 11],some [.op 0,.op 1,.op 2,.op 3,.op 4,.op 5,.op 6,.op 7,.op 8,.op 9,.op 10,.op 11,.op 12,.op 13,.wr 14 []],some [.op 0,.op 1,.op 2,.op 3,.op 4,.op 5,.wr 6 [4],.op 7,.op 8,.op 9],some [.op 0,.op 1,.op 2,.op 3,.op 4,.op 5,.op 6,.op 7,.op 8,.op 9,.op 10,.op 11,.op 12,.op 13,.op 14,.op 15,.op 16,.op 17,.op 18,.wr 19 [],.op 20,.op 21,.op 22],()):=by kernel_rfl
def o29:=fe (jd Gd)
def o38:=fe (jq Gd)
def o39:=fe (jr Gd)
def o41:=fe (js Gd)
def o42:=fe (jt Gd)
def o107:=fe (ju Gd)
def w41a:=pe (jv Gd)
def w41b:=pe (jw Gd)
def w41c:=pe (jx Gd)
def w42:=pe (jy Gd)
attribute [simp] w41a w41b w41c w42
theorem smObjs{H:D}{id:Nat}{S:SM}(h:lu H id S)(hf:uP S)(hp:S.p.length<=1048576):C E0 (.call 29 [.ptr id 0]) H λ v K=>K=H/\v=ae ((S.of.length+S.p.length:Nat):Int):=by refine ba o29 rfl λ Q' hQ=>?_;obtain⟨f1,f2,f3,f4,f5⟩:=hf;have hw:IntKind.wrap .i64 ((S.of.length:Int)+(S.p.length:Int))=(S.of.length:Int)+(S.p.length:Int):=fQ (by omega) (by omega);simp[cE (DD h),cE (aEQ h),hw];exact hQ ⟨rfl,by simp⟩
def SM.el(S:SM)(o:Nat):Pt×Int:=match S.of[o]? with|some e=>(match S.sites[e.toNat]? with|some s=>(s.1,-1)|none=>((0,0,0),-1))|none=>((0,0,0),((o-S.of.length:Nat):Int))
theorem LK{H:D}{id:Nat}{S:SM}(h:lu H id S)(Q:nV S)(hf:uP S)(hp:S.p.length<=1048576){o:Nat}(ho:o<S.of.length+S.p.length):C E0 (.call 41 [.ptr id 0,ae (o:Nat)]) H λ v K=>(∃k:Int,v=.dh [ptV (S.el o).1,ae k,ae (S.el o).2,ae 0])/\I [] H K:=by
 refine ba o41 rfl λ Q' hQ=>?_;have A0:¬(o:Int)<0:=by omega
 have bm:¬(S.of.length:Int)+(S.p.length:Int)<=(o:Int):=by omega
 have jB:=smObjs h hf hp;have hf4:=hf.2.2.2.1;have bD:¬id=H.ab:=by obtain⟨au,vf,cY,cM,mid,⟨t,sv,ov,pv,X1,X2,i3,i5,i6,l,c,hO⟩,_⟩:=h;exact bC hO.ob.lt
 have g0:∀o,I [] H (H.add o):=λ o=>(I.refl _ _).add _;have jB:=λ x=>smObjs (h.W (g0 x)) hf hp;obtain⟨au,vf,cY,cM,mid,⟨t,sv,ov,pv,X1,X2,i3,i5,i6,l,c,hO⟩,_⟩:=h;have gY:=hO.of.aZ.aN bK;by_cases Da:o<S.of.length
 .have Vm:¬S.of.length<=o:=by omega
  obtain⟨e,he⟩:∃e,S.of[o]?=some e:=⟨_,bf Da⟩;obtain⟨ki,s,rfl,hs,bR,eG⟩:=Q.of _ _ he;have gS:ki<S.sites.length:=by rw[cW]at hs;exact hs.1
  obtain⟨GL,yp,ES⟩:=Q.sites _ _ hs;have bP:S.el o=(s.1,-1):=by unfold SM.el;rw[he];show(match S.sites[((ki:Nat):Int).toNat]? with|some s=>(s.1,(-1:Int))|none=>_)=_;rw[show((ki:Nat):Int).toNat=ki from rfl,hs]
  rw[bP]at hQ;obtain⟨ido,aIP,aHc,exo,no,to,roo,co,hvo,VN,avn,av5,zE⟩:=hO.of.aZ.gL Da;have hoe:S.of[o]=(ki:Int):=by rw[bf Da,zi]at he;exact he
  have hco:co=ae (ki:Nat):=by have:[co]=[ae (S.of[o])]:=zE;rw[hoe]at this;simpa using this
  subst hco;obtain⟨aH,Nw,an7,exs,ns,ts,ros,M,kL,vC,aay,aaR,LQ⟩:=hO.akv.at_ gS;have hse:S.sites[ki]=s:=by rw[bf gS,zi]at hs;exact hs
  have gR:M=Ae s:=by have:M=Ae S.sites[ki]:=LQ;rw[hse]at this;exact this
  subst gR;obtain⟨⟨sq1,sq2,sq3⟩,sb,sn⟩:=s;dsimp only at bR eG GL yp ES;have e1:¬ido=H.ab:=bC VN.lt;have e2:¬aH=H.ab:=bC vC.lt;simp[A0,cE (jB _),bm,Vm,bD,e1,e2,hO.ob.get,hO.t3,hO.t5,hvo,VN.get,avn,av5,Da,kL,vC.get,gS,aay,bY aaR,de bK];refine dF (by simp[dA,dm,val]) ?_;simp;exact hQ ⟨⟨_,rfl⟩,by repeat (first|exact I.refl _ _|refine I.put ?_ (.inl (by simp[D.add]))|refine I.add ?_ _)⟩
 .have Vm:S.of.length<=o:=by omega
  have bP:S.el o=((0,0,0),((o-S.of.length:Nat):Int)):=by unfold SM.el;rw[y_ Vm]
  rw[bP]at hQ;have hw:IntKind.wrap .i64 ((o:Int)-(S.of.length:Int))=((o-S.of.length:Nat):Int):=by rw[fQ (by omega) (by omega)];omega
  simp[A0,cE (jB _),bm,Vm,bD,hO.ob.get,hO.t5,gY,hw];refine dF (by simp[dA,dm,val,bD,hO.ob.get,hO.t5,gY,hw,hO.of.fy]) ?_;simp;exact hQ ⟨⟨_,rfl⟩,by repeat (first|exact I.refl _ _|refine I.put ?_ (.inl (by simp[D.add]))|refine I.add ?_ _)⟩
section
variable{H K:D}{mid a n dH:Nat}{tB:Nat->List Pt}{G_m:Nat->List Int}{Rw:Nat->List Bool}{st:Int}
theorem T4(h:i9 H mid a n dH K tB G_m Rw st)(f:Nat):C E0 (.call 107 [.ptr dH 0,ae (f:Nat)]) K λ v T=>T=K/\v=bl (decide (f<n)):=by
 obtain⟨p5,m,g,lo,c,t,ov,aL,hS,-⟩:=h.ex;refine ba o107 rfl λ Q' hQ=>?_;have h0:¬(f:Int)<0:=by omega
 simp[hS.ob.get,hS.t3,de yO,h0];exact hQ ⟨rfl,by simp⟩
theorem MZ(h:i9 H mid a n dH K tB G_m Rw st){f:Nat}(hf:f<n):C E0 (.call 38 [.ptr dH 0,ae (f:Nat)]) K λ v T=>T=K/\v=bl (d8 tB (h1 Rw) st n f):=by
 have ht:=T4 h f;rw[Ti hf]at ht;obtain⟨p5,m,g,lo,c,t,ov,aL,hS,-,-,e6,ho⟩:=h.ex;refine ba o38 rfl λ Q' hQ=>?_;obtain⟨id,ax,ex,tr,rfl,rfl,lr,hg,aU,he,B⟩:=ho.uC (by simp;omega);have hgf:=hg f (by simpa using hf);simp[hf]at hgf aU;have zG:f<ax:=by omega
 simp[cE ht,hS.ob.get,e6,lr.get,hgf,hf,zG];exact hQ ⟨rfl,rfl⟩
theorem sM(h:i9 H mid a n dH K tB G_m Rw st)(hn:n<=1048576){f:Nat}(hf:f<n)(hC:(tB f).length<=1099511627776):C E0 (.call 39 [.ptr dH 0,ae (f:Nat)]) K λ v T=>aW T 3 XX v (tB f)/\I [] K T:=by obtain⟨p5,m,g,lo,c,t,ov,aL,hS,-⟩:=h.ex;refine ba o39 rfl λ Q' hQ=>?_;obtain⟨mc,ml,u,aL,a1,a2,a3,a4,a5,-⟩:=hS.h3.E4 hf hn;have oo:aW K 3 XX u (tB f):=a4.yN (by omega) (IF (c:=yI) (es:=3) λ _=>rfl) λ i A=>Lo (c:=yI) (es:=3) (λ _=>rfl) A;simp[hS.ob.get,hS.t2,a1.get];refine Fi (v:=u) (T:=K) (by rw[<-a3];exact Wn) ?_;simp;refine MT.step (aoE oo (λ a M h=>by rw[h];rfl) (by omega)) ?_;rintro v K2 ⟨g2,M,aH,O,U,F,h4⟩;simp;exact hQ ⟨O.yN (by omega) F h4,g2⟩
theorem Lc{S:SM}(h:i9 H mid a n dH K tB G_m Rw st)(hM:lu K mid S)(Q:nV S)(hf:uP S)(hp:S.p.length<=1048576){o:Nat}(ho:o<S.of.length+S.p.length)(hq:(S.el o).2<0->(S.el o).1.1<n):C E0 (.call 42 [.ptr dH 0,ae (o:Nat)]) K λ v T=>v=bl (decide ((S.el o).2<0)&&d8 tB (h1 Rw) st n (S.el o).1.1&&!h1 Rw (S.el o).1)/\I [] K T:=by
 refine ba o42 rfl λ Q' hQ=>?_;have h':=h;obtain⟨p5,m,g,lo,c,t,ov,aL,hS,-,e0,-⟩:=h';simp[hS.ob.get,e0.1];refine MT.step (LK hM Q hf hp ho) ?_;rintro _ K1 ⟨⟨k,rfl⟩,g1⟩;have O:=h.ai g1;generalize S.el o=q at hq hQ⊢;obtain⟨⟨f,b,i⟩,z⟩:=q;dsimp only at hq hQ⊢;have hn:¬dH=K1.ab:=by have:=(hS.ai g1).ob.lt;omega
 simp;generalize kO:D.put _ _ _=K2;have g2:I [] K1 K2:=by rw[<-kO];exact I.new (I.refl _ _) _ _
 have l2:∃t,Lv K2 K1.ab (.cells 3 t false)/\t.get 0=some (ae (f:Nat))/\t.get 1=some (ae (b:Nat))/\t.get 2=some (ae (i:Nat)):=by rw[<-kO];exact⟨_,Lv.new.put_eq,by simp⟩
 clear kO;obtain⟨t2,l2,q0,q1,q2⟩:=l2;have U:=O.ai g2;by_cases hz:z<0
 .have iw:=hq hz;obtain⟨p5,m,g,lo,c,t,ov,aL,hS,hR,e0,e6,ho⟩:=U.ex;have VR:=E3 hS hR (q:=(f,b,i)) iw;obtain⟨id,ax,ex,tr,rfl,rfl,lr,hg,aU,he,B⟩:=ho.uC (by simp;omega);have hgf:=hg f (by simpa using iw);simp[iw]at hgf aU;have zG:f<ax:=by omega
  cases hon:d8 tB (h1 Rw) st n f with
  |false=>
   rw[hon]at hgf
   simp[hz,hS.ob.get,e6,l2.get,q0,lr.get,hgf,iw,zG]
   exact hQ ⟨by rw[hon];simp,g1.trans g2⟩
  |true=>
   rw[hon]at hgf
   have bU:bc t2 0 3=some [ae (f:Nat),ae (b:Nat),ae (i:Nat)]:=iB.2 ⟨rfl,λ j hj=>by match j,hj with|0,_=>simpa using q0|1,_=>simpa using q1|2,_=>simpa using q2⟩
   simp[hz,hS.ob.get,e6,l2.get,q0,lr.get,hgf,iw,zG,bY bU]
   refine MT.step VR ?_
   rintro _ K3 ⟨rfl,g3⟩
   simp
   exact hQ ⟨by rw[hon];simp[hz],(g1.trans g2).trans g3⟩
 .simp[hz];exact hQ ⟨by simp[hz],g1.trans g2⟩
end
theorem yq{p:List aQ}:∀s∈(bj p).sites,∃x,At p s.1.1 s.1.2.1 s.1.2.2 x:=adM (P:=λ S=>∀s∈S.sites,∃x,At p s.1.1 s.1.2.1 s.1.2.2 x) (by simp[SM.run]) (λ ay s hT=>hT) (λ ay f s hT=>hT) (λ ay f b i x ha hT=>by
 rw[RY];have U:∀s∈(if x.dst=ByteArray.empty then({ay with a_:=ay.a_++[(f,b,i)]}:SM)else SM.var {ay with a_:=ay.a_++[(f,b,i)]} f x.dst).sites,∃x,At p s.1.1 s.1.2.1 s.1.2.2 x:=by split<;>exact hT
 split
 .intro s hs;rcases b_.1 hs with h|h
  .exact U s h
  .cases jo.1 h;exact⟨x,ha⟩
 .exact U) _
theorem GP{p:List aQ}(h:pF p){o:Nat}(hz:((bj p).el o).2<0):∃x,At p ((bj p).el o).1.1 ((bj p).el o).1.2.1 ((bj p).el o).1.2.2 x:=by
 have Q:=ajt h;revert hz;unfold SM.el;cases e:(bj p).of[o]? with
 |none=>intro hz;dsimp only at hz;omega
 |some v=>
  obtain⟨k,s,rfl,hs,-⟩:=Q.of _ _ e
  intro _
  have Mz:(bj p).sites[((k:Nat):Int).toNat]?=some s:=hs
  dsimp only
  rw[Mz]
  exact yq s (oS hs)
noncomputable def C4(X:Fix)(V:SV)(q:Pt):List Int:=match Js X.S.p q with|some x=>D4 X V q.1 x|none=>[]
theorem FT{p:List aQ}{f b i:Nat}{x:bp}(h:At p f b i x):∃hf:f<p.length,b<p[f].blocks.length:=by obtain⟨fn,bk,O,U,-⟩:=h;rw[cW]at O U;obtain⟨hf,rfl⟩:=O;exact⟨hf,U.1⟩
theorem fn_one{p:List aQ}(h:pF p){fn:aQ}(hf:fn∈p):1<=fL fn.blocks:=by
 obtain⟨f,hf⟩:=sq hf;have b6:¬Sl p λ _ x=>Bo x:=h 6 (by omega) (by omega);have b10:¬(XR p\/jF p (wW p)):=h 10 (by omega) (by omega);cases hb:fn.blocks with
 |nil=>exact absurd ⟨f,fn,hf,by simp[Bo,hb]⟩ b6
 |cons bk bs=>
  rw[aFn]
  cases hc:bk.code with|nil=>exact absurd (.inl ⟨f,0,fn,bk,hf,by rw[hb];rfl,hc⟩) b10|cons x l=>rw[qi];omega
theorem len_szF:∀(p:List aQ),(∀fn∈p,1<=fL fn.blocks)->p.length<=ij p
 |[],_=>Nat.le_refl _
 |fn::p,h=>by
  have:=len_szF p λ f hf=>h f (by simp[hf])
  have:=h fn (by simp)
  rw[aFp,qi];omega
theorem Gr{α:Type}{g:α->Nat}:∀l:List α,(∀x∈l,g x=0)->(l.map g).sum=0
 |[],_=>rfl
 |x::l,h=>by
  have:=Gr l λ y G=>h y (by simp[G])
  have:=h x (by simp)
  rw[kB,sr]
  omega
theorem VC{α:Type}:∀l:List α,(l.map λ _=>0+1).sum=l.length
 |[]=>rfl
 |x::l=>by
  have:=VC l
  rw[kB,sr,qi]
  omega
theorem EI(p:List aQ):(bj p).a_.length=ij p:=by
 have O:=aCo p λ _=>0+1;have U:=akz (a:=λ _=>0) (c:=1) p;have F:uK (λ _=>0) p=0:=Gr p λ f _=>Gr f.blocks λ b _=>Gr b.code λ _ _=>rfl;have h4:(bj p).a_.map (gw p λ _=>0+1)=(bj p).a_.map λ _=>0+1:=SZ λ q hq=>by obtain⟨x,Z⟩:=abx q hq;unfold gw;rw[V5 Z]
 rw[h4,VC]at O;omega
theorem B7{K:D}{id:Nat}{p:List aQ}{X:Fix}{L:nk}{V:SV}(hW:pF p)(hF:Fit p)(hA:HH p)(hL:SC p)(hM:lu K id (bj p))(hX:X.S=bj p)(hFX:An X)(hR:fM X K L V.first V)(fk:V.Ok (bJ (bj p)) X.N)(hN:X.N=X.S.vars.length+X.S.of.length):T5 K id L.a (bj p) (C4 X V):=by
 have hp:=pT p;have hn:=Sf hW;have cQ:∀{q:Pt} {x:bp},At p q.1 q.2.1 q.2.2 x->C4 X V q=D4 X V q.1 x:=λ {q x} h=>by
  have:Js X.S.p q=some x:=by rw[hX,hp];exact V5 h
  unfold C4;rw[this]
 refine⟨hM,agE hW,by rw[hp];exact hn.1,by rw[hp];exact hn.2,?_,?_,λ q hq=>?_,λ q hq=>?_,λ fn iw=>?_,λ q hq T g=>?_⟩
 .have O:=len_szF p λ fn iw=>fn_one hW iw;have F:=EI p;omega
 .have F:=EI p;have h4:=hF.sz;omega
 .obtain⟨x,Z⟩:=abx q hq;rw[hp];exact(FT Z).1
 .obtain⟨x,Z⟩:=abx q hq;rw[cQ Z,hp];unfold D4;split
  .refine⟨by simp,λ f hf=>?_⟩;obtain rfl:f=X.S.gP x.fn:=by simpa using hf
   rw[hX];exact atw hW _
  .split
   .refine⟨aY afW Sc,λ f hf=>?_⟩;unfold sy iY at hf;obtain⟨O,U⟩:=Oz.1 hf;obtain⟨o',F,rfl⟩:=jn.1 O;obtain⟨o,h4,rfl⟩:=jn.1 F;have h5:o<(bj p).of.length+(bj p).p.length:=fk.sn _ _ ((ayg fk hN).1 h4).2.2;rw[hp]at h5;simp only[v8,rK]at U;rw[hX]at U⊢;omega
   .simp
 .rw[hp]at iw;obtain⟨f,hf⟩:=sq iw;exact(Z7 hW hA hL hf).1
 .obtain⟨x,Z⟩:=abx q hq;rw[cQ Z];exact amC (hR.ai g) hFX (by rw[hX,hp];exact Z)
theorem T2{au:Pt->List Int}{L:List Pt}(hB:∀q∈L,(au q).length<=4194304)(hl:L.length<=1024)(f:Nat):(i7 au L L.length f).length<=1099511627776:=by
 have O:=hx (g:=λ q=>((au q).filter λ x=>decide (x=(f:Int))).map λ _=>q) L λ x Z=>by rw[bW];exact aY (BP _ _) (hB x Z)
 unfold i7;rw[iF];have:=nW 4194304 hl;omega
theorem G7{au:Pt->List Int}{L:List Pt}{f:Nat}{q:Pt}:q∈i7 au L L.length f↔q∈L/\(f:Int)∈au q:=by
 unfold i7;rw[iF,List.mem_flatMap];constructor
 .rintro⟨q',O,U⟩;obtain⟨x,F,rfl⟩:=jn.1 U;obtain⟨h4,h5⟩:=Oz.1 F;obtain rfl:x=(f:Int):=by simpa using h5
  exact⟨O,h4⟩
 .rintro⟨O,U⟩;exact⟨q,O,jn.2 ⟨(f:Int),Oz.2 ⟨U,by simp⟩,rfl⟩⟩
theorem B8{C:Nat->List Pt}{dW:Pt->Bool}{st:Int}{s f:Nat}(h:d8 C dW st s f=true):(f:Int)=st/\(C f).length=0\/(f:Int)≠st/\∃s' q,s=s'+1/\C f=[q]/\dW q=false/\d8 C dW st s' q.1=true:=by
 cases s with
 |zero=>
  simp only[d8,v8,rK]at h
  exact .inl h
 |succ s=>
  unfold d8 at h
  split at h
  .rename_i e;exact .inl ⟨e,by simpa using h⟩
  .rename_i e
   refine .inr ⟨e,?_⟩;split at h
   .rename_i q hq;simp only[v8,ae1]at h;exact⟨s,q,rfl,hq,h.1,h.2⟩
   .cases h
theorem o6T:(fq 6,pq 6 15,pq 6 25,())=(some Tryz.f6,some [.op 0,.op 1,.op 2,.op 3,.op 4,.op 5,.op 6,.op 7,.op 8,.op 9,.op 10,.op 11,.op 13,.op 14,.op 15,.op 16,.wr 12 [16],.op 17,.op 18,.op 19,.op 20,.op 21,.op 22,.op 23,.op 24,.op 25,.op 26],some [.op 0,.op 1,.op 3,.op 4,.wr 2 [],.op 5,.op 6,.op 7,.op 8,.wr 9 [],.op 10,.op 11,.op 12,.op 13,.op 14,.op 15,.op 16,.op 17,.op 19,.op 20,.wr 18 [20],.op 21,.op 22,.op 23,.op 24,.op 25],()):=by kernel_rfl
def o6:=fe (jd o6T)
def w6a:=pe (jq o6T)
def w6b:=pe (jr o6T)
attribute [simp] w6a w6b
section
variable{H:D}
theorem hy(H:D):C E0 (.call 35 []) H λ w K=>K=H/\w=bl true:=Ht (n:=3) au6 rfl ⟨rfl,rfl⟩
end
theorem base_gr{X:Fix}{H K:D}{L:nk}{au:Nat->Nat}{V:SV}(hH:X.HB=H)(h:fM X K L au V):I [] H K:=by obtain⟨t,tn,tf,mn,mf,cn,cf,en,ef,dv,hO⟩:=h;rw[<-hH];exact hO.base
theorem i9.base{H K:D}{mid a n dH:Nat}{C:Nat->List Pt}{dW:Nat->List Int}{Rw:Nat->List Bool}{st:Int}(h:i9 H mid a n dH K C dW Rw st):I [] H K:=by obtain⟨p5,m,g',lo,c,t,ov,aL,O,-⟩:=h.ex;exact O.base
theorem R5{H:D}{p:List aQ}{vf:J}(hp:oO H vf p)(hz:ij p<=1048576)(ht:uK (λ x=>x.args.length) p<=1048576)(hl:uK (λ x=>x.eh.length) p<=1048576)(hT:xn H):C E0 (.call 6 [.agg [vf]]) H λ v _=>v=bl true:=by
 refine ba o6 rfl λ Q' hQ=>?_;simp[hp.cell,hp.co];generalize pK:D.add _ _=K0;have g0:I [] H K0:=by rw[<-pK];exact(I.refl _ _).add _
 have l1:Lv K0 H.ab (.cells 1 (Tr.e.put 0 (some vf)) false):=by rw[<-pK];exact Lv.new
 clear pK;try simp[l1.get]
 refine MT.step (atG (hp.zB g0) hz) ?_;rintro _ K1 ⟨⟨b,rfl,hb⟩,g1⟩;cases b with
 |true=>
  simp[cE (hy _)]
  exact hQ rfl
 |false=>
  have hF:Fit p:=⟨hb rfl,ht,hl⟩
  have A_:=l1.ai g1
  simp[A_.get]
  have hSA:HH p:=λ f b i x ha=>by have:=Xr (w:=λ x=>x.args.length) ha;omega
  have hSL:SC p:=λ f b i x ha=>by have:=Xr (w:=λ x=>x.eh.length) ha;omega
  refine MT.step (azc ((hp.zB g0).zB g1) hSA hSL agE) ?_
  rintro _ K2 ⟨rfl|⟨hW,id,rfl,hMI⟩,g2⟩
  .simp[cE (hy _)]
   exact hQ rfl
  have hM:=hMI.mp
  have UA:=aem hW hF
  have Uy:=alL hW hF
  have eX:=(hT.W (g0.trans g1)).W g2
  simp
  refine MT.step (aEX hM eX UA Uy) ?_
  rintro _ K3 ⟨X,L,rfl,xS,Sg,-,-,xN,f_⟩
  have fo:=base_gr Sg f_
  have hM3:=hM.W fo
  have hFX:An X:=⟨by rw[xS];exact UA,by rw[xN,xS]⟩
  have hI:=(SV.ad0 Uy.si Uy.rel).2
  have fk:(Bv (bj p)).Ok (bJ (bj p)) X.N:=by rw[xN];exact hI.ok
  have n9:X.N=X.S.vars.length+X.S.of.length:=by rw[xN,xS]
  have hCW:=B7 hW hF hSA hSL hM3 xS hFX f_ fk n9
  simp
  refine MT.step (C3 hCW) ?_
  rintro _ K4 ⟨dH,rfl,Gq⟩
  have hM4:=hM3.W Gq.base
  have Q:=ajt hW
  have ahH:=agE hW
  have hn:=pT p
  have cQ:∀o,((bj p).el o).2<0->∃hf:((bj p).el o).1.1<p.length,((bj p).el o).1.2.1<p[((bj p).el o).1.1].blocks.length:=λ o ho=>by obtain⟨x,Z⟩:=GP hW ho;exact FT Z
  have hCC:∀f,∀q∈i7 (C4 X (Bv (bj p))) (bj p).a_ (bj p).a_.length f,∃hf:q.1<p.length,q.2.1<p[q.1].blocks.length:=λ f q hq=>by obtain⟨x,Z⟩:=abx q (G7.1 hq).1;exact FT Z
  have hCl:∀f,(i7 (C4 X (Bv (bj p))) (bj p).a_ (bj p).a_.length f).length<=1099511627776:=T2 (λ q hq=>(hCW.E9 q hq).1) hCW.p1
  have Mq:∀i (A:i<p.length),sf p[i]:=λ i A=>(Z7 hW hSA hSL (bf A)).1
  have IP:∀q:Pt,∀hq:q.1<p.length,h1 (B2 (bj p)) q=(eV (lh p[q.1].blocks)).getD q.2.1 false:=λ q hq=>by unfold h1 B2;rw[hn,bf hq]
  obtain⟨m0,m1⟩:=atw hW Wu
  have avG:=(Sf hW).2
  simp
  refine MT.step (adX hM4 Wu) ?_
  rintro _ K5 ⟨⟨b_m,rfl⟩,g5⟩
  have hM5:=hM4.W g5
  have IT:=Gq.ai g5
  rw[hn]at IT
  generalize i7 (C4 X (Bv (bj p))) (bj p).a_ (bj p).a_.length=tB at IT hCC hCl
  obtain⟨m,B⟩:∃m:Nat,(bj p).gP Wu=m:=⟨((bj p).gP Wu).toNat,by omega⟩
  rw[B]at IT m0 m1
  generalize B2 (bj p)=Rw at IT IP
  have gA:I [] K1 K5:=(g2.trans fo).trans (Gq.base.trans g5)
  have hp5:=((hp.zB g0).zB g1).zB gA
  have l15:=A_.ai gA
  clear hCW hI fk n9 Uy UA f_ hFX
  generalize hSS:bj p=S at*
  simp[B]
  refine bu (α:=Nat) (aJ:=λ f sl K=>I [] K5 K/\sl.get 1=some (.ptr H.ab 0)/\sl.get 3=some (.ptr id 0)/\sl.get 5=some (.ptr dH 0)/\sl.get 6=some (ae (m:Nat))/\sl.get 8=some (ae (f:Nat))/\f<=p.length) (mu:=λ f=>p.length-f) ?_ 0 _ _ ?ini
  case ini=>exact⟨I.refl _ _,by simp⟩
  rintro b1 k1-cq f sl K ⟨gK,s1,s3,s5,s6,s8,hf⟩ ih
  have Yp:=l15.ai gK
  have hpK:=hp5.zB gK
  have hlK:=hpK.aN nf
  have hOK:=IT.ai gK
  by_cases iw:f<p.length
  .have Eu:f<maxLen:=by unfold maxLen;omega
   simp[s1,s3,s5,s6,s8,Yp.get,hlK,iw];refine bu (α:=Nat×Nat) (aJ:=λ z sl K6=>I [] K K6/\sl.get 1=some (.ptr H.ab 0)/\sl.get 3=some (.ptr id 0)/\sl.get 5=some (.ptr dH 0)/\sl.get 6=some (ae (m:Nat))/\sl.get 8=some (ae (f:Nat))/\sl.get 9=some (ae (z.1:Nat))/\sl.get 10=some (ae (z.2:Nat))/\z.1<p.length/\z.2<=p.length/\(d8 tB (h1 Rw) m p.length f=true->d8 tB (h1 Rw) m (p.length-z.2) z.1=true)) (mu:=λ z=>p.length-z.2) ?_ (f,0) _ _ ?ini2;case ini2=>exact⟨I.refl _ _,by simp[s1,s3,s5,s6,s8,iw]⟩
   rintro b2 k2-dO ⟨a,st⟩ Hn K6 ⟨g6,q1,q3,q5,q6,q8,q9,bo,I1,eH,hon⟩ eJ;dsimp only at q9 bo I1 eH hon eJ;have l6:=Yp.ai g6;have hp6:=hpK.zB g6;have hl6:=hp6.aN nf;have C7:=hOK.ai g6;have hco:=MZ C7 iw;cases ho:d8 tB (h1 Rw) m p.length f with
   |false=>
    rw[ho]at hco
    subst dO
    simp[q1,q3,q5,q6,q8,q9,bo,cE hco,bq Eu]
    exact ih (f+1) _ _ (by omega) ⟨gK.trans g6,by simp[q1,q3,q5,q6,dz iw]⟩
   |true=>
    rw[ho]at hco
    have hb:=B8 (hon ho)
    by_cases Qf:a=m
    .subst Qf
     have wE:(tB a).length=0:=by
      rcases hb with⟨-,h⟩|⟨h,-⟩
      .exact h
      .exact absurd rfl h
     subst dO;simp[q1,q3,q5,q6,q8,q9,bo,cE hco];refine MT.step (sM C7 (by omega) I1 (hCl a)) ?_;rintro u K7 ⟨hu,g7⟩;have MK:=hu.aN XD;rw[wE]at MK;simp[MK,q8,bq Eu];exact ih (f+1) _ _ (by omega) ⟨(gK.trans g6).trans g7,by simp[q1,q3,q5,q6,dz iw]⟩
    .have cR:¬(a:Int)=(m:Int):=by omega
     rcases hb with⟨h,-⟩|⟨-,s',q,e1,e2,e3,e4⟩
     .exact absurd h cR
     have hstl:st<p.length:=by omega
     obtain⟨Mv,uf⟩:=hCC a q (by rw[e2];simp);simp[q1,q3,q5,q6,q8,q9,bo,cE hco,cR];refine MT.step (sM C7 (by omega) I1 (hCl a)) ?_;rintro u K7 ⟨hu,g7⟩;rw[e2]at hu;have MK:=hu.aN XD;obtain⟨id8,ah,ax,ex,nn,tr,ro,M,rfl,VQ,aU,bU,oZ⟩:=hu.at_ (i:=0) (by simp);have gR:M=yI q:=oZ;subst gR;have hri:bc tr ah 3=some [ae (q.1:Nat),ae (q.2.1:Nat),ae (q.2.2:Nat)]:=by simpa using bU
     obtain⟨r0,r1,-⟩:=uE hri;have Mi:ah+3<=nn:=by simpa using aU
     have e0:ah<nn:=by omega
     have e1':ah+1<nn:=by omega
     have hp7:=hp6.zB g7;have l7:=l6.ai g7;have hl7:=hp7.aN nf;obtain⟨id9,off9,cap9,ex9,n9,t9,ro9,cs9,hv9,hl9,VP,VL,WT⟩:=hp7.at_ Mv;obtain⟨vp,vb,rfl,cr,Jp⟩:=WT;simp at MK;simp[q1,q3,q5,q6,q8,q9,bo,MK,de XD,de nf,l7.get,VQ.get,r0,r1,e0,e1',hv9,hl9.get,VP,bY VL,Mv,cr.cell,Jp.cell];refine MT.step (mo (HB:=K7) (fn:=p[q.1]) ⟨vp,vb,rfl,cr,Jp⟩ (I.refl _ _) (Mq _ Mv)) ?_;rintro w K8 ⟨⟨aL,hw,-⟩,g8⟩;have hwb:=hw.B6;have eN:(eV (lh p[q.1].blocks)).length=p[q.1].blocks.length:=by unfold eV lh;simp
     have hg:=IP q Mv;rw[e3,List.getD_eq_getElem?_getD,bf (by rw[eN];exact uf)]at hg;obtain⟨lJ,lU,rN,kY,n2,t2,qW,c2,rfl,ck,gV,iz,atU⟩:=hwb.gL (i:=q.2.1) (by rw[eN];exact uf);have k8:c2=bl false:=by
      have O:[c2]=[bl ((eV (lh p[q.1].blocks))[q.2.1]'(by rw[eN];exact uf))]:=atU
      rw[show(eV (lh p[q.1].blocks))[q.2.1]'(by rw[eN];exact uf)=false from hg.symm]at O
      simpa using O
     subst k8;have l88:=VQ.ai g8;have l18:=l7.ai g8;have hl88:=(hp7.zB g8).aN nf;have AW:¬(p.length:Int)<=(st:Int):=by omega
     have Dd:st<maxLen:=by unfold maxLen;omega
     simp;refine dF (by simp[dA,dm,val,q1,q3,q5,q6,q8,q9,bo,de XD,de nf,l18.get,l88.get,r0,r1,e0,e1',hv9,(hl9.ai g8).get,VP,bY VL,Mv,cr.cell,Jp.cell]) ?_;simp[q1,q3,q5,q6,q8,q9,bo,eN,uf,de XD,de alr,l18.get,l88.get,r0,e0,hl88,ck.get,gV,iz,AW,bq Dd];exact eJ (q.1,st+1) _ _ (by show _-(st+1)<_-st;omega) ⟨(g6.trans g7).trans g8,by simp[q1,q3,q5,q6,q8,Mv,dz hstl];exactλ _=>by rw[show p.length-(st+1)=s' by omega];exact e4⟩
  .obtain rfl:f=p.length:=by omega
   subst cq;simp[s1,s3,s5,s6,s8,Yp.get,hlK];have mC:S.p.length<=1048576:=by rw[hn];omega
   refine bu (α:=Nat) (aJ:=λ o sl K6=>I [] K K6/\sl.get 1=some (.ptr H.ab 0)/\sl.get 3=some (.ptr id 0)/\sl.get 5=some (.ptr dH 0)/\sl.get 12=some (ae (o:Nat))/\o<=S.of.length+S.p.length) (mu:=λ o=>S.of.length+S.p.length-o) ?_ 0 _ _ ?ini3;case ini3=>exact⟨I.refl _ _,by simp[s1,s3,s5]⟩
   rintro b3 k3-jU o sl3 K6 ⟨g6,q1,q3,q5,FW,ho⟩ jg;have l6:=Yp.ai g6;have hp6:=hpK.zB g6;have C7:=hOK.ai g6;have hM6:=(hM5.W gK).W g6;have jB:=smObjs hM6 ahH mC;by_cases hon:o<S.of.length+S.p.length
   .have hoi:(o:Int)<(S.of.length:Int)+(S.p.length:Int):=by omega
    have hom:o<maxLen:=by obtain⟨f1,f2,f3,f4,f5⟩:=ahH;unfold maxLen;omega
    have Dd:=LK hM6 Q ahH mC hon;obtain⟨⟨⟨f,b,i⟩,z⟩,Dg⟩:∃z,S.el o=z:=⟨_,rfl⟩;have hao:=cQ o;rw[Dg]at hao Dd;simp[q1,q3,q5,FW,cE jB,hoi];refine MT.step Dd ?_;rintro _ K7 ⟨⟨k,rfl⟩,g7⟩;dsimp only at hao⊢;simp[q1,q3,q5,FW];generalize LW:D.put _ _ _=K8;have g8:I [] K7 K8:=by rw[<-LW];exact I.new (I.refl _ _) _ _
    have l8:∃t,Lv K8 K7.ab (.cells 3 t false)/\t.get 0=some (ae (f:Nat))/\t.get 1=some (ae (b:Nat)):=by rw[<-LW];exact⟨_,Lv.new.put_eq,by simp⟩
    clear LW;obtain⟨t8,l8,z0,z1⟩:=l8;have g68:=g7.trans g8;have hsi:=Lc (C7.ai g68) (hM6.W g68) Q ahH mC hon λ h=>(cQ o h).1;rw[Dg]at hsi;refine MT.step hsi ?_;rintro _ K9 ⟨rfl,g9⟩;have l9:=l8.ai g9;have g69:=g68.trans g9;have l69:=l6.ai g69;have hp9:=hp6.zB g69;have hl9:=hp9.aN nf;have hO9:=C7.ai g69;by_cases hz:z<0
    .obtain⟨iw,qP⟩:=hao hz;have hco:=MZ hO9 iw;cases T9:d8 tB (h1 Rw) m p.length f with
     |false=>
      rw[T9]at hco
      simp[q1,q3,q5,FW,hz,T9,l9.get,z0,z1,cE hco]
      refine dF (by simp[dA,dm,val,q1,q3,q5,FW,hz,T9,l9.get,z0,z1]) ?_
      simp[q1,q3,q5,FW,hz,T9,bq hom]
      exact jg (o+1) _ _ (by omega) ⟨g6.trans g69,by simp[q1,q3,q5];omega⟩
     |true=>
      rw[T9]at hco
      obtain⟨idA,offA,capA,exA,n_A,t_A,roA,csA,hvA,U9,VO,VK,hRA⟩:=hp9.at_ iw
      obtain⟨vp,vb,rfl,cr,Jp⟩:=hRA
      simp[q1,q3,q5,FW,hz,T9,l9.get,z0,z1,cE hco,l69.get,hl9,de nf,hvA,U9.get,VO,bY VK,iw,cr.cell,Jp.cell]
      refine MT.step (mo (HB:=K9) (fn:=p[f]) ⟨vp,vb,rfl,cr,Jp⟩ (I.refl _ _) (Mq _ iw)) ?_
      rintro w K_A ⟨⟨aL,hw,-⟩,gA⟩
      have hwb:=hw.B6
      have eN:(eV (lh p[f].blocks)).length=p[f].blocks.length:=by unfold eV lh;simp
      have hg:=IP (f,b,i) iw
      rw[List.getD_eq_getElem?_getD,bf (by rw[eN];exact qP)]at hg
      obtain⟨lJ,lU,rN,kY,n2,t2,qW,c2,rfl,ck,gV,iz,atU⟩:=hwb.gL (i:=b) (by rw[eN];exact qP)
      have k8:c2=bl (h1 Rw (f,b,i)):=by
       have O:[c2]=[bl ((eV (lh p[f].blocks))[b]'(by rw[eN];exact qP))]:=atU
       rw[show(eV (lh p[f].blocks))[b]'(by rw[eN];exact qP)=h1 Rw (f,b,i)from hg.symm]at O
       simpa using O
      subst k8
      have lA:=l9.ai gA
      have l6A:=l69.ai gA
      have hlA2:=(hp9.zB gA).aN nf
      simp
      refine dF (by simp[dA,dm,val,q1,q3,q5,FW,hz,lA.get,z0,z1,l6A.get,hlA2,de nf,hvA,(U9.ai gA).get,VO,bY VK,iw,cr.cell,Jp.cell]) ?_
      simp[q1,q3,q5,FW,eN,qP,lA.get,z0,z1,de alr,ck.get,gV,iz,bq hom]
      exact jg (o+1) _ _ (by omega) ⟨(g6.trans g69).trans gA,by simp[q1,q3,q5];omega⟩
    .simp[hz];refine dF (by simp[dA,dm,val]) ?_;simp[q1,q3,q5,FW,hz,bq hom];exact jg (o+1) _ _ (by omega) ⟨g6.trans g69,by simp[q1,q3,q5];omega⟩
   .obtain rfl:o=S.of.length+S.p.length:=by omega
    subst jU;simp[q1,q3,q5,FW,cE jB,cE (hy _)];exact hQ rfl
theorem J6{α:Type}{f g:α->Nat}:∀(L:List α) (_:∀x∈L,f x<=g x),(L.map f).sum<=(L.map g).sum
 |[],_=>aF
 |a::L,h=>by
  have O:=h a (by simp)
  have U:=J6 L λ x Z=>h x (by simp[Z])
  simp only[kB,sr]
  omega
def aFo(p:List aQ):ij p<=OO p:=J6 (α:=aQ) p λ f _=>by
 have h:fL f.blocks<=(f.blocks.map Ic).sum:=J6 (α:=cU) f.blocks λ b _=>by
  have O:b.code.length<=(b.code.map zm).sum:=by
   have:=J6 (f:=λ _=>1) (g:=zm) b.code λ x _=>by unfold zm;omega
   rw[akW]at this;exact this
  show b.code.length<=(b.code.map zm).sum+1;omega
 show fL f.blocks<=(f.blocks.map Ic).sum+1;omega
def akA{w:bp->Nat}(hw:∀x,w x<=zm x)(p:List aQ):uK w p<=OO p:=J6 (α:=aQ) p λ f _=>by
 have h:vT w f.blocks<=(f.blocks.map Ic).sum:=J6 (α:=cU) f.blocks λ b _=>by have O:=J6 (f:=w) (g:=zm) b.code λ x _=>hw x;show(b.code.map w).sum<=(b.code.map zm).sum+1;omega
 show vT w f.blocks<=(f.blocks.map Ic).sum+1;omega
def axv{H:D}{p:List aQ}{vf:J}(hp:oO H vf p)(hb:OO p<=1048576)(hT:xn H):C E0 (.call 6 [.agg [vf]]) H λ v _=>v=bl true:=R5 hp (aY (aFo p) hb) (aY (akA (λ x=>by unfold zm;omega) p) hb) (aY (akA (λ x=>by unfold zm;omega) p) hb) hT
def ak7:Bool:=match H0.get 0 with
 |some (.cells 64 t _)=>(List.range 64).all λ j=>match t.get j with|some (.lit (.int .u8 n))=>n==((Lib.deBruijn64tab.getD j 0:Nat):Int)|_=>false
 |_=>false
theorem aFu:ak7=true:=by kernel_rfl
theorem aze:Nat.ble 1 H0.ab=true:=by kernel_rfl
def aFv:xn H0:=by
 have h:=aFu;unfold ak7 at h;split at h
 .rename_i t ro e;refine⟨t,ro,⟨OD aze,e⟩,λ j hj=>?_⟩;have O:=yZ.1 h j (mj.2 hj);split at O
  .rename_i n e2;rw[e2];have:n=((Lib.deBruijn64tab.getD j 0:Nat):Int):=by simpa using O
   rw[this]
  .cases O
 .cases h
def axu{w:bI}{ay:Type}{enc:aS×aC->ay}{bk:DataW ay->Nat}(cJ:BK bk)(ht:yW w g_)(hT:∀f∈FC,Kr Tryz.prog w f)(o8:∀E,eW Tryz.prog E->(∀f n,E.Q.get f=some n->(f,n)∈yg++FC.map λ f=>(f,5))->Hz Tryz.prog E w){fuel:Nat}{xs:Array aC}{x:DataW ay×List MemPlace}(Z:DataW.trod enc Tryz.prog w 0 (λ _=>true) true fuel 24 xs.toList=some x)(hb:bk x.1<=1048576):Calls Tryz.prog 6 #[.agg xs] w λ e w'=>e=.returned (.bool true)/\jG (λ _=>False) w w':=by
 obtain⟨ρ,hr⟩:=auO given (agl _) (auN _) ht
 obtain⟨eU,H1,p,l,k1,k2,k3,k4,⟨vf,rfl,hp⟩,k6⟩:=aps cJ fuel _ x Z ρ H0 hr
 exact an5 given (agl _) k1 (axv hp (aY k6 hb) (aFv.W k3)) (.cons (.agg k4) .nil) o8
def aGB(w:World)(ht:yW w g_):∀f∈FC,Kr Tryz.prog w f:=by
 intro f hf;obtain rfl:f=35:=by simpa[FC]using hf
 exact XA ht λ w ht=>Xl (ws:=[]) aGx (λ _=>.nil) w ht (λ f h=>by cases h) (λ f h=>by cases h)
theorem aGA:∀f∈FC,∀args w,(callFunc f args).run Tryz.prog w=.ok (.enter f args) w:=by
 intro f hf;obtain rfl:f=35:=by simpa[FC]using hf
 exact enters_of Tryz.func35 (by kernel_rfl) rfl
end
end Go.Proofs.YtgipmaoplfkdoaaGreatDoor
