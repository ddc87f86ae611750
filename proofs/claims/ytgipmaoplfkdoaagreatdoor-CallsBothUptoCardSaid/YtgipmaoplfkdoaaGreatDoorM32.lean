import Derived.Test.YtgipmaoplfkdoaaGreatDoorM31
import Derived.Test.YtgipmaoplfkdoaaGreatDoorWK18
set_option linter.all false
set_option maxRecDepth 100000
set_option maxHeartbeats 400000000
namespace Go.Proofs.YtgipmaoplfkdoaaGreatDoor
noncomputable section
open Go.RowKit
variable{f b:Nat}{x:bp}{K H:D}{X:Fix}{L:nk}{V:SV}{au:Pt->BW}{st:Int}{l:BW}{a:AT}{c:Nat->Int}{g:List BW}{vf:J}{w:bp->Nat}{ay:Type}{xs:Array aC}{enc:aS×aC->ay}
theorem LF:(fq 29,fq 38,fq 39,fq 41,fq 42,fq 107,pq 41 6,pq 41 7,pq 41 8,pq 42 4,())=(some Tryz.f29,some Tryz.f38,some Tryz.f39,some Tryz.f41,some Tryz.f42,some Tryz.f107,some [.op 0,.op 1,.op 2,.op 3,.op 4,.op 5,.op 6,.op 7,.wr 8 [5,6],.op 9,.op 10,.op 11],some [.op 0,.op 1,.op 2,.op 3,.op 4,.op 5,.op 6,.op 7,.op 8,.op 9,.op 10,.op 11,.op 12,.op 13,.wr 14 []],some [.op 0,.op 1,.op 2,.op 3,.op 4,.op 5,.wr 6 [4],.op 7,.op 8,.op 9],some [.op 0,.op 1,.op 2,.op 3,.op 4,.op 5,.op 6,.op 7,.op 8,.op 9,.op 10,.op 11,.op 12,.op 13,.op 14,.op 15,.op 16,.op 17,.op 18,.wr 19 [],.op 20,.op 21,.op 22],()):=by kernel_rfl
def o29:=fe (jd LF)
def o38:=fe (jq LF)
def o39:=fe (jr LF)
def o41:=fe (js LF)
def o42:=fe (jt LF)
def o107:=fe (ju LF)
def w41a:=pe (jv LF)
def w41b:=pe (jw LF)
def w41c:=pe (jx LF)
def w42:=pe (jy LF)
attribute [simp] w41a w41b w41c w42
section
variable{H K:D}{mid a n dH:Nat}{kK:Nat->List Pt}{n7:Nat->BW}{Rw:Nat->List Bool}{st:Int}
theorem Hk(h:yq H mid a n dH K kK n7 Rw st)(f:Nat):CN 107 [.ptr dH 0,ae (f:Nat)] K λ v T=>T=K/\v=bl (decide (f<n)):=by
 obtain⟨p5,m,g,lo,c,t,ov,aL,hS,-⟩:=h.ex;refine ba o107 rfl λ Q' hQ=>?_;have h0:¬(f:Int)<0:=by omega
 simp[hS.ob.get,hS.t3,de yO,h0];exact hQ ⟨rfl,by simp⟩
theorem Hy(h:yq H mid a n dH K kK n7 Rw st)(hf:f<n):CN 38 [.ptr dH 0,ae (f:Nat)] K λ v T=>T=K/\v=bl (d8 kK (AH Rw) st n f):=by
 have ht:=Hk h f;rw[Ti hf]at ht;obtain⟨p5,m,g,lo,c,t,ov,aL,hS,-,-,e6,ho⟩:=h.ex;refine ba o38 rfl λ Q' hQ=>?_;obtain⟨id,ax,ex,tr,rfl,rfl,lr,hg,aU,he,B⟩:=ho.uC (by simp;omega);have hgf:=hg f (by simpa using hf);simp[hf]at hgf aU;have zG:f<ax:=by omega
 simp[cE ht,hS.ob.get,e6,lr.get,hgf,hf,zG];exact hQ ⟨rfl,rfl⟩
theorem Jn(h:yq H mid a n dH K kK n7 Rw st)(hn:n<=1048576)(hf:f<n)(hC:(kK f).length<=1099511627776):CN 39 [.ptr dH 0,ae (f:Nat)] K λ v T=>aW T 3 XX v (kK f)/\I [] K T:=by obtain⟨p5,m,g,lo,c,t,ov,aL,hS,-⟩:=h.ex;refine ba o39 rfl λ Q' hQ=>?_;obtain⟨mc,ml,u,aL,a1,a2,a3,a4,a5,-⟩:=hS.oI.G6 hf hn;have oo:aW K 3 XX u (kK f):=a4.yN (by omega) (IF (c:=yI) (es:=3) λ _=>rfl) λ i A=>Lo (c:=yI) (es:=3) (λ _=>rfl) A;simp[hS.ob.get,hS.t2,a1.get];refine Fi (v:=u) (T:=K) (by rw[<-a3];exact Wn) ?_;simp;refine CW (aoE oo (λ a M h=>by rw[h];rfl) (by omega)) ?_;rintro v K2 ⟨g2,M,aH,O,U,F,h4⟩;simp;exact hQ ⟨O.yN (by omega) F h4,g2⟩
end
noncomputable def E6(X:Fix)(V:SV)(q:Pt):BW:=match Js X.S.p q with|some x=>D4 X V q.1 x|none=>[]
theorem at_lt{p:List aQ}{i:Nat}(h:At p f b i x):∃hf:f<p.length,b<p[f].blocks.length:=by obtain⟨fn,bk,O,U,-⟩:=h;rw[cW]at O U;obtain⟨hf,rfl⟩:=O;exact⟨hf,U.1⟩
theorem fn_one{p:List aQ}(h:pF p){fn:aQ}(hf:fn∈p):1<=fL fn.blocks:=by
 have⟨f,hf⟩:=sq hf;have b6:¬Sl p λ _ x=>Bo x:=h 6 (by omega) (by omega);have b10:¬(XR p\/jF p (wW p)):=h 10 (by omega) (by omega);cases hb:fn.blocks with
 |nil=>exact absurd ⟨f,fn,hf,by simp[Bo,hb]⟩ b6
 |cons bk bs=>
  rw[aFn]
  cases hc:bk.code with|nil=>exact absurd (.inl ⟨f,0,fn,bk,hf,by rw[hb];rfl,hc⟩) b10|cons x l=>rw[qi];omega
theorem len_szF:∀(p:List aQ),(∀fn∈p,1<=fL fn.blocks)->p.length<=ij p
 |[],_=>Nat.le_refl _
 |fn::p,h=>by
  have:=len_szF p λ f hf=>h f (by simp[hf])
  have:=h fn (by simp)
  rw[aFp,qi];omega
theorem EM{α:Type}{g:α->Nat}:∀l:List α,(∀x∈l,g x=0)->(l.map g).sum=0
 |[],_=>rfl
 |x::l,h=>by
  have:=EM l λ y G=>h y (by simp[G])
  have:=h x (by simp)
  rw[kB,sr]
  omega
theorem X4{α:Type}:∀l:List α,(l.map λ _=>0+1).sum=l.length
 |[]=>rfl
 |x::l=>by
  have:=X4 l
  rw[kB,sr,qi]
  omega
theorem GP(p:List aQ):(bj p).a_.length=ij p:=by
 have O:=aCo p λ _=>0+1;have U:=akz (a:=λ _=>0) (c:=1) p;have F:uK (λ _=>0) p=0:=EM p λ f _=>EM f.blocks λ b _=>EM b.code λ _ _=>rfl;have h4:(bj p).a_.map (gw p λ _=>0+1)=(bj p).a_.map λ _=>0+1:=SZ λ q hq=>by have⟨x,Z⟩:=abx q hq;unfold gw;rw[V5 Z]
 rw[h4,X4]at O;omega
theorem EK{p:List aQ}(hW:pF p)(hF:Fit p)(hA:HH p)(hL:SC p)(hM:lu K b (bj p))(hX:X.S=bj p)(hFX:An X)(hR:fM X K L V.first V)(fk:V.Ok (bJ (bj p)) X.N)(hN:X.N=X.S.vars.length+X.S.of.length):VX K b L.a (bj p) (E6 X V):=by
 have hp:=pT p;have hn:=Sf hW;have cQ:∀{q:Pt} {x:bp},At p q.1 q.2.1 q.2.2 x->E6 X V q=D4 X V q.1 x:=λ {q x} h=>by
  have:Js X.S.p q=some x:=by rw[hX,hp];exact V5 h
  unfold E6;rw[this]
 refine⟨hM,agE hW,by rw[hp];exact hn.1,by rw[hp];exact hn.2,?_,?_,λ q hq=>?_,λ q hq=>?_,λ fn iw=>?_,λ q hq T g=>?_⟩
 .have O:=len_szF p λ fn iw=>fn_one hW iw;have F:=GP p;omega
 .have F:=GP p;have h4:=hF.sz;omega
 .have⟨x,Z⟩:=abx q hq;rw[hp];exact(at_lt Z).1
 .have⟨x,Z⟩:=abx q hq;rw[cQ Z,hp];unfold D4;split
  .refine⟨by simp,λ f hf=>?_⟩;obtain rfl:f=X.S.gP x.fn:=by simpa using hf
   rw[hX];exact atw hW _
  .split
   .refine⟨aY afW Sc,λ f hf=>?_⟩;unfold sy iY at hf;have⟨O,U⟩:=Oz.1 hf;obtain⟨o',F,rfl⟩:=jn.1 O;obtain⟨o,h4,rfl⟩:=jn.1 F;have h5:o<(bj p).of.length+(bj p).p.length:=fk.sn _ _ ((ayg fk hN).1 h4).2.2;rw[hp]at h5;simp only[v8,rK]at U;rw[hX]at U⊢;omega
   .simp
 .rw[hp]at iw;have⟨f,hf⟩:=sq iw;exact(Z7 hW hA hL hf).1
 .have⟨x,Z⟩:=abx q hq;rw[cQ Z];exact amC (hR.ai g) hFX (by rw[hX,hp];exact Z)
theorem VS{L:List Pt}(hB:∀q∈L,(au q).length<=4194304)(hl:L.length<=1024)(f:Nat):(h2 au L L.length f).length<=1099511627776:=by
 have O:=hk (g:=λ q=>((au q).filter λ x=>decide (x=(f:Int))).map λ _=>q) L λ x Z=>by rw[bW];exact aY (BP _ _) (hB x Z)
 unfold h2;rw[iF];have:=nW 4194304 hl;omega
theorem B2{L:List Pt}{q:Pt}:q∈h2 au L L.length f↔q∈L/\(f:Int)∈au q:=by
 unfold h2;rw[iF,List.mem_flatMap];constructor
 .rintro⟨q',O,U⟩;obtain⟨x,F,rfl⟩:=jn.1 U;have⟨h4,h5⟩:=Oz.1 F;obtain rfl:x=(f:Int):=by simpa using h5
  exact⟨O,h4⟩
 .rintro⟨O,U⟩;exact⟨q,O,jn.2 ⟨(f:Int),Oz.2 ⟨U,by simp⟩,rfl⟩⟩
theorem eV{C:Nat->List Pt}{dW:Pt->Bool}(h:d8 C dW st b f=true):(f:Int)=st/\(C f).length=0\/(f:Int)≠st/\∃s' q,b=s'+1/\C f=[q]/\dW q=false/\d8 C dW st s' q.1=true:=by
 cases b with
 |zero=>
  simp only[d8,v8,rK]at h
  exact .inl h
 |succ b=>
  unfold d8 at h
  split at h
  .rename_i e;exact .inl ⟨e,by simpa using h⟩
  .rename_i e
   refine .inr ⟨e,?_⟩;split at h
   .rename_i q hq;simp only[v8,ae1]at h;exact⟨b,q,rfl,hq,h.1,h.2⟩
   .cases h
section
variable{H:D}
theorem h3(H:D):CN 35 [] H λ w K=>K=H/\w=bl true:=Ht (n:=3) au6 rfl ⟨rfl,rfl⟩
end
theorem base_gr{au:Nat->Nat}(hH:X.HB=H)(h:fM X K L au V):I [] H K:=by have⟨t,tn,tf,mn,mf,cn,cf,en,ef,dv,hO⟩:=h;rw[<-hH];exact hO.base
theorem yq.base{H K:D}{mid a n dH:Nat}{C:Nat->List Pt}{dW:Nat->BW}{Rw:Nat->List Bool}{st:Int}(h:yq H mid a n dH K C dW Rw st):I [] H K:=by obtain⟨p5,m,g',lo,c,t,ov,aL,O,-⟩:=h.ex;exact O.base
theorem VF:(fq 7,fq 30,fq 45,fq 47,pq 7 18,pq 47 3,pq 30 6,())=(some Tryz.f7,some Tryz.f30,some Tryz.f45,some Tryz.f47,some [.op 0,.op 1,.op 2,.op 3,.op 4,.op 5,.wr 6 [3],.op 7,.op 8,.op 9,.op 10,.wr 11 [],.op 12,.op 13,.op 14,.wr 15 [],.op 16,.op 17],some [.op 0,.op 1,.op 2,.op 3,.op 4,.wr 5 [],.op 6],some [.op 0,.op 1,.op 2,.op 3,.op 4,.op 5,.op 6,.op 7,.op 8],()):=by kernel_rfl
def o7:=fe (jd VF)
def o30:=fe (jq VF)
def o45:=fe (jr VF)
def o47:=fe (js VF)
def w7:=pe (jt VF)
def w47:=pe (ju VF)
def w30:=pe (jv VF)
attribute [simp] w7 w47 w30
section
variable{H K:D}{u v:J}{aR:BW}{mid a n dH:Nat}{kK:Nat->List Pt}{n7:Nat->BW}{Rw:Nat->List Bool}{st:Int}
theorem same_c(ha:aW H 1 (One λ n=>ae n) u aR)(hb:aW H 1 (One λ n=>ae n) v aR):CN 30 [u,v] H λ w K=>K=H/\w=bl true:=by
 refine ba o30 rfl λ Q' hQ=>?_;have sI:=ha.aN bK;have vB:=hb.aN bK;simp[sI,vB];refine CA (λ i sl K=>K=H/\AV sl 0 u/\AV sl 1 v/\AV sl 5 (ae i)/\i<=aR.length) aR.length ⟨rfl,by simp⟩ ?_
 rintro b kk-Q i sl K ⟨rfl,g0,g1,g5,A⟩ ih;by_cases az:i<aR.length
 .obtain⟨id,ah,ax,ex,n,t,ro,c,rfl,hl,aU,bU,oZ⟩:=ha.gL az;have hc:c=ae aR[i]:=by have:[c]=[ae aR[i]]:=oZ;simpa using this
  subst hc;obtain⟨lJ,lU,rN,kY,n2,t2,qW,c2,rfl,ck,gV,iz,atU⟩:=hb.gL az;have k8:c2=ae aR[i]:=by have:[c2]=[ae aR[i]]:=atU;simpa using this
  subst k8;have:=ha.cP;simp[g0,g1,g5,az,hl.get,bU,aU,ck.get,iz,gV,de bK,bq (aT az this)];exact ih (by omega) ⟨rfl,by simp[g0,g1,dz az]⟩
 .obtain rfl:i=aR.length:=by omega
  subst Q;simp[g0,g5,sI];exact hQ ⟨rfl,rfl⟩
theorem cRec(h:yq H mid a n dH K kK n7 Rw st)(hf:f<n):CN 45 [.ptr dH 0,ae (f:Nat)] K λ v T=>T=K/\v=bl (hi ((List.range n).map n7) (Pa ((List.range n).map n7)) f):=by
 have ht:=Hk h f;rw[Ti hf]at ht;obtain⟨p5,m,g,lo,c,t,ov,aL,hS,⟨-,-,-,-,-,-,-,-,B6,B7,q1,q2,-⟩,-⟩:=h.ex;refine ba o45 rfl λ Q' hQ=>?_;have bA:((el ((List.range n).map n7)).map λ b=>bl b).length=n:=by simp[el]
 obtain⟨id,ax,ex,tr,rfl,rfl,lr,hg,aU,he,B⟩:=q2.uC (by omega);have hgf:=hg f (by omega);rw[bA]at aU;have hc:((el ((List.range n).map n7)).map λ b=>bl b)[f]?=some (bl (hi ((List.range n).map n7) (Pa ((List.range n).map n7)) f)):=by unfold el;simp[hf]
 rw[hc]at hgf;have zG:f<ax:=by omega
 have ck:(el ((List.range n).map n7)).length=n:=by simpa using bA
 simp[cE ht,hS.ob.get,q1,lr.get,hgf,hf,zG,ck];exact hQ ⟨rfl,rfl⟩
theorem B5(h:yq H mid a n dH K kK n7 Rw st){q:Pt}(hc:∀K,I [] H K->CN 23 [.ptr a 0,ptV q] K λ u T=>(∃aL,aX T 1 u (aZ l) aL/\∀y∈aL,K.ab<=y)/\I [] K T):CN 47 [.ptr dH 0,ptV q] K λ u T=>aW T 1 (One λ n=>ae n) u l/\I [] K T:=by
 refine ba o47 rfl λ Q' hQ=>?_;obtain⟨p5,m,g,lo,c,t,ov,aL,hS,-,e0,-⟩:=h.ex;have e1:¬dH=K.ab:=bC hS.ob.lt;simp[hS.ob.get,e1,e0.2];generalize ed:D.add _ _=K1;have g1:I [] K K1:=by rw[<-ed];exact(I.refl _ _).add _
 clear ed;refine CW (hc K1 (hS.base.trans g1)) ?_;rintro u K2 ⟨⟨Y2,hu,-⟩,g2⟩;simp;exact hQ ⟨hu.aZ,g1.trans g2⟩
end
def Gr(g:List BW)(y x:Nat):Prop:=(x:Int)∈g[y]?.getD []
structure mo(g:List (List Int))(bs:Nat->Prop)(s:eP)(ws:List Nat):Prop where
 cn:∀x,s.wh x<=s.fi
 EN:s.wait.Pairwise λ x y=>s.wh x<s.wh y
 LB:ws.Sublist s.wait
 bb:∀x,bs x->s.wh x≠0
 bg:∀x,s.wh x≠0->x∈s.wait\/0<=s.cm x
 wc:∀x,0<=s.cm x\/x∈s.wait->s.wh x≠0
 nw:∀x,0<=s.cm x->x∉s.wait
 aR:∀x∈s.wait,∀q∈ws,s.wh q<s.wh x->∃y∈s.wait,s.wh q<=s.wh y/\s.wh y<s.wh x/\Gr g y x
 aG:∀x∈s.wait,(s.lo x=s.wh x/\x∈ws)\/∃w∈s.wait,∃u∈s.wait,Gr g u w/\s.lo x=s.wh w/\s.wh w<s.wh x/\s.wh x<=s.wh u/\∀q∈ws,s.wh x<s.wh q->s.wh u<s.wh q
 C:∀x∈s.wait,∀q∈ws,s.wh q<s.wh x->s.lo q<=s.lo x\/∃r∈ws,s.wh q<s.wh r/\s.wh r<=s.wh x
 bZ:∀x y,0<=s.cm x->x≠y->s.cm y=s.cm x->∃z,s.cm z=s.cm x/\Gr g z x
 E:∀x,0<=s.cm x->s.cm (s.cm x).toNat=s.cm x
section
variable{g:List BW}{bs:Nat->Prop}{s:eP}{ws l:AT}{i k:Nat}
theorem mo.nu(h:mo g bs s ws)(Q:s.wh k=0)(hl:∀q∈ws,∃i∈ws,s.wh q<=s.wh i/\Gr g i k):mo g (λ x=>bs x\/x=k) (s.nu k) (ws++[k]):=by
 have hkw:k∉s.wait:=λ B=>h.wc k (.inr B) Q;have cR:∀x∈s.wait,x≠k:=λ x Z e=>hkw (e▸Z);have hw:∀x,x≠k->(s.nu k).wh x=s.wh x:=λ x Z=>ao Z;have ho:∀x,x≠k->(s.nu k).lo x=s.lo x:=λ x Z=>ao Z;have hwk:(s.nu k).wh k=((s.fi+1:Nat):Int):=aq rfl;have fk:(s.nu k).lo k=((s.fi+1:Nat):Int):=aq rfl;have bm:∀x,x≠k->(s.nu k).wh x<(s.nu k).wh k:=λ x Z=>by rw[hw x Z,hwk];have:=h.cn x;omega
 have az:∀{x:Nat} {a:AT},x∈a++[k]->x∈a\/x=k:=λ {x a} Z=>by simpa using Z
 have yw:∀q∈ws,q≠k:=λ q hq=>cR q (h.LB.subset hq);refine⟨λ x=>?_,?_,h.LB.append (List.Sublist.refl _),λ x Z=>?_,λ x Z=>?_,λ x Z=>?_,λ x Z B=>?_,λ x Z q hq wJ=>?_,λ x Z=>?_,λ x Z q hq wJ=>?_,h.bZ,h.E⟩
 .by_cases e:x=k
  .rw[e,hwk];exact Ys _
  .rw[hw x e];have:=h.cn x;show _<=((s.fi+1:Nat):Int);omega
 .show(s.wait++[k]).Pairwise _;rw[List.pairwise_append];refine⟨h.EN.imp_of_mem λ {a b} ha hb r=>by rw[hw a (cR a ha),hw b (cR b hb)];exact r,by simp,λ a ha b hb=>?_⟩;obtain rfl:b=k:=by simpa using hb
  exact bm a (cR a ha)
 .by_cases e:x=k
  .rw[e,hwk];omega
  .rw[hw x e];exact h.bb x (Z.resolve_right e)
 .by_cases e:x=k
  .exact .inl (by rw[e];show k∈s.wait++[k];simp)
  .rw[hw x e]at Z;exact(h.bg x Z).imp (λ B=>zb _ B) id
 .by_cases e:x=k
  .rw[e,hwk];omega
  .rw[hw x e];exact h.wc x (Z.imp id λ B=>(az B).resolve_right e)
 .rcases az B with B|e
  .exact h.nw x Z B
  .exact h.wc x (.inl Z) (by rw[e];exact Q)
 .rcases az Z with O|rfl
  .rcases az hq with U|rfl
   .rw[hw q (yw q U),hw x (cR x O)]at wJ;have⟨y,y1,y2,y3,y4⟩:=h.aR x O q U wJ;exact⟨y,zb _ y1,by rw[hw q (yw q U),hw y (cR y y1)];exact y2,by rw[hw x (cR x O),hw y (cR y y1)];exact y3,y4⟩
   .have:=bm x (cR x O);omega
  .rcases az hq with hq|rfl
   .have⟨i,i1,i2,i3⟩:=hl q hq;exact⟨i,zb _ (h.LB.subset i1),by rw[hw q (yw q hq),hw i (yw i i1)];exact i2,bm i (yw i i1),i3⟩
   .omega
 .rcases az Z with Z|rfl
  .rw[hw x (cR x Z),ho x (cR x Z)];rcases h.aG x Z with⟨b1,b2⟩|⟨w,w1,u,u1,b1,b2,b3,b4,b5⟩
   .exact .inl ⟨b1,zb _ b2⟩
   .refine .inr ⟨w,zb _ w1,u,zb _ u1,b1,?_,?_,?_,λ q hq iX=>?_⟩
    .rw[hw w (cR w w1)];exact b2
    .rw[hw w (cR w w1)];exact b3
    .rw[hw u (cR u u1)];exact b4
    .rcases az hq with hq|rfl
     .rw[hw q (yw q hq)]at iX⊢;rw[hw u (cR u u1)];exact b5 q hq iX
     .exact bm u (cR u u1)
  .exact .inl ⟨by rw[fk,hwk],by simp⟩
 .rcases az hq with U|rfl
  .rcases az Z with O|rfl
   .rw[hw q (yw q U),hw x (cR x O)]at wJ;rw[ho q (yw q U),ho x (cR x O),hw q (yw q U),hw x (cR x O)];rcases h.C x O q U wJ with c|⟨r,r1,r2,r3⟩
    .exact .inl c
    .exact .inr ⟨r,zb _ r1,by rw[hw r (yw r r1)];exact r2,by rw[hw r (yw r r1)];exact r3⟩
   .exact .inr ⟨x,by simp,bm q (yw q U),Ys _⟩
  .by_cases e:x=q
   .rw[e]at wJ;omega
   .have:=bm x e;omega
theorem mo.top(h:mo g bs s (l++[i])):i∈s.wait/\(∀q∈l,s.wh q<s.wh i)/\∀q∈l++[i],s.wh q<=s.wh i:=by
 have O:=h.EN.sublist h.LB;rw[List.pairwise_append]at O;have U:∀q∈l,s.wh q<s.wh i:=λ q hq=>O.2.2 q hq i (by simp);refine⟨h.LB.subset (by simp),U,λ q hq=>?_⟩;rw[b_,jo]at hq;rcases hq with hq|rfl
 .have:=U q hq;omega
 .exact Ys _
theorem mo.lo_le(h:mo g bs s ws)(Z:f∈s.wait):s.lo f<=s.wh f:=by rcases h.aG f Z with⟨b,-⟩|⟨w,-,u,-,-,b2,b3,-⟩<;>omega
theorem mo.low(h:mo g bs s (l++[i]))(Q:k∈s.wait)(he:Gr g i k){f:Nat->Int}(hn:∀x,x≠i->f x=s.lo x)(A:f i=min (s.lo i) (s.wh k)):mo g bs {s with lo:=f} (l++[i]):=by
 obtain⟨t1,t2,t3⟩:=h.top;refine{h with aG:=λ x Z=>?_,C:=λ x Z q hq bm=>?_}<;>dsimp only at*
 .by_cases e:x=i
  .subst e;rw[A];rcases Yu (s.wh k) (s.lo x)with c|c
   .exact .inr ⟨k,Q,x,Z,he,by omega,by have:=h.lo_le Z;omega,Ys _,λ q hq hl=>by have:=t3 q hq;omega⟩
   .rw[show min (s.lo x) (s.wh k)=s.lo x by omega];exact h.aG x Z
  .rw[hn x e];exact h.aG x Z
 .by_cases e:x=i
  .exact .inr ⟨i,by simp,by rw[<-e];exact bm,by rw[e];exact Ys _⟩
  .rw[hn x e];have aU:f q<=s.lo q:=by
    by_cases e:q=i
    .rw[e,A];omega
    .rw[hn q e];exact Ys _
   exact(h.C x Z q hq bm).imp (λ c=>Int.le_trans aU c) id
theorem mo.pop(h:mo g bs s (l++[i]))(cR:s.lo i≠s.wh i){f:Nat->Int}(hn:∀x,l.getLast?≠some x->f x=s.lo x)(hu:∀x,l.getLast?=some x->f x=min (s.lo x) (s.lo i)):mo g bs {s with lo:=f} l:=by
 obtain⟨t1,t2,t3⟩:=h.top;have az:∀{x:Nat},x∈l++[i]->x∈l\/x=i:=λ {x} Z=>by simpa using Z
 have WT:l.Sublist s.wait:=(afj _ _).trans h.LB;have inj:∀{x y:Nat},x∈s.wait->y∈s.wait->s.wh x=s.wh y->x=y:=λ {x y} Z G e=>by
  obtain⟨a,ha,rfl⟩:=rJ Z;obtain⟨b,hb,rfl⟩:=rJ G;have hp:=HZ.1 h.EN;rcases Tc a b with c|c|c
  .have:=hp a b ha hb c;omega
  .subst c;rfl
  .have:=hp b a hb ha c;omega
 rcases SS l with rfl|⟨l0,up,rfl⟩
 .refine{h with LB:=WT,aR:=λ x Z q hq=>by simp at hq,aG:=λ x Z=>?_,C:=λ x Z q hq=>by simp at hq};dsimp only;rw[hn x (by simp)];rcases h.aG x Z with⟨b1,b2⟩|⟨w,w1,u,u1,b1,b2,b3,b4,-⟩
  .obtain rfl:x=i:=by simpa using b2
   exact absurd b1 cR
  .exact .inr ⟨w,w1,u,u1,b1,b2,b3,b4,λ q hq=>by simp at hq⟩
 .rw[YC]at*;have Jo:up∈l0++[up]:=by simp
  have hui:=t2 up Jo;have hu0:=h.lo_le (WT.subset Jo);have htop:∀q∈l0++[up],s.wh q<=s.wh up:=λ q hq=>by
   have O:=h.EN.sublist WT;rw[List.pairwise_append]at O;rw[b_,jo]at hq;rcases hq with hq|rfl
   .have:=O.2.2 q hq up (by simp);omega
   .exact Ys _
  have hl:(l0++[up]).getLast?=some up:=by simp
  have hn:∀x,x≠up->f x=s.lo x:=λ x Z=>hn x (by rw[hl];simpa using qj Z);have hu:=hu up hl;refine{h with LB:=WT,aR:=λ x Z q hq=>h.aR x Z q (zb _ hq),aG:=λ x Z=>?_,C:=λ x Z q hq bm=>?_}<;>dsimp only at*
  .have old:(s.lo x=s.wh x/\x∈l0++[up])\/∃w∈s.wait,∃u∈s.wait,Gr g u w/\s.lo x=s.wh w/\s.wh w<s.wh x/\s.wh x<=s.wh u/\∀q∈l0++[up],s.wh x<s.wh q->s.wh u<s.wh q:=by
    rcases h.aG x Z with⟨b1,b2⟩|⟨w,w1,u,u1,b1,b2,b3,b4,b5⟩
    .rcases az b2 with b2|rfl
     .exact .inl ⟨b1,b2⟩
     .exact absurd b1 cR
    .exact .inr ⟨w,w1,u,u1,b1,b2,b3,b4,λ q hq=>b5 q (zb _ hq)⟩
   by_cases e:x=up
   .subst e;rw[hu];rcases Yu (s.lo i) (s.lo x)with c|c
    .clear old;rcases h.aG i t1 with⟨b1,-⟩|⟨w,w1,u,u1,b1,b2,b3,b4,-⟩
     .exact absurd b1 cR
     .refine .inr ⟨w,w1,u,u1,b1,by omega,by omega,by omega,λ q hq hl=>?_⟩;have:=htop q hq;omega
    .rw[Int.min_eq_left c];exact old
   .rw[hn x e];exact old
  .by_cases e:x=up
   .subst e;exact .inr ⟨x,Jo,bm,Ys _⟩
   rw[hn x e];have aU:f q<=s.lo q:=by
    by_cases e:q=up
    .rw[e,hu];omega
    .rw[hn q e];exact Ys _
   rcases h.C x Z q (zb _ hq) bm with c|⟨r,r1,r2,r3⟩
   .exact .inl (Int.le_trans aU c)
   rcases az r1 with r1|rfl
   .exact .inr ⟨r,r1,r2,r3⟩
   by_cases eq:q=up
   .subst eq;refine .inl ?_;rw[hu];by_cases ex:x=r
    .rw[ex];omega
    .have O:s.wh r≠s.wh x:=λ e=>ex (inj Z t1 e.symm);rcases h.C x Z r (by simp) (by omega)with c|⟨r',r4,r5,-⟩
     .omega
     .have:=t3 r' r4;omega
   .have O:=htop q hq;have U:s.wh q≠s.wh up:=λ e=>eq (inj (WT.subset hq) (WT.subset Jo) e);exact .inr ⟨up,Jo,by omega,by omega⟩
theorem mo.cut(h:mo g bs s (l++[i]))(he:s.lo i=s.wh i){b:AT}(hw:s.wait=a++i::b)(hl:l.Sublist a){f:Nat->Int}(hp:∀x,x∈i::b->f x=i)(hq:∀x,x∉i::b->f x=s.cm x):mo g bs {s with cm:=f,wait:=a} l:=by
 obtain⟨t1,t2,t3⟩:=h.top;have az:∀{x:Nat},x∈l++[i]->x∈l\/x=i:=λ {x} Z=>by simpa using Z
 have EN:=h.EN;rw[hw,List.pairwise_append,xw]at EN;obtain⟨so1,⟨so2,so3⟩,so4⟩:=EN;have hai:∀x∈a,s.wh x<s.wh i:=λ x Z=>so4 x Z i (by simp);have dp:∀x∈i::b,s.wh i<=s.wh x:=λ x Z=>by
  rcases cZ.1 Z with rfl|Z
  .exact Ys _
  .have:=so2 x Z;omega
 have FW:∀{x:Nat},x∈s.wait↔x∈a\/x∈i::b:=λ {x}=>by rw[hw,b_]
 have ina:∀{x:Nat},x∈s.wait->s.wh x<s.wh i->x∈a:=λ {x} Z hl=>(FW.1 Z).resolve_right λ B=>by have:=dp x B;omega
 have inb:∀{x:Nat},x∈s.wait->s.wh i<=s.wh x->x∈i::b:=λ {x} Z hl=>(FW.1 Z).resolve_left λ B=>by have:=hai x B;omega
 have hci:∀x,s.cm x≠(i:Int):=λ x e=>by have O:=h.E x (by omega);rw[e]at O;exact h.nw i (by rw[show s.cm i=(i:Int)from O];omega) t1
 have hcw:∀x,0<=s.cm x->x∉i::b:=λ x Z B=>h.nw x Z (FW.2 (.inr B));refine⟨h.cn,so1,hl,h.bb,λ x Z=>?_,λ x Z=>?_,λ x Z B=>?_,λ x Z q mN bm=>?_,λ x Z=>?_,λ x Z q mN bm=>?_,λ x y Z hxy e=>?_,λ x Z=>?_⟩<;>dsimp only at*
 .by_cases B:x∈i::b
  .rw[hp x B];exact .inr (by omega)
  .rw[hq x B];exact(h.bg x Z).imp (λ O=>(FW.1 O).resolve_right B) id
 .by_cases B:x∈i::b
  .exact h.wc x (.inr (FW.2 (.inr B)))
  .rw[hq x B]at Z;exact h.wc x (Z.imp id λ O=>FW.2 (.inl O))
 .have O:x∉i::b:=λ U=>by have:=dp x U;have:=hai x B;omega
  rw[hq x O]at Z;exact h.nw x Z (FW.2 (.inl B))
 .obtain⟨y,y1,y2,y3,y4⟩:=h.aR x (FW.2 (.inl Z)) q (zb _ mN) bm;exact⟨y,ina y1 (by have:=hai x Z;omega),y2,y3,y4⟩
 .have hxi:=hai x Z;rcases h.aG x (FW.2 (.inl Z))with⟨b1,b2⟩|⟨w,w1,u,u1,b1,b2,b3,b4,b5⟩
  .rcases az b2 with b2|rfl
   .exact .inl ⟨b1,b2⟩
   .omega
  .exact .inr ⟨w,ina w1 (by omega),u,ina u1 (b5 i (by simp) hxi),b1,b2,b3,b4,λ q mN=>b5 q (zb _ mN)⟩
 .have hxi:=hai x Z;rcases h.C x (FW.2 (.inl Z)) q (zb _ mN) bm with c|⟨r,r1,r2,r3⟩
  .exact .inl c
  .rcases az r1 with r1|rfl
   .exact .inr ⟨r,r1,r2,r3⟩
   .omega
 .by_cases B:x∈i::b
  .rw[hp x B]at e⊢;have G:y∈i::b:=by
    by_cases G:y∈i::b
    .exact G
    .rw[hq y G]at e;exact absurd e (hci y)
   have key:∃z∈i::b,Gr g z x:=by
    rcases cZ.1 B with rfl|B
    .have hyb:y∈b:=(cZ.1 G).resolve_left (qj hxy);cases b with
     |nil=>simp at hyb
     |cons x1 b'=>
      have w1:x1∈s.wait:=FW.2 (.inr (by simp))
      have O:=so2 x1 (by simp)
      rw[xw]at so3
      rcases h.aG x1 w1 with⟨-,b2⟩|⟨w,ik,u,u1,b1,b2,b3,b4,-⟩
      .have:=t3 x1 b2;omega
      .rcases h.C x1 w1 x (by simp) O with c|⟨r,r1,r2,-⟩
       .have Df:=inb ik (by omega);have hwx:w=x:=by
         rcases cZ.1 Df with q|Df
         .exact q
         .rcases cZ.1 Df with q|Df
          .rw[q]at b3;omega
          .have:=so3.1 w Df;omega
        rw[hwx]at b1;exact⟨u,inb u1 (by omega),b1⟩
       .have:=t3 r r1;omega
    .obtain⟨z,z1,z2,-,z4⟩:=h.aR x (FW.2 (.inr (List.mem_cons_of_mem _ B))) i (by simp) (so2 x B);exact⟨z,inb z1 z2,z4⟩
   obtain⟨z,z1,z2⟩:=key;exact⟨z,hp z z1,z2⟩
  .rw[hq x B]at e Z⊢;have G:y∉i::b:=λ G=>by rw[hp y G]at e;exact hci x e.symm
   rw[hq y G]at e;obtain⟨z,z1,z2⟩:=h.bZ x y Z hxy e;exact⟨z,by rw[hq z (hcw z (by rw[z1];exact Z))];exact z1,z2⟩
 .by_cases B:x∈i::b
  .rw[hp x B];exact hp i (by simp)
  .rw[hq x B]at Z⊢;have O:=h.E x Z;rw[hq _ (hcw _ (by rw[O];exact Z))];exact O
theorem mo.done(h:mo g bs s []):s.wait=[]:=by
 cases e:s.wait with
 |nil=>rfl
 |cons x t=>
  have EN:=h.EN
  rw[e,xw]at EN
  rcases h.aG x (by rw[e];simp)with⟨-,b⟩|⟨w,w1,u,-,-,-,b3,-⟩
  .simp at b
  .rw[e]at w1
   rcases cZ.1 w1 with rfl|w1
   .omega
   .have:=EN.1 w w1;omega
theorem mo.step{x:eP×List (Nat×Nat)}(h:mo g bs x.1 (x.2.map (·.1)))(o8:∀r∈g,∀z∈r,0<=z/\z<g.length):mo g bs (Aj g x).1 ((Aj g x).2.map (·.1)):=by
 obtain⟨s,bT⟩:=x;rcases SS bT with rfl|⟨l,⟨i,e⟩,rfl⟩
 .exact h
 rw[YC]at h⊢;dsimp only at h;rw[lF]at h;obtain⟨t1,t2,t3⟩:=h.top;rw[aeo];by_cases he:e<uF g i
 .rw[aq he];have Q:Gr g i ((g[i]?.getD [])[e]?.getD 0).toNat:=by
   unfold Gr;have xZ:e<(g[i]?.getD []).length:=he;have B:=cG xZ;rw[bf xZ];show((((g[i]?.getD [])[e]).toNat:Nat):Int)∈_;have h0:0<=(g[i]?.getD [])[e]:=by
    have dV:∀z∈g[i]?.getD [],0<=z:=by cases hgi:g[i]? with|none=>simp|some r=>intro z hz;exact(o8 r (oS hgi) z hz).1
    exact dV _ B
   rw[Int.toNat_of_nonneg h0];exact B
  generalize((g[i]?.getD [])[e]?.getD 0).toNat=k at Q;by_cases h0:s.wh k=0
  .rw[aq h0];have:=h.nu h0 λ q hq=>⟨i,by simp,t3 q hq,Q⟩;dsimp only;rw[lF,lF];exact{this with bb:=λ x Z=>this.bb x (.inl Z)}
  .rw[ao h0];by_cases hc:s.cm k<0
   .rw[aq hc];dsimp only;rw[lF];exact h.low ((h.bg k h0).resolve_right (by omega)) Q (λ x Z=>ao Z) (aq rfl)
   .rw[ao hc];dsimp only;rw[lF];exact h
 .rw[ao he];dsimp only at t1 t2;by_cases hc:s.lo i=s.wh i
  .obtain⟨a,b,hw,A,hl⟩:=aFk h.LB (h.EN.imp λ {a b} r e=>by rw[e]at r;omega);have B:s.mn l i=s:=by
    unfold eP.mn;split
    .rfl
    .rename_i q hq;have mN:q.1∈l.map (·.1):=jn.2 ⟨q,KH hq,rfl⟩;have O:=t2 _ mN;have U:=h.lo_le (h.LB.subset (zb _ mN));have:aM s.lo q.1 (min (s.lo q.1) (s.lo i))=s.lo:=by
      funext x;unfold aM;split
      .rename_i e;subst e;omega
      .rfl
     rw[this]
   rw[B,aq hc,eP.af8 hw A];exact h.cut hc hw hl (λ x Z=>aq Z) λ x Z=>ao Z
  .have hn:∀x,(l.map (·.1)).getLast?≠some x->(s.mn l i).lo x=s.lo x:=λ x Z=>by
    unfold eP.mn;rw[List.getLast?_map]at Z;split
    .rfl
    .rename_i q hq;rw[hq]at Z;exact ao λ e=>Z (by rw[e];rfl)
   have hu:∀x,(l.map (·.1)).getLast?=some x->(s.mn l i).lo x=min (s.lo x) (s.lo i):=λ x Z=>by rw[List.getLast?_map]at Z;unfold eP.mn;cases hq:l.getLast? with|none=>rw[hq]at Z;cases Z|some q=>rw[hq]at Z;cases Z;exact aq rfl
   have e:s.mn l i={s with lo:=(s.mn l i).lo}:=by unfold eP.mn;split<;>rfl
   rw[ao (by rw[hn i λ e=>by have:=t2 i (KH e);omega,(s.abv l i).1];exact hc),e];exact h.pop hc hn hu
end
theorem i7{c:Nat->Int}{z:Int}{k i:Nat}(h:(kR c i).1 z=some k):∀j,i<=j->(kR c j).1 z=some k
 |0,hj=>by rw[show(0:Nat)=i by omega];exact h
 |j+1,hj=>by
  by_cases e:i=j+1
  .rw[<-e];exact h
  .have ih:=i7 h j (by omega)
   unfold kR;split
   .exact ih
   .rename_i q;dsimp only;unfold FA;rw[ao]
    .exact ih
    .rintro rfl;rw[ih]at q;simp at q
theorem sM{c:Nat->Int}{z z':Int}{k:Nat}:∀{j},(kR c j).1 z=some k->(kR c j).1 z'=some k->z=z'
 |0,h,_=>by cases h
 |j+1,h,h'=>by
  unfold kR at h h'
  split at h
  .rename_i e;rw[aq e]at h';exact sM h h'
  .rename_i e;rw[ao e]at h'
   dsimp only at h h';unfold FA at h h';split at h
   .rename_i e1;cases h;split at h'
    .rename_i e2;rw[e1,e2]
    .have:=abE h';omega
   .split at h'
    .cases h';have:=abE h;omega
    .exact sM h h'
theorem C3:Bk c f=Bk c b↔c f=c b:=by
 have⟨k,Q⟩:=azC c f;have⟨l,hl⟩:=azC c b;have iI:=i7 Q (max (f+1) (b+1)) (FQ _ _);have lR:=i7 hl (max (f+1) (b+1)) (BQ _ _);unfold Bk;rw[Q,hl];show k=l↔_;constructor
 .rintro rfl;exact sM iI lR
 .intro e;rw[e]at iI;rw[iI]at lR;cases lR;rfl
section
variable{g:List BW}{bs:Nat->Prop}{s:eP}{k:Nat}
theorem S0(o8:∀r∈g,∀z∈r,0<=z/\z<g.length){x:eP×List (Nat×Nat)}(h:qh g.length (uF g) x.1 x.2):∀n,qh g.length (uF g) (xc g n x).1 (xc g n x).2/\((xc g n x).2=[]\/s_ g.length (uF g) (xc g n x).1 (xc g n x).2+n<=s_ g.length (uF g) x.1 x.2)
 |0=>⟨h,.inr (Nat.le_refl _)⟩
 |n+1=>by
  obtain⟨O,U⟩:=S0 o8 h n
  show qh g.length (uF g) (Aj g (xc g n x)).1 (Aj g (xc g n x)).2/\((Aj g (xc g n x)).2=[]\/s_ g.length (uF g) (Aj g (xc g n x)).1 (Aj g (xc g n x)).2+(n+1)<=_)
  generalize xc g n x=y at O U
  obtain⟨s,bT⟩:=y
  rcases SS bT with rfl|⟨l,⟨i,e⟩,rfl⟩
  .exact⟨O,.inl rfl⟩
  .rw[YC]at*
   obtain⟨F,h4⟩:=aGH O o8;refine⟨F,.inr ?_⟩;rcases U with U|U
   .simp at U
   .dsimp only at*;omega
theorem G4(o8:∀r∈g,∀z∈r,0<=z/\z<g.length)(hT:mo g bs s [])(hO:qh g.length (uF g) s [])(Q:k<g.length)(h0:s.wh k=0):mo g (λ x=>bs x\/x=k) (DK g s k) []/\qh g.length (uF g) (DK g s k) []:=by
 have hb:qh g.length (uF g) (s.nu k) [(k,0)]:=(hO.nu Q h0).1;have hit:=S0 o8 (x:=(s.nu k,[(k,0)])) hb;have htj:∀n,mo g (λ x=>bs x\/x=k) (xc g n (s.nu k,[(k,0)])).1 ((xc g n (s.nu k,[(k,0)])).2.map (·.1)):=by
  intro n;induction n with
  |zero=>exact hT.nu h0 λ q hq=>by simp at hq
  |succ n ih=>exact ih.step o8
 have Md:∃n,(xc g n (s.nu k,[(k,0)])).2=[]:=⟨s_ g.length (uF g) (s.nu k) [(k,0)]+1,(hit _).2.resolve_right (by dsimp only;omega)⟩;have⟨n,hn⟩:=Md;have O:=htj n;have U:=(hit n).1;rw[hn]at O U;rw[aGG hn];exact⟨O,U⟩
theorem Lc(o8:∀r∈g,∀z∈r,0<=z/\z<g.length):∀n,n<=g.length->mo g (λ x=>x<n) (ru g n) []/\qh g.length (uF g) (ru g n) []
 |0,_=>by
  refine⟨⟨λ _=>Ys _,.nil,List.Sublist.refl _,λ x Z=>by omega,λ x Z=>absurd rfl Z,λ x Z=>?_,λ x Z=>?_,λ x Z=>?_,λ x Z=>?_,λ x Z=>?_,λ x y Z=>?_,λ x Z=>?_⟩,⟨.nil,List.Sublist.refl _,λ k Q=>?_,λ q hq=>?_,?_⟩⟩
  .exact absurd Z (by simp[ru,J_])
  .simp[ru,J_]
  .simp[ru,J_]at Z
  .simp[ru,J_]at Z
  .simp[ru,J_]at Z
  .exact absurd Z (by simp[ru,J_])
  .exact absurd Z (by simp[ru,J_])
  .simp[ru,J_]at Q
  .simp at hq
  .show 0+xb (λ _=>1) (λ _=>0) g.length=_
   rw[alv];omega
 |n+1,hn=>by
  obtain⟨O,U⟩:=Lc o8 n (by omega)
  rw[alN]
  split
  .rename_i h0
   obtain⟨F,h4⟩:=G4 o8 O U (show n<g.length by omega) h0;exact⟨{F with bb:=λ x Z=>F.bb x (by have:x<n+1:=Z;show x<n\/x=n;omega)},h4⟩
  .rename_i h0
   refine⟨{O with bb:=λ x Z=>?_},U⟩;by_cases e:x=n
   .rw[e];exact h0
   .exact O.bb x (by have:x<n+1:=Z;show x<n;omega)
theorem So(o8:∀r∈gC g,∀z∈r,0<=z/\z<(gC g).length)(Z:f<g.length)(hxy:f≠b)(e:zp g f=zp g b):∃z,zp g z=zp g f/\Gr (gC g) z f:=by obtain⟨h,-⟩:=Lc o8 (gC g).length (Nat.le_refl _);rw[azy]at h;have h0:=(h.bg f (h.bb f Z)).resolve_left (by rw[h.done];simp);have⟨z,z1,z2⟩:=h.bZ f b h0 hxy (C3.1 e).symm;exact⟨z,C3.2 z1,z2⟩
end
def i9(au:Pt->BW)(L:List Pt)(n:Nat):List BW:=(List.range n).map (hx au L n)
section
variable{au:Pt->BW}{L:List Pt}{n:Nat}
theorem D1{z:Nat}{x:Int}:x∈(i9 au L n)[z]?.getD []↔z<n/\∃q∈L,q.1=z/\x∈au q:=by
 unfold i9;rw[y'];by_cases h:z<n
 .rw[List.getElem?_range h];show x∈hx au L n z↔_;unfold hx;rw[aq h,apc,(yB _).mem_iff];unfold CY;rw[iF,List.mem_flatMap];constructor
  .rintro⟨q,O,U⟩;split at U
   .rename_i e;exact⟨h,q,O,e,U⟩
   .simp at U
  .rintro⟨-,q,O,e,U⟩;exact⟨q,O,by rw[aq e];exact U⟩
 .rw[y_ (by rw[Aw];omega)];simp[h]
theorem LK(hf:f<g.length)(h:1<gr (Pa g) ((Pa g).getD f 0)):∃y,f≠y/\zp g f=zp g y:=by
 have hc:(Pa g).getD f 0=zp g f:=by unfold Pa;rw[List.getD_eq_getElem?_getD,List.getElem?_map,List.getElem?_range hf];rfl
 rw[hc]at h;unfold gr Pa at h;rw[List.filter_map,bW]at h;have hn:=(List.nodup_range (n:=g.length)).filter ((λ x=>decide (x=zp g f))∘zp g);have B:∀y∈(List.range g.length).filter ((λ x=>decide (x=zp g f))∘zp g),zp g y=zp g f:=λ y G=>by simpa using(Oz.1 G).2
 generalize(List.range g.length).filter ((λ x=>decide (x=zp g f))∘zp g)=l at h hn B;match l,h,hn,B with
 |a::b::l,_,hn,B=>
  have t_:a≠b:=λ e=>by subst e;simp at hn
  by_cases e:f=a
  .exact⟨b,λ e2=>t_ (by rw[<-e,e2]),(B b (by simp)).symm⟩
  .exact⟨a,e,(B a (by simp)).symm⟩
theorem LP(hF:∀q∈L,q.1<n/\∀x∈au q,0<=x/\x<n){dW:Pt->Bool}:∀(s f:Nat),f<n->d8 (h2 au L L.length) dW st s f=true->hi (i9 au L n) (Pa (i9 au L n)) f=false:=by
 have bA:(i9 au L n).length=n:=by unfold i9;simp
 have o8:∀r∈gC (i9 au L n),∀z∈r,0<=z/\z<(gC (i9 au L n)).length:=by intro l hl z hz;rw[azy];obtain⟨i,A,rfl⟩:=jn.1 hl;exact(ajy.1 hz).2
 have hed:∀{z x:Nat},Gr (gC (i9 au L n)) z x->(x:Int)∈(i9 au L n)[z]?.getD []:=λ {z x} h=>by
  unfold Gr gC at h;rw[y']at h;cases e:(i9 au L n)[z]? with
  |none=>rw[e]at h;simp at h
  |some r=>
   rw[e]at h
   exact(ajy.1 (show(x:Int)∈JH _ r from h)).1
 have az:∀{z f:Nat},(f:Int)∈(i9 au L n)[z]?.getD []->∃q∈h2 au L L.length f,q.1=z:=λ {z f} h=>by obtain⟨-,q,O,U,F⟩:=D1.1 h;exact⟨q,B2.2 ⟨O,F⟩,U⟩
 have two:∀f,f<n->hi (i9 au L n) (Pa (i9 au L n)) f=true->∃z,(f:Int)∈(i9 au L n)[z]?.getD []/\(z=f\/zp (i9 au L n) z=zp (i9 au L n) f/\1<gr (Pa (i9 au L n)) ((Pa (i9 au L n)).getD f 0)):=λ f hf h=>by
  unfold hi at h;rw[xt,rK,YB]at h;rcases h with h|⟨x,O,U⟩
  .have⟨y,y1,y2⟩:=LK (by rw[bA];exact hf) h;have⟨z,z1,z2⟩:=So o8 (by rw[bA];exact hf) y1 y2;exact⟨z,hed z2,.inr ⟨z1,h⟩⟩
  .obtain rfl:(f:Int)=x:=by simpa using U
   exact⟨f,by rw[<-List.getD_eq_getElem?_getD];exact O,.inl rfl⟩
 intro s;induction s with
 |zero=>
  intro f hf h
  cases e:hi (i9 au L n) (Pa (i9 au L n)) f with
  |false=>rfl
  |true=>
   obtain⟨z,O,-⟩:=two f hf e
   obtain⟨q,U,-⟩:=az O
   rcases eV h with⟨-,F⟩|⟨-,s',q',F,-⟩
   .rw[BM F]at U;simp at U
   .omega
 |succ s ih=>
  intro f hf h
  cases e:hi (i9 au L n) (Pa (i9 au L n)) f with
  |false=>rfl
  |true=>
   have⟨z,O,h4⟩:=two f hf e
   obtain⟨q,U,rfl⟩:=az O
   rcases eV h with⟨-,F⟩|⟨-,s',q',F,h5,-,h6⟩
   .rw[BM F]at U;simp at U
   .obtain rfl:s=s':=by omega
    rw[h5]at U;obtain rfl:q=q':=by simpa using U
    have hq:=(hF q ((B2 (au:=au) (L:=L) (f:=f)).1 (by rw[h5];simp)).1).1;have h7:=ih q.1 hq h6;rcases h4 with h4|⟨h4,h8⟩
    .rw[h4]at h7;rw[h7]at e;cases e
    .unfold hi at h7;rw[HQ,Th]at h7;have hg:∀f,f<n->(Pa (i9 au L n)).getD f 0=zp (i9 au L n) f:=λ f hf=>by unfold Pa;rw[List.getD_eq_getElem?_getD,List.getElem?_map,List.getElem?_range (by rw[bA];exact hf)];rfl
     rw[hg q.1 hq,h4,<-hg f hf]at h7;exact absurd h8 h7.1
end
theorem B8{C:Nat->List Pt}{dW:Pt->Bool}:∀(s f:Nat),d8 C dW st s f=true->d8 C dW st (s+1) f=true:=by
 intro s;induction s with
 |zero=>
  intro f h
  rcases eV h with⟨e,h⟩|⟨-,s',q,O,-⟩
  .rw[oM e,h];rfl
  .omega
 |succ s ih=>
  intro f h
  rcases eV h with⟨e,h⟩|⟨e,s',q,O,U,F,h4⟩
  .rw[oM e,h];rfl
  .obtain rfl:s=s':=by omega
   have:=ih q.1 h4;unfold d8;rw[ao e,U];simp[F,this]
theorem sum_add{α:Type}(a b:α->Nat):∀l:List α,(l.map λ x=>a x+b x).sum=(l.map a).sum+(l.map b).sum
 |[]=>rfl
 |x::l=>by
  have:=sum_add a b l
  simp only[kB,sr]
  omega
theorem C2{k:Nat}:∀n,((List.range n).map λ f=>if k=f then 1 else 0).sum=if k<n then 1 else 0
 |0=>rfl
 |n+1=>by
  rw[YK,lF,tJ,C2 n]
  by_cases h:k=n
  .simp[h]
  .simp[h]
   by_cases U:k<n
   .simp[U,show k<n+1 by omega]
   .simp[U,show¬k<n+1 by omega]
theorem EC{n:Nat}:∀l:BW,(∀x∈l,0<=x/\x<n)->((List.range n).map λ f:Nat=>(l.filter λ x=>decide (x=(f:Int))).length).sum=l.length
 |[],_=>EM _ λ _ _=>rfl
 |x::l,h=>by
  have ih:=EC l λ y G=>h y (by simp[G])
  have⟨h0,O⟩:=h x (by simp)
  obtain⟨k,rfl⟩:∃k:Nat,x=(k:Int):=⟨x.toNat,by omega⟩
  have Q:=C2 (k:=k) n
  rw[aq (by omega)]at Q
  have e:∀f:Nat,((((k:Int)::l).filter λ x=>decide (x=(f:Int))).length)=(if k=f then 1 else 0)+(l.filter λ x=>decide (x=(f:Int))).length:=λ f=>by
   by_cases c:k=f
   .simp[c];omega
   .simp[c,show¬(k:Int)=(f:Int) by omega]
  simp only[e]
  rw[sum_add,Q,ih,qi];omega
theorem G5{au:Pt->BW}{n:Nat}:∀L:List Pt,(∀q∈L,∀x∈au q,0<=x/\x<n)->((List.range n).map λ f=>(h2 au L L.length f).length).sum=(L.map λ q=>(au q).length).sum
 |[],_=>by unfold h2;exact EM _ λ _ _=>rfl
 |q::L,h=>by
  have ih:=G5 L λ y G=>h y (by simp[G])
  have e:∀f,(h2 au (q::L) (q::L).length f).length=((au q).filter λ x=>decide (x=(f:Int))).length+(h2 au L L.length f).length:=λ f=>by unfold h2;rw[iF,iF,BN,iP,bW]
  simp only[e]
  rw[sum_add,ih,EC _ (h q (by simp)),kB,sr]
theorem T1{α:Type}{g:α->Nat}{aG:Nat}:∀l:List α,(∀x∈l,g x<=aG)->(l.map g).sum<=l.length*aG
 |[],_=>by simp
 |x::l,h=>by
  have:=T1 l λ y G=>h y (by simp[G])
  have:=h x (by simp)
  rw[kB,sr,qi,ve];omega
theorem SW{L:List Pt}{n:Nat}(hB:∀q∈L,(au q).length<=4194304)(hl:L.length<=1024)(i:Nat):(hx au L n i).length<=1099511627776:=by
 have h0:(CY au L L.length i).length<=1099511627776:=by
  have O:=hk (g:=λ q:Pt=>if q.1=i then au q else[]) (aG:=4194304) L λ x Z=>by
   split
   .exact hB x Z
   .exact dQ _
  unfold CY;rw[iF];have:=nW 4194304 hl;omega
 unfold hx;split
 .exact aY ZG (by rw[M5];exact h0)
 .exact h0
theorem VE{p:List aQ}(hp:oO H vf p)(hz:ij p<=1048576)(ht:uK (λ x=>x.args.length) p<=1048576)(hl:uK (λ x=>x.eh.length) p<=1048576)(hT:xn H):CN 7 [.agg [vf]] H λ v _=>v=bl true:=by
 refine ba o7 rfl λ Q' hQ=>?_;simp[hp.cell,hp.co];generalize pK:D.add _ _=K0;have g0:I [] H K0:=by rw[<-pK];exact(I.refl _ _).add _
 have l1:Lv K0 H.ab (.cells 1 (Tr.e.put 0 (some vf)) false):=by rw[<-pK];exact Lv.new
 clear pK;try simp[l1.get]
 refine CW (atG (hp.zB g0) hz) ?_;rintro _ K1 ⟨⟨b,rfl,hb⟩,g1⟩;cases b with
 |true=>
  simp[cE (h3 _)]
  exact hQ rfl
 |false=>
  have hF:Fit p:=⟨hb rfl,ht,hl⟩
  have A_:=l1.ai g1
  simp[A_.get]
  have hSA:HH p:=λ f b i x ha=>by have:=Xr (w:=λ x=>x.args.length) ha;omega
  have hSL:SC p:=λ f b i x ha=>by have:=Xr (w:=λ x=>x.eh.length) ha;omega
  refine CW (azc ((hp.zB g0).zB g1) hSA hSL agE) ?_
  rintro _ K2 ⟨rfl|⟨hW,id,rfl,hMI⟩,g2⟩
  .simp[cE (h3 _)]
   exact hQ rfl
  have hM:=hMI.mp
  have UA:=aem hW hF
  have Uy:=alL hW hF
  have eX:=(hT.W (g0.trans g1)).W g2
  simp
  refine CW (aEX hM eX UA Uy) ?_
  rintro _ K3 ⟨X,L,rfl,xS,Sg,-,-,xN,f_⟩
  have fo:=base_gr Sg f_
  have hM3:=hM.W fo
  have hFX:An X:=⟨by rw[xS];exact UA,by rw[xN,xS]⟩
  have hI:=(SV.ad0 Uy.si Uy.rel).2
  have fk:(Bv (bj p)).Ok (bJ (bj p)) X.N:=by rw[xN];exact hI.ok
  have n9:X.N=X.S.vars.length+X.S.of.length:=by rw[xN,xS]
  have VO:=EK hW hF hSA hSL hM3 xS hFX f_ fk n9
  simp
  refine CW (E4 VO) ?_
  rintro _ K4 ⟨dH,rfl,Gq⟩
  have ahH:=agE hW
  have hn:=pT p
  have avG:=(Sf hW).2
  have hB:=λ q hq=>(VO.E9 q hq).1
  have hFB:∀q∈(bj p).a_,q.1<p.length/\∀x∈E6 X (Bv (bj p)) q,0<=x/\x<p.length:=λ q hq=>by have O:=VO.ptF q hq;have U:=(VO.E9 q hq).2;rw[hn]at O U;exact⟨O,U⟩
  have I5:=VO.oI
  have eY:=VO.p1
  have hCl:=VS hB eY
  have LG:=SW (n:=p.length) hB eY
  have gR:=G5 (au:=E6 X (Bv (bj p))) (n:=p.length) (bj p).a_ λ q hq=>(hFB q hq).2
  have hnc:=λ {dW:Pt->Bool} {st:Int}=>LP (dW:=dW) (st:=st) hFB
  rw[hn]at Gq
  clear VO hI fk n9 Uy UA f_ hFX
  generalize E6 X (Bv (bj p))=au at*
  generalize hSS:bj p=S at*
  have B:∀f q,q∈h2 au S.a_ S.a_.length f->q∈S.a_/\(f:Int)∈au q:=λ f q h=>B2.1 h
  have hgm:∀f q,q∈h2 au S.a_ S.a_.length f->(f:Int)∈hx au S.a_ p.length q.1:=λ f q h=>by obtain⟨O,U⟩:=B f q h;have F:=(D1 (au:=au) (L:=S.a_) (n:=p.length) (z:=q.1) (x:=(f:Int))).2 ⟨(hFB q O).1,q,O,rfl,U⟩;unfold i9 at F;rw[y',List.getElem?_range (hFB q O).1]at F;exact F
  have hgr:i9 au S.a_ p.length=(List.range p.length).map (hx au S.a_ p.length):=rfl
  rw[hgr]at hnc
  generalize h2 au S.a_ S.a_.length=kK at Gq B hgm hCl gR hnc
  generalize hx au S.a_ p.length=n7 at Gq hgm LG hnc
  generalize FT S=Rw at Gq
  generalize S.gP Wu=st at Gq
  have gA:I [] K1 K4:=(g2.trans fo).trans Gq.base
  have hp4:=((hp.zB g0).zB g1).zB gA
  have M':=A_.ai gA
  have hM4:=hM3.W Gq.base
  simp
  obtain⟨p5,mm,gg,lo,cc,tt,ov,Y_Y,C4,-⟩:=Gq.ex
  refine CW (Rp C4 avG LG) ?_
  rintro gv K5 ⟨hg5,g5⟩
  simp
  have rP:((List.range p.length).map n7).length=p.length:=by simp
  refine CW (uz (hg5.mono (dQ _)) (by rw[rP];omega) λ l hl=>?_) ?_
  .obtain⟨i,-,rfl⟩:=jn.1 hl
   exact LG i
  rintro on K6 ⟨⟨W2,hon,-⟩,g6⟩
  have g46:=g5.trans g6
  have hp6:=hp4.zB g46
  have l16:=M'.ai g46
  have hl6:=hp6.aN nf
  have C7:=Gq.ai g46
  have hM6:=hM4.W g46
  have hg6:=(hg5.ai g6).mono (dQ _)
  have hgA:=hg6.sl.aN yO
  rw[rP]at hgA
  have jB:=hon.La
  have eN:(el ((List.range p.length).map n7)).length=p.length:=by simp[el]
  clear C4 hg5 Gq hM4 hp4 M'
  simp[hgA,l16.get,hl6]
  obtain⟨sa,hsa⟩:∃sa:Nat->Nat,∀f,sa f=((List.range f).map λ k=>(kK k).length).sum:=⟨_,λ _=>rfl⟩
  have hTp:∀f,f<=p.length->sa f<=70368744177664:=λ f hf=>by rw[hsa];have:=T1 (g:=λ k=>(kK k).length) (List.range f) λ k _=>hCl k;rw[Aw]at this;have:=nW 1099511627776 (show f<=64 by omega);omega
  refine CA (λ f sl K=>I [] K6 K/\AV sl 1 (.ptr H.ab 0)/\AV sl 3 (.ptr id 0)/\AV sl 5 (.ptr L.a 0)/\AV sl 6 (.ptr dH 0)/\AV sl 7 gv/\AV sl 8 on/\AV sl 9 (ae ((sa f:Nat):Int))/\AV sl 10 (ae (f:Nat))/\f<=p.length) p.length ⟨I.refl _ _,by simp[show sa 0=0 by rw[hsa];rfl]⟩ ?_
  rintro b1 k1-cq f sl K ⟨gK,s1,s3,s5,s6,s7,s8,s9,bt,hf⟩ ih
  have l_K:=l16.ai gK
  have hlK:=(hp6.zB gK).aN nf
  have hOK:=C7.ai gK
  by_cases iw:f<p.length
  .have Eu:f<maxLen:=by unfold maxLen;omega
   simp[s1,s3,s5,s6,s7,s8,s9,bt,l_K.get,hlK,iw];refine CW (Jn hOK (by omega) iw (hCl f)) ?_;rintro lv K7 ⟨uc,g7⟩;have sJ:=uc.aN XD;have yp:=hTp f (by omega);have ES:=hCl f;have hw:IntKind.wrap .i64 (((sa f:Nat):Int)+(((kK f).length:Nat):Int))=((sa (f+1):Nat):Int):=by rw[fQ (by omega) (by omega),hsa (f+1),YK,lF,tJ,<-hsa f];simp
   have pM:=hOK.ai g7;have Jg:=cRec pM iw;have hco:=Hy pM iw;have hnf:=hnc (dW:=AH Rw) (st:=st) p.length f iw;have Da:(el ((List.range p.length).map n7))[f]'(by rw[eN];exact iw)=hi ((List.range p.length).map n7) (Pa ((List.range p.length).map n7)) f:=by simp[el]
   obtain⟨lJ,lU,rN,kY,n2,t2,qW,c2,fp,ck,gV,iz,atU⟩:=((jB.W (gK.trans g7) (λ _ _ _ h=>h)).gL (i:=f) (by rw[eN];exact iw));have k8:c2=bl (hi ((List.range p.length).map n7) (Pa ((List.range p.length).map n7)) f):=by
    have O:[c2]=[bl ((el ((List.range p.length).map n7))[f]'(by rw[eN];exact iw))]:=atU
    rw[Da]at O;simpa using O
   subst k8;rw[eN]at fp;have qv:d8 kK (AH Rw) st p.length f=false\/d8 kK (AH Rw) st p.length f=true/\hi ((List.range p.length).map n7) (Pa ((List.range p.length).map n7)) f=false:=by cases ho:d8 kK (AH Rw) st p.length f with|false=>exact .inl rfl|true=>exact .inr ⟨rfl,hnf ho⟩
   rcases qv with ho|⟨ho,G⟩;all_goals
    have hco':=hco;rw[ho]at hco';try rw[G]at Jg iz
    repeat (first|simp[hw,s1,s3,s5,s6,s7,s8,s9,bt,sJ,fp,ck.get,gV,iz,iw,de alr,cE Jg,cE hco']|refine dF (by simp[dA,dm,val,s1,s3,s5,s6,s7,s8,s9,bt,sJ,fp,ck.get,gV,iz,iw,de alr]) ?_)
    refine CA (λ i sl K8=>I [] K7 K8/\AV sl 1 (.ptr H.ab 0)/\AV sl 3 (.ptr id 0)/\AV sl 5 (.ptr L.a 0)/\AV sl 6 (.ptr dH 0)/\AV sl 7 gv/\AV sl 8 on/\AV sl 9 (ae ((sa (f+1):Nat):Int))/\AV sl 10 (ae (f:Nat))/\AV sl 11 lv/\AV sl 12 (ae (i:Nat))/\i<=(kK f).length) ((kK f).length) ⟨I.refl _ _,by simp[s1,s3,s5,s6,s7,s8,bt]⟩ ?_
    rintro b2 k2-dO i Hn K8 ⟨g8,q1,q3,q5,q6,q7,q8,q9,bo,q11,q12,A⟩ eJ;have hll8:=(uc.fZ g8).aN XD;by_cases az:i<(kK f).length
    .have jA:i<maxLen:=by unfold maxLen;omega
     have pj:=cG az;obtain⟨id8,ah,ax,ex,nn,tr,ro,M,W0,T5,aU,bU,oZ⟩:=(uc.fZ g8).at_ az;have VJ:M=yI (kK f)[i]:=oZ;subst VJ;generalize(kK f)[i]=q at pj bU;have T4:bc tr (ah+i*3) 3=some [ae (q.1:Nat),ae (q.2.1:Nat),ae (q.2.2:Nat)]:=bU;obtain⟨r0,-,-⟩:=uE T4;obtain⟨hqL,hqF⟩:=B f q pj;have hqG:=hgm f q pj;have Mv:=(hFB q hqL).1;have hoq:d8 kK (AH Rw) st p.length f=true->d8 kK (AH Rw) st p.length q.1=true:=λ ho=>by
      rcases eV ho with⟨-,h0⟩|⟨-,s',q',e1,e2,-,e4⟩
      .rw[BM h0]at pj;simp at pj
      .rw[e2]at pj;obtain rfl:q=q':=by simpa using pj
       rw[e1];exact B8 s' q.1 e4
     have hO8:=pM.ai g8;simp[q6,bo,q11,q12,hll8,az,W0,T5.get,aU,bY T4,de XD];refine CW (B5 hO8 (I5 q hqL)) ?_;rintro u K9 ⟨hu,g9⟩;have h4:=ahp (f:Int) hu;rw[Ti hqF]at h4;have hl9:=T5.ai g9;obtain⟨idg,aIO,aHb,exg,ng,tg,rog,ug,hvg,Mj,hltg,hgg,hNg⟩:=(hg6.ai (((gK.trans g7).trans g8).trans g9)).row (show q.1<((List.range p.length).map n7).length by rw[rP];exact Mv);have h5:=ahp (f:Int) hNg.1.sl;rw[Ti (by simpa using hqG)]at h5;rw[rP]at hvg;have PT:=Hy (hO8.ai g9) iw;have hcq:=Hy (hO8.ai g9) Mv;have e0:ah+i*3<nn:=by omega
     cases mV:d8 kK (AH Rw) st p.length f with
     |false=>
      rw[mV]at PT
      simp[q6,q7,bo,q11,q12,cE h4,cE h5,W0,hl9.get,r0,e0,az,de XD,de yO,hvg,Mj.get,hltg,hgg,Mv,cE PT,bq jA]
      exact eJ (by omega) ⟨g8.trans g9,by simp[q1,q3,q5,q6,q7,q8,q9,bo,q11];omega⟩
     |true=>
      rw[mV]at PT
      rw[hoq mV]at hcq
      simp[q6,q7,bo,q11,q12,cE h4,cE h5,W0,hl9.get,r0,e0,az,de XD,de yO,hvg,Mj.get,hltg,hgg,Mv,cE PT,cE hcq,bq jA]
      exact eJ (by omega) ⟨g8.trans g9,by simp[q1,q3,q5,q6,q7,q8,q9,bo,q11];omega⟩
    .obtain rfl:i=(kK f).length:=by omega
     subst dO;simp[bo,q11,q12,hll8,bq Eu];exact ih (by omega) ⟨(gK.trans g7).trans g8,by simp[q1,q3,q5,q6,q7,q8,q9];omega⟩
  .obtain rfl:f=p.length:=by omega
   subst cq;simp[s1,s3,s5,s6,s7,s8,s9,bt,l_K.get,hlK];refine CW (aER (hM6.W gK) ahH) ?_;rintro pv K7 ⟨wM,-,g7⟩;have mC:=wM.aN XD;have g67:=gK.trans g7;have aai:I [] K3 K6:=C7.base;obtain⟨sb,hsb⟩:∃sb:Nat->Nat,∀j,sb j=((S.a_.drop j).map λ q=>(au q).length).sum:=⟨_,λ _=>rfl⟩;have Ei:sa p.length=sb 0:=by rw[hsa,hsb];exact gR
   have hTF:=hTp _ (Nat.le_refl _);simp;refine CA (λ j sl K=>I [] K7 K/\AV sl 5 (.ptr L.a 0)/\AV sl 6 (.ptr dH 0)/\AV sl 9 (ae ((sb j:Nat):Int))/\AV sl 13 pv/\AV sl 14 (ae (j:Nat))/\j<=S.a_.length) S.a_.length ⟨I.refl _ _,by simp[s5,s6,s9,Ei]⟩ ?_
   rintro b3 k3-jU j sl3 K8 ⟨g8,q5,q6,q9,q13,q14,hj⟩ jg;have hpl8:=(wM.fZ g8).aN XD;by_cases bB:j<S.a_.length
   .have ix:j<maxLen:=by unfold maxLen;omega
    have VI:=cG bB;obtain⟨id8,ah,ax,ex,nn,tr,ro,M,W0,T5,aU,bU,oZ⟩:=(wM.fZ g8).at_ bB;have VJ:M=yI S.a_[j]:=oZ;subst VJ;have Mb:sb j=(au S.a_[j]).length+sb (j+1):=by rw[hsb,hsb,Ox bB,kB,sr]
    have Eo:sb j<=sb 0:=by
     have O:((S.a_.take j).map λ q=>(au q).length).sum+((S.a_.drop j).map λ q=>(au q).length).sum=(S.a_.map λ q=>(au q).length).sum:=by rw[<-tJ,<-lF,wj]
     rw[hsb,hsb,SQ];omega
    have hw:IntKind.wrap .i64 (((sb j:Nat):Int)-(((au S.a_[j]).length:Nat):Int))=((sb (j+1):Nat):Int):=by rw[fQ (by omega) (by omega)];omega
    have T4:bc tr (ah+j*3) 3=some [ae (S.a_[j].1:Nat),ae (S.a_[j].2.1:Nat),ae (S.a_[j].2.2:Nat)]:=bU;have hO8:=C7.ai (g67.trans g8);generalize hq:S.a_[j]=q at*;simp[q5,q6,q9,q13,q14,hpl8,bB,W0,T5.get,aU,bY T4,de XD];refine CW (B5 hO8 (I5 q VI)) ?_;rintro u K9 ⟨hu,g9⟩;have MK:=hu.aN bK;have hl9:=T5.ai g9;simp[q5,q6,q9,q13,q14,MK,hw,W0,hl9.get,aU,bY T4,bB,de XD];refine CW (I5 q VI K9 ((aai.trans (g67.trans g8)).trans g9)) ?_;rintro u2 qf ⟨⟨Y2,QK,-⟩,D_⟩;simp[cE (same_c (hu.fZ D_) QK.aZ),q14,bq ix];exact jg (by omega) ⟨(g8.trans g9).trans D_,by simp[q5,q6,q13];omega⟩
   .obtain rfl:j=S.a_.length:=by omega
    subst jU;have h0:sb S.a_.length=0:=by rw[hsb,List.drop_length];rfl
    rw[h0]at q9;simp[q9,q13,q14,hpl8,cE (h3 _)];exact hQ rfl
theorem J6{α:Type}{f g:α->Nat}:∀(L:List α) (_:∀x∈L,f x<=g x),(L.map f).sum<=(L.map g).sum
 |[],_=>aF
 |a::L,h=>by
  have O:=h a (by simp)
  have U:=J6 L λ x Z=>h x (by simp[Z])
  simp only[kB,sr]
  omega
def aFo(p:List aQ):ij p<=OO p:=J6 (α:=aQ) p λ f _=>by
 have h:fL f.blocks<=(f.blocks.map Ic).sum:=J6 (α:=cU) f.blocks λ b _=>by
  have O:b.code.length<=(b.code.map zm).sum:=by
   have:=J6 (f:=λ _=>1) (g:=zm) b.code λ x _=>by unfold zm;omega
   rw[akW]at this;exact this
  show b.code.length<=(b.code.map zm).sum+1;omega
 show fL f.blocks<=(f.blocks.map Ic).sum+1;omega
def akA(hw:∀x,w x<=zm x)(p:List aQ):uK w p<=OO p:=J6 (α:=aQ) p λ f _=>by
 have h:vT w f.blocks<=(f.blocks.map Ic).sum:=J6 (α:=cU) f.blocks λ b _=>by have O:=J6 (f:=w) (g:=zm) b.code λ x _=>hw x;show(b.code.map w).sum<=(b.code.map zm).sum+1;omega
 show vT w f.blocks<=(f.blocks.map Ic).sum+1;omega
def axv{p:List aQ}(hp:oO H vf p)(hb:OO p<=1048576)(hT:xn H):CN 7 [.agg [vf]] H λ v _=>v=bl true:=VE hp (aY (aFo p) hb) (aY (akA (λ x=>by unfold zm;omega) p) hb) (aY (akA (λ x=>by unfold zm;omega) p) hb) hT
def ak7:Bool:=match H0.get 0 with
 |some (.cells 64 t _)=>(List.range 64).all λ j=>match t.get j with|some (.lit (.int .u8 n))=>n==((Lib.deBruijn64tab.getD j 0:Nat):Int)|_=>false
 |_=>false
theorem aFu:ak7=true:=by kernel_rfl
theorem aze:Nat.ble 1 H0.ab=true:=by kernel_rfl
def aFv:xn H0:=by
 have h:=aFu;unfold ak7 at h;split at h
 .rename_i t ro e;refine⟨t,ro,⟨OD aze,e⟩,λ j hj=>?_⟩;have O:=yZ.1 h j (mj.2 hj);split at O
  .rename_i n e2;rw[e2];have:n=((Lib.deBruijn64tab.getD j 0:Nat):Int):=by simpa using O
   rw[this]
  .cases O
 .cases h
def axu{w:bI}{bk:DataW ay->Nat}(cJ:BK bk)(ht:yW w g_)(hT:∀f∈FC,Kr Tryz.prog w f)(o8:∀E,eW Tryz.prog E->(∀f n,E.Q.get f=some n->(f,n)∈yg++FC.map λ f=>(f,5))->Hz Tryz.prog E w){x:DataW ay×List MemPlace}(Z:DataW.trod enc Tryz.prog w 0 (λ _=>true) true b 24 xs.toList=some x)(hb:bk x.1<=1048576):Calls Tryz.prog 7 #[.agg xs] w λ e w'=>e=.returned (.bool true)/\jG (λ _=>False) w w':=by
 have⟨ρ,hr⟩:=auO given (agl _) (auN _) ht
 obtain⟨eU,H1,p,l,k1,k2,k3,k4,⟨vf,rfl,hp⟩,k6⟩:=aps cJ b _ x Z ρ H0 hr
 exact an5 given (agl _) k1 (axv hp (aY k6 hb) (aFv.W k3)) (.cons (.agg k4) .nil) o8
def aGB(w:World)(ht:yW w g_):∀f∈FC,Kr Tryz.prog w f:=by
 intro f hf;obtain rfl:f=35:=by simpa[FC]using hf
 exact XA ht λ w ht=>Xl (ws:=[]) aGx (λ _=>.nil) w ht (λ f h=>by cases h) (λ f h=>by cases h)
theorem aGA:∀f∈FC,∀args w,(callFunc f args).run Tryz.prog w=.ok (.enter f args) w:=by
 intro f hf;obtain rfl:f=35:=by simpa[FC]using hf
 exact enters_of Tryz.func35 (by kernel_rfl) rfl
end
end Go.Proofs.YtgipmaoplfkdoaaGreatDoor
