import Derived.Test.YtgipmaoplfkdoaaGreatDoorM71
import Derived.Test.YtgipmaoplfkdoaaGreatDoorWK20
set_option linter.all false
set_option maxRecDepth 100000
set_option maxHeartbeats 400000000
namespace Go.Proofs.YtgipmaoplfkdoaaGreatDoor
noncomputable section
open Go.RowKit
variable{H K:D}{S:SM}{f b j mid a dH p3 p4 m:Nat}{x:bp}{X:Fix}{L:nk}{V:SV}{aA ms mm:Nat->Nat}{v' v:J}{c:Nat->Nat×Nat}{aL:AT}{VL:Int->AT}{s:ByteArray}{t3 t4:CX}{ex:Bool}{au:Pt->BW}{k:Value}{l:List AE}{As bZ:Pt->Nat->Bool}{EC:(Nat->Nat->Nat)×(Nat->Nat->Nat)}{P:J->D->Prop}{aR:BW}{w:bp->Nat}{ay:Type}{xs:Array aC}{enc:aS×aC->ay}
theorem ksT:(fq 29,())=(some Tryz.f29,()):=κ
def o29:=fe (jd ksT)
theorem smObjs{id:Nat}(h:lu H id S)(d:uP S)(g:S.p.length<=1048576):CN 29 [.ptr id 0] H λ v K=>K=H/\v=ae ((S.of.length+S.p.length:Nat):Int):=by refine ba o29 rfl λ i e=>?_;have⟨f1,f2,f3,f4,f5⟩:=d;have hw:IntKind.wrap .i64 ((S.of.length:Int)+(S.p.length:Int))=(S.of.length:Int)+(S.p.length:Int):=fQ ω ω;simp[cE (DD h),cE (aEQ h),hw];exact e ⟨rfl,ζ⟩
noncomputable def AH(X:Fix)(V:SV)(q:Pt):BW:=match Js X.S.p q with|some x=>D4 X V q.1 x|none=>[]
theorem at_lt{p:List aQ}{i:Nat}(h:At p f b i x):∃d:f<p.length,b<p[f].blocks.length:=by obtain⟨fn,bk,O,U,-⟩:=h;rw[cW]at O U;obtain⟨d,rfl⟩:=O;exact⟨d,U.1⟩
theorem fn_one{p:List aQ}(h:pF p){fn:aQ}(d:fn∈p):1<=fL fn.blocks:=by
 have⟨f,d⟩:=sq d;have r:¬Sl p λ _ x=>Bo x:=h 6 ω ω;have e:¬(XR p\/jF p (wW p)):=h 10 ω ω;cases g:fn.blocks with
 |nil=>exact absurd ⟨f,fn,d,by simp[Bo,g]⟩ r
 |cons bk bs=>
  rw[aFn]
  cases i:bk.code with|nil=>exact absurd (.inl ⟨f,0,fn,bk,d,by rw[g];rfl,i⟩) e|cons x l=>rw[qi];omega
theorem len_szF:∀(p:List aQ),(∀fn∈p,1<=fL fn.blocks)->p.length<=ij p
 |[],_=>Nat.le_refl _
 |fn::p,h=>by
  have:=len_szF p λ f d=>h f (by simp[d])
  have:=h fn ζ
  rw[aFp,qi];omega
theorem VS{α:Type}{g:α->Nat}:∀l:List α,(∀x∈l,g x=0)->(l.map g).sum=0
 |[],_=>rfl
 |x::l,h=>by
  have:=VS l λ y G=>h y (by simp[G])
  have:=h x ζ
  rw[kB,sr]
  omega
theorem sum1{α:Type}:∀l:List α,(l.map λ _=>0+1).sum=l.length
 |[]=>rfl
 |x::l=>by
  have:=sum1 l
  rw[kB,sr,qi]
  omega
theorem SW(p:List aQ):(bj p).a_.length=ij p:=by
 have O:=aCo p λ _=>0+1;have U:=akz (a:=λ _=>0) (c:=1) p;have F:uK (λ _=>0) p=0:=VS p λ f _=>VS f.blocks λ b _=>VS b.code λ _ _=>rfl;have e:(bj p).a_.map (gw p λ _=>0+1)=(bj p).a_.map λ _=>0+1:=SZ λ q d=>by have⟨x,Z⟩:=abx q d;unfold gw;rw[V5 Z]
 rw[e,sum1]at O;omega
theorem CY{p:List aQ}(r:pF p)(J:Fit p)(M:HH p)(I:SC p)(G:lu H b (bj p))(u:X.S=bj p)(y:An X)(D:fM X H L V.first V)(B:V.Ok (bJ (bj p)) X.N)(E:X.N=X.S.vars.length+X.S.of.length):CalW H b L.a (bj p) (AH X V):=by
 have d:=pT p;have z:=Sf r;have C:∀{q:Pt} {x:bp},At p q.1 q.2.1 q.2.2 x->AH X V q=D4 X V q.1 x:=λ {q x} h=>by
  have:Js X.S.p q=some x:=by rw[u,d];exact V5 h
  unfold AH;rw[this]
 refine⟨G,agE r,by rw[d];exact z.1,by rw[d];exact z.2,?_,?_,λ q i=>?_,λ q i=>?_,λ fn t=>?_,λ q i T g=>?_⟩
 .have O:=len_szF p λ fn t=>fn_one r t;have F:=SW p;omega
 .have F:=SW p;have A:=J.sz;omega
 .have⟨x,Z⟩:=abx q i;rw[d];exact(at_lt Z).1
 .have⟨x,Z⟩:=abx q i;rw[C Z,d];unfold D4;split
  .refine⟨ζ,λ f e=>?_⟩;obtain rfl:f=X.S.gP x.fn:=by simpa using e
   rw[u];exact atw r _
  .split
   .refine⟨aY afW Sc,λ f e=>?_⟩;unfold sy iY at e;have⟨O,U⟩:=Oz.1 e;obtain⟨o',F,rfl⟩:=jn.1 O;obtain⟨o,A,rfl⟩:=jn.1 F;have Q:o<(bj p).of.length+(bj p).p.length:=B.sn _ _ ((ayg B E).1 A).2.2;rw[d]at Q;simp only[v8,rK]at U;rw[u]at U⊢;omega
   .simp
 .rw[d]at t;have⟨f,e⟩:=sq t;exact(Z7 r M I e).1
 .have⟨x,Z⟩:=abx q i;rw[C Z];exact amC (D.ai g) y (by rw[u,d];exact Z)
theorem VE:(fq 51,fq 116,fq 120,fq 52,fq 53,fq 54,fq 119,tq 81,tq 155,tq 157,())=(some Tryz.f51,some Tryz.f116,some Tryz.f120,some Tryz.f52,some Tryz.f53,some Tryz.f54,some Tryz.f119,some ⟨.pointer 157,1,8,[.lit (.pointer none)]⟩,some ⟨.slice 118,1,24,[.lit (.slice none 0 0)]⟩,some ⟨.struct #[⟨ "mod",155,0,false,"","gnomon/modref",0⟩,⟨ "ref",155,1,false,"","gnomon/modref",24⟩],2,48,[.lit (.slice none 0 0),.lit (.slice none 0 0)]⟩,()):=κ
def o51:=fe (jd VE)
def o116:=fe (jq VE)
def o120:=fe (jr VE)
def o52:=fe (js VE)
def o53:=fe (jt VE)
def o54:=fe (ju VE)
def o119:=fe (jv VE)
def tt81:=te (jw VE)
def B5:=te (jx VE)
def tt157:=te (jy VE)
theorem rmU:(tq 158,pq 51 6,pq 51 15,pq 51 17,pq 51 30,pq 51 31,pq 52 3,())=(some ⟨.func #[3,9,118] #[] false,1,8,[.lit .nilFunc]⟩,some [.op 0,.op 1,.op 2,.op 3,.op 4,.op 5,.op 9,.op 10,.op 11,.op 12,.wr 6 [5,12],.op 7,.wr 8 [12],.wr 13 [12],.op 14,.wr 15 [],.op 16,.op 17,.wr 18 [],.op 19,.op 20,.wr 21 []],some [.op 0,.op 1,.op 2,.op 3,.op 4,.op 5,.op 6,.op 7,.op 8,.op 9,.op 10,.op 11,.op 12,.wr 13 []],some [.op 0,.op 1,.op 2,.op 3,.op 4,.op 5,.op 6,.op 7,.op 8,.op 9,.op 10,.op 11,.op 12,.wr 13 []],some [.op 0,.op 1,.op 2,.op 3,.op 4,.op 5,.op 6,.op 7,.op 8,.op 9,.op 10,.op 11,.op 12,.op 13,.wr 14 [],.op 15,.op 16,.op 17,.op 18],some [.op 0,.op 1,.op 2,.op 3,.op 4,.op 5,.op 6,.op 7,.op 8,.op 9,.op 10,.op 11,.op 12,.op 13,.wr 14 [],.op 15,.op 16,.op 17,.op 18],some [.op 0,.op 1,.op 2,.op 3,.op 4,.op 5,.op 6,.op 7,.op 8,.op 9,.op 10,.op 11,.op 12,.op 13,.op 14,.wr 15 [],.wr 16 [],.op 17],()):=κ
def tt158:=te (jd rmU)
def w51a:=pe (jq rmU)
def w51b:=pe (jr rmU)
def w51c:=pe (js rmU)
def w51d:=pe (jt rmU)
def w51e:=pe (ju rmU)
def w52:=pe (jv rmU)
attribute [simp] tt81 B5 tt157 tt158 w51a w51b w51c w51d w51e w52
structure hy(K:D)(k n:Nat)(c:Nat->Nat×Nat)(mv:J)(aL:List Nat)(ms mm:Nat->Nat)(aD:Nat->Nat->Nat):Prop where
 row:aX K 1 mv ((List.range n).map λ i=>J.ptr (ms i) 0) aL
 s:∀i,i<n->e_ K (ms i) (mm i) (aD i)
 NB:∀y∈aL,c y=(k,0)
 M:∀i,i<n->c (ms i)=(k+1,i)/\c (mm i)=(k+1,i)
section
variable{K T:D}{k n:Nat}{c c':Nat->Nat×Nat}{mv:J}{aL:AT}{ms mm:Nat->Nat}{aD:Nat->Nat->Nat}
theorem LW(c:Nat->Nat×Nat)(N:Nat)(v:Nat×Nat):∃c1:Nat->Nat×Nat,(∀y,y<N->c1 y=c y)/\∀y,N<=y->c1 y=v:=⟨λ y=>if y<N then c y else v,λ y G=>aq G,λ y G=>ao ω⟩
theorem e_.Lc(h:e_ K f b aA):f<K.ab/\b<K.ab:=by obtain⟨t,a,-⟩:=h.ob;exact⟨a.lt,h.mp.lt⟩
theorem hy.W(h:hy K k n c mv aL ms mm aD){cL:AT}(dW:I cL K T)(d:∀y∈cL,(c y).1≠k/\(c y).1≠k+1):hy T k n c mv aL ms mm aD:=⟨h.row.W dW λ y G B=>(d y B).1 (by rw[h.NB y G]),λ i A=>(h.s i A).W dW (λ B=>(d _ B).2 (by rw[(h.M i A).1])) (λ B=>(d _ B).2 (by rw[(h.M i A).2])),h.NB,h.M⟩
theorem hy.RF(h:hy K k n c mv aL ms mm aD)(d:∀y,y<K.ab->c' y=c y):hy K k n c' mv aL ms mm aD:=⟨h.row,h.s,λ y G=>(d y (h.row.lt y G)).trans (h.NB y G),λ i A=>⟨(d _ (h.s i A).Lc.1).trans (h.M i A).1,(d _ (h.s i A).Lc.2).trans (h.M i A).2⟩⟩
theorem hy.put(h:hy K k n c mv aL ms mm aD)(A:f<n)(dW:I [ms f,mm f] K T)(i:e_ T (ms f) (mm f) aA):hy T k n c mv aL ms mm (aM aD f aA):=by
 have d:∀y∈[ms f,mm f],c y=(k+1,f):=λ y G=>by
  simp at G;rcases G with rfl|rfl
  .exact(h.M f A).1
  .exact(h.M f A).2
 refine⟨h.row.W dW λ y G B=>by have O:=h.NB y G;rw[d y B]at O;simp at O,λ j g=>?_,h.NB,h.M⟩;by_cases e:j=f
 .subst e;rw[fE];exact i
 .rw[gG e];refine(h.s j g).W dW (λ B=>?_) (λ B=>?_)
  .have O:=(h.M j g).1;rw[d _ B]at O;simp at O;exact e O.symm
  .have O:=(h.M j g).2;rw[d _ B]at O;simp at O;exact e O.symm
theorem hy.push(h:hy K k n c mv aL ms mm aD)(t:e_ K f b aA)(p:c f=(k+1,n)/\c b=(k+1,n)){ids':AT}(dW:I aL K H)(z:aX H 1 v' (((List.range n).map λ i=>J.ptr (ms i) 0)++[.ptr f 0]) ids')(A:∀y∈ids',y∈aL\/K.ab<=y)(g:∀y,y<K.ab->c' y=c y)(u:∀y,K.ab<=y->c' y=(k,0)):hy H k (n+1) c' v' ids' (aM ms n f) (aM mm n b) (aM aD n aA):=by
 have r:∀{y i:Nat},c y=(k+1,i)->y∉aL:=λ O B=>by have U:=h.NB _ B;rw[O]at U;simp at U
 refine⟨?_,λ i C=>?_,λ y G=>?_,λ i C=>?_⟩
 .have e:((List.range (n+1)).map λ i=>J.ptr (aM ms n f i) 0)=((List.range n).map λ i=>J.ptr (ms i) 0)++[.ptr f 0]:=by
   rw[YK,lF];congr 1
   .refine SZ λ i A=>?_;rw[gG (by have:=mj.1 A;omega)]
   .simp[fE]
  rw[e];exact z
 .by_cases e:i=n
  .subst e;rw[fE,fE,fE];exact t.W dW (r p.1) (r p.2)
  .rw[gG e,gG e,gG e];have d:i<n:=ω
   exact(h.s i d).W dW (r (h.M i d).1) (r (h.M i d).2)
 .rcases A y G with w|w
  .exact(g _ (h.row.lt y w)).trans (h.NB y w)
  .exact u y w
 .by_cases e:i=n
  .subst e;rw[fE,fE];exact⟨(g _ t.Lc.1).trans p.1,(g _ t.Lc.2).trans p.2⟩
  .rw[gG e,gG e];have d:i<n:=ω
   exact⟨(g _ (h.s i d).Lc.1).trans (h.M i d).1,(g _ (h.s i d).Lc.2).trans (h.M i d).2⟩
theorem hy.at_(h:hy K k n c mv aL ms mm aD){i:Nat}(A:i<n):∃id ax ex t,mv=.sl id 0 1 n ax ex/\Lv K id (.cells ax t false)/\t.get i=some (.ptr (ms i) 0)/\i<ax:=by obtain⟨id,ax,ex,t,d,-,l,e,g,-,-⟩:=h.row.uC ξ;simp at d g;refine⟨id,ax,ex,t,d,l,?_,ω⟩;rw[e i (by simpa using A)];simp[A]
end
def CP(aA V:Nat->Nat):Prop:=∀o,cC aA o=true->cC V o=true
structure VD(aR aG:Nat->Nat)(b:Bool)(aA:Nat->Nat):Prop where
 f:b=false->aA=aR/\CP aG aR
 t:b=true->nR aR<nR aA
 m:∀o,cC aA o=true->cC aR o=true\/cC aG o=true
 e:b=true\/aA=aR
 i:∀o,cC aR o=true->cC aA o=true
theorem SH{n:Nat}{aD:Nat->Nat->Nat}(h:hy H f n c v' aL ms mm aD){i:Nat}(A:i<n)(z:j<n):CN 118 [.ptr (ms i) 0,.ptr (ms j) 0] H λ v T=>∃(b:Bool) (aA:Nat->Nat),v=bl b/\e_ T (ms i) (mm i) aA/\I [ms i,mm i] H T/\VD (aD i) (aD j) b aA:=by
 have hd:(ms j≠ms i/\ms j≠mm i/\mm j≠ms i/\mm j≠mm i)\/(ms j=ms i/\mm j=mm i/\aD j=aD i):=by
  by_cases e:j=i
  .subst e;exact .inr ⟨rfl,rfl,rfl⟩
  .have t:∀{x y:Nat},c x=(f+1,j)->c y=(f+1,i)->x≠y:=λ {x y} O U E=>by rw[E,U]at O;simp at O;exact e O.symm
   have ci:=h.M i A;have d:=h.M j z;exact .inl ⟨t d.1 ci.1,t d.1 ci.2,t d.2 ci.1,t d.2 ci.2⟩
 refine(unG (h.s i A) (h.s j z) hd).mono ?_;rintro v T ⟨rfl,O,U⟩;have u:=(h.s i A).wd;have g:=(h.s j z).wd;refine⟨_,_,rfl,O,U,λ C=>?_,λ B=>Tj B,λ o p=>by rw[uk,xt]at p;exact p,?_,λ o p=>by rw[uk,p];rfl⟩
 .have r:=of_decide_eq_false C;refine⟨abJ u g r,λ o p=>?_⟩;cases D:cC (aD i) o with|true=>rfl|false=>exact absurd ((atH u g).2 ⟨o,p,D⟩) r
 .by_cases r:zA (aD i) (aD j)
  .exact .inl (Ti r)
  .exact .inr (abJ u g r)
structure B8(M_0 aD:Nat->Nat->Nat):Prop where
 inc:∀f o,cC (M_0 f) o=true->cC (aD f) o=true
theorem B8.aM{M_0 aD:Nat->Nat->Nat}{i k:Nat}{b:Bool}{aA:Nat->Nat}(h:B8 M_0 aD)(g:VD (aD i) (aD k) b aA):B8 M_0 (aM aD i aA):=by
 refine⟨λ f o d=>?_⟩;by_cases e:f=i
 .subst e;rw[fE];exact g.i o (h.inc f o d)
 .rw[gG e];exact h.inc f o d
noncomputable def VG(aD:Nat->Nat->Nat)(n:Nat):Nat:=SV.m_ (λ i=>4194304-nR (aD i)) n
theorem G3{aD:Nat->Nat->Nat}{i:Nat}{b:Bool}(A:i<j)(h:VD (aD i) ms b aA):VG (aM aD i aA) j+(if b=true then 1 else 0)<=VG aD j:=by
 have e:VG (aM aD i aA) j=SV.m_ (aM (λ i=>4194304-nR (aD i)) i (4194304-nR aA)) j:=by refine SV.NV j λ x _=>?_;unfold aM;split<;>rfl
 have d:=SV.J0 (f:=λ i=>4194304-nR (aD i)) (k:=i) (x:=4194304-nR aA) j A;rw[e];unfold VG;have b1:=ad9 aA;cases b with
 |true=>have:=h.t rfl;simp only[qk];omega
 |false=>rw[(h.f rfl).1]at d⊢;simp;omega
structure FW(n:Nat)(gk:Nat->List Int)(aD R M2 R2:Nat->Nat->Nat)(b:Bool)(i t:Nat):Prop where
 eq:b=false->M2=aD/\R2=R/\∀f (k:Int),f<i/\k∈gk f\/f=i/\k∈(gk i).take t->CP (aD k.toNat) (aD f)/\CP (R k.toNat) (R f)
 lt:b=true->VG M2 n+VG R2 n<VG aD n+VG R n
theorem FW.step{n:Nat}{gk:Nat->BW}{aD R M2 R2:Nat->Nat->Nat}{b b1 b2:Bool}{i t:Nat}{W_1 W_2:Nat->Nat}(h:FW n gk aD R M2 R2 b i t)(A:i<n)(u:t<(gk i).length)(O:VD (M2 i) (M2 ((gk i)[t]).toNat) b1 W_1)(U:VD (R2 i) (R2 ((gk i)[t]).toNat) b2 W_2):FW n gk aD R (aM M2 i W_1) (aM R2 i W_2) (b2||(b1||b)) i (t+1):=by
 have r:=G3 A O;have p:=G3 A U;refine⟨λ e=>?_,λ e=>?_⟩
 .simp only[HQ]at e;have⟨y,z,e0⟩:=e;have⟨g,d,a3⟩:=h.eq e0;have⟨c1,c2⟩:=O.f z;have⟨d1,d2⟩:=U.f y;rw[c1,d1,alC,alC];refine⟨g,d,λ f k Q=>?_⟩;rcases Q with Q|⟨rfl,Q⟩
  .exact a3 f k (.inl Q)
  .rw[KK u,b_]at Q;rcases Q with Q|Q
   .exact a3 f k (.inr ⟨rfl,Q⟩)
   .have:k=(gk f)[t]:=by simpa using Q
    subst this;rw[<-g,<-d];exact⟨c2,d2⟩
 .cases b with
  |true=>
   have:=h.lt rfl
   omega
  |false=>
   obtain⟨g,d,-⟩:=h.eq rfl
   rw[<-g,<-d]
   cases b1<;>cases b2<;>simp at e r p<;>omega
structure ModW(H:D)(mid a dH:Nat)(S:SM)(VL:Int->List Nat)(dW:List (List Int)):Prop where
 mp:lu H mid S
 nD:uP S
 n0:0<S.p.length
 n1:S.p.length<=64
 p0:0<S.a_.length
 ins:∀q∈S.a_,q.1<S.p.length/\∃x,At S.p q.1 q.2.1 q.2.2 x/\x.args.length<=1048576/\x.eh.length<=1048576
 var:∀K,I [] H K->∀v:Int,CN 19 [.ptr a 0,ae v] K λ u T=>(∃aL,aX T 1 u (aZ (iY (VL v))) aL/\∀y∈aL,K.ab<=y)/\I [] K T
 vlt:∀v,∀o∈VL v,o<4194304
 gra:∀K,I [] H K->CN 43 [.ptr dH 0] K λ v T=>GI K.ab T v dW/\I [] K T
 gl:dW.length=S.p.length
 ge:∀l∈dW,∀f∈l,0<=f/\f<S.p.length
structure gr(H:D)(n pY:Nat)(K:D)(c:Nat->Nat×Nat)(mv rv:J)(h2 Yr:List Nat)(ms mm rs rm:Nat->Nat)(aD R:Nat->Nat->Nat):Prop where
 ob:∃t,Lv K pY (.cells 2 t false)/\AV t 0 mv/\AV t 1 rv
 m:hy K 1 n c mv h2 ms mm aD
 r:hy K 3 n c rv Yr rs rm R
 c5:c pY=(5,0)
 low:∀y,y<H.ab->c y=(0,0)
 base:I [] H K
section
variable{H K T:D}{n pY:Nat}{c c':Nat->Nat×Nat}{mv rv:J}{h2 Yr:AT}{ms mm rs rm:Nat->Nat}{aD R:Nat->Nat->Nat}
theorem gr.lo(h:gr H n pY K c mv rv h2 Yr ms mm rs rm aD R)(G:(c f).1≠0):H.ab<=f:=by
 rcases kb f H.ab with q|q
 .rw[h.low f q]at G;exact absurd rfl G
 .exact q
theorem gr.W(h:gr H n pY K c mv rv h2 Yr ms mm rs rm aD R){cL:AT}(dW:I cL K T)(d:∀y∈cL,6<=(c y).1):gr H n pY T c mv rv h2 Yr ms mm rs rm aD R:=by have⟨t,a,b⟩:=h.ob;exact⟨⟨t,a.W dW (λ B=>by have:=d _ B;rw[h.c5]at this;simp at this),b⟩,h.m.W dW λ y G=>by have:=d y G;omega,h.r.W dW λ y G=>by have:=d y G;omega,h.c5,h.low,ke h.base dW λ y G=>h.lo (by have:=d y G;omega)⟩
theorem gr.RF(h:gr H n pY K c mv rv h2 Yr ms mm rs rm aD R)(d:∀y,y<K.ab->c' y=c y):gr H n pY K c' mv rv h2 Yr ms mm rs rm aD R:=by have⟨t,a,b⟩:=h.ob;exact⟨⟨t,a,b⟩,h.m.RF d,h.r.RF d,(d _ a.lt).trans h.c5,λ y G=>(d y (aT G h.base.ab)).trans (h.low y G),h.base⟩
theorem gr.putM(h:gr H n pY K c mv rv h2 Yr ms mm rs rm aD R)(A:f<n)(dW:I [ms f,mm f] K T)(e:e_ T (ms f) (mm f) aA):gr H n pY T c mv rv h2 Yr ms mm rs rm (aM aD f aA) R:=by
 have d:∀y∈[ms f,mm f],c y=(2,f):=λ y G=>by
  simp at G;rcases G with rfl|rfl
  .exact(h.m.M f A).1
  .exact(h.m.M f A).2
 have⟨t,a,b⟩:=h.ob;exact⟨⟨t,a.W dW (λ B=>by have:=d _ B;rw[h.c5]at this;cases this),b⟩,h.m.put A dW e,h.r.W dW λ y G=>by rw[d y G];simp,h.c5,h.low,ke h.base dW λ y G=>h.lo (by rw[d y G];simp)⟩
theorem gr.putR(h:gr H n pY K c mv rv h2 Yr ms mm rs rm aD R)(A:f<n)(dW:I [rs f,rm f] K T)(e:e_ T (rs f) (rm f) aA):gr H n pY T c mv rv h2 Yr ms mm rs rm aD (aM R f aA):=by
 have d:∀y∈[rs f,rm f],c y=(4,f):=λ y G=>by
  simp at G;rcases G with rfl|rfl
  .exact(h.r.M f A).1
  .exact(h.r.M f A).2
 have⟨t,a,b⟩:=h.ob;exact⟨⟨t,a.W dW (λ B=>by have:=d _ B;rw[h.c5]at this;cases this),b⟩,h.m.W dW λ y G=>by rw[d y G];simp,h.r.put A dW e,h.c5,h.low,ke h.base dW λ y G=>h.lo (by rw[d y G];simp)⟩
end
def B3(aG:Nat)(aA:Nat->Nat)(l:AT):Nat->Nat:=l.foldl (λ aA o=>if o<aG then fT aA (nN o)else aA) aA
theorem fld_c{dW:List BW}(C:ModW H mid a dH S VL dW)(Z:I [] H K){id:Nat}(l3:Lv K p3 (.cells 1 t3 false))(e3:AV t3 0 (.ptr mid 0))(l4:Lv K p4 (.cells 1 t4 false))(e4:AV t4 0 (.ptr a 0))(hB:e_ K id m aA)(n3:p3≠id/\p3≠m)(bD:H.ab<=id/\H.ab<=m):CN 116 [ae (f:Nat),str s,.ptr id 0,.ptr p3 0,.ptr p4 0] K λ _ T=>e_ T id m (B3 S.of.length aA (VL (S.aV f s)))/\I [id,m] K T:=by
 refine ba o116 rfl λ Q' hQ=>?_
 simp[l3.get,e3]
 refine CW (Xt (C.mp.W Z) _ _) ?_
 rintro _ K1 ⟨⟨b,rfl⟩,d⟩
 have N:=l4.ai d
 simp[N.get,e4]
 refine CW (C.var K1 (Z.trans d) _) ?_
 rintro u K2 ⟨⟨aL,hu,hY⟩,D⟩
 have bm:=C.vlt (S.aV f s)
 generalize VL (S.aV f s)=l at hu bm hQ⊢
 have bA:=hu.aZ.aN bK
 have sJ:=hu.aZ.cP
 have pP:(iY l).length=l.length:=bW _
 rw[pP]at bA sJ
 simp[bA]
 have Y:=(hB.W d ζ ζ).W D ζ ζ
 have O:=(l3.ai d).ai D
 have hnB:=hB.Lc
 have rQ:=d.ab
 refine CA (λ j sl J=>e_ J id m (B3 S.of.length aA (l.take j))/\I [id,m] K2 J/\AV sl 2 (.ptr id 0)/\AV sl 3 (.ptr p3 0)/\AV sl 21 u/\AV sl 22 (ae (l.length:Nat))/\AV sl 23 (ae (j:Nat))/\j<=l.length) l.length ⟨by simpa[B3]using Y,I.refl _ _,ζ⟩ ?_
 rintro b1 k1-cq j sl J ⟨M,e,s2,s3,z,p,F,hj⟩ ih
 by_cases r:j<l.length
 .have ix:j<maxLen:=ω
  have h:j<(iY l).length:=by rw[pP];exact r
  obtain⟨lJ,ah,ax,ex,n,t,ro,c,rfl,hl,aU,bU,oZ⟩:=(hu.W e λ y G B=>by have:=hY y G;simp at B;omega).aZ.gL h;have hc:c=ae (l[j]:Nat):=by have:[c]=[ae (iY l)[j]]:=oZ;simpa[iY]using this
  subst hc;have Q:=bm _ (cG r);have g:=O.W e (by simp;exact n3);have i:lu J mid S:=C.mp.W (ke ((Z.trans d).trans D) e (by simp;exact bD));have E:B3 S.of.length aA (l.take (j+1))=if l[j]<S.of.length then fT (B3 S.of.length aA (l.take j)) (nN l[j])else B3 S.of.length aA (l.take j):=by unfold B3;rw[KK r,ae8];rfl
  by_cases A:l[j]<S.of.length
  .rw[aq A]at E;simp[s2,s3,z,p,F,r,hl.get,aU,bU,g.get,e3,cE (DD i),A];refine CW (aeS M Q) ?_;rintro _ K4 ⟨rfl,U,g4⟩;simp[F,bq ix];exact ih ω ⟨by rw[E];exact U,e.trans g4,by simp[s2,s3,z,p];omega⟩
  .rw[ao A]at E;simp[s3,z,p,F,r,hl.get,aU,bU,g.get,e3,cE (DD i),A,bq ix];exact ih ω ⟨by rw[E];exact M,e,by simp[s2,s3,z,p];omega⟩
 .obtain rfl:j=l.length:=ω
  subst cq;rw[iF]at M;simp[p,F];exact hQ ⟨M,(d.trans D|>.mono ζ).trans e⟩
def La(S:SM)(VL:Int->AT)(x:(Nat->Nat->Nat)×(Nat->Nat->Nat))(q:Pt):(Nat->Nat->Nat)×(Nat->Nat->Nat):=match Js S.p q with|none=>x|some i=>if i.op=9 then(aM x.1 q.1 (B3 S.of.length (x.1 q.1) (VL (S.aV q.1 i.b))),x.2)else if i.op=8 then(x.1,aM x.2 q.1 (B3 S.of.length (x.2 q.1) (VL (S.aV q.1 i.a))))else x
def S0(S:SM)(VL:Int->AT)(j:Nat):(Nat->Nat->Nat)×(Nat->Nat->Nat):=(S.a_.take j).foldl (La S VL) (λ _ _=>0,λ _ _=>0)
theorem W0(d:j<S.a_.length):S0 S VL (j+1)=La S VL (S0 S VL j) S.a_[j]:=by unfold S0;rw[KK d,ae8];rfl
theorem G6{aG:Nat}:∀(l:AT) {aA:Nat->Nat} {o:Nat},cC (B3 aG aA l) o=true↔cC aA o=true\/o∈l/\o<aG
 |[],aA,o=>by simp[B3]
 |x::l,aA,o=>by
  have h:=G6 (aG:=aG) l (aA:=if x<aG then fT aA (nN x)else aA) (o:=o)
  unfold B3 at h⊢
  rw[DV,h]
  by_cases Z:x<aG
  .simp only[aq Z,uk,xt,GU,rK,cZ,or_and_right,Tk]
   have:o=x↔o=x/\o<aG:=⟨λ e=>⟨e,e▸Z⟩,And.left⟩;rw[<-this]
  .simp only[ao Z,cZ,or_and_right]
   have:¬(o=x/\o<aG):=λ e=>Z (e.1▸e.2);simp[this]
structure h1(H:D)(n pY:Nat)(K:D)(dW:List (List Int))(EC:(Nat->Nat->Nat)×(Nat->Nat->Nat))(aD R:Nat->Nat->Nat):Prop where
 ex:∃c mv rv h2 Yr ms mm rs rm,gr H n pY K c mv rv h2 Yr ms mm rs rm aD R
 cl:∀f,f<n->∀k∈dW.getD f [],CP (aD k.toNat) (aD f)/\CP (R k.toNat) (R f)
 s_M:B8 EC.1 aD
 s_R:B8 EC.2 R
theorem Gd{dW:List BW}(hW:ModW H mid a dH S VL dW):CN 51 [.ptr mid 0,.ptr a 0,.ptr dH 0] H λ v K=>∃pY aD R,v=.ptr pY 0/\h1 H S.p.length pY K dW (S.a_.foldl (La S VL) (λ _ _=>0,λ _ _=>0)) aD R:=by
 refine ba o51 rfl λ Q' hQ=>?_;have C':=hW.n0;have rQ:=hW.n1;simp;refine CW (aEQ (hW.mp.W ((((I.refl [] H).add _).add _).add _))) ?_;rintro _ K0 ⟨rfl,rfl⟩;simp;generalize ed:D.add _ _=K1;have g1:I [] H K1:=by rw[<-ed];exact(((I.refl [] H).add _).add _).add _
 have n1:K1.ab=H.ab+1+1+1:=by rw[<-ed];rfl
 have l3:∃t,Lv K1 H.ab (.cells 1 t false)/\AV t 0 (.ptr mid 0):=by rw[<-ed];exact⟨_,(Lv.new.add).add,ζ⟩
 have l4:∃t,Lv K1 (H.ab+1) (.cells 1 t false)/\AV t 0 (.ptr a 0):=by rw[<-ed];exact⟨_,(Lv.new (H:=H.add _)).add,ζ⟩
 have ls:∃t,Lv K1 (H.ab+1+1) (.cells 2 t false)/\AV t 0 Dp/\AV t 1 Dp:=by rw[<-ed];exact⟨_,Lv.new (H:=(H.add _).add _),ζ⟩
 clear ed;have⟨t3,l3,e3⟩:=l3;have⟨t4,l4,e4⟩:=l4;have IW:gr H 0 (H.ab+1+1) K1 (λ y=>if y<H.ab then(0,0)else if y=H.ab+1+1 then(5,0)else(6,0)) Dp Dp [] [] (λ _=>0) (λ _=>0) (λ _=>0) (λ _=>0) (λ _ _=>0) (λ _ _=>0):=⟨ls,⟨by simpa using aX.nil,λ i A=>ω,ζ,λ i A=>ω⟩,⟨by simpa using aX.nil,λ i A=>ω,ζ,λ i A=>ω⟩,by simp<;>omega,λ y G=>aq G,g1⟩;have wE:(λ y=>if y<H.ab then((0:Nat),(0:Nat))else if y=H.ab+1+1 then(5,0)else(6,0)) H.ab=(6,0)/\(λ y=>if y<H.ab then((0:Nat),(0:Nat))else if y=H.ab+1+1 then(5,0)else(6,0)) (H.ab+1)=(6,0):=by simp<;>omega
 generalize(λ y=>if y<H.ab then((0:Nat),(0:Nat))else if y=H.ab+1+1 then(5,0)else(6,0))=c0 at IW wE;refine CA (λ j sl K=>(∃c mv rv h2 Yr ms mm rs rm,gr H j (H.ab+1+1) K c mv rv h2 Yr ms mm rs rm (λ _ _=>0) (λ _ _=>0)/\c H.ab=(6,0)/\c (H.ab+1)=(6,0))/\Lv K H.ab (.cells 1 t3 false)/\Lv K (H.ab+1) (.cells 1 t4 false)/\AV sl 2 (.ptr dH 0)/\AV sl 3 (.ptr H.ab 0)/\AV sl 4 (.ptr (H.ab+1) 0)/\AV sl 7 (.ptr (H.ab+1+1) 0)/\AV sl 32 (ae (S.p.length:Nat))/\AV sl 33 (ae (j:Nat))/\j<=S.p.length) S.p.length ⟨⟨c0,_,_,_,_,_,_,_,_,IW,wE.1,wE.2⟩,l3,l4,ζ⟩ ?_
 rintro b1 k1-cq j sl K ⟨⟨c,mv,rv,h2,Yr,ms,mm,rs,rm,u,Ej,Qh⟩,l3,l4,s2,s3,s4,s7,jZ,Br,hj⟩ ih;by_cases bB:j<S.p.length
 .have ix:j<maxLen:=by unfold maxLen;omega
  have⟨t,lo,f0,f1⟩:=u.ob;simp[s7,jZ,Br,bB,lo.get,f0,f1];refine CW (WI (l:=[]) .nil ζ) ?_;rintro _ K2 ⟨kQ,m1,rfl,hB1,b11,b12,g2⟩;replace hB1:e_ K2 kQ m1 (λ _=>0):=hB1;have lo2:=lo.ai g2;simp;refine dF (by simp[dA,dm,val,lo2.get,f0,f1,u.m.row.fy,u.r.row.fy]) ?_;simp[-cX];have om2:=u.m.row.W g2 ζ;have bA:((List.range j).map λ i=>J.ptr (ms i) 0).length<=64:=by rw[bW,Aw];omega
  have Qw:((List.range j).map λ i=>J.ptr (rs i) 0).length<=64:=by rw[bW,Aw];omega
  refine vL (c:=.ptr kQ 0) B5 aFH om2 rfl ω ω ?_;intro v1 E ids1 p1 p2 p3;have⟨c1,a1,a2⟩:=LW c K.ab (2,j);have iW:=g2.ab;have Jd:=(u.m.RF a1).W g2 ζ;have mY:=(u.r.RF a1).W g2 ζ;have⟨c2,d1,d2⟩:=LW c1 K2.ab (1,0);have Vh:=Jd.push hB1 ⟨a2 _ b11,a2 _ b12⟩ p2 p1 p3 d1 d2;have hY1:∀y∈h2,c2 y=(1,0):=λ y G=>(d1 y (Jd.row.lt y G)).trans (Jd.NB y G);have oi:=(mY.RF d1).W p2 λ y G=>by rw[hY1 y G];simp
  have ES:c2 (H.ab+1+1)=(5,0):=(d1 _ lo2.lt).trans ((a1 _ lo.lt).trans u.c5);have Nj:=lo2.W p2 λ B=>by have N:=hY1 _ B;rw[ES]at N;cases N
  simp;refine dF (by simp[dA,dm,val,Nj.get,f1,u.r.row.fy]) ?_;simp;refine CW (WI (l:=[]) .nil ζ) ?_;rintro _ K4 ⟨lJ,m2,rfl,hB2,b21,b22,g4⟩;replace hB2:e_ K4 lJ m2 (λ _=>0):=hB2;have⟨c3,O,U⟩:=LW c2 E.ab (4,j);have wK:=p2.ab;have Vl:=g4.ab;have hm4:=(Vh.RF O).W g4 ζ;have hr4:=(oi.RF O).W g4 ζ;have lo4:=Nj.ai g4;simp;refine dF (by simp[dA,dm,val,lo4.get,f1,u.r.row.fy]) ?_;simp[-cX];refine vL (c:=.ptr lJ 0) B5 aFH hr4.row rfl ω ω ?_;intro v2 K5 wP r1 r2 r3;have⟨c4,j1,j2⟩:=LW c3 K4.ab (3,0);have hr5:=hr4.push hB2 ⟨U _ b21,U _ b22⟩ r2 r1 r3 j1 j2;have Gt:∀y∈Yr,c4 y=(3,0):=λ y G=>(j1 y (hr4.row.lt y G)).trans (hr4.NB y G);have hm5:=(hm4.RF j1).W r2 λ y G=>by rw[Gt y G];simp
  have hsc:c4 (H.ab+1+1)=(5,0):=(j1 _ lo4.lt).trans ((O _ Nj.lt).trans ES);have lo5:=lo4.W r2 λ B=>by have N:=Gt _ B;rw[hsc]at N;cases N
  have hn5:=r2.ab;have Em:∀y,y<K.ab->c4 y=c y:=λ y G=>(j1 y ω).trans ((O y ω).trans ((d1 y ω).trans (a1 y G)));have hx3:c4 H.ab=(6,0):=(Em _ l3.lt).trans Ej;have hx4:c4 (H.ab+1)=(6,0):=(Em _ l4.lt).trans Qh;have n1:∀{y:Nat},y<K.ab->c y=(6,0)->y∉h2/\y∉Yr:=λ {y} G h6=>⟨(λ B=>by have N:=u.m.NB y B;rw[h6]at N;cases N),(λ B=>by have N:=u.r.NB y B;rw[h6]at N;cases N)⟩;have l3':=(((l3.ai g2).W p2 (n1 l3.lt Ej).1).ai g4).W r2 (n1 l3.lt Ej).2;have l4':=(((l4.ai g2).W p2 (n1 l4.lt Qh).1).ai g4).W r2 (n1 l4.lt Qh).2;have hb5:I [] H K5:=ke ((ke (u.base.trans g2) p2 λ y G=>u.lo (by rw[u.m.NB y G];simp)).trans g4) r2 λ y G=>u.lo (by rw[u.r.NB y G];simp);simp[p1.cell,p1.co];try (refine dF (by simp[dA,dm]) ?_)
  simp[Br,lo5.get,r1.cell,r1.co,bq ix];have hu:aM (λ _:Nat=>λ _:Nat=>0) j (λ _=>0)=λ _ _=>0:=by funext i;unfold aM;split<;>rfl
  rw[hu]at hm5 hr5;generalize EN:D.put _ _ _=K6;have g6:I [H.ab+1+1] K5 K6:=by rw[<-EN];exact((I.refl _ _).put (.inr ζ)).put (.inr ζ)
  have lo6:∃t,Lv K6 (H.ab+1+1) (.cells 2 t false)/\AV t 0 v1/\AV t 1 v2:=by rw[<-EN];exact⟨_,(lo5.put_eq).put_eq,ζ⟩
  clear EN;have hz:∀y∈[H.ab+1+1],c4 y=(5,0):=λ y G=>by
   have:y=H.ab+1+1:=by simpa using G
   rw[this];exact hsc
  exact ih ω ⟨⟨c4,v1,v2,ids1,wP,_,_,_,_,⟨lo6,hm5.W g6 λ y G=>by rw[hz y G];simp,hr5.W g6 λ y G=>by rw[hz y G];simp,hsc,λ y G=>(Em y (aT G u.base.ab)).trans (u.low y G),ke hb5 g6 (by simp<;>omega)⟩,hx3,hx4⟩,l3'.W g6 (by simp<;>omega),l4'.W g6 ζ,by simp[s2,s3,s4,s7,jZ];omega⟩
 .obtain rfl:j=S.p.length:=ω
  subst cq;simp[s3,s4,jZ,Br,l3.get,e3];refine CW (aER (hW.mp.W u.base) hW.nD) ?_;rintro pv K2 ⟨hP,AW,g2⟩;obtain⟨pid,hk,B6,SX,pn,pt,pro,rfl,VI,mC,qy,hpc,nJ⟩:=hP.full hW.p0;have X4:K.ab<=pid:=AW _ _ _ _ _ _ rfl;have⟨c1,a1,a2⟩:=LW c K.ab (6,0);have hS2:=(u.RF a1).W g2 ζ;have aIo:=hW.nD.2.2.2.2;have l32:=l3.ai g2;have l42:=l4.ai g2;have y3:=(a1 _ l3.lt).trans Ej;have y4:=(a1 _ l4.lt).trans Qh;have y5:=a2 pid X4;simp[de XD];refine CA (λ j sl K=>(∃c,gr H S.p.length (H.ab+1+1) K c mv rv h2 Yr ms mm rs rm (S0 S VL j).1 (S0 S VL j).2/\c H.ab=(6,0)/\c (H.ab+1)=(6,0)/\c pid=(6,0))/\Lv K H.ab (.cells 1 t3 false)/\Lv K (H.ab+1) (.cells 1 t4 false)/\Lv K pid (.cells pn pt pro)/\AV sl 2 (.ptr dH 0)/\AV sl 3 (.ptr H.ab 0)/\AV sl 4 (.ptr (H.ab+1) 0)/\AV sl 7 (.ptr (H.ab+1+1) 0)/\AV sl 8 (.fn (.func 116) [] [.ptr H.ab 0,.ptr (H.ab+1) 0])/\AV sl 58 (.sl pid hk 3 S.a_.length B6 SX)/\AV sl 59 (ae (S.a_.length:Nat))/\AV sl 60 (ae (j:Nat))/\j<=S.a_.length) S.a_.length ⟨⟨c1,by simpa[S0]using hS2,y3,y4,y5⟩,l32,l42,VI,by simp[s2,s3,s4,s7]⟩ ?_
  clear hS2 l32 l42 y3 y4 y5 u;rintro b2 k2-dO j Hn E ⟨⟨c2,u,Ej,Qh,qw⟩,l3,l4,lp3,q2,q3,q4,q7,q8,q58,W4,yJ,hj⟩ eJ;by_cases bB:j<S.a_.length
  .have ix:j<maxLen:=by unfold maxLen;omega
   have⟨M,yi,mY⟩:=qy j bB;have gR:M=yI S.a_[j]:=mY;subst gR;have C3:=cG bB;have air:=W0 (VL:=VL) bB;generalize S.a_[j]=q at yi C3 air;have⟨Y,x,Z,hxa,GR⟩:=hW.ins q C3;have aU:hk+j*3+3<=pn:=ω
   have kh:bc pt (hk+j*3) 3=some [ae (q.1:Nat),ae (q.2.1:Nat),ae (q.2.2:Nat)]:=yi;have e1:¬H.ab=E.ab:=bC l3.lt;simp[q3,q58,W4,yJ,bB,lp3.get,aU,bY kh,e1,l3.get,e3];generalize pL:D.put _ _ _=K4;have g4:I [] E K4:=by rw[<-pL];exact ke ((I.refl _ _).add _) ((I.refl _ _).put (.inr ζ)) (X:=[E.ab]) ζ
   have l10:∃t,Lv K4 E.ab (.cells 3 t false)/\AV t 0 (ae (q.1:Nat)):=by rw[<-pL];exact⟨_,(Lv.new (H:=E)).put_eq,ζ⟩
   clear pL;have⟨pC,l10,e10⟩:=l10;refine CW (akC (hW.mp.W (u.base.trans g4)) Z hxa GR) ?_;rintro _ K5 ⟨⟨M,rfl,hI,-⟩,g5⟩;obtain⟨va,vl,rfl,kl,mO,-⟩:=hI;have qR:=l10.ai g5;have CT:=g4.trans g5;have⟨c3,BL,HM⟩:=LW c2 E.ab (6,0);have C4:=(u.RF BL).W CT ζ;have l35:=l3.ai CT;have l45:=l4.ai CT;have lp5:=lp3.ai CT;have aId:=CT.ab;have qD:¬E.ab=K5.ab:=bC qR.lt;simp[kl.cell,mO.cell];generalize EN:D.put _ _ _=K6;have g6:I [] K5 K6:=by rw[<-EN];exact ke ((I.refl _ _).add _) ((I.refl _ _).put (.inr ζ)) (X:=[K5.ab]) ζ
   have l11:∃t,Lv K6 K5.ab (.cells 8 t false)/\AV t 0 (u8 x.op)/\AV t 2 (str x.a)/\AV t 3 (str x.b):=by rw[<-EN];exact⟨_,(Lv.new (H:=K5)).put_eq,ζ⟩
   clear EN;have⟨t11,l11,f0,f2,f3⟩:=l11;have d:=C4.W g6 ζ;have l36:=l35.ai g6;have l46:=l45.ai g6;have lp6:=lp5.ai g6;have W6:=qR.ai g6;have z3:=(BL _ l3.lt).trans Ej;have z4:=(BL _ l4.lt).trans Qh;have z_p:=(BL _ lp3.lt).trans qw;have⟨t_S,l_S,u0,u1⟩:=d.ob;have eT:∀(bz:CX) (K7:D) (M_1 R_1:Nat->Nat->Nat),(M_1,R_1)=S0 S VL (j+1)->gr H S.p.length (H.ab+1+1) K7 c3 mv rv h2 Yr ms mm rs rm M_1 R_1->Lv K7 H.ab (.cells 1 t3 false)->Lv K7 (H.ab+1) (.cells 1 t4 false)->Lv K7 pid (.cells pn pt pro)->bz.get 2=some (.ptr dH 0)->bz.get 3=some (.ptr H.ab 0)->bz.get 4=some (.ptr (H.ab+1) 0)->bz.get 7=some (.ptr (H.ab+1+1) 0)->bz.get 8=some (.fn (.func 116) [] [.ptr H.ab 0,.ptr (H.ab+1) 0])->bz.get 58=some (.sl pid hk 3 S.a_.length B6 SX)->bz.get 59=some (ae (S.a_.length:Nat))->bz.get 60=some (ae ((j:Int)+1))->aD E0 (.code (.loop b2)::k2) ⟨bz,176,[],none,51⟩ K7 (qb E0 [ResultVar.tmp 6] Q'):=by
    intro bz K7 M_1 R_1 hMR O U F h4 h5 h6 h7 h8 N xR PU LD;have e1:(S0 S VL (j+1)).1=M_1:=by rw[<-hMR]
    have e2:(S0 S VL (j+1)).2=R_1:=by rw[<-hMR]
    exact eJ ω ⟨⟨c3,by rw[e1,e2];exact O,z3,z4,z_p⟩,U,F,h4,h5,h6,h7,h8,N,xR,PU,by simpa using LD,bB⟩
   clear eJ;rw[air]at eT;unfold La at eT;rw[V5 Z]at eT;dsimp only at eT;by_cases N:x.op=9
   .rw[aq N]at eT;have⟨idm,capm,exm,tm,em,lm,u_m,C9⟩:=d.m.at_ Y;simp[N,q7,q8,W6.get,e10,l11.get,f3,l_S.get,u0,em,lm.get,u_m,C9,Y];have cR:∀{y:Nat},c3 y=(6,0)->y≠ms q.1/\y≠mm q.1:=λ {y} h=>⟨(λ e=>by rw[e,(d.m.M q.1 Y).1]at h;cases h),(λ e=>by rw[e,(d.m.M q.1 Y).2]at h;cases h)⟩;refine CW (fld_c hW d.base l36 e3 l46 e4 (d.m.s q.1 Y) (cR z3) ⟨d.lo (by rw[(d.m.M q.1 Y).1];simp),d.lo (by rw[(d.m.M q.1 Y).2];simp)⟩) ?_;rintro v7 K7 ⟨hB7,g7⟩;have nz:∀{y:Nat},c3 y=(6,0)->y∉[ms q.1,mm q.1]:=λ {y} h B=>by simp at B;exact B.elim (cR h).1 (cR h).2
    have g:=d.putM Y g7 hB7;have l107:=W6.W g7 (nz (HM _ (Nat.le_refl _)));have l117:=l11.W g7 (nz (HM _ ω));have⟨t_7,l_7,u07,u17⟩:=g.ob;have VJ:=g.m.at_ Y;have⟨idm7,capm7,exm7,tm7,em7,VJ,um7,hcm7⟩:=VJ;simp;try (refine dF (by simp[dA,dm]) ?_)
    try simp[yJ,bq ix]
    refine eT _ _ _ _ rfl g (l36.W g7 (nz z3)) (l46.W g7 (nz z4)) (lp6.W g7 (nz z_p)) ?_ ?_ ?_ ?_ ?_ ?_ ?_ ?_<;>simp[q2,q3,q4,q7,q8,q58,W4]
   .rw[ao N]at eT;by_cases h8:x.op=8
    .rw[aq h8]at eT;have⟨idm,capm,exm,tm,em,lm,u_m,C9⟩:=d.r.at_ Y;simp[h8,q7,q8,W6.get,e10,l11.get,f2,l_S.get,u1,em,lm.get,u_m,C9,Y];have cR:∀{y:Nat},c3 y=(6,0)->y≠rs q.1/\y≠rm q.1:=λ {y} h=>⟨(λ e=>by rw[e,(d.r.M q.1 Y).1]at h;cases h),(λ e=>by rw[e,(d.r.M q.1 Y).2]at h;cases h)⟩;refine CW (fld_c hW d.base l36 e3 l46 e4 (d.r.s q.1 Y) (cR z3) ⟨d.lo (by rw[(d.r.M q.1 Y).1];simp),d.lo (by rw[(d.r.M q.1 Y).2];simp)⟩) ?_;rintro v7 K7 ⟨hB7,g7⟩;have nz:∀{y:Nat},c3 y=(6,0)->y∉[rs q.1,rm q.1]:=λ {y} h B=>by simp at B;exact B.elim (cR h).1 (cR h).2
     have g:=d.putR Y g7 hB7;have l107:=W6.W g7 (nz (HM _ (Nat.le_refl _)));have l117:=l11.W g7 (nz (HM _ ω));have⟨t_7,l_7,u07,u17⟩:=g.ob;have VJ:=g.r.at_ Y;have⟨idm7,capm7,exm7,tm7,em7,VJ,um7,hcm7⟩:=VJ;simp;try (refine dF (by simp[dA,dm]) ?_)
     try simp[yJ,bq ix]
     refine eT _ _ _ _ rfl g (l36.W g7 (nz z3)) (l46.W g7 (nz z4)) (lp6.W g7 (nz z_p)) ?_ ?_ ?_ ?_ ?_ ?_ ?_ ?_<;>simp[q2,q3,q4,q7,q8,q58,W4]
    .rw[ao h8]at eT;simp[N,h8,yJ,bq ix];refine eT _ _ _ _ rfl d l36 l46 lp6 ?_ ?_ ?_ ?_ ?_ ?_ ?_ ?_<;>simp[q2,q3,q4,q7,q8,q58,W4]
  .obtain rfl:j=S.a_.length:=ω
   subst dO;simp[q2,W4,yJ];refine CW (hW.gra E u.base) ?_;rintro gv K4 ⟨hG,g4⟩;have G7:=u.W g4 ζ;have Vg:S0 S VL S.a_.length=S.a_.foldl (La S VL) (λ _ _=>0,λ _ _=>0):=by unfold S0;rw[List.take_length]
   rw[Vg]at G7;have bm:∀i,i<S.p.length->(ms i<E.ab/\mm i<E.ab)/\rs i<E.ab/\rm i<E.ab:=λ i A=>⟨(u.m.s i A).Lc,(u.r.s i A).Lc⟩;clear l3 l4 lp3 u Vg eJ ih;generalize S.a_.foldl (La S VL) (λ _ _=>0,λ _ _=>0)=B_0 at G7 hQ;have⟨M_0,R0⟩:=B_0;dsimp only at G7;have rP:=hW.gl;obtain⟨gk,hgk⟩:∃gk:Nat->BW,gk=λ f=>dW.getD f []:=⟨_,rfl⟩;have kj:∀f (h:f<dW.length),dW[f]=gk f:=λ f h=>by rw[hgk];simp[h]
   have AW:∀f,f<dW.length->∀k∈gk f,0<=k/\k<S.p.length:=λ f h k Q=>by rw[<-kj f h]at Q;exact hW.ge _ (cG h) k Q
   simp;refine bu (α:=(Nat->Nat->Nat)×(Nat->Nat->Nat)×Bool) (aJ:=λ z sl K=>gr H S.p.length (H.ab+1+1) K c2 mv rv h2 Yr ms mm rs rm z.1 z.2.1/\GI E.ab K gv dW/\(z.2.2=false->∀f,f<dW.length->∀k∈gk f,CP (z.1 k.toNat) (z.1 f)/\CP (z.2.1 k.toNat) (z.2.1 f))/\B8 M_0 z.1/\B8 R0 z.2.1/\AV sl 7 (.ptr (H.ab+1+1) 0)/\AV sl 13 gv/\AV sl 14 (bl z.2.2)) (mu:=λ z=>2*(VG z.1 S.p.length+VG z.2.1 S.p.length)+if z.2.2=true then 1 else 0) ?_ (M_0,R0,true) _ _ ?ini5;case ini5=>exact⟨G7,hG,λ e=>(by cases e),⟨λ _ _ h=>h⟩,⟨λ _ _ h=>h⟩,by simp[q7]⟩
   rintro b3 k3-jU ⟨aD,R,b⟩ sl3 K5 ⟨C4,hG5,eN,Rp,QV,r7,W5,r14⟩ jg;dsimp only at C4 eN Rp QV r14 jg;cases b with
   |false=>
    subst jU
    simp[r7,r14]
    exact hQ ⟨_,aD,R,rfl,⟨⟨_,_,_,_,_,_,_,_,_,C4⟩,λ f hf k Q=>eN rfl f ω k (by rw[hgk];exact Q),Rp,QV⟩⟩
   |true=>
    have hgl5:=hG5.sl.aN yO
    simp[W5,r14,hgl5]
    refine bu (α:=Nat×(Nat->Nat->Nat)×(Nat->Nat->Nat)×Bool) (aJ:=λ z sl K=>gr H S.p.length (H.ab+1+1) K c2 mv rv h2 Yr ms mm rs rm z.2.1 z.2.2.1/\GI E.ab K gv dW/\FW S.p.length gk aD R z.2.1 z.2.2.1 z.2.2.2 z.1 0/\B8 M_0 z.2.1/\B8 R0 z.2.2.1/\AV sl 7 (.ptr (H.ab+1+1) 0)/\AV sl 13 gv/\AV sl 14 (bl z.2.2.2)/\AV sl 108 gv/\AV sl 109 (ae (dW.length:Nat))/\AV sl 110 (ae (z.1:Nat))/\z.1<=dW.length) (mu:=λ z=>dW.length-z.1) ?_ (0,aD,R,false) _ _ ?ini6
    case ini6=>
     refine⟨C4,hG5,⟨λ _=>⟨rfl,rfl,λ f k h=>?_⟩,λ e=>(by cases e)⟩,Rp,QV,by simp[r7,W5]⟩
     rcases h with⟨h,-⟩|⟨-,h⟩
     .omega
     .simp at h
    rintro b4 k4-Qt ⟨f,M2,R2,b2⟩ RS K6 ⟨d,hG6,hP,Rp,QV,u7,u13,u14,u108,VR,R4,hf⟩ QU
    dsimp only at d hP Rp QV u14 R4 hf QU
    by_cases iw:f<dW.length
    .have Eu:f<maxLen:=by unfold maxLen;omega
     have C:f<S.p.length:=ω
     obtain⟨idg,aIO,aHb,exg,ng,tg,rog,ug,hvg,lg,hgl6,hgu,hNu,-⟩:=hG6.row iw;rw[kj f iw]at hNu;have MK:=hNu.sl.aN bK;have sJ:=hNu.sl.cP;simp[u108,VR,R4,iw,hvg,lg.get,hgl6,hgu,MK];refine bu (α:=Nat×(Nat->Nat->Nat)×(Nat->Nat->Nat)×Bool) (aJ:=λ z sl K=>gr H S.p.length (H.ab+1+1) K c2 mv rv h2 Yr ms mm rs rm z.2.1 z.2.2.1/\GI E.ab K gv dW/\NI E.ab K ug (gk f)/\FW S.p.length gk aD R z.2.1 z.2.2.1 z.2.2.2 f z.1/\B8 M_0 z.2.1/\B8 R0 z.2.2.1/\AV sl 7 (.ptr (H.ab+1+1) 0)/\AV sl 13 gv/\AV sl 14 (bl z.2.2.2)/\AV sl 108 gv/\AV sl 109 (ae (dW.length:Nat))/\AV sl 110 (ae (f:Nat))/\AV sl 15 (ae (f:Nat))/\AV sl 115 ug/\AV sl 116 (ae ((gk f).length:Nat))/\AV sl 117 (ae (z.1:Nat))/\z.1<=(gk f).length) (mu:=λ z=>(gk f).length-z.1) ?_ (0,M2,R2,b2) _ _ ?ini7;case ini7=>exact⟨d,hG6,hNu,hP,Rp,QV,by simp[u7,u13,u14,u108,VR,R4,hvg]⟩
     clear d hG6 hNu hP Rp QV u7 u13 u14 u108 VR R4;rintro b5 C1-hk5 ⟨t,M_3,R3,b3'⟩ sl5 K7 ⟨g,hG7,hN7,hP,Rp,QV,w7,w13,w14,w108,w109,w110,w15,w115,w116,VP,ht⟩ ih5;dsimp only at g hP Rp QV w14 VP ht ih5;by_cases htn:t<(gk f).length
     .have htm:t<maxLen:=ω
      have⟨vz,cq⟩:=AW f iw _ (cG htn);have⟨idt,offt,capt,ext,nt,tt_,rot,ct,hvt,lt_,hlet,hrdt,hRct⟩:=hN7.sl.gL htn;have AP:ct=ae (gk f)[t]:=by have:[ct]=[ae (gk f)[t]]:=hRct;simpa using this
      subst AP;have eH:=λ {b1 b2:Bool} {W_1 W_2:Nat->Nat}=>hP.step (b1:=b1) (b2:=b2) (W_1:=W_1) (W_2:=W_2) C htn;generalize(gk f)[t]=kz at vz cq hrdt eH;obtain⟨k,rfl⟩:∃k:Nat,kz=(k:Int):=⟨kz.toNat,ω⟩;rw[show((k:Nat):Int).toNat=k from rfl]at eH;have mA:k<S.p.length:=ω
      have⟨t_o,l_o,x0,x1⟩:=g.ob;have pair:∀{K:D} {kk:Nat} {mv':J} {aL:AT} {m1 m2:Nat->Nat} {aD:Nat->Nat->Nat},hy K kk S.p.length c2 mv' aL m1 m2 aD->∃id ax ex t,mv'=.sl id 0 1 S.p.length ax ex/\Lv K id (.cells ax t false)/\t.get f=some (.ptr (m1 f) 0)/\f<ax/\t.get k=some (.ptr (m1 k) 0)/\k<ax:=λ h=>by have⟨i_a,ca,xa_,ta,ea,la,Gw,zF⟩:=h.at_ C;have⟨i_b,cb,xb_,tb,eb,lb,bR,eG⟩:=h.at_ mA;have e1:=ea.symm.trans eb;simp at e1;obtain⟨rfl,rfl,rfl⟩:=e1;have e2:=la.get.symm.trans lb.get;simp at e2;subst e2;exact⟨_,_,_,_,ea,la,Gw,zF,bR,eG⟩
      have⟨i_a,ca,xa_,ta,ea,la,Gw,zF,bR,eG⟩:=pair g.m;simp[w7,w15,w115,w116,VP,htn,hvt,lt_.get,hlet,hrdt,l_o.get,x0,ea,la.get,Gw,zF,bR,eG,de B5,C,mA];refine CW (SH g.m C mA) ?_;rintro _ K8 ⟨b1,W_1,rfl,hB8,g8,hU1⟩;have B1:=g.putM C g8 hB8;have hx8:∀x∈[ms f,mm f],x<E.ab:=λ x Z=>by
       simp at Z;rcases Z with rfl|rfl
       .exact(bm f C).1.1
       .exact(bm f C).1.2
      have hG8:=hG7.IM g8 hx8;have hN8:=hN7.W g8 hx8;have⟨t_o8,l_o8,y0,y1⟩:=B1.ob;have⟨ia8,ca8,xa8,ta8,ea8,la8,ha18,ha28,hb18,hb28⟩:=pair B1.m;have⟨i_c,cc,x_c,tc,ec,lc,og,k8,hd1,hd2⟩:=pair B1.r;cases b1;all_goals
       simp[w7,w14,w15,l_o8.get,y1,ec,lc.get,og,k8,hd1,hd2,C,mA];refine CW (SH B1.r C mA) ?_;rintro _ K9 ⟨b2,W_2,rfl,hB9,g9,hU2⟩;have X9:=B1.putR C g9 hB9;have hx9:∀x∈[rs f,rm f],x<E.ab:=λ x Z=>by
        simp at Z;rcases Z with rfl|rfl
        .exact(bm f C).2.1
        .exact(bm f C).2.2
       have hG9:=hG8.IM g9 hx9;have P3:=hN8.W g9 hx9;have Mt:=eH hU1 hU2;cases b2;all_goals simp[VP,bq htm];exact ih5 (t+1,aM M_3 f W_1,aM R3 f W_2,_) _ _ (by show _-(t+1)<_-t;omega) ⟨X9,hG9,P3,Mt,Rp.aM hU1,QV.aM hU2,by simp[w7,w13,w15,w108,w109,w110,w115,w116];omega⟩
     .obtain rfl:t=(gk f).length:=ω
      subst hk5;simp[w110,w116,VP,bq Eu];refine QU (f+1,M_3,R3,b3') _ _ (by show _-(f+1)<_-f;omega) ⟨g,hG7,⟨λ e=>?_,hP.lt⟩,Rp,QV,by simp[w7,w13,w14,w108,w109];omega⟩;have⟨e1,e2,e3⟩:=hP.eq e;refine⟨e1,e2,λ f' k' h'=>e3 f' k' ?_⟩;rcases h' with⟨O,U⟩|⟨-,U⟩
      .by_cases e4:f'=f
       .subst e4;exact .inr ⟨rfl,by rw[iF];exact U⟩
       .exact .inl ⟨ω,U⟩
      .simp at U
    .obtain rfl:f=dW.length:=ω
     subst Qt;simp[VR,R4];refine jg (M2,R2,b2) _ _ ?_ ⟨d,hG6,λ e f' kf k' iI=>?_,Rp,QV,by simp[u7,u13,u14]⟩
     .cases b2 with
      |true=>have:=hP.lt rfl;simp;omega
      |false=>obtain⟨e1,e2,-⟩:=hP.eq rfl;subst e1;subst e2;simp
     .dsimp only at e⊢;have⟨e1,e2,e3⟩:=hP.eq e;subst e1;subst e2;exact e3 f' k' (.inl ⟨kf,iI⟩)
section
variable{H K T:D}{n pY f:Nat}{dW:List BW}{EC:(Nat->Nat->Nat)×(Nat->Nat->Nat)}{aD R:Nat->Nat->Nat}
theorem h1.ai(h:h1 H n pY K dW EC aD R)(g:I [] K T):h1 H n pY T dW EC aD R:=by have⟨c,mv,rv,h2,Yr,ms,mm,rs,rm,d⟩:=h.ex;exact{h with ex:=⟨c,mv,rv,h2,Yr,ms,mm,rs,rm,d.W g ζ⟩}
theorem Gr(h:h1 H n pY K dW EC aD R)(d:f<n):CN 119 [.ptr pY 0,ae (f:Nat)] K λ v T=>T=K/\v=bl true:=by
 have⟨c,mv,rv,h2,Yr,ms,mm,rs,rm,e⟩:=h.ex;have⟨t,l,i,A⟩:=e.ob;have⟨p,ca,g,B,y,C,E,z⟩:=e.m.at_ d;refine ba o119 rfl λ D r=>?_;have u:(0:Int)<=(f:Int):=ω
 simp[l.get,i,y,de B5,u,d];exact r ⟨rfl,rfl⟩
theorem mMod(h:h1 H n pY K dW EC aD R)(B:xn K)(d:f<n):CN 53 [.ptr pY 0,ae (f:Nat)] K λ v T=>aW T 1 (One λ n=>ae n) v (iY (jW (aD f)))/\I [] K T:=by have A:=Gr h d;have⟨c,mv,rv,h2,Yr,ms,mm,rs,rm,e⟩:=h.ex;have⟨t,l,r,F⟩:=e.ob;have⟨y,ca,p,G,D,u,E,i⟩:=e.m.at_ d;refine ba o53 rfl λ J C=>?_;simp[cE A,l.get,r,D,u.get,E,i,d];refine CW (Wl (e.m.s f d) B) ?_;rintro v K2 ⟨⟨aL,z,-⟩,g⟩;simp;exact C ⟨z.aZ,g⟩
theorem mRef(h:h1 H n pY K dW EC aD R)(C:xn K)(d:f<n):CN 54 [.ptr pY 0,ae (f:Nat)] K λ v T=>aW T 1 (One λ n=>ae n) v (iY (jW (R f)))/\I [] K T:=by have B:=Gr h d;have⟨c,mv,rv,h2,Yr,ms,mm,rs,rm,e⟩:=h.ex;have⟨t,l,G,u⟩:=e.ob;have⟨z,ca,p,J,E,y,F,i⟩:=e.r.at_ d;refine ba o54 rfl λ M D=>?_;simp[cE B,l.get,u,E,y.get,F,i,d];refine CW (Wl (e.r.s f d) C) ?_;rintro v K2 ⟨⟨aL,A,-⟩,g⟩;simp;exact D ⟨A.aZ,g⟩
theorem T3(l:Lv H j (.cells 2 t3 false))(e0:AV t3 0 (.ptr a 0))(E:AV t3 1 (.ptr b 0))(A:e_ H a dH aA)(z:e_ H b p3 ms):CN 120 [.sl j 0 1 2 mid ex] H λ v K=>∃id m,v=.ptr id 0/\e_ K id m (fT (fT (λ _=>0) aA) ms)/\I [] H K:=by
 refine ba o120 rfl λ M C=>?_;simp;refine CW (WI (l:=[]) .nil ζ) ?_;rintro _ F ⟨u,r,rfl,p,b1,b2,d⟩;replace p:e_ F u r (λ _=>0):=p;have J:=A.Lc;have t:=z.Lc;have l1:=l.ai d;simp[de B5];refine aeE ?_;simp[l1.get,e0];refine CW (aeh p (A.W d ζ ζ) ω ω ω ω) ?_;rintro _ K2 ⟨rfl,g,i⟩;have Z:∀{y:Nat},y<H.ab->y∉[u,r]:=λ {y} h B=>by simp at B;omega
 have l2:=l1.W i (Z l.lt);simp;refine aeE ?_;simp[l2.get,E];refine CW (aeh g ((z.W d ζ ζ).W i (Z t.1) (Z t.2)) ω ω ω ω) ?_;rintro _ N ⟨rfl,e,D⟩;simp;refine aeE ?_;simp;exact C ⟨_,_,rfl,e,ke d (i.trans D) λ y G=>by simp at G;omega⟩
theorem mTouch(h:h1 H n pY K dW EC aD R)(O:xn K)(d:f<n):CN 52 [.ptr pY 0,ae (f:Nat)] K λ v T=>aW T 1 (One λ n=>ae n) v (iY (jW (fT (fT (λ _=>0) (aD f)) (R f))))/\I [] K T:=by
 have N:=Gr h d;have⟨c,mv,rv,h2,Yr,ms,mm,rs,rm,e⟩:=h.ex;have⟨t,l,C,B⟩:=e.ob;have⟨J,ca,A,ta,ea,F,Gw,y⟩:=e.m.at_ d;have⟨G,cb,z,tb,Z,E,bR,eG⟩:=e.r.at_ d;refine ba o52 rfl λ Q' Q=>?_;simp[cE N,l.get,C,B,ea,F.get,Gw,y,Z,E.get,bR,eG,d];generalize i:D.add _ _=u;have g:I [] K u:=by rw[<-i];exact(I.refl _ _).add _
 have l1:∃t,Lv u K.ab (.cells 2 t false)/\AV t 0 (.ptr (ms f) 0)/\AV t 1 (.ptr (rs f) 0):=by rw[<-i];exact⟨_,Lv.new,ζ⟩
 clear i;have⟨t1,l1,e0,e1⟩:=l1;refine CW (T3 l1 e0 e1 ((e.m.s f d).W g ζ ζ) ((e.r.s f d).W g ζ ζ)) ?_;rintro _ K2 ⟨id,m,rfl,U,p⟩;simp;refine CW (Wl U ((O.W g).W p)) ?_;rintro v K3 ⟨⟨aL,M,-⟩,Y⟩;simp;exact Q ⟨M.aZ,(g.trans p).trans Y⟩
end
theorem base_gr(e:X.HB=H)(h:fM X K L aA V):I [] H K:=by have⟨t,tn,tf,mn,mf,cn,cf,en,ef,dv,d⟩:=h;rw[<-e];exact d.base
theorem oI.base{H K:D}{mid a n dH:Nat}{dW:Nat->BW}(h:oI H mid a n dH K dW):I [] H K:=by obtain⟨p5,m,d,c,t,C,O,-⟩:=h.ex;exact O.base
theorem calG_le{L:List Pt}{n:Nat}(h:∀q∈L,(au q).length<=4194304)(e:L.length<=1024)(i:Nat):(hx au L n i).length<=1099511627776:=by
 have d:(E3 au L L.length i).length<=1099511627776:=by
  have O:=yq (g:=λ q:Pt=>if q.1=i then au q else[]) (aG:=4194304) L λ x Z=>by
   split
   .exact h x Z
   .exact dQ _
  unfold E3;rw[iF];have:=nW 4194304 e;omega
 unfold hx;split
 .exact aY ZG (by rw[M5];exact d)
 .exact d
theorem VC{L:List Pt}{i:Nat}(g:∀q∈L,∀f∈au q,0<=f/\f<b):∀f∈hx au L b i,0<=f/\f<b:=λ f d=>by
 have e:∀f∈E3 au L L.length i,0<=f/\f<b:=λ f d=>by
  unfold E3 at d;rw[iF]at d;have⟨q,O,U⟩:=List.mem_flatMap.1 d;split at U
  .exact g q O f U
  .simp at U
 unfold hx at d;split at d
 .rw[apc,(yB _).mem_iff]at d;exact e f d
 .exact e f d
theorem Jn{p:List aQ}(D:pF p)(I:HH p)(G:SC p)(F:lu K b (bj p))(M:X.S=bj p)(t:An X)(u:fM X K L V.first V)(d:CalW K b L.a (bj p) (AH X V))(r:oI K b L.a p.length dH H (hx (AH X V) (bj p).a_ p.length)):ModW H b L.a dH (bj p) (jk X V) ((List.range p.length).map (hx (AH X V) (bj p).a_ p.length)):=by
 have h:=pT p;have z:=Sf D;have J:=calG_le (n:=p.length) (λ q e=>(d.Gv q e).1) d.p1;refine⟨F.W r.base,d.nD,d.n0,d.n1,d.p0,λ q e=>?_,λ T g v=>yX ((u.ai r.base).ai g) v,λ v o y=>Sd u t y,λ T g=>?_,by rw[h];simp,λ l A f B=>?_⟩
 .have⟨x,Z⟩:=abx q e;rw[h];exact⟨(at_lt Z).1,x,Z,I _ _ _ _ Z,G _ _ _ _ Z⟩
 .obtain⟨p5,mm,N,cc,tt,C,E,-⟩:=(r.ai g).ex;exact graph_c E z.2 J
 .obtain⟨i,-,rfl⟩:=jn.1 A;have O:=VC (i:=i) (λ q e=>(d.Gv q e).2);rw[h]at O⊢;exact O f B
theorem T9(d:aW H 1 (One λ n=>ae n) v' (iY (jW aA)))(hw:kA aA)(o:Nat):CN 46 [v',ae (o:Nat)] H λ u K=>K=H/\u=bl (cC aA o):=by
 have h:=ahp (o:Int) d;have e:decide ((o:Int)∈iY (jW aA))=cC aA o:=by rw[qH,rK,<-Dm hw];unfold iY;rw[jn];exact⟨λ ⟨x,O,U⟩=>(show x=o by omega)▸O,λ O=>⟨o,O,rfl⟩⟩
 rw[e]at h;exact h
theorem h1.wd{H K:D}{n pY f:Nat}{dW:List BW}{EC:(Nat->Nat->Nat)×(Nat->Nat->Nat)}{aD R:Nat->Nat->Nat}(h:h1 H n pY K dW EC aD R)(d:f<n):kA (aD f)/\kA (R f):=by have⟨c,mv,rv,h2,Yr,ms,mm,rs,rm,e⟩:=h.ex;exact⟨(e.m.s f d).wd,(e.r.s f d).wd⟩
theorem h1.base{H K:D}{n pY:Nat}{dW:List BW}{EC:(Nat->Nat->Nat)×(Nat->Nat->Nat)}{aD R:Nat->Nat->Nat}(h:h1 H n pY K dW EC aD R):I [] H K:=by have⟨c,mv,rv,h2,Yr,ms,mm,rs,rm,d⟩:=h.ex;exact d.base
theorem T6(e:V.Ok (bJ X.S) X.N)(d:X.N=X.S.vars.length+X.S.of.length)(v:Int)(o:Nat):Gx X V v o=decide (o∈jk X V v):=by rw[qH,rK,ayg e d];unfold Gx;simp[and_assoc]
def VQ(S:SM)(VL:Int->AT)(k:Int)(o:Nat)(q:Pt):Bool:=match Js S.p q with|none=>false|some i=>decide (i.op=k)&&decide (o∈VL (S.aV q.1 (if i.op=9 then i.b else i.a)))
theorem mr_us{S:SM}{VL:Int->AT}(g o:Nat):∀(L:List Pt) (x:(Nat->Nat->Nat)×(Nat->Nat->Nat)),(cC ((L.foldl (La S VL) x).1 g) o=true↔cC (x.1 g) o=true\/o<S.of.length/\∃q∈L,q.1=g/\VQ S VL 9 o q=true)/\(cC ((L.foldl (La S VL) x).2 g) o=true↔cC (x.2 g) o=true\/o<S.of.length/\∃q∈L,q.1=g/\VQ S VL 8 o q=true)
 |[],x=>ζ
 |q::L,x=>by
  have key:∀{aD:Nat->Nat->Nat} {l:AT},cC (aM aD q.1 (B3 S.of.length (aD q.1) l) g) o=true↔cC (aD g) o=true\/o<S.of.length/\q.1=g/\o∈l:=λ {aD l}=>by
   by_cases e:g=q.1
   .subst e;rw[fE,G6];simp[and_comm]
   .rw[gG e];simp[qj e]
  have t:(cC ((La S VL x q).1 g) o=true↔cC (x.1 g) o=true\/o<S.of.length/\q.1=g/\VQ S VL 9 o q=true)/\(cC ((La S VL x q).2 g) o=true↔cC (x.2 g) o=true\/o<S.of.length/\q.1=g/\VQ S VL 8 o q=true):=by
   unfold La VQ;cases Js S.p q with
   |none=>simp
   |some i=>
    dsimp only
    by_cases d:i.op=9
    .simp only[aq d,key];simp[d]
    .by_cases r:i.op=8
     .simp only[ao d,aq r,key];simp[r]
     .simp[d,r]
  have h:=mr_us (S:=S) (VL:=VL) g o L (La S VL x q)
  rw[DV,h.1,h.2,t.1,t.2]
  simp only[cZ,and_or_left,Tk,OH,or_and_right,exists_or,exists_eq_left]
theorem chT:(fq 60,fq 61,fq 63,fq 64,fq 62,fq 59,fq 47,())=(some Tryz.f60,some Tryz.f61,some Tryz.f63,some Tryz.f64,some Tryz.f62,some Tryz.f59,some Tryz.f47,()):=κ
def o60:=fe (jd chT)
def o61:=fe (jq chT)
def o63:=fe (jr chT)
def o64:=fe (js chT)
def o62:=fe (jt chT)
def o59:=fe (ju chT)
def o47:=fe (jv chT)
theorem chS:(fq 124,fq 154,fq 182,fq 183,fq 184,fq 185,fq 231,fq 232,())=(some Tryz.f124,some Tryz.f154,some Tryz.f182,some Tryz.f183,some Tryz.f184,some Tryz.f185,some Tryz.f231,some Tryz.f232,()):=κ
def o124:=fe (jd chS)
def o154:=fe (jq chS)
def o182:=fe (jr chS)
def o183:=fe (js chS)
def o184:=fe (jt chS)
def o185:=fe (ju chS)
def o231:=fe (jv chS)
def o232:=fe (jw chS)
theorem chU:(tq 85,tq 87,tq 89,tq 165,tq 166,tq 168,tq 220,tq 222,())=(some ⟨.pointer 89,1,8,[.lit (.pointer none)]⟩,some ⟨.pointer 168,1,8,[.lit (.pointer none)]⟩,some ⟨.struct #[⟨ "M",27,0,false,"","",0⟩,⟨ "A",31,1,false,"","",8⟩,⟨ "C",66,2,false,"","",16⟩,⟨ "S",81,3,false,"","",24⟩,⟨ "N",87,4,false,"","",32⟩],5,40,[.lit (.pointer none),.lit (.pointer none),.lit (.pointer none),.lit (.pointer none),.lit (.pointer none)]⟩,some ⟨.struct #[⟨ "uses",118,0,false,"","gnomon/chi",0⟩,⟨ "defs",118,1,false,"","gnomon/chi",8⟩],2,16,[.lit (.pointer none),.lit (.pointer none)]⟩,some ⟨.map 48 165,1,8,[.lit (.map none)]⟩,some ⟨.struct #[⟨ "m",27,0,false,"","gnomon/chi",0⟩,⟨ "a",31,1,false,"","gnomon/chi",8⟩,⟨ "c",66,2,false,"","gnomon/chi",16⟩,⟨ "s",81,3,false,"","gnomon/chi",24⟩,⟨ "by",166,4,false,"","gnomon/chi",32⟩],5,40,[.lit (.pointer none),.lit (.pointer none),.lit (.pointer none),.lit (.pointer none),.lit (.map none)]⟩,some ⟨.map 51 222,1,8,[.lit (.map none)]⟩,some ⟨.func #[87,48,54] #[165] false,1,8,[.lit .nilFunc]⟩,()):=κ
def tt85:=te (jd chU)
def tt87:=te (jq chU)
def tt89:=te (jr chU)
def tt165:=te (js chU)
def tt166:=te (jt chU)
def tt168:=te (ju chU)
def tt220:=te (jv chU)
def tt222:=te (jw chU)
theorem VN:(pq 124 11,pq 184 1,pq 185 2,pq 231 1,pq 232 2,pq 60 3,pq 61 3,pq 59 6,pq 59 7,pq 47 3,())=(some [.op 0,.op 1,.op 2,.op 3,.op 4,.op 5,.op 6,.op 7,.op 8,.wr 9 [3,4],.wr 10 []],some [.op 0,.op 1,.op 2,.op 3,.op 4,.op 5,.wr 6 [],.wr 7 [],.wr 8 [],.op 9,.wr 10 []],some [.op 0,.op 1,.op 2,.op 3,.op 4,.op 5,.op 7,.op 8,.op 9,.op 10,.op 11,.op 12,.wr 6 [8,11],.wr 13 [],.op 14,.wr 15 []],some [.op 0,.op 1,.op 2,.op 3,.op 4,.op 5,.op 6,.wr 7 [],.op 8,.op 9,.op 10,.op 11,.op 12],some [.op 0,.op 1,.op 2,.op 3,.op 4,.op 7,.wr 5 [],.op 6],some [.op 0,.op 1,.op 2,.op 3,.op 4,.op 5,.op 6,.wr 7 [],.op 8],some [.op 0,.op 1,.op 2,.op 3,.op 4,.op 5,.op 6,.wr 7 [],.op 8],some [.op 0,.op 1,.op 2,.op 3,.op 4,.op 5,.op 6,.op 7,.op 8,.op 9,.wr 10 [],.op 11,.op 12,.wr 13 []],some [.op 0,.op 1,.op 2,.op 3,.op 4,.op 5,.op 6,.op 7,.op 8,.op 9,.op 10,.op 11,.op 12,.op 13,.wr 14 [],.op 15,.op 16,.wr 17 []],some [.op 0,.op 1,.op 2,.op 3,.op 4,.wr 5 [],.op 6],()):=κ
def w124:=pe (jd VN)
def w184:=pe (jq VN)
def w185:=pe (jr VN)
def w231:=pe (js VN)
def w232:=pe (jt VN)
def w60:=pe (ju VN)
def w61:=pe (jv VN)
def w59a:=pe (jw VN)
def w59b:=pe (jx VN)
def w47:=pe (jy VN)
attribute [simp] tt85 tt87 tt89 tt165 tt166 tt168 tt220 tt222 w124 w184 w185 w231 w232 w60 w61 w59a w59b w47
def oM(S:SM)(VL:Int->AT)(eV:Pt->BW)(aD R:Nat->Nat->Nat)(q:Pt)(o:Nat):Bool:=match Js S.p q with|none=>false|some x=>if x.op=8 then decide (o<S.of.length)&&decide (o∈VL (S.aV q.1 x.a))else if x.op=9 then decide (o<S.of.length)&&decide (o∈VL (S.aV q.1 x.b))else if x.op=14 then cC (aD q.1) o else if x.op=10\/x.op=11 then(eV q).any λ k=>cC (aD k.toNat) o||cC (R k.toNat) o else false
def tB(S:SM)(VL:Int->AT)(eV:Pt->BW)(aD:Nat->Nat->Nat)(q:Pt)(o:Nat):Bool:=match Js S.p q with|none=>false|some x=>if x.op=9 then decide (o<S.of.length)&&decide (o∈VL (S.aV q.1 x.b))else if x.op=10\/x.op=11 then(eV q).any λ k=>cC (aD k.toNat) o else false
theorem G5:∀(l:AT) {aA:Nat->Nat} {o:Nat},cC (l.foldl (λ aA i=>fT aA (nN i)) aA) o=(cC aA o||decide (o∈l))
 |[],aA,o=>ζ
 |x::l,aA,o=>by
  rw[DV,G5 l,uk,GU,Bool.or_assoc]
  congr 1
  by_cases h:o=x<;>simp[h]
structure RE(H:D)(mid a dH pY n:Nat)(S:SM)(VL:Int->List Nat)(eV:Pt->List Int)(aD R:Nat->Nat->Nat):Prop where
 mp:lu H mid S
 nD:uP S
 p0:0<S.a_.length
 ins:∀q∈S.a_,q.1<n/\∃x,At S.p q.1 q.2.1 q.2.2 x/\x.args.length<=1048576/\x.eh.length<=1048576
 var:∀K,I [] H K->∀v:Int,CN 19 [.ptr a 0,ae v] K λ u T=>(∃aL,aX T 1 u (aZ (iY (VL v))) aL/\∀y∈aL,K.ab<=y)/\I [] K T
 vlt:∀v,∀o∈VL v,o<4194304
 clc:∀K,I [] H K->∀q∈S.a_,CN 47 [.ptr dH 0,ptV q] K λ u T=>(∃aL,aX T 1 u (aZ (eV q)) aL/\∀y∈aL,K.ab<=y)/\I [] K T
 cge:∀q∈S.a_,∀k∈eV q,0<=k/\k<n
 mod:∀K,I [] H K->∀f,f<n->CN 53 [.ptr pY 0,ae (f:Nat)] K λ v T=>aW T 1 (One λ n=>ae n) v (iY (jW (aD f)))/\I [] K T
 tou:∀K,I [] H K->∀f,f<n->CN 52 [.ptr pY 0,ae (f:Nat)] K λ v T=>aW T 1 (One λ n=>ae n) v (iY (jW (fT (fT (λ _=>0) (aD f)) (R f))))/\I [] K T
 wd:∀f,f<n->kA (aD f)/\kA (R f)
structure GP(K:D)(nM mid a dH pY mm:Nat):Prop where
 ob:∃t,Lv K nM (.cells 5 t false)/\AV t 0 (.ptr mid 0)/\AV t 1 (.ptr a 0)/\AV t 2 (.ptr dH 0)/\AV t 3 (.ptr pY 0)/\AV t 4 (.map mm)
def VO(K:D)(z:Nat)(As bZ:Nat->Bool)(v:J):Prop:=∃i m j n aA V,v=.agg [.ptr i 0,.ptr j 0]/\e_ K i m aA/\e_ K j n V/\(z<i/\z<m/\z<j/\z<n)/\(∀o,cC aA o=As o)/\∀o,cC V o=bZ o
section
variable{K T:D}{nM mid a dH pY mm z:Nat}{As bZ:Nat->Bool}{v:J}
theorem GP.W{cL:AT}(h:GP K nM mid a dH pY mm)(g:I cL K T)(d:nM∉cL):GP T nM mid a dH pY mm:=by have⟨t,l,O⟩:=h.ob;exact⟨t,l.W g d,O⟩
theorem GP.ai(h:GP K nM mid a dH pY mm)(g:I [] K T):GP T nM mid a dH pY mm:=h.W g ζ
theorem VO.W{cL:AT}(h:VO K z As bZ v)(g:I cL K T)(p:∀y∈cL,y<=z):VO T z As bZ v:=by
 have⟨i,m,j,n,aA,V,O,U,F,⟨n1,n2,n3,e⟩,r⟩:=h;have d:∀{y:Nat},z<y->y∉cL:=λ {y} G B=>by have:=p y B;omega
 exact⟨i,m,j,n,aA,V,O,U.W g (d n1) (d n2),F.W g (d n3) (d e),⟨n1,n2,n3,e⟩,r⟩
end
section
variable{H K:D}{mid a dH pY n nM mm z:Nat}{S:SM}{VL:Int->AT}{eV:Pt->BW}{aD R:Nat->Nat->Nat}{q:Pt}
theorem Vf(p:RE H mid a dH pY n S VL eV aD R)(M:I [] H K)(hN:GP K nM mid a dH pY mm)(s:ByteArray):CN 231 [.ptr nM 0,ptV q,str s] K λ v T=>(∃id m aA,v=.ptr id 0/\e_ T id m aA/\K.ab<=id/\K.ab<=m/\∀o,cC aA o=(decide (o<S.of.length)&&decide (o∈VL (S.aV q.1 s))))/\I [] K T:=by
 refine ba o231 rfl λ Q' hQ=>?_;have⟨t,A,e0,e1,e2,e3,e4⟩:=hN.ob;have n0:¬nM=K.ab:=bC A.lt;simp[A.get,e0,e1,n0];generalize ed:D.add _ _=K1;have g1:I [] K K1:=by rw[<-ed];exact(I.refl _ _).add _
 have l4:∃t,Lv K1 K.ab (.cells 3 t false)/\AV t 0 (ae (q.1:Nat)):=by rw[<-ed];exact⟨_,Lv.new,ζ⟩
 clear ed;have⟨t4,l4,x0⟩:=l4;refine CW (Xt (p.mp.W (M.trans g1)) q.1 s) ?_;rintro _ K2 ⟨⟨b,rfl⟩,g2⟩;simp;refine CW (WI (l:=[]) .nil ζ) ?_;rintro _ K3 ⟨id,m,rfl,Y,b1,b2,g3⟩;replace Y:e_ K3 id m (λ _=>0):=Y;have Ea:=(g1.trans g2).trans g3;have l3:=A.ai Ea;simp[l3.get,e1];refine CW (p.var K3 (M.trans Ea) _) ?_;rintro u K4 ⟨⟨aL,hu,hY⟩,g4⟩;have bm:=p.vlt (S.aV q.1 s);generalize VL (S.aV q.1 s)=l at hu bm hQ⊢;have bA:=hu.aZ.aN bK;have sJ:=hu.aZ.cP;have pP:(iY l).length=l.length:=bW _;rw[pP]at bA sJ;simp[bA];have hB4:=Y.W g4 ζ ζ;have Wd:=l3.ai g4;have Z_:=Ea.trans g4;have hlts:=Y.Lc;have Q:=A.lt;have q1:=g1.ab;have q2:=g2.ab;refine CA (λ j sl K5=>(∃aA,e_ K5 id m aA/\∀o,cC aA o=(decide (o<S.of.length)&&decide (o∈l.take j)))/\I [id,m] K4 K5/\AV sl 0 (.ptr nM 0)/\AV sl 9 (.ptr id 0)/\AV sl 29 u/\AV sl 30 (ae (l.length:Nat))/\AV sl 31 (ae (j:Nat))/\j<=l.length) l.length ⟨⟨_,hB4,λ o=>by simp[cC]⟩,I.refl _ _,ζ⟩ ?_
 rintro b1 k1-cq j sl K5 ⟨⟨aA,d,N⟩,e,E,C,U,g,F,hj⟩ ih;have Z:∀{y:Nat},y<K.ab->y∉[id,m]:=λ {y} h B=>by simp at B;omega
 have r:=ke (M.trans Z_) e (by simp;have:=M.ab;omega);by_cases z:j<l.length
 .have ix:j<maxLen:=ω
  have i:j<(iY l).length:=by rw[pP];exact z
  obtain⟨lJ,ah,ax,ex,n_2,t_2,ro,c,rfl,hl,aU,bU,oZ⟩:=(hu.W e λ y G B=>by have:=hY y G;simp at B;omega).aZ.gL i;have hc:c=ae (l[j]:Nat):=by have:[c]=[ae (iY l)[j]]:=oZ;simpa[iY]using this
  subst hc;have hom:=bm _ (cG z);have l5:=Wd.W e (Z Q);have eH:∀o,(o∈l.take (j+1))=(o∈l.take j\/o=l[j]):=λ o=>by rw[KK z,b_,jo]
  by_cases J:l[j]<S.of.length
  .simp[E,C,U,g,F,z,hl.get,aU,bU,l5.get,e0,cE (DD (p.mp.W r)),J];refine CW (aeS d hom) ?_;rintro _ K6 ⟨rfl,hB6,g6⟩;simp[F,bq ix];refine ih ω ⟨⟨_,hB6,λ o=>?_⟩,e.trans g6,by simp[E,C,U,g];omega⟩;rw[uk,GU,N,qH];simp only[xt,v8,rK,eH];by_cases O:o=l[j]<;>simp[O,J]
  .simp[E,U,g,F,z,hl.get,aU,bU,l5.get,e0,cE (DD (p.mp.W r)),J,bq ix];refine ih ω ⟨⟨_,d,λ o=>?_⟩,e,by simp[E,C,U,g];omega⟩;rw[N,qH];simp only[v8,rK,eH];by_cases O:o=l[j]<;>simp[O,J]
 .obtain rfl:j=l.length:=ω
  subst cq;rw[iF]at N;simp[C,g,F];exact hQ ⟨⟨_,_,_,rfl,d,ω,ω,N⟩,ke Z_ e ξ⟩
theorem aW.nat(h:aW K 1 (One λ n=>ae n) v' (iY aL)):aW K 1 (One λ n=>ae ((n:Nat):Int)) v' aL:=by
 have e:(iY aL).length=aL.length:=bW _;generalize d:iY aL=l at h;cases h with
 |nil=>rw[List.map_eq_nil_iff.1 d];exact .nil|eF=>rw[List.map_eq_nil_iff.1 d];exact .eF
 |sl O U F g p=>
  subst d
  rw[e]at U g⊢
  exact .sl O U (λ i A=>by have⟨M,c1,c2⟩:=F i ω;exact⟨M,c1,by simpa[iY,One]using c2⟩) g p
theorem ofW_c(h:aW K 1 (One λ n=>ae n) v' (iY (jW aA)))(hw:kA aA):CN 73 [v'] K λ v T=>∃id m V,v=.ptr id 0/\e_ T id m V/\(∀o,cC V o=cC aA o)/\K.ab<=id/\K.ab<=m/\I [] K T:=by refine(WI (l:=jW aA) h.nat λ i A=>aa4 hw ((Dm hw).1 A)).mono ?_;rintro v T ⟨id,m,O,U,F,e,d⟩;refine⟨id,m,_,O,U,λ o=>?_,F,e,d⟩;rw[G5,qH,xt,rK,Dm hw];simp[cC]
end
section
variable{H K:D}{mid a dH pY n nM mm z:Nat}{S:SM}{VL:Int->AT}{eV:Pt->BW}{aD R:Nat->Nat->Nat}{q:Pt}
theorem tog_c(hW:RE H mid a dH pY n S VL eV aD R)(g0:I [] H K)(hN:GP K nM mid a dH pY mm)(l1:Lv K b (.cells 1 t3 false))(e1:AV t3 0 (.ptr nM 0))(l2:Lv K p3 (.cells 3 t4 false))(r2:bc t4 0 3=some (yI q))(hq:q∈S.a_){ov:J}{ay:Nat->Nat->Nat}(Da:∀g,I [] H g->∀f,f<n->CF E0 ov [ae (f:Nat)] g λ v K2=>aW K2 1 (One λ n=>ae n) v (iY (jW (ay f)))/\I [] g K2)(M:∀f,f<n->kA (ay f)):CN 232 [ov,.ptr b 0,.ptr p3 0] K λ v T=>(∃id m aA,v=.ptr id 0/\e_ T id m aA/\K.ab<=id/\K.ab<=m/\∀o,cC aA o=(eV q).any λ k=>cC (ay k.toNat) o)/\I [] K T:=by
 refine ba o232 rfl λ Q' hQ=>?_
 have⟨t,sM,b0,b1,b2,b3,b4⟩:=hN.ob
 simp
 refine CW (WI (l:=[]) .nil ζ) ?_
 rintro _ g ⟨id,m,rfl,d,c1,c2,e⟩
 replace d:e_ g id m (λ _=>0):=d
 have D:=sM.ai e
 have F:=l1.ai e
 have E:=l2.ai e
 have mY:bc t4 0 3=some [ae (q.1:Nat),ae (q.2.1:Nat),ae (q.2.2:Nat)]:=r2
 simp[F.get,e1,E.get,bY mY,D.get,b2]
 refine CW (hW.clc g (g0.trans e) q hq) ?_
 rintro u K2 ⟨⟨aL,hu,hY⟩,z⟩
 have AW:=hW.cge q hq
 generalize eV q=l at hu AW hQ⊢
 have bA:=hu.aZ.aN bK
 have sJ:=hu.aZ.cP
 simp[bA]
 have U:=d.W z ζ ζ
 have hlts:=d.Lc
 refine CA (λ j sl r=>(∃aA,e_ r id m aA/\∀o,cC aA o=(l.take j).any λ k=>cC (ay k.toNat) o)/\I [id,m] K2 r/\AV sl 0 ov/\AV sl 5 (.ptr id 0)/\AV sl 14 u/\AV sl 15 (ae (l.length:Nat))/\AV sl 16 (ae (j:Nat))/\j<=l.length) l.length ⟨⟨_,U,λ o=>by simp[cC]⟩,I.refl _ _,ζ⟩ ?_
 rintro b1 k1-cq j sl r ⟨⟨aA,D1,LV⟩,p,s0,C,cy,dg,fP,hj⟩ ih
 have h03:=g0.ab
 have Z:I [] H r:=ke ((g0.trans e).trans z) p ξ
 by_cases A:j<l.length
 .have ix:j<maxLen:=ω
  obtain⟨lJ,ah,ax,ex,n_2,t_2,ro,c,rfl,hl,aU,bU,oZ⟩:=(hu.W p λ y G B=>by have:=hY y G;simp at B;omega).aZ.gL A;have hc:c=ae l[j]:=by have:[c]=[ae l[j]]:=oZ;simpa using this
  subst hc;have eH:∀o,(l.take (j+1)).any (λ k=>cC (ay k.toNat) o)=((l.take j).any (λ k=>cC (ay k.toNat) o)||cC (ay l[j].toNat) o):=λ o=>by rw[KK A,List.any_append];simp
  have⟨vz,h⟩:=AW _ (cG A);generalize l[j]=kz at bU eH vz h;obtain⟨k,rfl⟩:∃k:Nat,kz=(k:Int):=⟨kz.toNat,ω⟩;rw[show((k:Nat):Int).toNat=k from rfl]at eH;have eO:k<n:=ω
  simp[s0,C,cy,dg,fP,A,hl.get,aU,bU];refine vM (Da r Z k eO) ?_;rintro v4 K4 ⟨N,Y⟩;simp;refine CW (ofW_c N (M k eO)) ?_;rintro _ K5 ⟨id5,m5,V,rfl,Q,hV,d1,d2,g5⟩;have i:=(D1.W Y ζ ζ).W g5 ζ ζ;have q4:=Y.ab;have q3:=p.ab;have q2:=z.ab;simp;refine CW (aeh i Q ω ω ω ω) ?_;rintro _ K6 ⟨rfl,O,g6⟩;simp[fP,bq ix];refine ih ω ⟨⟨_,O,λ o=>by rw[uk,eH,LV,hV]⟩,((p.trans (Y.mono ζ)).trans (g5.mono ζ)).trans g6,by simp[s0,C,cy,dg];omega⟩
 .obtain rfl:j=l.length:=ω
  subst cq;rw[iF]at LV;simp[C,dg,fP];exact hQ ⟨⟨_,_,_,rfl,D1,c1,c2,LV⟩,ke (e.trans z) p ξ⟩
theorem mk8_c(J:RE H mid a dH pY n S VL eV aD R)(U:I [] H K)(O:GP K nM mid a dH pY mm)(hz:z<K.ab){M:AU}(Q:ku K x M)(Z:Js S.p q=some x)(E:x.op=8):CN 182 [.ptr nM 0,ptV q,.agg M] K λ v T=>VO T z (oM S VL eV aD R q) (tB S VL eV aD q) v/\I [] K T:=by
 refine ba o182 rfl λ Q' N=>?_;obtain⟨va,vl,rfl,G,F,-⟩:=Q;simp[G.cell,F.cell];generalize d:D.add _ _=B;have y:I [] K B:=by rw[<-d];exact(((I.refl _ _).add _).add _).add _
 have n1:B.ab=K.ab+1+1+1:=by rw[<-d];rfl
 have g:∃t,Lv B (K.ab+1+1) (.cells 2 t false):=by rw[<-d];exact⟨_,Lv.new (H:=(K.add _).add _)⟩
 clear d;have⟨t6,g⟩:=g;refine CW (Vf J (U.trans y) (O.ai y) x.a) ?_;rintro _ K2 ⟨⟨i,m,aA,rfl,h,b1,b2,Y⟩,u⟩;simp;refine CW (WI (l:=[]) .nil ζ) ?_;rintro _ A ⟨j,m',rfl,C,b3,b4,r⟩;replace C:e_ A j m' (λ _=>0):=C;have q2:=u.ab;have e:=(g.ai u).ai r;simp[e.get];have gp:∀o,I [K.ab+1+1] A (A.put (K.ab+1+1) o):=λ o=>(I.refl _ _).put (.inr ζ);refine N ⟨⟨i,m,j,m',aA,_,rfl,(h.ai r).W (gp _) ξ ξ,C.W (gp _) ξ ξ,ω,λ o=>?_,λ o=>?_⟩,ke ((y.trans u).trans r) (gp _) ξ⟩
 .rw[Y];unfold oM;rw[Z];simp[E]
 .unfold tB;rw[Z];simp[E,cC]
theorem mk9_c(F:RE H mid a dH pY n S VL eV aD R)(O:I [] H K)(J:GP K nM mid a dH pY mm)(U:z<K.ab){M:AU}(N:ku K x M)(Z:Js S.p q=some x)(A:x.op=9):CN 183 [.ptr nM 0,ptV q,.agg M] K λ v T=>VO T z (oM S VL eV aD R q) (tB S VL eV aD q) v/\I [] K T:=by
 refine ba o183 rfl λ Q' G=>?_;obtain⟨va,vl,rfl,E,C,-⟩:=N;simp[E.cell,C.cell];generalize e:D.add _ _=y;have u:I [] K y:=by rw[<-e];exact(((I.refl _ _).add _).add _).add _
 have n1:y.ab=K.ab+1+1+1:=by rw[<-e];rfl
 have h:∃t,Lv y (K.ab+1+1) (.cells 2 t false):=by rw[<-e];exact⟨_,Lv.new (H:=(K.add _).add _)⟩
 clear e;have⟨t6,h⟩:=h;refine CW (Vf F (O.trans u) (J.ai u) x.b) ?_;rintro _ K2 ⟨⟨i,m,aA,rfl,d,b1,b2,B⟩,r⟩;have Q:=r.ab;have g:=h.ai r;simp[g.get];have gp:∀o,I [K.ab+1+1] K2 (K2.put (K.ab+1+1) o):=λ o=>(I.refl _ _).put (.inr ζ);have Y:=d.W (gp (some (.cells 2 ((t6.put 0 (some (.ptr i 0))).put 1 (some (.ptr i 0))) false))) ξ ξ;refine G ⟨⟨i,m,i,m,aA,aA,rfl,d.W (gp _) ξ ξ,d.W (gp _) ξ ξ,ω,λ o=>?_,λ o=>?_⟩,ke (u.trans r) (gp _) ξ⟩
 .rw[B];unfold oM;rw[Z];simp[A]
 .rw[B];unfold tB;rw[Z];simp[A]
theorem mk14_c(B:RE H mid a dH pY n S VL eV aD R)(g0:I [] H K)(hN:GP K nM mid a dH pY mm)(hz:z<K.ab){M:AU}(hI:ku K x M)(Z:Js S.p q=some x)(N:x.op=14)(hq:q∈S.a_):CN 184 [.ptr nM 0,ptV q,.agg M] K λ v T=>VO T z (oM S VL eV aD R q) (tB S VL eV aD q) v/\I [] K T:=by
 refine ba o184 rfl λ Q' hQ=>?_;obtain⟨va,vl,rfl,kl,Y,-⟩:=hI;have⟨t,e,e0,e1,e2,e3,e4⟩:=hN.ob;have U:¬nM=K.ab:=bC e.lt;have Q:¬nM=K.ab+1:=by have:=e.lt;omega
 have r:¬nM=K.ab+1+1:=by have:=e.lt;omega
 simp[kl.cell,Y.cell,e.get,e3,U,Q,r];generalize g:D.add _ _=h;have J:I [] K h:=by rw[<-g];exact(((I.refl _ _).add _).add _).add _
 have n1:h.ab=K.ab+1+1+1:=by rw[<-g];rfl
 have A:∃t,Lv h (K.ab+1+1) (.cells 2 t false):=by rw[<-g];exact⟨_,Lv.new (H:=(K.add _).add _)⟩
 clear g;have⟨t6,A⟩:=A;have O:=(B.ins q hq).1;refine CW (B.mod h (g0.trans J) q.1 O) ?_;rintro u K2 ⟨hu,F⟩;simp;refine CW (ofW_c hu (B.wd q.1 O).1) ?_;rintro _ K3 ⟨i,m,aA,rfl,D1,LV,b1,b2,E⟩;simp;refine CW (WI (l:=[]) .nil ζ) ?_;rintro _ G ⟨j,m',rfl,d,b3,b4,C⟩;replace d:e_ G j m' (λ _=>0):=d;have q2:=F.ab;have q3:=E.ab;have y:=((A.ai F).ai E).ai C;simp[y.get];have gp:∀o,I [K.ab+1+1] G (G.put (K.ab+1+1) o):=λ o=>(I.refl _ _).put (.inr ζ);refine hQ ⟨⟨i,m,j,m',aA,_,rfl,(D1.ai C).W (gp _) ξ ξ,d.W (gp _) ξ ξ,ω,λ o=>?_,λ o=>?_⟩,ke (((J.trans F).trans E).trans C) (gp _) ξ⟩
 .rw[LV];unfold oM;rw[Z];simp[N]
 .unfold tB;rw[Z];simp[N,cC]
theorem TL(A:RE H mid a dH pY n S VL eV aD R)(g0:I [] H K)(hN:GP K nM mid a dH pY mm)(hz:z<K.ab){M:AU}(hI:ku K x M)(Z:Js S.p q=some x)(xR:x.op=10\/x.op=11)(hq:q∈S.a_):CN 185 [.ptr nM 0,ptV q,.agg M] K λ v T=>VO T z (oM S VL eV aD R q) (tB S VL eV aD q) v/\I [] K T:=by
 refine ba o185 rfl λ Q' hQ=>?_;obtain⟨va,vl,rfl,kl,mO,-⟩:=hI;have⟨t,N,e0,e1,e2,e3,e4⟩:=hN.ob;have Q:=N.lt;have U:¬nM=K.ab:=ω
 have qD:¬nM=K.ab+1:=ω
 have sT:¬nM=K.ab+1+1:=ω
 have O:¬nM=K.ab+1+1+1:=ω
 simp[kl.cell,mO.cell,N.get,e3,U,qD,sT,O];generalize C:D.add _ _=d;have B:I [] K d:=by rw[<-C];exact((((I.refl _ _).add _).add _).add _).add _
 have n1:d.ab=K.ab+1+1+1+1:=by rw[<-C];rfl
 have J:∃t,Lv d K.ab (.cells 1 t false)/\AV t 0 (.ptr nM 0):=by rw[<-C];exact⟨_,Lv.new.add.add.add,ζ⟩
 have G:∃t,Lv d (K.ab+1) (.cells 3 t false)/\bc t 0 3=some (yI q):=by rw[<-C];exact⟨_,(Lv.new (H:=K.add _)).add.add,by simp[bc,yI]⟩
 have l6:∃t,Lv d (K.ab+1+1+1) (.cells 2 t false):=by rw[<-C];exact⟨_,Lv.new (H:=((K.add _).add _).add _)⟩
 clear C;have⟨t3,J,F⟩:=J;have⟨t4,G,x4⟩:=G;have⟨t6,l6⟩:=l6;have r:(∀o,oM S VL eV aD R q o=(eV q).any λ k=>cC (aD k.toNat) o||cC (R k.toNat) o)/\∀o,tB S VL eV aD q o=(eV q).any λ k=>cC (aD k.toNat) o:=by unfold oM tB;rw[Z];rcases xR with h|h<;>simp[h]
 refine CW (tog_c A (g0.trans B) (hN.ai B) J F G x4 hq (ov:=.fn (.func 52) [.ptr pY 0] []) (ay:=λ f=>fT (fT (λ _=>0) (aD f)) (R f)) (λ d g f e=>?_) λ f e=>(kA.zero.or (A.wd f e).1).or (A.wd f e).2) ?_
 .exact af1.2 (A.tou d g f e)
 rintro _ K2 ⟨⟨i,m,aA,rfl,hB2,b1,b2,LU⟩,u⟩;have y:=J.ai u;have E:=(N.ai B).ai u;simp[y.get,F,E.get,e3];refine dF (by simp[dA,dm,val,y.get,F,E.get,e3]) ?_;simp;refine CW (tog_c A ((g0.trans B).trans u) ((hN.ai B).ai u) y F (G.ai u) x4 hq (ov:=.fn (.func 53) [.ptr pY 0] []) (ay:=aD) (λ d g f e=>?_) λ f e=>(A.wd f e).1) ?_
 .exact af1.2 (A.mod d g f e)
 rintro _ K3 ⟨⟨j,m',V,rfl,D1,b3,b4,LV⟩,g3⟩;have q2:=u.ab;have Y:=(l6.ai u).ai g3;simp[Y.get];have gp:∀o,I [K.ab+1+1+1] K3 (K3.put (K.ab+1+1+1) o):=λ o=>(I.refl _ _).put (.inr ζ);refine hQ ⟨⟨i,m,j,m',aA,V,rfl,(hB2.ai g3).W (gp _) ξ ξ,D1.W (gp _) ξ ξ,ω,λ o=>?_,λ o=>?_⟩,ke ((B.trans u).trans g3) (gp _) ξ⟩
 .rw[LU,r.1];congr 1;funext k;rw[uk,uk];simp[cC]
 .rw[LV,r.2]
end
theorem kK(n:Int):KP (.one (.i .u8)) (.int .u8 n):=by simp[KP]
theorem EI(h:cH k l=some v'):∃b,lk k l=some (b,v'):=by unfold cH at h;cases d:lk k l with|none=>rw[d]at h;cases h|some q=>rw[d]at h;have⟨e,g⟩:=q;simp at h;exact⟨e,by rw[h]⟩
theorem EK(h:cH k l=none):lk k l=none:=by unfold cH at h;cases d:lk k l with|none=>rfl|some q=>rw[d]at h;cases h
def opF(op:Int):Option J:=if op=11 then some (.fn (.func 185) [] [])else if op=10 then some (.fn (.func 185) [] [])else if op=14 then some (.fn (.func 184) [] [])else if op=9 then some (.fn (.func 183) [] [])else if op=8 then some (.fn (.func 182) [] [])else none
theorem VX:CN 154 [] K λ v T=>(∃m c l,v=.map m/\Lv T m (.map 51 c l)/\K.ab<=m/\∀op:Int,cH (.int .u8 op) l=opF op)/\I [] K T:=by refine ba o154 rfl λ e d=>?_;simp;have gp:∀{T:D} (o:Option AO),I [K.ab] T (T.put K.ab o):=λ o=>(I.refl _ _).put (.inr ζ);refine d ⟨⟨K.ab,_,_,rfl,Lv.new.put_eq.put_eq.put_eq.put_eq.put_eq,Nat.le_refl _,λ op=>?_⟩,ke ((I.refl _ _).add _) (((((gp _).trans (gp _)).trans (gp _)).trans (gp _)).trans (gp _)) ζ⟩;rw[Bb (kK _) (kK _),Bb (kK _) (kK _),Bb (kK _) (kK _),Bb (kK _) (kK _),Bb (kK _) (kK _),Ni];simp only[Value.int.injEq,KN];rfl
structure NtO(aG:Nat)(K:D)(nM mid a dH pY:Nat)(S:SM)(As bZ:Pt->Nat->Bool):Prop where
 ex:∃mm c l,(aG<=mm/\aG<=nM)/\GP K nM mid a dH pY mm/\Lv K mm (.map 48 c l)/\(∀q v,cH (qU q) l=some v->VO K mm (As q) (bZ q) v)/\∀q∈S.a_,cH (qU q) l=none->∀o,As q o=false/\bZ q o=false
section
variable{H K:D}{mid a dH pY n nM mm z:Nat}{S:SM}{VL:Int->AT}{eV:Pt->BW}{aD R:Nat->Nat->Nat}{q:Pt}
theorem B7:jW (λ _=>0)=[]:=List.eq_nil_iff_forall_not_mem.2 λ i A=>by rw[Dm .zero]at A;simp[cC]at A
theorem chiOf_c(p:RE H mid a dH pY n S VL eV aD R):CN 124 [.ptr mid 0,.ptr a 0,.ptr dH 0,.ptr pY 0] H λ v K=>(∃nM,v=.ptr nM 0/\NtO H.ab K nM mid a dH pY S (oM S VL eV aD R) (tB S VL eV aD))/\I [] H K:=by
 refine ba o124 rfl λ Q' hQ=>?_;simp;generalize ed:D.add _ _=K1;have g1:I [] H K1:=by rw[<-ed];exact((I.refl _ _).add _).add _
 have n1:K1.ab=H.ab+1+1:=by rw[<-ed];rfl
 have lm:Lv K1 H.ab (.map 48 0 []):=by rw[<-ed];exact Lv.new.add
 have hN:GP K1 (H.ab+1) mid a dH pY H.ab:=by rw[<-ed];exact⟨_,Lv.new (H:=H.add _),ζ⟩
 clear ed;refine CW VX ?_;rintro _ K2 ⟨⟨m,cm,l_o,rfl,lmo,B,bP⟩,g2⟩;simp;refine CW (aER (p.mp.W (g1.trans g2)) p.nD) ?_;rintro pv K3 ⟨hP,AW,g3⟩;obtain⟨pid,hk,B6,SX,pn,pt,pro,rfl,VI,mC,qy,hpc,nJ⟩:=hP.full p.p0;have X4:K2.ab<=pid:=AW _ _ _ _ _ _ rfl;have aIo:=p.nD.2.2.2.2;have q2:=g2.ab;have q3:=g3.ab;simp[de XD];refine CA (λ j sl K=>(∃c l,Lv K H.ab (.map 48 c l)/\(∀q v,cH (qU q) l=some v->VO K H.ab (oM S VL eV aD R q) (tB S VL eV aD q) v)/\∀q∈S.a_.take j,cH (qU q) l=none->∀o,oM S VL eV aD R q o=false/\tB S VL eV aD q o=false)/\I [H.ab] K3 K/\AV sl 0 (.ptr mid 0)/\AV sl 9 (.ptr (H.ab+1) 0)/\AV sl 10 (.map m)/\AV sl 40 (.sl pid hk 3 S.a_.length B6 SX)/\AV sl 41 (ae (S.a_.length:Nat))/\AV sl 42 (ae (j:Nat))/\j<=S.a_.length) S.a_.length ⟨⟨_,_,(lm.ai g2).ai g3,λ q v h=>(by rw[Ni]at h;cases h),ζ⟩,I.refl _ _,ζ⟩ ?_
 rintro b1 k1-cq j sl K ⟨⟨c,l,lmK,hv,mB⟩,Q,s0,N,bt,NL,pW,kV,hj⟩ ih;have gH:I [] H K:=ke ((g1.trans g2).trans g3) Q ζ;have hNK:GP K (H.ab+1) mid a dH pY H.ab:=((hN.ai g2).ai g3).W Q ζ;by_cases bB:j<S.a_.length
 .have ix:j<maxLen:=by unfold maxLen;omega
  obtain⟨M,yi,mY⟩:=qy j bB;have gR:M=yI S.a_[j]:=mY;subst gR;have C3:=cG bB;have GN:∀q,q∈S.a_.take (j+1)↔q∈S.a_.take j\/q=S.a_[j]:=λ q=>by rw[KK bB,b_,jo]
  generalize S.a_[j]=q at yi C3 GN;obtain⟨Mv,x,Z,hxa,GR⟩:=p.ins q C3;have g:=V5 Z;have aU:hk+j*3+3<=pn:=ω
  have kh:bc pt (hk+j*3) 3=some [ae (q.1:Nat),ae (q.2.1:Nat),ae (q.2.2:Nat)]:=yi;have l_p:=VI.W Q ξ;have lo_:=((lmo.ai g3).W Q ξ);simp[s0,NL,pW,kV,bB,l_p.get,aU,bY kh];generalize pL:D.put _ _ _=K4;have A:I [] K K4:=by rw[<-pL];exact ke ((I.refl _ _).add _) ((I.refl _ _).put (.inr ζ)) (X:=[K.ab]) ζ
  have O:∃t,Lv K4 K.ab (.cells 3 t false)/\bc t 0 3=some [ae (q.1:Nat),ae (q.2.1:Nat),ae (q.2.2:Nat)]:=by rw[<-pL];exact⟨_,(Lv.new (H:=K)).put_eq,by simp[bc]⟩
  clear pL;obtain⟨DG,O,G1⟩:=O;refine CW (akC (p.mp.W (gH.trans A)) Z hxa GR) ?_;rintro _ K5 ⟨⟨M,rfl,hI,-⟩,g5⟩;have hI5:=hI;obtain⟨va,vl,rfl,kl,mO,hop8,-⟩:=hI5;simp[kl.cell,mO.cell];generalize EN:D.put _ _ _=K6;have g6:I [] K5 K6:=by rw[<-EN];exact ke ((I.refl _ _).add _) ((I.refl _ _).put (.inr ζ)) (X:=[K5.ab]) ζ
  have z:∃t,Lv K6 K5.ab (.cells 8 t false)/\AV t 0 (u8 x.op)/\bc t 0 8=some [u8 x.op,str x.dst,str x.a,str x.b,ae x.n,str x.fn,va,vl]:=by rw[<-EN];exact⟨_,(Lv.new (H:=K5)).put_eq,ζ,by simp[bc]⟩
  clear EN;obtain⟨Bx,z,f0,f8⟩:=z;have d:=g5.trans g6;have Y:=(lo_.ai A).ai d;have lm6:=(lmK.ai A).ai d;have J:=O.ai d;have i:=(hNK.ai A).ai d;have u:=(gH.trans A).trans d;have r:=hI.W g6;have q4:=A.ab;have q5:=d.ab;have q_K:=Q.ab;have hz:H.ab<K6.ab:=ω
  have hopx:=bP x.op;have hF:(cH (.int .u8 x.op) l_o=none/\∀o,oM S VL eV aD R q o=false/\tB S VL eV aD q o=false)\/∃au,cH (.int .u8 x.op) l_o=some (.fn (.func au) [] [])/\CN au [.ptr (H.ab+1) 0,ptV q,.agg [u8 x.op,str x.dst,str x.a,str x.b,ae x.n,str x.fn,va,vl]] K6 λ v T=>VO T H.ab (oM S VL eV aD R q) (tB S VL eV aD q) v/\I [] K6 T:=by
   rw[hopx];unfold opF;by_cases E:x.op=11
   .exact .inr ⟨185,by simp[E],TL p u i hz r g (.inr E) C3⟩
   by_cases F:x.op=10
   .exact .inr ⟨185,by simp[F],TL p u i hz r g (.inl F) C3⟩
   by_cases C:x.op=14
   .exact .inr ⟨184,by simp[C],mk14_c p u i hz r g C C3⟩
   by_cases e9:x.op=9
   .exact .inr ⟨183,by simp[e9],mk9_c p u i hz r g e9⟩
   by_cases Vi:x.op=8
   .exact .inr ⟨182,by simp[Vi],mk8_c p u i hz r g Vi⟩
   refine .inl ⟨by simp[Vi,e9,F,E,C],λ o=>?_⟩;unfold oM tB;rw[g];simp[Vi,e9,F,E,C]
  rcases hF with⟨hF,hU⟩|⟨au,hF,hC⟩
  .simp[N,bt,kV,z.get,f0,Y.get,EK hF,bq ix];refine ih ω ⟨⟨_,_,lm6,λ y v h=>(hv y v h).W (A.trans d) ζ,λ y mN U=>?_⟩,Q.trans ((A.trans d).mono ζ),by simp[s0,N,bt,NL,pW];omega⟩;rcases(GN y).1 mN with h|rfl
   .exact mB y h U
   .exact hU
  .obtain⟨bb,cN⟩:=EI hF;obtain⟨t_N,sM,e0,e1,e2,e3,e4⟩:=i.ob;simp[N,bt,z.get,f0,f8,bY f8,Y.get,cN,sM.get,e4,J.get,bY G1];refine CW hC ?_;rintro v K7 ⟨hv7,g7⟩;have lN7:=sM.ai g7;have G:=J.ai g7;have VJ:=lm6.ai g7;have hv7':=hv7;obtain⟨i1,m1,i2,m2,aA,V,rfl,-⟩:=hv7';repeat (first|simp[N,lN7.get,e4,G.get,bY G1,VJ.get,kV,bq ix]|refine dF (by simp[dA,dm,val,apD,N,lN7.get,e4,G.get,bY G1]) ?_)
   have gp:∀o,I [H.ab] K7 (K7.put H.ab o):=λ o=>(I.refl _ _).put (.inr ζ);have g67:I [] K K7:=(A.trans d).trans g7;refine ih ω ⟨⟨_,_,VJ.put_eq,λ y v h=>?_,λ y mN U=>?_⟩,(Q.trans (g67.mono ζ)).trans (gp _),by simp[s0,N,bt,NL,pW];omega⟩
   .rw[Bb (Sw _) (Sw _),aCl]at h;split at h
    .rename_i e;subst e;cases h;exact hv7.W (gp _) ζ
    .exact((hv y v h).W g67 ζ).W (gp _) ζ
   .rw[Bb (Sw _) (Sw _),aCl]at U;split at U
    .cases U
    .rename_i e;rcases(GN y).1 mN with h|rfl
     .exact mB y h U
     .exact absurd rfl e
 .obtain rfl:j=S.a_.length:=ω
  subst cq;rw[iF]at mB;simp[N,pW,kV];exact hQ ⟨⟨_,rfl,⟨_,_,_,⟨Nat.le_refl _,ω⟩,hNK,lmK,hv,mB⟩⟩,gH⟩
theorem allN_c(H:D):CN 135 [.lit (.pointer none)] H λ v K=>K=H.add (.cells 1 (Tr.e.put 0 (some (.lit (.pointer none)))) false)/\v=.fn (.func 162) [] [.ptr H.ab 0]:=by refine im aqO rfl ?_;simp
theorem G4:CN 80 [.lit (.pointer none)] K λ v T=>aW T 1 (One λ n=>ae n) v []/\I [] K T:=by
 refine ba as5 rfl λ E h=>?_;simp;rw[cE (allN_c _)];simp;refine HA (gv:=.fn (.func 162) [] [.ptr (K.ab+1) 0]) ζ ?_;refine⟨_,_,_,Im,?_⟩;simp;generalize F:LR.mk _ _ _ _ _ _ _=L;generalize e:D.add _ (LR.ob L _ _)=d;have W:I [] K d:=by rw[<-e];exact((((I.refl _ _).add _).add _).add _).add _
 have i0:∃t,Lv d K.ab (.cells 1 t false)/\AV t 0 Dp:=by rw[<-e];exact⟨_,Lv.new.add.add.add,ζ⟩
 have i1:∃t,Lv d (K.ab+1) (.cells 1 t false)/\AV t 0 (.lit (.pointer none)):=by rw[<-e];exact⟨_,(Lv.new (H:=K.add _)).add.add,ζ⟩
 have i2:Lv d (K.ab+2) .deferred:=by rw[<-e];exact(Lv.new (H:=(K.add _).add _)).add
 have i3:Lv d (K.ab+3) (LR.ob L .ready none):=by rw[<-e];exact Lv.new
 clear e;have⟨t1,i1,z⟩:=i1;have⟨t0,i0,A⟩:=i0;have i:∀r,CN 162 [r,.ptr (K.ab+1) 0] d λ _ T=>T=d:=λ r=>by refine ba arf rfl λ E h=>?_;simp[i1.get,z];exact h rfl
 refine(i _).mono ?_;rintro _ T rfl;refine⟨_,_,L,i3.get,ζ,?_⟩;show aD E0 _ _ _ _;have C:K.ab+1+1+1=K.ab+3:=rfl;simp only[C];have ge:I [K.ab+3] T (T.put (K.ab+3) (some (LR.ob L .exhausted none))):=(I.refl _ _).put (.inr ζ);have g:=i2.W ge ζ;have u:=i0.W ge ζ;have y:=LA W ge ζ;generalize T.put (K.ab+3) (some (LR.ob L .exhausted none))=p at g u y⊢;replace g:Lv p (K.ab+1+1) .deferred:=g;simp[u.get,A,g.get];have B:I [K.ab+2] p (p.put (K.ab+1+1) none):=(I.refl _ _).put (.inr ζ);exact h ⟨.nil,LA y B ζ⟩
theorem VY(h:NtO z K nM mid a dH pY S As bZ)(C:xn K)(B:q∈S.a_):CN 60 [.ptr nM 0,ptV q] K λ v T=>(∃aA,kA aA/\aW T 1 (One λ n=>ae n) v (iY (jW aA))/\∀o,cC aA o=As q o)/\I [] K T:=by
 refine ba o60 rfl λ Z r=>?_;obtain⟨mm,c,l,-,D,lm,A,y⟩:=h.ex;have⟨t,g,e0,Q,O,N,u⟩:=D.ob;have n1:¬nM=K.ab:=bC g.lt;have n2:¬mm=K.ab:=bC lm.lt;have e:∀o,I [] K (K.add o):=λ o=>(I.refl _ _).add o;cases d:cH (qU q) l with
 |none=>
  simp[g.get,n1,n2,u,lm.get,EK d]
  refine CW G4 ?_
  rintro v K2 ⟨U,p⟩
  simp
  exact r ⟨⟨λ _=>0,.zero,by rw[B7];exact U,λ o=>by rw[(y q B d o).1];simp[cC]⟩,(e _).trans p⟩
 |some v=>
  have⟨Y,J⟩:=EI d
  obtain⟨i,m,j,n',aA,V,rfl,U,F,-,E,M⟩:=A q v d
  simp[g.get,n1,n2,u,lm.get,J]
  refine CW (Wl (U.ai (e _)) (C.W (e _))) ?_
  rintro v K2 ⟨⟨aL,G,-⟩,p⟩
  simp
  exact r ⟨⟨aA,U.wd,G.aZ,E⟩,(e _).trans p⟩
theorem WT(h:NtO z K nM mid a dH pY S As bZ)(C:xn K)(B:q∈S.a_):CN 61 [.ptr nM 0,ptV q] K λ v T=>(∃aA,kA aA/\aW T 1 (One λ n=>ae n) v (iY (jW aA))/\∀o,cC aA o=bZ q o)/\I [] K T:=by
 refine ba o61 rfl λ Z r=>?_;obtain⟨mm,c,l,-,D,lm,A,y⟩:=h.ex;have⟨t,g,e0,Q,O,N,u⟩:=D.ob;have n1:¬nM=K.ab:=bC g.lt;have n2:¬mm=K.ab:=bC lm.lt;have e:∀o,I [] K (K.add o):=λ o=>(I.refl _ _).add o;cases d:cH (qU q) l with
 |none=>
  simp[g.get,n1,n2,u,lm.get,EK d]
  refine CW G4 ?_
  rintro v K2 ⟨U,p⟩
  simp
  exact r ⟨⟨λ _=>0,.zero,by rw[B7];exact U,λ o=>by rw[(y q B d o).2];simp[cC]⟩,(e _).trans p⟩
 |some v=>
  have⟨Y,J⟩:=EI d
  obtain⟨i,m,j,n',aA,V,rfl,U,F,-,M,E⟩:=A q v d
  simp[g.get,n1,n2,u,lm.get,J]
  refine CW (Wl (F.ai (e _)) (C.W (e _))) ?_
  rintro v K2 ⟨⟨aL,G,-⟩,p⟩
  simp
  exact r ⟨⟨V,F.wd,G.aZ,E⟩,(e _).trans p⟩
end
section
variable{H H0 K T:D}{mid a n dH pY HN:Nat}
theorem oI.out{dW:Nat->BW}(h:oI H mid a n dH K dW)(p:I [] H0 H)(O:H0.ab<=HN)(U:HN<H.ab)(g:I [HN] K T):oI H0 mid a n dH T dW:=by
 have⟨p5,m,r,c,t,C,d,e⟩:=h.ex;have i:∀y∈[HN],c y=(0,0):=λ y G=>by
  have:y=HN:=by simpa using G
  rw[this];exact d.low HN U
 have⟨tp,l,u⟩:=d.C2;exact⟨p5,m,r,c,t,C,⟨d.eV.W g λ y G=>.inl (by rw[i y G]),d.ob.W g (λ B=>by have:=i _ B;rw[d.cc]at this;cases this),⟨tp,l.W g (λ B=>by have:=i _ B;rw[d.c5]at this;cases this),u⟩,d.t2,d.t3,d.cc,d.c5,λ y G=>d.low y (aT G p.ab),ke (p.trans d.base) g (by simp;exact O)⟩,e⟩
theorem h1.out{dW:List BW}{aD R:Nat->Nat->Nat}(h:h1 H n pY K dW EC aD R)(p:I [] H0 H)(O:H0.ab<=HN)(U:HN<H.ab)(g:I [HN] K T):h1 H0 n pY T dW EC aD R:=by
 have⟨c,mv,rv,h2,Yr,ms,mm,rs,rm,d⟩:=h.ex;have i:∀y∈[HN],c y=(0,0):=λ y G=>by
  have:y=HN:=by simpa using G
  rw[this];exact d.low HN U
 have⟨t,l,e⟩:=d.ob;exact{h with ex:=⟨c,mv,rv,h2,Yr,ms,mm,rs,rm,⟨⟨t,l.W g (λ B=>by have:=i _ B;rw[d.c5]at this;cases this),e⟩,d.m.W g λ y G=>by rw[i y G];simp,d.r.W g λ y G=>by rw[i y G];simp,d.c5,λ y G=>d.low y (aT G p.ab),ke (p.trans d.base) g (by simp;exact O)⟩⟩}
theorem NtO.W{cL:AT}{aG nM:Nat}{S:SM}{As bZ:Pt->Nat->Bool}(h:NtO aG K nM mid a dH pY S As bZ)(g:I cL K T)(d:∀y∈cL,y<aG):NtO aG T nM mid a dH pY S As bZ:=by have⟨mm,c,l,⟨b1,b2⟩,r,lm,i,e⟩:=h.ex;exact⟨mm,c,l,⟨b1,b2⟩,r.W g (λ B=>by have:=d _ B;omega),lm.W g (λ B=>by have:=d _ B;omega),λ q v p=>(i q v p).W g λ y G=>by have:=d y G;omega,e⟩
theorem mThN{dW:List BW}{aD R:Nat->Nat->Nat}(h:h1 H n pY K dW EC aD R)(u:0<n){f:Int}(y:¬(0<=f/\f<n)):CN 119 [.ptr pY 0,ae f] K λ v T=>T=K/\v=bl false:=by
 have⟨c,mv,rv,h2,Yr,ms,mm,rs,rm,e⟩:=h.ex;have⟨t,l,p,A⟩:=e.ob;refine ba o119 rfl λ C g=>?_;by_cases d:0<=f
 .have O:¬f<n:=λ O=>y ⟨d,O⟩;obtain⟨r,ca,i,B,z,-⟩:=e.m.at_ u;simp[l.get,p,z,de B5,d,O];exact g ⟨rfl,rfl⟩
 .simp[d];exact g ⟨rfl,rfl⟩
theorem mNil{dW:List BW}{aD R:Nat->Nat->Nat}(h:h1 H n pY K dW EC aD R)(e:0<n){f:Int}(g:¬(0<=f/\f<n)):(CN 53 [.ptr pY 0,ae f] K λ v T=>T=K/\v=Dp)/\CN 52 [.ptr pY 0,ae f] K λ v T=>T=K/\v=Dp:=by
 constructor
 .refine ba o53 rfl λ i d=>?_;simp[cE (mThN h e g)];exact d ⟨rfl,rfl⟩
 .refine ba o52 rfl λ i d=>?_;simp[cE (mThN h e g)];exact d ⟨rfl,rfl⟩
theorem cCal{dW:Nat->BW}{q:Pt}{l:BW}(h:oI H mid a n dH K dW)(r:∀K,I [] H K->CN 23 [.ptr a 0,ptV q] K λ u T=>(∃aL,aX T 1 u (aZ l) aL/\∀y∈aL,K.ab<=y)/\I [] K T):CN 47 [.ptr dH 0,ptV q] K λ u T=>(∃aL,aX T 1 u (aZ l) aL/\∀y∈aL,K.ab<=y)/\I [] K T:=by
 refine ba o47 rfl λ F A=>?_;obtain⟨p5,m,g,c,t,E,d,-,e0⟩:=h.ex;have C:¬dH=K.ab:=bC d.ob.lt;simp[d.ob.get,C,e0];generalize i:D.add _ _=p;have e:I [] K p:=by rw[<-i];exact(I.refl _ _).add _
 clear i;refine CW (r p (d.base.trans e)) ?_;rintro u K2 ⟨⟨aL,hu,z⟩,B⟩;simp;exact A ⟨⟨aL,hu,λ y G=>aY e.ab (z y G)⟩,e.trans B⟩
end
theorem calG_in{L:List Pt}{n:Nat}{q:Pt}(e:q∈L){k:Int}(Q:k∈au q):k∈hx au L n q.1:=by
 have d:k∈E3 au L L.length q.1:=by unfold E3;rw[iF];exact List.mem_flatMap.2 ⟨q,e,by simpa using Q⟩
 unfold hx;split
 .rw[apc,(yB _).mem_iff];exact d
 .exact d
structure E1(K:D)(n HN mid a dH pY nM:Nat)(S:SM)(VL:Int->List Nat)(eV:Pt->List Int)(aD R:Nat->Nat->Nat):Prop where
 ob:∃t,Lv K HN (.cells 5 t false)/\AV t 0 (.ptr mid 0)/\AV t 1 (.ptr a 0)/\AV t 2 (.ptr dH 0)/\AV t 3 (.ptr pY 0)/\AV t 4 (.ptr nM 0)
 w:RE K mid a dH pY n S VL eV aD R
 nt:∃z,NtO z K nM mid a dH pY S (oM S VL eV aD R) (tB S VL eV aD)
 cl_:∀q∈S.a_,∀k∈eV q,CP (aD k.toNat) (aD q.1)/\CP (R k.toNat) (R q.1)
 i_M:∀q∈S.a_,∀o,o<S.of.length->VQ S VL 9 o q=true->cC (aD q.1) o=true
 i_R:∀q∈S.a_,∀o,o<S.of.length->VQ S VL 8 o q=true->cC (R q.1) o=true
 co:∀q∈S.a_,∀x,Js S.p q=some x->x.op≠10->x.op≠11->eV q=[]
 has:∀T,I [] K T->∀(v:Int) (o:Nat),o<4611686018427387904->CN 17 [.ptr a 0,ae v,ae (o:Nat)] T λ u K2=>K2=T/\u=bl (decide (o∈VL v))
 out:∀T,I [] K T->∀f:Int,¬(0<=f/\f<n)->(CN 53 [.ptr pY 0,ae f] T λ v K2=>K2=T/\v=Dp)/\CN 52 [.ptr pY 0,ae f] T λ v K2=>K2=T/\v=Dp
 np:S.p.length=n/\n<=64
theorem allP_c{p:List aQ}(hp:oO H v' p)(hF:Fit p)(E:HH p)(C:SC p)(hT:xn H):CN 59 [.agg [v']] H λ v K=>(v=.lit (.pointer none)\/∃HN mid a dH pY nM VL eV aD R,v=.ptr HN 0/\E1 K p.length HN mid a dH pY nM (bj p) VL eV aD R)/\I [] H K:=by
 refine ba o59 rfl λ Q' hQ=>?_;simp[hp.cell,hp.co];generalize pK:D.add _ _=K0;have g0:I [] H K0:=by rw[<-pK];exact(I.refl _ _).add _
 clear pK;refine CW (azc (hp.zB g0) E C agE) ?_;rintro _ K2 ⟨rfl|⟨hW,id,rfl,hMI⟩,g2⟩
 .simp;exact hQ ⟨.inl rfl,g0.trans g2⟩
 have hM:=hMI.mp;have UA:=aem hW hF;have Uy:=alL hW hF;have eX:=(hT.W g0).W g2;simp;refine CW (aEX hM eX UA Uy) ?_;rintro _ d ⟨X,L,rfl,xS,Sg,-,-,xN,f_⟩;have fo:=base_gr Sg f_;have J:=hM.W fo;have Y:An X:=⟨by rw[xS];exact UA,by rw[xN,xS]⟩;have hI:=(SV.ad0 Uy.si Uy.rel).2;have fk:(Bv (bj p)).Ok (bJ (bj p)) X.N:=by rw[xN];exact hI.ok
 have n9:X.N=X.S.vars.length+X.S.of.length:=by rw[xN,xS]
 have r:=CY hW hF E C J xS Y f_ fk n9;have hn:=pT p;have g23:=(g0.trans g2).trans fo;simp;generalize M:D.add _ _=K_B;have gB:I [] d K_B:=by rw[<-M];exact(I.refl _ _).add _
 have nB:K_B.ab=d.ab+1:=by rw[<-M];rfl
 have lB:∃t,Lv K_B d.ab (.cells 5 t false)/\AV t 0 (.ptr id 0)/\AV t 1 (.ptr L.a 0):=by rw[<-M];exact⟨_,Lv.new,ζ⟩
 clear M;have⟨t_B,lB,b0,b1⟩:=lB;try simp[lB.get,b1]
 refine CW (MZ (CY hW hF E C (J.W gB) xS Y (f_.ai gB) fk n9)) ?_;rintro _ K4 ⟨dH,rfl,Gq⟩;rw[hn]at Gq;have I5:=r.eV;have hcb:=r.Gv;rw[hn]at hcb;have eN:∀q∈(bj p).a_,∀x,Js (bj p).p q=some x->x.op≠10->x.op≠11->AH X (Bv (bj p)) q=[]:=λ q _ x Z O U=>by unfold AH;rw[xS,Z];simp only[D4,ao O,ao U]
 have b4:=Gq.base;have l4:=lB.ai b4;simp[l4.get,b0,b1];generalize qK:D.put _ _ _=K5;have g5:I [d.ab] K4 K5:=by rw[<-qK];exact(I.refl _ _).put (.inr ζ)
 have l5:∃t,Lv K5 d.ab (.cells 5 t false)/\AV t 0 (.ptr id 0)/\AV t 1 (.ptr L.a 0)/\AV t 2 (.ptr dH 0):=by rw[<-qK];exact⟨_,l4.put_eq,by simp[b0,b1]⟩
 clear qK;have⟨t5,l5,c0,c1,c2⟩:=l5;have aU:d.ab<=d.ab:=Nat.le_refl _;have z:d.ab<K_B.ab:=ω
 have IT:oI d id L.a p.length dH K5 _:=Gq.out gB aU z g5;have b35:=IT.base;have A:=Jn hW E C J xS Y f_ r IT;have az:∀q∈(bj p).a_,q.1<p.length/\_:=λ q i=>⟨by have:=(A.ins q i).1;rwa[hn]at this,(A.ins q i).2⟩;have hvar:=A.var;have hvlt:=A.vlt;try simp[l5.get,c1,c2]
 refine CW (Gd A) ?_;rintro _ K6 ⟨pY,aD,R,rfl,e⟩;rw[hn]at e;have b6:=e.base;have l6:=l5.ai b6;simp[l6.get,c0,c1,c2];generalize Gn:D.put _ _ _=K7;have g7:I [d.ab] K6 K7:=by rw[<-Gn];exact(I.refl _ _).put (.inr ζ)
 have l7:∃t,Lv K7 d.ab (.cells 5 t false)/\AV t 0 (.ptr id 0)/\AV t 1 (.ptr L.a 0)/\AV t 2 (.ptr dH 0)/\AV t 3 (.ptr pY 0):=by rw[<-Gn];exact⟨_,l6.put_eq,by simp[c0,c1,c2]⟩
 clear Gn;have⟨t7,l7,d0,d1,d2,d3⟩:=l7;have g47:I [d.ab] K4 K7:=(g5.trans (b6.mono ζ)).trans g7;have hus:=λ g o=>mr_us (S:=bj p) (VL:=jk X (Bv (bj p))) g o (bj p).a_ (λ _ _=>0,λ _ _=>0);have hGi:=λ (q:Pt) (h:q∈(bj p).a_) (k:Int) (Q:k∈AH X (Bv (bj p)) q)=>calG_in (n:=p.length) h Q;have gR:=e.s_M;have hrs:=e.s_R;have hdc:=e.cl;have mkW:∀K,I [] d K->oI d id L.a p.length dH K (hx (AH X (Bv (bj p))) (bj p).a_ p.length)->∀H',h1 H' p.length pY K ((List.range p.length).map (hx (AH X (Bv (bj p))) (bj p).a_ p.length)) ((bj p).a_.foldl (La (bj p) (jk X (Bv (bj p)))) (λ _ _=>0,λ _ _=>0)) aD R->RE K id L.a dH pY p.length (bj p) (jk X (Bv (bj p))) (AH X (Bv (bj p))) aD R:=λ K g hO H' hD=>⟨J.W g,r.nD,r.p0,az,λ T u v=>yX ((f_.ai g).ai u) v,hvlt,λ T u q i=>cCal (hO.ai u) (I5 q i),λ q i=>(hcb q i).2,λ T u f B=>mMod (hD.ai u) (((eX.W fo).W g).W u) B,λ T u f B=>mTouch (hD.ai u) (((eX.W fo).W g).W u) B,λ f B=>hD.wd B⟩;have pM:oI d id L.a p.length dH K7 _:=Gq.out gB aU z g47;have avw:d.ab<K5.ab:=l5.lt;have hD7:=e.out b35 aU avw g7;try simp[l7.get,d1,d2,d3]
 refine CW (chiOf_c (mkW K7 pM.base pM _ hD7)) ?_;rintro _ K8 ⟨⟨nM,rfl,hN8⟩,g8⟩;have l8:=l7.ai g8;simp[l8.get,d0,d1,d2,d3];generalize LI:D.put _ _ _=K9;have g9:I [d.ab] K8 K9:=by rw[<-LI];exact(I.refl _ _).put (.inr ζ)
 have l9:∃t,Lv K9 d.ab (.cells 5 t false)/\AV t 0 (.ptr id 0)/\AV t 1 (.ptr L.a 0)/\AV t 2 (.ptr dH 0)/\AV t 3 (.ptr pY 0)/\AV t 4 (.ptr nM 0):=by rw[<-LI];exact⟨_,l8.put_eq,by simp[d0,d1,d2,d3]⟩
 clear LI;have g79:I [d.ab] K7 K9:=(g8.mono ζ).trans g9;have F:oI d id L.a p.length dH K9 _:=Gq.out gB aU z (g47.trans g79);have hD9:=e.out b35 aU avw (g7.trans g79);have hlt7:=l7.lt;have hgd:∀f,f<p.length->((List.range p.length).map (hx (AH X (Bv (bj p))) (bj p).a_ p.length)).getD f []=hx (AH X (Bv (bj p))) (bj p).a_ p.length f:=λ f B=>by rw[List.getD_eq_getElem?_getD,y',List.getElem?_range B];rfl
 refine hQ ⟨.inr ⟨_,_,_,_,_,_,_,_,aD,R,rfl,⟨l9,mkW K9 F.base F _ hD9,⟨_,hN8.W g9 λ y G=>?_⟩,λ q i k Q=>?_,λ q i o ho hu=>?_,λ q i o ho hu=>?_,eN,λ T u v o ho=>?_,λ T u f B=>mNil (hD9.ai u) (by rw[<-hn];exact r.n0) B,by rw[hn],(Sf hW).2⟩⟩,g23.trans F.base⟩
 .have:y=d.ab:=by simpa using G
  omega
 .have Mv:=(az q i).1;exact hdc q.1 Mv k (by rw[hgd q.1 Mv];exact hGi q i k Q)
 .exact gR.inc q.1 o ((hus q.1 o).1.2 (.inr ⟨ho,q,i,rfl,hu⟩))
 .exact hrs.inc q.1 o ((hus q.1 o).2.2 (.inr ⟨ho,q,i,rfl,hu⟩))
 .rw[<-T6 (X:=X) (V:=Bv (bj p)) (by rw[xS];exact fk) n9];exact aeP ((f_.ai F.base).ai u) Y v ho
abbrev T_W(aD R:Nat->Nat->Nat)(f:Nat):Nat->Nat:=fT (fT (λ _=>0) (aD f)) (R f)
theorem T4{aD R:Nat->Nat->Nat}:cC (T_W aD R f) b=(cC (aD f) b||cC (R f) b):=by rw[uk,uk];simp[cC]
section
variable{H K T:D}{n HN mid a dH pY nM:Nat}{S:SM}{VL:Int->AT}{eV:Pt->BW}{aD R:Nat->Nat->Nat}{q:Pt}{o f:Nat}{k:Int}
theorem RE.ai(h:RE H mid a dH pY n S VL eV aD R)(g:I [] H K):RE K mid a dH pY n S VL eV aD R:=⟨h.mp.W g,h.nD,h.p0,h.ins,λ T d=>h.var T (g.trans d),h.vlt,λ T d=>h.clc T (g.trans d),h.cge,λ T d=>h.mod T (g.trans d),λ T d=>h.tou T (g.trans d),h.wd⟩
theorem E1.ai(h:E1 K n HN mid a dH pY nM S VL eV aD R)(g:I [] K T):E1 T n HN mid a dH pY nM S VL eV aD R:=by have⟨t,l,e⟩:=h.ob;have⟨z,i⟩:=h.nt;exact{h with ob:=⟨t,l.ai g,e⟩,w:=h.w.ai g,nt:=⟨z,i.W g ζ⟩,has:=λ K2 d=>h.has K2 (g.trans d),out:=λ K2 d=>h.out K2 (g.trans d)}
theorem df_M(h:E1 K n HN mid a dH pY nM S VL eV aD R)(e:q∈S.a_)(hd:tB S VL eV aD q o=true):cC (aD q.1) o=true:=by
 have A:=h.i_M q e o;have g:=h.cl_ q e;unfold tB at hd;unfold VQ at A;cases Z:Js S.p q with
 |none=>rw[Z]at hd;cases hd
 |some x=>
  rw[Z]at hd A
  dsimp only at hd A
  by_cases d:x.op=9
  .rw[aq d,v8,rK]at hd
   exact A hd.1 (by simp[d,Tj hd.2])
  .rw[ao d]at hd
   split at hd
   .have⟨k,O,U⟩:=YB.1 hd;exact(g k O).1 o U
   .cases hd
theorem us_T(h:E1 K n HN mid a dH pY nM S VL eV aD R)(d:q∈S.a_)(hu:oM S VL eV aD R q o=true):cC (T_W aD R q.1) o=true:=by
 have A:=h.i_M q d o;have hr:=h.i_R q d o;have i:=h.cl_ q d;rw[T4];unfold oM at hu;unfold VQ at A hr;cases Z:Js S.p q with
 |none=>rw[Z]at hu;cases hu
 |some x=>
  rw[Z]at hu A hr
  dsimp only at hu A hr
  by_cases g:x.op=8
  .rw[aq g,v8,rK]at hu
   rw[hr hu.1 (by simp[g,Tj hu.2]),Kv]
  rw[ao g]at hu
  by_cases e:x.op=9
  .rw[aq e,v8,rK]at hu
   rw[A hu.1 (by simp[e,Tj hu.2])];rfl
  rw[ao e]at hu
  split at hu
  .rw[hu];rfl
  split at hu
  .have⟨k,O,U⟩:=YB.1 hu
   rw[xt]at U⊢;exact U.imp ((i k O).1 o) ((i k O).2 o)
  .cases hu
theorem df_us(hd:tB S VL eV aD q o=true):oM S VL eV aD R q o=true:=by
 unfold tB at hd;unfold oM;cases Z:Js S.p q with
 |none=>rw[Z]at hd;cases hd
 |some x=>
  rw[Z]at hd
  dsimp only at hd⊢
  by_cases d:x.op=9
  .have e:¬x.op=8:=ω
   rw[aq d]at hd;rw[ao e,aq d];exact hd
  .rw[ao d]at hd
   split at hd
   .rename_i O;have e:¬x.op=8:=ω
    have g:¬x.op=14:=ω
    rw[ao e,ao d,ao g,aq O];obtain⟨k,O,U⟩:=YB.1 hd;exact YB.2 ⟨k,O,by rw[U];rfl⟩
   .cases hd
theorem cal_in(h:E1 K n HN mid a dH pY nM S VL eV aD R)(d:q∈S.a_)(Q:k∈eV q):(cC (T_W aD R k.toNat) o=true->oM S VL eV aD R q o=true)/\(cC (aD k.toNat) o=true->tB S VL eV aD q o=true):=by
 obtain⟨-,x,r,-⟩:=h.w.ins q d;have Z:=V5 r;have O:x.op=10\/x.op=11:=by
  by_cases g:x.op=10
  .exact .inl g
  by_cases e:x.op=11
  .exact .inr e
  rw[h.co q d x Z g e]at Q;cases Q
 have p:¬x.op=8:=ω
 have i:¬x.op=9:=ω
 have t:¬x.op=14:=ω
 rw[T4];unfold oM tB;rw[Z];simp only[ao p,ao i,ao t,aq O];exact⟨λ h=>YB.2 ⟨k,Q,h⟩,λ h=>YB.2 ⟨k,Q,h⟩⟩
theorem inS_c(d:aW K 1 (One λ n=>ae n) v' (iY (jW aA)))(p:aW K 1 (One λ n=>ae n) v (iY (jW ms)))(hw:kA aA)(C:kA ms)(D:CP aA ms):CN 62 [v',v] K λ w T=>T=K/\w=bl true:=by
 have h:∀x∈iY (jW aA),x∈iY (jW ms):=λ x Z=>by obtain⟨i,O,rfl⟩:=jn.1 Z;exact jn.2 ⟨i,(Dm C).2 (D i ((Dm hw).1 O)),rfl⟩
 generalize iY (jW aA)=aR at d h;generalize iY (jW ms)=aG at p h;refine ba o62 rfl λ N G=>?_;simp;refine CA (λ i sl T=>T=K/\AV sl 0 v'/\AV sl 1 v/\AV sl 5 (ae i)/\i<=aR.length) aR.length ⟨rfl,ζ⟩ ?_
 rintro b kk-Q i sl T ⟨rfl,g,u,r,A⟩ B;have J:=d.aN bK T;by_cases e:i<aR.length
 .obtain⟨id,ah,ax,ex,n,t,ro,c,rfl,E,M,I,z⟩:=d.gL e;have F:c=ae aR[i]:=by have:[c]=[ae aR[i]]:=z;simpa using this
  subst F;have y:=d.cP;have he:=h _ (cG e);simp[g,u,r,e,E.get,I,M,cE (ahp _ p),he,de bK,bq (aT e y)];exact B ω ⟨rfl,by simp[g,u];omega⟩
 .obtain rfl:i=aR.length:=ω
  subst Q;simp[g,r,J];exact G ⟨rfl,rfl⟩
theorem ent_c(h:E1 K n HN mid a dH pY nM S VL eV aD R){f:Int}(i:CN 52 [.ptr pY 0,ae f] K P):CN 63 [.ptr nM 0,ae f] K P:=by refine ba o63 rfl λ C p=>?_;have⟨z,e⟩:=h.nt;obtain⟨mm,c,l,-,r,-⟩:=e.ex;have⟨t,d,e0,B,A,u,y⟩:=r.ob;simp[d.get,u];refine CW i ?_;intro v K2 g;simp;exact p g
theorem exi_c(h:E1 K n HN mid a dH pY nM S VL eV aD R){f:Int}(i:CN 53 [.ptr pY 0,ae f] K P):CN 64 [.ptr nM 0,ae f] K P:=by refine ba o64 rfl λ C p=>?_;have⟨z,e⟩:=h.nt;obtain⟨mm,c,l,-,r,-⟩:=e.ex;have⟨t,d,e0,B,A,u,y⟩:=r.ob;simp[d.get,u];refine CW i ?_;intro v K2 g;simp;exact p g
end
theorem o30T:(fq 30,pq 30 6,())=(some Tryz.f30,some [.op 0,.op 1,.op 2,.op 3,.op 4,.op 5,.op 6,.op 7,.op 8],()):=κ
def o30:=fe (jd o30T)
def w30:=pe (jq o30T)
theorem B2(H:D):CN 58 [] H λ w K=>K=H/\w=bl true:=Ht (n:=3) au6 rfl ⟨rfl,rfl⟩
theorem EH:(fq 11,pq 11 11,pq 11 15,pq 11 28,pq 11 31,pq 11 35,pq 11 36,pq 11 37,pq 11 42,())=(some Tryz.f11,some [.op 0,.op 1,.op 2,.op 3,.op 4,.op 9,.wr 5 [],.op 6,.op 7,.op 8,.wr 10 [],.op 11],some [.op 0,.op 1,.op 2,.op 3,.op 4,.op 5,.op 6,.wr 7 [],.op 8,.op 9,.op 10,.op 11,.op 12],some [.op 0,.op 1,.op 2,.op 3,.op 4,.op 5,.op 7,.wr 6 [],.wr 8 [],.op 9],some [.op 0,.op 1,.op 2,.op 3,.op 4,.wr 5 [],.op 6],some [.op 0,.op 1,.op 2,.op 3,.op 4,.op 5,.op 6,.op 7,.op 8,.op 9,.op 11,.wr 10 [],.wr 12 [],.op 13,.op 14],some [.op 0,.op 1,.op 2,.op 3,.op 4,.op 5,.op 6,.op 7,.op 8,.op 9,.op 11,.wr 10 [],.wr 12 [],.op 13,.op 14],some [.op 0,.op 1,.op 2,.op 3,.op 4,.op 6,.op 8,.wr 5 [],.wr 7 [],.op 9,.op 10,.op 11,.op 12,.op 13,.op 14,.op 15,.op 17,.op 19,.wr 16 [],.wr 18 [],.op 20,.op 21],some [.op 0,.op 1,.op 2,.op 3,.op 4,.op 6,.op 7,.op 8,.op 9,.op 10,.wr 5 [9],.wr 11 [],.wr 12 [],.op 13,.op 14,.op 15,.op 16,.op 17,.op 18,.op 19,.op 21,.op 22,.op 23,.op 24,.op 25,.wr 20 [24],.wr 26 [],.wr 27 [],.op 28,.op 29],()):=κ
def o_11:=fe (jd EH)
def w11a:=pe (jq EH)
def w11b:=pe (jr EH)
def w11c:=pe (js EH)
def w11d:=pe (jt EH)
def w11e:=pe (ju EH)
def w11f:=pe (jv EH)
def w11g:=pe (jw EH)
def w11h:=pe (jx EH)
attribute [simp] w30 w11a w11b w11c w11d w11e w11f w11g w11h
theorem same_c(e:aW H 1 (One λ n=>ae n) v' aR)(r:aW H 1 (One λ n=>ae n) v aR):CN 30 [v',v] H λ w K=>K=H/\w=bl true:=by
 refine ba o30 rfl λ Q' I=>?_;have p:=e.aN bK;have z:=r.aN bK;simp[p,z];refine CA (λ i sl K=>K=H/\AV sl 0 v'/\AV sl 1 v/\AV sl 5 (ae i)/\i<=aR.length) aR.length ⟨rfl,ζ⟩ ?_
 rintro b kk-Q i sl K ⟨rfl,g,y,u,A⟩ E;by_cases d:i<aR.length
 .obtain⟨id,ah,ax,ex,n,t,ro,c,rfl,F,O,N,B⟩:=e.gL d;have G:c=ae aR[i]:=by have:[c]=[ae aR[i]]:=B;simpa using this
  subst G;obtain⟨Z,Y,U,kY,n2,t2,W,c2,rfl,M,J,D,h⟩:=r.gL d;have C:c2=ae aR[i]:=by have:[c2]=[ae aR[i]]:=h;simpa using this
  subst C;have:=e.cP;simp[g,y,u,d,F.get,N,O,M.get,D,J,de bK,bq (aT d this)];exact E ω ⟨rfl,by simp[g,y,dz d]⟩
 .obtain rfl:i=aR.length:=ω
  subst Q;simp[g,u,p];exact I ⟨rfl,rfl⟩
section
variable{S:SM}{VL:Int->AT}{eV:Pt->BW}{aD R:Nat->Nat->Nat}{q:Pt}{o:Nat}{x:bp}
theorem us_at(Z:Js S.p q=some x):oM S VL eV aD R q o=if x.op=8 then decide (o<S.of.length)&&decide (o∈VL (S.aV q.1 x.a))else if x.op=9 then decide (o<S.of.length)&&decide (o∈VL (S.aV q.1 x.b))else if x.op=14 then cC (aD q.1) o else if x.op=10\/x.op=11 then(eV q).any λ k=>cC (aD k.toNat) o||cC (R k.toNat) o else false:=by unfold oM;rw[Z]
theorem df_at(Z:Js S.p q=some x):tB S VL eV aD q o=if x.op=9 then decide (o<S.of.length)&&decide (o∈VL (S.aV q.1 x.b))else if x.op=10\/x.op=11 then(eV q).any λ k=>cC (aD k.toNat) o else false:=by unfold tB;rw[Z]
end
theorem lawY_c{p:List aQ}(hp:oO H v' p)(hz:ij p<=1048576)(ht:uK (λ x=>x.args.length) p<=1048576)(hl:uK (λ x=>x.eh.length) p<=1048576)(hT:xn H):CN 11 [.agg [v']] H λ v _=>v=bl true:=by
 refine ba o_11 rfl λ Q' hQ=>?_;simp[hp.cell,hp.co];generalize pK:D.add _ _=K0;have g0:I [] H K0:=by rw[<-pK];exact(I.refl _ _).add _
 have l1:Lv K0 H.ab (.cells 1 (Tr.e.put 0 (some v')) false):=by rw[<-pK];exact Lv.new
 clear pK;try simp[l1.get]
 refine CW (atG (hp.zB g0) hz) ?_;rintro _ K1 ⟨⟨b,rfl,hb⟩,g1⟩;cases b with
 |true=>
  simp[cE (B2 _)]
  exact hQ rfl
 |false=>
  have hF:Fit p:=⟨hb rfl,ht,hl⟩
  have A_:=l1.ai g1
  simp[A_.get]
  have hSA:HH p:=λ f b i x ha=>by have:=Xr (w:=λ x=>x.args.length) ha;omega
  have hSL:SC p:=λ f b i x ha=>by have:=Xr (w:=λ x=>x.eh.length) ha;omega
  have kF:=(hT.W g0).W g1
  refine CW (allP_c ((hp.zB g0).zB g1) hF hSA hSL kF) ?_
  rintro _ K2 ⟨rfl|⟨HN,mid,a,dH,pY,nM,VL,eV,aD,R,rfl,F⟩,g2⟩
  .simp[cE (B2 _)]
   exact hQ rfl
  have⟨t_A,lA,a0,a1,a2,a3,a4⟩:=F.ob
  have eX:=kF.W g2
  generalize bj p=S at F
  simp[lA.get,a0]
  refine CW (aER F.w.mp F.w.nD) ?_
  rintro pv K3 ⟨hP,-,g3⟩
  obtain⟨pid,hk,B6,SX,pn,pt,pro,rfl,VI,mC,qy,hpc,nJ⟩:=hP.full F.w.p0
  have aIo:=F.w.nD.2.2.2.2
  have Ms:=((hp.zB g0).zB g1).zB g2
  have l12:=A_.ai g2
  simp
  refine CA (λ i sl K=>I [] K3 K/\AV sl 1 (.ptr H.ab 0)/\AV sl 3 (.ptr HN 0)/\AV sl 4 (.sl pid hk 3 S.a_.length B6 SX)/\AV sl 5 (ae (i:Nat))/\i<=S.a_.length) S.a_.length ⟨I.refl _ _,ζ⟩ ?_
  rintro b1 k1-cq i sl K ⟨gK,s1,s3,s4,s5,A⟩ ih
  by_cases az:i<S.a_.length
  .have jA:i<maxLen:=by unfold maxLen;omega
   have⟨M,yi,mY⟩:=qy i az;have gR:M=yI S.a_[i]:=mY;subst gR;have C3:=cG az;generalize S.a_[i]=q at yi C3;have⟨Mv,x,Z,hxa,GR⟩:=F.w.ins q C3;have aU:hk+i*3+3<=pn:=ω
   have kh:bc pt (hk+i*3) 3=some [ae (q.1:Nat),ae (q.2.1:Nat),ae (q.2.2:Nat)]:=yi;have g2K:=g3.trans gK;have l_K:=lA.ai g2K;have lpK:=VI.ai gK;have e1:¬HN=K.ab:=bC l_K.lt;have e2:¬HN=K.ab+1:=by have:=l_K.lt;omega
   simp[s3,s4,s5,de XD,az,l_K.get,a0,lpK.get,aU,bY kh,e1,e2];generalize pL:D.add _ _=K4;have g4:I [] K K4:=by rw[<-pL];exact I.add (ke ((I.refl _ _).add _) ((I.refl _ _).put (.inr ζ)) (X:=[K.ab]) ζ) _
   have l6:∃t,Lv K4 K.ab (.cells 3 t false)/\AV t 0 (ae (q.1:Nat))/\bc t 0 3=some [ae (q.1:Nat),ae (q.2.1:Nat),ae (q.2.2:Nat)]:=by rw[<-pL];exact⟨_,(Lv.new (H:=K)).put_eq.add,ζ,by simp[bc]⟩
   have l7:∃t,Lv K4 (K.ab+1) (.cells 8 t false):=by rw[<-pL];exact⟨_,Lv.new⟩
   clear pL;have⟨t6,l6,x6,r6⟩:=l6;have⟨t7,l7⟩:=l7;refine CW (akC (F.w.mp.W (g2K.trans g4)) Z hxa GR) ?_;rintro _ K5 ⟨⟨M,rfl,hI,-⟩,g5⟩;obtain⟨va,vl,rfl,kl,mO,-⟩:=hI;have l_5:=(l_K.ai g4).ai g5;have l65:=l6.ai g5;have l75:=l7.ai g5;repeat (first|simp[s3,l_5.get,a0,l65.get,bY r6,l75.get,kl.cell,mO.cell]|refine dF (by simp[dA,dm,val,apD,s3,l_5.get,a0,l65.get,bY r6]) ?_)
   generalize EN:D.put _ _ _=K6;have g6:I [K.ab+1] K5 K6:=by rw[<-EN];exact(I.refl _ _).put (.inr ζ)
   have l76:∃t,Lv K6 (K.ab+1) (.cells 8 t false)/\AV t 0 (u8 x.op)/\AV t 2 (str x.a)/\AV t 3 (str x.b):=by rw[<-EN];exact⟨_,l75.put_eq,ζ⟩
   clear EN;have⟨t_7,l76,f0,f2,f3⟩:=l76;have II:I [] K K6:=ke (g4.trans g5) g6 ζ;have l66:=l65.W g6 ζ;have lA6:=l_5.W g6 (by simp;have:=l_K.lt;omega);have g26:=g2K.trans II;obtain⟨nm,kg⟩:∃nm,nm=if x.op=9 then x.b else x.a:=⟨_,rfl⟩
   by_cases h9:x.op=9;case' pos=>
    rw[aq h9]at kg
    simp[h9,s3,lA6.get,a0,l66.get,x6,l76.get,f0,f2,f3,<-kg]
   case' neg=>
    rw[ao h9]at kg
    simp[h9,s3,lA6.get,a0,l66.get,x6,l76.get,f0,f2,f3,<-kg]
   all_goals
    refine CW (Xt (F.w.mp.W g26) q.1 nm) ?_;rintro _ K7 ⟨⟨b_b,rfl⟩,g7⟩;have g27:=g26.trans g7;have l67:=l66.ai g7;have l77:=l76.ai g7;have lA7:=lA6.ai g7;simp;have jB:∀K,I [] K7 K->CN 29 [.ptr mid 0] K λ v T=>T=K/\v=ae ((S.of.length+S.p.length:Nat):Int):=λ K g=>smObjs (F.w.mp.W (g27.trans g)) F.w.nD (by have:=F.np;omega);refine bu (α:=Nat) (aJ:=λ o sl C=>I [] K7 C/\AV sl 1 (.ptr H.ab 0)/\AV sl 3 (.ptr HN 0)/\AV sl 4 (.sl pid hk 3 S.a_.length B6 SX)/\AV sl 5 (ae (i:Nat))/\AV sl 6 (.ptr K.ab 0)/\AV sl 7 (.ptr (K.ab+1) 0)/\AV sl 10 (ae (S.aV q.1 nm))/\AV sl 12 (ae (o:Nat))/\o<=S.of.length+S.p.length) (mu:=λ o=>S.of.length+S.p.length-o) ?_ 0 _ _ ?ini2;case ini2=>exact⟨I.refl _ _,by simp[s1,s3,s4,s5]⟩
    rintro b2 k2-dO o Hn C ⟨g8,q1,r,q4,q5,q6,q7,bo,Y,ho⟩ eJ;have T1:=lA7.ai g8;have O:=g27.trans g8;by_cases hon:o<S.of.length+S.p.length
    .have hoi:(o:Int)<(S.of.length:Int)+(S.p.length:Int):=ω
     have QB:o<4611686018427387904:=by have:=F.np;have⟨c1,c2,c3,c4,c5⟩:=F.w.nD;omega
     have hom:o<maxLen:=by unfold maxLen;omega
     have G:=F.ai O;have l68:=l67.ai g8;have VK:=l77.ai g8;have hT8:=eX.W O;have⟨z,hz⟩:=G.nt;have hw:=G.w.wd q.1 Mv;have hha:=G.has C (I.refl _ _) (S.aV q.1 nm) o QB;have hus:=us_at (VL:=VL) (eV:=eV) (aD:=aD) (R:=R) (o:=o) (V5 Z);have hds:=df_at (VL:=VL) (eV:=eV) (aD:=aD) (o:=o) (V5 Z);have vv:=DD G.w.mp;simp[r,Y,T1.get,a0,cE (jB C g8),hoi,cE vv];have bP:x.op=8\/x.op=9\/x.op=14\/(x.op=10\/x.op=11)\/(x.op≠8/\x.op≠9/\x.op≠14/\x.op≠10/\x.op≠11):=ω
     rcases bP with h|h|h|h|h;case' inl=>
      have U:¬x.op=9:=ω
      have T5:oM S VL eV aD R q o=(decide (o<S.of.length)&&decide (o∈VL (S.aV q.1 nm))):=by rw[hus,aq h];first|(rw[kg];done)|exact absurd h9 U
      have B:tB S VL eV aD q o=false:=by rw[hds,ao U,ao ω]
      by_cases hio:o<S.of.length<;>by_cases pj:o∈VL (S.aV q.1 nm)
      all_goals simp[hio,pj]at T5;simp[h,U,hio,r,q7,bo,Y,VK.get,f0,T1.get,a1,cE hha,pj];have U9:I [] C C:=I.refl _ _;have J:=trivial;have VF:=trivial
     case' inr.inl=>
      have T5:oM S VL eV aD R q o=(decide (o<S.of.length)&&decide (o∈VL (S.aV q.1 nm))):=by rw[hus,ao ω,aq h];first|(rw[kg];done)|exact absurd h h9
      have B:tB S VL eV aD q o=(decide (o<S.of.length)&&decide (o∈VL (S.aV q.1 nm))):=by rw[hds,aq h];first|(rw[kg];done)|exact absurd h h9
      by_cases hio:o<S.of.length<;>by_cases pj:o∈VL (S.aV q.1 nm)
      all_goals simp[hio,pj]at T5 B;simp[h,hio,r,q7,bo,Y,VK.get,f0,T1.get,a1,cE hha,pj];have U9:I [] C C:=I.refl _ _;have J:=trivial;have VF:=trivial
     case' inr.inr.inl=>
      have Vi:¬x.op=8:=ω
      have U:¬x.op=9:=ω
      have T5:oM S VL eV aD R q o=cC (aD q.1) o:=by rw[hus,ao Vi,ao U,aq h]
      have B:tB S VL eV aD q o=false:=by rw[hds,ao U,ao ω]
      simp[h,r,q6,q7,Y,VK.get,f0,T1.get,a3,l68.get,x6]
      refine CW (G.w.mod C (I.refl _ _) q.1 Mv) ?_
      rintro m1 K9 ⟨EB,U9⟩
      have hhM:=T9 EB hw.1 o
      cases hMo:cC (aD q.1) o
      all_goals rw[hMo]at T5 hhM;simp[Y,cE hhM];have J:=trivial;have VF:=trivial
     case' inr.inr.inr.inl=>
      have Vi:¬x.op=8:=ω
      have U:¬x.op=9:=ω
      have e14:¬x.op=14:=ω
      have T5:oM S VL eV aD R q o=(eV q).any λ k=>cC (T_W aD R k.toNat) o:=by rw[hus,ao Vi,ao U,ao e14,aq h];congr 1;funext k;rw[T4]
      have B:tB S VL eV aD q o=(eV q).any λ k=>cC (aD k.toNat) o:=by rw[hds,ao U,aq h]
      have hsw:∃b:Bool,decide (x.op=10)=b/\(b=false->x.op=11):=⟨_,rfl,λ hb=>h.elim (λ e=>by simp[e]at hb) id⟩
      rcases h with h|h
      all_goals
       simp[h,r,q6,q7,VK.get,f0,T1.get,a2,l68.get,bY r6];refine CW (G.w.clc C (I.refl _ _) q C3) ?_;rintro c_v K9 ⟨⟨aL,hc,-⟩,g9⟩;have hci:=hc.aZ;have N:=hci.aN bK;have eN:=hci.cP;have hcg:=G.w.cge q C3;generalize eV q=l at T5 B hci N eN hcg;simp;refine CA (λ j sl qf=>I [] K9 qf/\AV sl 1 (.ptr H.ab 0)/\AV sl 3 (.ptr HN 0)/\AV sl 4 (.sl pid hk 3 S.a_.length B6 SX)/\AV sl 5 (ae (i:Nat))/\AV sl 6 (.ptr K.ab 0)/\AV sl 7 (.ptr (K.ab+1) 0)/\AV sl 10 (ae (S.aV q.1 nm))/\AV sl 12 (ae (o:Nat))/\AV sl 14 (bl ((l.take j).any λ k=>cC (T_W aD R k.toNat) o))/\AV sl 15 (bl ((l.take j).any λ k=>cC (aD k.toNat) o))/\AV sl 16 c_v/\AV sl 17 (ae (j:Nat))/\j<=l.length) l.length ⟨I.refl _ _,by simp[q1,r,q4,q5,q6,q7,bo,Y]⟩ ?_
       rintro b3 k3-jU j sl3 qf ⟨D_,r1,r3,r4,r5,r6_,r7,RD,G1,r14,r15,r16,y,hj⟩ jg;by_cases bB:j<l.length;case' pos=>
        have ix:j<maxLen:=ω
        have⟨idc,offc,Io,T0,nc,tc,roc,ct,E,lc,Q,E4,oZ⟩:=(hci.fZ D_).gL bB
        have AP:ct=ae l[j]:=by have:[ct]=[ae l[j]]:=oZ;simpa using this
        subst AP
        have GN:∀g:Int->Bool,(l.take (j+1)).any g=((l.take j).any g||g l[j]):=λ g=>by rw[KK bB,List.any_append];simp
        have⟨vz,hk1'⟩:=hcg _ (cG bB)
        generalize l[j]=kz at vz hk1' E4 GN
        obtain⟨k,rfl⟩:∃k:Nat,kz=(k:Int):=⟨kz.toNat,ω⟩
        have eO:k<p.length:=ω
        have wk:=G.w.wd k eO
        have wTk:kA (T_W aD R k):=(kA.zero.or wk.1).or wk.2
        have g90:=g9.trans D_
        have T2:=T1.ai g90
        obtain⟨u0,hu0⟩:∃u0,u0=(l.take j).any λ k=>cC (T_W aD R k.toNat) o:=⟨_,rfl⟩
        obtain⟨d0,hd0⟩:∃d0,d0=(l.take j).any λ k=>cC (aD k.toNat) o:=⟨_,rfl⟩
        rw[<-hu0]at r14
        rw[<-hd0]at r15
        cases u0
        case' false=>
         simp[r3,G1,r14,r16,y,T2.get,a3,N,bB,E,lc.get,Q,E4,de bK]
         refine CW (G.w.tou qf g90 k eO) ?_
         rintro m2 K11 ⟨Jd,Ry⟩
         have hhT:=T9 Jd wTk o
        case' true=>
         have Ry:I [] qf qf:=I.refl _ _
         have hhT:True:=trivial
        all_goals
         have EM:=T2.ai Ry;have LB:=lc.ai Ry;cases d0;case' false=>
          repeat (first|simp[r3,G1,r14,r15,r16,y,EM.get,a3,N,bB,E,LB.get,Q,E4,de bK,cE hhT]|simp[r3,G1,r14,r15,r16,y,EM.get,a3,N,bB,E,LB.get,Q,E4,de bK]|refine dF (by simp[dA,dm,val,r3,G1,r14,r15,r16,y,EM.get,a3,E,LB.get,Q,E4]) ?_)
          refine CW (G.w.mod _ (g90.trans Ry) k eO) ?_
          rintro m3 XS ⟨Vh,lG⟩
          have hhN:=T9 Vh wk.1 o
          simp[G1,y,cE hhN,bq ix]
         case' true=>
          repeat (first|simp[r3,G1,r14,r15,r16,y,EM.get,a3,N,bB,E,LB.get,Q,E4,de bK,cE hhT,bq ix]|simp[r3,G1,r14,r15,r16,y,EM.get,a3,N,bB,E,LB.get,Q,E4,de bK,bq ix]|refine dF (by simp[dA,dm,val,r3,G1,r14,r15,r16,y,EM.get,a3,E,LB.get,Q,E4]) ?_)
          have lG:=I.refl [] qf
         all_goals refine jg ω ⟨?_,by simp[r1,r3,r4,r5,r6_,r7,RD,G1,r14,r15,r16,E,GN,<-hu0,<-hd0];omega⟩;first|exact D_.trans (Ry.trans lG)|exact D_.trans Ry
       case' neg=>
        obtain rfl:j=l.length:=ω
        subst jU
        rw[iF]at r14 r15
        rw[<-T5]at r14
        rw[<-B]at r15
        have U9:I [] C _:=g9.trans D_
        clear q1 r q4 q5 q6 q7 bo Y
        have q1:=r1
        have r:=r3
        have q4:=r4
        have q5:=r5
        have q6:=r6_
        have q7:=r7
        have bo:=RD
        have Y:=G1
        simp[r16,y,N]
        cases hub2:oM S VL eV aD R q o<;>cases hdb2:tB S VL eV aD q o
        all_goals rw[hub2]at r14;rw[hdb2]at r15;have J:=r14;have VF:=r15;have T5:=hub2;have B:=hdb2
     case' inr.inr.inr.inr=>
      have⟨Vi,U,e14,e10,e11⟩:=h
      have T5:oM S VL eV aD R q o=false:=by rw[hus,ao Vi,ao U,ao e14,ao ω]
      have B:tB S VL eV aD q o=false:=by rw[hds,ao U,ao ω]
      simp[Vi,U,e14,e10,e11,q7,VK.get,f0]
      have U9:I [] C C:=I.refl _ _
      have J:=trivial
      have VF:=trivial
     all_goals have lAZ:=T1.ai U9;have l6Z:=l68.ai U9;simp[r,q6,Y,J,VF,lAZ.get,a4,l6Z.get,bY r6];refine CW (VY (hz.W U9 ζ) (hT8.W U9) C3) ?_;rintro u K_U ⟨⟨As,w_U,hu,e_U⟩,gU⟩;have pf:=T9 hu w_U o;rw[e_U,T5]at pf;have lAU:=lAZ.ai gU;have l6U:=l6Z.ai gU;simp[r,q6,Y,J,VF,lAU.get,a4,l6U.get,bY r6,cE pf];refine CW (WT ((hz.W U9 ζ).W gU ζ) ((hT8.W U9).W gU) C3) ?_;rintro d K_D ⟨⟨bZ,w_D,hd,e_D⟩,g_D⟩;have ya:=T9 hd w_D o;rw[e_D,B]at ya;simp[Y,J,VF,cE ya,bq hom];exact eJ (o+1) _ _ ω ⟨(g8.trans U9).trans (gU.trans g_D),by simp[q1,r,q4,q5,q6,q7,bo];omega⟩
    .obtain rfl:o=S.of.length+S.p.length:=ω
     subst dO;simp[r,q5,Y,T1.get,a0,cE (jB C g8),bq jA];exact ih ω ⟨((gK.trans II).trans g7).trans g8,by simp[q1,r,q4];omega⟩
  .obtain rfl:i=S.a_.length:=ω
   subst cq;simp[s4,s5,de XD];have g2K:=g3.trans gK;refine CA (λ j sl C=>I [] K C/\AV sl 1 (.ptr H.ab 0)/\AV sl 3 (.ptr HN 0)/\AV sl 18 (ae ((j:Int)-1))/\j<=p.length+2) (p.length+2) ⟨I.refl _ _,by simp[s1,s3]⟩ ?_
   rintro b2 k2-dO j Hn C ⟨g8,q1,r,VU,hj⟩ eJ;have O:=g2K.trans g8;have T1:=lA.ai O;have G:=F.ai O;have l18:=l12.ai O;have hl8:=(Ms.zB O).aN nf;have QA:=F.np;by_cases bB:j<p.length+2
   .have Ex:(j:Int)-1<=(p.length:Int):=ω
    have ui:IntKind.wrap .i64 ((j:Int)-1+1)=((j+1:Nat):Int)-1:=by rw[fQ ω ω];omega
    obtain⟨aR,aG,Z6⟩:∃aR aG:BW,∀K,I [] C K->(CN 52 [.ptr pY 0,ae ((j:Int)-1)] K λ v T=>aW T 1 (One λ n=>ae n) v aR/\I [] K T)/\CN 53 [.ptr pY 0,ae ((j:Int)-1)] K λ v T=>aW T 1 (One λ n=>ae n) v aG/\I [] K T:=by
     by_cases hr:0<=(j:Int)-1/\(j:Int)-1<(p.length:Int)
     .have vv:(j:Int)-1=((j-1:Nat):Int):=ω
      rw[vv];exact⟨_,_,λ K g=>⟨G.w.tou K g (j-1) ω,G.w.mod K g (j-1) ω⟩⟩
     .refine⟨[],[],λ K g=>⟨(G.out K g _ hr).2.mono ?_,(G.out K g _ hr).1.mono ?_⟩⟩<;>(rintro v T ⟨rfl,rfl⟩;exact⟨.nil,I.refl _ _⟩)
    generalize hjz:(j:Int)-1=j_z at VU ui Ex Z6;simp[q1,r,VU,l18.get,hl8,Ex,T1.get,a3,a4];refine CW (ent_c G (Z6 _ (I.refl _ _)).1) ?_;rintro u1 K9 ⟨Vu,g9⟩;have lA9:=T1.ai g9;repeat (first|simp[r,VU,lA9.get,a3,a4]|refine dF (by simp[dA,dm,val,r,VU,lA9.get,a3,a4]) ?_)
    refine CW (Z6 _ g9).1 ?_;rintro u2 qf ⟨QK,D_⟩;have g80:=g9.trans D_;have T2:=lA9.ai D_;simp[r,VU,T2.get,a3,a4,cE (same_c (Vu.fZ D_) QK)];refine CW (exi_c (G.ai g80) (Z6 _ g80).2) ?_;rintro u3 K11 ⟨A5,Ry⟩;have g81:=g80.trans Ry;have EM:=T2.ai Ry;repeat (first|simp[r,VU,EM.get,a3,a4]|refine dF (by simp[dA,dm,val,r,VU,EM.get,a3,a4]) ?_)
    refine CW (Z6 _ g81).2 ?_;rintro u4 XS ⟨hu4,lG⟩;simp[VU,ui,cE (same_c (A5.fZ lG) hu4)];exact eJ ω ⟨(g8.trans g81).trans lG,by simp[q1,r];omega⟩
   .obtain rfl:j=p.length+2:=ω
    subst dO;have Ex:¬(p.length:Int)+2-1<=(p.length:Int):=ω
    simp[q1,VU,l18.get,hl8,Ex,cE (B2 _)];exact hQ rfl
theorem J6{α:Type}{f g:α->Nat}:∀(L:List α) (_:∀x∈L,f x<=g x),(L.map f).sum<=(L.map g).sum
 |[],_=>aF
 |a::L,h=>by
  have O:=h a ζ
  have U:=J6 L λ x Z=>h x (by simp[Z])
  simp only[kB,sr]
  omega
def aFo(p:List aQ):ij p<=OO p:=J6 (α:=aQ) p λ f _=>by
 have h:fL f.blocks<=(f.blocks.map Ic).sum:=J6 (α:=cU) f.blocks λ b _=>by
  have O:b.code.length<=(b.code.map zm).sum:=by
   have:=J6 (f:=λ _=>1) (g:=zm) b.code λ x _=>by unfold zm;omega
   rw[akW]at this;exact this
  show b.code.length<=(b.code.map zm).sum+1;omega
 show fL f.blocks<=(f.blocks.map Ic).sum+1;omega
def akA(hw:∀x,w x<=zm x)(p:List aQ):uK w p<=OO p:=J6 (α:=aQ) p λ f _=>by
 have h:vT w f.blocks<=(f.blocks.map Ic).sum:=J6 (α:=cU) f.blocks λ b _=>by have O:=J6 (f:=w) (g:=zm) b.code λ x _=>hw x;show(b.code.map w).sum<=(b.code.map zm).sum+1;omega
 show vT w f.blocks<=(f.blocks.map Ic).sum+1;omega
def axv{p:List aQ}(e:oO H v' p)(d:OO p<=1048576)(g:xn H):CN 11 [.agg [v']] H λ v _=>v=bl true:=lawY_c e (aY (aFo p) d) (aY (akA (λ x=>by unfold zm;omega) p) d) (aY (akA (λ x=>by unfold zm;omega) p) d) g
def ak7:Bool:=match H0.get 0 with
 |some (.cells 64 t _)=>(List.range 64).all λ j=>match t.get j with|some (.lit (.int .u8 n))=>n==((Lib.deBruijn64tab.getD j 0:Nat):Int)|_=>false
 |_=>false
theorem aFu:ak7=true:=κ
theorem aze:Nat.ble 1 H0.ab=true:=κ
def aFv:xn H0:=by
 have h:=aFu;unfold ak7 at h;split at h
 .rename_i t ro e;refine⟨t,ro,⟨OD aze,e⟩,λ j d=>?_⟩;have O:=yZ.1 h j (mj.2 d);split at O
  .rename_i n g;rw[g];have:n=((Lib.deBruijn64tab.getD j 0:Nat):Int):=by simpa using O
   rw[this]
  .cases O
 .cases h
def axu{w:bI}{bk:DataW ay->Nat}(z:BK bk)(t:yW w g_)(B:∀f∈FC,Kr Tryz.prog w f)(d:∀E,eW Tryz.prog E->(∀f n,E.Q.get f=some n->(f,n)∈yg++FC.map λ f=>(f,5))->Hz Tryz.prog E w){x:DataW ay×List MemPlace}(Z:DataW.trod enc Tryz.prog w 0 (λ _=>true) true b 24 xs.toList=some x)(y:bk x.1<=1048576):Calls Tryz.prog 11 #[.agg xs] w λ e w'=>e=.returned (.bool true)/\jG (λ _=>False) w w':=by
 have⟨ρ,hr⟩:=auO given (agl _) (auN _) t
 obtain⟨C,H1,p,l,r,A,i,h,⟨vf,rfl,u⟩,g⟩:=aps z b _ x Z ρ H0 hr
 exact an5 given (agl _) r (axv u (aY g y) (aFv.W i)) (.cons (.agg h) .nil) d
def aGB(w:World)(d:yW w g_):∀f∈FC,Kr Tryz.prog w f:=by
 intro f e;obtain rfl:f=58:=by simpa[FC]using e
 exact XA d λ w d=>Xl (ws:=[]) aGz (λ _=>.nil) w d (λ f h=>by cases h) (λ f h=>by cases h)
theorem aGA:∀f∈FC,∀args w,(callFunc f args).run Tryz.prog w=.ok (.enter f args) w:=by
 intro f d;obtain rfl:f=58:=by simpa[FC]using d
 exact enters_of Tryz.func58 κ rfl
end
end Go.Proofs.YtgipmaoplfkdoaaGreatDoor
