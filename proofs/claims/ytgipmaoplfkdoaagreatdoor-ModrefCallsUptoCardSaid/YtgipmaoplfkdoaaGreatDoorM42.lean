import Derived.Test.YtgipmaoplfkdoaaGreatDoorM41
import Derived.Test.YtgipmaoplfkdoaaGreatDoorWK19
set_option linter.all false
set_option maxRecDepth 100000
set_option maxHeartbeats 400000000
namespace Go.Proofs.YtgipmaoplfkdoaaGreatDoor
noncomputable section
open Go.RowKit
variable{H K:D}{S:SM}{f b j mid a dH p3 p4 m:Nat}{x:bp}{X:Fix}{L:nk}{V:SV}{aA ms mm:Nat->Nat}{v':J}{c:Nat->Nat×Nat}{aL:AT}{VL:Int->AT}{s:ByteArray}{t3 t4:CX}{ex:Bool}{au:Pt->BW}{w:bp->Nat}{ay:Type}{xs:Array aC}{enc:aS×aC->ay}
theorem ksT:(fq 29,())=(some Tryz.f29,()):=κ
def o29:=fe (jd ksT)
theorem smObjs{id:Nat}(h:lu H id S)(hf:uP S)(hp:S.p.length<=1048576):CN 29 [.ptr id 0] H λ v K=>K=H/\v=ae ((S.of.length+S.p.length:Nat):Int):=by refine ba o29 rfl λ Q' hQ=>?_;have⟨f1,f2,f3,f4,f5⟩:=hf;have hw:IntKind.wrap .i64 ((S.of.length:Int)+(S.p.length:Int))=(S.of.length:Int)+(S.p.length:Int):=fQ ω ω;simp[cE (DD h),cE (aEQ h),hw];exact hQ ⟨rfl,ζ⟩
noncomputable def B1(X:Fix)(V:SV)(q:Pt):BW:=match Js X.S.p q with|some x=>D4 X V q.1 x|none=>[]
theorem VG{p:List aQ}{i:Nat}(h:At p f b i x):∃hf:f<p.length,b<p[f].blocks.length:=by obtain⟨fn,bk,O,U,-⟩:=h;rw[cW]at O U;obtain⟨hf,rfl⟩:=O;exact⟨hf,U.1⟩
theorem fn_one{p:List aQ}(h:pF p){fn:aQ}(hf:fn∈p):1<=fL fn.blocks:=by
 have⟨f,hf⟩:=sq hf;have b6:¬Sl p λ _ x=>Bo x:=h 6 ω ω;have b10:¬(XR p\/jF p (wW p)):=h 10 ω ω;cases hb:fn.blocks with
 |nil=>exact absurd ⟨f,fn,hf,by simp[Bo,hb]⟩ b6
 |cons bk bs=>
  rw[aFn]
  cases hc:bk.code with|nil=>exact absurd (.inl ⟨f,0,fn,bk,hf,by rw[hb];rfl,hc⟩) b10|cons x l=>rw[qi];omega
theorem len_szF:∀(p:List aQ),(∀fn∈p,1<=fL fn.blocks)->p.length<=ij p
 |[],_=>Nat.le_refl _
 |fn::p,h=>by
  have:=len_szF p λ f hf=>h f (by simp[hf])
  have:=h fn ζ
  rw[aFp,qi];omega
theorem NB{α:Type}{g:α->Nat}:∀l:List α,(∀x∈l,g x=0)->(l.map g).sum=0
 |[],_=>rfl
 |x::l,h=>by
  have:=NB l λ y G=>h y (by simp[G])
  have:=h x ζ
  rw[kB,sr]
  omega
theorem sum1{α:Type}:∀l:List α,(l.map λ _=>0+1).sum=l.length
 |[]=>rfl
 |x::l=>by
  have:=sum1 l
  rw[kB,sr,qi]
  omega
theorem G5(p:List aQ):(bj p).a_.length=ij p:=by
 have O:=aCo p λ _=>0+1;have U:=akz (a:=λ _=>0) (c:=1) p;have F:uK (λ _=>0) p=0:=NB p λ f _=>NB f.blocks λ b _=>NB b.code λ _ _=>rfl;have h4:(bj p).a_.map (gw p λ _=>0+1)=(bj p).a_.map λ _=>0+1:=SZ λ q hq=>by have⟨x,Z⟩:=abx q hq;unfold gw;rw[V5 Z]
 rw[h4,sum1]at O;omega
theorem E4{p:List aQ}(hW:pF p)(hF:Fit p)(hA:HH p)(hL:SC p)(hM:lu H b (bj p))(hX:X.S=bj p)(hFX:An X)(hR:fM X H L V.first V)(fk:V.Ok (bJ (bj p)) X.N)(hN:X.N=X.S.vars.length+X.S.of.length):U9 H b L.a (bj p) (B1 X V):=by
 have hp:=pT p;have hn:=Sf hW;have cQ:∀{q:Pt} {x:bp},At p q.1 q.2.1 q.2.2 x->B1 X V q=D4 X V q.1 x:=λ {q x} h=>by
  have:Js X.S.p q=some x:=by rw[hX,hp];exact V5 h
  unfold B1;rw[this]
 refine⟨hM,agE hW,by rw[hp];exact hn.1,by rw[hp];exact hn.2,?_,?_,λ q hq=>?_,λ q hq=>?_,λ fn iw=>?_,λ q hq T g=>?_⟩
 .have O:=len_szF p λ fn iw=>fn_one hW iw;have F:=G5 p;omega
 .have F:=G5 p;have h4:=hF.sz;omega
 .have⟨x,Z⟩:=abx q hq;rw[hp];exact(VG Z).1
 .have⟨x,Z⟩:=abx q hq;rw[cQ Z,hp];unfold D4;split
  .refine⟨ζ,λ f hf=>?_⟩;obtain rfl:f=X.S.gP x.fn:=by simpa using hf
   rw[hX];exact atw hW _
  .split
   .refine⟨aY afW Sc,λ f hf=>?_⟩;unfold sy iY at hf;have⟨O,U⟩:=Oz.1 hf;obtain⟨o',F,rfl⟩:=jn.1 O;obtain⟨o,h4,rfl⟩:=jn.1 F;have h5:o<(bj p).of.length+(bj p).p.length:=fk.sn _ _ ((ayg fk hN).1 h4).2.2;rw[hp]at h5;simp only[v8,rK]at U;rw[hX]at U⊢;omega
   .simp
 .rw[hp]at iw;have⟨f,hf⟩:=sq iw;exact(Z7 hW hA hL hf).1
 .have⟨x,Z⟩:=abx q hq;rw[cQ Z];exact amC (hR.ai g) hFX (by rw[hX,hp];exact Z)
theorem LB:(fq 51,fq 116,fq 120,fq 52,fq 53,fq 54,fq 119,tq 81,tq 155,tq 157,())=(some Tryz.f51,some Tryz.f116,some Tryz.f120,some Tryz.f52,some Tryz.f53,some Tryz.f54,some Tryz.f119,some ⟨.pointer 157,1,8,[.lit (.pointer none)]⟩,some ⟨.slice 118,1,24,[.lit (.slice none 0 0)]⟩,some ⟨.struct #[⟨ "mod",155,0,false,"","gnomon/modref",0⟩,⟨ "ref",155,1,false,"","gnomon/modref",24⟩],2,48,[.lit (.slice none 0 0),.lit (.slice none 0 0)]⟩,()):=κ
def o51:=fe (jd LB)
def o116:=fe (jq LB)
def o120:=fe (jr LB)
def o52:=fe (js LB)
def o53:=fe (jt LB)
def o54:=fe (ju LB)
def o119:=fe (jv LB)
def tt81:=te (jw LB)
def tB:=te (jx LB)
def tt157:=te (jy LB)
theorem VO:(tq 158,pq 51 6,pq 51 15,pq 51 17,pq 51 30,pq 51 31,pq 52 3,())=(some ⟨.func #[3,9,118] #[] false,1,8,[.lit .nilFunc]⟩,some [.op 0,.op 1,.op 2,.op 3,.op 4,.op 5,.op 9,.op 10,.op 11,.op 12,.wr 6 [5,12],.op 7,.wr 8 [12],.wr 13 [12],.op 14,.wr 15 [],.op 16,.op 17,.wr 18 [],.op 19,.op 20,.wr 21 []],some [.op 0,.op 1,.op 2,.op 3,.op 4,.op 5,.op 6,.op 7,.op 8,.op 9,.op 10,.op 11,.op 12,.wr 13 []],some [.op 0,.op 1,.op 2,.op 3,.op 4,.op 5,.op 6,.op 7,.op 8,.op 9,.op 10,.op 11,.op 12,.wr 13 []],some [.op 0,.op 1,.op 2,.op 3,.op 4,.op 5,.op 6,.op 7,.op 8,.op 9,.op 10,.op 11,.op 12,.op 13,.wr 14 [],.op 15,.op 16,.op 17,.op 18],some [.op 0,.op 1,.op 2,.op 3,.op 4,.op 5,.op 6,.op 7,.op 8,.op 9,.op 10,.op 11,.op 12,.op 13,.wr 14 [],.op 15,.op 16,.op 17,.op 18],some [.op 0,.op 1,.op 2,.op 3,.op 4,.op 5,.op 6,.op 7,.op 8,.op 9,.op 10,.op 11,.op 12,.op 13,.op 14,.wr 15 [],.wr 16 [],.op 17],()):=κ
def tt158:=te (jd VO)
def w51a:=pe (jq VO)
def w51b:=pe (jr VO)
def w51c:=pe (js VO)
def w51d:=pe (jt VO)
def w51e:=pe (ju VO)
def w52:=pe (jv VO)
attribute [simp] tt81 tB tt157 tt158 w51a w51b w51c w51d w51e w52
structure hi(K:D)(k n:Nat)(c:Nat->Nat×Nat)(mv:J)(aL:List Nat)(ms mm:Nat->Nat)(aD:Nat->Nat->Nat):Prop where
 row:aX K 1 mv ((List.range n).map λ i=>J.ptr (ms i) 0) aL
 s:∀i,i<n->e_ K (ms i) (mm i) (aD i)
 GP:∀y∈aL,c y=(k,0)
 M:∀i,i<n->c (ms i)=(k+1,i)/\c (mm i)=(k+1,i)
section
variable{K T:D}{k n:Nat}{c c':Nat->Nat×Nat}{mv:J}{aL:AT}{ms mm:Nat->Nat}{aD:Nat->Nat->Nat}
theorem Gr(c:Nat->Nat×Nat)(N:Nat)(v:Nat×Nat):∃c1:Nat->Nat×Nat,(∀y,y<N->c1 y=c y)/\∀y,N<=y->c1 y=v:=⟨λ y=>if y<N then c y else v,λ y G=>aq G,λ y G=>ao ω⟩
theorem e_.Hk(h:e_ K f b aA):f<K.ab/\b<K.ab:=by obtain⟨t,a,-⟩:=h.ob;exact⟨a.lt,h.mp.lt⟩
theorem hi.W(h:hi K k n c mv aL ms mm aD){cL:AT}(dW:I cL K T)(hz:∀y∈cL,(c y).1≠k/\(c y).1≠k+1):hi T k n c mv aL ms mm aD:=⟨h.row.W dW λ y G B=>(hz y B).1 (by rw[h.GP y G]),λ i A=>(h.s i A).W dW (λ B=>(hz _ B).2 (by rw[(h.M i A).1])) (λ B=>(hz _ B).2 (by rw[(h.M i A).2])),h.GP,h.M⟩
theorem hi.RF(h:hi K k n c mv aL ms mm aD)(hc:∀y,y<K.ab->c' y=c y):hi K k n c' mv aL ms mm aD:=⟨h.row,h.s,λ y G=>(hc y (h.row.lt y G)).trans (h.GP y G),λ i A=>⟨(hc _ (h.s i A).Hk.1).trans (h.M i A).1,(hc _ (h.s i A).Hk.2).trans (h.M i A).2⟩⟩
theorem hi.put(h:hi K k n c mv aL ms mm aD)(A:f<n)(dW:I [ms f,mm f] K T)(hs:e_ T (ms f) (mm f) aA):hi T k n c mv aL ms mm (aM aD f aA):=by
 have hz:∀y∈[ms f,mm f],c y=(k+1,f):=λ y G=>by
  simp at G;rcases G with rfl|rfl
  .exact(h.M f A).1
  .exact(h.M f A).2
 refine⟨h.row.W dW λ y G B=>by have O:=h.GP y G;rw[hz y B]at O;simp at O,λ j hj=>?_,h.GP,h.M⟩;by_cases e:j=f
 .subst e;rw[fE];exact hs
 .rw[gG e];refine(h.s j hj).W dW (λ B=>?_) (λ B=>?_)
  .have O:=(h.M j hj).1;rw[hz _ B]at O;simp at O;exact e O.symm
  .have O:=(h.M j hj).2;rw[hz _ B]at O;simp at O;exact e O.symm
theorem hi.push(h:hi K k n c mv aL ms mm aD)(hs:e_ K f b aA)(hc:c f=(k+1,n)/\c b=(k+1,n)){ids':AT}(dW:I aL K H)(ho:aX H 1 v' (((List.range n).map λ i=>J.ptr (ms i) 0)++[.ptr f 0]) ids')(A:∀y∈ids',y∈aL\/K.ab<=y)(q1:∀y,y<K.ab->c' y=c y)(q2:∀y,K.ab<=y->c' y=(k,0)):hi H k (n+1) c' v' ids' (aM ms n f) (aM mm n b) (aM aD n aA):=by
 have hY:∀{y i:Nat},c y=(k+1,i)->y∉aL:=λ O B=>by have U:=h.GP _ B;rw[O]at U;simp at U
 refine⟨?_,λ i dJ=>?_,λ y G=>?_,λ i dJ=>?_⟩
 .have e:((List.range (n+1)).map λ i=>J.ptr (aM ms n f i) 0)=((List.range n).map λ i=>J.ptr (ms i) 0)++[.ptr f 0]:=by
   rw[YK,lF];congr 1
   .refine SZ λ i A=>?_;rw[gG (by have:=mj.1 A;omega)]
   .simp[fE]
  rw[e];exact ho
 .by_cases e:i=n
  .subst e;rw[fE,fE,fE];exact hs.W dW (hY hc.1) (hY hc.2)
  .rw[gG e,gG e,gG e];have az:i<n:=ω
   exact(h.s i az).W dW (hY (h.M i az).1) (hY (h.M i az).2)
 .rcases A y G with w|w
  .exact(q1 _ (h.row.lt y w)).trans (h.GP y w)
  .exact q2 y w
 .by_cases e:i=n
  .subst e;rw[fE,fE];exact⟨(q1 _ hs.Hk.1).trans hc.1,(q1 _ hs.Hk.2).trans hc.2⟩
  .rw[gG e,gG e];have az:i<n:=ω
   exact⟨(q1 _ (h.s i az).Hk.1).trans (h.M i az).1,(q1 _ (h.s i az).Hk.2).trans (h.M i az).2⟩
theorem hi.at_(h:hi K k n c mv aL ms mm aD){i:Nat}(A:i<n):∃id ax ex t,mv=.sl id 0 1 n ax ex/\Lv K id (.cells ax t false)/\t.get i=some (.ptr (ms i) 0)/\i<ax:=by obtain⟨id,ax,ex,t,e1,-,l,hg,aU,-,-⟩:=h.row.uC ξ;simp at e1 aU;refine⟨id,ax,ex,t,e1,l,?_,ω⟩;rw[hg i (by simpa using A)];simp[A]
end
def B2(aA V:Nat->Nat):Prop:=∀o,cC aA o=true->cC V o=true
structure T6(aR aG:Nat->Nat)(b:Bool)(aA:Nat->Nat):Prop where
 f:b=false->aA=aR/\B2 aG aR
 t:b=true->nR aR<nR aA
 m:∀o,cC aA o=true->cC aR o=true\/cC aG o=true
 e:b=true\/aA=aR
theorem G4{n:Nat}{aD:Nat->Nat->Nat}(h:hi H f n c v' aL ms mm aD){i:Nat}(A:i<n)(hj:j<n):CN 118 [.ptr (ms i) 0,.ptr (ms j) 0] H λ v T=>∃(b:Bool) (aA:Nat->Nat),v=bl b/\e_ T (ms i) (mm i) aA/\I [ms i,mm i] H T/\T6 (aD i) (aD j) b aA:=by
 have hd:(ms j≠ms i/\ms j≠mm i/\mm j≠ms i/\mm j≠mm i)\/(ms j=ms i/\mm j=mm i/\aD j=aD i):=by
  by_cases e:j=i
  .subst e;exact .inr ⟨rfl,rfl,rfl⟩
  .have cR:∀{x y:Nat},c x=(f+1,j)->c y=(f+1,i)->x≠y:=λ {x y} O U e2=>by rw[e2,U]at O;simp at O;exact e O.symm
   have ci:=h.M i A;have c_j:=h.M j hj;exact .inl ⟨cR c_j.1 ci.1,cR c_j.1 ci.2,cR c_j.2 ci.1,cR c_j.2 ci.2⟩
 refine(unG (h.s i A) (h.s j hj) hd).mono ?_;rintro v T ⟨rfl,O,U⟩;have wi:=(h.s i A).wd;have w_j:=(h.s j hj).wd;refine⟨_,_,rfl,O,U,λ hf=>?_,λ ht=>Tj ht,λ o ho=>by rw[uk,xt]at ho;exact ho,?_⟩
 .have hg:=of_decide_eq_false hf;refine⟨abJ wi w_j hg,λ o ho=>?_⟩;cases hb:cC (aD i) o with|true=>rfl|false=>exact absurd ((atH wi w_j).2 ⟨o,ho,hb⟩) hg
 .by_cases hg:zA (aD i) (aD j)
  .exact .inl (Ti hg)
  .exact .inr (abJ wi w_j hg)
noncomputable def LF(aD:Nat->Nat->Nat)(n:Nat):Nat:=SV.m_ (λ i=>4194304-nR (aD i)) n
theorem EH{aD:Nat->Nat->Nat}{i:Nat}{b:Bool}(A:i<j)(h:T6 (aD i) ms b aA):LF (aM aD i aA) j+(if b=true then 1 else 0)<=LF aD j:=by
 have e:LF (aM aD i aA) j=SV.m_ (aM (λ i=>4194304-nR (aD i)) i (4194304-nR aA)) j:=by refine SV.NV j λ x _=>?_;unfold aM;split<;>rfl
 have e2:=SV.J0 (f:=λ i=>4194304-nR (aD i)) (k:=i) (x:=4194304-nR aA) j A;rw[e];unfold LF;have b1:=ad9 aA;cases b with
 |true=>have:=h.t rfl;simp only[qk];omega
 |false=>rw[(h.f rfl).1]at e2⊢;simp;omega
structure CP(aG n:Nat)(gk:Nat->List Int)(aD R M2 R2:Nat->Nat->Nat)(b:Bool)(i t:Nat):Prop where
 eq:b=false->M2=aD/\R2=R/\∀f (k:Int),f<i/\k∈gk f\/f=i/\k∈(gk i).take t->B2 (aD k.toNat) (aD f)/\B2 (R k.toNat) (R f)
 lt:b=true->LF M2 n+LF R2 n<LF aD n+LF R n
 b_M:∀i o,cC (M2 i) o=true->o<aG
 b_R:∀i o,cC (R2 i) o=true->o<aG
theorem CP.step{aG n:Nat}{gk:Nat->BW}{aD R M2 R2:Nat->Nat->Nat}{b b1 b2:Bool}{i t:Nat}{W_1 W_2:Nat->Nat}(h:CP aG n gk aD R M2 R2 b i t)(A:i<n)(ht:t<(gk i).length)(O:T6 (M2 i) (M2 ((gk i)[t]).toNat) b1 W_1)(U:T6 (R2 i) (R2 ((gk i)[t]).toNat) b2 W_2):CP aG n gk aD R (aM M2 i W_1) (aM R2 i W_2) (b2||(b1||b)) i (t+1):=by
 have m1:=EH A O;have m2:=EH A U;refine⟨λ e=>?_,λ e=>?_,λ x o ho=>?_,λ x o ho=>?_⟩
 .simp only[HQ]at e;have⟨e2,e1,e0⟩:=e;have⟨a1,a2,a3⟩:=h.eq e0;have⟨c1,c2⟩:=O.f e1;have⟨d1,d2⟩:=U.f e2;rw[c1,d1,alC,alC];refine⟨a1,a2,λ f k Q=>?_⟩;rcases Q with Q|⟨rfl,Q⟩
  .exact a3 f k (.inl Q)
  .rw[KK ht,b_]at Q;rcases Q with Q|Q
   .exact a3 f k (.inr ⟨rfl,Q⟩)
   .have:k=(gk f)[t]:=by simpa using Q
    subst this;rw[<-a1,<-a2];exact⟨c2,d2⟩
 .cases b with
  |true=>
   have:=h.lt rfl
   omega
  |false=>
   obtain⟨a1,a2,-⟩:=h.eq rfl
   rw[<-a1,<-a2]
   cases b1<;>cases b2<;>simp at e m1 m2<;>omega
 .unfold aM at ho;split at ho
  .exact(O.m o ho).elim (h.b_M _ o) (h.b_M _ o)
  .exact h.b_M x o ho
 .unfold aM at ho;split at ho
  .exact(U.m o ho).elim (h.b_R _ o) (h.b_R _ o)
  .exact h.b_R x o ho
structure ModW(H:D)(mid a dH:Nat)(S:SM)(VL:Int->List Nat)(dW:List (List Int)):Prop where
 mp:lu H mid S
 nD:uP S
 n0:0<S.p.length
 n1:S.p.length<=64
 p0:0<S.a_.length
 ins:∀q∈S.a_,q.1<S.p.length/\∃x,At S.p q.1 q.2.1 q.2.2 x/\x.args.length<=1048576/\x.eh.length<=1048576
 var:∀K,I [] H K->∀v:Int,CN 19 [.ptr a 0,ae v] K λ u T=>(∃aL,aX T 1 u (aZ (iY (VL v))) aL/\∀y∈aL,K.ab<=y)/\I [] K T
 vlt:∀v,∀o∈VL v,o<4194304
 gra:∀K,I [] H K->CN 43 [.ptr dH 0] K λ v T=>GI K.ab T v dW/\I [] K T
 gl:dW.length=S.p.length
 ge:∀l∈dW,∀f∈l,0<=f/\f<S.p.length
structure fr(H:D)(n pY:Nat)(K:D)(c:Nat->Nat×Nat)(mv rv:J)(hy Yr:List Nat)(ms mm rs rm:Nat->Nat)(aD R:Nat->Nat->Nat):Prop where
 ob:∃t,Lv K pY (.cells 2 t false)/\AV t 0 mv/\AV t 1 rv
 m:hi K 1 n c mv hy ms mm aD
 r:hi K 3 n c rv Yr rs rm R
 c5:c pY=(5,0)
 low:∀y,y<H.ab->c y=(0,0)
 base:I [] H K
section
variable{H K T:D}{n pY:Nat}{c c':Nat->Nat×Nat}{mv rv:J}{hy Yr:AT}{ms mm rs rm:Nat->Nat}{aD R:Nat->Nat->Nat}
theorem fr.lo(h:fr H n pY K c mv rv hy Yr ms mm rs rm aD R)(G:(c f).1≠0):H.ab<=f:=by
 rcases kb f H.ab with q|q
 .rw[h.low f q]at G;exact absurd rfl G
 .exact q
theorem fr.W(h:fr H n pY K c mv rv hy Yr ms mm rs rm aD R){cL:AT}(dW:I cL K T)(hz:∀y∈cL,6<=(c y).1):fr H n pY T c mv rv hy Yr ms mm rs rm aD R:=by have⟨t,a,b⟩:=h.ob;exact⟨⟨t,a.W dW (λ B=>by have:=hz _ B;rw[h.c5]at this;simp at this),b⟩,h.m.W dW λ y G=>by have:=hz y G;omega,h.r.W dW λ y G=>by have:=hz y G;omega,h.c5,h.low,ke h.base dW λ y G=>h.lo (by have:=hz y G;omega)⟩
theorem fr.RF(h:fr H n pY K c mv rv hy Yr ms mm rs rm aD R)(hc:∀y,y<K.ab->c' y=c y):fr H n pY K c' mv rv hy Yr ms mm rs rm aD R:=by have⟨t,a,b⟩:=h.ob;exact⟨⟨t,a,b⟩,h.m.RF hc,h.r.RF hc,(hc _ a.lt).trans h.c5,λ y G=>(hc y (aT G h.base.ab)).trans (h.low y G),h.base⟩
theorem fr.putM(h:fr H n pY K c mv rv hy Yr ms mm rs rm aD R)(A:f<n)(dW:I [ms f,mm f] K T)(hs:e_ T (ms f) (mm f) aA):fr H n pY T c mv rv hy Yr ms mm rs rm (aM aD f aA) R:=by
 have hz:∀y∈[ms f,mm f],c y=(2,f):=λ y G=>by
  simp at G;rcases G with rfl|rfl
  .exact(h.m.M f A).1
  .exact(h.m.M f A).2
 have⟨t,a,b⟩:=h.ob;exact⟨⟨t,a.W dW (λ B=>by have:=hz _ B;rw[h.c5]at this;cases this),b⟩,h.m.put A dW hs,h.r.W dW λ y G=>by rw[hz y G];simp,h.c5,h.low,ke h.base dW λ y G=>h.lo (by rw[hz y G];simp)⟩
theorem fr.putR(h:fr H n pY K c mv rv hy Yr ms mm rs rm aD R)(A:f<n)(dW:I [rs f,rm f] K T)(hs:e_ T (rs f) (rm f) aA):fr H n pY T c mv rv hy Yr ms mm rs rm aD (aM R f aA):=by
 have hz:∀y∈[rs f,rm f],c y=(4,f):=λ y G=>by
  simp at G;rcases G with rfl|rfl
  .exact(h.r.M f A).1
  .exact(h.r.M f A).2
 have⟨t,a,b⟩:=h.ob;exact⟨⟨t,a.W dW (λ B=>by have:=hz _ B;rw[h.c5]at this;cases this),b⟩,h.m.W dW λ y G=>by rw[hz y G];simp,h.r.put A dW hs,h.c5,h.low,ke h.base dW λ y G=>h.lo (by rw[hz y G];simp)⟩
end
def oI(aG:Nat)(aA:Nat->Nat)(l:AT):Nat->Nat:=l.foldl (λ aA o=>if o<aG then fT aA (nN o)else aA) aA
theorem VE{dW:List BW}(hW:ModW H mid a dH S VL dW)(g0:I [] H K){id:Nat}(l3:Lv K p3 (.cells 1 t3 false))(e3:AV t3 0 (.ptr mid 0))(l4:Lv K p4 (.cells 1 t4 false))(e4:AV t4 0 (.ptr a 0))(hB:e_ K id m aA)(n3:p3≠id/\p3≠m)(bD:H.ab<=id/\H.ab<=m):CN 116 [ae (f:Nat),str s,.ptr id 0,.ptr p3 0,.ptr p4 0] K λ _ T=>e_ T id m (oI S.of.length aA (VL (S.aV f s)))/\I [id,m] K T:=by
 refine ba o116 rfl λ Q' hQ=>?_
 simp[l3.get,e3]
 refine CW (Xt (hW.mp.W g0) _ _) ?_
 rintro _ K1 ⟨⟨b,rfl⟩,g1⟩
 have l41:=l4.ai g1
 simp[l41.get,e4]
 refine CW (hW.var K1 (g0.trans g1) _) ?_
 rintro u K2 ⟨⟨aL,hu,hY⟩,g2⟩
 have bm:=hW.vlt (S.aV f s)
 generalize VL (S.aV f s)=l at hu bm hQ⊢
 have bA:=hu.aZ.aN bK
 have sJ:=hu.aZ.cP
 have pP:(iY l).length=l.length:=bW _
 rw[pP]at bA sJ
 simp[bA]
 have hB2:=(hB.W g1 ζ ζ).W g2 ζ ζ
 have l32:=(l3.ai g1).ai g2
 have hnB:=hB.Hk
 have rQ:=g1.ab
 refine CA (λ j sl K3=>e_ K3 id m (oI S.of.length aA (l.take j))/\I [id,m] K2 K3/\AV sl 2 (.ptr id 0)/\AV sl 3 (.ptr p3 0)/\AV sl 21 u/\AV sl 22 (ae (l.length:Nat))/\AV sl 23 (ae (j:Nat))/\j<=l.length) l.length ⟨by simpa[oI]using hB2,I.refl _ _,ζ⟩ ?_
 rintro b1 k1-cq j sl K3 ⟨hB3,g3,s2,s3,jY,fu,dx,hj⟩ ih
 by_cases bB:j<l.length
 .have ix:j<maxLen:=ω
  have hjn':j<(iY l).length:=by rw[pP];exact bB
  obtain⟨lJ,ah,ax,ex,n,t,ro,c,rfl,hl,aU,bU,oZ⟩:=(hu.W g3 λ y G B=>by have:=hY y G;simp at B;omega).aZ.gL hjn';have hc:c=ae (l[j]:Nat):=by have:[c]=[ae (iY l)[j]]:=oZ;simpa[iY]using this
  subst hc;have hom:=bm _ (cG bB);have l33:=l32.W g3 (by simp;exact n3);have hM3:lu K3 mid S:=hW.mp.W (ke ((g0.trans g1).trans g2) g3 (by simp;exact bD));have eH:oI S.of.length aA (l.take (j+1))=if l[j]<S.of.length then fT (oI S.of.length aA (l.take j)) (nN l[j])else oI S.of.length aA (l.take j):=by unfold oI;rw[KK bB,ae8];rfl
  by_cases ho:l[j]<S.of.length
  .rw[aq ho]at eH;simp[s2,s3,jY,fu,dx,bB,hl.get,aU,bU,l33.get,e3,cE (DD hM3),ho];refine CW (aeS hB3 hom) ?_;rintro _ K4 ⟨rfl,hB4,g4⟩;simp[dx,bq ix];exact ih ω ⟨by rw[eH];exact hB4,g3.trans g4,by simp[s2,s3,jY,fu];omega⟩
  .rw[ao ho]at eH;simp[s3,jY,fu,dx,bB,hl.get,aU,bU,l33.get,e3,cE (DD hM3),ho,bq ix];exact ih ω ⟨by rw[eH];exact hB3,g3,by simp[s2,s3,jY,fu];omega⟩
 .obtain rfl:j=l.length:=ω
  subst cq;rw[iF]at hB3;simp[fu,dx];exact hQ ⟨hB3,(g1.trans g2|>.mono ζ).trans g3⟩
def VC(S:SM)(VL:Int->AT)(x:(Nat->Nat->Nat)×(Nat->Nat->Nat))(q:Pt):(Nat->Nat->Nat)×(Nat->Nat->Nat):=match Js S.p q with|none=>x|some i=>if i.op=9 then(aM x.1 q.1 (oI S.of.length (x.1 q.1) (VL (S.aV q.1 i.b))),x.2)else if i.op=8 then(x.1,aM x.2 q.1 (oI S.of.length (x.2 q.1) (VL (S.aV q.1 i.a))))else x
def G7(S:SM)(VL:Int->AT)(j:Nat):(Nat->Nat->Nat)×(Nat->Nat->Nat):=(S.a_.take j).foldl (VC S VL) (λ _ _=>0,λ _ _=>0)
theorem PT(hj:j<S.a_.length):G7 S VL (j+1)=VC S VL (G7 S VL j) S.a_[j]:=by unfold G7;rw[KK hj,ae8];rfl
theorem EK{aG:Nat}:∀(l:AT) {aA:Nat->Nat},(∀o,cC aA o=true->o<aG)->∀o,cC (oI aG aA l) o=true->o<aG
 |[],_,h=>h
 |x::l,aA,h=>by
  unfold oI
  rw[DV]
  refine EK l λ o ho=>?_
  split at ho
  .rename_i Z
   rw[uk,xt,GU,rK]at ho;rcases ho with ho|rfl
   .exact h o ho
   .exact Z
  .exact h o ho
theorem VB{S:SM}{VL:Int->AT}:∀(L:List Pt) (x:(Nat->Nat->Nat)×(Nat->Nat->Nat)),(∀i o,cC (x.1 i) o=true->o<S.of.length)/\(∀i o,cC (x.2 i) o=true->o<S.of.length)->(∀i o,cC ((L.foldl (VC S VL) x).1 i) o=true->o<S.of.length)/\∀i o,cC ((L.foldl (VC S VL) x).2 i) o=true->o<S.of.length
 |[],_,h=>h
 |q::L,x,h=>by
  rw[DV]
  refine VB L _ ?_
  have key:∀{aD:Nat->Nat->Nat} {l:AT},(∀i o,cC (aD i) o=true->o<S.of.length)->∀i o,cC (aM aD q.1 (oI S.of.length (aD q.1) l) i) o=true->o<S.of.length:=λ {aD l} h i o ho=>by
   unfold aM at ho;split at ho
   .exact EK l (h q.1) o ho
   .exact h i o ho
  unfold VC
  split
  .exact h
  .split
   .exact⟨key h.1,h.2⟩
   .split
    .exact⟨h.1,key h.2⟩
    .exact h
structure oM(H:D)(n aG pY:Nat)(K:D)(dW:List (List Int))(aD R:Nat->Nat->Nat):Prop where
 ex:∃c mv rv hy Yr ms mm rs rm,fr H n pY K c mv rv hy Yr ms mm rs rm aD R
 cl:∀f,f<n->∀k∈dW.getD f [],B2 (aD k.toNat) (aD f)/\B2 (R k.toNat) (R f)
 b_M:∀i o,cC (aD i) o=true->o<aG
 b_R:∀i o,cC (R i) o=true->o<aG
theorem C2{dW:List BW}(hW:ModW H mid a dH S VL dW):CN 51 [.ptr mid 0,.ptr a 0,.ptr dH 0] H λ v K=>∃pY aD R,v=.ptr pY 0/\oM H S.p.length S.of.length pY K dW aD R:=by
 refine ba o51 rfl λ Q' hQ=>?_;have C':=hW.n0;have rQ:=hW.n1;simp;refine CW (aEQ (hW.mp.W ((((I.refl [] H).add _).add _).add _))) ?_;rintro _ K0 ⟨rfl,rfl⟩;simp;generalize ed:D.add _ _=K1;have g1:I [] H K1:=by rw[<-ed];exact(((I.refl [] H).add _).add _).add _
 have n1:K1.ab=H.ab+1+1+1:=by rw[<-ed];rfl
 have l3:∃t,Lv K1 H.ab (.cells 1 t false)/\AV t 0 (.ptr mid 0):=by rw[<-ed];exact⟨_,(Lv.new.add).add,ζ⟩
 have l4:∃t,Lv K1 (H.ab+1) (.cells 1 t false)/\AV t 0 (.ptr a 0):=by rw[<-ed];exact⟨_,(Lv.new (H:=H.add _)).add,ζ⟩
 have ls:∃t,Lv K1 (H.ab+1+1) (.cells 2 t false)/\AV t 0 Dp/\AV t 1 Dp:=by rw[<-ed];exact⟨_,Lv.new (H:=(H.add _).add _),ζ⟩
 clear ed;have⟨t3,l3,e3⟩:=l3;have⟨t4,l4,e4⟩:=l4;have IW:fr H 0 (H.ab+1+1) K1 (λ y=>if y<H.ab then(0,0)else if y=H.ab+1+1 then(5,0)else(6,0)) Dp Dp [] [] (λ _=>0) (λ _=>0) (λ _=>0) (λ _=>0) (λ _ _=>0) (λ _ _=>0):=⟨ls,⟨by simpa using aX.nil,λ i A=>ω,ζ,λ i A=>ω⟩,⟨by simpa using aX.nil,λ i A=>ω,ζ,λ i A=>ω⟩,by simp<;>omega,λ y G=>aq G,g1⟩;have wE:(λ y=>if y<H.ab then((0:Nat),(0:Nat))else if y=H.ab+1+1 then(5,0)else(6,0)) H.ab=(6,0)/\(λ y=>if y<H.ab then((0:Nat),(0:Nat))else if y=H.ab+1+1 then(5,0)else(6,0)) (H.ab+1)=(6,0):=by simp<;>omega
 generalize(λ y=>if y<H.ab then((0:Nat),(0:Nat))else if y=H.ab+1+1 then(5,0)else(6,0))=c0 at IW wE;refine CA (λ j sl K=>(∃c mv rv hy Yr ms mm rs rm,fr H j (H.ab+1+1) K c mv rv hy Yr ms mm rs rm (λ _ _=>0) (λ _ _=>0)/\c H.ab=(6,0)/\c (H.ab+1)=(6,0))/\Lv K H.ab (.cells 1 t3 false)/\Lv K (H.ab+1) (.cells 1 t4 false)/\AV sl 2 (.ptr dH 0)/\AV sl 3 (.ptr H.ab 0)/\AV sl 4 (.ptr (H.ab+1) 0)/\AV sl 7 (.ptr (H.ab+1+1) 0)/\AV sl 32 (ae (S.p.length:Nat))/\AV sl 33 (ae (j:Nat))/\j<=S.p.length) S.p.length ⟨⟨c0,_,_,_,_,_,_,_,_,IW,wE.1,wE.2⟩,l3,l4,ζ⟩ ?_
 rintro b1 k1-cq j sl K ⟨⟨c,mv,rv,hy,Yr,ms,mm,rs,rm,hS,Ej,Qh⟩,l3,l4,s2,s3,s4,s7,jZ,Br,hj⟩ ih;by_cases bB:j<S.p.length
 .have ix:j<maxLen:=by unfold maxLen;omega
  have⟨t,lo,f0,f1⟩:=hS.ob;simp[s7,jZ,Br,bB,lo.get,f0,f1];refine CW (WI (l:=[]) .nil ζ) ?_;rintro _ K2 ⟨kQ,m1,rfl,hB1,b11,b12,g2⟩;replace hB1:e_ K2 kQ m1 (λ _=>0):=hB1;have lo2:=lo.ai g2;simp;refine dF (by simp[dA,dm,val,lo2.get,f0,f1,hS.m.row.fy,hS.r.row.fy]) ?_;simp[-cX];have om2:=hS.m.row.W g2 ζ;have bA:((List.range j).map λ i=>J.ptr (ms i) 0).length<=64:=by rw[bW,Aw];omega
  have Qw:((List.range j).map λ i=>J.ptr (rs i) 0).length<=64:=by rw[bW,Aw];omega
  refine vL (c:=.ptr kQ 0) tB aFH om2 rfl ω ω ?_;intro v1 K3 ids1 p1 p2 p3;have⟨c1,a1,a2⟩:=Gr c K.ab (2,j);have iW:=g2.ab;have Jd:=(hS.m.RF a1).W g2 ζ;have mY:=(hS.r.RF a1).W g2 ζ;have⟨c2,d1,d2⟩:=Gr c1 K2.ab (1,0);have Vh:=Jd.push hB1 ⟨a2 _ b11,a2 _ b12⟩ p2 p1 p3 d1 d2;have hY1:∀y∈hy,c2 y=(1,0):=λ y G=>(d1 y (Jd.row.lt y G)).trans (Jd.GP y G);have oi:=(mY.RF d1).W p2 λ y G=>by rw[hY1 y G];simp
  have ES:c2 (H.ab+1+1)=(5,0):=(d1 _ lo2.lt).trans ((a1 _ lo.lt).trans hS.c5);have Nj:=lo2.W p2 λ B=>by have h9:=hY1 _ B;rw[ES]at h9;cases h9
  simp;refine dF (by simp[dA,dm,val,Nj.get,f1,hS.r.row.fy]) ?_;simp;refine CW (WI (l:=[]) .nil ζ) ?_;rintro _ K4 ⟨lJ,m2,rfl,hB2,b21,b22,g4⟩;replace hB2:e_ K4 lJ m2 (λ _=>0):=hB2;have⟨c3,O,U⟩:=Gr c2 K3.ab (4,j);have wK:=p2.ab;have Vl:=g4.ab;have hm4:=(Vh.RF O).W g4 ζ;have hr4:=(oi.RF O).W g4 ζ;have lo4:=Nj.ai g4;simp;refine dF (by simp[dA,dm,val,lo4.get,f1,hS.r.row.fy]) ?_;simp[-cX];refine vL (c:=.ptr lJ 0) tB aFH hr4.row rfl ω ω ?_;intro v2 K5 wP r1 r2 r3;have⟨c4,j1,j2⟩:=Gr c3 K4.ab (3,0);have hr5:=hr4.push hB2 ⟨U _ b21,U _ b22⟩ r2 r1 r3 j1 j2;have Gt:∀y∈Yr,c4 y=(3,0):=λ y G=>(j1 y (hr4.row.lt y G)).trans (hr4.GP y G);have hm5:=(hm4.RF j1).W r2 λ y G=>by rw[Gt y G];simp
  have hsc:c4 (H.ab+1+1)=(5,0):=(j1 _ lo4.lt).trans ((O _ Nj.lt).trans ES);have lo5:=lo4.W r2 λ B=>by have h9:=Gt _ B;rw[hsc]at h9;cases h9
  have hn5:=r2.ab;have Em:∀y,y<K.ab->c4 y=c y:=λ y G=>(j1 y ω).trans ((O y ω).trans ((d1 y ω).trans (a1 y G)));have hx3:c4 H.ab=(6,0):=(Em _ l3.lt).trans Ej;have hx4:c4 (H.ab+1)=(6,0):=(Em _ l4.lt).trans Qh;have n1:∀{y:Nat},y<K.ab->c y=(6,0)->y∉hy/\y∉Yr:=λ {y} G h6=>⟨(λ B=>by have h9:=hS.m.GP y B;rw[h6]at h9;cases h9),(λ B=>by have h9:=hS.r.GP y B;rw[h6]at h9;cases h9)⟩;have l3':=(((l3.ai g2).W p2 (n1 l3.lt Ej).1).ai g4).W r2 (n1 l3.lt Ej).2;have l4':=(((l4.ai g2).W p2 (n1 l4.lt Qh).1).ai g4).W r2 (n1 l4.lt Qh).2;have hb5:I [] H K5:=ke ((ke (hS.base.trans g2) p2 λ y G=>hS.lo (by rw[hS.m.GP y G];simp)).trans g4) r2 λ y G=>hS.lo (by rw[hS.r.GP y G];simp);simp[p1.cell,p1.co];try (refine dF (by simp[dA,dm]) ?_)
  simp[Br,lo5.get,r1.cell,r1.co,bq ix];have hu:aM (λ _:Nat=>λ _:Nat=>0) j (λ _=>0)=λ _ _=>0:=by funext i;unfold aM;split<;>rfl
  rw[hu]at hm5 hr5;generalize La:D.put _ _ _=K6;have g6:I [H.ab+1+1] K5 K6:=by rw[<-La];exact((I.refl _ _).put (.inr ζ)).put (.inr ζ)
  have lo6:∃t,Lv K6 (H.ab+1+1) (.cells 2 t false)/\AV t 0 v1/\AV t 1 v2:=by rw[<-La];exact⟨_,(lo5.put_eq).put_eq,ζ⟩
  clear La;have hz:∀y∈[H.ab+1+1],c4 y=(5,0):=λ y G=>by
   have:y=H.ab+1+1:=by simpa using G
   rw[this];exact hsc
  exact ih ω ⟨⟨c4,v1,v2,ids1,wP,_,_,_,_,⟨lo6,hm5.W g6 λ y G=>by rw[hz y G];simp,hr5.W g6 λ y G=>by rw[hz y G];simp,hsc,λ y G=>(Em y (aT G hS.base.ab)).trans (hS.low y G),ke hb5 g6 (by simp<;>omega)⟩,hx3,hx4⟩,l3'.W g6 (by simp<;>omega),l4'.W g6 ζ,by simp[s2,s3,s4,s7,jZ];omega⟩
 .obtain rfl:j=S.p.length:=ω
  subst cq;simp[s3,s4,jZ,Br,l3.get,e3];refine CW (aER (hW.mp.W hS.base) hW.nD) ?_;rintro pv K2 ⟨hP,AW,g2⟩;obtain⟨pid,AH,G6,pex,pn,pt,pro,rfl,lpt,mC,qy,hpc,nJ⟩:=hP.full hW.p0;have X4:K.ab<=pid:=AW _ _ _ _ _ _ rfl;have⟨c1,a1,a2⟩:=Gr c K.ab (6,0);have hS2:=(hS.RF a1).W g2 ζ;have aIo:=hW.nD.2.2.2.2;have l32:=l3.ai g2;have l42:=l4.ai g2;have y3:=(a1 _ l3.lt).trans Ej;have y4:=(a1 _ l4.lt).trans Qh;have y5:=a2 pid X4;simp[de XD];refine CA (λ j sl K=>(∃c,fr H S.p.length (H.ab+1+1) K c mv rv hy Yr ms mm rs rm (G7 S VL j).1 (G7 S VL j).2/\c H.ab=(6,0)/\c (H.ab+1)=(6,0)/\c pid=(6,0))/\Lv K H.ab (.cells 1 t3 false)/\Lv K (H.ab+1) (.cells 1 t4 false)/\Lv K pid (.cells pn pt pro)/\AV sl 2 (.ptr dH 0)/\AV sl 3 (.ptr H.ab 0)/\AV sl 4 (.ptr (H.ab+1) 0)/\AV sl 7 (.ptr (H.ab+1+1) 0)/\AV sl 8 (.fn (.func 116) [] [.ptr H.ab 0,.ptr (H.ab+1) 0])/\AV sl 58 (.sl pid AH 3 S.a_.length G6 pex)/\AV sl 59 (ae (S.a_.length:Nat))/\AV sl 60 (ae (j:Nat))/\j<=S.a_.length) S.a_.length ⟨⟨c1,by simpa[G7]using hS2,y3,y4,y5⟩,l32,l42,lpt,by simp[s2,s3,s4,s7]⟩ ?_
  clear hS2 l32 l42 y3 y4 y5 hS;rintro b2 k2-dO j Hn K3 ⟨⟨c2,hS,Ej,Qh,qw⟩,l3,l4,lp3,q2,q3,q4,q7,q8,q58,W4,yJ,hj⟩ eJ;by_cases bB:j<S.a_.length
  .have ix:j<maxLen:=by unfold maxLen;omega
   have⟨M,yi,mY⟩:=qy j bB;have gR:M=yI S.a_[j]:=mY;subst gR;have W7:=cG bB;have air:=PT (VL:=VL) bB;generalize S.a_[j]=q at yi W7 air;have⟨Mv,x,Z,hxa,GR⟩:=hW.ins q W7;have aU:AH+j*3+3<=pn:=ω
   have kh:bc pt (AH+j*3) 3=some [ae (q.1:Nat),ae (q.2.1:Nat),ae (q.2.2:Nat)]:=yi;have e1:¬H.ab=K3.ab:=bC l3.lt;simp[q3,q58,W4,yJ,bB,lp3.get,aU,bY kh,e1,l3.get,e3];generalize pL:D.put _ _ _=K4;have g4:I [] K3 K4:=by rw[<-pL];exact ke ((I.refl _ _).add _) ((I.refl _ _).put (.inr ζ)) (X:=[K3.ab]) ζ
   have l10:∃t,Lv K4 K3.ab (.cells 3 t false)/\AV t 0 (ae (q.1:Nat)):=by rw[<-pL];exact⟨_,(Lv.new (H:=K3)).put_eq,ζ⟩
   clear pL;have⟨pC,l10,e10⟩:=l10;refine CW (akC (hW.mp.W (hS.base.trans g4)) Z hxa GR) ?_;rintro _ K5 ⟨⟨M,rfl,hI,-⟩,g5⟩;obtain⟨va,vl,rfl,kl,mO,-⟩:=hI;have qR:=l10.ai g5;have CT:=g4.trans g5;have⟨c3,BL,HM⟩:=Gr c2 K3.ab (6,0);have uz:=(hS.RF BL).W CT ζ;have l35:=l3.ai CT;have l45:=l4.ai CT;have lp5:=lp3.ai CT;have aId:=CT.ab;have qD:¬K3.ab=K5.ab:=bC qR.lt;simp[kl.cell,mO.cell];generalize La:D.put _ _ _=K6;have g6:I [] K5 K6:=by rw[<-La];exact ke ((I.refl _ _).add _) ((I.refl _ _).put (.inr ζ)) (X:=[K5.ab]) ζ
   have l11:∃t,Lv K6 K5.ab (.cells 8 t false)/\AV t 0 (u8 x.op)/\AV t 2 (str x.a)/\AV t 3 (str x.b):=by rw[<-La];exact⟨_,(Lv.new (H:=K5)).put_eq,ζ⟩
   clear La;have⟨t11,l11,f0,f2,f3⟩:=l11;have hS6:=uz.W g6 ζ;have l36:=l35.ai g6;have l46:=l45.ai g6;have lp6:=lp5.ai g6;have Ry:=qR.ai g6;have z3:=(BL _ l3.lt).trans Ej;have z4:=(BL _ l4.lt).trans Qh;have z_p:=(BL _ lp3.lt).trans qw;have⟨t_S,l_S,u0,u1⟩:=hS6.ob;have eT:∀(bz:CX) (K7:D) (M_1 R_1:Nat->Nat->Nat),(M_1,R_1)=G7 S VL (j+1)->fr H S.p.length (H.ab+1+1) K7 c3 mv rv hy Yr ms mm rs rm M_1 R_1->Lv K7 H.ab (.cells 1 t3 false)->Lv K7 (H.ab+1) (.cells 1 t4 false)->Lv K7 pid (.cells pn pt pro)->bz.get 2=some (.ptr dH 0)->bz.get 3=some (.ptr H.ab 0)->bz.get 4=some (.ptr (H.ab+1) 0)->bz.get 7=some (.ptr (H.ab+1+1) 0)->bz.get 8=some (.fn (.func 116) [] [.ptr H.ab 0,.ptr (H.ab+1) 0])->bz.get 58=some (.sl pid AH 3 S.a_.length G6 pex)->bz.get 59=some (ae (S.a_.length:Nat))->bz.get 60=some (ae ((j:Int)+1))->aD E0 (.code (.loop b2)::k2) ⟨bz,176,[],none,51⟩ K7 (qb E0 [ResultVar.tmp 6] Q'):=by
    intro bz K7 M_1 R_1 hMR O U F h4 h5 h6 h7 h8 h9 xR PU LD;have e1:(G7 S VL (j+1)).1=M_1:=by rw[<-hMR]
    have e2:(G7 S VL (j+1)).2=R_1:=by rw[<-hMR]
    exact eJ ω ⟨⟨c3,by rw[e1,e2];exact O,z3,z4,z_p⟩,U,F,h4,h5,h6,h7,h8,h9,xR,PU,by simpa using LD,bB⟩
   clear eJ;rw[air]at eT;unfold VC at eT;rw[V5 Z]at eT;dsimp only at eT;by_cases h9:x.op=9
   .rw[aq h9]at eT;have⟨idm,capm,exm,tm,em,lm,u_m,C9⟩:=hS6.m.at_ Mv;simp[h9,q7,q8,Ry.get,e10,l11.get,f3,l_S.get,u0,em,lm.get,u_m,C9,Mv];have cR:∀{y:Nat},c3 y=(6,0)->y≠ms q.1/\y≠mm q.1:=λ {y} h=>⟨(λ e=>by rw[e,(hS6.m.M q.1 Mv).1]at h;cases h),(λ e=>by rw[e,(hS6.m.M q.1 Mv).2]at h;cases h)⟩;refine CW (VE hW hS6.base l36 e3 l46 e4 (hS6.m.s q.1 Mv) (cR z3) ⟨hS6.lo (by rw[(hS6.m.M q.1 Mv).1];simp),hS6.lo (by rw[(hS6.m.M q.1 Mv).2];simp)⟩) ?_;rintro v7 K7 ⟨hB7,g7⟩;have nz:∀{y:Nat},c3 y=(6,0)->y∉[ms q.1,mm q.1]:=λ {y} h B=>by simp at B;exact B.elim (cR h).1 (cR h).2
    have hS7:=hS6.putM Mv g7 hB7;have l107:=Ry.W g7 (nz (HM _ (Nat.le_refl _)));have l117:=l11.W g7 (nz (HM _ ω));have⟨t_7,l_7,u07,u17⟩:=hS7.ob;have W0:=hS7.m.at_ Mv;have⟨idm7,capm7,exm7,tm7,em7,W0,um7,hcm7⟩:=W0;simp;try (refine dF (by simp[dA,dm]) ?_)
    try simp[yJ,bq ix]
    refine eT _ _ _ _ rfl hS7 (l36.W g7 (nz z3)) (l46.W g7 (nz z4)) (lp6.W g7 (nz z_p)) ?_ ?_ ?_ ?_ ?_ ?_ ?_ ?_<;>simp[q2,q3,q4,q7,q8,q58,W4]
   .rw[ao h9]at eT;by_cases h8:x.op=8
    .rw[aq h8]at eT;have⟨idm,capm,exm,tm,em,lm,u_m,C9⟩:=hS6.r.at_ Mv;simp[h8,q7,q8,Ry.get,e10,l11.get,f2,l_S.get,u1,em,lm.get,u_m,C9,Mv];have cR:∀{y:Nat},c3 y=(6,0)->y≠rs q.1/\y≠rm q.1:=λ {y} h=>⟨(λ e=>by rw[e,(hS6.r.M q.1 Mv).1]at h;cases h),(λ e=>by rw[e,(hS6.r.M q.1 Mv).2]at h;cases h)⟩;refine CW (VE hW hS6.base l36 e3 l46 e4 (hS6.r.s q.1 Mv) (cR z3) ⟨hS6.lo (by rw[(hS6.r.M q.1 Mv).1];simp),hS6.lo (by rw[(hS6.r.M q.1 Mv).2];simp)⟩) ?_;rintro v7 K7 ⟨hB7,g7⟩;have nz:∀{y:Nat},c3 y=(6,0)->y∉[rs q.1,rm q.1]:=λ {y} h B=>by simp at B;exact B.elim (cR h).1 (cR h).2
     have hS7:=hS6.putR Mv g7 hB7;have l107:=Ry.W g7 (nz (HM _ (Nat.le_refl _)));have l117:=l11.W g7 (nz (HM _ ω));have⟨t_7,l_7,u07,u17⟩:=hS7.ob;have W0:=hS7.r.at_ Mv;have⟨idm7,capm7,exm7,tm7,em7,W0,um7,hcm7⟩:=W0;simp;try (refine dF (by simp[dA,dm]) ?_)
     try simp[yJ,bq ix]
     refine eT _ _ _ _ rfl hS7 (l36.W g7 (nz z3)) (l46.W g7 (nz z4)) (lp6.W g7 (nz z_p)) ?_ ?_ ?_ ?_ ?_ ?_ ?_ ?_<;>simp[q2,q3,q4,q7,q8,q58,W4]
    .rw[ao h8]at eT;simp[h9,h8,yJ,bq ix];refine eT _ _ _ _ rfl hS6 l36 l46 lp6 ?_ ?_ ?_ ?_ ?_ ?_ ?_ ?_<;>simp[q2,q3,q4,q7,q8,q58,W4]
  .obtain rfl:j=S.a_.length:=ω
   subst dO;simp[q2,W4,yJ];refine CW (hW.gra K3 hS.base) ?_;rintro gv K4 ⟨hG,g4⟩;have B3:=hS.W g4 ζ;have Gy:=VB (S:=S) (VL:=VL) S.a_ (λ _ _=>0,λ _ _=>0) ⟨λ i o h=>by simp[cC]at h,λ i o h=>by simp[cC]at h⟩;have Vg:G7 S VL S.a_.length=S.a_.foldl (VC S VL) (λ _ _=>0,λ _ _=>0):=by unfold G7;rw[List.take_length]
   rw[Vg]at B3;have bm:∀i,i<S.p.length->(ms i<K3.ab/\mm i<K3.ab)/\rs i<K3.ab/\rm i<K3.ab:=λ i A=>⟨(hS.m.s i A).Hk,(hS.r.s i A).Hk⟩;clear l3 l4 lp3 hS Vg eJ ih;generalize S.a_.foldl (VC S VL) (λ _ _=>0,λ _ _=>0)=B_0 at B3 Gy;have⟨M_0,R0⟩:=B_0;dsimp only at B3 Gy;have rP:=hW.gl;obtain⟨gk,hgk⟩:∃gk:Nat->BW,gk=λ f=>dW.getD f []:=⟨_,rfl⟩;have kj:∀f (h:f<dW.length),dW[f]=gk f:=λ f h=>by rw[hgk];simp[h]
   have AW:∀f,f<dW.length->∀k∈gk f,0<=k/\k<S.p.length:=λ f h k Q=>by rw[<-kj f h]at Q;exact hW.ge _ (cG h) k Q
   simp;refine bu (α:=(Nat->Nat->Nat)×(Nat->Nat->Nat)×Bool) (aJ:=λ z sl K=>fr H S.p.length (H.ab+1+1) K c2 mv rv hy Yr ms mm rs rm z.1 z.2.1/\GI K3.ab K gv dW/\(z.2.2=false->∀f,f<dW.length->∀k∈gk f,B2 (z.1 k.toNat) (z.1 f)/\B2 (z.2.1 k.toNat) (z.2.1 f))/\(∀i o,cC (z.1 i) o=true->o<S.of.length)/\(∀i o,cC (z.2.1 i) o=true->o<S.of.length)/\AV sl 7 (.ptr (H.ab+1+1) 0)/\AV sl 13 gv/\AV sl 14 (bl z.2.2)) (mu:=λ z=>2*(LF z.1 S.p.length+LF z.2.1 S.p.length)+if z.2.2=true then 1 else 0) ?_ (M_0,R0,true) _ _ ?ini5;case ini5=>exact⟨B3,hG,λ e=>(by cases e),Gy.1,Gy.2,by simp[q7]⟩
   rintro b3 k3-jU ⟨aD,R,b⟩ sl3 K5 ⟨uz,hG5,eN,hbM,hbR,r7,W5,r14⟩ jg;dsimp only at uz eN hbM hbR r14 jg;cases b with
   |false=>
    subst jU
    simp[r7,r14]
    exact hQ ⟨_,aD,R,rfl,⟨⟨_,_,_,_,_,_,_,_,_,uz⟩,λ f hf k Q=>eN rfl f ω k (by rw[hgk];exact Q),hbM,hbR⟩⟩
   |true=>
    have hgl5:=hG5.sl.aN yO
    simp[W5,r14,hgl5]
    refine bu (α:=Nat×(Nat->Nat->Nat)×(Nat->Nat->Nat)×Bool) (aJ:=λ z sl K=>fr H S.p.length (H.ab+1+1) K c2 mv rv hy Yr ms mm rs rm z.2.1 z.2.2.1/\GI K3.ab K gv dW/\CP S.of.length S.p.length gk aD R z.2.1 z.2.2.1 z.2.2.2 z.1 0/\AV sl 7 (.ptr (H.ab+1+1) 0)/\AV sl 13 gv/\AV sl 14 (bl z.2.2.2)/\AV sl 108 gv/\AV sl 109 (ae (dW.length:Nat))/\AV sl 110 (ae (z.1:Nat))/\z.1<=dW.length) (mu:=λ z=>dW.length-z.1) ?_ (0,aD,R,false) _ _ ?ini6
    case ini6=>
     refine⟨uz,hG5,⟨λ _=>⟨rfl,rfl,λ f k h=>?_⟩,λ e=>(by cases e),hbM,hbR⟩,by simp[r7,W5]⟩
     rcases h with⟨h,-⟩|⟨-,h⟩
     .omega
     .simp at h
    rintro b4 k4-Qt ⟨f,M2,R2,b2⟩ RS K6 ⟨hS6,LM,hP,u7,u13,u14,VJ,MZ,G1,hf⟩ QU
    dsimp only at hS6 hP u14 G1 hf QU
    by_cases iw:f<dW.length
    .have Eu:f<maxLen:=by unfold maxLen;omega
     have hfp:f<S.p.length:=ω
     obtain⟨idg,aIO,aHb,exg,ng,tg,rog,ug,W6,lg,E6,hgu,LK,-⟩:=LM.row iw;rw[kj f iw]at LK;have MK:=LK.sl.aN bK;have sJ:=LK.sl.cP;simp[VJ,MZ,G1,iw,W6,lg.get,E6,hgu,MK];refine bu (α:=Nat×(Nat->Nat->Nat)×(Nat->Nat->Nat)×Bool) (aJ:=λ z sl K=>fr H S.p.length (H.ab+1+1) K c2 mv rv hy Yr ms mm rs rm z.2.1 z.2.2.1/\GI K3.ab K gv dW/\NI K3.ab K ug (gk f)/\CP S.of.length S.p.length gk aD R z.2.1 z.2.2.1 z.2.2.2 f z.1/\AV sl 7 (.ptr (H.ab+1+1) 0)/\AV sl 13 gv/\AV sl 14 (bl z.2.2.2)/\AV sl 108 gv/\AV sl 109 (ae (dW.length:Nat))/\AV sl 110 (ae (f:Nat))/\AV sl 15 (ae (f:Nat))/\AV sl 115 ug/\AV sl 116 (ae ((gk f).length:Nat))/\AV sl 117 (ae (z.1:Nat))/\z.1<=(gk f).length) (mu:=λ z=>(gk f).length-z.1) ?_ (0,M2,R2,b2) _ _ ?ini7;case ini7=>exact⟨hS6,LM,LK,hP,by simp[u7,u13,u14,VJ,MZ,G1,W6]⟩
     clear hS6 LM LK hP u7 u13 u14 VJ MZ G1;rintro b5 C1-hk5 ⟨t,M_3,R3,b3'⟩ sl5 K7 ⟨hS7,hG7,hN7,hP,w7,w13,w14,w108,w109,w110,w15,w115,VI,LW,ht⟩ ih5;dsimp only at hS7 hP w14 LW ht ih5;by_cases htn:t<(gk f).length
     .have htm:t<maxLen:=ω
      have⟨vz,cq⟩:=AW f iw _ (cG htn);have⟨idt,offt,capt,ext,nt,tt_,rot,ct,hvt,lt_,Jn,C4,Z4⟩:=hN7.sl.gL htn;have AP:ct=ae (gk f)[t]:=by have:[ct]=[ae (gk f)[t]]:=Z4;simpa using this
      subst AP;have eH:=λ {b1 b2:Bool} {W_1 W_2:Nat->Nat}=>hP.step (b1:=b1) (b2:=b2) (W_1:=W_1) (W_2:=W_2) hfp htn;generalize(gk f)[t]=kz at vz cq C4 eH;obtain⟨k,rfl⟩:∃k:Nat,kz=(k:Int):=⟨kz.toNat,ω⟩;rw[show((k:Nat):Int).toNat=k from rfl]at eH;have mA:k<S.p.length:=ω
      have⟨t_o,l_o,x0,x1⟩:=hS7.ob;have pair:∀{K:D} {kk:Nat} {mv':J} {aL:AT} {m1 m2:Nat->Nat} {aD:Nat->Nat->Nat},hi K kk S.p.length c2 mv' aL m1 m2 aD->∃id ax ex t,mv'=.sl id 0 1 S.p.length ax ex/\Lv K id (.cells ax t false)/\t.get f=some (.ptr (m1 f) 0)/\f<ax/\t.get k=some (.ptr (m1 k) 0)/\k<ax:=λ h=>by have⟨i_a,ca,xa_,ta,ea,la,Gw,zF⟩:=h.at_ hfp;have⟨i_b,cb,xb_,tb,eb,lb,bR,eG⟩:=h.at_ mA;have e1:=ea.symm.trans eb;simp at e1;obtain⟨rfl,rfl,rfl⟩:=e1;have e2:=la.get.symm.trans lb.get;simp at e2;subst e2;exact⟨_,_,_,_,ea,la,Gw,zF,bR,eG⟩
      have⟨i_a,ca,xa_,ta,ea,la,Gw,zF,bR,eG⟩:=pair hS7.m;simp[w7,w15,w115,VI,LW,htn,hvt,lt_.get,Jn,C4,l_o.get,x0,ea,la.get,Gw,zF,bR,eG,de tB,hfp,mA];refine CW (G4 hS7.m hfp mA) ?_;rintro _ K8 ⟨b1,W_1,rfl,hB8,g8,hU1⟩;have kK:=hS7.putM hfp g8 hB8;have hx8:∀x∈[ms f,mm f],x<K3.ab:=λ x Z=>by
       simp at Z;rcases Z with rfl|rfl
       .exact(bm f hfp).1.1
       .exact(bm f hfp).1.2
      have hG8:=hG7.IM g8 hx8;have hN8:=hN7.W g8 hx8;have⟨t_o8,l_o8,y0,y1⟩:=kK.ob;have⟨ia8,ca8,xa8,ta8,ea8,la8,ha18,ha28,hb18,hb28⟩:=pair kK.m;have⟨i_c,cc,x_c,tc,ec,lc,og,k8,hd1,hd2⟩:=pair kK.r;cases b1;all_goals
       simp[w7,w14,w15,l_o8.get,y1,ec,lc.get,og,k8,hd1,hd2,hfp,mA];refine CW (G4 kK.r hfp mA) ?_;rintro _ K9 ⟨b2,W_2,rfl,hB9,g9,hU2⟩;have R5:=kK.putR hfp g9 hB9;have hx9:∀x∈[rs f,rm f],x<K3.ab:=λ x Z=>by
        simp at Z;rcases Z with rfl|rfl
        .exact(bm f hfp).2.1
        .exact(bm f hfp).2.2
       have hG9:=hG8.IM g9 hx9;have P3:=hN8.W g9 hx9;have Mt:=eH hU1 hU2;cases b2;all_goals simp[LW,bq htm];exact ih5 (t+1,aM M_3 f W_1,aM R3 f W_2,_) _ _ (by show _-(t+1)<_-t;omega) ⟨R5,hG9,P3,Mt,by simp[w7,w13,w15,w108,w109,w110,w115,VI];omega⟩
     .obtain rfl:t=(gk f).length:=ω
      subst hk5;simp[w110,VI,LW,bq Eu];refine QU (f+1,M_3,R3,b3') _ _ (by show _-(f+1)<_-f;omega) ⟨hS7,hG7,⟨λ e=>?_,hP.lt,hP.b_M,hP.b_R⟩,by simp[w7,w13,w14,w108,w109];omega⟩;have⟨e1,e2,e3⟩:=hP.eq e;refine⟨e1,e2,λ f' k' h'=>e3 f' k' ?_⟩;rcases h' with⟨O,U⟩|⟨-,U⟩
      .by_cases e4:f'=f
       .subst e4;exact .inr ⟨rfl,by rw[iF];exact U⟩
       .exact .inl ⟨ω,U⟩
      .simp at U
    .obtain rfl:f=dW.length:=ω
     subst Qt;simp[MZ,G1];refine jg (M2,R2,b2) _ _ ?_ ⟨hS6,LM,λ e f' kf k' iI=>?_,hP.b_M,hP.b_R,by simp[u7,u13,u14]⟩
     .cases b2 with
      |true=>have:=hP.lt rfl;simp;omega
      |false=>obtain⟨e1,e2,-⟩:=hP.eq rfl;subst e1;subst e2;simp
     .dsimp only at e⊢;have⟨e1,e2,e3⟩:=hP.eq e;subst e1;subst e2;exact e3 f' k' (.inl ⟨kf,iI⟩)
section
variable{H K T:D}{n aG pY f:Nat}{dW:List BW}{aD R:Nat->Nat->Nat}
theorem oM.ai(h:oM H n aG pY K dW aD R)(g:I [] K T):oM H n aG pY T dW aD R:=by have⟨c,mv,rv,hy,Yr,ms,mm,rs,rm,hS⟩:=h.ex;exact{h with ex:=⟨c,mv,rv,hy,Yr,ms,mm,rs,rm,hS.W g ζ⟩}
theorem C3(h:oM H n aG pY K dW aD R)(hf:f<n):CN 119 [.ptr pY 0,ae (f:Nat)] K λ v T=>T=K/\v=bl true:=by
 have⟨c,mv,rv,hy,Yr,ms,mm,rs,rm,hS⟩:=h.ex;have⟨t,l,x0,x1⟩:=hS.ob;have⟨i_a,ca,x_a,ta,ea,la,Gw,zF⟩:=hS.m.at_ hf;refine ba o119 rfl λ Q' hQ=>?_;have h0:(0:Int)<=(f:Int):=ω
 simp[l.get,x0,ea,de tB,h0,hf];exact hQ ⟨rfl,rfl⟩
theorem VX(h:oM H n aG pY K dW aD R)(hT:xn K)(hf:f<n):CN 53 [.ptr pY 0,ae (f:Nat)] K λ v T=>aW T 1 (One λ n=>ae n) v (iY (jW (aD f)))/\I [] K T:=by have ht:=C3 h hf;have⟨c,mv,rv,hy,Yr,ms,mm,rs,rm,hS⟩:=h.ex;have⟨t,l,x0,x1⟩:=hS.ob;have⟨i_a,ca,x_a,ta,ea,la,Gw,zF⟩:=hS.m.at_ hf;refine ba o53 rfl λ Q' hQ=>?_;simp[cE ht,l.get,x0,ea,la.get,Gw,zF,hf];refine CW (Wl (hS.m.s f hf) hT) ?_;rintro v K2 ⟨⟨aL,hv,-⟩,g⟩;simp;exact hQ ⟨hv.aZ,g⟩
theorem VU(h:oM H n aG pY K dW aD R)(hT:xn K)(hf:f<n):CN 54 [.ptr pY 0,ae (f:Nat)] K λ v T=>aW T 1 (One λ n=>ae n) v (iY (jW (R f)))/\I [] K T:=by have ht:=C3 h hf;have⟨c,mv,rv,hy,Yr,ms,mm,rs,rm,hS⟩:=h.ex;have⟨t,l,x0,x1⟩:=hS.ob;have⟨i_a,ca,x_a,ta,ea,la,Gw,zF⟩:=hS.r.at_ hf;refine ba o54 rfl λ Q' hQ=>?_;simp[cE ht,l.get,x1,ea,la.get,Gw,zF,hf];refine CW (Wl (hS.r.s f hf) hT) ?_;rintro v K2 ⟨⟨aL,hv,-⟩,g⟩;simp;exact hQ ⟨hv.aZ,g⟩
theorem Hy(l:Lv H j (.cells 2 t3 false))(e0:AV t3 0 (.ptr a 0))(e1:AV t3 1 (.ptr b 0))(hA:e_ H a dH aA)(hB:e_ H b p3 ms):CN 120 [.sl j 0 1 2 mid ex] H λ v K=>∃id m,v=.ptr id 0/\e_ K id m (fT (fT (λ _=>0) aA) ms)/\I [] H K:=by
 refine ba o120 rfl λ Q' hQ=>?_;simp;refine CW (WI (l:=[]) .nil ζ) ?_;rintro _ K1 ⟨kQ,m1,rfl,IX,b1,b2,g1⟩;replace IX:e_ K1 kQ m1 (λ _=>0):=IX;have la:=hA.Hk;have lb:=hB.Hk;have l1:=l.ai g1;simp[de tB];refine aeE ?_;simp[l1.get,e0];refine CW (aeh IX (hA.W g1 ζ ζ) ω ω ω ω) ?_;rintro _ K2 ⟨rfl,hS2,g2⟩;have Z:∀{y:Nat},y<H.ab->y∉[kQ,m1]:=λ {y} h B=>by simp at B;omega
 have l2:=l1.W g2 (Z l.lt);simp;refine aeE ?_;simp[l2.get,e1];refine CW (aeh hS2 ((hB.W g1 ζ ζ).W g2 (Z lb.1) (Z lb.2)) ω ω ω ω) ?_;rintro _ K3 ⟨rfl,hS3,g3⟩;simp;refine aeE ?_;simp;exact hQ ⟨_,_,rfl,hS3,ke g1 (g2.trans g3) λ y G=>by simp at G;omega⟩
theorem VS(h:oM H n aG pY K dW aD R)(hT:xn K)(hf:f<n):CN 52 [.ptr pY 0,ae (f:Nat)] K λ v T=>aW T 1 (One λ n=>ae n) v (iY (jW (fT (fT (λ _=>0) (aD f)) (R f))))/\I [] K T:=by
 have ht:=C3 h hf;have⟨c,mv,rv,hy,Yr,ms,mm,rs,rm,hS⟩:=h.ex;have⟨t,l,x0,x1⟩:=hS.ob;have⟨i_a,ca,x_a,ta,ea,la,Gw,zF⟩:=hS.m.at_ hf;have⟨i_b,cb,x_b,tb,eb,lb,bR,eG⟩:=hS.r.at_ hf;refine ba o52 rfl λ Q' hQ=>?_;simp[cE ht,l.get,x0,x1,ea,la.get,Gw,zF,eb,lb.get,bR,eG,hf];generalize ed:D.add _ _=K1;have g1:I [] K K1:=by rw[<-ed];exact(I.refl _ _).add _
 have l1:∃t,Lv K1 K.ab (.cells 2 t false)/\AV t 0 (.ptr (ms f) 0)/\AV t 1 (.ptr (rs f) 0):=by rw[<-ed];exact⟨_,Lv.new,ζ⟩
 clear ed;have⟨t1,l1,e0,e1⟩:=l1;refine CW (Hy l1 e0 e1 ((hS.m.s f hf).W g1 ζ ζ) ((hS.r.s f hf).W g1 ζ ζ)) ?_;rintro _ K2 ⟨id,m,rfl,hB,g2⟩;simp;refine CW (Wl hB ((hT.W g1).W g2)) ?_;rintro v K3 ⟨⟨aL,hv,-⟩,g3⟩;simp;exact hQ ⟨hv.aZ,(g1.trans g2).trans g3⟩
end
theorem o8T:(fq 8,())=(some Tryz.f8,()):=κ
theorem mo(H:D):CN 50 [] H λ w K=>K=H/\w=bl true:=Ht (n:=3) au6 rfl ⟨rfl,rfl⟩
def o_8:=fe (jd o8T)
theorem base_gr(hH:X.HB=H)(h:fM X K L aA V):I [] H K:=by have⟨t,tn,tf,mn,mf,cn,cf,en,ef,dv,hO⟩:=h;rw[<-hH];exact hO.base
theorem EC.base{H K:D}{mid a n dH:Nat}{dW:Nat->BW}(h:EC H mid a n dH K dW):I [] H K:=by obtain⟨p5,m,g',c,t,C,O,-⟩:=h.ex;exact O.base
theorem E1{L:List Pt}{n:Nat}(hB:∀q∈L,(au q).length<=4194304)(hl:L.length<=1024)(i:Nat):(hx au L n i).length<=1099511627776:=by
 have h0:(CY au L L.length i).length<=1099511627776:=by
  have O:=h3 (g:=λ q:Pt=>if q.1=i then au q else[]) (aG:=4194304) L λ x Z=>by
   split
   .exact hB x Z
   .exact dQ _
  unfold CY;rw[iF];have:=nW 4194304 hl;omega
 unfold hx;split
 .exact aY ZG (by rw[M5];exact h0)
 .exact h0
theorem B7{L:List Pt}{n i:Nat}(hF:∀q∈L,∀f∈au q,0<=f/\f<n):∀f∈hx au L n i,0<=f/\f<n:=λ f hf=>by
 have h0:∀f∈CY au L L.length i,0<=f/\f<n:=λ f hf=>by
  unfold CY at hf;rw[iF]at hf;have⟨q,O,U⟩:=List.mem_flatMap.1 hf;split at U
  .exact hF q O f U
  .simp at U
 unfold hx at hf;split at hf
 .rw[apc,(yB _).mem_iff]at hf;exact h0 f hf
 .exact h0 f hf
theorem E3{p:List aQ}(hW:pF p)(hA:HH p)(hL:SC p)(hM:lu K b (bj p))(hX:X.S=bj p)(hFX:An X)(hR:fM X K L V.first V)(hC:U9 K b L.a (bj p) (B1 X V))(hO:EC K b L.a p.length dH H (hx (B1 X V) (bj p).a_ p.length)):ModW H b L.a dH (bj p) (jk X V) ((List.range p.length).map (hx (B1 X V) (bj p).a_ p.length)):=by
 have hp:=pT p;have hn:=Sf hW;have LG:=E1 (n:=p.length) (λ q hq=>(hC.B8 q hq).1) hC.p1;refine⟨hM.W hO.base,hC.nD,hC.n0,hC.n1,hC.p0,λ q hq=>?_,λ T g v=>yX ((hR.ai hO.base).ai g) v,λ v o ho=>Sd hR hFX ho,λ T g=>?_,by rw[hp];simp,λ l hl f hf=>?_⟩
 .have⟨x,Z⟩:=abx q hq;rw[hp];exact⟨(VG Z).1,x,Z,hA _ _ _ _ Z,hL _ _ _ _ Z⟩
 .obtain⟨p5,mm,gg,cc,tt,C,hS,-⟩:=(hO.ai g).ex;exact EI hS hn.2 LG
 .obtain⟨i,-,rfl⟩:=jn.1 hl;have O:=B7 (i:=i) (λ q hq=>(hC.B8 q hq).2);rw[hp]at O⊢;exact O f hf
theorem D1(hs:aW H 1 (One λ n=>ae n) v' (iY (jW aA)))(hw:kA aA)(o:Nat):CN 46 [v',ae (o:Nat)] H λ u K=>K=H/\u=bl (cC aA o):=by
 have h:=ahp (o:Int) hs;have e:decide ((o:Int)∈iY (jW aA))=cC aA o:=by rw[qH,rK,<-Dm hw];unfold iY;rw[jn];exact⟨λ ⟨x,O,U⟩=>(show x=o by omega)▸O,λ O=>⟨o,O,rfl⟩⟩
 rw[e]at h;exact h
theorem oM.wd{H K:D}{n aG pY f:Nat}{dW:List BW}{aD R:Nat->Nat->Nat}(h:oM H n aG pY K dW aD R)(hf:f<n):kA (aD f)/\kA (R f):=by have⟨c,mv,rv,hy,Yr,ms,mm,rs,rm,hS⟩:=h.ex;exact⟨(hS.m.s f hf).wd,(hS.r.s f hf).wd⟩
theorem oM.base{H K:D}{n aG pY:Nat}{dW:List BW}{aD R:Nat->Nat->Nat}(h:oM H n aG pY K dW aD R):I [] H K:=by have⟨c,mv,rv,hy,Yr,ms,mm,rs,rm,hS⟩:=h.ex;exact hS.base
theorem W1{p:List aQ}(hp:oO H v' p)(hz:ij p<=1048576)(ht:uK (λ x=>x.args.length) p<=1048576)(hl:uK (λ x=>x.eh.length) p<=1048576)(hT:xn H):CN 8 [.agg [v']] H λ v _=>v=bl true:=by
 refine ba o_8 rfl λ Q' hQ=>?_;simp[hp.cell,hp.co];generalize pK:D.add _ _=K0;have g0:I [] H K0:=by rw[<-pK];exact(I.refl _ _).add _
 have l1:Lv K0 H.ab (.cells 1 (Tr.e.put 0 (some v')) false):=by rw[<-pK];exact Lv.new
 clear pK;try simp[l1.get]
 refine CW (atG (hp.zB g0) hz) ?_;rintro _ K1 ⟨⟨b,rfl,hb⟩,g1⟩;cases b with
 |true=>
  simp[cE (mo _)]
  exact hQ rfl
 |false=>
  have hF:Fit p:=⟨hb rfl,ht,hl⟩
  have A_:=l1.ai g1
  simp[A_.get]
  have hSA:HH p:=λ f b i x ha=>by have:=Xr (w:=λ x=>x.args.length) ha;omega
  have hSL:SC p:=λ f b i x ha=>by have:=Xr (w:=λ x=>x.eh.length) ha;omega
  refine CW (azc ((hp.zB g0).zB g1) hSA hSL agE) ?_
  rintro _ K2 ⟨rfl|⟨hW,id,rfl,hMI⟩,g2⟩
  .simp[cE (mo _)]
   exact hQ rfl
  have hM:=hMI.mp
  have UA:=aem hW hF
  have Uy:=alL hW hF
  have eX:=(hT.W (g0.trans g1)).W g2
  simp
  refine CW (aEX hM eX UA Uy) ?_
  rintro _ K3 ⟨X,L,rfl,xS,Sg,-,-,xN,f_⟩
  have fo:=base_gr Sg f_
  have hM3:=hM.W fo
  have hFX:An X:=⟨by rw[xS];exact UA,by rw[xN,xS]⟩
  have hI:=(SV.ad0 Uy.si Uy.rel).2
  have fk:(Bv (bj p)).Ok (bJ (bj p)) X.N:=by rw[xN];exact hI.ok
  have n9:X.N=X.S.vars.length+X.S.of.length:=by rw[xN,xS]
  have hCW:=E4 hW hF hSA hSL hM3 xS hFX f_ fk n9
  simp
  refine CW (Gv hCW) ?_
  rintro _ K4 ⟨dH,rfl,Gq⟩
  have ahH:=agE hW
  have hn:=pT p
  have avG:=(Sf hW).2
  have LG:=E1 (n:=p.length) (λ q hq=>(hCW.B8 q hq).1) hCW.p1
  rw[hn]at Gq
  have hMW:=E3 hW hSA hSL hM3 xS hFX f_ hCW Gq
  simp
  refine CW (C2 hMW) ?_
  rintro _ K5 ⟨pY,aD,R,rfl,hD5⟩
  rw[hn]at hD5
  have g45:=hD5.base
  obtain⟨p5,mm,gg,cc,tt,C_q,B3,-⟩:=(Gq.ai g45).ex
  simp
  refine CW (EI B3 avG LG) ?_
  rintro gv K6 ⟨LM,g6⟩
  have AW:∀i,∀f∈hx (B1 X (Bv (bj p))) (bj p).a_ p.length i,0<=f/\f<p.length:=λ i=>by
   have O:=B7 (n:=p.length) (i:=i) (au:=B1 X (Bv (bj p))) (L:=(bj p).a_) λ q hq=>by have U:=(hCW.B8 q hq).2;rw[hn]at U;exact U
   exact O
  have hM6:=((hM3.W Gq.base).W g45).W g6
  have hT6:=((((eX.W fo).W Gq.base).W g45).W g6)
  have hD6:=hD5.ai g6
  clear hCW hI fk n9 Uy UA f_ hFX hMW B3 Gq LG
  generalize hx (B1 X (Bv (bj p))) (bj p).a_ p.length=G_m at hD6 LM AW
  obtain⟨dW,hGG⟩:∃dW:List BW,dW=(List.range p.length).map G_m:=⟨_,rfl⟩
  have LG:dW.length=p.length:=by rw[hGG];simp
  obtain⟨gk,hgk⟩:∃gk:Nat->BW,gk=λ f=>dW.getD f []:=⟨_,rfl⟩
  have hGe:∀f (h:f<dW.length),dW[f]=gk f:=λ f h=>by rw[hgk];simp[h]
  have hGm:∀f,f<p.length->gk f=G_m f:=λ f h=>by rw[hgk,hGG];dsimp only;rw[List.getD_eq_getElem?_getD,List.getElem?_map,List.getElem?_range h];rfl
  have hGk:∀f,f<dW.length->∀k∈gk f,0<=k/\k<p.length:=λ f h k Q=>by rw[hGm f ω]at Q;exact AW f k Q
  rw[<-hGG]at hD6 LM
  generalize hSS:bj p=S at*
  have mC:S.p.length<=1048576:=by rw[hn];omega
  have hGA:=LM.sl.aN yO
  simp[hGA]
  refine CA (λ f sl K=>I [] K6 K/\AV sl 3 (.ptr id 0)/\AV sl 7 (.ptr pY 0)/\AV sl 8 gv/\AV sl 9 (ae (f:Nat))/\f<=dW.length) dW.length ⟨I.refl _ _,ζ⟩ ?_
  rintro b1 k1-cq f sl K ⟨gK,s3,s7,s8,s9,hf⟩ ih
  have hG:=LM.ai gK
  have hGA:=hG.sl.aN yO
  by_cases iw:f<dW.length
  .have Eu:f<maxLen:=by unfold maxLen;omega
   have hfp:f<p.length:=ω
   simp[s7,s8,s9,hGA,iw];refine CW (VS (hD6.ai gK) (hT6.W gK) hfp) ?_;rintro tv K7 ⟨htv,g7⟩;have Lu:=gK.trans g7;simp;refine CA (λ o sl K8=>I [] K7 K8/\AV sl 3 (.ptr id 0)/\AV sl 7 (.ptr pY 0)/\AV sl 8 gv/\AV sl 9 (ae (f:Nat))/\AV sl 10 tv/\AV sl 11 (ae (o:Nat))/\o<=S.of.length+S.p.length) (S.of.length+S.p.length) ⟨I.refl _ _,by simp[s3,s7,s8,s9]⟩ ?_
   rintro b2 k2-dO o Hn K8 ⟨g8,q3,q7,q8,q9,bo,q11,ho⟩ eJ;have gK8:=Lu.trans g8;have jB:=smObjs (hM6.W gK8) ahH mC;by_cases hon:o<S.of.length+S.p.length
   .have hoi:(o:Int)<(S.of.length:Int)+(S.p.length:Int):=ω
    have hom:o<maxLen:=by obtain⟨f1,f2,f3,f4,f5⟩:=ahH;unfold maxLen;omega
    have Z6:=hD6.ai gK8;obtain⟨w_M,w_R⟩:=Z6.wd hfp;have hto:∀{K:D},I [] K8 K->CN 46 [tv,ae (o:Nat)] K λ u T=>T=K/\u=bl (cC (aD f) o||cC (R f) o):=λ {K} g=>by have O:=D1 ((htv.fZ g8).fZ g) ((kA.zero.or w_M).or w_R) o;rw[uk,uk,show cC (λ _=>0) o=false by simp[cC]]at O;simpa using O
    simp[q3,q7,q9,q11,cE jB,hoi];refine CW (VX Z6 (hT6.W gK8) hfp) ?_;rintro u1 K9 ⟨Vu,g9⟩;have pf:=D1 Vu w_M o;have vv:=DD (hM6.W gK8);have eN:∀k∈gk f,B2 (aD k.toNat) (aD f)/\B2 (R k.toNat) (R f):=by rw[hgk];exact Z6.cl f hfp
    cases B:cC (aD f) o;case' true=>
     have Gy:=Z6.b_M f o B
     have gY:¬(S.of.length:Int)<=(o:Int):=ω
     rw[B]at pf
     have VD:=hto g9
     rw[B,Ot]at VD
     repeat (first|simp[q3,q7,q9,bo,q11,cE pf,cE VD,cE (DD ((hM6.W gK8).W g9)),gY]|refine dF (by simp[dA,dm]) ?_)
     have gE:I [] K8 _:=g9
    case' false=>
     rw[B]at pf
     repeat (first|simp[q7,q9,q11,cE pf]|refine dF (by simp[dA,dm]) ?_)
     refine CW (VU (Z6.ai g9) ((hT6.W gK8).W g9) hfp) ?_
     rintro u2 qf ⟨QK,D_⟩
     have gE:I [] K8 _:=g9.trans D_
     have ya:=D1 QK w_R o
     have VD:=hto gE
     rw[B,Bool.false_or]at VD
     cases hr:cC (R f) o
     case' true=>
      have Gy:=Z6.b_R f o hr
      have gY:¬(S.of.length:Int)<=(o:Int):=ω
      rw[hr]at ya VD
      repeat (first|simp[q3,bo,q11,cE ya,cE VD,cE (DD ((hM6.W gK8).W gE)),gY]|refine dF (by simp[dA,dm]) ?_)
     case' false=>
      rw[hr]at ya VD
      repeat (first|simp[q3,bo,q11,cE ya,cE VD]|refine dF (by simp[dA,dm]) ?_)
    all_goals
     refine CA (λ i sl K_X=>I [] K8 K_X/\AV sl 3 (.ptr id 0)/\AV sl 7 (.ptr pY 0)/\AV sl 8 gv/\AV sl 9 (ae (f:Nat))/\AV sl 10 tv/\AV sl 11 (ae (o:Nat))/\AV sl 13 (ae (i:Nat))/\i<=(gk f).length) ((gk f).length) ⟨gE,by simp[q3,q7,q8,q9,bo,q11]⟩ ?_
     clear gE;rintro b3 k3-jU i sl3 K_X ⟨gX,r3,r7,r8,r9,RD,r11,W5,A⟩ jg;obtain⟨idg,aIO,aHb,exg,ng,tg,rog,ug,W6,lg,E6,hgu,LK,-⟩:=(LM.ai (gK8.trans gX)).row iw;rw[hGe f iw]at LK;have MK:=LK.sl.aN bK;have sJ:=LK.sl.cP;by_cases az:i<(gk f).length
     .have jA:i<maxLen:=ω
      obtain⟨idt,offt,capt,ext,nt,tt_,rot,ct,hvt,lt_,Jn,C4,Z4⟩:=LK.sl.gL az;have AP:ct=ae (gk f)[i]:=by have:[ct]=[ae (gk f)[i]]:=Z4;simpa using this
      subst AP;have U7:=cG az;obtain⟨vz,cq⟩:=hGk f iw _ U7;obtain⟨c_M,c_R⟩:=eN _ U7;generalize(gk f)[i]=kz at vz cq C4 c_M c_R;obtain⟨k,rfl⟩:∃k:Nat,kz=(k:Int):=⟨kz.toNat,ω⟩;rw[show((k:Nat):Int).toNat=k from rfl]at c_M c_R;have mA:k<p.length:=ω
      have hDX:=Z6.ai gX;have hTX:=(hT6.W gK8).W gX;obtain⟨wMk,wRk⟩:=hDX.wd mA;simp[r7,r8,r9,W5,iw,W6,lg.get,E6,hgu,az,hvt,lt_.get,Jn,C4,de bK];refine CW (VX hDX hTX mA) ?_;rintro v1 K11 ⟨dc,g11⟩;have O:=D1 dc wMk o;cases c1:cC (aD k) o;case' false=>
       rw[c1]at O
       have gF:I [] K_X _:=g11
       repeat (first|simp[r7,r8,r9,r11,W5,iw,W6,az,hvt,E6,hgu,Jn,C4,(lg.ai gF).get,(lt_.ai gF).get,cE O]|refine dF (by simp[dA,dm]) ?_)
      case' true=>
       rw[c1]at O
       repeat (first|simp[r7,r9,r11,cE O]|refine dF (by simp[dA,dm]) ?_)
       refine CW (VX (hDX.ai g11) (hTX.W g11) hfp) ?_
       rintro v2 XS ⟨fp,lG⟩
       have gF:I [] K_X _:=g11.trans lG
       have U:=D1 fp w_M o
       rw[c_M o c1]at U
       repeat (first|simp[r7,r8,r9,r11,W5,iw,W6,az,hvt,E6,hgu,Jn,C4,(lg.ai gF).get,(lt_.ai gF).get,cE U]|refine dF (by simp[dA,dm]) ?_)
      all_goals
       refine CW (VU (hDX.ai gF) (hTX.W gF) mA) ?_;rintro v3 K13 ⟨jD,Ea⟩;have g_G:=gF.trans Ea;have F:=D1 jD wRk o;cases c2:cC (R k) o;case' false=>
        rw[c2]at F
        have gH:I [] K_X _:=g_G
        repeat (first|simp[r7,r9,r11,W5,cE F,bq jA]|refine dF (by simp[dA,dm]) ?_)
       case' true=>
        rw[c2]at F
        repeat (first|simp[r7,r9,r11,cE F]|refine dF (by simp[dA,dm]) ?_)
        refine CW (VU (hDX.ai g_G) (hTX.W g_G) hfp) ?_
        rintro v4 K14 ⟨hv4,Z_⟩
        have gH:I [] K_X _:=g_G.trans Z_
        have h4:=D1 hv4 w_R o
        rw[c_R o c2]at h4
        repeat (first|simp[r11,W5,cE h4,bq jA]|refine dF (by simp[dA,dm]) ?_)
       all_goals exact jg ω ⟨gX.trans gH,by simp[r3,r7,r8,r9,RD,r11];omega⟩
     .obtain rfl:i=(gk f).length:=ω
      subst jU;simp[r8,r9,r11,W5,iw,W6,lg.get,E6,hgu,MK,bq hom];exact eJ ω ⟨g8.trans gX,by simp[r3,r7,r8,r9,RD];omega⟩
   .obtain rfl:o=S.of.length+S.p.length:=ω
    subst dO;simp[q3,q9,q11,cE jB,bq Eu];exact ih ω ⟨gK8,by simp[q3,q7,q8];omega⟩
  .obtain rfl:f=dW.length:=ω
   subst cq;simp[s8,s9,hGA,cE (mo _)];exact hQ rfl
theorem J6{α:Type}{f g:α->Nat}:∀(L:List α) (_:∀x∈L,f x<=g x),(L.map f).sum<=(L.map g).sum
 |[],_=>aF
 |a::L,h=>by
  have O:=h a ζ
  have U:=J6 L λ x Z=>h x (by simp[Z])
  simp only[kB,sr]
  omega
def aFo(p:List aQ):ij p<=OO p:=J6 (α:=aQ) p λ f _=>by
 have h:fL f.blocks<=(f.blocks.map Ic).sum:=J6 (α:=cU) f.blocks λ b _=>by
  have O:b.code.length<=(b.code.map zm).sum:=by
   have:=J6 (f:=λ _=>1) (g:=zm) b.code λ x _=>by unfold zm;omega
   rw[akW]at this;exact this
  show b.code.length<=(b.code.map zm).sum+1;omega
 show fL f.blocks<=(f.blocks.map Ic).sum+1;omega
def akA(hw:∀x,w x<=zm x)(p:List aQ):uK w p<=OO p:=J6 (α:=aQ) p λ f _=>by
 have h:vT w f.blocks<=(f.blocks.map Ic).sum:=J6 (α:=cU) f.blocks λ b _=>by have O:=J6 (f:=w) (g:=zm) b.code λ x _=>hw x;show(b.code.map w).sum<=(b.code.map zm).sum+1;omega
 show vT w f.blocks<=(f.blocks.map Ic).sum+1;omega
def axv{p:List aQ}(hp:oO H v' p)(hb:OO p<=1048576)(hT:xn H):CN 8 [.agg [v']] H λ v _=>v=bl true:=W1 hp (aY (aFo p) hb) (aY (akA (λ x=>by unfold zm;omega) p) hb) (aY (akA (λ x=>by unfold zm;omega) p) hb) hT
def ak7:Bool:=match H0.get 0 with
 |some (.cells 64 t _)=>(List.range 64).all λ j=>match t.get j with|some (.lit (.int .u8 n))=>n==((Lib.deBruijn64tab.getD j 0:Nat):Int)|_=>false
 |_=>false
theorem aFu:ak7=true:=κ
theorem aze:Nat.ble 1 H0.ab=true:=κ
def aFv:xn H0:=by
 have h:=aFu;unfold ak7 at h;split at h
 .rename_i t ro e;refine⟨t,ro,⟨OD aze,e⟩,λ j hj=>?_⟩;have O:=yZ.1 h j (mj.2 hj);split at O
  .rename_i n e2;rw[e2];have:n=((Lib.deBruijn64tab.getD j 0:Nat):Int):=by simpa using O
   rw[this]
  .cases O
 .cases h
def axu{w:bI}{bk:DataW ay->Nat}(cJ:BK bk)(ht:yW w g_)(hT:∀f∈FC,Kr Tryz.prog w f)(o8:∀E,eW Tryz.prog E->(∀f n,E.Q.get f=some n->(f,n)∈yg++FC.map λ f=>(f,5))->Hz Tryz.prog E w){x:DataW ay×List MemPlace}(Z:DataW.trod enc Tryz.prog w 0 (λ _=>true) true b 24 xs.toList=some x)(hb:bk x.1<=1048576):Calls Tryz.prog 8 #[.agg xs] w λ e w'=>e=.returned (.bool true)/\jG (λ _=>False) w w':=by
 have⟨ρ,hr⟩:=auO given (agl _) (auN _) ht
 obtain⟨eU,H1,p,l,k1,k2,k3,k4,⟨vf,rfl,hp⟩,k6⟩:=aps cJ b _ x Z ρ H0 hr
 exact an5 given (agl _) k1 (axv hp (aY k6 hb) (aFv.W k3)) (.cons (.agg k4) .nil) o8
def aGB(w:World)(ht:yW w g_):∀f∈FC,Kr Tryz.prog w f:=by
 intro f hf;obtain rfl:f=50:=by simpa[FC]using hf
 exact XA ht λ w ht=>Xl (ws:=[]) aGy (λ _=>.nil) w ht (λ f h=>by cases h) (λ f h=>by cases h)
theorem aGA:∀f∈FC,∀args w,(callFunc f args).run Tryz.prog w=.ok (.enter f args) w:=by
 intro f hf;obtain rfl:f=50:=by simpa[FC]using hf
 exact enters_of Tryz.func50 κ rfl
end
end Go.Proofs.YtgipmaoplfkdoaaGreatDoor
