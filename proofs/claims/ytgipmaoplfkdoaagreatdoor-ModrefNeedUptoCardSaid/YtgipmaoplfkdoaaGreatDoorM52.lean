import Derived.Test.YtgipmaoplfkdoaaGreatDoorM51
import Derived.Test.YtgipmaoplfkdoaaGreatDoorWK19
set_option linter.all false
set_option maxRecDepth 100000
set_option maxHeartbeats 400000000
namespace Go.Proofs.YtgipmaoplfkdoaaGreatDoor
noncomputable section
open Go.RowKit
variable{H K:D}{S:SM}{f b j mid a dH p3 p4 m:Nat}{x:bp}{X:Fix}{L:nk}{V:SV}{aA ms mm:Nat->Nat}{v':J}{c:Nat->Nat×Nat}{aL:AT}{VL:Int->AT}{s:ByteArray}{t3 t4:CX}{au:Pt->BW}{g:List BW}{aR:Nat->Nat->Nat}{w:bp->Nat}{ay:Type}{xs:Array aC}{enc:aS×aC->ay}
theorem ksT:(fq 29,())=(some Tryz.f29,()):=κ
def o29:=fe (jd ksT)
theorem smObjs{id:Nat}(h:lu H id S)(hf:uP S)(hp:S.p.length<=1048576):CN 29 [.ptr id 0] H λ v K=>K=H/\v=ae ((S.of.length+S.p.length:Nat):Int):=by refine ba o29 rfl λ Q' hQ=>?_;have⟨f1,f2,f3,f4,f5⟩:=hf;have hw:IntKind.wrap .i64 ((S.of.length:Int)+(S.p.length:Int))=(S.of.length:Int)+(S.p.length:Int):=fQ ω ω;simp[cE (DD h),cE (aEQ h),hw];exact hQ ⟨rfl,ζ⟩
noncomputable def C3(X:Fix)(V:SV)(q:Pt):BW:=match Js X.S.p q with|some x=>D4 X V q.1 x|none=>[]
theorem VO{p:List aQ}{i:Nat}(h:At p f b i x):∃hf:f<p.length,b<p[f].blocks.length:=by obtain⟨fn,bk,O,U,-⟩:=h;rw[cW]at O U;obtain⟨hf,rfl⟩:=O;exact⟨hf,U.1⟩
theorem fn_one{p:List aQ}(h:pF p){fn:aQ}(hf:fn∈p):1<=fL fn.blocks:=by
 have⟨f,hf⟩:=sq hf;have b6:¬Sl p λ _ x=>Bo x:=h 6 ω ω;have b10:¬(XR p\/jF p (wW p)):=h 10 ω ω;cases hb:fn.blocks with
 |nil=>exact absurd ⟨f,fn,hf,by simp[Bo,hb]⟩ b6
 |cons bk bs=>
  rw[aFn]
  cases hc:bk.code with|nil=>exact absurd (.inl ⟨f,0,fn,bk,hf,by rw[hb];rfl,hc⟩) b10|cons x l=>rw[qi];omega
theorem len_szF:∀(p:List aQ),(∀fn∈p,1<=fL fn.blocks)->p.length<=ij p
 |[],_=>Nat.le_refl _
 |fn::p,h=>by
  have:=len_szF p λ f hf=>h f (by simp[hf])
  have:=h fn ζ
  rw[aFp,qi];omega
theorem Rp{α:Type}{g:α->Nat}:∀l:List α,(∀x∈l,g x=0)->(l.map g).sum=0
 |[],_=>rfl
 |x::l,h=>by
  have:=Rp l λ y G=>h y (by simp[G])
  have:=h x ζ
  rw[kB,sr]
  omega
theorem sum1{α:Type}:∀l:List α,(l.map λ _=>0+1).sum=l.length
 |[]=>rfl
 |x::l=>by
  have:=sum1 l
  rw[kB,sr,qi]
  omega
theorem Hk(p:List aQ):(bj p).a_.length=ij p:=by
 have O:=aCo p λ _=>0+1;have U:=akz (a:=λ _=>0) (c:=1) p;have F:uK (λ _=>0) p=0:=Rp p λ f _=>Rp f.blocks λ b _=>Rp b.code λ _ _=>rfl;have h4:(bj p).a_.map (gw p λ _=>0+1)=(bj p).a_.map λ _=>0+1:=SZ λ q hq=>by have⟨x,Z⟩:=abx q hq;unfold gw;rw[V5 Z]
 rw[h4,sum1]at O;omega
theorem E4{p:List aQ}(hW:pF p)(hF:Fit p)(hA:HH p)(hL:SC p)(hM:lu H b (bj p))(hX:X.S=bj p)(hFX:An X)(hR:fM X H L V.first V)(fk:V.Ok (bJ (bj p)) X.N)(hN:X.N=X.S.vars.length+X.S.of.length):VE H b L.a (bj p) (C3 X V):=by
 have hp:=pT p;have hn:=Sf hW;have cQ:∀{q:Pt} {x:bp},At p q.1 q.2.1 q.2.2 x->C3 X V q=D4 X V q.1 x:=λ {q x} h=>by
  have:Js X.S.p q=some x:=by rw[hX,hp];exact V5 h
  unfold C3;rw[this]
 refine⟨hM,agE hW,by rw[hp];exact hn.1,by rw[hp];exact hn.2,?_,?_,λ q hq=>?_,λ q hq=>?_,λ fn iw=>?_,λ q hq T g=>?_⟩
 .have O:=len_szF p λ fn iw=>fn_one hW iw;have F:=Hk p;omega
 .have F:=Hk p;have h4:=hF.sz;omega
 .have⟨x,Z⟩:=abx q hq;rw[hp];exact(VO Z).1
 .have⟨x,Z⟩:=abx q hq;rw[cQ Z,hp];unfold D4;split
  .refine⟨ζ,λ f hf=>?_⟩;obtain rfl:f=X.S.gP x.fn:=by simpa using hf
   rw[hX];exact atw hW _
  .split
   .refine⟨aY afW Sc,λ f hf=>?_⟩;unfold sy iY at hf;have⟨O,U⟩:=Oz.1 hf;obtain⟨o',F,rfl⟩:=jn.1 O;obtain⟨o,h4,rfl⟩:=jn.1 F;have h5:o<(bj p).of.length+(bj p).p.length:=fk.sn _ _ ((ayg fk hN).1 h4).2.2;rw[hp]at h5;simp only[v8,rK]at U;rw[hX]at U⊢;omega
   .simp
 .rw[hp]at iw;have⟨f,hf⟩:=sq iw;exact(Z7 hW hA hL hf).1
 .have⟨x,Z⟩:=abx q hq;rw[cQ Z];exact amC (hR.ai g) hFX (by rw[hX,hp];exact Z)
theorem LM:(fq 51,fq 116,fq 120,fq 52,fq 53,fq 54,fq 119,tq 81,tq 155,tq 157,())=(some Tryz.f51,some Tryz.f116,some Tryz.f120,some Tryz.f52,some Tryz.f53,some Tryz.f54,some Tryz.f119,some ⟨.pointer 157,1,8,[.lit (.pointer none)]⟩,some ⟨.slice 118,1,24,[.lit (.slice none 0 0)]⟩,some ⟨.struct #[⟨ "mod",155,0,false,"","gnomon/modref",0⟩,⟨ "ref",155,1,false,"","gnomon/modref",24⟩],2,48,[.lit (.slice none 0 0),.lit (.slice none 0 0)]⟩,()):=κ
def o51:=fe (jd LM)
def o116:=fe (jq LM)
def o120:=fe (jr LM)
def o52:=fe (js LM)
def o53:=fe (jt LM)
def o54:=fe (ju LM)
def o119:=fe (jv LM)
def tt81:=te (jw LM)
def B3:=te (jx LM)
def tt157:=te (jy LM)
theorem VX:(tq 158,pq 51 6,pq 51 15,pq 51 17,pq 51 30,pq 51 31,pq 52 3,())=(some ⟨.func #[3,9,118] #[] false,1,8,[.lit .nilFunc]⟩,some [.op 0,.op 1,.op 2,.op 3,.op 4,.op 5,.op 9,.op 10,.op 11,.op 12,.wr 6 [5,12],.op 7,.wr 8 [12],.wr 13 [12],.op 14,.wr 15 [],.op 16,.op 17,.wr 18 [],.op 19,.op 20,.wr 21 []],some [.op 0,.op 1,.op 2,.op 3,.op 4,.op 5,.op 6,.op 7,.op 8,.op 9,.op 10,.op 11,.op 12,.wr 13 []],some [.op 0,.op 1,.op 2,.op 3,.op 4,.op 5,.op 6,.op 7,.op 8,.op 9,.op 10,.op 11,.op 12,.wr 13 []],some [.op 0,.op 1,.op 2,.op 3,.op 4,.op 5,.op 6,.op 7,.op 8,.op 9,.op 10,.op 11,.op 12,.op 13,.wr 14 [],.op 15,.op 16,.op 17,.op 18],some [.op 0,.op 1,.op 2,.op 3,.op 4,.op 5,.op 6,.op 7,.op 8,.op 9,.op 10,.op 11,.op 12,.op 13,.wr 14 [],.op 15,.op 16,.op 17,.op 18],some [.op 0,.op 1,.op 2,.op 3,.op 4,.op 5,.op 6,.op 7,.op 8,.op 9,.op 10,.op 11,.op 12,.op 13,.op 14,.wr 15 [],.wr 16 [],.op 17],()):=κ
def tt158:=te (jd VX)
def w51a:=pe (jq VX)
def w51b:=pe (jr VX)
def w51c:=pe (js VX)
def w51d:=pe (jt VX)
def w51e:=pe (ju VX)
def w52:=pe (jv VX)
attribute [simp] tt81 B3 tt157 tt158 w51a w51b w51c w51d w51e w52
structure hi(K:D)(k n:Nat)(c:Nat->Nat×Nat)(mv:J)(aL:List Nat)(ms mm:Nat->Nat)(aD:Nat->Nat->Nat):Prop where
 row:aX K 1 mv ((List.range n).map λ i=>J.ptr (ms i) 0) aL
 s:∀i,i<n->e_ K (ms i) (mm i) (aD i)
 GP:∀y∈aL,c y=(k,0)
 M:∀i,i<n->c (ms i)=(k+1,i)/\c (mm i)=(k+1,i)
section
variable{K T:D}{k n:Nat}{c c':Nat->Nat×Nat}{mv:J}{aL:AT}{ms mm:Nat->Nat}{aD:Nat->Nat->Nat}
theorem Gr(c:Nat->Nat×Nat)(N:Nat)(v:Nat×Nat):∃c1:Nat->Nat×Nat,(∀y,y<N->c1 y=c y)/\∀y,N<=y->c1 y=v:=⟨λ y=>if y<N then c y else v,λ y G=>aq G,λ y G=>ao ω⟩
theorem e_.R4(h:e_ K f b aA):f<K.ab/\b<K.ab:=by obtain⟨t,a,-⟩:=h.ob;exact⟨a.lt,h.mp.lt⟩
theorem hi.W(h:hi K k n c mv aL ms mm aD){cL:AT}(dW:I cL K T)(hz:∀y∈cL,(c y).1≠k/\(c y).1≠k+1):hi T k n c mv aL ms mm aD:=⟨h.row.W dW λ y G B=>(hz y B).1 (by rw[h.GP y G]),λ i A=>(h.s i A).W dW (λ B=>(hz _ B).2 (by rw[(h.M i A).1])) (λ B=>(hz _ B).2 (by rw[(h.M i A).2])),h.GP,h.M⟩
theorem hi.RF(h:hi K k n c mv aL ms mm aD)(hc:∀y,y<K.ab->c' y=c y):hi K k n c' mv aL ms mm aD:=⟨h.row,h.s,λ y G=>(hc y (h.row.lt y G)).trans (h.GP y G),λ i A=>⟨(hc _ (h.s i A).R4.1).trans (h.M i A).1,(hc _ (h.s i A).R4.2).trans (h.M i A).2⟩⟩
theorem hi.put(h:hi K k n c mv aL ms mm aD)(A:f<n)(dW:I [ms f,mm f] K T)(hs:e_ T (ms f) (mm f) aA):hi T k n c mv aL ms mm (aM aD f aA):=by
 have hz:∀y∈[ms f,mm f],c y=(k+1,f):=λ y G=>by
  simp at G;rcases G with rfl|rfl
  .exact(h.M f A).1
  .exact(h.M f A).2
 refine⟨h.row.W dW λ y G B=>by have O:=h.GP y G;rw[hz y B]at O;simp at O,λ j hj=>?_,h.GP,h.M⟩;by_cases e:j=f
 .subst e;rw[fE];exact hs
 .rw[gG e];refine(h.s j hj).W dW (λ B=>?_) (λ B=>?_)
  .have O:=(h.M j hj).1;rw[hz _ B]at O;simp at O;exact e O.symm
  .have O:=(h.M j hj).2;rw[hz _ B]at O;simp at O;exact e O.symm
theorem hi.push(h:hi K k n c mv aL ms mm aD)(hs:e_ K f b aA)(hc:c f=(k+1,n)/\c b=(k+1,n)){ids':AT}(dW:I aL K H)(ho:aX H 1 v' (((List.range n).map λ i=>J.ptr (ms i) 0)++[.ptr f 0]) ids')(A:∀y∈ids',y∈aL\/K.ab<=y)(q1:∀y,y<K.ab->c' y=c y)(q2:∀y,K.ab<=y->c' y=(k,0)):hi H k (n+1) c' v' ids' (aM ms n f) (aM mm n b) (aM aD n aA):=by
 have hY:∀{y i:Nat},c y=(k+1,i)->y∉aL:=λ O B=>by have U:=h.GP _ B;rw[O]at U;simp at U
 refine⟨?_,λ i dJ=>?_,λ y G=>?_,λ i dJ=>?_⟩
 .have e:((List.range (n+1)).map λ i=>J.ptr (aM ms n f i) 0)=((List.range n).map λ i=>J.ptr (ms i) 0)++[.ptr f 0]:=by
   rw[YK,lF];congr 1
   .refine SZ λ i A=>?_;rw[gG (by have:=mj.1 A;omega)]
   .simp[fE]
  rw[e];exact ho
 .by_cases e:i=n
  .subst e;rw[fE,fE,fE];exact hs.W dW (hY hc.1) (hY hc.2)
  .rw[gG e,gG e,gG e];have az:i<n:=ω
   exact(h.s i az).W dW (hY (h.M i az).1) (hY (h.M i az).2)
 .rcases A y G with w|w
  .exact(q1 _ (h.row.lt y w)).trans (h.GP y w)
  .exact q2 y w
 .by_cases e:i=n
  .subst e;rw[fE,fE];exact⟨(q1 _ hs.R4.1).trans hc.1,(q1 _ hs.R4.2).trans hc.2⟩
  .rw[gG e,gG e];have az:i<n:=ω
   exact⟨(q1 _ (h.s i az).R4.1).trans (h.M i az).1,(q1 _ (h.s i az).R4.2).trans (h.M i az).2⟩
theorem hi.at_(h:hi K k n c mv aL ms mm aD){i:Nat}(A:i<n):∃id ax ex t,mv=.sl id 0 1 n ax ex/\Lv K id (.cells ax t false)/\t.get i=some (.ptr (ms i) 0)/\i<ax:=by obtain⟨id,ax,ex,t,e1,-,l,hg,aU,-,-⟩:=h.row.uC ξ;simp at e1 aU;refine⟨id,ax,ex,t,e1,l,?_,ω⟩;rw[hg i (by simpa using A)];simp[A]
end
def yq(aA V:Nat->Nat):Prop:=∀o,cC aA o=true->cC V o=true
structure LK(aR aG:Nat->Nat)(b:Bool)(aA:Nat->Nat):Prop where
 f:b=false->aA=aR/\yq aG aR
 t:b=true->nR aR<nR aA
 m:∀o,cC aA o=true->cC aR o=true\/cC aG o=true
 e:b=true\/aA=aR
 i:∀o,cC aR o=true->cC aA o=true
theorem G7{n:Nat}{aD:Nat->Nat->Nat}(h:hi H f n c v' aL ms mm aD){i:Nat}(A:i<n)(hj:j<n):CN 118 [.ptr (ms i) 0,.ptr (ms j) 0] H λ v T=>∃(b:Bool) (aA:Nat->Nat),v=bl b/\e_ T (ms i) (mm i) aA/\I [ms i,mm i] H T/\LK (aD i) (aD j) b aA:=by
 have hd:(ms j≠ms i/\ms j≠mm i/\mm j≠ms i/\mm j≠mm i)\/(ms j=ms i/\mm j=mm i/\aD j=aD i):=by
  by_cases e:j=i
  .subst e;exact .inr ⟨rfl,rfl,rfl⟩
  .have cR:∀{x y:Nat},c x=(f+1,j)->c y=(f+1,i)->x≠y:=λ {x y} O U e2=>by rw[e2,U]at O;simp at O;exact e O.symm
   have ci:=h.M i A;have c_j:=h.M j hj;exact .inl ⟨cR c_j.1 ci.1,cR c_j.1 ci.2,cR c_j.2 ci.1,cR c_j.2 ci.2⟩
 refine(unG (h.s i A) (h.s j hj) hd).mono ?_;rintro v T ⟨rfl,O,U⟩;have wi:=(h.s i A).wd;have w_j:=(h.s j hj).wd;refine⟨_,_,rfl,O,U,λ hf=>?_,λ ht=>Tj ht,λ o ho=>by rw[uk,xt]at ho;exact ho,?_,λ o ho=>by rw[uk,ho];rfl⟩
 .have hg:=of_decide_eq_false hf;refine⟨abJ wi w_j hg,λ o ho=>?_⟩;cases hb:cC (aD i) o with|true=>rfl|false=>exact absurd ((atH wi w_j).2 ⟨o,ho,hb⟩) hg
 .by_cases hg:zA (aD i) (aD j)
  .exact .inl (Ti hg)
  .exact .inr (abJ wi w_j hg)
theorem Rch.cons{g:List BW}{a b c:Nat}(h:(b:Int)∈g.getD a [])(hb:b<g.length)(U:Rch g b c):Rch g a c:=by induction U with|refl=>exact .step (.refl a) hb h|step _ hl hc ih=>exact .step ih hl hc
structure sM(dW:List (List Int))(NB aD:Nat->Nat->Nat):Prop where
 inc:∀f o,cC (NB f) o=true->cC (aD f) o=true
 src:∀f o,cC (aD f) o=true->∃g,Rch dW f g/\cC (NB g) o=true
theorem sM.aM{dW:List BW}{NB aD:Nat->Nat->Nat}{i k:Nat}{b:Bool}{aA:Nat->Nat}(h:sM dW NB aD)(hU:LK (aD i) (aD k) b aA)(hl:k<dW.length)(Q:(k:Int)∈dW.getD i []):sM dW NB (aM aD i aA):=by
 refine⟨λ f o ho=>?_,λ f o ho=>?_⟩
 .by_cases e:f=i
  .subst e;rw[fE];exact hU.i o (h.inc f o ho)
  .rw[gG e];exact h.inc f o ho
 .by_cases e:f=i
  .subst e;rw[fE]at ho;rcases hU.m o ho with O|O
   .exact h.src f o O
   .have⟨g,g1,g2⟩:=h.src k o O;exact⟨g,.cons Q hl g1,g2⟩
  .rw[gG e]at ho;exact h.src f o ho
noncomputable def LP(aD:Nat->Nat->Nat)(n:Nat):Nat:=SV.m_ (λ i=>4194304-nR (aD i)) n
theorem EH{aD:Nat->Nat->Nat}{i:Nat}{b:Bool}(A:i<j)(h:LK (aD i) ms b aA):LP (aM aD i aA) j+(if b=true then 1 else 0)<=LP aD j:=by
 have e:LP (aM aD i aA) j=SV.m_ (aM (λ i=>4194304-nR (aD i)) i (4194304-nR aA)) j:=by refine SV.NV j λ x _=>?_;unfold aM;split<;>rfl
 have e2:=SV.J0 (f:=λ i=>4194304-nR (aD i)) (k:=i) (x:=4194304-nR aA) j A;rw[e];unfold LP;have b1:=ad9 aA;cases b with
 |true=>have:=h.t rfl;simp only[qk];omega
 |false=>rw[(h.f rfl).1]at e2⊢;simp;omega
structure B7(n:Nat)(gk:Nat->List Int)(aD R M2 R2:Nat->Nat->Nat)(b:Bool)(i t:Nat):Prop where
 eq:b=false->M2=aD/\R2=R/\∀f (k:Int),f<i/\k∈gk f\/f=i/\k∈(gk i).take t->yq (aD k.toNat) (aD f)/\yq (R k.toNat) (R f)
 lt:b=true->LP M2 n+LP R2 n<LP aD n+LP R n
theorem B7.step{n:Nat}{gk:Nat->BW}{aD R M2 R2:Nat->Nat->Nat}{b b1 b2:Bool}{i t:Nat}{W_1 W_2:Nat->Nat}(h:B7 n gk aD R M2 R2 b i t)(A:i<n)(ht:t<(gk i).length)(O:LK (M2 i) (M2 ((gk i)[t]).toNat) b1 W_1)(U:LK (R2 i) (R2 ((gk i)[t]).toNat) b2 W_2):B7 n gk aD R (aM M2 i W_1) (aM R2 i W_2) (b2||(b1||b)) i (t+1):=by
 have m1:=EH A O;have m2:=EH A U;refine⟨λ e=>?_,λ e=>?_⟩
 .simp only[HQ]at e;have⟨e2,e1,e0⟩:=e;have⟨a1,a2,a3⟩:=h.eq e0;have⟨c1,c2⟩:=O.f e1;have⟨d1,d2⟩:=U.f e2;rw[c1,d1,alC,alC];refine⟨a1,a2,λ f k Q=>?_⟩;rcases Q with Q|⟨rfl,Q⟩
  .exact a3 f k (.inl Q)
  .rw[KK ht,b_]at Q;rcases Q with Q|Q
   .exact a3 f k (.inr ⟨rfl,Q⟩)
   .have:k=(gk f)[t]:=by simpa using Q
    subst this;rw[<-a1,<-a2];exact⟨c2,d2⟩
 .cases b with
  |true=>
   have:=h.lt rfl
   omega
  |false=>
   obtain⟨a1,a2,-⟩:=h.eq rfl
   rw[<-a1,<-a2]
   cases b1<;>cases b2<;>simp at e m1 m2<;>omega
structure ModW(H:D)(mid a dH:Nat)(S:SM)(VL:Int->List Nat)(dW:List (List Int)):Prop where
 mp:lu H mid S
 nD:uP S
 n0:0<S.p.length
 n1:S.p.length<=64
 p0:0<S.a_.length
 ins:∀q∈S.a_,q.1<S.p.length/\∃x,At S.p q.1 q.2.1 q.2.2 x/\x.args.length<=1048576/\x.eh.length<=1048576
 var:∀K,I [] H K->∀v:Int,CN 19 [.ptr a 0,ae v] K λ u T=>(∃aL,aX T 1 u (aZ (iY (VL v))) aL/\∀y∈aL,K.ab<=y)/\I [] K T
 vlt:∀v,∀o∈VL v,o<4194304
 gra:∀K,I [] H K->CN 43 [.ptr dH 0] K λ v T=>GI K.ab T v dW/\I [] K T
 gl:dW.length=S.p.length
 ge:∀l∈dW,∀f∈l,0<=f/\f<S.p.length
structure fr(H:D)(n pY:Nat)(K:D)(c:Nat->Nat×Nat)(mv rv:J)(h1 Yr:List Nat)(ms mm rs rm:Nat->Nat)(aD R:Nat->Nat->Nat):Prop where
 ob:∃t,Lv K pY (.cells 2 t false)/\AV t 0 mv/\AV t 1 rv
 m:hi K 1 n c mv h1 ms mm aD
 r:hi K 3 n c rv Yr rs rm R
 c5:c pY=(5,0)
 low:∀y,y<H.ab->c y=(0,0)
 base:I [] H K
section
variable{H K T:D}{n pY:Nat}{c c':Nat->Nat×Nat}{mv rv:J}{h1 Yr:AT}{ms mm rs rm:Nat->Nat}{aD R:Nat->Nat->Nat}
theorem fr.lo(h:fr H n pY K c mv rv h1 Yr ms mm rs rm aD R)(G:(c f).1≠0):H.ab<=f:=by
 rcases kb f H.ab with q|q
 .rw[h.low f q]at G;exact absurd rfl G
 .exact q
theorem fr.W(h:fr H n pY K c mv rv h1 Yr ms mm rs rm aD R){cL:AT}(dW:I cL K T)(hz:∀y∈cL,6<=(c y).1):fr H n pY T c mv rv h1 Yr ms mm rs rm aD R:=by have⟨t,a,b⟩:=h.ob;exact⟨⟨t,a.W dW (λ B=>by have:=hz _ B;rw[h.c5]at this;simp at this),b⟩,h.m.W dW λ y G=>by have:=hz y G;omega,h.r.W dW λ y G=>by have:=hz y G;omega,h.c5,h.low,ke h.base dW λ y G=>h.lo (by have:=hz y G;omega)⟩
theorem fr.RF(h:fr H n pY K c mv rv h1 Yr ms mm rs rm aD R)(hc:∀y,y<K.ab->c' y=c y):fr H n pY K c' mv rv h1 Yr ms mm rs rm aD R:=by have⟨t,a,b⟩:=h.ob;exact⟨⟨t,a,b⟩,h.m.RF hc,h.r.RF hc,(hc _ a.lt).trans h.c5,λ y G=>(hc y (aT G h.base.ab)).trans (h.low y G),h.base⟩
theorem fr.putM(h:fr H n pY K c mv rv h1 Yr ms mm rs rm aD R)(A:f<n)(dW:I [ms f,mm f] K T)(hs:e_ T (ms f) (mm f) aA):fr H n pY T c mv rv h1 Yr ms mm rs rm (aM aD f aA) R:=by
 have hz:∀y∈[ms f,mm f],c y=(2,f):=λ y G=>by
  simp at G;rcases G with rfl|rfl
  .exact(h.m.M f A).1
  .exact(h.m.M f A).2
 have⟨t,a,b⟩:=h.ob;exact⟨⟨t,a.W dW (λ B=>by have:=hz _ B;rw[h.c5]at this;cases this),b⟩,h.m.put A dW hs,h.r.W dW λ y G=>by rw[hz y G];simp,h.c5,h.low,ke h.base dW λ y G=>h.lo (by rw[hz y G];simp)⟩
theorem fr.putR(h:fr H n pY K c mv rv h1 Yr ms mm rs rm aD R)(A:f<n)(dW:I [rs f,rm f] K T)(hs:e_ T (rs f) (rm f) aA):fr H n pY T c mv rv h1 Yr ms mm rs rm aD (aM R f aA):=by
 have hz:∀y∈[rs f,rm f],c y=(4,f):=λ y G=>by
  simp at G;rcases G with rfl|rfl
  .exact(h.r.M f A).1
  .exact(h.r.M f A).2
 have⟨t,a,b⟩:=h.ob;exact⟨⟨t,a.W dW (λ B=>by have:=hz _ B;rw[h.c5]at this;cases this),b⟩,h.m.W dW λ y G=>by rw[hz y G];simp,h.r.put A dW hs,h.c5,h.low,ke h.base dW λ y G=>h.lo (by rw[hz y G];simp)⟩
end
def oM(aG:Nat)(aA:Nat->Nat)(l:AT):Nat->Nat:=l.foldl (λ aA o=>if o<aG then fT aA (nN o)else aA) aA
theorem VM{dW:List BW}(hW:ModW H mid a dH S VL dW)(g0:I [] H K){id:Nat}(l3:Lv K p3 (.cells 1 t3 false))(e3:AV t3 0 (.ptr mid 0))(l4:Lv K p4 (.cells 1 t4 false))(e4:AV t4 0 (.ptr a 0))(hB:e_ K id m aA)(n3:p3≠id/\p3≠m)(bD:H.ab<=id/\H.ab<=m):CN 116 [ae (f:Nat),str s,.ptr id 0,.ptr p3 0,.ptr p4 0] K λ _ T=>e_ T id m (oM S.of.length aA (VL (S.aV f s)))/\I [id,m] K T:=by
 refine ba o116 rfl λ Q' hQ=>?_
 simp[l3.get,e3]
 refine CW (Xt (hW.mp.W g0) _ _) ?_
 rintro _ K1 ⟨⟨b,rfl⟩,g1⟩
 have l41:=l4.ai g1
 simp[l41.get,e4]
 refine CW (hW.var K1 (g0.trans g1) _) ?_
 rintro u K2 ⟨⟨aL,hu,hY⟩,g2⟩
 have bm:=hW.vlt (S.aV f s)
 generalize VL (S.aV f s)=l at hu bm hQ⊢
 have bA:=hu.aZ.aN bK
 have sJ:=hu.aZ.cP
 have pP:(iY l).length=l.length:=bW _
 rw[pP]at bA sJ
 simp[bA]
 have hB2:=(hB.W g1 ζ ζ).W g2 ζ ζ
 have l32:=(l3.ai g1).ai g2
 have hnB:=hB.R4
 have rQ:=g1.ab
 refine CA (λ j sl K3=>e_ K3 id m (oM S.of.length aA (l.take j))/\I [id,m] K2 K3/\AV sl 2 (.ptr id 0)/\AV sl 3 (.ptr p3 0)/\AV sl 21 u/\AV sl 22 (ae (l.length:Nat))/\AV sl 23 (ae (j:Nat))/\j<=l.length) l.length ⟨by simpa[oM]using hB2,I.refl _ _,ζ⟩ ?_
 rintro b1 k1-cq j sl K3 ⟨hB3,g3,s2,s3,jY,fu,dx,hj⟩ ih
 by_cases bB:j<l.length
 .have ix:j<maxLen:=ω
  have hjn':j<(iY l).length:=by rw[pP];exact bB
  obtain⟨lJ,ah,ax,ex,n,t,ro,c,rfl,hl,aU,bU,oZ⟩:=(hu.W g3 λ y G B=>by have:=hY y G;simp at B;omega).aZ.gL hjn';have hc:c=ae (l[j]:Nat):=by have:[c]=[ae (iY l)[j]]:=oZ;simpa[iY]using this
  subst hc;have hom:=bm _ (cG bB);have l33:=l32.W g3 (by simp;exact n3);have hM3:lu K3 mid S:=hW.mp.W (ke ((g0.trans g1).trans g2) g3 (by simp;exact bD));have eH:oM S.of.length aA (l.take (j+1))=if l[j]<S.of.length then fT (oM S.of.length aA (l.take j)) (nN l[j])else oM S.of.length aA (l.take j):=by unfold oM;rw[KK bB,ae8];rfl
  by_cases ho:l[j]<S.of.length
  .rw[aq ho]at eH;simp[s2,s3,jY,fu,dx,bB,hl.get,aU,bU,l33.get,e3,cE (DD hM3),ho];refine CW (aeS hB3 hom) ?_;rintro _ K4 ⟨rfl,hB4,g4⟩;simp[dx,bq ix];exact ih ω ⟨by rw[eH];exact hB4,g3.trans g4,by simp[s2,s3,jY,fu];omega⟩
  .rw[ao ho]at eH;simp[s3,jY,fu,dx,bB,hl.get,aU,bU,l33.get,e3,cE (DD hM3),ho,bq ix];exact ih ω ⟨by rw[eH];exact hB3,g3,by simp[s2,s3,jY,fu];omega⟩
 .obtain rfl:j=l.length:=ω
  subst cq;rw[iF]at hB3;simp[fu,dx];exact hQ ⟨hB3,(g1.trans g2|>.mono ζ).trans g3⟩
def E6(S:SM)(VL:Int->AT)(x:(Nat->Nat->Nat)×(Nat->Nat->Nat))(q:Pt):(Nat->Nat->Nat)×(Nat->Nat->Nat):=match Js S.p q with|none=>x|some i=>if i.op=9 then(aM x.1 q.1 (oM S.of.length (x.1 q.1) (VL (S.aV q.1 i.b))),x.2)else if i.op=8 then(x.1,aM x.2 q.1 (oM S.of.length (x.2 q.1) (VL (S.aV q.1 i.a))))else x
def Hy(S:SM)(VL:Int->AT)(j:Nat):(Nat->Nat->Nat)×(Nat->Nat->Nat):=(S.a_.take j).foldl (E6 S VL) (λ _ _=>0,λ _ _=>0)
theorem RE(hj:j<S.a_.length):Hy S VL (j+1)=E6 S VL (Hy S VL j) S.a_[j]:=by unfold Hy;rw[KK hj,ae8];rfl
theorem EI{aG:Nat}:∀(l:AT) {aA:Nat->Nat} {o:Nat},cC (oM aG aA l) o=true↔cC aA o=true\/o∈l/\o<aG
 |[],aA,o=>by simp[oM]
 |x::l,aA,o=>by
  have h:=EI (aG:=aG) l (aA:=if x<aG then fT aA (nN x)else aA) (o:=o)
  unfold oM at h⊢
  rw[DV,h]
  by_cases Z:x<aG
  .simp only[aq Z,uk,xt,GU,rK,cZ,or_and_right,Tk]
   have:o=x↔o=x/\o<aG:=⟨λ e=>⟨e,e▸Z⟩,And.left⟩;rw[<-this]
  .simp only[ao Z,cZ,or_and_right]
   have:¬(o=x/\o<aG):=λ e=>Z (e.1▸e.2);simp[this]
structure tB(H:D)(n pY:Nat)(K:D)(dW:List (List Int))(G1:(Nat->Nat->Nat)×(Nat->Nat->Nat))(aD R:Nat->Nat->Nat):Prop where
 ex:∃c mv rv h1 Yr ms mm rs rm,fr H n pY K c mv rv h1 Yr ms mm rs rm aD R
 cl:∀f,f<n->∀k∈dW.getD f [],yq (aD k.toNat) (aD f)/\yq (R k.toNat) (R f)
 s_M:sM dW G1.1 aD
 s_R:sM dW G1.2 R
theorem CY{dW:List BW}(hW:ModW H mid a dH S VL dW):CN 51 [.ptr mid 0,.ptr a 0,.ptr dH 0] H λ v K=>∃pY aD R,v=.ptr pY 0/\tB H S.p.length pY K dW (S.a_.foldl (E6 S VL) (λ _ _=>0,λ _ _=>0)) aD R:=by
 refine ba o51 rfl λ Q' hQ=>?_;have C':=hW.n0;have rQ:=hW.n1;simp;refine CW (aEQ (hW.mp.W ((((I.refl [] H).add _).add _).add _))) ?_;rintro _ K0 ⟨rfl,rfl⟩;simp;generalize ed:D.add _ _=K1;have g1:I [] H K1:=by rw[<-ed];exact(((I.refl [] H).add _).add _).add _
 have n1:K1.ab=H.ab+1+1+1:=by rw[<-ed];rfl
 have l3:∃t,Lv K1 H.ab (.cells 1 t false)/\AV t 0 (.ptr mid 0):=by rw[<-ed];exact⟨_,(Lv.new.add).add,ζ⟩
 have l4:∃t,Lv K1 (H.ab+1) (.cells 1 t false)/\AV t 0 (.ptr a 0):=by rw[<-ed];exact⟨_,(Lv.new (H:=H.add _)).add,ζ⟩
 have ls:∃t,Lv K1 (H.ab+1+1) (.cells 2 t false)/\AV t 0 Dp/\AV t 1 Dp:=by rw[<-ed];exact⟨_,Lv.new (H:=(H.add _).add _),ζ⟩
 clear ed;have⟨t3,l3,e3⟩:=l3;have⟨t4,l4,e4⟩:=l4;have IW:fr H 0 (H.ab+1+1) K1 (λ y=>if y<H.ab then(0,0)else if y=H.ab+1+1 then(5,0)else(6,0)) Dp Dp [] [] (λ _=>0) (λ _=>0) (λ _=>0) (λ _=>0) (λ _ _=>0) (λ _ _=>0):=⟨ls,⟨by simpa using aX.nil,λ i A=>ω,ζ,λ i A=>ω⟩,⟨by simpa using aX.nil,λ i A=>ω,ζ,λ i A=>ω⟩,by simp<;>omega,λ y G=>aq G,g1⟩;have wE:(λ y=>if y<H.ab then((0:Nat),(0:Nat))else if y=H.ab+1+1 then(5,0)else(6,0)) H.ab=(6,0)/\(λ y=>if y<H.ab then((0:Nat),(0:Nat))else if y=H.ab+1+1 then(5,0)else(6,0)) (H.ab+1)=(6,0):=by simp<;>omega
 generalize(λ y=>if y<H.ab then((0:Nat),(0:Nat))else if y=H.ab+1+1 then(5,0)else(6,0))=c0 at IW wE;refine CA (λ j sl K=>(∃c mv rv h1 Yr ms mm rs rm,fr H j (H.ab+1+1) K c mv rv h1 Yr ms mm rs rm (λ _ _=>0) (λ _ _=>0)/\c H.ab=(6,0)/\c (H.ab+1)=(6,0))/\Lv K H.ab (.cells 1 t3 false)/\Lv K (H.ab+1) (.cells 1 t4 false)/\AV sl 2 (.ptr dH 0)/\AV sl 3 (.ptr H.ab 0)/\AV sl 4 (.ptr (H.ab+1) 0)/\AV sl 7 (.ptr (H.ab+1+1) 0)/\AV sl 32 (ae (S.p.length:Nat))/\AV sl 33 (ae (j:Nat))/\j<=S.p.length) S.p.length ⟨⟨c0,_,_,_,_,_,_,_,_,IW,wE.1,wE.2⟩,l3,l4,ζ⟩ ?_
 rintro b1 k1-cq j sl K ⟨⟨c,mv,rv,h1,Yr,ms,mm,rs,rm,hS,Ej,Qh⟩,l3,l4,s2,s3,s4,s7,jZ,Br,hj⟩ ih;by_cases bB:j<S.p.length
 .have ix:j<maxLen:=by unfold maxLen;omega
  have⟨t,lo,f0,f1⟩:=hS.ob;simp[s7,jZ,Br,bB,lo.get,f0,f1];refine CW (WI (l:=[]) .nil ζ) ?_;rintro _ K2 ⟨kQ,m1,rfl,hB1,b11,b12,g2⟩;replace hB1:e_ K2 kQ m1 (λ _=>0):=hB1;have lo2:=lo.ai g2;simp;refine dF (by simp[dA,dm,val,lo2.get,f0,f1,hS.m.row.fy,hS.r.row.fy]) ?_;simp[-cX];have om2:=hS.m.row.W g2 ζ;have bA:((List.range j).map λ i=>J.ptr (ms i) 0).length<=64:=by rw[bW,Aw];omega
  have Qw:((List.range j).map λ i=>J.ptr (rs i) 0).length<=64:=by rw[bW,Aw];omega
  refine vL (c:=.ptr kQ 0) B3 aFH om2 rfl ω ω ?_;intro v1 K3 ids1 p1 p2 p3;have⟨c1,a1,a2⟩:=Gr c K.ab (2,j);have iW:=g2.ab;have Jd:=(hS.m.RF a1).W g2 ζ;have mY:=(hS.r.RF a1).W g2 ζ;have⟨c2,d1,d2⟩:=Gr c1 K2.ab (1,0);have Vh:=Jd.push hB1 ⟨a2 _ b11,a2 _ b12⟩ p2 p1 p3 d1 d2;have hY1:∀y∈h1,c2 y=(1,0):=λ y G=>(d1 y (Jd.row.lt y G)).trans (Jd.GP y G);have oi:=(mY.RF d1).W p2 λ y G=>by rw[hY1 y G];simp
  have ES:c2 (H.ab+1+1)=(5,0):=(d1 _ lo2.lt).trans ((a1 _ lo.lt).trans hS.c5);have Nj:=lo2.W p2 λ B=>by have h9:=hY1 _ B;rw[ES]at h9;cases h9
  simp;refine dF (by simp[dA,dm,val,Nj.get,f1,hS.r.row.fy]) ?_;simp;refine CW (WI (l:=[]) .nil ζ) ?_;rintro _ K4 ⟨lJ,m2,rfl,hB2,b21,b22,g4⟩;replace hB2:e_ K4 lJ m2 (λ _=>0):=hB2;have⟨c3,O,U⟩:=Gr c2 K3.ab (4,j);have wK:=p2.ab;have Vl:=g4.ab;have hm4:=(Vh.RF O).W g4 ζ;have hr4:=(oi.RF O).W g4 ζ;have lo4:=Nj.ai g4;simp;refine dF (by simp[dA,dm,val,lo4.get,f1,hS.r.row.fy]) ?_;simp[-cX];refine vL (c:=.ptr lJ 0) B3 aFH hr4.row rfl ω ω ?_;intro v2 K5 wP r1 r2 r3;have⟨c4,j1,j2⟩:=Gr c3 K4.ab (3,0);have hr5:=hr4.push hB2 ⟨U _ b21,U _ b22⟩ r2 r1 r3 j1 j2;have Gt:∀y∈Yr,c4 y=(3,0):=λ y G=>(j1 y (hr4.row.lt y G)).trans (hr4.GP y G);have hm5:=(hm4.RF j1).W r2 λ y G=>by rw[Gt y G];simp
  have hsc:c4 (H.ab+1+1)=(5,0):=(j1 _ lo4.lt).trans ((O _ Nj.lt).trans ES);have lo5:=lo4.W r2 λ B=>by have h9:=Gt _ B;rw[hsc]at h9;cases h9
  have hn5:=r2.ab;have Em:∀y,y<K.ab->c4 y=c y:=λ y G=>(j1 y ω).trans ((O y ω).trans ((d1 y ω).trans (a1 y G)));have hx3:c4 H.ab=(6,0):=(Em _ l3.lt).trans Ej;have hx4:c4 (H.ab+1)=(6,0):=(Em _ l4.lt).trans Qh;have n1:∀{y:Nat},y<K.ab->c y=(6,0)->y∉h1/\y∉Yr:=λ {y} G h6=>⟨(λ B=>by have h9:=hS.m.GP y B;rw[h6]at h9;cases h9),(λ B=>by have h9:=hS.r.GP y B;rw[h6]at h9;cases h9)⟩;have l3':=(((l3.ai g2).W p2 (n1 l3.lt Ej).1).ai g4).W r2 (n1 l3.lt Ej).2;have l4':=(((l4.ai g2).W p2 (n1 l4.lt Qh).1).ai g4).W r2 (n1 l4.lt Qh).2;have hb5:I [] H K5:=ke ((ke (hS.base.trans g2) p2 λ y G=>hS.lo (by rw[hS.m.GP y G];simp)).trans g4) r2 λ y G=>hS.lo (by rw[hS.r.GP y G];simp);simp[p1.cell,p1.co];try (refine dF (by simp[dA,dm]) ?_)
  simp[Br,lo5.get,r1.cell,r1.co,bq ix];have hu:aM (λ _:Nat=>λ _:Nat=>0) j (λ _=>0)=λ _ _=>0:=by funext i;unfold aM;split<;>rfl
  rw[hu]at hm5 hr5;generalize Lc:D.put _ _ _=K6;have g6:I [H.ab+1+1] K5 K6:=by rw[<-Lc];exact((I.refl _ _).put (.inr ζ)).put (.inr ζ)
  have lo6:∃t,Lv K6 (H.ab+1+1) (.cells 2 t false)/\AV t 0 v1/\AV t 1 v2:=by rw[<-Lc];exact⟨_,(lo5.put_eq).put_eq,ζ⟩
  clear Lc;have hz:∀y∈[H.ab+1+1],c4 y=(5,0):=λ y G=>by
   have:y=H.ab+1+1:=by simpa using G
   rw[this];exact hsc
  exact ih ω ⟨⟨c4,v1,v2,ids1,wP,_,_,_,_,⟨lo6,hm5.W g6 λ y G=>by rw[hz y G];simp,hr5.W g6 λ y G=>by rw[hz y G];simp,hsc,λ y G=>(Em y (aT G hS.base.ab)).trans (hS.low y G),ke hb5 g6 (by simp<;>omega)⟩,hx3,hx4⟩,l3'.W g6 (by simp<;>omega),l4'.W g6 ζ,by simp[s2,s3,s4,s7,jZ];omega⟩
 .obtain rfl:j=S.p.length:=ω
  subst cq;simp[s3,s4,jZ,Br,l3.get,e3];refine CW (aER (hW.mp.W hS.base) hW.nD) ?_;rintro pv K2 ⟨hP,AW,g2⟩;obtain⟨pid,hk,B2,Ry,pn,pt,pro,rfl,VJ,mC,qy,hpc,nJ⟩:=hP.full hW.p0;have X9:K.ab<=pid:=AW _ _ _ _ _ _ rfl;have⟨c1,a1,a2⟩:=Gr c K.ab (6,0);have hS2:=(hS.RF a1).W g2 ζ;have aIo:=hW.nD.2.2.2.2;have l32:=l3.ai g2;have l42:=l4.ai g2;have y3:=(a1 _ l3.lt).trans Ej;have y4:=(a1 _ l4.lt).trans Qh;have y5:=a2 pid X9;simp[de XD];refine CA (λ j sl K=>(∃c,fr H S.p.length (H.ab+1+1) K c mv rv h1 Yr ms mm rs rm (Hy S VL j).1 (Hy S VL j).2/\c H.ab=(6,0)/\c (H.ab+1)=(6,0)/\c pid=(6,0))/\Lv K H.ab (.cells 1 t3 false)/\Lv K (H.ab+1) (.cells 1 t4 false)/\Lv K pid (.cells pn pt pro)/\AV sl 2 (.ptr dH 0)/\AV sl 3 (.ptr H.ab 0)/\AV sl 4 (.ptr (H.ab+1) 0)/\AV sl 7 (.ptr (H.ab+1+1) 0)/\AV sl 8 (.fn (.func 116) [] [.ptr H.ab 0,.ptr (H.ab+1) 0])/\AV sl 58 (.sl pid hk 3 S.a_.length B2 Ry)/\AV sl 59 (ae (S.a_.length:Nat))/\AV sl 60 (ae (j:Nat))/\j<=S.a_.length) S.a_.length ⟨⟨c1,by simpa[Hy]using hS2,y3,y4,y5⟩,l32,l42,VJ,by simp[s2,s3,s4,s7]⟩ ?_
  clear hS2 l32 l42 y3 y4 y5 hS;rintro b2 k2-dO j Hn K3 ⟨⟨c2,hS,Ej,Qh,qw⟩,l3,l4,lp3,q2,q3,q4,q7,q8,q58,W4,yJ,hj⟩ eJ;by_cases bB:j<S.a_.length
  .have ix:j<maxLen:=by unfold maxLen;omega
   have⟨M,yi,mY⟩:=qy j bB;have gR:M=yI S.a_[j]:=mY;subst gR;have LW:=cG bB;have air:=RE (VL:=VL) bB;generalize S.a_[j]=q at yi LW air;have⟨Mv,x,Z,hxa,GR⟩:=hW.ins q LW;have aU:hk+j*3+3<=pn:=ω
   have kh:bc pt (hk+j*3) 3=some [ae (q.1:Nat),ae (q.2.1:Nat),ae (q.2.2:Nat)]:=yi;have e1:¬H.ab=K3.ab:=bC l3.lt;simp[q3,q58,W4,yJ,bB,lp3.get,aU,bY kh,e1,l3.get,e3];generalize pL:D.put _ _ _=K4;have g4:I [] K3 K4:=by rw[<-pL];exact ke ((I.refl _ _).add _) ((I.refl _ _).put (.inr ζ)) (X:=[K3.ab]) ζ
   have l10:∃t,Lv K4 K3.ab (.cells 3 t false)/\AV t 0 (ae (q.1:Nat)):=by rw[<-pL];exact⟨_,(Lv.new (H:=K3)).put_eq,ζ⟩
   clear pL;have⟨pC,l10,e10⟩:=l10;refine CW (akC (hW.mp.W (hS.base.trans g4)) Z hxa GR) ?_;rintro _ K5 ⟨⟨M,rfl,hI,-⟩,g5⟩;obtain⟨va,vl,rfl,kl,mO,-⟩:=hI;have qR:=l10.ai g5;have CT:=g4.trans g5;have⟨c3,BL,HM⟩:=Gr c2 K3.ab (6,0);have AH:=(hS.RF BL).W CT ζ;have l35:=l3.ai CT;have l45:=l4.ai CT;have lp5:=lp3.ai CT;have aId:=CT.ab;have qD:¬K3.ab=K5.ab:=bC qR.lt;simp[kl.cell,mO.cell];generalize Lc:D.put _ _ _=K6;have g6:I [] K5 K6:=by rw[<-Lc];exact ke ((I.refl _ _).add _) ((I.refl _ _).put (.inr ζ)) (X:=[K5.ab]) ζ
   have l11:∃t,Lv K6 K5.ab (.cells 8 t false)/\AV t 0 (u8 x.op)/\AV t 2 (str x.a)/\AV t 3 (str x.b):=by rw[<-Lc];exact⟨_,(Lv.new (H:=K5)).put_eq,ζ⟩
   clear Lc;have⟨t11,l11,f0,f2,f3⟩:=l11;have hS6:=AH.W g6 ζ;have l36:=l35.ai g6;have l46:=l45.ai g6;have lp6:=lp5.ai g6;have SW:=qR.ai g6;have z3:=(BL _ l3.lt).trans Ej;have z4:=(BL _ l4.lt).trans Qh;have z_p:=(BL _ lp3.lt).trans qw;have⟨t_S,l_S,u0,u1⟩:=hS6.ob;have eT:∀(bz:CX) (K7:D) (M_1 R_1:Nat->Nat->Nat),(M_1,R_1)=Hy S VL (j+1)->fr H S.p.length (H.ab+1+1) K7 c3 mv rv h1 Yr ms mm rs rm M_1 R_1->Lv K7 H.ab (.cells 1 t3 false)->Lv K7 (H.ab+1) (.cells 1 t4 false)->Lv K7 pid (.cells pn pt pro)->bz.get 2=some (.ptr dH 0)->bz.get 3=some (.ptr H.ab 0)->bz.get 4=some (.ptr (H.ab+1) 0)->bz.get 7=some (.ptr (H.ab+1+1) 0)->bz.get 8=some (.fn (.func 116) [] [.ptr H.ab 0,.ptr (H.ab+1) 0])->bz.get 58=some (.sl pid hk 3 S.a_.length B2 Ry)->bz.get 59=some (ae (S.a_.length:Nat))->bz.get 60=some (ae ((j:Int)+1))->aD E0 (.code (.loop b2)::k2) ⟨bz,176,[],none,51⟩ K7 (qb E0 [ResultVar.tmp 6] Q'):=by
    intro bz K7 M_1 R_1 hMR O U F h4 h5 h6 h7 h8 h9 xR PU LD;have e1:(Hy S VL (j+1)).1=M_1:=by rw[<-hMR]
    have e2:(Hy S VL (j+1)).2=R_1:=by rw[<-hMR]
    exact eJ ω ⟨⟨c3,by rw[e1,e2];exact O,z3,z4,z_p⟩,U,F,h4,h5,h6,h7,h8,h9,xR,PU,by simpa using LD,bB⟩
   clear eJ;rw[air]at eT;unfold E6 at eT;rw[V5 Z]at eT;dsimp only at eT;by_cases h9:x.op=9
   .rw[aq h9]at eT;have⟨idm,capm,exm,tm,em,lm,u_m,C9⟩:=hS6.m.at_ Mv;simp[h9,q7,q8,SW.get,e10,l11.get,f3,l_S.get,u0,em,lm.get,u_m,C9,Mv];have cR:∀{y:Nat},c3 y=(6,0)->y≠ms q.1/\y≠mm q.1:=λ {y} h=>⟨(λ e=>by rw[e,(hS6.m.M q.1 Mv).1]at h;cases h),(λ e=>by rw[e,(hS6.m.M q.1 Mv).2]at h;cases h)⟩;refine CW (VM hW hS6.base l36 e3 l46 e4 (hS6.m.s q.1 Mv) (cR z3) ⟨hS6.lo (by rw[(hS6.m.M q.1 Mv).1];simp),hS6.lo (by rw[(hS6.m.M q.1 Mv).2];simp)⟩) ?_;rintro v7 K7 ⟨hB7,g7⟩;have nz:∀{y:Nat},c3 y=(6,0)->y∉[ms q.1,mm q.1]:=λ {y} h B=>by simp at B;exact B.elim (cR h).1 (cR h).2
    have hS7:=hS6.putM Mv g7 hB7;have l107:=SW.W g7 (nz (HM _ (Nat.le_refl _)));have l117:=l11.W g7 (nz (HM _ ω));have⟨t_7,l_7,u07,u17⟩:=hS7.ob;have W6:=hS7.m.at_ Mv;have⟨idm7,capm7,exm7,tm7,em7,W6,um7,hcm7⟩:=W6;simp;try (refine dF (by simp[dA,dm]) ?_)
    try simp[yJ,bq ix]
    refine eT _ _ _ _ rfl hS7 (l36.W g7 (nz z3)) (l46.W g7 (nz z4)) (lp6.W g7 (nz z_p)) ?_ ?_ ?_ ?_ ?_ ?_ ?_ ?_<;>simp[q2,q3,q4,q7,q8,q58,W4]
   .rw[ao h9]at eT;by_cases h8:x.op=8
    .rw[aq h8]at eT;have⟨idm,capm,exm,tm,em,lm,u_m,C9⟩:=hS6.r.at_ Mv;simp[h8,q7,q8,SW.get,e10,l11.get,f2,l_S.get,u1,em,lm.get,u_m,C9,Mv];have cR:∀{y:Nat},c3 y=(6,0)->y≠rs q.1/\y≠rm q.1:=λ {y} h=>⟨(λ e=>by rw[e,(hS6.r.M q.1 Mv).1]at h;cases h),(λ e=>by rw[e,(hS6.r.M q.1 Mv).2]at h;cases h)⟩;refine CW (VM hW hS6.base l36 e3 l46 e4 (hS6.r.s q.1 Mv) (cR z3) ⟨hS6.lo (by rw[(hS6.r.M q.1 Mv).1];simp),hS6.lo (by rw[(hS6.r.M q.1 Mv).2];simp)⟩) ?_;rintro v7 K7 ⟨hB7,g7⟩;have nz:∀{y:Nat},c3 y=(6,0)->y∉[rs q.1,rm q.1]:=λ {y} h B=>by simp at B;exact B.elim (cR h).1 (cR h).2
     have hS7:=hS6.putR Mv g7 hB7;have l107:=SW.W g7 (nz (HM _ (Nat.le_refl _)));have l117:=l11.W g7 (nz (HM _ ω));have⟨t_7,l_7,u07,u17⟩:=hS7.ob;have W6:=hS7.r.at_ Mv;have⟨idm7,capm7,exm7,tm7,em7,W6,um7,hcm7⟩:=W6;simp;try (refine dF (by simp[dA,dm]) ?_)
     try simp[yJ,bq ix]
     refine eT _ _ _ _ rfl hS7 (l36.W g7 (nz z3)) (l46.W g7 (nz z4)) (lp6.W g7 (nz z_p)) ?_ ?_ ?_ ?_ ?_ ?_ ?_ ?_<;>simp[q2,q3,q4,q7,q8,q58,W4]
    .rw[ao h8]at eT;simp[h9,h8,yJ,bq ix];refine eT _ _ _ _ rfl hS6 l36 l46 lp6 ?_ ?_ ?_ ?_ ?_ ?_ ?_ ?_<;>simp[q2,q3,q4,q7,q8,q58,W4]
  .obtain rfl:j=S.a_.length:=ω
   subst dO;simp[q2,W4,yJ];refine CW (hW.gra K3 hS.base) ?_;rintro gv K4 ⟨hG,g4⟩;have EK:=hS.W g4 ζ;have Vg:Hy S VL S.a_.length=S.a_.foldl (E6 S VL) (λ _ _=>0,λ _ _=>0):=by unfold Hy;rw[List.take_length]
   rw[Vg]at EK;have bm:∀i,i<S.p.length->(ms i<K3.ab/\mm i<K3.ab)/\rs i<K3.ab/\rm i<K3.ab:=λ i A=>⟨(hS.m.s i A).R4,(hS.r.s i A).R4⟩;clear l3 l4 lp3 hS Vg eJ ih;generalize S.a_.foldl (E6 S VL) (λ _ _=>0,λ _ _=>0)=B_0 at EK hQ;have⟨NB,R0⟩:=B_0;dsimp only at EK;have rP:=hW.gl;obtain⟨gk,hgk⟩:∃gk:Nat->BW,gk=λ f=>dW.getD f []:=⟨_,rfl⟩;have kj:∀f (h:f<dW.length),dW[f]=gk f:=λ f h=>by rw[hgk];simp[h]
   have AW:∀f,f<dW.length->∀k∈gk f,0<=k/\k<S.p.length:=λ f h k Q=>by rw[<-kj f h]at Q;exact hW.ge _ (cG h) k Q
   simp;refine bu (α:=(Nat->Nat->Nat)×(Nat->Nat->Nat)×Bool) (aJ:=λ z sl K=>fr H S.p.length (H.ab+1+1) K c2 mv rv h1 Yr ms mm rs rm z.1 z.2.1/\GI K3.ab K gv dW/\(z.2.2=false->∀f,f<dW.length->∀k∈gk f,yq (z.1 k.toNat) (z.1 f)/\yq (z.2.1 k.toNat) (z.2.1 f))/\sM dW NB z.1/\sM dW R0 z.2.1/\AV sl 7 (.ptr (H.ab+1+1) 0)/\AV sl 13 gv/\AV sl 14 (bl z.2.2)) (mu:=λ z=>2*(LP z.1 S.p.length+LP z.2.1 S.p.length)+if z.2.2=true then 1 else 0) ?_ (NB,R0,true) _ _ ?ini5;case ini5=>exact⟨EK,hG,λ e=>(by cases e),⟨λ _ _ h=>h,λ f o h=>⟨f,.refl f,h⟩⟩,⟨λ _ _ h=>h,λ f o h=>⟨f,.refl f,h⟩⟩,by simp[q7]⟩
   rintro b3 k3-jU ⟨aD,R,b⟩ sl3 K5 ⟨AH,hG5,eN,G4,G3,r7,W5,r14⟩ jg;dsimp only at AH eN G4 G3 r14 jg;cases b with
   |false=>
    subst jU
    simp[r7,r14]
    exact hQ ⟨_,aD,R,rfl,⟨⟨_,_,_,_,_,_,_,_,_,AH⟩,λ f hf k Q=>eN rfl f ω k (by rw[hgk];exact Q),G4,G3⟩⟩
   |true=>
    have hgl5:=hG5.sl.aN yO
    simp[W5,r14,hgl5]
    refine bu (α:=Nat×(Nat->Nat->Nat)×(Nat->Nat->Nat)×Bool) (aJ:=λ z sl K=>fr H S.p.length (H.ab+1+1) K c2 mv rv h1 Yr ms mm rs rm z.2.1 z.2.2.1/\GI K3.ab K gv dW/\B7 S.p.length gk aD R z.2.1 z.2.2.1 z.2.2.2 z.1 0/\sM dW NB z.2.1/\sM dW R0 z.2.2.1/\AV sl 7 (.ptr (H.ab+1+1) 0)/\AV sl 13 gv/\AV sl 14 (bl z.2.2.2)/\AV sl 108 gv/\AV sl 109 (ae (dW.length:Nat))/\AV sl 110 (ae (z.1:Nat))/\z.1<=dW.length) (mu:=λ z=>dW.length-z.1) ?_ (0,aD,R,false) _ _ ?ini6
    case ini6=>
     refine⟨AH,hG5,⟨λ _=>⟨rfl,rfl,λ f k h=>?_⟩,λ e=>(by cases e)⟩,G4,G3,by simp[r7,W5]⟩
     rcases h with⟨h,-⟩|⟨-,h⟩
     .omega
     .simp at h
    rintro b4 k4-Qt ⟨f,M2,R2,b2⟩ RS K6 ⟨hS6,hG6,hP,G4,G3,u7,u13,u14,VQ,QV,G5,hf⟩ QU
    dsimp only at hS6 hP G4 G3 u14 G5 hf QU
    by_cases iw:f<dW.length
    .have Eu:f<maxLen:=by unfold maxLen;omega
     have hfp:f<S.p.length:=ω
     obtain⟨idg,aIO,aHb,exg,ng,tg,rog,ug,hvg,lg,hgl6,hgu,hNu,-⟩:=hG6.row iw;rw[kj f iw]at hNu;have MK:=hNu.sl.aN bK;have sJ:=hNu.sl.cP;simp[VQ,QV,G5,iw,hvg,lg.get,hgl6,hgu,MK];refine bu (α:=Nat×(Nat->Nat->Nat)×(Nat->Nat->Nat)×Bool) (aJ:=λ z sl K=>fr H S.p.length (H.ab+1+1) K c2 mv rv h1 Yr ms mm rs rm z.2.1 z.2.2.1/\GI K3.ab K gv dW/\NI K3.ab K ug (gk f)/\B7 S.p.length gk aD R z.2.1 z.2.2.1 z.2.2.2 f z.1/\sM dW NB z.2.1/\sM dW R0 z.2.2.1/\AV sl 7 (.ptr (H.ab+1+1) 0)/\AV sl 13 gv/\AV sl 14 (bl z.2.2.2)/\AV sl 108 gv/\AV sl 109 (ae (dW.length:Nat))/\AV sl 110 (ae (f:Nat))/\AV sl 15 (ae (f:Nat))/\AV sl 115 ug/\AV sl 116 (ae ((gk f).length:Nat))/\AV sl 117 (ae (z.1:Nat))/\z.1<=(gk f).length) (mu:=λ z=>(gk f).length-z.1) ?_ (0,M2,R2,b2) _ _ ?ini7;case ini7=>exact⟨hS6,hG6,hNu,hP,G4,G3,by simp[u7,u13,u14,VQ,QV,G5,hvg]⟩
     clear hS6 hG6 hNu hP G4 G3 u7 u13 u14 VQ QV G5;rintro b5 C1-hk5 ⟨t,M_3,R3,b3'⟩ sl5 K7 ⟨hS7,hG7,hN7,hP,G4,G3,w7,w13,w14,w108,w109,w110,w15,w115,VP,PT,ht⟩ ih5;dsimp only at hS7 hP G4 G3 w14 PT ht ih5;by_cases htn:t<(gk f).length
     .have htm:t<maxLen:=ω
      have⟨vz,cq⟩:=AW f iw _ (cG htn);have⟨idt,offt,capt,ext,nt,tt_,rot,ct,hvt,lt_,S0,C2,hRct⟩:=hN7.sl.gL htn;have AP:ct=ae (gk f)[t]:=by have:[ct]=[ae (gk f)[t]]:=hRct;simpa using this
      subst AP;have eH:=λ {b1 b2:Bool} {W_1 W_2:Nat->Nat}=>hP.step (b1:=b1) (b2:=b2) (W_1:=W_1) (W_2:=W_2) hfp htn;have U7:(gk f)[t]∈dW.getD f []:=by rw[show dW.getD f []=gk f by rw[hgk]];exact cG htn
      generalize(gk f)[t]=kz at vz cq C2 eH U7;obtain⟨k,rfl⟩:∃k:Nat,kz=(k:Int):=⟨kz.toNat,ω⟩;rw[show((k:Nat):Int).toNat=k from rfl]at eH;have mA:k<S.p.length:=ω
      have⟨t_o,l_o,x0,x1⟩:=hS7.ob;have pair:∀{K:D} {kk:Nat} {mv':J} {aL:AT} {m1 m2:Nat->Nat} {aD:Nat->Nat->Nat},hi K kk S.p.length c2 mv' aL m1 m2 aD->∃id ax ex t,mv'=.sl id 0 1 S.p.length ax ex/\Lv K id (.cells ax t false)/\t.get f=some (.ptr (m1 f) 0)/\f<ax/\t.get k=some (.ptr (m1 k) 0)/\k<ax:=λ h=>by have⟨i_a,ca,xa_,ta,ea,la,Gw,zF⟩:=h.at_ hfp;have⟨i_b,cb,xb_,tb,eb,lb,bR,eG⟩:=h.at_ mA;have e1:=ea.symm.trans eb;simp at e1;obtain⟨rfl,rfl,rfl⟩:=e1;have e2:=la.get.symm.trans lb.get;simp at e2;subst e2;exact⟨_,_,_,_,ea,la,Gw,zF,bR,eG⟩
      have⟨i_a,ca,xa_,ta,ea,la,Gw,zF,bR,eG⟩:=pair hS7.m;simp[w7,w15,w115,VP,PT,htn,hvt,lt_.get,S0,C2,l_o.get,x0,ea,la.get,Gw,zF,bR,eG,de B3,hfp,mA];refine CW (G7 hS7.m hfp mA) ?_;rintro _ K8 ⟨b1,W_1,rfl,hB8,g8,hU1⟩;have mo:=hS7.putM hfp g8 hB8;have hx8:∀x∈[ms f,mm f],x<K3.ab:=λ x Z=>by
       simp at Z;rcases Z with rfl|rfl
       .exact(bm f hfp).1.1
       .exact(bm f hfp).1.2
      have hG8:=hG7.IM g8 hx8;have hN8:=hN7.W g8 hx8;have⟨t_o8,l_o8,y0,y1⟩:=mo.ob;have⟨ia8,ca8,xa8,ta8,ea8,la8,ha18,ha28,hb18,hb28⟩:=pair mo.m;have⟨i_c,cc,x_c,tc,ec,lc,og,k8,hd1,hd2⟩:=pair mo.r;cases b1;all_goals
       simp[w7,w14,w15,l_o8.get,y1,ec,lc.get,og,k8,hd1,hd2,hfp,mA];refine CW (G7 mo.r hfp mA) ?_;rintro _ K9 ⟨b2,W_2,rfl,hB9,g9,hU2⟩;have T1:=mo.putR hfp g9 hB9;have hx9:∀x∈[rs f,rm f],x<K3.ab:=λ x Z=>by
        simp at Z;rcases Z with rfl|rfl
        .exact(bm f hfp).2.1
        .exact(bm f hfp).2.2
       have hG9:=hG8.IM g9 hx9;have P3:=hN8.W g9 hx9;have Mt:=eH hU1 hU2;cases b2;all_goals simp[PT,bq htm];exact ih5 (t+1,aM M_3 f W_1,aM R3 f W_2,_) _ _ (by show _-(t+1)<_-t;omega) ⟨T1,hG9,P3,Mt,G4.aM hU1 ω U7,G3.aM hU2 ω U7,by simp[w7,w13,w15,w108,w109,w110,w115,VP];omega⟩
     .obtain rfl:t=(gk f).length:=ω
      subst hk5;simp[w110,VP,PT,bq Eu];refine QU (f+1,M_3,R3,b3') _ _ (by show _-(f+1)<_-f;omega) ⟨hS7,hG7,⟨λ e=>?_,hP.lt⟩,G4,G3,by simp[w7,w13,w14,w108,w109];omega⟩;have⟨e1,e2,e3⟩:=hP.eq e;refine⟨e1,e2,λ f' k' h'=>e3 f' k' ?_⟩;rcases h' with⟨O,U⟩|⟨-,U⟩
      .by_cases e4:f'=f
       .subst e4;exact .inr ⟨rfl,by rw[iF];exact U⟩
       .exact .inl ⟨ω,U⟩
      .simp at U
    .obtain rfl:f=dW.length:=ω
     subst Qt;simp[QV,G5];refine jg (M2,R2,b2) _ _ ?_ ⟨hS6,hG6,λ e f' kf k' iI=>?_,G4,G3,by simp[u7,u13,u14]⟩
     .cases b2 with
      |true=>have:=hP.lt rfl;simp;omega
      |false=>obtain⟨e1,e2,-⟩:=hP.eq rfl;subst e1;subst e2;simp
     .dsimp only at e⊢;have⟨e1,e2,e3⟩:=hP.eq e;subst e1;subst e2;exact e3 f' k' (.inl ⟨kf,iI⟩)
section
variable{H K T:D}{n pY f:Nat}{dW:List BW}{G1:(Nat->Nat->Nat)×(Nat->Nat->Nat)}{aD R:Nat->Nat->Nat}
theorem tB.ai(h:tB H n pY K dW G1 aD R)(g:I [] K T):tB H n pY T dW G1 aD R:=by have⟨c,mv,rv,h1,Yr,ms,mm,rs,rm,hS⟩:=h.ex;exact{h with ex:=⟨c,mv,rv,h1,Yr,ms,mm,rs,rm,hS.W g ζ⟩}
theorem Jn(h:tB H n pY K dW G1 aD R)(hf:f<n):CN 119 [.ptr pY 0,ae (f:Nat)] K λ v T=>T=K/\v=bl true:=by
 have⟨c,mv,rv,h1,Yr,ms,mm,rs,rm,hS⟩:=h.ex;have⟨t,l,x0,x1⟩:=hS.ob;have⟨i_a,ca,x_a,ta,ea,la,Gw,zF⟩:=hS.m.at_ hf;refine ba o119 rfl λ Q' hQ=>?_;have h0:(0:Int)<=(f:Int):=ω
 simp[l.get,x0,ea,de B3,h0,hf];exact hQ ⟨rfl,rfl⟩
theorem mMod(h:tB H n pY K dW G1 aD R)(hT:xn K)(hf:f<n):CN 53 [.ptr pY 0,ae (f:Nat)] K λ v T=>aW T 1 (One λ n=>ae n) v (iY (jW (aD f)))/\I [] K T:=by have ht:=Jn h hf;have⟨c,mv,rv,h1,Yr,ms,mm,rs,rm,hS⟩:=h.ex;have⟨t,l,x0,x1⟩:=hS.ob;have⟨i_a,ca,x_a,ta,ea,la,Gw,zF⟩:=hS.m.at_ hf;refine ba o53 rfl λ Q' hQ=>?_;simp[cE ht,l.get,x0,ea,la.get,Gw,zF,hf];refine CW (Wl (hS.m.s f hf) hT) ?_;rintro v K2 ⟨⟨aL,hv,-⟩,g⟩;simp;exact hQ ⟨hv.aZ,g⟩
theorem mRef(h:tB H n pY K dW G1 aD R)(hT:xn K)(hf:f<n):CN 54 [.ptr pY 0,ae (f:Nat)] K λ v T=>aW T 1 (One λ n=>ae n) v (iY (jW (R f)))/\I [] K T:=by have ht:=Jn h hf;have⟨c,mv,rv,h1,Yr,ms,mm,rs,rm,hS⟩:=h.ex;have⟨t,l,x0,x1⟩:=hS.ob;have⟨i_a,ca,x_a,ta,ea,la,Gw,zF⟩:=hS.r.at_ hf;refine ba o54 rfl λ Q' hQ=>?_;simp[cE ht,l.get,x1,ea,la.get,Gw,zF,hf];refine CW (Wl (hS.r.s f hf) hT) ?_;rintro v K2 ⟨⟨aL,hv,-⟩,g⟩;simp;exact hQ ⟨hv.aZ,g⟩
end
theorem o9T:(fq 9,())=(some Tryz.f9,()):=κ
theorem oI(H:D):CN 50 [] H λ w K=>K=H/\w=bl true:=Ht (n:=3) au6 rfl ⟨rfl,rfl⟩
def o_9:=fe (jd o9T)
theorem base_gr(hH:X.HB=H)(h:fM X K L aA V):I [] H K:=by have⟨t,tn,tf,mn,mf,cn,cf,en,ef,dv,hO⟩:=h;rw[<-hH];exact hO.base
theorem D1.base{H K:D}{mid a n dH:Nat}{dW:Nat->BW}(h:D1 H mid a n dH K dW):I [] H K:=by obtain⟨p5,m,g',c,t,C,O,-⟩:=h.ex;exact O.base
theorem E1{L:List Pt}{n:Nat}(hB:∀q∈L,(au q).length<=4194304)(hl:L.length<=1024)(i:Nat):(kK au L n i).length<=1099511627776:=by
 have h0:(B8 au L L.length i).length<=1099511627776:=by
  have O:=h3 (g:=λ q:Pt=>if q.1=i then au q else[]) (aG:=4194304) L λ x Z=>by
   split
   .exact hB x Z
   .exact dQ _
  unfold B8;rw[iF];have:=nW 4194304 hl;omega
 unfold kK;split
 .exact aY ZG (by rw[M5];exact h0)
 .exact h0
theorem LF{L:List Pt}{i:Nat}(hF:∀q∈L,∀f∈au q,0<=f/\f<b):∀f∈kK au L b i,0<=f/\f<b:=λ f hf=>by
 have h0:∀f∈B8 au L L.length i,0<=f/\f<b:=λ f hf=>by
  unfold B8 at hf;rw[iF]at hf;have⟨q,O,U⟩:=List.mem_flatMap.1 hf;split at U
  .exact hF q O f U
  .simp at U
 unfold kK at hf;split at hf
 .rw[apc,(yB _).mem_iff]at hf;exact h0 f hf
 .exact h0 f hf
theorem E3{p:List aQ}(hW:pF p)(hA:HH p)(hL:SC p)(hM:lu K b (bj p))(hX:X.S=bj p)(hFX:An X)(hR:fM X K L V.first V)(hC:VE K b L.a (bj p) (C3 X V))(hO:D1 K b L.a p.length dH H (kK (C3 X V) (bj p).a_ p.length)):ModW H b L.a dH (bj p) (jk X V) ((List.range p.length).map (kK (C3 X V) (bj p).a_ p.length)):=by
 have hp:=pT p;have hn:=Sf hW;have LG:=E1 (n:=p.length) (λ q hq=>(hC.C4 q hq).1) hC.p1;refine⟨hM.W hO.base,hC.nD,hC.n0,hC.n1,hC.p0,λ q hq=>?_,λ T g v=>yX ((hR.ai hO.base).ai g) v,λ v o ho=>Sd hR hFX ho,λ T g=>?_,by rw[hp];simp,λ l hl f hf=>?_⟩
 .have⟨x,Z⟩:=abx q hq;rw[hp];exact⟨(VO Z).1,x,Z,hA _ _ _ _ Z,hL _ _ _ _ Z⟩
 .obtain⟨p5,mm,gg,cc,tt,C,hS,-⟩:=(hO.ai g).ex;exact T4 hS hn.2 LG
 .obtain⟨i,-,rfl⟩:=jn.1 hl;have O:=LF (i:=i) (λ q hq=>(hC.C4 q hq).2);rw[hp]at O⊢;exact O f hf
theorem Rch.sub{aD:Nat->Nat->Nat}(h:Rch g a b)(ha:a<g.length)(hc:∀f,f<g.length->∀k∈g.getD f [],yq (aD k.toNat) (aD f)):b<g.length/\yq (aD b) (aD a):=by induction h with|refl=>exact⟨ha,λ _ h=>h⟩|step _ hl B ih=>exact⟨hl,λ o ho=>ih.2 o (hc _ ih.1 _ B o ho)⟩
def CP(S:SM)(VL:Int->AT)(k:Int)(o:Nat)(q:Pt):Bool:=match Js S.p q with|none=>false|some i=>decide (i.op=k)&&decide (o∈VL (S.aV q.1 (if i.op=9 then i.b else i.a)))
theorem VI{S:SM}{VL:Int->AT}(g o:Nat):∀(L:List Pt) (x:(Nat->Nat->Nat)×(Nat->Nat->Nat)),(cC ((L.foldl (E6 S VL) x).1 g) o=true↔cC (x.1 g) o=true\/o<S.of.length/\∃q∈L,q.1=g/\CP S VL 9 o q=true)/\(cC ((L.foldl (E6 S VL) x).2 g) o=true↔cC (x.2 g) o=true\/o<S.of.length/\∃q∈L,q.1=g/\CP S VL 8 o q=true)
 |[],x=>ζ
 |q::L,x=>by
  have key:∀{aD:Nat->Nat->Nat} {l:AT},cC (aM aD q.1 (oM S.of.length (aD q.1) l) g) o=true↔cC (aD g) o=true\/o<S.of.length/\q.1=g/\o∈l:=λ {aD l}=>by
   by_cases e:g=q.1
   .subst e;rw[fE,EI];simp[and_comm]
   .rw[gG e];simp[qj e]
  have k1:(cC ((E6 S VL x q).1 g) o=true↔cC (x.1 g) o=true\/o<S.of.length/\q.1=g/\CP S VL 9 o q=true)/\(cC ((E6 S VL x q).2 g) o=true↔cC (x.2 g) o=true\/o<S.of.length/\q.1=g/\CP S VL 8 o q=true):=by
   unfold E6 CP;cases Js S.p q with
   |none=>simp
   |some i=>
    dsimp only
    by_cases h9:i.op=9
    .simp only[aq h9,key];simp[h9]
    .by_cases h8:i.op=8
     .simp only[ao h9,aq h8,key];simp[h8]
     .simp[h9,h8]
  have h:=VI (S:=S) (VL:=VL) g o L (E6 S VL x q)
  rw[DV,h.1,h.2,k1.1,k1.2]
  simp only[cZ,and_or_left,Tk,OH,or_and_right,exists_or,exists_eq_left]
theorem EC{dW:List BW}{aD:Nat->Nat->Nat}{k:Int}{out:Nat->Bool}(hs:sM dW aR aD)(hc:∀f,f<dW.length->∀k∈dW.getD f [],yq (aD k.toNat) (aD f))(hA:∀g,cC (aR g) b=true↔b<S.of.length/\∃q∈S.a_,q.1=g/\CP S VL k b q=true)(ho:∀x,out x=true↔Rcf dW [(f:Int)] x)(hf:f<dW.length):cC (aD f) b=(decide (b<S.of.length)&&S.a_.any λ q=>out q.1&&CP S VL k b q):=by
 rw[qH,v8,rK,YB];constructor
 .intro h;have⟨g,g1,g2⟩:=hs.src f b h;obtain⟨O,q,U,rfl,F⟩:=(hA g).1 g2;exact⟨O,q,U,by rw[F,(ho _).2 ⟨f,ζ,hf,g1⟩];rfl⟩
 .rintro⟨O,q,U,F⟩;rw[v8]at F;have⟨x,x1,x2,x3⟩:=(ho _).1 F.1;obtain rfl:x=f:=SP (jo.1 x1);exact(x3.sub hf hc).2 b (hs.inc _ b ((hA _).2 ⟨O,q,U,rfl,F.2⟩))
theorem hasW(hs:aW H 1 (One λ n=>ae n) v' (iY (jW aA)))(hw:kA aA)(o:Nat):CN 46 [v',ae (o:Nat)] H λ u K=>K=H/\u=bl (cC aA o):=by
 have h:=ahp (o:Int) hs;have e:decide ((o:Int)∈iY (jW aA))=cC aA o:=by rw[qH,rK,<-Dm hw];unfold iY;rw[jn];exact⟨λ ⟨x,O,U⟩=>(show x=o by omega)▸O,λ O=>⟨o,O,rfl⟩⟩
 rw[e]at h;exact h
theorem tB.wd{H K:D}{n pY f:Nat}{dW:List BW}{G1:(Nat->Nat->Nat)×(Nat->Nat->Nat)}{aD R:Nat->Nat->Nat}(h:tB H n pY K dW G1 aD R)(hf:f<n):kA (aD f)/\kA (R f):=by have⟨c,mv,rv,h1,Yr,ms,mm,rs,rm,hS⟩:=h.ex;exact⟨(hS.m.s f hf).wd,(hS.r.s f hf).wd⟩
theorem tB.base{H K:D}{n pY:Nat}{dW:List BW}{G1:(Nat->Nat->Nat)×(Nat->Nat->Nat)}{aD R:Nat->Nat->Nat}(h:tB H n pY K dW G1 aD R):I [] H K:=by have⟨c,mv,rv,h1,Yr,ms,mm,rs,rm,hS⟩:=h.ex;exact hS.base
theorem La(fk:V.Ok (bJ X.S) X.N)(hN:X.N=X.S.vars.length+X.S.of.length)(v:Int)(o:Nat):Gx X V v o=decide (o∈jk X V v):=by rw[qH,rK,ayg fk hN];unfold Gx;simp[and_assoc]
theorem W7{p:List aQ}(hp:oO H v' p)(hz:ij p<=1048576)(ht:uK (λ x=>x.args.length) p<=1048576)(hl:uK (λ x=>x.eh.length) p<=1048576)(hT:xn H):CN 9 [.agg [v']] H λ v _=>v=bl true:=by
 refine ba o_9 rfl λ Q' hQ=>?_;simp[hp.cell,hp.co];generalize pK:D.add _ _=K0;have g0:I [] H K0:=by rw[<-pK];exact(I.refl _ _).add _
 have l1:Lv K0 H.ab (.cells 1 (Tr.e.put 0 (some v')) false):=by rw[<-pK];exact Lv.new
 clear pK;try simp[l1.get]
 refine CW (atG (hp.zB g0) hz) ?_;rintro _ K1 ⟨⟨b,rfl,hb⟩,g1⟩;cases b with
 |true=>
  simp[cE (oI _)]
  exact hQ rfl
 |false=>
  have hF:Fit p:=⟨hb rfl,ht,hl⟩
  have A_:=l1.ai g1
  simp[A_.get]
  have hSA:HH p:=λ f b i x ha=>by have:=Xr (w:=λ x=>x.args.length) ha;omega
  have hSL:SC p:=λ f b i x ha=>by have:=Xr (w:=λ x=>x.eh.length) ha;omega
  refine CW (azc ((hp.zB g0).zB g1) hSA hSL agE) ?_
  rintro _ K2 ⟨rfl|⟨hW,id,rfl,hMI⟩,g2⟩
  .simp[cE (oI _)]
   exact hQ rfl
  have hM:=hMI.mp
  have UA:=aem hW hF
  have Uy:=alL hW hF
  have eX:=(hT.W (g0.trans g1)).W g2
  simp
  refine CW (aEX hM eX UA Uy) ?_
  rintro _ K3 ⟨X,L,rfl,xS,Sg,-,-,xN,f_⟩
  have fo:=base_gr Sg f_
  have hM3:=hM.W fo
  have hFX:An X:=⟨by rw[xS];exact UA,by rw[xN,xS]⟩
  have hI:=(SV.ad0 Uy.si Uy.rel).2
  have fk:(Bv (bj p)).Ok (bJ (bj p)) X.N:=by rw[xN];exact hI.ok
  have n9:X.N=X.S.vars.length+X.S.of.length:=by rw[xN,xS]
  have hCW:=E4 hW hF hSA hSL hM3 xS hFX f_ fk n9
  simp
  refine CW (Gv hCW) ?_
  rintro _ K4 ⟨dH,rfl,Gq⟩
  have ahH:=agE hW
  have hn:=pT p
  have avG:=(Sf hW).2
  have LG:=E1 (n:=p.length) (λ q hq=>(hCW.C4 q hq).1) hCW.p1
  rw[hn]at Gq
  have hMW:=E3 hW hSA hSL hM3 xS hFX f_ hCW Gq
  simp
  refine CW (CY hMW) ?_
  rintro _ K5 ⟨pY,aD,R,rfl,hD5⟩
  rw[hn]at hD5
  have g45:=hD5.base
  have hM5:=(hM3.W Gq.base).W g45
  have hT5:=((eX.W fo).W Gq.base).W g45
  have Ef:=(f_.ai Gq.base).ai g45
  have hp5:=((((((hp.zB g0).zB g1).zB g2).zB fo).zB Gq.base).zB g45)
  have l15:=((((A_.ai g2).ai fo).ai Gq.base).ai g45)
  simp
  refine CW (aER hM5 ahH) ?_
  rintro pv K6 ⟨hP,-,g6⟩
  obtain⟨pid,hk,B2,Ry,pn,pt,pro,rfl,VJ,mC,qy,hpc,nJ⟩:=hP.full hCW.p0
  have aIo:=ahH.2.2.2.2
  have hG0:=hMW.gra
  have rP:=hMW.gl
  rw[hn]at rP
  have U3:=hMW.ins
  have hus:=λ g o=>VI (S:=bj p) (VL:=jk X (Bv (bj p))) g o (bj p).a_ (λ _ _=>0,λ _ _=>0)
  have hhv:=La (X:=X) (V:=Bv (bj p)) (by rw[xS];exact fk) n9
  generalize((List.range p.length).map (kK (C3 X (Bv (bj p))) (bj p).a_ p.length))=dW at hD5 hG0 rP
  generalize List.foldl (E6 (bj p) (jk X (Bv (bj p)))) (λ _ _=>0,λ _ _=>0) (bj p).a_=G1 at hD5 hus
  simp
  refine CA (λ f sl K=>I [] K6 K/\AV sl 1 (.ptr H.ab 0)/\AV sl 3 (.ptr id 0)/\AV sl 5 (.ptr L.a 0)/\AV sl 6 (.ptr dH 0)/\AV sl 7 (.ptr pY 0)/\AV sl 8 (.sl pid hk 3 (bj p).a_.length B2 Ry)/\AV sl 9 (ae (f:Nat))/\f<=p.length) p.length ⟨I.refl _ _,ζ⟩ ?_
  rintro b1 k1-cq f sl K ⟨gK,s1,s3,s5,s6,s7,s8,s9,hf⟩ ih
  have g5K:=g6.trans gK
  have hlK:=((hp5.zB g6).zB gK).aN nf
  have zU:=(l15.ai g6).ai gK
  by_cases iw:f<p.length
  .have Eu:f<maxLen:=by unfold maxLen;omega
   simp[s1,s6,s9,zU.get,hlK,iw];refine CW (hG0 K (g45.trans g5K)) ?_;rintro gv K7 ⟨hG7,g7⟩;simp[s9];generalize VK:D.add _ _=K8;have l8:Lv K8 K7.ab (.cells 1 (Tr.e.put 0 (some (ae (f:Nat)))) false):=by rw[<-VK];exact Lv.new
   have g8:I [] K7 K8:=by rw[<-VK];exact(I.refl _ _).add _
   clear VK;have hNI:NI 0 K8 (.sl K7.ab 0 1 1 1 true) [(f:Int)]:=NI.own (aH:=[K7.ab]) (.kq l8 rfl (λ j hj=>by
    obtain rfl:j=0:=ω
    simp) (Nat.le_refl _) (λ h=>by cases h) (by unfold maxLen;omega)) (λ _ _=>Nat.zero_le _)
   refine CW (rxc ((hG7.mono (dQ _)).ai g8) ω hNI) ?_;rintro tv K9 ⟨⟨out,hto,pQ⟩,g9⟩;have g69:=((gK.trans g7).trans g8).trans g9;have g59:=g6.trans g69;have hD9:=hD5.ai g59;have⟨w_M,w_R⟩:=hD9.wd iw;have e_M:∀o,cC (aD f) o=_:=λ o=>EC (k:=9) hD9.s_M (λ f hf k Q=>(hD9.cl f ω k Q).1) (λ g=>by have:=(hus g o).1;simpa[cC]using this) pQ ω;have e_R:∀o,cC (R f) o=_:=λ o=>EC (k:=8) hD9.s_R (λ f hf k Q=>(hD9.cl f ω k Q).2) (λ g=>by have:=(hus g o).2;simpa[cC]using this) pQ ω;simp;refine CA (λ o sl K=>I [] K9 K/\AV sl 1 (.ptr H.ab 0)/\AV sl 3 (.ptr id 0)/\AV sl 5 (.ptr L.a 0)/\AV sl 6 (.ptr dH 0)/\AV sl 7 (.ptr pY 0)/\AV sl 8 (.sl pid hk 3 (bj p).a_.length B2 Ry)/\AV sl 9 (ae (f:Nat))/\AV sl 10 tv/\AV sl 11 (ae (o:Nat))/\o<=(bj p).of.length+(bj p).p.length) ((bj p).of.length+(bj p).p.length) ⟨I.refl _ _,by simp[s1,s3,s5,s6,s7,s8,s9]⟩ ?_
   rintro b2 k2-dO o Hn K_A ⟨gA,q1,q3,q5,q6,q7,q8,q9,bo,q11,ho⟩ eJ;have g5A:=g59.trans gA;have jB:=smObjs (hM5.W g5A) ahH (by rw[hn];omega);by_cases hon:o<(bj p).of.length+(bj p).p.length
   .have hoi:(o:Int)<((bj p).of.length:Int)+((bj p).p.length:Int):=ω
    have hom:o<maxLen:=by have:=avG;rw[hn]at hon;have⟨f1,f2,f3,f4,f5⟩:=ahH;unfold maxLen;omega
    have ho62:o<4611686018427387904:=by have:=avG;rw[hn]at hon;have⟨f1,f2,f3,f4,f5⟩:=ahH;omega
    simp[q3,q11,cE jB,hoi];refine CA (λ i sl K=>I [] K_A K/\AV sl 1 (.ptr H.ab 0)/\AV sl 3 (.ptr id 0)/\AV sl 5 (.ptr L.a 0)/\AV sl 6 (.ptr dH 0)/\AV sl 7 (.ptr pY 0)/\AV sl 8 (.sl pid hk 3 (bj p).a_.length B2 Ry)/\AV sl 9 (ae (f:Nat))/\AV sl 10 tv/\AV sl 11 (ae (o:Nat))/\AV sl 12 (bl (((bj p).a_.take i).any λ q=>out q.1&&CP (bj p) (jk X (Bv (bj p))) 9 o q))/\AV sl 13 (bl (((bj p).a_.take i).any λ q=>out q.1&&CP (bj p) (jk X (Bv (bj p))) 8 o q))/\AV sl 14 (ae (i:Nat))/\i<=(bj p).a_.length) ((bj p).a_.length) ⟨I.refl _ _,by simp[q1,q3,q5,q6,q7,q8,q9,bo,q11]⟩ ?_
    clear q1 q3 q5 q6 q7 q8 q9 bo q11;rintro b3 k3-jU i sl3 K_B ⟨gB,r1,r3,r5,r6,r7,r8,r9,RD,r11,r12,W5,r14,A⟩ jg;have g5B:=g5A.trans gB;by_cases az:i<(bj p).a_.length
    .have jA:i<maxLen:=by unfold maxLen;omega
     have⟨M,yi,mY⟩:=qy i az;have gR:M=yI (bj p).a_[i]:=mY;subst gR;have LW:=cG az;have GN:∀g:Pt->Bool,((bj p).a_.take (i+1)).any g=(((bj p).a_.take i).any g||g (bj p).a_[i]):=λ g=>by rw[KK az,List.any_append];simp
     generalize(bj p).a_[i]=q at yi LW GN;have⟨Mv,x,Z,hxa,GR⟩:=U3 q LW;rw[hn]at Mv;have aU:hk+i*3+3<=pn:=ω
     have iy:hk+i*3<pn:=ω
     have kh:bc pt (hk+i*3) 3=some [ae (q.1:Nat),ae (q.2.1:Nat),ae (q.2.2:Nat)]:=yi;have hg0:pt.get (hk+i*3)=some (ae (q.1:Nat)):=by simpa using(iB.1 kh).2 0 ζ
     have lpB:=((VJ.ai g69).ai gA).ai gB;have⟨idt,offt,capt,ext,nt,t_t,rot,ct,hvt,lt_,S0,C2,hRct⟩:=((hto.fZ gA).fZ gB).gL (i:=q.1) ξ;have AP:ct=bl (out q.1):=by have h0:[ct]=[_]:=hRct;simpa using h0
     subst AP;have hqG:q.1<dW.length:=ω
     cases hq:out q.1 with
     |false=>
      rw[hq]at C2
      simp[r8,RD,r14,az,de XD,lpB.get,aU,iy,hg0,hvt,lt_.get,S0,C2,hqG,Mv,bq jA]
      exact jg ω ⟨gB,by simp[r1,r3,r5,r6,r7,r8,r9,RD,r11,r12,W5,GN,hq];omega⟩
     |true=>
      rw[hq]at C2
      have X8:∀k:Int,CP (bj p) (jk X (Bv (bj p))) k o q=(decide (x.op=k)&&Gx X (Bv (bj p)) ((bj p).aV q.1 (if x.op=9 then x.b else x.a)) o):=λ k=>by rw[hhv];unfold CP;rw[V5 Z]
      simp[r3,r8,RD,r14,az,de XD,lpB.get,aU,iy,hg0,bY kh,hvt,lt_.get,S0,C2,hqG,Mv]
      refine CW (akC (hM5.W g5B) Z hxa GR) ?_
      rintro _ K_C ⟨⟨M,rfl,hI,-⟩,g_C⟩
      obtain⟨va,vl,rfl,kl,mO,-⟩:=hI
      simp[kl.cell,mO.cell]
      generalize hK_D:D.put _ _ _=K_D
      have g_D:I [] K_C K_D:=by rw[<-hK_D];exact ke ((I.refl _ _).add _) ((I.refl _ _).put (.inr ζ)) (X:=[K_C.ab]) ζ
      have l_D:∃t,Lv K_D K_C.ab (.cells 8 t false)/\AV t 0 (u8 x.op)/\AV t 2 (str x.a)/\AV t 3 (str x.b):=by rw[<-hK_D];exact⟨_,(Lv.new (H:=K_C)).put_eq,ζ⟩
      clear hK_D
      have⟨t_D,l_D,f0,f2,f3⟩:=l_D
      have gBD:=g_C.trans g_D
      have lpD:=lpB.ai gBD
      have hMD:=(hM5.W g5B).W gBD
      have hha:∀K,I [] K_D K->∀v:Int,CN 17 [.ptr L.a 0,ae v,ae (o:Nat)] K λ u T=>T=K/\u=bl (Gx X (Bv (bj p)) v o):=λ K g v=>aeP (((Ef.ai g5B).ai gBD).ai g) hFX v ho62
      by_cases h9:x.op=9
      case' pos=>
       rw[aq h9]at X8
       simp[h9,r3,r8,r14,de XD,l_D.get,f0,f2,f3,lpD.get,az,iy,hg0]
       refine CW (Xt hMD q.1 x.b) ?_
      case' neg=>
       rw[ao h9]at X8
       simp[h9,r3,r8,r14,de XD,l_D.get,f0,f2,lpD.get,az,iy,hg0]
       refine CW (Xt hMD q.1 x.a) ?_
      all_goals
       rintro _ K_E ⟨⟨b_b,rfl⟩,gE⟩;have l_E:=l_D.ai gE;have hhE:=hha K_E gE;obtain⟨m0,Vg⟩:∃m0,m0=((bj p).a_.take i).any λ q=>out q.1&&CP (bj p) (jk X (Bv (bj p))) 9 o q:=⟨_,rfl⟩;obtain⟨r0,Jf⟩:∃r0,r0=((bj p).a_.take i).any λ q=>out q.1&&CP (bj p) (jk X (Bv (bj p))) 8 o q:=⟨_,rfl⟩;rw[<-Vg]at r12;rw[<-Jf]at W5;by_cases h8:x.op=8;all_goals try (exfalso;omega)
       all_goals cases m0;all_goals cases r0;all_goals simp[h9,h8,r5,r11,r12,W5,r14,l_E.get,f0,cE (hhE _),bq jA];exact jg ω ⟨(gB.trans gBD).trans gE,by simp[r1,r3,r5,r6,r7,r8,r9,RD,r11,GN,hq,X8,h9,h8,<-Vg,<-Jf];omega⟩
    .obtain rfl:i=(bj p).a_.length:=ω
     subst jU;rw[iF]at r12 W5;have m_e:=e_M o;have r_e:=e_R o;generalize((bj p).a_.any λ q=>out q.1&&CP (bj p) (jk X (Bv (bj p))) 9 o q)=m0 at r12 m_e;generalize((bj p).a_.any λ q=>out q.1&&CP (bj p) (jk X (Bv (bj p))) 8 o q)=r0 at W5 r_e;have hDB:=hD5.ai g5B;have hTB:=hT5.W g5B;simp[r3,r7,r8,r9,r11,r14,de XD,cE (DD (hM5.W g5B))];refine CW (mMod hDB hTB iw) ?_;rintro u1 K_C ⟨Vu,g_C⟩;have pf:=hasW Vu w_M o;rw[m_e]at pf;have hRef:=mRef (hDB.ai g_C) (hTB.W g_C) iw;by_cases hio:o<(bj p).of.length;all_goals cases m0;all_goals simp[hio]at pf;cases r0;all_goals simp[hio]at r_e;simp[hio,r7,r9,r11,r12,W5,cE pf];refine CW hRef ?_;rintro u2 K_D ⟨QK,g_D⟩;have ya:=hasW QK w_R o;rw[r_e]at ya;simp[hio,r11,W5,cE ya,bq hom];exact eJ ω ⟨gA.trans (gB.trans (g_C.trans g_D)),by simp[r1,r3,r5,r6,r7,r8,r9,RD];omega⟩
   .obtain rfl:o=(bj p).of.length+(bj p).p.length:=ω
    subst dO;simp[q3,q9,q11,cE jB,bq Eu];exact ih ω ⟨gK.trans (((g7.trans g8).trans g9).trans gA),by simp[q1,q3,q5,q6,q7,q8];omega⟩
  .obtain rfl:f=p.length:=ω
   subst cq;simp[s1,s9,zU.get,hlK,cE (oI _)];exact hQ rfl
theorem J6{α:Type}{f g:α->Nat}:∀(L:List α) (_:∀x∈L,f x<=g x),(L.map f).sum<=(L.map g).sum
 |[],_=>aF
 |a::L,h=>by
  have O:=h a ζ
  have U:=J6 L λ x Z=>h x (by simp[Z])
  simp only[kB,sr]
  omega
def aFo(p:List aQ):ij p<=OO p:=J6 (α:=aQ) p λ f _=>by
 have h:fL f.blocks<=(f.blocks.map Ic).sum:=J6 (α:=cU) f.blocks λ b _=>by
  have O:b.code.length<=(b.code.map zm).sum:=by
   have:=J6 (f:=λ _=>1) (g:=zm) b.code λ x _=>by unfold zm;omega
   rw[akW]at this;exact this
  show b.code.length<=(b.code.map zm).sum+1;omega
 show fL f.blocks<=(f.blocks.map Ic).sum+1;omega
def akA(hw:∀x,w x<=zm x)(p:List aQ):uK w p<=OO p:=J6 (α:=aQ) p λ f _=>by
 have h:vT w f.blocks<=(f.blocks.map Ic).sum:=J6 (α:=cU) f.blocks λ b _=>by have O:=J6 (f:=w) (g:=zm) b.code λ x _=>hw x;show(b.code.map w).sum<=(b.code.map zm).sum+1;omega
 show vT w f.blocks<=(f.blocks.map Ic).sum+1;omega
def axv{p:List aQ}(hp:oO H v' p)(hb:OO p<=1048576)(hT:xn H):CN 9 [.agg [v']] H λ v _=>v=bl true:=W7 hp (aY (aFo p) hb) (aY (akA (λ x=>by unfold zm;omega) p) hb) (aY (akA (λ x=>by unfold zm;omega) p) hb) hT
def ak7:Bool:=match H0.get 0 with
 |some (.cells 64 t _)=>(List.range 64).all λ j=>match t.get j with|some (.lit (.int .u8 n))=>n==((Lib.deBruijn64tab.getD j 0:Nat):Int)|_=>false
 |_=>false
theorem aFu:ak7=true:=κ
theorem aze:Nat.ble 1 H0.ab=true:=κ
def aFv:xn H0:=by
 have h:=aFu;unfold ak7 at h;split at h
 .rename_i t ro e;refine⟨t,ro,⟨OD aze,e⟩,λ j hj=>?_⟩;have O:=yZ.1 h j (mj.2 hj);split at O
  .rename_i n e2;rw[e2];have:n=((Lib.deBruijn64tab.getD j 0:Nat):Int):=by simpa using O
   rw[this]
  .cases O
 .cases h
def axu{w:bI}{bk:DataW ay->Nat}(cJ:BK bk)(ht:yW w g_)(hT:∀f∈FC,Kr Tryz.prog w f)(o8:∀E,eW Tryz.prog E->(∀f n,E.Q.get f=some n->(f,n)∈yg++FC.map λ f=>(f,5))->Hz Tryz.prog E w){x:DataW ay×List MemPlace}(Z:DataW.trod enc Tryz.prog w 0 (λ _=>true) true b 24 xs.toList=some x)(hb:bk x.1<=1048576):Calls Tryz.prog 9 #[.agg xs] w λ e w'=>e=.returned (.bool true)/\jG (λ _=>False) w w':=by
 have⟨ρ,hr⟩:=auO given (agl _) (auN _) ht
 obtain⟨eU,H1,p,l,k1,k2,k3,k4,⟨vf,rfl,hp⟩,k6⟩:=aps cJ b _ x Z ρ H0 hr
 exact an5 given (agl _) k1 (axv hp (aY k6 hb) (aFv.W k3)) (.cons (.agg k4) .nil) o8
def aGB(w:World)(ht:yW w g_):∀f∈FC,Kr Tryz.prog w f:=by
 intro f hf;obtain rfl:f=50:=by simpa[FC]using hf
 exact XA ht λ w ht=>Xl (ws:=[]) aGy (λ _=>.nil) w ht (λ f h=>by cases h) (λ f h=>by cases h)
theorem aGA:∀f∈FC,∀args w,(callFunc f args).run Tryz.prog w=.ok (.enter f args) w:=by
 intro f hf;obtain rfl:f=50:=by simpa[FC]using hf
 exact enters_of Tryz.func50 κ rfl
end
end Go.Proofs.YtgipmaoplfkdoaaGreatDoor
