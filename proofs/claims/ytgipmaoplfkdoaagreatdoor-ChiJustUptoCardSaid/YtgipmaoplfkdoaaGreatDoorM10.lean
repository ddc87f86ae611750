import Derived.Test.YtgipmaoplfkdoaaGreatDoorM6
import Derived.Test.YtgipmaoplfkdoaaGreatDoorMP
set_option linter.all false
set_option maxRecDepth 100000
set_option maxHeartbeats 400000000
namespace Go.Proofs.YtgipmaoplfkdoaaGreatDoor
noncomputable section
open Go.RowKit
variable{K T:D}{v vl:J}{l:List AE}{b c n m aG a ax nM:Nat}{aA:Nat->Nat}{kt e:aS}{x x':aC}{ks:KS}{E:aK}{β:Type}{t tb:CX}{ex:Bool}{X:AT}{d:TypeDesc}{z0 z:AU}{dst:Option Tmp}{k:List fg}{Y:aE}{aj:dE->aE->D->Prop}
def mH(n:Int):KP (.one (.i .i64)) (.int .i64 n):=by simp[KP]
def KT:tM b x (⟨x',c,v⟩::l)=true↔c≠b/\c8 x' x=false/\tM b x l=true:=by
 show aB (aB (tM b x l) false (c8 x' x)) false (Nat.beq c b)=true↔_;cases O:Nat.beq c b with
 |true=>rw[pS];simp;intro h;exact absurd (afm O) h
 |false=>
  rw[Di]
  have:c≠b:=λ e=>by rw[e]at O;simp at O
  cases U:c8 x' x with|true=>simp|false=>simp[this]
def D9:jE c (⟨x,b,v⟩::l)=true↔b<c/\yA x=true/\tM b x l=true/\jE c l=true:=by
 show aB false (aB false (aB false (jE c l) (tM b x l)) (yA x)) (Nat.blt b c)=true↔_;cases O:Nat.blt b c with
 |false=>
  rw[Di]
  simp
  intro h;rw[show Nat.blt b c=true by simpa[tK]using h]at O;cases O
 |true=>
  have:b<c:=by simpa[tK]using O
  cases U:yA x<;>cases F:tM b x l<;>simp[this]
def Pq:jE c []=true:=rfl
def Za:tM b x []=true:=rfl
theorem agP{c c':Nat}(h:c<=c'):∀{l:List AE},jE c l=true->jE c' l=true
 |[],_=>Pq
 |⟨x,b,v⟩::l,f=>by
  rw[D9]at f⊢
  exact⟨ω,f.2.1,f.2.2.1,agP h f.2.2.2⟩
theorem afE{b:Nat}{x key:aC}:∀{l:List AE},tM b x l=true->tM b x (nA key l)=true
 |[],_=>Za
 |⟨x',b',v⟩::l,h=>by
  rw[KT]at h
  rw[Lh]
  split
  .exact h.2.2
  .rw[KT];exact⟨h.1,h.2.1,afE h.2.2⟩
theorem ZX{c:Nat}{key:aC}:∀{l:List AE},jE c l=true->jE c (nA key l)=true
 |[],_=>Pq
 |⟨x',b',v⟩::l,h=>by
  rw[D9]at h
  rw[Lh]
  split
  .exact h.2.2.2
  .rw[D9];exact⟨h.1,h.2.1,afE h.2.2.1,ZX h.2.2.2⟩
theorem Zb{ks:KS}{b c:Nat}{x key:aC}{v:J}(Q:KP ks key)(Z:KP ks x)(g:b<c):∀{l:List AE},tM b x l=true->c8 key x=false->tM b x (eD c key v l)=true
 |[],_,f=>by
  show tM b x [⟨key,c,v⟩]=true
  rw[KT];exact⟨ω,f,Za⟩
 |⟨x',b',u⟩::l,h,f=>by
  rw[KT]at h
  rw[NC]
  split
  .rw[KT];exact⟨h.1,f,h.2.2⟩
  .rw[KT];exact⟨h.1,h.2.1,Zb Q Z g h.2.2 f⟩
theorem agQ{ks:KS}{c:Nat}{key:aC}{v:J}(Q:KP ks key)(A:yA key=true):∀{l:List AE},(∀x∈bQ l,KP ks x)->jE c l=true->jE (c+1) (eD c key v l)=true/\((lk key l).isSome=true->jE c (eD c key v l)=true)
 |[],_,_=>by
  refine⟨?_,λ h=>by simp[lk]at h⟩
  show jE (c+1) [⟨key,c,v⟩]=true
  rw[D9];exact⟨ω,A,Za,Pq⟩
 |⟨x',b',u⟩::l,f,h=>by
  have Z:KP ks x':=f _ (by simp[bQ])
  rw[D9]at h
  rw[NC,zW]
  by_cases e:c8 x' key=true
  .have p:=(pI Q).1 e
   rw[aq e,aq e,D9,D9];subst p;exact⟨⟨ω,A,h.2.2.1,agP ω h.2.2.2⟩,λ _=>⟨h.1,A,h.2.2.1,h.2.2.2⟩⟩
  .rw[ao e,ao e,D9,D9]
   have j:c8 key x'=false:=by cases q:c8 key x' with|false=>rfl|true=>exact absurd ((pI Q).2 ((pI Z).1 q).symm) e
   have g:=agQ Q A (c:=c) (v:=v) (l:=l) (λ y G=>f y (by simp[bQ]at G⊢;exact .inr G)) h.2.2.2;exact⟨⟨ω,h.2.1,Zb Q Z h.1 h.2.2.1 j,g.1⟩,λ q=>⟨h.1,h.2.1,Zb Q Z h.1 h.2.2.1 j,g.2 q⟩⟩
def ZY(Q:KP ks x')(A:yA x'=true)(f:∀x∈bQ l,KP ks x)(h:jE c l=true):jE (oC c x' l) (eD c x' v l)=true:=by
 have:=agQ (v:=v) Q A f h;unfold oC;split
 .rename_i q;exact this.2 q
 .exact this.1
def aiJ(h:n<=9223372036854775807):yA (.int .i64 ((n:Nat):Int))=true:=by show Nat.ble n 9223372036854775807=true;simpa using h
structure lp(K:D)(m:Nat)(kt:TypeId)(aG:Nat)(f:Nat->Option J):Prop where
 ob:∃c l,Lv K m (.map kt c l)/\jE c l=true/\(∀q:Nat,cH (.int .i64 q) l=f q)/\(∀x∈bQ l,∃q:Nat,q<aG/\x=.int .i64 q)/\(bQ l).Nodup
def lp.W{f:Nat->Option J}{S:AT}(h:lp K m kt aG f)(g:I S K T)(j:m∉S):lp T m kt aG f:=by have⟨c,l,O,U⟩:=h.ob;exact⟨c,l,O.W g j,U⟩
def lp.lt{f:Nat->Option J}(h:lp K m kt aG f):m<K.ab:=by have⟨c,l,O,U⟩:=h.ob;exact O.lt
def lp.new(h:Lv K m (.map kt 0 [])):lp K m kt aG λ _=>none:=⟨0,[],h,Pq,λ q=>Ni,by simp[bQ],by simp[bQ]⟩
def kpN(h:∀x∈bQ l,∃q:Nat,q<aG/\x=.int .i64 q):∀x∈bQ l,KP (.one (.i .i64)) x:=λ x Z=>by obtain⟨q,_,rfl⟩:=h x Z;exact mH _
def M9:(Value.int .i64 (a:Int)=.int .i64 (b:Int))↔a=b:=ξ
theorem abt{key x:aC}:∀{l:List AE},x∈bQ (nA key l)->x∈bQ l
 |[],h=>h
 |⟨y,b,u⟩::l,h=>by
  rw[Lh]at h
  unfold bQ at h⊢
  rw[kB,cZ]
  split at h
  .exact .inr h
  .rw[kB,cZ]at h
   rcases h with h|h
   .exact .inl h
   .exact .inr (abt h)
theorem lp.eD{K:D}{m:Nat}{kt:aS}{aG c k:Nat}{f:Nat->Option J}{l:List AE}{v:J}(p:Lv K m (.map kt c l))(r:jE c l=true)(h:∀q:Nat,cH (.int .i64 q) l=f q)(g:∀x∈bQ l,∃q:Nat,q<aG/\x=.int .i64 q)(j:(bQ l).Nodup)(Q:k<aG)(u:aG<=9223372036854775807):lp (K.put m (some (.map kt (oC c (.int .i64 k) l) (Go.Proofs.YtgipmaoplfkdoaaGreatDoor.eD c (.int .i64 k) v l)))) m kt aG (aM f k (some v)):=by
 refine⟨_,_,p.put_eq,ZY (mH _) (aiJ ω) (kpN g) r,λ q=>?_,λ x Z=>?_,Dq (mH _) j⟩
 .rw[Bb (mH _) (mH _),M9]
  unfold aM;split
  .rfl
  .exact h q
 .rw[Jv (mH _)]at Z
  split at Z
  .exact g x Z
  .rw[b_]at Z;rcases Z with Z|Z
   .exact g x Z
   .simp at Z;exact⟨k,Q,Z⟩
theorem lp.nA{K:D}{m:Nat}{kt:aS}{aG c k:Nat}{f:Nat->Option J}{l:List AE}(j:Lv K m (.map kt c l))(p:jE c l=true)(h:∀q:Nat,cH (.int .i64 q) l=f q)(r:∀x∈bQ l,∃q:Nat,q<aG/\x=.int .i64 q)(g:(bQ l).Nodup):lp (K.put m (some (.map kt c (Go.Proofs.YtgipmaoplfkdoaaGreatDoor.nA (.int .i64 k) l)))) m kt aG (aM f k none):=by
 refine⟨_,_,j.put_eq,ZX p,λ q=>?_,λ x Z=>?_,ajv (mH _) g⟩
 .rw[abn (mH _) (mH _) _ g,M9]
  unfold aM;split
  .rfl
  .exact h q
 .exact r x (abt Z)
def Fe{key:aC}:(∃b v,cH key l=some v/\lk key l=some (b,v))\/(cH key l=none/\lk key l=none):=by unfold cH;cases h:lk key l with|none=>exact .inr ⟨rfl,rfl⟩|some p=>have⟨b,v⟩:=p;exact .inl ⟨b,v,rfl,rfl⟩
def V_{p:Nat->Bool}(u:∀x∈bQ l,∃q:Nat,q<aG/\x=.int .i64 q)(I:(bQ l).Nodup)(D:∀q:Nat,q<aG->((cH (.int .i64 q) l).isSome=true↔p q=true)):∃C:BW,bQ l=C.map (Value.int .i64)/\lK C=((List.range aG).filter p).map Int.ofNat:=by
 have O:∃qs:AT,bQ l=qs.map λ q=>.int .i64 (q:Int):=by
  generalize bQ l=ks at u;induction ks with
  |nil=>exact⟨[],rfl⟩
  |cons x ks w=>
   have⟨qs,h⟩:=w λ y G=>u y (by simp[G])
   have⟨q,_,e⟩:=u x ζ
   exact⟨q::qs,by rw[h,e];rfl⟩
 have⟨qs,f⟩:=O
 refine⟨qs.map Int.ofNat,by rw[f,u_];rfl,?_⟩
 have g:=yB (qs.map Int.ofNat)
 have J:=QY (qs.map Int.ofNat)
 have L:qs.Nodup:=by rw[f]at I;exact(S9.1 I).imp λ h e=>h (by rw[e])
 have U:∃rs:AT,lK (qs.map Int.ofNat)=rs.map Int.ofNat:=by
  have:∀x∈lK (qs.map Int.ofNat),∃r:Nat,x=Int.ofNat r:=λ x Z=>by have:=g.mem_iff.1 Z;rw[jn]at this;obtain⟨r,_,rfl⟩:=this;exact⟨r,rfl⟩
  generalize lK (qs.map Int.ofNat)=A at this;induction A with
  |nil=>exact⟨[],rfl⟩
  |cons x A w=>
   have⟨rs,h⟩:=w λ y G=>this y (by simp[G])
   have⟨r,e⟩:=this x ζ
   exact⟨r::rs,by rw[h,e];rfl⟩
 have⟨rs,z⟩:=U
 rw[z]at g J⊢
 congr 1
 have M:rs.Nodup:=by have:(rs.map Int.ofNat).Nodup:=g.nodup_iff.2 (List.Pairwise.map _ (λ a b h e=>h (SP e)) L);exact(S9.1 this).imp λ h e=>h (by rw[e])
 refine ad1 ?_ (S8.filter _) λ q=>?_
 .have F:rs.Pairwise (·<= ·):=(S9.1 J).imp λ h=>by simpa using h
  exact(F.and M).imp λ ⟨a,b⟩=>ω
 .have B:q∈rs↔q∈qs:=by
   have:=g.mem_iff (a:=Int.ofNat q);rw[jn,jn]at this;constructor
   .intro h;have⟨r,hr,e⟩:=this.1 ⟨q,h,rfl⟩;rw[<-SP e];exact hr
   .intro h;have⟨r,hr,e⟩:=this.2 ⟨q,h,rfl⟩;rw[<-SP e];exact hr
  have Q:(Value.int .i64 (q:Int))∈bQ l↔q∈qs:=by
   rw[f,jn];constructor
   .rintro⟨r,hr,e⟩;have:=M9.1 e;rw[<-this];exact hr
   .intro h;exact⟨q,h,rfl⟩
  rw[B,<-Q,<-Q8 (mH _) l,Oz,mj];constructor
  .intro h;have j:q<aG:=by have:=(Q8 (mH _) l).1 h;have⟨r,hr,e⟩:=u _ this;rw[M9.1 e];exact hr
   exact⟨j,(D q j).1 h⟩
  .rintro⟨j,h⟩;exact(D q j).2 h
structure e_(K:D)(id m:Nat)(aA:Nat->Nat):Prop where
 ob:∃t,Lv K id (.cells 2 t false)/\AV t 0 (.map m)/\AV t 1 (ae (nR aA))
 mp:lp K m 3 65536 λ q=>if aA q=0 then none else some (.lit (.int .u64 (aA q)))
 wd:kA aA
def e_.W{id:Nat}{S:AT}(h:e_ K id m aA)(g:I S K T)(O:id∉S)(U:m∉S):e_ T id m aA:=by have⟨t,a,b⟩:=h.ob;exact⟨⟨t,a.W g O,b⟩,h.mp.W g U,h.wd⟩
def e_.ai(h:e_ K b m aA)(g:I [] K T):e_ T b m aA:=h.W g ζ ζ
def e_.lt{id:Nat}(h:e_ K id m aA):id<K.ab/\m<K.ab:=by have⟨t,a,b⟩:=h.ob;exact⟨a.lt,h.mp.lt⟩
def e_.ne(h:e_ K n m aA):n≠m:=by have⟨t,a,b⟩:=h.ob;have⟨c,l,O,_⟩:=h.mp.ob;rintro rfl;have:=a.get.symm.trans O.get;cases this
variable{H:D}
section
open Go.RowKit PC
def F0(g:a<18446744073709551616)(f:b<18446744073709551616):Go.bits .and .u64 (a:Int) (b:Int)=((a&&&b:Nat):Int):=bits_and_u64_nat a b g f
def ajH(g:a<18446744073709551616)(f:b<18446744073709551616):Go.bits .or .u64 (a:Int) (b:Int)=((a|||b:Nat):Int):=bits_or_u64_nat a b g f
def alR(n:Int)(f:0<=n)(O:n<2^63):IntKind.wrap .i64 n=n:=by
 have:(2:Int)^63=9223372036854775808:=η
 exact fQ ω ω
def p63:(2:Nat)^63=9223372036854775808:=η
def ajf{a:Int}(h0:0<=a)(O:a<9223372036854775808)(B:m<=63):Go.bits .and .i64 a (2^m-1:Int)=a%2^m:=
 bits_mask .i64 63 (by decide) alR m B a h0 (by have:(2:Int)^63=9223372036854775808:=by decide
                                                omega)
def ax7{a:Int}(f:0<=a)(O:a<9223372036854775808):Go.bits .and .i64 a 127=a%128:=ajf (m:=7) f O η
def ax8{a:Int}(f:0<=a)(O:a<9223372036854775808):Go.bits .and .i64 a 63=a%64:=ajf (m:=6) f O η
def aAt(g:a<9223372036854775808)(f:b<9223372036854775808):Go.bits .or .i64 (a:Int) (b:Int)=((a|||b:Nat):Int):=(bits_nat .i64 63 η alR a b (by rw[p63];exact g) (by rw[p63];exact f)).2
abbrev u64(n:Nat):J:=.lit (.int .u64 (n:Int))
def N6(e:a+b=c)(h:c<18446744073709551616):IntKind.wrap .u64 ((a:Int)+(b:Int))=(c:Int):=by subst e;rw[wrap_u64 ω ω];simp
def WL{x:Nat}(Z:x<18446744073709551616)(H:D):CN 181 [u64 x] H λ v K=>K=H/\v=ae (fV 64 x:Nat):=by
 refine ba arq rfl λ p g=>?_;have⟨O,U,F,j,h⟩:=azW Z;simp[KX,Tq];have d1:IntKind.wrap .u64 (Go.bits .and .u64 ((x:Int)/2) 6148914691236517205+Go.bits .and .u64 (x:Int) 6148914691236517205)=((s1 6148914691236517205 x:Nat):Int):=by have c1:Go.bits .and .u64 ((x:Int)/2) 6148914691236517205=((x/2&&&6148914691236517205:Nat):Int):=F0 (a:=x/2) (b:=6148914691236517205) ω ω;have c2:Go.bits .and .u64 (x:Int) 6148914691236517205=((x&&&6148914691236517205:Nat):Int):=F0 (a:=x) (b:=6148914691236517205) ω ω;have b1:=FO (n:=x/2) (m:=6148914691236517205);have b2:=FO (n:=x) (m:=6148914691236517205);rw[c1,c2];exact N6 rfl (by unfold s1;omega)
 rw[d1];have l1:s1 6148914691236517205 x<18446744073709551616:=by have b1:=FO (n:=x/2) (m:=6148914691236517205);have b2:=FO (n:=x) (m:=6148914691236517205);unfold s1;omega
 have f:sw x=s3 1085102592571150095 (s2 3689348814741910323 (s1 6148914691236517205 x)):=rfl;generalize s1 6148914691236517205 x=y at l1 f⊢;have d2:IntKind.wrap .u64 (Go.bits .and .u64 ((y:Int)/4) 3689348814741910323+Go.bits .and .u64 (y:Int) 3689348814741910323)=((s2 3689348814741910323 y:Nat):Int):=by have c1:Go.bits .and .u64 ((y:Int)/4) 3689348814741910323=((y/4&&&3689348814741910323:Nat):Int):=F0 (a:=y/4) (b:=3689348814741910323) ω ω;have c2:Go.bits .and .u64 (y:Int) 3689348814741910323=((y&&&3689348814741910323:Nat):Int):=F0 (a:=y) (b:=3689348814741910323) ω ω;have b1:=FO (n:=y/4) (m:=3689348814741910323);have b2:=FO (n:=y) (m:=3689348814741910323);rw[c1,c2];exact N6 rfl (by unfold s2;omega)
 rw[d2];have l2:s2 3689348814741910323 y<=7378697629483820646:=by have b1:=FO (n:=y/4) (m:=3689348814741910323);have b2:=FO (n:=y) (m:=3689348814741910323);unfold s2;omega
 generalize s2 3689348814741910323 y=z at l2 f⊢;have d3:Go.bits .and .u64 (IntKind.wrap .u64 ((z:Int)/16+(z:Int))) 1085102592571150095=((sw x:Nat):Int):=by have c1:IntKind.wrap .u64 ((z:Int)/16+(z:Int))=((z/16+z:Nat):Int):=N6 (a:=z/16) rfl ω;rw[c1,f];exact F0 (a:=z/16+z) (b:=1085102592571150095) ω ω
 rw[d3];have d4:IntKind.wrap .u64 ((sw x:Int)+(sw x:Int)/256)=((FI x:Nat):Int):=N6 (b:=sw x/256) rfl ω;rw[d4];have d5:IntKind.wrap .u64 ((FI x:Int)+(FI x:Int)/65536)=((FJ x:Nat):Int):=N6 (b:=FI x/65536) rfl ω;rw[d5];have d6:IntKind.wrap .u64 ((FJ x:Int)+(FJ x:Int)/4294967296)=((Ku x:Nat):Int):=N6 (b:=FJ x/4294967296) rfl ω;rw[d6,fQ ω ω,ax7 ω ω];refine g ⟨rfl,?_⟩;have:((Ku x:Nat):Int)%128=((Ku x%128:Nat):Int):=rfl;rw[this,O]
structure xn(K:D):Prop where
 ob:∃t ro,Lv K 0 (.cells 64 t ro)/\∀j,j<64->t.get j=some (.lit (.int .u8 ((Lib.deBruijn64tab.getD j 0:Nat):Int)))
def xn.W(h:xn K)(g:I [] K T):xn T:=by have⟨t,ro,O,U⟩:=h.ob;exact⟨t,ro,O.ai g,U⟩
theorem gl0:E0.gl.get 0=some 0:=κ
@[simp]def aHp{β:Type}{s:CX}{k:J->R β}:bE E0 s (.global 0) k=k (.ptr 0 0):=by
  show cB E0.gl 0 (λ id=>k (.ptr id 0)) (.er [8,0])=_
  rw[jJ,gl0]
def aGk(Z:b<18446744073709551616)(u:b≠0)(w:xn H):CN 136 [u64 b] H λ v K=>K=H/\v=ae (Lib.ctz 64 b:Nat):=by
 refine ba aqP rfl λ z j=>?_;have⟨f,Q⟩:=Lib.lowest_bit 64 b u Z;have⟨A,g⟩:=Lib.deBruijn64_at _ Q;have⟨t,ro,O,U⟩:=w.ob;generalize y:Lib.ctz 64 b=r at f Q A g j;generalize 2^r=a at f A g;have h:IntKind.wrap .u64 (Go.bits .and .u64 (b:Int) (IntKind.wrap .u64 (-(b:Int)))*285870213051353865)/288230376151711744=((a*285870213051353865%18446744073709551616/288230376151711744:Nat):Int):=by
  have h:IntKind.wrap .u64 (-(b:Int))=((18446744073709551616-b:Nat):Int):=by rw[IntKind.wrap_u64];omega
  rw[h,F0 Z ω,show b&&&(18446744073709551616-b)=a from f,IntKind.wrap_u64,Int.natCast_ediv,Int.natCast_emod,Int.natCast_mul];rfl
 simp[KX,Tq,u,-Nat.reducePow];rw[h];generalize a*285870213051353865%18446744073709551616/288230376151711744=i at A g⊢;have p:=U i A;rw[g]at p;simp[O.get,A,p,fQ (x:=(r:Int)) ω ω];exact j ⟨rfl,rfl⟩
end
section
open Go.RowKit PC
section
variable{H:D}{id m:Nat}{aA:Nat->Nat}
def aep(h:cH (.int .i64 (c:Int)) l=if aA c=0 then none else some (u64 (aA c))):(aA c=0/\lk (.int .i64 (c:Int)) l=none)\/(aA c≠0/\∃b,lk (.int .i64 (c:Int)) l=some (b,u64 (aA c))):=by
 rcases Fe (key:=.int .i64 (c:Int)) (l:=l)with⟨b,v,O,U⟩|⟨O,U⟩
 .rw[O]at h;by_cases e:aA c=0
  .rw[aq e]at h;cases h
  .rw[ao e]at h;cases h;exact .inr ⟨e,b,U⟩
 .rw[O]at h;by_cases e:aA c=0
  .exact .inl ⟨e,U⟩
  .rw[ao e]at h;cases h
def ael(f:e_ H id m aA)(k:Nat):CN 143 [.ptr id 0,ae k] H λ v K=>K=H/\v=u64 (aA k):=by
 refine ba aqX rfl λ y g=>?_;have⟨t,O,U,F⟩:=f.ob;have⟨c,l,j,w,p,u,r⟩:=f.mp.ob;rcases aep (p k)with⟨e,h⟩|⟨e,b,h⟩
 .simp[O.get,U,j.get,h];exact g ⟨rfl,by rw[e];rfl⟩
 .simp[O.get,U,j.get,h];exact g ⟨rfl,rfl⟩
def ajY(p:e_ H id m aA){k w:Nat}(Q:k<65536)(hw:w<18446744073709551616):CN 153 [.ptr id 0,ae k,u64 w] H λ v K=>e_ K id m (ma aA k w)/\I [id,m] H K:=by
 refine ba aq6 rfl λ Q' A=>?_;have N:=p.ne;have⟨t,O,U,F⟩:=p.ob;have⟨c,l,f,M,D,L,G⟩:=p.mp.ob;have Z:=p.wd.lt k;have hz:=aFr (aA:=aA) (w:=w) Q;have b0:=ad9 aA;have b1:=WX 64 w;have b2:=WX 64 (aA k);have R:CN 181 [.lit (.int .u64 0)] H λ v K=>K=H/\v=ae 0:=by have:=WL (x:=0) ω H;rw[WY]at this;exact this
 have z:∀j,(aA k=0->j=(0:Int))->(aA k≠0->j=(fV 64 (aA k):Nat))->IntKind.wrap .i64 ((nR aA:Int)+IntKind.wrap .i64 ((fV 64 w:Nat)-j))=((nR (ma aA k w):Nat):Int):=by
  intro j V S;have:j=(fV 64 (aA k):Nat):=by
   by_cases e:aA k=0
   .rw[V e,e,WY];rfl
   .exact S e
  subst this;rw[fQ (x:=(fV 64 w:Nat)-(fV 64 (aA k):Nat)) ω ω,fQ ω ω];omega
 have W:¬id=m:=N;have r:¬m=id:=λ h=>N h.symm;have C:∀o o':Option AO,I [id,m] H ((H.put id o).put m o'):=λ o o'=>(aw.put (.inr ζ)).put (.inr ζ);have lm:∀o,Lv (H.put id o) m (.map 3 c l):=λ o=>f.eu r;have li:∀o o',Lv ((H.put id (some o)).put m o') id o:=λ o o'=>(O.put_eq).eu W;have y:w=0->∀{n:Int},n=((nR (ma aA k w):Nat):Int)->e_ ((H.put id (some (.cells 2 (t.put 1 (some (ae n))) false))).put m (some (.map 3 c (nA (.int .i64 (k:Int)) l)))) id m (ma aA k w):=by
  rintro rfl n rfl;have B:=lp.nA (k:=k) (lm (some (.cells 2 (t.put 1 (some (ae ((nR (ma aA k 0):Nat):Int)))) false))) M D L G;refine⟨⟨_,li _ _,by simp[U],ζ⟩,?_,p.wd.set Q hw⟩;have e:(λ q=>if ma aA k 0 q=0 then none else some (J.lit (.int .u64 ((ma aA k 0 q:Nat):Int))))=aM (λ q=>if aA q=0 then none else some (u64 (aA q))) k none:=by funext q;unfold aM ma;split<;>simp
  rw[e];exact B
 have u:w≠0->∀{n:Int},n=((nR (ma aA k w):Nat):Int)->e_ ((H.put id (some (.cells 2 (t.put 1 (some (ae n))) false))).put m (some (.map 3 (oC c (.int .i64 (k:Int)) l) (eD c (.int .i64 (k:Int)) (u64 w) l)))) id m (ma aA k w):=by
  rintro g n rfl;have B:=lp.eD (k:=k) (v:=u64 w) (lm (some (.cells 2 (t.put 1 (some (ae ((nR (ma aA k w):Nat):Int)))) false))) M D L G Q ω;refine⟨⟨_,li _ _,by simp[U],ζ⟩,?_,p.wd.set Q hw⟩;have e:(λ q=>if ma aA k w q=0 then none else some (J.lit (.int .u64 ((ma aA k w q:Nat):Int))))=aM (λ q=>if aA q=0 then none else some (u64 (aA q))) k (some (u64 w)):=by funext q;unfold aM ma;split<;>simp
  rw[e];exact B
 rcases aep (D k)with⟨e,h⟩|⟨e,b,h⟩
 .simp[cE (WL hw _),O.get,U,F,f.get,h];refine dF ?_ ?_
  .simp[dA,dm,val,O.get,U,F,f.get,h]
  simp[cE R];refine dF ?_ ?_
  .simp[dA,dm,val,O.get,F]
  by_cases g:w=0
  .subst g;simp[O.get,U,f.get,r];refine A ⟨y rfl (by simpa using z 0 (λ _=>rfl) (λ h=>absurd e h)),C _ _⟩
  .have P:¬(w:Int)=0:=ω
   simp[g,O.get,U,f.get,r];refine A ⟨u g (by simpa using z 0 (λ _=>rfl) (λ h=>absurd e h)),C _ _⟩
 .simp[cE (WL hw _),O.get,U,F,f.get,h];refine dF ?_ ?_
  .simp[dA,dm,val,O.get,U,F,f.get,h]
  simp[cE (WL Z _)];refine dF ?_ ?_
  .simp[dA,dm,val,O.get,F]
  by_cases g:w=0
  .subst g;simp[O.get,U,f.get,r];refine A ⟨y rfl (by simpa using z (fV 64 (aA k):Nat) (λ h=>absurd h e) (λ _=>rfl)),C _ _⟩
  .have P:¬(w:Int)=0:=ω
   simp[g,O.get,U,f.get,r];refine A ⟨u g (by simpa using z (fV 64 (aA k):Nat) (λ h=>absurd h e) (λ _=>rfl)),C _ _⟩
end
end
variable{i q:Nat}
section
open Go.RowKit PC
section
variable{H:D}{id m:Nat}{aA:Nat->Nat}
def akL(A:i<4611686018427387904):∃q b:Nat,q=i/64/\b=i%64/\(i:Int)/64=(q:Int)/\Go.bits .and .i64 (i:Int) 63=(b:Int)/\b<64:=⟨i/64,i%64,rfl,rfl,rfl,by rw[ax8 ω ω];rfl,ω⟩
def aEy(hw:c<18446744073709551616):∃r:Nat,((c:Nat):Int)/2^b=(r:Int)/\Go.bits .and .u64 (r:Int) 1=((r%2:Nat):Int)/\(r%2=1↔c.testBit b=true):=by refine⟨c/2^b,by rw[Int.natCast_ediv,Int.natCast_pow];rfl,?_,by rw[Nat.testBit_eq_decide_div_mod_eq];simp⟩;have h:=F0 (a:=c/2^b) (b:=1) (KL (Nat.div_le_self _ _) hw) ω;rw[Nat.and_one_is_mod]at h;exact h
def ahq(f:e_ H id m aA)(A:i<4611686018427387904):CN 93 [.ptr id 0,ae i] H λ v K=>K=H/\v=bl (cC aA i):=by
 refine ba ati rfl λ F y=>?_;have⟨q,b,u,w,B,z,D⟩:=akL A;have⟨r,j,h,g⟩:=aEy (b:=b) (f.wd.lt q);have C:cC aA i=decide (r%2=1):=by unfold cC;rw[<-u,<-w,qH,rK];exact g.symm
 have p:(b:Int)<=64:=ω
 simp[afN,KX,B,cE (ael f q),z,Tq,p,j,h];refine y ⟨rfl,?_⟩;rw[C];have:((r:Int)%2=1)↔(r%2=1):=ω
 simp[this]
def ajG(h:kA aA)(A:i<4194304)(f:cC aA i=true):fT aA (nN i)=aA:=Yb (h.or (.one A)) h λ j=>by
 rw[uk,GU];by_cases e:j=i
 .subst e;rw[f];rfl
 .simp[e]
def aEw(f:q=i/64)(g:b=i%64):ma aA q (aA q|||2^b)=fT aA (nN i):=by
 funext x;unfold ma fT nN;subst f g;split
 .rename_i e;rw[e]
 .simp
def aeS(f:e_ H id m aA)(A:i<4194304):CN 117 [.ptr id 0,ae i] H λ v K=>v=bl (!cC aA i)/\e_ K id m (fT aA (nN i))/\I [id,m] H K:=by
 refine ba aqB rfl λ J r=>?_;have u:¬(i:Int)<0:=ω
 have h:=ahq f (show i<4611686018427387904 by omega);cases g:cC aA i with
 |true=>
  rw[g]at h
  simp[cE h,u]
  exact r ⟨by rw[g];rfl,by rw[ajG f.wd A g];exact f,aw⟩
 |false=>
  have⟨q,b,z,B,G,F,p⟩:=akL (i:=i) ω
  have y:(b:Int)<=64:=ω
  have j:2^b<18446744073709551616:=afr (a:=2) (n:=64) ω p
  have D:IntKind.wrap .u64 ((2:Int)^b)=((2^b:Nat):Int):=by
   have:((2:Int)^b)=((2^b:Nat):Int):=ζ
   rw[this,wrap_u64 (Yv _) (Int.ofNat_lt.2 j)]
  have C:=ajH (f.wd.lt q) j
  rw[g]at h
  simp[cE h,u,afN,KX,Zh,G,cE (ael f q),F,anj,y,D,-Int.natCast_pow,C]
  refine CW (ajY (k:=q) (w:=aA q|||2^b) f ω (YS (n:=64) (f.wd.lt q) j)) ?_
  rintro v K ⟨O,U⟩
  rw[aEw z B]at O
  simp
  exact r ⟨by rw[g];rfl,O,U⟩
def WI{l:AT}(r:aW H 1 (One λ n=>ae ((n:Nat):Int)) vl l)(J:∀i∈l,i<4194304):CN 73 [vl] H λ v K=>∃id m,v=.ptr id 0/\e_ K id m (l.foldl (λ aA i=>fT aA (nN i)) λ _=>0)/\H.ab<=id/\H.ab<=m/\I [] H K:=by
 refine ba asX rfl λ W M=>?_;simp[r.aN bK];generalize h:D.add _ _=H1;have l1:∃t,Lv H1 (H.ab+1) (.cells 2 t false)/\AV t 0 (.map H.ab)/\AV t 1 (ae 0):=by rw[<-h];exact⟨_,Lv.new (H:=H.add _),ζ⟩
 have lm:Lv H1 H.ab (.map 3 0 []):=by rw[<-h];exact Lv.new.add
 have N:I [] H H1:=by rw[<-h];exact(aw.add _).add _
 clear h;have⟨t,l1,w0,z⟩:=l1;have S:e_ H1 (H.ab+1) H.ab λ _=>0:=⟨⟨t,l1,w0,by rw[aFs];exact z⟩,by have:=lp.new (aG:=65536) lm;exact this,.zero⟩;refine CA (λ j sl K=>I [] H K/\e_ K (H.ab+1) H.ab ((l.take j).foldl (λ aA i=>fT aA (nN i)) λ _=>0)/\j<=l.length/\AV sl 3 (.ptr (H.ab+1) 0)/\AV sl 9 vl/\AV sl 10 (ae l.length)/\AV sl 11 (ae j)) l.length ⟨N,S,dQ _,ζ⟩ ?_
 rintro b kk-Q j sl K ⟨g,u,V,s3,y,w,p⟩ C;by_cases f:j<l.length
 .have⟨id,ah,ax,ex,n,tt,ro,c,F,B,R,P,L⟩:=(r.fZ g).gL f;have G:c=ae ((l[j]:Nat):Int):=by have:[c]=[ae ((l[j]:Nat):Int)]:=L;simpa using this
  subst G;simp[s3,y,w,p,f,F,B.get,R,P];refine CW (aeS u (J _ (cG f))) ?_;rintro v T ⟨_,O,U⟩;simp[p,bq (aT f r.cP)];refine C ω ⟨⟨aY g.ab U.ab,λ i A _=>(U.get i (aT A g.ab) ξ).trans (g.get i A ζ)⟩,?_,f,by simp[s3,y,w]⟩;rw[mI,bf f,Ay,ae8];exact O
 .obtain rfl:j=l.length:=ω
  subst Q;simp[s3,w,p];rw[iF]at u;exact M ⟨_,_,rfl,u,ω,ω,g⟩
end
end
variable{ro:Bool}
section
open Go.RowKit PC
section
variable{H:D}{id m:Nat}{aA:Nat->Nat}
def avd:E0.Q.get 221=some 1:=au9
def avR(E:aK)(f:J)(H:D):vD E 2 [f] H=(EZ E f H λ ks=>q_ ks λ l=>vK l λ g=>jV g λ n=>
    eC (.ok (.lit (.slice none 0 0),H)) (λ _=>kN .e 0 g λ t=>kM H (.cells n t false) λ id H'=>.ok (.sl id 0 1 n n false,H')) n):=rfl
def aiS{id:Nat}(u:E.Q.get aG=some 1)(O:H.get a=some (.cells 1 t ro))(U:AV t 0 (.map id))(F:H.get id=some (.map kt c l))(w:jE c l=true)(j:l.length<=1000000)(k:List aC->R β):EZ E (.fn (.func aG) [] [.ptr a 0]) H k=k (bQ l):=by
 have f:∀(l:List AE) (k:List aC->R β),iA (λ (p:AE) k=>match p with|⟨x,_,_⟩=>k x) l k=k (bQ l):=by
  intro l;induction l with
  |nil=>intro k;rfl
  |cons p l g=>
   intro k
   have⟨x,b,v⟩:=p
   show(iA (λ (p:AE) k=>match p with|⟨x,_,_⟩=>k x) l λ r=>k (x::r))=_
   rw[g];rfl
 show cB E.Q aG (λ h=>eC (.er [141]) (λ h=>eC (ie H a λ o=>match o with
  |.cells 1 M _=>cB M 0 (λ m=>match m with
   |.map a=>ie H a λ o=>match o with
    |.map _ c l=>jV l λ n=>aB (.er [197]) (aB (.er [198]) (iA (λ (p:AE) k=>match p with|⟨x,_,_⟩=>k x) l k) (jE c l)) (Nat.ble n 1000000)
    |_=>.er [142]
   |.lit (.map none)=>k []|_=>.er [143]) (.er [144])
  |_=>.er [145]) (λ _=>.er [146]) h) h) (.er [147])=_
 rw[jJ,u]
 show(ie H a λ o=>match o with
  |.cells 1 M _=>cB M 0 (λ m=>match m with
   |.map a=>ie H a λ o=>match o with
    |.map _ c l=>jV l λ n=>aB (.er [197]) (aB (.er [198]) (iA (λ (p:AE) k=>match p with|⟨x,_,_⟩=>k x) l k) (jE c l)) (Nat.ble n 1000000)
    |_=>.er [142]
   |.lit (.map none)=>k []|_=>.er [143]) (.er [144])
  |_=>.er [145])=_
 rw[qS,O]
 show cB t 0 (λ m=>match m with
  |.map a=>ie H a λ o=>match o with
   |.map _ c l=>jV l λ n=>aB (.er [197]) (aB (.er [198]) (iA (λ (p:AE) k=>match p with|⟨x,_,_⟩=>k x) l k) (jE c l)) (Nat.ble n 1000000)
   |_=>.er [142]
  |.lit (.map none)=>k []|_=>.er [143]) (.er [144])=_
 rw[jJ,U]
 show(ie H id λ o=>match o with
  |.map _ c l=>jV l λ n=>aB (.er [197]) (aB (.er [198]) (iA (λ (p:AE) k=>match p with|⟨x,_,_⟩=>k x) l k) (jE c l)) (Nat.ble n 1000000)
  |_=>.er [142])=_
 rw[qS,F]
 show(jV l λ n=>aB (.er [197]) (aB (.er [198]) (iA (λ (p:AE) k=>match p with|⟨x,_,_⟩=>k x) l k) (jE c l)) (Nat.ble n 1000000))=_
 rw[JA,show Nat.ble l.length 1000000=true by simpa using j,pS,w,pS,f]
def aiV(h:∀x∈bQ l,∃q:Nat,q<aG/\x=.int .i64 q)(g:(bQ l).Nodup):l.length<=aG:=by
 have⟨f,O,U⟩:=V_ (p:=λ q:Nat=>(cH (.int .i64 (q:Int)) l).isSome) h g (λ q _=>so);have j:l.length=f.length:=by have:=iQ List.length O;simpa[bQ]using this
 rw[j,<-M5,U,bW];have:=BP (λ q:Nat=>(cH (.int .i64 (q:Int)) l).isSome) (List.range aG);rw[Aw]at this;exact this
def awB:xh b (.lit x):=by intro id ah es n ax ex e;cases e
def awC(h:b<=c):xh b (.sl c aG a n ax ex):=by intro c aG a n ax ex e;cases e;exact h
def aE7(B:E0.Q.get b=some 1)(O:H.get a=some (.cells 1 t ro))(U:AV t 0 (.map ax))(F:H.get ax=some (.map kt c l))(C:jE c l=true)(r:∀x∈bQ l,∃q:Nat,q<aG/\x=.int .i64 q)(h:(bQ l).Nodup)(P:aG<=1000000){p:Nat->Bool}(z:∀q:Nat,q<aG->((cH (.int .i64 q) l).isSome=true↔p q=true)):CN 163 [.fn (.func b) [] [.ptr a 0]] H λ v K=>aW K 1 (One λ n=>ae ((n:Nat):Int)) v ((List.range aG).filter p)/\xh H.ab v/\I [] H K:=by
 have⟨M,y,w⟩:=V_ r h z
 have S:=aiV r h
 have key:∀(f:AU),f=((List.range aG).filter p).map (λ n=>ae ((n:Nat):Int))->vD E0 2 [.fn (.func b) [] [.ptr a 0]] H=(eC (.ok (.lit (.slice none 0 0),H)) (λ _=>kN .e 0 f λ t=>kM H (.cells f.length t false) λ ax H'=>.ok (.sl ax 0 1 f.length f.length false,H')) f.length:R (J×D)):=by intro f u;rw[avR,aiS B O U F C ω,y,RU,Wm,w,JA,u,u_];rfl
 generalize G:(List.range aG).filter p=L at key
 have g:L.length<=aG:=by rw[<-G];have:=BP p (List.range aG);rwa[Aw]at this
 have Q:=key _ rfl
 cases L with
 |nil=>exact Ht (n:=0) ahO Q ⟨.nil,awB,aw⟩
 |cons x L=>
  have e:(List.map (λ n=>ae ((n:Nat):Int)) (x::L)).length=L.length+1:=ζ
  rw[e,WD,FD,JG]at Q
  refine Ht (n:=0) ahO Q ⟨?_,awC aF,aw.add _⟩
  refine aW.sl (L:=x::L) Lv.new ζ (λ i A=>?_) ζ (by simp at g;unfold maxLen;simp;omega)
  refine⟨_,iB.2 ⟨rfl,λ j N=>?_⟩,rfl⟩
  obtain rfl:j=0:=ω
  have:i<(List.map (λ n=>ae ((n:Nat):Int)) (x::L)).length:=by rw[e];simpa using A
  rw[Tr.vn,aq ω]
  simp only[mQ,BR,xx,Ax]
  rw[bf this,BO];rfl
end
end
section
open Go.RowKit PC
section
variable{H:D}{id m:Nat}{aA:Nat->Nat}
def ayD(H:D)(m:Nat):CN 164 [.map m] H λ v K=>K=H.add (.cells 1 (Tr.e.put 0 (some (.map m))) false)/\v=.fn (.func 221) [] [.ptr H.ab 0]:=by refine im arh rfl ?_;simp
def aEM(f:e_ H id m aA){tO:Nat}(O:H.get tO=some (.cells 1 t ro))(U:AV t 0 (.map m)):CN 163 [.fn (.func 221) [] [.ptr tO 0]] H λ v K=>aW K 1 (One λ n=>ae ((n:Nat):Int)) v (jP aA)/\xh H.ab v/\I [] H K:=by have⟨c,l,r,p,j,h,g⟩:=f.mp.ob;rw[Q0];refine aE7 avd O U r.get p h g ω λ q u=>?_;rw[j];by_cases e:aA q=0<;>simp[e]
def afz(cj:Nat->AT->D->Prop)(X:AT)(hS:e_ H id m aA)(hb:Lv H aG (.cells 1 tb ro))(Ei:tb.get 0=some (.ptr id 0))(hX:∀x∈X,x<H.ab/\x≠aG)(hO:∀j aL K,cj j aL K->I X H K->e_ K id m aA)(B:∀j aL K T,cj j aL K->I [] K T->cj j aL T)(h0:cj 0 [] H)(hf:∀j q aL K,(jP aA)[j]?=some q->cj j aL K->I X H K->(∀y∈aL,H.ab<=y)->CF E0 vl [ae (q:Nat),u64 (aA q)] K λ v T=>v=bl true/\∃C,cj (j+1) C T/\I (X++aL) K T/\∀y∈C,y∈aL\/K.ab<=y):CN 162 [vl,.ptr aG 0] H λ _ K=>(∃aL,cj (jP aA).length aL K/\∀y∈aL,H.ab<=y)/\I X H K:=by
 refine ba arf rfl λ Q' hQ=>?_
 have⟨t,s1,s2,s3⟩:=hS.ob
 simp[hb.get,Ei,s1.get,s2,cE (ayD _ _)]
 have g0:I [] H (H.add (.cells 1 (Tr.e.put 0 (some (.map m))) false)):=aw.add _
 refine CW (aEM (hS.ai g0) (tO:=H.ab) (t:=Tr.e.put 0 (some (.map m))) (ro:=false) PN ζ) ?_
 rintro v u ⟨M,AW,R⟩
 have z:=g0.trans R
 simp[M.aN bK]
 refine CA (λ j sl K=>∃aL,cj j aL K/\(∀y∈aL,u.ab<=y)/\I X H K/\(∀i,H.ab<=i->i<u.ab->K.get i=u.get i)/\u.ab<=K.ab/\j<=(jP aA).length/\AV sl 0 vl/\AV sl 1 (.ptr aG 0)/\AV sl 12 v/\AV sl 13 (ae ((jP aA).length:Nat))/\AV sl 14 (ae (j:Nat))) ((jP aA).length) ⟨[],B _ _ _ _ h0 z,ζ,z.mono ζ,λ _ _ _=>rfl,aF,dQ _,ζ⟩ ?_
 rintro b kk-Q j sl K ⟨aL,P,p,f,Gj,J,hj,s0,RN,fK,S,V⟩ ih
 by_cases g:j<(jP aA).length
 .have L:aW K 1 (One λ n=>ae ((n:Nat):Int)) v (jP aA):=by have gg:I (List.range H.ab) u K:=⟨J,λ i A w=>Gj i (by simpa using w) A⟩;exact M.Uk (AW.mono (H7 _)) gg (λ x Z=>mj.1 Z) λ _ _ _ h=>h
  have⟨jO,ah,ax,ex,n,tt,sY,c,uh,uc,aU,bU,hR⟩:=L.gL g;have hc:c=ae (((jP aA)[j]:Nat):Int):=by have:[c]=[ae (((jP aA)[j]:Nat):Int)]:=hR;simpa using this
  subst hc;have N:=hb.W f (λ h=>(hX _ h).2 rfl);have r:=hO _ _ _ P f;have⟨t,s1,s2,s3⟩:=r.ob;have⟨c,l,R,g2,g3,g4,g5⟩:=r.mp.ob;have hq:=Wy.1 (cG g);rcases aep (g3 (jP aA)[j])with⟨e,h⟩|⟨e,b,h⟩
  .exact absurd e hq.2
  simp[s0,RN,fK,S,V,g,uh,uc.get,aU,bU,N.get,Ei,s1.get,s2,R.get,h];have Ly:=z.ab;refine vM (hf j (jP aA)[j] aL K (bf g) P f λ y G=>aY Ly (p y G)) ?_;rintro _ T ⟨rfl,C,O,U,F⟩;have bA:(jP aA).length<=maxLen:=M.cP;simp[V,bq (aT g bA)];refine ih ω ⟨C,O,λ y G=>(F y G).elim (p y) λ h=>aY J h,⟨aY f.ab U.ab,λ i A w=>?_⟩,λ i A pO=>?_,aY J U.ab,g,by simp[s0,RN,fK,S]⟩
  .rw[U.get i (aT A f.ab) λ B=>?_]
   .exact f.get i A w
   .rw[b_]at B;rcases B with B|B
    .exact w B
    .have:=p i B;omega
  .rw[U.get i (aT pO J) λ B=>?_]
   .exact Gj i A pO
   .rw[b_]at B;rcases B with B|B
    .have:=(hX i B).1;omega
    .have:=p i B;omega
 .obtain rfl:j=(jP aA).length:=ω
  subst Q;simp[S,V];have Ly:=z.ab;exact hQ ⟨⟨aL,P,λ y G=>aY Ly (p y G)⟩,f⟩
end
end
section
open Go.RowKit PC
section
variable{H:D}{s sm o om:Nat}{aA Wo:Nat->Nat}
def afA(H:D)(o:Nat):CN 135 [.ptr o 0] H λ v K=>K=H.add (.cells 1 (Tr.e.put 0 (some (.ptr o 0))) false)/\v=.fn (.func 162) [] [.ptr H.ab 0]:=by refine im aqO rfl ?_;simp
def Bi(aA Wo:Nat->Nat)(ks:AT):Nat->Nat:=λ q=>if q∈ks then aA q|||Wo q else aA q
def ayj:Bi aA Wo []=aA:=by funext q;simp[Bi]
def ayi(f:kA Wo):Bi aA Wo (jP Wo)=fT aA Wo:=by
 funext q;unfold Bi fT;split
 .rfl
 .rename_i h;have:Wo q=0:=by
   by_cases e:Wo q=0
   .exact e
   .refine absurd (Wy.2 ⟨?_,e⟩) h;rcases kb q 65536 with O|O
    .exact O
    .exact absurd (f.z q O) e
  simp[this]
def ayk{ks:AT}(f:q∉ks):ma (Bi aA Wo ks) q (Bi aA Wo ks q|||Wo q)=Bi aA Wo (ks++[q]):=by
 funext x;unfold ma Bi;by_cases e:x=q
 .subst e;simp[f]
 .simp[e]
def unG(hS:e_ H s sm aA)(C:e_ H o om Wo)(hd:(o≠s/\o≠sm/\om≠s/\om≠sm)\/(o=s/\om=sm/\Wo=aA)):CN 118 [.ptr s 0,.ptr o 0] H λ v K=>v=bl (decide (zA aA Wo))/\e_ K s sm (fT aA Wo)/\I [s,sm] H K:=by
 refine ba aqC rfl λ Q' hQ=>?_;have⟨t,a1,a2,a3⟩:=hS.ob;have q1:¬s=H.ab:=bC a1.lt;simp[a1.get,a3,q1];rw[cE (afA _ _)];simp;refine HA (gv:=.fn (.func 162) [] [.ptr (H.ab+1) 0]) ζ ?_;refine⟨_,_,_,Im,?_⟩;simp;generalize R:LR.mk _ _ _ _ _ _ _=L;generalize r:D.add _ (LR.ob L _ _)=p;have W:I [] H p:=by rw[<-r];exact(((aw.add _).add _).add _).add _
 have nr:p.ab=H.ab+4:=by rw[<-r];rfl
 have i0:∃t,Lv p H.ab (.cells 1 t false)/\AV t 0 (.ptr s 0):=by rw[<-r];exact⟨_,Lv.new.add.add.add,ζ⟩
 have i1:∃t,Lv p (H.ab+1) (.cells 1 t false)/\AV t 0 (.ptr o 0):=by rw[<-r];exact⟨_,(Lv.new (H:=H.add _)).add.add,ζ⟩
 have i2:Lv p (H.ab+2) .deferred:=by rw[<-r];exact(Lv.new (H:=(H.add _).add _)).add
 have i3:Lv p (H.ab+3) (LR.ob L .ready none):=by rw[<-r];exact Lv.new
 clear r;have⟨t0,i0,u⟩:=i0;have⟨t1,i1,i1'⟩:=i1;have y:L.ps=[16,17]/\L.size=32/\L.fn=118/\L.tmps.get 2=some (.ptr H.ab 0):=by rw[<-R];exact⟨rfl,rfl,rfl,ζ⟩
 have b1:=hS.lt;have b2:=C.lt;have hK:∀j K,e_ K s sm (Bi aA Wo ((jP Wo).take j))->I [s,sm,H.ab+3] p K->e_ K o om Wo:=by
  intro j K h g;rcases hd with⟨n1,n2,n3,n4⟩|⟨rfl,rfl,rfl⟩
  .exact(C.ai W).W g (by simp;exact⟨n1,n2,ω⟩) (by simp;exact⟨n3,n4,ω⟩)
  .have e:∀l,Bi Wo Wo l=Wo:=λ l=>by funext q;unfold Bi;split<;>simp
   rw[e]at h;exact h
 refine(afz (H:=p) (cj:=λ j _ K=>e_ K s sm (Bi aA Wo ((jP Wo).take j))/\Lv K H.ab (.cells 1 t0 false)/\Lv K (H.ab+2) .deferred/\Lv K (H.ab+3) (LR.ob L .ready none)) [s,sm,H.ab+3] (C.ai W) i1 i1' ?_ (λ j _ K h g=>hK j K h.1 g) ?_ ?_ ?_).mono ?_
 .intro x Z;simp only[cZ,xu,xD]at Z;rcases Z with rfl|rfl|rfl<;>exact⟨ω,ω⟩
 .exactλ j _ K T h g=>⟨h.1.ai g,h.2.1.ai g,h.2.2.1.ai g,h.2.2.2.ai g⟩
 .exact⟨by rw[List.take_zero,ayj];exact hS.ai W,i0,i2,i3⟩
 .rintro j q aL K hj ⟨P,j0,V,z⟩ gK-;refine CF.mono (aj:=λ v T=>v=bl true/\(e_ T s sm (Bi aA Wo ((jP Wo).take (j+1)))/\Lv T H.ab (.cells 1 t0 false)/\Lv T (H.ab+2) .deferred/\Lv T (H.ab+3) (LR.ob L .ready none))/\I [s,sm,H.ab+3] K T) ?_ (λ v T h=>⟨h.1,[],h.2.1,h.2.2.mono (λ x Z=>zb _ Z),ζ⟩);simp;refine Hu (λ Y K1=>∃sl,Y=⟨sl,32,[],some (H.ab+3),118⟩/\AV sl 2 (.ptr H.ab 0)/\AV sl 6 (ae (q:Nat))/\AV sl 7 (u64 (Wo q))/\K=K1) z.get (by rw[y.1];rfl) (by rw[y.1,y.2.1];simp) ?_ ?_
  .rw[y.1,y.2.1,y.2.2.1];rw[<-iQ LR.aI4 R];dsimp only;simp[y.2.2.2]
  .rintro _ _ ⟨sl,rfl,z2,z6,z7,rfl⟩;refine⟨none,L,z.get,?_⟩;have hb:=z.lt;have M:I [H.ab+3] K (K.put (H.ab+3) (some (LR.ob L .busy none))):=aw.put (.inr ζ);have Q:=j0.W M ζ;have U:=V.W M ζ;have F:=z.put_eq (o':=LR.ob L .busy none);have N:=P.W M ξ ξ;generalize K.put (H.ab+3) (some (LR.ob L .busy none))=Kb at M Q U F N⊢;rw[<-iQ LR.bd R];dsimp only;have ud:q∉(jP Wo).take j:=by
    have⟨Ey,hjq⟩:=cW.1 hj;intro B;have⟨i,A,e⟩:=rJ B;rw[FL]at e;have pO:i<j:=by rw[eK]at A;omega
    have:=HZ.1 (aFe Wo) i j ω Ey pO;omega
   have hq:=Wy.1 (oS hj);have e4:=ajH (N.wd.lt q) (C.wd.lt q);simp[z2,z6,z7,Q.get,u,cE (ael N q)];refine dF ?_ ?_
   .simp[dA,dm,val,z2,Q.get,u]
   simp[Zh,e4];refine CW (ajY (k:=q) (w:=Bi aA Wo ((jP Wo).take j) q|||Wo q) N hq.1 (YS (n:=64) (N.wd.lt q) (C.wd.lt q))) ?_;rintro v K2 ⟨S,O⟩;rw[ayk ud]at S;have e5:(jP Wo).take j++[q]=(jP Wo).take (j+1):=by rw[mI,hj];rfl
   rw[e5]at S;have k0:=Q.W O ξ;have f:=U.W O ξ;have k3:=F.W O ξ;simp;refine⟨_,_,L,k3.get,?_⟩;have ge:I [H.ab+3] K2 (K2.put (H.ab+3) (some (LR.ob L .ready none))):=aw.put (.inr ζ);refine⟨rfl,⟨S.W ge ξ ξ,k0.W ge ζ,f.W ge ζ,k3.put_eq⟩,?_⟩;exact((M.mono ζ).trans (O.mono ζ)).trans (ge.mono ζ)
 .rintro _ K ⟨⟨aL,⟨P,j0,V,z⟩,-⟩,gK⟩;refine⟨_,_,L,z.get,ζ,?_⟩;show aD E0 _ _ _ _;have ge:I [H.ab+3] K (K.put (H.ab+3) (some (LR.ob L .exhausted none))):=aw.put (.inr ζ);have k0:=j0.W ge ζ;have f:=V.W ge ζ;rw[iF,ayi C.wd]at P;have J:=P.W ge ξ ξ;have G:I [s,sm] H (K.put (H.ab+3) (some (LR.ob L .exhausted none))):=⟨aY W.ab (gK.trans (ge.mono ζ)).ab,λ i A hs=>by rw[(gK.trans (ge.mono ζ)).get i ω (by simp at hs⊢;omega)];exact W.get i A ζ⟩;replace k0:Lv (K.put (H.ab+1+1+1) (some (LR.ob L .exhausted none))) _ _:=k0;replace f:Lv (K.put (H.ab+1+1+1) (some (LR.ob L .exhausted none))) _ _:=f;replace J:e_ (K.put (H.ab+1+1+1) (some (LR.ob L .exhausted none))) _ _ _:=J;replace G:I [s,sm] H (K.put (H.ab+1+1+1) (some (LR.ob L .exhausted none))):=G;generalize K.put (H.ab+1+1+1) (some (LR.ob L .exhausted none))=K9 at k0 f J G⊢;have⟨t9,c1,c2,c3⟩:=J.ob;replace f:Lv K9 (H.ab+1+1) .deferred:=f;simp[k0.get,u,c1.get,c3,f.get];have gz:I [H.ab+2] K9 (K9.put (H.ab+1+1) none):=aw.put (.inr ζ);refine hQ ⟨rfl,J.W gz ξ ξ,⟨aY G.ab gz.ab,λ i A hs=>?_⟩⟩;rw[gz.get i (aT A G.ab) ξ];exact G.get i A hs
def aeh(g:e_ H s sm aA)(h:e_ H o om Wo)(n1:o≠s)(n2:o≠sm)(n3:om≠s)(f:om≠sm):=unG g h (.inl ⟨n1,n2,n3,f⟩)
end
end
section
open Go.RowKit PC
abbrev iY(l:AT):BW:=l.map λ (n:Nat)=>((n:Nat):Int)
def afQ(w:Nat):(bitsOf w).length<=64:=by have:=BP (λ b=>w.testBit b) (List.range 64);rwa[Aw]at this
theorem WR(aA:Nat->Nat):∀ks:AT,(sW aA ks).length<=64*ks.length
 |[]=>dQ _
 |k::ks=>by
  have O:=WR aA ks
  have U:=afQ (aA k)
  unfold sW at O⊢
  rw[BN,iP,bW,qi];omega
def aAw{ks:AT}(h:ks[c]?=some q):sW aA (ks.take (c+1))=sW aA (ks.take c)++(bitsOf (aA q)).map λ b=>64*q+b:=by unfold sW;rw[mI,h,Ay,HV];simp
def axg(aA:Nat->Nat):(jP aA).length<=65536:=by have:=BP (λ q=>decide (aA q≠0)) (List.range 65536);rw[<-Q0,Aw]at this;exact this
def LA(h:I [] H K)(g:I X K T)(Z:∀y∈X,H.ab<=y):I [] H T:=⟨aY h.ab g.ab,λ j f _=>(g.get j (aT f h.ab) λ B=>by have:=Z j B;omega).trans (h.get j f ζ)⟩
def aAs(h:b<64):64*q|||b=64*q+b:=(Nat.two_pow_add_eq_or_of_lt (i:=6) h q).symm
def ayF(r:E.tt.get kt=some ⟨.slice e,aG,a,z0⟩)(he:E.tt.get e=some ⟨d,b,c,z⟩)(C:0<b){M new:AU}(w:aX K b v M X)(A:K.get nM=some (.cells m tb ro))(B:n*b<=m)(hr:bc tb 0 (n*b)=some new)(f:fX new=true)(F:∀q,M.length=q*b->(q+n)*c<=140737488355328)(D:∀q,M.length=q*b->q+n<=9223372036854775807)(u:∀v' T ids',aX T b v' (M++new) ids'->I X K T->(∀y∈ids',y∈X\/K.ab<=y)->MD E dst v' k Y T aj):MO E (cX E kt v (.sl nM 0 b n ax ex) K) dst k Y aj:=by
 have⟨v',T,ids',p,j,h,g⟩:=KU (x:=.sl nM 0 b n ax ex) r he C w (n:=n) (new:=new) (λ k=>by unfold pz;simp[qS,A,B,bY hr]) (iB.1 hr).1 f F D
 exact zY p (u v' T ids' j h g)
section
variable{H:D}{s sm:Nat}{aA:Nat->Nat}
def N8(K:D)(tO:Nat)(l:AT)(aL:AT):Prop:=∃t u,Lv K tO (.cells 1 t false)/\AV t 0 u/\aX K 1 u (aZ (iY l)) aL
def LR8(H:D)(L:LR)(l:AT)(aL:AT)(K T:D):Prop:=∃f,N8 T H.ab l f/\Lv T (H.ab+2) .deferred/\Lv T (H.ab+3) (LR.ob L .ready none)/\I ([H.ab,H.ab+3]++aL) K T/\(∀y∈f,y∈aL\/K.ab<=y)/\I [] H T
def Wl(hS:e_ H s sm aA)(hT:xn H):CN 80 [.ptr s 0] H λ v K=>(∃aL,aX K 1 v (aZ (iY (jW aA))) aL/\∀y∈aL,H.ab<=y)/\I [] H K:=by
 refine ba as5 rfl λ Q' hQ=>?_;simp;rw[cE (afA _ _)];simp;refine HA (gv:=.fn (.func 162) [] [.ptr (H.ab+1) 0]) ζ ?_;refine⟨_,_,_,Im,?_⟩;simp;generalize qL:LR.mk _ _ _ _ _ _ _=L;generalize C:D.add _ (LR.ob L _ _)=P;have W:I [] H P:=by rw[<-C];exact(((aw.add _).add _).add _).add _
 have nr:P.ab=H.ab+4:=by rw[<-C];rfl
 have i0:N8 P H.ab [] []:=by rw[<-C];exact⟨_,_,Lv.new.add.add.add,ζ,.nil⟩
 have i1:∃t,Lv P (H.ab+1) (.cells 1 t false)/\AV t 0 (.ptr s 0):=by rw[<-C];exact⟨_,(Lv.new (H:=H.add _)).add.add,ζ⟩
 have i2:Lv P (H.ab+2) .deferred:=by rw[<-C];exact(Lv.new (H:=(H.add _).add _)).add
 have i3:Lv P (H.ab+3) (LR.ob L .ready none):=by rw[<-C];exact Lv.new
 clear C;have⟨t1,i1,i1'⟩:=i1;have N:L.ps=[8,9]/\L.size=25/\L.fn=80/\L.tmps.get 3=some (.ptr H.ab 0):=by rw[<-qL];exact⟨rfl,rfl,rfl,ζ⟩
 have b1:=hS.lt;refine(afz (H:=P) (cj:=λ j aL K=>N8 K H.ab (sW aA ((jP aA).take j)) aL/\Lv K (H.ab+2) .deferred/\Lv K (H.ab+3) (LR.ob L .ready none)/\I [] H K) [H.ab,H.ab+3] (hS.ai W) i1 i1' ?_ (λ _ _ _ h _=>hS.ai h.2.2.2) ?_ ?_ ?_).mono ?_
 .intro x Z;simp only[cZ,xu,xD]at Z;rcases Z with rfl|rfl<;>exact⟨ω,ω⟩
 .rintro j aL K T ⟨⟨t,u,p,f,r⟩,h⟩ g;exact⟨⟨t,u,p.ai g,f,r.W g ζ⟩,h.1.ai g,h.2.1.ai g,h.2.2.trans g⟩
 .exact⟨i0,i2,i3,W⟩
 .rintro j q aL K hj ⟨hJ,j2,R,jH⟩ gK J;have hq:=Wy.1 (oS hj);have Ey:j<(jP aA).length:=by
   rcases kb j (jP aA).length with h|h
   .exact h
   .rw[y_ h]at hj;cases hj
  have sG:=axg aA;clear hQ;refine CF.mono (aj:=λ v T=>v=bl true/\LR8 H L (sW aA ((jP aA).take (j+1))) aL K T) ?_ (by rintro v T ⟨O,Y',a1,a2,a3,a4,a5,a6⟩;exact⟨O,Y',⟨a1,a2,a3,a6⟩,a4,a5⟩);have fS:H.ab+1+1+1=H.ab+3:=rfl;simp only[fS];simp;refine Hu (λ Y K1=>∃sl,Y=⟨sl,25,[],some (H.ab+3),80⟩/\AV sl 3 (.ptr H.ab 0)/\AV sl 4 (ae (q:Nat))/\AV sl 5 (u64 (aA q))/\K=K1) R.get (by rw[N.1];rfl) (by rw[N.1,N.2.1];simp) ?_ ?_
  .rw[N.1,N.2.1,N.2.2.1];rw[<-iQ LR.aI4 qL];dsimp only;simp[N.2.2.2]
  .rintro _ _ ⟨sl,rfl,z3,z4,z5,rfl⟩;refine⟨none,L,R.get,?_⟩;have hb:=R.lt;have hYK:∀y∈aL,y≠H.ab+3/\y≠H.ab:=λ y G=>by have:=J y G;omega
   have gb:I [H.ab+3] K (K.put (H.ab+3) (some (LR.ob L .busy none))):=aw.put (.inr ζ);have U:=j2.W gb ζ;have F:=R.put_eq (o':=LR.ob L .busy none);have hBx:N8 (K.put (H.ab+3) (some (LR.ob L .busy none))) H.ab (sW aA ((jP aA).take j)) aL:=by have⟨t,u,p,f,r⟩:=hJ;exact⟨t,u,p.W gb ζ,f,r.W gb λ y G=>by have:=(hYK y G).1;simp;omega⟩
   have gH:=LA jH gb ζ;generalize K.put (H.ab+3) (some (LR.ob L .busy none))=Kb at gb U F hBx gH⊢;rw[<-iQ LR.bd qL];dsimp only;simp;refine bu (α:=AT×Nat) (aJ:=λ a sl K2=>(∃Y2,N8 K2 H.ab (sW aA ((jP aA).take j)++a.1.map λ b=>64*q+b) Y2/\(∀y∈Y2,y∈aL\/K.ab<=y))/\Lv K2 (H.ab+2) .deferred/\Lv K2 (H.ab+3) (LR.ob L .busy none)/\I ([H.ab,H.ab+3]++aL) K K2/\I [] H K2/\bitsOf (aA q)=a.1++bitsOf a.2/\a.2<18446744073709551616/\AV sl 3 (.ptr H.ab 0)/\AV sl 4 (ae (q:Nat))/\AV sl 5 (u64 a.2)) (mu:=λ a=>(bitsOf a.2).length) ?_ ([],aA q) _ _ ?ini;case ini=>exact⟨⟨aL,by simpa using hBx,λ y G=>.inl G⟩,U,F,gb.mono ζ,gH,rfl,hS.wd.lt q,z3,z4,z5⟩
   rintro b kk-Q ⟨pre,w⟩ sl K2 ⟨⟨Y2,M,Gt⟩,l2,l3,iu,zy,UI,hw,s3,s4,s5⟩ ih;dsimp only at M UI hw s5 ih;by_cases qz:w=0
   .subst qz;subst Q;have:bitsOf (aA q)=pre:=by rw[UI,afR,HU]
    simp[s5];refine⟨_,_,L,l3.get,?_⟩;have ge:I [H.ab+3] K2 (K2.put (H.ab+3) (some (LR.ob L .ready none))):=aw.put (.inr ζ);have at7:∀y∈Y2,y≠H.ab+3:=λ y G=>(Gt y G).elim (λ h=>(hYK y h).1) λ h=>ω
    refine⟨rfl,Y2,?_,l2.W ge ζ,l3.put_eq,?_,Gt,LA zy ge ζ⟩
    .have⟨t,u,p,f,r⟩:=M;refine⟨t,u,p.W ge ζ,f,?_⟩;rw[aAw hj,this];exact r.W ge λ y G=>by have:=at7 y G;simp;omega
    .exact iu.trans (ge.mono ζ)
   .have⟨t,u,p,f,r⟩:=M;have eH:=anM qz hw;have⟨c1,c2,c3,c4⟩:=ajb qz hw;have ui:¬(w:Int)=0:=ω
    have e1:IntKind.wrap .i64 ((q:Int)*64)=((64*q:Nat):Int):=by rw[fQ ω ω];omega
    have e2:=aAt (a:=64*q) (b:=Lib.ctz 64 w) ω ω;rw[aAs c1,show((64*q:Nat):Int)=64*(q:Int)from ω,show((64*q+Lib.ctz 64 w:Nat):Int)=64*(q:Int)+((Lib.ctz 64 w:Nat):Int)from ω]at e2;have e3:IntKind.wrap .u64 ((w:Int)-1)=((w-1:Nat):Int):=by rw[wrap_u64 ω ω];omega
    have e4:=F0 hw (show w-1<18446744073709551616 by omega);have hoL:(sW aA ((jP aA).take j)++pre.map λ b=>64*q+b).length<=4194304:=by have a1:=WR aA ((jP aA).take j);have a2:=afQ (aA q);rw[UI,iP]at a2;rw[iP,bW];rw[eK]at a1;omega
    simp[-cX,s3,s4,s5,qz,p.get,f,ani,e1,cE (aGk hw qz (hT.W zy))];refine dF ?_ ?_
    .simp[dA,dm,val,s3,p.get,f,r.aZ.fy]
    simp[-cX,Zh,e2];generalize dU:D.add _ _=Ka;have ga:I [] K2 Ka:=by rw[<-dU];exact aw.add _
    have la:∃tn,Lv Ka K2.ab (.cells 1 tn false)/\bc tn 0 1=some [ae (64*(q:Int)+((Lib.ctz 64 w:Nat):Int))]:=by rw[<-dU];exact⟨_,Lv.new,by simp[bc]⟩
    clear dU;have⟨tn,la,lr⟩:=la;have aIi:(aZ (iY (sW aA ((jP aA).take j)++pre.map λ b=>64*q+b))).length<=4194304:=by rw[bW,bW];exact hoL
    refine ayF bK qF ω (r.W ga ζ) la.get aF lr rfl (λ x Z=>ω) (λ x Z=>ω) ?_;intro v' K3 Y3 p1 p2' p3';have z:I Y2 K2 K3:=(ga.mono ζ).trans p2';have p3:∀y∈Y3,y∈Y2\/K2.ab<=y:=λ y G=>(p3' y G).imp id λ h=>aY ga.ab h;have UF:∀y∈Y2,y≠H.ab/\y≠H.ab+2/\y≠H.ab+3:=λ y G=>(Gt y G).elim (λ h=>by have:=J y h;omega) λ h=>ω
    have r1:=p.W z λ h=>(UF _ h).1 rfl;have r2:=l2.W z λ h=>(UF _ h).2.1 rfl;have r3:=l3.W z λ h=>(UF _ h).2.2 rfl;simp[s3,s5,r1.get,p1.cell,p1.co,KX,e3,e4];have V:I [H.ab] K3 (K3.put H.ab (some (.cells 1 (t.put 0 (some v')) false))):=aw.put (.inr ζ);have at4:∀y∈Y3,y≠H.ab:=λ y G=>(p3 y G).elim (λ h=>(UF y h).1) λ h=>by have:=p.lt;omega
    have bm:(bitsOf (w&&&(w-1))).length<(bitsOf w).length:=by rw[eH,qi];omega
    refine ih (pre++[Lib.ctz 64 w],w&&&(w-1)) _ _ bm ⟨⟨Y3,⟨_,v',r1.put_eq,ζ,?_⟩,λ y G=>?_⟩,r2.W V ζ,r3.W V ζ,?_,?_,?_,KL Nat.and_le_left hw,by simp[s3],by simp[s4],ζ⟩
    .have:=p1.W V λ y G=>by have:=at4 y G;simp;exact this
     simpa using this
    .rcases p3 y G with h|h
     .exact Gt y h
     .exact .inr (aY iu.ab h)
    .refine⟨aY iu.ab (aY z.ab V.ab),λ i A S=>?_⟩;simp only[b_,cZ,xu,xD,not_or]at S;have pO:=aT A iu.ab;rw[V.get i (aT pO z.ab) (by simp;exact S.1.1),z.get i pO λ B=>?_]
     .exact iu.get i A (by simp;exact⟨S.1.1,S.1.2,S.2⟩)
     .exact(Gt i B).elim S.2 λ h=>ω
    .refine LA (LA zy z λ y G=>?_) V ζ;exact(Gt y G).elim (λ h=>by have:=J y h;omega) λ h=>ω
    .rw[UI,eH];simp
 .rintro _ K ⟨⟨aL,⟨hJ,j2,R,jH⟩,J⟩,gK⟩;refine⟨_,_,L,R.get,ζ,?_⟩;show aD E0 _ _ _ _;have fS:H.ab+1+1+1=H.ab+3:=rfl;simp only[fS];have ge:I [H.ab+3] K (K.put (H.ab+3) (some (LR.ob L .exhausted none))):=aw.put (.inr ζ);have f:=j2.W ge ζ;rw[iF,aAv]at hJ;have⟨t,u,p,kt,r⟩:=hJ;have k4:=p.W ge ζ;have k5:=r.W ge λ y G=>by have:=J y G;simp;omega
  have gf:=LA jH ge ζ;generalize K.put (H.ab+3) (some (LR.ob L .exhausted none))=K9 at f k4 k5 gf⊢;replace f:Lv K9 (H.ab+1+1) .deferred:=f;simp[k4.get,kt,f.get];have gz:I [H.ab+2] K9 (K9.put (H.ab+1+1) none):=aw.put (.inr ζ);refine hQ ⟨⟨aL,k5.W gz λ y G=>by have:=J y G;simp;omega,λ y G=>by have:=J y G;omega⟩,LA gf gz ζ⟩
end
end
def Oa(z:Int):Prop:=-9223372036854775808<=z/\z<=9223372036854775807
def awT{z:Int}(h:Oa z):yA (.int .i64 z)=true:=by
 have⟨O,U⟩:=h;cases z with
 |ofNat n=>
  show Nat.ble n 9223372036854775807=true
  have:n<=9223372036854775807:=by simp at U;omega
  simpa using this
 |negSucc n=>
  show Nat.ble n 9223372036854775807=true
  have:n<=9223372036854775807:=ω
  simpa using this
def FA(f:Int->β)(i:Int)(x:β):Int->β:=λ j=>if j=i then x else f j
def abj(f:E.tt.get n=some ⟨.map m aG,a,b,z⟩)(h:K.get ax=some (.map e c l)):aN E n (.map ax) K=val (.lit (.int .i64 (l.length:Nat))) K:=by unfold aN;simp[f,h]
structure yU(K:D)(m:Nat)(kt:TypeId)(f:Int->Option J)(n:Nat):Prop where
 ob:∃c l,Lv K m (.map kt c l)/\jE c l=true/\(∀q:Int,cH (.int .i64 q) l=f q)/\(∀x∈bQ l,∃q:Int,Oa q/\x=.int .i64 q)/\(bQ l).Nodup/\l.length=n
def yU.W{f:Int->Option J}{S:AT}(h:yU K m kt f n)(g:I S K T)(j:m∉S):yU T m kt f n:=by have⟨c,l,O,U⟩:=h.ob;exact⟨c,l,O.W g j,U⟩
def yU.lt{f:Int->Option J}(h:yU K m kt f n):m<K.ab:=by have⟨c,l,O,U⟩:=h.ob;exact O.lt
def yU.new(h:Lv K m (.map kt 0 [])):yU K m kt (λ _=>none) 0:=⟨0,[],h,Pq,λ q=>Ni,by simp[bQ],by simp[bQ],rfl⟩
def kpZ(h:∀x∈bQ l,∃q:Int,Oa q/\x=.int .i64 q):∀x∈bQ l,KP (.one (.i .i64)) x:=λ x Z=>by obtain⟨q,_,rfl⟩:=h x Z;exact mH _
def axe{a b:Int}:(Value.int .i64 a=.int .i64 b)↔a=b:=ζ
def axF(h:KP (.one (.i .i64)) x)(l:List AE):(eD c x v l).length=if(cH x l).isSome=true then l.length else l.length+1:=by
 have e:=iQ List.length (Jv (c:=c) (v:=v) h l);have O:(bQ (eD c x v l)).length=(eD c x v l).length:=by simp[bQ]
 have U:(bQ l).length=l.length:=by simp[bQ]
 rw[O]at e;have F:(cH x l).isSome=(lk x l).isSome:=by simp[cH]
 rw[e,F];split
 .exact U
 .rw[iP,U];rfl
theorem yU.eD{K:D}{m:Nat}{kt:aS}{c:Nat}{k:Int}{f:Int->Option J}{l:List AE}{v:J}(p:Lv K m (.map kt c l))(r:jE c l=true)(h:∀q:Int,cH (.int .i64 q) l=f q)(g:∀x∈bQ l,∃q:Int,Oa q/\x=.int .i64 q)(j:(bQ l).Nodup)(Q:Oa k):yU (K.put m (some (.map kt (oC c (.int .i64 k) l) (Go.Proofs.YtgipmaoplfkdoaaGreatDoor.eD c (.int .i64 k) v l)))) m kt (FA f k (some v)) (if(f k).isSome=true then l.length else l.length+1):=by
 refine⟨_,_,p.put_eq,ZY (mH _) (awT Q) (kpZ g) r,λ q=>?_,λ x Z=>?_,Dq (mH _) j,?_⟩
 .rw[Bb (mH _) (mH _),axe]
  unfold FA;split
  .rfl
  .exact h q
 .rw[Jv (mH _)]at Z
  split at Z
  .exact g x Z
  .rw[b_]at Z;rcases Z with Z|Z
   .exact g x Z
   .simp at Z;exact⟨k,Q,Z⟩
 .rw[axF (mH _),h]
end
end Go.Proofs.YtgipmaoplfkdoaaGreatDoor
