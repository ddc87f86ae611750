import Derived.Test.YtgipmaoplfkdoaaGreatDoorM12
set_option linter.all false
set_option maxRecDepth 100000
set_option maxHeartbeats 400000000
namespace Go.Proofs.YtgipmaoplfkdoaaGreatDoor
noncomputable section
open Go.RowKit
namespace SV
theorem wrap_one{x:Int}(h:0<=x)(U:x<=4611686018427387904):Go.IntKind.wrap .i64 (x+1)=x+1:=by show(if(true&&decide ((x+1)%18446744073709551616>=9223372036854775808))=true then(x+1)%18446744073709551616-18446744073709551616 else(x+1)%18446744073709551616)=x+1;rw[Int.emod_eq_of_lt (by omega) (by omega),ao (by simp;omega)]
theorem sumN_le{f g:Nat->Nat}:∀n,(∀i,i<n->f i<=g i)->m_ f n<=m_ g n
 |0,_=>Nat.le_refl _
 |n+1,h=>by
  have:=sumN_le n λ i A=>h i (by omega)
  have:=h n (by omega)
  simp only[m_];omega
theorem E6{f g:Nat->Nat}{k d e:Nat}(hd:f k+d<=g k+e):∀n,(∀i,i<n->i≠k->f i<=g i)->k<n->m_ f n+d<=m_ g n+e
 |0,_,h=>by omega
 |n+1,h,Q=>by
  by_cases q:n=k
  .subst q
   have:=sumN_le n λ i A=>h i (by omega) (by omega);simp only[m_];omega
  .have:=E6 hd n (λ i A=>h i (by omega)) (by omega)
   have:=h n (by omega) q;simp only[m_];omega
def E4(aA:Nat->Nat)(n:Nat):Nat:=m_ (λ i=>xG (!cC aA i)) n
theorem mis_bd{aA:Nat->Nat}{n:Nat}:E4 aA n<=n:=by have:=ad5 (f:=λ i=>xG (!cC aA i)) (c:=1) (λ i=>anh _) n;unfold E4;omega
theorem mis_or{aA V:Nat->Nat}{n:Nat}:E4 (fT aA V) n<=E4 aA n:=sumN_le n λ i _=>by rw[uk];cases cC aA i<;>cases cC V i<;>simp[xG]
theorem mis_lt{aA V:Nat->Nat}{i n:Nat}(A:i<n)(O:cC V i=true)(U:cC aA i=false):E4 (fT aA V) n+1<=E4 aA n:=E6 (e:=0) (by simp[xG,uk,O,U]) n (λ i _ _=>by rw[uk];cases cC aA i<;>cases cC V i<;>simp[xG]) A
theorem srt_len:∀(l:List Nat) (a n:Nat),l.Pairwise (·< ·)->(∀x∈l,a<=x/\x<n)->l.length<=n-a
 |[],_,_,_,_=>by simp
 |x::l,a,n,hp,h=>by
  rw[xw]at hp
  have O:=h x (by simp)
  have:=srt_len l (x+1) n hp.2 λ y G=>⟨hp.1 y G,(h y (by simp[G])).2⟩
  rw[qi];omega
theorem E5(aA:Nat->Nat):(jW aA).Pairwise (·< ·):=by
 have key:∀n,(sW aA (List.range n)).Pairwise (·< ·)/\∀i∈sW aA (List.range n),i<64*n:=by
  intro n;induction n with
  |zero=>simp[sW]
  |succ n ih=>
   have e:sW aA (List.range (n+1))=sW aA (List.range n)++(bitsOf (aA n)).map λ b=>64*n+b:=by unfold sW;rw[YK,HV];simp
   rw[e]
   refine⟨List.pairwise_append.2 ⟨ih.1,?_,λ a ha b hb=>?_⟩,λ i A=>?_⟩
   .rw[S9]
    exact(akN (aA n)).imp λ h=>by omega
   .have:=ih.2 a ha
    rw[jn]at hb;obtain⟨c,_,rfl⟩:=hb;omega
   .rw[b_]at A
    rcases A with A|A
    .have:=ih.2 i A;omega
    .rw[jn]at A;obtain⟨c,hc,rfl⟩:=A;have:=(Wx.1 hc).1;omega
 rw[Wj];exact(key 65536).1
theorem listW_le{aA:Nat->Nat}{n:Nat}(h:kA aA)(hb:∀o,cC aA o=true->o<n):(jW aA).length<=n:=srt_len _ 0 n (E5 aA) λ x Z=>⟨by omega,hb x ((Dm h).1 Z)⟩
def is5(r:bL):Nat:=if r.kind=5 then 1 else 0
def C1(l:List bL):Nat:=(l.map is5).sum
def E3(V:SV)(N B4:Nat)(i:Nat):Nat:=(N+B4*C1 (V.aO i))*(E4 (V.set i) B4+xG (V.wait i))+E4 (V.to i) N
def E9(V:SV)(N B4 R:Nat):Nat:=m_ (V.E3 N B4) N+px V N*(N+B4*R+1)
structure E2(S:SI)(ds:List bH)(N B4 ay:Nat):Prop where
 si:oQ S ds
 Fs:∀f,∀v∈S.Fs f,v<S.vars
 args:∀d∈ds,∀a∈d.args,a<S.vars
 N:N=S.vars+S.br
 B4:B4=S.br+S.fns
 ay:ay<=4611686018427387904
structure E1(S:SI)(N B4 R ay:Nat)(V:SV)(c k:Nat):Prop where
 ok:V.Ok S N
 p0:0<=V.iC
 p1:V.iC.toNat+E9 V N B4 R+c<=ay
 p2:m_ (λ i=>C1 (V.aO i)) N+k<=R
 p3:∀i,∀r∈V.aO i,r.aR<N/\r.aG<N/\(r.kind=5->0<=r.aR)
section
variable{V V':SV}{S:SI}{ds:List bH}{N B4 R ay c c' k:Nat}
theorem E1.mono(h:E1 S N B4 R ay V c k)(hc:c'<=c):E1 S N B4 R ay V c' k:={h with p1:=by have:=h.p1;omega}
theorem E1.take(hB:E2 S ds N B4 ay)(h:E1 S N B4 R ay V (c+1) k){i:Nat}{Ws:Nat->Nat}(hw:kA Ws)(hb:∀o,cC Ws o=true->o<B4):E1 S N B4 R ay (V.take i Ws) c k:=by
 have O:=h.p1;have h0:=h.p0;have hT:=hB.ay;have e1:(V.take i Ws).iC=V.iC+1:=wrap_one h0 (by omega);have key:m_ ((V.take i Ws).E3 N B4) N<=m_ (V.E3 N B4) N:=by
  by_cases g:zA (V.set (V.first i)) Ws
  .obtain⟨o,g1,g2⟩:=(atH (h.ok.wd _) hw).1 g;have B:=mis_lt (hb o g1) g1 g2;refine sumN_le N λ x _=>?_;show(N+B4*C1 (V.aO x))*(E4 (aM V.set (V.first i) (fT (V.set (V.first i)) Ws) x) B4+xG ((if zA (V.set (V.first i)) Ws then aM V.wait (V.first i) true else V.wait) x))+E4 (V.to x) N<=(N+B4*C1 (V.aO x))*(E4 (V.set x) B4+xG (V.wait x))+E4 (V.to x) N;rw[aq g];by_cases e:x=V.first i
   .subst e;rw[fE,fE];refine Nat.add_le_add_right (Nat.mul_le_mul_left _ ?_) _;have:=anh true;omega
   .rw[gG e,gG e];exact Nat.le_refl _
  .have e:V.take i Ws={V with iC:=Go.IntKind.wrap .i64 (V.iC+1)}:=by unfold SV.take;rw[ao g,abJ (h.ok.wd _) hw g,alC]
   rw[e];exact Nat.le_refl _
 refine⟨h.ok.take hw (by rw[<-hB.B4];exact hb),by omega,?_,h.p2,h.p3⟩;have e2:E9 (V.take i Ws) N B4 R=m_ ((V.take i Ws).E3 N B4) N+px V N*(N+B4*R+1):=rfl;unfold E9 at O;omega
theorem E1.bV(hB:E2 S ds N B4 ay)(h:E1 S N B4 R ay V c k){a b:Int}(ha:a<N)(hb:b<N):E1 S N B4 R ay (V.bV a b) c k:=by
 have hN:N<=4194304:=by have:=hB.si.N;have:=hB.N;omega
 unfold SV.bV;split
 .exact h
 .split
  .rename_i h0 U;have ht:=h.ok.lt a.toNat (by omega);have hf:=h.ok.lt b.toNat (by omega);refine E1.take (V:=V.tH _ _) hB ⟨h.ok.tH ht hN,h.p0,?_,h.p2,h.p3⟩ (h.ok.wd _) (by rw[hB.B4];exact h.ok.sn _);have B:=mis_lt (n:=N) (V:=nN (V.first a.toNat)) ht (by rw[GU];simp) U.2;have key:m_ ((V.tH (V.first b.toNat) (V.first a.toNat)).E3 N B4) N+1<=m_ (V.E3 N B4) N+0:=by
    refine E6 (k:=V.first b.toNat) ?_ N (λ x _ Z=>?_) hf
    .show(N+B4*C1 (V.aO _))*(E4 (V.set _) B4+xG (V.wait _))+E4 (aM V.to (V.first b.toNat) (fT (V.to (V.first b.toNat)) (nN (V.first a.toNat))) (V.first b.toNat)) N+1<=(N+B4*C1 (V.aO _))*(E4 (V.set _) B4+xG (V.wait _))+E4 (V.to _) N+0;rw[fE];omega
    .show(N+B4*C1 (V.aO x))*(E4 (V.set x) B4+xG (V.wait x))+E4 (aM V.to (V.first b.toNat) (fT (V.to (V.first b.toNat)) (nN (V.first a.toNat))) x) N<=_;rw[gG Z];exact Nat.le_refl _
   have O:=h.p1;have e2:E9 (V.tH (V.first b.toNat) (V.first a.toNat)) N B4 R=m_ ((V.tH (V.first b.toNat) (V.first a.toNat)).E3 N B4) N+px V N*(N+B4*R+1):=rfl;unfold E9 at O;show V.iC.toNat+_+_<=ay;omega
  .exact h
theorem E1.Ph(hB:E2 S ds N B4 ay):∀(l:List (Int×Int)) {V:SV},E1 S N B4 R ay V c k->(∀p∈l,p.1<N/\p.2<N)->E1 S N B4 R ay (l.foldl (λ V p=>V.bV p.1 p.2) V) c k
 |[],_,h,_=>h|p::l,_,h,hl=>E1.Ph hB l (h.bV hB (hl p (by simp)).1 (hl p (by simp)).2) λ q hq=>hl q (by simp[hq])
theorem E1.mJ(hB:E2 S ds N B4 ay){r:bL}{o:Nat}(h:E1 S N B4 R ay V (c+is5 r) k)(hr:r.aR<N/\r.aG<N/\(r.kind=5->0<=r.aR)):E1 S N B4 R ay (V.mJ S ds r o) c k:=by
 have hn:=hB.N;have hf:=SI.Pw hB.si o;rw[<-hn]at hf;have h0:=h.mono (Nat.le_add_right c (is5 r));unfold SV.mJ;split
 .exact h0.bV hB hr.1 hf
 .split
  .exact h0.bV hB hf hr.2.1
  .split
   .rename_i e5;split
    .rename_i q hq;have hs:=hB.si.step _ _ _ hq;have hsN:=hB.si.N;have hO:=hB.B4;have e:is5 r=1:=aq e5;rw[e]at h;exact h.take hB (.one (by omega)) λ x Z=>by rw[GU]at Z;simp at Z;omega
    .exact h0
   .split
    .split
     .rename_i d hd;have hd:=oS hd;have UQ:=hB.si.ds d hd;unfold SV.sA;split
      .exact h0
      .have key:∀l:List Int,(l.foldl (λ V v=>V.bV d.dst v) (((S.params (o-S.br)).zip d.args).foldl (λ V p=>V.bV p.1 p.2) V))=((l.map λ v=>(d.dst,v)).foldl (λ V p=>V.bV p.1 p.2) (((S.params (o-S.br)).zip d.args).foldl (λ V p=>V.bV p.1 p.2) V)):=λ l=>by rw[List.foldl_map]
       rw[key];refine E1.Ph hB _ (E1.Ph hB _ h0 λ p hp=>?_) λ p hp=>?_
       .have O:=hB.si.ps _ _ (KI hp).1;have U:=hB.args d hd _ (KI hp).2;omega
       .obtain⟨v,hv,rfl⟩:=jn.1 hp;have:=hB.Fs _ v hv;dsimp only;omega
     .exact h0
    .exact h0
theorem E1.app(hB:E2 S ds N B4 ay){r:bL}(hr:r.aR<N/\r.aG<N/\(r.kind=5->0<=r.aR)):∀(l:List Nat) {V:SV},E1 S N B4 R ay V (c+is5 r*l.length) k->E1 S N B4 R ay (V.app S ds r l) c k
 |[],_,h=>h|o::l,_,h=>E1.app hB hr l (E1.mJ hB (h.mono (by rw[qi,Nat.mul_succ];omega)) hr)
theorem E1.apps(hB:E2 S ds N B4 ay){l:List Nat}:∀(rs:List bL) {V:SV},(∀r∈rs,r.aR<N/\r.aG<N/\(r.kind=5->0<=r.aR))->E1 S N B4 R ay V (c+C1 rs*l.length) k->E1 S N B4 R ay (V.apps S ds rs l) c k
 |[],_,_,h=>h.mono (Nat.le_add_right _ _)
 |r::rs,_,hr,h=>E1.apps hB rs (λ q hq=>hr q (by simp[hq])) (E1.app hB (hr r (by simp)) l (h.mono (by
   unfold C1
   rw[kB,sr,DW];omega)))
theorem E1.push(hB:E2 S ds N B4 ay){i:Nat}:∀(l:List Nat) {V:SV},E1 S N B4 R ay V (c+l.length) k->E1 S N B4 R ay (V.push i l) c k
 |[],_,h=>h
 |x::l,V,h=>by
  refine E1.push hB l (V:=if V.first x≠i then V.take x (V.set i)else V) ?_
  rw[qi]at h
  split
  .exact E1.take hB h (h.ok.wd _) (by rw[hB.B4];exact h.ok.sn _)
  .exact h.mono (by omega)
theorem E1.round(hB:E2 S ds N B4 ay){i:Nat}(h:E1 S N B4 R ay V c k)(A:i<N)(hw:V.wait i=true):E1 S N B4 R ay (V.round S ds i) c k:=by
 have key:m_ ((V.pop i).E3 N B4) N+(N+B4*C1 (V.aO i))<=m_ (V.E3 N B4) N+0:=by
  refine E6 (k:=i) ?_ N (λ x _ Z=>?_) A
  .show(N+B4*C1 (V.aO i))*(E4 (V.set i) B4+xG (aM V.wait i false i))+E4 (V.to i) N+_<=(N+B4*C1 (V.aO i))*(E4 (V.set i) B4+xG (V.wait i))+E4 (V.to i) N+0;rw[fE,hw,show xG true=1 from rfl,show xG false=0 from rfl,Nat.mul_succ,xx (E4 _ _)];omega
  .show(N+B4*C1 (V.aO x))*(E4 (V.set x) B4+xG (aM V.wait i false x))+E4 (V.to x) N<=_;rw[gG Z];exact Nat.le_refl _
 have O:=h.p1;have hp:E1 S N B4 R ay (V.pop i) ((c+N)+B4*C1 (V.aO i)) k:=⟨h.ok.pop,h.p0,by have e2:E9 (V.pop i) N B4 R=m_ ((V.pop i).E3 N B4) N+px V N*(N+B4*R+1):=rfl;unfold E9 at O;show V.iC.toNat+_+_<=ay;omega,h.p2,h.p3⟩;have hl:=listW_le (h.ok.wd i) (by intro o ho;have:=h.ok.sn i o ho;have:=hB.B4;omega:∀o,cC (V.set i) o=true->o<B4);have ha:=E1.apps hB (l:=jW (V.set i)) (V.aO i) (h.p3 i) (hp.mono (Nat.add_le_add_left (by rw[Td];exact nW _ hl) _));exact E1.push hB _ (ha.mono (Nat.add_le_add_left (listW_le (ha.ok.wt i) (ha.ok.tn i)) _))
theorem reps_merge{i j:Nat}(A:V.first i=i)(hj:V.first j=j)(dK:i≠j)(az:i<N):px (V.merge i j) N+1<=px V N+0:=by
 refine E6 (k:=i) ?_ N (λ x _ Z=>?_) az
 .show xG (decide ((if V.first i=i then j else V.first i)=i))+1<=xG (decide (V.first i=i))+0;rw[aq A,Ti A,OJ (λ q=>dK q.symm)];exact Nat.le_refl _
 .show xG (decide ((if V.first x=i then j else V.first x)=x))<=xG (decide (V.first x=x));by_cases q:V.first x=i
  .rw[aq q];by_cases q3:j=x
   .subst q3;rw[hj,Ti rfl];exact Nat.le_refl _
   .rw[OJ q3];exact dQ _
  .rw[ao q];exact Nat.le_refl _
theorem k5_app{a b:List bL}:C1 (a++b)=C1 a+C1 b:=by unfold C1;rw[List.map_append,List.sum_append]
theorem k5_le{V:SV}{i j:Nat}(dK:i≠j)(A:i<N)(hj:j<N):C1 (V.aO i)+C1 (V.aO j)<=m_ (λ i=>C1 (V.aO i)) N:=by have O:=J0 (f:=λ i=>C1 (V.aO i)) (k:=i) (x:=0) N A;have U:=J0 (f:=aM (λ i=>C1 (V.aO i)) i 0) (k:=j) (x:=0) N hj;rw[gG (qj dK)]at U;omega
theorem pay_ar{N B4 R a b i8 i9 m n7 n9 ti tj t:Nat}(O:m<=i8)(U:m<=i9)(F:t<=tj)(h4:a+b<=R):(N+B4*0)*(i8+0)+ti+((N+B4*(b+a))*(m+1)+t)<=(N+B4*a)*(i8+n7)+ti+((N+B4*b)*(i9+n9)+tj)+(N+B4*R):=by have e1:(N+B4*a)*i8<=(N+B4*a)*(i8+n7):=Nat.mul_le_mul_left _ (by omega);have e2:(N+B4*b)*i9<=(N+B4*b)*(i9+n9):=Nat.mul_le_mul_left _ (by omega);have e3:B4*a*m<=B4*a*i8:=Nat.mul_le_mul_left _ O;have e4:B4*b*m<=B4*b*i9:=Nat.mul_le_mul_left _ U;have e5:N*m<=N*i9:=Nat.mul_le_mul_left _ U;have e6:B4*(a+b)<=B4*R:=Nat.mul_le_mul_left _ h4;simp only[DW,YO,Nat.mul_zero,xx,OG,BR]at*;omega
theorem E1.merge(hB:E2 S ds N B4 ay)(h:E1 S N B4 R ay V c k){i j:Nat}(A:V.first i=i)(hj:V.first j=j)(dK:i≠j)(az:i<N)(bB:j<N):E1 S N B4 R ay (V.merge i j) c k:=by
 have h0:=h.p0;have O:=h.p1;have U:=h.p2;have hT:=hB.ay;have hR:=k5_le (V:=V) dK az bB;have e1:(V.merge i j).iC=V.iC+1:=wrap_one h0 (by omega);have hr:px (V.merge i j) N+1<=px V N:=reps_merge A hj dK az;have er:∀x,(V.merge i j).aO x=aM (aM V.aO j (V.aO j++V.aO i)) i [] x:=λ _=>rfl;have w1:∀x,(V.merge i j).E3 N B4 x=(N+B4*C1 (aM (aM V.aO j (V.aO j++V.aO i)) i [] x))*(E4 (aM V.set j (fT (V.set j) (V.set i)) x) B4+xG (aM (aM V.wait i false) j true x))+E4 (aM V.to j (fT (V.to j) (V.to i)) x) N:=λ _=>rfl;have n7:(V.merge i j).E3 N B4 i=(N+B4*0)*(E4 (V.set i) B4+0)+E4 (V.to i) N:=by rw[w1,fE,gG dK,gG dK,fE,gG dK];rfl
 have n9:(V.merge i j).E3 N B4 j=(N+B4*(C1 (V.aO j)+C1 (V.aO i)))*(E4 (fT (V.set j) (V.set i)) B4+1)+E4 (fT (V.to j) (V.to i)) N:=by rw[w1,gG (qj dK),fE,fE,fE,fE,k5_app];rfl
 have mor:∀{n:Nat} {aA W':Nat->Nat},E4 (fT aA W') n<=E4 W' n:=λ {n aA W'}=>sumN_le n λ x _=>by rw[uk];cases cC aA x<;>cases cC W' x<;>simp[xG]
 have har:=pay_ar (N:=N) (B4:=B4) (ti:=E4 (V.to i) N) (n7:=xG (V.wait i)) (n9:=xG (V.wait j)) (mor (n:=B4) (aA:=V.set j) (W':=V.set i)) (mis_or (n:=B4) (aA:=V.set j) (V:=V.set i)) (mis_or (n:=N) (aA:=V.to j) (V:=V.to i)) (show C1 (V.aO i)+C1 (V.aO j)<=R by omega);have d8:V.E3 N B4 i=(N+B4*C1 (V.aO i))*(E4 (V.set i) B4+xG (V.wait i))+E4 (V.to i) N:=rfl;have d9:V.E3 N B4 j=(N+B4*C1 (V.aO j))*(E4 (V.set j) B4+xG (V.wait j))+E4 (V.to j) N:=rfl;have key:m_ ((V.merge i j).E3 N B4) N<=m_ (V.E3 N B4) N+(N+B4*R):=by
  have e:m_ ((V.merge i j).E3 N B4) N=m_ (aM (aM (V.E3 N B4) i ((V.merge i j).E3 N B4 i)) j ((V.merge i j).E3 N B4 j)) N:=by
   refine NV N λ x _=>?_;by_cases q:x=j
   .subst q;rw[fE]
   .rw[gG q];by_cases q2:x=i
    .subst q2;rw[fE]
    .rw[gG q2,w1,gG q2,gG q,gG q,gG q,gG q2,gG q];rfl
  have a1:=J0 (f:=V.E3 N B4) (k:=i) (x:=(V.merge i j).E3 N B4 i) N az;have a2:=J0 (f:=aM (V.E3 N B4) i ((V.merge i j).E3 N B4 i)) (k:=j) (x:=(V.merge i j).E3 N B4 j) N bB;rw[gG (qj dK)]at a2;rw[<-e,n7,n9,d9]at a2;rw[n7,d8]at a1;omega
 refine⟨h.ok.merge hj dK bB,by omega,?_,?_,λ x r Z=>?_⟩
 .have e2:E9 (V.merge i j) N B4 R=m_ ((V.merge i j).E3 N B4) N+px (V.merge i j) N*(N+B4*R+1):=rfl;have e3:=nW (N+B4*R+1) hr;rw[DW,Nat.one_mul]at e3;unfold E9 at O;omega
 .have e:m_ (λ x=>C1 ((V.merge i j).aO x)) N=m_ (aM (aM (λ x=>C1 (V.aO x)) j (C1 (V.aO j)+C1 (V.aO i))) i 0) N:=by
   refine NV N λ x _=>?_;rw[er];unfold aM;split
   .rfl
   .split
    .exact k5_app
    .rfl
  have a1:=J0 (f:=aM (λ x=>C1 (V.aO x)) j (C1 (V.aO j)+C1 (V.aO i))) (k:=i) (x:=0) N az;have a2:=J0 (f:=λ x=>C1 (V.aO x)) (k:=j) (x:=C1 (V.aO j)+C1 (V.aO i)) N bB;rw[gG dK]at a1;omega
 .rw[er]at Z;unfold aM at Z;split at Z
  .simp at Z
  .split at Z
   .rw[b_]at Z;exact Z.elim (h.p3 _ r) (h.p3 _ r)
   .exact h.p3 _ r Z
theorem E1.fold(hB:E2 S ds N B4 ay){f:Nat->Nat}(h:E1 S N B4 R ay V c k):∀n,n<=N->E1 S N B4 R ay (eQ V f n).1 c k
 |0,_=>h
 |n+1,hn=>by
  have ih:=E1.fold hB (f:=f) h n (by omega)
  have hI:=Py (V0:=V) (c:=f) h.ok.id n
  by_cases e:V.first n=n
  .cases hs:(eQ V f n).2 (f n)with
   |none=>rw[(T' e hs).1];exact ih
   |some j=>
    rw[(Ub e hs).1]
    obtain⟨j1,j2,j3,j4⟩:=hI.st _ _ hs
    have C6:sX V f n n=n:=by rw[hI.A (Nat.le_refl _),e]
    refine ih.merge hB ?_ ?_ (by omega) (by omega) (by omega)
    .rw[hI.raw,C6,C6]
    .rw[hI.raw,j2,j2]
  .rw[(Ua e).1];exact ih
theorem E1.lP(hB:E2 S ds N B4 ay)(h:E1 S N B4 R ay V c k):E1 S N B4 R ay (V.lP N) c k:=h.fold hB N (Nat.le_refl _)
theorem E1.its(hB:E2 S ds N B4 ay){x:Int×SV}(h:E1 S N B4 R ay x.2 c k):∀n,E1 S N B4 R ay (pA S ds N n x).2 c k
 |0=>h
 |n+1=>by
  have ih:=E1.its hB h n
  show E1 S N B4 R ay (vU S ds N (pA S ds N n x)).2 c k
  unfold vU
  split
  .exact ih
  .rename_i i A
   have hl:=ai0 A;have hr:=ih.round hB hl.1 hl.2.1;dsimp only;split
   .exact hr.lP hB
   .exact hr
def E8(r:bL):Nat:=if r.kind=1\/r.kind=5 then 1 else 0
theorem E1.put{r:bL}(h:E1 S N B4 R ay V (c+is5 r*(B4*(B4+1))) (k+is5 r)){j:Nat}(hj:j<N)(hr:r.aR<N/\r.aG<N/\(r.kind=5->0<=r.aR)):E1 S N B4 R ay {V with aO:=aM V.aO j (V.aO j++[r])} c k:=by
 have O:=h.p1;have U:=h.p2;have e5:C1 (V.aO j++[r])=C1 (V.aO j)+is5 r:=by rw[k5_app];rfl
 have B:=mis_bd (aA:=V.set j) (n:=B4);have hb:=anh (V.wait j);have key:m_ (E3 {V with aO:=aM V.aO j (V.aO j++[r])} N B4) N+0<=m_ (V.E3 N B4) N+is5 r*(B4*(B4+1)):=by
  refine E6 (k:=j) ?_ N (λ x _ Z=>?_) hj
  .show(N+B4*C1 (aM V.aO j (V.aO j++[r]) j))*(E4 (V.set j) B4+xG (V.wait j))+E4 (V.to j) N+0<=(N+B4*C1 (V.aO j))*(E4 (V.set j) B4+xG (V.wait j))+E4 (V.to j) N+_;rw[fE,e5,YO B4,<-vd N,DW (N+B4*C1 (V.aO j))];have:B4*is5 r*(E4 (V.set j) B4+xG (V.wait j))<=is5 r*(B4*(B4+1)):=by rw[Td B4 (is5 r),Nat.mul_assoc];exact Nat.mul_le_mul_left _ (Nat.mul_le_mul_left _ (by omega))
   omega
  .show(N+B4*C1 (aM V.aO j (V.aO j++[r]) x))*(E4 (V.set x) B4+xG (V.wait x))+E4 (V.to x) N<=_;rw[gG Z];exact Nat.le_refl _
 refine⟨⟨h.ok.lt,h.ok.id,h.ok.wd,h.ok.wt,h.ok.tn,h.ok.sn⟩,h.p0,?_,?_,λ i q hq=>?_⟩
 .have e2:E9 {V with aO:=aM V.aO j (V.aO j++[r])} N B4 R=m_ (E3 {V with aO:=aM V.aO j (V.aO j++[r])} N B4) N+px V N*(N+B4*R+1):=rfl;unfold E9 at O;show V.iC.toNat+_+_<=ay;omega
 .have:=E6 (f:=λ i=>C1 (aM V.aO j (V.aO j++[r]) i)) (g:=λ i=>C1 (V.aO i)) (k:=j) (d:=0) (e:=is5 r) (by rw[fE,e5];omega) N (λ x _ Z=>by rw[gG Z];exact Nat.le_refl _) hj;show m_ (λ i=>C1 (aM V.aO j (V.aO j++[r]) i)) N+k<=R;omega
 .have hq:q∈aM V.aO j (V.aO j++[r]) i:=hq;unfold aM at hq;split at hq
  .rw[b_,jo]at hq;rcases hq with hq|rfl
   .exact h.p3 _ _ hq
   .exact hr
  .exact h.p3 _ _ hq
theorem E1.rel(hB:E2 S ds N B4 ay){r:bL}(hr:SA S ds r)(h:E1 S N B4 R ay V (c+E8 r*(B4*(B4+1)+1)) (k+is5 r)):E1 S N B4 R ay (V.iN r) c k:=by
 have hn:=hB.N;have ha:=hr.ok.a;have U:=h.p2;have Q:∀c',c'<=c+E8 r*(B4*(B4+1)+1)->E1 S N B4 R ay V c' k:=λ c' hc=>{h.mono hc with p2:=by omega};unfold SV.iN;split
 .rename_i e;have e1:E8 r=1:=aq (.inl e);have hsN:=hB.si.N;have Dc:=hB.si.fns;have hb:=hr.b e;have hO:=hB.B4;refine E1.take hB (Q _ (by rw[e1];omega)) (.one (by omega)) λ x Z=>?_;rw[GU]at Z;simp at Z;omega
 .rename_i n1;have eG:r.aG<S.vars:=hr.b2.resolve_right n1;have F:r.aR<N/\r.aG<N/\(r.kind=5->0<=r.aR):=⟨by omega,by omega,hr.ok.f⟩;have hp:E1 S N B4 R ay V (c+is5 r*(B4*(B4+1))) (k+is5 r):=by
   refine h.mono (Nat.add_le_add_left ?_ _);unfold is5 E8;by_cases e:r.kind=5
   .rw[aq e,aq (.inr e)];omega
   .rw[ao e,OG];exact dQ _
  split
  .exact(Q c (by omega)).bV hB F.1 F.2.1
  .split
   .rename_i e;have:=hr.a (.inr e);exact hp.put (by omega) F
   .have:=hr.b3 (by have:=hr.k;omega);exact hp.put (by omega) F
theorem E1.aO(hB:E2 S ds N B4 ay):∀(rs:List bL) {V:SV} {k:Nat},(∀r∈rs,SA S ds r)->E1 S N B4 R ay V (c+(rs.map E8).sum*(B4*(B4+1)+1)) (k+C1 rs)->E1 S N B4 R ay (rs.foldl iN V) c k
 |[],_,_,_,h=>h.mono (Nat.le_add_right _ _)
 |r::rs,V,k,hr,h=>by
  refine E1.aO hB rs (λ q hq=>hr q (by simp[hq])) (E1.rel hB (hr r (by simp)) ?_)
  have e:C1 (r::rs)=is5 r+C1 rs:=rfl
  have e2:((r::rs).map E8).sum=E8 r+(rs.map E8).sum:=rfl
  rw[e,e2,DW]at h
  have U:=h.p2
  exact{h.mono (by omega)with p2:=by omega}
theorem sol_stp(hB:E2 S ds N B4 ay){rs:List bL}(hr:∀r∈rs,SA S ds r)(hR:C1 rs<=R)(hT:N*(N*B4+N)+N*(N+B4*R+1)+(rs.map E8).sum*(B4*(B4+1)+1)<=ay):0<=(JY S ds N rs).iC/\(JY S ds N rs).iC<=ay:=by
 have h0:E1 S N B4 R ay V0 (0+(rs.map E8).sum*(B4*(B4+1)+1)) (0+C1 rs):=by
  have hw:∀i,V0.E3 N B4 i<=N*B4+N:=λ i=>by have e:V0.E3 N B4 i=N*(E4 (λ _=>0) B4+0)+E4 (λ _=>0) N:=rfl;have:=mis_bd (aA:=λ _=>0) (n:=N);have:=Nat.mul_le_mul_left N (mis_bd (aA:=λ _=>0) (n:=B4));rw[e,xx];omega
  have O:=ad5 hw N;have U:=ad5 (f:=λ i=>xG (decide (V0.first i=i))) (c:=1) (λ i=>anh _) N;rw[BR]at U;have F:=nW (N+B4*R+1) U;have hz:m_ (λ i=>C1 (V0.aO i)) N=0:=Nat.le_zero.1 (by have:=ad5 (f:=λ i=>C1 (V0.aO i)) (c:=0) (λ i=>Nat.le_refl _) N;rwa[Nat.mul_zero]at this);exact⟨⟨λ _ h=>h,λ _=>rfl,λ _=>.zero,λ _=>.zero,λ i x h=>by simp[V0,cC]at h,λ i x h=>by simp[V0,cC]at h⟩,Ys _,by show 0+(m_ (V0.E3 N B4) N+m_ (λ i=>xG (decide (V0.first i=i))) N*(N+B4*R+1))+_<=ay;omega,by rw[hz];omega,λ i r h=>by simp[V0]at h⟩
 have O:=(E1.aO hB rs hr h0).lP hB;have hn:=hB.N;obtain⟨⟨n,he⟩,-⟩:=ad0 hB.si hr;rw[<-hn]at he;rw[akE he];have U:=E1.its hB (x:=(1,(V1 rs).lP N)) O n;have F:=U.p0;have h4:=U.p1;exact⟨F,by omega⟩
end
end SV
end
end Go.Proofs.YtgipmaoplfkdoaaGreatDoor
