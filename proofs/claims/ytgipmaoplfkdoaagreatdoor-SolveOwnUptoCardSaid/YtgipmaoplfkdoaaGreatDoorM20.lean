import Derived.Test.YtgipmaoplfkdoaaGreatDoorM13
import Derived.Test.YtgipmaoplfkdoaaGreatDoorMS
import Derived.Test.YtgipmaoplfkdoaaGreatDoorWK17
import Derived.Test.YtgipmaoplfkdoaaGreatDoorWK18
import Derived.Test.YtgipmaoplfkdoaaGreatDoorWK19
import Derived.Test.YtgipmaoplfkdoaaGreatDoorWK20
import Derived.IntWalk
set_option linter.all false
set_option maxRecDepth 100000
set_option maxHeartbeats 400000000
namespace Go.Proofs.YtgipmaoplfkdoaaGreatDoor
noncomputable section
open Go.RowKit
section
open SV
section
variable{p:List aQ}
theorem fn_one(h:pF p){fn:aQ}(hf:fn∈p):1<=fL fn.blocks:=by
 obtain⟨f,hf⟩:=sq hf;have b6:¬Sl p λ _ x=>Bo x:=h 6 (by omega) (by omega);have b10:¬(XR p\/jF p (wW p)):=h 10 (by omega) (by omega);cases hb:fn.blocks with
 |nil=>exact absurd ⟨f,fn,hf,by simp[Bo,hb]⟩ b6
 |cons bk bs=>
  rw[aFn]
  cases hc:bk.code with|nil=>exact absurd (.inl ⟨f,0,fn,bk,hf,by rw[hb];rfl,hc⟩) b10|cons x l=>rw[qi];omega
theorem len_szF:∀(p:List aQ),(∀fn∈p,1<=fL fn.blocks)->p.length<=ij p
 |[],_=>Nat.le_refl _
 |fn::p,h=>by
  have:=len_szF p λ f hf=>h f (by simp[hf])
  have:=h fn (by simp)
  rw[aFp,qi];omega
theorem sum_len{α:Type}{g:α->Nat}(hg:∀x,g x<=1):∀l:List α,(l.map g).sum<=l.length
 |[]=>Nat.le_refl _
 |x::l=>by
  have:=sum_len hg l
  have:=hg x
  rw[kB,sr,qi];omega
theorem pts_len(p:List aQ):ij p<=(bj p).a_.length:=by have O:=aCo p λ _=>0+1;have U:=akz (a:=λ _=>0) (c:=1) p;have F:=sum_len (g:=gw p λ _=>0+1) (λ q=>by unfold gw;split;exact Nat.le_refl _;exact Nat.zero_le _) (bj p).a_;omega
def E7(l:List bL):Nat:=(l.map E8).sum
theorem c15_app{l:List bL}{r:bL}:E7 (l++[r])=E7 l+E8 r:=by simp[E7]
theorem is15_le(r:bL):E8 r<=1:=by unfold E8;split<;>omega
theorem c15_cpy{l:List bL}{u v:Int}:E7 (jT l u v)=E7 l:=by
 unfold jT;split
 .rw[c15_app];rfl
 .rfl
theorem c15_cpys{α:Type}{g:α->Int×Int}:∀{ls:List α} {l:List bL},E7 (ls.foldl (λ l s=>jT l (g s).1 (g s).2) l)=E7 l
 |[],l=>rfl|s::ls,l=>(c15_cpys (ls:=ls)).trans c15_cpy
theorem c15_ruleI{S:SM}{q:Pt}{x:bp}{a:List bL×List bH}:E7 (rX S q x a).1<=E7 a.1+1:=by
 have ha:∀r:bL,E7 (a.1++[r])<=E7 a.1+1:=λ r=>by have:=is15_le r;rw[c15_app];omega
 have h0:=H7 (E7 a.1);unfold rX;split
 .exact ha _
 .split
  .exact ha _
  .split
   .rw[c15_cpy];exact h0
   .split
    .rw[c15_cpys (g:=λ s=>(S.aV q.1 x.dst,S.aV q.1 s))];exact h0
    .split
     .dsimp only;split
      .exact ha _
      .exact h0
     .split
      .dsimp only;split
       .exact ha _
       .exact h0
      .split
       .dsimp only;split
        .exact ha _
        .exact h0
       .split
        .unfold Ga;rw[c15_cpys (g:=λ v=>(S.aV q.1 x.dst,v)),c15_cpys (g:=λ s:Int×ByteArray=>(s.1,S.aV q.1 s.2))];exact h0
        .split
         .unfold MS;dsimp only;split
          .exact ha _
          .exact h0
         .exact h0
theorem c15_rule(S:SM):E7 (bG S).1<=S.a_.length:=by
 have key:∀(l:List Pt) (a:List bL×List bH),E7 (l.foldl (pV S) a).1<=E7 a.1+l.length:=by
  intro l;induction l with
  |nil=>intro a;exact Nat.le_refl _
  |cons q l ih=>
   intro a
   have O:=ih (pV S a q)
   have U:E7 (pV S a q).1<=E7 a.1+1:=by
    unfold pV;split
    .exact c15_ruleI
    .omega
   rw[DV,qi];omega
 have:=key S.a_ ([],[]);have e:E7 ([],([]:List bH)).1=0:=rfl;unfold bG;omega
theorem k5_c15:∀l:List bL,C1 l<=E7 l
 |[]=>Nat.le_refl _
 |r::l=>by
  have:=k5_c15 l
  have:is5 r<=E8 r:=by
   unfold is5 E8;split
   .rename_i h;rw[aq (.inr h)];omega
   .omega
  show is5 r+C1 l<=E8 r+E7 l
  omega
theorem own_ar{N B4 c n:Nat}(hN:N<=10*n)(hO:B4<=n)(hc:c<=n)(hn:1<=n):N*(N*B4+N)+N*(N+B4*n+1)+c*(B4*(B4+1)+1)<=1000*(n*n*n):=by
 have q1:n<=n*n:=by have:=Nat.mul_le_mul_left n hn;omega
 have q2:n*n<=n*n*n:=by have:=Nat.mul_le_mul_left (n*n) hn;omega
 have a1:N*B4<=10*n*n:=YQ hN hO;have a2:B4*n<=n*n:=nW _ hO;have a3:B4*(B4+1)<=n*(n+1):=YQ hO (by omega);rw[Nat.mul_succ n]at a3;have e1:N*(N*B4+N)<=10*n*(20*(n*n)):=YQ hN (by rw[Nat.mul_assoc]at a1;omega);have e2:N*(N+B4*n+1)<=10*n*(12*(n*n)):=YQ hN (by omega);have e3:c*(B4*(B4+1)+1)<=n*(3*(n*n)):=YQ hc (by omega);have f:∀a b:Nat,a*n*(b*(n*n))=a*b*(n*n*n):=λ a b=>by rw[Nat.mul_assoc a n,Nat.mul_left_comm n b,Nat.mul_assoc a b,Nat.mul_assoc n n n]
 have f1:=f 10 20;have f2:=f 10 12;have f3:=f 1 3;rw[Nat.one_mul]at f3;omega
theorem own_stp(h:pF p)(hf:Fit p){m:Int}(B:m=((bj p).a_.length:Int)+((bj p).of.length:Int)):0<m/\1000*m*m*m<=4611686018427387904/\(Bv (bj p)).iC<=1000*m*m*m:=by
 have hP:=alL h hf;have gu:=hf.sz;have O:=len_szF p λ fn iw=>fn_one h iw;have U:=(Sf h).1;have F:=pts_len p;have hp:(bj p).p=p:=pT p;have b5:¬((∃(f:Nat) (x:aQ),p[f]?=some x/\8<x.params.length)\/jF p λ _ _ _ x=>Ab x):=h 5 (by omega) (by omega);have hb:=gJ.run p (λ fn iw=>⟨by
  obtain⟨f,hf⟩:=sq iw;rcases kb 8 fn.params.length with q|q
  .exact absurd (.inl ⟨f,fn,hf,q⟩) b5
  .exact q,λ bk cJ x Z bP=>by
  obtain⟨f,b,i,_,ha⟩:=At.of iw cJ Z;exact(XG h ha bP).2⟩) _ (Nat.le_refl _)
 rw[iF]at hb;obtain⟨bR,-,-,hb4,hb5⟩:=hb;have z1:(SM.run p 0).vars.length=0:=rfl;have z2:(SM.run p 0).of.length=0:=rfl;have z3:(SM.run p 0).a_.length=0:=rfl;change (bj p).vars.length<=_ at bR;change (bj p).of.length<=_ at hb4;change (bj p).a_.length<=_ at hb5;have hc:=c15_rule (bj p);have Q:=k5_c15 (bG (bj p)).1;obtain⟨n,hn⟩:∃n,n=(bj p).a_.length+(bj p).of.length:=⟨_,rfl⟩;obtain rfl:m=(n:Int):=by omega
 have hT:n*n*n<=10000*10000*10000:=YQ (YQ (by omega) (by omega)) (by omega);have hB:E2 (bJ (bj p)) (bG (bj p)).2 ((bj p).vars.length+(bj p).of.length) ((bj p).of.length+p.length) (1000*(n*n*n)):=⟨hP.si,λ f v hv=>aDX _ _ v hv,hP.da,rfl,by show _=_+(bj p).p.length;rw[hp];rfl,by omega⟩;have hs:=sol_stp hB (R:=n) hP.rel (by omega) (own_ar (by omega) (by omega) (show E7 _<=n by omega) (by omega));have e:((1000*(n*n*n):Nat):Int)=1000*(n:Int)*n*n:=by simp[Int.mul_assoc]
 rw[<-e];exact⟨by omega,by omega,hs.2⟩
end
end
theorem oT:(fq 5,fq 29,fq 30,fq 31,fq 32,fq 33,pq 5 14,pq 30 6,pq 33 3,())=(some Tryz.f5,some Tryz.f29,some Tryz.f30,some Tryz.f31,some Tryz.f32,some Tryz.f33,some [.op 0,.op 1,.op 2,.op 3,.op 4,.op 5,.op 6,.op 7,.op 8,.op 9,.op 10,.wr 11 [9],.op 12,.op 13,.op 14,.op 15,.op 16,.op 17,.op 18,.op 19,.op 20,.op 21,.op 22,.op 23,.op 24,.op 25,.op 26,.op 27,.op 28,.op 29,.op 30,.op 31,.op 32,.op 33,.op 34,.op 35,.op 36,.wr 37 [],.op 38,.op 39],some [.op 0,.op 1,.op 2,.op 3,.op 4,.op 5,.op 6,.op 7,.op 8],some [.op 0,.op 1,.op 2,.op 3,.op 4,.op 5,.op 6,.op 7,.op 8,.op 9,.op 10,.op 11],()):=by kernel_rfl
def o5:=fe (jd oT)
def o29:=fe (jq oT)
def o30:=fe (jr oT)
def o31:=fe (js oT)
def o32:=fe (jt oT)
def o33:=fe (ju oT)
def w5:=pe (jv oT)
def w30:=pe (jw oT)
def w33:=pe (jx oT)
attribute [simp] w5 w30 w33
section
variable{H K:D}{u v:J}{aR:List Int}{id:Nat}{S:SM}{n:Int}
theorem same_c(ha:aW H 1 (One λ n=>ae n) u aR)(hb:aW H 1 (One λ n=>ae n) v aR):C E0 (.call 30 [u,v]) H λ w K=>K=H/\w=bl true:=by
 refine ba o30 rfl λ Q' hQ=>?_;have sI:=ha.aN bK;have vB:=hb.aN bK;simp[sI,vB];refine bu (α:=Nat) (aJ:=λ i sl K=>K=H/\sl.get 0=some u/\sl.get 1=some v/\sl.get 5=some (ae i)/\i<=aR.length) (mu:=λ i=>aR.length-i) ?_ 0 _ _ ?ini;case ini=>exact⟨rfl,by simp⟩
 rintro b kk-Q i sl K ⟨rfl,g0,g1,g5,A⟩ ih;by_cases az:i<aR.length
 .obtain⟨id,ah,ax,ex,n,t,ro,c,rfl,hl,aU,bU,oZ⟩:=ha.gL az;have hc:c=ae aR[i]:=by have:[c]=[ae aR[i]]:=oZ;simpa using this
  subst hc;obtain⟨lJ,lU,rN,kY,n2,t2,qW,c2,rfl,ck,gV,iz,atU⟩:=hb.gL az;have k8:c2=ae aR[i]:=by have:[c2]=[ae aR[i]]:=atU;simpa using this
  subst k8;have:=ha.cP;simp[g0,g1,g5,az,hl.get,bU,aU,ck.get,iz,gV,de bK,bq (aT az this)];exact ih (i+1) _ _ (by omega) ⟨rfl,by simp[g0,g1,dz az]⟩
 .obtain rfl:i=aR.length:=by omega
  subst Q;simp[g0,g5,sI];exact hQ ⟨rfl,rfl⟩
theorem smObjs(h:lu H id S)(hf:uP S)(hp:S.p.length<=1048576):C E0 (.call 29 [.ptr id 0]) H λ v K=>K=H/\v=ae ((S.of.length+S.p.length:Nat):Int):=by refine ba o29 rfl λ Q' hQ=>?_;obtain⟨f1,f2,f3,f4,f5⟩:=hf;have hw:IntKind.wrap .i64 ((S.of.length:Int)+(S.p.length:Int))=(S.of.length:Int)+(S.p.length:Int):=fQ (by omega) (by omega);simp[cE (DD h),cE (aEQ h),hw];exact hQ ⟨rfl,by simp⟩
theorem smSize(h:lu H id S)(hf:uP S):C E0 (.call 33 [.ptr id 0]) H λ v K=>K=H/\v=ae ((S.a_.length+S.of.length:Nat):Int):=by refine ba o33 rfl λ Q' hQ=>?_;obtain⟨au,vf,cY,cM,mid,⟨t,sv,ov,pv,X1,X2,i3,i5,i6,l,c,hO⟩,hp⟩:=h;obtain⟨f1,f2,f3,f4,f5⟩:=hf;have hw:IntKind.wrap .i64 ((S.a_.length:Int)+(S.of.length:Int))=(S.a_.length:Int)+(S.of.length:Int):=fQ (by omega) (by omega);simp[hO.ob.get,hO.t5,hO.t6,hO.of.aZ.aN bK,hO.aCn.aN XD,hw];exact hQ ⟨rfl,by simp⟩
theorem aSteps_c{X:Fix}{L:nk}{au:Nat->Nat}{V:SV}(h:fM X K L au V):C E0 (.call 31 [.ptr L.a 0]) K λ v T=>T=K/\v=ae V.iC:=by refine ba o31 rfl λ Q' hQ=>?_;obtain⟨t,tn,tf,mn,mf,cn,cf,en,ef,dv,hO⟩:=h;simp[hO.ob.get,hO.t6];exact hQ ⟨rfl,rfl⟩
theorem bin_quo{E:aK}{t:TypeId}{k:IntKind}{a b:Int}(h:b≠0):fh E .quo t (.lit (.int k a)) (.lit (.int k b)) H=val (.lit (.int k (k.wrap (a.tdiv b)))) H:=by simp[fh,Go.binOp,Op.intDiv,lY,pure,h]
theorem bound_c(h0:0<n)(F:1000*n*n*n<=4611686018427387904):C E0 (.call 32 [ae n]) H λ v K=>K=H/\v=ae (1000*n*n*n):=by
 refine ba o32 rfl λ Q' hQ=>?_;have hn:n≠0:=by omega
 have h':¬n<=0:=by omega
 have hq:IntKind.wrap .i64 (Int.tdiv 4611686018427387904 n)=4611686018427387904/n:=Go.IntWalk.i64_quo _ _ ⟨by decide,by decide,h0⟩;have hb:∀b:Int,4611686018427387904/n<b↔4611686018427387904<b*n:=λ b=>Int.ediv_lt_iff_lt_mul h0;have B:∀b:Int,0<=b->b<=b*n:=λ b hb=>by have:b*1<=b*n:=Int.mul_le_mul_of_nonneg_left h0 hb;omega
 have m1:=B 1000 (by decide);have m2:=B (1000*n) (by omega);have m3:=B (1000*n*n) (by omega);have w1:IntKind.wrap .i64 (1000*n)=1000*n:=fQ (by omega) (by omega);have w2:IntKind.wrap .i64 (1000*n*n)=1000*n*n:=fQ (by omega) (by omega);have w3:IntKind.wrap .i64 (1000*n*n*n)=1000*n*n*n:=fQ (by omega) (by omega);have c1:¬4611686018427387904<1000*n:=by omega
 have c2:¬4611686018427387904<1000*n*n:=by omega
 have c3:¬4611686018427387904<1000*n*n*n:=by omega
 simp[h'];refine aeE ?_;simp[bin_quo,hn,hq,hb,c1,w1];refine aeE ?_;simp[bin_quo,hn,hq,hb,c2,w2];refine aeE ?_;simp[bin_quo,hn,hq,hb,c3,w3];refine aeE ?_;simp;exact hQ ⟨rfl,rfl⟩
end
theorem varL_eq{X X':Fix}{V:SV}(hS:X'.S=X.S)(hN:X'.N=X.N)(v:Int):jk X' V v=jk X V v:=by unfold jk;rw[hS,hN]
theorem objL_eq{X X':Fix}{V:SV}(hS:X'.S=X.S)(hN:X'.N=X.N)(v:Nat):Rq X' V v=Rq X V v:=by unfold Rq;rw[hS,hN]
theorem base_gr{X:Fix}{H K:D}{L:nk}{au:Nat->Nat}{V:SV}(hH:X.HB=H)(h:fM X K L au V):I [] H K:=by obtain⟨t,tn,tf,mn,mf,cn,cf,en,ef,dv,hO⟩:=h;rw[<-hH];exact hO.base
theorem lawO_c{H:D}{p:List aQ}{vf:J}(hp:oO H vf p)(hz:ij p<=1048576)(ht:uK (λ x=>x.args.length) p<=1048576)(hl:uK (λ x=>x.eh.length) p<=1048576)(hT:xn H):C E0 (.call 5 [.agg [vf]]) H λ v _=>v=bl true:=by
 refine ba o5 rfl λ Q' hQ=>?_;simp[hp.cell,hp.co];generalize pK:D.add _ _=K0;have g0:I [] H K0:=by rw[<-pK];exact(I.refl _ _).add _
 have l1:Lv K0 H.ab (.cells 1 (Tr.e.put 0 (some vf)) false):=by rw[<-pK];exact Lv.new
 clear pK;try simp[l1.get]
 refine MT.step (atG (hp.zB g0) hz) ?_;rintro _ K1 ⟨⟨b,rfl,hb⟩,g1⟩;cases b with
 |true=>
  simp[cE (aej _)]
  exact hQ rfl
 |false=>
  have hF:Fit p:=⟨hb rfl,ht,hl⟩
  have A_:=l1.ai g1
  simp[A_.get]
  have hSA:HH p:=λ f b i x ha=>by have:=Xr (w:=λ x=>x.args.length) ha;omega
  have hSL:SC p:=λ f b i x ha=>by have:=Xr (w:=λ x=>x.eh.length) ha;omega
  refine MT.step (azc ((hp.zB g0).zB g1) hSA hSL agE) ?_
  rintro _ K2 ⟨rfl|⟨hW,id,rfl,hMI⟩,g2⟩
  .simp[cE (aej _)]
   exact hQ rfl
  have hM:=hMI.mp
  have UA:=aem hW hF
  have Uy:=alL hW hF
  have eX:=(hT.W (g0.trans g1)).W g2
  simp
  refine MT.step (aEX hM eX UA Uy) ?_
  rintro _ K3 ⟨X,L,rfl,xS,Sg,-,-,xN,f_⟩
  have fo:=base_gr Sg f_
  have hM3:=hM.W fo
  try simp
  refine MT.step (aEX hM3 (eX.W fo) UA Uy) ?_
  rintro _ K4 ⟨X',L',rfl,xS',xHB',-,-,xN',hR4'⟩
  have hb4:=base_gr xHB' hR4'
  have pN:=f_.ai hb4
  have hM4:=hM3.W hb4
  have hFX:An X:=⟨by rw[xS];exact UA,by rw[xN,xS]⟩
  have hFX':An X':=⟨by rw[xS'];exact UA,by rw[xN',xS']⟩
  obtain⟨s1,s2,z4⟩:=own_stp hW hF rfl
  obtain⟨-,hI,-,-⟩:=SV.ad0 Uy.si Uy.rel
  have fk:(Bv (bj p)).Ok (bJ (bj p)) X.N:=by rw[xN];exact hI.ok
  have n9:X.N=X.S.vars.length+X.S.of.length:=by rw[xN,xS]
  have ev:=varL_eq (V:=Bv (bj p)) (xS'.trans xS.symm) (xN'.trans xN.symm)
  have eo:=objL_eq (V:=Bv (bj p)) (xS'.trans xS.symm) (xN'.trans xN.symm)
  have ahH:=UA.nD
  have hfns:=UA.fns
  clear hI
  simp
  generalize Bv (bj p)=V at*
  have o_:=ahH.1
  have AS:=ahH.2.2.2.1
  refine bu (α:=Nat) (aJ:=λ v sl K=>I [] K4 K/\sl.get 3=some (.ptr id 0)/\sl.get 5=some (.ptr L.a 0)/\sl.get 6=some (.ptr L'.a 0)/\sl.get 7=some (ae (v:Nat))/\v<=(bj p).vars.length) (mu:=λ v=>(bj p).vars.length-v) ?_ 0 _ _ ?ini
  case ini=>exact⟨I.refl _ _,by simp⟩
  rintro b1 k1-cq v sl K ⟨g5,s3,s5,s6,s7,hv⟩ ih
  have hM5:=hM4.W g5
  have Ef:=pN.ai g5
  have hR5':=hR4'.ai g5
  by_cases hvn:v<(bj p).vars.length
  .have zT:v<maxLen:=by unfold maxLen;omega
   simp[s3,s5,s7,cE (NS hM5),hvn];refine MT.step (yX Ef (v:Nat)) ?_;have hlo1:∀o∈jk X V (v:Nat),o<(bj p).of.length+(bj p).p.length/\Gx X V (v:Nat) o=true:=λ o ho=>by obtain⟨a1,a2,a3⟩:=(ayg fk n9).1 ho;exact⟨fk.sn _ _ a3,by unfold Gx;rw[a3,decide_eq_true a1,decide_eq_true a2];rfl⟩
   have hlo2:(jk X V (v:Nat)).Pairwise (·< ·):=by
    unfold jk Be;split
    .split
     .exact SV.E5 _
     .exact .nil
    .exact .nil
   generalize jk X V (v:Nat)=lo at hlo1 hlo2⊢;rintro u K5 ⟨⟨aL,hu,hY⟩,g6⟩;have bA:=hu.aZ.aN bK;have sJ:=hu.aZ.cP;have hM6:=hM5.W g6;have Eg:=Ef.ai g6;have pP:(iY lo).length=lo.length:=bW _;rw[pP]at bA sJ;simp;refine bu (α:=Nat) (aJ:=λ i sl K6=>K6=K5/\sl.get 3=some (.ptr id 0)/\sl.get 5=some (.ptr L.a 0)/\sl.get 6=some (.ptr L'.a 0)/\sl.get 7=some (ae (v:Nat))/\sl.get 8=some u/\sl.get 9=some (ae (i:Nat))/\i<=lo.length) (mu:=λ i=>lo.length-i) ?_ 0 _ _ ?ini2;case ini2=>exact⟨rfl,by simp[s3,s5,s6,s7]⟩
   rintro b2 k2-dO i Hn K6 ⟨rfl,q3,q5,q6,q7,q8,q9,A⟩ eJ;by_cases az:i<lo.length
   .obtain⟨id8,ax,ex,t,rfl,rfl,hl,hg,aU,he,B⟩:=hu.uC (by rw[bW,pP];omega);rw[bW,pP]at aU;have GC:∀x (Z:x<lo.length),t.get x=some (ae (lo[x]:Nat)):=λ x Z=>by rw[hg x (by rw[bW,pP];exact Z)];simp[iY,Z]
    obtain⟨c1,c2⟩:=hlo1 _ (cG az);have U2:i<ax:=by omega
    have jA:i<maxLen:=by omega
    have e1:=GC i az;simp only[bW,pP]at q8 bA⊢;have A0:¬((lo[i]:Nat):Int)<0:=by omega
    have hobj:¬((bj p).of.length:Int)+((bj p).p.length:Int)<=((lo[i]:Nat):Int):=by omega
    by_cases h0:i=0
    .subst h0;simp[q3,q5,q7,q8,q9,az,bA,de bK,hl.get,U2,e1,cE (smObjs hM6 ahH hfns),A0,hobj,cE (aeP Eg hFX (v:Nat) (show lo[0]<4611686018427387904 by omega)),c2,bq jA];refine dF (by simp[dA,dm,val,q3,q5,q7,q8,q9,hl.get,U2,e1]) ?_;simp[q3,q5,q7,q8,q9,az,de bK,hl.get,U2,e1,cE (smObjs hM6 ahH hfns),A0,hobj,cE (aeP Eg hFX (v:Nat) (show lo[0]<4611686018427387904 by omega)),c2];exact eJ (0+1) _ _ (by omega) ⟨rfl,by simp[q3,q5,q6,q7,q8,dz az]⟩
    .obtain⟨j,hj⟩:∃j,i=j+1:=⟨i-1,by omega⟩;have bB:j<lo.length:=by omega
     have GF:j<ax:=by omega
     have e2:=GC j bB;have LD:=HZ.1 hlo2 j i bB az (by omega);have bm:¬((lo[i]:Nat):Int)<=((lo[j]:Nat):Int):=by omega
     have pR:IntKind.wrap .i64 ((i:Int)-1)=(j:Int):=by rw[fQ (by omega) (by unfold maxLen at jA;omega)];omega
     have hip:0<i:=by omega
     have hhas:=aeP Eg hFX (v:Nat) (show lo[i]<4611686018427387904 by omega);rw[c2]at hhas;simp[q3,q5,q7,q8,q9,az,bA,de bK,hl.get,U2,e1,cE (smObjs hM6 ahH hfns),A0,hobj];refine dF (by simp[dA,dm,val,q8,q9,hl.get,U2,e1]) ?_;simp[q3,q5,q7,q8,q9,az,bB,bA,de bK,hl.get,U2,GF,e1,e2,cE (smObjs hM6 ahH hfns),A0,hobj,bm,pR,hip,cE hhas,bq jA];exact eJ (i+1) _ _ (by omega) ⟨rfl,by simp[q3,q5,q6,q7,q8,dz az]⟩
   .obtain rfl:i=lo.length:=by omega
    subst dO;simp[q3,q5,q6,q7,q8,q9,bA];refine bu (α:=Nat) (aJ:=λ i sl K7=>I aL K6 K7/\(0<lo.length->∃id ax ex t,u=.sl id 0 1 lo.length ax ex/\id∈aL/\Lv K7 id (.cells ax t false)/\lo.length<=ax)/\sl.get 3=some (.ptr id 0)/\sl.get 5=some (.ptr L.a 0)/\sl.get 6=some (.ptr L'.a 0)/\sl.get 7=some (ae (v:Nat))/\sl.get 8=some u/\sl.get 10=some (ae (i:Nat))/\i<=lo.length) (mu:=λ i=>lo.length-i) ?_ 0 _ _ ?ini3;case ini3=>refine⟨I.refl _ _,λ h0=>?_,by simp[q3,q5,q6,q7,q8]⟩;obtain⟨id8,ax,ex,t,e1,e2,hl,hg,aU,he,B⟩:=hu.uC (by rw[bW,pP];exact h0);rw[bW,pP]at e1 aU;exact⟨id8,ax,ex,t,e1,by rw[e2];simp,hl,aU⟩
    rintro b3 k3-jU i sl3 K7 ⟨g7,hw,w3,w5,w6,w7,p9,w10,A⟩ jg;by_cases az:i<lo.length
    .obtain⟨id8,ax,ex,t,rfl,hY8,hl,aU⟩:=hw (by omega);have U2:i<ax:=by omega
     have jA:i<maxLen:=by omega
     simp[w3,w5,w6,w7,p9,w10,az,de bK,hl.get,U2,dz U2,bq jA];refine jg (i+1) _ _ (by omega) ⟨g7.put (.inr hY8),λ _=>⟨_,_,_,_,rfl,hY8,hl.put_eq,aU⟩,by simp[w3,w5,w6,w7,p9,dz az]⟩
    .obtain rfl:i=lo.length:=by omega
     subst jU;have g8:I [] K K7:=ke g6 g7 hY;have hR8:=Ef.ai g8;simp[w3,w5,w6,w7,p9,w10,bA];refine MT.step (yX hR8 (v:Nat)) ?_;rintro u1 K8 ⟨⟨Y1,Vu,-⟩,g9⟩;simp[w6,w7];refine MT.step (yX ((hR5'.ai g8).ai g9) (v:Nat)) ?_;rintro u2 K9 ⟨⟨Y2,QK,-⟩,D_⟩;rw[ev]at QK;simp[cE (same_c (Vu.W D_ (by simp)).aZ QK.aZ),w7,bq zT];exact ih (v+1) _ _ (by omega) ⟨g5.trans (g8.trans (g9.trans D_)),by simp[w3,w5,w6];omega⟩
  .obtain rfl:v=(bj p).vars.length:=by omega
   subst cq;simp[s3,s5,s6,s7,cE (NS hM5)];refine bu (α:=Nat) (aJ:=λ o sl K6=>I [] K K6/\sl.get 3=some (.ptr id 0)/\sl.get 5=some (.ptr L.a 0)/\sl.get 6=some (.ptr L'.a 0)/\sl.get 11=some (ae (o:Nat))/\o<=(bj p).of.length+(bj p).p.length) (mu:=λ o=>(bj p).of.length+(bj p).p.length-o) ?_ 0 _ _ ?ini4;case ini4=>exact⟨I.refl _ _,by simp[s3,s5,s6]⟩
   rintro b2 k2-dO o Hn K6 ⟨g6,q3,q5,q6,q11,ho⟩ eJ;have hM6:=hM5.W g6;have Eg:=Ef.ai g6;have hR6':=hR5'.ai g6;by_cases hon:o<(bj p).of.length+(bj p).p.length
   .have hom:o<maxLen:=by unfold maxLen;omega
    have hon':(o:Int)<((bj p).of.length:Int)+((bj p).p.length:Int):=by omega
    simp[q3,q5,q6,q11,cE (smObjs hM6 ahH hfns),hon'];refine MT.step (aeQ Eg hFX (show o<=4194304 by omega)) ?_;rintro u1 K7 ⟨⟨Y1,Vu,-⟩,g7⟩;simp[q3,q5,q6,q11];refine MT.step (aeQ (hR6'.ai g7) hFX' (show o<=4194304 by omega)) ?_;rintro u2 K8 ⟨⟨Y2,QK,-⟩,g8⟩;rw[eo]at QK;have g78:=g7.trans g8;have Dd:=same_c (Vu.W g8 (by simp)).aZ QK.aZ;by_cases Da:(bj p).of.length<=o
    .simp[q3,q5,q6,q11,cE Dd,cE (DD (hM6.W g78)),Da];refine MT.step (aeQ (Eg.ai g78) hFX (show o<=4194304 by omega)) ?_;rintro u3 K9 ⟨⟨Y3,A5,-⟩,g9⟩;have Mo:Rq X V o=[]:=by
      unfold Rq Be SI.eA;have O:¬o<(bJ X.S).br:=by rw[xS];exact Te.2 Da
      rw[ao O,ao (by omega)]
     rw[Mo]at A5;have fF:=A5.aZ.aN bK;simp[iY]at fF;simp[fF,q11,bq hom];exact eJ (o+1) _ _ (by omega) ⟨g6.trans (g78.trans g9),by simp[q3,q5,q6];omega⟩
    .simp[q3,q5,q6,q11,cE Dd,cE (DD (hM6.W g78)),Da,bq hom];exact eJ (o+1) _ _ (by omega) ⟨g6.trans g78,by simp[q3,q5,q6];omega⟩
   .obtain rfl:o=(bj p).of.length+(bj p).p.length:=by omega
    subst dO;simp[q3,q5,q6,q11,cE (smObjs hM6 ahH hfns),cE (aSteps_c Eg),cE (aSteps_c hR6'),cE (smSize hM6 ahH)];have Gy:=bound_c (H:=K6) s1 s2;simp[cE Gy,z4,cE (aej _)];exact hQ rfl
theorem J6{α:Type}{f g:α->Nat}:∀(L:List α) (_:∀x∈L,f x<=g x),(L.map f).sum<=(L.map g).sum
 |[],_=>aF
 |a::L,h=>by
  have O:=h a (by simp)
  have U:=J6 L λ x Z=>h x (by simp[Z])
  simp only[kB,sr]
  omega
def aFo(p:List aQ):ij p<=OO p:=J6 (α:=aQ) p λ f _=>by
 have h:fL f.blocks<=(f.blocks.map Ic).sum:=J6 (α:=cU) f.blocks λ b _=>by
  have O:b.code.length<=(b.code.map zm).sum:=by
   have:=J6 (f:=λ _=>1) (g:=zm) b.code λ x _=>by unfold zm;omega
   rw[akW]at this;exact this
  show b.code.length<=(b.code.map zm).sum+1;omega
 show fL f.blocks<=(f.blocks.map Ic).sum+1;omega
def akA{w:bp->Nat}(hw:∀x,w x<=zm x)(p:List aQ):uK w p<=OO p:=J6 (α:=aQ) p λ f _=>by
 have h:vT w f.blocks<=(f.blocks.map Ic).sum:=J6 (α:=cU) f.blocks λ b _=>by have O:=J6 (f:=w) (g:=zm) b.code λ x _=>hw x;show(b.code.map w).sum<=(b.code.map zm).sum+1;omega
 show vT w f.blocks<=(f.blocks.map Ic).sum+1;omega
def axv{H:D}{p:List aQ}{vf:J}(hp:oO H vf p)(hb:OO p<=1048576)(hT:xn H):C E0 (.call 5 [.agg [vf]]) H λ v _=>v=bl true:=lawO_c hp (aY (aFo p) hb) (aY (akA (λ x=>by unfold zm;omega) p) hb) (aY (akA (λ x=>by unfold zm;omega) p) hb) hT
def ak7:Bool:=match H0.get 0 with
 |some (.cells 64 t _)=>(List.range 64).all λ j=>match t.get j with|some (.lit (.int .u8 n))=>n==((Lib.deBruijn64tab.getD j 0:Nat):Int)|_=>false
 |_=>false
theorem aFu:ak7=true:=by kernel_rfl
theorem aze:Nat.ble 1 H0.ab=true:=by kernel_rfl
def aFv:xn H0:=by
 have h:=aFu;unfold ak7 at h;split at h
 .rename_i t ro e;refine⟨t,ro,⟨OD aze,e⟩,λ j hj=>?_⟩;have O:=yZ.1 h j (mj.2 hj);split at O
  .rename_i n e2;rw[e2];have:n=((Lib.deBruijn64tab.getD j 0:Nat):Int):=by simpa using O
   rw[this]
  .cases O
 .cases h
def axu{w:bI}{ay:Type}{enc:aS×aC->ay}{bk:DataW ay->Nat}(cJ:BK bk)(ht:yW w g_)(hT:∀f∈FC,Kr Tryz.prog w f)(o8:∀E,eW Tryz.prog E->(∀f n,E.Q.get f=some n->(f,n)∈yg++FC.map λ f=>(f,5))->Hz Tryz.prog E w){fuel:Nat}{xs:Array aC}{x:DataW ay×List MemPlace}(Z:DataW.trod enc Tryz.prog w 0 (λ _=>true) true fuel 24 xs.toList=some x)(hb:bk x.1<=1048576):Calls Tryz.prog 5 #[.agg xs] w λ e w'=>e=.returned (.bool true)/\jG (λ _=>False) w w':=by
 obtain⟨ρ,hr⟩:=auO given (agl _) (auN _) ht
 obtain⟨eU,H1,p,l,k1,k2,k3,k4,⟨vf,rfl,hp⟩,k6⟩:=aps cJ fuel _ x Z ρ H0 hr
 exact an5 given (agl _) k1 (axv hp (aY k6 hb) (aFv.W k3)) (.cons (.agg k4) .nil) o8
def aGB(w:World)(ht:yW w g_):∀f∈FC,Kr Tryz.prog w f:=by
 intro f hf;simp only[FC,cZ,xu,xD]at hf;rcases hf with rfl|rfl|rfl|rfl
 .exact XA ht λ w ht=>Xl (ws:=[]) aGw (λ _=>.nil) w ht (λ f h=>by cases h) (λ f h=>by cases h)
 .exact XA ht λ w ht=>Xl (ws:=[]) aGx (λ _=>.nil) w ht (λ f h=>by cases h) (λ f h=>by cases h)
 .exact XA ht λ w ht=>Xl (ws:=[]) aGy (λ _=>.nil) w ht (λ f h=>by cases h) (λ f h=>by cases h)
 .exact XA ht λ w ht=>Xl (ws:=[]) aGz (λ _=>.nil) w ht (λ f h=>by cases h) (λ f h=>by cases h)
theorem aGA:∀f∈FC,∀args w,(callFunc f args).run Tryz.prog w=.ok (.enter f args) w:=by
 intro f hf;simp only[FC,cZ,xu,xD]at hf;rcases hf with rfl|rfl|rfl|rfl
 .exact enters_of Tryz.func13 (by kernel_rfl) rfl
 .exact enters_of Tryz.func35 (by kernel_rfl) rfl
 .exact enters_of Tryz.func50 (by kernel_rfl) rfl
 .exact enters_of Tryz.func58 (by kernel_rfl) rfl
end
end Go.Proofs.YtgipmaoplfkdoaaGreatDoor
