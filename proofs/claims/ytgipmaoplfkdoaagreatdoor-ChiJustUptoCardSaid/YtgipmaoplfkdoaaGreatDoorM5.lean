import Derived.Test.YtgipmaoplfkdoaaGreatDoorM3
set_option linter.all false
set_option maxRecDepth 100000
set_option maxHeartbeats 400000000
namespace Go.Proofs.YtgipmaoplfkdoaaGreatDoor
noncomputable section
open Go.RowKit
variable{H H':D}{mid f oJ pid:Nat}{x:bp}{va vl:J}{t:CX}
structure iE where
 dst:Bool
 a:Bool
 b:Bool
 n:Bool
 fn:Bool
 args:Bool
 eh:Bool
variable{s:iE}
def iE.M(s:iE):AU:=[bl s.dst,bl s.a,bl s.b,bl s.n,bl s.fn,bl s.args,bl s.eh]
def JW:iE:=⟨false,false,false,false,false,false,false⟩
def uJ(o:Int):Option iE:=if o=1 then some ⟨true,false,false,true,false,false,false⟩
 else if o=2 then some ⟨true,false,false,true,false,false,false⟩
 else if o=3 then some ⟨true,false,false,false,false,false,false⟩
 else if o=4 then some ⟨true,false,false,false,true,false,false⟩
 else if o=5 then some ⟨true,true,false,false,false,false,false⟩
 else if o=8 then some ⟨true,true,false,false,false,false,false⟩
 else if o=6 then some ⟨true,false,false,false,false,true,true⟩
 else if o=7 then some ⟨true,true,false,true,false,false,false⟩
 else if o=9 then some ⟨false,true,true,false,false,false,false⟩
 else if o=10 then some ⟨true,false,false,false,true,true,false⟩
 else if o=11 then some ⟨true,true,false,false,false,true,false⟩
 else if o=12 then some ⟨false,false,false,false,false,false,true⟩
 else if o=13 then some ⟨false,false,false,false,false,false,true⟩
 else if o=14 then some ⟨false,true,false,false,false,false,false⟩
 else none
def HG(H:D)(mid:Nat):Prop:=∃c l,Lv H mid (.map 51 c l)/\∀o,cH (.int .u8 o) l=(uJ o).map λ s=>.agg s.M
def HG.W(h:HG H mid)(g:I [] H H'):HG H' mid:=let⟨c,l,O,U⟩:=h;⟨c,l,O.ai g,U⟩
def aEx(H:D):CN 186 [] H λ v K=>v=.map H.ab/\HG K H.ab/\I [] H K:=by
 refine im ars rfl ?_;simp[eD,oC,lk];refine⟨⟨_,_,⟨sx _,by rw[D.eR,aq rfl]⟩,λ o=>?_⟩,?_⟩
 .have e:∀c:Int,(c=o)=(o=c):=λ c=>propext ⟨Ou,Ou⟩;simp only[cH,lk,axi,decide_true,Yq,rK,e,uJ];by_cases O:o=1
  .simp[O,iE.M]
  by_cases U:o=2
  .simp[U,iE.M]
  by_cases F:o=3
  .simp[F,iE.M]
  by_cases k:o=4
  .simp[k,iE.M]
  by_cases j:o=5
  .simp[j,iE.M]
  by_cases g:o=8
  .simp[g,iE.M]
  by_cases i:o=6
  .simp[i,iE.M]
  by_cases h:o=7
  .simp[h,iE.M]
  by_cases d:o=9
  .simp[d,iE.M]
  by_cases b:o=10
  .simp[b,iE.M]
  by_cases m:o=11
  .simp[m,iE.M]
  by_cases n:o=12
  .simp[n,iE.M]
  by_cases a:o=13
  .simp[a,iE.M]
  by_cases l:o=14
  .simp[l,iE.M]
  simp[O,U,F,k,j,i,h,g,d,b,m,n,a,l]
 .repeat (refine I.put ?_ (.inl aF))
  exact aw.add _
abbrev e0:aI:=⟨#[]⟩
def Bf(f:fD)(n:Nat)(P:CX->D->Prop)(Y:aE)(H:D):Prop:=∃s,Y=⟨s,n,[],none,f⟩/\P s H
def ln(l:List aI):Bool:=decide (0<l.length)
def OS(k:Bool)(s:iE)(x:bp):Bool:=!k||(!s.dst&&decide (x.dst≠e0))
def OT(k:Bool)(s:iE)(x:bp):Bool:=OS k s x||(!s.a&&decide (x.a≠e0))
def OU(k:Bool)(s:iE)(x:bp):Bool:=OT k s x||(!s.b&&decide (x.b≠e0))
def OV(k:Bool)(s:iE)(x:bp):Bool:=OU k s x||(!s.n&&decide (x.n≠0))
def OW(k:Bool)(s:iE)(x:bp):Bool:=OV k s x||(!s.fn&&decide (x.fn≠e0))
def OX(k:Bool)(s:iE)(x:bp):Bool:=OW k s x||(!s.args&&ln x.args)
def KZ(k:Bool)(s:iE)(x:bp):Bool:=OX k s x||(!s.eh&&ln x.eh)
def OY(s:iE)(x:bp):Bool:=s.dst&&decide (x.dst=e0)&&!GV x.op
def OZ(s:iE)(x:bp):Bool:=OY s x||(s.a&&decide (x.a=e0)&&decide (x.op≠14))
def O0(s:iE)(x:bp):Bool:=OZ s x||(s.b&&decide (x.b=e0))
def Ig(s:iE)(x:bp):Bool:=O0 s x||(s.fn&&decide (x.fn=e0))
def bk(x:bp):Bool:=if x.op=1\/x.op=2 then decide (x.n<1)||decide (64<x.n)
 else if x.op=7 then decide (x.n<0)||decide (64<=x.n)
 else if x.op=6 then decide (x.args.length=0)||decide (x.args.length≠x.eh.length)
 else if x.op=12 then decide (x.eh.length≠2)
 else if x.op=13 then decide (x.eh.length≠1)
 else false
def vQ(x:bp):Bool:=match uJ x.op with|none=>true|some s=>KZ true s x||Ig s x||bk x
def CI(K:D)(m:Nat)(x:bp)(va vl:J):Prop:=∃t,Lv K m (.cells 8 t false)/\AV t 0 (u8 x.op)/\AV t 1 (str x.dst)/\AV t 2 (str x.a)/\AV t 3 (str x.b)/\AV t 4 (ae x.n)/\AV t 5 (str x.fn)/\AV t 6 va/\AV t 7 vl
def CS(K:D)(m:Nat)(s:iE):Prop:=∃t,Lv K m (.cells 7 t false)/\AV t 0 (bl s.dst)/\AV t 1 (bl s.a)/\AV t 2 (bl s.b)/\AV t 3 (bl s.n)/\AV t 4 (bl s.fn)/\AV t 5 (bl s.args)/\AV t 6 (bl s.eh)
def CI.W(h:CI H mid x va vl)(g:I [] H H'):CI H' mid x va vl:=let⟨t,O,U⟩:=h;⟨t,O.ai g,U⟩
def CS.W(h:CS H mid s)(g:I [] H H'):CS H' mid s:=let⟨t,O,U⟩:=h;⟨t,O.ai g,U⟩
section
variable{p:List aQ}{HB:D}{id mid:Nat}{vf:J}
def anq(hw:lD HB p vf id mid)(T:HG HB mid):sj 195 HB id (jF p λ _ _ _ x=>vQ x):=by
 refine anr _ hw ?_;rintro oJ f b i x M K ⟨t0,O,U⟩ cQ g ⟨va,vl,rfl,F,A,hr⟩;refine im ash rfl ?_;have gK:=λ o o'=>((I.refl [] K).add o).add o';have⟨t',sY,w1,w2,V⟩:=hw.ob;have⟨cm,lm,s1,s2⟩:=T;simp only[HC];refine Ap 1 (Bf 243 187 λ s H=>∃m,I [] K H/\CI H m x va vl/\s.get 2=some (.ptr oJ 0)/\s.get 4=some (.ptr m 0)) ?_ ?_
 .intro u h;simp[F.cell,A.cell];exact h _ _ ⟨_,rfl,K.ab+1,gK _ _,⟨_,Lv.new (H:=K.add _),ζ⟩,ζ,ζ⟩
 rintro _ S ⟨sl,rfl,m,P,⟨ti,ci⟩,Hn,L⟩;have g':=g.trans P;have ik:=w1.ai g';have RN:=s1.ai g';have fj:=O.ai P;have z:=s2 x.op;show aD E0 [.code _] _ _ _;simp only[HC];refine Ap 1 (Bf 243 187 λ s H=>∃n6 sh k,I [] S H/\CS H n6 sh/\s.get 4=some (.ptr m 0)/\s.get 6=some (.ptr n6 0)/\s.get 7=some (bl k)/\(k=false->uJ x.op=none)/\(k=true->uJ x.op=some sh)) ?_ ?_
 .intro u h;cases G:uJ x.op with
  |none=>
   rw[G]at z
   have r:lk (.int .u8 x.op) lm=none:=by simpa[cH]using z
   simp[Hn,L,fj.get,U,ik.get,V,RN.get,ci.1.get,ci.2.1,r]
   exact h _ _ ⟨_,rfl,S.ab,JW,false,I.new aw _ _,⟨_,Lv.new.put_eq,by simp[JW]⟩,by simp[L],ζ,ζ,by simp[G],ζ⟩
  |some sh=>
   rw[G]at z
   obtain⟨bb,r⟩:∃bb,lk (.int .u8 x.op) lm=some (bb,.agg sh.M):=by unfold cH at z;cases ck:lk (.int .u8 x.op) lm with|none=>rw[ck]at z;cases z|some q=>rw[ck]at z;have⟨q1,q2⟩:=q;simp at z;exact⟨q1,by rw[z]⟩
   simp[Hn,L,fj.get,U,ik.get,V,RN.get,ci.1.get,ci.2.1,r,iE.M]
   exact h _ _ ⟨_,rfl,S.ab,sh,true,I.new aw _ _,⟨_,Lv.new.put_eq,ζ⟩,by simp[L],ζ,ζ,ζ,by simp[G]⟩
 rintro _ K2 ⟨sl,rfl,n6,sh,k,g2,⟨ts,j⟩,t4,t6,t7,vz,cq⟩;have l:=ci.1.ai g2;show aD E0 [.code _] _ _ _;simp only[HC];refine Ap 1 (Bf 243 187 λ s H=>H=K2/\s.get 4=some (.ptr m 0)/\s.get 6=some (.ptr n6 0)/\s.get 91=some (bl (KZ k sh x))) ?_ ?_
 .intro u h;show aD E0 [.code _] _ _ _;rw[Xn];refine xj 13 (Bf 243 187 λ s H=>H=K2/\s.get 4=some (.ptr m 0)/\s.get 6=some (.ptr n6 0)/\s.get 30=some (bl (OS k sh x))) ?_ ?_
  .intro u h;cases Q:k<;>cases c:sh.dst<;>by_cases Z:x.dst=e0<;>simp[t4,t6,t7,Q,c,Z,l.get,ci.2.2.1,j.1.get,j.2.1]<;>exact h _ _ ⟨_,rfl,by simp[t4,t6,OS,Q,c,Z]⟩
  rintro _ K2 ⟨sl,rfl,rfl,t4,t6,d⟩;refine xj 10 (Bf 243 187 λ s H=>H=K2/\s.get 4=some (.ptr m 0)/\s.get 6=some (.ptr n6 0)/\s.get 40=some (bl (OT k sh x))) ?_ ?_
  .intro u h;cases Q:OS k sh x<;>cases c:sh.a<;>by_cases Z:x.a=e0<;>simp[t4,t6,d,Q,c,Z,l.get,ci.2.2.2.1,j.1.get,j.2.2.1]<;>exact h _ _ ⟨_,rfl,by simp[t4,t6,OT,Q,c,Z]⟩
  rintro _ K2 ⟨sl,rfl,rfl,t4,t6,d⟩;refine xj 10 (Bf 243 187 λ s H=>H=K2/\s.get 4=some (.ptr m 0)/\s.get 6=some (.ptr n6 0)/\s.get 50=some (bl (OU k sh x))) ?_ ?_
  .intro u h;cases Q:OT k sh x<;>cases c:sh.b<;>by_cases Z:x.b=e0<;>simp[t4,t6,d,Q,c,Z,l.get,ci.2.2.2.2.1,j.1.get,j.2.2.2.1]<;>exact h _ _ ⟨_,rfl,by simp[t4,t6,OU,Q,c,Z]⟩
  rintro _ K2 ⟨sl,rfl,rfl,t4,t6,d⟩;refine xj 10 (Bf 243 187 λ s H=>H=K2/\s.get 4=some (.ptr m 0)/\s.get 6=some (.ptr n6 0)/\s.get 60=some (bl (OV k sh x))) ?_ ?_
  .intro u h;cases Q:OU k sh x<;>cases c:sh.n<;>by_cases Z:x.n=0<;>simp[t4,t6,d,Q,c,Z,l.get,ci.2.2.2.2.2.1,j.1.get,j.2.2.2.2.1]<;>exact h _ _ ⟨_,rfl,by simp[t4,t6,OV,Q,c,Z]⟩
  rintro _ K2 ⟨sl,rfl,rfl,t4,t6,d⟩;refine xj 10 (Bf 243 187 λ s H=>H=K2/\s.get 4=some (.ptr m 0)/\s.get 6=some (.ptr n6 0)/\s.get 70=some (bl (OW k sh x))) ?_ ?_
  .intro u h;cases Q:OV k sh x<;>cases c:sh.fn<;>by_cases Z:x.fn=e0<;>simp[t4,t6,d,Q,c,Z,l.get,ci.2.2.2.2.2.2.1,j.1.get,j.2.2.2.2.2.1]<;>exact h _ _ ⟨_,rfl,by simp[t4,t6,OW,Q,c,Z]⟩
  rintro _ K2 ⟨sl,rfl,rfl,t4,t6,d⟩;refine xj 11 (Bf 243 187 λ s H=>H=K2/\s.get 4=some (.ptr m 0)/\s.get 6=some (.ptr n6 0)/\s.get 81=some (bl (OX k sh x))) ?_ ?_
  .intro u h;cases Q:OW k sh x<;>cases c:sh.args<;>by_cases Z:0<x.args.length<;>simp[t4,t6,d,Q,c,Z,l.get,ci.2.2.2.2.2.2.2.1,F.aN fw,j.1.get,j.2.2.2.2.2.2.1]<;>exact h _ _ ⟨_,rfl,by simp[t4,t6,OX,ln,Q,c,Z]⟩
  rintro _ K2 ⟨sl,rfl,rfl,t4,t6,d⟩;cases Q:OX k sh x<;>cases c:sh.eh<;>by_cases Z:0<x.eh.length<;>simp[t4,t6,d,Q,c,Z,l.get,ci.2.2.2.2.2.2.2.2,A.aN fw,j.1.get,j.2.2.2.2.2.2.2]<;>exact h _ _ ⟨_,rfl,by simp[t4,t6,KZ,ln,Q,c,Z]⟩
 rintro _ K2 ⟨sl,rfl,rfl,t4,t6,d⟩;have v:I [] K K2:=P.trans g2;cases E:KZ k sh x with
 |true=>
  have e:vQ x=true:=by unfold vQ;cases k with|false=>rw[vz rfl]|true=>rw[cq rfl];simp[E]
  simp[d,E,e,v]
 |false=>
 have Q:k=true:=by cases k with|true=>rfl|false=>simp[KZ,OX,OW,OV,OU,OT,OS]at E
 subst Q;have T:=cq rfl;have eq:vQ x=(Ig sh x||bk x):=by unfold vQ;rw[T];simp[E]
 refine Ap 1 (Bf 243 187 λ s H=>H=K2/\s.get 4=some (.ptr m 0)/\s.get 6=some (.ptr n6 0)) ?_ ?_
 .intro u h;simp[d,E];exact h _ _ ⟨_,rfl,by simp[t4,t6]⟩
 rintro _ K2 ⟨sl,rfl,rfl,t4,t6⟩;simp only[List.drop_succ_cons,SQ,HC];refine Ap 1 (Bf 243 187 λ s H=>H=K2/\s.get 4=some (.ptr m 0)/\s.get 6=some (.ptr n6 0)/\s.get 136=some (bl (Ig sh x))) ?_ ?_
 .intro u h;show aD E0 [.code _] _ _ _;rw[Xn];refine xj 14 (Bf 243 187 λ s H=>H=K2/\s.get 4=some (.ptr m 0)/\s.get 6=some (.ptr n6 0)/\s.get 105=some (bl (OY sh x))) ?_ ?_
  .intro u h;cases c:sh.dst<;>by_cases Z:x.dst=e0<;>cases D:GV x.op<;>simp[t4,t6,c,Z,D,l.get,ci.2.1,ci.2.2.1,j.1.get,j.2.1,cE (Tw _ _)]<;>exact h _ _ ⟨_,rfl,by simp[t4,t6,OY,c,Z,D]⟩
  rintro _ K2 ⟨sl,rfl,rfl,t4,t6,d⟩;refine xj 14 (Bf 243 187 λ s H=>H=K2/\s.get 4=some (.ptr m 0)/\s.get 6=some (.ptr n6 0)/\s.get 119=some (bl (OZ sh x))) ?_ ?_
  .intro u h;cases Q:OY sh x<;>cases c:sh.a<;>by_cases Z:x.a=e0<;>by_cases D:x.op=14<;>simp[t4,t6,d,Q,c,Z,D,l.get,ci.2.1,ci.2.2.2.1,j.1.get,j.2.2.1]<;>exact h _ _ ⟨_,rfl,by simp[t4,t6,OZ,Q,c,Z,D]⟩
  rintro _ K2 ⟨sl,rfl,rfl,t4,t6,d⟩;refine xj 9 (Bf 243 187 λ s H=>H=K2/\s.get 4=some (.ptr m 0)/\s.get 6=some (.ptr n6 0)/\s.get 128=some (bl (O0 sh x))) ?_ ?_
  .intro u h;cases Q:OZ sh x<;>cases c:sh.b<;>by_cases Z:x.b=e0<;>simp[t4,t6,d,Q,c,Z,l.get,ci.2.2.2.2.1,j.1.get,j.2.2.2.1]<;>exact h _ _ ⟨_,rfl,by simp[t4,t6,O0,Q,c,Z]⟩
  rintro _ K2 ⟨sl,rfl,rfl,t4,t6,d⟩;cases Q:O0 sh x<;>cases c:sh.fn<;>by_cases Z:x.fn=e0<;>simp[t4,t6,d,Q,c,Z,l.get,ci.2.2.2.2.2.2.1,j.1.get,j.2.2.2.2.2.1]<;>exact h _ _ ⟨_,rfl,by simp[t4,t6,Ig,Q,c,Z]⟩
 rintro _ K2 ⟨sl,rfl,rfl,t4,t6,d⟩;cases w:Ig sh x with
 |true=>
  simp[d,w,eq]
  exact v
 |false=>
 rw[w,Bool.false_or]at eq;rw[eq];by_cases Y:x.op=1
 .by_cases r:x.n<1<;>by_cases y:64<x.n<;>simp[d,w,t4,l.get,ci.2.1,ci.2.2.2.2.2.1,Y,bk,r,y,v]
 by_cases X:x.op=2
 .by_cases r:x.n<1<;>by_cases y:64<x.n<;>simp[d,w,t4,l.get,ci.2.1,ci.2.2.2.2.2.1,X,bk,r,y,v]
 by_cases W:x.op=7
 .by_cases r:x.n<0<;>by_cases y:64<=x.n<;>simp[d,w,t4,l.get,ci.2.1,ci.2.2.2.2.2.1,W,bk,r,y,v]
 by_cases J:x.op=6
 .by_cases r:x.args=[]
  .simp[d,w,t4,l.get,ci.2.1,ci.2.2.2.2.2.2.2.1,F.aN fw,J,bk,r,v]
  .by_cases y:x.args.length=x.eh.length
   .have N:x.eh≠[]:=by intro e;rw[e]at y;exact r (YH.1 y)
    simp[d,w,t4,l.get,ci.2.1,ci.2.2.2.2.2.2.2.1,ci.2.2.2.2.2.2.2.2,F.aN fw,A.aN fw,J,bk,y,N,v]
   .have N:¬(x.args.length:Int)=x.eh.length:=ω
    simp[d,w,t4,l.get,ci.2.1,ci.2.2.2.2.2.2.2.1,ci.2.2.2.2.2.2.2.2,F.aN fw,A.aN fw,J,bk,r,y,N,v]
 by_cases C:x.op=12
 .by_cases r:x.eh.length=2;all_goals have R:((x.eh.length:Int)=2)=(x.eh.length=2):=by rw[OL];omega
  all_goals simp[R,d,w,t4,l.get,ci.2.1,ci.2.2.2.2.2.2.2.2,A.aN fw,C,bk,r,v]
 by_cases B:x.op=13
 .by_cases r:x.eh.length=1;all_goals have R:((x.eh.length:Int)=1)=(x.eh.length=1):=by rw[OL];omega
  all_goals simp[R,d,w,t4,l.get,ci.2.1,ci.2.2.2.2.2.2.2.2,A.aN fw,B,bk,r,v]
 simp[d,w,t4,l.get,ci.2.1,Y,X,W,J,C,B,bk,v]
end
section
variable{p:List aQ}{HB:D}{id mid:Nat}{vf:J}
def WG(p:List aQ)(s:aI):Int:=idxOf (λ x=>decide (x.name=s)) p
def JN(p:List aQ)(x:bp):Bool:=decide (x.op=10)&&decide (0<=WG p x.fn)&&match p[(WG p x.fn).toNat]? with|some g=>decide (g.params.length≠x.args.length)|none=>false
def anb(hw:lD HB p vf id mid):sj 200 HB id (jF p λ _ _ _ x=>JN p x):=by
 refine ane _ hw ?_;rintro oJ f b i x M K ⟨t,O,U⟩ cQ g ⟨va,vl,rfl,u,L,hr⟩;refine im ast rfl ?_;have V:¬oJ=K.ab:=bC O.lt;have S:¬oJ=K.ab+1:=by have:=O.lt;omega
 have N:=λ o o'=>((I.refl [] K).add o).add o';simp[u.cell,L.cell,O.get,U,V,S];generalize k:D.add _ _=q;have E:Lv q oJ (.cells 1 t false):=by rw[<-k];exact O.add.add
 have C:Lv q (K.ab+1) (.cells 8 ((((((((Tr.e.put 0 (some (u8 x.op))).put 1 (some (str x.dst))).put 2 (some (str x.a))).put 3 (some (str x.b))).put 4 (some (ae x.n))).put 5 (some (str x.fn))).put 6 (some va)).put 7 (some vl)) false):=by rw[<-k];exact Lv.new (H:=K.add _)
 have w:I [] K q:=by rw[<-k];exact N _ _
 clear k;refine CW (WE x.fn _ hw (g.trans w)) ?_;rintro v T ⟨rfl,l⟩;have h:=w.trans l;have c:=E.ai l;have m:=C.ai l;have d:idxOf (λ y:aQ=>decide (y.name=x.fn)) p=WG p x.fn:=rfl;have⟨t',Z,A,z,_⟩:=hw.ob;have F:=A.ai (g.trans h);by_cases c1:x.op=10
 .rcases aa2 (λ y:aQ=>decide (y.name=x.fn)) p with⟨ci,_⟩|⟨j,r,ci,_⟩
  .simp[c.get,m.get,U,c1,ci,JN,<-d];exact h
  .have⟨kQ,G,kD,iR,n1,t1,py,kE,W,X,iy,P,R⟩:=hw.pr.at_ r;obtain⟨vp,vb,rfl,Q,bR⟩:=R;have⟨r0,B,r2⟩:=uE P;have J:=X.ai (g.trans h);have Y:G+j*3+1<n1:=ω
   simp[c.get,m.get,U,c1,ci,JN,<-d,F.get,z,W,r,J.get,B,Q.aN fw,u.aN fw,Y];exact⟨ω,h⟩
 .simp[c.get,m.get,U,c1,JN];exact h
def L5(fn:aQ)(s:aI):Bool:=fn.blocks.any λ bk=>decide (bk.label=s)
def NH(p:List aQ)(f:Nat)(x:bp):Bool:=match p[f]? with|some fn=>x.eh.any λ s=>!L5 fn s|none=>false
def azq{x:cU}{HB:D}{M:AU}(s:aI)(H:D){id:Nat}{ro:Bool}(Z:p_ HB x M)(a:Lv H id (.cells 1 t ro))(c:AV t 0 (str s)):CN 251 [.agg M,.ptr id 0] H λ v H'=>v=bl (decide (x.label=s))/\I [] H H':=by
 obtain⟨d,rfl,b⟩:=Z
 refine im asr rfl ?_
 simp[b.cell,bC a.lt,a.get,c]
 exact aw.add _
def azp(hw:lD HB p vf id mid){fn:aQ}{b i:Nat}(r:p[f]?=some fn)(s:aI)(K:D)(g:I [] HB K)(w:Cw K oJ id)(h:Lv K pid (.cells 3 t false))(a:AV t 0 (ae f)):CN 249 [str s,.ptr oJ 0,.ptr pid 0] K λ v T=>v=bl (!L5 fn s)/\I [] K T:=by
 have⟨t0,O,U⟩:=w
 refine im aso rfl ?_
 have⟨t',G,n,m,_⟩:=hw.ob
 have d:=n.ai g
 obtain⟨j,rfl⟩:=cW.1 r
 have⟨P,u,R,V,n1,t1,N,Q,B,C,S,z,A⟩:=hw.pr.at_ j
 obtain⟨vp,vb,rfl,W,E⟩:=A
 have⟨L,J,q⟩:=uE z
 have e:=C.ai g
 have F:u+f*3+2<n1:=ω
 simp[bC O.lt,bC h.lt,bC d.lt,bC e.lt,O.get,U,h.get,a,d.get,m,B,j,e.get,q,F]
 have k:=λ o=>(I.refl [] K).add o
 refine CW (aoZ (p:=λ bk:cU=>decide (bk.label=s)) ((E.fZ g).fZ (k _)) ?_) ?_
 .rintro bk X M l c y
  simp;exact azq s l y (Lv.new.ai c) ζ
 .rintro v l ⟨rfl,c⟩
  simp[L5];exact(k _).trans c
def azr(hw:lD HB p vf id mid):sj 198 HB id (jF p λ f _ _ x=>NH p f x):=by
 refine azs _ hw ?_;rintro oJ f b i x M K l n g ⟨va,vl,rfl,m,h,hr⟩;have⟨fn,bk,j,r,a3⟩:=n;refine im asn rfl ?_;have d:=λ o o'=>((I.refl [] K).add o).add o';simp[m.cell,h.cell];refine CW (Tz (p:=λ s=>!L5 fn s) ((h.fZ g).fZ (d _ _)) ?_) ?_
 .rintro s q c k a ⟨e,_⟩;cases e;simp;exact azp hw (b:=b) (i:=i) j s k (g.trans ((d _ _).trans a)) (l.W ((d _ _).trans a)) (Lv.new.add.ai a) ζ
 .rintro v k ⟨rfl,a⟩;simp[NH,j];exact(d _ _).trans a
def RC(p:List aQ)(f b i:Nat)(x:bp):Bool:=decide (x.op=6)&&(decide (b=0)||match p[f]? with|some fn=>(match fn.blocks[b]? with|some bk=>(bk.code.take i).any λ y=>!decide (y.op=6)|none=>false)|none=>false)
def anu{HB:D}{M:AU}(H:D)(Z:ku HB x M):CN 247 [.agg M] H λ v H'=>v=bl (!decide (x.op=6))/\I [] H H':=by obtain⟨va,vl,rfl,b,a,hr⟩:=Z;refine im asm rfl ?_;simp[b.cell,a.cell];exact aw.add _
def anv(hw:lD HB p vf id mid):sj 197 HB id (jF p λ f b i x=>RC p f b i x):=by
 refine anw _ hw ?_;rintro oJ f b i x M K ⟨t0,O,U⟩ cQ g ⟨va,vl,rfl,ha,hl,hr⟩;have⟨fn,bk,F,E,a3⟩:=cQ;refine im asj rfl ?_;have a:=λ o o'=>((I.refl [] K).add o).add o';have e1:¬oJ=K.ab:=bC O.lt;have e2:¬oJ=K.ab+1:=by have:=O.lt;omega
 have⟨t',sY,Q,P,_⟩:=hw.ob;have r:=Q.ai g;have⟨w,e⟩:=cW.1 F;have⟨W,ig,kD,iR,n1,t1,py,kE,dc,cT,iy,eZ,C⟩:=hw.pr.at_ w;rw[e]at C;obtain⟨vp,vb,rfl,eY,bR⟩:=C;have⟨r0,r1,R⟩:=uE eZ;have u:=cT.ai g;have aU:ig+f*3+2<n1:=ω
 have⟨j,d⟩:=cW.1 E;have⟨V,T,rN,kY,n2,t2,qW,mR,fp,ck,B,iz,q⟩:=bR.at_ j;rw[d]at q;obtain⟨vc,rfl,D⟩:=q;have⟨q0,S⟩:=JQ iz;have m:=ck.ai g;have B:T+b*2+1<n2:=ω
 have A:=(cW.1 a3).1;have⟨yy,Aa,l,wv,n3,t3,Bq,n,fF,mM,kh,UM,ahu⟩:=D.full ω;obtain⟨c,rfl⟩:∃c,l=c+1:=⟨l-1,ω⟩;have Z:=r.lt;have Y:=u.lt;have X:=m.lt;have N:¬id=K.ab+1:=ω
 have L:¬W=K.ab+1:=ω
 have z3:¬V=K.ab+1:=ω
 have z4:i<=c+1:=ω
 have h:=(n▸D).head (k:=i) ω;simp[ha.cell,hl.cell,O.get,U,e1,e2,bC Z,bC Y,bC X,N,L,z3,r.get,P,dc,w,u.get,R,aU,fp,j,m.get,S,B,n,z4];by_cases c1:x.op=6
 .by_cases c2:b=0
  .simp[c1,c2,RC];exact a _ _
  .simp[c1,c2];refine CW (ao0 (p:=λ y:bp=>!decide (y.op=6)) ((h.fZ g).fZ (a _ _)) ?_) ?_
   .rintro y G M J z hR;simp;exact anu J hR
   .rintro v J ⟨rfl,z⟩;simp[RC,c1,c2,F,E];exact(a _ _).trans z
 .simp[c1,RC];exact a _ _
end
end
end Go.Proofs.YtgipmaoplfkdoaaGreatDoor
