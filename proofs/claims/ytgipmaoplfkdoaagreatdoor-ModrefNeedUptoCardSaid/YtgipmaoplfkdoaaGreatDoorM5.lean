import Derived.Test.YtgipmaoplfkdoaaGreatDoorM3
set_option linter.all false
set_option maxRecDepth 100000
set_option maxHeartbeats 400000000
namespace Go.Proofs.YtgipmaoplfkdoaaGreatDoor
noncomputable section
open Go.RowKit
variable{H H':D}{mid f oJ pid:Nat}{x:bp}{va vl:J}{t:CX}
structure iE where
 dst:Bool
 a:Bool
 b:Bool
 n:Bool
 fn:Bool
 args:Bool
 eh:Bool
variable{s:iE}
def iE.M(s:iE):AU:=[bl s.dst,bl s.a,bl s.b,bl s.n,bl s.fn,bl s.args,bl s.eh]
def JW:iE:=⟨false,false,false,false,false,false,false⟩
def uJ(o:Int):Option iE:=if o=1 then some ⟨true,false,false,true,false,false,false⟩
 else if o=2 then some ⟨true,false,false,true,false,false,false⟩
 else if o=3 then some ⟨true,false,false,false,false,false,false⟩
 else if o=4 then some ⟨true,false,false,false,true,false,false⟩
 else if o=5 then some ⟨true,true,false,false,false,false,false⟩
 else if o=8 then some ⟨true,true,false,false,false,false,false⟩
 else if o=6 then some ⟨true,false,false,false,false,true,true⟩
 else if o=7 then some ⟨true,true,false,true,false,false,false⟩
 else if o=9 then some ⟨false,true,true,false,false,false,false⟩
 else if o=10 then some ⟨true,false,false,false,true,true,false⟩
 else if o=11 then some ⟨true,true,false,false,false,true,false⟩
 else if o=12 then some ⟨false,false,false,false,false,false,true⟩
 else if o=13 then some ⟨false,false,false,false,false,false,true⟩
 else if o=14 then some ⟨false,true,false,false,false,false,false⟩
 else none
def HG(H:D)(mid:Nat):Prop:=∃c l,Lv H mid (.map 51 c l)/\∀o,cH (.int .u8 o) l=(uJ o).map λ s=>.agg s.M
def HG.W(h:HG H mid)(g:I [] H H'):HG H' mid:=let⟨c,l,O,U⟩:=h;⟨c,l,O.ai g,U⟩
def aEx(H:D):CN 186 [] H λ v K=>v=.map H.ab/\HG K H.ab/\I [] H K:=by
 refine im ars rfl ?_;simp[eD,oC,lk];refine⟨⟨_,_,⟨sx _,by rw[D.eR,aq rfl]⟩,λ o=>?_⟩,?_⟩
 .have e:∀c:Int,(c=o)=(o=c):=λ c=>propext ⟨Ou,Ou⟩;simp only[cH,lk,axi,decide_true,Yq,rK,e,uJ];by_cases O:o=1
  .simp[O,iE.M]
  by_cases U:o=2
  .simp[U,iE.M]
  by_cases F:o=3
  .simp[F,iE.M]
  by_cases h4:o=4
  .simp[h4,iE.M]
  by_cases h5:o=5
  .simp[h5,iE.M]
  by_cases h8:o=8
  .simp[h8,iE.M]
  by_cases h6:o=6
  .simp[h6,iE.M]
  by_cases h7:o=7
  .simp[h7,iE.M]
  by_cases h9:o=9
  .simp[h9,iE.M]
  by_cases xR:o=10
  .simp[xR,iE.M]
  by_cases PU:o=11
  .simp[PU,iE.M]
  by_cases LD:o=12
  .simp[LD,iE.M]
  by_cases h13:o=13
  .simp[h13,iE.M]
  by_cases PV:o=14
  .simp[PV,iE.M]
  simp[O,U,F,h4,h5,h6,h7,h8,h9,xR,PU,LD,h13,PV]
 .repeat (refine I.put ?_ (.inl aF))
  exact aw.add _
abbrev e0:aI:=⟨#[]⟩
def Bf(f:fD)(n:Nat)(P:CX->D->Prop)(Y:aE)(H:D):Prop:=∃s,Y=⟨s,n,[],none,f⟩/\P s H
def ln(l:List aI):Bool:=decide (0<l.length)
def OS(k:Bool)(s:iE)(x:bp):Bool:=!k||(!s.dst&&decide (x.dst≠e0))
def OT(k:Bool)(s:iE)(x:bp):Bool:=OS k s x||(!s.a&&decide (x.a≠e0))
def OU(k:Bool)(s:iE)(x:bp):Bool:=OT k s x||(!s.b&&decide (x.b≠e0))
def OV(k:Bool)(s:iE)(x:bp):Bool:=OU k s x||(!s.n&&decide (x.n≠0))
def OW(k:Bool)(s:iE)(x:bp):Bool:=OV k s x||(!s.fn&&decide (x.fn≠e0))
def OX(k:Bool)(s:iE)(x:bp):Bool:=OW k s x||(!s.args&&ln x.args)
def KZ(k:Bool)(s:iE)(x:bp):Bool:=OX k s x||(!s.eh&&ln x.eh)
def OY(s:iE)(x:bp):Bool:=s.dst&&decide (x.dst=e0)&&!GV x.op
def OZ(s:iE)(x:bp):Bool:=OY s x||(s.a&&decide (x.a=e0)&&decide (x.op≠14))
def O0(s:iE)(x:bp):Bool:=OZ s x||(s.b&&decide (x.b=e0))
def Ig(s:iE)(x:bp):Bool:=O0 s x||(s.fn&&decide (x.fn=e0))
def bk(x:bp):Bool:=if x.op=1\/x.op=2 then decide (x.n<1)||decide (64<x.n)
 else if x.op=7 then decide (x.n<0)||decide (64<=x.n)
 else if x.op=6 then decide (x.args.length=0)||decide (x.args.length≠x.eh.length)
 else if x.op=12 then decide (x.eh.length≠2)
 else if x.op=13 then decide (x.eh.length≠1)
 else false
def vQ(x:bp):Bool:=match uJ x.op with|none=>true|some s=>KZ true s x||Ig s x||bk x
def CI(K:D)(m:Nat)(x:bp)(va vl:J):Prop:=∃t,Lv K m (.cells 8 t false)/\AV t 0 (u8 x.op)/\AV t 1 (str x.dst)/\AV t 2 (str x.a)/\AV t 3 (str x.b)/\AV t 4 (ae x.n)/\AV t 5 (str x.fn)/\AV t 6 va/\AV t 7 vl
def CS(K:D)(m:Nat)(s:iE):Prop:=∃t,Lv K m (.cells 7 t false)/\AV t 0 (bl s.dst)/\AV t 1 (bl s.a)/\AV t 2 (bl s.b)/\AV t 3 (bl s.n)/\AV t 4 (bl s.fn)/\AV t 5 (bl s.args)/\AV t 6 (bl s.eh)
def CI.W(h:CI H mid x va vl)(g:I [] H H'):CI H' mid x va vl:=let⟨t,O,U⟩:=h;⟨t,O.ai g,U⟩
def CS.W(h:CS H mid s)(g:I [] H H'):CS H' mid s:=let⟨t,O,U⟩:=h;⟨t,O.ai g,U⟩
section
variable{p:List aQ}{HB:D}{id mid:Nat}{vf:J}
def anq(hw:lD HB p vf id mid)(Ji:HG HB mid):sj 195 HB id (jF p λ _ _ _ x=>vQ x):=by
 refine anr _ hw ?_;rintro oJ f b i x M K ⟨t0,O,U⟩ cQ g ⟨va,vl,rfl,ha,hl,hr⟩;refine im ash rfl ?_;have gK:=λ o o'=>((I.refl [] K).add o).add o';have⟨t',sY,w1,w2,w3⟩:=hw.ob;have⟨cm,lm,s1,s2⟩:=Ji;simp only[HC];refine Ap 1 (Bf 243 187 λ s H=>∃m,I [] K H/\CI H m x va vl/\s.get 2=some (.ptr oJ 0)/\s.get 4=some (.ptr m 0)) ?_ ?_
 .intro Q' hQ;simp[ha.cell,hl.cell];exact hQ _ _ ⟨_,rfl,K.ab+1,gK _ _,⟨_,Lv.new (H:=K.add _),ζ⟩,ζ,ζ⟩
 rintro _ K1 ⟨sl,rfl,m,g1,⟨ti,ci⟩,Hn,RS⟩;have g':=g.trans g1;have ik:=w1.ai g';have RN:=s1.ai g';have fj:=O.ai g1;have cN:=s2 x.op;show aD E0 [.code _] _ _ _;simp only[HC];refine Ap 1 (Bf 243 187 λ s H=>∃n6 sh k,I [] K1 H/\CS H n6 sh/\s.get 4=some (.ptr m 0)/\s.get 6=some (.ptr n6 0)/\s.get 7=some (bl k)/\(k=false->uJ x.op=none)/\(k=true->uJ x.op=some sh)) ?_ ?_
 .intro Q' hQ;cases zS:uJ x.op with
  |none=>
   rw[zS]at cN
   have hn:lk (.int .u8 x.op) lm=none:=by simpa[cH]using cN
   simp[Hn,RS,fj.get,U,ik.get,w3,RN.get,ci.1.get,ci.2.1,hn]
   exact hQ _ _ ⟨_,rfl,K1.ab,JW,false,I.new aw _ _,⟨_,Lv.new.put_eq,by simp[JW]⟩,by simp[RS],ζ,ζ,by simp[zS],ζ⟩
  |some sh=>
   rw[zS]at cN
   obtain⟨bb,hn⟩:∃bb,lk (.int .u8 x.op) lm=some (bb,.agg sh.M):=by unfold cH at cN;cases ck:lk (.int .u8 x.op) lm with|none=>rw[ck]at cN;cases cN|some q=>rw[ck]at cN;have⟨q1,q2⟩:=q;simp at cN;exact⟨q1,by rw[cN]⟩
   simp[Hn,RS,fj.get,U,ik.get,w3,RN.get,ci.1.get,ci.2.1,hn,iE.M]
   exact hQ _ _ ⟨_,rfl,K1.ab,sh,true,I.new aw _ _,⟨_,Lv.new.put_eq,ζ⟩,by simp[RS],ζ,ζ,ζ,by simp[zS]⟩
 rintro _ K2 ⟨sl,rfl,n6,sh,k,g2,⟨ts,oW⟩,t4,t6,t7,vz,cq⟩;have qm:=ci.1.ai g2;show aD E0 [.code _] _ _ _;simp only[HC];refine Ap 1 (Bf 243 187 λ s H=>H=K2/\s.get 4=some (.ptr m 0)/\s.get 6=some (.ptr n6 0)/\s.get 91=some (bl (KZ k sh x))) ?_ ?_
 .intro Q' hQ;show aD E0 [.code _] _ _ _;rw[Xn];refine xj 13 (Bf 243 187 λ s H=>H=K2/\s.get 4=some (.ptr m 0)/\s.get 6=some (.ptr n6 0)/\s.get 30=some (bl (OS k sh x))) ?_ ?_
  .intro Q' hQ;cases Q:k<;>cases hs:sh.dst<;>by_cases Z:x.dst=e0<;>simp[t4,t6,t7,Q,hs,Z,qm.get,ci.2.2.1,oW.1.get,oW.2.1]<;>exact hQ _ _ ⟨_,rfl,by simp[t4,t6,OS,Q,hs,Z]⟩
  rintro _ K2 ⟨sl,rfl,rfl,t4,t6,tp⟩;refine xj 10 (Bf 243 187 λ s H=>H=K2/\s.get 4=some (.ptr m 0)/\s.get 6=some (.ptr n6 0)/\s.get 40=some (bl (OT k sh x))) ?_ ?_
  .intro Q' hQ;cases Q:OS k sh x<;>cases hs:sh.a<;>by_cases Z:x.a=e0<;>simp[t4,t6,tp,Q,hs,Z,qm.get,ci.2.2.2.1,oW.1.get,oW.2.2.1]<;>exact hQ _ _ ⟨_,rfl,by simp[t4,t6,OT,Q,hs,Z]⟩
  rintro _ K2 ⟨sl,rfl,rfl,t4,t6,tp⟩;refine xj 10 (Bf 243 187 λ s H=>H=K2/\s.get 4=some (.ptr m 0)/\s.get 6=some (.ptr n6 0)/\s.get 50=some (bl (OU k sh x))) ?_ ?_
  .intro Q' hQ;cases Q:OT k sh x<;>cases hs:sh.b<;>by_cases Z:x.b=e0<;>simp[t4,t6,tp,Q,hs,Z,qm.get,ci.2.2.2.2.1,oW.1.get,oW.2.2.2.1]<;>exact hQ _ _ ⟨_,rfl,by simp[t4,t6,OU,Q,hs,Z]⟩
  rintro _ K2 ⟨sl,rfl,rfl,t4,t6,tp⟩;refine xj 10 (Bf 243 187 λ s H=>H=K2/\s.get 4=some (.ptr m 0)/\s.get 6=some (.ptr n6 0)/\s.get 60=some (bl (OV k sh x))) ?_ ?_
  .intro Q' hQ;cases Q:OU k sh x<;>cases hs:sh.n<;>by_cases Z:x.n=0<;>simp[t4,t6,tp,Q,hs,Z,qm.get,ci.2.2.2.2.2.1,oW.1.get,oW.2.2.2.2.1]<;>exact hQ _ _ ⟨_,rfl,by simp[t4,t6,OV,Q,hs,Z]⟩
  rintro _ K2 ⟨sl,rfl,rfl,t4,t6,tp⟩;refine xj 10 (Bf 243 187 λ s H=>H=K2/\s.get 4=some (.ptr m 0)/\s.get 6=some (.ptr n6 0)/\s.get 70=some (bl (OW k sh x))) ?_ ?_
  .intro Q' hQ;cases Q:OV k sh x<;>cases hs:sh.fn<;>by_cases Z:x.fn=e0<;>simp[t4,t6,tp,Q,hs,Z,qm.get,ci.2.2.2.2.2.2.1,oW.1.get,oW.2.2.2.2.2.1]<;>exact hQ _ _ ⟨_,rfl,by simp[t4,t6,OW,Q,hs,Z]⟩
  rintro _ K2 ⟨sl,rfl,rfl,t4,t6,tp⟩;refine xj 11 (Bf 243 187 λ s H=>H=K2/\s.get 4=some (.ptr m 0)/\s.get 6=some (.ptr n6 0)/\s.get 81=some (bl (OX k sh x))) ?_ ?_
  .intro Q' hQ;cases Q:OW k sh x<;>cases hs:sh.args<;>by_cases Z:0<x.args.length<;>simp[t4,t6,tp,Q,hs,Z,qm.get,ci.2.2.2.2.2.2.2.1,ha.aN fw,oW.1.get,oW.2.2.2.2.2.2.1]<;>exact hQ _ _ ⟨_,rfl,by simp[t4,t6,OX,ln,Q,hs,Z]⟩
  rintro _ K2 ⟨sl,rfl,rfl,t4,t6,tp⟩;cases Q:OX k sh x<;>cases hs:sh.eh<;>by_cases Z:0<x.eh.length<;>simp[t4,t6,tp,Q,hs,Z,qm.get,ci.2.2.2.2.2.2.2.2,hl.aN fw,oW.1.get,oW.2.2.2.2.2.2.2]<;>exact hQ _ _ ⟨_,rfl,by simp[t4,t6,KZ,ln,Q,hs,Z]⟩
 rintro _ K2 ⟨sl,rfl,rfl,t4,t6,tp⟩;have gg:I [] K K2:=g1.trans g2;cases hb:KZ k sh x with
 |true=>
  have e:vQ x=true:=by unfold vQ;cases k with|false=>rw[vz rfl]|true=>rw[cq rfl];simp[hb]
  simp[tp,hb,e,gg]
 |false=>
 have Q:k=true:=by cases k with|true=>rfl|false=>simp[KZ,OX,OW,OV,OU,OT,OS]at hb
 subst Q;have Ji:=cq rfl;have eq:vQ x=(Ig sh x||bk x):=by unfold vQ;rw[Ji];simp[hb]
 refine Ap 1 (Bf 243 187 λ s H=>H=K2/\s.get 4=some (.ptr m 0)/\s.get 6=some (.ptr n6 0)) ?_ ?_
 .intro Q' hQ;simp[tp,hb];exact hQ _ _ ⟨_,rfl,by simp[t4,t6]⟩
 rintro _ K2 ⟨sl,rfl,rfl,t4,t6⟩;simp only[List.drop_succ_cons,SQ,HC];refine Ap 1 (Bf 243 187 λ s H=>H=K2/\s.get 4=some (.ptr m 0)/\s.get 6=some (.ptr n6 0)/\s.get 136=some (bl (Ig sh x))) ?_ ?_
 .intro Q' hQ;show aD E0 [.code _] _ _ _;rw[Xn];refine xj 14 (Bf 243 187 λ s H=>H=K2/\s.get 4=some (.ptr m 0)/\s.get 6=some (.ptr n6 0)/\s.get 105=some (bl (OY sh x))) ?_ ?_
  .intro Q' hQ;cases hs:sh.dst<;>by_cases Z:x.dst=e0<;>cases hc:GV x.op<;>simp[t4,t6,hs,Z,hc,qm.get,ci.2.1,ci.2.2.1,oW.1.get,oW.2.1,cE (Tw _ _)]<;>exact hQ _ _ ⟨_,rfl,by simp[t4,t6,OY,hs,Z,hc]⟩
  rintro _ K2 ⟨sl,rfl,rfl,t4,t6,tp⟩;refine xj 14 (Bf 243 187 λ s H=>H=K2/\s.get 4=some (.ptr m 0)/\s.get 6=some (.ptr n6 0)/\s.get 119=some (bl (OZ sh x))) ?_ ?_
  .intro Q' hQ;cases Q:OY sh x<;>cases hs:sh.a<;>by_cases Z:x.a=e0<;>by_cases hc:x.op=14<;>simp[t4,t6,tp,Q,hs,Z,hc,qm.get,ci.2.1,ci.2.2.2.1,oW.1.get,oW.2.2.1]<;>exact hQ _ _ ⟨_,rfl,by simp[t4,t6,OZ,Q,hs,Z,hc]⟩
  rintro _ K2 ⟨sl,rfl,rfl,t4,t6,tp⟩;refine xj 9 (Bf 243 187 λ s H=>H=K2/\s.get 4=some (.ptr m 0)/\s.get 6=some (.ptr n6 0)/\s.get 128=some (bl (O0 sh x))) ?_ ?_
  .intro Q' hQ;cases Q:OZ sh x<;>cases hs:sh.b<;>by_cases Z:x.b=e0<;>simp[t4,t6,tp,Q,hs,Z,qm.get,ci.2.2.2.2.1,oW.1.get,oW.2.2.2.1]<;>exact hQ _ _ ⟨_,rfl,by simp[t4,t6,O0,Q,hs,Z]⟩
  rintro _ K2 ⟨sl,rfl,rfl,t4,t6,tp⟩;cases Q:O0 sh x<;>cases hs:sh.fn<;>by_cases Z:x.fn=e0<;>simp[t4,t6,tp,Q,hs,Z,qm.get,ci.2.2.2.2.2.2.1,oW.1.get,oW.2.2.2.2.2.1]<;>exact hQ _ _ ⟨_,rfl,by simp[t4,t6,Ig,Q,hs,Z]⟩
 rintro _ K2 ⟨sl,rfl,rfl,t4,t6,tp⟩;cases eG:Ig sh x with
 |true=>
  simp[tp,eG,eq]
  exact gg
 |false=>
 rw[eG,Bool.false_or]at eq;rw[eq];by_cases o1:x.op=1
 .by_cases hn:x.n<1<;>by_cases iW:64<x.n<;>simp[tp,eG,t4,qm.get,ci.2.1,ci.2.2.2.2.2.1,o1,bk,hn,iW,gg]
 by_cases o2:x.op=2
 .by_cases hn:x.n<1<;>by_cases iW:64<x.n<;>simp[tp,eG,t4,qm.get,ci.2.1,ci.2.2.2.2.2.1,o2,bk,hn,iW,gg]
 by_cases o7:x.op=7
 .by_cases hn:x.n<0<;>by_cases iW:64<=x.n<;>simp[tp,eG,t4,qm.get,ci.2.1,ci.2.2.2.2.2.1,o7,bk,hn,iW,gg]
 by_cases o6:x.op=6
 .by_cases hn:x.args=[]
  .simp[tp,eG,t4,qm.get,ci.2.1,ci.2.2.2.2.2.2.2.1,ha.aN fw,o6,bk,hn,gg]
  .by_cases iW:x.args.length=x.eh.length
   .have wK:x.eh≠[]:=by intro e;rw[e]at iW;exact hn (YH.1 iW)
    simp[tp,eG,t4,qm.get,ci.2.1,ci.2.2.2.2.2.2.2.1,ci.2.2.2.2.2.2.2.2,ha.aN fw,hl.aN fw,o6,bk,iW,wK,gg]
   .have wK:¬(x.args.length:Int)=x.eh.length:=ω
    simp[tp,eG,t4,qm.get,ci.2.1,ci.2.2.2.2.2.2.2.1,ci.2.2.2.2.2.2.2.2,ha.aN fw,hl.aN fw,o6,bk,hn,iW,wK,gg]
 by_cases o12:x.op=12
 .by_cases hn:x.eh.length=2;all_goals have Mm:((x.eh.length:Int)=2)=(x.eh.length=2):=by rw[OL];omega
  all_goals simp[Mm,tp,eG,t4,qm.get,ci.2.1,ci.2.2.2.2.2.2.2.2,hl.aN fw,o12,bk,hn,gg]
 by_cases o13:x.op=13
 .by_cases hn:x.eh.length=1;all_goals have Mm:((x.eh.length:Int)=1)=(x.eh.length=1):=by rw[OL];omega
  all_goals simp[Mm,tp,eG,t4,qm.get,ci.2.1,ci.2.2.2.2.2.2.2.2,hl.aN fw,o13,bk,hn,gg]
 simp[tp,eG,t4,qm.get,ci.2.1,o1,o2,o7,o6,o12,o13,bk,gg]
end
section
variable{p:List aQ}{HB:D}{id mid:Nat}{vf:J}
def WG(p:List aQ)(s:aI):Int:=idxOf (λ x=>decide (x.name=s)) p
def JN(p:List aQ)(x:bp):Bool:=decide (x.op=10)&&decide (0<=WG p x.fn)&&match p[(WG p x.fn).toNat]? with|some g=>decide (g.params.length≠x.args.length)|none=>false
def anb(hw:lD HB p vf id mid):sj 200 HB id (jF p λ _ _ _ x=>JN p x):=by
 refine ane _ hw ?_;rintro oJ f b i x M K ⟨t,O,U⟩ cQ g ⟨va,vl,rfl,ha,hl,hr⟩;refine im ast rfl ?_;have e1:¬oJ=K.ab:=bC O.lt;have e2:¬oJ=K.ab+1:=by have:=O.lt;omega
 have gK:=λ o o'=>((I.refl [] K).add o).add o';simp[ha.cell,hl.cell,O.get,U,e1,e2];generalize ed:D.add _ _=K1;have m1:Lv K1 oJ (.cells 1 t false):=by rw[<-ed];exact O.add.add
 have m4:Lv K1 (K.ab+1) (.cells 8 ((((((((Tr.e.put 0 (some (u8 x.op))).put 1 (some (str x.dst))).put 2 (some (str x.a))).put 3 (some (str x.b))).put 4 (some (ae x.n))).put 5 (some (str x.fn))).put 6 (some va)).put 7 (some vl)) false):=by rw[<-ed];exact Lv.new (H:=K.add _)
 have g1:I [] K K1:=by rw[<-ed];exact gK _ _
 clear ed;refine CW (WE x.fn _ hw (g.trans g1)) ?_;rintro v T ⟨rfl,g'⟩;have gg:=g1.trans g';have m1':=m1.ai g';have Nn:=m4.ai g';have hix:idxOf (λ y:aQ=>decide (y.name=x.fn)) p=WG p x.fn:=rfl;have⟨t',sY,w1,w2,_⟩:=hw.ob;have ik:=w1.ai (g.trans gg);by_cases c1:x.op=10
 .rcases aa2 (λ y:aQ=>decide (y.name=x.fn)) p with⟨ci,_⟩|⟨j,hj,ci,_⟩
  .simp[m1'.get,Nn.get,U,c1,ci,JN,<-hix];exact gg
  .have⟨kQ,ig,kD,iR,n1,t1,py,kE,dc,cT,iy,eZ,eI⟩:=hw.pr.at_ hj;obtain⟨vp,vb,rfl,eY,bR⟩:=eI;have⟨r0,r1,r2⟩:=uE eZ;have iJ:=cT.ai (g.trans gg);have aU:ig+j*3+1<n1:=ω
   simp[m1'.get,Nn.get,U,c1,ci,JN,<-hix,ik.get,w2,dc,hj,iJ.get,r1,eY.aN fw,ha.aN fw,aU];exact⟨ω,gg⟩
 .simp[m1'.get,Nn.get,U,c1,JN];exact gg
def L5(fn:aQ)(s:aI):Bool:=fn.blocks.any λ bk=>decide (bk.label=s)
def NH(p:List aQ)(f:Nat)(x:bp):Bool:=match p[f]? with|some fn=>x.eh.any λ s=>!L5 fn s|none=>false
def azq{x:cU}{HB:D}{M:AU}(s:aI)(H:D){id:Nat}{ro:Bool}(Z:p_ HB x M)(hl:Lv H id (.cells 1 t ro))(h0:AV t 0 (str s)):CN 251 [.agg M,.ptr id 0] H λ v H'=>v=bl (decide (x.label=s))/\I [] H H':=by
 obtain⟨vc,rfl,hc⟩:=Z
 refine im asr rfl ?_
 simp[hc.cell,bC hl.lt,hl.get,h0]
 exact aw.add _
def azp(hw:lD HB p vf id mid){fn:aQ}{b i:Nat}(iw:p[f]?=some fn)(s:aI)(K:D)(g:I [] HB K)(hc:Cw K oJ id)(hp:Lv K pid (.cells 3 t false))(hp0:AV t 0 (ae f)):CN 249 [str s,.ptr oJ 0,.ptr pid 0] K λ v T=>v=bl (!L5 fn s)/\I [] K T:=by
 have⟨t0,O,U⟩:=hc
 refine im aso rfl ?_
 have⟨t',sY,w1,w2,_⟩:=hw.ob
 have ik:=w1.ai g
 obtain⟨hj,rfl⟩:=cW.1 iw
 have⟨kQ,ig,kD,iR,n1,t1,py,kE,dc,cT,iy,eZ,eI⟩:=hw.pr.at_ hj
 obtain⟨vp,vb,rfl,eY,bR⟩:=eI
 have⟨r0,r1,r2⟩:=uE eZ
 have iJ:=cT.ai g
 have aU:ig+f*3+2<n1:=ω
 simp[bC O.lt,bC hp.lt,bC ik.lt,bC iJ.lt,O.get,U,hp.get,hp0,ik.get,w2,dc,hj,iJ.get,r2,aU]
 have gk:=λ o=>(I.refl [] K).add o
 refine CW (aoZ (p:=λ bk:cU=>decide (bk.label=s)) ((bR.fZ g).fZ (gk _)) ?_) ?_
 .rintro bk cJ M K1 hg hR
  simp;exact azq s K1 hR (Lv.new.ai hg) ζ
 .rintro v K1 ⟨rfl,hg⟩
  simp[L5];exact(gk _).trans hg
def azr(hw:lD HB p vf id mid):sj 198 HB id (jF p λ f _ _ x=>NH p f x):=by
 refine azs _ hw ?_;rintro oJ f b i x M K hc cQ g ⟨va,vl,rfl,ha,hl,hr⟩;have⟨fn,bk,a1,a2,a3⟩:=cQ;refine im asn rfl ?_;have gK:=λ o o'=>((I.refl [] K).add o).add o';simp[ha.cell,hl.cell];refine CW (Tz (p:=λ s=>!L5 fn s) ((hl.fZ g).fZ (gK _ _)) ?_) ?_
 .rintro s hs c K1 hg ⟨e,_⟩;cases e;simp;exact azp hw (b:=b) (i:=i) a1 s K1 (g.trans ((gK _ _).trans hg)) (hc.W ((gK _ _).trans hg)) (Lv.new.add.ai hg) ζ
 .rintro v K1 ⟨rfl,hg⟩;simp[NH,a1];exact(gK _ _).trans hg
def RC(p:List aQ)(f b i:Nat)(x:bp):Bool:=decide (x.op=6)&&(decide (b=0)||match p[f]? with|some fn=>(match fn.blocks[b]? with|some bk=>(bk.code.take i).any λ y=>!decide (y.op=6)|none=>false)|none=>false)
def anu{HB:D}{M:AU}(H:D)(Z:ku HB x M):CN 247 [.agg M] H λ v H'=>v=bl (!decide (x.op=6))/\I [] H H':=by obtain⟨va,vl,rfl,ha,hl,hr⟩:=Z;refine im asm rfl ?_;simp[ha.cell,hl.cell];exact aw.add _
def anv(hw:lD HB p vf id mid):sj 197 HB id (jF p λ f b i x=>RC p f b i x):=by
 refine anw _ hw ?_;rintro oJ f b i x M K ⟨t0,O,U⟩ cQ g ⟨va,vl,rfl,ha,hl,hr⟩;have⟨fn,bk,a1,a2,a3⟩:=cQ;refine im asj rfl ?_;have gK:=λ o o'=>((I.refl [] K).add o).add o';have e1:¬oJ=K.ab:=bC O.lt;have e2:¬oJ=K.ab+1:=by have:=O.lt;omega
 have⟨t',sY,w1,w2,_⟩:=hw.ob;have ik:=w1.ai g;have⟨hj,e⟩:=cW.1 a1;have⟨kQ,ig,kD,iR,n1,t1,py,kE,dc,cT,iy,eZ,eI⟩:=hw.pr.at_ hj;rw[e]at eI;obtain⟨vp,vb,rfl,eY,bR⟩:=eI;have⟨r0,r1,r2⟩:=uE eZ;have iJ:=cT.ai g;have aU:ig+f*3+2<n1:=ω
 have⟨yb,e2b⟩:=cW.1 a2;have⟨lJ,lU,rN,kY,n2,t2,qW,mR,fp,ck,gV,iz,iv⟩:=bR.at_ yb;rw[e2b]at iv;obtain⟨vc,rfl,bX⟩:=iv;have⟨q0,q1⟩:=JQ iz;have kP:=ck.ai g;have gV:lU+b*2+1<n2:=ω
 have A:=(cW.1 a3).1;have⟨yy,Aa,xJ,wv,n3,t3,Bq,jD,fF,mM,kh,UM,ahu⟩:=bX.full ω;obtain⟨c,rfl⟩:∃c,xJ=c+1:=⟨xJ-1,ω⟩;have k1:=ik.lt;have k2:=iJ.lt;have k3:=kP.lt;have z1:¬id=K.ab+1:=ω
 have z2:¬kQ=K.ab+1:=ω
 have z3:¬lJ=K.ab+1:=ω
 have z4:i<=c+1:=ω
 have auV:=(jD▸bX).head (k:=i) ω;simp[ha.cell,hl.cell,O.get,U,e1,e2,bC k1,bC k2,bC k3,z1,z2,z3,ik.get,w2,dc,hj,iJ.get,r2,aU,fp,yb,kP.get,q1,gV,jD,z4];by_cases c1:x.op=6
 .by_cases c2:b=0
  .simp[c1,c2,RC];exact gK _ _
  .simp[c1,c2];refine CW (ao0 (p:=λ y:bp=>!decide (y.op=6)) ((auV.fZ g).fZ (gK _ _)) ?_) ?_
   .rintro y G M K1 hg hR;simp;exact anu K1 hR
   .rintro v K1 ⟨rfl,hg⟩;simp[RC,c1,c2,a1,a2];exact(gK _ _).trans hg
 .simp[c1,RC];exact gK _ _
end
end
end Go.Proofs.YtgipmaoplfkdoaaGreatDoor
