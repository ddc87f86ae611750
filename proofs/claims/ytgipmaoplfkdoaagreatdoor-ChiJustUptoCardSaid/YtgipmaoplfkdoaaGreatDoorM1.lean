import Derived.Test.YtgipmaoplfkdoaaGreatDoorM0
import Derived.Deep.AppendSrc
import Derived.Laws.AppendOwn
import Derived.OrdersIn
import Derived.TacticsIn
import Derived.RangeFuncLeaves
import Derived.RangeFuncNested
import Derived.RangeFuncRecord
import Derived.Conc.MuLone
import Derived.Sort.Grow
import Derived.Sort.Row
import Derived.Shelf.SlIterI.Sorted
import Derived.Shelf.SlIterI.Nil
import Derived.Lib.Slices
import Derived.Shelf.SortM.Plain
import Derived.Shelf.SortM.SortNone
import Derived.Laws.StructEq
import Derived.KernelRfl
set_option linter.all false
set_option maxRecDepth 100000
set_option maxHeartbeats 400000000
namespace Go.Proofs
theorem κ{p:Prop}(h:p:=by kernel_rfl):p:=h
end Go.Proofs
namespace Go.Proofs.YtgipmaoplfkdoaaGreatDoor
noncomputable section
open Go.RowKit
variable{ts:Array aS}{b sh N ah n es:Nat}{β δ:Type}{t e:aS}{w' w w'':bI}{l:AU}{vs:List aC}{x:J}{H1 H2:D}{o':AO}{cI t1:CX}{j:TI}{zv:aC}{f c:dy}{bM:bh}{d:Deferred}{a:Act}{g:Option (Nat×Bool)}{r:dS}{aj:Exit->Act->bI->Prop}{y:Bool}{p':di}{bZ:Nat->Bool}{om:Oper}{au:Fence}{st oE:LoopState}{c_ ajN:Option Code}{rs:List ResultVar}{tm:Array aC}{pl:List di}{ky:List (Nat×KS)}{w0:World}{fz:Nat×Nat}{P:Program}{Ag:List Value->(AU->R (J×D))->R (J×D)}{ss ns zs:BW}{ks:KS}{q:β}{k:Nat->AU->R β}{xd:Unit->R β}{z:R β}
section
variable{P:e8}{E:aK}{s:CX}{o:Oper}{H:D}{r:dS}{w0 w:bI}{ρ:bh}
def Xc(h:cA ρ l vs)(z:fX l=true):∀u∈vs,u.oneCell'=true:=by intro u hu;have⟨n,p⟩:=sq hu;have B:=h.length;have⟨A,_⟩:=cW.1 p;have⟨v',O,U⟩:=h.get (bf (by omega:n<l.length));rw[p]at O;cases O;exact QX U (KQ z _ (cG _))
def aEN(h:pz es x H k=.ok q):∃n l,k n l=.ok q/\l.length=n*es/\∀w0 ρ w p t e,HR E w0 ρ H w->Rl ρ x p->P.underlying t=some (.slice e)->fX l=true->∃vs,Src P es t p n vs w/\cA ρ l vs:=by
 unfold pz at h
 split at h
 .rename_i id ah V n ax ex
  have⟨ob,z,h⟩:=oB h;split at h
  .rename_i m M ro;have⟨O,h⟩:=db h;have⟨U,h⟩:=db h;have⟨l,F,B,h⟩:=He h;have G:ah+n*es<=m:=by simpa[kC,add_eq,mul_eq]using U
   refine⟨n,l,h,F,λ w0 ρ w p t e hr Z hu I=>?_⟩;obtain⟨b,sh,N,c,A,T,Q,L,K,J,rfl⟩:=Z.rT;obtain⟨vs,D,u,C⟩:=hr.read A z G F B;exact⟨vs,Src.ofSlice w hu _ n c vs D C (Xc u I),u⟩
  .cases h
 .rename_i c
  refine⟨0,[],h,ζ,λ w0 ρ w p t e hr Z hu _=>?_⟩;rw[Z.fI];exact⟨[],Src.ofNil w hu _,.nil⟩
 .refine⟨0,[],h,ζ,λ w0 ρ w p t e hr Z hu _=>?_⟩
  obtain⟨a,c,rfl⟩:=Z.EY;exact⟨[],Src.ofSlice w hu a 0 c [] ζ ζ ζ,.nil⟩
 .cases h
def HR.move(h:HR E w0 ρ H w){ob:AO}(A:ρ ah=some (b,sh,N))(W:H.t.get ah=some ob)(V:ob.Dh=false)(amx:o'.Dh=false)(K:tG H ah none H1)(I:uO H1 o' H2)(mW:OR E (ρ.add H.ab (b,n,N)) o' n N w'.heap[b]?)(gu:w'.heap.size=w.heap.size)(cJ:∀k,k≠b->w'.heap[k]?=w.heap[k]?)(U:w'.os=w.os)(F:w'.tape=w.tape)(h4:w'.output=w.output):HR E w0 (ρ.add H.ab (b,n,N)) H2 w'/\cV ρ H (ρ.add H.ab (b,n,N)) H2:=by
 have hB:=h.own ah b sh N ob A W V
 have hf:=h.fresh
 have Z:=bh.sk (p:=(b,n,N)) hf
 have G:H1.ab=H.ab:=K.1
 have iW:H2.ab=H.ab+1:=by rw[I.1,G]
 have cases:∀j p,(ρ.add H.ab (b,n,N)) j=some p->(j=H.ab/\p=(b,n,N))\/(j≠H.ab/\ρ j=some p):=by
  intro j p u;unfold bh.add at u;split at u
  .rename_i e;cases u;exact .inl ⟨e,rfl⟩
  .rename_i e;exact .inr ⟨e,u⟩
 have J:∀j,j≠H.ab->∀z,H2.t.get j=some z->j≠ah/\H.t.get j=some z:=by
  intro j B z C;rw[I.2,G,ao B,K.2]at C;split at C
  .cases C
  .rename_i e;exact⟨e,C⟩
 have O:∀z,H2.t.get H.ab=some z->z=o':=by intro z C;rw[I.2,G,aq rfl]at C;exact(FX C).symm
 have T:∀j b2 s2 D z,j≠H.ab->ρ j=some (b2,s2,D)->H2.t.get j=some z->b2≠b:=by intro j b2 s2 D z B u C e;obtain⟨e1,e2⟩:=J j B z C;subst e;exact e1 (h.inj j ah b2 s2 D sh N _ _ u A e2 W V)
 refine⟨⟨?_,?_,?_,?_,?_,?_,?_,λ j B=>by rw[I.2,G,ao ω,K.2];split;rfl;exact h.Y j ω⟩,Z,λ j B M=>⟨?_,?_⟩,ω⟩
 .intro j p u
  rcases cases j p u with⟨rfl,_⟩|⟨_,u⟩
  .omega
  .have:=h.lt j p u;omega
 .intro j b2 s2 D z u C
  rcases cases j _ u with⟨rfl,e⟩|⟨B,u⟩
  .cases e;rw[O _ C];exact mW
  .rw[cJ _ (T j _ _ _ _ B u C)];exact(h.obj j b2 s2 D z u (J j B z C).2).mono Z
 .intro i j b2 s1 N1 s2 D o1 z h5 h6 h7 X h9
  rcases cases i _ h5 with⟨rfl,e⟩|⟨du,C5⟩
  .cases e;rcases cases j _ h6 with⟨rfl,_⟩|⟨B,L⟩
   .rfl
   .exact absurd rfl (T j _ _ _ _ B L X)
  .rcases cases j _ h6 with⟨rfl,e⟩|⟨B,L⟩
   .cases e;exact absurd rfl (T i _ _ _ _ du C5 h7)
   .exact h.inj i j b2 s1 N1 s2 D _ _ C5 L (J i du _ h7).2 (J j B _ X).2 h9
 .intro j b2 s2 D z u C mY
  rcases cases j _ u with⟨rfl,e⟩|⟨B,u⟩
  .cases e;exact hB
  .exact h.own j b2 s2 D z u (J j B z C).2 mY
 .intro j b2 s2 D u
  rw[gu];rcases cases j _ u with⟨rfl,e⟩|⟨B,u⟩
  .cases e;exact h.bF ah b sh N A
  .exact h.bF j b2 s2 D u
 .intro g i rP
  obtain⟨N',hN⟩:=h.vo g i rP;exact⟨N',Z _ _ hN⟩
 .exact⟨U.trans h.ia.os,F.trans h.ia.tape,h4.trans h.ia.output,by rw[gu];exact h.ia.size,λ k Q hs=>by rw[cJ k ω];exact h.ia.block k Q hs⟩
 .unfold bh.add;rw[ao (bC B)];exact M
 .rw[I.2,G,ao (bC B),K.2,ao]
  rintro rfl;rw[A]at M;cases M
def Grown(M cI:CX)(ah k:Nat)(new:AU):Prop:=∀(i:Nat) av,i<k+new.length->cI.get i=some av->(i<k/\M.get (ah+i)=some av)\/(k<=i/\new[i-k]?=some av)
def atI{M:CX}(h:∀j,cI.get j=if b<=j/\j<b+l.length then l[j-b]? else M.get j):Grown M cI 0 b l:=by
 intro i av A p;rw[h]at p;by_cases e:b<=i
 .rw[aq ⟨e,A⟩]at p;exact .inr ⟨e,p⟩
 .rw[ao ω]at p;exact .inl ⟨ω,by rw[mQ];exact p⟩
def ahe{M:CX}{new:AU}(z:l.length=b)(p:∀i,i<b->∃x,l[i]?=some x/\M.get (ah+i)=some x)(O:∀j,t1.get j=if 0<=j/\j<0+l.length then l[j-0]? else(Tr.e:CX).get j)(U:∀j,cI.get j=if b<=j/\j<b+new.length then new[j-b]? else t1.get j):Grown M cI ah b new:=by
 intro i av A h
 rw[U]at h
 by_cases e:b<=i
 .rw[aq ⟨e,A⟩]at h;exact .inr ⟨e,h⟩
 .rw[ao ω,O,aq ω,Ax]at h
  have⟨x,F,u⟩:=p i ω;rw[F]at h;cases h;exact .inl ⟨ω,u⟩
def adQ{ty:aS}(p:P.underlying t=some (.slice e))(ay:pE P e j){a:Addr}{len c:Nat}{x:aC}(h:Src P j.size t x n vs w)(z:len+n<=c)(u:(storeCells (a.add (len*j.size)) vs).run P w=.ok () w'):(Builtin.append_ #[t,t] ty #[.slice (some a) len c,x]).run P w=.ok (.slice (some a) (len+n) c) w':=by
 unfold Builtin.append_
 have A:((TypeDesc.slice e)matches .int _)=false:=rfl
 simp[cK,dR p,ay.wZ,h.len,z,h.cells,u]
def anS(ts:List aS)(args:AU):rL E .append ts args H=match ts,args with|[t,t'],[s,x]=>aB (.er [76]) (cX E t s x H) (Nat.beq t t')|_,_=>.er [77]:=by unfold rL;rcases ts with _|⟨t,_|⟨t',_|⟨h,ts⟩⟩⟩<;>rcases args with _|⟨x,_|⟨y,_|⟨z,l⟩⟩⟩<;>rfl
def pE.type(ay:pE P e j):∃x zv,P.info? e=some x/\x.size=j.size/\x.bytes=j.bytes/\x.zero=some zv/\zv.cells.size=j.size:=by have⟨x,zv,O,U,F,p,h,_⟩:=ay.info;refine⟨x,zv,O,U,F,p,?_⟩;have:=ay.len;rw[h]at this;simpa using this
def alV(z:Array aC)(n:Nat):(Builtin.zeroCells z n).size=n*z.size:=by simp[Builtin.zeroCells]
def aGL(EO:eW P E){args:Array dy}(ho:o.op=.call {callee:=.builtin .append,args:=args,argTypes:=ts})(h:bw E s (.call {callee:=.builtin .append,args:=args,argTypes:=ts}) H=.ok r):Wr P E s o H r:=by
 unfold bw at h
 dsimp only at h
 replace h:=BY h;obtain⟨vs,kL,h⟩:=h
 rw[anS]at h
 have key:∃t sv x,ts.toList=[t,t]/\vs=[sv,x]/\cX E t sv x H=.ok r:=by
  split at h
  .rename_i t t' sv x e;replace h:=db h;obtain⟨O,h⟩:=h;have fj:t=t':=by simpa using O
   subst fj;exact⟨_,_,_,e,rfl,h⟩
  .cases h
 clear h
 obtain⟨t,sv,x,A4,rfl,h⟩:=key
 obtain⟨ox,oy,hl,Z,G⟩:=T_ kL
 have L:args=#[ox,oy]:=Ib hl
 have aaV:ts=#[t,t]:=Ib A4
 have T:∀z∈args.toList,z∈o.op.operands.toList:=by intro z hz;simp only[ho,Op.operands,Call.operands,yY,b_];exact .inr hz
 have qQ:∀(a:Act) (w w':bI) v,(Builtin.append_ #[t,t] o.type #[a.eval ox,a.eval oy]).run P w=.ok v w'->(execOp a.eval o).run P w=.ok (.value v) w':=by
  intro a w w' v EV;rw[NK ho,aaV];have:args.map a.eval=#[a.eval ox,a.eval oy]:=by rw[L];simp
  rw[this];simp only[builtin,cK,EV,dD,iL]
 unfold cX at h
 replace h:=Lk h;obtain⟨i,e,j,A,hd,hj,h⟩:=h
 have ay:=EO.tt _ _ hj
 have hu:P.underlying t=some (.slice e):=by have:=(EO.tt _ _ A).oH;rwa[hd]at this
 obtain⟨ti,zv,Jm,ait,awr,htz,A7⟩:=ay.type
 replace h:=aEN (P:=P) (E:=E) h;obtain⟨n,new,h,pP,GM⟩:=h
 have grow:∀(w0:bI) (ρ:bh) (w:bI) (a:Act),HR E w0 ρ H w->∀(base:Option Addr) (len c:Nat) (D news:List aC),a.eval ox=.slice base len c->c<len+n->len+n<=9223372036854775807->(len+n)*j.bytes<=140737488355328->(Builtin.firstCells j.size len (.slice base len c)).run P w.drew=.ok D.toArray w.drew->D.length=len*j.size->Src P j.size t (a.eval oy) n news w->
  ∃x N nc,(execOp a.eval o).run P w=.ok (.value (.slice (some ⟨w.heap.size,0,none⟩) (len+n) nc)) (w.drew.alloc (.cells x e))/\x.size=N/\N=nc*j.size/\len+n<=nc/\nc<=maxLen/\
   ∀(i:Nat) v,(D++news)[i]?=some v->x[i]?=some v:=by
  intro w0 ρ w a hr base len c D news K hg P0 PX hold A1 F
  have hnc:=nextslicecap_le (need:=len+n) (old:=c) hg
  have UX:Builtin.nextslicecap (len+n) c*ti.bytes<=281474976710656:=by rw[awr];have O:Builtin.nextslicecap (len+n) c*j.bytes<=2*(len+n)*j.bytes:=nW _ hnc;have U:2*(len+n)*j.bytes=2*((len+n)*j.bytes):=Nat.mul_assoc _ _ _;omega
  have fl:=run_append_grow_src (P:=P) w t t o.type e ti zv hu Jm htz base len c D (by rw[ait];exact hold) (a.eval oy) n news (by rw[ait];exact F) hg ω UX
  have AW:=grownCap_ge w (len+n) c e
  have aU:=grownCap_le_maxLen w (len+n) c e (by unfold maxLen;omega)
  refine⟨_,_,_,qQ a w _ _ (by rw[K];exact fl),rfl,?_,AW,aU,λ i v C=>?_⟩
  .rw[Array.size_append,alV,A7,Ta,iP,A1,F.newsLen,<-DW,<-DW]
   congr 1;omega
  .have bm:=(cW.1 C).1
   rw[aeV (by simpa using bm)];simpa using C
 split at h
 .
  cases V:n with
  |zero=>
   rw[V]at h
   have fH:new=[]:=by rw[V,OG]at pP;exact BM pP
   intro w0 ρ w a u ct
   have K:=(ct.ev Z (T _ (by simp[L]))).fI
   obtain⟨news,F,p⟩:=GM w0 ρ w _ t e u (ct.ev G (T _ (by simp[L]))) hu (by rw[fH];rfl)
   refine⟨_,H,_,w,ρ,dk h,.inl (qQ a w w (.slice none 0 0) ?_),.lit _,u,cV.refl _ _⟩
   have wE:=F.cells
   rw[V]at wE
   have sH:=F.len
   rw[V]at sH
   unfold Builtin.append_
   simp[K,cK,dR hu,ay.wZ,sH,wE]
  |succ n'=>
   rw[V,G8]at h
   rw[<-V]at h
   replace h:=db h;obtain⟨P0,h⟩:=h
   replace h:=db h;obtain⟨PX,h⟩:=h
   replace h:=db h;obtain⟨dV,h⟩:=h
   replace h:=sd h;obtain⟨t',rS,h⟩:=h
   replace h:=vP h;obtain⟨H',hA,h⟩:=h
   have aad:n<=9223372036854775807:=by simpa[kC]using P0
   have Ul:n*j.bytes<=140737488355328:=by simpa[kC,mul_eq]using PX
   intro w0 ρ w a u ct
   have K:=(ct.ev Z (T _ (by simp[L]))).fI
   obtain⟨news,F,p⟩:=GM w0 ρ w _ t e u (ct.ev G (T _ (by simp[L]))) hu dV
   obtain⟨I,N,nc,g1,g2,g3,g4,g5,g6⟩:=grow w0 ρ w a u none 0 0 [] news K ω ω (by simpa using Ul) (by simp[Builtin.firstCells]) ζ F
   rw[mQ]at g1 g4
   have mW:OR E (ρ.add H.ab (w.heap.size,0,N)) (.cells (n*j.size) t' false) 0 N (some (.cells I e)):=by
    refine⟨I,e,(0,0),rfl,g2,?_,λ _=>rfl,λ i av A ha=>?_,λ _=>rfl⟩
    .rw[g3,mQ];exact nW _ g4
    .rw[rS,aq ω,Ax]at ha;obtain⟨v,h5,h6⟩:=p.get ha;exact⟨v,by rw[mQ];exact g6 i v (by simpa using h5),h6.mono (bh.sk u.fresh)⟩
   obtain⟨k1,k2⟩:=(u.drew (w':=w.drew) rfl rfl rfl rfl).alloc (x:=.cells I e) hA mW
   refine⟨_,H',_,_,_,dk h,.inl g1,?_,k1,k2⟩
   exact .sl (s:=0) (bh.uY _ _ _) (λ Z=>by cases Z) g4 aF (by rw[g3];simp) g5
 .rename_i id ah gM len ax ex
  replace h:=db h;obtain⟨iV,h⟩:=h;have sF:j.size=gM:=by simpa using iV
  subst sF;replace h:=db h;obtain⟨dV,h⟩:=h;replace h:=zu h;replace h:=db h;obtain⟨P0,h⟩:=h;replace h:=db h;obtain⟨PX,h⟩:=h;rw[add_eq]at h P0 PX;have aad:len+n<=9223372036854775807:=by simpa[kC]using P0
  have Ul:(len+n)*j.bytes<=140737488355328:=by simpa[kC,mul_eq]using PX
  replace h:=oB h;obtain⟨ob,jB,h⟩:=h;split at h
  .rename_i m M ro;have D:∀(w0:bI) (ρ:bh) (w:bI) b sh N c,HR E w0 ρ H w->ρ id=some (b,sh,N)->len<=ax->ax<=c->sh+ah+c*j.size<=N->ah+len*j.size<=m->∃(D:List aC),D.length=len*j.size/\(Builtin.firstCells j.size len (.slice (some ⟨b,sh+ah,none⟩) len c)).run P w.drew=.ok D.toArray w.drew/\∀(i:Nat) av,i<len*j.size->M.get (ah+i)=some av->∃v,D[i]?=some v/\Rl ρ av v:=by
    intro w0 ρ w b sh N c hr W k3 k2 k4 B
    obtain⟨J,ee,fz,q1,q2,q3,q4,q5,_⟩:=hr.obj _ _ _ _ _ W jB
    have hlc:len*j.size<=c*j.size:=nW _ ω
    have A1:((J.toList.drop (sh+ah)).take (len*j.size)).length=len*j.size:=by simp only[eK,FM,rH];omega
    have je:∀i,i<len*j.size->((J.toList.drop (sh+ah)).take (len*j.size))[i]?=J[sh+(ah+i)]?:=by intro i A;rw[rI,aq A,v_,pG,vd]
    refine⟨_,A1,run_firstCells_some w.drew j.size len ⟨b,sh+ah,none⟩ len c _ A1 ?_,λ i av A ha=>?_⟩
    .intro i v C
     have A:i<len*j.size:=by rw[<-A1];exact(cW.1 C).1
     rw[je i A]at C;rw[Au];have:(w.drew).heap[b]?=some (.cells J ee fz):=q1;exact O8 this (by rw[<-C];congr 1;omega)
    .obtain⟨v,h5,h6⟩:=q5 (ah+i) av ω ha
     exact⟨v,by rw[je i A];exact h5,h6⟩
   have aio:(len+n)*j.size=len*j.size+n*j.size:=DW _ _ _;have row:∀{ρ bM:bh} {cI:CX} {D news:List aC} {I:Array aC} {sh:Nat},Am ρ bM->Grown M cI ah (len*j.size) new->D.length=len*j.size->cA ρ new news->(∀(i:Nat) av,i<len*j.size->M.get (ah+i)=some av->∃v,D[i]?=some v/\Rl ρ av v)->(∀(i:Nat) v,(D++news)[i]?=some v->I[sh+i]?=some v)->∀(i:Nat) av,i<(len+n)*j.size->cI.get i=some av->∃v,I[sh+i]?=some v/\Rl bM av v:=by
    intro ρ bM cI D news I sh Z hG A1 p hold hxr i av A ha
    rcases hG i av (by rw[pP];omega) ha with⟨h5,h6⟩|⟨h5,h6⟩
    .obtain⟨v,h7,h8⟩:=hold i av h5 h6
     exact⟨v,hxr i v (by rw[jI ω];exact h7),h8.mono Z⟩
    .obtain⟨v,h7,h8⟩:=p.get h6
     exact⟨v,hxr i v (by rw[mi ω,A1];exact h7),h8.mono Z⟩
   cases Jh:Nat.ble (len+n) ax with
   |true=>
    rw[Jh]at h
    replace h:=O3 h;obtain⟨jC,h⟩:=h
    subst jC
    replace h:=db h;obtain⟨B,h⟩:=h
    replace h:=sd h;obtain⟨cI,AN,h⟩:=h
    replace h:=rk h;obtain⟨H',X,h⟩:=h
    have aij:len+n<=ax:=by simpa[kC]using Jh
    have nH:ah+(len+n)*j.size<=m:=by simpa[kC,add_eq,mul_eq]using B
    intro w0 ρ w a u ct
    obtain⟨b,sh,N,c,W,k1,k2,k3,k4,k5,K⟩:=(ct.ev Z (T _ (by simp[L]))).rT
    obtain⟨news,F,p⟩:=GM w0 ρ w _ t e u (ct.ev G (T _ (by simp[L]))) hu dV
    obtain⟨w',g1,g2,g3⟩:=u.write (P:=P) (ah:=ah+len*j.size) W jB (by rw[pP];omega) p (Xc p dV) AN X
    refine⟨_,H',_,w',ρ,dk h,.inl (qQ a w w' (.slice (some ⟨b,sh+ah,none⟩) (len+n) c) ?_),.sl W k1 k2 aij k4 k5,g2,g3⟩
    rw[K]
    exact adQ hu ay F ω (by rw[Au,vd];exact g1)
   |false=>
    rw[Jh]at h
    have aij:ax<len+n:=by
     rcases kb ax (len+n)with h|h
     .exact h
     .rw[OC h]at Jh;cases Jh
    cases hex:ex with
    |true=>
     rw[hex]at h
     replace h:=db h;obtain⟨B,h⟩:=h
     replace h:=He h;obtain⟨old,sL,mV,h⟩:=h
     replace h:=sd h;obtain⟨t1,A3,h⟩:=h
     replace h:=sd h;obtain⟨cI,AN,h⟩:=h
     replace h:=vP h;obtain⟨H',hA,h⟩:=h
     have nH:ah+len*j.size<=m:=by simpa[kC,add_eq,mul_eq]using B
     have hG:Grown M cI ah (len*j.size) new:=ahe sL mV A3 AN
     intro w0 ρ w a u ct
     obtain⟨b,sh,N,c,W,k1,k2,k3,k4,k5,K⟩:=(ct.ev Z (T _ (by simp[L]))).rT
     obtain⟨news,F,p⟩:=GM w0 ρ w _ t e u (ct.ev G (T _ (by simp[L]))) hu dV
     have bX:=k1 hex
     obtain⟨ol,o1,o2,o3⟩:=D w0 ρ w b sh N c u W k3 k2 k4 nH
     obtain⟨I,N',nc,g1,g2,g3,g4,g5,g6⟩:=grow w0 ρ w a u _ len c ol news K ω aad Ul o2 o1 F
     have mW:OR E (ρ.add H.ab (w.heap.size,0,N')) (.cells ((len+n)*j.size) cI false) 0 N' (some (.cells I e)):=by
      refine⟨I,e,(0,0),rfl,g2,?_,λ _=>rfl,?_,λ _=>rfl⟩
      .rw[g3,mQ];exact nW _ g4
      .exact row (sh:=0) (bh.sk u.fresh) hG o1 p o3 (λ i v C=>by rw[mQ];exact g6 i v C)
     obtain⟨p1,p2⟩:=(u.drew (w':=w.drew) rfl rfl rfl rfl).alloc (x:=.cells I e) hA mW
     refine⟨_,H',_,_,_,dk h,.inl g1,?_,p1,p2⟩
     exact .sl (s:=0) (bh.uY _ _ _) (λ Z=>by cases Z) g4 aF (by rw[g3];simp) g5
    |false=>
     rw[hex]at h
     replace h:=O3 h;obtain⟨jC,h⟩:=h
     subst jC
     replace h:=db h;obtain⟨B,h⟩:=h
     have nH:ah+len*j.size<=m:=by simpa[kC,add_eq,mul_eq]using B
     replace h:=db h;obtain⟨avQ,h⟩:=h
     have ya:∃cI H1 H',Grown M cI ah (len*j.size) new/\tG H id none H1/\uO H1 (.cells ((len+n)*j.size) cI false) H'/\r=.val (.sl H.ab 0 j.size (len+n) (len+n) false) H':=by
      cases Mp:ah with
      |zero=>
       rw[Mp]at h
       replace h:=sd h;obtain⟨cI,AN,h⟩:=h
       replace h:=rk h;obtain⟨H1,X,h⟩:=h
       replace h:=vP h;obtain⟨H',hA,h⟩:=h
       rw[X.1]at h
       exact⟨cI,H1,H',atI AN,X,hA,dk h⟩
      |succ Nv=>
       rw[Mp,G8]at h
       replace h:=He h;obtain⟨old,sL,mV,h⟩:=h
       replace h:=sd h;obtain⟨t1,A3,h⟩:=h
       replace h:=sd h;obtain⟨cI,AN,h⟩:=h
       replace h:=rk h;obtain⟨H1,X,h⟩:=h
       replace h:=vP h;obtain⟨H',hA,h⟩:=h
       rw[X.1]at h
       exact⟨cI,H1,H',ahe sL mV A3 AN,X,hA,dk h⟩
     obtain⟨cI,H1,H',hG,X,hA,hr⟩:=ya
     intro w0 ρ w a u ct
     obtain⟨b,sh,N,c,W,k1,k2,k3,k4,k5,K⟩:=(ct.ev Z (T _ (by simp[L]))).rT
     obtain⟨news,F,p⟩:=GM w0 ρ w _ t e u (ct.ev G (T _ (by simp[L]))) hu dV
     obtain⟨ol,o1,o2,o3⟩:=D w0 ρ w b sh N c u W k3 k2 k4 nH
     by_cases hc:len+n<=c
     .
      obtain⟨J,ee,fz,q1,q2,q3,q4,q5,_⟩:=u.obj _ _ _ _ _ W jB
      rw[q4 rfl]at q1
      have yf:=Xc p dV
      have hnv:=p.length
      have hlc:(len+n)*j.size<=c*j.size:=nW _ hc
      have eN:J.toList.length=J.size:=rH
      have fl:=run_storeCells_at (P:=P) b (sh+ah+len*j.size) ee news 0 J w q1 ω yf
      simp only[xx]at fl
      have kj:∀(i:Nat) v,(ol++news)[i]?=some v->((J.toList.take (sh+ah+len*j.size)++news++J.toList.drop (sh+ah+len*j.size+news.length)).toArray)[sh+ah+i]?=some v:=by
       intro i v C;rw[SY];by_cases A:i<len*j.size
       .rw[jI ω]at C;rw[jI (by simp only[iP,eK];omega),jI (by simp only[eK];omega),rI,aq ω];have:=run_firstCells_some (P:=P) w.drew j.size len ⟨b,sh+ah,none⟩ len c ((J.toList.drop (sh+ah)).take (len*j.size)) (by simp only[eK,FM];omega) (λ i v C=>by
         have A:i<len*j.size:=by have:=(cW.1 C).1;simp only[eK]at this;omega
         rw[rI,aq A,v_,pG]at C;rw[Au];exact O8 (w:=w.drew) (show w.drew.heap[b]?=_ from q1) C)
        rw[o2]at this;have e9:ol=(J.toList.drop (sh+ah)).take (len*j.size):=by have:=iQ (λ r=>match r with|Result.ok a _=>a.toList|_=>[]) this;simpa using this
        rw[e9,rI,aq A,v_]at C;exact C
       .rw[mi ω,o1]at C;have bm:=(cW.1 C).1;rw[jI (by simp only[iP,eK];omega),mi (by simp only[eK];omega),eK,FU ω];rw[<-C];congr 1;omega
      have mW:OR E (ρ.add H.ab (b,sh+ah,N)) (.cells ((len+n)*j.size) cI false) (sh+ah) N (w.setRow b (J.toList.take (sh+ah+len*j.size)++news++J.toList.drop (sh+ah+len*j.size+news.length)).toArray).heap[b]?:=by
       rw[setRow_heap w b J _ ee (0,0) q1];refine⟨_,ee,(0,0),rfl,?_,ω,λ _=>rfl,?_,λ O=>by have U:Nat.ble 2 ((len+n)*j.size)=true:=avQ;rw[O]at U;cases U⟩
       .simp only[Ta,iP,eK,FM];omega
       .exact row (bh.sk u.fresh) hG o1 p o3 kj
      obtain⟨p1,p2⟩:=u.move W jB rfl rfl X hA mW (by simp[World.setRow]) (λ k Q=>setRow_other _ _ _ _ Q) rfl rfl rfl
      refine⟨_,H',_,_,_,hr,.inl (qQ a w _ (.slice (some ⟨b,sh+ah,none⟩) (len+n) c) ?_),?_,p1,p2⟩
      .rw[K]
       exact adQ hu ay F hc (by rw[Au];exact fl)
      .exact .sl (s:=sh+ah) (bh.uY _ _ _) (λ Z=>by cases Z) hc aF ω k5
     .obtain⟨I,N',nc,g1,g2,g3,g4,g5,g6⟩:=grow w0 ρ w a u _ len c ol news K ω aad Ul o2 o1 F
      obtain⟨m1,m2⟩:=u.gone W X;have rQ:H1.ab=H.ab:=X.1;have mW:OR E (ρ.add H1.ab (w.heap.size,0,N')) (.cells ((len+n)*j.size) cI false) 0 N' (some (.cells I e)):=by
       refine⟨I,e,(0,0),rfl,g2,?_,λ _=>rfl,?_,λ _=>rfl⟩
       .rw[g3,mQ];exact nW _ g4
       .exact row (sh:=0) (bh.sk m1.fresh) hG o1 p o3 (λ i v C=>by rw[mQ];exact g6 i v C)
      obtain⟨p1,p2⟩:=(m1.drew (w':=w.drew) rfl rfl rfl rfl).alloc (x:=.cells I e) hA mW;refine⟨_,H',_,_,_,hr,.inl g1,?_,p1,m2.trans p2⟩;rw[rQ];exact .sl (s:=0) (bh.uY _ _ _) (λ Z=>by cases Z) g4 aF (by rw[g3];simp) g5
  .cases h
 .cases V:n with
  |succ n'=>rw[V]at h;cases h
  |zero=>
   rw[V]at h
   have fH:new=[]:=by rw[V,OG]at pP;exact BM pP
   intro w0 ρ w a u ct
   obtain⟨b,c,K⟩:=(ct.ev Z (T _ (by simp[L]))).EY
   obtain⟨news,F,p⟩:=GM w0 ρ w _ t e u (ct.ev G (T _ (by simp[L]))) hu (by rw[fH];rfl)
   have avJ:news=[]:=by rw[fH]at p;cases p;rfl
   rw[avJ,V]at F
   refine⟨_,H,_,w,ρ,dk h,.inl (qQ a w w (.slice (some b) 0 c) ?_),.eF,u,cV.refl _ _⟩
   rw[K]
   have:=adQ (ty:=o.type) hu ay (a:=b) (len:=0) (c:=c) (w':=w) F (dQ _) (by simp[storeCells])
   exact this
 .cases h
end
variable{m:Nat}{k:AU->R β}
section
variable{P:e8}{E:aK}{s:CX}{o:Oper}{H:D}{r:dS}
def ai4{k:Nat->R β}(h:Ng x k=.ok q):∃n,k n=.ok q/\∀(ρ:bh) p,Rl ρ x p->∃base c,p=.slice base n c:=by
 unfold Ng at h;split at h
 .refine⟨_,h,λ ρ p Z=>?_⟩;obtain⟨b,sh,N,c,_,_,_,_,_,_,rfl⟩:=Z.rT;exact⟨_,_,rfl⟩
 .exact⟨0,h,λ ρ p Z=>⟨_,_,Z.fI⟩⟩
 .refine⟨0,h,λ ρ p Z=>?_⟩;obtain⟨a,c,rfl⟩:=Z.EY;exact⟨_,_,rfl⟩
 .cases h
def aqn(h:Pr es m x H k=.ok q):∃l,k l=.ok q/\l.length=m*es/\∀w0 ρ w p,HR E w0 ρ H w->Rl ρ x p->∃vs,(Builtin.firstCells es m p).run P w=.ok vs.toArray w/\cA ρ l vs:=by
 unfold Pr at h
 split at h
 .rename_i id ah V n ax ex
  have⟨ob,u,h⟩:=oB h;split at h
  .rename_i c M ro;have⟨O,h⟩:=db h;have⟨U,h⟩:=db h;have⟨T,h⟩:=db h;have⟨l,F,A,h⟩:=He h;have G:ah+m*es<=c:=by simpa[kC,add_eq,mul_eq]using U
   refine⟨l,h,F,λ w0 ρ w p hr Z=>?_⟩;obtain⟨b,sh,N,c',z,Q,L,K,J,I,rfl⟩:=Z.rT;obtain⟨vs,D,C,B⟩:=hr.read z u G F A;exact⟨vs,run_firstCells_some w es m _ n c' vs D B,C⟩
  .cases h
 .cases h
def anU(ts:List aS)(args:AU):rL E .copy ts args H=match ts,args with|t::_,[d,x]=>AF E t d x H|_,_=>.er [77]:=by unfold rL;rcases ts with _|⟨t,_|⟨t',ts⟩⟩<;>rcases args with _|⟨x,_|⟨y,_|⟨z,l⟩⟩⟩<;>rfl
def anT(ts:List aS)(args:AU):rL E .clear ts args H=match ts,args with|[t],[x]=>O_ E t x H|_,_=>.er [77]:=by unfold rL;rcases ts with _|⟨t,_|⟨t',ts⟩⟩<;>rcases args with _|⟨x,_|⟨y,l⟩⟩<;>rfl
def anR(n n':Nat):aB n' n (Nat.ble n n')=Nat.min n n':=by
 cases h:Nat.ble n n' with
 |true=>rw[xI];have:n<=n':=by simpa[kC]using h
        exact(FU this).symm
 |false=>
  rw[Ik]
  rcases kb n' n with p|p
  .exact(Nat.min_eq_right (tL p)).symm
  .rw[OC p]at h;cases h
def aGN(X:eW P E){args:Array dy}(T:o.op=.call {callee:=.builtin .copy,args:=args,argTypes:=ts})(h:bw E s (.call {callee:=.builtin .copy,args:=args,argTypes:=ts}) H=.ok r):Wr P E s o H r:=by
 unfold bw at h
 dsimp only at h
 replace h:=BY h;obtain⟨vs,kL,h⟩:=h
 rw[anU]at h
 have key:∃t U d x,ts.toList=t::U/\vs=[d,x]/\AF E t d x H=.ok r:=by
  split at h
  .rename_i e;exact⟨_,_,_,_,e,rfl,h⟩
  .cases h
 clear h
 obtain⟨t,U,d,x,A4,rfl,h⟩:=key
 obtain⟨J,I,hl,Z,G⟩:=T_ kL
 have u:args=#[J,I]:=Ib hl
 have De:ts[0]?=some t:=by rw[<-pG,A4];rfl
 have C:∀z∈args.toList,z∈o.op.operands.toList:=by intro z hz;simp only[T,Op.operands,Call.operands,yY,b_];exact .inr hz
 have O:∀(a:Act) (w w':bI) v,(Builtin.copy_ ts o.type #[a.eval J,a.eval I]).run P w=.ok v w'->(execOp a.eval o).run P w=.ok (.value v) w':=by
  intro a w w' v EV;rw[NK T];have:args.map a.eval=#[a.eval J,a.eval I]:=by rw[u];simp
  rw[this];simp only[builtin,cK,EV,dD,iL]
 unfold AF at h
 replace h:=Lk h;obtain⟨i,e,j,A,hd,hj,h⟩:=h
 have ay:=X.tt _ _ hj
 have hu:P.underlying t=some (.slice e):=by have:=(X.tt _ _ A).oH;rwa[hd]at this
 replace h:=ai4 h;obtain⟨n,h,V⟩:=h
 replace h:=ai4 h;obtain⟨n',h,W⟩:=h
 replace h:=zu h
 rw[anR]at h
 cases B:Nat.min n n' with
 |zero=>
  rw[B]at h
  intro w0 ρ w a D ct
  obtain⟨bx,cx,K⟩:=V ρ _ (ct.ev G (C _ (by simp[u])))
  obtain⟨bd,cd,F⟩:=W ρ _ (ct.ev Z (C _ (by simp[u])))
  refine⟨_,H,_,w,ρ,dk h,.inl (O a w w (.int .i64 0) ?_),.lit _,D,cV.refl _ _⟩
  rw[F,K]
  unfold Builtin.copy_
  cases bx<;>cases bd<;>simp[De,cK,dR hu,ay.wZ,Builtin.lenOf,B,Builtin.firstCells,loadCells,loadCellsFrom,storeCells,goInt]
 |succ m'=>
  rw[B,G8]at h
  rw[<-B]at h
  replace h:=aqn (P:=P) (E:=E) h;obtain⟨new,h,pP,GM⟩:=h
  split at h
  .rename_i id ah gM len ax ex
   replace h:=db h;obtain⟨iV,h⟩:=h;replace h:=db h;obtain⟨dV,h⟩:=h;replace h:=db h;obtain⟨Mk,h⟩:=h;replace h:=oB h;obtain⟨ob,jB,h⟩:=h;have sF:j.size=gM:=by simpa using iV
   subst sF;split at h
   .rename_i c M ro;replace h:=O3 h;obtain⟨jC,h⟩:=h;subst jC;replace h:=db h;obtain⟨aU,h⟩:=h;replace h:=sd h;obtain⟨cI,AN,h⟩:=h;replace h:=rk h;obtain⟨H',hT,h⟩:=h;have Mi:ah+len*j.size<=c:=by simpa[kC,add_eq,mul_eq]using aU
    have L:Nat.min n n'<=len:=OD Mk;have AZ:Nat.min n n'*j.size<=len*j.size:=nW _ L;intro w0 ρ w a D ct;obtain⟨bx,cx,K⟩:=V ρ _ (ct.ev G (C _ (by simp[u])));obtain⟨news,Q,p⟩:=GM w0 ρ w _ D (ct.ev G (C _ (by simp[u])));obtain⟨bd,cd,e0⟩:=W ρ _ (ct.ev Z (C _ (by simp[u])));obtain⟨b,sh,N,cm,hb,k1,k2,k3,k4,k5,F⟩:=(ct.ev Z (C _ (by simp[u]))).rT;rw[F]at e0;cases e0;obtain⟨w',g1,g2,g3⟩:=D.write (P:=P) (ah:=ah) hb jB (by rw[pP];omega) p (Xc p dV) AN hT;refine⟨_,H',_,w',ρ,dk h,.inl (O a w w' (.int .i64 (Nat.min n n')) ?_),.lit _,g2,g3⟩;rw[F];rw[K]at Q⊢;unfold Builtin.copy_;simp[De,cK,dR hu,ay.wZ,Builtin.lenOf,Q,g1,goInt]
   .cases h
  .cases h
def aGX(ay:pE P t j)(p:j.zero=zv.cells.toList.map J.lit):∀u∈zv.cells.toList,u.oneCell'=true:=by intro u hu;have h:=ay.cell;rw[p]at h;have:=KQ h (.lit u) (jn.2 ⟨u,hu,rfl⟩);exact QX (ρ:=λ _=>none) (.lit u) this
def aGM(EO:eW P E){args:Array dy}(X:o.op=.call {callee:=.builtin .clear,args:=args,argTypes:=ts})(h:bw E s (.call {callee:=.builtin .clear,args:=args,argTypes:=ts}) H=.ok r):Wr P E s o H r:=by
 unfold bw at h
 dsimp only at h
 replace h:=BY h;obtain⟨vs,kL,h⟩:=h
 rw[anT]at h
 have key:∃t x,ts.toList=[t]/\vs=[x]/\O_ E t x H=.ok r:=by
  split at h
  .rename_i e;exact⟨_,_,e,rfl,h⟩
  .cases h
 clear h
 obtain⟨t,x,A4,rfl,h⟩:=key
 obtain⟨K,hl,Z⟩:=agD kL
 have D:args=#[K]:=Ib hl
 have I:ts[0]?=some t:=by rw[<-pG,A4];rfl
 have G:∀z∈args.toList,z∈o.op.operands.toList:=by intro z L;simp only[X,Op.operands,Call.operands,yY,b_];exact .inr L
 have F:∀(a:Act) (w w':bI) v,(Builtin.clear_ ts o.type #[a.eval K]).run P w=.ok v w'->(execOp a.eval o).run P w=.ok (.value v) w':=by
  intro a w w' v EV;rw[NK X];have:args.map a.eval=#[a.eval K]:=by rw[D];simp
  rw[this];simp only[builtin,cK,EV,dD,iL]
 unfold O_ at h
 replace h:=Lk h;obtain⟨i,e,j,A,hd,hj,h⟩:=h
 have ay:=EO.tt _ _ hj
 have hu:P.underlying t=some (.slice e):=by have:=(EO.tt _ _ A).oH;rwa[hd]at this
 split at h
 .rename_i id ah gM len ax ex
  cases C:len with
  |zero=>
   rw[C]at h
   intro w0 ρ w a p ct
   obtain⟨b,sh,N,c,hb,k1,k2,k3,k4,k5,B⟩:=(ct.ev Z (G _ (by simp[D]))).rT
   refine⟨_,H,_,w,ρ,dk h,.inl (F a w w (.tuple #[]) ?_),.lit _,p,cV.refl _ _⟩
   rw[B,C]
   unfold Builtin.clear_
   simp[I,dR hu]
  |succ aIB=>
   rw[C,G8]at h
   rw[<-C]at h
   replace h:=db h;obtain⟨iV,h⟩:=h
   have sF:j.size=gM:=by simpa using iV
   subst sF
   replace h:=oB h;obtain⟨ob,jB,h⟩:=h
   split at h
   .rename_i m M ro
    replace h:=O3 h;obtain⟨jC,h⟩:=h;subst jC;replace h:=db h;obtain⟨aU,h⟩:=h;replace h:=W_ ay.len h;obtain⟨cI,AN,h⟩:=h;replace h:=rk h;obtain⟨H',hT,h⟩:=h;have Mi:ah+len*j.size<=m:=by simpa[kC,add_eq,mul_eq]using aU
    intro w0 ρ w a p ct;obtain⟨b,sh,N,c,hb,k1,k2,k3,k4,k5,B⟩:=(ct.ev Z (G _ (by simp[D]))).rT;obtain⟨zv,L,T,_⟩:=ay.adR w;have U:zv.cells.size=j.size:=by have:=ay.len;rw[T]at this;simpa using this
    have W:(Builtin.zeroCells zv.cells len).toList.length=len*j.size:=by rw[rH,alV,U]
    have V:∀k,k<len*j.size->(Builtin.zeroCells zv.cells len).toList[k]?=zv.cells[k%j.size]?:=by
     intro k Q;have wL:0<j.size:=by rcases ze j.size with h|h;(rw[h]at Q;simp at Q);exact h
     have O:k%j.size<zv.cells.size:=by rw[U];exact H8 _ wL
     rw[pG];unfold Builtin.zeroCells;simp only[aeW,U];rw[aeY,aq Q];simp only[xy];rw[FZ zv.cells _ O,HO O]
    have yf:∀u∈(Builtin.zeroCells zv.cells len).toList,u.oneCell'=true:=by intro u QK;obtain⟨k,Q⟩:=sq QK;have O:=(cW.1 Q).1;rw[V k ω]at Q;exact aGX ay T u (by rw[<-pG]at Q;exact oS Q)
    obtain⟨w',g1,g2,g3⟩:=p.write (P:=P) (ah:=ah) (l:=(Builtin.zeroCells zv.cells len).toList.map J.lit) hb jB (by rw[bW,W];omega) (RI _) yf (λ k=>by
     rw[AN k,bW,W];by_cases Q:ah<=k/\k<ah+len*j.size
     .rw[aq Q,aq Q,y',V (k-ah) ω,T,y',pG]
     .rw[ao Q,ao Q]) hT
    refine⟨_,H',_,w',ρ,dk h,.inl (F a w w' (.tuple #[]) ?_),.lit _,g2,g3⟩;rw[B,C];rw[C]at g1;unfold Builtin.clear_;simp[I,cK,dR hu,L,g1]
   .cases h
 .intro w0 ρ w a p ct
  have B:=(ct.ev Z (G _ (by simp[D]))).fI;refine⟨_,H,_,w,ρ,dk h,.inl (F a w w (.tuple #[]) ?_),.lit _,p,cV.refl _ _⟩;rw[B];unfold Builtin.clear_;simp[I,dR hu]
 .intro w0 ρ w a p ct
  obtain⟨b,c,B⟩:=(ct.ev Z (G _ (by simp[D]))).EY;refine⟨_,H,_,w,ρ,dk h,.inl (F a w w (.tuple #[]) ?_),.lit _,p,cV.refl _ _⟩;rw[B];unfold Builtin.clear_;simp[I,dR hu]
 .cases h
def Ca(P:e8)(E:aK)(s:CX)(o:Oper)(H:D)(r:dS):Prop:=(∃f args,r=.call f args H/\∀ρ w a,Ctx E ρ s a o.op->∃h:Array aC,cA ρ args h.toList/\(execOp a.eval o).run P w=(callFunc f h).run P w)\/(∃l args,r=.round l args H/\∀ρ w a,Ctx E ρ s a o.op->∃(h:Array aC) (b sh N:Nat),ρ l=some (b,sh,N)/\cA ρ args h.toList/\(execOp a.eval o).run P w=(Instr.yield b h).run P w)
def an1{args:Array dy}(u:o.op=.call {callee:=.value f,args:=args,argTypes:=ts})(h:bw E s (.call {callee:=.value f,args:=args,argTypes:=ts}) H=.ok r):Ca P E s o H r:=by
 unfold bw at h
 dsimp only at h
 have⟨fv,D,h⟩:=gO h
 have⟨vs,B,h⟩:=BY h
 have p:f∈o.op.operands.toList:=by simp[u,Op.operands,Call.operands]
 have C:∀z∈args.toList,z∈o.op.operands.toList:=by intro z G;simp only[u,Op.operands,Call.operands,yY,b_];exact .inr G
 unfold rM at h
 split at h
 .rename_i g first captured
  split at h
  .rename_i n;rw[DX,DX]at h;cases h;refine .inl ⟨_,_,rfl,λ ρ w a ct=>?_⟩;obtain⟨l',m',O,U,A⟩:=(ct.ev D p).V6;have F:=ct.TY B C;refine⟨(l'++args.map a.eval)++m',?_,?_⟩
   .simp only[yY,Array.toList_map,FK];exact O.append (F.append U)
   .simp[execOp,u,resolve,A,Deferred.ofValue,invoke]
  .rename_i l;rw[DX]at h;cases h;refine .inr ⟨_,_,rfl,λ ρ w a ct=>?_⟩;obtain⟨b,sh,N,O,rfl,rfl,A⟩:=(ct.ev D p).awS;have F:=ct.TY B C;refine⟨args.map a.eval,b,sh,N,O,by simpa using F,?_⟩;simp[execOp,u,resolve,A,Deferred.ofValue,invoke]
  .cases h
 .cases h
def Ds(u:eW P E)(h:bw E s o.op H=.ok r):match kX o.op with|.pu=>Pu P E s o H r|.ro=>Ro P E s o H r|.al=>Al P E s o H r|.wr=>Wr P E s o H r\/Ca P E s o H r:=by
 cases p:o.op<;>rw[p]at h<;>first
  |exact ajW (.inl p) h|exact ajW (.inr p) h|exact aCz p h|exact aCq u p h|exact aCy p h|exact aCp u p h|exact aCB p h|exact aCr u p h|exact aCx p h|exact aCA u p h|exact aCu u p h|exact aCt u p h|exact aCw u p h|exact aCv u p h|exact aCs p h|exact aD1 u p h|exact aD2 u p h|exact amQ u p h|exact amR p h|exact amS u p h|exact amT u p h|exact amU u p h|exact .inl (aGR u p h)|exact .inl (alP u (.inl p) h)|exact .inl (alP u (.inr p) h)|(cases h;done)|skip
 rename_i c;obtain⟨callee,args,ts⟩:=c;cases callee with
 |value f=>exact .inr (an1 p h)|invoke x m=>cases h
 |builtin b=>
  cases b<;>first
   |exact ajV (.inl rfl) p h|exact ajV (.inr rfl) p h|exact aD0 u p h|exact .inl (aGL u p h)|exact .inl (aGO u p h)|exact .inl (aGN u p h)|exact .inl (aGM u p h)
   |(exfalso
     unfold bw at h
     dsimp only at h
     have⟨vs,C,h⟩:=BY h
     unfold rL at h
     rcases B:ts.toList with _|⟨t,_|⟨t',_|⟨A,D⟩⟩⟩<;>rw[B]at h<;>rcases vs with _|⟨x,_|⟨y,_|⟨z,l⟩⟩⟩<;>cases h)
end
variable{Y:aE}{H H':D}{ak:Array Oper}{aI4 bd:Code}{E:aK}{f:fD}{o:Oper}{ro:Option Nat}{ρ:bh}{s:CX}
abbrev Fw(ro:Option Nat):Fence:={Fence.wide with round:=ro}
def Oh(ρ:bh)(id:Nat)(d:Deferred):Prop:=∃b s N,ρ id=some (b,s,N)/\d={target:=.collected b,args:=#[]}
def Oh.mono(Z:Am ρ bM)(h:Oh ρ sh d):Oh bM sh d:=by have⟨b,s,N,O,U⟩:=h;exact⟨b,s,N,Z _ _ O,U⟩
structure FR(ρ:bh)(ro:Option Nat)(Y:aE)(a:Act):Prop where
 size:a.tmps.size=Y.size
 Bu:∀(t:Nat) av,Y.cD.get t=some av->∃v,a.tmps[t]?=some v/\Rl ρ av v
 marks:F2 (Oh ρ) Y.marks a.defers
 round:(Y.round=none/\ro=none)\/∃l b s N,Y.round=some l/\ρ l=some (b,s,N)/\ro=some b
def FR.mono{bM:bh}{a:Act}(h:FR ρ ro Y a)(Z:Am ρ bM):FR bM ro Y a:=⟨h.size,λ t av p=>let⟨v,x,y⟩:=h.Bu t av p;⟨v,x,y.mono Z⟩,h.marks.mono λ _ _ B=>B.mono Z,h.round.imp id λ ⟨l,b,s,N,O,U,F⟩=>⟨l,b,s,N,O,Z _ _ U,F⟩⟩
def FR.ctx(h:FR ρ ro Y a)(u:Gl E ρ)(o:Op):Ctx E ρ Y.cD a o:=⟨u,λ x _=>by cases x<;>first|trivial|exactλ v p=>h.Bu _ v p⟩
structure Ak(Y:aE)(d:Option Tmp)(v:J)(an:aE):Prop where
 size:an.size=Y.size
 marks:an.marks=Y.marks
 round:an.round=Y.round
 fn:an.fn=Y.fn
 lt:∀t,d=some t->t<Y.size
 get:∀j,an.cD.get j=if d=some j then some v else Y.cD.get j
def TH{d:Option Tmp}{k:aE->R β}(h:qt Y d x k=.ok q):∃an,Ak Y d x an/\k an=.ok q:=by
 unfold qt at h;cases d with
 |none=>exact⟨Y,⟨rfl,rfl,rfl,rfl,λ t e=>(by cases e),λ j=>ζ⟩,h⟩
 |some t=>
  have⟨s,n,m,r,f⟩:=Y
  dsimp only at h
  have⟨O,h⟩:=db h
  have⟨s',U,h⟩:=JU h
  refine⟨⟨s',n,m,r,f⟩,⟨rfl,rfl,rfl,rfl,λ t' e=>?_,λ j=>?_⟩,h⟩
  .cases e;rw[tK]at O;exact O
  .show s'.get j=_
   rw[U];by_cases e:j=t
   .subst e;simp
   .rw[ao e,ao (λ h=>e (FX h).symm)]
def put_defers(a:Act)(x:Option Tmp)(v:aC):(a.put x v).defers=a.defers:=by cases x<;>rfl
def adz(a:Act)(x:Option Tmp)(v:aC):(a.put x v).tmps.size=a.tmps.size:=by cases x<;>simp[Act.put]
def ady(a:Act)(x:Option Tmp)(v:aC)(t:Tmp):(a.put x v).tmps[t]?=if x=some t/\t<a.tmps.size then some v else a.tmps[t]?:=by
 cases x with
 |none=>simp[Act.put]
 |some d=>
  simp only[Act.put,HP]
  by_cases e:d=t
  .subst e
   by_cases h:d<a.tmps.size
   .simp[h]
   .simp[h]
  .rw[ao e,ao (by simp[e])]
def FR.put{an:aE}{a:Act}{d:Option Tmp}{v:J}{u:aC}(h:FR ρ ro Y a)(p:Ak Y d v an)(A:Rl ρ v u):FR ρ ro an (a.put d u):=by
 refine⟨by rw[adz,p.size];exact h.size,λ t av z=>?_,by rw[p.marks,put_defers];exact h.marks,by rw[p.round];exact h.round⟩;rw[p.get]at z;rw[ady];by_cases e:d=some t
 .rw[aq e]at z;cases z;rw[aq ⟨e,by rw[h.size];exact p.lt t e⟩];exact⟨u,rfl,A⟩
 .rw[ao e]at z;rw[ao (λ h=>e h.1)];exact h.Bu t av z
def V8(v:J)(b:Bool):Bool:=match v with|.lit (.bool c)=>c==b|_=>false
def rD(s:CX)(ak:List Oper)(g:Option (Nat×Bool))(b:Bool):Prop:=match g with|none=>b=true|some (j,h)=>∃o t v,ak[j]?=some o/\o.dst=some t/\s.get t=some v/\b=V8 v h
def alH{ak:List Oper}{no:Unit->R β}(h:BB Y ak g xd no=.ok q):(rD Y.cD ak g true/\xd ()=.ok q)\/(rD Y.cD ak g false/\no ()=.ok q):=by
 unfold BB at h
 cases g with
 |none=>exact .inl ⟨rfl,h⟩
 |some u=>
  obtain⟨j,p⟩:=u
  dsimp only at h
  have⟨o,A,h⟩:=Dr h
  cases hd:o.dst with
  |none=>rw[hd]at h;cases h
  |some t=>
   rw[hd]at h
   dsimp only at h
   have⟨v,z,h⟩:=oY h
   have key:∀b,b=V8 v p->rD Y.cD ak (some (j,p)) b:=λ b e=>⟨o,t,v,A,hd,z,e⟩
   split at h
   .rename_i c
    cases p<;>cases c
    .exact .inl ⟨key _ rfl,h⟩
    .exact .inr ⟨key _ rfl,h⟩
    .exact .inr ⟨key _ rfl,h⟩
    .exact .inl ⟨key _ rfl,h⟩
   .rename_i B
    refine .inr ⟨key _ ?_,h⟩;unfold V8;split
    .rename_i c;exact absurd rfl (B c)
    .rfl
def awW(u:aC)(b:Bool):Bool:=match u with|.bool c=>c==b|_=>false
def awX(h:Rl ρ x zv)(b:Bool):awW zv b=V8 x b:=by cases h<;>first|rfl|(cases zv<;>rfl)
def rD.rel{b:Bool}(h:rD s ak.toList o.guard b)(C:∀j p o' t,o.guard=some (j,p)->ak[j]?=some o'->o'.dst=some t->∀v,s.get t=some v->∃u,a.tmps[t]?=some u/\Rl ρ v u):Region.wanted o (yielded ak a.tmps)=b:=by
 unfold rD at h
 unfold Region.wanted
 cases z:o.guard with
 |none=>rw[z]at h;exact h.symm
 |some B=>
  obtain⟨j,p⟩:=B
  rw[z]at h
  obtain⟨o',t,v,O,U,F,J⟩:=h
  have A:ak[j]?=some o':=by simpa using O
  obtain⟨u,I,G⟩:=C j p o' t z A U v F
  have D:=awX G p
  rw[J,<-D]
  simp only[yielded,A,Option.bind_some,U,I]
  cases u<;>first|rfl|(rename_i c;cases c<;>cases p<;>rfl)
def Sn(P:e8)(E:aK)(w0:bI)(f:fD)(args:AU)(H:D)(v:J)(H':D):Prop:=
 ∀ρ w (h:Array aC),HR E w0 ρ H w->cA ρ args h.toList->(callFunc f h).run P w=.ok (.enter f h) w/\
  Calls P f h w λ e w'=>∃u bM,e=.returned u/\Rl bM v u/\HR E w0 bM H' w'/\cV ρ H bM H'
def aeJ(P:e8)(E:aK)(w0:bI)(l:Nat)(args:AU)(H:D)(v:J)(H':D):Prop:=
 ∀ρ w (h:Array aC) b s N,HR E w0 ρ H w->ρ l=some (b,s,N)->cA ρ args h.toList->∃f tmps aI4 bd,(Instr.yield b h).run P w=.ok (.round b f tmps aI4 bd) w/\
  ∀n,RoundIn Fence.wide n P b f tmps aI4 bd w λ e w'=>∃u bM,e=.returned u/\Rl bM v u/\HR E w0 bM H' w'/\cV ρ H bM H'
structure Aq(P:Program)(E:aK)(w0:World)(rc:mP):Prop where
 call:∀f args H v H',rc (.call f args) H=.ok (v,H')->Sn P E w0 f args H v H'
 round:∀l args H v H',rc (.round l args) H=.ok (v,H')->aeJ P E w0 l args H v H'
section
variable{P:e8}{E:aK}{rc:mP}{w0:bI}
def XL(E:aK)(rc:mP)(s:CX)(o:Oper)(H:D)(v:J)(H':D):Prop:=bw E s o.op H=.ok (.val v H')\/(∃f args H1,bw E s o.op H=.ok (.call f args H1)/\rc (.call f args) H1=.ok (v,H'))\/(∃l args H1,bw E s o.op H=.ok (.round l args H1)/\rc (.round l args) H1=.ok (v,H'))
def ajF{ak:List Oper}{k:aE->D->R β}(h:iZ E rc Y ak o H k=.ok q):(rD Y.cD ak o.guard true/\∃v H' an,XL E rc Y.cD o H v H'/\Ak Y o.dst v an/\k an H'=.ok q)\/(rD Y.cD ak o.guard false/\∃an,Ak Y o.dst pD an/\k an H=.ok q):=by
 unfold iZ at h
 rcases alH h with⟨hw,h⟩|⟨hw,h⟩
 .refine .inl ⟨hw,?_⟩
  split at h
  .cases h
  .rename_i r hr;split at h
   .have⟨an,u,h⟩:=TH h;exact⟨_,_,an,.inl hr,u,h⟩
   .split at h
    .rename_i p u;obtain⟨v,A⟩:=p;have⟨an,z,h⟩:=TH h;exact⟨v,A,an,.inr (.inl ⟨_,_,_,hr,u⟩),z,h⟩
    .cases h
   .split at h
    .rename_i p u;obtain⟨v,A⟩:=p;have⟨an,z,h⟩:=TH h;exact⟨v,A,an,.inr (.inr ⟨_,_,_,hr,u⟩),z,h⟩
    .cases h
 .have⟨an,u,h⟩:=TH h
  exact .inr ⟨hw,an,u,h⟩
def Rj(h:bw E s o.op H=.ok r):∀c,o.op≠.defer c:=by intro c p;rw[p]at h;cases h
def afX{args:Array aC}{R:Ending->bI->Prop}(h:Calls P f args w R):CallsIn (Fw ro) n P f args w R:=(callsIn_wide (n:=n)).2 h
def aD3{tmps:Array aC}{R:Ending->bI->Prop}(h:RoundIn Fence.wide n P b f tmps aI4 bd w R):RoundIn (Fw ro) n P b f tmps aI4 bd w R:=h
def afI(M:eW P E)(W:Aq P E w0 rc)(h:XL E rc s o H x H'){next:Act->bI->Prop}(n:Nat)(p:HR E w0 ρ H w)(z:Ctx E ρ s a o.op)(Q:∀bM u w',Rl bM x u->HR E w0 bM H' w'->cV ρ H bM H'->next (a.put o.dst u) w'):o.wpIn (Fw ro) n P a w next aj:=by
 have B:((Fw ro).depth.isSome=true->1<=n):=λ h=>by cases h
 have fin:∀r,bw E s o.op H=.ok r->(Fw ro).round=ro->o.uponIn (Fw ro) n P a next aj ((execOp a.eval o).run P w)->o.wpIn (Fw ro) n P a w next aj:=by intro r hr _ hu;refine⟨λ _ _=>trivial,?_⟩;rw[Oper.semAt_eq _ _ _ (Rj hr)];exact hu
 have wr:∀r,bw E s o.op H=.ok r->Wr P E s o H r->r=.val x H'->o.wpIn (Fw ro) n P a w next aj:=by
  intro r hr hw e;have⟨av,H2,u,w',bM,V,A,O,U,F⟩:=hw w0 ρ w a p z;rw[e]at V;cases V;refine fin r hr rfl ?_;rcases A with A|⟨A,rfl⟩
  .rw[A,Oper.uponIn_value];exact Q bM u w' O U F
  .rw[A,Oper.uponIn_skip];exact Q bM undef w' O U F
 rcases h with h|⟨f,args,H1,h,T⟩|⟨l,args,H1,h,T⟩
 .have:=Ds M h
  cases C:kX o.op<;>rw[C]at this
  .exact wr _ h this.ro.wr rfl
  .exact wr _ h this.wr rfl
  .exact wr _ h this.wr rfl
  .rcases this with this|this
   .exact wr _ h this rfl
   .rcases this with⟨_,_,e,_⟩|⟨_,_,e,_⟩<;>cases e
 .have:=Ds M h
  have ca:Ca P E s o H (.call f args H1):=by
   cases C:kX o.op<;>rw[C]at this
   .have⟨_,e,_⟩:=this;cases e
   .have⟨_,e,_⟩:=this;cases e
   .have⟨_,_,_,e,_⟩:=this;cases e
   .rcases this with this|this
    .have⟨_,_,_,_,_,e,_⟩:=this w0 ρ w a p z;cases e
    .exact this
  rcases ca with⟨_,_,e,D⟩|⟨_,_,e,_⟩
  .cases e;have⟨L,O,U⟩:=D ρ w a z;have⟨F,K⟩:=W.call _ _ _ _ _ T ρ w L p O;refine fin _ h rfl ?_;rw[U,F,Oper.uponIn_enter];refine⟨B,afX (K.mono ?_)⟩;rintro e w' ⟨u,bM,rfl,J,I,G⟩;exact Q bM u w' J I G
  .cases e
 .have:=Ds M h
  have ca:Ca P E s o H (.round l args H1):=by
   cases C:kX o.op<;>rw[C]at this
   .have⟨_,e,_⟩:=this;cases e
   .have⟨_,e,_⟩:=this;cases e
   .have⟨_,_,_,e,_⟩:=this;cases e
   .rcases this with this|this
    .have⟨_,_,_,_,_,e,_⟩:=this w0 ρ w a p z;cases e
    .exact this
  rcases ca with⟨_,_,e,_⟩|⟨_,_,e,D⟩
  .cases e
  .cases e;have⟨L,b,sh,N,X,O,U⟩:=D ρ w a z;have⟨f,tmps,aI4,bd,F,K⟩:=W.round _ _ _ _ _ T ρ w L b sh N p X O;refine fin _ h rfl ?_;rw[U,F,Oper.uponIn_round];refine⟨B,aD3 ((K (n-1)).mono ?_)⟩;rintro e w' ⟨u,bM,rfl,J,I,G⟩;exact Q bM u w' J I G
def FR.guard{a:Act}(h:FR ρ ro Y a){b:Bool}(hw:rD Y.cD ak.toList o.guard b):Region.wanted o (yielded ak a.tmps)=b:=hw.rel λ _ _ _ t _ _ _ v p=>h.Bu t v p
theorem WO(I:eW P E)(G:Aq P E w0 rc){β:Type}{ak:Array Oper}{k:aE->D->R β}{q:β}(n:Nat):∀{l:List Oper} {Y:aE} {H:D},nO E rc ak.toList l k Y H=.ok q->
 ∃an H',k an H'=.ok q/\an.fn=Y.fn/\∀(ρ:bh) (ro:Option Nat) (a:Act) (w:bI) (aj:Exit->Act->bI->Prop),HR E w0 ρ H w->FR ρ ro Y a->
  (∀bM a' w',FR bM ro an a'->HR E w0 bM H' w'->cV ρ H bM H'->aj .normal a' w')->wpListIn (Fw ro) n P ak aj l a w
 |[],Y,H,h=>⟨Y,H,h,rfl,λ ρ ro a w aj z p Q=>Q ρ a w p z (cV.refl _ _)⟩
 |o::l,Y,H,h=>by
  have M:iZ E rc Y ak.toList o H (nO E rc ak.toList l k)=.ok q:=h
  rcases ajF M with⟨hw,v,H1,W,L,A,O⟩|⟨hw,W,A,O⟩
  .have⟨an,H',U,F,C⟩:=WO I G n O
   refine⟨an,H',U,F.trans A.fn,λ ρ ro a w aj z p Q=>?_⟩;unfold wpListIn;rw[aq (p.guard hw)];refine afI I G L n z (p.ctx z.gl _) λ bM u w' V T J=>?_;exact C bM ro _ w' aj T ((p.mono J.ext).put A V) λ B X K f1 f2 f3=>Q B X K f1 f2 (J.trans f3)
  .have⟨an,H',U,F,C⟩:=WO I G n O
   refine⟨an,H',U,F.trans A.fn,λ ρ ro a w aj z p Q=>?_⟩;unfold wpListIn;rw[ao (by rw[p.guard hw];simp)];exact⟨λ _ _=>trivial,C ρ ro _ w aj z (p.put A (.lit _)) Q⟩
end
variable{i j:Nat}
def Oj(E:aK)(rc:mP)(ak:Array Oper)(o:Oper)(x y:aE×D):Prop:=(rD x.1.cD ak.toList o.guard true/\∃v,XL E rc x.1.cD o x.2 v y.2/\Ak x.1 o.dst v y.1)\/(rD x.1.cD ak.toList o.guard false/\Ak x.1 o.dst pD y.1/\y.2=x.2)
def XM(E:aK)(ak:Array Oper)(i:Nat)(y:aE×D):Prop:=∃o,ak[i]?=some o/\(rD y.1.cD ak.toList o.guard false\/(rD y.1.cD ak.toList o.guard true/\∃v H1,bw E y.1.cD o.op y.2=.ok (.val v H1)/\∀t,o.dst=some t->y.1.cD.get t=some v))
def Sy(E:aK)(rc:mP)(ak:Array Oper)(p:di)(x y:aE×D):Prop:=∃o,ak[p.i]?=some o/\Oj E rc ak o x y/\∀w re,p=.wr w re->∀i∈re,XM E ak i y
def Az(h:Nat.beq sh b=true):sh=b:=su.mp h
def jc{x y:Bool}(h:aB false x y=true):y=true/\x=true:=by cases y with|false=>cases h|true=>exact⟨rfl,h⟩
def anO{x:Bool}(h:aB (aB true false x) x y=true):y=x:=by cases x<;>cases y<;>first|rfl|cases h
def agm{b:J}(h:xO x b=true):x=b:=by
 unfold xO at h;split at h
 .split at h
  .rfl
  .have⟨O,U⟩:=jc h;rw[Az O,Az U]
  .rfl
  .rfl
  .rw[ZT h]
 .have⟨O,U⟩:=jc h;rw[Az O,Az U]
 .have⟨O,h⟩:=jc h;have⟨U,h⟩:=jc h;have⟨F,h⟩:=jc h;have⟨u,h⟩:=jc h;have⟨p,h⟩:=jc h;rw[Az O,Az U,Az F,Az u,Az p,anO h]
 .rfl
 .rw[Az h]
 .cases h
theorem ZQ:∀{a b:AU},TU a b=true->a=b
 |[],[],_=>rfl|[],_::_,h=>by cases h
 |_::_,[],h=>by cases h
 |x::a,y::b,h=>by
  have p:aB false (TU a b) (xO x y)=true:=h
  have⟨O,U⟩:=jc p
  rw[agm O,ZQ U]
def apC{b:J}(h:fy x b=true):x=b:=by
 unfold fy at h;split at h
 .rw[ZQ h]
 .rw[ZQ h]
 .exact agm h
section
variable{P:e8}{E:aK}{rc:mP}{w0:bI}{ak:Array Oper}
def amG(h:xq E Y ak.toList i H xd=.ok q):XM E ak i (Y,H)/\xd ()=.ok q:=by
 unfold xq at h;replace h:=Dr h;obtain⟨o,A,h⟩:=h;have p:ak[i]?=some o:=by simpa using A
 rcases alH h with⟨hw,h⟩|⟨hw,h⟩
 .split at h
  .rename_i v H1 z;cases hd:o.dst with
   |none=>rw[hd]at h;exact⟨⟨o,p,.inr ⟨hw,v,H1,z,λ t e=>by rw[hd]at e;cases e⟩⟩,h⟩
   |some t=>
    rw[hd]at h
    dsimp only at h
    replace h:=oY h;obtain⟨u,hu,h⟩:=h
    replace h:=db h;obtain⟨he,h⟩:=h
    have:=apC he
    subst this
    exact⟨⟨o,p,.inr ⟨hw,u,H1,z,λ t' e=>by rw[hd]at e;cases e;exact hu⟩⟩,h⟩
  .cases h
 .exact⟨⟨o,p,.inl hw⟩,h⟩
theorem aeU{β:Type}{Y:aE}{H:D}{k:Unit->R β}{q:β}:∀{l:AT},rG E Y ak.toList l H k=.ok q->(∀i∈l,XM E ak i (Y,H))/\k ()=.ok q
 |[],h=>⟨ζ,h⟩
 |i::l,h=>by
  have z:xq E Y ak.toList i H (λ _=>rG E Y ak.toList l H k)=.ok q:=h
  have⟨O,U⟩:=amG z
  have⟨F,u⟩:=aeU (l:=l) U
  exact⟨λ j p=>by rcases cZ.1 p with rfl|p;exact O;exact F j p,u⟩
def ajI{k:aE->D->R β}(h:iZ E rc Y ak.toList o H k=.ok q):∃y:aE×D,Oj E rc ak o (Y,H) y/\k y.1 y.2=.ok q:=by
 rcases ajF h with⟨hw,v,H',an,O,U,F⟩|⟨hw,an,O,U⟩
 .exact⟨(an,H'),.inl ⟨hw,v,O,U⟩,F⟩
 .exact⟨(an,H),.inr ⟨hw,O,rfl⟩,U⟩
theorem ajO{β:Type}{k:aE->D->R β}{q:β}:∀{pl:List di} {Y:aE} {H:D},m8 E rc ak.toList pl k Y H=.ok q->∃S:Nat->aE×D,S 0=(Y,H)/\k (S pl.length).1 (S pl.length).2=.ok q/\∀j p,pl[j]?=some p->Sy E rc ak p (S j) (S (j+1))
 |[],Y,H,h=>⟨λ _=>(Y,H),rfl,h,λ j p u=>by simp at u⟩
 |p::pl,Y,H,h=>by
  have key:∃y:aE×D,Sy E rc ak p (Y,H) y/\m8 E rc ak.toList pl k y.1 y.2=.ok q:=by
   cases p with
   |op i=>
    have B:mE ak.toList i (λ o=>iZ E rc Y ak.toList o H (m8 E rc ak.toList pl k)) (.er [127])=.ok q:=h
    have⟨o,z,O⟩:=Dr B
    have⟨y,U,F⟩:=ajI O
    exact⟨y,⟨o,by simpa[di.i]using z,U,λ w re e=>by cases e⟩,F⟩
   |wr i re=>
    have B:mE ak.toList i (λ o=>iZ E rc Y ak.toList o H λ an H'=>rG E an ak.toList re H' λ _=>m8 E rc ak.toList pl k an H') (.er [128])=.ok q:=h
    have⟨o,z,O⟩:=Dr B
    have⟨y,U,F⟩:=ajI O
    have⟨K,J⟩:=aeU F
    exact⟨y,⟨o,by simpa[di.i]using z,U,λ w C e=>by cases e;exact K⟩,J⟩
  have⟨y,G,O⟩:=key
  have⟨S,L,A,I⟩:=ajO (pl:=pl) O
  refine⟨λ j=>match j with|0=>(Y,H)|j+1=>S j,rfl,A,λ j p' u=>?_⟩
  cases j with
  |zero=>
   simp at u;subst u
   show Sy E rc ak p (Y,H) (S 0)
   rw[L];exact G
  |succ j=>exact I j p' (by simpa using u)
variable{pl:List di}{S:Nat->aE×D}
def JD{p:di}:p∈pl.take j↔∃u,u<j/\pl[u]?=some p:=by
 constructor
 .intro h;obtain⟨n,z⟩:=sq h;rw[rI]at z;split at z
  .exact⟨n,by assumption,z⟩
  .cases z
 .rintro⟨u,O,U⟩;exact oS (i:=u) (by rw[rI,aq O];exact U)
def rE.pos(A:rE ak pl){p:di}(h:pl[j]?=some p)(z:pl[b]?=some p')(e:p.i=p'.i):j=b:=by
 rcases Tc j b with u|B|u
 .exact absurd e ((A.pc b p' z).fresh p (JD.2 ⟨j,u,h⟩))
 .exact B
 .exact absurd e.symm ((A.pc j p h).fresh p' (JD.2 ⟨b,u,z⟩))
def rE.Y_(J:rE ak pl)(h:ch ak i m):∀{j:Nat} {p:di},pl[j]?=some p->p.i=i->∃u p',u<j/\pl[u]?=some p'/\p'.i=m:=by
 induction h with
 |bV D he G B=>
  intro j p C A
  have⟨q,z,I⟩:=(J.pc j p C).Rv _ (by rw[A];exact D) _ he G
  have⟨u,O,U⟩:=JD.1 z
  exact⟨u,q,O,U,I.trans B⟩
 |step D he G B _ M=>
  intro j p C A
  have⟨q,z,I⟩:=(J.pc j p C).Rv _ (by rw[A];exact D) _ he G
  have⟨u,O,U⟩:=JD.1 z
  have⟨L,K,F,T,Q⟩:=M U (I.trans B)
  exact⟨L,K,Nat.lt_trans F O,T,Q⟩
def Hv(ak:Array Oper)(bZ:Nat->Bool):Prop:=∀i o,ak[i]?=some o->bZ i=true->∀e∈o.after,Region.binds .any e=true->bZ e.on=true
def Hv.zl(h:Hv ak bZ)(C:ch ak i m):bZ i=true->bZ m=true:=by induction C with|bV p he u B=>intro A;rw[<-B];exact h _ _ p A _ he u|step p he u B _ z=>intro A;exact z (by rw[<-B];exact h _ _ p A _ he u)
def Hv.ready(h:Hv ak bZ)(z:ch ak i m)(A:ak[i]?=some o)(hr:∀e∈o.after,Region.binds .any e=true->bZ e.on=true):bZ m=true:=by cases z with|bV p he u B=>rw[A]at p;cases p;rw[<-B];exact hr _ he u|step p he u B z=>rw[A]at p;cases p;exact h.zl z (by rw[<-B];exact hr _ he u)
def BJ(E:aK)(rc:mP)(ak:Array Oper)(pl:List di)(S:Nat->aE×D):Prop:=∀j p,pl[j]?=some p->Sy E rc ak p (S j) (S (j+1))
def Oj.put{x y:aE×D}(h:Oj E rc ak o x y):∃v,Ak x.1 o.dst v y.1:=by
 rcases h with⟨_,v,_,h⟩|⟨_,h,_⟩
 .exact⟨v,h⟩
 .exact⟨_,h⟩
def adS(u:BJ E rc ak pl S):∀j,j<=pl.length->(S j).1.size=(S 0).1.size/\(S j).1.marks=(S 0).1.marks/\(S j).1.round=(S 0).1.round/\(S j).1.fn=(S 0).1.fn:=by
 intro j;induction j with
 |zero=>intro _;exact⟨rfl,rfl,rfl,rfl⟩
 |succ j p=>
  intro B
  have⟨O,U,F,z⟩:=p ω
  have⟨o,_,A,_⟩:=u j _ (bf ω)
  have⟨v,h⟩:=A.put
  exact⟨h.size.trans O,h.marks.trans U,h.round.trans F,h.fn.trans z⟩
def adW(C:BJ E rc ak pl S){t:Tmp}:∀u,j<=u->u<=pl.length->(∀l p o,j<=l->l<u->pl[l]?=some p->ak[p.i]?=some o->o.dst≠some t)->(S u).1.cD.get t=(S j).1.cD.get t:=by
 intro u;induction u with
 |zero=>intro h _ _;have:j=0:=ω
        rw[this]
 |succ u A=>
  intro O U F
  by_cases e:j=u+1
  .rw[e]
  .rw[<-A ω ω (λ l p o a b=>F l p o a ω)]
   have z:=bf (show u<pl.length by omega);have⟨o,B,G,_⟩:=C u _ z;have⟨v,D⟩:=G.put;rw[D.get,ao (F u _ o ω ω z B)]
def rE.written(z:rE ak pl)(u:BJ E rc ak pl S){t:Tmp}(h:pl[sh]?=some p')(B:p'.i=m)(A:ak[m]?=some om)(hd:om.dst=some t):(∀j,sh<j->j<=pl.length->(S j).1.cD.get t=(S (sh+1)).1.cD.get t)/\(∀j,j<=sh->(S j).1.cD.get t=(S 0).1.cD.get t):=by
 have C:sh<pl.length:=(cW.1 h).1
 have only:∀l p o,pl[l]?=some p->ak[p.i]?=some o->o.dst=some t->l=sh:=by intro l p o O U F;have:=z.ZJ _ _ _ _ _ U A F hd;exact z.pos O h (by rw[this,B])
 constructor
 .intro j O U
  refine adW u j ω U λ l p o a b c d e=>?_;have:=only l p o c d e;omega
 .intro j O
  refine adW u j ω ω λ l p o a b c d e=>?_;have:=only l p o c d e;omega
def alw(z:BJ E rc ak pl S){t:Tmp}(h:∀(m:Nat) (om:Oper),ak[m]?=some om->om.dst≠some t)(j:Nat)(u:j<=pl.length):(S j).1.cD.get t=(S 0).1.cD.get t:=adW z j ω u λ l p o _ _ _ d=>h _ _ d
def aAp(B:eW P E){x y:aE×D}(h:Oj E rc ak o x y)(z:kX o.op≠.wr):y.2=x.2\/∃ob,uO x.2 ob y.2:=by
 rcases h with⟨_,v,u,_⟩|⟨_,_,e⟩
 .rcases u with u|⟨f,args,H1,u,_⟩|⟨l,args,H1,u,_⟩
  .have:=Ds B u;cases p:kX o.op<;>rw[p]at this
   .have⟨av,e,_⟩:=this;exact .inl (dS.val.inj e).2
   .have⟨av,e,_⟩:=this;exact .inl (dS.val.inj e).2
   .have⟨av,ob,H',e,A,_⟩:=this;rw[(dS.val.inj e).2];exact .inr ⟨ob,A⟩
   .exact absurd p z
  .have:=Ds B u;cases p:kX o.op<;>rw[p]at this
   .have⟨av,e,_⟩:=this;cases e
   .have⟨av,e,_⟩:=this;cases e
   .have⟨av,ob,H',e,A,_⟩:=this;cases e
   .exact absurd p z
  .have:=Ds B u;cases p:kX o.op<;>rw[p]at this
   .have⟨av,e,_⟩:=this;cases e
   .have⟨av,e,_⟩:=this;cases e
   .have⟨av,ob,H',e,A,_⟩:=this;cases e
   .exact absurd p z
 .exact .inl e
structure uQ(H H':D):Prop where
 ab:H.ab<=H'.ab
 get:∀id,id<H.ab->H'.t.get id=H.t.get id
def uQ.refl(H:D):uQ H H:=⟨aF,λ _ _=>rfl⟩
theorem uQ.trans{H H1 H2:D}(h:uQ H H1)(U:uQ H1 H2):uQ H H2:=⟨aY h.ab U.ab,λ id p=>(U.get id (aT p h.ab)).trans (h.get id p)⟩
def uQ.azR(h:uO H o' H'):uQ H H':=⟨by rw[h.1];omega,λ id p=>by rw[h.2,ao (bC p)]⟩
def Ko(pl:List di)(j h:Nat):Prop:=∀l p,j<=l->l<h->pl[l]?=some p->p.sP=false
def F6(V:eW P E)(T:rE ak pl)(K:BJ E rc ak pl S):∀u,j<=u->u<=pl.length->Ko pl j u->uQ (S j).2 (S u).2/\∀ρ w,HR E w0 ρ (S j).2 w->HR E w0 ρ (S u).2 w:=by
 intro u;induction u with
 |zero=>intro h _ _;have:j=0:=ω
        subst this;exact⟨uQ.refl _,λ _ _ h=>h⟩
 |succ u J=>
  intro O U F
  by_cases e:j=u+1
  .subst e;exact⟨uQ.refl _,λ _ _ h=>h⟩
  .have⟨G,D⟩:=J ω ω (λ l p a b=>F l p a ω)
   have z:=bf (show u<pl.length by omega);have⟨o,B,M,_⟩:=K u _ z;have I:=F u _ ω ω z;have L:kX o.op≠.wr:=by cases A:pl[u]with|op i=>rw[A]at B z;exact(T.pc u _ z).cl i rfl o B|wr i re=>rw[A]at I;cases I
   rcases aAp V M L with Q|⟨ob,C⟩
   .rw[Q];exact⟨G,D⟩
   .exact⟨G.trans (.azR C),λ ρ w h=>(D ρ w h).Ye C⟩
theorem aby(pl:List di):∀(d m:Nat),m+d=pl.length->∃k,m<=k/\k<=pl.length/\Ko pl m k/\(k=pl.length\/∃p,pl[k]?=some p/\p.sP=true)
 |0,m,h=>⟨m,aF,ω,λ l p a b=>ω,.inl ω⟩
 |d+1,m,h=>by
  have B:m<pl.length:=ω
  cases hw:pl[m].sP with
  |true=>exact⟨m,aF,ω,λ l p a b=>ω,.inr ⟨_,bf B,hw⟩⟩
  |false=>
   have⟨k,O,U,F,u⟩:=aby pl d (m+1) ω
   refine⟨k,ω,U,λ l p a b c=>?_,u⟩
   by_cases e:l=m
   .subst e
    rw[bf B]at c;cases c;exact hw
   .exact F l p ω b c
end
variable{v:aC}
section
variable{P:e8}{E:aK}{rc:mP}{w0:bI}{ak:Array Oper}{pl:List di}{S:Nat->aE×D}
structure DI(E:aK)(w0:World)(ak:Array Oper)(pl:List di)(S:Nat->aE×D)(xe:bh)(a:Act)(cS:Array Bool)(k:Nat)(ρ:bh)(a':Act)(w':World):Prop where
 size:cS.size=ak.size
 closed:Hv ak (λ i=>cS.getD i false)
 Jw:k<=pl.length
 Hq:∀l p,l<k->pl[l]?=some p->p.sP=true->cS.getD p.i false=true
 Wc:k=pl.length\/∃p,pl[k]?=some p/\p.sP=true/\cS.getD p.i false=false
 sub:∀(l:Nat) (p:di),pl[l]?=some p->cS.getD p.i false=true->l<k
 hr:HR E w0 ρ (S k).2 w'
 wf:∀j,j<=k->∀id,(S j).2.ab<=id->(S j).2.t.get id=none
 later:cV xe (S 0).2 ρ (S k).2
 un:∀l p,l<k->pl[l]?=some p->cS.getD p.i false=false->∀id,(S l).2.ab<=id->id<(S (l+1)).2.ab->ρ id=none/\(S k).2.t.get id=(S (l+1)).2.t.get id
 mono:∀i j,i<=j->j<=k->(S i).2.ab<=(S j).2.ab
 XB:a'.tmps.size=a.tmps.size
 defers:a'.defers=a.defers
 done:∀(l:Nat) (p:di) (o:Oper) (t:Tmp),pl[l]?=some p->ak[p.i]?=some o->o.dst=some t->cS.getD p.i false=true->∀av,(S (l+1)).1.cD.get t=some av->∃v,a'.tmps[t]?=some v/\Rl ρ av v
 still:∀t:Tmp,(∀(i:Nat) (o:Oper),ak[i]?=some o->o.dst=some t->cS.getD i false=false)->∀av,(S 0).1.cD.get t=some av->∃v,a'.tmps[t]?=some v/\Rl ρ av v
def axN{t:Tmp}(h:Operand.tmp t∈o.op.operands.toList):t∈o.looksAt ak:=zb _ (YJ.2 ⟨.tmp t,h,rfl⟩)
def axL{t:Tmp}(h:o.guard=some (j,y))(O:ak[j]?=some om)(U:om.dst=some t):t∈o.looksAt ak:=S3 _ (by simp[h,O,U])
section
variable{xe ρ:bh}{a a':Act}{w':bI}{cS:Array Bool}{k:Nat}
def DI.Xo(F:rE ak pl)(G:BJ E rc ak pl S)(h:DI E w0 ak pl S xe a cS k ρ a' w')(L:ak[i]?=some o)(hr:∀e∈o.after,Region.binds .any e=true->cS.getD e.on false=true){t:Tmp}(I:b<=pl.length)(hw:∀(lm:Nat) (pm:di) (om:Oper),pl[lm]?=some pm->ak[pm.i]?=some om->om.dst=some t->(ch ak i pm.i/\lm<b)\/(cS.getD pm.i false=false/\b<=lm)):∀v,(S b).1.cD.get t=some v->∃u,a'.tmps[t]?=some u/\Rl ρ v u:=by
 intro v p
 by_cases hex:∃(m:Nat) (om:Oper),ak[m]?=some om/\om.dst=some t
 .have⟨m,om,B,hd⟩:=hex
  have⟨lm,pm,A,z⟩:=F.Xx m (tI.1 B).1;have⟨K,J⟩:=F.written G A z B hd;rcases hw lm pm om A (by rw[z];exact B) hd with⟨D,C⟩|⟨D,C⟩
  .have M:=h.closed.ready D L hr;rw[K b C I]at p;exact h.done lm pm om t A (by rw[z];exact B) hd M v p
  .rw[J b C]at p;refine h.still t (λ i' o' O U=>?_) v p;have:=F.ZJ _ _ _ _ _ O B U hd;rw[this,<-z];exact D
 .rw[alw G (λ m om O U=>hex ⟨m,om,O,U⟩) b I]at p
  exact h.still t (λ i' o' O U=>absurd ⟨i',o',O,U⟩ hex) v p
def DI.own(u:rE ak pl)(h:DI E w0 ak pl S xe a cS k ρ a' w'){l:Nat}{p:di}{o:Oper}(B:pl[l]?=some p)(J:ak[p.i]?=some o)(D:cS.getD p.i false=false){t:Tmp}(I:t∈o.looksAt ak):∀(lm:Nat) (pm:di) (om:Oper),pl[lm]?=some pm->ak[pm.i]?=some om->om.dst=some t->(ch ak p.i pm.i/\lm<l)\/(cS.getD pm.i false=false/\l<=lm):=by
 intro lm pm om A C hd
 rcases u.look p.i pm.i o om t J C hd I with e|z|z
 .have:=u.pos A B e
  exact .inr ⟨by rw[e];exact D,ω⟩
 .have⟨G,p',O,U,F⟩:=u.Y_ z B rfl
  have:=u.pos U A F;exact .inl ⟨z,ω⟩
 .have⟨G,p',O,U,F⟩:=u.Y_ z A rfl
  have:=u.pos U B F;refine .inr ⟨?_,ω⟩;cases K:cS.getD pm.i false with
  |false=>rfl
  |true=>
   have:=h.closed.zl z K
   rw[D]at this;cases this
theorem DI.cD(V:rE ak pl)(W:BJ E rc ak pl S)(h:DI E w0 ak pl S xe a cS k ρ a' w'){l:Nat}{p:di}(I:pl[l]?=some p)(D:ak[p.i]?=some o)(X:a.tmps.size=(S 0).1.size){av:J}(Q:Ak (S l).1 o.dst av (S (l+1)).1){z:bh}(Z:Am ρ z){u:aC}(hu:Rl z av u):(∀(l':Nat) (p':di) (o':Oper) (t:Tmp),pl[l']?=some p'->ak[p'.i]?=some o'->o'.dst=some t->(cS.setIfInBounds p.i true).getD p'.i false=true->∀av,(S (l'+1)).1.cD.get t=some av->∃v,(a'.put o.dst u).tmps[t]?=some v/\Rl z av v)/\(∀t:Tmp,(∀(i:Nat) (o:Oper),ak[i]?=some o->o.dst=some t->(cS.setIfInBounds p.i true).getD i false=false)->∀av,(S 0).1.cD.get t=some av->∃v,(a'.put o.dst u).tmps[t]?=some v/\Rl z av v):=by
 have A:p.i<cS.size:=by rw[h.size];exact(tI.1 D).1
 have G:∀j,(cS.setIfInBounds p.i true).getD j false=if j=p.i then true else cS.getD j false:=by
  intro j;by_cases e:j=p.i
  .subst e;simp[A]
  .rw[ao e];simp only[DU,HP];rw[ao (λ h=>e h.symm)]
 have sJ:l<pl.length:=(cW.1 I).1
 constructor
 .intro l' p' o' t C F hd M L B
  rw[ady];by_cases e:p'.i=p.i
  .have:=V.pos C I e;subst this;rw[I]at C;cases C;rw[D]at F;cases F;rw[Q.get,aq hd]at B;cases B;refine⟨u,by rw[aq ⟨hd,?_⟩],hu⟩;rw[h.XB,X,<-(adS W l' ω).1];exact Q.lt t hd
  .rw[G,ao e]at M;rw[ao (λ K=>e (V.ZJ _ _ _ _ _ F D hd K.1))];have⟨v,O,U⟩:=h.done l' p' o' t C F hd M L B;exact⟨v,O,U.mono Z⟩
 .intro t T L B
  rw[ady];rw[ao (λ K=>by have:=T p.i o D K.1;rw[G,aq rfl]at this;cases this)];have⟨v,O,U⟩:=h.still t (λ i o' O U=>by
   have:=T i o' O U;rw[G]at this;split at this
   .cases this
   .exact this) L B
  exact⟨v,O,U.mono Z⟩
def aoI(h:Hv ak (λ i=>cS.getD i false))(A:i<cS.size)(D:ak[i]?=some o)(hr:∀e∈o.after,Region.binds .any e=true->cS.getD e.on false=true):Hv ak (λ j=>(cS.setIfInBounds i true).getD j false)/\∀j,(cS.setIfInBounds i true).getD j false=if j=i then true else cS.getD j false:=by
 have z:∀j,(cS.setIfInBounds i true).getD j false=if j=i then true else cS.getD j false:=by
  intro j;by_cases e:j=i
  .subst e;simp[A]
  .rw[ao e];simp only[DU,HP];rw[ao (λ h=>e h.symm)]
 refine⟨λ j o' u p e he B=>?_,z⟩
 simp only[z]at p⊢
 split
 .rfl
 .by_cases C:j=i
  .subst C;rw[D]at u;cases u;exact hr e he B
  .rw[ao C]at p;exact h j o' u p e he B
def axt(pl:List di)(l:Nat):∀k,l<=k->Ko pl l k\/∃m p,l<=m/\m<k/\pl[m]?=some p/\p.sP=true/\Ko pl (m+1) k:=by
 intro k;induction k with
 |zero=>intro h;exact .inl λ l' p a b=>ω
 |succ k A=>
  intro h
  by_cases e:l=k+1
  .exact .inl λ l' p a b=>ω
  .have ext:∀m,Ko pl m k->(∀p,pl[k]?=some p->p.sP=false)->Ko pl m (k+1):=by
    intro m O U l' p a b c;by_cases e:l'=k
    .subst e;exact U p c
    .exact O l' p a ω c
   cases z:pl[k]? with
   |none=>
    have U:∀p,pl[k]?=some p->p.sP=false:=λ p u=>by rw[z]at u;cases u
    rcases A ω with O|⟨m,p,a,b,c,d,f⟩
    .exact .inl (ext l O U)
    .exact .inr ⟨m,p,a,ω,c,d,ext _ f U⟩
   |some p=>
    cases hw:p.sP with
    |true=>exact .inr ⟨k,p,ω,ω,z,hw,λ l' q a b=>ω⟩
    |false=>
     have U:∀q,pl[k]?=some q->q.sP=false:=λ q u=>by rw[z]at u;cases u;exact hw
     rcases A ω with O|⟨m,p,a,b,c,d,f⟩
     .exact .inl (ext l O U)
     .exact .inr ⟨m,p,a,ω,c,d,ext _ f U⟩
def uQ.keeps(h:uQ H H')(hw:∀id,H.ab<=id->H.t.get id=none):nU H H':=by
 intro id o p;have:id<H.ab:=by
  rcases kb id H.ab with O|O
  .exact O
  .rw[hw id O]at p;cases p
 rw[h.get id this];exact p
def XJ{a:Act}{next:Act->bI->Prop}(hd:∀c,o.op≠.defer c)(p:(execOp a.eval o).run P w=.ok (.value v) w'')(h:next (a.put o.dst v) w''):o.wpIn (Fw ro) n P a w next aj:=by
 refine⟨λ _ _=>trivial,?_⟩
 rw[Oper.semAt_eq _ _ _ hd,p,Oper.uponIn_value]
 exact h
def Zp(O:cS.getD i true=false):cS.getD i false=false:=by simp only[DU]at O⊢;cases h:cS[i]? with|none=>rw[h]at O;cases O|some b=>rw[h]at O;exact O
def DI.step(EO:eW P E)(RO:Aq P E w0 rc)(L:rE ak pl)(hS:BJ E rc ak pl S)(gu:a.tmps.size=(S 0).1.size)(h:DI E w0 ak pl S xe a cS k ρ a' w'){i:Nat}(A:i∈Region.ready .any ak cS)(n:Nat)(ro:Option Nat)(aj:Exit->Act->bI->Prop)(K:Act->bI->Prop)(hK:∀k2 z C X,DI E w0 ak pl S xe a (cS.setIfInBounds i true) k2 z C X->K C X):wpOpIn (Fw ro) n P ak aj i K a' w':=by
 obtain⟨sH,o,T,hr⟩:=mem_ready.1 A
 have az:i<ak.size:=(tI.1 T).1
 have vG:cS.getD i false=false:=Zp (by simpa using sH)
 obtain⟨l,p,D,iK⟩:=L.Xx i az
 subst iK
 have sJ:l<pl.length:=(cW.1 D).1
 obtain⟨ahw,je⟩:=aoI h.closed (by rw[h.size];exact az) T hr
 have Kp:=L.pc l p D
 have cN:l<=k:=by
  rcases kb k l with M|AW
  .exfalso;rcases h.Wc with e|⟨pk,hpk,hwk,cN⟩
   .omega
   .have:=Kp.Hq pk (JD.2 ⟨k,M,hpk⟩) hwk;have:=h.closed.ready this T hr;rw[cN]at this;cases this
  .exact AW
 obtain⟨o',eB,eH,qO⟩:=hS l p D
 rw[T]at eB;cases eB
 have ahA:∀{jj:Nat},jj<=pl.length->(∀t∈o.looksAt ak,∀(lm:Nat) (pm:di) (om:Oper),pl[lm]?=some pm->ak[pm.i]?=some om->om.dst=some t->(ch ak p.i pm.i/\lm<jj)\/(cS.getD pm.i false=false/\jj<=lm))->Ctx E ρ (S jj).1.cD a' o.op/\∀b,rD (S jj).1.cD ak.toList o.guard b->Region.wanted o (yielded ak a'.tmps)=b:=by
  intro jj GG hw
  refine⟨⟨h.hr.gl,λ x Z=>?_⟩,λ b hb=>hb.rel (ρ:=ρ) λ j wb o' t hg O U v hv=>?_⟩
  .cases x with
   |tmp t=>exactλ v hv=>h.Xo L hS T hr GG (hw t (axN Z)) v hv
   |_=>trivial
  .exact h.Xo L hS T hr GG (hw t (axL hg O U)) v hv
 obtain⟨hc,hw⟩:=ahA (jj:=l) ω (λ t ht=>h.own L D T vG ht)
 have NT:l<k->∀(z:bh) (X:bI) (av:J) (u:aC),Am ρ z->HR E w0 z (S k).2 X->(∀id,z id≠ρ id->(S l).2.ab<=id/\id<(S (l+1)).2.ab)->Ak (S l).1 o.dst av (S (l+1)).1->Rl z av u->K (a'.put o.dst u) X:=by
  intro M z X av u Z mY hd I hu;obtain⟨d1,d2⟩:=h.cD L hS D T gu I Z hu;refine hK k z _ X ⟨by simp[h.size],ahw,h.Jw,?_,?_,?_,mY,h.wf,?_,?_,h.mono,by rw[adz,h.XB],by rw[put_defers,h.defers],d1,d2⟩
  .intro l' p' W C a3;rw[je];split
   .rfl
   .exact h.Hq l' p' W C a3
  .rcases h.Wc with e|⟨pk,O,U,F⟩
   .exact .inl e
   .refine .inr ⟨pk,O,U,?_⟩;rw[je,ao (λ e=>by have:=L.pos O D e;omega)];exact F
  .intro l' p' W C;rw[je]at C;split at C
   .rename_i e;have:=L.pos W D e;omega
   .exact h.sub l' p' W C
  .refine⟨λ id q hq=>Z _ _ (h.later.ext id q hq),λ id bD hn=>?_,h.later.ab⟩;obtain⟨G,V⟩:=h.later.A9 id bD hn;refine⟨?_,V⟩;by_cases e:z id=ρ id
   .rw[e];exact G
   .have:=(hd id e).1;have:=h.mono 0 l (dQ _) cN;omega
  .intro l' p' W C a3 id b1 b2;rw[je]at a3;split at a3
   .cases a3
   .rename_i e;obtain⟨G,V⟩:=h.un l' p' W C a3 id b1 b2;refine⟨?_,V⟩;by_cases e2:z id=ρ id
    .rw[e2];exact G
    .exfalso;obtain⟨c1,c2⟩:=hd id e2;have cR:l'≠l:=by rintro rfl;rw[C]at D;cases D;exact e rfl
     rcases kb l' l with wJ|aHM
     .have:=h.mono (l'+1) l wJ cN;omega
     .have:=h.mono (l+1) l' ω ω;omega
 unfold wpOpIn
 simp only[T]
 by_cases avp:l=k
 .
  subst avp
  have hpw:p.sP=true:=by
   rcases h.Wc with e|⟨pk,O,U,_⟩
   .omega
   .rw[D]at O;cases O;exact U
  have next:∀(z:bh) (X:bI) (av:J) (u:aC),HR E w0 z (S (l+1)).2 X->cV ρ (S l).2 z (S (l+1)).2->Ak (S l).1 o.dst av (S (l+1)).1->Rl z av u->K (a'.put o.dst u) X:=by
   intro z X av u mY M I hu;obtain⟨d1,d2⟩:=h.cD L hS D T gu I M.ext hu;obtain⟨k2,e1,e2,e3,e4⟩:=aby pl (pl.length-(l+1)) (l+1) ω;have AA:∀j,l+1<=j->j<=k2->uQ (S (l+1)).2 (S j).2/\∀ρ w,HR E w0 ρ (S (l+1)).2 w->HR E w0 ρ (S j).2 w:=λ j G V=>F6 EO L hS j G ω λ l' p W C=>e3 l' p W ω;have hgr:=(AA k2 e1 aF).1;have avC:∀i j,i<=j->j<=k2->(S i).2.ab<=(S j).2.ab:=by
    intro i j dK hj;rcases kb l i with G|G
    .have gi:=(AA i G ω).1;exact(F6 (w0:=w0) EO L hS (j:=i) j dK ω λ l' p W C=>e3 l' p ω ω).1.ab
    .rcases kb l j with V|V
     .exact aY (h.mono i l G aF) (aY M.ab (AA j V hj).1.ab)
     .exact h.mono i j dK V
   refine hK k2 z _ X ⟨by simp[h.size],ahw,e2,?_,?_,?_,(AA k2 e1 aF).2 _ _ mY,?_,?_,?_,avC,by rw[adz,h.XB],by rw[put_defers,h.defers],d1,d2⟩
   .intro l' p' W C a3;rw[je];split
    .rfl
    .rcases Tc l' l with g|g|g
     .exact h.Hq l' p' g C a3
     .subst g;rw[D]at C;cases C;rename_i e;exact absurd rfl e
     .have:=e3 l' p' ω W C;rw[a3]at this;cases this
   .rcases e4 with e4|⟨pk,O,U⟩
    .exact .inl e4
    .refine .inr ⟨pk,O,U,?_⟩;rw[je,ao (λ e=>by have:=L.pos O D e;omega)];cases B:cS.getD pk.i false with|false=>rfl|true=>have:=h.sub k2 pk O B;omega
   .intro l' p' W C;rw[je]at C;split at C
    .rename_i e;have:=L.pos W D e;omega
    .have:=h.sub l' p' W C;omega
   .intro j hj id bD;rcases kb l j with G|G
    .exact((AA j G hj).2 _ _ mY).Y id bD
    .exact h.wf j G id bD
   .refine(h.later.trans M).trans ⟨λ _ _ B=>B,λ id bD hn=>⟨hn,hgr.get id bD⟩,hgr.ab⟩
   .intro l' p' W C a3 id b1 b2;rw[je]at a3;split at a3
    .cases a3
    .rename_i e;have cR:l'≠l:=by rintro rfl;rw[C]at D;cases D;exact e rfl
     rcases kb l' l with g|g
     .obtain⟨G,V⟩:=h.un l' p' g C a3 id b1 b2;have bD:id<(S l).2.ab:=aT b2 (h.mono (l'+1) l g aF);obtain⟨g3,g4⟩:=M.A9 id bD G;exact⟨g3,(hgr.get id (aT bD M.ab)).trans (g4.trans V)⟩
     .refine⟨?_,?_⟩
      .cases hq:z id with
       |none=>rfl
       |some q=>
        have:=mY.lt id q hq
        have:=(AA l' ω ω).1.ab
        omega
      .exact(F6 (w0:=w0) EO L hS (j:=l'+1) k2 ω e2 λ l2 p2 c1 c2=>e3 l2 p2 ω c2).1.get id b2
  rcases eH with⟨GQ,v,hs,I⟩|⟨GQ,I,e⟩
  .rw[aq (hw _ GQ)]
   exact afI EO RO hs n h.hr hc λ z u X G V g3=>next z X v u V g3 I G
  .rw[ao (by rw[hw _ GQ];simp)]
   refine⟨λ _ _=>trivial,next ρ w' pD undef ?_ ?_ I (.lit _)⟩
   .rw[e];exact h.hr
   .rw[e];exact cV.refl _ _
 .
  have M:l<k:=ω
  have GJ:p.sP=false:=by cases B:p.sP with|false=>rfl|true=>have:=h.Hq l p M D B;rw[vG]at this;cases this
  have Ek:kX o.op≠.wr:=by cases A2:p with|op i=>exact Kp.cl i A2 o (by rw[A2]at T;exact T)|wr i re=>rw[A2]at GJ;cases GJ
  rcases eH with⟨GQ,v,hs,I⟩|⟨GQ,I,e⟩
  .rw[aq (hw _ GQ)]
   have yp:bw E (S l).1.cD o.op (S l).2=.ok (.val v (S (l+1)).2):=by
    rcases hs with hs|⟨f,args,H1,hs,_⟩|⟨f,args,H1,hs,_⟩
    .exact hs
    .have:=Ds EO hs;cases eN:kX o.op<;>rw[eN]at this
     .obtain⟨_,e,_⟩:=this;cases e
     .obtain⟨_,e,_⟩:=this;cases e
     .obtain⟨_,_,_,e,_⟩:=this;cases e
     .exact absurd eN Ek
    .have:=Ds EO hs;cases eN:kX o.op<;>rw[eN]at this
     .obtain⟨_,e,_⟩:=this;cases e
     .obtain⟨_,e,_⟩:=this;cases e
     .obtain⟨_,_,_,e,_⟩:=this;cases e
     .exact absurd eN Ek
   have eN:=Ds EO yp;cases bX:kX o.op<;>rw[bX]at eN
   .
    obtain⟨av,e,fl⟩:=eN
    obtain⟨rfl,_⟩:=dS.val.inj e
    obtain⟨u,O,U⟩:=fl ρ a' w' hc
    exact XJ (Rj yp) O (NT M ρ w' v u (λ _ _ B=>B) h.hr (λ id B=>absurd rfl B) I U)
   .
    rcases axt pl l k cN with mB|⟨m,pm,m1,m2,m3,m4,m5⟩
    .obtain⟨av,e,fl⟩:=eN
     obtain⟨rfl,_⟩:=dS.val.inj e;have Q:=(F6 (w0:=w0) EO L hS k cN h.Jw mB).1.keeps (h.wf l cN);obtain⟨u,O,U⟩:=fl w0 ρ _ w' a' Q h.hr hc;exact XJ (Rj yp) O (NT M ρ w' v u (λ _ _ B=>B) h.hr (λ id B=>absurd rfl B) I U)
    .have Mk:l<m:=by
      rcases kb l m with g|g
      .exact g
      .have:l=m:=ω
       subst this;rw[D]at m3;cases m3;rw[m4]at GJ;cases GJ
     obtain⟨om,hom,_,auk⟩:=hS m pm m3;cases nJ:pm with
     |op j=>rw[nJ]at m4;cases m4
     |wr wi re=>
      have PCm:=L.pc m pm m3
      have Jg:p.i∈re:=by
       rcases PCm.rd wi re nJ p (JD.2 ⟨l,Mk,D⟩) o T bX with g|g
       .exact g
       .exfalso;have ck:=h.Hq m pm m2 m3 m4;have yu:pm.i=wi:=by rw[nJ];rfl
        rw[yu]at ck;have:=h.closed.zl g ck;rw[vG]at this;cases this
      obtain⟨o2,mV,L2⟩:=auk wi re nJ p.i Jg
      rw[T]at mV;cases mV
      have EB:m+1<=pl.length:=by have:=h.Jw;omega
      obtain⟨k8,EW⟩:=ahA (jj:=m+1) EB (λ t ht lm pm2 om2 q1 q2 q3=>by have ha:=PCm.aDZ wi re nJ p.i Jg o pm2.i om2 t T q2 q3 ht;obtain⟨j',p',G,V,g3⟩:=L.Y_ ha D rfl;have:=L.pos V q1 g3;exact .inl ⟨ha,ω⟩)
      have aiB:=hw _ GQ
      rcases L2 with mB|⟨_,v2,H1,Mr,auM⟩
      .rw[EW _ mB]at aiB;cases aiB
      .have ahx:=Ds EO Mr
       rw[bX]at ahx;obtain⟨av2,e2,awc⟩:=ahx;obtain⟨rfl,_⟩:=dS.val.inj e2;have Q:=(F6 (w0:=w0) EO L hS (j:=m+1) k ω h.Jw m5).1.keeps (h.wf (m+1) ω);obtain⟨u,O,U⟩:=awc w0 ρ _ w' a' Q h.hr k8;refine XJ (Rj yp) O ?_;cases hd:o.dst with
       |none=>
        rw[hd]at I
        have av0:Ak (S l).1 o.dst v2 (S (l+1)).1:=by rw[hd];exact⟨I.size,I.marks,I.round,I.fn,I.lt,λ j=>by rw[I.get];simp⟩
        have:=NT M ρ w' v2 u (λ _ _ B=>B) h.hr (λ id B=>absurd rfl B) av0 U
        rw[hd]at this;exact this
       |some t=>
        have e3:=auM t hd
        have e4:=(L.written hS D rfl T hd).1 (m+1) ω EB
        rw[e3,I.get,aq hd]at e4
        obtain rfl:=(FX e4)
        have:=NT M ρ w' v2 u (λ _ _ B=>B) h.hr (λ id B=>absurd rfl B) I U
        rw[hd]at this;exact this
   .
    obtain⟨av,ob,H',e,hA,jC,fl⟩:=eN
    obtain⟨rfl,hH⟩:=dS.val.inj e
    rw[<-hH]at hA
    have rQ:(S (l+1)).2.ab=(S l).2.ab+1:=hA.1
    obtain⟨G,V⟩:=h.un l p M D vG (S l).2.ab aF ω
    obtain⟨x,N,u,O,U,F⟩:=fl ρ a' w' hc G
    have auT:(S k).2.t.get (S l).2.ab=some ob:=by rw[V,hA.2,aq rfl]
    have au0:(S l).2.ab<(S k).2.ab:=by have:=h.mono (l+1) k ω aF;omega
    have mY:=h.hr.named au0 G auT U h.hr.ia.size
    refine XJ (Rj yp) O (NT M _ _ v u (bh.sk G) mY (λ id B=>?_) I F)
    unfold bh.add at B
    split at B
    .rename_i e;omega
    .exact absurd rfl B
   .exact absurd bX Ek
  .rw[ao (by rw[hw _ GQ];simp)]
   exact⟨λ _ _=>trivial,NT M ρ w' pD undef (λ _ _ B=>B) h.hr (λ id B=>absurd rfl B) I (.lit _)⟩
end
end
section
variable{P:e8}{E:aK}{rc:mP}{w0:bI}{ak:Array Oper}{pl:List di}{S:Nat->aE×D}
section
variable{xe ρ:bh}{a a':Act}{w':bI}{cS:Array Bool}{k:Nat}{ro:Option Nat}
def aDL(C:rE ak pl)(F:cS.size=ak.size)(hr:Region.ready .any ak cS=[]):∀i,i<ak.size->cS.getD i false=true:=by
 have key:∀(l:Nat) (p:di),pl[l]?=some p->cS.getD p.i false=true:=by
  intro l;induction l using Nat.strongRecOn with
  |_ l D=>
   intro p h
   have u:=C.pc l p h
   cases I:cS.getD p.i false with
   |true=>rfl
   |false=>
    exfalso
    have K:=u.lt
    have z:ak[p.i]?=some ak[p.i]:=HO K
    have B:p.i∈Region.ready .any ak cS:=by
     refine mem_ready.2 ⟨?_,_,z,λ e he J=>?_⟩
     .have:p.i<cS.size:=by rw[F];exact u.lt
      simpa[this]using I
     .have⟨q,G,L⟩:=u.Rv _ z e he J;have⟨l',O,U⟩:=JD.1 G;rw[<-L];exact D l' O q U
    rw[hr]at B;cases B
 intro i A;obtain⟨l,p,h,rfl⟩:=C.Xx i A;exact key l p h
def DI.finish(I:rE ak pl)(G:BJ E rc ak pl S)(D:FR xe ro (S 0).1 a)(h:DI E w0 ak pl S xe a cS k ρ a' w')(J:∀i,i<ak.size->cS.getD i false=true):k=pl.length/\FR ρ ro (S k).1 a':=by
 have Q:k=pl.length:=by
  rcases h.Wc with e|⟨p,O,_,F⟩
  .exact e
  .rw[J p.i (I.pc k p O).lt]at F;cases F
 refine⟨Q,?_⟩
 have⟨s1,s2,s3,_⟩:=adS G k h.Jw
 refine⟨by rw[h.XB,D.size,s1],λ t av z=>?_,?_,?_⟩
 .by_cases hex:∃(m:Nat) (om:Oper),ak[m]?=some om/\om.dst=some t
  .have⟨m,om,B,hd⟩:=hex;have u:=(tI.1 B).1;have⟨lm,pm,A,C⟩:=I.Xx m u;have K:=(cW.1 A).1;rw[(I.written G A C B hd).1 k ω h.Jw]at z;exact h.done lm pm om t A (by rw[C];exact B) hd (by rw[C];exact J m u) av z
  .rw[alw G (λ m om O U=>hex ⟨m,om,O,U⟩) k h.Jw]at z;exact h.still t (λ i o O U=>absurd ⟨i,o,O,U⟩ hex) av z
 .rw[s2,h.defers]
  exact D.marks.mono λ _ _ B=>B.mono h.later.ext
 .rw[s3]
  exact D.round.imp id λ ⟨l,b,s,N,O,U,F⟩=>⟨l,b,s,N,O,h.later.ext _ _ U,F⟩
def aGJ(EO:eW P E)(RO:Aq P E w0 rc)(G:rE ak pl)(K:BJ E rc ak pl S)(u:FR xe ro (S 0).1 a)(n:Nat)(aj:Exit->Act->bI->Prop)(Z:∀ρ a' w',FR ρ ro (S pl.length).1 a'->HR E w0 ρ (S pl.length).2 w'->cV xe (S 0).2 ρ (S pl.length).2->aj .normal a' w'):
 ∀(fuel:Nat) (cS:Array Bool) (k:Nat) (ρ:bh) (a':Act) (w':bI),DI E w0 ak pl S xe a cS k ρ a' w'->(∀i,fuel=0->i<ak.size->cS.getD i false=true)->
  ak.size-cS.toList.countP (·==true)<=fuel->wpAnyIn (Fw ro) n P .any ak aj fuel cS a' w':=by
 have M:∀cS k ρ a' w',DI E w0 ak pl S xe a cS k ρ a' w'->(∀i,i<ak.size->cS.getD i false=true)->aj .normal a' w':=by intro cS k ρ a' w' h p;have⟨Q,Qq⟩:=h.finish G K u p;subst Q;exact Z ρ a' w' Qq h.hr h.later
 intro fuel
 induction fuel with
 |zero=>
  intro cS k ρ a' w' h W _
  have p:=λ i A=>W i rfl A
  refine⟨?_,M _ _ _ _ _ h p⟩
  cases hr:Region.ready .any ak cS with
  |nil=>rfl
  |cons i r=>
   have B:i∈Region.ready .any ak cS:=by rw[hr];simp
   have⟨O,o,z,_⟩:=mem_ready.1 B
   have A:=(tI.1 z).1
   have:=p i A
   rw[Zp (by simpa using O)]at this;cases this
 |succ fuel V=>
  intro cS k ρ a' w' h _ auD
  refine⟨λ hr=>M _ _ _ _ _ h (aDL G h.size hr),λ i B=>?_⟩
  have⟨O,o,z,hr⟩:=mem_ready.1 B
  have A:=(tI.1 z).1
  have D:i<cS.size:=by rw[h.size];exact A
  have I:cS.getD i false=false:=Zp (by simpa using O)
  have F:ak.size-(cS.setIfInBounds i true).toList.countP (·==true)<=fuel:=by
   have C:cS.toList[i]'(by simpa using D)=false:=by simp[D]at I;simpa using I
   have:(cS.setIfInBounds i true).toList.countP (·==true)=cS.toList.countP (·==true)+1:=by rw[Array.toList_setIfInBounds];rw[List.countP_set (by simpa using D),C];simp
   omega
  have MN:∀j,fuel=0->j<ak.size->(cS.setIfInBounds i true).getD j false=true:=by
   intro j u X;subst u;have aU:(cS.setIfInBounds i true).toList.length<=(cS.setIfInBounds i true).toList.countP (·==true):=by simp only[rH,Array.size_setIfInBounds,h.size];omega
   have p:=List.countP_eq_length.1 (Nat.le_antisymm List.countP_le_length aU);have J:j<(cS.setIfInBounds i true).toList.length:=by simp[h.size,X]
   have:=p _ (cG J);simp only[zk]at this;have L:j<(cS.setIfInBounds i true).size:=by simpa using J
   rw[DU,HO L];simpa using(Array.getElem_toList L).symm.trans this
  exact h.step EO RO G K u.size B n ro aj _ λ k2 T a2 w2 U=>V _ _ _ _ _ U MN F
end
def aDM(C:eW P E)(RO:Aq P E w0 rc)(J:rE ak pl){k:aE->D->R β}(h:m8 E rc ak.toList pl k Y H=.ok q):
 ∃an H',k an H'=.ok q/\an.fn=Y.fn/\∀(n id:Nat) (ρ:bh) (ro:Option Nat) (a:Act) (w:bI) (aj:Exit->Act->bI->Prop),HR E w0 ρ H w->FR ρ ro Y a->
  (∀bM a' w',FR bM ro an a'->HR E w0 bM H' w'->cV ρ H bM H'->aj .normal a' w')->(Code.region id ak true).wpIn (Fw ro) n P aj a w:=by
 have⟨S,IW,W,u⟩:=ajO h
 have Qq:=(adS u pl.length aF).2.2.2
 refine⟨(S pl.length).1,(S pl.length).2,W,by rw[Qq,IW],λ n id ρ ro a w aj V hf Q=>?_⟩
 have⟨k0,_,e2,G,X⟩:=aby pl pl.length 0 ω
 have z:(S 0).2=H:=by rw[IW]
 have B:(S 0).1=Y:=by rw[IW]
 have hd:HR E w0 ρ (S 0).2 {w with drawn:=w.drawn+1}:=by rw[z];exact V.drew rfl rfl rfl rfl
 have L:∀j,j<=k0->uQ (S 0).2 (S j).2/\∀ρ w,HR E w0 ρ (S 0).2 w->HR E w0 ρ (S j).2 w:=λ j T=>F6 (w0:=w0) C J u j (dQ _) ω λ l p I a2=>G l p I ω
 have K:∀i,(Array.replicate ak.size false).getD i false=false:=by intro i;rw[DU,Array.getElem?_replicate];split<;>rfl
 refine wpIn_region_any C.mixed (aGJ C RO J u (by rw[B];exact hf) n aj ?_ ak.size _ k0 ρ a _ ⟨ζ,?_,e2,?_,?_,?_,(L k0 aF).2 _ _ hd,?_,?_,?_,?_,rfl,rfl,?_,?_⟩ ?_ ω)
 .intro bM a' w' O U F
  rw[z]at F;exact Q bM a' w' O U F
 .intro i o _ A
  simp only[K]at A;cases A
 .intro l p I a2 a3
  have:=G l p (dQ _) I a2;rw[a3]at this;cases this
 .rcases X with X|⟨p,O,U⟩
  .exact .inl X
  .exact .inr ⟨p,O,U,K _⟩
 .intro l p _ U
  rw[K]at U;cases U
 .intro j T id Z
  exact((L j T).2 _ _ hd).Y id Z
 .have g:=(L k0 aF).1
  exact⟨λ _ _ V=>V,λ id Z hn=>⟨hn,g.get id Z⟩,g.ab⟩
 .intro l p I a2 a3 id b1 b2
  refine⟨?_,?_⟩
  .cases hq:ρ id with
   |none=>rfl
   |some q=>
    have:=hd.lt id q hq
    have:=(L l ω).1.ab
    omega
  .exact(F6 (w0:=w0) C J u (j:=l+1) k0 ω e2 λ l2 M c1 c2=>G l2 M ω c2).1.get id b2
 .intro i j dK T
  exact(F6 (w0:=w0) C J u (j:=i) j dK ω λ l2 M c1 c2=>G l2 M ω ω).1.ab
 .intro l p o t _ _ _ h4
  rw[K]at h4;cases h4
 .intro t _ av eM
  rw[B]at eM;exact hf.Bu t av eM
 .intro i hz A;omega
end
def aey:dE->Exit->Prop
 |.normal,.normal=>True|.exit i,.exit j=>i=j|.ret,.ret=>True|_,_=>False
section
variable{P:e8}{E:aK}{rc:mP}{w0:bI}
def tF(P:e8)(E:aK)(w0:bI)(run:aE->D->St)(c:Code):Prop:=
 ∀Y H ex an H',run Y H=.ok (ex,an,H')->qG E Y.fn c->an.fn=Y.fn/\∀(n:Nat) (ρ:bh) (ro:Option Nat) (a:Act) (w:bI) (aj:Exit->Act->bI->Prop),HR E w0 ρ H w->FR ρ ro Y a->
  (∀e bM a' w',aey ex e->FR bM ro an a'->HR E w0 bM H' w'->cV ρ H bM H'->aj e a' w')->c.wpIn (Fw ro) n P aj a w
def aEI{x y:aE->D->St}{a b:Code}(O:tF P E w0 x a)(U:tF P E w0 y b):tF P E w0 (Hl x y) (.seq a b):=by
 intro Y H ex an H' h K;unfold Hl at h;cases Z:x Y H with
 |er l=>rw[Z]at h;cases h
 |ok r=>
  rw[Z]at h
  have⟨T,dT,H1⟩:=r
  have⟨f1,s1⟩:=O _ _ _ _ _ Z K.1
  cases T with
  |normal=>
   have⟨f2,s2⟩:=U _ _ _ _ _ h (by rw[f1];exact K.2)
   refine⟨f2.trans f1,λ n ρ ro a w aj A B Q=>wpIn_seq (s1 n ρ ro a w _ A B λ e C G p he z u F=>?_)⟩
   cases e<;>first|(cases he;done)|skip
   exact s2 n C ro G p aj u z λ e I W M J X L V=>Q e I W M J X L (F.trans V)
  |exit id=>
   cases h
   refine⟨f1,λ n ρ ro a w aj A B Q=>wpIn_seq (s1 n ρ ro a w _ A B λ e C G p he z u F=>?_)⟩
   cases e<;>first|(cases he;done)|exact Q _ C G p he z u F
  |ret=>
   cases h
   refine⟨f1,λ n ρ ro a w aj A B Q=>wpIn_seq (s1 n ρ ro a w _ A B λ e C G p he z u F=>?_)⟩
   cases e<;>first|(cases he;done)|exact Q _ C G p he z u F
def aEC{x y:aE->D->St}{a b:Code}(O:tF P E w0 x a)(U:tF P E w0 y b):tF P E w0 (It E c x y) (.cond c a b):=by
 intro Y H ex an H' h B;unfold It at h;have⟨v,z,h⟩:=gO h;split at h
 .rename_i t;have A:∀{ρ:bh} {ro:Option Nat} {ac:Act} {w:bI},HR E w0 ρ H w->FR ρ ro Y ac->ac.eval c=.bool t:=λ {ρ ro ac w} p u=>by
   have:Oo ρ Y.cD ac c:=by cases c<;>first|trivial|exactλ v z=>u.Bu _ v z
   exact(z.adH p.gl this).fI
  cases t with
  |true=>
   obtain⟨f1,s1⟩:=O _ _ _ _ _ h B.1
   exact⟨f1,λ n ρ ro ac w aj p u Q=>wpIn_cond_true (A p u) (s1 n ρ ro ac w aj p u Q)⟩
  |false=>
   obtain⟨f1,s1⟩:=U _ _ _ _ _ h B.2
   exact⟨f1,λ n ρ ro ac w aj p u Q=>wpIn_cond_false (A p u) (s1 n ρ ro ac w aj p u Q)⟩
 .cases h
def aEB{x:aE->D->St}{a:Code}(O:tF P E w0 x a):tF P E w0 (F7 b x) (.block b a):=by
 intro Y H ex an H' h U;unfold F7 at h;cases Z:x Y H with
 |er l=>rw[Z]at h;cases h
 |ok r=>
  rw[Z]at h
  obtain⟨T,M,H1⟩:=r
  obtain⟨f1,s1⟩:=O _ _ _ _ _ Z U
  cases T with
  |normal=>
   cases h
   refine⟨f1,λ n ρ ro ac w aj B C Q=>wpIn_block (s1 n ρ ro ac w _ B C λ e F u p he A z G=>?_)⟩
   cases e<;>first|(cases he;done)|exact Q _ F u p he A z G
  |ret=>
   cases h
   refine⟨f1,λ n ρ ro ac w aj B C Q=>wpIn_block (s1 n ρ ro ac w _ B C λ e F u p he A z G=>?_)⟩
   cases e<;>first|(cases he;done)|exact Q _ F u p he A z G
  |exit j=>
   have J:aB (.ok (.exit j,M,H1)) (.ok (.normal,M,H1)) (Nat.beq j b)=(.ok (ex,an,H'):St):=h
   cases I:Nat.beq j b with
   |true=>
    rw[I]at J
    cases J
    refine⟨f1,λ n ρ ro ac w aj B C Q=>wpIn_block (s1 n ρ ro ac w _ B C λ e F u p he A z G=>?_)⟩
    cases e<;>first|(cases he;done)|skip
    rename_i L
    have K:j=L:=he
    subst K
    show(if j=b then aj .normal u p else aj (.exit j) u p)
    rw[aq (Az I)]
    exact Q .normal F u p trivial A z G
   |false=>
    rw[I]at J
    cases J
    refine⟨f1,λ n ρ ro ac w aj B C Q=>wpIn_block (s1 n ρ ro ac w _ B C λ e F u p he A z G=>?_)⟩
    cases e<;>first|(cases he;done)|skip
    rename_i L
    have K:j=L:=he
    subst K
    show(if j=b then aj .normal u p else aj (.exit j) u p)
    rw[ao (λ e=>by rw[<-su,I]at e;cases e)]
    exact Q (.exit j) F u p rfl A z G
def exists_least{p:Nat->Prop}(h:∃k,p k):∃k,p k/\∀j,p j->k<=j:=by
 have⟨k,Q⟩:=h;induction k using Nat.strongRecOn with
 |_ k u=>
  by_cases he:∃j,j<k/\p j
  .have⟨j,O,U⟩:=he
   exact u j O U
  .refine⟨k,Q,λ j z=>?_⟩
   rcases kb j k with O|O
   .exact absurd ⟨j,O,z⟩ he
   .exact O
open Classical in
def aGK{c:Code}(aJ:Nat->Act->bI->Prop){k0:Nat}(B:aJ k0 a w)(round:∀k a w,aJ k a w->c.wpIn au n P (Exit.then (λ a' w'=>∃k',k'<k/\aJ k' a' w') aj) a w):(Code.loop c).wpIn au n P aj a w:=by
 refine wpIn_loop (λ a w=>∃k,aJ k a w) (λ a w=>if h:∃k,aJ k a w then Classical.choose (exists_least h)else 0) ⟨k0,B⟩ λ a w z=>?_
 have⟨O,U⟩:=HS (exists_least z)
 refine Code.wpIn_mono (λ e a' w' u=>?_) (round _ a w O)
 cases e<;>first|exact u|skip
 have⟨k',A,p⟩:=u
 have hex:∃k,aJ k a' w':=⟨k',p⟩
 refine⟨hex,?_⟩
 rw[OK z,OK hex]
 exact KL ((HS (exists_least hex)).2 k' p) A
def uy(x:aE->D->St)(k:Nat):aE->D->St:=rV (α:=aE) (β:=D->St) (λ Y _=>.er [Y.fn,130]) (λ _ h Y H=>match x Y H with|.er l=>.er l|.ok r=>match r with|(.normal,an,H')=>h an H'|r=>.ok r) k
def Wq{x:aE->D->St}{q:dE×aE×D}(h:uy x (b+1) Y H=.ok q):∃ex u H1,x Y H=.ok (ex,u,H1)/\((ex=.normal/\uy x b u H1=.ok q)\/(ex≠.normal/\q=(ex,u,H1))):=by
 have p:(match x Y H with|.er l=>.er l|.ok r=>match r with|(.normal,an,H')=>uy x b an H'|r=>.ok r)=(.ok q:St):=h
 cases Z:x Y H with
 |er l=>rw[Z]at p;cases p
 |ok r=>
  rw[Z]at p
  have⟨ex,u,H1⟩:=r
  refine⟨ex,u,H1,rfl,?_⟩
  cases ex with|normal=>exact .inl ⟨rfl,p⟩|exit j=>cases p;exact .inr ⟨ζ,rfl⟩|ret=>cases p;exact .inr ⟨ζ,rfl⟩
def aEE{x:aE->D->St}{c:Code}(O:tF P E w0 x c):tF P E w0 (GZ E x) (.loop c):=by
 intro Y H ex an H' h z;have h:uy x E.lim Y H=.ok (ex,an,H'):=h;generalize E.lim=k at h;have X:∀k Y H,uy x k Y H=.ok (ex,an,H')->qG E Y.fn c->an.fn=Y.fn:=by
  intro k;induction k with
  |zero=>intro Y H h;cases h
  |succ k ih=>
   intro Y H h z
   have⟨iR,u,H1,Z,G⟩:=Wq h
   have⟨f1,_⟩:=O _ _ _ _ _ Z z
   rcases G with⟨_,U⟩|⟨_,U⟩
   .exact(ih u H1 U (by rw[f1];exact z)).trans f1
   .cases U;exact f1
 refine⟨X k Y H h z,λ n ρ ro ac w aj hh hf Q=>?_⟩;refine aGK (λ k a w=>∃u H1 A,uy x k u H1=.ok (ex,an,H')/\u.fn=Y.fn/\HR E w0 A H1 w/\FR A ro u a/\cV ρ H A H1) (k0:=k) ⟨Y,H,ρ,h,rfl,hh,hf,cV.refl _ _⟩ ?_;rintro k a w ⟨u,H1,A,M,L,W,I9,B⟩;cases k with
 |zero=>cases M
 |succ k=>
  have⟨kY,V,H2,Z,G⟩:=Wq M
  have⟨f2,s2⟩:=O _ _ _ _ _ Z (by rw[L];exact z)
  refine s2 n A ro a w _ W I9 λ e p T K he J C I=>?_
  rcases G with⟨rfl,F⟩|⟨cR,F⟩
  .cases e<;>first|(cases he;done)|skip
   exact⟨k,ω,V,H2,p,F,f2.trans L,C,J,B.trans I⟩
  .cases F
   cases ex with
   |normal=>exact absurd rfl cR|exit j=>cases e<;>first|(cases he;done)|exact Q _ p T K he J C (B.trans I)
   |ret=>cases e<;>first|(cases he;done)|exact Q _ p T K he J C (B.trans I)
def aEG(I:eW P E)(G:Aq P E w0 rc):tF P E w0 (Dl E rc (.region b ak y)) (.region b ak y):=by
 intro Y H ex an H' h L;have h:aB (nO E rc ak.toList ak.toList (λ an H'=>.ok (.normal,an,H')) Y H) (cB E.pl Y.fn (λ p=>cB p b (λ pl=>m8 E rc ak.toList pl (λ an H'=>.ok (.normal,an,H')) Y H) (.er [136,Y.fn,b])) (.er [137,Y.fn])) y=(.ok (ex,an,H'):St):=h;cases y with
 |false=>
  rw[Ik]at h
  have⟨J,H1,O,U,F⟩:=WO I G 0 h
  cases O
  refine⟨U,λ n ρ ro ac w aj z A Q=>?_⟩
  have⟨J,H1,O,_,F⟩:=WO I G n h
  cases O
  exact wpIn_region_list (F ρ ro ac w aj z A λ bM a' w' D C B=>Q .normal bM a' w' trivial D C B)
 |true=>
  rw[xI]at h
  have⟨p,u,h⟩:=oY h
  have⟨pl,K,h⟩:=oY h
  have⟨J,H1,O,U,F⟩:=aDM I G (L p pl u K) h
  cases O
  exact⟨U,λ n ρ ro ac w aj z A Q=>F n b ρ ro ac w aj z A λ bM a' w' D C B=>Q .normal bM a' w' trivial D C B⟩
def aEJ:tF P E w0 (Dl E rc .skip) .skip:=by intro Y H ex an H' h _;have h:(.ok (.normal,Y,H):St)=.ok (ex,an,H'):=h;cases h;exact⟨rfl,λ n ρ ro ac w aj p u Q=>wpIn_skip (Q .normal ρ ac w trivial u p (cV.refl _ _))⟩
def aEH:tF P E w0 (Dl E rc .ret) .ret:=by intro Y H ex an H' h _;have h:(.ok (.ret,Y,H):St)=.ok (ex,an,H'):=h;cases h;exact⟨rfl,λ n ρ ro ac w aj p u Q=>wpIn_ret (Q .ret ρ ac w trivial u p (cV.refl _ _))⟩
def aED:tF P E w0 (Dl E rc (.exit b)) (.exit b):=by intro Y H ex an H' h _;have h:(.ok (.exit b,Y,H):St)=.ok (ex,an,H'):=h;cases h;exact⟨rfl,λ n ρ ro ac w aj p u Q=>wpIn_exit (Q (.exit b) ρ ac w rfl u p (cV.refl _ _))⟩
end
variable{ps:List Tmp}
section
variable{P:e8}{E:aK}{rc:mP}{w0 w:bI}{ρ:bh}{H:D}
def HR.adI(hr:HR E w0 ρ H w){r:Loop}(A:ρ ah=some (b,sh,N))(h:H.t.get ah=some (.loop st c_ f n s ps aI4 bd es))(hw:w.heap[b]?=some (.loop r))(z:tG H ah (some (.loop oE ajN f n s ps aI4 bd es)) H'):HR E w0 ρ H' (w.putObj b (.loop {r with state:=oE,pending:=ajN}))/\cV ρ H ρ H':=by
 have⟨u,p,K,O,U,F,J,I,G,D,C,s',N',B⟩:=hr.obj _ _ _ _ _ A h
 rw[hw]at O;cases O
 refine hr.XE A h rfl rfl z ?_ (by simp[World.putObj]) (λ k Q=>World.putObj_heap_other Q) rfl rfl rfl
 rw[World.putObj_heap_same (DZ hw)]
 exact⟨u,p,_,rfl,rfl,rfl,J,I,G,D,C,s',N',B⟩
def HR.Q9(hr:HR E w0 ρ H w)(A:ρ ah=some (b,sh,N))(u:H.t.get ah=some (.loop st c_ f n s ps aI4 bd es)):∃r,w.heap[b]?=some (.loop r)/\r.state=st/\r.pending=c_/\r.tmps.size=n/\(∀(i:Nat) av,s.get i=some av->∃v,r.tmps[i]?=some v/\Rl ρ av v)/\r.params.toList=ps/\r.assign=aI4/\r.body=bd/\(∃s' N',ρ es=some (r.defers,s',N'))/\qG E f aI4/\qG E f bd:=by
 have⟨p,h,r,O,U,F,I,G,D,C,B,z⟩:=hr.obj _ _ _ _ _ A u
 exact⟨r,O,U,F,I,G,D,C,B,z,p,h⟩
def an4{args:AU}{g:fD}(h:rM x args H=.ok (.call g l H2)):∃first captured,x=.fn (.func g) first captured/\l=first++(args++captured)/\H2=H:=by
 unfold rM at h;split at h
 .split at h
  .rw[DX,DX]at h;cases h;exact⟨_,_,rfl,rfl,rfl⟩
  .rw[DX]at h;cases h
  .cases h
 .cases h
def apu{k:Nat->aE->D->R β}(h:Gf Y ps aI4 bd H k=.ok q):(Y.round=none/\∃H1 H2,uO H .deferred H1/\uO H1 (.loop .ready none Y.fn Y.size Y.cD ps aI4 bd H.ab) H2/\k H1.ab {Y with marks:=H.ab::Y.marks} H2=.ok q)\/(∃p st c_ f n s u A z d H1,Y.round=some p/\H.t.get p=some (.loop st c_ f n s u A z d)/\uO H (.loop .ready none Y.fn Y.size Y.cD ps aI4 bd d) H1/\k H.ab Y H1=.ok q):=by
 have⟨s,n,m,r,f⟩:=Y
 unfold Gf at h
 cases r with
 |none=>
  dsimp only at h
  have⟨H1,O,h⟩:=vP h
  have⟨H2,U,h⟩:=vP h
  exact .inl ⟨rfl,H1,H2,O,U,h⟩
 |some p=>
  dsimp only at h
  have⟨ob,B,h⟩:=oB h
  split at h
  .have⟨H1,O,h⟩:=vP h
   exact .inr ⟨p,_,_,_,_,_,_,_,_,_,H1,rfl,B,O,h⟩
  .cases h
def aw4{q:dE×aE×D}(h:M6 c_ Y H=.ok q):q.2=(Y,H)/\((c_=none/\q.1=.normal)\/(c_=some .ret/\q.1=.ret)\/∃id,c_=some (.exit id)/\q.1=.exit id):=by
 unfold M6 at h;split at h
 .cases h;exact⟨rfl,.inl ⟨rfl,rfl⟩⟩
 .split at h
  .cases h;exact⟨rfl,.inr (.inl ⟨rfl,rfl⟩)⟩
  .cases h;exact⟨rfl,.inr (.inr ⟨_,rfl,rfl⟩)⟩
  .cases h
def aEF(RO:Aq P E w0 rc){ps:Array Tmp}:tF P E w0 (Dl E rc (.rangeFunc c ps aI4 bd)) (.rangeFunc c ps aI4 bd):=by
 intro Y H ex an H' h fk;have h:Fq E rc c ps.toList aI4 bd Y H=.ok (ex,an,H'):=h;unfold Fq at h;have⟨gv,zH,h⟩:=gO h;have key:∀{l:Nat} {K:aE} {H1:D},(match rM gv [.fn (.yield l) [] []] H1 with
  |.ok (.call f args H2)=>(match rc (.call f args) H2 with|.er l=>.er (Y.fn::l)|.ok p=>match p with|(_,z)=>ie z l λ o=>match o with|.loop st c_ f n s ps aI4 bd d=>(match st with|.busy=>.er [133]|_=>me z l (some (.loop .exhausted c_ f n s ps aI4 bd d)) λ H4=>M6 c_ K H4)|_=>.er [134])
  |_=>.er [135])=(.ok (ex,an,H'):St)->an=K/\∃f first captured v z st c_ fn n s A C B d,gv=.fn (.func f) first captured/\rc (.call f (first++([.fn (.yield l) [] []]++captured))) H1=.ok (v,z)/\
   z.t.get l=some (.loop st c_ fn n s A C B d)/\st≠.busy/\tG z l (some (.loop .exhausted c_ fn n s A C B d)) H'/\((c_=none/\ex=.normal)\/(c_=some .ret/\ex=.ret)\/∃id,c_=some (.exit id)/\ex=.exit id):=by
  intro l K H1 h;cases hc:rM gv [.fn (.yield l) [] []] H1 with
  |er e=>rw[hc]at h;cases h
  |ok r=>
   rw[hc]at h
   cases r with
   |val v H=>cases h|round l args H=>cases h
   |call f args H2=>
    obtain⟨first,captured,rfl,rfl,rfl⟩:=an4 hc
    dsimp only at h
    split at h
    .cases h
    .rename_i p hp
     obtain⟨v,z⟩:=p;dsimp only at h;have⟨ob,jB,h⟩:=oB h;split at h
     .rename_i st c_ fn n s A C B d;have hb:st≠.busy/\me z l (some (.loop .exhausted c_ fn n s A C B d)) (λ H4=>M6 c_ K H4)=.ok (ex,an,H'):=by cases st<;>first|(cases h;done)|exact⟨ζ,h⟩
      obtain⟨W,h⟩:=hb;have⟨H4,M,h⟩:=rk h;obtain⟨X,e2⟩:=aw4 h;obtain⟨rfl,rfl⟩:=zj X;exact⟨rfl,f,first,captured,v,z,st,c_,fn,n,s,A,C,B,d,rfl,hp,jB,W,M,e2⟩
     .cases h
 have Ra:∀{l:Nat} {K:aE} {H1:D} {f:fD} {first captured:AU} {v:J} {z:D} {st:LoopState} {c_:Option Code} {fn:fD} {n:Nat} {s:CX} {A:List Tmp} {C B:Code} {d:Nat},gv=.fn (.func f) first captured->rc (.call f (first++([.fn (.yield l) [] []]++captured))) H1=.ok (v,z)->z.t.get l=some (.loop st c_ fn n s A C B d)->st≠.busy->tG z l (some (.loop .exhausted c_ fn n s A C B d)) H'->((c_=none/\ex=.normal)\/(c_=some .ret/\ex=.ret)\/∃id,c_=some (.exit id)/\ex=.exit id)->∀(m:Nat) (ρ V:bh) (ro:Option Nat) (a a1:Act) (I:bI) (aj:Exit->Act->bI->Prop) (bl sl Nl:Nat),Gl E ρ->FR ρ ro Y a->cV ρ H V H1->HR E w0 V H1 I->FR V ro K a1->V l=some (bl,sl,Nl)->(∀e bM a' w',aey ex e->FR bM ro K a'->HR E w0 bM H' w'->cV ρ H bM H'->aj e a' w')->∃(Z:Deferred) (f':fD) (args:Array aC),(resolve a.eval (rangeCall c bl) 0).run P I=.ok Z I/\(invoke Z.target Z.args).run P I=.ok (.enter f' args) I/\CallsIn (Fw ro) (m-1) P f' args I (rangePost (Fw ro) m P bl aj a1):=by
  intro l K H1 f first captured v z st c_ fn n s A C B d X EJ fF W M hj m ρ V ro a a1 I aj bl sl Nl rP Qq zJ pf I9 jM Q
  subst X
  have awe:Oo ρ Y.cD a c:=by cases c<;>first|trivial|exactλ v hv=>Qq.Bu _ v hv
  obtain⟨l',m',q1,q2,eg⟩:=(zH.adH rP awe).V6
  have dj:cA V (first++([.fn (.yield l) [] []]++captured)) ((l'++(#[Value.func (.yield bl) #[] #[]]:Array aC))++m').toList:=by simp only[yY,FK];exact(q1.mono zJ.ext).append ((cA.cons (.Hs jM) .nil).append (q2.mono zJ.ext))
  obtain⟨F,h4⟩:=RO.call _ _ _ _ _ EJ V I _ pf dj
  refine⟨{target:=.fn (.func f) m',args:=l'++(#[Value.func (.yield bl) #[] #[]]:Array aC)},f,_,?_,?_,afX (h4.mono ?_)⟩
  .have auF:a.eval (.const (.func (.yield bl) #[] #[]))=.func (.yield bl) #[] #[]:=rfl
   simp[resolve,eg,Deferred.ofValue,auF]
  .simp only[invoke]
   exact F
  .rintro e w3 ⟨u,Sk,rfl,g1,g2,g3⟩
   have qx:=g3.ext _ _ jM;obtain⟨r,yi,mY,oi,hr4,hr5,hr6,hr7,QD,hr9,_,_⟩:=g2.Q9 qx fF;obtain⟨k1,k2⟩:=g2.adI qx fF yi M;refine⟨c_,_,by rw[<-oi];exact run_endLoop yi (by rw[mY];exact W),?_⟩;have T:HR E w0 Sk H' (w3.putObj bl (.loop {r with state:=.exhausted})):=by
    have:({r with state:=.exhausted,pending:=c_}:Loop)={r with state:=.exhausted}:=by rw[<-oi]
    rw[<-this];exact k1
   have bm:cV ρ H Sk H':=(zJ.trans g3).trans k2;have aar:=I9.mono g3.ext;rcases hj with⟨rfl,rfl⟩|⟨rfl,rfl⟩|⟨id,rfl,rfl⟩
   .exact Q .normal Sk a1 _ trivial aar T bm
   .exact wpIn_ret (Q .ret Sk a1 _ trivial aar T bm)
   .exact wpIn_exit (Q (.exit id) Sk a1 _ rfl aar T bm)
 rcases apu h with⟨bU,H1,H2,Un,hA2,h⟩|⟨l0,st,c_,f0,n0,s0,ps0,as0,OQ,d0,H1,bU,sH,Un,h⟩
 .obtain⟨rfl,f,first,captured,v,z,st,c_,fn,n,s,A,C,B,d,X,EJ,fF,W,M,hj⟩:=key h;refine⟨rfl,λ m ρ ro a w aj L G Q=>?_⟩;have jC:ro=none:=by
   rcases G.round with⟨_,e⟩|⟨l,b,s,N,e,_⟩
   .exact e
   .rw[bU]at e;cases e
  subst jC;refine wpIn_rangeFunc λ Px _=>?_;have o1:OR E (ρ.add H.ab (w.heap.size,0,0)) .deferred 0 0 (some (.deferred (some []))):=rfl;obtain⟨p1,p2⟩:=L.alloc Un o1;have awm:(w.alloc (.deferred (some []))).heap.size=w.heap.size+1:=Tl _ _;have rQ:H1.ab=H.ab+1:=Un.1;have x1:=p2.ext;have o2:OR E ((ρ.add H.ab (w.heap.size,0,0)).add H1.ab ((w.alloc (.deferred (some []))).heap.size,0,0)) (.loop .ready none Y.fn Y.size Y.cD ps.toList aI4 bd H.ab) 0 0 (some (.loop {state:=.ready,pending:=none,fn:=Px,tmps:=a.tmps,params:=ps,assign:=aI4,body:=bd,defers:=w.heap.size})):=by
   have x2:=bh.sk (p:=((w.alloc (.deferred (some []))).heap.size,0,0)) p1.fresh
   refine⟨fk.1,fk.2,_,rfl,rfl,rfl,G.size,λ i av ha=>?_,rfl,rfl,rfl,0,0,x2 _ _ (bh.uY _ _ _)⟩
   obtain⟨v,O,U⟩:=G.Bu i av ha
   exact⟨v,O,(U.mono x1).mono x2⟩
  obtain⟨p3,p4⟩:=p1.alloc hA2 o2;have zJ:=p2.trans p4;have I9:FR ((ρ.add H.ab (w.heap.size,0,0)).add H1.ab ((w.alloc (.deferred (some []))).heap.size,0,0)) none {Y with marks:=H.ab::Y.marks} {a with defers:=[{target:=.collected w.heap.size,args:=#[]}]++a.defers}:=by have AS:=G.mono zJ.ext;exact⟨AS.size,AS.Bu,.cons ⟨w.heap.size,0,0,p4.ext _ _ (bh.uY _ _ _),rfl⟩ AS.marks,AS.round⟩
  obtain⟨Z,f',args,q1,q2,q3⟩:=Ra (l:=H1.ab) X EJ fF W M hj m ρ _ none a _ _ aj _ 0 0 L.gl G zJ p3 I9 (by rw[bh.uY,awm]) Q;exact⟨_,_,_,Z,_,f',args,_,run_enterLoop_outer Px a.tmps ps aI4 bd,q1,λ _ _=>trivial,q2,(λ h=>by cases h),q3⟩
 .obtain⟨rfl,f,first,captured,v,z,st,c_,fn,n,s,A,C,B,d,X,EJ,fF,W,M,hj⟩:=key h;refine⟨rfl,λ m ρ ro a w aj L G Q=>?_⟩;obtain⟨b0,s1,N1,Ei,rfl⟩:∃b s N,ρ l0=some (b,s,N)/\ro=some b:=by
   rcases G.round with⟨e,_⟩|⟨l,b,s,N,e,O,U⟩
   .rw[bU]at e;cases e
   .rw[bU]at e;cases e;exact⟨b,s,N,O,U⟩
  obtain⟨r0,yi,_,_,_,_,_,_,_,⟨s9,N9,hr9⟩,_,_⟩:=L.Q9 Ei sH;refine wpIn_rangeFunc λ Px _=>?_;have o1:OR E (ρ.add H.ab (w.heap.size,0,0)) (.loop .ready none an.fn an.size an.cD ps.toList aI4 bd d0) 0 0 (some (.loop {state:=.ready,pending:=none,fn:=Px,tmps:=a.tmps,params:=ps,assign:=aI4,body:=bd,defers:=r0.defers})):=by
   have x2:=bh.sk (p:=(w.heap.size,0,0)) L.fresh
   refine⟨fk.1,fk.2,_,rfl,rfl,rfl,G.size,λ i av ha=>?_,rfl,rfl,rfl,s9,N9,x2 _ _ hr9⟩
   obtain⟨v,O,U⟩:=G.Bu i av ha
   exact⟨v,O,U.mono x2⟩
  obtain⟨p1,p2⟩:=L.alloc Un o1;obtain⟨Z,f',args,q1,q2,q3⟩:=Ra (l:=H.ab) X EJ fF W M hj m ρ _ (some b0) a a _ aj _ 0 0 L.gl G p2 p1 (G.mono p2.ext) (bh.uY _ _ _) Q;exact⟨_,_,_,Z,_,f',args,_,run_enterLoop_inner yi Px a.tmps ps aI4 bd,q1,λ _ _=>trivial,q2,(λ h=>by cases h),q3⟩
theorem DB(u:eW P E)(p:Aq P E w0 rc):∀c:Code,tF P E w0 (dX E rc c) c
 |.skip=>aEJ (rc:=rc)|.region _ _ _=>aEG u p|.seq a b=>aEI (DB u p a) (DB u p b)|.cond _ a b=>aEC (DB u p a) (DB u p b)|.block _ a=>aEB (DB u p a)|.loop a=>aEE (DB u p a)|.rangeFunc _ _ _ _=>aEF p|.exit _=>aED (rc:=rc)|.ret=>aEH (rc:=rc)|.scope _=>λ _ _ _ _ _ h=>by cases h
 |.label _=>λ _ _ _ _ _ h=>by cases h
 |.goto _=>λ _ _ _ _ _ h=>by cases h
 |.refuse _=>λ _ _ _ _ _ h=>by cases h
theorem akq{β:Type}{n:Nat}{k:CX->R β}{q:β}:∀{ps:List Tmp} {args:AU} {s:CX},Fu n ps args s k=.ok q->
 ∃s1,k s1=.ok q/\args.length=ps.length/\∀(ρ:bh) (vs:List aC) (tm:Array aC),cA ρ args vs->tm.size=n->(∀(i:Nat) av,s.get i=some av->∃v,tm[i]?=some v/\Rl ρ av v)->
  ((ps.zip vs).foldl (λ (tm:Array aC) (p:Tmp×aC)=>tm.setIfInBounds p.1 p.2) tm).size=n/\∀(i:Nat) av,s1.get i=some av->∃v,((ps.zip vs).foldl (λ (tm:Array aC) (p:Tmp×aC)=>tm.setIfInBounds p.1 p.2) tm)[i]?=some v/\Rl ρ av v
 |[],[],s,h=>⟨s,h,rfl,λ ρ vs tm hr B u=>by cases hr;exact⟨B,u⟩⟩|[],_::_,s,h=>by cases h
 |_::_,[],s,h=>by cases h
 |p::ps,a::args,s,h=>by
  have z:aB (.er [163]) (j_ 64 s p (some a) (λ s'=>Fu n ps args s' k) (.er [164])) (Nat.blt p n)=.ok q:=h
  replace z:=db z;have⟨C,z⟩:=z
  replace z:=JU z;have⟨s',J,z⟩:=z
  have⟨s1,O,U,F⟩:=akq (ps:=ps) z
  have G:p<n:=by rw[tK]at C;exact C
  refine⟨s1,O,by simp[U],λ ρ vs tm hr B u=>?_⟩
  cases hr with
  |@cons _ v _ vs D I=>
   refine F ρ vs (tm.setIfInBounds p v) I (by simpa using B) λ i av A=>?_
   rw[J]at A
   rw[HP]
   by_cases e:i=p
   .subst e
    rw[aq rfl]at A;cases A;exact⟨v,by rw[aq rfl,aq (by rw[B];exact G)],D⟩
   .rw[ao e]at A
    rw[ao (λ h=>e h.symm)];exact u i av A
def Xf(EO:eW P E)(RO:Aq P E w0 rc){args:AU}{v:J}(h:Ft E rc ah args H=.ok (v,H')):aeJ P E w0 ah args H v H':=by
 unfold Ft at h;have⟨ob,jB,h⟩:=oB h;split at h
 .rename_i st c_ f n s ps aI4 bd d;split at h
  .have⟨s1,h,bA,nK⟩:=akq h;cases Z:dX E rc aI4 ⟨s1,n,[],some ah,f⟩ H with
   |er e=>rw[Z]at h;cases h
   |ok r=>
    rw[Z]at h
    obtain⟨iR,dT,H1⟩:=r
    cases iR with
    |exit j=>cases h|ret=>cases h
    |normal=>
     dsimp only at h
     have⟨ob1,I,h⟩:=oB h
     split at h
     .rename_i st1 Dt f1 n1 s2 ps1 as1 bd1 d1
      split at h
      .have⟨H2,eX,h⟩:=rk h;cases G:dX E rc bd dT H2 with
       |er e=>rw[G]at h;cases h
       |ok r2=>
        rw[G]at h
        obtain⟨ex,wx,H3⟩:=r2
        dsimp only at h
        have⟨ob3,F,h⟩:=oB h
        split at h
        .rename_i st3 aAA f3 n3 s3 M as3 bd3 d3
         have Md:∃oE jump,tG H3 ah (some (.loop oE jump f3 n3 s3 M as3 bd3 d3)) H'/\v=.lit (.bool jump.isNone)/\oE=(if jump.isNone then .ready else .done)/\((ex=.normal/\jump=none)\/(ex=.ret/\jump=some .ret)\/∃id,ex=.exit id/\jump=some (.exit id)):=by
          cases ex with
          |normal=>
           have⟨H4,z,h⟩:=rk h
           cases h
           exact⟨_,_,z,rfl,rfl,.inl ⟨rfl,rfl⟩⟩
          |ret=>
           have⟨H4,z,h⟩:=rk h
           cases h
           exact⟨_,_,z,rfl,rfl,.inr (.inl ⟨rfl,rfl⟩)⟩
          |exit id=>
           have⟨H4,z,h⟩:=rk h
           cases h
           exact⟨_,_,z,rfl,rfl,.inr (.inr ⟨id,rfl,rfl⟩)⟩
         obtain⟨oE,jump,z,rfl,awj,hj⟩:=Md;intro ρ w D b sh N hh W dj;obtain⟨r,yi,mY,oi,V,U,C,T,QD,hr9,B,O⟩:=hh.Q9 W jB;have aul:D.size=r.params.size:=by
          have e1:=dj.length;have e2:r.params.size=ps.length:=by rw[<-C];simp
          simp only[rH]at e1;omega
         refine⟨r.fn,_,_,_,run_yield yi aul,λ m=>?_⟩;rw[T,QD];have Q:(r.params.zip D).foldl (λ tmps (x:Tmp×aC)=>match x with|(t,a)=>tmps.setIfInBounds t a) r.tmps=(ps.zip D.toList).foldl (λ (tm:Array aC) (p:Tmp×aC)=>tm.setIfInBounds p.1 p.2) r.tmps:=by rw[<-Yh,Array.toList_zip,C]
         obtain⟨t1,t2⟩:=nK ρ D.toList r.tmps dj V U;obtain⟨_,aEz⟩:=DB EO RO aI4 _ _ _ _ _ Z B;refine roundIn_of_wpIn trivial ?_;have PA:FR ρ (some b) ⟨s1,n,[],some ah,f⟩ {tmps:=(r.params.zip D).foldl (λ tmps (x:Tmp×aC)=>match x with|(t,a)=>tmps.setIfInBounds t a) r.tmps,defers:=[]}:=by rw[Q];exact⟨t1,t2,.nil,.inr ⟨ah,b,sh,N,rfl,W,rfl⟩⟩
         refine aEz m ρ (some b) _ w _ hh PA λ e eU a1 w1 he I9 pf cT=>?_;cases e<;>first|(cases he;done)|skip
         have bR:=cT.ext _ _ W;obtain⟨L,g1,g2,g3,g4,g5,g6,g7,g8,g9,_,_⟩:=pf.Q9 bR I;obtain⟨k1,k2⟩:=pf.adI bR I g1 eX;refine⟨_,run_beginRound g1 g2,?_⟩;have X:dT.fn=f:=(DB EO RO aI4 _ _ _ _ _ Z B).1;obtain⟨_,aEA⟩:=DB EO RO bd _ _ _ _ _ G (by rw[X];exact O);have iH:HR E w0 eU H2 (w1.putObj b (.loop {L with state:=.busy})):=by
          have:({L with state:=.busy,pending:=Dt}:Loop)={L with state:=.busy}:=by rw[<-g3]
          rw[<-this];exact k1
         refine aEA m eU (some b) a1 _ _ iH I9 λ e A a2 w2 he UZ ya ck=>?_;have eG:=ck.ext _ _ bR;obtain⟨q3,j1,j2,j3,j4,j5,j6,j7,j8,j9,_,_⟩:=ya.Q9 eG F;obtain⟨m1,m2⟩:=ya.adI eG F j1 z;have zJ:cV ρ H A H':=((cT.trans k2).trans ck).trans m2;have K:∃v' w',(Instr.endRound b jump).run P w2=.ok v' w'/\∃u bM,(Ending.returned v')=.returned u/\Rl bM (.lit (.bool jump.isNone)) u/\HR E w0 bM H' w'/\cV ρ H bM H':=by refine⟨_,_,run_endRound jump j1,_,A,rfl,.lit _,?_,zJ⟩;rw[awj]at m1;exact m1
         rcases hj with⟨rfl,rfl⟩|⟨rfl,rfl⟩|⟨id,rfl,rfl⟩
         .cases e<;>first|(cases he;done)|exact K
         .cases e<;>first|(cases he;done)|exact K
         .cases e<;>first|(cases he;done)|skip
          have xZ:id=_:=he;subst xZ;exact K
        .cases h
      .cases h
     .cases h
  .cases h
 .cases h
end
section
variable{P:e8}{E:aK}{rc:mP}{w0 w:bI}{ρ:bh}{H:D}
def aj3{t:CX}(h:pU t ah m k=.ok q):∃l,k l=.ok q/\pU t ah m R.ok=.ok l:=by
 have key:∀(m:Nat) (p:AU),rV (α:=AU) (β:=R β) k (λ i u p=>cB t (Nat.add ah i) (λ v=>u (v::p)) (.er [4,ah,i])) m p=.ok q->∃l,k l=.ok q/\rV (α:=AU) (β:=R AU) R.ok (λ i u p=>cB t (Nat.add ah i) (λ v=>u (v::p)) (.er [4,ah,i])) m p=.ok l:=by
  intro m
  induction m with
  |zero=>intro p h;exact⟨p,h,rfl⟩
  |succ m u=>
   intro p h
   rw[z8]at h
   have⟨v,O,U⟩:=oY h
   have⟨l,F,z⟩:=u _ U
   refine⟨l,F,?_⟩
   rw[z8,jJ,O]
   exact z
 unfold pU at h⊢;exact key m [] h
def axI{a:J}{k:J->R β}(h:zX E t a H k=.ok q):∃x,k x=.ok q/\zX E t a H R.ok=.ok x:=by
 unfold zX at h;split at h
 .rename_i id ah;have⟨ob,G,h⟩:=oB h;split at h
  .rename_i n M ro;have⟨i,A,h⟩:=nS h;have fin:∀x,aB (aB (.er [27]) (cB M ah R.ok (.er [28,id,ah])) (Nat.blt ah n)) (aB (.er [29,id,ah]) (pU M ah i.size λ l=>.ok (.agg l)) (Nat.ble (Nat.add ah i.size) n)) (k9 i.desc)=.ok x->zX E t (.ptr id ah) H R.ok=.ok x:=by
    intro x Z;show ie H id _=_;have:∀(k:AO->R J),ie H id k=k (.cells n M ro):=by intro k;cases H;show cB _ id k _=_;rw[jJ];rw[show Tr.get _ id=_ from G]
    rw[this];show cB E.tt t _ _=_;rw[jJ,A];exact Z
   cases B:k9 i.desc with
   |false=>
    rw[B,Ik]at h
    have⟨C,h⟩:=db h
    have⟨x,Z,h⟩:=oY h
    refine⟨x,h,fin x ?_⟩
    rw[B,Ik,C,xI,jJ,Z]
   |true=>
    rw[B,xI]at h
    have⟨C,h⟩:=db h
    have⟨l,h,z⟩:=aj3 h
    refine⟨.agg l,h,fin _ ?_⟩
    rw[B,xI,C,xI]
    obtain⟨l2,U,F⟩:=aj3 (k:=λ l=>R.ok (J.agg l)) (t:=M) (ah:=ah) (m:=i.size) (q:=.agg l) (by
     obtain⟨l',L,K,I⟩:=He z;have e:l'=l:=by cases I;rfl
     subst e;have key:∀{γ:Type} (k:AU->R γ) (m:Nat) (p l:AU),rV (α:=AU) (β:=R AU) R.ok (λ i u p=>cB M (Nat.add ah i) (λ v=>u (v::p)) (.er [4,ah,i])) m p=.ok l->rV (α:=AU) (β:=R γ) k (λ i u p=>cB M (Nat.add ah i) (λ v=>u (v::p)) (.er [4,ah,i])) m p=k l:=by
      intro γ k m
      induction m with
      |zero=>intro p l h;cases h;rfl
      |succ m u=>
       intro p l h
       rw[z8]at h
       obtain⟨v,O,U⟩:=oY h
       rw[z8,jJ,O]
       exact u _ _ U
     unfold pU at z⊢;exact key _ _ _ _ z)
    cases U
    have D:pU M ah i.size (λ l=>R.ok (J.agg l))=.ok (.agg l):=by
     have key:∀{γ:Type} (k:AU->R γ) (m:Nat) (p l:AU),rV (α:=AU) (β:=R AU) R.ok (λ i u p=>cB M (Nat.add ah i) (λ v=>u (v::p)) (.er [4,ah,i])) m p=.ok l->rV (α:=AU) (β:=R γ) k (λ i u p=>cB M (Nat.add ah i) (λ v=>u (v::p)) (.er [4,ah,i])) m p=k l:=by
      intro γ k m
      induction m with
      |zero=>intro p l h;cases h;rfl
      |succ m u=>
       intro p l h
       rw[z8]at h
       obtain⟨v,O,U⟩:=oY h
       rw[z8,jJ,O]
       exact u _ _ U
     unfold pU at z⊢;exact key _ _ _ _ z
    exact D
  .cases h
 .cases h
def ado(l:AU):J:=match l with|[v]=>v|l=>.dh l
def RV(E:aK)(s:CX)(H:D)(r:ResultVar)(v:J):Prop:=match r with|.tmp t=>s.get t=some v|.cell a t=>∃p,s.get a=some p/\zX E t p H R.ok=.ok v
def aDU{k:J->R β}(h:Dx E s H rs k=.ok q):∃l,F2 (RV E s H) rs l/\k (ado l)=.ok q:=by
 unfold Dx at h;have⟨l,O,U⟩:=Bh (S:=RV E s H) (λ r k q h=>by
  cases r with
  |tmp t=>exact oY h
  |cell a t=>
   have⟨p,z,h⟩:=oY h
   have⟨x,O,U⟩:=axI h
   exact⟨x,⟨p,z,U⟩,O⟩) h
 refine⟨l,O,?_⟩;rcases l with _|⟨v,_|⟨u,l⟩⟩<;>exact U
def Xb(tm:Array aC):ResultVar->Sem aC
 |.tmp t=>pure (tm.getD t undef)|.cell a t=>do loadVar t (<-asAddr (tm.getD a undef))
def aEa(Q:eW P E)(hr:HR E w0 ρ H w)(B:∀(t:Nat) av,s.get t=some av->∃v,tm[t]?=some v/\Rl ρ av v):∀{rs:List ResultVar} {l:AU},F2 (RV E s H) rs l->∃vs:List aC,(rs.mapM (Xb tm)).run P w=.ok vs w/\cA ρ l vs:=by
 intro rs l h
 induction h with
 |nil=>exact⟨[],rfl,.nil⟩
 |@cons r v rs l O _ C=>
  have⟨vs,U,F⟩:=C
  cases r with
  |tmp t=>
   have⟨u,A,z⟩:=B t v O
   refine⟨u::vs,?_,.cons z F⟩
   have:tm.getD t undef=u:=by rw[DU,A];rfl
   simp only[YI,Xb,cK,this,iL,dD,U]
  |cell a t=>
   have⟨p,D,G⟩:=O
   have⟨pv,A,z⟩:=B a p D
   have⟨M,x,u,L,K,J,I⟩:=HR.load Q (nU.refl H) hr G z
   cases I
   refine⟨u::vs,?_,.cons J F⟩
   have:tm.getD a undef=.pointer (some M):=by rw[DU,A,L];rfl
   simp only[YI,Xb,cK,this,asAddr,iL,dD,K,U]
def aDV(B:eW P E){fn:Func}(hr:HR E w0 ρ H w)(A:∀(t:Nat) av,s.get t=some av->∃v,tm[t]?=some v/\Rl ρ av v)(h:F2 (RV E s H) fn.results.toList l):∃u,(results fn tm).run P w=.ok u w/\Rl ρ (ado l) u:=by
 have⟨vs,O,U⟩:=aEa B hr A h
 have z:results fn tm=(do let vs<-fn.results.mapM (Xb tm);pure (if h:vs.size=1 then vs[0]else .tuple vs)):=rfl
 rw[z]
 refine⟨if h:vs.toArray.size=1 then vs.toArray[0]else .tuple vs.toArray,?_,?_⟩
 .simp[Array.mapM_eq_mapM_toList,O]
 .have p:=U.length
  rcases l with _|⟨v,_|⟨u,l⟩⟩
  .rcases vs with _|⟨x,vs⟩
   .exact .dh .nil
   .simp at p
  .rcases vs with _|⟨x,_|⟨y,vs⟩⟩
   .simp at p
   .cases U with|cons F _=>exact F
   .simp at p
  .rcases vs with _|⟨x,_|⟨y,vs⟩⟩
   .simp at p
   .simp at p
   .rw[dif_neg ζ];exact .dh U
def HR.drop(h:HR E w0 ρ H w){ob:AO}(A:ρ ah=some (b,sh,N))(J:H.t.get ah=some ob)(I:ob.Dh=false)(z:tG H ah none H')(K:w'.heap.size=w.heap.size)(M:∀k,k≠b->w'.heap[k]?=w.heap[k]?)(U:w'.os=w.os)(F:w'.tape=w.tape)(h4:w'.output=w.output):HR E w0 ρ H' w'/\cV ρ H ρ H':=by
 have hB:=h.own ah b sh N ob A J I
 have back:∀j o',H'.t.get j=some o'->j≠ah/\H.t.get j=some o':=by
  intro j o' u;rw[z.2]at u;split at u
  .cases u
  .rename_i e;exact⟨e,u⟩
 refine⟨⟨λ j p W=>by rw[z.1];exact h.lt j p W,?_,?_,?_,λ j b' s' N' u=>by rw[K];exact h.bF j b' s' N' u,h.vo,?_,λ j u=>?_⟩,λ _ _ h=>h,λ j u D=>⟨D,?_⟩,by rw[z.1];omega⟩
 .intro j b' s' N' o' B C
  obtain⟨e1,L⟩:=back j o' C;rw[M b' (λ e=>by subst e;exact e1 (h.inj j ah b' s' N' sh N _ _ B A L J I))];exact h.obj j b' s' N' o' B L
 .intro i j b' s1 N1 s2 N2 T O B C G Z X
  exact h.inj i j b' s1 N1 s2 N2 T O B C (back _ _ G).2 (back _ _ Z).2 X
 .intro j b' s' N' o' B C G
  exact h.own j b' s' N' o' B (back _ _ C).2 G
 .exact⟨U.trans h.ia.os,F.trans h.ia.tape,h4.trans h.ia.output,by rw[K];exact h.ia.size,λ k Q V=>by rw[M k ω];exact h.ia.block k Q V⟩
 .rw[z.2];split;rfl;exact h.Y j (by rw[z.1]at u;exact u)
 .rw[z.2,ao]
  rintro rfl;rw[A]at D;cases D
theorem agA{β:Type}{k:D->R β}{q:β}:∀{l:AT} {H:D},xQ l H k=.ok q->∃H',k H'=.ok q/\∀(n:Nat) (fn:Func) (tm:Array aC) (aj:Ending->bI->Prop) (ρ:bh) (w:bI) (ds:List Deferred),HR E w0 ρ H w->F2 (Oh ρ) l ds->(∀w',HR E w0 ρ H' w'->cV ρ H ρ H'->∃v,(results fn tm).run P w'=.ok v w'/\aj (.returned v) w')->LeavesInM Fence.wide n P fn tm aj ds .returning w
 |[],H,h=>⟨H,h,λ n fn tm aj ρ w ds hr B Q=>by
    cases B
    exact Q w hr (cV.refl _ _)⟩
 |id::l,H,h=>by
  have p:ie H id (λ o=>match o with|.deferred=>me H id none (λ H=>xQ l H k)|_=>.er [185])=.ok q:=h
  replace p:=oB p;have⟨ob,z,p⟩:=p
  split at p
  .replace p:=rk p;have⟨H1,G,p⟩:=p
   have⟨H2,O,U⟩:=agA (l:=l) p;refine⟨H2,O,λ n fn tm aj ρ w ds hr B Q=>?_⟩;cases B with
   |@cons _ d _ ds hd B=>
    obtain⟨b,sh,N,A,rfl⟩:=hd
    have u:w.heap[b]?=some (.deferred (some [])):=hr.obj _ _ _ _ _ A z
    have⟨J,I⟩:=hr.drop (w':=w.putObj b (.deferred none)) A z rfl G (by simp[World.putObj]) (λ k Q=>World.putObj_heap_other Q) rfl rfl rfl
    refine⟨ζ,.inl ⟨b,_,rfl,run_takeDeferred u,?_⟩⟩
    exact U n fn tm aj ρ _ ds J B λ w' F C=>Q w' F (I.trans C)
  .cases p
def Zo(B:eW P E)(RO:Aq P E w0 rc){args:AU}(h:oU E rc f args H=.ok (x,H')):Sn P E w0 f args H x H':=by
 unfold oU at h;have⟨fn,Q,h⟩:=oY h;have G:=B.ft _ _ Q;cases z:fn.body with
 |none=>rw[z]at h;cases h
 |some c=>
  rw[z]at h
  dsimp only at h
  unfold NQ at h
  have⟨s,hs,h⟩:=sd h
  rw[ux]at h
  replace h:=zu h
  cases Z:dX E rc c ⟨s,Nat.add args.length (Nat.sub fn.ntmps args.length),[],none,f⟩ H with
  |er e=>rw[Z]at h;cases h
  |ok r=>
   rw[Z]at h
   have⟨ex,dT,H1⟩:=r
   have⟨s',n',m,rd,fnn⟩:=dT
   have Md:(ex=.normal\/ex=.ret)/\xQ m H1 (λ H2=>Dx E s' H2 fn.results.toList λ x=>.ok (x,H2))=.ok (x,H'):=by cases ex with|normal=>exact⟨.inl rfl,h⟩|ret=>exact⟨.inr rfl,h⟩|exit j=>cases h
   have⟨hex,U⟩:=Md
   have⟨H2,F,K⟩:=agA (P:=P) (E:=E) (w0:=w0) U
   have⟨l,hl,h4⟩:=aDU F
   cases h4
   intro ρ w p hh V
   refine⟨MuLone.run_callFunc_enter G (B.nm f fn G (by rw[z];rfl)) z p w,(callsIn_wide (n:=0)).1 (callsIn_of_wp_marks G z trivial ?_)⟩
   have W:=V.length
   simp only[rH]at W
   have PA:FR ρ none ⟨s,Nat.add args.length (Nat.sub fn.ntmps args.length),[],none,f⟩ {tmps:=p++Array.replicate (fn.ntmps-p.size) undef,defers:=[]}:=by
    refine⟨?_,λ t av ht=>?_,.nil,.inl ⟨rfl,rfl⟩⟩
    .show(p++Array.replicate (fn.ntmps-p.size) undef).size=args.length+(fn.ntmps-args.length);simp[W]
    .have A:s.get t=some av:=ht;rw[hs]at A;by_cases e:0<=t/\t<0+args.length
     .rw[aq e,Ax]at A;have⟨u,J,I⟩:=V.get A;refine⟨u,?_,I⟩;show(p++Array.replicate (fn.ntmps-p.size) undef)[t]?=some u;rw[aeV ω];simpa using J
     .rw[ao e,Tr.Gk]at A;cases A
   have⟨_,D⟩:=DB B RO c _ _ _ _ _ Z (B.pl f fn c Q z)
   refine D 0 ρ none _ w _ hh PA λ e T C M he O X cT=>?_
   have fin:LeavesInM Fence.wide 0 P fn C.tmps (λ e w'=>∃u bM,e=.returned u/\Rl bM (ado l) u/\HR E w0 bM H' w'/\cV ρ H bM H') C.defers .returning M:=by refine K 0 fn C.tmps _ T M C.defers X O.marks λ w2 L ck=>?_;have⟨u,J,I⟩:=aDV B (fn:=fn) L O.Bu hl;exact⟨u,J,u,T,rfl,I,L,cT.trans ck⟩
   rcases hex with rfl|rfl<;>cases e<;>first|(cases he;done)|exact fin
def Hz(P:e8)(E:aK)(w0:bI):Prop:=∀f h args H v H',E.Q.get f=some (h+2)->vD E (h+2) args H=.ok (v,H')->Sn P E w0 f args H v H'
theorem ahb(u:eW P E)(B:Hz P E w0):∀n,Aq P E w0 (mw E n)
 |0=>⟨λ _ _ _ _ _ h=>(by cases h),λ _ _ _ _ _ h=>(by cases h)⟩
 |n+1=>by
  have z:=ahb u B n
  refine⟨λ f args H v H' h=>?_,λ l args H v H' h=>?_⟩
  .have p:cB E.Q f (λ h=>eC (oU E (mw E n) f args H) (λ p=>eC (oU E (mw E n) f args H) (λ _=>vD E h args H) p) h) (oU E (mw E n) f args H)=.ok (v,H'):=h
   rw[jJ]at p;cases A:E.Q.get f with
   |none=>rw[A]at p;exact Zo u z p
   |some k=>
    rw[A]at p
    rcases k with _|_|k
    .exact Zo u z p
    .exact Zo u z p
    .exact B f k args H v H' A p
  .exact Xf u z h
def akg(C:eW P E)(B:Hz P E w0)(h:mw E n (.call f l) H=.ok (.lit v,H'))(p:HR E w0 ρ H w0)(z:cA ρ l tm.toList):Calls P f tm w0 λ e w'=>e=.returned v/\jG (λ _=>False) w0 w':=by
 have⟨_,U⟩:=(ahb C B n).call _ _ _ _ _ h ρ w0 tm p z
 refine U.mono ?_
 rintro e w' ⟨u,bM,rfl,F,A,_⟩
 exact⟨by rw[F.fI],A.ia⟩
end
variable{α:Type}
structure OI where
 d:Nat
 l:Nat
 a:Nat
 c:Nat
def By(l:List dy):Nat:=List.rec (motive:=λ _=>Nat) 0 (λ x _ h=>match x with|.tmp t=>Nat.lor (Nat.pow 2 t) h|_=>h) l
def Ix(o:Oper):Nat:=match o.dst with|some t=>Nat.pow 2 t|none=>0
def ajA(l:List Oper)(n:Nat):Option Oper:=List.rec (motive:=λ _=>Nat->Option Oper) (λ _=>none) (λ a _ h n=>Nat.rec (motive:=λ _=>Option Oper) (some a) (λ m _=>h m) n) l n
def LC(ak:List Oper)(o:Oper):Nat:=match o.guard with|none=>0|some (g,_)=>match ajA ak g with|some o'=>Ix o'|none=>0
def Is(o:Op):Nat:=match kX o with|.pu=>0|.ro=>1|.al=>2|.wr=>3
def afB(i:Nat)(t:Tr OI)(l:List Edge)(k:Nat->Bool):Bool:=List.rec (motive:=λ _=>Nat->Bool) k (λ e _ h m=>aB (h m) (aB false (cB t e.on (λ q=>d_ (Nat.lor m (Nat.lor (Nat.pow 2 e.on) q.a)) h) false) (Nat.blt e.on i)) (Region.binds .any e)) l 0
def aa5(ak:List Oper)(l:List Oper)(k:Tr OI->Bool):Nat->Tr OI->Bool:=List.rec (motive:=λ _=>Nat->Tr OI->Bool) (λ _ t=>k t) (λ o _ h i t=>afB i t o.after.toList λ a=>d_ (Nat.lor (By o.op.operands.toList) (LC ak o)) λ lm=>d_ (Ix o) λ d=>d_ (Is o.op) λ c=>j_ 64 t i (some ⟨d,lm,a,c⟩) (λ t'=>d_ (Nat.succ i) λ i'=>h i' t') false) l
def H_(n:Nat)(p:Nat->Bool):Bool:=Nat.rec (motive:=λ _=>Bool) true (λ i h=>aB false h (p i)) n
def Rr(a b:Bool):Bool:=aB b true a
def ajJ(t:Tr OI)(i m:Nat):Bool:=cB t i (λ q=>cB t m (λ r=>Rr (Nat.beq i m) (aB false (Rr (Nat.beq (Nat.land r.d q.l) 0) (Rr (Nat.testBit q.a m) (Nat.testBit r.a i))) (Nat.beq (Nat.land q.d r.d) 0))) false) false
def adK(t:Tr OI)(n i:Nat):Bool:=cB t i (λ q=>H_ n λ m=>cB t m (λ r=>Rr (Nat.beq (Nat.land r.d q.l) 0) (Nat.testBit q.a m)) false) false
def G0(l:AT)(m:Nat):Nat:=List.rec (motive:=λ _=>Nat) m (λ i _ h=>Nat.lor (Nat.pow 2 i) h) l
def RX(t:Tr OI)(pl:List di)(k:Nat->Nat->Bool):Nat->Nat->Nat->Nat->Bool:=List.rec (motive:=λ _=>Nat->Nat->Nat->Nat->Bool) (λ done _ _ ag=>k done ag) (λ p _ z done wm rm ag=>match p with|.op i=>cB t i (λ q=>aB (aB false (aB false (aB (d_ (Nat.lor done (Nat.pow 2 i)) λ u=>d_ (aB rm (Nat.lor rm (Nat.pow 2 i)) (Nat.beq q.c 1)) λ h=>z u wm h ag) false (Nat.beq q.c 3)) (Nat.beq (Nat.lor wm q.a) q.a)) (Nat.beq (Nat.lor done q.a) done)) false (Nat.testBit done i)) false|.wr i re=>cB t i (λ q=>aB (aB false (aB false (d_ (G0 re q.a) λ am=>aB false (d_ (Nat.lor done (Nat.pow 2 i)) λ u=>d_ (Nat.lor wm (Nat.pow 2 i)) λ A=>d_ (aB rm (Nat.lor rm (Nat.pow 2 i)) (Nat.beq q.c 1)) λ h=>d_ (G0 re ag) λ B=>z u A h B) (Nat.beq (Nat.lor rm am) am)) (Nat.beq (Nat.lor wm q.a) q.a)) (Nat.beq (Nat.lor done q.a) done)) false (Nat.testBit done i)) false) pl
def ai2(l:List β):Nat:=List.rec (motive:=λ _=>Nat) 0 (λ _ _ h=>Nat.succ h) l
def WU(ak:Array Oper)(pl:List di):Bool:=aB false (d_ (ai2 ak.toList) λ n=>aa5 ak.toList ak.toList (λ t=>aB false (RX t pl (λ done ag=>aB false (H_ n λ i=>aB true (adK t n i) (Nat.testBit ag i)) (H_ n λ i=>Nat.testBit done i)) 0 0 0 0) (H_ n λ i=>H_ n λ m=>ajJ t i m)) 0 .e) (Region.noSelect ak)
theorem KR{p:Nat->Bool}:∀{n:Nat},H_ n p=true->∀i,i<n->p i=true
 |0,_,i,h=>ω
 |n+1,h,i,A=>by
  have u:aB false (H_ n p) (p n)=true:=h
  have⟨O,U⟩:=jc u
  by_cases e:i=n
  .rw[e];exact O
  .exact KR U i ω
def WQ{b:Bool}(h:Rr y b=true):y=true\/b=true:=by cases y with|true=>exact .inl rfl|false=>exact .inr h
def O4{x:Bool}(h:aB x false y=true):y=false/\x=true:=by cases y with|true=>cases h|false=>exact⟨rfl,h⟩
def IL{t:Tr α}{k:α->Bool}(h:cB t n k false=true):∃v,t.get n=some v/\k v=true:=by rw[jJ]at h;cases e:t.get n with|none=>rw[e]at h;cases h|some v=>rw[e]at h;exact⟨v,rfl,h⟩
def aEr{t:Tr α}{v:Option α}{k:Tr α->Bool}(h:j_ b t n v k false=true):∃t',(∀j,t'.get j=if j=n then v else t.get j)/\k t'=true:=by rw[DA]at h;cases e:t.set b n v with|none=>rw[e]at h;cases h|some t'=>rw[e]at h;exact⟨t',Tr.adU _ _ _ _ _ e,h⟩
def lor_eq(a b:Nat):Nat.lor a b=a|||b:=rfl
def land_eq(a b:Nat):Nat.land a b=a&&&b:=rfl
def pow_eq(a b:Nat):Nat.pow a b=a^b:=rfl
def Ie(i:Nat):(2^i).testBit i=true:=Nat.testBit_two_pow_self
def Zk(i j:Nat):(2^i).testBit j=decide (i=j):=by rw[aft]
def aFy(x:dy)(l:List dy):By (x::l)=(match x with|.tmp t=>Nat.lor (Nat.pow 2 t) (By l)|_=>By l):=rfl
theorem ala{t:Tmp}:∀{l:List dy},Operand.tmp t∈l->(By l).testBit t=true
 |x::l,h=>by
  have p:=@ala t l
  rw[aFy]
  rcases cZ.1 h with e|U
  .subst e
   show(2^t|||By l).testBit t=true;rw[zg,Ie,Ot]
  .clear h
   cases x with
   |tmp u=>
    show(2^u|||By l).testBit t=true
    rw[zg,p U,Kv]
   |const v=>exact p U|global g=>exact p U|func f=>exact p U
theorem ajB:∀(l:List Oper) (n:Nat),ajA l n=l[n]?
 |[],_=>rfl|a::l,0=>rfl|a::l,n+1=>(ajB l n).trans ζ
def aja{t:Tmp}(h:t∈o.looksAt ak):(Nat.lor (By o.op.operands.toList) (LC ak.toList o)).testBit t=true:=by
 rw[lor_eq,zg,xt];unfold Oper.looksAt at h;rcases b_.1 h with h|h
 .left;have⟨x,Z,he⟩:=YJ.1 h;cases x with|tmp u=>cases he;exact ala Z|const v=>cases he|global g=>cases he|func f=>cases he
 .right;unfold LC;cases z:o.guard with
  |none=>rw[z]at h;simp at h
  |some A=>
   have⟨g,b⟩:=A
   rw[z]at h
   dsimp only at h⊢
   rw[ajB,pG]
   cases p:ak[g]? with
   |none=>rw[p]at h;simp at h
   |some o'=>
    rw[p]at h
    dsimp only
    unfold Ix
    cases hd:o'.dst with
    |none=>simp[hd]at h
    |some u=>
     have:t=u:=by simpa[hd]using h
     subst this
     exact Ie t
theorem Y0{ak:Array Oper}{i:Nat}{o:Oper}{t:Tr OI}{k:Nat->Bool}(D:ak[i]?=some o)(G:∀j q,t.get j=some q->∀m,q.a.testBit m=true->ch ak j m):
 ∀(l:List Edge) (m:Nat),(∀e∈l,e∈o.after)->(∀x,m.testBit x=true->ch ak i x)->
  List.rec (motive:=λ _=>Nat->Bool) k (λ e _ u m=>aB (u m) (aB false (cB t e.on (λ q=>d_ (Nat.lor m (Nat.lor (Nat.pow 2 e.on) q.a)) u) false) (Nat.blt e.on i)) (Region.binds .any e)) l m=true->
  ∃m',k m'=true/\(∀x,m'.testBit x=true->ch ak i x)/\(∀x,m.testBit x=true->m'.testBit x=true)/\∀e∈l,Region.binds .any e=true->m'.testBit e.on=true
 |[],m,_,B,h=>⟨m,h,B,λ _ Z=>Z,ζ⟩
 |e::l,m,I,B,h=>by
  have p:aB (List.rec (motive:=λ _=>Nat->Bool) k (λ e _ u m=>aB (u m) (aB false (cB t e.on (λ q=>d_ (Nat.lor m (Nat.lor (Nat.pow 2 e.on) q.a)) u) false) (Nat.blt e.on i)) (Region.binds .any e)) l m) (aB false (cB t e.on (λ q=>d_ (Nat.lor m (Nat.lor (Nat.pow 2 e.on) q.a)) (List.rec (motive:=λ _=>Nat->Bool) k (λ e _ u m=>aB (u m) (aB false (cB t e.on (λ q=>d_ (Nat.lor m (Nat.lor (Nat.pow 2 e.on) q.a)) u) false) (Nat.blt e.on i)) (Region.binds .any e)) l)) false) (Nat.blt e.on i)) (Region.binds .any e)=true:=h
  cases A:Region.binds .any e with
  |false=>
   rw[A]at p
   have⟨m',O,U,F,J⟩:=Y0 D G l m (λ x Z=>I x (by simp[Z])) B p
   refine⟨m',O,U,F,λ x Z C=>?_⟩
   rcases cZ.1 Z with rfl|Z
   .rw[A]at C;cases C
   .exact J x Z C
  |true=>
   rw[A,xI]at p
   have⟨_,p⟩:=jc p
   have⟨q,K,p⟩:=IL p
   have⟨M,L,T,Q⟩:=q
   dsimp only at p
   rw[mr]at p
   have z:e∈o.after:=I e ζ
   have⟨m',O,U,F,J⟩:=Y0 D G l _ (λ x Z=>I x (by simp[Z])) (λ x Z=>by
    rw[lor_eq,lor_eq,zg,zg,xt,xt]at Z;rcases Z with Z|Z|Z
    .exact B x Z
    .rw[pow_eq,Zk,xz]at Z;exact .bV D z A Z
    .exact .step D z A rfl (G _ _ K x Z)) p
   refine⟨m',O,U,λ x Z=>F x (by rw[lor_eq,zg,Z,Ot]),λ x Z C=>?_⟩
   rcases cZ.1 Z with rfl|Z
   .refine F _ ?_
    rw[lor_eq,lor_eq,zg,zg,pow_eq,Ie];simp
   .exact J x Z C
structure HD(ak:Array Oper)(i:Nat)(o:Oper)(q:OI):Prop where
 d:q.d=Ix o
 l:q.l=Nat.lor (By o.op.operands.toList) (LC ak.toList o)
 c:q.c=Is o.op
 a:∀m,q.a.testBit m=true->ch ak i m
 e:∀e∈o.after,Region.binds .any e=true->q.a.testBit e.on=true
theorem aiD{ak:Array Oper}{k:Tr OI->Bool}:∀(l:List Oper) (i:Nat) (t:Tr OI),(∀j,l[j]?=ak[i+j]?)->(∀j q,t.get j=some q->∃o,ak[j]?=some o/\HD ak j o q)->(∀j o,j<i->ak[j]?=some o->∃q,t.get j=some q)->aa5 ak.toList l k i t=true->∃t',k t'=true/\(∀j q,t'.get j=some q->∃o,ak[j]?=some o/\HD ak j o q)/\∀j o,ak[j]?=some o->∃q,t'.get j=some q
 |[],i,t,C,z,A,h=>⟨t,h,z,λ j o u=>A j o (by
    rcases kb j i with g|g
    .exact g
    .have:=C (j-i)
     rw[show i+(j-i)=j from ω,u]at this;simp at this) u⟩
 |o::l,i,t,C,z,A,h=>by
  have u:ak[i]?=some o:=by have:=C 0;simpa using this.symm
  have J:afB i t o.after.toList (λ a=>d_ (Nat.lor (By o.op.operands.toList) (LC ak.toList o)) λ lm=>d_ (Ix o) λ d=>d_ (Is o.op) λ c=>j_ 64 t i (some ⟨d,lm,a,c⟩) (λ t'=>d_ (Nat.succ i) λ i'=>aa5 ak.toList l k i' t') false)=true:=h
  obtain⟨a,O,U,_,I⟩:=Y0 u (λ j q p m B=>by obtain⟨o',_,F⟩:=z j q p;exact F.a m B) _ 0 (λ e he=>by simpa using he) (λ x Z=>by simp at Z) J
  rw[mr,mr,mr]at O
  obtain⟨t',D,O⟩:=aEr O
  rw[mr]at O
  refine aiD l (i+1) t' (λ j=>?_) (λ j q p=>?_) (λ j o' L K=>?_) O
  .have:=C (j+1)
   rw[show i+1+j=i+(j+1)from ω,<-this];simp
  .rw[D]at p
   split at p
   .rename_i e;subst e;cases p;exact⟨o,u,rfl,rfl,rfl,U,λ e he G=>I e (by simpa using he) G⟩
   .exact z j q p
  .rw[D]
   split
   .exact⟨_,rfl⟩
   .exact A j o' ω K
def TK{t:Tmp}(h:o.dst=some t):Ix o=2^t:=by unfold Ix;rw[h];rfl
def abz{t:Nat}(h:Nat.beq (Nat.land sh b) 0=true)(O:sh.testBit t=true)(U:b.testBit t=true):False:=by
 have p:=su.mp h;rw[land_eq]at p;have:(sh&&&b).testBit t=true:=by rw[YV,O,U];rfl
 rw[p]at this;simp at this
def akS(h:Nat.beq (Nat.lor sh b) b=true)(A:sh.testBit i=true):b.testBit i=true:=by have p:=su.mp h;rw[<-p,lor_eq,zg,A,Ot]
def aFl(h:Nat.beq (Nat.lor sh b) sh=true)(A:b.testBit i=true):sh.testBit i=true:=by have p:=su.mp h;rw[<-p,lor_eq,zg,A,Kv]
theorem abr:∀(l:AT) (m x:Nat),(G0 l m).testBit x=true↔(x∈l\/m.testBit x=true)
 |[],m,x=>by simp[G0]
 |i::l,m,x=>by
  have e:G0 (i::l) m=Nat.lor (Nat.pow 2 i) (G0 l m):=rfl
  rw[e,lor_eq,zg,xt,abr l m x,pow_eq,Zk,xz,cZ,Tk]
  constructor<;>(intro h;rcases h with h|h<;>first|exact .inl h.symm|exact .inr h)
def Rs:(Nat.lor m (Nat.pow 2 i)).testBit b=true↔(m.testBit b=true\/i=b):=by rw[lor_eq,zg,xt,pow_eq,Zk,xz]
def aoJ{o:Op}:Is o=1↔kX o=.ro:=by unfold Is;cases kX o<;>simp
def aoK{o:Op}:Is o=3↔kX o=.wr:=by unfold Is;cases kX o<;>simp
structure MI(ak:Array Oper)(pre:List di)(done wm rm ag:Nat):Prop where
 done:∀x,done.testBit x=true↔∃q∈pre,q.i=x
 wm:∀q∈pre,q.sP=true->wm.testBit q.i=true
 rm:∀q∈pre,∀o,ak[q.i]?=some o->kX o.op=.ro->rm.testBit q.i=true
 ag:∀w re,di.wr w re∈pre->∀i∈re,ag.testBit i=true
structure PC'(ak:Array Oper)(pre:List di)(p:di):Prop where
 lt:p.i<ak.size
 fresh:∀q∈pre,q.i≠p.i
 Rv:∀o,ak[p.i]?=some o->∀e∈o.after,Region.binds .any e=true->∃q∈pre,q.i=e.on
 Hq:∀q∈pre,q.sP=true->ch ak p.i q.i
 cl:∀i,p=.op i->∀o,ak[i]?=some o->kX o.op≠.wr
 rd:∀w re,p=.wr w re->∀q∈pre,∀o,ak[q.i]?=some o->kX o.op=.ro->q.i∈re\/ch ak w q.i
theorem akQ{ak:Array Oper}{t:Tr OI}{k:Nat->Nat->Bool}(ht:∀j q,t.get j=some q->∃o,ak[j]?=some o/\HD ak j o q):∀(pl:List di) (pre:List di) (done wm rm ag:Nat),MI ak pre done wm rm ag->RX t pl k done wm rm ag=true->∃C L I K,k C K=true/\MI ak (pre++pl) C L I K/\∀j p,pl[j]?=some p->PC' ak (pre++pl.take j) p
 |[],pre,done,wm,rm,ag,B,h=>⟨done,wm,rm,ag,h,by simpa using B,λ j p A=>by simp at A⟩
 |p::pl,pre,done,wm,rm,ag,B,h=>by
  have key:∃C L I K,RX t pl k C L I K=true/\MI ak (pre++[p]) C L I K/\PC' ak pre p:=by
   have common:∀{i:Nat} {q:OI},p.i=i->t.get i=some q->Nat.testBit done i=false->Nat.beq (Nat.lor done q.a) done=true->Nat.beq (Nat.lor wm q.a) q.a=true->(∃o,ak[i]?=some o/\HD ak i o q)/\p.i<ak.size/\(∀q∈pre,q.i≠p.i)/\(∀o,ak[p.i]?=some o->∀e∈o.after,Region.binds .any e=true->∃q∈pre,q.i=e.on)/\(∀q∈pre,q.sP=true->ch ak p.i q.i):=by
    intro i q z V O U F
    have⟨o,J,D⟩:=ht i q V
    refine⟨⟨o,J,D⟩,by rw[z];exact(tI.1 J).1,λ r hr e=>?_,λ o' G e he hb=>?_,λ r hr hw=>?_⟩
    .have:=(B.done i).2 ⟨r,hr,e.trans z⟩
     rw[O]at this;cases this
    .rw[z,J]at G;cases G
     exact(B.done e.on).1 (aFl U (D.e e he hb))
    .rw[z]
     exact D.a _ (akS F (B.wm r hr hw))
   have T:∀{i:Nat} {q:OI} {o:Oper},p.i=i->ak[i]?=some o->HD ak i o q->∀r∈pre++[p],∀o,ak[r.i]?=some o->kX o.op=.ro->(aB rm (Nat.lor rm (Nat.pow 2 i)) (Nat.beq q.c 1)).testBit r.i=true:=by
    intro i q o z J D r hr o' G M;rcases b_.1 hr with hr|hr
    .have:=B.rm r hr o' G M;cases Nat.beq q.c 1 with|false=>exact this|true=>exact Rs.2 (.inl this)
    .rw[jo]at hr;subst hr;rw[z,J]at G;cases G;have:Nat.beq q.c 1=true:=by rw[su,D.c];exact aoJ.2 M
     rw[this,xI];exact Rs.2 (.inr z.symm)
   have GB:∀{i:Nat},p.i=i->∀x,(Nat.lor done (Nat.pow 2 i)).testBit x=true↔∃q∈pre++[p],q.i=x:=by
    intro i z x;rw[Rs,B.done x];constructor
    .rintro(⟨q,O,U⟩|h)
     .exact⟨q,by simp[O],U⟩
     .exact⟨p,ζ,z.trans h⟩
    .rintro⟨q,O,U⟩;rcases b_.1 O with O|O
     .exact .inl ⟨q,O,U⟩
     .rw[jo]at O;subst O;exact .inr (z.symm.trans U)
   cases A:p with
   |op i=>
    rw[A]at h
    have u:cB t i (λ q=>aB (aB false (aB false (aB (d_ (Nat.lor done (Nat.pow 2 i)) λ C=>d_ (aB rm (Nat.lor rm (Nat.pow 2 i)) (Nat.beq q.c 1)) λ I=>RX t pl k C wm I ag) false (Nat.beq q.c 3)) (Nat.beq (Nat.lor wm q.a) q.a)) (Nat.beq (Nat.lor done q.a) done)) false (Nat.testBit done i)) false=true:=h
    have⟨q,V,u⟩:=IL u
    have⟨qd,ql,qa,qc⟩:=q
    dsimp only at u
    have⟨Z,u⟩:=O4 u
    have⟨X,u⟩:=jc u
    have⟨W,u⟩:=jc u
    have⟨g4,u⟩:=O4 u
    rw[mr,mr]at u
    have z:p.i=i:=by rw[A];rfl
    have⟨⟨o,J,D⟩,c1,c2,c3,c4⟩:=common z V Z X W
    rw[<-A]
    refine⟨_,_,_,_,u,⟨GB z,λ r hr hw=>?_,T z J D,λ w re hr j hj=>?_⟩,⟨c1,c2,c3,c4,λ i' dJ o' G M=>?_,λ w re e=>?_⟩⟩
    .rcases b_.1 hr with hr|hr
     .exact B.wm r hr hw
     .rw[jo]at hr;subst hr;rw[A]at hw;cases hw
    .rcases b_.1 hr with hr|hr
     .exact B.ag w re hr j hj
     .rw[jo,A]at hr;cases hr
    .rw[A]at dJ;cases dJ
     rw[J]at G;cases G;have:Nat.beq qc 3=true:=by rw[su];exact D.c.trans (aoK.2 M)
     rw[g4]at this;cases this
    .rw[A]at e;cases e
   |wr i re=>
    rw[A]at h
    have u:cB t i (λ q=>aB (aB false (aB false (d_ (G0 re q.a) λ am=>aB false (d_ (Nat.lor done (Nat.pow 2 i)) λ C=>d_ (Nat.lor wm (Nat.pow 2 i)) λ L=>d_ (aB rm (Nat.lor rm (Nat.pow 2 i)) (Nat.beq q.c 1)) λ I=>d_ (G0 re ag) λ K=>RX t pl k C L I K) (Nat.beq (Nat.lor rm am) am)) (Nat.beq (Nat.lor wm q.a) q.a)) (Nat.beq (Nat.lor done q.a) done)) false (Nat.testBit done i)) false=true:=h
    have⟨q,V,u⟩:=IL u
    have⟨qd,ql,qa,qc⟩:=q
    dsimp only at u
    have⟨Z,u⟩:=O4 u
    have⟨X,u⟩:=jc u
    have⟨W,u⟩:=jc u
    rw[mr]at u
    have⟨g4,u⟩:=jc u
    rw[mr,mr,mr,mr]at u
    have z:p.i=i:=by rw[A];rfl
    have⟨⟨o,J,D⟩,c1,c2,c3,c4⟩:=common z V Z X W
    rw[<-A]
    refine⟨_,_,_,_,u,⟨GB z,λ r hr hw=>?_,T z J D,λ w Q hr j hj=>?_⟩,⟨c1,c2,c3,c4,λ i' dJ=>?_,λ w Q e r hr o' G M=>?_⟩⟩
    .rcases b_.1 hr with hr|hr
     .exact Rs.2 (.inl (B.wm r hr hw))
     .rw[jo]at hr;subst hr;exact Rs.2 (.inr z.symm)
    .rw[abr]
     rcases b_.1 hr with hr|hr
     .exact .inr (B.ag w Q hr j hj)
     .rw[jo,A]at hr;cases hr;exact .inl hj
    .rw[A]at dJ;cases dJ
    .rw[A]at e;cases e
     have:=akS g4 (B.rm r hr o' G M);rw[abr]at this;rcases this with this|this
     .exact .inl this
     .exact .inr (D.a _ this)
  have⟨C,L,I,K,O,U,F⟩:=key
  have⟨d2,w2,r2,a2,Z,X,W⟩:=akQ ht pl (pre++[p]) C L I K U O
  refine⟨d2,w2,r2,a2,Z,by simpa using X,λ j p' zM=>?_⟩
  cases j with|zero=>simp at zM;subst zM;simpa using F|succ j=>have:=W j p' (by simpa using zM);simpa using this
theorem ai3{α:Type}:∀l:List α,ai2 l=l.length
 |[]=>rfl|_::l=>iQ Nat.succ (ai3 l)
def aCc(h:WU ak pl=true):rE ak pl:=by
 unfold WU at h;have⟨Z,h⟩:=jc h;rw[mr,ai3,rH]at h;have⟨t,h,L,dV⟩:=aiD ak.toList 0 .e (λ j=>ζ) (λ j q G=>by rw[Tr.Gk]at G;cases G) (λ j o hj=>ω) h;have⟨avV,h⟩:=jc h;have⟨done,wm,rm,ag,h,X,V⟩:=akQ L pl [] 0 0 0 0 ⟨ζ,ζ,ζ,ζ⟩ h;have⟨GB,qO⟩:=jc h;rw[S4]at X;have M:∀(i m:Nat) (o o':Oper),ak[i]?=some o->ak[m]?=some o'->∃q r,HD ak i o q/\HD ak m o' r/\(i=m\/(Nat.beq (Nat.land q.d r.d) 0=true/\(Nat.beq (Nat.land r.d q.l) 0=true\/q.a.testBit m=true\/r.a.testBit i=true))):=by
  intro i m o o' z C;have A:=(tI.1 z).1;have B:=(tI.1 C).1;have u:=KR (KR avV i A) m B;unfold ajJ at u;have⟨q,G,u⟩:=IL u;have⟨r,hr,u⟩:=IL u;have⟨o1,I,aaK⟩:=L i q G;have⟨o2,K,Mq⟩:=L m r hr;rw[z]at I;cases I;rw[C]at K;cases K;have⟨qd,ql,qa,qc⟩:=q;have⟨rd,rl,ra,rc⟩:=r;refine⟨_,_,aaK,Mq,?_⟩;rcases WQ u with u|u
  .exact .inl (su.mp u)
  .have⟨p1,J⟩:=jc u;refine .inr ⟨p1,?_⟩;rcases WQ J with J|J
   .exact .inl J
   .exact .inr (WQ J)
 refine⟨λ j p u=>?_,λ i A=>?_,λ i i' o o' d z C hd xY=>?_,λ i m o o' d z C hd W=>?_,Z⟩
 .have D:=V j p u;rw[S4]at D;refine⟨D.lt,D.fresh,D.Rv,D.Hq,D.cl,D.rd,λ w re e i A o m o' d z C hd W=>?_⟩;have az:=(tI.1 z).1;have Q:=KR qO i az;have auo:=X.ag w re (by rw[<-e];exact oS u) i A;simp only[auo]at Q;have T:adK t ak.size i=true:=Q;unfold adK at T;have⟨q,G,T⟩:=IL T;have⟨o1,I,fk⟩:=L i q G;rw[z]at I;cases I;have⟨qd,ql,qa,qc⟩:=q;have F:=KR T m (tI.1 C).1;have⟨r,hr,F⟩:=IL F;have⟨o2,K,Mq⟩:=L m r hr;rw[C]at K;cases K;have⟨rd,rl,ra,rc⟩:=r;rcases WQ F with F|F
  .exfalso;have e1:rd=2^d:=Mq.d.trans (TK hd);have e2:ql=Nat.lor (By o.op.operands.toList) (LC ak.toList o):=fk.l;exact abz F (by rw[e1];exact Ie d) (by rw[e2];exact aja W)
  .exact fk.a m F
 .have⟨q,O,U⟩:=(X.done i).1 (KR GB i A);have⟨j,hj⟩:=sq O;exact⟨j,q,hj,U⟩
 .have⟨q,r,O,U,F⟩:=M i i' o o' z C;rcases F with F|⟨F,_⟩
  .exact F
  .exfalso;exact abz (t:=d) F (by rw[O.d,TK hd];exact Ie d) (by rw[U.d,TK xY];exact Ie d)
 .have⟨q,r,O,U,F⟩:=M i m o o' z C;rcases F with F|⟨_,F|F|F⟩
  .exact .inl F.symm
  .exfalso;exact abz (t:=d) F (by rw[U.d,TK hd];exact Ie d) (by rw[O.l];exact aja W)
  .exact .inr (.inl (O.a m F))
  .exact .inr (.inr (U.a i F))
variable{Q:List (Nat×Nat)}{γ:Type}
section
variable{β:Type}
theorem akb{α γ:Type}{f:α->(Option γ->R β)->R β}{FS:α->γ->Prop}(A:∀a k q,f a k=.ok q->∃o,k o=.ok q/\∀v,o=some v->FS a v){k:Tr γ->R β}{q:β}{all:List α}:
 ∀(l:List α) (i:Nat) (t:Tr γ),(∀j,l[j]?=all[i+j]?)->(∀j v,t.get j=some v->∃a,all[j]?=some a/\FS a v)->
  jQ (γ:=Nat) (β:=Tr γ->R β) (λ _ t=>k t) (λ a _ C i t=>f a λ v=>j_ 64 t i v (λ t'=>d_ (Nat.succ i) λ i'=>C i' t') (.er [200])) l i t=.ok q->
  ∃t',k t'=.ok q/\∀j v,t'.get j=some v->∃a,all[j]?=some a/\FS a v
 |[],i,t,_,u,h=>⟨t,h,u⟩
 |a::l,i,t,z,u,h=>by
  rw[qA]at h
  obtain⟨o,O,U⟩:=A _ _ _ h
  have⟨t',B,O⟩:=JU O
  rw[mr]at O
  refine akb A l (i+1) t' (λ j=>?_) (λ j v p=>?_) O
  .have:=z (j+1)
   rw[show i+1+j=i+(j+1)from ω,<-this];simp
  .rw[B]at p
   split at p
   .rename_i e;subst e;exact⟨a,by have:=z 0;simpa using this.symm,U v p⟩
   .exact u j v p
def akc{f:α->(Option γ->R β)->R β}{FS:α->γ->Prop}(u:∀a k q,f a k=.ok q->∃o,k o=.ok q/\∀v,o=some v->FS a v){l:List α}{k:Tr γ->R β}{q:β}(h:adL f l k=.ok q):∃t,k t=.ok q/\∀j v,t.get j=some v->∃a,l[j]?=some a/\FS a v:=akb u l 0 .e (λ j=>ζ) (λ j v p=>by rw[Tr.Gk]at p;cases p) h
theorem ajK{α γ:Type}{f:α->(γ->R β)->R β}{FS:α->γ->Prop}(B:∀a k q,f a k=.ok q->∃v,k v=.ok q/\FS a v){k:Tr γ->R β}{q:β}{all:List (Nat×α)}:
 ∀(l:List (Nat×α)) (t:Tr γ),(∀p∈l,p∈all)->(∀j v,t.get j=some v->∃a,(j,a)∈all/\FS a v)->
  jQ (γ:=Tr γ) (β:=R β) k (λ p _ D t=>match p with|(i,a)=>f a λ v=>j_ 64 t i (some v) D (.er [201])) l t=.ok q->
  ∃t',k t'=.ok q/\∀j v,t'.get j=some v->∃a,(j,a)∈all/\FS a v
 |[],t,_,z,h=>⟨t,h,z⟩
 |(i,a)::l,t,A,z,h=>by
  rw[qA]at h
  obtain⟨v,O,U⟩:=B _ _ _ h
  have⟨t',C,O⟩:=JU O
  refine ajK B l t' (λ p F=>A p (by simp[F])) (λ j u hu=>?_) O
  rw[C]at hu
  split at hu
  .rename_i e
   subst e;cases hu;exact⟨a,A _ ζ,U⟩
  .exact z j u hu
def Rt{f:α->(γ->R β)->R β}{FS:α->γ->Prop}(A:∀a k q,f a k=.ok q->∃v,k v=.ok q/\FS a v){l:List (Nat×α)}{k:Tr γ->R β}{q:β}(h:Ny f l k=.ok q):∃t,k t=.ok q/\∀j v,t.get j=some v->∃a,(j,a)∈l/\FS a v:=ajK A l .e (λ p z=>z) (λ j v u=>by rw[Tr.Gk]at u;cases u) h
structure TF(n:Nat)(ts:List TypeInfo)(x:TypeInfo)(i:TI):Prop where
 desc:i.desc=x.desc/\(∀s u,x.desc≠.named s u)\/∃s u y,x.desc=.named s u/\ts[u]?=some y/\i.desc=y.desc
 size:i.size=x.size
 bytes:i.bytes=x.bytes
 zero:∃zv,x.zero=some zv/\i.zero=zv.cells.toList.map J.lit/\((k9 i.desc=true/\∃M,zv=.agg M)\/(k9 i.desc=false/\zv.oneCell'=true))
 len:i.zero.length=i.size
 cell:fX i.zero=true
 br:∀fs,i.desc=.struct fs->∀f∈fs.toList,f.type<n
def apf{ts:List TypeInfo}{d:TypeDesc}{k:TypeDesc->R β}{q:β}(h:ZH ts d k=.ok q):∃p,k p=.ok q/\((p=d/\∀s u,d≠.named s u)\/∃s u y,d=.named s u/\ts[u]?=some y/\p=y.desc):=by
 unfold ZH at h;split at h
 .rename_i s u;obtain⟨y,O,U⟩:=Dr h;exact⟨_,U,.inr ⟨s,u,y,rfl,O,rfl⟩⟩
 .rename_i z;exact⟨d,h,.inl ⟨rfl,λ s u e=>z s u e⟩⟩
def agT{d:TypeDesc}(h:agS n d=true):∀fs,d=.struct fs->∀f∈fs.toList,f.type<n:=by
 rintro fs rfl;have A:jQ (γ:=Unit) (β:=Bool) (λ _=>true) (λ (f:Field) _ z u=>aB false (z u) (Nat.blt f.type n)) fs.toList ()=true:=h;clear h;generalize fs.toList=l at A;induction l with
 |nil=>intro f p;cases p
 |cons g l z=>
  intro f p
  rw[qA]at A
  have⟨O,U⟩:=jc A
  rcases cZ.1 p with rfl|p
  .rw[tK]at O;exact O
  .exact z U f p
def Il{x y:R β}{b:Bool}{q:β}(h:aB x y b=.ok q):(b=false/\x=.ok q)\/(b=true/\y=.ok q):=by cases b with|false=>exact .inl ⟨rfl,h⟩|true=>exact .inr ⟨rfl,h⟩
def ax6{k:AU->R β}{q:β}(h:iA (λ v k=>k (J.lit v)) vs k=.ok q):k (vs.map J.lit)=.ok q:=by
 have⟨l',O,U⟩:=Bh (S:=λ v a=>a=J.lit v) (λ a k q h=>⟨_,rfl,h⟩) h;have:l'=vs.map J.lit:=by clear h U;induction O with|nil=>rfl|cons e _ p=>rw[e,p];rfl
 rw[<-this];exact U
def aFx{ts:List TypeInfo}(x:TypeInfo)(k:Option TI->R β)(q:β)(h:aeb n ts x k=.ok q):∃o,k o=.ok q/\∀i,o=some i->TF n ts x i:=by
 unfold aeb at h;have⟨d,h,hd⟩:=apf h;have D:∀i:TI,i.desc=d->(i.desc=x.desc/\(∀s u,x.desc≠.named s u)\/∃s u y,x.desc=.named s u/\ts[u]?=some y/\i.desc=y.desc):=by intro i e;rw[e];exact hd
 split at h
 .exact⟨none,h,λ i e=>by cases e⟩
 .rename_i z G;rcases Il h with⟨_,h⟩|⟨F,h⟩
  .exact⟨none,h,λ i e=>by cases e⟩
  .split at h
   .rename_i M;replace h:=ax6 h;rw[ux]at h;rcases Il h with⟨_,h⟩|⟨A,h⟩
    .exact⟨none,h,λ i e=>by cases e⟩
    .rcases Il h with⟨_,h⟩|⟨B,h⟩
     .exact⟨none,h,λ i e=>by cases e⟩
     .rcases Il h with⟨_,h⟩|⟨p,h⟩
      .exact⟨none,h,λ i e=>by cases e⟩
      .refine⟨_,h,λ i e=>?_⟩;cases e;exact⟨D _ rfl,rfl,rfl,⟨_,G,rfl,.inl ⟨A,_,rfl⟩⟩,by simpa using B,p,agT F⟩
   .rename_i J;rcases Il h with⟨A,h⟩|⟨_,h⟩
    .rcases Il h with⟨_,h⟩|⟨B,h⟩
     .exact⟨none,h,λ i e=>by cases e⟩
     .rcases Il h with⟨_,h⟩|⟨p,h⟩
      .exact⟨none,h,λ i e=>by cases e⟩
      .refine⟨_,h,λ i e=>?_⟩;cases e;have C:z.oneCell'=true:=QX (ρ:=λ _=>none) (.lit z) p;have I:x.size=1:=by simpa using B
       exact⟨D _ rfl,rfl,rfl,⟨_,G,by rw[Zw C];rfl,.inr ⟨A,C⟩⟩,by rw[I];rfl,by show aB false _ _=true;rw[p];rfl,agT F⟩
    .exact⟨none,h,λ i e=>by cases e⟩
end
section
variable{P:e8}
def aa6{x:TypeInfo}(h:P.types.toList[t]?=some x):P.info? t=some x:=by
 have p:P.types[t]?=some x:=by simpa using h
 have u:t<P.types.size:=(tI.1 p).1;show(if t<P.types.size then P.types[t]? else _)=some x;rw[aq u];exact p
def aFw{x:TypeInfo}{i:TI}(Z:P.types.toList[t]?=some x)(h:TF P.types.toList.length P.types.toList x i):pE P t i:=by
 have A:=aa6 Z;refine⟨?_,⟨x,?_⟩,h.len,h.cell,λ fs e f B=>?_⟩
 .unfold Program.underlying;rw[A];rcases h.desc with⟨e,z⟩|⟨s,u,y,p,D,C⟩
  .rw[e];cases x with
   |mk d=>
    cases d<;>first|rfl|exact absurd rfl (z _ _)
  .have G:=aa6 D;cases x;simp only at p;subst p;simp only[G,xy,C]
 .have⟨zv,O,U,F⟩:=h.zero;exact⟨zv,A,h.size.symm,h.bytes.symm,O,U,F⟩
 .have:=h.br fs e f B;exact⟨P.types.toList[f.type],aa6 (bf this)⟩
def Ze(l:List (Nat×List di))(id:Nat)(ak:Array Oper):Bool:=List.rec (motive:=λ _=>Bool) true (λ p _ h=>match p with|(i,pl)=>aB false h (aB true (WU ak pl) (Nat.beq i id))) l
def tR(l:List (Nat×List di))(c:Code):Bool:=Code.rec (motive:=λ _=>Bool) true (λ id ak d=>aB true (Ze l id ak) d) (λ _ _ a b=>aB false b a) (λ _ _ _ a b=>aB false b a) (λ _ _ a=>a) (λ _ a=>a) (λ _ _ _ _ a b=>aB false b a) (λ _=>true) (λ _ _=>true) (λ _=>true) (λ _=>true) true (λ _=>true) c
def abC(l:List Func)(n:Nat):Option Func:=List.rec (motive:=λ _=>Nat->Option Func) (λ _=>none) (λ a _ h n=>Nat.rec (motive:=λ _=>Option Func) (some a) (λ m _=>h m) n) l n
def WW(P:e8)(pl:BF):Bool:=List.rec (motive:=λ _=>Bool) true (λ p _ h=>match p with|(f,l)=>aB false h (match abC P.funcs.toList f with|some fn=>(match fn.body with|some c=>tR l c|none=>true)|none=>true)) pl
theorem ajz:∀(l:List Func) (n:Nat),abC l n=l[n]?
 |[],_=>rfl|a::l,0=>rfl|a::l,n+1=>(ajz l n).trans ζ
theorem afH{id:Nat}{ak:Array Oper}:∀{l:List (Nat×List di)},Ze l id ak=true->∀pl,(id,pl)∈l->rE ak pl
 |[],_,_,h=>by cases h
 |(i,p)::l,h,pl,B=>by
  have u:aB false (Ze l id ak) (aB true (WU ak p) (Nat.beq i id))=true:=h
  have⟨O,U⟩:=jc u
  rcases cZ.1 B with e|B
  .cases e
   have:Nat.beq id id=true:=su.mpr rfl;rw[this]at O;exact aCc O
  .exact afH U pl B
theorem BU{E:aK}{f:fD}{l:List (Nat×List di)}(p:∀u id pl,E.pl.get f=some u->u.get id=some pl->(id,pl)∈l):∀c:Code,tR l c=true->qG E f c
 |.skip,_=>trivial|.region id ak false,_=>trivial|.region id ak true,h=>λ u pl O U=>afH (l:=l) h pl (p u id pl O U)
 |.seq a b,h=>by have⟨O,U⟩:=jc (y:=tR l a) (x:=tR l b) h;exact⟨BU p a O,BU p b U⟩
 |.cond _ a b,h=>by have⟨O,U⟩:=jc (y:=tR l a) (x:=tR l b) h;exact⟨BU p a O,BU p b U⟩
 |.block _ a,h=>BU p a h|.loop a,h=>BU p a h|.rangeFunc _ _ a b,h=>by have⟨O,U⟩:=jc (y:=tR l a) (x:=tR l b) h;exact⟨BU p a O,BU p b U⟩
 |.exit _,_=>trivial|.ret,_=>trivial|.scope _,_=>trivial|.label _,_=>trivial|.goto _,_=>trivial|.refuse _,_=>trivial
theorem ajP:∀{pl:BF},WW P pl=true->∀f l fn c,(f,l)∈pl->P.funcs[f]?=some fn->fn.body=some c->tR l c=true
 |[],_,_,_,_,_,h,_,_=>by cases h
 |(A,l')::pl,h,f,l,fn,c,B,p,u=>by
  have z:aB false (WW P pl) (match abC P.funcs.toList A with|some fn=>(match fn.body with|some c=>tR l' c|none=>true)|none=>true)=true:=h
  have⟨O,U⟩:=jc z
  rcases cZ.1 B with e|B
  .cases e
   rw[ajz,pG,p]at O;dsimp only at O;rw[u]at O;exact O
  .exact ajP U f l fn c B p u
def azV(h:E.pl.get f=none)(c:Code):qG E f c:=BU (l:=[]) (λ A id pl O=>by rw[h]at O;cases O) c (by induction c with|skip=>rfl|region id ak d=>cases d<;>rfl|seq a b u p=>show aB false (tR [] b) (tR [] a)=true;rw[u,p];rfl|cond x a b u p=>show aB false (tR [] b) (tR [] a)=true;rw[u,p];rfl|block id a z=>exact z|loop a z=>exact z|rangeFunc g ps a b u p=>show aB false (tR [] b) (tR [] a)=true;rw[u,p];rfl|exit id=>rfl|scope a z=>rfl|label l=>rfl|goto l=>rfl|ret=>rfl|refuse w=>rfl)
structure N_(P:Program)(pl:BF)(ky:List (Nat×KS)):Prop where
 wU:WW P pl=true
 nm:∀(f:fD) (fn:Func),P.funcs[f]?=some fn->fn.body.isSome=true->(fn.name== "runtime.NumGoroutine")=false
 ky:∀t ks,(t,ks)∈ky->Ob P t ks
 mixed:P.follows .mixedOrders=true
def ZP{pl:BF}{k:aK->R β}(dW:N_ P pl ky)(h:Iz P pl ky Q k=.ok q):∃E,k E=.ok q/\eW P E/\(∀f n,E.Q.get f=some n->(f,n)∈Q)/\(∀g id,E.gl.get g=some id->g=0/\id=0):=by
 unfold Iz at h
 rw[ux]at h
 have⟨tt,h,z⟩:=akc (λ x k q h=>aFx x k q h) h
 replace h:=akc (FS:=λ a v=>v=a) (λ a k q h=>⟨_,h,λ v e=>(FX e).symm⟩) h;have⟨ft,h,J⟩:=h
 unfold ajQ at h
 replace h:=Rt (FS:=λ (a:List (Nat×List di)) (v:Tr (List di))=>∀id p,v.get id=some p->(id,p)∈a) (λ a k q h=>by have⟨t,O,U⟩:=Rt (FS:=λ (a v:List di)=>v=a) (λ a k q h=>⟨_,h,rfl⟩) h;exact⟨t,O,λ id p u=>by have⟨a',F,G⟩:=U id p u;rw[G];exact F⟩) h
 have⟨pt,h,B⟩:=h
 replace h:=Rt (FS:=λ (a v:KS)=>v=a) (λ a k q h=>⟨_,h,rfl⟩) h;have⟨kt,h,Ez⟩:=h
 replace h:=Rt (FS:=λ (a v:Nat)=>v=a) (λ a k q h=>⟨_,h,rfl⟩) h;have⟨ht,h,C⟩:=h
 replace h:=Rt (FS:=λ (a v:Nat)=>v=a) (λ a k q h=>⟨_,h,rfl⟩) h;have⟨gt,h,K⟩:=h
 refine⟨_,h,⟨λ t i A=>?_,λ f fn D=>?_,dW.nm,λ t ks V=>?_,dW.mixed,λ f fn c D Z=>?_⟩,λ f n W=>?_,λ g id X=>?_⟩
 .have⟨x,O,U⟩:=z t i A
  exact aFw O U
 .have⟨a,O,U⟩:=J f fn D
  rw[U];simpa using O
 .have⟨a,O,U⟩:=Ez t ks V
  rw[U];exact dW.ky t a O
 .cases u:pt.get f with
  |none=>exact azV u c
  |some M=>
   have⟨l,O,U⟩:=B f M u
   have⟨a,F,G⟩:=J f fn D
   have T:P.funcs[f]?=some fn:=by rw[G];simpa using F
   refine BU (λ L id p' I h6=>?_) c (ajP dW.wU f l fn c O T Z)
   rw[u]at I;cases I
   exact U id p' h6
 .have⟨a,O,U⟩:=C f n W
  rw[U];exact O
 .have⟨a,O,U⟩:=K g id X
  simp at O;exact⟨O.1,by rw[U,O.2]⟩
def yW(w:bI)(g_:AT):Prop:=∃c e fz,w.heap[0]?=some (.cells c e fz)/\∀(i n:Nat),g_[i]?=some n->c[i]?=some (.int .u8 n)
def ahF{g_:AT}{k:D->R β}(h:Mc g_ k=.ok q):∃H,k H=.ok q/\∀(E:aK) (w:bI),(∀g id,E.gl.get g=some id->g=0/\id=0)->yW w g_->∃ρ,HR E w ρ H w:=by
 unfold Mc at h;obtain⟨l,O,h⟩:=Bh (S:=λ (n:Nat) a=>a=J.lit (.int .u8 (.ofNat n))) (λ a k q h=>⟨_,rfl,h⟩) h;replace h:=sd h;obtain⟨t,G,h⟩:=h;rw[ux]at h;replace h:=vP h;obtain⟨H,B,h⟩:=h;refine⟨H,h,λ E w M W=>?_⟩;obtain⟨c,e,fz,F,C⟩:=W;have z:∀j,H.t.get j=if j=0 then some (.cells l.length t true)else none:=by intro j;rw[B.2 j];show(if j=0 then _ else(Tr.e:Tr AO).get j)=_;rw[Tr.Gk]
 have I:∀(i:Nat) av,l[i]?=some av->∃n:Nat,g_[i]?=some n/\av=.lit (.int .u8 n):=by
  clear h G B z F C;clear h;induction O with
  |nil=>intro i av h;simp at h
  |@cons a b Z X e _ T=>
   intro i av h
   cases i with|zero=>simp at h;subst h;exact⟨a,rfl,e⟩|succ i=>simpa using T i av (by simpa using h)
 have bA:l.length<=c.size:=by
  rcases kb c.size l.length with g|g
  .obtain⟨n,U,_⟩:=I c.size l[c.size] (bf g);have:=C c.size n U;simp at this
  .exact g
 have one:∀{i b s N},(λ i=>if i=0 then some (0,0,c.size)else none:bh) i=some (b,s,N)->i=0/\b=0/\s=0/\N=c.size:=by
  intro i b s N A;dsimp only at A;split at A
  .cases A;exact⟨by assumption,rfl,rfl,rfl⟩
  .cases A
 refine⟨λ i=>if i=0 then some (0,0,c.size)else none,⟨λ i p A=>?_,λ i b s N o A u=>?_,λ i j b s N s' N' o o' A K _ _ _=>?_,λ i b s N o A u Q=>?_,λ i b s N A=>?_,λ g i V=>?_,jG.refl _ _,λ i A=>?_⟩⟩
 .obtain⟨b,s,N⟩:=p;obtain⟨rfl,_⟩:=one A;rw[B.1];exact Nat.zero_lt_succ _
 .obtain⟨rfl,rfl,rfl,rfl⟩:=one A;rw[z,aq rfl]at u;cases u;refine⟨c,e,fz,F,rfl,ω,λ h=>(by cases h),λ j av K L=>?_,λ _=>rfl⟩;rw[G,aq ω,Ax]at L;obtain⟨n,U,rfl⟩:=I j av L;exact⟨_,by rw[mQ];exact C j n U,.lit _⟩
 .rw[(one A).1,(one K).1]
 .rw[z]at u;split at u
  .cases u;cases Q
  .cases u
 .obtain⟨_,rfl,_,_⟩:=one A;exact DZ F
 .obtain⟨rfl,rfl⟩:=M g i V;exact⟨c.size,rfl⟩
 .rw[z,ao];rintro rfl;rw[B.1]at A;exact absurd A (by show¬(0+1<=0);omega)
def abl(r:R (J×D)):Option aC:=match r with|.ok p=>(match p with|(v,_)=>match v with|.lit v=>some v|_=>none)|.er _=>none
def aoH{pl:BF}{g_:AT}{fuel:Nat}(dW:N_ P pl ky)(h:abl (runK P pl ky Q g_ fuel f l)=some v)(G:∀ρ,cA ρ l tm.toList)(w:bI)(B:yW w g_)(J:∀E,eW P E->(∀f n,E.Q.get f=some n->(f,n)∈Q)->Hz P E w):Calls P f tm w λ e w'=>e=.returned v/\jG (λ _=>False) w w':=by
 have hr:∃H',runK P pl ky Q g_ fuel f l=.ok (.lit v,H'):=by
  unfold abl at h;split at h
  .rename_i p C;obtain⟨u,H'⟩:=p;dsimp only at h;split at h
   .cases h;exact⟨H',C⟩
   .cases h
  .cases h
 obtain⟨H',hr⟩:=hr
 unfold runK at hr
 obtain⟨E,O,A,D,F⟩:=ZP dW hr
 obtain⟨H,U,I⟩:=ahF O
 obtain⟨ρ,z⟩:=I E w F B
 exact akg A (J E A D) U z (G ρ)
end
variable{f:FuncId}{off:Nat}{w:World}
section
open Go.RowKit Go.Sort
def HR.grown(h:HR E w0 ρ H w)(os:Array Obj):HR E w0 ρ H (grow w os):=by
 have⟨l⟩:=os;have key:∀(l:List Obj) (w:World),HR E w0 ρ H w->HR E w0 ρ H (grow w ⟨l⟩):=by
  intro l;induction l with
  |nil=>intro w h;rw[show(⟨[]⟩:Array Obj)=#[]from rfl,grow_empty];exact h
  |cons o l p=>
   intro w h
   have e:grow w ⟨o::l⟩=grow (w.alloc o) ⟨l⟩:=by rw[alloc_eq_grow,grow_grow];congr 1;apply Array.toList_inj.1;simp
   rw[e];exact p _ (h.more o)
 exact key l w h
def ax1{f:Array Value->Array Value}{c:Array Value}{e:TypeId}(h:w.heap[b]?=some (.cells c e fz)):(mapBlock w b f).heap[b]?=some (.cells (f c) e fz):=by unfold mapBlock;rw[aeX,aq rfl,h];rfl
def ax2{f:Array Value->Array Value}(h:sh≠b):(mapBlock w b f).heap[sh]?=w.heap[sh]?:=by unfold mapBlock;rw[aeX,ao (qj h)]
def HR.sorted[Inhabited α]{enc:α->Value}(hr:HR E w0 ρ H w){L:AU}(d:Array α)(A:ρ ah=some (b,sh,N))(D:H.t.get ah=some (.cells m cI false))(hd:d.size=L.length)(hn:off+L.length<=m)(J:cA ρ L (d.toList.map enc))(I:∀j,t1.get j=if off<=j/\j<off+L.length then L[j-off]? else cI.get j)(K:tG H ah (some (.cells m t1 false)) H')(k:Nat)(os:Array Obj):HR E w0 ρ H' (grow (putRow enc (Sort.ahead w k) b (sh+off) d) os)/\cV ρ H ρ H':=by
 have B:HR E w0 ρ H (Sort.ahead w k):=hr.drew rfl rfl rfl rfl
 have⟨c,e,fz,U,F,T,Q,O,M⟩:=B.obj _ _ _ _ _ A D
 rw[Q rfl]at U
 have key:=B.XE (w':=putRow enc (Sort.ahead w k) b (sh+off) d) A D rfl rfl K ?_ ?_ ?_ rfl rfl rfl
 .exact⟨key.1.grown os,key.2⟩
 .unfold putRow
  rw[ax1 U];refine⟨_,e,(0,0),rfl,by rw[<-F];unfold putCells;simp,T,λ _=>rfl,λ i av Z h=>?_,M⟩;rw[I]at h;unfold putCells;rw[Array.getElem?_mapIdx];by_cases G:off<=i/\i<off+L.length
  .rw[aq G]at h;have⟨v,z,u⟩:=J.get h;have X:sh+i<c.size:=ω
   rw[HO X,xy,aq ⟨ω,ω⟩];refine⟨_,rfl,?_⟩;have p:i-off<d.size:=ω
   have W:sh+i-(sh+off)=i-off:=ω
   rw[W];have V:(d.toList.map enc)[i-off]?=some (enc d[i-off]!):=by rw[y',pG,HO p,FZ d _ p];rfl
   have C:(d.toList.map enc)[i-off]?=some v:=z;rw[V]at C;cases C;exact u
  .rw[ao G]at h;have⟨v,z,u⟩:=O i av Z h;rw[z,xy,ao ω];exact⟨_,rfl,u⟩
 .unfold putRow mapBlock;simp
 .intro j p;unfold putRow;exact ax2 p
def akH[Inhabited α]{enc:α->Value}{sc:List α->List α}(Va:∀ns,(sc ns).length=ns.length)(Vs:∀vs (k:AU->R (J×D)) q,Ag vs k=.ok q->∃ns:List α,vs=ns.map enc/\k ((sc ns).map λ n=>J.lit (enc n))=.ok q){v:J}(G:∀args w,(callFunc f args).run P w=.ok (.enter f args) w)(F:(∀bF off cap (zs:List α) w,Sort.Holds enc w bF off zs.toArray->bF<w.heap.size->zs.length<4611686018427387904->Calls P f #[.slice (some ⟨bF,off,none⟩) zs.length cap] w λ e w'=>e=.returned (.tuple #[])/\∃n os,w'=Sort.grow (Sort.putRow enc (Sort.ahead w n) bF off (sc zs).toArray) os)/\∀p cap w,Calls P f #[.slice p 0 cap] w λ e w'=>e=.returned (.tuple #[])/\w'=w)(h:DE Ag x H (λ H'=>.ok (.dh [],H'))=.ok (v,H')):Sn P E w0 f [x] H v H':=by
 unfold DE pz at h
 have one:∀{ρ:bh} {z:Array Value},cA ρ [x] z.toList->∃a:Value,z=#[a]/\Rl ρ x a:=by
  intro ρ z u;cases z with|mk l=>
  cases u with|cons O U=>cases U;exact⟨_,rfl,O⟩
 split at h
 .rename_i id off gM n cap ex
  replace h:=oB h;obtain⟨ob,B,h⟩:=h;split at h
  .rename_i m M ro;replace h:=db h;obtain⟨g1,h⟩:=h;replace h:=db h;obtain⟨g2,h⟩:=h;replace h:=He h;obtain⟨l,g3,g4,h⟩:=h;have IG:gM=1:=by simpa using Ou (by simpa using g1:1=gM)
   subst IG;have PB:off+n*1<=m:=by simpa[kC,add_eq,mul_eq]using g2
   cases n with
   |zero=>
    cases h
    intro ρ w z hr u
    obtain⟨a,rfl,A⟩:=one u
    obtain⟨b,sh,N,c,C,k1,k2,k3,k4,k5,rfl⟩:=A.rT
    refine⟨G _ _,(F.2 _ c w).mono ?_⟩
    rintro e w' ⟨rfl,rfl⟩
    exact⟨_,ρ,rfl,.dh (l':=#[]) .nil,hr,cV.refl _ _⟩
   |succ n=>
    replace h:=db h;obtain⟨g5,h⟩:=h
    have g5':n+1<=1152921504606846976:=by simpa[kC]using g5
    replace h:=ai6 h;obtain⟨xs,T,h⟩:=h
    replace h:=Vs _ _ _ h;obtain⟨ns,V,h⟩:=h
    dsimp only at h
    replace h:=oB h;obtain⟨ob2,QB,h⟩:=h
    rw[B]at QB;cases QB
    dsimp only at h
    cases ro with
    |true=>cases h|false=>
    replace h:=sd h;obtain⟨t',rS,h⟩:=h
    replace h:=rk h;obtain⟨H1,hT,h⟩:=h
    cases h
    intro ρ w z hr u
    obtain⟨a,rfl,A⟩:=one u
    obtain⟨b,sh,N,c,C,k1,k2,k3,k4,k5,rfl⟩:=A.rT
    have hlen:(sc ns).length=n+1:=by rw[Va ns,<-g3.trans (BR _),T,V];simp
    have X:ns.length=n+1:=by rw[<-Va ns];exact hlen
    obtain⟨vs,q1,I,W⟩:=hr.read C B PB g3 g4
    have kL:vs=ns.map enc:=by
     rw[T,V]at I;clear q1 W;generalize vs=us at I;have key:∀(ms:List α) (us:List Value),cA ρ ((ms.map (enc)).map J.lit) us->us=ms.map enc:=by intro ms;induction ms with|nil=>intro us h;cases h;rfl|cons m ms Q=>intro us h;cases h with|cons O U=>rw[Q _ U,O.fI];rfl
     exact key ns us I
    obtain⟨cc,e,fz,K,o2,o3,o4,o5,o6⟩:=hr.obj _ _ _ _ _ C B
    rw[o4 rfl]at K
    have hH:Sort.Holds (enc) w b (sh+off) ns.toArray:=by
     intro j Z;have mz:j<ns.length:=by simpa using Z
     refine⟨?_,aqu K⟩;have:=W j (enc ns[j]) (by rw[kL,y',bf mz];rfl);rw[FZ _ j Z];have ea:((⟨b,sh+off,none⟩:Addr).add j)=⟨b,sh+off+j,none⟩:=by unfold Addr.add;split<;>simp_all
     rw[ea]at this;simpa[]using this
    have hc:=F.1 b (sh+off) c ns w hH (DZ K) (by rw[X];omega)
    rw[X]at hc
    refine⟨G _ _,hc.mono ?_⟩
    rintro e2 w' ⟨rfl,k,os,rfl⟩
    obtain⟨z1,z2⟩:=hr.sorted (enc:=enc) (L:=(sc ns).map λ n=>J.lit (enc n)) (sc ns).toArray C B ζ (by rw[bW,hlen];omega) (by
     have key:∀ms:List α,cA ρ (ms.map λ n=>J.lit (enc n)) (ms.map (enc)):=by intro ms;induction ms with|nil=>exact .nil|cons m ms Q=>exact .cons (.lit _) Q
     exact key _) rS hT k os
    exact⟨_,ρ,rfl,.dh (l':=#[]) .nil,z1,z2⟩
  .cases h
 .cases h
  intro ρ w z hr u;obtain⟨a,rfl,A⟩:=one u;rw[A.fI];refine⟨G _ _,(F.2 _ _ w).mono ?_⟩;rintro e w' ⟨rfl,rfl⟩;exact⟨_,ρ,rfl,.dh (l':=#[]) .nil,hr,cV.refl _ _⟩
 .cases h
  intro ρ w z hr u;obtain⟨a,rfl,A⟩:=one u;obtain⟨a2,c,rfl⟩:=A.EY;refine⟨G _ _,(F.2 _ c w).mono ?_⟩;rintro e w' ⟨rfl,rfl⟩;exact⟨_,ρ,rfl,.dh (l':=#[]) .nil,hr,cV.refl _ _⟩
 .cases h
end
variable{v:Value}{w':World}
def A8(n:Int):BW->BW
 |[]=>[n]|m::l=>if n<=m then n::m::l else m::A8 n l
def lK:BW->BW
 |[]=>[]|n::l=>A8 n (lK l)
def aoL(n m:Int):(match n,m with|.ofNat a,.ofNat b=>Nat.ble a b|.negSucc a,.negSucc b=>Nat.ble b a|.negSucc _,.ofNat _=>true|.ofNat _,.negSucc _=>false)=decide (n<=m):=by
 cases n with
 |ofNat a=>
  cases m with
  |ofNat b=>
   show Nat.ble a b=decide ((a:Int)<=(b:Int))
   rw[qH,kC,xz]
   omega
  |negSucc b=>symm;show decide (Int.ofNat a<=Int.negSucc b)=false;rw[Th];have:=ae3 b;have:=Yv a;simp only[Yx];omega
 |negSucc a=>
  cases m with
  |ofNat b=>symm;show decide (Int.negSucc a<=Int.ofNat b)=true;rw[xz];have:=ae3 a;have:=Yv b;simp only[Yx];omega
  |negSucc b=>
   show Nat.ble b a=decide (Int.negSucc a<=Int.negSucc b)
   rw[qH,kC,xz,Yw,Yw]
   omega
theorem aa7{β:Type}(n:Int):∀(l:BW) (k:BW->R β),MW n l k=k (A8 n l)
 |[],k=>rfl
 |m::l,k=>by
  have h:MW n (m::l) k=aB (MW n l λ r=>k (m::r)) (k (n::m::l)) (match n,m with|.ofNat a,.ofNat b=>Nat.ble a b|.negSucc a,.negSucc b=>Nat.ble b a|.negSucc _,.ofNat _=>true|.ofNat _,.negSucc _=>false):=rfl
  rw[h,aoL,aa7 n l]
  by_cases e:n<=m
  .rw[Ti e,show A8 n (m::l)=n::m::l from aq e];rfl
  .rw[OJ e,show A8 n (m::l)=m::A8 n l from ao e];rfl
theorem RW{β:Type}:∀{l:List Value} {k:BW->R β} {q:β},q_ l k=.ok q->∃ns:BW,l=ns.map (Value.int .i64)/\k (lK ns)=.ok q
 |[],k,q,h=>⟨[],rfl,h⟩
 |v::l,k,q,h=>by
  have p:(match v with|.int .i64 n=>q_ l λ r=>MW n r k|_=>.er [149])=.ok q:=h
  split at p
  .rename_i n
   obtain⟨ns,O,U⟩:=RW (l:=l) p;rw[aa7]at U;exact⟨n::ns,by rw[O];rfl,U⟩
  .cases p
theorem aa8(n:Int):∀l:BW,(A8 n l).Perm (n::l)
 |[]=>HT _
 |m::l=>by
  unfold A8
  split
  .exact HT _
  .exact((aa8 n l).cons m).trans (List.Perm.swap n m l)
theorem yB:∀l:BW,(lK l).Perm l
 |[]=>HT _|n::l=>(aa8 n _).trans ((yB l).cons n)
theorem aiE(n:Int):∀l:BW,l.Pairwise (·<= ·)->(A8 n l).Pairwise (·<= ·)
 |[],_=>by simp[A8]
 |m::l,h=>by
  unfold A8
  rw[xw]at h
  split
  .rename_i p
   rw[xw];refine⟨λ x Z=>?_,by rw[xw];exact h⟩;rcases cZ.1 Z with rfl|Z
   .exact p
   .exact Int.le_trans p (h.1 x Z)
  .rename_i p
   rw[xw];refine⟨λ x Z=>?_,aiE n l h.2⟩;rcases cZ.1 ((aa8 n l).mem_iff.1 Z)with rfl|Z
   .omega
   .exact h.1 x Z
theorem QY:∀l:BW,(lK l).Pairwise (·<= ·)
 |[]=>List.Pairwise.nil|n::l=>aiE n _ (QY l)
def ajj(h:ss.Perm ns):ss.mergeSort leI=lK ns:=by rw[mergeSort_of_perm_i (h.trans (yB ns).symm)];exact List.mergeSort_of_pairwise ((QY ns).imp λ h=>by simpa[leI]using h)
def aiK(h:yA v=true):∃n:Int,v=.int .i64 n/\(Lit.int .i64 n).wf=true:=by
 unfold yA at h;split at h
 .rename_i n;refine⟨n,rfl,?_⟩;show(decide (IntKind.i64.min<=n)&&decide (n<=IntKind.i64.max))=true;have u:IntKind.i64.min=-9223372036854775808:=rfl;have p:IntKind.i64.max=9223372036854775807:=rfl;rw[u,p,v8,xz,xz];cases n with
  |ofNat a=>have:=OD h;simp only[Yx];omega
  |negSucc a=>have:=OD h;rw[Yw];omega
 .cases h
theorem afD{b:Nat}{v:Value}:∀{l:List AE},tM b v l=true->∀e∈l,e.b≠b/\c8 e.k v=false
 |[],_,e,he=>by cases he
 |⟨x,b',u⟩::l,h,e,he=>by
  have z:aB (aB (tM b v l) false (c8 x v)) false (Nat.beq b' b)=true:=h
  have⟨O,U⟩:=O4 z
  have⟨F,p⟩:=O4 U
  rcases cZ.1 he with A|he
  .subst A
   exact⟨λ e=>by rw[<-su]at e;rw[O]at e;exact absurd e η,F⟩
  .exact afD p e he
theorem ajc{c:Nat}:∀{l:List AE},jE c l=true->(∀e∈l,e.b<c/\yA e.k=true)/\(l.map (·.b)).Nodup/\(l.map (·.k)).Nodup
 |[],_=>⟨ζ,ζ,ζ⟩
 |⟨x,b,u⟩::l,h=>by
  have p:aB false (aB false (aB false (jE c l) (tM b x l)) (yA x)) (Nat.blt b c)=true:=h
  have⟨O,p⟩:=jc p
  have⟨U,p⟩:=jc p
  have⟨F,p⟩:=jc p
  have⟨K,J,I⟩:=ajc p
  have z:=afD F
  refine⟨λ e he=>?_,?_,?_⟩
  .rcases cZ.1 he with L|he
   .subst L;exact⟨by rw[tK]at O;exact O,U⟩
   .exact K e he
  .rw[kB,OA]
   refine⟨λ B=>?_,J⟩;have⟨e,he,G⟩:=jn.1 B;exact(z e he).1 G
  .rw[kB,OA]
   refine⟨λ B=>?_,I⟩;have⟨e,he,Q⟩:=jn.1 B;have:=(z e he).2;have A:e.k=x:=Q;rw[A]at this;have⟨n,D,_⟩:=aiK U;have C:c8 x x=true:=by rw[D];exact Pn (ks:=.one (.i .i64)) (show oz (.i .i64) (.int .i64 n)=true from rfl)
   rw[C]at this;cases this
def Od(P:Program)(k:TypeId)(w:World)(m:Option Nat)(ks:BW):Prop:=(m=none/\ks=[])\/∃b n h,m=some b/\w.ownsMap (H:=Unit) P k (λ _=>some (.nil,[])) b n h/\(Go.intKeys h).Perm ks/\Maps.size h<=1000000
def axf{k:TypeId}(Q:P.underlying k=some (.int .i64)){es:Array MapEntry}{l:List AE}(C:w.heap[b]?=some (.map es sh))(u:F2 (ER ρ) l es.toList)(B:jE sh l=true)(K:l.length<=1000000)(z:l.map (·.k)=ns.map (Value.int .i64)):Od P k w (some b) ns:=by
 have⟨I,G,D⟩:=ajc B
 have T:es.toList.map (·.born)=l.map (·.b):=by clear C B K z I G D;generalize es.toList=xs at u;induction u with|nil=>rfl|cons h _ A=>simp[h.2.1,A]
 have M:es.toList.map (·.key)=l.map (·.k):=by clear C B K z I G D T;generalize es.toList=xs at u;induction u with|nil=>rfl|cons h _ A=>simp[h.1,A]
 have hlen:es.toList.length=l.length:=u.length.symm
 have J:∀x∈es.toList,∃n:Int,x.key=.int .i64 n/\(Lit.int .i64 n).wf=true/\x.born<sh:=by refine u.all (aR:=λ e=>e.b<sh/\yA e.k=true) I λ e x h L=>?_;have⟨n,O,U⟩:=aiK L.2;exact⟨n,by rw[h.1];exact O,U,by rw[h.2.1];exact L.1⟩
 have V:∀x∈es.toList,∃n:Int,x.key=.int .i64 n/\WideElems.rd (H:=Unit) P k (λ _=>some (.nil,[])) x=some (.int .i64 n,.nil):=by intro x Z;have⟨n,O,U,_⟩:=J x Z;refine⟨n,O,?_⟩;unfold WideElems.rd;rw[O,Maps.keyOf_int_mk Q U];rfl
 refine .inr ⟨b,es.size,_,rfl,⟨es,sh,C,⟨?_,⟨λ x Z=>(J x Z).choose_spec.2.2,by rw[T];exact G,by rw[M];exact D⟩,λ x Z=>by have⟨n,_,h⟩:=V x Z;exact⟨_,h⟩⟩,aF,rfl⟩,?_,?_⟩
 .have:es.size=es.toList.length:=ζ
  unfold maxLen;omega
 .show(List.map (λ p:Lit×DataW Unit=>Go.intOf p.1) _).Perm ns
  refine((WideShapes.sorted_perm _).map _).trans ?_;rw[u_];have:es.toList.map ((λ p:Lit×DataW Unit=>Go.intOf p.1)∘WideElems.rg P k (λ _=>some (.nil,[])))=ns:=by
   have O:es.toList.map ((λ p:Lit×DataW Unit=>Go.intOf p.1)∘WideElems.rg P k (λ _=>some (.nil,[])))=es.toList.map (λ x=>match x.key with|.int _ n=>n|_=>0):=by refine SZ λ x Z=>?_;have⟨n,U,F⟩:=V x Z;simp only[Function.comp,WideElems.rg_of F,U,Go.intOf]
   rw[O];have U:es.toList.map (λ x=>match x.key with|.int _ n=>n|_=>0)=(es.toList.map (·.key)).map (λ v=>match v with|.int _ n=>n|_=>0):=by rw[u_];rfl
   rw[U,M,z,u_];have:((λ v=>match v with|.int _ n=>n|_=>0)∘Value.int .i64)=(id:Int->Int):=rfl;rw[this,List.map_id]
  rw[this]
 .show(List.length _)<=1000000
  rw[(WideShapes.sorted_perm _).length_eq,bW,hlen];omega
def aeL(P:Program)(k ay:TypeId)(f g:FuncId):Prop:=
 ∀(w:World) (h:Nat) (m:Option Nat) (ks:BW),h<w.heap.size->w.cell? ⟨h,0,none⟩=some (.map m)->Od P k w m ks->
  Calls P f #[.func (.func g) #[] #[.pointer (some ⟨h,0,none⟩)]] w λ e w'=>∃(v:Value) (ss:BW),e=.returned v/\ss.Perm ks/\w'.ownsRow w.heap.size ay 1 v ss.length ((ss.mergeSort leI).map encZ)/\(v=.slice none 0 0↔ss=[])/\Below w.heap.size w w'
def aev(P:Program)(k ay:TypeId)(f g:FuncId):Prop:=
 ∀(w:World) (h:Nat) (m:Option Nat) (ks:BW),h<w.heap.size->w.cell? ⟨h,0,none⟩=some (.map m)->Od P k w m ks->
  Calls P f #[.func (.func g) #[] #[.pointer (some ⟨h,0,none⟩)]] w λ e w'=>∃(v:Value) (ss:BW),e=.returned v/\ss.Perm ks/\w'.ownsRow w.heap.size ay 1 v ss.length (ss.map encZ)/\(v=.slice none 0 0↔ss=[])/\Below w.heap.size w w'
def Kr(P:Program)(w0:World)(f:FuncId):Prop:=∀w,jG (λ _=>False) w0 w->Calls P f #[] w λ e w'=>e=.returned (.bool true)/\jG (λ _=>False) w w'
def aeF(P:Program)(f:FuncId):Prop:=
 ∀(b off n c:Nat) (zs:BW) (w:World),0<n->n<=zs.length->n<=9223372036854775807->(∀j,j<zs.length->w.cell? ⟨b,off+j,none⟩=some (.int .i64 (zs.getD j 0)))->
  Calls P f #[.slice (some ⟨b,off,none⟩) n c] w λ e w'=>e=.returned (.int .i64 (Lib.minOf (zs.take n)))/\w'=w
section
variable{P:Program}{E:aK}{w0 w:World}{ρ:bh}{H:D}
def HR.below(h:HR E w0 ρ H w)(p:Below w.heap.size w w'):HR E w0 ρ H w':=⟨h.lt,λ id b s N o u A=>by rw[p.block b (h.bF id b s N u)];exact h.obj id b s N o u A,h.inj,h.own,λ id b s N u=>aT (h.bF id b s N u) p.size,h.vo,⟨p.os.trans h.ia.os,p.tape.trans h.ia.tape,p.output.trans h.ia.output,aY h.ia.size p.size,λ k Q z=>(p.block k (aT Q h.ia.size)).trans (h.ia.block k Q z)⟩,h.Y⟩
def HR.later(h:HR E w0 ρ H w)(u:jG (λ _=>False) w w'):HR E w0 ρ H w':=⟨h.lt,λ id b s N o p z=>by rw[u.block b (h.bF id b s N p) (λ x=>x)];exact h.obj id b s N o p z,h.inj,h.own,λ id b s N p=>aT (h.bF id b s N p) u.size,h.vo,h.ia.trans u,h.Y⟩
def HR.SN(h:HR E w0 ρ H w){aG:Nat}(J:∀id b ah N,ρ id=some (b,ah,N)->b<aG)(hg:aG<=sh)(Q:sh<w.heap.size)(T:w0.heap.size<=sh)(ha:uO H o' H')(W:OR E (ρ.add H.ab (sh,ah,N)) o' ah N w.heap[sh]?):HR E w0 (ρ.add H.ab (sh,ah,N)) H' w/\cV ρ H (ρ.add H.ab (sh,ah,N)) H':=by
 have X:=h.fresh
 have Z:=bh.sk (p:=(sh,ah,N)) X
 obtain⟨hn,B⟩:=ha
 have cases:∀j p,(ρ.add H.ab (sh,ah,N)) j=some p->(j=H.ab/\p=(sh,ah,N))\/(j≠H.ab/\ρ j=some p):=by
  intro j p u;unfold bh.add at u;split at u
  .rename_i e;cases u;exact .inl ⟨e,rfl⟩
  .rename_i e;exact .inr ⟨e,u⟩
 refine⟨⟨?_,?_,?_,?_,?_,?_,h.ia,λ j z=>?_⟩,Z,λ j z fS=>⟨?_,?_⟩,ω⟩
 .intro j p u
  rcases cases j p u with⟨rfl,_⟩|⟨_,u⟩
  .omega
  .have:=h.lt j p u;omega
 .intro j b2 s2 D F u C
  rcases cases j _ u with⟨rfl,e⟩|⟨z,u⟩
  .cases e;rw[B,aq rfl]at C;cases C;exact W
  .rw[B,ao z]at C;exact(h.obj j b2 s2 D F u C).mono Z
 .intro i j b2 s1 N1 s2 D U F h5 M L K h9
  rcases cases i _ h5 with⟨rfl,e⟩|⟨A,O⟩
  .cases e;rcases cases j _ M with⟨rfl,_⟩|⟨z,G⟩
   .rfl
   .have:=J _ _ _ _ G;omega
  .rcases cases j _ M with⟨rfl,e⟩|⟨z,G⟩
   .cases e;have:=J _ _ _ _ O;omega
   .rw[B,ao A]at L;rw[B,ao z]at K;exact h.inj i j b2 s1 N1 s2 D U F O G L K h9
 .intro j b2 s2 D F u C V
  rcases cases j _ u with⟨rfl,e⟩|⟨z,u⟩
  .cases e;exact T
  .rw[B,ao z]at C;exact h.own j b2 s2 D F u C V
 .intro j b2 s2 D u
  rcases cases j _ u with⟨rfl,e⟩|⟨z,u⟩
  .cases e;exact Q
  .exact h.bF j b2 s2 D u
 .intro gg i I
  obtain⟨N',hN⟩:=h.vo gg i I;exact⟨N',Z _ _ hN⟩
 .rw[B,ao ω];exact h.Y j ω
 .unfold bh.add;rw[ao (bC z)];exact fS
 .rw[B,ao (bC z)]
def aiT(hh:∀x n,E.Q.get x=some n->(x,n)∈Q){k:List Value->R β}(h:EZ E x H k=.ok q):
 ∃g id,(g,1)∈Q/\x=.fn (.func g) [] [.ptr id 0]/\∃ks:List Value,k ks=.ok q/\∀(kt:TypeId) (w0:World) (ρ:bh) (w:World),P.underlying kt=some (.int .i64)->HR E w0 ρ H w->∀v,Rl ρ (.fn (.func g) [] [.ptr id 0]) v->∀ns:BW,ks=ns.map (Value.int .i64)->
  ∃z m,v=.func (.func g) #[] #[.pointer (some ⟨z,0,none⟩)]/\z<w.heap.size/\w.cell? ⟨z,0,none⟩=some (.map m)/\Od P kt w m ns:=by
 unfold EZ at h
 split at h
 .rename_i g id
  replace h:=oY h;obtain⟨n,hn,h⟩:=h;replace h:=ajq h;obtain⟨n1,rfl,h⟩:=h;cases n1 with
  |succ n2=>cases h
  |zero=>
   have h:ie H id _=.ok q:=h
   replace h:=oB h;obtain⟨ob,jB,h⟩:=h
   refine⟨g,id,hh _ _ hn,rfl,?_⟩
   split at h
   .rename_i M ro
    replace h:=oY h;obtain⟨m,B,h⟩:=h;have box:∀(w0:World) (ρ:bh) (w:World),HR E w0 ρ H w->∀v,Rl ρ (.fn (.func g) [] [.ptr id 0]) v->∃z u,v=.func (.func g) #[] #[.pointer (some ⟨z,0,none⟩)]/\z<w.heap.size/\w.cell? ⟨z,0,none⟩=some u/\Rl ρ m u:=by
     intro w0 ρ w hr v A;obtain⟨l',m',O,U,rfl⟩:=A.V6;cases l' with|mk l'=>
     cases m' with|mk m'=>
     cases O;cases U with|cons F h4=>
     cases h4;obtain⟨b,s,N,I,rfl⟩:=F.M0;obtain⟨c,e,fz,Z,q2,q3,q4,X,W⟩:=hr.obj _ _ _ _ _ I jB;obtain⟨u,h5,h6⟩:=X 0 m ω B;have GL:=W rfl;subst GL;exact⟨b,u,rfl,hr.bF _ _ _ _ I,O8 Z h5,h6⟩
    split at h
    .rename_i jO;replace h:=oB h;obtain⟨ob2,T,h⟩:=h;split at h
     .rename_i GW c l;rw[ux]at h;replace h:=db h;obtain⟨hlen,h⟩:=h;replace h:=db h;obtain⟨C,h⟩:=h;replace h:=Bh (S:=λ (p:AE) v=>v=p.k) (λ p k q h=>⟨_,rfl,h⟩) h;obtain⟨ks,O,h⟩:=h;have gS:ks=l.map (·.k):=by clear h hlen C T;induction O with|nil=>rfl|cons e _ ih=>rw[e,ih];rfl
      refine⟨ks,h,λ kt w0 ρ w V hr v A ns G=>?_⟩;obtain⟨z,u,L,K,D,J⟩:=box w0 ρ w hr v A;obtain⟨b,sh,N,es,I,rfl,iV,hF,_⟩:=hr.JB T J;exact⟨z,some b,L,K,D,axf V iV hF C (OD hlen) (by rw[<-gS,G])⟩
     .cases h
    .refine⟨[],h,λ kt w0 ρ w V hr v A ns G=>?_⟩;obtain⟨z,u,L,K,D,J⟩:=box w0 ρ w hr v A;rw[J.fI]at D;refine⟨z,none,L,K,D,.inl ⟨rfl,?_⟩⟩;cases ns with|nil=>rfl|cons _ _=>cases G
    .cases h
   .cases h
 .cases h
def abm(h:vK ss k=.ok q):k (ss.map λ n=>J.lit (.int .i64 n))=.ok q:=by
 unfold vK at h;have⟨l',O,U⟩:=Bh (S:=λ (n:Int) a=>a=J.lit (.int .i64 n)) (λ a k q h=>⟨_,rfl,h⟩) h;have:l'=ss.map λ n=>J.lit (.int .i64 n):=by clear h U;induction O with|nil=>rfl|cons e _ p=>rw[e,p];rfl
 rw[<-this];exact U
def ayn{x:Int}(h:lK ns=x::ss)(B:zs.Perm ns):Lib.minOf zs=x:=by
 have A:∀z∈zs,x<=z:=by
  intro z p;have:z∈lK ns:=(yB ns).mem_iff.2 (B.mem_iff.1 p);have u:=QY ns;rw[h]at this u;rw[xw]at u;rcases cZ.1 this with rfl|p
  .exact Ys _
  .exact u.1 z p
 have Z:x∈zs:=B.mem_iff.2 ((yB ns).mem_iff.1 (by rw[h];simp));have fold:∀(ss:BW) (a:Int),(∀z∈ss,x<=z)->x<=a->(x=a\/x∈ss)->ss.foldl min a=x:=by
  intro ss;induction ss with
  |nil=>intro a _ _ h;rcases h with h|h;exact h.symm;cases h
  |cons z ss C=>
   intro a O U F
   have p:=O z ζ
   refine C (min a z) (λ y G=>O y (by simp[G])) ω ?_
   rcases F with F|F
   .left;omega
   .rcases cZ.1 F with F|F
    .left;omega
    .exact .inr F
 unfold Lib.minOf;cases zs with
 |nil=>cases Z
 |cons z zs=>
  refine fold _ _ A (A _ ζ) (.inr Z)
def hkS(E:aK)(H:D)(args:AU):R (J×D):=match args with
 |[f]=>EZ E f H λ ks=>q_ ks λ l=>vK l λ vs=>jV vs λ n=>
    eC (.ok (.lit (.slice none 0 0),H)) (λ _=>kN .e 0 vs λ t=>kM H (.cells n t false) λ id H'=>.ok (.sl id 0 1 n n false,H')) n
 |_=>.er [152]
def hkC(E:aK)(H:D)(args:AU):R (J×D):=match args with
 |[f]=>EZ E f H λ ks=>q_ ks λ l=>vK l λ vs=>jV vs λ n=>
    eC (.ok (.lit (.slice none 0 0),H)) (λ _=>iA (λ n k=>k (Value.int .i64 n)) l λ vs=>kM H (.tN vs) λ id H'=>.ok (.sl id 0 1 n n false,H')) n
 |_=>.er [153]
def hkM(H:D)(args:AU):R (J×D):=match args with
 |[.sl id 0 1 n _ _]=>ie H id λ o=>match o with
  |.tN l=>jV l λ m=>aB (.er [154]) (q_ l λ ns=>match ns with|x::_=>.ok (.lit (.int .i64 x),H)|[]=>.er [155]) (Nat.beq m n)
  |_=>.er [156]
 |_=>.er [157]
def hkT(H:D)(args:AU):R (J×D):=match args with|[]=>.ok (.lit (.bool true),H)|_=>.er [202]
def hkI(H:D)(args:AU):R (J×D):=match args with
 |[x]=>DE (λ vs k=>q_ vs λ ns=>vK ns k) x H λ H'=>.ok (.dh [],H')
 |_=>.er [206]
def hkJ(H:D)(args:AU):R (J×D):=match args with
 |[x]=>DE (λ vs k=>Af vs λ ns=>Fv ns k) x H λ H'=>.ok (.dh [],H')
 |_=>.er [209]
def yz(s:ByteArray):List ByteArray->List ByteArray
 |[]=>[s]|m::l=>if yD m.data.toList s.data.toList=true then m::yz s l else s::m::l
def vJ:List ByteArray->List ByteArray
 |[]=>[]|s::l=>yz s (vJ l)
theorem aba{β:Type}(s:ByteArray):∀(l:List ByteArray) (k:List ByteArray->R β),MY s l k=k (yz s l)
 |[],k=>rfl
 |m::l,k=>by
  have h:MY s (m::l) k=aB (k (s::m::l)) (MY s l λ r=>k (m::r)) (yD m.data.toList s.data.toList):=rfl
  have U:yz s (m::l)=if yD m.data.toList s.data.toList=true then m::yz s l else s::m::l:=by rw[yz]
  rw[h,aba s l,U]
  cases yD m.data.toList s.data.toList<;>rfl
theorem akG{β:Type}:∀{l:List Value} {k:List ByteArray->R β} {q:β},Af l k=.ok q->∃ns:List ByteArray,l=ns.map Value.string/\k (vJ ns)=.ok q
 |[],k,q,h=>⟨[],rfl,h⟩
 |v::l,k,q,h=>by
  have p:(match v with|.string s=>Af l λ r=>MY s r k|_=>.er [208])=.ok q:=h
  split at p
  .rename_i s
   obtain⟨ns,O,U⟩:=akG (l:=l) p;rw[aba]at U;exact⟨s::ns,by rw[O];rfl,U⟩
  .cases p
theorem aa9(s:ByteArray):∀l:List ByteArray,(yz s l).Perm (s::l)
 |[]=>HT _
 |m::l=>by
  unfold yz
  split
  .exact((aa9 s l).cons m).trans (List.Perm.swap s m l)
  .exact HT _
theorem V9:∀l:List ByteArray,(vJ l).Perm l
 |[]=>HT _|s::l=>(aa9 s _).trans ((V9 l).cons s)
def aFj{l:List ByteArray}(h:Fv l k=.ok q):k (l.map λ s=>J.lit (.string s))=.ok q:=by
 unfold Fv at h;have⟨r,O,U⟩:=Bh (S:=λ (s:ByteArray) v=>v=J.lit (.string s)) (λ a k q h=>⟨_,rfl,h⟩) h;have:r=l.map λ s=>J.lit (.string s):=by clear h U;induction O with|nil=>rfl|cons e _ p=>rw[e,p];rfl
 rw[<-this];exact U
def X_(P:Program)(f:FuncId):Prop:=(∀bF off cap (zs:List ByteArray) w,Sort.Holds Value.string w bF off zs.toArray->bF<w.heap.size->zs.length<4611686018427387904->Calls P f #[.slice (some ⟨bF,off,none⟩) zs.length cap] w λ e w'=>e=.returned (.tuple #[])/\∃n os,w'=Sort.grow (Sort.putRow Value.string (Sort.ahead w n) bF off (vJ zs).toArray) os)/\∀p cap w,Calls P f #[.slice p 0 cap] w λ e w'=>e=.returned (.tuple #[])/\w'=w
def aeK(P:Program)(f:FuncId):Prop:=(∀bF off cap (zs:BW) w,Sort.Holds (Value.int .i64) w bF off zs.toArray->bF<w.heap.size->zs.length<4611686018427387904->Calls P f #[.slice (some ⟨bF,off,none⟩) zs.length cap] w λ e w'=>e=.returned (.tuple #[])/\∃n os,w'=Sort.grow (Sort.putRow (Value.int .i64) (Sort.ahead w n) bF off (zs.mergeSort λ x y=>decide (x<=y)).toArray) os)/\∀p cap w,Calls P f #[.slice p 0 cap] w λ e w'=>e=.returned (.tuple #[])/\w'=w
def avT(EO:eW P E)(hh:∀f n,E.Q.get f=some n->(f,n)∈Q){kt ay:TypeId}(Ez:P.underlying kt=some (.int .i64))(hS:∀f g,(f,2)∈Q->(g,1)∈Q->aeL P kt ay f g)(hC:∀f g,(f,3)∈Q->(g,1)∈Q->aev P kt ay f g)(hM:∀f,(f,4)∈Q->aeF P f)(hT:∀f,(f,5)∈Q->Kr P w0 f)(hI:∀f,(f,6)∈Q->aeK P f)(hJ:∀f,(f,7)∈Q->X_ P f)(h4:∀f n,(f,n)∈Q->n<=7)(o8:∀f n,(f,n)∈Q->2<=n->∀args w,(callFunc f args).run P w=.ok (.enter f args) w):Hz P E w0:=by
 intro f n args H v H' hf h
 have C:=hh _ _ hf
 have Vl:=h4 _ _ C
 have AR:=o8 _ _ C ω
 have SN:∀{ρ:bh} {w w':World} {o:AO} {H1:D} {g cap:Nat} {cur:Array Value} {e:TypeId},HR E w0 ρ H w->Below w.heap.size w w'->w.heap.size<=g->w'.heap[g]?=some (.cells cur e (0,0))->uO H o H1->OR E (ρ.add H.ab (g,0,cur.size)) o 0 cur.size (some (.cells cur e (0,0)))->HR E w0 (ρ.add H.ab (g,0,cur.size)) H1 w'/\cV ρ H (ρ.add H.ab (g,0,cur.size)) H1:=by
  intro ρ w w' o H1 g cap cur e hr B X W hA mW
  exact(hr.below B).SN (aG:=w.heap.size) (λ id b s N A=>hr.bF id b s N A) X (DZ W) (aY hr.ia.size X) hA (by rw[W];exact mW)
 have hn:n=0\/n=1\/n=2\/n=3\/n=4\/n=5:=ω
 rcases hn with rfl|rfl|rfl|rfl|rfl|rfl
 .
  replace h:hkS E H args=.ok (v,H'):=h
  unfold hkS at h
  split at h
  .rename_i fv
   replace h:=aiT (P:=P) hh h;obtain⟨g,id,X,rfl,ks,h,V⟩:=h;have⟨ns,K,h⟩:=RW h;replace h:=abm h;rw[ux,bW]at h;intro ρ w p hr T;obtain⟨av,rfl,ha⟩:∃a:Value,p=#[a]/\Rl ρ (.fn (.func g) [] [.ptr id 0]) a:=by
    cases p with|mk l=>
    cases T with|cons O U=>cases U;exact⟨_,rfl,O⟩
   obtain⟨Bm,m,rfl,M,xX,L⟩:=V kt w0 ρ w Ez hr av ha ns K;refine⟨AR _ _,(hS f g C X w Bm m ns M xX L).mono ?_⟩;rintro e w' ⟨u,ss,rfl,I,kj,Mo,B⟩;have awi:=ajj I;have hlen:ss.length=(lK ns).length:=by rw[I.length_eq,(yB ns).length_eq]
   cases J:(lK ns).length with
   |zero=>
    rw[J]at h
    cases h
    have:ss=[]:=BM ω
    have hu:=Mo.2 this
    subst hu
    exact⟨_,ρ,rfl,.lit _,hr.below B,cV.refl _ _⟩
   |succ n'=>
    rw[J,G8]at h
    have⟨t,ht,h⟩:=sd h
    have⟨H1,hA,h⟩:=vP h
    cases h
    rcases kj.2 with⟨e1,e2⟩|⟨gb,cap,cur,rfl,U0,W,r1,r2,r3,r4⟩
    .omega
    .have yx:cur.toList.take ss.length=(lK ns).map encZ:=by rw[<-awi,<-r4,BR]
     have mW:OR E (ρ.add H.ab (gb,0,cur.size)) (.cells (n'+1) t false) 0 cur.size (some (.cells cur ay (0,0))):=by
      refine⟨cur,ay,(0,0),rfl,rfl,by rw[r3];omega,λ _=>rfl,λ i av A eM=>?_,λ _=>rfl⟩;rw[ht,aq (by rw[bW];omega),Ax,y']at eM;cases Z:(lK ns)[i]? with
      |none=>rw[Z]at eM;cases eM
      |some x=>
       rw[Z]at eM
       simp only[xy,zi]at eM
       subst eM
       refine⟨_,?_,.lit _⟩
       have:(cur.toList.take ss.length)[i]?=some (encZ x):=by rw[yx,y',Z];rfl
       rw[rI,aq ω,pG]at this
       rw[mQ];exact this
     obtain⟨k1,k2⟩:=SN (cap:=cap) hr B U0 W hA mW;refine⟨_,_,rfl,?_,k1,k2⟩;rw[hlen,J];exact .sl (s:=0) (bh.uY _ _ _) (λ h=>by cases h) ω aF (by rw[r3];simp) r2
  .cases h
 .
  replace h:hkC E H args=.ok (v,H'):=h
  unfold hkC at h
  split at h
  .rename_i fv
   replace h:=aiT (P:=P) hh h;obtain⟨g,id,X,rfl,ks,h,V⟩:=h;have⟨ns,K,h⟩:=RW h;replace h:=abm h;rw[ux,bW]at h;intro ρ w p hr T;obtain⟨av,rfl,ha⟩:∃a:Value,p=#[a]/\Rl ρ (.fn (.func g) [] [.ptr id 0]) a:=by
    cases p with|mk l=>
    cases T with|cons O U=>cases U;exact⟨_,rfl,O⟩
   obtain⟨Bm,m,rfl,M,xX,L⟩:=V kt w0 ρ w Ez hr av ha ns K;refine⟨AR _ _,(hC f g C X w Bm m ns M xX L).mono ?_⟩;rintro e w' ⟨u,ss,rfl,I,kj,Mo,B⟩;have hlen:ss.length=(lK ns).length:=by rw[I.length_eq,(yB ns).length_eq]
   cases J:(lK ns).length with
   |zero=>
    rw[J]at h
    cases h
    have:ss=[]:=BM ω
    have hu:=Mo.2 this
    subst hu
    exact⟨_,ρ,rfl,.lit _,hr.below B,cV.refl _ _⟩
   |succ n'=>
    rw[J,G8]at h
    obtain⟨vs,kL,h⟩:=Bh (S:=λ (n:Int) v=>v=Value.int .i64 n) (λ a k q h=>⟨_,rfl,h⟩) h
    have aiy:vs=(lK ns).map encZ:=by clear h J hlen;generalize lK ns=xs at kL;clear h;induction kL with|nil=>rfl|cons e _ ih=>rw[e,ih];rfl
    have⟨H1,hA,h⟩:=vP h
    cases h
    rcases kj.2 with⟨e1,e2⟩|⟨gb,cap,cur,rfl,U0,W,r1,r2,r3,r4⟩
    .omega
    .have mO:vs.length=ss.length:=by rw[aiy,bW,hlen]
     have mW:OR E (ρ.add H.ab (gb,0,cur.size)) (.tN vs) 0 cur.size (some (.cells cur ay (0,0))):=by refine⟨cur,ay,rfl,rfl,by rw[r3];omega,?_⟩;rw[SQ,mO];rw[BR]at r4;rw[r4,aiy];exact((I.trans (yB ns).symm).map _)
     obtain⟨k1,k2⟩:=SN (cap:=cap) hr B U0 W hA mW;refine⟨_,_,rfl,?_,k1,k2⟩;rw[hlen,J];exact .sl (s:=0) (bh.uY _ _ _) (λ h=>by cases h) ω aF (by rw[r3];simp) r2
  .cases h
 .
  replace h:hkM H args=.ok (v,H'):=h
  unfold hkM at h
  split at h
  .rename_i id n cap ex
   have⟨ob,jB,h⟩:=oB h;split at h
   .rename_i l;rw[ux]at h;have⟨oh,h⟩:=db h;have⟨ns,K,h⟩:=RW h;have aH2:l.length=n:=by simpa using oh
    split at h
    .rename_i x tl zS;cases h;intro ρ w p hr T;obtain⟨av,rfl,ha⟩:∃a:Value,p=#[a]/\Rl ρ (.sl id 0 1 n cap ex) a:=by
      cases p with|mk l=>
      cases T with|cons O U=>cases U;exact⟨_,rfl,O⟩
     obtain⟨b,s,N,c,B,k1,k2,k3,k4,k5,rfl⟩:=ha.rT;obtain⟨cc,e,q1,q2,q3,q4⟩:=hr.obj _ _ _ _ _ B jB;rw[K]at q4;have pj:∀y∈(cc.toList.drop s).take l.length,∃z:Int,y=encZ z:=by intro y G;obtain⟨z,_,hz⟩:=jn.1 (q4.mem_iff.1 (by rw[K]at G;exact G));exact⟨z,hz.symm⟩
     have auy:∃zs:BW,(cc.toList.drop s).take l.length=zs.map encZ:=by
      clear q4;generalize(cc.toList.drop s).take l.length=xs at pj;induction xs with
      |nil=>exact⟨[],rfl⟩
      |cons y xs ih=>
       obtain⟨z,hz⟩:=pj y ζ
       obtain⟨zs,A7⟩:=ih λ y G=>pj y (by simp[G])
       exact⟨z::zs,by rw[hz,A7];rfl⟩
     obtain⟨zs,A7⟩:=auy;have I:zs.Perm ns:=by
      have O:(zs.map encZ).Perm (ns.map encZ):=by rw[<-A7,K];exact q4
      have U:=O.map (λ v=>match v with|.int _ n=>n|_=>0);rw[u_,u_]at U;have e9:((λ v=>match v with|.int _ n=>n|_=>0)∘encZ)=(λ z=>z:Int->Int):=rfl;rw[e9,List.map_id',List.map_id']at U;exact U
     have MQ:zs.length=n:=by have O:=iQ List.length A7;rw[bW,eK,FM]at O;have gR:cc.toList.length=cc.size:=rH;omega
     have wL:0<n:=by rw[<-MQ,I.length_eq,<-(yB ns).length_eq,zS];simp
     refine⟨AR _ _,(hM f C b (s+0) n c zs w wL ω (by unfold maxLen at k5;omega) λ j hj=>?_).mono ?_⟩
     .have cQ:((cc.toList.drop s).take l.length)[j]?=some (encZ (zs.getD j 0)):=by rw[A7,y',List.getD_eq_getElem?_getD,bf hj];rfl
      rw[rI,aq ω,v_,pG]at cQ;exact O8 q1 (by rw[xx];exact cQ)
     .rintro e2 w' ⟨rfl,rfl⟩;rw[OB ω,ayn zS I];exact⟨_,ρ,rfl,.lit _,hr,cV.refl _ _⟩
    .cases h
   .cases h
  .cases h
 .
  replace h:hkT H args=.ok (v,H'):=h
  unfold hkT at h
  split at h
  .cases h
   intro ρ w p hr T;have e:p=#[]:=by
    cases p with|mk l=>
    cases T;rfl
   subst e;refine⟨AR _ _,(hT f C w hr.ia).mono ?_⟩;rintro e w' ⟨rfl,hc⟩;exact⟨_,ρ,rfl,.lit _,hr.later hc,cV.refl _ _⟩
  .cases h
 .
  replace h:hkI H args=.ok (v,H'):=h
  unfold hkI at h
  split at h
  .rename_i x
   exact akH (enc:=Value.int .i64) (sc:=lK) (λ ns=>(yB ns).length_eq) (λ vs k q h=>by
    obtain⟨ns,O,U⟩:=RW h;exact⟨ns,O,abm U⟩) AR
    ⟨λ bF off cap zs w O U F=>((hI f C).1 bF off cap zs w O U F).mono λ e w' ⟨h4,n,os,h5⟩=>⟨h4,n,os,by rw[h5,show(zs.mergeSort λ x y=>decide (x<=y))=lK zs from ajj (HT zs)]⟩,(hI f C).2⟩ h
  .cases h
 .
  replace h:hkJ H args=.ok (v,H'):=h
  unfold hkJ at h
  split at h
  .rename_i x
   exact akH (enc:=Value.string) (sc:=vJ) (λ ns=>(V9 ns).length_eq) (λ vs k q h=>by obtain⟨ns,O,U⟩:=akG h;exact⟨ns,O,aFj U⟩) AR (hJ f C) h
  .cases h
end
def od(s:aI):List UInt8:=s.data.toList
def agj(s:aI):Go.Proofs.encStr (od s)=Value.string s:=by cases s;simp[Go.Proofs.encStr,od]
def axP(a b:List UInt8):yD a b=decide (a<b):=by rw[abp];exact Go.Proofs.bytesLess_eq a b
theorem aiF(s:aI):∀l:List aI,l.Pairwise (λ a b=>od a<=od b)->(yz s l).Pairwise (λ a b=>od a<=od b)
 |[],_=>by simp[yz]
 |m::l,h=>by
  have U:yz s (m::l)=if yD m.data.toList s.data.toList=true then m::yz s l else s::m::l:=by rw[yz]
  rw[U,axP]
  rw[xw]at h
  split
  .rename_i p
   have z:od m<od s:=Tj p;rw[xw];refine⟨λ x Z=>?_,aiF s l h.2⟩;rcases cZ.1 ((aa9 s l).mem_iff.1 Z)with rfl|Z
   .exact List.le_of_lt z
   .exact h.1 x Z
  .rename_i p
   have u:od s<=od m:=by have:¬od m<od s:=λ h=>p (Ti h);exact List.not_lt.1 this
   rw[xw];refine⟨λ x Z=>?_,by rw[xw];exact h⟩;rcases cZ.1 Z with rfl|Z
   .exact u
   .exact List.le_trans u (h.1 x Z)
theorem aiM:∀l:List aI,(vJ l).Pairwise (λ a b=>od a<=od b)
 |[]=>by rw[vJ];exact List.Pairwise.nil
 |s::l=>by rw[vJ];exact aiF s _ (aiM l)
def ayh(l:List aI):((l.map od).mergeSort λ x y=>decide (x<=y))=(vJ l).map od:=by
 have p:∀a b c:List UInt8,decide (a<=b)=true->decide (b<=c)=true->decide (a<=c)=true:=λ a b c O U=>by simp only[rK]at*;exact List.le_trans O U
 have to:∀a b:List UInt8,(decide (a<=b)||decide (b<=a))=true:=λ a b=>by simp only[xt,rK];exact List.le_total a b
 refine List.Perm.eq_of_pairwise (le:=λ a b=>decide (a<=b)=true) (λ a b _ _ O U=>?_) (List.pairwise_mergeSort p to _) ?_ ((List.mergeSort_perm _ _).trans ((V9 l).symm.map od))
 .simp only[rK]at O U;exact List.le_antisymm O U
 .exact S9.2 ((aiM l).imp λ h=>by simpa using h)
def aCE(w:bI)(b ah:Nat)(l:List aI):Sort.putRow Go.Proofs.encStr w b ah (l.map od).toArray=Sort.putRow Value.string w b ah l.toArray:=by
 unfold Sort.putRow;congr 1;funext c;unfold Sort.putCells;congr 1;funext k x;have e:(l.map od).toArray.size=l.toArray.size:=ζ
 rw[e];split
 .rename_i h;have O:k-ah<l.toArray.size:=ω
  rw[FZ l.toArray (k-ah) O,FZ (l.map od).toArray (k-ah) (by rw[e];exact O)];simp[agj]
 .rfl
def aE4{P:e8}(O:∀bF ah ax (ss:List (List UInt8)) w,Sort.Holds Go.Proofs.encStr w bF ah ss.toArray->bF<w.heap.size->ss.length<4611686018427387904->Calls P f #[.slice (some ⟨bF,ah,none⟩) ss.length ax] w λ e w'=>e=.returned (.tuple #[])/\∃n os,w'=Sort.grow (Sort.putRow Go.Proofs.encStr (Sort.ahead w n) bF ah (ss.mergeSort λ x y=>decide (x<=y)).toArray) os)(U:∀p ax w,Calls P f #[.slice p 0 ax] w λ e w'=>e=.returned (.tuple #[])/\w'=w):X_ P f:=by
 refine⟨λ bF ah ax zs w F D C=>?_,U⟩
 have h:Sort.Holds Go.Proofs.encStr w bF ah (zs.map od).toArray:=by
  intro j z;have u:j<zs.toArray.size:=by simpa using z
  have⟨B,A⟩:=F j u;refine⟨?_,A⟩;rw[B,FZ zs.toArray j u,FZ (zs.map od).toArray j z];simp[agj]
 have:=O bF ah ax (zs.map od) w h D (by simpa using C)
 rw[bW]at this
 refine this.mono ?_
 rintro e w' ⟨rfl,n,os,rfl⟩
 exact⟨rfl,n,os,by rw[ayh,aCE]⟩
def NO(P:e8)(rec:aS->Option (List KC)):List Field->Nat->Option (List KC)
 |[],_=>some []
 |f::fs,ah=>
  if f.name= "_" \/f.offset≠ah then none
  else match rec f.type with|none=>none|some M=>if(P.info? f.type).map (·.size)≠some M.length then none else(NO P rec fs (ah+M.length)).map (M++ ·)
def yM(P:e8):Nat->aS->Option (List KC)
 |0,_=>none
 |d+1,t=>
  match P.underlying t with|some (.int k)=>some [.i k]|some .string=>some [.s]|some (.struct fs)=>if P.stoodInHeld t=true then none else NO P (yM P d) fs.toList 0|_=>none
def FB(P:e8)(t:aS)(xs:List aC):aC:=match P.underlying t with|some (.struct _)=>.agg ⟨xs⟩|_=>xs.headD undef
theorem xE:∀{M:List KC} {xs:List aC},oc M xs=true->xs.length=M.length
 |[],[],_=>rfl|[],_::_,h=>by cases h
 |_::_,[],h=>by cases h
 |c::M,x::xs,h=>by
  rw[DY]at h
  have⟨_,h⟩:=jc h
  simp[xE h]
theorem To:∀{c1 c2:List KC} {xs:List aC},oc (c1++c2) xs=true->oc c1 (xs.take c1.length)=true/\oc c2 (xs.drop c1.length)=true
 |[],c2,xs,h=>⟨rfl,by simpa using h⟩|c::c1,c2,[],h=>by cases h
 |c::c1,c2,x::xs,h=>by
  have p:oc (c::(c1++c2)) (x::xs)=true:=h
  rw[DY]at p
  have⟨O,p⟩:=jc p
  have⟨U,F⟩:=To (c1:=c1) p
  refine⟨?_,by simpa using F⟩
  simp only[qi,List.take_succ_cons]
  rw[DY,O];exact U
theorem agr:∀{a a' b b':List aC},a.length=a'.length->vi (a++b) (a'++b')=aB false (vi b b') (vi a a')
 |[],[],b,b',_=>rfl|[],_::_,_,_,h=>by cases h
 |_::_,[],_,_,h=>by cases h
 |x::a,y::a',b,b',h=>by
  simp only[Ov]
  rw[Gh,Gh,agr (by simpa using h)]
  cases nC x y<;>rfl
section
variable{P:e8}
def M3{k:IntKind}(h:oz (.i k) v=true):∃n,v=.int k n:=by
 unfold oz at h;split at h
 .rename_i e;cases e;rename_i j n;have:j=k:=by simpa using h
  exact⟨n,by rw[this]⟩
 .rename_i e;cases e
 .rename_i e;cases e
 .cases h
def V7(h:oz .s v=true):∃s,v=.string s:=by
 unfold oz at h;split at h
 .rename_i e;cases e
 .exact⟨_,rfl⟩
 .rename_i e;cases e
 .cases h
def TV(k:IntKind)(a b:Int):nC (.int k a) (.int k b)=(a==b):=by unfold nC;simp[xI,ZS]
def agv(a b:aI):nC (.string a) (.string b)=(a.toList==b.toList):=by show zr a.data.toList b.data.toList=_;rw[IB,Zr,Zr]
def adP{M:List KC}(h:yM P b t=some M)(B:(P.info? t).map (·.size)=some M.length)(Z:oc M ((vs.drop ah).take M.length)=true)(w:bI):(part t ⟨vs⟩ ah).run P w=.ok (FB P t ((vs.drop ah).take M.length)) w:=by
 have p:=xE Z
 obtain⟨i,A,u⟩:=zh.1 B
 cases b with
 |zero=>cases h
 |succ b=>
  unfold yM at h
  unfold part isAgg FB
  cases hu:P.underlying t with
  |none=>rw[hu]at h;cases h
  |some z=>
   rw[hu]at h
   have one:M.length=1->vs[ah]?=some (((vs.drop ah).take M.length).headD undef):=by
    intro O;rw[O]at p⊢;have:(vs.drop ah)[0]?=vs[ah]?:=by rw[v_];simp
    rw[<-this];cases hd:vs.drop ah with|nil=>rw[hd]at p;simp at p|cons y D=>rfl
   cases z<;>first|(cases h;done)|skip
   .rename_i k
    cases h;have O:=one rfl;simp only[cK,dR hu,dD,iL,uZ,n_,SY,O]
   .cases h
    have O:=one rfl;simp only[cK,dR hu,dD,iL,uZ,n_,SY,O]
   .have C:(sizeOf t).run P w=.ok M.length w:=by simp[sizeOf,typeInfo,A,u]
    simp only[cK,dR hu,dD,iL,qk,C];congr 2;apply Array.ext';rw[aeZ];simp[ae6]
def apO:∀(d:Nat) (t:aS) (M:List KC),yM P d t=some M->∀(u:Nat) (w:bI) (xs p:List aC),oc M xs=true->oc M p=true->(Op.equalIn (u+d) t (FB P t xs) (FB P t p)).run P w=.ok (vi xs p) w:=by
 intro d;induction d with
 |zero=>intro t M h;cases h
 |succ d ih=>
  intro t M h u w xs p Z G
  have h0:=h
  unfold yM at h
  unfold FB
  cases hu:P.underlying t with
  |none=>rw[hu]at h;cases h
  |some kd=>
   rw[hu]at h
   cases kd<;>first|(cases h;done)|skip
   .rename_i k
    cases h;rcases xs with _|⟨x,_|⟨_,_⟩⟩<;>rcases p with _|⟨y,_|⟨_,_⟩⟩<;>first|(cases Z;done)|(cases G;done)|(have:=xE Z;simp at this;done)|(have:=xE G;simp at this;done)|skip
    rw[DY]at Z G;obtain⟨Z,_⟩:=jc Z;obtain⟨G,_⟩:=jc G;obtain⟨a,rfl⟩:=M3 Z;obtain⟨b,rfl⟩:=M3 G;have:=run_equalIn_int (P:=P) w (u+d) t k k a b hu;show(Op.equalIn (u+d+1) t (.int k a) (.int k b)).run P w=_;rw[this,Gh,TV];cases a==b<;>rfl
   .cases h
    rcases xs with _|⟨x,_|⟨_,_⟩⟩<;>rcases p with _|⟨y,_|⟨_,_⟩⟩<;>first|(cases Z;done)|(cases G;done)|(have:=xE Z;simp at this;done)|(have:=xE G;simp at this;done)|skip
    rw[DY]at Z G;obtain⟨Z,_⟩:=jc Z;obtain⟨G,_⟩:=jc G;obtain⟨a,rfl⟩:=V7 Z;obtain⟨b,rfl⟩:=V7 G;have:=run_equalIn_string (P:=P) w (u+d) t a b hu;show(Op.equalIn (u+d+1) t (.string a) (.string b)).run P w=_;rw[this,Gh,agv];cases a.toList==b.toList<;>rfl
   .rename_i fs
    dsimp only at h;split at h
    .cases h
    .rename_i eH;have K:P.fieldsOf t=fs:=by unfold Program.fieldsOf;rw[hu]
     show(Op.equalIn (u+d+1) t (.agg ⟨xs⟩) (.agg ⟨p⟩)).run P w=_;rw[run_equalIn_struct w (u+d) t ⟨xs⟩ ⟨p⟩ (by rw[K];exact hu) (by simpa using eH),K];have key:∀(l:List Field) (ah:Nat) (M:List KC),NO P (yM P d) l ah=some M->oc M (xs.drop ah)=true->oc M (p.drop ah)=true->(Op.eqFields (u+d) ⟨xs⟩ ⟨p⟩ l).run P w=.ok (vi (xs.drop ah) (p.drop ah)) w:=by
      intro l;induction l with
      |nil=>
       intro ah M O U F
       cases O
       have e1:=BM (xE U)
       have e2:=BM (xE F)
       rw[e1,e2]
       rfl
      |cons f l A=>
       intro ah M O U F
       unfold NO at O
       split at O
       .cases O
       .rename_i J
        have I:f.name≠ "_" :=λ e=>J (.inl e);have Mp:f.offset=ah:=SO λ e=>J (.inr e);cases z:yM P d f.type with
        |none=>rw[z]at O;cases O
        |some c1=>
         rw[z]at O
         dsimp only at O
         split at O
         .cases O
         .rename_i gu
          have T:(P.info? f.type).map (·.size)=some c1.length:=SO λ e=>gu e;obtain⟨c2,h4,rfl⟩:=zh.1 O;obtain⟨C,Q⟩:=To U;obtain⟨B,L⟩:=To F;rw[Ow]at Q L;have r1:=adP z T C w;have X:=adP z T B w;have W:=ih f.type c1 z u w _ _ C B;have V:=A (ah+c1.length) c2 h4 Q L;have D:vi (xs.drop ah) (p.drop ah)=aB false (vi (xs.drop (ah+c1.length)) (p.drop (ah+c1.length))) (vi ((xs.drop ah).take c1.length) ((p.drop ah).take c1.length)):=by have:=agr (a:=(xs.drop ah).take c1.length) (a':=(p.drop ah).take c1.length) (b:=(xs.drop ah).drop c1.length) (b':=(p.drop ah).drop c1.length) (by rw[xE C,xE B]);rw[wj,wj,Ow,Ow]at this;exact this
          rw[D];simp only[Op.eqFields,I,ne_eq,YX,qk,cK,Mp,r1,X,W,dD];cases vi ((xs.drop ah).take c1.length) ((p.drop ah).take c1.length)with|false=>simp[Ik]|true=>simp[xI,V]
     have:=key fs.toList 0 M h (by simpa using Z) (by simpa using G);simpa using this
def aox(em:Bool):∀(d:Nat) (t:aS) (M:List KC),yM P d t=some M->∀(p:Nat) (w:bI) (xs:List aC),oc M xs=true->(Instr.checkKey em (p+d) t (FB P t xs)).run P w=.ok () w:=by
 intro d;induction d with
 |zero=>intro t M h;cases h
 |succ d K=>
  intro t M h p w xs Z
  unfold yM at h
  unfold FB
  rw[show p+(d+1)=(p+d)+1 from rfl]
  unfold Instr.checkKey
  cases hu:P.underlying t with
  |none=>rw[hu]at h;cases h
  |some J=>
   rw[hu]at h
   cases J<;>first|(cases h;done)|skip
   .rename_i k
    cases h;rcases xs with _|⟨x,_|⟨_,_⟩⟩<;>first|(cases Z;done)|(have:=xE Z;simp at this;done)|skip
    simp only[cK,dR hu,dD];rfl
   .cases h
    rcases xs with _|⟨x,_|⟨_,_⟩⟩<;>first|(cases Z;done)|(have:=xE Z;simp at this;done)|skip
    simp only[cK,dR hu,dD];rfl
   .rename_i fs
    dsimp only at h;split at h
    .cases h
    .simp only[cK,dR hu,dD];rw[<-Array.forIn_toList];have key:∀(l:List Field) (ah:Nat) (M:List KC),NO P (yM P d) l ah=some M->oc M (xs.drop ah)=true->(forIn l PUnit.unit λ f (_:PUnit)=>(do
      if f.name≠ "_" then Instr.checkKey em (p+d) f.type (<-part f.type ⟨xs⟩ f.offset)
      pure (ForInStep.yield PUnit.unit):Sem (ForInStep PUnit))).run P w=.ok PUnit.unit w:=by
      intro l
      induction l with
      |nil=>intro ah M _ _;rfl
      |cons f l z=>
       intro ah M O U
       unfold NO at O
       split at O
       .cases O
       .rename_i B
        have A:f.name≠ "_" :=λ e=>B (.inl e);have T:f.offset=ah:=SO λ e=>B (.inr e);cases u:yM P d f.type with
        |none=>rw[u]at O;cases O
        |some c1=>
         rw[u]at O
         dsimp only at O
         split at O
         .cases O
         .rename_i Q
          have V:(P.info? f.type).map (·.size)=some c1.length:=SO λ e=>Q e;obtain⟨c2,L,rfl⟩:=zh.1 O;obtain⟨D,C⟩:=To U;rw[Ow]at C;have I:=adP u V D w;have G:=K f.type c1 u p w _ D;have F:=z (ah+c1.length) c2 L C;simp only[List.forIn_cons,A,ne_eq,YX,qk,cK,T,I,G,dD,iL,F]
     have:=key fs.toList 0 M h (by simpa using Z);first|exact this|(simp at this⊢;rw[this];rfl)|(simp at this⊢;simp only[this];rfl)
def aEp{c:KC}(h:oz c v=true)(m:Nat):Instr.sameBits m v v=true:=by
 cases c with
 |i k=>obtain⟨n,rfl⟩:=M3 h;unfold Instr.sameBits;simp
 |s=>obtain⟨s,rfl⟩:=V7 h;unfold Instr.sameBits;simp[Zj]
 |b=>
  unfold oz at h
  split at h
  .rename_i e;cases e
  .rename_i e;cases e
  .unfold Instr.sameBits;simp
  .cases h
theorem akn:∀{M:List KC} {xs:List aC},oc M xs=true->∀m,(xs.zip xs).all (λ (x,y)=>Instr.sameBits m x y)=true
 |[],[],_,_=>rfl|[],_::_,h,_=>by cases h
 |_::_,[],h,_=>by cases h
 |c::M,x::xs,h,m=>by
  rw[DY]at h
  have⟨O,U⟩:=jc h
  simp only[List.zip_cons_cons,List.all_cons,aEp O,Yq]
  exact akn U m
def Ju(P:e8)(t:aS)(ks:KS):Bool:=match ks with|.one c=>(match P.underlying t,c with|some (.int k),.i j=>decide (k=j)|some .string,.s=>true|_,_=>false)&&!P.eqGuardType P.depth t|.agg M=>(match P.underlying t with|some (.struct _)=>true|_=>false)&&!P.eqGuardType P.depth t&&(match yM P 20 t with|some c=>Jt c M|none=>false)
where
 Jt:List KC->List KC->Bool
 |[],[]=>true|.i k::a,.i j::b=>decide (k=j)&&Jt a b|.s::a,.s::b=>Jt a b|.b::a,.b::b=>Jt a b|_,_=>false
theorem abd:∀{a b:List KC},Ju.Jt a b=true->a=b
 |[],[],_=>rfl|[],c::_,h=>by cases c<;>cases h
 |c::_,[],h=>by cases c<;>cases h
 |c::a,d::b,h=>by
  cases c<;>cases d<;>first
   |(cases h;done)
   |(unfold Ju.Jt at h
     rw[v8,xz]at h
     rw[h.1,abd h.2])
   |(unfold Ju.Jt at h
     rw[abd h])
def axa(h:Ju P t ks=true):Ob P t ks:=by
 cases ks with
 |one c=>
  unfold Ju at h
  rw[v8]at h
  obtain⟨O,U⟩:=h
  have z:P.eqGuardType P.depth t=false:=by simpa using U
  cases hu:P.underlying t with
  |none=>rw[hu]at O;cases O
  |some C=>
   rw[hu]at O
   cases C<;>cases c<;>first|(cases O;done)|skip
   .rename_i k j
    have:k=j:=by simpa using O
    subst this;have kp:∀v,KP (.one (.i k)) v↔∃n,v=.int k n:=λ v=>⟨λ h=>M3 h,λ ⟨n,e⟩=>by rw[e];show oz (.i k) (.int k n)=true;unfold oz;simp⟩;refine⟨?_,λ x y w Z G=>?_,z⟩
    .have ko:=axc (P:=P) hu;exact⟨λ e v w p=>ko.check e v w ((kp v).1 p),λ q es w F D=>ko.find q es w ((kp q).1 F) λ e he=>(kp _).1 (D e he),λ v p=>ko.same v ((kp v).1 p)⟩
    .obtain⟨a,rfl⟩:=(kp x).1 Z;obtain⟨b,rfl⟩:=(kp y).1 G;show(Op.equalIn (9999+1) t (.int k a) (.int k b)).run P w=_;rw[run_equalIn_int w 9999 t k k a b hu];show _=Result.ok (nC (.int k a) (.int k b)) w;rw[TV]
   .have kp:∀v,KP (.one .s) v↔∃s,v=.string s:=λ v=>⟨λ h=>V7 h,λ ⟨n,e⟩=>by rw[e];rfl⟩
    refine⟨?_,λ x y w Z G=>?_,z⟩
    .have ko:=axd (P:=P) hu;exact⟨λ e v w p=>ko.check e v w ((kp v).1 p),λ q es w F D=>ko.find q es w ((kp q).1 F) λ e he=>(kp _).1 (D e he),λ v p=>ko.same v ((kp v).1 p)⟩
    .obtain⟨a,rfl⟩:=(kp x).1 Z;obtain⟨b,rfl⟩:=(kp y).1 G;show(Op.equalIn (9999+1) t (.string a) (.string b)).run P w=_;rw[run_equalIn_string w 9999 t a b hu];show _=Result.ok (nC (.string a) (.string b)) w;rw[agv]
 |agg M=>
  unfold Ju at h
  rw[v8,v8]at h
  obtain⟨⟨A,U⟩,O⟩:=h
  have z:P.eqGuardType P.depth t=false:=by simpa using U
  cases u:yM P 20 t with
  |none=>rw[u]at O;cases O
  |some c=>
   rw[u]at O
   have:=abd O
   subst this
   cases hu:P.underlying t with
   |none=>rw[hu]at A;cases A
   |some C=>
    rw[hu]at A
    cases C<;>first|(cases A;done)|skip
    rename_i fs
    have p:∀xs,FB P t xs=.agg ⟨xs⟩:=λ xs=>by unfold FB;rw[hu]
    have J:∀x y w,KP (.agg c) x->KP (.agg c) y->(Op.equal t x y).run P w=.ok (c8 x y) w:=by rintro x y w ⟨xs,rfl,Z⟩ ⟨I,rfl,G⟩;have:=apO 20 t c u 9980 w xs I Z G;rw[p,p]at this;exact this
    refine⟨aiP hu (λ k v Q B=>?_) (λ e v w Q=>?_) (λ k v w Q B=>?_) (λ v Q=>?_),J,z⟩
    .obtain⟨xs,rfl,_⟩:=Q
     obtain⟨I,rfl,_⟩:=B;rfl
    .obtain⟨xs,rfl,Z⟩:=Q
     have:=aox (P:=P) e 20 t c u 9980 w xs Z;rw[p]at this;exact this
    .refine⟨_,J k v w Q B,?_⟩
     rw[agq Q];exact⟨λ e=>e.symm,λ e=>e.symm⟩
    .obtain⟨xs,rfl,Z⟩:=Q
     unfold Instr.sameBits;simp only[beq_self_eq_true,Yq];exact akn Z 9999
end
section
variable{P:e8}{t e:aS}{k:IntKind}
def Nz(he:P.underlying e=some (.int k))(a b:Int)(w:bI):(part e #[.int k a,.int k b] 0).run P w=.ok (.int k a) w/\(part e #[.int k a,.int k b] 1).run P w=.ok (.int k b) w:=by constructor<;>(unfold part isAgg;simp only[cK,dR he,dD,iL,uZ,n_];rfl)
def agz(hu:P.underlying t=some (.array 2 e))(he:P.underlying e=some (.int k))(p:(P.info? e).map (·.size)=some 1)(a b c d:Int)(w:bI):(Op.equal t (.agg #[.int k a,.int k b]) (.agg #[.int k c,.int k d])).run P w=.ok (a==c&&b==d) w:=by
 have⟨i,A,h⟩:=zh.1 p
 have u:(sizeOf e).run P w=.ok 1 w:=by simp[sizeOf,typeInfo,A,h]
 unfold Op.equal Op.maxDepth Op.equalIn
 simp only[cK,dR hu,dD,u]
 simp only[afw]
 simp[List.range']
 simp only[(Nz he a b w).1,(Nz he a b w).2,(Nz he c d w).1,(Nz he c d w).2,dD,run_equalIn_int w 9998 e k k _ _ he]
 cases O:(a==c)<;>cases U:(b==d)<;>simp
def af2(em:Bool)(n:Nat)(he:P.underlying e=some (.int k))(a:Int)(w:bI):(Instr.checkKey em (n+1) e (.int k a)).run P w=.ok () w:=by unfold Instr.checkKey;simp only[cK,dR he,dD];rfl
def aoy(em:Bool)(hu:P.underlying t=some (.array 2 e))(he:P.underlying e=some (.int k))(p:(P.info? e).map (·.size)=some 1)(a b:Int)(w:bI):(Instr.checkKey em Op.maxDepth t (.agg #[.int k a,.int k b])).run P w=.ok () w:=by
 have⟨i,A,h⟩:=zh.1 p
 have u:(sizeOf e).run P w=.ok 1 w:=by simp[sizeOf,typeInfo,A,h]
 unfold Op.maxDepth Instr.checkKey
 simp only[cK,dR hu,dD]
 simp only[afw]
 simp[List.range']
 have c1:=af2 em 9998 he a w
 have c2:=af2 em 9998 he b w
 simp only[Nat.reduceAdd]at c1 c2
 simp only[u,(Nz he a b w).1,(Nz he a b w).2,dD,c1,c2]
def am7(h:oc [.i k,.i k] vs=true):∃a b,vs=[.int k a,.int k b]:=by
 rcases vs with _|⟨x,_|⟨y,_|⟨_,_⟩⟩⟩<;>first|(have:=xE h;simp at this;done)|skip
 rw[DY]at h;have⟨O,h⟩:=jc h;rw[DY]at h;have⟨U,_⟩:=jc h;obtain⟨a,rfl⟩:=M3 O;obtain⟨b,rfl⟩:=M3 U;exact⟨a,b,rfl⟩
def apH(a b c d:Int):c8 (.agg #[.int k a,.int k b]) (.agg #[.int k c,.int k d])=(a==c&&b==d):=by show vi [.int k a,.int k b] [.int k c,.int k d]=_;rw[Gh,Gh,TV,TV];cases a==c<;>cases b==d<;>rfl
def axb(hu:P.underlying t=some (.array 2 e))(he:P.underlying e=some (.int k))(z:(P.info? e).map (·.size)=some 1)(A:P.eqGuardType P.depth t=false):Ob P t (.agg [.i k,.i k]):=by
 have kp:∀v,KP (.agg [.i k,.i k]) v->∃a b,v=.agg #[.int k a,.int k b]:=by rintro v ⟨xs,rfl,h⟩;obtain⟨a,b,rfl⟩:=am7 h;exact⟨a,b,rfl⟩
 refine⟨aiP hu (λ u v Q p=>?_) (λ em v w Q=>?_) (λ u v w Q p=>?_) (λ v Q=>?_),λ x y w Z G=>?_,A⟩
 .obtain⟨a,b,rfl⟩:=kp _ Q;obtain⟨c,d,rfl⟩:=kp _ p;rfl
 .obtain⟨a,b,rfl⟩:=kp _ Q;exact aoy em hu he z a b w
 .obtain⟨a,b,rfl⟩:=kp _ Q;obtain⟨c,d,rfl⟩:=kp _ p;refine⟨_,agz hu he z _ _ _ _ w,?_⟩;simp only[v8,zk];constructor
  .rintro⟨O,U⟩;simp[O,U]
  .intro h;simp at h;simp[h]
 .obtain⟨a,b,rfl⟩:=kp _ Q;simp[Instr.sameBits]
 .obtain⟨a,b,rfl⟩:=kp _ Z;obtain⟨c,d,rfl⟩:=kp _ G;rw[apH];exact agz hu he z _ _ _ _ w
def abf(P:e8)(t:aS)(ks:KS):Bool:=match P.underlying t with|some (.array 2 e)=>(match ks with|.agg [.i k,.i k']=>decide (k=k')&&(match P.underlying e with|some (.int j)=>decide (j=k)|_=>false)&&decide ((P.info? e).map (·.size)=some 1)&&!P.eqGuardType P.depth t|_=>false)|_=>Ju P t ks
def aw9(h:abf P t ks=true):Ob P t ks:=by
 unfold abf at h;split at h
 .rename_i e hu;split at h
  .rename_i k k';simp only[v8,xz,ae1]at h;obtain⟨⟨⟨rfl,U⟩,F⟩,p⟩:=h;split at U
   .rename_i j he;have:j=k:=by simpa using U
    subst this;exact axb hu he F p
   .cases U
  .cases h
 .exact axa h
end
abbrev Goc(β:Type):=Task->D->(J->D->R β)->R β
variable{kk:γ->R β}
structure Le{β γ:Type}(kk:γ->R β)(a:R β)(aG:R γ):Prop where
 out:∀q,a=.ok q->∃r,aG=.ok r/\kk r=.ok q
theorem Le.er{β γ:Type}{kk:γ->R β}{l:AT}{aG:R γ}:Le kk (.er l) aG:=⟨λ _ h=>by cases h⟩
def Le.ret{r:γ}:Le kk (kk r) (.ok r):=⟨λ _ h=>⟨r,rfl,h⟩⟩
def Nr{cL:R γ}{s:Nat->R β}{S:Nat->R γ}(h:Le kk z cL)(p:∀m,Le kk (s m) (S m)):Le kk (eC z s n) (eC cL S n):=by cases n with|zero=>exact h|succ m=>exact p m
def zn{t:R β}{au ay:R γ}(p:Le kk z au)(h:Le kk t ay):Le kk (aB z t y) (aB au ay y):=by cases y with|false=>exact p|true=>exact h
def CV{t:Tr α}{k:α->R β}{K:α->R γ}{bZ:R γ}(h:∀x,Le kk (k x) (K x))(hd:Le kk z bZ):Le kk (cB t n k z) (cB t n K bZ):=by rw[jJ,jJ];cases t.get n with|none=>exact hd|some v=>exact h v
def JV{t:Tr α}{v:Option α}{k:Tr α->R β}{K:Tr α->R γ}{bZ:R γ}(h:∀x,Le kk (k x) (K x))(hd:Le kk z bZ):Le kk (j_ b t n v k z) (j_ b t n v K bZ):=by rw[DA,DA];cases t.set b n v with|none=>exact hd|some v=>exact h v
def Lp{k:Nat->R β}{K:Nat->R γ}(h:∀x,Le kk (k x) (K x)):Le kk (d_ n k) (d_ n K):=by rw[mr,mr];exact h n
def Rb{f:α->(δ->R β)->R β}{au:α->(δ->R γ)->R γ}{l:List α}{k:List δ->R β}{K:List δ->R γ}(u:∀a g dW,(∀x,Le kk (g x) (dW x))->Le kk (f a g) (au a dW))(h:∀x,Le kk (k x) (K x)):Le kk (iA f l k) (iA au l K):=by induction l generalizing k K with|nil=>exact h []|cons a l p=>exact u a _ _ λ b=>p λ l'=>h (b::l')
def Q5{l:List α}{k:Nat->R β}{K:Nat->R γ}(h:∀x,Le kk (k x) (K x)):Le kk (jV l k) (jV l K):=by induction l generalizing k K with|nil=>exact h 0|cons a l p=>exact p λ n=>h (Nat.succ n)
def G_{l:List α}{k:α->R β}{K:α->R γ}{bZ:R γ}(h:∀x,Le kk (k x) (K x))(hd:Le kk z bZ):Le kk (mE l n k z) (mE l n K bZ):=by
 induction l generalizing n with
 |nil=>exact hd
 |cons a l p=>
  cases n with|zero=>exact h a|succ m=>exact p
def Nt{k:Nat->D->R β}{K:Nat->D->R γ}(h:∀x y,Le kk (k x y) (K x y)):Le kk (kM H o' k) (kM H o' K):=by unfold kM;repeat' (first|with_reducible exact Le.er|with_reducible exact Le.ret|with_reducible exact h _ _|intro _|with_reducible apply Nr|with_reducible apply zn|with_reducible apply CV|with_reducible apply JV|with_reducible apply Lp|with_reducible apply Rb|with_reducible apply Q5|with_reducible apply G_|with_reducible apply_assumption|contradiction|(split<;>(try dsimp only)))
def Rn{k:AO->R β}{K:AO->R γ}(h:∀x,Le kk (k x) (K x)):Le kk (ie H b k) (ie H b K):=by unfold ie;repeat' (first|with_reducible exact Le.er|with_reducible exact Le.ret|with_reducible exact h _|intro _|with_reducible apply Nr|with_reducible apply zn|with_reducible apply CV|with_reducible apply JV|with_reducible apply Lp|with_reducible apply Rb|with_reducible apply Q5|with_reducible apply G_|with_reducible apply Nt|with_reducible apply_assumption|contradiction|(split<;>(try dsimp only)))
def alB{o:Option AO}{k:D->R β}{K:D->R γ}(h:∀x,Le kk (k x) (K x)):Le kk (me H b o k) (me H b o K):=by unfold me;repeat' (first|with_reducible exact Le.er|with_reducible exact Le.ret|with_reducible exact h _|intro _|with_reducible apply Nr|with_reducible apply zn|with_reducible apply CV|with_reducible apply JV|with_reducible apply Lp|with_reducible apply Rb|with_reducible apply Q5|with_reducible apply G_|with_reducible apply Nt|with_reducible apply Rn|with_reducible apply_assumption|contradiction|(split<;>(try dsimp only)))
def alT{t:CX}{l:AU}{k:CX->R β}{K:CX->R γ}(h:∀x,Le kk (k x) (K x)):Le kk (kN t ah l k) (kN t ah l K):=by
 induction l generalizing ah t with
 |nil=>exact h t
 |cons v l p=>
  unfold kN at p⊢
  rw[qA,qA]
  exact JV (λ t'=>Lp λ i'=>p (ah:=i') (t:=t')) Le.er
def azI{k:J->R β}{K:J->R γ}(h:∀x,Le kk (k x) (K x)):Le kk (JJ v k) (JJ v K):=by
 unfold JJ;split
 .exact Rb (λ a g dW p=>p _) λ l=>h _
 .exact h _
def agC{k:J->R β}{K:J->R γ}(h:∀c,Le kk (k c) (K c)):Le kk (bE E cI c k) (bE E cI c K):=by unfold bE;repeat' (first|with_reducible exact Le.er|with_reducible exact Le.ret|with_reducible exact h _|intro _|with_reducible apply Nr|with_reducible apply zn|with_reducible apply CV|with_reducible apply JV|with_reducible apply Lp|with_reducible apply Rb|with_reducible apply Q5|with_reducible apply G_|with_reducible apply Nt|with_reducible apply Rn|with_reducible apply alB|with_reducible apply alT|with_reducible apply azI|with_reducible apply_assumption|contradiction|(split<;>(try dsimp only)))
def alI{ak:List Oper}{no:Unit->R β}{h z:Unit->R γ}(G:∀u,Le kk (xd u) (h u))(p:∀u,Le kk (no u) (z u)):Le kk (BB Y ak g xd no) (BB Y ak g h z):=by
 unfold BB
 split
 .exact G _
 .refine G_ (λ o=>?_) Le.er
  split
  .refine CV (λ v=>?_) Le.er;split
   .exact zn (zn (G _) (p _)) (zn (p _) (G _))
   .exact p _
  .exact Le.er
def TJ{d:Option Tmp}{v:J}{k:aE->R β}{K:aE->R γ}(h:∀x,Le kk (k x) (K x)):Le kk (qt Y d v k) (qt Y d v K):=by
 unfold qt;split
 .exact h _
 .exact zn Le.er (JV (λ _=>h _) Le.er)
section
variable{E:aK}{β:Type}{pw:Goc β}{rc:mP}
def apv{kk:γ->R β}{k:Nat->aE->D->R β}{K:Nat->aE->D->R γ}(h:∀x y z,Le kk (k x y z) (K x y z)):Le kk (Gf Y ps aI4 bd H k) (Gf Y ps aI4 bd H K):=by
 unfold Gf;have⟨s,n,m,r,f⟩:=Y;cases r with
 |none=>exact Nt λ _ _=>Nt λ _ _=>h _ _ _
 |some l=>
  refine Rn λ o=>?_
  cases o with
  |loop=>exact Nt λ _ _=>h _ _ _
  |cells=>exact Le.er|tN=>exact Le.er|map=>exact Le.er|deferred=>exact Le.er
def aEO{kk:γ->R β}{k:Nat->CX->R β}{K:Nat->CX->R γ}(h:∀x y,Le kk (k x y) (K x y)):Le kk (NQ l k) (NQ l K):=by unfold NQ;exact alT λ t=>Q5 λ n=>h _ _
def aEt{kk:γ->R β}{args:AU}{k:CX->R β}{K:CX->R γ}(h:∀x,Le kk (k x) (K x)):Le kk (Fu n ps args s k) (Fu n ps args s K):=by
 unfold Fu;induction ps generalizing args s with
 |nil=>
  cases args with|nil=>exact h _|cons a l=>exact Le.er
 |cons p l u=>
  rw[qA,qA]
  cases args with|nil=>exact Le.er|cons a args=>exact zn Le.er (JV (λ s1=>u (args:=args) (s:=s1)) Le.er)
end
end
end Go.Proofs.YtgipmaoplfkdoaaGreatDoor
