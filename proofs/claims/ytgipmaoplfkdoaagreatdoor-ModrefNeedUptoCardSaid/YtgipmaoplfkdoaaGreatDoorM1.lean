import Derived.Test.YtgipmaoplfkdoaaGreatDoorM0
import Derived.Deep.AppendSrc
import Derived.Laws.AppendOwn
import Derived.OrdersIn
import Derived.TacticsIn
import Derived.RangeFuncLeaves
import Derived.RangeFuncNested
import Derived.RangeFuncRecord
import Derived.Conc.MuLone
import Derived.Sort.Grow
import Derived.Sort.Row
import Derived.Shelf.SlIterI.Sorted
import Derived.Shelf.SlIterI.Nil
import Derived.Lib.Slices
import Derived.Shelf.SortM.Plain
import Derived.Shelf.SortM.SortNone
import Derived.Laws.StructEq
import Derived.KernelRfl
set_option linter.all false
set_option maxRecDepth 100000
set_option maxHeartbeats 400000000
namespace Go.Proofs
theorem κ{p:Prop}(h:p:=by kernel_rfl):p:=h
end Go.Proofs
namespace Go.Proofs.YtgipmaoplfkdoaaGreatDoor
noncomputable section
open Go.RowKit
variable{ts:Array aS}{b sh N ah n es:Nat}{β δ:Type}{t e:aS}{w' w w'':bI}{l:AU}{vs:List aC}{x:J}{H1 H2:D}{o':AO}{cI t1:CX}{j:TI}{zv:aC}{f c:dy}{bM:bh}{d:Deferred}{a:Act}{g:Option (Nat×Bool)}{r:dS}{aj:Exit->Act->bI->Prop}{y:Bool}{p':di}{bZ:Nat->Bool}{om:Oper}{au:Fence}{st oE:LoopState}{c_ ajN:Option Code}{rs:List ResultVar}{tm:Array aC}{pl:List di}{ky:List (Nat×KS)}{w0:World}{fz:Nat×Nat}{P:Program}{Ag:List Value->(AU->R (J×D))->R (J×D)}{ss ns zs:BW}{ks:KS}{q:β}{k:Nat->AU->R β}{xd:Unit->R β}{z:R β}
section
variable{P:e8}{E:aK}{s:CX}{o:Oper}{H:D}{r:dS}{w0 w:bI}{ρ:bh}
def Xc(h:cA ρ l vs)(hc:fX l=true):∀u∈vs,u.oneCell'=true:=by intro u hu;have⟨n,hn⟩:=sq hu;have bA:=h.length;have⟨bm,_⟩:=cW.1 hn;have⟨v',O,U⟩:=h.get (bf (by omega:n<l.length));rw[hn]at O;cases O;exact QX U (KQ hc _ (cG _))
def aEN(h:pz es x H k=.ok q):∃n l,k n l=.ok q/\l.length=n*es/\∀w0 ρ w xv t e,HR E w0 ρ H w->Rl ρ x xv->P.underlying t=some (.slice e)->fX l=true->∃vs,Src P es t xv n vs w/\cA ρ l vs:=by
 unfold pz at h
 split at h
 .rename_i id ah gM n ax ex
  have⟨ob,jB,h⟩:=oB h;split at h
  .rename_i m M ro;have⟨O,h⟩:=db h;have⟨U,h⟩:=db h;have⟨l,F,h4,h⟩:=He h;have fR:ah+n*es<=m:=by simpa[kC,add_eq,mul_eq]using U
   refine⟨n,l,h,F,λ w0 ρ w xv t e hr Z hu dV=>?_⟩;obtain⟨b,sh,N,c,hb,k1,k2,k3,k4,k5,rfl⟩:=Z.rT;obtain⟨vs,g1,g2,g3⟩:=hr.read hb jB fR F h4;exact⟨vs,Src.ofSlice w hu _ n c vs g1 g3 (Xc g2 dV),g2⟩
  .cases h
 .rename_i c
  refine⟨0,[],h,ζ,λ w0 ρ w xv t e hr Z hu _=>?_⟩;rw[Z.fI];exact⟨[],Src.ofNil w hu _,.nil⟩
 .refine⟨0,[],h,ζ,λ w0 ρ w xv t e hr Z hu _=>?_⟩
  obtain⟨a,c,rfl⟩:=Z.EY;exact⟨[],Src.ofSlice w hu a 0 c [] ζ ζ ζ,.nil⟩
 .cases h
def HR.move(h:HR E w0 ρ H w){ob:AO}(A:ρ ah=some (b,sh,N))(ho:H.t.get ah=some ob)(jC:ob.Dh=false)(amx:o'.Dh=false)(hg:tG H ah none H1)(ha:uO H1 o' H2)(mW:OR E (ρ.add H.ab (b,n,N)) o' n N w'.heap[b]?)(gu:w'.heap.size=w.heap.size)(cJ:∀k,k≠b->w'.heap[k]?=w.heap[k]?)(U:w'.os=w.os)(F:w'.tape=w.tape)(h4:w'.output=w.output):HR E w0 (ρ.add H.ab (b,n,N)) H2 w'/\cV ρ H (ρ.add H.ab (b,n,N)) H2:=by
 have hB:=h.own ah b sh N ob A ho jC
 have hf:=h.fresh
 have Z:=bh.sk (p:=(b,n,N)) hf
 have rQ:H1.ab=H.ab:=hg.1
 have iW:H2.ab=H.ab+1:=by rw[ha.1,rQ]
 have cases:∀j p,(ρ.add H.ab (b,n,N)) j=some p->(j=H.ab/\p=(b,n,N))\/(j≠H.ab/\ρ j=some p):=by
  intro j p hp;unfold bh.add at hp;split at hp
  .rename_i e;cases hp;exact .inl ⟨e,rfl⟩
  .rename_i e;exact .inr ⟨e,hp⟩
 have PM:∀j,j≠H.ab->∀o2,H2.t.get j=some o2->j≠ah/\H.t.get j=some o2:=by
  intro j hj o2 nG;rw[ha.2,rQ,ao hj,hg.2]at nG;split at nG
  .cases nG
  .rename_i e;exact⟨e,nG⟩
 have atD:∀o2,H2.t.get H.ab=some o2->o2=o':=by intro o2 nG;rw[ha.2,rQ,aq rfl]at nG;exact(FX nG).symm
 have Zm:∀j b2 s2 N2 o2,j≠H.ab->ρ j=some (b2,s2,N2)->H2.t.get j=some o2->b2≠b:=by intro j b2 s2 N2 o2 hj hp nG e;obtain⟨e1,e2⟩:=PM j hj o2 nG;subst e;exact e1 (h.inj j ah b2 s2 N2 sh N _ _ hp A e2 ho jC)
 refine⟨⟨?_,?_,?_,?_,?_,?_,?_,λ j hj=>by rw[ha.2,rQ,ao ω,hg.2];split;rfl;exact h.Y j ω⟩,Z,λ j hj hn=>⟨?_,?_⟩,ω⟩
 .intro j p hp
  rcases cases j p hp with⟨rfl,_⟩|⟨_,hp⟩
  .omega
  .have:=h.lt j p hp;omega
 .intro j b2 s2 N2 o2 hp nG
  rcases cases j _ hp with⟨rfl,e⟩|⟨hj,hp⟩
  .cases e;rw[atD _ nG];exact mW
  .rw[cJ _ (Zm j _ _ _ _ hj hp nG)];exact(h.obj j b2 s2 N2 o2 hp (PM j hj o2 nG).2).mono Z
 .intro i j b2 s1 N1 s2 N2 o1 o2 h5 h6 h7 h8 h9
  rcases cases i _ h5 with⟨rfl,e⟩|⟨du,C5⟩
  .cases e;rcases cases j _ h6 with⟨rfl,_⟩|⟨hj,wy⟩
   .rfl
   .exact absurd rfl (Zm j _ _ _ _ hj wy h8)
  .rcases cases j _ h6 with⟨rfl,e⟩|⟨hj,wy⟩
   .cases e;exact absurd rfl (Zm i _ _ _ _ du C5 h7)
   .exact h.inj i j b2 s1 N1 s2 N2 _ _ C5 wy (PM i du _ h7).2 (PM j hj _ h8).2 h9
 .intro j b2 s2 N2 o2 hp nG mY
  rcases cases j _ hp with⟨rfl,e⟩|⟨hj,hp⟩
  .cases e;exact hB
  .exact h.own j b2 s2 N2 o2 hp (PM j hj o2 nG).2 mY
 .intro j b2 s2 N2 hp
  rw[gu];rcases cases j _ hp with⟨rfl,e⟩|⟨hj,hp⟩
  .cases e;exact h.bF ah b sh N A
  .exact h.bF j b2 s2 N2 hp
 .intro g i rP
  obtain⟨N',hN⟩:=h.vo g i rP;exact⟨N',Z _ _ hN⟩
 .exact⟨U.trans h.ia.os,F.trans h.ia.tape,h4.trans h.ia.output,by rw[gu];exact h.ia.size,λ k Q hs=>by rw[cJ k ω];exact h.ia.block k Q hs⟩
 .unfold bh.add;rw[ao (bC hj)];exact hn
 .rw[ha.2,rQ,ao (bC hj),hg.2,ao]
  rintro rfl;rw[A]at hn;cases hn
def Grown(M cI:CX)(ah k:Nat)(new:AU):Prop:=∀(i:Nat) av,i<k+new.length->cI.get i=some av->(i<k/\M.get (ah+i)=some av)\/(k<=i/\new[i-k]?=some av)
def atI{M:CX}(h:∀j,cI.get j=if b<=j/\j<b+l.length then l[j-b]? else M.get j):Grown M cI 0 b l:=by
 intro i av A ha;rw[h]at ha;by_cases e:b<=i
 .rw[aq ⟨e,A⟩]at ha;exact .inr ⟨e,ha⟩
 .rw[ao ω]at ha;exact .inl ⟨ω,by rw[mQ];exact ha⟩
def ahe{M:CX}{new:AU}(hl:l.length=b)(ho:∀i,i<b->∃x,l[i]?=some x/\M.get (ah+i)=some x)(O:∀j,t1.get j=if 0<=j/\j<0+l.length then l[j-0]? else(Tr.e:CX).get j)(U:∀j,cI.get j=if b<=j/\j<b+new.length then new[j-b]? else t1.get j):Grown M cI ah b new:=by
 intro i av A ha
 rw[U]at ha
 by_cases e:b<=i
 .rw[aq ⟨e,A⟩]at ha;exact .inr ⟨e,ha⟩
 .rw[ao ω,O,aq ω,Ax]at ha
  have⟨x,F,h4⟩:=ho i ω;rw[F]at ha;cases ha;exact .inl ⟨ω,h4⟩
def adQ{ty:aS}(ht:P.underlying t=some (.slice e))(ay:pE P e j){a:Addr}{len c:Nat}{x:aC}(hs:Src P j.size t x n vs w)(Jh:len+n<=c)(eH:(storeCells (a.add (len*j.size)) vs).run P w=.ok () w'):(Builtin.append_ #[t,t] ty #[.slice (some a) len c,x]).run P w=.ok (.slice (some a) (len+n) c) w':=by
 unfold Builtin.append_
 have hz:((TypeDesc.slice e)matches .int _)=false:=rfl
 simp[cK,dR ht,ay.wZ,hs.len,Jh,hs.cells,eH]
def anS(ts:List aS)(args:AU):rL E .append ts args H=match ts,args with|[t,t'],[s,x]=>aB (.er [76]) (cX E t s x H) (Nat.beq t t')|_,_=>.er [77]:=by unfold rL;rcases ts with _|⟨t,_|⟨t',_|⟨t'',ts⟩⟩⟩<;>rcases args with _|⟨x,_|⟨y,_|⟨z,l⟩⟩⟩<;>rfl
def pE.type(ay:pE P e j):∃x zv,P.info? e=some x/\x.size=j.size/\x.bytes=j.bytes/\x.zero=some zv/\zv.cells.size=j.size:=by have⟨x,zv,O,U,F,h4,h5,_⟩:=ay.info;refine⟨x,zv,O,U,F,h4,?_⟩;have:=ay.len;rw[h5]at this;simpa using this
def alV(z:Array aC)(n:Nat):(Builtin.zeroCells z n).size=n*z.size:=by simp[Builtin.zeroCells]
def aGL(EO:eW P E){args:Array dy}(ho:o.op=.call {callee:=.builtin .append,args:=args,argTypes:=ts})(h:bw E s (.call {callee:=.builtin .append,args:=args,argTypes:=ts}) H=.ok r):Wr P E s o H r:=by
 unfold bw at h
 dsimp only at h
 replace h:=BY h;obtain⟨vs,kL,h⟩:=h
 rw[anS]at h
 have key:∃t sv x,ts.toList=[t,t]/\vs=[sv,x]/\cX E t sv x H=.ok r:=by
  split at h
  .rename_i t t' sv x e;replace h:=db h;obtain⟨O,h⟩:=h;have fj:t=t':=by simpa using O
   subst fj;exact⟨_,_,_,e,rfl,h⟩
  .cases h
 clear h
 obtain⟨t,sv,x,A4,rfl,h⟩:=key
 obtain⟨ox,oy,hl,Z,G⟩:=T_ kL
 have dj:args=#[ox,oy]:=Ib hl
 have aaV:ts=#[t,t]:=Ib A4
 have bP:∀z∈args.toList,z∈o.op.operands.toList:=by intro z hz;simp only[ho,Op.operands,Call.operands,yY,b_];exact .inr hz
 have qQ:∀(a:Act) (w w':bI) v,(Builtin.append_ #[t,t] o.type #[a.eval ox,a.eval oy]).run P w=.ok v w'->(execOp a.eval o).run P w=.ok (.value v) w':=by
  intro a w w' v EV;rw[NK ho,aaV];have:args.map a.eval=#[a.eval ox,a.eval oy]:=by rw[dj];simp
  rw[this];simp only[builtin,cK,EV,dD,iL]
 unfold cX at h
 replace h:=Lk h;obtain⟨i,e,j,A,hd,hj,h⟩:=h
 have ay:=EO.tt _ _ hj
 have hu:P.underlying t=some (.slice e):=by have:=(EO.tt _ _ A).oH;rwa[hd]at this
 obtain⟨ti,zv,Jm,ait,awr,htz,A7⟩:=ay.type
 replace h:=aEN (P:=P) (E:=E) h;obtain⟨n,new,h,pP,GM⟩:=h
 have grow:∀(w0:bI) (ρ:bh) (w:bI) (a:Act),HR E w0 ρ H w->∀(base:Option Addr) (len c:Nat) (sV news:List aC),a.eval ox=.slice base len c->c<len+n->len+n<=9223372036854775807->(len+n)*j.bytes<=140737488355328->(Builtin.firstCells j.size len (.slice base len c)).run P w.drew=.ok sV.toArray w.drew->sV.length=len*j.size->Src P j.size t (a.eval oy) n news w->
  ∃x N nc,(execOp a.eval o).run P w=.ok (.value (.slice (some ⟨w.heap.size,0,none⟩) (len+n) nc)) (w.drew.alloc (.cells x e))/\x.size=N/\N=nc*j.size/\len+n<=nc/\nc<=maxLen/\
   ∀(i:Nat) v,(sV++news)[i]?=some v->x[i]?=some v:=by
  intro w0 ρ w a hr base len c sV news e1 hg P0 PX hold A1 hs
  have hnc:=nextslicecap_le (need:=len+n) (old:=c) hg
  have UX:Builtin.nextslicecap (len+n) c*ti.bytes<=281474976710656:=by rw[awr];have O:Builtin.nextslicecap (len+n) c*j.bytes<=2*(len+n)*j.bytes:=nW _ hnc;have U:2*(len+n)*j.bytes=2*((len+n)*j.bytes):=Nat.mul_assoc _ _ _;omega
  have fl:=run_append_grow_src (P:=P) w t t o.type e ti zv hu Jm htz base len c sV (by rw[ait];exact hold) (a.eval oy) n news (by rw[ait];exact hs) hg ω UX
  have AW:=grownCap_ge w (len+n) c e
  have aU:=grownCap_le_maxLen w (len+n) c e (by unfold maxLen;omega)
  refine⟨_,_,_,qQ a w _ _ (by rw[e1];exact fl),rfl,?_,AW,aU,λ i v hv=>?_⟩
  .rw[Array.size_append,alV,A7,Ta,iP,A1,hs.newsLen,<-DW,<-DW]
   congr 1;omega
  .have bm:=(cW.1 hv).1
   rw[aeV (by simpa using bm)];simpa using hv
 split at h
 .
  cases hn:n with
  |zero=>
   rw[hn]at h
   have fH:new=[]:=by rw[hn,OG]at pP;exact BM pP
   intro w0 ρ w a hh ct
   have e1:=(ct.ev Z (bP _ (by simp[dj]))).fI
   obtain⟨news,hs,hrel⟩:=GM w0 ρ w _ t e hh (ct.ev G (bP _ (by simp[dj]))) hu (by rw[fH];rfl)
   refine⟨_,H,_,w,ρ,dk h,.inl (qQ a w w (.slice none 0 0) ?_),.lit _,hh,cV.refl _ _⟩
   have wE:=hs.cells
   rw[hn]at wE
   have sH:=hs.len
   rw[hn]at sH
   unfold Builtin.append_
   simp[e1,cK,dR hu,ay.wZ,sH,wE]
  |succ n'=>
   rw[hn,G8]at h
   rw[<-hn]at h
   replace h:=db h;obtain⟨P0,h⟩:=h
   replace h:=db h;obtain⟨PX,h⟩:=h
   replace h:=db h;obtain⟨dV,h⟩:=h
   replace h:=sd h;obtain⟨t',rS,h⟩:=h
   replace h:=vP h;obtain⟨H',hA,h⟩:=h
   have aad:n<=9223372036854775807:=by simpa[kC]using P0
   have Ul:n*j.bytes<=140737488355328:=by simpa[kC,mul_eq]using PX
   intro w0 ρ w a hh ct
   have e1:=(ct.ev Z (bP _ (by simp[dj]))).fI
   obtain⟨news,hs,hrel⟩:=GM w0 ρ w _ t e hh (ct.ev G (bP _ (by simp[dj]))) hu dV
   obtain⟨xr,N,nc,g1,g2,g3,g4,g5,g6⟩:=grow w0 ρ w a hh none 0 0 [] news e1 ω ω (by simpa using Ul) (by simp[Builtin.firstCells]) ζ hs
   rw[mQ]at g1 g4
   have mW:OR E (ρ.add H.ab (w.heap.size,0,N)) (.cells (n*j.size) t' false) 0 N (some (.cells xr e)):=by
    refine⟨xr,e,(0,0),rfl,g2,?_,λ _=>rfl,λ i av A ha=>?_,λ _=>rfl⟩
    .rw[g3,mQ];exact nW _ g4
    .rw[rS,aq ω,Ax]at ha;obtain⟨v,h5,h6⟩:=hrel.get ha;exact⟨v,by rw[mQ];exact g6 i v (by simpa using h5),h6.mono (bh.sk hh.fresh)⟩
   obtain⟨k1,k2⟩:=(hh.drew (w':=w.drew) rfl rfl rfl rfl).alloc (x:=.cells xr e) hA mW
   refine⟨_,H',_,_,_,dk h,.inl g1,?_,k1,k2⟩
   exact .sl (s:=0) (bh.uY _ _ _) (λ Z=>by cases Z) g4 aF (by rw[g3];simp) g5
 .rename_i id ah gM len ax ex
  replace h:=db h;obtain⟨iV,h⟩:=h;have sF:j.size=gM:=by simpa using iV
  subst sF;replace h:=db h;obtain⟨dV,h⟩:=h;replace h:=zu h;replace h:=db h;obtain⟨P0,h⟩:=h;replace h:=db h;obtain⟨PX,h⟩:=h;rw[add_eq]at h P0 PX;have aad:len+n<=9223372036854775807:=by simpa[kC]using P0
  have Ul:(len+n)*j.bytes<=140737488355328:=by simpa[kC,mul_eq]using PX
  replace h:=oB h;obtain⟨ob,jB,h⟩:=h;split at h
  .rename_i m M ro;have sV:∀(w0:bI) (ρ:bh) (w:bI) b sh N c,HR E w0 ρ H w->ρ id=some (b,sh,N)->len<=ax->ax<=c->sh+ah+c*j.size<=N->ah+len*j.size<=m->∃(sV:List aC),sV.length=len*j.size/\(Builtin.firstCells j.size len (.slice (some ⟨b,sh+ah,none⟩) len c)).run P w.drew=.ok sV.toArray w.drew/\∀(i:Nat) av,i<len*j.size->M.get (ah+i)=some av->∃v,sV[i]?=some v/\Rl ρ av v:=by
    intro w0 ρ w b sh N c hr hb k3 k2 k4 B
    obtain⟨cc,ee,fz,q1,q2,q3,q4,q5,_⟩:=hr.obj _ _ _ _ _ hb jB
    have hlc:len*j.size<=c*j.size:=nW _ ω
    have A1:((cc.toList.drop (sh+ah)).take (len*j.size)).length=len*j.size:=by simp only[eK,FM,rH];omega
    have je:∀i,i<len*j.size->((cc.toList.drop (sh+ah)).take (len*j.size))[i]?=cc[sh+(ah+i)]?:=by intro i A;rw[rI,aq A,v_,pG,vd]
    refine⟨_,A1,run_firstCells_some w.drew j.size len ⟨b,sh+ah,none⟩ len c _ A1 ?_,λ i av A ha=>?_⟩
    .intro i v hv
     have A:i<len*j.size:=by rw[<-A1];exact(cW.1 hv).1
     rw[je i A]at hv;rw[Au];have:(w.drew).heap[b]?=some (.cells cc ee fz):=q1;exact O8 this (by rw[<-hv];congr 1;omega)
    .obtain⟨v,h5,h6⟩:=q5 (ah+i) av ω ha
     exact⟨v,by rw[je i A];exact h5,h6⟩
   have aio:(len+n)*j.size=len*j.size+n*j.size:=DW _ _ _;have row:∀{ρ bM:bh} {cI:CX} {sV news:List aC} {xr:Array aC} {sh:Nat},Am ρ bM->Grown M cI ah (len*j.size) new->sV.length=len*j.size->cA ρ new news->(∀(i:Nat) av,i<len*j.size->M.get (ah+i)=some av->∃v,sV[i]?=some v/\Rl ρ av v)->(∀(i:Nat) v,(sV++news)[i]?=some v->xr[sh+i]?=some v)->∀(i:Nat) av,i<(len+n)*j.size->cI.get i=some av->∃v,xr[sh+i]?=some v/\Rl bM av v:=by
    intro ρ bM cI sV news xr sh Z hG A1 hrel hold hxr i av A ha
    rcases hG i av (by rw[pP];omega) ha with⟨h5,h6⟩|⟨h5,h6⟩
    .obtain⟨v,h7,h8⟩:=hold i av h5 h6
     exact⟨v,hxr i v (by rw[jI ω];exact h7),h8.mono Z⟩
    .obtain⟨v,h7,h8⟩:=hrel.get h6
     exact⟨v,hxr i v (by rw[mi ω,A1];exact h7),h8.mono Z⟩
   cases Jh:Nat.ble (len+n) ax with
   |true=>
    rw[Jh]at h
    replace h:=O3 h;obtain⟨jC,h⟩:=h
    subst jC
    replace h:=db h;obtain⟨B,h⟩:=h
    replace h:=sd h;obtain⟨cI,AN,h⟩:=h
    replace h:=rk h;obtain⟨H',hT,h⟩:=h
    have aij:len+n<=ax:=by simpa[kC]using Jh
    have nH:ah+(len+n)*j.size<=m:=by simpa[kC,add_eq,mul_eq]using B
    intro w0 ρ w a hh ct
    obtain⟨b,sh,N,c,hb,k1,k2,k3,k4,k5,e1⟩:=(ct.ev Z (bP _ (by simp[dj]))).rT
    obtain⟨news,hs,hrel⟩:=GM w0 ρ w _ t e hh (ct.ev G (bP _ (by simp[dj]))) hu dV
    obtain⟨w',g1,g2,g3⟩:=hh.write (P:=P) (ah:=ah+len*j.size) hb jB (by rw[pP];omega) hrel (Xc hrel dV) AN hT
    refine⟨_,H',_,w',ρ,dk h,.inl (qQ a w w' (.slice (some ⟨b,sh+ah,none⟩) (len+n) c) ?_),.sl hb k1 k2 aij k4 k5,g2,g3⟩
    rw[e1]
    exact adQ hu ay hs ω (by rw[Au,vd];exact g1)
   |false=>
    rw[Jh]at h
    have aij:ax<len+n:=by
     rcases kb ax (len+n)with h|h
     .exact h
     .rw[OC h]at Jh;cases Jh
    cases hex:ex with
    |true=>
     rw[hex]at h
     replace h:=db h;obtain⟨B,h⟩:=h
     replace h:=He h;obtain⟨old,sL,mV,h⟩:=h
     replace h:=sd h;obtain⟨t1,A3,h⟩:=h
     replace h:=sd h;obtain⟨cI,AN,h⟩:=h
     replace h:=vP h;obtain⟨H',hA,h⟩:=h
     have nH:ah+len*j.size<=m:=by simpa[kC,add_eq,mul_eq]using B
     have hG:Grown M cI ah (len*j.size) new:=ahe sL mV A3 AN
     intro w0 ρ w a hh ct
     obtain⟨b,sh,N,c,hb,k1,k2,k3,k4,k5,e1⟩:=(ct.ev Z (bP _ (by simp[dj]))).rT
     obtain⟨news,hs,hrel⟩:=GM w0 ρ w _ t e hh (ct.ev G (bP _ (by simp[dj]))) hu dV
     have bX:=k1 hex
     obtain⟨ol,o1,o2,o3⟩:=sV w0 ρ w b sh N c hh hb k3 k2 k4 nH
     obtain⟨xr,N',nc,g1,g2,g3,g4,g5,g6⟩:=grow w0 ρ w a hh _ len c ol news e1 ω aad Ul o2 o1 hs
     have mW:OR E (ρ.add H.ab (w.heap.size,0,N')) (.cells ((len+n)*j.size) cI false) 0 N' (some (.cells xr e)):=by
      refine⟨xr,e,(0,0),rfl,g2,?_,λ _=>rfl,?_,λ _=>rfl⟩
      .rw[g3,mQ];exact nW _ g4
      .exact row (sh:=0) (bh.sk hh.fresh) hG o1 hrel o3 (λ i v hv=>by rw[mQ];exact g6 i v hv)
     obtain⟨p1,p2⟩:=(hh.drew (w':=w.drew) rfl rfl rfl rfl).alloc (x:=.cells xr e) hA mW
     refine⟨_,H',_,_,_,dk h,.inl g1,?_,p1,p2⟩
     exact .sl (s:=0) (bh.uY _ _ _) (λ Z=>by cases Z) g4 aF (by rw[g3];simp) g5
    |false=>
     rw[hex]at h
     replace h:=O3 h;obtain⟨jC,h⟩:=h
     subst jC
     replace h:=db h;obtain⟨B,h⟩:=h
     have nH:ah+len*j.size<=m:=by simpa[kC,add_eq,mul_eq]using B
     replace h:=db h;obtain⟨avQ,h⟩:=h
     have ya:∃cI H1 H',Grown M cI ah (len*j.size) new/\tG H id none H1/\uO H1 (.cells ((len+n)*j.size) cI false) H'/\r=.val (.sl H.ab 0 j.size (len+n) (len+n) false) H':=by
      cases Mp:ah with
      |zero=>
       rw[Mp]at h
       replace h:=sd h;obtain⟨cI,AN,h⟩:=h
       replace h:=rk h;obtain⟨H1,hT,h⟩:=h
       replace h:=vP h;obtain⟨H',hA,h⟩:=h
       rw[hT.1]at h
       exact⟨cI,H1,H',atI AN,hT,hA,dk h⟩
      |succ Nv=>
       rw[Mp,G8]at h
       replace h:=He h;obtain⟨old,sL,mV,h⟩:=h
       replace h:=sd h;obtain⟨t1,A3,h⟩:=h
       replace h:=sd h;obtain⟨cI,AN,h⟩:=h
       replace h:=rk h;obtain⟨H1,hT,h⟩:=h
       replace h:=vP h;obtain⟨H',hA,h⟩:=h
       rw[hT.1]at h
       exact⟨cI,H1,H',ahe sL mV A3 AN,hT,hA,dk h⟩
     obtain⟨cI,H1,H',hG,hT,hA,hr⟩:=ya
     intro w0 ρ w a hh ct
     obtain⟨b,sh,N,c,hb,k1,k2,k3,k4,k5,e1⟩:=(ct.ev Z (bP _ (by simp[dj]))).rT
     obtain⟨news,hs,hrel⟩:=GM w0 ρ w _ t e hh (ct.ev G (bP _ (by simp[dj]))) hu dV
     obtain⟨ol,o1,o2,o3⟩:=sV w0 ρ w b sh N c hh hb k3 k2 k4 nH
     by_cases hc:len+n<=c
     .
      obtain⟨cc,ee,fz,q1,q2,q3,q4,q5,_⟩:=hh.obj _ _ _ _ _ hb jB
      rw[q4 rfl]at q1
      have yf:=Xc hrel dV
      have hnv:=hrel.length
      have hlc:(len+n)*j.size<=c*j.size:=nW _ hc
      have eN:cc.toList.length=cc.size:=rH
      have fl:=run_storeCells_at (P:=P) b (sh+ah+len*j.size) ee news 0 cc w q1 ω yf
      simp only[xx]at fl
      have kj:∀(i:Nat) v,(ol++news)[i]?=some v->((cc.toList.take (sh+ah+len*j.size)++news++cc.toList.drop (sh+ah+len*j.size+news.length)).toArray)[sh+ah+i]?=some v:=by
       intro i v hv;rw[SY];by_cases A:i<len*j.size
       .rw[jI ω]at hv;rw[jI (by simp only[iP,eK];omega),jI (by simp only[eK];omega),rI,aq ω];have:=run_firstCells_some (P:=P) w.drew j.size len ⟨b,sh+ah,none⟩ len c ((cc.toList.drop (sh+ah)).take (len*j.size)) (by simp only[eK,FM];omega) (λ i v hv=>by
         have A:i<len*j.size:=by have:=(cW.1 hv).1;simp only[eK]at this;omega
         rw[rI,aq A,v_,pG]at hv;rw[Au];exact O8 (w:=w.drew) (show w.drew.heap[b]?=_ from q1) hv)
        rw[o2]at this;have e9:ol=(cc.toList.drop (sh+ah)).take (len*j.size):=by have:=iQ (λ r=>match r with|Result.ok a _=>a.toList|_=>[]) this;simpa using this
        rw[e9,rI,aq A,v_]at hv;exact hv
       .rw[mi ω,o1]at hv;have bm:=(cW.1 hv).1;rw[jI (by simp only[iP,eK];omega),mi (by simp only[eK];omega),eK,FU ω];rw[<-hv];congr 1;omega
      have mW:OR E (ρ.add H.ab (b,sh+ah,N)) (.cells ((len+n)*j.size) cI false) (sh+ah) N (w.setRow b (cc.toList.take (sh+ah+len*j.size)++news++cc.toList.drop (sh+ah+len*j.size+news.length)).toArray).heap[b]?:=by
       rw[setRow_heap w b cc _ ee (0,0) q1];refine⟨_,ee,(0,0),rfl,?_,ω,λ _=>rfl,?_,λ O=>by have U:Nat.ble 2 ((len+n)*j.size)=true:=avQ;rw[O]at U;cases U⟩
       .simp only[Ta,iP,eK,FM];omega
       .exact row (bh.sk hh.fresh) hG o1 hrel o3 kj
      obtain⟨p1,p2⟩:=hh.move hb jB rfl rfl hT hA mW (by simp[World.setRow]) (λ k Q=>setRow_other _ _ _ _ Q) rfl rfl rfl
      refine⟨_,H',_,_,_,hr,.inl (qQ a w _ (.slice (some ⟨b,sh+ah,none⟩) (len+n) c) ?_),?_,p1,p2⟩
      .rw[e1]
       exact adQ hu ay hs hc (by rw[Au];exact fl)
      .exact .sl (s:=sh+ah) (bh.uY _ _ _) (λ Z=>by cases Z) hc aF ω k5
     .obtain⟨xr,N',nc,g1,g2,g3,g4,g5,g6⟩:=grow w0 ρ w a hh _ len c ol news e1 ω aad Ul o2 o1 hs
      obtain⟨m1,m2⟩:=hh.gone hb hT;have rQ:H1.ab=H.ab:=hT.1;have mW:OR E (ρ.add H1.ab (w.heap.size,0,N')) (.cells ((len+n)*j.size) cI false) 0 N' (some (.cells xr e)):=by
       refine⟨xr,e,(0,0),rfl,g2,?_,λ _=>rfl,?_,λ _=>rfl⟩
       .rw[g3,mQ];exact nW _ g4
       .exact row (sh:=0) (bh.sk m1.fresh) hG o1 hrel o3 (λ i v hv=>by rw[mQ];exact g6 i v hv)
      obtain⟨p1,p2⟩:=(m1.drew (w':=w.drew) rfl rfl rfl rfl).alloc (x:=.cells xr e) hA mW;refine⟨_,H',_,_,_,hr,.inl g1,?_,p1,m2.trans p2⟩;rw[rQ];exact .sl (s:=0) (bh.uY _ _ _) (λ Z=>by cases Z) g4 aF (by rw[g3];simp) g5
  .cases h
 .cases hn:n with
  |succ n'=>rw[hn]at h;cases h
  |zero=>
   rw[hn]at h
   have fH:new=[]:=by rw[hn,OG]at pP;exact BM pP
   intro w0 ρ w a hh ct
   obtain⟨b,c,e1⟩:=(ct.ev Z (bP _ (by simp[dj]))).EY
   obtain⟨news,hs,hrel⟩:=GM w0 ρ w _ t e hh (ct.ev G (bP _ (by simp[dj]))) hu (by rw[fH];rfl)
   have avJ:news=[]:=by rw[fH]at hrel;cases hrel;rfl
   rw[avJ,hn]at hs
   refine⟨_,H,_,w,ρ,dk h,.inl (qQ a w w (.slice (some b) 0 c) ?_),.eF,hh,cV.refl _ _⟩
   rw[e1]
   have:=adQ (ty:=o.type) hu ay (a:=b) (len:=0) (c:=c) (w':=w) hs (dQ _) (by simp[storeCells])
   exact this
 .cases h
end
variable{m:Nat}{k:AU->R β}
section
variable{P:e8}{E:aK}{s:CX}{o:Oper}{H:D}{r:dS}
def ai4{k:Nat->R β}(h:Ng x k=.ok q):∃n,k n=.ok q/\∀(ρ:bh) xv,Rl ρ x xv->∃base c,xv=.slice base n c:=by
 unfold Ng at h;split at h
 .refine⟨_,h,λ ρ xv Z=>?_⟩;obtain⟨b,sh,N,c,_,_,_,_,_,_,rfl⟩:=Z.rT;exact⟨_,_,rfl⟩
 .exact⟨0,h,λ ρ xv Z=>⟨_,_,Z.fI⟩⟩
 .refine⟨0,h,λ ρ xv Z=>?_⟩;obtain⟨a,c,rfl⟩:=Z.EY;exact⟨_,_,rfl⟩
 .cases h
def aqn(h:Pr es m x H k=.ok q):∃l,k l=.ok q/\l.length=m*es/\∀w0 ρ w xv,HR E w0 ρ H w->Rl ρ x xv->∃vs,(Builtin.firstCells es m xv).run P w=.ok vs.toArray w/\cA ρ l vs:=by
 unfold Pr at h
 split at h
 .rename_i id ah gM n ax ex
  have⟨ob,jB,h⟩:=oB h;split at h
  .rename_i c M ro;have⟨O,h⟩:=db h;have⟨U,h⟩:=db h;have⟨h5,h⟩:=db h;have⟨l,F,h4,h⟩:=He h;have fR:ah+m*es<=c:=by simpa[kC,add_eq,mul_eq]using U
   refine⟨l,h,F,λ w0 ρ w xv hr Z=>?_⟩;obtain⟨b,sh,N,c',hb,k1,k2,k3,k4,k5,rfl⟩:=Z.rT;obtain⟨vs,g1,g2,g3⟩:=hr.read hb jB fR F h4;exact⟨vs,run_firstCells_some w es m _ n c' vs g1 g3,g2⟩
  .cases h
 .cases h
def anU(ts:List aS)(args:AU):rL E .copy ts args H=match ts,args with|t::_,[d,x]=>AF E t d x H|_,_=>.er [77]:=by unfold rL;rcases ts with _|⟨t,_|⟨t',ts⟩⟩<;>rcases args with _|⟨x,_|⟨y,_|⟨z,l⟩⟩⟩<;>rfl
def anT(ts:List aS)(args:AU):rL E .clear ts args H=match ts,args with|[t],[x]=>O_ E t x H|_,_=>.er [77]:=by unfold rL;rcases ts with _|⟨t,_|⟨t',ts⟩⟩<;>rcases args with _|⟨x,_|⟨y,l⟩⟩<;>rfl
def anR(n n':Nat):aB n' n (Nat.ble n n')=Nat.min n n':=by
 cases h:Nat.ble n n' with
 |true=>rw[xI];have:n<=n':=by simpa[kC]using h
        exact(FU this).symm
 |false=>
  rw[Ik]
  rcases kb n' n with h'|h'
  .exact(Nat.min_eq_right (tL h')).symm
  .rw[OC h']at h;cases h
def aGN(EO:eW P E){args:Array dy}(ho:o.op=.call {callee:=.builtin .copy,args:=args,argTypes:=ts})(h:bw E s (.call {callee:=.builtin .copy,args:=args,argTypes:=ts}) H=.ok r):Wr P E s o H r:=by
 unfold bw at h
 dsimp only at h
 replace h:=BY h;obtain⟨vs,kL,h⟩:=h
 rw[anU]at h
 have key:∃t NY d x,ts.toList=t::NY/\vs=[d,x]/\AF E t d x H=.ok r:=by
  split at h
  .rename_i e;exact⟨_,_,_,_,e,rfl,h⟩
  .cases h
 clear h
 obtain⟨t,NY,d,x,A4,rfl,h⟩:=key
 obtain⟨ox,oy,hl,Z,G⟩:=T_ kL
 have dj:args=#[ox,oy]:=Ib hl
 have De:ts[0]?=some t:=by rw[<-pG,A4];rfl
 have bP:∀z∈args.toList,z∈o.op.operands.toList:=by intro z hz;simp only[ho,Op.operands,Call.operands,yY,b_];exact .inr hz
 have qQ:∀(a:Act) (w w':bI) v,(Builtin.copy_ ts o.type #[a.eval ox,a.eval oy]).run P w=.ok v w'->(execOp a.eval o).run P w=.ok (.value v) w':=by
  intro a w w' v EV;rw[NK ho];have:args.map a.eval=#[a.eval ox,a.eval oy]:=by rw[dj];simp
  rw[this];simp only[builtin,cK,EV,dD,iL]
 unfold AF at h
 replace h:=Lk h;obtain⟨i,e,j,A,hd,hj,h⟩:=h
 have ay:=EO.tt _ _ hj
 have hu:P.underlying t=some (.slice e):=by have:=(EO.tt _ _ A).oH;rwa[hd]at this
 replace h:=ai4 h;obtain⟨n,h,GR⟩:=h
 replace h:=ai4 h;obtain⟨n',h,Eo⟩:=h
 replace h:=zu h
 rw[anR]at h
 cases B:Nat.min n n' with
 |zero=>
  rw[B]at h
  intro w0 ρ w a hh ct
  obtain⟨bx,cx,e2⟩:=GR ρ _ (ct.ev G (bP _ (by simp[dj])))
  obtain⟨bd,cd,e1⟩:=Eo ρ _ (ct.ev Z (bP _ (by simp[dj])))
  refine⟨_,H,_,w,ρ,dk h,.inl (qQ a w w (.int .i64 0) ?_),.lit _,hh,cV.refl _ _⟩
  rw[e1,e2]
  unfold Builtin.copy_
  cases bx<;>cases bd<;>simp[De,cK,dR hu,ay.wZ,Builtin.lenOf,B,Builtin.firstCells,loadCells,loadCellsFrom,storeCells,goInt]
 |succ m'=>
  rw[B,G8]at h
  rw[<-B]at h
  replace h:=aqn (P:=P) (E:=E) h;obtain⟨new,h,pP,GM⟩:=h
  split at h
  .rename_i id ah gM len ax ex
   replace h:=db h;obtain⟨iV,h⟩:=h;replace h:=db h;obtain⟨dV,h⟩:=h;replace h:=db h;obtain⟨Mk,h⟩:=h;replace h:=oB h;obtain⟨ob,jB,h⟩:=h;have sF:j.size=gM:=by simpa using iV
   subst sF;split at h
   .rename_i c M ro;replace h:=O3 h;obtain⟨jC,h⟩:=h;subst jC;replace h:=db h;obtain⟨aU,h⟩:=h;replace h:=sd h;obtain⟨cI,AN,h⟩:=h;replace h:=rk h;obtain⟨H',hT,h⟩:=h;have Mi:ah+len*j.size<=c:=by simpa[kC,add_eq,mul_eq]using aU
    have avB:Nat.min n n'<=len:=OD Mk;have AZ:Nat.min n n'*j.size<=len*j.size:=nW _ avB;intro w0 ρ w a hh ct;obtain⟨bx,cx,e2⟩:=GR ρ _ (ct.ev G (bP _ (by simp[dj])));obtain⟨news,hs,hrel⟩:=GM w0 ρ w _ hh (ct.ev G (bP _ (by simp[dj])));obtain⟨bd,cd,e0⟩:=Eo ρ _ (ct.ev Z (bP _ (by simp[dj])));obtain⟨b,sh,N,cm,hb,k1,k2,k3,k4,k5,e1⟩:=(ct.ev Z (bP _ (by simp[dj]))).rT;rw[e1]at e0;cases e0;obtain⟨w',g1,g2,g3⟩:=hh.write (P:=P) (ah:=ah) hb jB (by rw[pP];omega) hrel (Xc hrel dV) AN hT;refine⟨_,H',_,w',ρ,dk h,.inl (qQ a w w' (.int .i64 (Nat.min n n')) ?_),.lit _,g2,g3⟩;rw[e1];rw[e2]at hs⊢;unfold Builtin.copy_;simp[De,cK,dR hu,ay.wZ,Builtin.lenOf,hs,g1,goInt]
   .cases h
  .cases h
def aGX(ay:pE P t j)(hz:j.zero=zv.cells.toList.map J.lit):∀u∈zv.cells.toList,u.oneCell'=true:=by intro u hu;have hc:=ay.cell;rw[hz]at hc;have:=KQ hc (.lit u) (jn.2 ⟨u,hu,rfl⟩);exact QX (ρ:=λ _=>none) (.lit u) this
def aGM(EO:eW P E){args:Array dy}(ho:o.op=.call {callee:=.builtin .clear,args:=args,argTypes:=ts})(h:bw E s (.call {callee:=.builtin .clear,args:=args,argTypes:=ts}) H=.ok r):Wr P E s o H r:=by
 unfold bw at h
 dsimp only at h
 replace h:=BY h;obtain⟨vs,kL,h⟩:=h
 rw[anT]at h
 have key:∃t x,ts.toList=[t]/\vs=[x]/\O_ E t x H=.ok r:=by
  split at h
  .rename_i e;exact⟨_,_,e,rfl,h⟩
  .cases h
 clear h
 obtain⟨t,x,A4,rfl,h⟩:=key
 obtain⟨ox,hl,Z⟩:=agD kL
 have dj:args=#[ox]:=Ib hl
 have De:ts[0]?=some t:=by rw[<-pG,A4];rfl
 have bP:∀z∈args.toList,z∈o.op.operands.toList:=by intro z hz;simp only[ho,Op.operands,Call.operands,yY,b_];exact .inr hz
 have qQ:∀(a:Act) (w w':bI) v,(Builtin.clear_ ts o.type #[a.eval ox]).run P w=.ok v w'->(execOp a.eval o).run P w=.ok (.value v) w':=by
  intro a w w' v EV;rw[NK ho];have:args.map a.eval=#[a.eval ox]:=by rw[dj];simp
  rw[this];simp only[builtin,cK,EV,dD,iL]
 unfold O_ at h
 replace h:=Lk h;obtain⟨i,e,j,A,hd,hj,h⟩:=h
 have ay:=EO.tt _ _ hj
 have hu:P.underlying t=some (.slice e):=by have:=(EO.tt _ _ A).oH;rwa[hd]at this
 split at h
 .rename_i id ah gM len ax ex
  cases bA:len with
  |zero=>
   rw[bA]at h
   intro w0 ρ w a hh ct
   obtain⟨b,sh,N,c,hb,k1,k2,k3,k4,k5,e1⟩:=(ct.ev Z (bP _ (by simp[dj]))).rT
   refine⟨_,H,_,w,ρ,dk h,.inl (qQ a w w (.tuple #[]) ?_),.lit _,hh,cV.refl _ _⟩
   rw[e1,bA]
   unfold Builtin.clear_
   simp[De,dR hu]
  |succ aIB=>
   rw[bA,G8]at h
   rw[<-bA]at h
   replace h:=db h;obtain⟨iV,h⟩:=h
   have sF:j.size=gM:=by simpa using iV
   subst sF
   replace h:=oB h;obtain⟨ob,jB,h⟩:=h
   split at h
   .rename_i m M ro
    replace h:=O3 h;obtain⟨jC,h⟩:=h;subst jC;replace h:=db h;obtain⟨aU,h⟩:=h;replace h:=W_ ay.len h;obtain⟨cI,AN,h⟩:=h;replace h:=rk h;obtain⟨H',hT,h⟩:=h;have Mi:ah+len*j.size<=m:=by simpa[kC,add_eq,mul_eq]using aU
    intro w0 ρ w a hh ct;obtain⟨b,sh,N,c,hb,k1,k2,k3,k4,k5,e1⟩:=(ct.ev Z (bP _ (by simp[dj]))).rT;obtain⟨zv,hz,Dg,_⟩:=ay.adR w;have A7:zv.cells.size=j.size:=by have:=ay.len;rw[Dg]at this;simpa using this
    have pP:(Builtin.zeroCells zv.cells len).toList.length=len*j.size:=by rw[rH,alV,A7]
    have xX:∀k,k<len*j.size->(Builtin.zeroCells zv.cells len).toList[k]?=zv.cells[k%j.size]?:=by
     intro k Q;have wL:0<j.size:=by rcases ze j.size with h|h;(rw[h]at Q;simp at Q);exact h
     have bm:k%j.size<zv.cells.size:=by rw[A7];exact H8 _ wL
     rw[pG];unfold Builtin.zeroCells;simp only[aeW,A7];rw[aeY,aq Q];simp only[xy];rw[FZ zv.cells _ bm,HO bm]
    have yf:∀u∈(Builtin.zeroCells zv.cells len).toList,u.oneCell'=true:=by intro u QK;obtain⟨k,Q⟩:=sq QK;have bm:=(cW.1 Q).1;rw[xX k ω]at Q;exact aGX ay Dg u (by rw[<-pG]at Q;exact oS Q)
    obtain⟨w',g1,g2,g3⟩:=hh.write (P:=P) (ah:=ah) (l:=(Builtin.zeroCells zv.cells len).toList.map J.lit) hb jB (by rw[bW,pP];omega) (RI _) yf (λ k=>by
     rw[AN k,bW,pP];by_cases Q:ah<=k/\k<ah+len*j.size
     .rw[aq Q,aq Q,y',xX (k-ah) ω,Dg,y',pG]
     .rw[ao Q,ao Q]) hT
    refine⟨_,H',_,w',ρ,dk h,.inl (qQ a w w' (.tuple #[]) ?_),.lit _,g2,g3⟩;rw[e1,bA];rw[bA]at g1;unfold Builtin.clear_;simp[De,cK,dR hu,hz,g1]
   .cases h
 .intro w0 ρ w a hh ct
  have e1:=(ct.ev Z (bP _ (by simp[dj]))).fI;refine⟨_,H,_,w,ρ,dk h,.inl (qQ a w w (.tuple #[]) ?_),.lit _,hh,cV.refl _ _⟩;rw[e1];unfold Builtin.clear_;simp[De,dR hu]
 .intro w0 ρ w a hh ct
  obtain⟨b,c,e1⟩:=(ct.ev Z (bP _ (by simp[dj]))).EY;refine⟨_,H,_,w,ρ,dk h,.inl (qQ a w w (.tuple #[]) ?_),.lit _,hh,cV.refl _ _⟩;rw[e1];unfold Builtin.clear_;simp[De,dR hu]
 .cases h
def Ca(P:e8)(E:aK)(s:CX)(o:Oper)(H:D)(r:dS):Prop:=(∃f args,r=.call f args H/\∀ρ w a,Ctx E ρ s a o.op->∃dn:Array aC,cA ρ args dn.toList/\(execOp a.eval o).run P w=(callFunc f dn).run P w)\/(∃l args,r=.round l args H/\∀ρ w a,Ctx E ρ s a o.op->∃(dn:Array aC) (b sh N:Nat),ρ l=some (b,sh,N)/\cA ρ args dn.toList/\(execOp a.eval o).run P w=(Instr.yield b dn).run P w)
def an1{args:Array dy}(ho:o.op=.call {callee:=.value f,args:=args,argTypes:=ts})(h:bw E s (.call {callee:=.value f,args:=args,argTypes:=ts}) H=.ok r):Ca P E s o H r:=by
 unfold bw at h
 dsimp only at h
 have⟨fv,Me,h⟩:=gO h
 have⟨vs,kL,h⟩:=BY h
 have aia:f∈o.op.operands.toList:=by simp[ho,Op.operands,Call.operands]
 have bP:∀z∈args.toList,z∈o.op.operands.toList:=by intro z hz;simp only[ho,Op.operands,Call.operands,yY,b_];exact .inr hz
 unfold rM at h
 split at h
 .rename_i g first captured
  split at h
  .rename_i n;rw[DX,DX]at h;cases h;refine .inl ⟨_,_,rfl,λ ρ w a ct=>?_⟩;obtain⟨l',m',O,U,e1⟩:=(ct.ev Me aia).V6;have F:=ct.TY kL bP;refine⟨(l'++args.map a.eval)++m',?_,?_⟩
   .simp only[yY,Array.toList_map,FK];exact O.append (F.append U)
   .simp[execOp,ho,resolve,e1,Deferred.ofValue,invoke]
  .rename_i l;rw[DX]at h;cases h;refine .inr ⟨_,_,rfl,λ ρ w a ct=>?_⟩;obtain⟨b,sh,N,O,rfl,rfl,e1⟩:=(ct.ev Me aia).awS;have F:=ct.TY kL bP;refine⟨args.map a.eval,b,sh,N,O,by simpa using F,?_⟩;simp[execOp,ho,resolve,e1,Deferred.ofValue,invoke]
  .cases h
 .cases h
def Ds(EO:eW P E)(h:bw E s o.op H=.ok r):match kX o.op with|.pu=>Pu P E s o H r|.ro=>Ro P E s o H r|.al=>Al P E s o H r|.wr=>Wr P E s o H r\/Ca P E s o H r:=by
 cases ho:o.op<;>rw[ho]at h<;>first
  |exact ajW (.inl ho) h|exact ajW (.inr ho) h|exact aCz ho h|exact aCq EO ho h|exact aCy ho h|exact aCp EO ho h|exact aCB ho h|exact aCr EO ho h|exact aCx ho h|exact aCA EO ho h|exact aCu EO ho h|exact aCt EO ho h|exact aCw EO ho h|exact aCv EO ho h|exact aCs ho h|exact aD1 EO ho h|exact aD2 EO ho h|exact amQ EO ho h|exact amR ho h|exact amS EO ho h|exact amT EO ho h|exact amU EO ho h|exact .inl (aGR EO ho h)|exact .inl (alP EO (.inl ho) h)|exact .inl (alP EO (.inr ho) h)|(cases h;done)|skip
 rename_i c;obtain⟨callee,args,ts⟩:=c;cases callee with
 |value f=>exact .inr (an1 ho h)|invoke x m=>cases h
 |builtin b=>
  cases b<;>first
   |exact ajV (.inl rfl) ho h|exact ajV (.inr rfl) ho h|exact aD0 EO ho h|exact .inl (aGL EO ho h)|exact .inl (aGO EO ho h)|exact .inl (aGN EO ho h)|exact .inl (aGM EO ho h)
   |(exfalso
     unfold bw at h
     dsimp only at h
     have⟨vs,kL,h⟩:=BY h
     unfold rL at h
     rcases A4:ts.toList with _|⟨t,_|⟨t',_|⟨t'',NY⟩⟩⟩<;>rw[A4]at h<;>rcases vs with _|⟨x,_|⟨y,_|⟨z,l⟩⟩⟩<;>cases h)
end
variable{Y:aE}{H H':D}{ak:Array Oper}{aI4 bd:Code}{E:aK}{f:fD}{o:Oper}{ro:Option Nat}{ρ:bh}{s:CX}
abbrev Fw(ro:Option Nat):Fence:={Fence.wide with round:=ro}
def Oh(ρ:bh)(id:Nat)(d:Deferred):Prop:=∃b s N,ρ id=some (b,s,N)/\d={target:=.collected b,args:=#[]}
def Oh.mono(Z:Am ρ bM)(h:Oh ρ sh d):Oh bM sh d:=by have⟨b,s,N,O,U⟩:=h;exact⟨b,s,N,Z _ _ O,U⟩
structure FR(ρ:bh)(ro:Option Nat)(Y:aE)(a:Act):Prop where
 size:a.tmps.size=Y.size
 Bu:∀(t:Nat) av,Y.cD.get t=some av->∃v,a.tmps[t]?=some v/\Rl ρ av v
 marks:F2 (Oh ρ) Y.marks a.defers
 round:(Y.round=none/\ro=none)\/∃l b s N,Y.round=some l/\ρ l=some (b,s,N)/\ro=some b
def FR.mono{bM:bh}{a:Act}(h:FR ρ ro Y a)(Z:Am ρ bM):FR bM ro Y a:=⟨h.size,λ t av ha=>let⟨v,x,y⟩:=h.Bu t av ha;⟨v,x,y.mono Z⟩,h.marks.mono λ _ _ B=>B.mono Z,h.round.imp id λ ⟨l,b,s,N,O,U,F⟩=>⟨l,b,s,N,O,Z _ _ U,F⟩⟩
def FR.ctx(h:FR ρ ro Y a)(hg:Gl E ρ)(o:Op):Ctx E ρ Y.cD a o:=⟨hg,λ x _=>by cases x<;>first|trivial|exactλ v hv=>h.Bu _ v hv⟩
structure Ak(Y:aE)(d:Option Tmp)(v:J)(an:aE):Prop where
 size:an.size=Y.size
 marks:an.marks=Y.marks
 round:an.round=Y.round
 fn:an.fn=Y.fn
 lt:∀t,d=some t->t<Y.size
 get:∀j,an.cD.get j=if d=some j then some v else Y.cD.get j
def TH{d:Option Tmp}{k:aE->R β}(h:qt Y d x k=.ok q):∃an,Ak Y d x an/\k an=.ok q:=by
 unfold qt at h;cases d with
 |none=>exact⟨Y,⟨rfl,rfl,rfl,rfl,λ t e=>(by cases e),λ j=>ζ⟩,h⟩
 |some t=>
  have⟨s,n,m,r,f⟩:=Y
  dsimp only at h
  have⟨O,h⟩:=db h
  have⟨s',U,h⟩:=JU h
  refine⟨⟨s',n,m,r,f⟩,⟨rfl,rfl,rfl,rfl,λ t' e=>?_,λ j=>?_⟩,h⟩
  .cases e;rw[tK]at O;exact O
  .show s'.get j=_
   rw[U];by_cases e:j=t
   .subst e;simp
   .rw[ao e,ao (λ h=>e (FX h).symm)]
def put_defers(a:Act)(x:Option Tmp)(v:aC):(a.put x v).defers=a.defers:=by cases x<;>rfl
def adz(a:Act)(x:Option Tmp)(v:aC):(a.put x v).tmps.size=a.tmps.size:=by cases x<;>simp[Act.put]
def ady(a:Act)(x:Option Tmp)(v:aC)(t:Tmp):(a.put x v).tmps[t]?=if x=some t/\t<a.tmps.size then some v else a.tmps[t]?:=by
 cases x with
 |none=>simp[Act.put]
 |some d=>
  simp only[Act.put,HP]
  by_cases e:d=t
  .subst e
   by_cases h:d<a.tmps.size
   .simp[h]
   .simp[h]
  .rw[ao e,ao (by simp[e])]
def FR.put{an:aE}{a:Act}{d:Option Tmp}{v:J}{u:aC}(h:FR ρ ro Y a)(hp:Ak Y d v an)(hv:Rl ρ v u):FR ρ ro an (a.put d u):=by
 refine⟨by rw[adz,hp.size];exact h.size,λ t av ha=>?_,by rw[hp.marks,put_defers];exact h.marks,by rw[hp.round];exact h.round⟩;rw[hp.get]at ha;rw[ady];by_cases e:d=some t
 .rw[aq e]at ha;cases ha;rw[aq ⟨e,by rw[h.size];exact hp.lt t e⟩];exact⟨u,rfl,hv⟩
 .rw[ao e]at ha;rw[ao (λ h=>e h.1)];exact h.Bu t av ha
def V8(v:J)(b:Bool):Bool:=match v with|.lit (.bool c)=>c==b|_=>false
def rD(s:CX)(ak:List Oper)(g:Option (Nat×Bool))(b:Bool):Prop:=match g with|none=>b=true|some (j,wb)=>∃o t v,ak[j]?=some o/\o.dst=some t/\s.get t=some v/\b=V8 v wb
def alH{ak:List Oper}{no:Unit->R β}(h:BB Y ak g xd no=.ok q):(rD Y.cD ak g true/\xd ()=.ok q)\/(rD Y.cD ak g false/\no ()=.ok q):=by
 unfold BB at h
 cases g with
 |none=>exact .inl ⟨rfl,h⟩
 |some jb=>
  obtain⟨j,wb⟩:=jb
  dsimp only at h
  have⟨o,ho,h⟩:=Dr h
  cases hd:o.dst with
  |none=>rw[hd]at h;cases h
  |some t=>
   rw[hd]at h
   dsimp only at h
   have⟨v,hv,h⟩:=oY h
   have key:∀b,b=V8 v wb->rD Y.cD ak (some (j,wb)) b:=λ b e=>⟨o,t,v,ho,hd,hv,e⟩
   split at h
   .rename_i c
    cases wb<;>cases c
    .exact .inl ⟨key _ rfl,h⟩
    .exact .inr ⟨key _ rfl,h⟩
    .exact .inr ⟨key _ rfl,h⟩
    .exact .inl ⟨key _ rfl,h⟩
   .rename_i hn
    refine .inr ⟨key _ ?_,h⟩;unfold V8;split
    .rename_i c;exact absurd rfl (hn c)
    .rfl
def awW(u:aC)(b:Bool):Bool:=match u with|.bool c=>c==b|_=>false
def awX(h:Rl ρ x zv)(b:Bool):awW zv b=V8 x b:=by cases h<;>first|rfl|(cases zv<;>rfl)
def rD.rel{b:Bool}(h:rD s ak.toList o.guard b)(hs:∀j wb o' t,o.guard=some (j,wb)->ak[j]?=some o'->o'.dst=some t->∀v,s.get t=some v->∃u,a.tmps[t]?=some u/\Rl ρ v u):Region.wanted o (yielded ak a.tmps)=b:=by
 unfold rD at h
 unfold Region.wanted
 cases hg:o.guard with
 |none=>rw[hg]at h;exact h.symm
 |some jb=>
  obtain⟨j,wb⟩:=jb
  rw[hg]at h
  obtain⟨o',t,v,O,U,F,h4⟩:=h
  have fj:ak[j]?=some o':=by simpa using O
  obtain⟨u,h5,h6⟩:=hs j wb o' t hg fj U v F
  have h7:=awX h6 wb
  rw[h4,<-h7]
  simp only[yielded,fj,Option.bind_some,U,h5]
  cases u<;>first|rfl|(rename_i c;cases c<;>cases wb<;>rfl)
def Sn(P:e8)(E:aK)(w0:bI)(f:fD)(args:AU)(H:D)(v:J)(H':D):Prop:=
 ∀ρ w (dn:Array aC),HR E w0 ρ H w->cA ρ args dn.toList->(callFunc f dn).run P w=.ok (.enter f dn) w/\
  Calls P f dn w λ e w'=>∃u bM,e=.returned u/\Rl bM v u/\HR E w0 bM H' w'/\cV ρ H bM H'
def aeJ(P:e8)(E:aK)(w0:bI)(l:Nat)(args:AU)(H:D)(v:J)(H':D):Prop:=
 ∀ρ w (dn:Array aC) b s N,HR E w0 ρ H w->ρ l=some (b,s,N)->cA ρ args dn.toList->∃f tmps aI4 bd,(Instr.yield b dn).run P w=.ok (.round b f tmps aI4 bd) w/\
  ∀n,RoundIn Fence.wide n P b f tmps aI4 bd w λ e w'=>∃u bM,e=.returned u/\Rl bM v u/\HR E w0 bM H' w'/\cV ρ H bM H'
structure Aq(P:Program)(E:aK)(w0:World)(rc:mP):Prop where
 call:∀f args H v H',rc (.call f args) H=.ok (v,H')->Sn P E w0 f args H v H'
 round:∀l args H v H',rc (.round l args) H=.ok (v,H')->aeJ P E w0 l args H v H'
section
variable{P:e8}{E:aK}{rc:mP}{w0:bI}
def XL(E:aK)(rc:mP)(s:CX)(o:Oper)(H:D)(v:J)(H':D):Prop:=bw E s o.op H=.ok (.val v H')\/(∃f args H1,bw E s o.op H=.ok (.call f args H1)/\rc (.call f args) H1=.ok (v,H'))\/(∃l args H1,bw E s o.op H=.ok (.round l args H1)/\rc (.round l args) H1=.ok (v,H'))
def ajF{ak:List Oper}{k:aE->D->R β}(h:iZ E rc Y ak o H k=.ok q):(rD Y.cD ak o.guard true/\∃v H' an,XL E rc Y.cD o H v H'/\Ak Y o.dst v an/\k an H'=.ok q)\/(rD Y.cD ak o.guard false/\∃an,Ak Y o.dst pD an/\k an H=.ok q):=by
 unfold iZ at h
 rcases alH h with⟨hw,h⟩|⟨hw,h⟩
 .refine .inl ⟨hw,?_⟩
  split at h
  .cases h
  .rename_i r hr;split at h
   .have⟨an,hp,h⟩:=TH h;exact⟨_,_,an,.inl hr,hp,h⟩
   .split at h
    .rename_i p hp;obtain⟨v,jS⟩:=p;have⟨an,zM,h⟩:=TH h;exact⟨v,jS,an,.inr (.inl ⟨_,_,_,hr,hp⟩),zM,h⟩
    .cases h
   .split at h
    .rename_i p hp;obtain⟨v,jS⟩:=p;have⟨an,zM,h⟩:=TH h;exact⟨v,jS,an,.inr (.inr ⟨_,_,_,hr,hp⟩),zM,h⟩
    .cases h
 .have⟨an,hp,h⟩:=TH h
  exact .inr ⟨hw,an,hp,h⟩
def Rj(h:bw E s o.op H=.ok r):∀c,o.op≠.defer c:=by intro c hc;rw[hc]at h;cases h
def afX{args:Array aC}{R:Ending->bI->Prop}(h:Calls P f args w R):CallsIn (Fw ro) n P f args w R:=(callsIn_wide (n:=n)).2 h
def aD3{tmps:Array aC}{R:Ending->bI->Prop}(h:RoundIn Fence.wide n P b f tmps aI4 bd w R):RoundIn (Fw ro) n P b f tmps aI4 bd w R:=h
def afI(EO:eW P E)(RO:Aq P E w0 rc)(h:XL E rc s o H x H'){next:Act->bI->Prop}(n:Nat)(hh:HR E w0 ρ H w)(hc:Ctx E ρ s a o.op)(Q:∀bM u w',Rl bM x u->HR E w0 bM H' w'->cV ρ H bM H'->next (a.put o.dst u) w'):o.wpIn (Fw ro) n P a w next aj:=by
 have ahC:((Fw ro).depth.isSome=true->1<=n):=λ h=>by cases h
 have fin:∀r,bw E s o.op H=.ok r->(Fw ro).round=ro->o.uponIn (Fw ro) n P a next aj ((execOp a.eval o).run P w)->o.wpIn (Fw ro) n P a w next aj:=by intro r hr _ hu;refine⟨λ _ _=>trivial,?_⟩;rw[Oper.semAt_eq _ _ _ (Rj hr)];exact hu
 have wr:∀r,bw E s o.op H=.ok r->Wr P E s o H r->r=.val x H'->o.wpIn (Fw ro) n P a w next aj:=by
  intro r hr hw e;have⟨av,H2,u,w',bM,e2,fl,O,U,F⟩:=hw w0 ρ w a hh hc;rw[e]at e2;cases e2;refine fin r hr rfl ?_;rcases fl with fl|⟨fl,rfl⟩
  .rw[fl,Oper.uponIn_value];exact Q bM u w' O U F
  .rw[fl,Oper.uponIn_skip];exact Q bM undef w' O U F
 rcases h with h|⟨f,args,H1,h,EJ⟩|⟨l,args,H1,h,EJ⟩
 .have:=Ds EO h
  cases Ek:kX o.op<;>rw[Ek]at this
  .exact wr _ h this.ro.wr rfl
  .exact wr _ h this.wr rfl
  .exact wr _ h this.wr rfl
  .rcases this with this|this
   .exact wr _ h this rfl
   .rcases this with⟨_,_,e,_⟩|⟨_,_,e,_⟩<;>cases e
 .have:=Ds EO h
  have ca:Ca P E s o H (.call f args H1):=by
   cases Ek:kX o.op<;>rw[Ek]at this
   .have⟨_,e,_⟩:=this;cases e
   .have⟨_,e,_⟩:=this;cases e
   .have⟨_,_,_,e,_⟩:=this;cases e
   .rcases this with this|this
    .have⟨_,_,_,_,_,e,_⟩:=this w0 ρ w a hh hc;cases e
    .exact this
  rcases ca with⟨_,_,e,mT⟩|⟨_,_,e,_⟩
  .cases e;have⟨dn,O,U⟩:=mT ρ w a hc;have⟨F,h4⟩:=RO.call _ _ _ _ _ EJ ρ w dn hh O;refine fin _ h rfl ?_;rw[U,F,Oper.uponIn_enter];refine⟨ahC,afX (h4.mono ?_)⟩;rintro e w' ⟨u,bM,rfl,h5,h6,h7⟩;exact Q bM u w' h5 h6 h7
  .cases e
 .have:=Ds EO h
  have ca:Ca P E s o H (.round l args H1):=by
   cases Ek:kX o.op<;>rw[Ek]at this
   .have⟨_,e,_⟩:=this;cases e
   .have⟨_,e,_⟩:=this;cases e
   .have⟨_,_,_,e,_⟩:=this;cases e
   .rcases this with this|this
    .have⟨_,_,_,_,_,e,_⟩:=this w0 ρ w a hh hc;cases e
    .exact this
  rcases ca with⟨_,_,e,_⟩|⟨_,_,e,mT⟩
  .cases e
  .cases e;have⟨dn,b,sh,N,hb,O,U⟩:=mT ρ w a hc;have⟨f,tmps,aI4,bd,F,h4⟩:=RO.round _ _ _ _ _ EJ ρ w dn b sh N hh hb O;refine fin _ h rfl ?_;rw[U,F,Oper.uponIn_round];refine⟨ahC,aD3 ((h4 (n-1)).mono ?_)⟩;rintro e w' ⟨u,bM,rfl,h5,h6,h7⟩;exact Q bM u w' h5 h6 h7
def FR.guard{a:Act}(h:FR ρ ro Y a){b:Bool}(hw:rD Y.cD ak.toList o.guard b):Region.wanted o (yielded ak a.tmps)=b:=hw.rel λ _ _ _ t _ _ _ v hv=>h.Bu t v hv
theorem WO(EO:eW P E)(RO:Aq P E w0 rc){β:Type}{ak:Array Oper}{k:aE->D->R β}{q:β}(n:Nat):∀{l:List Oper} {Y:aE} {H:D},nO E rc ak.toList l k Y H=.ok q->
 ∃an H',k an H'=.ok q/\an.fn=Y.fn/\∀(ρ:bh) (ro:Option Nat) (a:Act) (w:bI) (aj:Exit->Act->bI->Prop),HR E w0 ρ H w->FR ρ ro Y a->
  (∀bM a' w',FR bM ro an a'->HR E w0 bM H' w'->cV ρ H bM H'->aj .normal a' w')->wpListIn (Fw ro) n P ak aj l a w
 |[],Y,H,h=>⟨Y,H,h,rfl,λ ρ ro a w aj hh hf Q=>Q ρ a w hf hh (cV.refl _ _)⟩
 |o::l,Y,H,h=>by
  have h':iZ E rc Y ak.toList o H (nO E rc ak.toList l k)=.ok q:=h
  rcases ajF h' with⟨hw,v,H1,dT,hs,hp,O⟩|⟨hw,dT,hp,O⟩
  .have⟨an,H',U,F,h4⟩:=WO EO RO n O
   refine⟨an,H',U,F.trans hp.fn,λ ρ ro a w aj hh hf Q=>?_⟩;unfold wpListIn;rw[aq (hf.guard hw)];refine afI EO RO hs n hh (hf.ctx hh.gl _) λ bM u w' g1 g2 g3=>?_;exact h4 bM ro _ w' aj g2 ((hf.mono g3.ext).put hp g1) λ ρ2 a2 w2 f1 f2 f3=>Q ρ2 a2 w2 f1 f2 (g3.trans f3)
  .have⟨an,H',U,F,h4⟩:=WO EO RO n O
   refine⟨an,H',U,F.trans hp.fn,λ ρ ro a w aj hh hf Q=>?_⟩;unfold wpListIn;rw[ao (by rw[hf.guard hw];simp)];exact⟨λ _ _=>trivial,h4 ρ ro _ w aj hh (hf.put hp (.lit _)) Q⟩
end
variable{i j:Nat}
def Oj(E:aK)(rc:mP)(ak:Array Oper)(o:Oper)(x y:aE×D):Prop:=(rD x.1.cD ak.toList o.guard true/\∃v,XL E rc x.1.cD o x.2 v y.2/\Ak x.1 o.dst v y.1)\/(rD x.1.cD ak.toList o.guard false/\Ak x.1 o.dst pD y.1/\y.2=x.2)
def XM(E:aK)(ak:Array Oper)(i:Nat)(y:aE×D):Prop:=∃o,ak[i]?=some o/\(rD y.1.cD ak.toList o.guard false\/(rD y.1.cD ak.toList o.guard true/\∃v H1,bw E y.1.cD o.op y.2=.ok (.val v H1)/\∀t,o.dst=some t->y.1.cD.get t=some v))
def Sy(E:aK)(rc:mP)(ak:Array Oper)(p:di)(x y:aE×D):Prop:=∃o,ak[p.i]?=some o/\Oj E rc ak o x y/\∀w re,p=.wr w re->∀i∈re,XM E ak i y
def Az(h:Nat.beq sh b=true):sh=b:=su.mp h
def jc{x y:Bool}(h:aB false x y=true):y=true/\x=true:=by cases y with|false=>cases h|true=>exact⟨rfl,h⟩
def anO{x:Bool}(h:aB (aB true false x) x y=true):y=x:=by cases x<;>cases y<;>first|rfl|cases h
def agm{b:J}(h:xO x b=true):x=b:=by
 unfold xO at h;split at h
 .split at h
  .rfl
  .have⟨O,U⟩:=jc h;rw[Az O,Az U]
  .rfl
  .rfl
  .rw[ZT h]
 .have⟨O,U⟩:=jc h;rw[Az O,Az U]
 .have⟨O,h⟩:=jc h;have⟨U,h⟩:=jc h;have⟨F,h⟩:=jc h;have⟨h4,h⟩:=jc h;have⟨h5,h⟩:=jc h;rw[Az O,Az U,Az F,Az h4,Az h5,anO h]
 .rfl
 .rw[Az h]
 .cases h
theorem ZQ:∀{a b:AU},TU a b=true->a=b
 |[],[],_=>rfl|[],_::_,h=>by cases h
 |_::_,[],h=>by cases h
 |x::a,y::b,h=>by
  have h':aB false (TU a b) (xO x y)=true:=h
  have⟨O,U⟩:=jc h'
  rw[agm O,ZQ U]
def apC{b:J}(h:fy x b=true):x=b:=by
 unfold fy at h;split at h
 .rw[ZQ h]
 .rw[ZQ h]
 .exact agm h
section
variable{P:e8}{E:aK}{rc:mP}{w0:bI}{ak:Array Oper}
def amG(h:xq E Y ak.toList i H xd=.ok q):XM E ak i (Y,H)/\xd ()=.ok q:=by
 unfold xq at h;replace h:=Dr h;obtain⟨o,ho,h⟩:=h;have eB:ak[i]?=some o:=by simpa using ho
 rcases alH h with⟨hw,h⟩|⟨hw,h⟩
 .split at h
  .rename_i v H1 bP;cases hd:o.dst with
   |none=>rw[hd]at h;exact⟨⟨o,eB,.inr ⟨hw,v,H1,bP,λ t e=>by rw[hd]at e;cases e⟩⟩,h⟩
   |some t=>
    rw[hd]at h
    dsimp only at h
    replace h:=oY h;obtain⟨u,hu,h⟩:=h
    replace h:=db h;obtain⟨he,h⟩:=h
    have:=apC he
    subst this
    exact⟨⟨o,eB,.inr ⟨hw,u,H1,bP,λ t' e=>by rw[hd]at e;cases e;exact hu⟩⟩,h⟩
  .cases h
 .exact⟨⟨o,eB,.inl hw⟩,h⟩
theorem aeU{β:Type}{Y:aE}{H:D}{k:Unit->R β}{q:β}:∀{l:AT},rG E Y ak.toList l H k=.ok q->(∀i∈l,XM E ak i (Y,H))/\k ()=.ok q
 |[],h=>⟨ζ,h⟩
 |i::l,h=>by
  have h':xq E Y ak.toList i H (λ _=>rG E Y ak.toList l H k)=.ok q:=h
  have⟨O,U⟩:=amG h'
  have⟨F,h4⟩:=aeU (l:=l) U
  exact⟨λ j hj=>by rcases cZ.1 hj with rfl|hj;exact O;exact F j hj,h4⟩
def ajI{k:aE->D->R β}(h:iZ E rc Y ak.toList o H k=.ok q):∃y:aE×D,Oj E rc ak o (Y,H) y/\k y.1 y.2=.ok q:=by
 rcases ajF h with⟨hw,v,H',an,O,U,F⟩|⟨hw,an,O,U⟩
 .exact⟨(an,H'),.inl ⟨hw,v,O,U⟩,F⟩
 .exact⟨(an,H),.inr ⟨hw,O,rfl⟩,U⟩
theorem ajO{β:Type}{k:aE->D->R β}{q:β}:∀{pl:List di} {Y:aE} {H:D},m8 E rc ak.toList pl k Y H=.ok q->∃S:Nat->aE×D,S 0=(Y,H)/\k (S pl.length).1 (S pl.length).2=.ok q/\∀j p,pl[j]?=some p->Sy E rc ak p (S j) (S (j+1))
 |[],Y,H,h=>⟨λ _=>(Y,H),rfl,h,λ j p hp=>by simp at hp⟩
 |p::pl,Y,H,h=>by
  have key:∃y:aE×D,Sy E rc ak p (Y,H) y/\m8 E rc ak.toList pl k y.1 y.2=.ok q:=by
   cases p with
   |op i=>
    have h':mE ak.toList i (λ o=>iZ E rc Y ak.toList o H (m8 E rc ak.toList pl k)) (.er [127])=.ok q:=h
    have⟨o,ho,O⟩:=Dr h'
    have⟨y,U,F⟩:=ajI O
    exact⟨y,⟨o,by simpa[di.i]using ho,U,λ w re e=>by cases e⟩,F⟩
   |wr i re=>
    have h':mE ak.toList i (λ o=>iZ E rc Y ak.toList o H λ an H'=>rG E an ak.toList re H' λ _=>m8 E rc ak.toList pl k an H') (.er [128])=.ok q:=h
    have⟨o,ho,O⟩:=Dr h'
    have⟨y,U,F⟩:=ajI O
    have⟨h4,h5⟩:=aeU F
    exact⟨y,⟨o,by simpa[di.i]using ho,U,λ w re' e=>by cases e;exact h4⟩,h5⟩
  have⟨y,G,O⟩:=key
  have⟨S,IW,hSn,hS⟩:=ajO (pl:=pl) O
  refine⟨λ j=>match j with|0=>(Y,H)|j+1=>S j,rfl,hSn,λ j p' hp=>?_⟩
  cases j with
  |zero=>
   simp at hp;subst hp
   show Sy E rc ak p (Y,H) (S 0)
   rw[IW];exact G
  |succ j=>exact hS j p' (by simpa using hp)
variable{pl:List di}{S:Nat->aE×D}
def JD{p:di}:p∈pl.take j↔∃j',j'<j/\pl[j']?=some p:=by
 constructor
 .intro h;obtain⟨n,hn⟩:=sq h;rw[rI]at hn;split at hn
  .exact⟨n,by assumption,hn⟩
  .cases hn
 .rintro⟨j',O,U⟩;exact oS (i:=j') (by rw[rI,aq O];exact U)
def rE.pos(PO:rE ak pl){p:di}(h:pl[j]?=some p)(h':pl[b]?=some p')(e:p.i=p'.i):j=b:=by
 rcases Tc j b with bm|Et|bm
 .exact absurd e ((PO.pc b p' h').fresh p (JD.2 ⟨j,bm,h⟩))
 .exact Et
 .exact absurd e.symm ((PO.pc j p h).fresh p' (JD.2 ⟨b,bm,h'⟩))
def rE.Y_(PO:rE ak pl)(h:ch ak i m):∀{j:Nat} {p:di},pl[j]?=some p->p.i=i->∃j' p',j'<j/\pl[j']?=some p'/\p'.i=m:=by
 induction h with
 |bV ho he hb B=>
  intro j p hp A
  have⟨q,hq,Mu⟩:=(PO.pc j p hp).Rv _ (by rw[A];exact ho) _ he hb
  have⟨j',O,U⟩:=JD.1 hq
  exact⟨j',q,O,U,Mu.trans B⟩
 |step ho he hb B _ ih=>
  intro j p hp A
  have⟨q,hq,Mu⟩:=(PO.pc j p hp).Rv _ (by rw[A];exact ho) _ he hb
  have⟨j',O,U⟩:=JD.1 hq
  have⟨j2,p2,F,h4,h5⟩:=ih U (Mu.trans B)
  exact⟨j2,p2,Nat.lt_trans F O,h4,h5⟩
def Hv(ak:Array Oper)(bZ:Nat->Bool):Prop:=∀i o,ak[i]?=some o->bZ i=true->∀e∈o.after,Region.binds .any e=true->bZ e.on=true
def Hv.zl(h:Hv ak bZ)(ha:ch ak i m):bZ i=true->bZ m=true:=by induction ha with|bV ho he hb B=>intro A;rw[<-B];exact h _ _ ho A _ he hb|step ho he hb B _ ih=>intro A;exact ih (by rw[<-B];exact h _ _ ho A _ he hb)
def Hv.ready(h:Hv ak bZ)(ha:ch ak i m)(ho:ak[i]?=some o)(hr:∀e∈o.after,Region.binds .any e=true->bZ e.on=true):bZ m=true:=by cases ha with|bV eB he hb B=>rw[ho]at eB;cases eB;rw[<-B];exact hr _ he hb|step eB he hb B ha=>rw[ho]at eB;cases eB;exact h.zl ha (by rw[<-B];exact hr _ he hb)
def BJ(E:aK)(rc:mP)(ak:Array Oper)(pl:List di)(S:Nat->aE×D):Prop:=∀j p,pl[j]?=some p->Sy E rc ak p (S j) (S (j+1))
def Oj.put{x y:aE×D}(h:Oj E rc ak o x y):∃v,Ak x.1 o.dst v y.1:=by
 rcases h with⟨_,v,_,h⟩|⟨_,h,_⟩
 .exact⟨v,h⟩
 .exact⟨_,h⟩
def adS(hS:BJ E rc ak pl S):∀j,j<=pl.length->(S j).1.size=(S 0).1.size/\(S j).1.marks=(S 0).1.marks/\(S j).1.round=(S 0).1.round/\(S j).1.fn=(S 0).1.fn:=by
 intro j;induction j with
 |zero=>intro _;exact⟨rfl,rfl,rfl,rfl⟩
 |succ j ih=>
  intro hj
  have⟨O,U,F,h4⟩:=ih ω
  have⟨o,_,eH,_⟩:=hS j _ (bf ω)
  have⟨v,hp⟩:=eH.put
  exact⟨hp.size.trans O,hp.marks.trans U,hp.round.trans F,hp.fn.trans h4⟩
def adW(hS:BJ E rc ak pl S){t:Tmp}:∀j',j<=j'->j'<=pl.length->(∀l p o,j<=l->l<j'->pl[l]?=some p->ak[p.i]?=some o->o.dst≠some t)->(S j').1.cD.get t=(S j).1.cD.get t:=by
 intro j';induction j' with
 |zero=>intro h _ _;have:j=0:=ω
        rw[this]
 |succ j' ih=>
  intro O U F
  by_cases e:j=j'+1
  .rw[e]
  .rw[<-ih ω ω (λ l p o a b=>F l p o a ω)]
   have hp:=bf (show j'<pl.length by omega);have⟨o,ho,eH,_⟩:=hS j' _ hp;have⟨v,fO⟩:=eH.put;rw[fO.get,ao (F j' _ o ω ω hp ho)]
def rE.written(PO:rE ak pl)(hS:BJ E rc ak pl S){t:Tmp}(hp:pl[sh]?=some p')(B:p'.i=m)(ho:ak[m]?=some om)(hd:om.dst=some t):(∀j,sh<j->j<=pl.length->(S j).1.cD.get t=(S (sh+1)).1.cD.get t)/\(∀j,j<=sh->(S j).1.cD.get t=(S 0).1.cD.get t):=by
 have bm:sh<pl.length:=(cW.1 hp).1
 have only:∀l p o,pl[l]?=some p->ak[p.i]?=some o->o.dst=some t->l=sh:=by intro l p o O U F;have:=PO.ZJ _ _ _ _ _ U ho F hd;exact PO.pos O hp (by rw[this,B])
 constructor
 .intro j O U
  refine adW hS j ω U λ l p o a b c d e=>?_;have:=only l p o c d e;omega
 .intro j O
  refine adW hS j ω ω λ l p o a b c d e=>?_;have:=only l p o c d e;omega
def alw(hS:BJ E rc ak pl S){t:Tmp}(h:∀(m:Nat) (om:Oper),ak[m]?=some om->om.dst≠some t)(j:Nat)(hj:j<=pl.length):(S j).1.cD.get t=(S 0).1.cD.get t:=adW hS j ω hj λ l p o _ _ _ d=>h _ _ d
def aAp(EO:eW P E){x y:aE×D}(h:Oj E rc ak o x y)(hc:kX o.op≠.wr):y.2=x.2\/∃ob,uO x.2 ob y.2:=by
 rcases h with⟨_,v,hs,_⟩|⟨_,_,e⟩
 .rcases hs with hs|⟨f,args,H1,hs,_⟩|⟨l,args,H1,hs,_⟩
  .have:=Ds EO hs;cases eN:kX o.op<;>rw[eN]at this
   .have⟨av,e,_⟩:=this;exact .inl (dS.val.inj e).2
   .have⟨av,e,_⟩:=this;exact .inl (dS.val.inj e).2
   .have⟨av,ob,H',e,hA,_⟩:=this;rw[(dS.val.inj e).2];exact .inr ⟨ob,hA⟩
   .exact absurd eN hc
  .have:=Ds EO hs;cases eN:kX o.op<;>rw[eN]at this
   .have⟨av,e,_⟩:=this;cases e
   .have⟨av,e,_⟩:=this;cases e
   .have⟨av,ob,H',e,hA,_⟩:=this;cases e
   .exact absurd eN hc
  .have:=Ds EO hs;cases eN:kX o.op<;>rw[eN]at this
   .have⟨av,e,_⟩:=this;cases e
   .have⟨av,e,_⟩:=this;cases e
   .have⟨av,ob,H',e,hA,_⟩:=this;cases e
   .exact absurd eN hc
 .exact .inl e
structure uQ(H H':D):Prop where
 ab:H.ab<=H'.ab
 get:∀id,id<H.ab->H'.t.get id=H.t.get id
def uQ.refl(H:D):uQ H H:=⟨aF,λ _ _=>rfl⟩
theorem uQ.trans{H H1 H2:D}(h:uQ H H1)(U:uQ H1 H2):uQ H H2:=⟨aY h.ab U.ab,λ id bD=>(U.get id (aT bD h.ab)).trans (h.get id bD)⟩
def uQ.azR(h:uO H o' H'):uQ H H':=⟨by rw[h.1];omega,λ id bD=>by rw[h.2,ao (bC bD)]⟩
def Ko(pl:List di)(j j':Nat):Prop:=∀l p,j<=l->l<j'->pl[l]?=some p->p.sP=false
def F6(EO:eW P E)(PO:rE ak pl)(hS:BJ E rc ak pl S):∀j',j<=j'->j'<=pl.length->Ko pl j j'->uQ (S j).2 (S j').2/\∀ρ w,HR E w0 ρ (S j).2 w->HR E w0 ρ (S j').2 w:=by
 intro j';induction j' with
 |zero=>intro h _ _;have:j=0:=ω
        subst this;exact⟨uQ.refl _,λ _ _ h=>h⟩
 |succ j' ih=>
  intro O U F
  by_cases e:j=j'+1
  .subst e;exact⟨uQ.refl _,λ _ _ h=>h⟩
  .have⟨g1,g2⟩:=ih ω ω (λ l p a b=>F l p a ω)
   have hp:=bf (show j'<pl.length by omega);have⟨o,ho,eH,_⟩:=hS j' _ hp;have GJ:=F j' _ ω ω hp;have eN:kX o.op≠.wr:=by cases mC:pl[j']with|op i=>rw[mC]at ho hp;exact(PO.pc j' _ hp).cl i rfl o ho|wr i re=>rw[mC]at GJ;cases GJ
   rcases aAp EO eH eN with e2|⟨ob,hA⟩
   .rw[e2];exact⟨g1,g2⟩
   .exact⟨g1.trans (.azR hA),λ ρ w h=>(g2 ρ w h).Ye hA⟩
theorem aby(pl:List di):∀(d m:Nat),m+d=pl.length->∃k,m<=k/\k<=pl.length/\Ko pl m k/\(k=pl.length\/∃p,pl[k]?=some p/\p.sP=true)
 |0,m,h=>⟨m,aF,ω,λ l p a b=>ω,.inl ω⟩
 |d+1,m,h=>by
  have B:m<pl.length:=ω
  cases hw:pl[m].sP with
  |true=>exact⟨m,aF,ω,λ l p a b=>ω,.inr ⟨_,bf B,hw⟩⟩
  |false=>
   have⟨k,O,U,F,h4⟩:=aby pl d (m+1) ω
   refine⟨k,ω,U,λ l p a b c=>?_,h4⟩
   by_cases e:l=m
   .subst e
    rw[bf B]at c;cases c;exact hw
   .exact F l p ω b c
end
variable{v:aC}
section
variable{P:e8}{E:aK}{rc:mP}{w0:bI}{ak:Array Oper}{pl:List di}{S:Nat->aE×D}
structure DI(E:aK)(w0:World)(ak:Array Oper)(pl:List di)(S:Nat->aE×D)(xe:bh)(a:Act)(cS:Array Bool)(k:Nat)(ρ:bh)(a':Act)(w':World):Prop where
 size:cS.size=ak.size
 closed:Hv ak (λ i=>cS.getD i false)
 Jw:k<=pl.length
 Hq:∀l p,l<k->pl[l]?=some p->p.sP=true->cS.getD p.i false=true
 Wc:k=pl.length\/∃p,pl[k]?=some p/\p.sP=true/\cS.getD p.i false=false
 sub:∀(l:Nat) (p:di),pl[l]?=some p->cS.getD p.i false=true->l<k
 hr:HR E w0 ρ (S k).2 w'
 wf:∀j,j<=k->∀id,(S j).2.ab<=id->(S j).2.t.get id=none
 later:cV xe (S 0).2 ρ (S k).2
 un:∀l p,l<k->pl[l]?=some p->cS.getD p.i false=false->∀id,(S l).2.ab<=id->id<(S (l+1)).2.ab->ρ id=none/\(S k).2.t.get id=(S (l+1)).2.t.get id
 mono:∀i j,i<=j->j<=k->(S i).2.ab<=(S j).2.ab
 XB:a'.tmps.size=a.tmps.size
 defers:a'.defers=a.defers
 done:∀(l:Nat) (p:di) (o:Oper) (t:Tmp),pl[l]?=some p->ak[p.i]?=some o->o.dst=some t->cS.getD p.i false=true->∀av,(S (l+1)).1.cD.get t=some av->∃v,a'.tmps[t]?=some v/\Rl ρ av v
 still:∀t:Tmp,(∀(i:Nat) (o:Oper),ak[i]?=some o->o.dst=some t->cS.getD i false=false)->∀av,(S 0).1.cD.get t=some av->∃v,a'.tmps[t]?=some v/\Rl ρ av v
def axN{t:Tmp}(h:Operand.tmp t∈o.op.operands.toList):t∈o.looksAt ak:=zb _ (YJ.2 ⟨.tmp t,h,rfl⟩)
def axL{t:Tmp}(h:o.guard=some (j,y))(O:ak[j]?=some om)(U:om.dst=some t):t∈o.looksAt ak:=S3 _ (by simp[h,O,U])
section
variable{xe ρ:bh}{a a':Act}{w':bI}{cS:Array Bool}{k:Nat}
def DI.Xo(PO:rE ak pl)(hS:BJ E rc ak pl S)(h:DI E w0 ak pl S xe a cS k ρ a' w')(ho:ak[i]?=some o)(hr:∀e∈o.after,Region.binds .any e=true->cS.getD e.on false=true){t:Tmp}(GG:b<=pl.length)(hw:∀(lm:Nat) (pm:di) (om:Oper),pl[lm]?=some pm->ak[pm.i]?=some om->om.dst=some t->(ch ak i pm.i/\lm<b)\/(cS.getD pm.i false=false/\b<=lm)):∀v,(S b).1.cD.get t=some v->∃u,a'.tmps[t]?=some u/\Rl ρ v u:=by
 intro v hv
 by_cases hex:∃(m:Nat) (om:Oper),ak[m]?=some om/\om.dst=some t
 .have⟨m,om,B,hd⟩:=hex
  have⟨lm,pm,nJ,iK⟩:=PO.Xx m (tI.1 B).1;have⟨w1,w2⟩:=PO.written hS nJ iK B hd;rcases hw lm pm om nJ (by rw[iK];exact B) hd with⟨g1,g2⟩|⟨g1,g2⟩
  .have hl:=h.closed.ready g1 ho hr;rw[w1 b g2 GG]at hv;exact h.done lm pm om t nJ (by rw[iK];exact B) hd hl v hv
  .rw[w2 b g2]at hv;refine h.still t (λ i' o' O U=>?_) v hv;have:=PO.ZJ _ _ _ _ _ O B U hd;rw[this,<-iK];exact g1
 .rw[alw hS (λ m om O U=>hex ⟨m,om,O,U⟩) b GG]at hv
  exact h.still t (λ i' o' O U=>absurd ⟨i',o',O,U⟩ hex) v hv
def DI.own(PO:rE ak pl)(h:DI E w0 ak pl S xe a cS k ρ a' w'){l:Nat}{p:di}{o:Oper}(hp:pl[l]?=some p)(ho:ak[p.i]?=some o)(vG:cS.getD p.i false=false){t:Tmp}(ht:t∈o.looksAt ak):∀(lm:Nat) (pm:di) (om:Oper),pl[lm]?=some pm->ak[pm.i]?=some om->om.dst=some t->(ch ak p.i pm.i/\lm<l)\/(cS.getD pm.i false=false/\l<=lm):=by
 intro lm pm om nJ hom hd
 rcases PO.look p.i pm.i o om t ho hom hd ht with e|ha|ha
 .have:=PO.pos nJ hp e
  exact .inr ⟨by rw[e];exact vG,ω⟩
 .have⟨j',p',O,U,F⟩:=PO.Y_ ha hp rfl
  have:=PO.pos U nJ F;exact .inl ⟨ha,ω⟩
 .have⟨j',p',O,U,F⟩:=PO.Y_ ha nJ rfl
  have:=PO.pos U hp F;refine .inr ⟨?_,ω⟩;cases hl:cS.getD pm.i false with
  |false=>rfl
  |true=>
   have:=h.closed.zl ha hl
   rw[vG]at this;cases this
theorem DI.cD(PO:rE ak pl)(hS:BJ E rc ak pl S)(h:DI E w0 ak pl S xe a cS k ρ a' w'){l:Nat}{p:di}(hp:pl[l]?=some p)(ho:ak[p.i]?=some o)(gu:a.tmps.size=(S 0).1.size){av:J}(fO:Ak (S l).1 o.dst av (S (l+1)).1){ρ2:bh}(Z:Am ρ ρ2){u:aC}(hu:Rl ρ2 av u):(∀(l':Nat) (p':di) (o':Oper) (t:Tmp),pl[l']?=some p'->ak[p'.i]?=some o'->o'.dst=some t->(cS.setIfInBounds p.i true).getD p'.i false=true->∀av,(S (l'+1)).1.cD.get t=some av->∃v,(a'.put o.dst u).tmps[t]?=some v/\Rl ρ2 av v)/\(∀t:Tmp,(∀(i:Nat) (o:Oper),ak[i]?=some o->o.dst=some t->(cS.setIfInBounds p.i true).getD i false=false)->∀av,(S 0).1.cD.get t=some av->∃v,(a'.put o.dst u).tmps[t]?=some v/\Rl ρ2 av v):=by
 have A:p.i<cS.size:=by rw[h.size];exact(tI.1 ho).1
 have je:∀j,(cS.setIfInBounds p.i true).getD j false=if j=p.i then true else cS.getD j false:=by
  intro j;by_cases e:j=p.i
  .subst e;simp[A]
  .rw[ao e];simp only[DU,HP];rw[ao (λ h=>e h.symm)]
 have sJ:l<pl.length:=(cW.1 hp).1
 constructor
 .intro l' p' o' t zM eB hd hl Zf eM
  rw[ady];by_cases e:p'.i=p.i
  .have:=PO.pos zM hp e;subst this;rw[hp]at zM;cases zM;rw[ho]at eB;cases eB;rw[fO.get,aq hd]at eM;cases eM;refine⟨u,by rw[aq ⟨hd,?_⟩],hu⟩;rw[h.XB,gu,<-(adS hS l' ω).1];exact fO.lt t hd
  .rw[je,ao e]at hl;rw[ao (λ hh=>e (PO.ZJ _ _ _ _ _ eB ho hd hh.1))];have⟨v,O,U⟩:=h.done l' p' o' t zM eB hd hl Zf eM;exact⟨v,O,U.mono Z⟩
 .intro t dV Zf eM
  rw[ady];rw[ao (λ hh=>by have:=dV p.i o ho hh.1;rw[je,aq rfl]at this;cases this)];have⟨v,O,U⟩:=h.still t (λ i o' O U=>by
   have:=dV i o' O U;rw[je]at this;split at this
   .cases this
   .exact this) Zf eM
  exact⟨v,O,U.mono Z⟩
def aoI(h:Hv ak (λ i=>cS.getD i false))(A:i<cS.size)(ho:ak[i]?=some o)(hr:∀e∈o.after,Region.binds .any e=true->cS.getD e.on false=true):Hv ak (λ j=>(cS.setIfInBounds i true).getD j false)/\∀j,(cS.setIfInBounds i true).getD j false=if j=i then true else cS.getD j false:=by
 have je:∀j,(cS.setIfInBounds i true).getD j false=if j=i then true else cS.getD j false:=by
  intro j;by_cases e:j=i
  .subst e;simp[A]
  .rw[ao e];simp only[DU,HP];rw[ao (λ h=>e h.symm)]
 refine⟨λ j o' eB hj e he hb=>?_,je⟩
 simp only[je]at hj⊢
 split
 .rfl
 .by_cases ej:j=i
  .subst ej;rw[ho]at eB;cases eB;exact hr e he hb
  .rw[ao ej]at hj;exact h j o' eB hj e he hb
def axt(pl:List di)(l:Nat):∀k,l<=k->Ko pl l k\/∃m p,l<=m/\m<k/\pl[m]?=some p/\p.sP=true/\Ko pl (m+1) k:=by
 intro k;induction k with
 |zero=>intro h;exact .inl λ l' p a b=>ω
 |succ k ih=>
  intro h
  by_cases e:l=k+1
  .exact .inl λ l' p a b=>ω
  .have ext:∀m,Ko pl m k->(∀p,pl[k]?=some p->p.sP=false)->Ko pl m (k+1):=by
    intro m O U l' p a b c;by_cases e:l'=k
    .subst e;exact U p c
    .exact O l' p a ω c
   cases hp:pl[k]? with
   |none=>
    have U:∀p,pl[k]?=some p->p.sP=false:=λ p hh=>by rw[hp]at hh;cases hh
    rcases ih ω with O|⟨m,p,a,b,c,d,f⟩
    .exact .inl (ext l O U)
    .exact .inr ⟨m,p,a,ω,c,d,ext _ f U⟩
   |some p=>
    cases hw:p.sP with
    |true=>exact .inr ⟨k,p,ω,ω,hp,hw,λ l' q a b=>ω⟩
    |false=>
     have U:∀q,pl[k]?=some q->q.sP=false:=λ q hh=>by rw[hp]at hh;cases hh;exact hw
     rcases ih ω with O|⟨m,p,a,b,c,d,f⟩
     .exact .inl (ext l O U)
     .exact .inr ⟨m,p,a,ω,c,d,ext _ f U⟩
def uQ.keeps(h:uQ H H')(hw:∀id,H.ab<=id->H.t.get id=none):nU H H':=by
 intro id o ho;have:id<H.ab:=by
  rcases kb id H.ab with O|O
  .exact O
  .rw[hw id O]at ho;cases ho
 rw[h.get id this];exact ho
def XJ{a:Act}{next:Act->bI->Prop}(hd:∀c,o.op≠.defer c)(fl:(execOp a.eval o).run P w=.ok (.value v) w'')(hn:next (a.put o.dst v) w''):o.wpIn (Fw ro) n P a w next aj:=by
 refine⟨λ _ _=>trivial,?_⟩
 rw[Oper.semAt_eq _ _ _ hd,fl,Oper.uponIn_value]
 exact hn
def Zp(O:cS.getD i true=false):cS.getD i false=false:=by simp only[DU]at O⊢;cases h:cS[i]? with|none=>rw[h]at O;cases O|some b=>rw[h]at O;exact O
def DI.step(EO:eW P E)(RO:Aq P E w0 rc)(PO:rE ak pl)(hS:BJ E rc ak pl S)(gu:a.tmps.size=(S 0).1.size)(h:DI E w0 ak pl S xe a cS k ρ a' w'){i:Nat}(A:i∈Region.ready .any ak cS)(n:Nat)(ro:Option Nat)(aj:Exit->Act->bI->Prop)(K:Act->bI->Prop)(hK:∀k2 ρ2 a2 w2,DI E w0 ak pl S xe a (cS.setIfInBounds i true) k2 ρ2 a2 w2->K a2 w2):wpOpIn (Fw ro) n P ak aj i K a' w':=by
 obtain⟨sH,o,ho,hr⟩:=mem_ready.1 A
 have az:i<ak.size:=(tI.1 ho).1
 have vG:cS.getD i false=false:=Zp (by simpa using sH)
 obtain⟨l,p,hp,iK⟩:=PO.Xx i az
 subst iK
 have sJ:l<pl.length:=(cW.1 hp).1
 obtain⟨ahw,je⟩:=aoI h.closed (by rw[h.size];exact az) ho hr
 have Kp:=PO.pc l p hp
 have cN:l<=k:=by
  rcases kb k l with bm|AW
  .exfalso;rcases h.Wc with e|⟨pk,hpk,hwk,cN⟩
   .omega
   .have:=Kp.Hq pk (JD.2 ⟨k,bm,hpk⟩) hwk;have:=h.closed.ready this ho hr;rw[cN]at this;cases this
  .exact AW
 obtain⟨o',eB,eH,qO⟩:=hS l p hp
 rw[ho]at eB;cases eB
 have ahA:∀{jj:Nat},jj<=pl.length->(∀t∈o.looksAt ak,∀(lm:Nat) (pm:di) (om:Oper),pl[lm]?=some pm->ak[pm.i]?=some om->om.dst=some t->(ch ak p.i pm.i/\lm<jj)\/(cS.getD pm.i false=false/\jj<=lm))->Ctx E ρ (S jj).1.cD a' o.op/\∀b,rD (S jj).1.cD ak.toList o.guard b->Region.wanted o (yielded ak a'.tmps)=b:=by
  intro jj GG hw
  refine⟨⟨h.hr.gl,λ x Z=>?_⟩,λ b hb=>hb.rel (ρ:=ρ) λ j wb o' t hg O U v hv=>?_⟩
  .cases x with
   |tmp t=>exactλ v hv=>h.Xo PO hS ho hr GG (hw t (axN Z)) v hv
   |_=>trivial
  .exact h.Xo PO hS ho hr GG (hw t (axL hg O U)) v hv
 obtain⟨hc,hw⟩:=ahA (jj:=l) ω (λ t ht=>h.own PO hp ho vG ht)
 have NT:l<k->∀(ρ2:bh) (w2:bI) (av:J) (u:aC),Am ρ ρ2->HR E w0 ρ2 (S k).2 w2->(∀id,ρ2 id≠ρ id->(S l).2.ab<=id/\id<(S (l+1)).2.ab)->Ak (S l).1 o.dst av (S (l+1)).1->Rl ρ2 av u->K (a'.put o.dst u) w2:=by
  intro bm ρ2 w2 av u Z mY hd fO hu;obtain⟨d1,d2⟩:=h.cD PO hS hp ho gu fO Z hu;refine hK k ρ2 _ w2 ⟨by simp[h.size],ahw,h.Jw,?_,?_,?_,mY,h.wf,?_,?_,h.mono,by rw[adz,h.XB],by rw[put_defers,h.defers],d1,d2⟩
  .intro l' p' a1 a2 a3;rw[je];split
   .rfl
   .exact h.Hq l' p' a1 a2 a3
  .rcases h.Wc with e|⟨pk,O,U,F⟩
   .exact .inl e
   .refine .inr ⟨pk,O,U,?_⟩;rw[je,ao (λ e=>by have:=PO.pos O hp e;omega)];exact F
  .intro l' p' a1 a2;rw[je]at a2;split at a2
   .rename_i e;have:=PO.pos a1 hp e;omega
   .exact h.sub l' p' a1 a2
  .refine⟨λ id q hq=>Z _ _ (h.later.ext id q hq),λ id bD hn=>?_,h.later.ab⟩;obtain⟨g1,g2⟩:=h.later.A9 id bD hn;refine⟨?_,g2⟩;by_cases e:ρ2 id=ρ id
   .rw[e];exact g1
   .have:=(hd id e).1;have:=h.mono 0 l (dQ _) cN;omega
  .intro l' p' a1 a2 a3 id b1 b2;rw[je]at a3;split at a3
   .cases a3
   .rename_i e;obtain⟨g1,g2⟩:=h.un l' p' a1 a2 a3 id b1 b2;refine⟨?_,g2⟩;by_cases e2:ρ2 id=ρ id
    .rw[e2];exact g1
    .exfalso;obtain⟨c1,c2⟩:=hd id e2;have cR:l'≠l:=by rintro rfl;rw[a2]at hp;cases hp;exact e rfl
     rcases kb l' l with wJ|aHM
     .have:=h.mono (l'+1) l wJ cN;omega
     .have:=h.mono (l+1) l' ω ω;omega
 unfold wpOpIn
 simp only[ho]
 by_cases avp:l=k
 .
  subst avp
  have hpw:p.sP=true:=by
   rcases h.Wc with e|⟨pk,O,U,_⟩
   .omega
   .rw[hp]at O;cases O;exact U
  have next:∀(ρ2:bh) (w2:bI) (av:J) (u:aC),HR E w0 ρ2 (S (l+1)).2 w2->cV ρ (S l).2 ρ2 (S (l+1)).2->Ak (S l).1 o.dst av (S (l+1)).1->Rl ρ2 av u->K (a'.put o.dst u) w2:=by
   intro ρ2 w2 av u mY bm fO hu;obtain⟨d1,d2⟩:=h.cD PO hS hp ho gu fO bm.ext hu;obtain⟨k2,e1,e2,e3,e4⟩:=aby pl (pl.length-(l+1)) (l+1) ω;have AA:∀j,l+1<=j->j<=k2->uQ (S (l+1)).2 (S j).2/\∀ρ w,HR E w0 ρ (S (l+1)).2 w->HR E w0 ρ (S j).2 w:=λ j g1 g2=>F6 EO PO hS j g1 ω λ l' p a1 a2=>e3 l' p a1 ω;have hgr:=(AA k2 e1 aF).1;have avC:∀i j,i<=j->j<=k2->(S i).2.ab<=(S j).2.ab:=by
    intro i j dK hj;rcases kb l i with g1|g1
    .have gi:=(AA i g1 ω).1;exact(F6 (w0:=w0) EO PO hS (j:=i) j dK ω λ l' p a1 a2=>e3 l' p ω ω).1.ab
    .rcases kb l j with g2|g2
     .exact aY (h.mono i l g1 aF) (aY bm.ab (AA j g2 hj).1.ab)
     .exact h.mono i j dK g2
   refine hK k2 ρ2 _ w2 ⟨by simp[h.size],ahw,e2,?_,?_,?_,(AA k2 e1 aF).2 _ _ mY,?_,?_,?_,avC,by rw[adz,h.XB],by rw[put_defers,h.defers],d1,d2⟩
   .intro l' p' a1 a2 a3;rw[je];split
    .rfl
    .rcases Tc l' l with g|g|g
     .exact h.Hq l' p' g a2 a3
     .subst g;rw[hp]at a2;cases a2;rename_i e;exact absurd rfl e
     .have:=e3 l' p' ω a1 a2;rw[a3]at this;cases this
   .rcases e4 with e4|⟨pk,O,U⟩
    .exact .inl e4
    .refine .inr ⟨pk,O,U,?_⟩;rw[je,ao (λ e=>by have:=PO.pos O hp e;omega)];cases hh:cS.getD pk.i false with|false=>rfl|true=>have:=h.sub k2 pk O hh;omega
   .intro l' p' a1 a2;rw[je]at a2;split at a2
    .rename_i e;have:=PO.pos a1 hp e;omega
    .have:=h.sub l' p' a1 a2;omega
   .intro j hj id bD;rcases kb l j with g1|g1
    .exact((AA j g1 hj).2 _ _ mY).Y id bD
    .exact h.wf j g1 id bD
   .refine(h.later.trans bm).trans ⟨λ _ _ hh=>hh,λ id bD hn=>⟨hn,hgr.get id bD⟩,hgr.ab⟩
   .intro l' p' a1 a2 a3 id b1 b2;rw[je]at a3;split at a3
    .cases a3
    .rename_i e;have cR:l'≠l:=by rintro rfl;rw[a2]at hp;cases hp;exact e rfl
     rcases kb l' l with g|g
     .obtain⟨g1,g2⟩:=h.un l' p' g a2 a3 id b1 b2;have bD:id<(S l).2.ab:=aT b2 (h.mono (l'+1) l g aF);obtain⟨g3,g4⟩:=bm.A9 id bD g1;exact⟨g3,(hgr.get id (aT bD bm.ab)).trans (g4.trans g2)⟩
     .refine⟨?_,?_⟩
      .cases hq:ρ2 id with
       |none=>rfl
       |some q=>
        have:=mY.lt id q hq
        have:=(AA l' ω ω).1.ab
        omega
      .exact(F6 (w0:=w0) EO PO hS (j:=l'+1) k2 ω e2 λ l2 p2 c1 c2=>e3 l2 p2 ω c2).1.get id b2
  rcases eH with⟨GQ,v,hs,fO⟩|⟨GQ,fO,e⟩
  .rw[aq (hw _ GQ)]
   exact afI EO RO hs n h.hr hc λ ρ2 u w2 g1 g2 g3=>next ρ2 w2 v u g2 g3 fO g1
  .rw[ao (by rw[hw _ GQ];simp)]
   refine⟨λ _ _=>trivial,next ρ w' pD undef ?_ ?_ fO (.lit _)⟩
   .rw[e];exact h.hr
   .rw[e];exact cV.refl _ _
 .
  have bm:l<k:=ω
  have GJ:p.sP=false:=by cases hh:p.sP with|false=>rfl|true=>have:=h.Hq l p bm hp hh;rw[vG]at this;cases this
  have Ek:kX o.op≠.wr:=by cases A2:p with|op i=>exact Kp.cl i A2 o (by rw[A2]at ho;exact ho)|wr i re=>rw[A2]at GJ;cases GJ
  rcases eH with⟨GQ,v,hs,fO⟩|⟨GQ,fO,e⟩
  .rw[aq (hw _ GQ)]
   have yp:bw E (S l).1.cD o.op (S l).2=.ok (.val v (S (l+1)).2):=by
    rcases hs with hs|⟨f,args,H1,hs,_⟩|⟨f,args,H1,hs,_⟩
    .exact hs
    .have:=Ds EO hs;cases eN:kX o.op<;>rw[eN]at this
     .obtain⟨_,e,_⟩:=this;cases e
     .obtain⟨_,e,_⟩:=this;cases e
     .obtain⟨_,_,_,e,_⟩:=this;cases e
     .exact absurd eN Ek
    .have:=Ds EO hs;cases eN:kX o.op<;>rw[eN]at this
     .obtain⟨_,e,_⟩:=this;cases e
     .obtain⟨_,e,_⟩:=this;cases e
     .obtain⟨_,_,_,e,_⟩:=this;cases e
     .exact absurd eN Ek
   have eN:=Ds EO yp;cases bX:kX o.op<;>rw[bX]at eN
   .
    obtain⟨av,e,fl⟩:=eN
    obtain⟨rfl,_⟩:=dS.val.inj e
    obtain⟨u,O,U⟩:=fl ρ a' w' hc
    exact XJ (Rj yp) O (NT bm ρ w' v u (λ _ _ hh=>hh) h.hr (λ id hh=>absurd rfl hh) fO U)
   .
    rcases axt pl l k cN with mB|⟨m,pm,m1,m2,m3,m4,m5⟩
    .obtain⟨av,e,fl⟩:=eN
     obtain⟨rfl,_⟩:=dS.val.inj e;have Q:=(F6 (w0:=w0) EO PO hS k cN h.Jw mB).1.keeps (h.wf l cN);obtain⟨u,O,U⟩:=fl w0 ρ _ w' a' Q h.hr hc;exact XJ (Rj yp) O (NT bm ρ w' v u (λ _ _ hh=>hh) h.hr (λ id hh=>absurd rfl hh) fO U)
    .have Mk:l<m:=by
      rcases kb l m with g|g
      .exact g
      .have:l=m:=ω
       subst this;rw[hp]at m3;cases m3;rw[m4]at GJ;cases GJ
     obtain⟨om,hom,_,auk⟩:=hS m pm m3;cases nJ:pm with
     |op j=>rw[nJ]at m4;cases m4
     |wr wi re=>
      have PCm:=PO.pc m pm m3
      have Jg:p.i∈re:=by
       rcases PCm.rd wi re nJ p (JD.2 ⟨l,Mk,hp⟩) o ho bX with g|g
       .exact g
       .exfalso;have ck:=h.Hq m pm m2 m3 m4;have yu:pm.i=wi:=by rw[nJ];rfl
        rw[yu]at ck;have:=h.closed.zl g ck;rw[vG]at this;cases this
      obtain⟨o2,mV,L2⟩:=auk wi re nJ p.i Jg
      rw[ho]at mV;cases mV
      have EB:m+1<=pl.length:=by have:=h.Jw;omega
      obtain⟨k8,EW⟩:=ahA (jj:=m+1) EB (λ t ht lm pm2 om2 q1 q2 q3=>by have ha:=PCm.aDZ wi re nJ p.i Jg o pm2.i om2 t ho q2 q3 ht;obtain⟨j',p',g1,g2,g3⟩:=PO.Y_ ha hp rfl;have:=PO.pos g2 q1 g3;exact .inl ⟨ha,ω⟩)
      have aiB:=hw _ GQ
      rcases L2 with mB|⟨_,v2,H1,Mr,auM⟩
      .rw[EW _ mB]at aiB;cases aiB
      .have ahx:=Ds EO Mr
       rw[bX]at ahx;obtain⟨av2,e2,awc⟩:=ahx;obtain⟨rfl,_⟩:=dS.val.inj e2;have Q:=(F6 (w0:=w0) EO PO hS (j:=m+1) k ω h.Jw m5).1.keeps (h.wf (m+1) ω);obtain⟨u,O,U⟩:=awc w0 ρ _ w' a' Q h.hr k8;refine XJ (Rj yp) O ?_;cases hd:o.dst with
       |none=>
        rw[hd]at fO
        have av0:Ak (S l).1 o.dst v2 (S (l+1)).1:=by rw[hd];exact⟨fO.size,fO.marks,fO.round,fO.fn,fO.lt,λ j=>by rw[fO.get];simp⟩
        have:=NT bm ρ w' v2 u (λ _ _ hh=>hh) h.hr (λ id hh=>absurd rfl hh) av0 U
        rw[hd]at this;exact this
       |some t=>
        have e3:=auM t hd
        have e4:=(PO.written hS hp rfl ho hd).1 (m+1) ω EB
        rw[e3,fO.get,aq hd]at e4
        obtain rfl:=(FX e4)
        have:=NT bm ρ w' v2 u (λ _ _ hh=>hh) h.hr (λ id hh=>absurd rfl hh) fO U
        rw[hd]at this;exact this
   .
    obtain⟨av,ob,H',e,hA,jC,fl⟩:=eN
    obtain⟨rfl,hH⟩:=dS.val.inj e
    rw[<-hH]at hA
    have rQ:(S (l+1)).2.ab=(S l).2.ab+1:=hA.1
    obtain⟨g1,g2⟩:=h.un l p bm hp vG (S l).2.ab aF ω
    obtain⟨x,N,u,O,U,F⟩:=fl ρ a' w' hc g1
    have auT:(S k).2.t.get (S l).2.ab=some ob:=by rw[g2,hA.2,aq rfl]
    have au0:(S l).2.ab<(S k).2.ab:=by have:=h.mono (l+1) k ω aF;omega
    have mY:=h.hr.named au0 g1 auT U h.hr.ia.size
    refine XJ (Rj yp) O (NT bm _ _ v u (bh.sk g1) mY (λ id hh=>?_) fO F)
    unfold bh.add at hh
    split at hh
    .rename_i e;omega
    .exact absurd rfl hh
   .exact absurd bX Ek
  .rw[ao (by rw[hw _ GQ];simp)]
   exact⟨λ _ _=>trivial,NT bm ρ w' pD undef (λ _ _ hh=>hh) h.hr (λ id hh=>absurd rfl hh) fO (.lit _)⟩
end
end
section
variable{P:e8}{E:aK}{rc:mP}{w0:bI}{ak:Array Oper}{pl:List di}{S:Nat->aE×D}
section
variable{xe ρ:bh}{a a':Act}{w':bI}{cS:Array Bool}{k:Nat}{ro:Option Nat}
def aDL(PO:rE ak pl)(hs:cS.size=ak.size)(hr:Region.ready .any ak cS=[]):∀i,i<ak.size->cS.getD i false=true:=by
 have key:∀(l:Nat) (p:di),pl[l]?=some p->cS.getD p.i false=true:=by
  intro l;induction l using Nat.strongRecOn with
  |_ l ih=>
   intro p hp
   have Kp:=PO.pc l p hp
   cases hl:cS.getD p.i false with
   |true=>rfl
   |false=>
    exfalso
    have bm:=Kp.lt
    have ho:ak[p.i]?=some ak[p.i]:=HO bm
    have B:p.i∈Region.ready .any ak cS:=by
     refine mem_ready.2 ⟨?_,_,ho,λ e he hb=>?_⟩
     .have:p.i<cS.size:=by rw[hs];exact Kp.lt
      simpa[this]using hl
     .have⟨q,hq,Mu⟩:=Kp.Rv _ ho e he hb;have⟨l',O,U⟩:=JD.1 hq;rw[<-Mu];exact ih l' O q U
    rw[hr]at B;cases B
 intro i A;obtain⟨l,p,hp,rfl⟩:=PO.Xx i A;exact key l p hp
def DI.finish(PO:rE ak pl)(hS:BJ E rc ak pl S)(hf:FR xe ro (S 0).1 a)(h:DI E w0 ak pl S xe a cS k ρ a' w')(dV:∀i,i<ak.size->cS.getD i false=true):k=pl.length/\FR ρ ro (S k).1 a':=by
 have Q:k=pl.length:=by
  rcases h.Wc with e|⟨p,O,_,F⟩
  .exact e
  .rw[dV p.i (PO.pc k p O).lt]at F;cases F
 refine⟨Q,?_⟩
 have⟨s1,s2,s3,_⟩:=adS hS k h.Jw
 refine⟨by rw[h.XB,hf.size,s1],λ t av ha=>?_,?_,?_⟩
 .by_cases hex:∃(m:Nat) (om:Oper),ak[m]?=some om/\om.dst=some t
  .have⟨m,om,B,hd⟩:=hex;have ah2:=(tI.1 B).1;have⟨lm,pm,nJ,iK⟩:=PO.Xx m ah2;have bm:=(cW.1 nJ).1;rw[(PO.written hS nJ iK B hd).1 k ω h.Jw]at ha;exact h.done lm pm om t nJ (by rw[iK];exact B) hd (by rw[iK];exact dV m ah2) av ha
  .rw[alw hS (λ m om O U=>hex ⟨m,om,O,U⟩) k h.Jw]at ha;exact h.still t (λ i o O U=>absurd ⟨i,o,O,U⟩ hex) av ha
 .rw[s2,h.defers]
  exact hf.marks.mono λ _ _ B=>B.mono h.later.ext
 .rw[s3]
  exact hf.round.imp id λ ⟨l,b,s,N,O,U,F⟩=>⟨l,b,s,N,O,h.later.ext _ _ U,F⟩
def aGJ(EO:eW P E)(RO:Aq P E w0 rc)(PO:rE ak pl)(hS:BJ E rc ak pl S)(hf:FR xe ro (S 0).1 a)(n:Nat)(aj:Exit->Act->bI->Prop)(hQ:∀ρ a' w',FR ρ ro (S pl.length).1 a'->HR E w0 ρ (S pl.length).2 w'->cV xe (S 0).2 ρ (S pl.length).2->aj .normal a' w'):
 ∀(fuel:Nat) (cS:Array Bool) (k:Nat) (ρ:bh) (a':Act) (w':bI),DI E w0 ak pl S xe a cS k ρ a' w'->(∀i,fuel=0->i<ak.size->cS.getD i false=true)->
  ak.size-cS.toList.countP (·==true)<=fuel->wpAnyIn (Fw ro) n P .any ak aj fuel cS a' w':=by
 have Md:∀cS k ρ a' w',DI E w0 ak pl S xe a cS k ρ a' w'->(∀i,i<ak.size->cS.getD i false=true)->aj .normal a' w':=by intro cS k ρ a' w' hI dV;have⟨Q,Qq⟩:=hI.finish PO hS hf dV;subst Q;exact hQ ρ a' w' Qq hI.hr hI.later
 intro fuel
 induction fuel with
 |zero=>
  intro cS k ρ a' w' hI hz _
  have dV:=λ i A=>hz i rfl A
  refine⟨?_,Md _ _ _ _ _ hI dV⟩
  cases hr:Region.ready .any ak cS with
  |nil=>rfl
  |cons i r=>
   have B:i∈Region.ready .any ak cS:=by rw[hr];simp
   have⟨O,o,ho,_⟩:=mem_ready.1 B
   have A:=(tI.1 ho).1
   have:=dV i A
   rw[Zp (by simpa using O)]at this;cases this
 |succ fuel ih=>
  intro cS k ρ a' w' hI _ auD
  refine⟨λ hr=>Md _ _ _ _ _ hI (aDL PO hI.size hr),λ i B=>?_⟩
  have⟨O,o,ho,hr⟩:=mem_ready.1 B
  have A:=(tI.1 ho).1
  have dJ:i<cS.size:=by rw[hI.size];exact A
  have vG:cS.getD i false=false:=Zp (by simpa using O)
  have auE:ak.size-(cS.setIfInBounds i true).toList.countP (·==true)<=fuel:=by
   have hli:cS.toList[i]'(by simpa using dJ)=false:=by simp[dJ]at vG;simpa using vG
   have:(cS.setIfInBounds i true).toList.countP (·==true)=cS.toList.countP (·==true)+1:=by rw[Array.toList_setIfInBounds];rw[List.countP_set (by simpa using dJ),hli];simp
   omega
  have MN:∀j,fuel=0->j<ak.size->(cS.setIfInBounds i true).getD j false=true:=by
   intro j hf hj;subst hf;have aU:(cS.setIfInBounds i true).toList.length<=(cS.setIfInBounds i true).toList.countP (·==true):=by simp only[rH,Array.size_setIfInBounds,hI.size];omega
   have dV:=List.countP_eq_length.1 (Nat.le_antisymm List.countP_le_length aU);have iI:j<(cS.setIfInBounds i true).toList.length:=by simp[hI.size,hj]
   have:=dV _ (cG iI);simp only[zk]at this;have gS:j<(cS.setIfInBounds i true).size:=by simpa using iI
   rw[DU,HO gS];simpa using(Array.getElem_toList gS).symm.trans this
  exact hI.step EO RO PO hS hf.size B n ro aj _ λ k2 ρ2 a2 w2 U=>ih _ _ _ _ _ U MN auE
end
def aDM(EO:eW P E)(RO:Aq P E w0 rc)(PO:rE ak pl){k:aE->D->R β}(h:m8 E rc ak.toList pl k Y H=.ok q):
 ∃an H',k an H'=.ok q/\an.fn=Y.fn/\∀(n id:Nat) (ρ:bh) (ro:Option Nat) (a:Act) (w:bI) (aj:Exit->Act->bI->Prop),HR E w0 ρ H w->FR ρ ro Y a->
  (∀bM a' w',FR bM ro an a'->HR E w0 bM H' w'->cV ρ H bM H'->aj .normal a' w')->(Code.region id ak true).wpIn (Fw ro) n P aj a w:=by
 have⟨S,IW,hSn,hS⟩:=ajO h
 have Qq:=(adS hS pl.length aF).2.2.2
 refine⟨(S pl.length).1,(S pl.length).2,hSn,by rw[Qq,IW],λ n id ρ ro a w aj hh hf Q=>?_⟩
 have⟨k0,_,e2,e3,e4⟩:=aby pl pl.length 0 ω
 have hH0:(S 0).2=H:=by rw[IW]
 have hF0:(S 0).1=Y:=by rw[IW]
 have hd:HR E w0 ρ (S 0).2 {w with drawn:=w.drawn+1}:=by rw[hH0];exact hh.drew rfl rfl rfl rfl
 have AA:∀j,j<=k0->uQ (S 0).2 (S j).2/\∀ρ w,HR E w0 ρ (S 0).2 w->HR E w0 ρ (S j).2 w:=λ j hj=>F6 (w0:=w0) EO PO hS j (dQ _) ω λ l p a1 a2=>e3 l p a1 ω
 have EP:∀i,(Array.replicate ak.size false).getD i false=false:=by intro i;rw[DU,Array.getElem?_replicate];split<;>rfl
 refine wpIn_region_any EO.mixed (aGJ EO RO PO hS (by rw[hF0];exact hf) n aj ?_ ak.size _ k0 ρ a _ ⟨ζ,?_,e2,?_,?_,?_,(AA k0 aF).2 _ _ hd,?_,?_,?_,?_,rfl,rfl,?_,?_⟩ ?_ ω)
 .intro bM a' w' O U F
  rw[hH0]at F;exact Q bM a' w' O U F
 .intro i o _ A
  simp only[EP]at A;cases A
 .intro l p a1 a2 a3
  have:=e3 l p (dQ _) a1 a2;rw[a3]at this;cases this
 .rcases e4 with e4|⟨p,O,U⟩
  .exact .inl e4
  .exact .inr ⟨p,O,U,EP _⟩
 .intro l p _ U
  rw[EP]at U;cases U
 .intro j hj id bD
  exact((AA j hj).2 _ _ hd).Y id bD
 .have g:=(AA k0 aF).1
  exact⟨λ _ _ hh=>hh,λ id bD hn=>⟨hn,g.get id bD⟩,g.ab⟩
 .intro l p a1 a2 a3 id b1 b2
  refine⟨?_,?_⟩
  .cases hq:ρ id with
   |none=>rfl
   |some q=>
    have:=hd.lt id q hq
    have:=(AA l ω).1.ab
    omega
  .exact(F6 (w0:=w0) EO PO hS (j:=l+1) k0 ω e2 λ l2 p2 c1 c2=>e3 l2 p2 ω c2).1.get id b2
 .intro i j dK hj
  exact(F6 (w0:=w0) EO PO hS (j:=i) j dK ω λ l2 p2 c1 c2=>e3 l2 p2 ω ω).1.ab
 .intro l p o t _ _ _ h4
  rw[EP]at h4;cases h4
 .intro t _ av eM
  rw[hF0]at eM;exact hf.Bu t av eM
 .intro i hz A;omega
end
def aey:dE->Exit->Prop
 |.normal,.normal=>True|.exit i,.exit j=>i=j|.ret,.ret=>True|_,_=>False
section
variable{P:e8}{E:aK}{rc:mP}{w0:bI}
def tF(P:e8)(E:aK)(w0:bI)(run:aE->D->St)(c:Code):Prop:=
 ∀Y H ex an H',run Y H=.ok (ex,an,H')->qG E Y.fn c->an.fn=Y.fn/\∀(n:Nat) (ρ:bh) (ro:Option Nat) (a:Act) (w:bI) (aj:Exit->Act->bI->Prop),HR E w0 ρ H w->FR ρ ro Y a->
  (∀e bM a' w',aey ex e->FR bM ro an a'->HR E w0 bM H' w'->cV ρ H bM H'->aj e a' w')->c.wpIn (Fw ro) n P aj a w
def aEI{x y:aE->D->St}{a b:Code}(O:tF P E w0 x a)(U:tF P E w0 y b):tF P E w0 (Hl x y) (.seq a b):=by
 intro Y H ex an H' h fk;unfold Hl at h;cases Z:x Y H with
 |er l=>rw[Z]at h;cases h
 |ok r=>
  rw[Z]at h
  have⟨iR,dT,H1⟩:=r
  have⟨f1,s1⟩:=O _ _ _ _ _ Z fk.1
  cases iR with
  |normal=>
   have⟨f2,s2⟩:=U _ _ _ _ _ h (by rw[f1];exact fk.2)
   refine⟨f2.trans f1,λ n ρ ro a w aj hh hf Q=>wpIn_seq (s1 n ρ ro a w _ hh hf λ e eU a1 w1 he o_ pf cT=>?_)⟩
   cases e<;>first|(cases he;done)|skip
   exact s2 n eU ro a1 w1 aj pf o_ λ e ρ2 a2 w2 he2 AS ya ck=>Q e ρ2 a2 w2 he2 AS ya (cT.trans ck)
  |exit id=>
   cases h
   refine⟨f1,λ n ρ ro a w aj hh hf Q=>wpIn_seq (s1 n ρ ro a w _ hh hf λ e eU a1 w1 he o_ pf cT=>?_)⟩
   cases e<;>first|(cases he;done)|exact Q _ eU a1 w1 he o_ pf cT
  |ret=>
   cases h
   refine⟨f1,λ n ρ ro a w aj hh hf Q=>wpIn_seq (s1 n ρ ro a w _ hh hf λ e eU a1 w1 he o_ pf cT=>?_)⟩
   cases e<;>first|(cases he;done)|exact Q _ eU a1 w1 he o_ pf cT
def aEC{x y:aE->D->St}{a b:Code}(O:tF P E w0 x a)(U:tF P E w0 y b):tF P E w0 (It E c x y) (.cond c a b):=by
 intro Y H ex an H' h fk;unfold It at h;have⟨v,hv,h⟩:=gO h;split at h
 .rename_i t;have hc:∀{ρ:bh} {ro:Option Nat} {ac:Act} {w:bI},HR E w0 ρ H w->FR ρ ro Y ac->ac.eval c=.bool t:=λ {ρ ro ac w} hh hf=>by
   have:Oo ρ Y.cD ac c:=by cases c<;>first|trivial|exactλ v hv=>hf.Bu _ v hv
   exact(hv.adH hh.gl this).fI
  cases t with
  |true=>
   obtain⟨f1,s1⟩:=O _ _ _ _ _ h fk.1
   exact⟨f1,λ n ρ ro ac w aj hh hf Q=>wpIn_cond_true (hc hh hf) (s1 n ρ ro ac w aj hh hf Q)⟩
  |false=>
   obtain⟨f1,s1⟩:=U _ _ _ _ _ h fk.2
   exact⟨f1,λ n ρ ro ac w aj hh hf Q=>wpIn_cond_false (hc hh hf) (s1 n ρ ro ac w aj hh hf Q)⟩
 .cases h
def aEB{x:aE->D->St}{a:Code}(O:tF P E w0 x a):tF P E w0 (F7 b x) (.block b a):=by
 intro Y H ex an H' h fk;unfold F7 at h;cases Z:x Y H with
 |er l=>rw[Z]at h;cases h
 |ok r=>
  rw[Z]at h
  obtain⟨iR,dT,H1⟩:=r
  obtain⟨f1,s1⟩:=O _ _ _ _ _ Z fk
  cases iR with
  |normal=>
   cases h
   refine⟨f1,λ n ρ ro ac w aj hh hf Q=>wpIn_block (s1 n ρ ro ac w _ hh hf λ e eU a1 w1 he o_ pf cT=>?_)⟩
   cases e<;>first|(cases he;done)|exact Q _ eU a1 w1 he o_ pf cT
  |ret=>
   cases h
   refine⟨f1,λ n ρ ro ac w aj hh hf Q=>wpIn_block (s1 n ρ ro ac w _ hh hf λ e eU a1 w1 he o_ pf cT=>?_)⟩
   cases e<;>first|(cases he;done)|exact Q _ eU a1 w1 he o_ pf cT
  |exit j=>
   have h':aB (.ok (.exit j,dT,H1)) (.ok (.normal,dT,H1)) (Nat.beq j b)=(.ok (ex,an,H'):St):=h
   cases hj:Nat.beq j b with
   |true=>
    rw[hj]at h'
    cases h'
    refine⟨f1,λ n ρ ro ac w aj hh hf Q=>wpIn_block (s1 n ρ ro ac w _ hh hf λ e eU a1 w1 he o_ pf cT=>?_)⟩
    cases e<;>first|(cases he;done)|skip
    rename_i j'
    have xZ:j=j':=he
    subst xZ
    show(if j=b then aj .normal a1 w1 else aj (.exit j) a1 w1)
    rw[aq (Az hj)]
    exact Q .normal eU a1 w1 trivial o_ pf cT
   |false=>
    rw[hj]at h'
    cases h'
    refine⟨f1,λ n ρ ro ac w aj hh hf Q=>wpIn_block (s1 n ρ ro ac w _ hh hf λ e eU a1 w1 he o_ pf cT=>?_)⟩
    cases e<;>first|(cases he;done)|skip
    rename_i j'
    have xZ:j=j':=he
    subst xZ
    show(if j=b then aj .normal a1 w1 else aj (.exit j) a1 w1)
    rw[ao (λ e=>by rw[<-su,hj]at e;cases e)]
    exact Q (.exit j) eU a1 w1 rfl o_ pf cT
def exists_least{p:Nat->Prop}(h:∃k,p k):∃k,p k/\∀j,p j->k<=j:=by
 have⟨k,Q⟩:=h;induction k using Nat.strongRecOn with
 |_ k ih=>
  by_cases he:∃j,j<k/\p j
  .have⟨j,O,U⟩:=he
   exact ih j O U
  .refine⟨k,Q,λ j hj=>?_⟩
   rcases kb j k with O|O
   .exact absurd ⟨j,O,hj⟩ he
   .exact O
open Classical in
def aGK{c:Code}(aJ:Nat->Act->bI->Prop){k0:Nat}(h0:aJ k0 a w)(round:∀k a w,aJ k a w->c.wpIn au n P (Exit.then (λ a' w'=>∃k',k'<k/\aJ k' a' w') aj) a w):(Code.loop c).wpIn au n P aj a w:=by
 refine wpIn_loop (λ a w=>∃k,aJ k a w) (λ a w=>if h:∃k,aJ k a w then Classical.choose (exists_least h)else 0) ⟨k0,h0⟩ λ a w hI=>?_
 have⟨O,U⟩:=HS (exists_least hI)
 refine Code.wpIn_mono (λ e a' w' hq=>?_) (round _ a w O)
 cases e<;>first|exact hq|skip
 have⟨k',iI,hI'⟩:=hq
 have hex:∃k,aJ k a' w':=⟨k',hI'⟩
 refine⟨hex,?_⟩
 rw[OK hI,OK hex]
 exact KL ((HS (exists_least hex)).2 k' hI') iI
def uy(x:aE->D->St)(k:Nat):aE->D->St:=rV (α:=aE) (β:=D->St) (λ Y _=>.er [Y.fn,130]) (λ _ ih Y H=>match x Y H with|.er l=>.er l|.ok r=>match r with|(.normal,an,H')=>ih an H'|r=>.ok r) k
def Wq{x:aE->D->St}{q:dE×aE×D}(h:uy x (b+1) Y H=.ok q):∃ex dT H1,x Y H=.ok (ex,dT,H1)/\((ex=.normal/\uy x b dT H1=.ok q)\/(ex≠.normal/\q=(ex,dT,H1))):=by
 have h':(match x Y H with|.er l=>.er l|.ok r=>match r with|(.normal,an,H')=>uy x b an H'|r=>.ok r)=(.ok q:St):=h
 cases Z:x Y H with
 |er l=>rw[Z]at h';cases h'
 |ok r=>
  rw[Z]at h'
  have⟨ex,dT,H1⟩:=r
  refine⟨ex,dT,H1,rfl,?_⟩
  cases ex with|normal=>exact .inl ⟨rfl,h'⟩|exit j=>cases h';exact .inr ⟨ζ,rfl⟩|ret=>cases h';exact .inr ⟨ζ,rfl⟩
def aEE{x:aE->D->St}{c:Code}(O:tF P E w0 x c):tF P E w0 (GZ E x) (.loop c):=by
 intro Y H ex an H' h fk;have h:uy x E.lim Y H=.ok (ex,an,H'):=h;generalize E.lim=k at h;have iw:∀k Y H,uy x k Y H=.ok (ex,an,H')->qG E Y.fn c->an.fn=Y.fn:=by
  intro k;induction k with
  |zero=>intro Y H h;cases h
  |succ k ih=>
   intro Y H h fk
   have⟨iR,dT,H1,Z,qv⟩:=Wq h
   have⟨f1,_⟩:=O _ _ _ _ _ Z fk
   rcases qv with⟨_,U⟩|⟨_,U⟩
   .exact(ih dT H1 U (by rw[f1];exact fk)).trans f1
   .cases U;exact f1
 refine⟨iw k Y H h fk,λ n ρ ro ac w aj hh hf Q=>?_⟩;refine aGK (λ k a w=>∃dT H1 eU,uy x k dT H1=.ok (ex,an,H')/\dT.fn=Y.fn/\HR E w0 eU H1 w/\FR eU ro dT a/\cV ρ H eU H1) (k0:=k) ⟨Y,H,ρ,h,rfl,hh,hf,cV.refl _ _⟩ ?_;rintro k a w ⟨dT,H1,eU,hl,o_,pf,I9,zJ⟩;cases k with
 |zero=>cases hl
 |succ k=>
  have⟨kY,wx,H2,Z,qv⟩:=Wq hl
  have⟨f2,s2⟩:=O _ _ _ _ _ Z (by rw[o_];exact fk)
  refine s2 n eU ro a w _ pf I9 λ e ρ2 a2 w2 he UZ ya ck=>?_
  rcases qv with⟨rfl,F⟩|⟨cR,F⟩
  .cases e<;>first|(cases he;done)|skip
   exact⟨k,ω,wx,H2,ρ2,F,f2.trans o_,ya,UZ,zJ.trans ck⟩
  .cases F
   cases ex with
   |normal=>exact absurd rfl cR|exit j=>cases e<;>first|(cases he;done)|exact Q _ ρ2 a2 w2 he UZ ya (zJ.trans ck)
   |ret=>cases e<;>first|(cases he;done)|exact Q _ ρ2 a2 w2 he UZ ya (zJ.trans ck)
def aEG(EO:eW P E)(RO:Aq P E w0 rc):tF P E w0 (Dl E rc (.region b ak y)) (.region b ak y):=by
 intro Y H ex an H' h fk;have h:aB (nO E rc ak.toList ak.toList (λ an H'=>.ok (.normal,an,H')) Y H) (cB E.pl Y.fn (λ tb=>cB tb b (λ pl=>m8 E rc ak.toList pl (λ an H'=>.ok (.normal,an,H')) Y H) (.er [136,Y.fn,b])) (.er [137,Y.fn])) y=(.ok (ex,an,H'):St):=h;cases y with
 |false=>
  rw[Ik]at h
  have⟨dT,H1,O,U,F⟩:=WO EO RO 0 h
  cases O
  refine⟨U,λ n ρ ro ac w aj hh hf Q=>?_⟩
  have⟨dT,H1,O,_,F⟩:=WO EO RO n h
  cases O
  exact wpIn_region_list (F ρ ro ac w aj hh hf λ bM a' w' g1 g2 g3=>Q .normal bM a' w' trivial g1 g2 g3)
 |true=>
  rw[xI]at h
  have⟨tb,htb,h⟩:=oY h
  have⟨pl,mC,h⟩:=oY h
  have⟨dT,H1,O,U,F⟩:=aDM EO RO (fk tb pl htb mC) h
  cases O
  exact⟨U,λ n ρ ro ac w aj hh hf Q=>F n b ρ ro ac w aj hh hf λ bM a' w' g1 g2 g3=>Q .normal bM a' w' trivial g1 g2 g3⟩
def aEJ:tF P E w0 (Dl E rc .skip) .skip:=by intro Y H ex an H' h _;have h:(.ok (.normal,Y,H):St)=.ok (ex,an,H'):=h;cases h;exact⟨rfl,λ n ρ ro ac w aj hh hf Q=>wpIn_skip (Q .normal ρ ac w trivial hf hh (cV.refl _ _))⟩
def aEH:tF P E w0 (Dl E rc .ret) .ret:=by intro Y H ex an H' h _;have h:(.ok (.ret,Y,H):St)=.ok (ex,an,H'):=h;cases h;exact⟨rfl,λ n ρ ro ac w aj hh hf Q=>wpIn_ret (Q .ret ρ ac w trivial hf hh (cV.refl _ _))⟩
def aED:tF P E w0 (Dl E rc (.exit b)) (.exit b):=by intro Y H ex an H' h _;have h:(.ok (.exit b,Y,H):St)=.ok (ex,an,H'):=h;cases h;exact⟨rfl,λ n ρ ro ac w aj hh hf Q=>wpIn_exit (Q (.exit b) ρ ac w rfl hf hh (cV.refl _ _))⟩
end
variable{ps:List Tmp}
section
variable{P:e8}{E:aK}{rc:mP}{w0 w:bI}{ρ:bh}{H:D}
def HR.adI(hr:HR E w0 ρ H w){r:Loop}(A:ρ ah=some (b,sh,N))(ho:H.t.get ah=some (.loop st c_ f n s ps aI4 bd es))(hw:w.heap[b]?=some (.loop r))(hT:tG H ah (some (.loop oE ajN f n s ps aI4 bd es)) H'):HR E w0 ρ H' (w.putObj b (.loop {r with state:=oE,pending:=ajN}))/\cV ρ H ρ H':=by
 have⟨k1,k2,r',O,U,F,h4,h5,h6,h7,h8,s',N',h9⟩:=hr.obj _ _ _ _ _ A ho
 rw[hw]at O;cases O
 refine hr.XE A ho rfl rfl hT ?_ (by simp[World.putObj]) (λ k Q=>World.putObj_heap_other Q) rfl rfl rfl
 rw[World.putObj_heap_same (DZ hw)]
 exact⟨k1,k2,_,rfl,rfl,rfl,h4,h5,h6,h7,h8,s',N',h9⟩
def HR.Q9(hr:HR E w0 ρ H w)(A:ρ ah=some (b,sh,N))(ho:H.t.get ah=some (.loop st c_ f n s ps aI4 bd es)):∃r,w.heap[b]?=some (.loop r)/\r.state=st/\r.pending=c_/\r.tmps.size=n/\(∀(i:Nat) av,s.get i=some av->∃v,r.tmps[i]?=some v/\Rl ρ av v)/\r.params.toList=ps/\r.assign=aI4/\r.body=bd/\(∃s' N',ρ es=some (r.defers,s',N'))/\qG E f aI4/\qG E f bd:=by
 have⟨k1,k2,r,O,U,F,h4,h5,h6,h7,h8,h9⟩:=hr.obj _ _ _ _ _ A ho
 exact⟨r,O,U,F,h4,h5,h6,h7,h8,h9,k1,k2⟩
def an4{args:AU}{g:fD}(h:rM x args H=.ok (.call g l H2)):∃first captured,x=.fn (.func g) first captured/\l=first++(args++captured)/\H2=H:=by
 unfold rM at h;split at h
 .split at h
  .rw[DX,DX]at h;cases h;exact⟨_,_,rfl,rfl,rfl⟩
  .rw[DX]at h;cases h
  .cases h
 .cases h
def apu{k:Nat->aE->D->R β}(h:Gf Y ps aI4 bd H k=.ok q):(Y.round=none/\∃H1 H2,uO H .deferred H1/\uO H1 (.loop .ready none Y.fn Y.size Y.cD ps aI4 bd H.ab) H2/\k H1.ab {Y with marks:=H.ab::Y.marks} H2=.ok q)\/(∃l0 st c_ f n s yH xF xH d H1,Y.round=some l0/\H.t.get l0=some (.loop st c_ f n s yH xF xH d)/\uO H (.loop .ready none Y.fn Y.size Y.cD ps aI4 bd d) H1/\k H.ab Y H1=.ok q):=by
 have⟨s,n,m,r,f⟩:=Y
 unfold Gf at h
 cases r with
 |none=>
  dsimp only at h
  have⟨H1,O,h⟩:=vP h
  have⟨H2,U,h⟩:=vP h
  exact .inl ⟨rfl,H1,H2,O,U,h⟩
 |some l0=>
  dsimp only at h
  have⟨ob,jB,h⟩:=oB h
  split at h
  .have⟨H1,O,h⟩:=vP h
   exact .inr ⟨l0,_,_,_,_,_,_,_,_,_,H1,rfl,jB,O,h⟩
  .cases h
def aw4{q:dE×aE×D}(h:M6 c_ Y H=.ok q):q.2=(Y,H)/\((c_=none/\q.1=.normal)\/(c_=some .ret/\q.1=.ret)\/∃id,c_=some (.exit id)/\q.1=.exit id):=by
 unfold M6 at h;split at h
 .cases h;exact⟨rfl,.inl ⟨rfl,rfl⟩⟩
 .split at h
  .cases h;exact⟨rfl,.inr (.inl ⟨rfl,rfl⟩)⟩
  .cases h;exact⟨rfl,.inr (.inr ⟨_,rfl,rfl⟩)⟩
  .cases h
def aEF(RO:Aq P E w0 rc){ps:Array Tmp}:tF P E w0 (Dl E rc (.rangeFunc c ps aI4 bd)) (.rangeFunc c ps aI4 bd):=by
 intro Y H ex an H' h fk;have h:Fq E rc c ps.toList aI4 bd Y H=.ok (ex,an,H'):=h;unfold Fq at h;have⟨gv,zH,h⟩:=gO h;have key:∀{l:Nat} {dT:aE} {H1:D},(match rM gv [.fn (.yield l) [] []] H1 with
  |.ok (.call f args H2)=>(match rc (.call f args) H2 with|.er l=>.er (Y.fn::l)|.ok p=>match p with|(_,H3)=>ie H3 l λ o=>match o with|.loop st c_ f n s ps aI4 bd d=>(match st with|.busy=>.er [133]|_=>me H3 l (some (.loop .exhausted c_ f n s ps aI4 bd d)) λ H4=>M6 c_ dT H4)|_=>.er [134])
  |_=>.er [135])=(.ok (ex,an,H'):St)->an=dT/\∃f first captured v H3 st c_ fn n s yH xF xH d,gv=.fn (.func f) first captured/\rc (.call f (first++([.fn (.yield l) [] []]++captured))) H1=.ok (v,H3)/\
   H3.t.get l=some (.loop st c_ fn n s yH xF xH d)/\st≠.busy/\tG H3 l (some (.loop .exhausted c_ fn n s yH xF xH d)) H'/\((c_=none/\ex=.normal)\/(c_=some .ret/\ex=.ret)\/∃id,c_=some (.exit id)/\ex=.exit id):=by
  intro l dT H1 h;cases hc:rM gv [.fn (.yield l) [] []] H1 with
  |er e=>rw[hc]at h;cases h
  |ok r=>
   rw[hc]at h
   cases r with
   |val v H=>cases h|round l args H=>cases h
   |call f args H2=>
    obtain⟨first,captured,rfl,rfl,rfl⟩:=an4 hc
    dsimp only at h
    split at h
    .cases h
    .rename_i p hp
     obtain⟨v,H3⟩:=p;dsimp only at h;have⟨ob,jB,h⟩:=oB h;split at h
     .rename_i st c_ fn n s yH xF xH d;have hb:st≠.busy/\me H3 l (some (.loop .exhausted c_ fn n s yH xF xH d)) (λ H4=>M6 c_ dT H4)=.ok (ex,an,H'):=by cases st<;>first|(cases h;done)|exact⟨ζ,h⟩
      obtain⟨eH,h⟩:=hb;have⟨H4,hT,h⟩:=rk h;obtain⟨e1,e2⟩:=aw4 h;obtain⟨rfl,rfl⟩:=zj e1;exact⟨rfl,f,first,captured,v,H3,st,c_,fn,n,s,yH,xF,xH,d,rfl,hp,jB,eH,hT,e2⟩
     .cases h
 have Ra:∀{l:Nat} {dT:aE} {H1:D} {f:fD} {first captured:AU} {v:J} {H3:D} {st:LoopState} {c_:Option Code} {fn:fD} {n:Nat} {s:CX} {yH:List Tmp} {xF xH:Code} {d:Nat},gv=.fn (.func f) first captured->rc (.call f (first++([.fn (.yield l) [] []]++captured))) H1=.ok (v,H3)->H3.t.get l=some (.loop st c_ fn n s yH xF xH d)->st≠.busy->tG H3 l (some (.loop .exhausted c_ fn n s yH xF xH d)) H'->((c_=none/\ex=.normal)\/(c_=some .ret/\ex=.ret)\/∃id,c_=some (.exit id)/\ex=.exit id)->∀(m:Nat) (ρ eU:bh) (ro:Option Nat) (a a1:Act) (w1:bI) (aj:Exit->Act->bI->Prop) (bl sl Nl:Nat),Gl E ρ->FR ρ ro Y a->cV ρ H eU H1->HR E w0 eU H1 w1->FR eU ro dT a1->eU l=some (bl,sl,Nl)->(∀e bM a' w',aey ex e->FR bM ro dT a'->HR E w0 bM H' w'->cV ρ H bM H'->aj e a' w')->∃(dd:Deferred) (f':fD) (args:Array aC),(resolve a.eval (rangeCall c bl) 0).run P w1=.ok dd w1/\(invoke dd.target dd.args).run P w1=.ok (.enter f' args) w1/\CallsIn (Fw ro) (m-1) P f' args w1 (rangePost (Fw ro) m P bl aj a1):=by
  intro l dT H1 f first captured v H3 st c_ fn n s yH xF xH d e1 EJ fF eH hT hj m ρ eU ro a a1 w1 aj bl sl Nl rP Qq zJ pf I9 jM Q
  subst e1
  have awe:Oo ρ Y.cD a c:=by cases c<;>first|trivial|exactλ v hv=>Qq.Bu _ v hv
  obtain⟨l',m',q1,q2,eg⟩:=(zH.adH rP awe).V6
  have dj:cA eU (first++([.fn (.yield l) [] []]++captured)) ((l'++(#[Value.func (.yield bl) #[] #[]]:Array aC))++m').toList:=by simp only[yY,FK];exact(q1.mono zJ.ext).append ((cA.cons (.Hs jM) .nil).append (q2.mono zJ.ext))
  obtain⟨F,h4⟩:=RO.call _ _ _ _ _ EJ eU w1 _ pf dj
  refine⟨{target:=.fn (.func f) m',args:=l'++(#[Value.func (.yield bl) #[] #[]]:Array aC)},f,_,?_,?_,afX (h4.mono ?_)⟩
  .have auF:a.eval (.const (.func (.yield bl) #[] #[]))=.func (.yield bl) #[] #[]:=rfl
   simp[resolve,eg,Deferred.ofValue,auF]
  .simp only[invoke]
   exact F
  .rintro e w3 ⟨u,Sk,rfl,g1,g2,g3⟩
   have qx:=g3.ext _ _ jM;obtain⟨r,yi,mY,oi,hr4,hr5,hr6,hr7,QD,hr9,_,_⟩:=g2.Q9 qx fF;obtain⟨k1,k2⟩:=g2.adI qx fF yi hT;refine⟨c_,_,by rw[<-oi];exact run_endLoop yi (by rw[mY];exact eH),?_⟩;have hHR:HR E w0 Sk H' (w3.putObj bl (.loop {r with state:=.exhausted})):=by
    have:({r with state:=.exhausted,pending:=c_}:Loop)={r with state:=.exhausted}:=by rw[<-oi]
    rw[<-this];exact k1
   have bm:cV ρ H Sk H':=(zJ.trans g3).trans k2;have aar:=I9.mono g3.ext;rcases hj with⟨rfl,rfl⟩|⟨rfl,rfl⟩|⟨id,rfl,rfl⟩
   .exact Q .normal Sk a1 _ trivial aar hHR bm
   .exact wpIn_ret (Q .ret Sk a1 _ trivial aar hHR bm)
   .exact wpIn_exit (Q (.exit id) Sk a1 _ rfl aar hHR bm)
 rcases apu h with⟨bU,H1,H2,Un,hA2,h⟩|⟨l0,st,c_,f0,n0,s0,ps0,as0,OQ,d0,H1,bU,sH,Un,h⟩
 .obtain⟨rfl,f,first,captured,v,H3,st,c_,fn,n,s,yH,xF,xH,d,e1,EJ,fF,eH,hT,hj⟩:=key h;refine⟨rfl,λ m ρ ro a w aj hh hf Q=>?_⟩;have jC:ro=none:=by
   rcases hf.round with⟨_,e⟩|⟨l,b,s,N,e,_⟩
   .exact e
   .rw[bU]at e;cases e
  subst jC;refine wpIn_rangeFunc λ Px _=>?_;have o1:OR E (ρ.add H.ab (w.heap.size,0,0)) .deferred 0 0 (some (.deferred (some []))):=rfl;obtain⟨p1,p2⟩:=hh.alloc Un o1;have awm:(w.alloc (.deferred (some []))).heap.size=w.heap.size+1:=Tl _ _;have rQ:H1.ab=H.ab+1:=Un.1;have x1:=p2.ext;have o2:OR E ((ρ.add H.ab (w.heap.size,0,0)).add H1.ab ((w.alloc (.deferred (some []))).heap.size,0,0)) (.loop .ready none Y.fn Y.size Y.cD ps.toList aI4 bd H.ab) 0 0 (some (.loop {state:=.ready,pending:=none,fn:=Px,tmps:=a.tmps,params:=ps,assign:=aI4,body:=bd,defers:=w.heap.size})):=by
   have x2:=bh.sk (p:=((w.alloc (.deferred (some []))).heap.size,0,0)) p1.fresh
   refine⟨fk.1,fk.2,_,rfl,rfl,rfl,hf.size,λ i av ha=>?_,rfl,rfl,rfl,0,0,x2 _ _ (bh.uY _ _ _)⟩
   obtain⟨v,O,U⟩:=hf.Bu i av ha
   exact⟨v,O,(U.mono x1).mono x2⟩
  obtain⟨p3,p4⟩:=p1.alloc hA2 o2;have zJ:=p2.trans p4;have I9:FR ((ρ.add H.ab (w.heap.size,0,0)).add H1.ab ((w.alloc (.deferred (some []))).heap.size,0,0)) none {Y with marks:=H.ab::Y.marks} {a with defers:=[{target:=.collected w.heap.size,args:=#[]}]++a.defers}:=by have AS:=hf.mono zJ.ext;exact⟨AS.size,AS.Bu,.cons ⟨w.heap.size,0,0,p4.ext _ _ (bh.uY _ _ _),rfl⟩ AS.marks,AS.round⟩
  obtain⟨dd,f',args,q1,q2,q3⟩:=Ra (l:=H1.ab) e1 EJ fF eH hT hj m ρ _ none a _ _ aj _ 0 0 hh.gl hf zJ p3 I9 (by rw[bh.uY,awm]) Q;exact⟨_,_,_,dd,_,f',args,_,run_enterLoop_outer Px a.tmps ps aI4 bd,q1,λ _ _=>trivial,q2,(λ h=>by cases h),q3⟩
 .obtain⟨rfl,f,first,captured,v,H3,st,c_,fn,n,s,yH,xF,xH,d,e1,EJ,fF,eH,hT,hj⟩:=key h;refine⟨rfl,λ m ρ ro a w aj hh hf Q=>?_⟩;obtain⟨b0,s1,N1,Ei,rfl⟩:∃b s N,ρ l0=some (b,s,N)/\ro=some b:=by
   rcases hf.round with⟨e,_⟩|⟨l,b,s,N,e,O,U⟩
   .rw[bU]at e;cases e
   .rw[bU]at e;cases e;exact⟨b,s,N,O,U⟩
  obtain⟨r0,yi,_,_,_,_,_,_,_,⟨s9,N9,hr9⟩,_,_⟩:=hh.Q9 Ei sH;refine wpIn_rangeFunc λ Px _=>?_;have o1:OR E (ρ.add H.ab (w.heap.size,0,0)) (.loop .ready none an.fn an.size an.cD ps.toList aI4 bd d0) 0 0 (some (.loop {state:=.ready,pending:=none,fn:=Px,tmps:=a.tmps,params:=ps,assign:=aI4,body:=bd,defers:=r0.defers})):=by
   have x2:=bh.sk (p:=(w.heap.size,0,0)) hh.fresh
   refine⟨fk.1,fk.2,_,rfl,rfl,rfl,hf.size,λ i av ha=>?_,rfl,rfl,rfl,s9,N9,x2 _ _ hr9⟩
   obtain⟨v,O,U⟩:=hf.Bu i av ha
   exact⟨v,O,U.mono x2⟩
  obtain⟨p1,p2⟩:=hh.alloc Un o1;obtain⟨dd,f',args,q1,q2,q3⟩:=Ra (l:=H.ab) e1 EJ fF eH hT hj m ρ _ (some b0) a a _ aj _ 0 0 hh.gl hf p2 p1 (hf.mono p2.ext) (bh.uY _ _ _) Q;exact⟨_,_,_,dd,_,f',args,_,run_enterLoop_inner yi Px a.tmps ps aI4 bd,q1,λ _ _=>trivial,q2,(λ h=>by cases h),q3⟩
theorem DB(EO:eW P E)(RO:Aq P E w0 rc):∀c:Code,tF P E w0 (dX E rc c) c
 |.skip=>aEJ (rc:=rc)|.region _ _ _=>aEG EO RO|.seq a b=>aEI (DB EO RO a) (DB EO RO b)|.cond _ a b=>aEC (DB EO RO a) (DB EO RO b)|.block _ a=>aEB (DB EO RO a)|.loop a=>aEE (DB EO RO a)|.rangeFunc _ _ _ _=>aEF RO|.exit _=>aED (rc:=rc)|.ret=>aEH (rc:=rc)|.scope _=>λ _ _ _ _ _ h=>by cases h
 |.label _=>λ _ _ _ _ _ h=>by cases h
 |.goto _=>λ _ _ _ _ _ h=>by cases h
 |.refuse _=>λ _ _ _ _ _ h=>by cases h
theorem akq{β:Type}{n:Nat}{k:CX->R β}{q:β}:∀{ps:List Tmp} {args:AU} {s:CX},Fu n ps args s k=.ok q->
 ∃s1,k s1=.ok q/\args.length=ps.length/\∀(ρ:bh) (vs:List aC) (tm:Array aC),cA ρ args vs->tm.size=n->(∀(i:Nat) av,s.get i=some av->∃v,tm[i]?=some v/\Rl ρ av v)->
  ((ps.zip vs).foldl (λ (tm:Array aC) (p:Tmp×aC)=>tm.setIfInBounds p.1 p.2) tm).size=n/\∀(i:Nat) av,s1.get i=some av->∃v,((ps.zip vs).foldl (λ (tm:Array aC) (p:Tmp×aC)=>tm.setIfInBounds p.1 p.2) tm)[i]?=some v/\Rl ρ av v
 |[],[],s,h=>⟨s,h,rfl,λ ρ vs tm hr hs hrel=>by cases hr;exact⟨hs,hrel⟩⟩|[],_::_,s,h=>by cases h
 |_::_,[],s,h=>by cases h
 |p::ps,a::args,s,h=>by
  have h':aB (.er [163]) (j_ 64 s p (some a) (λ s'=>Fu n ps args s' k) (.er [164])) (Nat.blt p n)=.ok q:=h
  replace h':=db h';have⟨bm,h'⟩:=h'
  replace h':=JU h';have⟨s',Mz,h'⟩:=h'
  have⟨s1,O,U,F⟩:=akq (ps:=ps) h'
  have wJ:p<n:=by rw[tK]at bm;exact bm
  refine⟨s1,O,by simp[U],λ ρ vs tm hr hs hrel=>?_⟩
  cases hr with
  |@cons _ v _ vs yi mY=>
   refine F ρ vs (tm.setIfInBounds p v) mY (by simpa using hs) λ i av A=>?_
   rw[Mz]at A
   rw[HP]
   by_cases e:i=p
   .subst e
    rw[aq rfl]at A;cases A;exact⟨v,by rw[aq rfl,aq (by rw[hs];exact wJ)],yi⟩
   .rw[ao e]at A
    rw[ao (λ h=>e h.symm)];exact hrel i av A
def Xf(EO:eW P E)(RO:Aq P E w0 rc){args:AU}{v:J}(h:Ft E rc ah args H=.ok (v,H')):aeJ P E w0 ah args H v H':=by
 unfold Ft at h;have⟨ob,jB,h⟩:=oB h;split at h
 .rename_i st c_ f n s ps aI4 bd d;split at h
  .have⟨s1,h,bA,nK⟩:=akq h;cases Z:dX E rc aI4 ⟨s1,n,[],some ah,f⟩ H with
   |er e=>rw[Z]at h;cases h
   |ok r=>
    rw[Z]at h
    obtain⟨iR,dT,H1⟩:=r
    cases iR with
    |exit j=>cases h|ret=>cases h
    |normal=>
     dsimp only at h
     have⟨ob1,ah5,h⟩:=oB h
     split at h
     .rename_i st1 Dt f1 n1 s2 ps1 as1 bd1 d1
      split at h
      .have⟨H2,eX,h⟩:=rk h;cases G:dX E rc bd dT H2 with
       |er e=>rw[G]at h;cases h
       |ok r2=>
        rw[G]at h
        obtain⟨ex,wx,H3⟩:=r2
        dsimp only at h
        have⟨ob3,ah6,h⟩:=oB h
        split at h
        .rename_i st3 aAA f3 n3 s3 ps3 as3 bd3 d3
         have Md:∃oE jump,tG H3 ah (some (.loop oE jump f3 n3 s3 ps3 as3 bd3 d3)) H'/\v=.lit (.bool jump.isNone)/\oE=(if jump.isNone then .ready else .done)/\((ex=.normal/\jump=none)\/(ex=.ret/\jump=some .ret)\/∃id,ex=.exit id/\jump=some (.exit id)):=by
          cases ex with
          |normal=>
           have⟨H4,hT,h⟩:=rk h
           cases h
           exact⟨_,_,hT,rfl,rfl,.inl ⟨rfl,rfl⟩⟩
          |ret=>
           have⟨H4,hT,h⟩:=rk h
           cases h
           exact⟨_,_,hT,rfl,rfl,.inr (.inl ⟨rfl,rfl⟩)⟩
          |exit id=>
           have⟨H4,hT,h⟩:=rk h
           cases h
           exact⟨_,_,hT,rfl,rfl,.inr (.inr ⟨id,rfl,rfl⟩)⟩
         obtain⟨oE,jump,hT,rfl,awj,hj⟩:=Md;intro ρ w dn b sh N hh hb dj;obtain⟨r,yi,mY,oi,hr4,hr5,hr6,hr7,QD,hr9,ok1,ok2⟩:=hh.Q9 hb jB;have aul:dn.size=r.params.size:=by
          have e1:=dj.length;have e2:r.params.size=ps.length:=by rw[<-hr6];simp
          simp only[rH]at e1;omega
         refine⟨r.fn,_,_,_,run_yield yi aul,λ m=>?_⟩;rw[hr7,QD];have htm:(r.params.zip dn).foldl (λ tmps (x:Tmp×aC)=>match x with|(t,a)=>tmps.setIfInBounds t a) r.tmps=(ps.zip dn.toList).foldl (λ (tm:Array aC) (p:Tmp×aC)=>tm.setIfInBounds p.1 p.2) r.tmps:=by rw[<-Yh,Array.toList_zip,hr6]
         obtain⟨t1,t2⟩:=nK ρ dn.toList r.tmps dj hr4 hr5;obtain⟨_,aEz⟩:=DB EO RO aI4 _ _ _ _ _ Z ok1;refine roundIn_of_wpIn trivial ?_;have PA:FR ρ (some b) ⟨s1,n,[],some ah,f⟩ {tmps:=(r.params.zip dn).foldl (λ tmps (x:Tmp×aC)=>match x with|(t,a)=>tmps.setIfInBounds t a) r.tmps,defers:=[]}:=by rw[htm];exact⟨t1,t2,.nil,.inr ⟨ah,b,sh,N,rfl,hb,rfl⟩⟩
         refine aEz m ρ (some b) _ w _ hh PA λ e eU a1 w1 he I9 pf cT=>?_;cases e<;>first|(cases he;done)|skip
         have bR:=cT.ext _ _ hb;obtain⟨q1,g1,g2,g3,g4,g5,g6,g7,g8,g9,_,_⟩:=pf.Q9 bR ah5;obtain⟨k1,k2⟩:=pf.adI bR ah5 g1 eX;refine⟨_,run_beginRound g1 g2,?_⟩;have fnn:dT.fn=f:=(DB EO RO aI4 _ _ _ _ _ Z ok1).1;obtain⟨_,aEA⟩:=DB EO RO bd _ _ _ _ _ G (by rw[fnn];exact ok2);have iH:HR E w0 eU H2 (w1.putObj b (.loop {q1 with state:=.busy})):=by
          have:({q1 with state:=.busy,pending:=Dt}:Loop)={q1 with state:=.busy}:=by rw[<-g3]
          rw[<-this];exact k1
         refine aEA m eU (some b) a1 _ _ iH I9 λ e ρ2 a2 w2 he UZ ya ck=>?_;have eG:=ck.ext _ _ bR;obtain⟨q3,j1,j2,j3,j4,j5,j6,j7,j8,j9,_,_⟩:=ya.Q9 eG ah6;obtain⟨m1,m2⟩:=ya.adI eG ah6 j1 hT;have zJ:cV ρ H ρ2 H':=((cT.trans k2).trans ck).trans m2;have zI:∃v' w',(Instr.endRound b jump).run P w2=.ok v' w'/\∃u bM,(Ending.returned v')=.returned u/\Rl bM (.lit (.bool jump.isNone)) u/\HR E w0 bM H' w'/\cV ρ H bM H':=by refine⟨_,_,run_endRound jump j1,_,ρ2,rfl,.lit _,?_,zJ⟩;rw[awj]at m1;exact m1
         rcases hj with⟨rfl,rfl⟩|⟨rfl,rfl⟩|⟨id,rfl,rfl⟩
         .cases e<;>first|(cases he;done)|exact zI
         .cases e<;>first|(cases he;done)|exact zI
         .cases e<;>first|(cases he;done)|skip
          have xZ:id=_:=he;subst xZ;exact zI
        .cases h
      .cases h
     .cases h
  .cases h
 .cases h
end
section
variable{P:e8}{E:aK}{rc:mP}{w0 w:bI}{ρ:bh}{H:D}
def aj3{t:CX}(h:pU t ah m k=.ok q):∃l,k l=.ok q/\pU t ah m R.ok=.ok l:=by
 have key:∀(m:Nat) (dL:AU),rV (α:=AU) (β:=R β) k (λ i ih dL=>cB t (Nat.add ah i) (λ v=>ih (v::dL)) (.er [4,ah,i])) m dL=.ok q->∃l,k l=.ok q/\rV (α:=AU) (β:=R AU) R.ok (λ i ih dL=>cB t (Nat.add ah i) (λ v=>ih (v::dL)) (.er [4,ah,i])) m dL=.ok l:=by
  intro m
  induction m with
  |zero=>intro dL h;exact⟨dL,h,rfl⟩
  |succ m ih=>
   intro dL h
   rw[z8]at h
   have⟨v,O,U⟩:=oY h
   have⟨l,F,h4⟩:=ih _ U
   refine⟨l,F,?_⟩
   rw[z8,jJ,O]
   exact h4
 unfold pU at h⊢;exact key m [] h
def axI{a:J}{k:J->R β}(h:zX E t a H k=.ok q):∃x,k x=.ok q/\zX E t a H R.ok=.ok x:=by
 unfold zX at h;split at h
 .rename_i id ah;have⟨ob,jB,h⟩:=oB h;split at h
  .rename_i n M ro;have⟨i,A,h⟩:=nS h;have fin:∀x,aB (aB (.er [27]) (cB M ah R.ok (.er [28,id,ah])) (Nat.blt ah n)) (aB (.er [29,id,ah]) (pU M ah i.size λ l=>.ok (.agg l)) (Nat.ble (Nat.add ah i.size) n)) (k9 i.desc)=.ok x->zX E t (.ptr id ah) H R.ok=.ok x:=by
    intro x Z;show ie H id _=_;have:∀(k:AO->R J),ie H id k=k (.cells n M ro):=by intro k;cases H;show cB _ id k _=_;rw[jJ];rw[show Tr.get _ id=_ from jB]
    rw[this];show cB E.tt t _ _=_;rw[jJ,A];exact Z
   cases qO:k9 i.desc with
   |false=>
    rw[qO,Ik]at h
    have⟨bm,h⟩:=db h
    have⟨x,Z,h⟩:=oY h
    refine⟨x,h,fin x ?_⟩
    rw[qO,Ik,bm,xI,jJ,Z]
   |true=>
    rw[qO,xI]at h
    have⟨bm,h⟩:=db h
    have⟨l,h,hl⟩:=aj3 h
    refine⟨.agg l,h,fin _ ?_⟩
    rw[qO,xI,bm,xI]
    obtain⟨l2,U,F⟩:=aj3 (k:=λ l=>R.ok (J.agg l)) (t:=M) (ah:=ah) (m:=i.size) (q:=.agg l) (by
     obtain⟨l',g1,g2,g3⟩:=He hl;have e:l'=l:=by cases g3;rfl
     subst e;have key:∀{γ:Type} (k:AU->R γ) (m:Nat) (dL l:AU),rV (α:=AU) (β:=R AU) R.ok (λ i ih dL=>cB M (Nat.add ah i) (λ v=>ih (v::dL)) (.er [4,ah,i])) m dL=.ok l->rV (α:=AU) (β:=R γ) k (λ i ih dL=>cB M (Nat.add ah i) (λ v=>ih (v::dL)) (.er [4,ah,i])) m dL=k l:=by
      intro γ k m
      induction m with
      |zero=>intro dL l h;cases h;rfl
      |succ m ih=>
       intro dL l h
       rw[z8]at h
       obtain⟨v,O,U⟩:=oY h
       rw[z8,jJ,O]
       exact ih _ _ U
     unfold pU at hl⊢;exact key _ _ _ _ hl)
    cases U
    have aw8:pU M ah i.size (λ l=>R.ok (J.agg l))=.ok (.agg l):=by
     have key:∀{γ:Type} (k:AU->R γ) (m:Nat) (dL l:AU),rV (α:=AU) (β:=R AU) R.ok (λ i ih dL=>cB M (Nat.add ah i) (λ v=>ih (v::dL)) (.er [4,ah,i])) m dL=.ok l->rV (α:=AU) (β:=R γ) k (λ i ih dL=>cB M (Nat.add ah i) (λ v=>ih (v::dL)) (.er [4,ah,i])) m dL=k l:=by
      intro γ k m
      induction m with
      |zero=>intro dL l h;cases h;rfl
      |succ m ih=>
       intro dL l h
       rw[z8]at h
       obtain⟨v,O,U⟩:=oY h
       rw[z8,jJ,O]
       exact ih _ _ U
     unfold pU at hl⊢;exact key _ _ _ _ hl
    exact aw8
  .cases h
 .cases h
def ado(l:AU):J:=match l with|[v]=>v|l=>.dh l
def RV(E:aK)(s:CX)(H:D)(r:ResultVar)(v:J):Prop:=match r with|.tmp t=>s.get t=some v|.cell a t=>∃p,s.get a=some p/\zX E t p H R.ok=.ok v
def aDU{k:J->R β}(h:Dx E s H rs k=.ok q):∃l,F2 (RV E s H) rs l/\k (ado l)=.ok q:=by
 unfold Dx at h;have⟨l,O,U⟩:=Bh (S:=RV E s H) (λ r k q h=>by
  cases r with
  |tmp t=>exact oY h
  |cell a t=>
   have⟨p,hp,h⟩:=oY h
   have⟨x,O,U⟩:=axI h
   exact⟨x,⟨p,hp,U⟩,O⟩) h
 refine⟨l,O,?_⟩;rcases l with _|⟨v,_|⟨u,l⟩⟩<;>exact U
def Xb(tm:Array aC):ResultVar->Sem aC
 |.tmp t=>pure (tm.getD t undef)|.cell a t=>do loadVar t (<-asAddr (tm.getD a undef))
def aEa(EO:eW P E)(hr:HR E w0 ρ H w)(hs:∀(t:Nat) av,s.get t=some av->∃v,tm[t]?=some v/\Rl ρ av v):∀{rs:List ResultVar} {l:AU},F2 (RV E s H) rs l->∃vs:List aC,(rs.mapM (Xb tm)).run P w=.ok vs w/\cA ρ l vs:=by
 intro rs l h
 induction h with
 |nil=>exact⟨[],rfl,.nil⟩
 |@cons r v rs l O _ ih=>
  have⟨vs,U,F⟩:=ih
  cases r with
  |tmp t=>
   have⟨u,h4,h5⟩:=hs t v O
   refine⟨u::vs,?_,.cons h5 F⟩
   have:tm.getD t undef=u:=by rw[DU,h4];rfl
   simp only[YI,Xb,cK,this,iL,dD,U]
  |cell a t=>
   have⟨p,hp,hl⟩:=O
   have⟨pv,h4,h5⟩:=hs a p hp
   have⟨ad,x,u,e1,e2,e3,e4⟩:=HR.load EO (nU.refl H) hr hl h5
   cases e4
   refine⟨u::vs,?_,.cons e3 F⟩
   have:tm.getD a undef=.pointer (some ad):=by rw[DU,h4,e1];rfl
   simp only[YI,Xb,cK,this,asAddr,iL,dD,e2,U]
def aDV(EO:eW P E){fn:Func}(hr:HR E w0 ρ H w)(hs:∀(t:Nat) av,s.get t=some av->∃v,tm[t]?=some v/\Rl ρ av v)(h:F2 (RV E s H) fn.results.toList l):∃u,(results fn tm).run P w=.ok u w/\Rl ρ (ado l) u:=by
 have⟨vs,O,U⟩:=aEa EO hr hs h
 have av6:results fn tm=(do let vs<-fn.results.mapM (Xb tm);pure (if h:vs.size=1 then vs[0]else .tuple vs)):=rfl
 rw[av6]
 refine⟨if h:vs.toArray.size=1 then vs.toArray[0]else .tuple vs.toArray,?_,?_⟩
 .simp[Array.mapM_eq_mapM_toList,O]
 .have bA:=U.length
  rcases l with _|⟨v,_|⟨u,l⟩⟩
  .rcases vs with _|⟨x,vs⟩
   .exact .dh .nil
   .simp at bA
  .rcases vs with _|⟨x,_|⟨y,vs⟩⟩
   .simp at bA
   .cases U with|cons F _=>exact F
   .simp at bA
  .rcases vs with _|⟨x,_|⟨y,vs⟩⟩
   .simp at bA
   .simp at bA
   .rw[dif_neg ζ];exact .dh U
def HR.drop(h:HR E w0 ρ H w){ob:AO}(A:ρ ah=some (b,sh,N))(ho:H.t.get ah=some ob)(jC:ob.Dh=false)(hT:tG H ah none H')(gu:w'.heap.size=w.heap.size)(cJ:∀k,k≠b->w'.heap[k]?=w.heap[k]?)(U:w'.os=w.os)(F:w'.tape=w.tape)(h4:w'.output=w.output):HR E w0 ρ H' w'/\cV ρ H ρ H':=by
 have hB:=h.own ah b sh N ob A ho jC
 have back:∀j o',H'.t.get j=some o'->j≠ah/\H.t.get j=some o':=by
  intro j o' hj;rw[hT.2]at hj;split at hj
  .cases hj
  .rename_i e;exact⟨e,hj⟩
 refine⟨⟨λ j p hp=>by rw[hT.1];exact h.lt j p hp,?_,?_,?_,λ j b' s' N' hj=>by rw[gu];exact h.bF j b' s' N' hj,h.vo,?_,λ j hj=>?_⟩,λ _ _ h=>h,λ j hj hn=>⟨hn,?_⟩,by rw[hT.1];omega⟩
 .intro j b' s' N' o' h5 h6
  obtain⟨e1,e2⟩:=back j o' h6;rw[cJ b' (λ e=>by subst e;exact e1 (h.inj j ah b' s' N' sh N _ _ h5 A e2 ho jC))];exact h.obj j b' s' N' o' h5 e2
 .intro i j b' s1 N1 s2 N2 o1 o2 h5 h6 h7 h8 h9
  exact h.inj i j b' s1 N1 s2 N2 o1 o2 h5 h6 (back _ _ h7).2 (back _ _ h8).2 h9
 .intro j b' s' N' o' h5 h6 h7
  exact h.own j b' s' N' o' h5 (back _ _ h6).2 h7
 .exact⟨U.trans h.ia.os,F.trans h.ia.tape,h4.trans h.ia.output,by rw[gu];exact h.ia.size,λ k Q hs=>by rw[cJ k ω];exact h.ia.block k Q hs⟩
 .rw[hT.2];split;rfl;exact h.Y j (by rw[hT.1]at hj;exact hj)
 .rw[hT.2,ao]
  rintro rfl;rw[A]at hn;cases hn
theorem agA{β:Type}{k:D->R β}{q:β}:∀{l:AT} {H:D},xQ l H k=.ok q->∃H',k H'=.ok q/\∀(n:Nat) (fn:Func) (tm:Array aC) (aj:Ending->bI->Prop) (ρ:bh) (w:bI) (ds:List Deferred),HR E w0 ρ H w->F2 (Oh ρ) l ds->(∀w',HR E w0 ρ H' w'->cV ρ H ρ H'->∃v,(results fn tm).run P w'=.ok v w'/\aj (.returned v) w')->LeavesInM Fence.wide n P fn tm aj ds .returning w
 |[],H,h=>⟨H,h,λ n fn tm aj ρ w ds hr B Q=>by
    cases B
    exact Q w hr (cV.refl _ _)⟩
 |id::l,H,h=>by
  have h':ie H id (λ o=>match o with|.deferred=>me H id none (λ H=>xQ l H k)|_=>.er [185])=.ok q:=h
  replace h':=oB h';have⟨ob,jB,h'⟩:=h'
  split at h'
  .replace h':=rk h';have⟨H1,hT,h'⟩:=h'
   have⟨H2,O,U⟩:=agA (l:=l) h';refine⟨H2,O,λ n fn tm aj ρ w ds hr B Q=>?_⟩;cases B with
   |@cons _ d _ ds hd B=>
    obtain⟨b,sh,N,hb,rfl⟩:=hd
    have aaj:w.heap[b]?=some (.deferred (some [])):=hr.obj _ _ _ _ _ hb jB
    have⟨g1,g2⟩:=hr.drop (w':=w.putObj b (.deferred none)) hb jB rfl hT (by simp[World.putObj]) (λ k Q=>World.putObj_heap_other Q) rfl rfl rfl
    refine⟨ζ,.inl ⟨b,_,rfl,run_takeDeferred aaj,?_⟩⟩
    exact U n fn tm aj ρ _ ds g1 B λ w' k1 k2=>Q w' k1 (g2.trans k2)
  .cases h'
def Zo(EO:eW P E)(RO:Aq P E w0 rc){args:AU}(h:oU E rc f args H=.ok (x,H')):Sn P E w0 f args H x H':=by
 unfold oU at h;have⟨fn,iw,h⟩:=oY h;have hf:=EO.ft _ _ iw;cases hb:fn.body with
 |none=>rw[hb]at h;cases h
 |some c=>
  rw[hb]at h
  dsimp only at h
  unfold NQ at h
  have⟨s,hs,h⟩:=sd h
  rw[ux]at h
  replace h:=zu h
  cases Z:dX E rc c ⟨s,Nat.add args.length (Nat.sub fn.ntmps args.length),[],none,f⟩ H with
  |er e=>rw[Z]at h;cases h
  |ok r=>
   rw[Z]at h
   have⟨ex,dT,H1⟩:=r
   have⟨s',n',m,rd,fnn⟩:=dT
   have Md:(ex=.normal\/ex=.ret)/\xQ m H1 (λ H2=>Dx E s' H2 fn.results.toList λ x=>.ok (x,H2))=.ok (x,H'):=by cases ex with|normal=>exact⟨.inl rfl,h⟩|ret=>exact⟨.inr rfl,h⟩|exit j=>cases h
   have⟨hex,U⟩:=Md
   have⟨H2,F,avl⟩:=agA (P:=P) (E:=E) (w0:=w0) U
   have⟨l,hl,h4⟩:=aDU F
   cases h4
   intro ρ w dn hh dj
   refine⟨MuLone.run_callFunc_enter hf (EO.nm f fn hf (by rw[hb];rfl)) hb dn w,(callsIn_wide (n:=0)).1 (callsIn_of_wp_marks hf hb trivial ?_)⟩
   have bA:=dj.length
   simp only[rH]at bA
   have PA:FR ρ none ⟨s,Nat.add args.length (Nat.sub fn.ntmps args.length),[],none,f⟩ {tmps:=dn++Array.replicate (fn.ntmps-dn.size) undef,defers:=[]}:=by
    refine⟨?_,λ t av ht=>?_,.nil,.inl ⟨rfl,rfl⟩⟩
    .show(dn++Array.replicate (fn.ntmps-dn.size) undef).size=args.length+(fn.ntmps-args.length);simp[bA]
    .have rS:s.get t=some av:=ht;rw[hs]at rS;by_cases e:0<=t/\t<0+args.length
     .rw[aq e,Ax]at rS;have⟨u,h5,h6⟩:=dj.get rS;refine⟨u,?_,h6⟩;show(dn++Array.replicate (fn.ntmps-dn.size) undef)[t]?=some u;rw[aeV ω];simpa using h5
     .rw[ao e,Tr.Gk]at rS;cases rS
   have⟨_,sim⟩:=DB EO RO c _ _ _ _ _ Z (EO.pl f fn c iw hb)
   refine sim 0 ρ none _ w _ hh PA λ e eU a1 w1 he o_ pf cT=>?_
   have fin:LeavesInM Fence.wide 0 P fn a1.tmps (λ e w'=>∃u bM,e=.returned u/\Rl bM (ado l) u/\HR E w0 bM H' w'/\cV ρ H bM H') a1.defers .returning w1:=by refine avl 0 fn a1.tmps _ eU w1 a1.defers pf o_.marks λ w2 ya ck=>?_;have⟨u,h5,h6⟩:=aDV EO (fn:=fn) ya o_.Bu hl;exact⟨u,h5,u,eU,rfl,h6,ya,cT.trans ck⟩
   rcases hex with rfl|rfl<;>cases e<;>first|(cases he;done)|exact fin
def Hz(P:e8)(E:aK)(w0:bI):Prop:=∀f h args H v H',E.Q.get f=some (h+2)->vD E (h+2) args H=.ok (v,H')->Sn P E w0 f args H v H'
theorem ahb(EO:eW P E)(HK:Hz P E w0):∀n,Aq P E w0 (mw E n)
 |0=>⟨λ _ _ _ _ _ h=>(by cases h),λ _ _ _ _ _ h=>(by cases h)⟩
 |n+1=>by
  have ih:=ahb EO HK n
  refine⟨λ f args H v H' h=>?_,λ l args H v H' h=>?_⟩
  .have h':cB E.Q f (λ h=>eC (oU E (mw E n) f args H) (λ h'=>eC (oU E (mw E n) f args H) (λ _=>vD E h args H) h') h) (oU E (mw E n) f args H)=.ok (v,H'):=h
   rw[jJ]at h';cases hh:E.Q.get f with
   |none=>rw[hh]at h';exact Zo EO ih h'
   |some k=>
    rw[hh]at h'
    rcases k with _|_|k
    .exact Zo EO ih h'
    .exact Zo EO ih h'
    .exact HK f k args H v H' hh h'
  .exact Xf EO ih h
def akg(EO:eW P E)(HK:Hz P E w0)(h:mw E n (.call f l) H=.ok (.lit v,H'))(hh:HR E w0 ρ H w0)(ha:cA ρ l tm.toList):Calls P f tm w0 λ e w'=>e=.returned v/\jG (λ _=>False) w0 w':=by
 have⟨_,U⟩:=(ahb EO HK n).call _ _ _ _ _ h ρ w0 tm hh ha
 refine U.mono ?_
 rintro e w' ⟨u,bM,rfl,F,h4,_⟩
 exact⟨by rw[F.fI],h4.ia⟩
end
variable{α:Type}
structure OI where
 d:Nat
 l:Nat
 a:Nat
 c:Nat
def By(l:List dy):Nat:=List.rec (motive:=λ _=>Nat) 0 (λ x _ ih=>match x with|.tmp t=>Nat.lor (Nat.pow 2 t) ih|_=>ih) l
def Ix(o:Oper):Nat:=match o.dst with|some t=>Nat.pow 2 t|none=>0
def ajA(l:List Oper)(n:Nat):Option Oper:=List.rec (motive:=λ _=>Nat->Option Oper) (λ _=>none) (λ a _ ih n=>Nat.rec (motive:=λ _=>Option Oper) (some a) (λ m _=>ih m) n) l n
def LC(ak:List Oper)(o:Oper):Nat:=match o.guard with|none=>0|some (g,_)=>match ajA ak g with|some o'=>Ix o'|none=>0
def Is(o:Op):Nat:=match kX o with|.pu=>0|.ro=>1|.al=>2|.wr=>3
def afB(i:Nat)(t:Tr OI)(l:List Edge)(k:Nat->Bool):Bool:=List.rec (motive:=λ _=>Nat->Bool) k (λ e _ ih m=>aB (ih m) (aB false (cB t e.on (λ q=>d_ (Nat.lor m (Nat.lor (Nat.pow 2 e.on) q.a)) ih) false) (Nat.blt e.on i)) (Region.binds .any e)) l 0
def aa5(ak:List Oper)(l:List Oper)(k:Tr OI->Bool):Nat->Tr OI->Bool:=List.rec (motive:=λ _=>Nat->Tr OI->Bool) (λ _ t=>k t) (λ o _ ih i t=>afB i t o.after.toList λ a=>d_ (Nat.lor (By o.op.operands.toList) (LC ak o)) λ lm=>d_ (Ix o) λ d=>d_ (Is o.op) λ c=>j_ 64 t i (some ⟨d,lm,a,c⟩) (λ t'=>d_ (Nat.succ i) λ i'=>ih i' t') false) l
def H_(n:Nat)(p:Nat->Bool):Bool:=Nat.rec (motive:=λ _=>Bool) true (λ i ih=>aB false ih (p i)) n
def Rr(a b:Bool):Bool:=aB b true a
def ajJ(t:Tr OI)(i m:Nat):Bool:=cB t i (λ q=>cB t m (λ r=>Rr (Nat.beq i m) (aB false (Rr (Nat.beq (Nat.land r.d q.l) 0) (Rr (Nat.testBit q.a m) (Nat.testBit r.a i))) (Nat.beq (Nat.land q.d r.d) 0))) false) false
def adK(t:Tr OI)(n i:Nat):Bool:=cB t i (λ q=>H_ n λ m=>cB t m (λ r=>Rr (Nat.beq (Nat.land r.d q.l) 0) (Nat.testBit q.a m)) false) false
def G0(l:AT)(m:Nat):Nat:=List.rec (motive:=λ _=>Nat) m (λ i _ ih=>Nat.lor (Nat.pow 2 i) ih) l
def RX(t:Tr OI)(pl:List di)(k:Nat->Nat->Bool):Nat->Nat->Nat->Nat->Bool:=List.rec (motive:=λ _=>Nat->Nat->Nat->Nat->Bool) (λ done _ _ ag=>k done ag) (λ p _ ih done wm rm ag=>match p with|.op i=>cB t i (λ q=>aB (aB false (aB false (aB (d_ (Nat.lor done (Nat.pow 2 i)) λ vh=>d_ (aB rm (Nat.lor rm (Nat.pow 2 i)) (Nat.beq q.c 1)) λ wY=>ih vh wm wY ag) false (Nat.beq q.c 3)) (Nat.beq (Nat.lor wm q.a) q.a)) (Nat.beq (Nat.lor done q.a) done)) false (Nat.testBit done i)) false|.wr i re=>cB t i (λ q=>aB (aB false (aB false (d_ (G0 re q.a) λ am=>aB false (d_ (Nat.lor done (Nat.pow 2 i)) λ vh=>d_ (Nat.lor wm (Nat.pow 2 i)) λ DL=>d_ (aB rm (Nat.lor rm (Nat.pow 2 i)) (Nat.beq q.c 1)) λ wY=>d_ (G0 re ag) λ Av=>ih vh DL wY Av) (Nat.beq (Nat.lor rm am) am)) (Nat.beq (Nat.lor wm q.a) q.a)) (Nat.beq (Nat.lor done q.a) done)) false (Nat.testBit done i)) false) pl
def ai2(l:List β):Nat:=List.rec (motive:=λ _=>Nat) 0 (λ _ _ ih=>Nat.succ ih) l
def WU(ak:Array Oper)(pl:List di):Bool:=aB false (d_ (ai2 ak.toList) λ n=>aa5 ak.toList ak.toList (λ t=>aB false (RX t pl (λ done ag=>aB false (H_ n λ i=>aB true (adK t n i) (Nat.testBit ag i)) (H_ n λ i=>Nat.testBit done i)) 0 0 0 0) (H_ n λ i=>H_ n λ m=>ajJ t i m)) 0 .e) (Region.noSelect ak)
theorem KR{p:Nat->Bool}:∀{n:Nat},H_ n p=true->∀i,i<n->p i=true
 |0,_,i,h=>ω
 |n+1,h,i,A=>by
  have h':aB false (H_ n p) (p n)=true:=h
  have⟨O,U⟩:=jc h'
  by_cases e:i=n
  .rw[e];exact O
  .exact KR U i ω
def WQ{b:Bool}(h:Rr y b=true):y=true\/b=true:=by cases y with|true=>exact .inl rfl|false=>exact .inr h
def O4{x:Bool}(h:aB x false y=true):y=false/\x=true:=by cases y with|true=>cases h|false=>exact⟨rfl,h⟩
def IL{t:Tr α}{k:α->Bool}(h:cB t n k false=true):∃v,t.get n=some v/\k v=true:=by rw[jJ]at h;cases e:t.get n with|none=>rw[e]at h;cases h|some v=>rw[e]at h;exact⟨v,rfl,h⟩
def aEr{t:Tr α}{v:Option α}{k:Tr α->Bool}(h:j_ b t n v k false=true):∃t',(∀j,t'.get j=if j=n then v else t.get j)/\k t'=true:=by rw[DA]at h;cases e:t.set b n v with|none=>rw[e]at h;cases h|some t'=>rw[e]at h;exact⟨t',Tr.adU _ _ _ _ _ e,h⟩
def lor_eq(a b:Nat):Nat.lor a b=a|||b:=rfl
def land_eq(a b:Nat):Nat.land a b=a&&&b:=rfl
def pow_eq(a b:Nat):Nat.pow a b=a^b:=rfl
def Ie(i:Nat):(2^i).testBit i=true:=Nat.testBit_two_pow_self
def Zk(i j:Nat):(2^i).testBit j=decide (i=j):=by rw[aft]
def aFy(x:dy)(l:List dy):By (x::l)=(match x with|.tmp t=>Nat.lor (Nat.pow 2 t) (By l)|_=>By l):=rfl
theorem ala{t:Tmp}:∀{l:List dy},Operand.tmp t∈l->(By l).testBit t=true
 |x::l,h=>by
  have ih:=@ala t l
  rw[aFy]
  rcases cZ.1 h with e|U
  .subst e
   show(2^t|||By l).testBit t=true;rw[zg,Ie,Ot]
  .clear h
   cases x with
   |tmp u=>
    show(2^u|||By l).testBit t=true
    rw[zg,ih U,Kv]
   |const v=>exact ih U|global g=>exact ih U|func f=>exact ih U
theorem ajB:∀(l:List Oper) (n:Nat),ajA l n=l[n]?
 |[],_=>rfl|a::l,0=>rfl|a::l,n+1=>(ajB l n).trans ζ
def aja{t:Tmp}(h:t∈o.looksAt ak):(Nat.lor (By o.op.operands.toList) (LC ak.toList o)).testBit t=true:=by
 rw[lor_eq,zg,xt];unfold Oper.looksAt at h;rcases b_.1 h with h|h
 .left;have⟨x,Z,he⟩:=YJ.1 h;cases x with|tmp u=>cases he;exact ala Z|const v=>cases he|global g=>cases he|func f=>cases he
 .right;unfold LC;cases hg:o.guard with
  |none=>rw[hg]at h;simp at h
  |some gb=>
   have⟨g,b⟩:=gb
   rw[hg]at h
   dsimp only at h⊢
   rw[ajB,pG]
   cases ho:ak[g]? with
   |none=>rw[ho]at h;simp at h
   |some o'=>
    rw[ho]at h
    dsimp only
    unfold Ix
    cases hd:o'.dst with
    |none=>simp[hd]at h
    |some u=>
     have:t=u:=by simpa[hd]using h
     subst this
     exact Ie t
theorem Y0{ak:Array Oper}{i:Nat}{o:Oper}{t:Tr OI}{k:Nat->Bool}(ho:ak[i]?=some o)(ht:∀j q,t.get j=some q->∀m,q.a.testBit m=true->ch ak j m):
 ∀(l:List Edge) (m:Nat),(∀e∈l,e∈o.after)->(∀x,m.testBit x=true->ch ak i x)->
  List.rec (motive:=λ _=>Nat->Bool) k (λ e _ ih m=>aB (ih m) (aB false (cB t e.on (λ q=>d_ (Nat.lor m (Nat.lor (Nat.pow 2 e.on) q.a)) ih) false) (Nat.blt e.on i)) (Region.binds .any e)) l m=true->
  ∃m',k m'=true/\(∀x,m'.testBit x=true->ch ak i x)/\(∀x,m.testBit x=true->m'.testBit x=true)/\∀e∈l,Region.binds .any e=true->m'.testBit e.on=true
 |[],m,_,B,h=>⟨m,h,B,λ _ Z=>Z,ζ⟩
 |e::l,m,hl,B,h=>by
  have h':aB (List.rec (motive:=λ _=>Nat->Bool) k (λ e _ ih m=>aB (ih m) (aB false (cB t e.on (λ q=>d_ (Nat.lor m (Nat.lor (Nat.pow 2 e.on) q.a)) ih) false) (Nat.blt e.on i)) (Region.binds .any e)) l m) (aB false (cB t e.on (λ q=>d_ (Nat.lor m (Nat.lor (Nat.pow 2 e.on) q.a)) (List.rec (motive:=λ _=>Nat->Bool) k (λ e _ ih m=>aB (ih m) (aB false (cB t e.on (λ q=>d_ (Nat.lor m (Nat.lor (Nat.pow 2 e.on) q.a)) ih) false) (Nat.blt e.on i)) (Region.binds .any e)) l)) false) (Nat.blt e.on i)) (Region.binds .any e)=true:=h
  cases hb:Region.binds .any e with
  |false=>
   rw[hb]at h'
   have⟨m',O,U,F,h4⟩:=Y0 ho ht l m (λ x Z=>hl x (by simp[Z])) B h'
   refine⟨m',O,U,F,λ x Z L7=>?_⟩
   rcases cZ.1 Z with rfl|Z
   .rw[hb]at L7;cases L7
   .exact h4 x Z L7
  |true=>
   rw[hb,xI]at h'
   have⟨_,h'⟩:=jc h'
   have⟨q,hq,h'⟩:=IL h'
   have⟨qd,ql,qa,qc⟩:=q
   dsimp only at h'
   rw[mr]at h'
   have hea:e∈o.after:=hl e ζ
   have⟨m',O,U,F,h4⟩:=Y0 ho ht l _ (λ x Z=>hl x (by simp[Z])) (λ x Z=>by
    rw[lor_eq,lor_eq,zg,zg,xt,xt]at Z;rcases Z with Z|Z|Z
    .exact B x Z
    .rw[pow_eq,Zk,xz]at Z;exact .bV ho hea hb Z
    .exact .step ho hea hb rfl (ht _ _ hq x Z)) h'
   refine⟨m',O,U,λ x Z=>F x (by rw[lor_eq,zg,Z,Ot]),λ x Z L7=>?_⟩
   rcases cZ.1 Z with rfl|Z
   .refine F _ ?_
    rw[lor_eq,lor_eq,zg,zg,pow_eq,Ie];simp
   .exact h4 x Z L7
structure HD(ak:Array Oper)(i:Nat)(o:Oper)(q:OI):Prop where
 d:q.d=Ix o
 l:q.l=Nat.lor (By o.op.operands.toList) (LC ak.toList o)
 c:q.c=Is o.op
 a:∀m,q.a.testBit m=true->ch ak i m
 e:∀e∈o.after,Region.binds .any e=true->q.a.testBit e.on=true
theorem aiD{ak:Array Oper}{k:Tr OI->Bool}:∀(l:List Oper) (i:Nat) (t:Tr OI),(∀j,l[j]?=ak[i+j]?)->(∀j q,t.get j=some q->∃o,ak[j]?=some o/\HD ak j o q)->(∀j o,j<i->ak[j]?=some o->∃q,t.get j=some q)->aa5 ak.toList l k i t=true->∃t',k t'=true/\(∀j q,t'.get j=some q->∃o,ak[j]?=some o/\HD ak j o q)/\∀j o,ak[j]?=some o->∃q,t'.get j=some q
 |[],i,t,hl,ht,A,h=>⟨t,h,ht,λ j o ho=>A j o (by
    rcases kb j i with g|g
    .exact g
    .have:=hl (j-i)
     rw[show i+(j-i)=j from ω,ho]at this;simp at this) ho⟩
 |o::l,i,t,hl,ht,A,h=>by
  have ho:ak[i]?=some o:=by have:=hl 0;simpa using this.symm
  have h':afB i t o.after.toList (λ a=>d_ (Nat.lor (By o.op.operands.toList) (LC ak.toList o)) λ lm=>d_ (Ix o) λ d=>d_ (Is o.op) λ c=>j_ 64 t i (some ⟨d,lm,a,c⟩) (λ t'=>d_ (Nat.succ i) λ i'=>aa5 ak.toList l k i' t') false)=true:=h
  obtain⟨a,O,U,_,h4⟩:=Y0 ho (λ j q hq m B=>by obtain⟨o',_,mN⟩:=ht j q hq;exact mN.a m B) _ 0 (λ e he=>by simpa using he) (λ x Z=>by simp at Z) h'
  rw[mr,mr,mr]at O
  obtain⟨t',rS,O⟩:=aEr O
  rw[mr]at O
  refine aiD l (i+1) t' (λ j=>?_) (λ j q hq=>?_) (λ j o' hj eB=>?_) O
  .have:=hl (j+1)
   rw[show i+1+j=i+(j+1)from ω,<-this];simp
  .rw[rS]at hq
   split at hq
   .rename_i e;subst e;cases hq;exact⟨o,ho,rfl,rfl,rfl,U,λ e he hb=>h4 e (by simpa using he) hb⟩
   .exact ht j q hq
  .rw[rS]
   split
   .exact⟨_,rfl⟩
   .exact A j o' ω eB
def TK{t:Tmp}(h:o.dst=some t):Ix o=2^t:=by unfold Ix;rw[h];rfl
def abz{t:Nat}(h:Nat.beq (Nat.land sh b) 0=true)(O:sh.testBit t=true)(U:b.testBit t=true):False:=by
 have h':=su.mp h;rw[land_eq]at h';have:(sh&&&b).testBit t=true:=by rw[YV,O,U];rfl
 rw[h']at this;simp at this
def akS(h:Nat.beq (Nat.lor sh b) b=true)(A:sh.testBit i=true):b.testBit i=true:=by have h':=su.mp h;rw[<-h',lor_eq,zg,A,Ot]
def aFl(h:Nat.beq (Nat.lor sh b) sh=true)(A:b.testBit i=true):sh.testBit i=true:=by have h':=su.mp h;rw[<-h',lor_eq,zg,A,Kv]
theorem abr:∀(l:AT) (m x:Nat),(G0 l m).testBit x=true↔(x∈l\/m.testBit x=true)
 |[],m,x=>by simp[G0]
 |i::l,m,x=>by
  have e:G0 (i::l) m=Nat.lor (Nat.pow 2 i) (G0 l m):=rfl
  rw[e,lor_eq,zg,xt,abr l m x,pow_eq,Zk,xz,cZ,Tk]
  constructor<;>(intro h;rcases h with h|h<;>first|exact .inl h.symm|exact .inr h)
def Rs:(Nat.lor m (Nat.pow 2 i)).testBit b=true↔(m.testBit b=true\/i=b):=by rw[lor_eq,zg,xt,pow_eq,Zk,xz]
def aoJ{o:Op}:Is o=1↔kX o=.ro:=by unfold Is;cases kX o<;>simp
def aoK{o:Op}:Is o=3↔kX o=.wr:=by unfold Is;cases kX o<;>simp
structure MI(ak:Array Oper)(pre:List di)(done wm rm ag:Nat):Prop where
 done:∀x,done.testBit x=true↔∃q∈pre,q.i=x
 wm:∀q∈pre,q.sP=true->wm.testBit q.i=true
 rm:∀q∈pre,∀o,ak[q.i]?=some o->kX o.op=.ro->rm.testBit q.i=true
 ag:∀w re,di.wr w re∈pre->∀i∈re,ag.testBit i=true
structure PC'(ak:Array Oper)(pre:List di)(p:di):Prop where
 lt:p.i<ak.size
 fresh:∀q∈pre,q.i≠p.i
 Rv:∀o,ak[p.i]?=some o->∀e∈o.after,Region.binds .any e=true->∃q∈pre,q.i=e.on
 Hq:∀q∈pre,q.sP=true->ch ak p.i q.i
 cl:∀i,p=.op i->∀o,ak[i]?=some o->kX o.op≠.wr
 rd:∀w re,p=.wr w re->∀q∈pre,∀o,ak[q.i]?=some o->kX o.op=.ro->q.i∈re\/ch ak w q.i
theorem akQ{ak:Array Oper}{t:Tr OI}{k:Nat->Nat->Bool}(ht:∀j q,t.get j=some q->∃o,ak[j]?=some o/\HD ak j o q):∀(pl:List di) (pre:List di) (done wm rm ag:Nat),MI ak pre done wm rm ag->RX t pl k done wm rm ag=true->∃vh DL wY Av,k vh Av=true/\MI ak (pre++pl) vh DL wY Av/\∀j p,pl[j]?=some p->PC' ak (pre++pl.take j) p
 |[],pre,done,wm,rm,ag,hM,h=>⟨done,wm,rm,ag,h,by simpa using hM,λ j p hp=>by simp at hp⟩
 |p::pl,pre,done,wm,rm,ag,hM,h=>by
  have key:∃vh DL wY Av,RX t pl k vh DL wY Av=true/\MI ak (pre++[p]) vh DL wY Av/\PC' ak pre p:=by
   have common:∀{i:Nat} {q:OI},p.i=i->t.get i=some q->Nat.testBit done i=false->Nat.beq (Nat.lor done q.a) done=true->Nat.beq (Nat.lor wm q.a) q.a=true->(∃o,ak[i]?=some o/\HD ak i o q)/\p.i<ak.size/\(∀q∈pre,q.i≠p.i)/\(∀o,ak[p.i]?=some o->∀e∈o.after,Region.binds .any e=true->∃q∈pre,q.i=e.on)/\(∀q∈pre,q.sP=true->ch ak p.i q.i):=by
    intro i q iK hq O U F
    have⟨o,ho,fk⟩:=ht i q hq
    refine⟨⟨o,ho,fk⟩,by rw[iK];exact(tI.1 ho).1,λ r hr e=>?_,λ o' eB e he hb=>?_,λ r hr hw=>?_⟩
    .have:=(hM.done i).2 ⟨r,hr,e.trans iK⟩
     rw[O]at this;cases this
    .rw[iK,ho]at eB;cases eB
     exact(hM.done e.on).1 (aFl U (fk.e e he hb))
    .rw[iK]
     exact fk.a _ (akS F (hM.wm r hr hw))
   have hrm:∀{i:Nat} {q:OI} {o:Oper},p.i=i->ak[i]?=some o->HD ak i o q->∀r∈pre++[p],∀o,ak[r.i]?=some o->kX o.op=.ro->(aB rm (Nat.lor rm (Nat.pow 2 i)) (Nat.beq q.c 1)).testBit r.i=true:=by
    intro i q o iK ho fk r hr o' eB hc;rcases b_.1 hr with hr|hr
    .have:=hM.rm r hr o' eB hc;cases Nat.beq q.c 1 with|false=>exact this|true=>exact Rs.2 (.inl this)
    .rw[jo]at hr;subst hr;rw[iK,ho]at eB;cases eB;have:Nat.beq q.c 1=true:=by rw[su,fk.c];exact aoJ.2 hc
     rw[this,xI];exact Rs.2 (.inr iK.symm)
   have GB:∀{i:Nat},p.i=i->∀x,(Nat.lor done (Nat.pow 2 i)).testBit x=true↔∃q∈pre++[p],q.i=x:=by
    intro i iK x;rw[Rs,hM.done x];constructor
    .rintro(⟨q,O,U⟩|h)
     .exact⟨q,by simp[O],U⟩
     .exact⟨p,ζ,iK.trans h⟩
    .rintro⟨q,O,U⟩;rcases b_.1 O with O|O
     .exact .inl ⟨q,O,U⟩
     .rw[jo]at O;subst O;exact .inr (iK.symm.trans U)
   cases hp:p with
   |op i=>
    rw[hp]at h
    have h':cB t i (λ q=>aB (aB false (aB false (aB (d_ (Nat.lor done (Nat.pow 2 i)) λ vh=>d_ (aB rm (Nat.lor rm (Nat.pow 2 i)) (Nat.beq q.c 1)) λ wY=>RX t pl k vh wm wY ag) false (Nat.beq q.c 3)) (Nat.beq (Nat.lor wm q.a) q.a)) (Nat.beq (Nat.lor done q.a) done)) false (Nat.testBit done i)) false=true:=h
    have⟨q,hq,h'⟩:=IL h'
    have⟨qd,ql,qa,qc⟩:=q
    dsimp only at h'
    have⟨g1,h'⟩:=O4 h'
    have⟨g2,h'⟩:=jc h'
    have⟨g3,h'⟩:=jc h'
    have⟨g4,h'⟩:=O4 h'
    rw[mr,mr]at h'
    have iK:p.i=i:=by rw[hp];rfl
    have⟨⟨o,ho,fk⟩,c1,c2,c3,c4⟩:=common iK hq g1 g2 g3
    rw[<-hp]
    refine⟨_,_,_,_,h',⟨GB iK,λ r hr hw=>?_,hrm iK ho fk,λ w re hr j hj=>?_⟩,⟨c1,c2,c3,c4,λ i' dJ o' eB hc=>?_,λ w re e=>?_⟩⟩
    .rcases b_.1 hr with hr|hr
     .exact hM.wm r hr hw
     .rw[jo]at hr;subst hr;rw[hp]at hw;cases hw
    .rcases b_.1 hr with hr|hr
     .exact hM.ag w re hr j hj
     .rw[jo,hp]at hr;cases hr
    .rw[hp]at dJ;cases dJ
     rw[ho]at eB;cases eB;have:Nat.beq qc 3=true:=by rw[su];exact fk.c.trans (aoK.2 hc)
     rw[g4]at this;cases this
    .rw[hp]at e;cases e
   |wr i re=>
    rw[hp]at h
    have h':cB t i (λ q=>aB (aB false (aB false (d_ (G0 re q.a) λ am=>aB false (d_ (Nat.lor done (Nat.pow 2 i)) λ vh=>d_ (Nat.lor wm (Nat.pow 2 i)) λ DL=>d_ (aB rm (Nat.lor rm (Nat.pow 2 i)) (Nat.beq q.c 1)) λ wY=>d_ (G0 re ag) λ Av=>RX t pl k vh DL wY Av) (Nat.beq (Nat.lor rm am) am)) (Nat.beq (Nat.lor wm q.a) q.a)) (Nat.beq (Nat.lor done q.a) done)) false (Nat.testBit done i)) false=true:=h
    have⟨q,hq,h'⟩:=IL h'
    have⟨qd,ql,qa,qc⟩:=q
    dsimp only at h'
    have⟨g1,h'⟩:=O4 h'
    have⟨g2,h'⟩:=jc h'
    have⟨g3,h'⟩:=jc h'
    rw[mr]at h'
    have⟨g4,h'⟩:=jc h'
    rw[mr,mr,mr,mr]at h'
    have iK:p.i=i:=by rw[hp];rfl
    have⟨⟨o,ho,fk⟩,c1,c2,c3,c4⟩:=common iK hq g1 g2 g3
    rw[<-hp]
    refine⟨_,_,_,_,h',⟨GB iK,λ r hr hw=>?_,hrm iK ho fk,λ w re' hr j hj=>?_⟩,⟨c1,c2,c3,c4,λ i' dJ=>?_,λ w re' e r hr o' eB hc=>?_⟩⟩
    .rcases b_.1 hr with hr|hr
     .exact Rs.2 (.inl (hM.wm r hr hw))
     .rw[jo]at hr;subst hr;exact Rs.2 (.inr iK.symm)
    .rw[abr]
     rcases b_.1 hr with hr|hr
     .exact .inr (hM.ag w re' hr j hj)
     .rw[jo,hp]at hr;cases hr;exact .inl hj
    .rw[hp]at dJ;cases dJ
    .rw[hp]at e;cases e
     have:=akS g4 (hM.rm r hr o' eB hc);rw[abr]at this;rcases this with this|this
     .exact .inl this
     .exact .inr (fk.a _ this)
  have⟨vh,DL,wY,Av,O,U,F⟩:=key
  have⟨d2,w2,r2,a2,g1,g2,g3⟩:=akQ ht pl (pre++[p]) vh DL wY Av U O
  refine⟨d2,w2,r2,a2,g1,by simpa using g2,λ j p' zM=>?_⟩
  cases j with|zero=>simp at zM;subst zM;simpa using F|succ j=>have:=g3 j p' (by simpa using zM);simpa using this
theorem ai3{α:Type}:∀l:List α,ai2 l=l.length
 |[]=>rfl|_::l=>iQ Nat.succ (ai3 l)
def aCc(h:WU ak pl=true):rE ak pl:=by
 unfold WU at h;have⟨awf,h⟩:=jc h;rw[mr,ai3,rH]at h;have⟨t,h,ht,dV⟩:=aiD ak.toList 0 .e (λ j=>ζ) (λ j q hq=>by rw[Tr.Gk]at hq;cases hq) (λ j o hj=>ω) h;have⟨avV,h⟩:=jc h;have⟨done,wm,rm,ag,h,hM,hpc⟩:=akQ ht pl [] 0 0 0 0 ⟨ζ,ζ,ζ,ζ⟩ h;have⟨GB,qO⟩:=jc h;rw[S4]at hM;have aib:∀(i m:Nat) (o o':Oper),ak[i]?=some o->ak[m]?=some o'->∃q r,HD ak i o q/\HD ak m o' r/\(i=m\/(Nat.beq (Nat.land q.d r.d) 0=true/\(Nat.beq (Nat.land r.d q.l) 0=true\/q.a.testBit m=true\/r.a.testBit i=true))):=by
  intro i m o o' ho eB;have A:=(tI.1 ho).1;have B:=(tI.1 eB).1;have hp:=KR (KR avV i A) m B;unfold ajJ at hp;have⟨q,hq,hp⟩:=IL hp;have⟨r,hr,hp⟩:=IL hp;have⟨o1,sL,aaK⟩:=ht i q hq;have⟨o2,mV,Mq⟩:=ht m r hr;rw[ho]at sL;cases sL;rw[eB]at mV;cases mV;have⟨qd,ql,qa,qc⟩:=q;have⟨rd,rl,ra,rc⟩:=r;refine⟨_,_,aaK,Mq,?_⟩;rcases WQ hp with hp|hp
  .exact .inl (su.mp hp)
  .have⟨p1,p2⟩:=jc hp;refine .inr ⟨p1,?_⟩;rcases WQ p2 with p2|p2
   .exact .inl p2
   .exact .inr (WQ p2)
 refine⟨λ j p hp=>?_,λ i A=>?_,λ i i' o o' d ho eB hd xY=>?_,λ i m o o' d ho eB hd hl=>?_,awf⟩
 .have hc:=hpc j p hp;rw[S4]at hc;refine⟨hc.lt,hc.fresh,hc.Rv,hc.Hq,hc.cl,hc.rd,λ w re e i A o m o' d ho eB hd hl=>?_⟩;have az:=(tI.1 ho).1;have aho:=KR qO i az;have auo:=hM.ag w re (by rw[<-e];exact oS hp) i A;simp only[auo]at aho;have L2:adK t ak.size i=true:=aho;unfold adK at L2;have⟨q,hq,L2⟩:=IL L2;have⟨o1,sL,fk⟩:=ht i q hq;rw[ho]at sL;cases sL;have⟨qd,ql,qa,qc⟩:=q;have F:=KR L2 m (tI.1 eB).1;have⟨r,hr,F⟩:=IL F;have⟨o2,mV,Mq⟩:=ht m r hr;rw[eB]at mV;cases mV;have⟨rd,rl,ra,rc⟩:=r;rcases WQ F with F|F
  .exfalso;have e1:rd=2^d:=Mq.d.trans (TK hd);have e2:ql=Nat.lor (By o.op.operands.toList) (LC ak.toList o):=fk.l;exact abz F (by rw[e1];exact Ie d) (by rw[e2];exact aja hl)
  .exact fk.a m F
 .have⟨q,O,U⟩:=(hM.done i).1 (KR GB i A);have⟨j,hj⟩:=sq O;exact⟨j,q,hj,U⟩
 .have⟨q,r,O,U,F⟩:=aib i i' o o' ho eB;rcases F with F|⟨F,_⟩
  .exact F
  .exfalso;exact abz (t:=d) F (by rw[O.d,TK hd];exact Ie d) (by rw[U.d,TK xY];exact Ie d)
 .have⟨q,r,O,U,F⟩:=aib i m o o' ho eB;rcases F with F|⟨_,F|F|F⟩
  .exact .inl F.symm
  .exfalso;exact abz (t:=d) F (by rw[U.d,TK hd];exact Ie d) (by rw[O.l];exact aja hl)
  .exact .inr (.inl (O.a m F))
  .exact .inr (.inr (U.a i F))
variable{Q:List (Nat×Nat)}{γ:Type}
section
variable{β:Type}
theorem akb{α γ:Type}{f:α->(Option γ->R β)->R β}{FS:α->γ->Prop}(hf:∀a k q,f a k=.ok q->∃o,k o=.ok q/\∀v,o=some v->FS a v){k:Tr γ->R β}{q:β}{all:List α}:
 ∀(l:List α) (i:Nat) (t:Tr γ),(∀j,l[j]?=all[i+j]?)->(∀j v,t.get j=some v->∃a,all[j]?=some a/\FS a v)->
  jQ (γ:=Nat) (β:=Tr γ->R β) (λ _ t=>k t) (λ a _ ih i t=>f a λ v=>j_ 64 t i v (λ t'=>d_ (Nat.succ i) λ i'=>ih i' t') (.er [200])) l i t=.ok q->
  ∃t',k t'=.ok q/\∀j v,t'.get j=some v->∃a,all[j]?=some a/\FS a v
 |[],i,t,_,ht,h=>⟨t,h,ht⟩
 |a::l,i,t,hl,ht,h=>by
  rw[qA]at h
  obtain⟨o,O,U⟩:=hf _ _ _ h
  have⟨t',rS,O⟩:=JU O
  rw[mr]at O
  refine akb hf l (i+1) t' (λ j=>?_) (λ j v hv=>?_) O
  .have:=hl (j+1)
   rw[show i+1+j=i+(j+1)from ω,<-this];simp
  .rw[rS]at hv
   split at hv
   .rename_i e;subst e;exact⟨a,by have:=hl 0;simpa using this.symm,U v hv⟩
   .exact ht j v hv
def akc{f:α->(Option γ->R β)->R β}{FS:α->γ->Prop}(hf:∀a k q,f a k=.ok q->∃o,k o=.ok q/\∀v,o=some v->FS a v){l:List α}{k:Tr γ->R β}{q:β}(h:adL f l k=.ok q):∃t,k t=.ok q/\∀j v,t.get j=some v->∃a,l[j]?=some a/\FS a v:=akb hf l 0 .e (λ j=>ζ) (λ j v hv=>by rw[Tr.Gk]at hv;cases hv) h
theorem ajK{α γ:Type}{f:α->(γ->R β)->R β}{FS:α->γ->Prop}(hf:∀a k q,f a k=.ok q->∃v,k v=.ok q/\FS a v){k:Tr γ->R β}{q:β}{all:List (Nat×α)}:
 ∀(l:List (Nat×α)) (t:Tr γ),(∀p∈l,p∈all)->(∀j v,t.get j=some v->∃a,(j,a)∈all/\FS a v)->
  jQ (γ:=Tr γ) (β:=R β) k (λ p _ ih t=>match p with|(i,a)=>f a λ v=>j_ 64 t i (some v) ih (.er [201])) l t=.ok q->
  ∃t',k t'=.ok q/\∀j v,t'.get j=some v->∃a,(j,a)∈all/\FS a v
 |[],t,_,ht,h=>⟨t,h,ht⟩
 |(i,a)::l,t,hl,ht,h=>by
  rw[qA]at h
  obtain⟨v,O,U⟩:=hf _ _ _ h
  have⟨t',rS,O⟩:=JU O
  refine ajK hf l t' (λ p hp=>hl p (by simp[hp])) (λ j u hu=>?_) O
  rw[rS]at hu
  split at hu
  .rename_i e
   subst e;cases hu;exact⟨a,hl _ ζ,U⟩
  .exact ht j u hu
def Rt{f:α->(γ->R β)->R β}{FS:α->γ->Prop}(hf:∀a k q,f a k=.ok q->∃v,k v=.ok q/\FS a v){l:List (Nat×α)}{k:Tr γ->R β}{q:β}(h:Ny f l k=.ok q):∃t,k t=.ok q/\∀j v,t.get j=some v->∃a,(j,a)∈l/\FS a v:=ajK hf l .e (λ p hp=>hp) (λ j v hv=>by rw[Tr.Gk]at hv;cases hv) h
structure TF(n:Nat)(ts:List TypeInfo)(x:TypeInfo)(i:TI):Prop where
 desc:i.desc=x.desc/\(∀s u,x.desc≠.named s u)\/∃s u y,x.desc=.named s u/\ts[u]?=some y/\i.desc=y.desc
 size:i.size=x.size
 bytes:i.bytes=x.bytes
 zero:∃zv,x.zero=some zv/\i.zero=zv.cells.toList.map J.lit/\((k9 i.desc=true/\∃M,zv=.agg M)\/(k9 i.desc=false/\zv.oneCell'=true))
 len:i.zero.length=i.size
 cell:fX i.zero=true
 br:∀fs,i.desc=.struct fs->∀f∈fs.toList,f.type<n
def apf{ts:List TypeInfo}{d:TypeDesc}{k:TypeDesc->R β}{q:β}(h:ZH ts d k=.ok q):∃d',k d'=.ok q/\((d'=d/\∀s u,d≠.named s u)\/∃s u y,d=.named s u/\ts[u]?=some y/\d'=y.desc):=by
 unfold ZH at h;split at h
 .rename_i s u;obtain⟨y,O,U⟩:=Dr h;exact⟨_,U,.inr ⟨s,u,y,rfl,O,rfl⟩⟩
 .rename_i hn;exact⟨d,h,.inl ⟨rfl,λ s u e=>hn s u e⟩⟩
def agT{d:TypeDesc}(h:agS n d=true):∀fs,d=.struct fs->∀f∈fs.toList,f.type<n:=by
 rintro fs rfl;have h':jQ (γ:=Unit) (β:=Bool) (λ _=>true) (λ (f:Field) _ ih u=>aB false (ih u) (Nat.blt f.type n)) fs.toList ()=true:=h;clear h;generalize fs.toList=l at h';induction l with
 |nil=>intro f hf;cases hf
 |cons g l ih=>
  intro f hf
  rw[qA]at h'
  have⟨O,U⟩:=jc h'
  rcases cZ.1 hf with rfl|hf
  .rw[tK]at O;exact O
  .exact ih U f hf
def Il{x y:R β}{b:Bool}{q:β}(h:aB x y b=.ok q):(b=false/\x=.ok q)\/(b=true/\y=.ok q):=by cases b with|false=>exact .inl ⟨rfl,h⟩|true=>exact .inr ⟨rfl,h⟩
def ax6{k:AU->R β}{q:β}(h:iA (λ v k=>k (J.lit v)) vs k=.ok q):k (vs.map J.lit)=.ok q:=by
 have⟨l',O,U⟩:=Bh (S:=λ v a=>a=J.lit v) (λ a k q h=>⟨_,rfl,h⟩) h;have:l'=vs.map J.lit:=by clear h U;induction O with|nil=>rfl|cons e _ ih=>rw[e,ih];rfl
 rw[<-this];exact U
def aFx{ts:List TypeInfo}(x:TypeInfo)(k:Option TI->R β)(q:β)(h:aeb n ts x k=.ok q):∃o,k o=.ok q/\∀i,o=some i->TF n ts x i:=by
 unfold aeb at h;have⟨d,h,hd⟩:=apf h;have xY:∀i:TI,i.desc=d->(i.desc=x.desc/\(∀s u,x.desc≠.named s u)\/∃s u y,x.desc=.named s u/\ts[u]?=some y/\i.desc=y.desc):=by intro i e;rw[e];exact hd
 split at h
 .exact⟨none,h,λ i e=>by cases e⟩
 .rename_i z hz;rcases Il h with⟨_,h⟩|⟨kH,h⟩
  .exact⟨none,h,λ i e=>by cases e⟩
  .split at h
   .rename_i M;replace h:=ax6 h;rw[ux]at h;rcases Il h with⟨_,h⟩|⟨qO,h⟩
    .exact⟨none,h,λ i e=>by cases e⟩
    .rcases Il h with⟨_,h⟩|⟨hl,h⟩
     .exact⟨none,h,λ i e=>by cases e⟩
     .rcases Il h with⟨_,h⟩|⟨hc,h⟩
      .exact⟨none,h,λ i e=>by cases e⟩
      .refine⟨_,h,λ i e=>?_⟩;cases e;exact⟨xY _ rfl,rfl,rfl,⟨_,hz,rfl,.inl ⟨qO,_,rfl⟩⟩,by simpa using hl,hc,agT kH⟩
   .rename_i mU;rcases Il h with⟨qO,h⟩|⟨_,h⟩
    .rcases Il h with⟨_,h⟩|⟨hl,h⟩
     .exact⟨none,h,λ i e=>by cases e⟩
     .rcases Il h with⟨_,h⟩|⟨hc,h⟩
      .exact⟨none,h,λ i e=>by cases e⟩
      .refine⟨_,h,λ i e=>?_⟩;cases e;have yf:z.oneCell'=true:=QX (ρ:=λ _=>none) (.lit z) hc;have lR:x.size=1:=by simpa using hl
       exact⟨xY _ rfl,rfl,rfl,⟨_,hz,by rw[Zw yf];rfl,.inr ⟨qO,yf⟩⟩,by rw[lR];rfl,by show aB false _ _=true;rw[hc];rfl,agT kH⟩
    .exact⟨none,h,λ i e=>by cases e⟩
end
section
variable{P:e8}
def aa6{x:TypeInfo}(h:P.types.toList[t]?=some x):P.info? t=some x:=by
 have h':P.types[t]?=some x:=by simpa using h
 have bm:t<P.types.size:=(tI.1 h').1;show(if t<P.types.size then P.types[t]? else _)=some x;rw[aq bm];exact h'
def aFw{x:TypeInfo}{i:TI}(Z:P.types.toList[t]?=some x)(h:TF P.types.toList.length P.types.toList x i):pE P t i:=by
 have A:=aa6 Z;refine⟨?_,⟨x,?_⟩,h.len,h.cell,λ fs e f hf=>?_⟩
 .unfold Program.underlying;rw[A];rcases h.desc with⟨e,hn⟩|⟨s,u,y,e1,e2,e3⟩
  .rw[e];cases x with
   |mk d=>
    cases d<;>first|rfl|exact absurd rfl (hn _ _)
  .have G:=aa6 e2;cases x;simp only at e1;subst e1;simp only[G,xy,e3]
 .have⟨zv,O,U,F⟩:=h.zero;exact⟨zv,A,h.size.symm,h.bytes.symm,O,U,F⟩
 .have:=h.br fs e f hf;exact⟨P.types.toList[f.type],aa6 (bf this)⟩
def Ze(l:List (Nat×List di))(id:Nat)(ak:Array Oper):Bool:=List.rec (motive:=λ _=>Bool) true (λ p _ ih=>match p with|(i,pl)=>aB false ih (aB true (WU ak pl) (Nat.beq i id))) l
def tR(l:List (Nat×List di))(c:Code):Bool:=Code.rec (motive:=λ _=>Bool) true (λ id ak d=>aB true (Ze l id ak) d) (λ _ _ a b=>aB false b a) (λ _ _ _ a b=>aB false b a) (λ _ _ a=>a) (λ _ a=>a) (λ _ _ _ _ a b=>aB false b a) (λ _=>true) (λ _ _=>true) (λ _=>true) (λ _=>true) true (λ _=>true) c
def abC(l:List Func)(n:Nat):Option Func:=List.rec (motive:=λ _=>Nat->Option Func) (λ _=>none) (λ a _ ih n=>Nat.rec (motive:=λ _=>Option Func) (some a) (λ m _=>ih m) n) l n
def WW(P:e8)(pl:BF):Bool:=List.rec (motive:=λ _=>Bool) true (λ p _ ih=>match p with|(f,l)=>aB false ih (match abC P.funcs.toList f with|some fn=>(match fn.body with|some c=>tR l c|none=>true)|none=>true)) pl
theorem ajz:∀(l:List Func) (n:Nat),abC l n=l[n]?
 |[],_=>rfl|a::l,0=>rfl|a::l,n+1=>(ajz l n).trans ζ
theorem afH{id:Nat}{ak:Array Oper}:∀{l:List (Nat×List di)},Ze l id ak=true->∀pl,(id,pl)∈l->rE ak pl
 |[],_,_,h=>by cases h
 |(i,pl')::l,h,pl,B=>by
  have h':aB false (Ze l id ak) (aB true (WU ak pl') (Nat.beq i id))=true:=h
  have⟨O,U⟩:=jc h'
  rcases cZ.1 B with e|B
  .cases e
   have:Nat.beq id id=true:=su.mpr rfl;rw[this]at O;exact aCc O
  .exact afH U pl B
theorem BU{E:aK}{f:fD}{l:List (Nat×List di)}(hE:∀tb id pl,E.pl.get f=some tb->tb.get id=some pl->(id,pl)∈l):∀c:Code,tR l c=true->qG E f c
 |.skip,_=>trivial|.region id ak false,_=>trivial|.region id ak true,h=>λ tb pl O U=>afH (l:=l) h pl (hE tb id pl O U)
 |.seq a b,h=>by have⟨O,U⟩:=jc (y:=tR l a) (x:=tR l b) h;exact⟨BU hE a O,BU hE b U⟩
 |.cond _ a b,h=>by have⟨O,U⟩:=jc (y:=tR l a) (x:=tR l b) h;exact⟨BU hE a O,BU hE b U⟩
 |.block _ a,h=>BU hE a h|.loop a,h=>BU hE a h|.rangeFunc _ _ a b,h=>by have⟨O,U⟩:=jc (y:=tR l a) (x:=tR l b) h;exact⟨BU hE a O,BU hE b U⟩
 |.exit _,_=>trivial|.ret,_=>trivial|.scope _,_=>trivial|.label _,_=>trivial|.goto _,_=>trivial|.refuse _,_=>trivial
theorem ajP:∀{pl:BF},WW P pl=true->∀f l fn c,(f,l)∈pl->P.funcs[f]?=some fn->fn.body=some c->tR l c=true
 |[],_,_,_,_,_,h,_,_=>by cases h
 |(f',l')::pl,h,f,l,fn,c,B,hf,hb=>by
  have h':aB false (WW P pl) (match abC P.funcs.toList f' with|some fn=>(match fn.body with|some c=>tR l' c|none=>true)|none=>true)=true:=h
  have⟨O,U⟩:=jc h'
  rcases cZ.1 B with e|B
  .cases e
   rw[ajz,pG,hf]at O;dsimp only at O;rw[hb]at O;exact O
  .exact ajP U f l fn c B hf hb
def azV(h:E.pl.get f=none)(c:Code):qG E f c:=BU (l:=[]) (λ tb id pl O=>by rw[h]at O;cases O) c (by induction c with|skip=>rfl|region id ak d=>cases d<;>rfl|seq a b vH vI=>show aB false (tR [] b) (tR [] a)=true;rw[vH,vI];rfl|cond x a b vH vI=>show aB false (tR [] b) (tR [] a)=true;rw[vH,vI];rfl|block id a ih=>exact ih|loop a ih=>exact ih|rangeFunc g ps a b vH vI=>show aB false (tR [] b) (tR [] a)=true;rw[vH,vI];rfl|exit id=>rfl|scope a ih=>rfl|label l=>rfl|goto l=>rfl|ret=>rfl|refuse w=>rfl)
structure N_(P:Program)(pl:BF)(ky:List (Nat×KS)):Prop where
 wU:WW P pl=true
 nm:∀(f:fD) (fn:Func),P.funcs[f]?=some fn->fn.body.isSome=true->(fn.name== "runtime.NumGoroutine")=false
 ky:∀t ks,(t,ks)∈ky->Ob P t ks
 mixed:P.follows .mixedOrders=true
def ZP{pl:BF}{k:aK->R β}(dW:N_ P pl ky)(h:Iz P pl ky Q k=.ok q):∃E,k E=.ok q/\eW P E/\(∀f n,E.Q.get f=some n->(f,n)∈Q)/\(∀g id,E.gl.get g=some id->g=0/\id=0):=by
 unfold Iz at h
 rw[ux]at h
 have⟨tt,h,htt⟩:=akc (λ x k q h=>aFx x k q h) h
 replace h:=akc (FS:=λ a v=>v=a) (λ a k q h=>⟨_,h,λ v e=>(FX e).symm⟩) h;have⟨ft,h,I_⟩:=h
 unfold ajQ at h
 replace h:=Rt (FS:=λ (a:List (Nat×List di)) (v:Tr (List di))=>∀id p,v.get id=some p->(id,p)∈a) (λ a k q h=>by have⟨t,O,U⟩:=Rt (FS:=λ (a v:List di)=>v=a) (λ a k q h=>⟨_,h,rfl⟩) h;exact⟨t,O,λ id p hp=>by have⟨a',F,h4⟩:=U id p hp;rw[h4];exact F⟩) h
 have⟨pt,h,hpt⟩:=h
 replace h:=Rt (FS:=λ (a v:KS)=>v=a) (λ a k q h=>⟨_,h,rfl⟩) h;have⟨kt,h,Ez⟩:=h
 replace h:=Rt (FS:=λ (a v:Nat)=>v=a) (λ a k q h=>⟨_,h,rfl⟩) h;have⟨ht,h,hht⟩:=h
 replace h:=Rt (FS:=λ (a v:Nat)=>v=a) (λ a k q h=>⟨_,h,rfl⟩) h;have⟨gt,h,x_⟩:=h
 refine⟨_,h,⟨λ t i A=>?_,λ f fn hf=>?_,dW.nm,λ t ks iI=>?_,dW.mixed,λ f fn c hf hb=>?_⟩,λ f n hn=>?_,λ g id hg=>?_⟩
 .have⟨x,O,U⟩:=htt t i A
  exact aFw O U
 .have⟨a,O,U⟩:=I_ f fn hf
  rw[U];simpa using O
 .have⟨a,O,U⟩:=Ez t ks iI
  rw[U];exact dW.ky t a O
 .cases hp:pt.get f with
  |none=>exact azV hp c
  |some tb=>
   have⟨l,O,U⟩:=hpt f tb hp
   have⟨a,F,h4⟩:=I_ f fn hf
   have kf:P.funcs[f]?=some fn:=by rw[h4];simpa using F
   refine BU (λ tb' id p' h5 h6=>?_) c (ajP dW.wU f l fn c O kf hb)
   rw[hp]at h5;cases h5
   exact U id p' h6
 .have⟨a,O,U⟩:=hht f n hn
  rw[U];exact O
 .have⟨a,O,U⟩:=x_ g id hg
  simp at O;exact⟨O.1,by rw[U,O.2]⟩
def yW(w:bI)(g_:AT):Prop:=∃c e fz,w.heap[0]?=some (.cells c e fz)/\∀(i n:Nat),g_[i]?=some n->c[i]?=some (.int .u8 n)
def ahF{g_:AT}{k:D->R β}(h:Mc g_ k=.ok q):∃H,k H=.ok q/\∀(E:aK) (w:bI),(∀g id,E.gl.get g=some id->g=0/\id=0)->yW w g_->∃ρ,HR E w ρ H w:=by
 unfold Mc at h;obtain⟨l,O,h⟩:=Bh (S:=λ (n:Nat) a=>a=J.lit (.int .u8 (.ofNat n))) (λ a k q h=>⟨_,rfl,h⟩) h;replace h:=sd h;obtain⟨t,ht,h⟩:=h;rw[ux]at h;replace h:=vP h;obtain⟨H,hA,h⟩:=h;refine⟨H,h,λ E w rP ME=>?_⟩;obtain⟨c,e,fz,hb,hc⟩:=ME;have je:∀j,H.t.get j=if j=0 then some (.cells l.length t true)else none:=by intro j;rw[hA.2 j];show(if j=0 then _ else(Tr.e:Tr AO).get j)=_;rw[Tr.Gk]
 have hl:∀(i:Nat) av,l[i]?=some av->∃n:Nat,g_[i]?=some n/\av=.lit (.int .u8 n):=by
  clear h ht hA je hb hc;clear h;induction O with
  |nil=>intro i av h;simp at h
  |@cons a b la lb e _ ih=>
   intro i av h
   cases i with|zero=>simp at h;subst h;exact⟨a,rfl,e⟩|succ i=>simpa using ih i av (by simpa using h)
 have bA:l.length<=c.size:=by
  rcases kb c.size l.length with g|g
  .obtain⟨n,U,_⟩:=hl c.size l[c.size] (bf g);have:=hc c.size n U;simp at this
  .exact g
 have one:∀{i b s N},(λ i=>if i=0 then some (0,0,c.size)else none:bh) i=some (b,s,N)->i=0/\b=0/\s=0/\N=c.size:=by
  intro i b s N A;dsimp only at A;split at A
  .cases A;exact⟨by assumption,rfl,rfl,rfl⟩
  .cases A
 refine⟨λ i=>if i=0 then some (0,0,c.size)else none,⟨λ i p A=>?_,λ i b s N o A ho=>?_,λ i j b s N s' N' o o' A hj _ _ _=>?_,λ i b s N o A ho jC=>?_,λ i b s N A=>?_,λ g i hg=>?_,jG.refl _ _,λ i A=>?_⟩⟩
 .obtain⟨b,s,N⟩:=p;obtain⟨rfl,_⟩:=one A;rw[hA.1];exact Nat.zero_lt_succ _
 .obtain⟨rfl,rfl,rfl,rfl⟩:=one A;rw[je,aq rfl]at ho;cases ho;refine⟨c,e,fz,hb,rfl,ω,λ h=>(by cases h),λ j av hj eM=>?_,λ _=>rfl⟩;rw[ht,aq ω,Ax]at eM;obtain⟨n,U,rfl⟩:=hl j av eM;exact⟨_,by rw[mQ];exact hc j n U,.lit _⟩
 .rw[(one A).1,(one hj).1]
 .rw[je]at ho;split at ho
  .cases ho;cases jC
  .cases ho
 .obtain⟨_,rfl,_,_⟩:=one A;exact DZ hb
 .obtain⟨rfl,rfl⟩:=rP g i hg;exact⟨c.size,rfl⟩
 .rw[je,ao];rintro rfl;rw[hA.1]at A;exact absurd A (by show¬(0+1<=0);omega)
def abl(r:R (J×D)):Option aC:=match r with|.ok p=>(match p with|(v,_)=>match v with|.lit v=>some v|_=>none)|.er _=>none
def aoH{pl:BF}{g_:AT}{fuel:Nat}(dW:N_ P pl ky)(h:abl (runK P pl ky Q g_ fuel f l)=some v)(ha:∀ρ,cA ρ l tm.toList)(w:bI)(ht:yW w g_)(HK:∀E,eW P E->(∀f n,E.Q.get f=some n->(f,n)∈Q)->Hz P E w):Calls P f tm w λ e w'=>e=.returned v/\jG (λ _=>False) w w':=by
 have hr:∃H',runK P pl ky Q g_ fuel f l=.ok (.lit v,H'):=by
  unfold abl at h;split at h
  .rename_i p hp;obtain⟨u,H'⟩:=p;dsimp only at h;split at h
   .cases h;exact⟨H',hp⟩
   .cases h
  .cases h
 obtain⟨H',hr⟩:=hr
 unfold runK at hr
 obtain⟨E,O,hE,hh,hg⟩:=ZP dW hr
 obtain⟨H,U,eH⟩:=ahF O
 obtain⟨ρ,hρ⟩:=eH E w hg ht
 exact akg hE (HK E hE hh) U hρ (ha ρ)
end
variable{f:FuncId}{off:Nat}{w:World}
section
open Go.RowKit Go.Sort
def HR.grown(h:HR E w0 ρ H w)(os:Array Obj):HR E w0 ρ H (grow w os):=by
 have⟨l⟩:=os;have key:∀(l:List Obj) (w:World),HR E w0 ρ H w->HR E w0 ρ H (grow w ⟨l⟩):=by
  intro l;induction l with
  |nil=>intro w h;rw[show(⟨[]⟩:Array Obj)=#[]from rfl,grow_empty];exact h
  |cons o l ih=>
   intro w h
   have e:grow w ⟨o::l⟩=grow (w.alloc o) ⟨l⟩:=by rw[alloc_eq_grow,grow_grow];congr 1;apply Array.toList_inj.1;simp
   rw[e];exact ih _ (h.more o)
 exact key l w h
def ax1{f:Array Value->Array Value}{c:Array Value}{e:TypeId}(hb:w.heap[b]?=some (.cells c e fz)):(mapBlock w b f).heap[b]?=some (.cells (f c) e fz):=by unfold mapBlock;rw[aeX,aq rfl,hb];rfl
def ax2{f:Array Value->Array Value}(h:sh≠b):(mapBlock w b f).heap[sh]?=w.heap[sh]?:=by unfold mapBlock;rw[aeX,ao (qj h)]
def HR.sorted[Inhabited α]{enc:α->Value}(hr:HR E w0 ρ H w){L:AU}(d:Array α)(A:ρ ah=some (b,sh,N))(ho:H.t.get ah=some (.cells m cI false))(hd:d.size=L.length)(hn:off+L.length<=m)(hl:cA ρ L (d.toList.map enc))(ht:∀j,t1.get j=if off<=j/\j<off+L.length then L[j-off]? else cI.get j)(hT:tG H ah (some (.cells m t1 false)) H')(k:Nat)(os:Array Obj):HR E w0 ρ H' (grow (putRow enc (Sort.ahead w k) b (sh+off) d) os)/\cV ρ H ρ H':=by
 have yi:HR E w0 ρ H (Sort.ahead w k):=hr.drew rfl rfl rfl rfl
 have⟨c,e,fz,U,F,h4,h5,h6,h7⟩:=yi.obj _ _ _ _ _ A ho
 rw[h5 rfl]at U
 have key:=yi.XE (w':=putRow enc (Sort.ahead w k) b (sh+off) d) A ho rfl rfl hT ?_ ?_ ?_ rfl rfl rfl
 .exact⟨key.1.grown os,key.2⟩
 .unfold putRow
  rw[ax1 U];refine⟨_,e,(0,0),rfl,by rw[<-F];unfold putCells;simp,h4,λ _=>rfl,λ i av az eM=>?_,h7⟩;rw[ht]at eM;unfold putCells;rw[Array.getElem?_mapIdx];by_cases e1:off<=i/\i<off+L.length
  .rw[aq e1]at eM;have⟨v,hv,vF⟩:=hl.get eM;have bm:sh+i<c.size:=ω
   rw[HO bm,xy,aq ⟨ω,ω⟩];refine⟨_,rfl,?_⟩;have hj:i-off<d.size:=ω
   have e2:sh+i-(sh+off)=i-off:=ω
   rw[e2];have e3:(d.toList.map enc)[i-off]?=some (enc d[i-off]!):=by rw[y',pG,HO hj,FZ d _ hj];rfl
   have uh:(d.toList.map enc)[i-off]?=some v:=hv;rw[e3]at uh;cases uh;exact vF
  .rw[ao e1]at eM;have⟨v,hv,vF⟩:=h6 i av az eM;rw[hv,xy,ao ω];exact⟨_,rfl,vF⟩
 .unfold putRow mapBlock;simp
 .intro j hj;unfold putRow;exact ax2 hj
def akH[Inhabited α]{enc:α->Value}{sc:List α->List α}(Va:∀ns,(sc ns).length=ns.length)(Vs:∀vs (k:AU->R (J×D)) q,Ag vs k=.ok q->∃ns:List α,vs=ns.map enc/\k ((sc ns).map λ n=>J.lit (enc n))=.ok q){v:J}(AR:∀args w,(callFunc f args).run P w=.ok (.enter f args) w)(hI:(∀bF off cap (zs:List α) w,Sort.Holds enc w bF off zs.toArray->bF<w.heap.size->zs.length<4611686018427387904->Calls P f #[.slice (some ⟨bF,off,none⟩) zs.length cap] w λ e w'=>e=.returned (.tuple #[])/\∃n os,w'=Sort.grow (Sort.putRow enc (Sort.ahead w n) bF off (sc zs).toArray) os)/\∀p cap w,Calls P f #[.slice p 0 cap] w λ e w'=>e=.returned (.tuple #[])/\w'=w)(h:DE Ag x H (λ H'=>.ok (.dh [],H'))=.ok (v,H')):Sn P E w0 f [x] H v H':=by
 unfold DE pz at h
 have one:∀{ρ:bh} {dn:Array Value},cA ρ [x] dn.toList->∃a:Value,dn=#[a]/\Rl ρ x a:=by
  intro ρ dn dj;cases dn with|mk l=>
  cases dj with|cons O U=>cases U;exact⟨_,rfl,O⟩
 split at h
 .rename_i id off gM n cap ex
  replace h:=oB h;obtain⟨ob,jB,h⟩:=h;split at h
  .rename_i m M ro;replace h:=db h;obtain⟨g1,h⟩:=h;replace h:=db h;obtain⟨g2,h⟩:=h;replace h:=He h;obtain⟨l,g3,g4,h⟩:=h;have IG:gM=1:=by simpa using Ou (by simpa using g1:1=gM)
   subst IG;have PB:off+n*1<=m:=by simpa[kC,add_eq,mul_eq]using g2
   cases n with
   |zero=>
    cases h
    intro ρ w dn hr dj
    obtain⟨a,rfl,ha⟩:=one dj
    obtain⟨b,sh,N,c,hb,k1,k2,k3,k4,k5,rfl⟩:=ha.rT
    refine⟨AR _ _,(hI.2 _ c w).mono ?_⟩
    rintro e w' ⟨rfl,rfl⟩
    exact⟨_,ρ,rfl,.dh (l':=#[]) .nil,hr,cV.refl _ _⟩
   |succ n=>
    replace h:=db h;obtain⟨g5,h⟩:=h
    have g5':n+1<=1152921504606846976:=by simpa[kC]using g5
    replace h:=ai6 h;obtain⟨xs,yx,h⟩:=h
    replace h:=Vs _ _ _ h;obtain⟨ns,rR,h⟩:=h
    dsimp only at h
    replace h:=oB h;obtain⟨ob2,QB,h⟩:=h
    rw[jB]at QB;cases QB
    dsimp only at h
    cases ro with
    |true=>cases h|false=>
    replace h:=sd h;obtain⟨t',rS,h⟩:=h
    replace h:=rk h;obtain⟨H1,hT,h⟩:=h
    cases h
    intro ρ w dn hr dj
    obtain⟨a,rfl,ha⟩:=one dj
    obtain⟨b,sh,N,c,hb,k1,k2,k3,k4,k5,rfl⟩:=ha.rT
    have hlen:(sc ns).length=n+1:=by rw[Va ns,<-g3.trans (BR _),yx,rR];simp
    have pP:ns.length=n+1:=by rw[<-Va ns];exact hlen
    obtain⟨vs,q1,q2,q3⟩:=hr.read hb jB PB g3 g4
    have kL:vs=ns.map enc:=by
     rw[yx,rR]at q2;clear q1 q3;generalize vs=us at q2;have key:∀(ms:List α) (us:List Value),cA ρ ((ms.map (enc)).map J.lit) us->us=ms.map enc:=by intro ms;induction ms with|nil=>intro us h;cases h;rfl|cons m ms ih=>intro us h;cases h with|cons O U=>rw[ih _ U,O.fI];rfl
     exact key ns us q2
    obtain⟨cc,e,fz,o1,o2,o3,o4,o5,o6⟩:=hr.obj _ _ _ _ _ hb jB
    rw[o4 rfl]at o1
    have hH:Sort.Holds (enc) w b (sh+off) ns.toArray:=by
     intro j hj;have mz:j<ns.length:=by simpa using hj
     refine⟨?_,aqu o1⟩;have:=q3 j (enc ns[j]) (by rw[kL,y',bf mz];rfl);rw[FZ _ j hj];have ea:((⟨b,sh+off,none⟩:Addr).add j)=⟨b,sh+off+j,none⟩:=by unfold Addr.add;split<;>simp_all
     rw[ea]at this;simpa[]using this
    have hc:=hI.1 b (sh+off) c ns w hH (DZ o1) (by rw[pP];omega)
    rw[pP]at hc
    refine⟨AR _ _,hc.mono ?_⟩
    rintro e2 w' ⟨rfl,k,os,rfl⟩
    obtain⟨z1,z2⟩:=hr.sorted (enc:=enc) (L:=(sc ns).map λ n=>J.lit (enc n)) (sc ns).toArray hb jB ζ (by rw[bW,hlen];omega) (by
     have key:∀ms:List α,cA ρ (ms.map λ n=>J.lit (enc n)) (ms.map (enc)):=by intro ms;induction ms with|nil=>exact .nil|cons m ms ih=>exact .cons (.lit _) ih
     exact key _) rS hT k os
    exact⟨_,ρ,rfl,.dh (l':=#[]) .nil,z1,z2⟩
  .cases h
 .cases h
  intro ρ w dn hr dj;obtain⟨a,rfl,ha⟩:=one dj;rw[ha.fI];refine⟨AR _ _,(hI.2 _ _ w).mono ?_⟩;rintro e w' ⟨rfl,rfl⟩;exact⟨_,ρ,rfl,.dh (l':=#[]) .nil,hr,cV.refl _ _⟩
 .cases h
  intro ρ w dn hr dj;obtain⟨a,rfl,ha⟩:=one dj;obtain⟨a2,c,rfl⟩:=ha.EY;refine⟨AR _ _,(hI.2 _ c w).mono ?_⟩;rintro e w' ⟨rfl,rfl⟩;exact⟨_,ρ,rfl,.dh (l':=#[]) .nil,hr,cV.refl _ _⟩
 .cases h
end
variable{v:Value}{w':World}
def A8(n:Int):BW->BW
 |[]=>[n]|m::l=>if n<=m then n::m::l else m::A8 n l
def lK:BW->BW
 |[]=>[]|n::l=>A8 n (lK l)
def aoL(n m:Int):(match n,m with|.ofNat a,.ofNat b=>Nat.ble a b|.negSucc a,.negSucc b=>Nat.ble b a|.negSucc _,.ofNat _=>true|.ofNat _,.negSucc _=>false)=decide (n<=m):=by
 cases n with
 |ofNat a=>
  cases m with
  |ofNat b=>
   show Nat.ble a b=decide ((a:Int)<=(b:Int))
   rw[qH,kC,xz]
   omega
  |negSucc b=>symm;show decide (Int.ofNat a<=Int.negSucc b)=false;rw[Th];have:=ae3 b;have:=Yv a;simp only[Yx];omega
 |negSucc a=>
  cases m with
  |ofNat b=>symm;show decide (Int.negSucc a<=Int.ofNat b)=true;rw[xz];have:=ae3 a;have:=Yv b;simp only[Yx];omega
  |negSucc b=>
   show Nat.ble b a=decide (Int.negSucc a<=Int.negSucc b)
   rw[qH,kC,xz,Yw,Yw]
   omega
theorem aa7{β:Type}(n:Int):∀(l:BW) (k:BW->R β),MW n l k=k (A8 n l)
 |[],k=>rfl
 |m::l,k=>by
  have h:MW n (m::l) k=aB (MW n l λ r=>k (m::r)) (k (n::m::l)) (match n,m with|.ofNat a,.ofNat b=>Nat.ble a b|.negSucc a,.negSucc b=>Nat.ble b a|.negSucc _,.ofNat _=>true|.ofNat _,.negSucc _=>false):=rfl
  rw[h,aoL,aa7 n l]
  by_cases e:n<=m
  .rw[Ti e,show A8 n (m::l)=n::m::l from aq e];rfl
  .rw[OJ e,show A8 n (m::l)=m::A8 n l from ao e];rfl
theorem RW{β:Type}:∀{l:List Value} {k:BW->R β} {q:β},q_ l k=.ok q->∃ns:BW,l=ns.map (Value.int .i64)/\k (lK ns)=.ok q
 |[],k,q,h=>⟨[],rfl,h⟩
 |v::l,k,q,h=>by
  have h':(match v with|.int .i64 n=>q_ l λ r=>MW n r k|_=>.er [149])=.ok q:=h
  split at h'
  .rename_i n
   obtain⟨ns,O,U⟩:=RW (l:=l) h';rw[aa7]at U;exact⟨n::ns,by rw[O];rfl,U⟩
  .cases h'
theorem aa8(n:Int):∀l:BW,(A8 n l).Perm (n::l)
 |[]=>HT _
 |m::l=>by
  unfold A8
  split
  .exact HT _
  .exact((aa8 n l).cons m).trans (List.Perm.swap n m l)
theorem yB:∀l:BW,(lK l).Perm l
 |[]=>HT _|n::l=>(aa8 n _).trans ((yB l).cons n)
theorem aiE(n:Int):∀l:BW,l.Pairwise (·<= ·)->(A8 n l).Pairwise (·<= ·)
 |[],_=>by simp[A8]
 |m::l,h=>by
  unfold A8
  rw[xw]at h
  split
  .rename_i aU
   rw[xw];refine⟨λ x Z=>?_,by rw[xw];exact h⟩;rcases cZ.1 Z with rfl|Z
   .exact aU
   .exact Int.le_trans aU (h.1 x Z)
  .rename_i aU
   rw[xw];refine⟨λ x Z=>?_,aiE n l h.2⟩;rcases cZ.1 ((aa8 n l).mem_iff.1 Z)with rfl|Z
   .omega
   .exact h.1 x Z
theorem QY:∀l:BW,(lK l).Pairwise (·<= ·)
 |[]=>List.Pairwise.nil|n::l=>aiE n _ (QY l)
def ajj(h:ss.Perm ns):ss.mergeSort leI=lK ns:=by rw[mergeSort_of_perm_i (h.trans (yB ns).symm)];exact List.mergeSort_of_pairwise ((QY ns).imp λ h=>by simpa[leI]using h)
def aiK(h:yA v=true):∃n:Int,v=.int .i64 n/\(Lit.int .i64 n).wf=true:=by
 unfold yA at h;split at h
 .rename_i n;refine⟨n,rfl,?_⟩;show(decide (IntKind.i64.min<=n)&&decide (n<=IntKind.i64.max))=true;have e1:IntKind.i64.min=-9223372036854775808:=rfl;have e2:IntKind.i64.max=9223372036854775807:=rfl;rw[e1,e2,v8,xz,xz];cases n with
  |ofNat a=>have:=OD h;simp only[Yx];omega
  |negSucc a=>have:=OD h;rw[Yw];omega
 .cases h
theorem afD{b:Nat}{v:Value}:∀{l:List AE},tM b v l=true->∀e∈l,e.b≠b/\c8 e.k v=false
 |[],_,e,he=>by cases he
 |⟨x,b',u⟩::l,h,e,he=>by
  have h':aB (aB (tM b v l) false (c8 x v)) false (Nat.beq b' b)=true:=h
  have⟨O,U⟩:=O4 h'
  have⟨F,h4⟩:=O4 U
  rcases cZ.1 he with e1|he
  .subst e1
   exact⟨λ e=>by rw[<-su]at e;rw[O]at e;exact absurd e η,F⟩
  .exact afD h4 e he
theorem ajc{c:Nat}:∀{l:List AE},jE c l=true->(∀e∈l,e.b<c/\yA e.k=true)/\(l.map (·.b)).Nodup/\(l.map (·.k)).Nodup
 |[],_=>⟨ζ,ζ,ζ⟩
 |⟨x,b,u⟩::l,h=>by
  have h':aB false (aB false (aB false (jE c l) (tM b x l)) (yA x)) (Nat.blt b c)=true:=h
  have⟨O,h'⟩:=jc h'
  have⟨U,h'⟩:=jc h'
  have⟨F,h'⟩:=jc h'
  have⟨g1,g2,g3⟩:=ajc h'
  have Qg:=afD F
  refine⟨λ e he=>?_,?_,?_⟩
  .rcases cZ.1 he with e1|he
   .subst e1;exact⟨by rw[tK]at O;exact O,U⟩
   .exact g1 e he
  .rw[kB,OA]
   refine⟨λ B=>?_,g2⟩;have⟨e,he,hb⟩:=jn.1 B;exact(Qg e he).1 hb
  .rw[kB,OA]
   refine⟨λ B=>?_,g3⟩;have⟨e,he,Q⟩:=jn.1 B;have:=(Qg e he).2;have iI:e.k=x:=Q;rw[iI]at this;have⟨n,hn,_⟩:=aiK U;have hs:c8 x x=true:=by rw[hn];exact Pn (ks:=.one (.i .i64)) (show oz (.i .i64) (.int .i64 n)=true from rfl)
   rw[hs]at this;cases this
def Od(P:Program)(k:TypeId)(w:World)(m:Option Nat)(ks:BW):Prop:=(m=none/\ks=[])\/∃b n D0,m=some b/\w.ownsMap (H:=Unit) P k (λ _=>some (.nil,[])) b n D0/\(Go.intKeys D0).Perm ks/\Maps.size D0<=1000000
def axf{k:TypeId}(Q:P.underlying k=some (.int .i64)){es:Array MapEntry}{l:List AE}(hb:w.heap[b]?=some (.map es sh))(hF:F2 (ER ρ) l es.toList)(hf:jE sh l=true)(hn:l.length<=1000000)(rR:l.map (·.k)=ns.map (Value.int .i64)):Od P k w (some b) ns:=by
 have⟨g1,g2,g3⟩:=ajc hf
 have e1:es.toList.map (·.born)=l.map (·.b):=by clear hb hf hn rR g1 g2 g3;generalize es.toList=xs at hF;induction hF with|nil=>rfl|cons h _ ih=>simp[h.2.1,ih]
 have e2:es.toList.map (·.key)=l.map (·.k):=by clear hb hf hn rR g1 g2 g3 e1;generalize es.toList=xs at hF;induction hF with|nil=>rfl|cons h _ ih=>simp[h.1,ih]
 have hlen:es.toList.length=l.length:=hF.length.symm
 have vA:∀x∈es.toList,∃n:Int,x.key=.int .i64 n/\(Lit.int .i64 n).wf=true/\x.born<sh:=by refine hF.all (aR:=λ e=>e.b<sh/\yA e.k=true) g1 λ e x h hA=>?_;have⟨n,O,U⟩:=aiK hA.2;exact⟨n,by rw[h.1];exact O,U,by rw[h.2.1];exact hA.1⟩
 have bU:∀x∈es.toList,∃n:Int,x.key=.int .i64 n/\WideElems.rd (H:=Unit) P k (λ _=>some (.nil,[])) x=some (.int .i64 n,.nil):=by intro x Z;have⟨n,O,U,_⟩:=vA x Z;refine⟨n,O,?_⟩;unfold WideElems.rd;rw[O,Maps.keyOf_int_mk Q U];rfl
 refine .inr ⟨b,es.size,_,rfl,⟨es,sh,hb,⟨?_,⟨λ x Z=>(vA x Z).choose_spec.2.2,by rw[e1];exact g2,by rw[e2];exact g3⟩,λ x Z=>by have⟨n,_,h⟩:=bU x Z;exact⟨_,h⟩⟩,aF,rfl⟩,?_,?_⟩
 .have:es.size=es.toList.length:=ζ
  unfold maxLen;omega
 .show(List.map (λ p:Lit×DataW Unit=>Go.intOf p.1) _).Perm ns
  refine((WideShapes.sorted_perm _).map _).trans ?_;rw[u_];have:es.toList.map ((λ p:Lit×DataW Unit=>Go.intOf p.1)∘WideElems.rg P k (λ _=>some (.nil,[])))=ns:=by
   have O:es.toList.map ((λ p:Lit×DataW Unit=>Go.intOf p.1)∘WideElems.rg P k (λ _=>some (.nil,[])))=es.toList.map (λ x=>match x.key with|.int _ n=>n|_=>0):=by refine SZ λ x Z=>?_;have⟨n,U,F⟩:=bU x Z;simp only[Function.comp,WideElems.rg_of F,U,Go.intOf]
   rw[O];have U:es.toList.map (λ x=>match x.key with|.int _ n=>n|_=>0)=(es.toList.map (·.key)).map (λ v=>match v with|.int _ n=>n|_=>0):=by rw[u_];rfl
   rw[U,e2,rR,u_];have:((λ v=>match v with|.int _ n=>n|_=>0)∘Value.int .i64)=(id:Int->Int):=rfl;rw[this,List.map_id]
  rw[this]
 .show(List.length _)<=1000000
  rw[(WideShapes.sorted_perm _).length_eq,bW,hlen];omega
def aeL(P:Program)(k ay:TypeId)(f g:FuncId):Prop:=
 ∀(w:World) (Bm:Nat) (m:Option Nat) (ks:BW),Bm<w.heap.size->w.cell? ⟨Bm,0,none⟩=some (.map m)->Od P k w m ks->
  Calls P f #[.func (.func g) #[] #[.pointer (some ⟨Bm,0,none⟩)]] w λ e w'=>∃(v:Value) (ss:BW),e=.returned v/\ss.Perm ks/\w'.ownsRow w.heap.size ay 1 v ss.length ((ss.mergeSort leI).map encZ)/\(v=.slice none 0 0↔ss=[])/\Below w.heap.size w w'
def aev(P:Program)(k ay:TypeId)(f g:FuncId):Prop:=
 ∀(w:World) (Bm:Nat) (m:Option Nat) (ks:BW),Bm<w.heap.size->w.cell? ⟨Bm,0,none⟩=some (.map m)->Od P k w m ks->
  Calls P f #[.func (.func g) #[] #[.pointer (some ⟨Bm,0,none⟩)]] w λ e w'=>∃(v:Value) (ss:BW),e=.returned v/\ss.Perm ks/\w'.ownsRow w.heap.size ay 1 v ss.length (ss.map encZ)/\(v=.slice none 0 0↔ss=[])/\Below w.heap.size w w'
def Kr(P:Program)(w0:World)(f:FuncId):Prop:=∀w,jG (λ _=>False) w0 w->Calls P f #[] w λ e w'=>e=.returned (.bool true)/\jG (λ _=>False) w w'
def aeF(P:Program)(f:FuncId):Prop:=
 ∀(b off n c:Nat) (zs:BW) (w:World),0<n->n<=zs.length->n<=9223372036854775807->(∀j,j<zs.length->w.cell? ⟨b,off+j,none⟩=some (.int .i64 (zs.getD j 0)))->
  Calls P f #[.slice (some ⟨b,off,none⟩) n c] w λ e w'=>e=.returned (.int .i64 (Lib.minOf (zs.take n)))/\w'=w
section
variable{P:Program}{E:aK}{w0 w:World}{ρ:bh}{H:D}
def HR.below(h:HR E w0 ρ H w)(hb:Below w.heap.size w w'):HR E w0 ρ H w':=⟨h.lt,λ id b s N o h5 h6=>by rw[hb.block b (h.bF id b s N h5)];exact h.obj id b s N o h5 h6,h.inj,h.own,λ id b s N h5=>aT (h.bF id b s N h5) hb.size,h.vo,⟨hb.os.trans h.ia.os,hb.tape.trans h.ia.tape,hb.output.trans h.ia.output,aY h.ia.size hb.size,λ k Q hs=>(hb.block k (aT Q h.ia.size)).trans (h.ia.block k Q hs)⟩,h.Y⟩
def HR.later(h:HR E w0 ρ H w)(hb:jG (λ _=>False) w w'):HR E w0 ρ H w':=⟨h.lt,λ id b s N o h5 h6=>by rw[hb.block b (h.bF id b s N h5) (λ x=>x)];exact h.obj id b s N o h5 h6,h.inj,h.own,λ id b s N h5=>aT (h.bF id b s N h5) hb.size,h.vo,h.ia.trans hb,h.Y⟩
def HR.SN(h:HR E w0 ρ H w){aG:Nat}(hB:∀id b ah N,ρ id=some (b,ah,N)->b<aG)(hg:aG<=sh)(rP:sh<w.heap.size)(qz:w0.heap.size<=sh)(ha:uO H o' H')(mW:OR E (ρ.add H.ab (sh,ah,N)) o' ah N w.heap[sh]?):HR E w0 (ρ.add H.ab (sh,ah,N)) H' w/\cV ρ H (ρ.add H.ab (sh,ah,N)) H':=by
 have hf:=h.fresh
 have Z:=bh.sk (p:=(sh,ah,N)) hf
 obtain⟨hn,x_⟩:=ha
 have cases:∀j p,(ρ.add H.ab (sh,ah,N)) j=some p->(j=H.ab/\p=(sh,ah,N))\/(j≠H.ab/\ρ j=some p):=by
  intro j p hp;unfold bh.add at hp;split at hp
  .rename_i e;cases hp;exact .inl ⟨e,rfl⟩
  .rename_i e;exact .inr ⟨e,hp⟩
 refine⟨⟨?_,?_,?_,?_,?_,?_,h.ia,λ j hj=>?_⟩,Z,λ j hj fS=>⟨?_,?_⟩,ω⟩
 .intro j p hp
  rcases cases j p hp with⟨rfl,_⟩|⟨_,hp⟩
  .omega
  .have:=h.lt j p hp;omega
 .intro j b2 s2 N2 o2 hp mV
  rcases cases j _ hp with⟨rfl,e⟩|⟨hj,hp⟩
  .cases e;rw[x_,aq rfl]at mV;cases mV;exact mW
  .rw[x_,ao hj]at mV;exact(h.obj j b2 s2 N2 o2 hp mV).mono Z
 .intro i j b2 s1 N1 s2 N2 o1 o2 h5 h6 h7 h8 h9
  rcases cases i _ h5 with⟨rfl,e⟩|⟨A,C5⟩
  .cases e;rcases cases j _ h6 with⟨rfl,_⟩|⟨hj,wy⟩
   .rfl
   .have:=hB _ _ _ _ wy;omega
  .rcases cases j _ h6 with⟨rfl,e⟩|⟨hj,wy⟩
   .cases e;have:=hB _ _ _ _ C5;omega
   .rw[x_,ao A]at h7;rw[x_,ao hj]at h8;exact h.inj i j b2 s1 N1 s2 N2 o1 o2 C5 wy h7 h8 h9
 .intro j b2 s2 N2 o2 hp mV mY
  rcases cases j _ hp with⟨rfl,e⟩|⟨hj,hp⟩
  .cases e;exact qz
  .rw[x_,ao hj]at mV;exact h.own j b2 s2 N2 o2 hp mV mY
 .intro j b2 s2 N2 hp
  rcases cases j _ hp with⟨rfl,e⟩|⟨hj,hp⟩
  .cases e;exact rP
  .exact h.bF j b2 s2 N2 hp
 .intro gg i hgg
  obtain⟨N',hN⟩:=h.vo gg i hgg;exact⟨N',Z _ _ hN⟩
 .rw[x_,ao ω];exact h.Y j ω
 .unfold bh.add;rw[ao (bC hj)];exact fS
 .rw[x_,ao (bC hj)]
def aiT(hh:∀x n,E.Q.get x=some n->(x,n)∈Q){k:List Value->R β}(h:EZ E x H k=.ok q):
 ∃g id,(g,1)∈Q/\x=.fn (.func g) [] [.ptr id 0]/\∃ks:List Value,k ks=.ok q/\∀(kt:TypeId) (w0:World) (ρ:bh) (w:World),P.underlying kt=some (.int .i64)->HR E w0 ρ H w->∀v,Rl ρ (.fn (.func g) [] [.ptr id 0]) v->∀ns:BW,ks=ns.map (Value.int .i64)->
  ∃Bm m,v=.func (.func g) #[] #[.pointer (some ⟨Bm,0,none⟩)]/\Bm<w.heap.size/\w.cell? ⟨Bm,0,none⟩=some (.map m)/\Od P kt w m ns:=by
 unfold EZ at h
 split at h
 .rename_i g id
  replace h:=oY h;obtain⟨n,hn,h⟩:=h;replace h:=ajq h;obtain⟨n1,rfl,h⟩:=h;cases n1 with
  |succ n2=>cases h
  |zero=>
   have h:ie H id _=.ok q:=h
   replace h:=oB h;obtain⟨ob,jB,h⟩:=h
   refine⟨g,id,hh _ _ hn,rfl,?_⟩
   split at h
   .rename_i M ro
    replace h:=oY h;obtain⟨m,B,h⟩:=h;have box:∀(w0:World) (ρ:bh) (w:World),HR E w0 ρ H w->∀v,Rl ρ (.fn (.func g) [] [.ptr id 0]) v->∃Bm u,v=.func (.func g) #[] #[.pointer (some ⟨Bm,0,none⟩)]/\Bm<w.heap.size/\w.cell? ⟨Bm,0,none⟩=some u/\Rl ρ m u:=by
     intro w0 ρ w hr v hv;obtain⟨l',m',O,U,rfl⟩:=hv.V6;cases l' with|mk l'=>
     cases m' with|mk m'=>
     cases O;cases U with|cons F h4=>
     cases h4;obtain⟨b,s,N,hb,rfl⟩:=F.M0;obtain⟨c,e,fz,q1,q2,q3,q4,q5,q6⟩:=hr.obj _ _ _ _ _ hb jB;obtain⟨u,h5,h6⟩:=q5 0 m ω B;have GL:=q6 rfl;subst GL;exact⟨b,u,rfl,hr.bF _ _ _ _ hb,O8 q1 h5,h6⟩
    split at h
    .rename_i jO;replace h:=oB h;obtain⟨ob2,QB,h⟩:=h;split at h
     .rename_i GW c l;rw[ux]at h;replace h:=db h;obtain⟨hlen,h⟩:=h;replace h:=db h;obtain⟨ahI,h⟩:=h;replace h:=Bh (S:=λ (p:AE) v=>v=p.k) (λ p k q h=>⟨_,rfl,h⟩) h;obtain⟨ks,O,h⟩:=h;have gS:ks=l.map (·.k):=by clear h hlen ahI QB;induction O with|nil=>rfl|cons e _ ih=>rw[e,ih];rfl
      refine⟨ks,h,λ kt w0 ρ w Ez hr v hv ns rR=>?_⟩;obtain⟨Bm,u,e1,e2,e3,e4⟩:=box w0 ρ w hr v hv;obtain⟨b,sh,N,es,hb,rfl,iV,hF,_⟩:=hr.JB QB e4;exact⟨Bm,some b,e1,e2,e3,axf Ez iV hF ahI (OD hlen) (by rw[<-gS,rR])⟩
     .cases h
    .refine⟨[],h,λ kt w0 ρ w Ez hr v hv ns rR=>?_⟩;obtain⟨Bm,u,e1,e2,e3,e4⟩:=box w0 ρ w hr v hv;rw[e4.fI]at e3;refine⟨Bm,none,e1,e2,e3,.inl ⟨rfl,?_⟩⟩;cases ns with|nil=>rfl|cons _ _=>cases rR
    .cases h
   .cases h
 .cases h
def abm(h:vK ss k=.ok q):k (ss.map λ n=>J.lit (.int .i64 n))=.ok q:=by
 unfold vK at h;have⟨l',O,U⟩:=Bh (S:=λ (n:Int) a=>a=J.lit (.int .i64 n)) (λ a k q h=>⟨_,rfl,h⟩) h;have:l'=ss.map λ n=>J.lit (.int .i64 n):=by clear h U;induction O with|nil=>rfl|cons e _ ih=>rw[e,ih];rfl
 rw[<-this];exact U
def ayn{x:Int}(h:lK ns=x::ss)(hp:zs.Perm ns):Lib.minOf zs=x:=by
 have pj:∀z∈zs,x<=z:=by
  intro z hz;have:z∈lK ns:=(yB ns).mem_iff.2 (hp.mem_iff.1 hz);have hs:=QY ns;rw[h]at this hs;rw[xw]at hs;rcases cZ.1 this with rfl|hz
  .exact Ys _
  .exact hs.1 z hz
 have Z:x∈zs:=hp.mem_iff.2 ((yB ns).mem_iff.1 (by rw[h];simp));have fold:∀(ss:BW) (a:Int),(∀z∈ss,x<=z)->x<=a->(x=a\/x∈ss)->ss.foldl min a=x:=by
  intro ss;induction ss with
  |nil=>intro a _ _ h;rcases h with h|h;exact h.symm;cases h
  |cons z ss ih=>
   intro a O U F
   have hz:=O z ζ
   refine ih (min a z) (λ y G=>O y (by simp[G])) ω ?_
   rcases F with F|F
   .left;omega
   .rcases cZ.1 F with F|F
    .left;omega
    .exact .inr F
 unfold Lib.minOf;cases zs with
 |nil=>cases Z
 |cons z zs=>
  refine fold _ _ pj (pj _ ζ) (.inr Z)
def hkS(E:aK)(H:D)(args:AU):R (J×D):=match args with
 |[f]=>EZ E f H λ ks=>q_ ks λ l=>vK l λ vs=>jV vs λ n=>
    eC (.ok (.lit (.slice none 0 0),H)) (λ _=>kN .e 0 vs λ t=>kM H (.cells n t false) λ id H'=>.ok (.sl id 0 1 n n false,H')) n
 |_=>.er [152]
def hkC(E:aK)(H:D)(args:AU):R (J×D):=match args with
 |[f]=>EZ E f H λ ks=>q_ ks λ l=>vK l λ vs=>jV vs λ n=>
    eC (.ok (.lit (.slice none 0 0),H)) (λ _=>iA (λ n k=>k (Value.int .i64 n)) l λ vs=>kM H (.tN vs) λ id H'=>.ok (.sl id 0 1 n n false,H')) n
 |_=>.er [153]
def hkM(H:D)(args:AU):R (J×D):=match args with
 |[.sl id 0 1 n _ _]=>ie H id λ o=>match o with
  |.tN l=>jV l λ m=>aB (.er [154]) (q_ l λ ns=>match ns with|x::_=>.ok (.lit (.int .i64 x),H)|[]=>.er [155]) (Nat.beq m n)
  |_=>.er [156]
 |_=>.er [157]
def hkT(H:D)(args:AU):R (J×D):=match args with|[]=>.ok (.lit (.bool true),H)|_=>.er [202]
def hkI(H:D)(args:AU):R (J×D):=match args with
 |[x]=>DE (λ vs k=>q_ vs λ ns=>vK ns k) x H λ H'=>.ok (.dh [],H')
 |_=>.er [206]
def hkJ(H:D)(args:AU):R (J×D):=match args with
 |[x]=>DE (λ vs k=>Af vs λ ns=>Fv ns k) x H λ H'=>.ok (.dh [],H')
 |_=>.er [209]
def yz(s:ByteArray):List ByteArray->List ByteArray
 |[]=>[s]|m::l=>if yD m.data.toList s.data.toList=true then m::yz s l else s::m::l
def vJ:List ByteArray->List ByteArray
 |[]=>[]|s::l=>yz s (vJ l)
theorem aba{β:Type}(s:ByteArray):∀(l:List ByteArray) (k:List ByteArray->R β),MY s l k=k (yz s l)
 |[],k=>rfl
 |m::l,k=>by
  have h:MY s (m::l) k=aB (k (s::m::l)) (MY s l λ r=>k (m::r)) (yD m.data.toList s.data.toList):=rfl
  have U:yz s (m::l)=if yD m.data.toList s.data.toList=true then m::yz s l else s::m::l:=by rw[yz]
  rw[h,aba s l,U]
  cases yD m.data.toList s.data.toList<;>rfl
theorem akG{β:Type}:∀{l:List Value} {k:List ByteArray->R β} {q:β},Af l k=.ok q->∃ns:List ByteArray,l=ns.map Value.string/\k (vJ ns)=.ok q
 |[],k,q,h=>⟨[],rfl,h⟩
 |v::l,k,q,h=>by
  have h':(match v with|.string s=>Af l λ r=>MY s r k|_=>.er [208])=.ok q:=h
  split at h'
  .rename_i s
   obtain⟨ns,O,U⟩:=akG (l:=l) h';rw[aba]at U;exact⟨s::ns,by rw[O];rfl,U⟩
  .cases h'
theorem aa9(s:ByteArray):∀l:List ByteArray,(yz s l).Perm (s::l)
 |[]=>HT _
 |m::l=>by
  unfold yz
  split
  .exact((aa9 s l).cons m).trans (List.Perm.swap s m l)
  .exact HT _
theorem V9:∀l:List ByteArray,(vJ l).Perm l
 |[]=>HT _|s::l=>(aa9 s _).trans ((V9 l).cons s)
def aFj{l:List ByteArray}(h:Fv l k=.ok q):k (l.map λ s=>J.lit (.string s))=.ok q:=by
 unfold Fv at h;have⟨r,O,U⟩:=Bh (S:=λ (s:ByteArray) v=>v=J.lit (.string s)) (λ a k q h=>⟨_,rfl,h⟩) h;have:r=l.map λ s=>J.lit (.string s):=by clear h U;induction O with|nil=>rfl|cons e _ ih=>rw[e,ih];rfl
 rw[<-this];exact U
def X_(P:Program)(f:FuncId):Prop:=(∀bF off cap (zs:List ByteArray) w,Sort.Holds Value.string w bF off zs.toArray->bF<w.heap.size->zs.length<4611686018427387904->Calls P f #[.slice (some ⟨bF,off,none⟩) zs.length cap] w λ e w'=>e=.returned (.tuple #[])/\∃n os,w'=Sort.grow (Sort.putRow Value.string (Sort.ahead w n) bF off (vJ zs).toArray) os)/\∀p cap w,Calls P f #[.slice p 0 cap] w λ e w'=>e=.returned (.tuple #[])/\w'=w
def aeK(P:Program)(f:FuncId):Prop:=(∀bF off cap (zs:BW) w,Sort.Holds (Value.int .i64) w bF off zs.toArray->bF<w.heap.size->zs.length<4611686018427387904->Calls P f #[.slice (some ⟨bF,off,none⟩) zs.length cap] w λ e w'=>e=.returned (.tuple #[])/\∃n os,w'=Sort.grow (Sort.putRow (Value.int .i64) (Sort.ahead w n) bF off (zs.mergeSort λ x y=>decide (x<=y)).toArray) os)/\∀p cap w,Calls P f #[.slice p 0 cap] w λ e w'=>e=.returned (.tuple #[])/\w'=w
def avT(EO:eW P E)(hh:∀f n,E.Q.get f=some n->(f,n)∈Q){kt ay:TypeId}(Ez:P.underlying kt=some (.int .i64))(hS:∀f g,(f,2)∈Q->(g,1)∈Q->aeL P kt ay f g)(hC:∀f g,(f,3)∈Q->(g,1)∈Q->aev P kt ay f g)(hM:∀f,(f,4)∈Q->aeF P f)(hT:∀f,(f,5)∈Q->Kr P w0 f)(hI:∀f,(f,6)∈Q->aeK P f)(hJ:∀f,(f,7)∈Q->X_ P f)(h4:∀f n,(f,n)∈Q->n<=7)(o8:∀f n,(f,n)∈Q->2<=n->∀args w,(callFunc f args).run P w=.ok (.enter f args) w):Hz P E w0:=by
 intro f n args H v H' hf h
 have Eu:=hh _ _ hf
 have Vl:=h4 _ _ Eu
 have AR:=o8 _ _ Eu ω
 have SN:∀{ρ:bh} {w w':World} {o:AO} {H1:D} {g cap:Nat} {cur:Array Value} {e:TypeId},HR E w0 ρ H w->Below w.heap.size w w'->w.heap.size<=g->w'.heap[g]?=some (.cells cur e (0,0))->uO H o H1->OR E (ρ.add H.ab (g,0,cur.size)) o 0 cur.size (some (.cells cur e (0,0)))->HR E w0 (ρ.add H.ab (g,0,cur.size)) H1 w'/\cV ρ H (ρ.add H.ab (g,0,cur.size)) H1:=by
  intro ρ w w' o H1 g cap cur e hr hb hg rP hA mW
  exact(hr.below hb).SN (aG:=w.heap.size) (λ id b s N A=>hr.bF id b s N A) hg (DZ rP) (aY hr.ia.size hg) hA (by rw[rP];exact mW)
 have hn:n=0\/n=1\/n=2\/n=3\/n=4\/n=5:=ω
 rcases hn with rfl|rfl|rfl|rfl|rfl|rfl
 .
  replace h:hkS E H args=.ok (v,H'):=h
  unfold hkS at h
  split at h
  .rename_i fv
   replace h:=aiT (P:=P) hh h;obtain⟨g,id,hg,rfl,ks,h,aav⟩:=h;have⟨ns,rR,h⟩:=RW h;replace h:=abm h;rw[ux,bW]at h;intro ρ w dn hr dj;obtain⟨av,rfl,ha⟩:∃a:Value,dn=#[a]/\Rl ρ (.fn (.func g) [] [.ptr id 0]) a:=by
    cases dn with|mk l=>
    cases dj with|cons O U=>cases U;exact⟨_,rfl,O⟩
   obtain⟨Bm,m,rfl,hBm,xX,hka⟩:=aav kt w0 ρ w Ez hr av ha ns rR;refine⟨AR _ _,(hS f g Eu hg w Bm m ns hBm xX hka).mono ?_⟩;rintro e w' ⟨u,ss,rfl,ue,kj,Mo,hb⟩;have awi:=ajj ue;have hlen:ss.length=(lK ns).length:=by rw[ue.length_eq,(yB ns).length_eq]
   cases hl:(lK ns).length with
   |zero=>
    rw[hl]at h
    cases h
    have:ss=[]:=BM ω
    have hu:=Mo.2 this
    subst hu
    exact⟨_,ρ,rfl,.lit _,hr.below hb,cV.refl _ _⟩
   |succ n'=>
    rw[hl,G8]at h
    have⟨t,ht,h⟩:=sd h
    have⟨H1,hA,h⟩:=vP h
    cases h
    rcases kj.2 with⟨e1,e2⟩|⟨gb,cap,cur,rfl,U0,rP,r1,r2,r3,r4⟩
    .omega
    .have yx:cur.toList.take ss.length=(lK ns).map encZ:=by rw[<-awi,<-r4,BR]
     have mW:OR E (ρ.add H.ab (gb,0,cur.size)) (.cells (n'+1) t false) 0 cur.size (some (.cells cur ay (0,0))):=by
      refine⟨cur,ay,(0,0),rfl,rfl,by rw[r3];omega,λ _=>rfl,λ i av A eM=>?_,λ _=>rfl⟩;rw[ht,aq (by rw[bW];omega),Ax,y']at eM;cases Z:(lK ns)[i]? with
      |none=>rw[Z]at eM;cases eM
      |some x=>
       rw[Z]at eM
       simp only[xy,zi]at eM
       subst eM
       refine⟨_,?_,.lit _⟩
       have:(cur.toList.take ss.length)[i]?=some (encZ x):=by rw[yx,y',Z];rfl
       rw[rI,aq ω,pG]at this
       rw[mQ];exact this
     obtain⟨k1,k2⟩:=SN (cap:=cap) hr hb U0 rP hA mW;refine⟨_,_,rfl,?_,k1,k2⟩;rw[hlen,hl];exact .sl (s:=0) (bh.uY _ _ _) (λ h=>by cases h) ω aF (by rw[r3];simp) r2
  .cases h
 .
  replace h:hkC E H args=.ok (v,H'):=h
  unfold hkC at h
  split at h
  .rename_i fv
   replace h:=aiT (P:=P) hh h;obtain⟨g,id,hg,rfl,ks,h,aav⟩:=h;have⟨ns,rR,h⟩:=RW h;replace h:=abm h;rw[ux,bW]at h;intro ρ w dn hr dj;obtain⟨av,rfl,ha⟩:∃a:Value,dn=#[a]/\Rl ρ (.fn (.func g) [] [.ptr id 0]) a:=by
    cases dn with|mk l=>
    cases dj with|cons O U=>cases U;exact⟨_,rfl,O⟩
   obtain⟨Bm,m,rfl,hBm,xX,hka⟩:=aav kt w0 ρ w Ez hr av ha ns rR;refine⟨AR _ _,(hC f g Eu hg w Bm m ns hBm xX hka).mono ?_⟩;rintro e w' ⟨u,ss,rfl,ue,kj,Mo,hb⟩;have hlen:ss.length=(lK ns).length:=by rw[ue.length_eq,(yB ns).length_eq]
   cases hl:(lK ns).length with
   |zero=>
    rw[hl]at h
    cases h
    have:ss=[]:=BM ω
    have hu:=Mo.2 this
    subst hu
    exact⟨_,ρ,rfl,.lit _,hr.below hb,cV.refl _ _⟩
   |succ n'=>
    rw[hl,G8]at h
    obtain⟨vs,kL,h⟩:=Bh (S:=λ (n:Int) v=>v=Value.int .i64 n) (λ a k q h=>⟨_,rfl,h⟩) h
    have aiy:vs=(lK ns).map encZ:=by clear h hl hlen;generalize lK ns=xs at kL;clear h;induction kL with|nil=>rfl|cons e _ ih=>rw[e,ih];rfl
    have⟨H1,hA,h⟩:=vP h
    cases h
    rcases kj.2 with⟨e1,e2⟩|⟨gb,cap,cur,rfl,U0,rP,r1,r2,r3,r4⟩
    .omega
    .have mO:vs.length=ss.length:=by rw[aiy,bW,hlen]
     have mW:OR E (ρ.add H.ab (gb,0,cur.size)) (.tN vs) 0 cur.size (some (.cells cur ay (0,0))):=by refine⟨cur,ay,rfl,rfl,by rw[r3];omega,?_⟩;rw[SQ,mO];rw[BR]at r4;rw[r4,aiy];exact((ue.trans (yB ns).symm).map _)
     obtain⟨k1,k2⟩:=SN (cap:=cap) hr hb U0 rP hA mW;refine⟨_,_,rfl,?_,k1,k2⟩;rw[hlen,hl];exact .sl (s:=0) (bh.uY _ _ _) (λ h=>by cases h) ω aF (by rw[r3];simp) r2
  .cases h
 .
  replace h:hkM H args=.ok (v,H'):=h
  unfold hkM at h
  split at h
  .rename_i id n cap ex
   have⟨ob,jB,h⟩:=oB h;split at h
   .rename_i l;rw[ux]at h;have⟨oh,h⟩:=db h;have⟨ns,rR,h⟩:=RW h;have aH2:l.length=n:=by simpa using oh
    split at h
    .rename_i x tl zS;cases h;intro ρ w dn hr dj;obtain⟨av,rfl,ha⟩:∃a:Value,dn=#[a]/\Rl ρ (.sl id 0 1 n cap ex) a:=by
      cases dn with|mk l=>
      cases dj with|cons O U=>cases U;exact⟨_,rfl,O⟩
     obtain⟨b,s,N,c,hb,k1,k2,k3,k4,k5,rfl⟩:=ha.rT;obtain⟨cc,e,q1,q2,q3,q4⟩:=hr.obj _ _ _ _ _ hb jB;rw[rR]at q4;have pj:∀y∈(cc.toList.drop s).take l.length,∃z:Int,y=encZ z:=by intro y G;obtain⟨z,_,hz⟩:=jn.1 (q4.mem_iff.1 (by rw[rR]at G;exact G));exact⟨z,hz.symm⟩
     have auy:∃zs:BW,(cc.toList.drop s).take l.length=zs.map encZ:=by
      clear q4;generalize(cc.toList.drop s).take l.length=xs at pj;induction xs with
      |nil=>exact⟨[],rfl⟩
      |cons y xs ih=>
       obtain⟨z,hz⟩:=pj y ζ
       obtain⟨zs,A7⟩:=ih λ y G=>pj y (by simp[G])
       exact⟨z::zs,by rw[hz,A7];rfl⟩
     obtain⟨zs,A7⟩:=auy;have ue:zs.Perm ns:=by
      have O:(zs.map encZ).Perm (ns.map encZ):=by rw[<-A7,rR];exact q4
      have U:=O.map (λ v=>match v with|.int _ n=>n|_=>0);rw[u_,u_]at U;have e9:((λ v=>match v with|.int _ n=>n|_=>0)∘encZ)=(λ z=>z:Int->Int):=rfl;rw[e9,List.map_id',List.map_id']at U;exact U
     have MQ:zs.length=n:=by have O:=iQ List.length A7;rw[bW,eK,FM]at O;have gR:cc.toList.length=cc.size:=rH;omega
     have wL:0<n:=by rw[<-MQ,ue.length_eq,<-(yB ns).length_eq,zS];simp
     refine⟨AR _ _,(hM f Eu b (s+0) n c zs w wL ω (by unfold maxLen at k5;omega) λ j hj=>?_).mono ?_⟩
     .have cQ:((cc.toList.drop s).take l.length)[j]?=some (encZ (zs.getD j 0)):=by rw[A7,y',List.getD_eq_getElem?_getD,bf hj];rfl
      rw[rI,aq ω,v_,pG]at cQ;exact O8 q1 (by rw[xx];exact cQ)
     .rintro e2 w' ⟨rfl,rfl⟩;rw[OB ω,ayn zS ue];exact⟨_,ρ,rfl,.lit _,hr,cV.refl _ _⟩
    .cases h
   .cases h
  .cases h
 .
  replace h:hkT H args=.ok (v,H'):=h
  unfold hkT at h
  split at h
  .cases h
   intro ρ w dn hr dj;have e:dn=#[]:=by
    cases dn with|mk l=>
    cases dj;rfl
   subst e;refine⟨AR _ _,(hT f Eu w hr.ia).mono ?_⟩;rintro e w' ⟨rfl,hc⟩;exact⟨_,ρ,rfl,.lit _,hr.later hc,cV.refl _ _⟩
  .cases h
 .
  replace h:hkI H args=.ok (v,H'):=h
  unfold hkI at h
  split at h
  .rename_i x
   exact akH (enc:=Value.int .i64) (sc:=lK) (λ ns=>(yB ns).length_eq) (λ vs k q h=>by
    obtain⟨ns,O,U⟩:=RW h;exact⟨ns,O,abm U⟩) AR
    ⟨λ bF off cap zs w O U F=>((hI f Eu).1 bF off cap zs w O U F).mono λ e w' ⟨h4,n,os,h5⟩=>⟨h4,n,os,by rw[h5,show(zs.mergeSort λ x y=>decide (x<=y))=lK zs from ajj (HT zs)]⟩,(hI f Eu).2⟩ h
  .cases h
 .
  replace h:hkJ H args=.ok (v,H'):=h
  unfold hkJ at h
  split at h
  .rename_i x
   exact akH (enc:=Value.string) (sc:=vJ) (λ ns=>(V9 ns).length_eq) (λ vs k q h=>by obtain⟨ns,O,U⟩:=akG h;exact⟨ns,O,aFj U⟩) AR (hJ f Eu) h
  .cases h
end
def od(s:aI):List UInt8:=s.data.toList
def agj(s:aI):Go.Proofs.encStr (od s)=Value.string s:=by cases s;simp[Go.Proofs.encStr,od]
def axP(a b:List UInt8):yD a b=decide (a<b):=by rw[abp];exact Go.Proofs.bytesLess_eq a b
theorem aiF(s:aI):∀l:List aI,l.Pairwise (λ a b=>od a<=od b)->(yz s l).Pairwise (λ a b=>od a<=od b)
 |[],_=>by simp[yz]
 |m::l,h=>by
  have U:yz s (m::l)=if yD m.data.toList s.data.toList=true then m::yz s l else s::m::l:=by rw[yz]
  rw[U,axP]
  rw[xw]at h
  split
  .rename_i bm
   have wJ:od m<od s:=Tj bm;rw[xw];refine⟨λ x Z=>?_,aiF s l h.2⟩;rcases cZ.1 ((aa9 s l).mem_iff.1 Z)with rfl|Z
   .exact List.le_of_lt wJ
   .exact h.1 x Z
  .rename_i bm
   have aU:od s<=od m:=by have:¬od m<od s:=λ h=>bm (Ti h);exact List.not_lt.1 this
   rw[xw];refine⟨λ x Z=>?_,by rw[xw];exact h⟩;rcases cZ.1 Z with rfl|Z
   .exact aU
   .exact List.le_trans aU (h.1 x Z)
theorem aiM:∀l:List aI,(vJ l).Pairwise (λ a b=>od a<=od b)
 |[]=>by rw[vJ];exact List.Pairwise.nil
 |s::l=>by rw[vJ];exact aiF s _ (aiM l)
def ayh(l:List aI):((l.map od).mergeSort λ x y=>decide (x<=y))=(vJ l).map od:=by
 have tr:∀a b c:List UInt8,decide (a<=b)=true->decide (b<=c)=true->decide (a<=c)=true:=λ a b c O U=>by simp only[rK]at*;exact List.le_trans O U
 have to:∀a b:List UInt8,(decide (a<=b)||decide (b<=a))=true:=λ a b=>by simp only[xt,rK];exact List.le_total a b
 refine List.Perm.eq_of_pairwise (le:=λ a b=>decide (a<=b)=true) (λ a b _ _ O U=>?_) (List.pairwise_mergeSort tr to _) ?_ ((List.mergeSort_perm _ _).trans ((V9 l).symm.map od))
 .simp only[rK]at O U;exact List.le_antisymm O U
 .exact S9.2 ((aiM l).imp λ h=>by simpa using h)
def aCE(w:bI)(b ah:Nat)(l:List aI):Sort.putRow Go.Proofs.encStr w b ah (l.map od).toArray=Sort.putRow Value.string w b ah l.toArray:=by
 unfold Sort.putRow;congr 1;funext c;unfold Sort.putCells;congr 1;funext k x;have e:(l.map od).toArray.size=l.toArray.size:=ζ
 rw[e];split
 .rename_i h;have O:k-ah<l.toArray.size:=ω
  rw[FZ l.toArray (k-ah) O,FZ (l.map od).toArray (k-ah) (by rw[e];exact O)];simp[agj]
 .rfl
def aE4{P:e8}(O:∀bF ah ax (ss:List (List UInt8)) w,Sort.Holds Go.Proofs.encStr w bF ah ss.toArray->bF<w.heap.size->ss.length<4611686018427387904->Calls P f #[.slice (some ⟨bF,ah,none⟩) ss.length ax] w λ e w'=>e=.returned (.tuple #[])/\∃n os,w'=Sort.grow (Sort.putRow Go.Proofs.encStr (Sort.ahead w n) bF ah (ss.mergeSort λ x y=>decide (x<=y)).toArray) os)(U:∀p ax w,Calls P f #[.slice p 0 ax] w λ e w'=>e=.returned (.tuple #[])/\w'=w):X_ P f:=by
 refine⟨λ bF ah ax zs w hH hb hz=>?_,U⟩
 have hH':Sort.Holds Go.Proofs.encStr w bF ah (zs.map od).toArray:=by
  intro j hj;have mz:j<zs.toArray.size:=by simpa using hj
  have⟨q1,q2⟩:=hH j mz;refine⟨?_,q2⟩;rw[q1,FZ zs.toArray j mz,FZ (zs.map od).toArray j hj];simp[agj]
 have:=O bF ah ax (zs.map od) w hH' hb (by simpa using hz)
 rw[bW]at this
 refine this.mono ?_
 rintro e w' ⟨rfl,n,os,rfl⟩
 exact⟨rfl,n,os,by rw[ayh,aCE]⟩
def NO(P:e8)(rec:aS->Option (List KC)):List Field->Nat->Option (List KC)
 |[],_=>some []
 |f::fs,ah=>
  if f.name= "_" \/f.offset≠ah then none
  else match rec f.type with|none=>none|some M=>if(P.info? f.type).map (·.size)≠some M.length then none else(NO P rec fs (ah+M.length)).map (M++ ·)
def yM(P:e8):Nat->aS->Option (List KC)
 |0,_=>none
 |d+1,t=>
  match P.underlying t with|some (.int k)=>some [.i k]|some .string=>some [.s]|some (.struct fs)=>if P.stoodInHeld t=true then none else NO P (yM P d) fs.toList 0|_=>none
def FB(P:e8)(t:aS)(xs:List aC):aC:=match P.underlying t with|some (.struct _)=>.agg ⟨xs⟩|_=>xs.headD undef
theorem xE:∀{M:List KC} {xs:List aC},oc M xs=true->xs.length=M.length
 |[],[],_=>rfl|[],_::_,h=>by cases h
 |_::_,[],h=>by cases h
 |c::M,x::xs,h=>by
  rw[DY]at h
  have⟨_,h⟩:=jc h
  simp[xE h]
theorem To:∀{c1 c2:List KC} {xs:List aC},oc (c1++c2) xs=true->oc c1 (xs.take c1.length)=true/\oc c2 (xs.drop c1.length)=true
 |[],c2,xs,h=>⟨rfl,by simpa using h⟩|c::c1,c2,[],h=>by cases h
 |c::c1,c2,x::xs,h=>by
  have h':oc (c::(c1++c2)) (x::xs)=true:=h
  rw[DY]at h'
  have⟨O,h'⟩:=jc h'
  have⟨U,F⟩:=To (c1:=c1) h'
  refine⟨?_,by simpa using F⟩
  simp only[qi,List.take_succ_cons]
  rw[DY,O];exact U
theorem agr:∀{a a' b b':List aC},a.length=a'.length->vi (a++b) (a'++b')=aB false (vi b b') (vi a a')
 |[],[],b,b',_=>rfl|[],_::_,_,_,h=>by cases h
 |_::_,[],_,_,h=>by cases h
 |x::a,y::a',b,b',h=>by
  simp only[Ov]
  rw[Gh,Gh,agr (by simpa using h)]
  cases nC x y<;>rfl
section
variable{P:e8}
def M3{k:IntKind}(h:oz (.i k) v=true):∃n,v=.int k n:=by
 unfold oz at h;split at h
 .rename_i e;cases e;rename_i j n;have:j=k:=by simpa using h
  exact⟨n,by rw[this]⟩
 .rename_i e;cases e
 .rename_i e;cases e
 .cases h
def V7(h:oz .s v=true):∃s,v=.string s:=by
 unfold oz at h;split at h
 .rename_i e;cases e
 .exact⟨_,rfl⟩
 .rename_i e;cases e
 .cases h
def TV(k:IntKind)(a b:Int):nC (.int k a) (.int k b)=(a==b):=by unfold nC;simp[xI,ZS]
def agv(a b:aI):nC (.string a) (.string b)=(a.toList==b.toList):=by show zr a.data.toList b.data.toList=_;rw[IB,Zr,Zr]
def adP{M:List KC}(hs:yM P b t=some M)(hz:(P.info? t).map (·.size)=some M.length)(Z:oc M ((vs.drop ah).take M.length)=true)(w:bI):(part t ⟨vs⟩ ah).run P w=.ok (FB P t ((vs.drop ah).take M.length)) w:=by
 have bA:=xE Z
 obtain⟨i,A,pO⟩:=zh.1 hz
 cases b with
 |zero=>cases hs
 |succ b=>
  unfold yM at hs
  unfold part isAgg FB
  cases hu:P.underlying t with
  |none=>rw[hu]at hs;cases hs
  |some kd=>
   rw[hu]at hs
   have one:M.length=1->vs[ah]?=some (((vs.drop ah).take M.length).headD undef):=by
    intro O;rw[O]at bA⊢;have:(vs.drop ah)[0]?=vs[ah]?:=by rw[v_];simp
    rw[<-this];cases hd:vs.drop ah with|nil=>rw[hd]at bA;simp at bA|cons y ys=>rfl
   cases kd<;>first|(cases hs;done)|skip
   .rename_i k
    cases hs;have O:=one rfl;simp only[cK,dR hu,dD,iL,uZ,n_,SY,O]
   .cases hs
    have O:=one rfl;simp only[cK,dR hu,dD,iL,uZ,n_,SY,O]
   .have gu:(sizeOf t).run P w=.ok M.length w:=by simp[sizeOf,typeInfo,A,pO]
    simp only[cK,dR hu,dD,iL,qk,gu];congr 2;apply Array.ext';rw[aeZ];simp[ae6]
def apO:∀(d:Nat) (t:aS) (M:List KC),yM P d t=some M->∀(dd:Nat) (w:bI) (xs ys:List aC),oc M xs=true->oc M ys=true->(Op.equalIn (dd+d) t (FB P t xs) (FB P t ys)).run P w=.ok (vi xs ys) w:=by
 intro d;induction d with
 |zero=>intro t M h;cases h
 |succ d ih=>
  intro t M h dd w xs ys Z G
  have h0:=h
  unfold yM at h
  unfold FB
  cases hu:P.underlying t with
  |none=>rw[hu]at h;cases h
  |some kd=>
   rw[hu]at h
   cases kd<;>first|(cases h;done)|skip
   .rename_i k
    cases h;rcases xs with _|⟨x,_|⟨_,_⟩⟩<;>rcases ys with _|⟨y,_|⟨_,_⟩⟩<;>first|(cases Z;done)|(cases G;done)|(have:=xE Z;simp at this;done)|(have:=xE G;simp at this;done)|skip
    rw[DY]at Z G;obtain⟨Z,_⟩:=jc Z;obtain⟨G,_⟩:=jc G;obtain⟨a,rfl⟩:=M3 Z;obtain⟨b,rfl⟩:=M3 G;have:=run_equalIn_int (P:=P) w (dd+d) t k k a b hu;show(Op.equalIn (dd+d+1) t (.int k a) (.int k b)).run P w=_;rw[this,Gh,TV];cases a==b<;>rfl
   .cases h
    rcases xs with _|⟨x,_|⟨_,_⟩⟩<;>rcases ys with _|⟨y,_|⟨_,_⟩⟩<;>first|(cases Z;done)|(cases G;done)|(have:=xE Z;simp at this;done)|(have:=xE G;simp at this;done)|skip
    rw[DY]at Z G;obtain⟨Z,_⟩:=jc Z;obtain⟨G,_⟩:=jc G;obtain⟨a,rfl⟩:=V7 Z;obtain⟨b,rfl⟩:=V7 G;have:=run_equalIn_string (P:=P) w (dd+d) t a b hu;show(Op.equalIn (dd+d+1) t (.string a) (.string b)).run P w=_;rw[this,Gh,agv];cases a.toList==b.toList<;>rfl
   .rename_i fs
    dsimp only at h;split at h
    .cases h
    .rename_i eH;have hf:P.fieldsOf t=fs:=by unfold Program.fieldsOf;rw[hu]
     show(Op.equalIn (dd+d+1) t (.agg ⟨xs⟩) (.agg ⟨ys⟩)).run P w=_;rw[run_equalIn_struct w (dd+d) t ⟨xs⟩ ⟨ys⟩ (by rw[hf];exact hu) (by simpa using eH),hf];have key:∀(l:List Field) (ah:Nat) (M:List KC),NO P (yM P d) l ah=some M->oc M (xs.drop ah)=true->oc M (ys.drop ah)=true->(Op.eqFields (dd+d) ⟨xs⟩ ⟨ys⟩ l).run P w=.ok (vi (xs.drop ah) (ys.drop ah)) w:=by
      intro l;induction l with
      |nil=>
       intro ah M O U F
       cases O
       have e1:=BM (xE U)
       have e2:=BM (xE F)
       rw[e1,e2]
       rfl
      |cons f l ihl=>
       intro ah M O U F
       unfold NO at O
       split at O
       .cases O
       .rename_i mB
        have aaG:f.name≠ "_" :=λ e=>mB (.inl e);have Mp:f.offset=ah:=SO λ e=>mB (.inr e);cases Dc:yM P d f.type with
        |none=>rw[Dc]at O;cases O
        |some c1=>
         rw[Dc]at O
         dsimp only at O
         split at O
         .cases O
         .rename_i gu
          have Jj:(P.info? f.type).map (·.size)=some c1.length:=SO λ e=>gu e;obtain⟨c2,h4,rfl⟩:=zh.1 O;obtain⟨g1,g2⟩:=To U;obtain⟨g3,g4⟩:=To F;rw[Ow]at g2 g4;have r1:=adP Dc Jj g1 w;have r2:=adP Dc Jj g3 w;have r3:=ih f.type c1 Dc dd w _ _ g1 g3;have r4:=ihl (ah+c1.length) c2 h4 g2 g4;have aio:vi (xs.drop ah) (ys.drop ah)=aB false (vi (xs.drop (ah+c1.length)) (ys.drop (ah+c1.length))) (vi ((xs.drop ah).take c1.length) ((ys.drop ah).take c1.length)):=by have:=agr (a:=(xs.drop ah).take c1.length) (a':=(ys.drop ah).take c1.length) (b:=(xs.drop ah).drop c1.length) (b':=(ys.drop ah).drop c1.length) (by rw[xE g1,xE g3]);rw[wj,wj,Ow,Ow]at this;exact this
          rw[aio];simp only[Op.eqFields,aaG,ne_eq,YX,qk,cK,Mp,r1,r2,r3,dD];cases vi ((xs.drop ah).take c1.length) ((ys.drop ah).take c1.length)with|false=>simp[Ik]|true=>simp[xI,r4]
     have:=key fs.toList 0 M h (by simpa using Z) (by simpa using G);simpa using this
def aox(em:Bool):∀(d:Nat) (t:aS) (M:List KC),yM P d t=some M->∀(dd:Nat) (w:bI) (xs:List aC),oc M xs=true->(Instr.checkKey em (dd+d) t (FB P t xs)).run P w=.ok () w:=by
 intro d;induction d with
 |zero=>intro t M h;cases h
 |succ d ih=>
  intro t M h dd w xs Z
  unfold yM at h
  unfold FB
  rw[show dd+(d+1)=(dd+d)+1 from rfl]
  unfold Instr.checkKey
  cases hu:P.underlying t with
  |none=>rw[hu]at h;cases h
  |some kd=>
   rw[hu]at h
   cases kd<;>first|(cases h;done)|skip
   .rename_i k
    cases h;rcases xs with _|⟨x,_|⟨_,_⟩⟩<;>first|(cases Z;done)|(have:=xE Z;simp at this;done)|skip
    simp only[cK,dR hu,dD];rfl
   .cases h
    rcases xs with _|⟨x,_|⟨_,_⟩⟩<;>first|(cases Z;done)|(have:=xE Z;simp at this;done)|skip
    simp only[cK,dR hu,dD];rfl
   .rename_i fs
    dsimp only at h;split at h
    .cases h
    .simp only[cK,dR hu,dD];rw[<-Array.forIn_toList];have key:∀(l:List Field) (ah:Nat) (M:List KC),NO P (yM P d) l ah=some M->oc M (xs.drop ah)=true->(forIn l PUnit.unit λ f (_:PUnit)=>(do
      if f.name≠ "_" then Instr.checkKey em (dd+d) f.type (<-part f.type ⟨xs⟩ f.offset)
      pure (ForInStep.yield PUnit.unit):Sem (ForInStep PUnit))).run P w=.ok PUnit.unit w:=by
      intro l
      induction l with
      |nil=>intro ah M _ _;rfl
      |cons f l ihl=>
       intro ah M O U
       unfold NO at O
       split at O
       .cases O
       .rename_i mB
        have aaG:f.name≠ "_" :=λ e=>mB (.inl e);have Mp:f.offset=ah:=SO λ e=>mB (.inr e);cases Dc:yM P d f.type with
        |none=>rw[Dc]at O;cases O
        |some c1=>
         rw[Dc]at O
         dsimp only at O
         split at O
         .cases O
         .rename_i gu
          have Jj:(P.info? f.type).map (·.size)=some c1.length:=SO λ e=>gu e;obtain⟨c2,h4,rfl⟩:=zh.1 O;obtain⟨g1,g2⟩:=To U;rw[Ow]at g2;have r1:=adP Dc Jj g1 w;have r3:=ih f.type c1 Dc dd w _ g1;have r4:=ihl (ah+c1.length) c2 h4 g2;simp only[List.forIn_cons,aaG,ne_eq,YX,qk,cK,Mp,r1,r3,dD,iL,r4]
     have:=key fs.toList 0 M h (by simpa using Z);first|exact this|(simp at this⊢;rw[this];rfl)|(simp at this⊢;simp only[this];rfl)
def aEp{c:KC}(h:oz c v=true)(m:Nat):Instr.sameBits m v v=true:=by
 cases c with
 |i k=>obtain⟨n,rfl⟩:=M3 h;unfold Instr.sameBits;simp
 |s=>obtain⟨s,rfl⟩:=V7 h;unfold Instr.sameBits;simp[Zj]
 |b=>
  unfold oz at h
  split at h
  .rename_i e;cases e
  .rename_i e;cases e
  .unfold Instr.sameBits;simp
  .cases h
theorem akn:∀{M:List KC} {xs:List aC},oc M xs=true->∀m,(xs.zip xs).all (λ (x,y)=>Instr.sameBits m x y)=true
 |[],[],_,_=>rfl|[],_::_,h,_=>by cases h
 |_::_,[],h,_=>by cases h
 |c::M,x::xs,h,m=>by
  rw[DY]at h
  have⟨O,U⟩:=jc h
  simp only[List.zip_cons_cons,List.all_cons,aEp O,Yq]
  exact akn U m
def Ju(P:e8)(t:aS)(ks:KS):Bool:=match ks with|.one c=>(match P.underlying t,c with|some (.int k),.i j=>decide (k=j)|some .string,.s=>true|_,_=>false)&&!P.eqGuardType P.depth t|.agg M=>(match P.underlying t with|some (.struct _)=>true|_=>false)&&!P.eqGuardType P.depth t&&(match yM P 20 t with|some c=>Jt c M|none=>false)
where
 Jt:List KC->List KC->Bool
 |[],[]=>true|.i k::a,.i j::b=>decide (k=j)&&Jt a b|.s::a,.s::b=>Jt a b|.b::a,.b::b=>Jt a b|_,_=>false
theorem abd:∀{a b:List KC},Ju.Jt a b=true->a=b
 |[],[],_=>rfl|[],c::_,h=>by cases c<;>cases h
 |c::_,[],h=>by cases c<;>cases h
 |c::a,d::b,h=>by
  cases c<;>cases d<;>first
   |(cases h;done)
   |(unfold Ju.Jt at h
     rw[v8,xz]at h
     rw[h.1,abd h.2])
   |(unfold Ju.Jt at h
     rw[abd h])
def axa(h:Ju P t ks=true):Ob P t ks:=by
 cases ks with
 |one c=>
  unfold Ju at h
  rw[v8]at h
  obtain⟨O,U⟩:=h
  have hg:P.eqGuardType P.depth t=false:=by simpa using U
  cases hu:P.underlying t with
  |none=>rw[hu]at O;cases O
  |some kd=>
   rw[hu]at O
   cases kd<;>cases c<;>first|(cases O;done)|skip
   .rename_i k j
    have:k=j:=by simpa using O
    subst this;have kp:∀v,KP (.one (.i k)) v↔∃n,v=.int k n:=λ v=>⟨λ h=>M3 h,λ ⟨n,e⟩=>by rw[e];show oz (.i k) (.int k n)=true;unfold oz;simp⟩;refine⟨?_,λ x y w Z G=>?_,hg⟩
    .have ko:=axc (P:=P) hu;exact⟨λ e v w hv=>ko.check e v w ((kp v).1 hv),λ q es w hq iV=>ko.find q es w ((kp q).1 hq) λ e he=>(kp _).1 (iV e he),λ v hv=>ko.same v ((kp v).1 hv)⟩
    .obtain⟨a,rfl⟩:=(kp x).1 Z;obtain⟨b,rfl⟩:=(kp y).1 G;show(Op.equalIn (9999+1) t (.int k a) (.int k b)).run P w=_;rw[run_equalIn_int w 9999 t k k a b hu];show _=Result.ok (nC (.int k a) (.int k b)) w;rw[TV]
   .have kp:∀v,KP (.one .s) v↔∃s,v=.string s:=λ v=>⟨λ h=>V7 h,λ ⟨n,e⟩=>by rw[e];rfl⟩
    refine⟨?_,λ x y w Z G=>?_,hg⟩
    .have ko:=axd (P:=P) hu;exact⟨λ e v w hv=>ko.check e v w ((kp v).1 hv),λ q es w hq iV=>ko.find q es w ((kp q).1 hq) λ e he=>(kp _).1 (iV e he),λ v hv=>ko.same v ((kp v).1 hv)⟩
    .obtain⟨a,rfl⟩:=(kp x).1 Z;obtain⟨b,rfl⟩:=(kp y).1 G;show(Op.equalIn (9999+1) t (.string a) (.string b)).run P w=_;rw[run_equalIn_string w 9999 t a b hu];show _=Result.ok (nC (.string a) (.string b)) w;rw[agv]
 |agg M=>
  unfold Ju at h
  rw[v8,v8]at h
  obtain⟨⟨h0,U⟩,O⟩:=h
  have hg:P.eqGuardType P.depth t=false:=by simpa using U
  cases hs:yM P 20 t with
  |none=>rw[hs]at O;cases O
  |some c=>
   rw[hs]at O
   have:=abd O
   subst this
   cases hu:P.underlying t with
   |none=>rw[hu]at h0;cases h0
   |some kd=>
    rw[hu]at h0
    cases kd<;>first|(cases h0;done)|skip
    rename_i fs
    have hv:∀xs,FB P t xs=.agg ⟨xs⟩:=λ xs=>by unfold FB;rw[hu]
    have Et:∀x y w,KP (.agg c) x->KP (.agg c) y->(Op.equal t x y).run P w=.ok (c8 x y) w:=by rintro x y w ⟨xs,rfl,Z⟩ ⟨ys,rfl,G⟩;have:=apO 20 t c hs 9980 w xs ys Z G;rw[hv,hv]at this;exact this
    refine⟨aiP hu (λ k v Q uh=>?_) (λ e v w Q=>?_) (λ k v w Q uh=>?_) (λ v Q=>?_),Et,hg⟩
    .obtain⟨xs,rfl,_⟩:=Q
     obtain⟨ys,rfl,_⟩:=uh;rfl
    .obtain⟨xs,rfl,Z⟩:=Q
     have:=aox (P:=P) e 20 t c hs 9980 w xs Z;rw[hv]at this;exact this
    .refine⟨_,Et k v w Q uh,?_⟩
     rw[agq Q];exact⟨λ e=>e.symm,λ e=>e.symm⟩
    .obtain⟨xs,rfl,Z⟩:=Q
     unfold Instr.sameBits;simp only[beq_self_eq_true,Yq];exact akn Z 9999
end
section
variable{P:e8}{t e:aS}{k:IntKind}
def Nz(he:P.underlying e=some (.int k))(a b:Int)(w:bI):(part e #[.int k a,.int k b] 0).run P w=.ok (.int k a) w/\(part e #[.int k a,.int k b] 1).run P w=.ok (.int k b) w:=by constructor<;>(unfold part isAgg;simp only[cK,dR he,dD,iL,uZ,n_];rfl)
def agz(hu:P.underlying t=some (.array 2 e))(he:P.underlying e=some (.int k))(hs:(P.info? e).map (·.size)=some 1)(a b c d:Int)(w:bI):(Op.equal t (.agg #[.int k a,.int k b]) (.agg #[.int k c,.int k d])).run P w=.ok (a==c&&b==d) w:=by
 have⟨i,A,pO⟩:=zh.1 hs
 have gu:(sizeOf e).run P w=.ok 1 w:=by simp[sizeOf,typeInfo,A,pO]
 unfold Op.equal Op.maxDepth Op.equalIn
 simp only[cK,dR hu,dD,gu]
 simp only[afw]
 simp[List.range']
 simp only[(Nz he a b w).1,(Nz he a b w).2,(Nz he c d w).1,(Nz he c d w).2,dD,run_equalIn_int w 9998 e k k _ _ he]
 cases O:(a==c)<;>cases U:(b==d)<;>simp
def af2(em:Bool)(n:Nat)(he:P.underlying e=some (.int k))(a:Int)(w:bI):(Instr.checkKey em (n+1) e (.int k a)).run P w=.ok () w:=by unfold Instr.checkKey;simp only[cK,dR he,dD];rfl
def aoy(em:Bool)(hu:P.underlying t=some (.array 2 e))(he:P.underlying e=some (.int k))(hs:(P.info? e).map (·.size)=some 1)(a b:Int)(w:bI):(Instr.checkKey em Op.maxDepth t (.agg #[.int k a,.int k b])).run P w=.ok () w:=by
 have⟨i,A,pO⟩:=zh.1 hs
 have gu:(sizeOf e).run P w=.ok 1 w:=by simp[sizeOf,typeInfo,A,pO]
 unfold Op.maxDepth Instr.checkKey
 simp only[cK,dR hu,dD]
 simp only[afw]
 simp[List.range']
 have c1:=af2 em 9998 he a w
 have c2:=af2 em 9998 he b w
 simp only[Nat.reduceAdd]at c1 c2
 simp only[gu,(Nz he a b w).1,(Nz he a b w).2,dD,c1,c2]
def am7(h:oc [.i k,.i k] vs=true):∃a b,vs=[.int k a,.int k b]:=by
 rcases vs with _|⟨x,_|⟨y,_|⟨_,_⟩⟩⟩<;>first|(have:=xE h;simp at this;done)|skip
 rw[DY]at h;have⟨O,h⟩:=jc h;rw[DY]at h;have⟨U,_⟩:=jc h;obtain⟨a,rfl⟩:=M3 O;obtain⟨b,rfl⟩:=M3 U;exact⟨a,b,rfl⟩
def apH(a b c d:Int):c8 (.agg #[.int k a,.int k b]) (.agg #[.int k c,.int k d])=(a==c&&b==d):=by show vi [.int k a,.int k b] [.int k c,.int k d]=_;rw[Gh,Gh,TV,TV];cases a==c<;>cases b==d<;>rfl
def axb(hu:P.underlying t=some (.array 2 e))(he:P.underlying e=some (.int k))(hs:(P.info? e).map (·.size)=some 1)(hg:P.eqGuardType P.depth t=false):Ob P t (.agg [.i k,.i k]):=by
 have kp:∀v,KP (.agg [.i k,.i k]) v->∃a b,v=.agg #[.int k a,.int k b]:=by rintro v ⟨xs,rfl,h⟩;obtain⟨a,b,rfl⟩:=am7 h;exact⟨a,b,rfl⟩
 refine⟨aiP hu (λ u v Q hv=>?_) (λ em v w Q=>?_) (λ u v w Q hv=>?_) (λ v Q=>?_),λ x y w Z G=>?_,hg⟩
 .obtain⟨a,b,rfl⟩:=kp _ Q;obtain⟨c,d,rfl⟩:=kp _ hv;rfl
 .obtain⟨a,b,rfl⟩:=kp _ Q;exact aoy em hu he hs a b w
 .obtain⟨a,b,rfl⟩:=kp _ Q;obtain⟨c,d,rfl⟩:=kp _ hv;refine⟨_,agz hu he hs _ _ _ _ w,?_⟩;simp only[v8,zk];constructor
  .rintro⟨O,U⟩;simp[O,U]
  .intro h;simp at h;simp[h]
 .obtain⟨a,b,rfl⟩:=kp _ Q;simp[Instr.sameBits]
 .obtain⟨a,b,rfl⟩:=kp _ Z;obtain⟨c,d,rfl⟩:=kp _ G;rw[apH];exact agz hu he hs _ _ _ _ w
def abf(P:e8)(t:aS)(ks:KS):Bool:=match P.underlying t with|some (.array 2 e)=>(match ks with|.agg [.i k,.i k']=>decide (k=k')&&(match P.underlying e with|some (.int j)=>decide (j=k)|_=>false)&&decide ((P.info? e).map (·.size)=some 1)&&!P.eqGuardType P.depth t|_=>false)|_=>Ju P t ks
def aw9(h:abf P t ks=true):Ob P t ks:=by
 unfold abf at h;split at h
 .rename_i e hu;split at h
  .rename_i k k';simp only[v8,xz,ae1]at h;obtain⟨⟨⟨rfl,U⟩,F⟩,h4⟩:=h;split at U
   .rename_i j he;have:j=k:=by simpa using U
    subst this;exact axb hu he F h4
   .cases U
  .cases h
 .exact axa h
end
abbrev Goc(β:Type):=Task->D->(J->D->R β)->R β
variable{kk:γ->R β}
structure Le{β γ:Type}(kk:γ->R β)(a:R β)(aG:R γ):Prop where
 out:∀q,a=.ok q->∃r,aG=.ok r/\kk r=.ok q
theorem Le.er{β γ:Type}{kk:γ->R β}{l:AT}{aG:R γ}:Le kk (.er l) aG:=⟨λ _ h=>by cases h⟩
def Le.ret{r:γ}:Le kk (kk r) (.ok r):=⟨λ _ h=>⟨r,rfl,h⟩⟩
def Nr{cL:R γ}{s:Nat->R β}{S:Nat->R γ}(hz:Le kk z cL)(hs:∀m,Le kk (s m) (S m)):Le kk (eC z s n) (eC cL S n):=by cases n with|zero=>exact hz|succ m=>exact hs m
def zn{t:R β}{au ay:R γ}(hf:Le kk z au)(ht:Le kk t ay):Le kk (aB z t y) (aB au ay y):=by cases y with|false=>exact hf|true=>exact ht
def CV{t:Tr α}{k:α->R β}{K:α->R γ}{bZ:R γ}(h:∀x,Le kk (k x) (K x))(hd:Le kk z bZ):Le kk (cB t n k z) (cB t n K bZ):=by rw[jJ,jJ];cases t.get n with|none=>exact hd|some v=>exact h v
def JV{t:Tr α}{v:Option α}{k:Tr α->R β}{K:Tr α->R γ}{bZ:R γ}(h:∀x,Le kk (k x) (K x))(hd:Le kk z bZ):Le kk (j_ b t n v k z) (j_ b t n v K bZ):=by rw[DA,DA];cases t.set b n v with|none=>exact hd|some v=>exact h v
def Lp{k:Nat->R β}{K:Nat->R γ}(h:∀x,Le kk (k x) (K x)):Le kk (d_ n k) (d_ n K):=by rw[mr,mr];exact h n
def Rb{f:α->(δ->R β)->R β}{au:α->(δ->R γ)->R γ}{l:List α}{k:List δ->R β}{K:List δ->R γ}(hf:∀a g dW,(∀x,Le kk (g x) (dW x))->Le kk (f a g) (au a dW))(h:∀x,Le kk (k x) (K x)):Le kk (iA f l k) (iA au l K):=by induction l generalizing k K with|nil=>exact h []|cons a l ih=>exact hf a _ _ λ b=>ih λ l'=>h (b::l')
def Q5{l:List α}{k:Nat->R β}{K:Nat->R γ}(h:∀x,Le kk (k x) (K x)):Le kk (jV l k) (jV l K):=by induction l generalizing k K with|nil=>exact h 0|cons a l ih=>exact ih λ n=>h (Nat.succ n)
def G_{l:List α}{k:α->R β}{K:α->R γ}{bZ:R γ}(h:∀x,Le kk (k x) (K x))(hd:Le kk z bZ):Le kk (mE l n k z) (mE l n K bZ):=by
 induction l generalizing n with
 |nil=>exact hd
 |cons a l ih=>
  cases n with|zero=>exact h a|succ m=>exact ih
def Nt{k:Nat->D->R β}{K:Nat->D->R γ}(h:∀x y,Le kk (k x y) (K x y)):Le kk (kM H o' k) (kM H o' K):=by unfold kM;repeat' (first|with_reducible exact Le.er|with_reducible exact Le.ret|with_reducible exact h _ _|intro _|with_reducible apply Nr|with_reducible apply zn|with_reducible apply CV|with_reducible apply JV|with_reducible apply Lp|with_reducible apply Rb|with_reducible apply Q5|with_reducible apply G_|with_reducible apply_assumption|contradiction|(split<;>(try dsimp only)))
def Rn{k:AO->R β}{K:AO->R γ}(h:∀x,Le kk (k x) (K x)):Le kk (ie H b k) (ie H b K):=by unfold ie;repeat' (first|with_reducible exact Le.er|with_reducible exact Le.ret|with_reducible exact h _|intro _|with_reducible apply Nr|with_reducible apply zn|with_reducible apply CV|with_reducible apply JV|with_reducible apply Lp|with_reducible apply Rb|with_reducible apply Q5|with_reducible apply G_|with_reducible apply Nt|with_reducible apply_assumption|contradiction|(split<;>(try dsimp only)))
def alB{o:Option AO}{k:D->R β}{K:D->R γ}(h:∀x,Le kk (k x) (K x)):Le kk (me H b o k) (me H b o K):=by unfold me;repeat' (first|with_reducible exact Le.er|with_reducible exact Le.ret|with_reducible exact h _|intro _|with_reducible apply Nr|with_reducible apply zn|with_reducible apply CV|with_reducible apply JV|with_reducible apply Lp|with_reducible apply Rb|with_reducible apply Q5|with_reducible apply G_|with_reducible apply Nt|with_reducible apply Rn|with_reducible apply_assumption|contradiction|(split<;>(try dsimp only)))
def alT{t:CX}{l:AU}{k:CX->R β}{K:CX->R γ}(h:∀x,Le kk (k x) (K x)):Le kk (kN t ah l k) (kN t ah l K):=by
 induction l generalizing ah t with
 |nil=>exact h t
 |cons v l ih=>
  unfold kN at ih⊢
  rw[qA,qA]
  exact JV (λ t'=>Lp λ i'=>ih (ah:=i') (t:=t')) Le.er
def azI{k:J->R β}{K:J->R γ}(h:∀x,Le kk (k x) (K x)):Le kk (JJ v k) (JJ v K):=by
 unfold JJ;split
 .exact Rb (λ a g dW hg=>hg _) λ l=>h _
 .exact h _
def agC{k:J->R β}{K:J->R γ}(h:∀c,Le kk (k c) (K c)):Le kk (bE E cI c k) (bE E cI c K):=by unfold bE;repeat' (first|with_reducible exact Le.er|with_reducible exact Le.ret|with_reducible exact h _|intro _|with_reducible apply Nr|with_reducible apply zn|with_reducible apply CV|with_reducible apply JV|with_reducible apply Lp|with_reducible apply Rb|with_reducible apply Q5|with_reducible apply G_|with_reducible apply Nt|with_reducible apply Rn|with_reducible apply alB|with_reducible apply alT|with_reducible apply azI|with_reducible apply_assumption|contradiction|(split<;>(try dsimp only)))
def alI{ak:List Oper}{no:Unit->R β}{Yes No:Unit->R γ}(G:∀u,Le kk (xd u) (Yes u))(hn:∀u,Le kk (no u) (No u)):Le kk (BB Y ak g xd no) (BB Y ak g Yes No):=by
 unfold BB
 split
 .exact G _
 .refine G_ (λ o=>?_) Le.er
  split
  .refine CV (λ v=>?_) Le.er;split
   .exact zn (zn (G _) (hn _)) (zn (hn _) (G _))
   .exact hn _
  .exact Le.er
def TJ{d:Option Tmp}{v:J}{k:aE->R β}{K:aE->R γ}(h:∀x,Le kk (k x) (K x)):Le kk (qt Y d v k) (qt Y d v K):=by
 unfold qt;split
 .exact h _
 .exact zn Le.er (JV (λ _=>h _) Le.er)
section
variable{E:aK}{β:Type}{pw:Goc β}{rc:mP}
def apv{kk:γ->R β}{k:Nat->aE->D->R β}{K:Nat->aE->D->R γ}(h:∀x y z,Le kk (k x y z) (K x y z)):Le kk (Gf Y ps aI4 bd H k) (Gf Y ps aI4 bd H K):=by
 unfold Gf;have⟨s,n,m,r,f⟩:=Y;cases r with
 |none=>exact Nt λ _ _=>Nt λ _ _=>h _ _ _
 |some l=>
  refine Rn λ o=>?_
  cases o with
  |loop=>exact Nt λ _ _=>h _ _ _
  |cells=>exact Le.er|tN=>exact Le.er|map=>exact Le.er|deferred=>exact Le.er
def aEO{kk:γ->R β}{k:Nat->CX->R β}{K:Nat->CX->R γ}(h:∀x y,Le kk (k x y) (K x y)):Le kk (NQ l k) (NQ l K):=by unfold NQ;exact alT λ t=>Q5 λ n=>h _ _
def aEt{kk:γ->R β}{args:AU}{k:CX->R β}{K:CX->R γ}(h:∀x,Le kk (k x) (K x)):Le kk (Fu n ps args s k) (Fu n ps args s K):=by
 unfold Fu;induction ps generalizing args s with
 |nil=>
  cases args with|nil=>exact h _|cons a l=>exact Le.er
 |cons p l ih=>
  rw[qA,qA]
  cases args with|nil=>exact Le.er|cons a args=>exact zn Le.er (JV (λ s1=>ih (args:=args) (s:=s1)) Le.er)
end
end
end Go.Proofs.YtgipmaoplfkdoaaGreatDoor
