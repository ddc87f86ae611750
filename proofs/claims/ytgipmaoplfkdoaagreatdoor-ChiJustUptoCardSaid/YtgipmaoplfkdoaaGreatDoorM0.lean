import Derived.WalkKit
import Derived.WalkSpells
import Derived.WalkLawsBesides
import Derived.Maps.Own
import Derived.Maps.OwnOps
import Derived.Lib.Hide
import Derived.Deep.AppendLies
import Derived.Maps.AppendAt
import Derived.Laws.AppendOwnNone
import Derived.Deep.QuietTactic
import Derived.BigQuiet
import Derived.SliceStrings
import Derived.Deep.Slices
import Derived.Laws.CopyRow
import Derived.Laws.Cells
import Derived.Orders
import Derived.Laws.Tables
set_option linter.all false
set_option maxRecDepth 100000
set_option maxHeartbeats 400000000
namespace Go.Proofs
theorem ω{p:Prop}(h:p:=by omega):p:=h
theorem ζ{p:Prop}(h:p:=by simp):p:=h
theorem ξ{p:Prop}(h:p:=by simp;omega):p:=h
theorem η{p:Prop}(h:p:=by decide):p:=h
end Go.Proofs
namespace Go.Proofs.YtgipmaoplfkdoaaGreatDoor
noncomputable section
open Go.RowKit
variable{b s N sh ax c':Nat}{o x:Obj}{t:TypeId}{Y:Nat×Nat}{v:Value}{P:Program}{d:TypeDesc}{es:List MapEntry}{K:Value->Prop}{β α γ:Type}{ex:Bool}{j:IntKind}{gM:Array MapEntry}{r:β}
def dD:=@Go.Result.andThen_ok
def cK:=@Go.Sem.run_bind
def dR:=@Go.run_underlying
def iL:=@Go.Sem.run_pure
abbrev aC:=Go.Value
variable{m m2:List aC}{xv:aC}{l':Array aC}
abbrev aI:=ByteArray
abbrev aS:=Go.TypeId
variable{src dst:aS}
abbrev bI:=Go.World
variable{w0:bI}
abbrev e8:=Go.Program
abbrev dy:=Go.Operand
variable{c:dy}{lo:Option dy}
abbrev fD:=Go.FuncId
theorem aF{n:Nat}:n≤n:=Nat.le_refl n
def Yh:=@Array.foldl_toList
def DU:=@Array.getD_eq_getD_getElem?
def aeV:=@Array.getElem?_append_left
def HO:=@Array.getElem?_eq_getElem
def tI:=@Array.getElem?_eq_some_iff
def aeW:=@Array.getElem?_map
def aeX:=@Array.getElem?_modify
def aeY:=@Array.getElem?_range
def HP:=@Array.getElem?_setIfInBounds
def pG:=@Array.getElem?_toList
def rH:=@Array.length_toList
def Ym:=@Array.mk.injEq
def yY:=@Array.toList_append
def aeZ:=@Array.toList_extract
def Yo:=@Array.toList_modify
def ae0:=@Array.toList_zipIdx
def v8:=@Bool.and_eq_true
def qH:=@Bool.eq_iff_iff
def uZ:=@Bool.false_eq_true
def ae1:=@Bool.not_eq_true'
def HQ:=@Bool.or_eq_false_iff
def xt:=@Bool.or_eq_true
def Kv:=@Bool.or_true
def Yq:=@Bool.true_and
def Ot:=@Bool.true_or
def ae2:=@Classical.byContradiction
def HS:=@Classical.choose_spec
def SO:=@Decidable.byContradiction
def Ou:=@Eq.symm
def so:=@Iff.rfl
def Ys:=@Int.le_refl
def Yu:=@Int.lt_or_le
def Yv:=@Int.natCast_nonneg
def Yw:=@Int.negSucc_eq
def ae3:=@Int.negSucc_lt_zero
def SP:=@Int.ofNat.inj
def Yx:=@Int.ofNat_eq_natCast
def Kw:=@Int.toNat_natCast
def HT:=@List.Perm.refl
def Yy:=@List.all_eq_false
def yZ:=@List.all_eq_true
def Yz:=@List.any_eq_false
def YB:=@List.any_eq_true
def FK:=@List.append_assoc
def HU:=@List.append_nil
def YC:=@List.concat_eq_append
def KA:=@List.cons.injEq
def Ov:=@List.cons_append
def Ow:=@List.drop_drop
def Ox:=@List.drop_eq_getElem_cons
def ae4:=@List.drop_eq_nil_of_le
def ae5:=@List.drop_of_length_le
def SQ:=@List.drop_zero
def BM:=@List.eq_nil_of_length_eq_zero
def SS:=@List.eq_nil_or_concat
def SU:=@List.ext_getElem?
def ae6:=@List.extract_eq_take_drop
def YD:=@List.filter_append
def ae7:=@List.findIdx?_cons
def KB:=@List.findIdx?_eq_none_iff
def KD:=@List.findIdx?_eq_some_iff_getElem
def HV:=@List.flatMap_append
def BN:=@List.flatMap_cons
def YE:=@List.flatten_cons
def ae8:=@List.foldl_append
def DV:=@List.foldl_cons
def jI:=@List.getElem?_append_left
def mi:=@List.getElem?_append_right
def YF:=@List.getElem?_cons_succ
def ae9:=@List.getElem?_cons_zero
def v_:=@List.getElem?_drop
def bf:=@List.getElem?_eq_getElem
def y_:=@List.getElem?_eq_none
def cW:=@List.getElem?_eq_some_iff
def y':=@List.getElem?_map
def sq:=@List.getElem?_of_mem
def afa:=@List.getElem?_reverse
def rI:=@List.getElem?_take
def SY:=@List.getElem?_toArray
def HW:=@List.getElem_append_left
def afb:=@List.getElem_append_right
def afc:=@List.getElem_cons_succ
def afd:=@List.getElem_cons_zero
def BO:=@List.getElem_map
def cG:=@List.getElem_mem
def rJ:=@List.getElem_of_mem
def FL:=@List.getElem_take
def Oy:=@List.getElem_zip
def KG:=@List.getLast?_eq_getElem?
def YG:=@List.getLast?_eq_some_getLast
def afe:=@List.head?_filter
def iP:=@List.length_append
def qi:=@List.length_cons
def FM:=@List.length_drop
def aff:=@List.length_dropLast
def YH:=@List.length_eq_zero_iff
def BP:=@List.length_filter_le
def afg:=@List.length_flatMap
def bW:=@List.length_map
def wg:=@List.length_nil
def za:=@List.length_pos_iff
def Aw:=@List.length_range
def afh:=@List.length_replicate
def HX:=@List.length_singleton
def eK:=@List.length_take
def HY:=@List.length_zip
def YI:=@List.mapM_cons
def lF:=@List.map_append
def SZ:=@List.map_congr_left
def kB:=@List.map_cons
def u_:=@List.map_map
def FN:=@List.map_nil
def b_:=@List.mem_append
def zb:=@List.mem_append_left
def S3:=@List.mem_append_right
def cZ:=@List.mem_cons
def afi:=@List.mem_cons_self
def Oz:=@List.mem_filter
def YJ:=@List.mem_filterMap
def jn:=@List.mem_map
def oS:=@List.mem_of_getElem?
def KH:=@List.mem_of_getLast?
def mj:=@List.mem_range
def jo:=@List.mem_singleton
def S4:=@List.nil_append
def zd:=@List.nodup_append
def OA:=@List.nodup_cons
def xu:=@List.not_mem_nil
def KI:=@List.of_mem_zip
def xw:=@List.pairwise_cons
def HZ:=@List.pairwise_iff_getElem
def S8:=@List.pairwise_lt_range
def S9:=@List.pairwise_map
def S_:=@List.pairwise_reverse
def YK:=@List.range_succ
def Ta:=@List.size_toArray
def afj:=@List.sublist_append_left
def tJ:=@List.sum_append
def sr:=@List.sum_cons
def KJ:=@List.sum_nil
def mI:=@List.take_add_one
def wj:=@List.take_append_drop
def iF:=@List.take_length
def OB:=@List.take_of_length_le
def KK:=@List.take_succ_eq_append_getElem
def vd:=@Nat.add_assoc
def DW:=@Nat.add_mul
def afk:=@Nat.add_sub_cancel
def YL:=@Nat.add_sub_cancel_left
def xx:=@Nat.add_zero
def FO:=@Nat.and_le_right
def su:=@Nat.beq_eq
def kC:=@Nat.ble_eq
def OC:=@Nat.ble_eq_true_of_le
def tK:=@Nat.blt_eq
def afl:=@Nat.div_lt_iff_lt_mul
def afm:=@Nat.eq_of_beq_eq_true
def afn:=@Nat.eq_of_mul_eq_mul_right
def afo:=@Nat.eq_of_testBit_eq
def ze:=@Nat.eq_zero_or_pos
def FQ:=@Nat.le_max_left
def BQ:=@Nat.le_max_right
def OD:=@Nat.le_of_ble_eq_true
def tL:=@Nat.le_of_lt
def OE:=@Nat.le_of_succ_le
def H7:=@Nat.le_succ
def afp:=@Nat.le_succ_of_le
def YM:=@Nat.le_total
def aY:=@Nat.le_trans
def Tb:=@Nat.lt_irrefl
def KL:=@Nat.lt_of_le_of_lt
def aT:=@Nat.lt_of_lt_of_le
def zf:=@Nat.lt_of_sub_eq_succ
def kb:=@Nat.lt_or_ge
def pH:=@Nat.lt_succ_iff_lt_or_eq
def KM:=@Nat.lt_succ_of_lt
def sx:=@Nat.lt_succ_self
def Tc:=@Nat.lt_trichotomy
def FU:=@Nat.min_eq_left
def YN:=@Nat.mod_eq_of_lt
def H8:=@Nat.mod_lt
def YO:=@Nat.mul_add
def Td:=@Nat.mul_comm
def YQ:=@Nat.mul_le_mul
def nW:=@Nat.mul_le_mul_right
def BR:=@Nat.mul_one
def bC:=@Nat.ne_of_lt
def Te:=@Nat.not_lt
def YS:=@Nat.or_lt_two_pow
def afq:=@Nat.pow_le_pow_right
def afr:=@Nat.pow_lt_pow_right
def OF:=@Nat.pow_succ
def YT:=@Nat.sub_lt_sub_left
def YU:=@Nat.sub_self
def Ax:=@Nat.sub_zero
def dz:=@Nat.succ_le_of_lt
def ve:=@Nat.succ_mul
def YV:=@Nat.testBit_and
def afs:=@Nat.testBit_lt_two_pow
def zg:=@Nat.testBit_or
def H9:=@Nat.testBit_succ
def aft:=@Nat.testBit_two_pow
def Tf:=@Nat.testBit_two_pow_mul_add
def YW:=@Nat.testBit_zero
def mQ:=@Nat.zero_add
def dQ:=@Nat.zero_le
def FV:=@Nat.zero_lt_of_lt
def OG:=@Nat.zero_mul
def qj:=@Ne.symm
def Tg:=@Option.bind_eq_some_iff
def afu:=@Option.isSome_iff_exists
def afv:=@Option.isSome_map
def zh:=@Option.map_eq_some_iff
def xy:=@Option.map_some
def FX:=@Option.some.inj
def zi:=@Option.some.injEq
def Ay:=@Option.toList_some
def zj:=@Prod.mk.inj
def afw:=@Std.Legacy.Range.forIn_eq_forIn_range'
def OH:=@and_true
def afx:=@beq_eq_false_iff_ne
def zk:=@beq_iff_eq
def iQ:=@congrArg
def OJ:=@decide_eq_false
def Th:=@decide_eq_false_iff_not
def Ti:=@decide_eq_true
def rK:=@decide_eq_true_eq
def xz:=@decide_eq_true_iff
def OK:=@dif_pos
def OL:=@eq_iff_iff
def FY:=@false_iff
def FZ:=@getElem!_pos
def n_:=@if_false
def ao:=@if_neg
def aq:=@if_pos
def qk:=@if_true
def YX:=@not_false_eq_true
def Tj:=@of_decide_eq_true
def Tk:=@or_assoc
def xD:=@or_false
def KN:=@true_and
structure jG(S:Nat->Prop)(w w':World):Prop where
 os:w'.os=w.os
 tape:w'.tape=w.tape
 output:w'.output=w.output
 size:w.heap.size<=w'.heap.size
 block:∀k,k<w.heap.size->¬S k->w'.heap[k]?=w.heap[k]?
namespace jG
variable{S ay:Nat->Prop}{w w1 w':World}
def refl(S:Nat->Prop)(w:World):jG S w w:=⟨rfl,rfl,rfl,aF,λ _ _ _=>rfl⟩
theorem trans(h:jG S w w1)(U:jG S w1 w'):jG S w w':=
 ⟨U.os.trans h.os,U.tape.trans h.tape,U.output.trans h.output,aY h.size U.size,
  λ k Q e=>(U.block k (aT Q h.size) e).trans (h.block k Q e)⟩
def alloc(h:jG S w w1)(o:Obj):jG S w (w1.alloc o):=h.trans ⟨rfl,rfl,rfl,ζ,λ k Q _=>heap_alloc_old _ _ Q⟩
def below(h:jG (λ _=>False) w w'):Below w.heap.size w w':=⟨h.os,h.tape,h.output,h.size,λ k Q=>h.block k Q (λ e=>e)⟩
end jG
def DZ{w:World}(h:w.heap[b]?=some o):b<w.heap.size:=(tI.1 h).1
def O8{w:World}{i:Nat}{M:Array Value}(h:w.heap[b]?=some (.cells M t Y))(e:M[i]?=some v):w.cell? ⟨b,i,none⟩=some v:=by rw[cell_of_row w b i M t Y h];exact e
def aqu{w:World}{i:Nat}{M:Array Value}(h:w.heap[b]?=some (.cells M t (0,0))):w.frozen? ⟨b,i,none⟩=false:=by simp[World.frozen?,h]
def Zj(a b:ByteArray):(a==b)=true↔a=b:=by have⟨⟨x⟩⟩:=a;have⟨⟨y⟩⟩:=b;show((⟨x⟩:Array UInt8)==⟨y⟩)=true↔_;simp
open Classical in
def rO(k:Value):List MapEntry->Nat->Option (Nat×Value)
 |[],_=>none|e::es,i=>if e.key=k then some (i,e.val)else rO k es (i+1)
structure Oc(P:Program)(kt:TypeId)(K:Value->Prop):Prop where
 check:∀e v w,K v->(Instr.checkKey e 10000 kt v).run P w=.ok () w
 find:∀k es w,K k->(∀e∈es,K e.key)->(Instr.findKey kt k es).run P w=.ok (rO k es 0) w
 same:∀v,K v->Instr.sameBits 10000 v v=true
theorem agN{d:TypeDesc}{k:Value}:∀(es:List MapEntry) (i:Nat),(∀e∈es,∃b,Instr.sameNow d k e.key=some b/\(b=true↔e.key=k))->Instr.findNow d k es i=some (rO k es i)
 |[],_,_=>rfl
 |e::es,i,h=>by
  have⟨b,n,g⟩:=h e ζ
  unfold Instr.findNow rO
  rw[n]
  cases b
  .have p:¬e.key=k:=λ e=>by simpa using g.2 e
   simp only[ao p];exact agN es (i+1) (λ e he=>h e (by simp[he]))
  .rw[aq (g.1 rfl)]
def agM{w:World}(hd:P.underlying t=some d)(h:∀e∈es,∃b,Instr.sameNow d v e.key=some b/\(b=true↔e.key=v)):(Instr.findKey t v es).run P w=.ok (rO v es 0) w:=by
 unfold Instr.findKey
 simp only[cK,dR hd,dD,agN es 0 h,iL]
def axc{q:IntKind}(hd:P.underlying t=some (.int q)):Oc P t (λ v=>∃n,v=.int q n)where
 check:=by rintro e _ w ⟨n,rfl⟩;unfold Instr.checkKey;simp[dR hd]
 find:=by rintro _ es w ⟨n,rfl⟩ h;refine agM hd λ e he=>?_;have⟨m,B⟩:=h e he;rw[B];refine⟨n==m,by simp[Instr.sameNow],?_⟩;simp only[zk,Value.int.injEq,KN];exact⟨λ e=>e.symm,λ e=>e.symm⟩
 same:=by rintro _ ⟨n,rfl⟩;simp[Instr.sameBits]
def axd(hd:P.underlying t=some .string):Oc P t (λ v=>∃s,v=.string s)where
 check:=by rintro e _ w ⟨n,rfl⟩;unfold Instr.checkKey;simp[dR hd]
 find:=by rintro _ es w ⟨n,rfl⟩ h;refine agM hd λ e he=>?_;have⟨m,B⟩:=h e he;rw[B];refine⟨n==m,by simp[Instr.sameNow],?_⟩;simp only[Zj,Value.string.injEq];exact⟨λ e=>e.symm,λ e=>e.symm⟩
 same:=by rintro _ ⟨n,rfl⟩;simp[Instr.sameBits,Zj]
theorem agK{P:Program}{kt:TypeId}{k:Value}{w:World}:∀(es:List MapEntry) (i:Nat),(∀e∈es,∃b,(Op.equal kt k e.key).run P w=.ok b w/\(b=true↔e.key=k))->(Instr.findAsking kt k es i).run P w=.ok (rO k es i) w
 |[],_,_=>by simp[Instr.findAsking,rO]
 |e::es,i,h=>by
  have⟨b,n,g⟩:=h e ζ
  unfold Instr.findAsking rO
  simp only[cK,n,dD]
  cases b
  .have p:¬e.key=k:=λ e=>by simpa using g.2 e
   simp only[ao p,uZ,n_];exact agK es (i+1) (λ e he=>h e (by simp[he]))
  .simp[aq (g.1 rfl)]
def aiP(hd:P.underlying t=some d)(g:∀k v,K k->K v->Instr.sameNow d k v=none)(check:∀e v w,K v->(Instr.checkKey e 10000 t v).run P w=.ok () w)(eq:∀k v w,K k->K v->∃b,(Op.equal t k v).run P w=.ok b w/\(b=true↔v=k))(same:∀v,K v->Instr.sameBits 10000 v v=true):Oc P t K where
 check:=check
 same:=same
 find:=by
  intro k es w Q h;unfold Instr.findKey;simp only[cK,dR hd,dD];cases es with
  |nil=>simp[Instr.findNow,rO]
  |cons e es=>
   have:Instr.findNow d k (e::es) 0=none:=by unfold Instr.findNow;rw[g k e.key Q (h e ζ)]
   rw[this]
   exact agK _ _ λ e he=>eq k e.key w Q (h e he)
inductive R(α:Type)where
 |ok (a:α)|er (l:List Nat)
variable{f:Nat->R β}
inductive Tr(α:Type)where
 |e|n (o:Option α) (l r:Tr α)
def rV{α β:Type}(z:α->β)(s:Nat->(α->β)->α->β)(n:Nat):α->β:=Nat.rec z s n
def eC(z:β)(s:Nat->β)(n:Nat):β:=Nat.rec z (λ m _=>s m) n
def aB(f t:β)(b:Bool):β:=Bool.rec f t b
def jQ{γ:Type}(z:γ->β)(s:α->List α->(γ->β)->γ->β)(l:List α):γ->β:=List.rec (motive:=λ _=>γ->β) z s l
namespace Tr
variable{α:Type}
def get:Tr α->Nat->Option α
 |.e,_=>none|.n o _ _,0=>o|.n _ l r,k+1=>if k%2=0 then get l (k/2)else get r (k/2)
def left:Tr α->Tr α|.e=>.e|.n _ l _=>l
def right:Tr α->Tr α|.e=>.e|.n _ _ r=>r
def top:Tr α->Option α|.e=>none|.n o _ _=>o
def set:Nat->Tr α->Nat->Option α->Option (Tr α)
 |0,_,_,_=>none|_+1,t,0,v=>some (.n v t.left t.right)
 |f+1,t,k+1,v=>
  if k%2=0 then(set f t.left (k/2) v).map λ l'=>.n t.top l' t.right
  else(set f t.right (k/2) v).map λ e=>.n t.top t.left e
end Tr
def cB{α:Type}(t:Tr α):Nat->(α->β)->β->β:=Tr.rec (motive:=λ _=>Nat->(α->β)->β->β) (λ _ _ d=>d) (λ o _ _ il g k e d=>Nat.rec (motive:=λ _=>β) (Option.rec (motive:=λ _=>β) d e o) (λ k' _=>Bool.rec (motive:=λ _=>β) (g (Nat.div k' 2) e d) (il (Nat.div k' 2) e d) (Nat.beq (Nat.mod k' 2) 0)) k) t
def j_{α:Type}(fuel:Nat):Tr α->Nat->Option α->(Tr α->β)->β->β:=Nat.rec (motive:=λ _=>Tr α->Nat->Option α->(Tr α->β)->β->β) (λ _ _ _ _ d=>d) (λ _ h t k v g d=>Tr.rec (motive:=λ _=>β) (Nat.rec (motive:=λ _=>β) (g (.n v .e .e)) (λ k' _=>Bool.rec (motive:=λ _=>β) (h .e (Nat.div k' 2) v (λ p=>g (.n none .e p)) d) (h .e (Nat.div k' 2) v (λ l'=>g (.n none l' .e)) d) (Nat.beq (Nat.mod k' 2) 0)) k) (λ o l r _ _=>Nat.rec (motive:=λ _=>β) (g (.n v l r)) (λ k' _=>Bool.rec (motive:=λ _=>β) (h r (Nat.div k' 2) v (λ p=>g (.n o l p)) d) (h l (Nat.div k' 2) v (λ l'=>g (.n o l' r)) d) (Nat.beq (Nat.mod k' 2) 0)) k) t) fuel
def d_(n:Nat)(k:Nat->β):β:=Nat.rec (motive:=λ _=>β) (k 0) (λ m _=>k (Nat.succ m)) n
def agV(z:Int)(k:Int->β):β:=Int.rec (motive:=λ _=>β) (λ n=>d_ n λ n'=>k (.ofNat n')) (λ n=>d_ n λ n'=>k (.negSucc n')) z
def jJ{α:Type}(t:Tr α):∀(n:Nat) (k:α->β) (d:β),cB t n k d=match t.get n with|some v=>k v|none=>d:=by
 induction t with
 |e=>intro n k d;rfl
 |n o l r il g=>
  intro n k d
  cases n with
  |zero=>cases o<;>rfl
  |succ m=>
   show(Bool.rec (motive:=λ _=>β) (cB r (Nat.div m 2) k d) (cB l (Nat.div m 2) k d) (Nat.beq (Nat.mod m 2) 0))=_
   have p:Nat.beq (Nat.mod m 2) 0=decide (m%2=0):=by rw[qH,su,xz];rfl
   rw[p]
   by_cases h:m%2=0
   .have:decide (m%2=0)=true:=by simp[h]
    rw[this];simp only[Tr.get,h,qk];exact il _ _ _
   .have:decide (m%2=0)=false:=by simp[h]
    rw[this];simp only[Tr.get,h,n_];exact g _ _ _
def DA{α:Type}:∀(f:Nat) (t:Tr α) (n:Nat) (v:Option α) (k:Tr α->β) (d:β),j_ f t n v k d=match t.set f n v with|some t'=>k t'|none=>d:=by
 intro f;induction f with
 |zero=>intro t n v k d;rfl
 |succ f g=>
  intro t n v k d
  cases n with
  |zero=>cases t<;>rfl
  |succ m=>
   have u:Nat.beq (Nat.mod m 2) 0=decide (m%2=0):=by rw[qH,su,xz];rfl
   cases t with
   |e=>
    show(Bool.rec (motive:=λ _=>β) (j_ f .e (Nat.div m 2) v (λ p=>k (.n none .e p)) d) (j_ f .e (Nat.div m 2) v (λ l'=>k (.n none l' .e)) d) (Nat.beq (Nat.mod m 2) 0))=_
    rw[u]
    by_cases h:m%2=0
    .have U:decide (m%2=0)=true:=by simp[h]
     rw[U];simp only[Tr.set,h,qk];refine(g _ _ _ _ _).trans ?_;show(match Tr.set f .e (m/2) v with|some t'=>_|none=>d)=_;simp only[Tr.left,Tr.right,Tr.top];cases Tr.set f .e (m/2) v<;>rfl
    .have U:decide (m%2=0)=false:=by simp[h]
     rw[U];simp only[Tr.set,h,n_];refine(g _ _ _ _ _).trans ?_;show(match Tr.set f .e (m/2) v with|some t'=>_|none=>d)=_;simp only[Tr.left,Tr.right,Tr.top];cases Tr.set f .e (m/2) v<;>rfl
   |n o l r=>
    show(Bool.rec (motive:=λ _=>β) (j_ f r (Nat.div m 2) v (λ p=>k (.n o l p)) d) (j_ f l (Nat.div m 2) v (λ l'=>k (.n o l' r)) d) (Nat.beq (Nat.mod m 2) 0))=_
    rw[u]
    by_cases h:m%2=0
    .have U:decide (m%2=0)=true:=by simp[h]
     rw[U];simp only[Tr.set,h,qk];refine(g _ _ _ _ _).trans ?_;show(match Tr.set f l (m/2) v with|some t'=>_|none=>d)=_;simp only[Tr.left,Tr.right,Tr.top];cases Tr.set f l (m/2) v<;>rfl
    .have U:decide (m%2=0)=false:=by simp[h]
     rw[U];simp only[Tr.set,h,n_];refine(g _ _ _ _ _).trans ?_;show(match Tr.set f r (m/2) v with|some t'=>_|none=>d)=_;simp only[Tr.left,Tr.right,Tr.top];cases Tr.set f r (m/2) v<;>rfl
def mr(n:Nat)(k:Nat->β):d_ n k=k n:=by cases n<;>rfl
def aqs(z:Int)(k:Int->β):agV z k=k z:=by cases z with|ofNat n=>exact mr n (λ n'=>k (.ofNat n'))|negSucc n=>exact mr n (λ n'=>k (.negSucc n'))
def Tr.Gk(k:Nat):(Tr.e:Tr β).get k=none:=by unfold Tr.get;rfl
def Tr.Lw(t:Tr β)(k:Nat)(h:k%2=0):t.get (k+1)=t.left.get (k/2):=by cases t with|e=>simp[Tr.left,Tr.Gk]|n o l r=>simp[Tr.get,Tr.left,h]
def Tr.Lx(t:Tr β)(k:Nat)(h:¬k%2=0):t.get (k+1)=t.right.get (k/2):=by cases t with|e=>simp[Tr.right,Tr.Gk]|n o l r=>simp[Tr.get,Tr.right,h]
def Tr.ag8(t:Tr β):t.get 0=t.top:=by cases t<;>simp[Tr.top,Tr.get]
def Tr.adU:∀(f:Nat) (t t':Tr β) (k:Nat) (v:Option β),t.set f k v=some t'->∀j,t'.get j=if j=k then v else t.get j:=by
 intro f;induction f with
 |zero=>intro t t' k v h;cases h
 |succ f n=>
  intro t t' k v h j
  cases k with
  |zero=>
   simp only[Tr.set,zi]at h
   subst h
   cases j with
   |zero=>simp[Tr.get]
   |succ j=>
    by_cases g:j%2=0
    .rw[Tr.Lw _ _ g,Tr.Lw _ _ g];simp[Tr.left]
    .rw[Tr.Lx _ _ g,Tr.Lx _ _ g];simp[Tr.right]
  |succ k=>
   simp only[Tr.set]at h
   by_cases Q:k%2=0
   .simp only[Q,qk,zh]at h
    obtain⟨l',u,rfl⟩:=h;have:=n _ _ _ _ u;cases j with
    |zero=>simp[Tr.get,Tr.ag8]
    |succ j=>
     by_cases g:j%2=0
     .rw[Tr.Lw _ _ g,Tr.Lw t _ g]
      show l'.get (j/2)=_;rw[this];by_cases e:j=k
      .simp[e]
      .have:j/2≠k/2:=ω
       simp[e,this]
     .rw[Tr.Lx _ _ g,Tr.Lx t _ g]
      simp only[Tr.right];have:j≠k:=ω
      simp[this]
   .simp only[Q,n_,zh]at h
    obtain⟨p,hr,rfl⟩:=h;have:=n _ _ _ _ hr;cases j with
    |zero=>simp[Tr.get,Tr.ag8]
    |succ j=>
     by_cases g:j%2=0
     .rw[Tr.Lw _ _ g,Tr.Lw t _ g]
      simp only[Tr.left];have:j≠k:=ω
      simp[this]
     .rw[Tr.Lx _ _ g,Tr.Lx t _ g]
      show p.get (j/2)=_;rw[this];by_cases e:j=k
      .simp[e]
      .have:j/2≠k/2:=ω
       simp[e,this]
inductive J where
 |lit (v:Value)|ptr (id ah:Nat)|sl (id ah es len ax:Nat) (ex:Bool)|eF|map (id:Nat)|fn (f:Fn) (first captured:List J)|agg (l:List J)|dh (l:List J)
variable{a:J}
abbrev AU:=List J
variable{l l2:AU}
abbrev AT:=List Nat
abbrev BW:=List Int
abbrev CX:=Tr J
variable{t':CX}
structure AE where
 k:Value
 b:Nat
 v:J
inductive AO where
 |cells (n:Nat) (t:Tr J) (ro:Bool)|tN (l:List Value)|map (kt:TypeId) (c:Nat) (l:List AE)|loop (st:LoopState) (c_:Option Code) (fn:FuncId) (size:Nat) (tmps:Tr J) (params:List Tmp) (assign body:Code) (df:Nat)|deferred
variable{o':AO}{k:AO->R β}
structure D where
 ab:Nat
 t:Tr AO
variable{H H2:D}
structure TI where
 desc:TypeDesc
 size:Nat
 bytes:Nat
 zero:List J
inductive di where
 |op (i:Nat)|wr (i:Nat) (re:List Nat)
structure aE where
 cD:Tr J
 size:Nat
 marks:List Nat
 round:Option Nat
 fn:FuncId
inductive dE where
 |normal|exit (id:Nat)|ret
inductive dS where
 |val (v:J) (H:D)|call (f:FuncId) (args:List J) (H:D)|round (l:Nat) (args:List J) (H:D)
instance{α:Type}:Inhabited (R α):=⟨.er []⟩
inductive KC where
 |i (k:IntKind)|s|b
inductive KS where
 |one (c:KC)|agg (l:List KC)
structure aK where
 tt:Tr TI
 ft:Tr Func
 gl:Tr Nat
 pl:Tr (Tr (List di))
 ky:Tr KS
 Q:Tr Nat
 lim:Nat
def agW(v:aC)(k:aC->β):β:=match v with
 |.int j n=>agV n λ n'=>k (.int j n')
 |.bool b=>aB (k (.bool false)) (k (.bool true)) b|v=>k v
def Pm(a b:Int):Bool:=Int.rec (motive:=λ _=>Bool) (λ x=>Int.rec (motive:=λ _=>Bool) (λ y=>Nat.beq x y) (λ _=>false) b) (λ x=>Int.rec (motive:=λ _=>Bool) (λ _=>false) (λ y=>Nat.beq x y) b) a
def zr(a:List UInt8):List UInt8->Bool:=List.rec (motive:=λ _=>List UInt8->Bool) (λ b=>List.rec (motive:=λ _=>Bool) true (λ _ _ _=>false) b) (λ x _ e b=>List.rec (motive:=λ _=>Bool) false (λ y b' _=>aB false (e b') (Nat.beq x.toNat y.toNat)) b) a
def yD(a:List UInt8):List UInt8->Bool:=List.rec (motive:=λ _=>List UInt8->Bool) (λ b=>List.rec (motive:=λ _=>Bool) false (λ _ _ _=>true) b) (λ x _ e b=>List.rec (motive:=λ _=>Bool) false (λ y b' _=>aB (aB false (e b') (Nat.beq x.toNat y.toNat)) true (Nat.blt x.toNat y.toNat)) b) a
def nC(a b:aC):Bool:=match a,b with|.int j x,.int k y=>aB false (Pm x y) (j==k)|.string x,.string y=>zr x.data.toList y.data.toList|.bool x,.bool y=>aB (aB true false y) y x|_,_=>false
def vi:List aC->List aC->Bool:=jQ (λ b=>match b with|[]=>true|_::_=>false) (λ x _ e b=>match b with|[]=>false|y::b'=>aB false (e b') (nC x y))
def c8(a b:aC):Bool:=match a,b with|.agg x,.agg y=>vi x.toList y.toList|a,b=>nC a b
def xO(a b:J):Bool:=match a,b with
 |.lit x,.lit y=>match x,y with|.pointer none,.pointer none=>true|.slice none m c,.slice none n d=>aB false (Nat.beq c d) (Nat.beq m n)|.map none,.map none=>true|.nilFunc,.nilFunc=>true|x,y=>nC x y
 |.ptr i x,.ptr j y=>aB false (Nat.beq x y) (Nat.beq i j)|.sl i x e l c ex,.sl i' h p l' c' g=>aB false (aB false (aB false (aB false (aB false (aB (aB true false g) g ex) (Nat.beq c c')) (Nat.beq l l')) (Nat.beq e p)) (Nat.beq x h)) (Nat.beq i i')|.eF,.eF=>true|.map i,.map j=>Nat.beq i j|_,_=>false
def TU:AU->AU->Bool:=jQ (λ b=>match b with|[]=>true|_::_=>false) (λ x _ e b=>match b with|[]=>false|y::b'=>aB false (e b') (xO x y))
def fy(a b:J):Bool:=match a,b with|.agg x,.agg y=>TU x y|.dh x,.dh y=>TU x y|a,b=>xO a b
def iA{α:Type}(f:α->(γ->R β)->R β)(l:List α)(k:List γ->R β):R β:=jQ (γ:=List γ->R β) (β:=R β) (λ k=>k []) (λ a _ e k=>f a λ b=>e λ l'=>k (b::l')) l k
def F3{α:Type}(l m:List α)(k:List α->R β):R β:=jQ (γ:=List α->R β) (β:=R β) (λ k=>k m) (λ a _ e k=>e λ l'=>k (a::l')) l k
def jV{α:Type}(l:List α)(k:Nat->R β):R β:=jQ (γ:=Nat->R β) (β:=R β) (λ k=>k 0) (λ _ _ e k=>e λ n=>k (Nat.succ n)) l k
def mE{α:Type}(l:List α)(n:Nat)(k:α->R β)(d:R β):R β:=jQ (γ:=Nat) (β:=R β) (λ _=>d) (λ a _ e n=>eC (k a) (λ m=>e m) n) l n
def J7(n:Nat)(l:List γ)(k:List γ->R β)(d:R β):R β:=rV (α:=List γ) (β:=(List γ->R β)->R β) (λ _ k=>k []) (λ _ e l k=>match l with|[]=>d|a::l'=>e l' λ r=>k (a::r)) n l k
def Li(n:Nat)(l:List γ)(k:List γ->R β)(d:R β):R β:=rV (α:=List γ) (β:=R β) k (λ _ e l=>match l with|[]=>d|_::l'=>e l') n l
def kM(H:D)(o:AO)(k:Nat->D->R β):R β:=match H with|⟨e,t⟩=>j_ (Nat.succ e) t e (some o) (λ t'=>d_ (Nat.succ e) λ g=>k e ⟨g,t'⟩) (.er [1])
def ie(H:D)(id:Nat)(k:AO->R β):R β:=match H with|⟨_,t⟩=>cB t id k (.er [2,id])
def me(H:D)(id:Nat)(o:Option AO)(k:D->R β):R β:=match H with|⟨e,t⟩=>j_ (Nat.succ id) t id o (λ t'=>k ⟨e,t'⟩) (.er [3])
def pU(t:CX)(ah m:Nat)(k:AU->R β):R β:=rV (α:=AU) (β:=R β) k (λ i e g=>cB t (Nat.add ah i) (λ v=>e (v::g)) (.er [4,ah,i])) m []
def kN(t:CX)(ah:Nat)(l:AU)(k:CX->R β):R β:=jQ (γ:=Nat) (β:=CX->R β) (λ _ t=>k t) (λ v _ e i t=>j_ (Nat.succ i) t i (some v) (λ t'=>d_ (Nat.succ i) λ i'=>e i' t') (.er [5])) l ah t
def Ac(z:AU)(sz n ah:Nat)(t:CX)(k:CX->R β):R β:=rV (α:=CX) (β:=R β) k (λ i e t=>kN t (Nat.add ah (Nat.mul i sz)) z e) n t
def km(v:J):Bool:=match v with|.agg _=>false|.dh _=>false|.lit (.agg _)=>false|.lit (.tuple _)=>false|_=>true
def fX(l:AU):Bool:=jQ (γ:=Unit) (β:=Bool) (λ _=>true) (λ v _ e u=>aB false (e u) (km v)) l ()
def cellsOf(v:J):AU:=match v with|.agg l=>l|v=>[v]
def JJ(v:aC)(k:J->R β):R β:=match v with
 |.agg M=>iA (λ v k=>k (.lit v)) M.toList λ l=>k (.agg l)
 |v=>k (.lit v)
def val(v:J)(H:D):R dS:=.ok (.val v H)
def lj(v:aC)(H:D):R dS:=agW v λ v'=>.ok (.val (.lit v') H)
def pD:J:=.lit (.tuple #[])
section
variable(E:aK)
def gD(t:aS)(k:TypeDesc->Nat->Nat->AU->R β):R β:=cB E.tt t (λ i=>match i with|⟨d,s,b,z⟩=>k d s b z) (.er [6,t])
def k9(d:TypeDesc):Bool:=match d with|.struct _=>true|.array _ _=>true|_=>false
def bE(Y:CX)(x:dy)(k:J->R β):R β:=match x with|.tmp t=>cB Y t k (.er [7,t])|.const v=>JJ v k|.global g=>cB E.gl g (λ id=>k (.ptr id 0)) (.er [8,g])|.func f=>k (.fn (.func f) [] [])
def lY(s:Sem aC)(k:aC->R β)(d:R β):R β:=match s with|.pure v=>k v|_=>d
def NU(op:BinOp)(x y:List UInt8)(k:aC->R β):R β:=match op with|.eql=>k (.bool (zr x y))|.neq=>k (.bool (aB true false (zr x y)))|.lss=>k (.bool (yD x y))|.gtr=>k (.bool (aB true false (aB (zr x y) true (yD x y))))|.leq=>k (.bool (aB (zr x y) true (yD x y)))|.geq=>k (.bool (aB true false (yD x y)))|_=>.er [9]
def lL(op:BinOp)(b:Bool)(k:aC->R β):R β:=match op with|.eql=>k (.bool b)|.neq=>k (.bool (aB true false b))|_=>.er [10]
def Fc(l:AU)(k:List aC->R β):R β:=iA (λ v k=>match v with|.lit x=>k x|_=>.er [11]) l k
def oz(c:KC)(v:aC):Bool:=match c,v with|.i k,.int j _=>j==k|.s,.string _=>true|.b,.bool _=>true|_,_=>false
def oc:List KC->List aC->Bool:=jQ (λ g=>match g with|[]=>true|_::_=>false) (λ c _ h g=>match g with|[]=>false|v::e=>aB false (h e) (oz c v))
def yC(kt:aS)(v:J)(k:aC->R β):R β:=cB E.ky kt (λ ks=>match ks,v with
 |.one c,.lit x=>aB (.er [12]) (k x) (oz c x)|.agg M,.agg l=>Fc l λ xs=>aB (.er [14]) (k (.agg ⟨xs⟩)) (oc M xs)
 |_,_=>.er [15]) (.er [16,kt])
def iG(op:BinOp)(t:aS)(x y:J)(k:aC->R β):R β:=gD E t λ d _ _ _=>
 match d,x,y with
 |.bool,.lit (.bool a),.lit (.bool b)=>lL op (aB (aB true false b) b a) k|.pointer _,.lit (.pointer none),.lit (.pointer none)=>lL op true k|.pointer _,.lit (.pointer none),.ptr _ _=>lL op false k|.pointer _,.ptr _ _,.lit (.pointer none)=>lL op false k|.slice _,.lit (.slice none _ _),.lit (.slice none _ _)=>lL op true k|.slice _,.sl ..,.lit (.slice none _ _)=>lL op false k|.slice _,.eF,.lit (.slice none _ _)=>lL op false k|.slice _,.lit (.slice none _ _),.sl .. =>lL op false k|.map _ _,.lit (.map none),.lit (.map none)=>lL op true k|.map _ _,.map _,.lit (.map none)=>lL op false k|.func _ _ _,.lit .nilFunc,.lit .nilFunc=>lL op true k|.func _ _ _,.fn _ _ _,.lit .nilFunc=>lL op false k|.struct _,.agg _,.agg _=>yC E t x λ a=>yC E t y λ b=>lL op (c8 a b) k
 |.array _ _,.agg _,.agg _=>yC E t x λ a=>yC E t y λ b=>lL op (c8 a b) k
 |_,_,_=>.er [17,t]
def fh(op:BinOp)(t:aS)(x y:J)(H:D):R dS:=match x,y with
 |.lit (.int j a),.lit (.int k b)=>lY (Go.binOp op 0 (.int j a) (.int k b)) (λ v=>lj v H) (.er [18])|.lit (.string a),.lit (.string b)=>NU op a.data.toList b.data.toList λ v=>lj v H
 |x,y=>iG E op t x y λ v=>lj v H
def Nb(ah:Nat)(l cells:AU)(k:AU->R β):R β:=J7 ah cells (λ a=>jV l λ m=>Li (Nat.add ah m) cells (λ c=>F3 l c λ r=>F3 a r k) (.er [19])) (.er [20])
def CO(Y:CX)(place:Nat->(Nat->Nat->R β)->R β)(parts:List (Nat×dy))(cells:AU)(k:AU->R β):R β:=jQ (γ:=AU) (β:=R β) k (λ p _ e cells=>match p with|(i,x)=>bE E Y x λ v=>place i λ ah size=>jV (cellsOf v) λ m=>aB (.er [190]) (aB (.er [21]) (Nb ah (cellsOf v) cells e) (Nat.beq m size)) (fX (cellsOf v))) parts cells
def ID(Y:CX)(size len:Nat)(parts:List (Nat×dy))(t:CX)(k:CX->R β):R β:=jQ (γ:=CX) (β:=R β) k (λ p _ e t=>match p with|(i,x)=>bE E Y x λ v=>jV (cellsOf v) λ m=>aB (.er [191]) (aB (.er [22]) (aB (.er [23]) (kN t (Nat.mul i size) (cellsOf v) e) (Nat.blt i len)) (Nat.beq m size)) (fX (cellsOf v))) parts t
def D8(t:aS)(f:Nat)(k:Nat->Nat->Bool->R β):R β:=gD E t λ d _ _ _=>match d with|.struct fs=>mE fs.toList f (λ fd=>gD E fd.type λ e s _ _=>k fd.offset s (k9 e)) (.er [24,t,f])|_=>.er [25,t]
def sS(v:J)(k:Nat->R β):R β:=match v with|.lit (.int _ (.ofNat n))=>k n|_=>.er [26]
def zX(t:aS)(a:J)(H:D)(k:J->R β):R β:=match a with
 |.ptr id ah=>ie H id λ o=>match o with
  |.cells n M _=>gD E t λ d s _ _=>
   aB (aB (.er [27]) (cB M ah k (.er [28,id,ah])) (Nat.blt ah n)) (aB (.er [29,id,ah]) (pU M ah s λ l=>k (.agg l)) (Nat.ble (Nat.add ah s) n)) (k9 d)
  |_=>.er [30]
 |_=>.er [31,t]
def Xw(t:aS)(a x:J)(H:D)(k:D->R β):R β:=match a with
 |.ptr id ah=>ie H id λ o=>match o with
  |.cells n M ro=>aB (gD E t λ _ s _ _=>jV (cellsOf x) λ m=>
   aB (.er [32,t]) (aB (.er [33]) (aB (.er [34]) (kN M ah (cellsOf x) λ e=>me H id (some (.cells n e ro)) k) (Nat.ble (Nat.add ah s) n)) (fX (cellsOf x))) (Nat.beq m s)) (.er [35]) ro
  |_=>.er [36]
 |_=>.er [37,t]
def Nm(key:aC)(l:List AE)(k:Nat->J->R β)(d:Unit->R β):R β:=jQ (γ:=Unit) (β:=R β) d (λ p _ e u=>match p with|⟨x,b,v⟩=>aB (e u) (k b v) (c8 x key)) l ()
def ND(c:Nat)(key:aC)(v:J)(l:List AE)(k:Nat->List AE->R β):R β:=jQ (γ:=Nat->List AE->R β) (β:=R β) (λ k=>d_ (Nat.succ c) λ c'=>k c' [⟨key,c,v⟩]) (λ p l' e k=>match p with|⟨x,b,u⟩=>aB (e λ c' r=>k c' (⟨x,b,u⟩::r)) (k c (⟨key,b,v⟩::l')) (c8 x key)) l k
def Pd(key:aC)(l:List AE)(k:List AE->R β):R β:=jQ (γ:=List AE->R β) (β:=R β) (λ k=>k []) (λ p l' e k=>match p with|⟨x,b,u⟩=>aB (e λ r=>k (⟨x,b,u⟩::r)) (k l') (c8 x key)) l k
def Si(d:TypeDesc)(z:AU)(k:J->R β):R β:=aB (match z with|[v]=>k v|_=>.er [38]) (k (.agg z)) (k9 d)
def mapOf(t:aS)(m:J)(H:D)(k:aS->aS->Nat->List AE->R β):R β:=gD E t λ d _ _ _=>match d with
 |.map kt e=>match m with
  |.lit (.map none)=>k kt e 0 []|.map id=>ie H id λ o=>match o with|.map g c l=>aB (.er [38]) (k kt e c l) (Nat.beq g kt)|_=>.er [39]
  |_=>.er [40]
 |_=>.er [41]
def Wp(t:aS)(m x:J)(ok:Bool)(H:D):R dS:=mapOf E t m H λ kt e _ l=>yC E kt x λ key=>Nm key l (λ _ v=>aB (val v H) (val (.dh [v,.lit (.bool true)]) H) ok) (λ _=>gD E e λ d _ _ z=>Si d z λ v=>aB (val v H) (val (.dh [v,.lit (.bool false)]) H) ok)
def N4(t:aS)(m x v:J)(H:D):R dS:=match m with
 |.map id=>mapOf E t m H λ kt _ c l=>yC E kt x λ key=>ND c key v l λ c' l'=>me H id (some (.map kt c' l')) λ H'=>val pD H'
 |_=>.er [42]
def Pc(t:aS)(m x:J)(H:D):R dS:=match m with
 |.map id=>mapOf E t m H λ kt _ c l=>yC E kt x λ key=>Pd key l λ l'=>me H id (some (.map kt c l')) λ H'=>val pD H'
 |_=>.er [43]
def JX(l:List β)(H:D):R dS:=jV l λ n=>val (.lit (.int .i64 (.ofNat n))) H
def aN(t:aS)(x:J)(H:D):R dS:=gD E t λ d _ _ _=>match d,x with
 |.slice _,.sl _ _ _ n _ _=>val (.lit (.int .i64 (.ofNat n))) H|.slice _,.eF=>val (.lit (.int .i64 (.ofNat 0))) H|.slice _,.lit (.slice none n _)=>val (.lit (.int .i64 (.ofNat n))) H|.string,.lit (.string s)=>JX s.data.toList H|.map _ _,.lit (.map none)=>val (.lit (.int .i64 (.ofNat 0))) H|.map _ _,.map id=>ie H id λ o=>match o with|.map _ _ l=>JX l H|_=>.er [44]
 |.array n _,_=>val (.lit (.int .i64 (.ofNat n))) H|_,_=>.er [45,t]
def pz(es:Nat)(x:J)(H:D)(k:Nat->AU->R β):R β:=match x with
 |.sl id ah gM n _ _=>ie H id λ o=>match o with|.cells m M _=>aB (.er [46]) (aB (.er [47]) (pU M ah (Nat.mul n es) λ l=>k n l) (Nat.ble (Nat.add ah (Nat.mul n es)) m)) (Nat.beq es gM)|_=>.er [48]
 |.lit (.slice none 0 _)=>k 0 []|.eF=>k 0 []|_=>.er [49]
def tS(t:aS)(k:aS->TypeDesc->Nat->Nat->AU->R β):R β:=gD E t λ d _ _ _=>match d with
 |.slice e=>gD E e λ g s b z=>k e g s b z
 |_=>.er [50]
def cX(t:aS)(s x:J)(H:D):R dS:=tS E t λ _ _ es bs _=>pz es x H λ n new=>
 match s with
 |.lit (.slice none 0 0)=>
  eC (val s H) (λ _=>aB (.er [195]) (aB (.er [196]) (aB (.er [51]) (kN .e 0 new λ t'=>kM H (.cells (Nat.mul n es) t' false) λ id H'=>val (.sl id 0 es n n false) H') (fX new)) (Nat.ble (Nat.mul n bs) 140737488355328)) (Nat.ble n 9223372036854775807)) n
 |.sl id ah gM len ax ex=>aB (.er [52]) (aB (.er [53]) (d_ (Nat.add len n) λ need=>aB (.er [195]) (aB (.er [196])
  (ie H id λ o=>match o with
  |.cells m M ro=>
   aB (aB (aB (aB (.er [54]) (aB (.er [199]) (eC (kN M (Nat.mul len es) new λ g=>me H id none λ H1=>kM H1 (.cells (Nat.mul need es) g false) λ jO H2=>val (.sl jO 0 es need need false) H2) (λ _=>pU M ah (Nat.mul len es) λ old=>kN .e 0 old λ t1=>kN t1 (Nat.mul len es) new λ g=>me H id none λ H1=>kM H1 (.cells (Nat.mul need es) g false) λ jO H2=>val (.sl jO 0 es need need false) H2) ah) (Nat.ble 2 (Nat.mul need es))) (Nat.ble (Nat.add ah (Nat.mul len es)) m)) (.er [55]) ro) (aB (.er [56]) (pU M ah (Nat.mul len es) λ old=>kN .e 0 old λ t1=>kN t1 (Nat.mul len es) new λ g=>kM H (.cells (Nat.mul need es) g false) λ jO H2=>val (.sl jO 0 es need need false) H2) (Nat.ble (Nat.add ah (Nat.mul len es)) m)) ex) (aB (aB (.er [57]) (kN M (Nat.add ah (Nat.mul len es)) new λ g=>me H id (some (.cells m g ro)) λ H'=>val (.sl id ah es need ax ex) H') (Nat.ble (Nat.add ah (Nat.mul need es)) m)) (.er [58]) ro) (Nat.ble need ax)
  |_=>.er [59]) (Nat.ble (Nat.mul need bs) 140737488355328)) (Nat.ble need 9223372036854775807)) (fX new)) (Nat.beq es gM)
 |.eF=>eC (val .eF H) (λ _=>.er [60]) n|_=>.er [60]
def Pr(es m:Nat)(x:J)(H:D)(k:AU->R β):R β:=match x with
 |.sl id ah gM n _ _=>ie H id λ o=>match o with|.cells c M _=>aB (.er [46]) (aB (.er [47]) (aB (.er [61]) (pU M ah (Nat.mul m es) k) (Nat.ble m n)) (Nat.ble (Nat.add ah (Nat.mul m es)) c)) (Nat.beq es gM)|_=>.er [48]
 |_=>.er [49]
def Ng(x:J)(k:Nat->R β):R β:=match x with|.sl _ _ _ n _ _=>k n|.lit (.slice none 0 _)=>k 0|.eF=>k 0|_=>.er [62]
def AF(t:aS)(d x:J)(H:D):R dS:=tS E t λ _ _ es _ _=>Ng x λ n=>Ng d λ n'=>d_ (aB n' n (Nat.ble n n')) λ m=>
 eC (val (.lit (.int .i64 (.ofNat 0))) H) (λ _=>Pr es m x H λ new=>
 match d with|.sl id ah gM len _ _=>aB (.er [61]) (aB (.er [63]) (aB (.er [67]) (ie H id λ o=>match o with|.cells c M ro=>aB (aB (.er [64]) (kN M ah new λ e=>me H id (some (.cells c e ro)) λ H'=>val (.lit (.int .i64 (.ofNat m))) H') (Nat.ble (Nat.add ah (Nat.mul len es)) c)) (.er [65]) ro|_=>.er [66]) (Nat.ble m len)) (fX new)) (Nat.beq es gM)|_=>.er [67]) m
def O_(t:aS)(x:J)(H:D):R dS:=tS E t λ _ _ es _ z=>match x with|.sl id ah gM len _ _=>eC (val pD H) (λ _=>aB (.er [68]) (ie H id λ o=>match o with|.cells m M ro=>aB (aB (.er [69]) (Ac z es len ah M λ e=>me H id (some (.cells m e ro)) λ H'=>val pD H') (Nat.ble (Nat.add ah (Nat.mul len es)) m)) (.er [70]) ro|_=>.er [71]) (Nat.beq es gM)) len|.lit (.slice none _ _)=>val pD H|.eF=>val pD H|_=>.er [72]
def G2(e:Bool)(x y:J)(H:D):R dS:=match x,y with|.lit (.int j a),.lit (.int k b)=>aB (lY (Builtin.min2 (.int j a) (.int k b)) (λ v=>lj v H) (.er [73])) (lY (Builtin.max2 (.int j a) (.int k b)) (λ v=>lj v H) (.er [74])) e|_,_=>.er [75]
def rL(b:Builtin)(ts:List aS)(args:AU)(H:D):R dS:=match b,ts,args with|.append,[t,t'],[s,x]=>aB (.er [76]) (cX E t s x H) (Nat.beq t t')|.len,[t],[x]=>aN E t x H|.delete,t::_,[m,x]=>Pc E t m x H|.copy,t::_,[d,x]=>AF E t d x H|.clear,[t],[x]=>O_ E t x H|.min,_,[x,y]=>G2 false x y H|.max,_,[x,y]=>G2 true x y H|_,_,_=>.er [77]
def rM(f:J)(args:AU)(H:D):R dS:=match f with
 |.fn g first captured=>match g with
  |.func n=>F3 args captured λ h=>F3 first h λ e=>.ok (.call n e H)
  |.yield l=>F3 first args λ a=>.ok (.round l a H)
  |_=>.er [78]
 |_=>.er [79]
def yG(Y:CX)(x:Option dy)(d:Nat)(k:Nat->R β):R β:=match x with|none=>k d|some x=>bE E Y x λ v=>sS v k
def NP(t:aS)(x:J)(lo A mx:Option dy)(Y:CX)(H:D):R dS:=tS E t λ _ _ es _ _=>match x with
 |.sl id ah gM len ax ex=>
  aB (.er [80]) (yG E Y A len λ h=>yG E Y lo 0 λ l=>match mx with
   |none=>aB (.er [81]) (aB (.er [82])
    (d_ (Nat.sub h l) λ n=>d_ (Nat.sub ax l) λ c=>eC (eC (val (.sl id ah es n c ex) H) (λ _=>aB (val .eF H) (val (.sl id ah es n c ex) H) ex) l) (λ _=>d_ (Nat.add ah (Nat.mul l es)) λ e=>val (.sl id e es n c ex) H) c)
    (Nat.ble l h)) (Nat.ble h ax)
   |some m=>bE E Y m λ v=>sS v λ m=>aB (.er [192]) (aB (.er [83]) (aB (.er [84]) (aB (.er [85])
    (d_ (Nat.sub h l) λ n=>d_ (Nat.sub m l) λ c=>eC (val (.sl id ah es n c true) H) (λ _=>d_ (Nat.add ah (Nat.mul l es)) λ e=>val (.sl id e es n c true) H) c)
    (Nat.ble l h)) (Nat.ble h m)) (Nat.ble m ax)) A.isSome) (Nat.beq es gM)
 |.lit (.slice none 0 0)=>aB (.er [192]) (yG E Y A 0 λ h=>yG E Y lo 0 λ l=>yG E Y mx 0 λ m=>eC (eC (eC (val (.lit (.slice none 0 0)) H) (λ _=>.er [86]) m) (λ _=>.er [86]) l) (λ _=>.er [86]) h) (aB true A.isSome mx.isSome)|.eF=>yG E Y A 0 λ h=>yG E Y lo 0 λ l=>match mx with|none=>eC (eC (val .eF H) (λ _=>.er [87]) l) (λ _=>.er [87]) h|some m=>bE E Y m λ v=>sS v λ m=>aB (.er [192]) (eC (eC (eC (val .eF H) (λ _=>.er [87]) m) (λ _=>.er [87]) l) (λ _=>.er [87]) h) A.isSome
 |_=>.er [88]
def V3(t:aS)(x:J)(i:Nat)(H:D):R dS:=gD E t λ d _ _ _=>match d,x with
 |.slice e,.sl id ah es n _ _=>gD E e λ _ s _ _=>aB (.er [89]) (aB (.er [90,i,n]) (d_ (Nat.add ah (Nat.mul i es)) λ o=>val (.ptr id o) H) (Nat.blt i n)) (Nat.beq es s)
 |.array n e,.ptr id ah=>gD E e λ _ s _ _=>aB (.er [91,i,n]) (d_ (Nat.add ah (Nat.mul i s)) λ o=>val (.ptr id o) H) (Nat.blt i n)
 |_,_=>.er [92,t]
def Ha(ah s:Nat)(ag:Bool)(l:AU)(k:J->R β):R β:=aB (mE l ah k (.er [93])) (Li ah l (λ l'=>J7 s l' (λ p=>k (.agg p)) (.er [94])) (.er [95])) ag
def V4(t:aS)(x:J)(i:Nat)(H:D):R dS:=gD E t λ d _ _ _=>match d,x with
 |.string,.lit (.string s)=>mE s.data.toList i (λ b=>lj (.int .u8 (.ofNat b.toNat)) H) (.er [96])|.array n e,.agg l=>gD E e λ g s _ _=>aB (.er [97]) (Ha (Nat.mul i s) s (k9 g) l λ v=>val v H) (Nat.blt i n)
 |_,_=>.er [98,t]
def Wv(t:aS)(n c:Nat)(H:D):R dS:=tS E t λ _ _ es b z=>aB (.er [99]) (aB (.er [100]) (aB (.er [101]) (Ac z es c 0 .e λ t'=>kM H (.cells (Nat.mul c es) t' false) λ id H'=>val (.sl id 0 es n c true) H') (Nat.ble n c)) (Nat.ble (Nat.mul b c) 140737488355328)) (Nat.ble c 9223372036854775807)
def bw(Y:CX)(o:Op)(H:D):R dS:=match o with
 |.move x=>bE E Y x λ v=>val v H
 |.assign x=>bE E Y x λ v=>val v H
 |.pick c a b=>bE E Y c λ v=>match v with|.lit (.bool b')=>aB (bE E Y b λ v=>val v H) (bE E Y a λ v=>val v H) b'|_=>.er [102]
 |.alloc t=>gD E t λ _ s _ z=>kN .e 0 z λ t'=>kM H (.cells s t' false) λ id H'=>val (.ptr id 0) H'
 |.box _ x=>bE E Y x λ v=>jV (cellsOf v) λ n=>aB (.er [103]) (kN .e 0 (cellsOf v) λ t'=>kM H (.cells n t' false) λ id H'=>val (.ptr id 0) H') (fX (cellsOf v))
 |.build t parts=>gD E t λ d _ _ z=>match d with
  |.struct _=>CO E Y (λ i k=>D8 E t i λ ah s _=>k ah s) parts.toList z λ l=>val (.agg l) H
  |.array n e=>gD E e λ _ s _ _=>CO E Y (λ i k=>aB (.er [104]) (k (Nat.mul i s) s) (Nat.blt i n)) parts.toList z λ l=>val (.agg l) H
  |_=>.er [105]
 |.buildSlice t n parts=>tS E t λ _ _ es _ z=>aB (.er [194]) (aB (.er [106]) (Ac z es n 0 .e λ t0=>ID E Y es n parts.toList t0 λ t'=>kM H (.cells (Nat.mul n es) t' false) λ id H'=>val (.sl id 0 es n n true) H') (Nat.ble (Nat.mul n es) 16777216)) (Nat.ble n 9223372036854775807)
 |.load t a=>bE E Y a λ a=>zX E t a H λ v=>val v H
 |.store t a x=>bE E Y a λ a=>bE E Y x λ x=>Xw E t a x H λ H'=>val pD H'
 |.nilCheck x=>bE E Y x λ v=>match v with|.ptr _ _=>val v H|.fn (.func _) _ _=>val v H|_=>.er [107]
 |.binOp op t x y _=>bE E Y x λ x=>bE E Y y λ y=>fh E op t x y H
 |.unOp op _ x=>bE E Y x λ v=>match v with|.lit x=>lY (Op.unary op x) (λ v=>lj v H) (.er [108])|_=>.er [109]
 |.convert src dst x=>bE E Y x λ v=>gD E src λ _ _ _ _=>gD E dst λ d _ _ _=>match d,v with|.int k,.lit (.int _ n)=>lY (Conv.intToInt k n) (λ v=>lj v H) (.er [110])|_,_=>.er [111]
 |.makeFunc f first captured=>match f with
  |.func _=>iA (bE E Y) first.toList λ a=>iA (bE E Y) captured.toList λ b=>val (.fn f a b) H
  |_=>.er [184]
 |.makeMap t r=>gD E t λ d _ _ _=>match d with
  |.map kt _=>yG E Y r 0 λ _=>cB E.ky kt (λ _=>kM H (.map kt 0 []) λ id H'=>val (.map id) H') (.er [193,kt])
  |_=>.er [112]
 |.makeSlice t l c=>bE E Y l λ l=>sS l λ l=>bE E Y c λ c=>sS c λ c=>Wv E t l c H
 |.slice t x lo A mx=>bE E Y x λ x=>NP E t x lo A mx Y H
 |.fieldAddr t x f=>bE E Y x λ v=>match v with
  |.ptr id ah=>D8 E t f λ o s _=>eC (.er [113]) (λ _=>d_ (Nat.add ah o) λ o'=>val (.ptr id o') H) s
  |_=>.er [114,t,f]
 |.field t x f=>bE E Y x λ v=>match v with
  |.agg l=>D8 E t f λ o s ag=>Ha o s ag l λ v=>val v H
  |_=>.er [115]
 |.indexAddr t x i=>bE E Y x λ x=>bE E Y i λ i=>sS i λ i=>V3 E t x i H
 |.index t x i=>bE E Y x λ x=>bE E Y i λ i=>sS i λ i=>V4 E t x i H
 |.lookup t m x ok=>bE E Y m λ m=>bE E Y x λ x=>Wp E t m x ok H
 |.mapUpdate t m x v=>bE E Y m λ m=>bE E Y x λ x=>bE E Y v λ v=>N4 E t m x v H
 |.insert t m x v=>bE E Y m λ m=>bE E Y x λ x=>bE E Y v λ v=>N4 E t m x v H
 |.extract x i=>bE E Y x λ v=>match v with|.dh l=>mE l i (λ v=>val v H) (.er [116])|_=>.er [117]
 |.call c=>match c.callee with
  |.builtin b=>iA (bE E Y) c.args.toList λ args=>rL E b c.argTypes.toList args H
  |.value f=>bE E Y f λ f=>iA (bE E Y) c.args.toList λ args=>rM f args H
  |_=>.er [118]
 |_=>.er [119]
end
inductive Task where
 |call (f:fD) (args:List J)|round (l:Nat) (args:List J)
abbrev mP:=Task->D->R (J×D)
section
variable(E:aK)(rc:mP)
def qt(Y:aE)(d:Option Tmp)(v:J)(k:aE->R β):R β:=match d with|none=>k Y|some t=>match Y with|⟨s,n,m,r,f⟩=>aB (.er [120]) (j_ 64 s t (some v) (λ s'=>k ⟨s',n,m,r,f⟩) (.er [121])) (Nat.blt t n)
def BB(Y:aE)(ak:List Oper)(g:Option (Nat×Bool))(e no:Unit->R β):R β:=match g with|none=>e ()|some (j,b)=>mE ak j (λ o=>match o.dst with|some t=>cB Y.cD t (λ v=>match v with|.lit (.bool c)=>aB (aB (e ()) (no ()) c) (aB (no ()) (e ()) c) b|_=>no ()) (.er [122])|none=>.er [122]) (.er [122])
def iZ(Y:aE)(ak:List Oper)(o:Oper)(H:D)(k:aE->D->R β):R β:=BB Y ak o.guard
 (λ _=>match bw E Y.cD o.op H with
  |.er l=>.er (Y.fn::l)
  |.ok r=>match r with
   |.val v H'=>qt Y o.dst v λ an=>k an H'
   |.call f args H'=>(match rc (.call f args) H' with
    |.ok p=>match p with|(v,e)=>qt Y o.dst v λ an=>k an e
    |.er l=>.er (Y.fn::l))
   |.round l args H'=>(match rc (.round l args) H' with
    |.ok p=>match p with|(v,e)=>qt Y o.dst v λ an=>k an e
    |.er l=>.er (Y.fn::l)))
 (λ _=>qt Y o.dst pD λ an=>k an H)
def nO(ak:List Oper)(l:List Oper)(k:aE->D->R β):aE->D->R β:=jQ (γ:=aE) (β:=D->R β) k (λ o _ e Y H=>iZ E rc Y ak o H e) l
def xq(Y:aE)(ak:List Oper)(i:Nat)(H:D)(k:Unit->R β):R β:=mE ak i (λ o=>BB Y ak o.guard (λ _=>match bw E Y.cD o.op H with|.ok (.val v _)=>(match o.dst with|none=>k ()|some t=>cB Y.cD t (λ u=>aB (.er [123,Y.fn,i]) (k ()) (fy u v)) (.er [124]))|_=>.er [125,Y.fn,i]) k) (.er [126])
def rG(Y:aE)(ak:List Oper)(l:AT)(H:D)(k:Unit->R β):R β:=jQ (γ:=Unit) (β:=R β) k (λ i _ e _=>xq E Y ak i H e) l ()
def m8(ak:List Oper)(l:List di)(k:aE->D->R β):aE->D->R β:=jQ (γ:=aE) (β:=D->R β) k (λ p _ e Y H=>match p with|.op i=>mE ak i (λ o=>iZ E rc Y ak o H e) (.er [127])|.wr i re=>mE ak i (λ o=>iZ E rc Y ak o H λ an H'=>rG E an ak re H' λ _=>e an H') (.er [128])) l
abbrev St:=R (dE×aE×D)
def aoT(m:Code->aE->D->St)(n:(aE->D->St)->(aE->D->St)->aE->D->St)(h:dy->(aE->D->St)->(aE->D->St)->aE->D->St)(g:Nat->(aE->D->St)->aE->D->St)(e:(aE->D->St)->aE->D->St)(c:Code):aE->D->St:=Code.rec (motive:=λ _=>aE->D->St) (m .skip) (λ id ak d=>m (.region id ak d)) (λ _ _ a b=>n a b) (λ x _ _ a b=>h x a b) (λ id _ a=>g id a) (λ _ a=>e a) (λ f ps aI4 bd _ _=>m (.rangeFunc f ps aI4 bd)) (λ id=>m (.exit id)) (λ c _=>m (.scope c)) (λ l=>m (.label l)) (λ l=>m (.goto l)) (m .ret) (λ w=>m (.refuse w)) c
def Hl(a b:aE->D->St)(Y:aE)(H:D):St:=match a Y H with|.er l=>.er l|.ok r=>match r with|(.normal,an,H')=>b an H'|r=>.ok r
def It(x:dy)(a b:aE->D->St)(Y:aE)(H:D):St:=bE E Y.cD x λ v=>match v with|.lit (.bool c)=>aB (b Y H) (a Y H) c|_=>.er [129]
def F7(id:Nat)(a:aE->D->St)(Y:aE)(H:D):St:=match a Y H with|.er l=>.er l|.ok r=>match r with|(.exit j,an,H')=>aB (.ok (.exit j,an,H')) (.ok (.normal,an,H')) (Nat.beq j id)|r=>.ok r
def GZ(a:aE->D->St)(Y:aE)(H:D):St:=rV (α:=aE) (β:=D->St) (λ Y _=>.er [Y.fn,130]) (λ _ e Y H=>match a Y H with|.er l=>.er l|.ok r=>match r with|(.normal,an,H')=>e an H'|r=>.ok r) E.lim Y H
def Gf(Y:aE)(ps:List Tmp)(aI4 bd:Code)(H:D)(k:Nat->aE->D->R β):R β:=match Y with
 |⟨s,n,m,r,f⟩=>match r with
  |none=>kM H .deferred λ d H1=>kM H1 (.loop .ready none f n s ps aI4 bd d) λ l H2=>k l ⟨s,n,d::m,none,f⟩ H2
  |some e=>ie H e λ o=>match o with
   |.loop _ _ _ _ _ _ _ _ d=>kM H (.loop .ready none f n s ps aI4 bd d) λ l H2=>k l ⟨s,n,m,some e,f⟩ H2
   |_=>.er [131]
def M6(c_:Option Code)(Y:aE)(H:D):St:=match c_ with|none=>.ok (.normal,Y,H)|some c=>match c with|.ret=>.ok (.ret,Y,H)|.exit id=>.ok (.exit id,Y,H)|_=>.er [132]
def Fq(g:dy)(ps:List Tmp)(aI4 bd:Code)(Y:aE)(H:D):St:=bE E Y.cD g λ gv=>Gf Y ps aI4 bd H λ l an H1=>match rM gv [.fn (.yield l) [] []] H1 with|.ok (.call f args H2)=>(match rc (.call f args) H2 with|.er l=>.er (Y.fn::l)|.ok p=>match p with|(_,e)=>ie e l λ o=>match o with|.loop st c_ f n s ps aI4 bd d=>(match st with|.busy=>.er [133]|_=>me e l (some (.loop .exhausted c_ f n s ps aI4 bd d)) λ h=>M6 c_ an h)|_=>.er [134])|_=>.er [135]
def Dl(c:Code)(Y:aE)(H:D):St:=match c with
 |.skip=>.ok (.normal,Y,H)|.ret=>.ok (.ret,Y,H)|.exit id=>.ok (.exit id,Y,H)
 |.region id ak d=>aB (nO E rc ak.toList ak.toList (λ an H'=>.ok (.normal,an,H')) Y H)
  (cB E.pl Y.fn (λ e=>cB e id (λ pl=>m8 E rc ak.toList pl (λ an H'=>.ok (.normal,an,H')) Y H) (.er [136,Y.fn,id])) (.er [137,Y.fn])) d
 |.rangeFunc g ps aI4 bd=>Fq E rc g ps.toList aI4 bd Y H|_=>.er [138]
def dX(c:Code):aE->D->St:=aoT (Dl E rc) Hl (It E) F7 (GZ E) c
def xQ(l:AT)(H:D)(k:D->R β):R β:=jQ (γ:=D) (β:=R β) k (λ id _ e H=>ie H id λ o=>match o with|.deferred=>me H id none e|_=>.er [185]) l H
def Dx(s:CX)(H:D)(rs:List ResultVar)(k:J->R β):R β:=iA (λ r k=>match r with|.tmp t=>cB s t k (.er [139])|.cell a t=>cB s a (λ p=>zX E t p H k) (.er [140])) rs λ l=>match l with|[v]=>k v|l=>k (.dh l)
def NQ(args:AU)(k:Nat->CX->R β):R β:=kN .e 0 args λ t=>jV args λ n=>k n t
def yA(v:aC):Bool:=match v with|.int .i64 n=>(match n with|.ofNat a=>Nat.ble a 9223372036854775807|.negSucc a=>Nat.ble a 9223372036854775807)|_=>false
def tM(b:Nat)(v:aC)(l:List AE):Bool:=jQ (γ:=Unit) (β:=Bool) (λ _=>true) (λ p _ e u=>match p with|⟨x,b',_⟩=>aB (aB (e u) false (c8 x v)) false (Nat.beq b' b)) l ()
def jE(c:Nat)(l:List AE):Bool:=jQ (γ:=Unit) (β:=Bool) (λ _=>true) (λ p l' e u=>match p with|⟨x,b,_⟩=>aB false (aB false (aB false (e u) (tM b x l')) (yA x)) (Nat.blt b c)) l ()
def EZ(f:J)(H:D)(k:List aC->R β):R β:=match f with
 |.fn (.func g) [] [.ptr id 0]=>cB E.Q g (λ h=>eC (.er [141]) (λ h=>eC (ie H id λ o=>match o with
  |.cells 1 M _=>cB M 0 (λ m=>match m with
   |.map jO=>ie H jO λ o=>match o with
    |.map _ c l=>jV l λ n=>aB (.er [197]) (aB (.er [198]) (iA (λ (p:AE) k=>match p with|⟨x,_,_⟩=>k x) l k) (jE c l)) (Nat.ble n 1000000)
    |_=>.er [142]
   |.lit (.map none)=>k []|_=>.er [143]) (.er [144])
  |_=>.er [145]) (λ _=>.er [146]) h) h) (.er [147])
 |_=>.er [148]
def MW(n:Int)(l:BW)(k:BW->R β):R β:=jQ (γ:=BW->R β) (β:=R β) (λ k=>k [n]) (λ m l' e k=>aB (e λ r=>k (m::r)) (k (n::m::l')) (match n,m with|.ofNat a,.ofNat b=>Nat.ble a b|.negSucc a,.negSucc b=>Nat.ble b a|.negSucc _,.ofNat _=>true|.ofNat _,.negSucc _=>false)) l k
def q_(l:List aC)(k:BW->R β):R β:=jQ (γ:=BW->R β) (β:=R β) (λ k=>k []) (λ v _ e k=>match v with|.int .i64 n=>e λ r=>MW n r k|_=>.er [149]) l k
def vK(l:BW)(k:AU->R β):R β:=iA (λ n k=>k (.lit (.int .i64 n))) l k
def MY(s:aI)(l:List aI)(k:List aI->R β):R β:=jQ (γ:=List aI->R β) (β:=R β) (λ k=>k [s]) (λ m l' e k=>aB (k (s::m::l')) (e λ r=>k (m::r)) (yD m.data.toList s.data.toList)) l k
def Af(l:List aC)(k:List aI->R β):R β:=jQ (γ:=List aI->R β) (β:=R β) (λ k=>k []) (λ v _ e k=>match v with|.string s=>e λ r=>MY s r k|_=>.er [208]) l k
def Fv(l:List aI)(k:AU->R β):R β:=iA (λ s k=>k (.lit (.string s))) l k
def DE(Ag:List aC->(AU->R β)->R β)(x:J)(H:D)(k:D->R β):R β:=pz 1 x H λ n l=>eC (k H) (λ _=>aB (.er [207]) (Fc l λ e=>Ag e λ l'=>
 match x with
 |.sl id ah _ _ _ _=>ie H id λ o=>match o with|.cells m M ro=>aB (kN M ah l' λ g=>me H id (some (.cells m g false)) k) (.er [203]) ro|_=>.er [204]
 |_=>.er [205]) (Nat.ble n 1152921504606846976)) n
def vD(h:Nat)(args:AU)(H:D):R (J×D):=eC (.er [150]) (λ h=>eC (.er [151]) (λ h=>eC
 (match args with
  |[f]=>EZ E f H λ ks=>q_ ks λ l=>vK l λ g=>jV g λ n=>
    eC (.ok (.lit (.slice none 0 0),H)) (λ _=>kN .e 0 g λ t=>kM H (.cells n t false) λ id H'=>.ok (.sl id 0 1 n n false,H')) n
  |_=>.er [152])
 (λ h=>eC
  (match args with
   |[f]=>EZ E f H λ ks=>q_ ks λ l=>vK l λ g=>jV g λ n=>
     eC (.ok (.lit (.slice none 0 0),H)) (λ _=>iA (λ n k=>k (Value.int .i64 n)) l λ g=>kM H (.tN g) λ id H'=>.ok (.sl id 0 1 n n false,H')) n
   |_=>.er [153])
  (λ h=>eC (match args with
   |[.sl id 0 1 n _ _]=>ie H id λ o=>match o with
    |.tN l=>jV l λ m=>aB (.er [154]) (q_ l λ p=>match p with|x::_=>.ok (.lit (.int .i64 x),H)|[]=>.er [155]) (Nat.beq m n)
    |_=>.er [156]
   |_=>.er [157])
   (λ h=>eC (match args with
    |[]=>.ok (.lit (.bool true),H)|_=>.er [202])
    (λ h=>eC (match args with
     |[x]=>DE (λ g k=>q_ g λ p=>vK p k) x H λ H'=>.ok (.dh [],H')
     |_=>.er [206])
     (λ _=>match args with
      |[x]=>DE (λ g k=>Af g λ p=>Fv p k) x H λ H'=>.ok (.dh [],H')
      |_=>.er [209]) h) h) h) h) h) h) h
def oU(f:fD)(args:AU)(H:D):R (J×D):=cB E.ft f (λ fn=>match fn.body with
 |none=>.er [158,f]
 |some c=>NQ args λ n s=>d_ (Nat.add n (Nat.sub fn.ntmps n)) λ n'=>
  match dX E rc c ⟨s,n',[],none,f⟩ H with|.er l=>.er l|.ok r=>match r with|(ex,Y,H1)=>(match ex with|.exit _=>.er [159]|_=>match Y with|⟨s',_,m,_,_⟩=>xQ m H1 λ H2=>Dx E s' H2 fn.results.toList λ v=>.ok (v,H2))) (.er [160,f])
def Fu(n:Nat)(ps:List Tmp)(args:AU)(s:CX)(k:CX->R β):R β:=jQ (γ:=AU) (β:=CX->R β) (λ args s=>match args with|[]=>k s|_=>.er [161]) (λ p _ e args s=>match args with|[]=>.er [162]|a::g=>aB (.er [163]) (j_ 64 s p (some a) (λ s'=>e g s') (.er [164])) (Nat.blt p n)) ps args s
def Ft(l:Nat)(args:AU)(H:D):R (J×D):=ie H l λ o=>match o with
 |.loop st h f n s ps aI4 p u=>(match st with
  |.ready=>Fu n ps args s λ s1=>(match dX E rc aI4 ⟨s1,n,[],some l,f⟩ H with
   |.er l=>.er l
   |.ok r=>match r with
    |(.normal,Y,H1)=>ie H1 l λ o=>(match o with
     |.loop st c_ f n s ps aI4 bd d=>(match st with
      |.ready=>me H1 l (some (.loop .busy c_ f n s ps aI4 bd d)) λ H2=>(match dX E rc p Y H2 with
       |.er l=>.er l
       |.ok r=>match r with
        |(ex,_,g)=>ie g l λ o=>(match o with
         |.loop _ h f n s ps aI4 bd d=>(match ex with
          |.normal=>me g l (some (.loop .ready none f n s ps aI4 bd d)) λ e=>.ok (.lit (.bool true),e)
          |.ret=>me g l (some (.loop .done (some .ret) f n s ps aI4 bd d)) λ e=>.ok (.lit (.bool false),e)
          |.exit id=>me g l (some (.loop .done (some (.exit id)) f n s ps aI4 bd d)) λ e=>.ok (.lit (.bool false),e))
         |_=>.er [165]))
      |_=>.er [166])
     |_=>.er [167])
    |_=>.er [168])
  |_=>.er [169])
 |_=>.er [170]
end
def mw(E:aK)(n:Nat):mP:=rV (α:=Task) (β:=D->R (J×D)) (λ _ _=>.er [171]) (λ _ rc t H=>match t with|.call f args=>cB E.Q f (λ h=>eC (oU E rc f args H) (λ e=>eC (oU E rc f args H) (λ _=>vD E h args H) e) h) (oU E rc f args H)|.round l args=>Ft E rc l args H) n
def adL{α:Type}(f:α->(Option γ->R β)->R β)(l:List α)(k:Tr γ->R β):R β:=jQ (γ:=Nat) (β:=Tr γ->R β) (λ _ t=>k t) (λ a _ g i t=>f a λ v=>j_ 64 t i v (λ t'=>d_ (Nat.succ i) λ i'=>g i' t') (.er [200])) l 0 .e
def Ny{α:Type}(f:α->(γ->R β)->R β)(l:List (Nat×α))(k:Tr γ->R β):R β:=jQ (γ:=Tr γ) (β:=R β) k (λ p _ g t=>match p with|(i,a)=>f a λ v=>j_ 64 t i (some v) g (.er [201])) l .e
def ZH(ts:List TypeInfo)(d:TypeDesc)(k:TypeDesc->R β):R β:=match d with|.named _ u=>mE ts u (λ i=>k i.desc) (.er [202])|d=>k d
def agS(n:Nat)(d:TypeDesc):Bool:=match d with|.struct fs=>jQ (γ:=Unit) (β:=Bool) (λ _=>true) (λ f _ e u=>aB false (e u) (Nat.blt f.type n)) fs.toList ()|_=>true
def aeb(n:Nat)(ts:List TypeInfo)(i:TypeInfo)(k:Option TI->R β):R β:=ZH ts i.desc λ d=>match i.zero with
 |none=>k none
 |some z=>aB (k none) (match z with
  |.agg M=>iA (λ v k=>k (J.lit v)) M.toList λ l=>jV l λ n=>aB (k none) (aB (k none) (aB (k none) (k (some ⟨d,i.size,i.bytes,l⟩)) (fX l)) (Nat.beq n i.size)) (k9 d)
  |z=>aB (aB (k none) (aB (k none) (k (some ⟨d,i.size,i.bytes,[.lit z]⟩)) (km (.lit z))) (Nat.beq i.size 1)) (k none) (k9 d)) (agS n d)
abbrev BF:=List (Nat×List (Nat×List di))
def ajQ(l:BF)(k:Tr (Tr (List di))->R β):R β:=Ny (λ l k=>Ny (λ p k=>k p) l k) l k
def Iz(P:e8)(pl:BF)(ky:List (Nat×KS))(Q:List (Nat×Nat))(k:aK->R β):R β:=jV P.types.toList λ n=>adL (aeb n P.types.toList) P.types.toList λ tt=>adL (λ f k=>k (some f)) P.funcs.toList λ ft=>ajQ pl λ pl=>Ny (λ v k=>k v) ky λ ky=>Ny (λ v k=>k v) Q λ Q=>Ny (λ v k=>k v) [(0,0)] λ gl=>k ⟨tt,ft,gl,pl,ky,Q,1000000⟩
def Mc(g_:AT)(k:D->R β):R β:=iA (λ n k=>k (J.lit (.int .u8 (.ofNat n)))) g_ λ l=>kN .e 0 l λ t=>jV l λ n=>kM ⟨0,.e⟩ (.cells n t true) λ _ H=>k H
def runK(P:e8)(pl:BF)(ky:List (Nat×KS))(Q:List (Nat×Nat))(g_:AT)(fuel:Nat)(f:fD)(args:AU):R (J×D):=Iz P pl ky Q λ E=>Mc g_ λ H=>mw E fuel (.call f args) H
def isTrue(r:R (J×D)):Bool:=match r with|.ok p=>(match p with|(v,_)=>match v with|.lit (.bool b)=>b|_=>false)|.er _=>false
inductive Cls where
 |pu|ro|al|wr
 deriving DecidableEq
def kX:Op->Cls
 |.move _|.assign _|.pick .. |.build .. |.nilCheck _|.binOp .. |.unOp .. |.convert .. |.makeFunc .. |.slice .. |.fieldAddr .. |.field .. |.indexAddr .. |.index .. |.extract .. =>.pu
 |.load .. |.lookup .. =>.ro
 |.alloc _|.box .. |.buildSlice .. |.makeMap .. |.makeSlice .. =>.al
 |.call c=>match c.callee with
  |.builtin .min|.builtin .max=>.pu
  |.builtin .len=>.ro|_=>.wr
 |_=>.wr
inductive ch(ak:Array Oper):Nat->Nat->Prop
 |bV {i m:Nat} {o:Oper} {e:Edge}:ak[i]?=some o->e∈o.after->Region.binds .any e=true->e.on=m->ch ak i m|step {i p m:Nat} {o:Oper} {e:Edge}:ak[i]?=some o->e∈o.after->Region.binds .any e=true->e.on=p->ch ak p m->ch ak i m
def di.i:di->Nat
 |.op i=>i|.wr i _=>i
def di.sP:di->Bool
 |.op _=>false|.wr _ _=>true
structure PC(ak:Array Oper)(pre:List di)(p:di):Prop where
 lt:p.i<ak.size
 fresh:∀q∈pre,q.i≠p.i
 Rv:∀o,ak[p.i]?=some o->∀e∈o.after,Region.binds .any e=true->∃q∈pre,q.i=e.on
 Hq:∀q∈pre,q.sP=true->ch ak p.i q.i
 cl:∀i,p=.op i->∀o,ak[i]?=some o->kX o.op≠.wr
 rd:∀w re,p=.wr w re->∀q∈pre,∀o,ak[q.i]?=some o->kX o.op=.ro->q.i∈re\/ch ak w q.i
 aDZ:∀w re,p=.wr w re->∀i∈re,∀(o:Oper) (m:Nat) (o':Oper) (t:Tmp),ak[i]?=some o->ak[m]?=some o'->o'.dst=some t->t∈o.looksAt ak->ch ak i m
structure rE(ak:Array Oper)(pl:List di):Prop where
 pc:∀(j:Nat) (p:di),pl[j]?=some p->PC ak (pl.take j) p
 Xx:∀i,i<ak.size->∃(j:Nat) (p:di),pl[j]?=some p/\p.i=i
 ZJ:∀(i i':Nat) (o o':Oper) (t:Tmp),ak[i]?=some o->ak[i']?=some o'->o.dst=some t->o'.dst=some t->i=i'
 look:∀(i m:Nat) (o o':Oper) (t:Tmp),ak[i]?=some o->ak[m]?=some o'->o'.dst=some t->t∈o.looksAt ak->m=i\/ch ak i m\/ch ak m i
 sel:Region.noSelect ak=true
def qG(E:aK)(f:fD):Code->Prop
 |.region id ak true=>∀e pl,E.pl.get f=some e->e.get id=some pl->rE ak pl|.seq a b=>qG E f a/\qG E f b|.cond _ a b=>qG E f a/\qG E f b|.block _ a=>qG E f a|.loop a=>qG E f a|.rangeFunc _ _ a b=>qG E f a/\qG E f b|_=>True
abbrev bh:=Nat->Option (Nat×Nat×Nat)
mutual
inductive Rl(ρ:bh):J->Value->Prop
 |lit (v:aC):Rl ρ (.lit v) v|ptr {id ah b s N:Nat}:ρ id=some (b,s,N)->Rl ρ (.ptr id ah) (.pointer (some ⟨b,s+ah,none⟩))
 |sl {id ah es len ax:Nat} {ex:Bool} {b s N c:Nat}:ρ id=some (b,s,N)->(ex=true->c=ax)->ax<=c->len<=ax->s+ah+c*es<=N->c<=maxLen->
  Rl ρ (.sl id ah es len ax ex) (.slice (some ⟨b,s+ah,none⟩) len c)
 |eF {a:Addr} {c:Nat}:Rl ρ .eF (.slice (some a) 0 c)|map {id b s N:Nat}:ρ id=some (b,s,N)->Rl ρ (.map id) (.map (some b))|Hs {id b s N:Nat}:ρ id=some (b,s,N)->Rl ρ (.fn (.yield id) [] []) (.func (.yield b) #[] #[])|fn {f:fD} {l m:List J} {l' m':Array aC}:cA ρ l l'.toList->cA ρ m m'.toList->Rl ρ (.fn (.func f) l m) (.func (.func f) l' m')|agg {l:List J} {l':Array aC}:cA ρ l l'.toList->Rl ρ (.agg l) (.agg l')|dh {l:List J} {l':Array aC}:cA ρ l l'.toList->Rl ρ (.dh l) (.tuple l')
inductive cA(ρ:bh):List J->List Value->Prop
 |nil:cA ρ [] []|cons {a:J} {v:aC} {l:List J} {m:List aC}:Rl ρ a v->cA ρ l m->cA ρ (a::l) (v::m)
end
def Am(ρ bM:bh):Prop:=∀id p,ρ id=some p->bM id=some p
mutual
def Rl.mono{ρ bM:bh}(h:Am ρ bM):∀{a:J} {v:aC},Rl ρ a v->Rl bM a v
 |_,_,.lit v=>.lit v|_,_,.ptr e=>.ptr (h _ _ e)|_,_,.sl e O U F n g=>.sl (h _ _ e) O U F n g|_,_,.eF=>.eF|_,_,.map e=>.map (h _ _ e)|_,_,.Hs e=>.Hs (h _ _ e)|_,_,.fn O U=>.fn (cA.mono h O) (cA.mono h U)|_,_,.agg O=>.agg (cA.mono h O)|_,_,.dh O=>.dh (cA.mono h O)
def cA.mono{ρ bM:bh}(h:Am ρ bM):∀{l:AU} {m:List aC},cA ρ l m->cA bM l m
 |_,_,.nil=>.nil|_,_,.cons O U=>.cons (Rl.mono h O) (cA.mono h U)
end
namespace cA
variable{ρ:bh}
def length{l:AU}{m:List aC}(h:cA ρ l m):l.length=m.length:=by induction l generalizing m with|nil=>cases h;rfl|cons a l e=>cases h with|cons _ U=>simp[e U]
def get(h:cA ρ l m)(e:l[b]?=some a):∃v,m[b]?=some v/\Rl ρ a v:=by
 induction l generalizing m b with
 |nil=>simp at e
 |cons x l g=>
  cases h with
  |cons O U=>
   cases b with|zero=>simp at e;subst e;exact⟨_,rfl,O⟩|succ b=>simp at e;simpa using g U e
def azS(e:l.length=m.length)(h:∀(i:Nat) (a:J) (v:aC),l[i]?=some a->m[i]?=some v->Rl ρ a v):cA ρ l m:=by
 induction l generalizing m with
 |nil=>cases m with|nil=>exact .nil|cons _ _=>simp at e
 |cons a l g=>
  cases m with|nil=>simp at e|cons v m=>exact .cons (h 0 a v rfl rfl) (g (by simpa using e) λ i a v O U=>h (i+1) a v (by simpa using O) (by simpa using U))
def append(h:cA ρ l m)(U:cA ρ l2 m2):cA ρ (l++l2) (m++m2):=by induction l generalizing m with|nil=>cases h;simpa using U|cons a l e=>cases h with|cons O F=>exact .cons O (e F)
def take{l:AU}{m:List aC}(h:cA ρ l m)(n:Nat):cA ρ (l.take n) (m.take n):=by induction l generalizing m n with|nil=>cases h;simpa using cA.nil|cons a l e=>cases h with|cons O F=>cases n with|zero=>exact .nil|succ n=>exact .cons O (e F n)
def drop{l:AU}{m:List aC}(h:cA ρ l m)(n:Nat):cA ρ (l.drop n) (m.drop n):=by induction l generalizing m n with|nil=>cases h;simpa using cA.nil|cons a l e=>cases h with|cons O F=>cases n with|zero=>exact .cons O F|succ n=>exact e F n
end cA
inductive F2{α γ:Type}(S:α->γ->Prop):List α->List γ->Prop
 |nil:F2 S [] []|cons {a:α} {b:γ} {l:List α} {m:List γ}:S a b->F2 S l m->F2 S (a::l) (b::m)
namespace F2
variable{α γ:Type}{S ay:α->γ->Prop}
def mono(h:∀a b,S a b->ay a b){l:List α}{m:List γ}(g:F2 S l m):F2 ay l m:=by induction g with|nil=>exact .nil|cons O _ e=>exact .cons (h _ _ O) e
def length{l:List α}{m:List γ}(h:F2 S l m):l.length=m.length:=by induction h with|nil=>rfl|cons _ _ e=>simp[e]
def append{l l2:List α}{m m2:List γ}(h:F2 S l m)(U:F2 S l2 m2):F2 S (l++l2) (m++m2):=by induction h with|nil=>simpa using U|cons O _ e=>exact .cons O e
end F2
def AO.Dh:AO->Bool
 |.cells _ _ ro=>ro|_=>false
def KP:KS->aC->Prop
 |.one c,v=>oz c v=true|.agg M,v=>∃xs,v=.agg ⟨xs⟩/\oc M xs=true
def OR(E:aK)(ρ:bh)(o:AO)(s N:Nat)(x:Option Obj):Prop:=match o with
 |.cells n t ro=>∃c elem h,x=some (.cells c elem h)/\c.size=N/\s+n<=N/\(ro=false->h=(0,0))/\(∀(i:Nat) av,i<n->t.get i=some av->∃v,c[s+i]?=some v/\Rl ρ av v)/\(n=1->s=0)|.tN l=>∃c elem,x=some (.cells c elem (0,0))/\c.size=N/\s+l.length<=N/\((c.toList.drop s).take l.length).Perm l|.map kt cl l=>∃es,x=some (.map es cl)/\(∃ks,E.ky.get kt=some ks/\∀e∈l,KP ks e.k)/\F2 (λ (e:AE) (g:MapEntry)=>g.key=e.k/\g.born=e.b/\Rl ρ e.v g.val) l es.toList
 |.loop st c_ fn size tmps params assign body df=>qG E fn assign/\qG E fn body/\∃r,x=some (.loop r)/\r.state=st/\r.pending=c_/\r.tmps.size=size/\
  (∀(i:Nat) av,tmps.get i=some av->∃v,r.tmps[i]?=some v/\Rl ρ av v)/\r.params.toList=params/\r.assign=assign/\r.body=body/\∃s' N',ρ df=some (r.defers,s',N')
 |.deferred=>x=some (.deferred (some []))
def OR.mono{E:aK}{ρ bM:bh}{o:AO}{s N:Nat}{x:Option Obj}(Z:Am ρ bM)(h:OR E ρ o s N x):OR E bM o s N x:=by
 cases o with
 |cells n t ro=>
  have⟨c,e,L,O,U,F,J,u,p⟩:=h
  exact⟨c,e,L,O,U,F,J,λ i av A g=>let⟨v,a,b⟩:=u i av A g;⟨v,a,b.mono Z⟩,p⟩
 |tN l=>exact h
 |map kt cl l=>
  have⟨es,O,U,F⟩:=h
  exact⟨es,O,U,F.mono λ _ _ ⟨a,b,c⟩=>⟨a,b,c.mono Z⟩⟩
 |loop st c_ fn size tmps params assign body df=>
  have⟨C,B,r,O,U,F,u,p,I,G,D,s',N',z⟩:=h
  exact⟨C,B,r,O,U,F,u,λ i av g=>let⟨v,a,b⟩:=p i av g;⟨v,a,b.mono Z⟩,I,G,D,s',N',Z _ _ z⟩
 |deferred=>exact h
structure HR(E:aK)(w0:World)(ρ:bh)(H:D)(w:World):Prop where
 lt:∀id p,ρ id=some p->id<H.ab
 obj:∀id b s N o,ρ id=some (b,s,N)->H.t.get id=some o->OR E ρ o s N w.heap[b]?
 inj:∀i j b s N s' N' o o',ρ i=some (b,s,N)->ρ j=some (b,s',N')->H.t.get i=some o->H.t.get j=some o'->o'.Dh=false->i=j
 own:∀id b s N o,ρ id=some (b,s,N)->H.t.get id=some o->o.Dh=false->w0.heap.size<=b
 bF:∀id b s N,ρ id=some (b,s,N)->b<w.heap.size
 vo:∀g id,E.gl.get g=some id->∃N,ρ id=some (g,0,N)
 ia:jG (λ _=>False) w0 w
 Y:∀id,H.ab<=id->H.t.get id=none
structure cV(ρ:bh)(H:D)(bM:bh)(H':D):Prop where
 ext:Am ρ bM
 A9:∀id,id<H.ab->ρ id=none->bM id=none/\H'.t.get id=H.t.get id
 ab:H.ab<=H'.ab
def cV.refl(ρ:bh)(H:D):cV ρ H ρ H:=⟨λ _ _ h=>h,λ _ _ h=>⟨h,rfl⟩,aF⟩
def cV.trans{ρ g e:bh}{H H1 H2:D}(h:cV ρ H g H1)(U:cV g H1 e H2):cV ρ H e H2:=⟨λ id p u=>U.ext _ _ (h.ext _ _ u),λ id n z=>by have⟨a,b⟩:=h.A9 id n z;have⟨c,d⟩:=U.A9 id (aT n h.ab) a;exact⟨c,d.trans b⟩,aY h.ab U.ab⟩
def uO(H:D)(o:AO)(H':D):Prop:=H'.ab=H.ab+1/\∀j,H'.t.get j=if j=H.ab then some o else H.t.get j
def tG(H:D)(id:Nat)(o:Option AO)(H':D):Prop:=H'.ab=H.ab/\∀j,H'.t.get j=if j=id then o else H.t.get j
def bh.add(ρ:bh)(id:Nat)(p:Nat×Nat×Nat):bh:=λ j=>if j=id then some p else ρ j
def bh.sk{ρ:bh}{p:Nat×Nat×Nat}(h:ρ b=none):Am ρ (ρ.add b p):=by
 intro j q g;unfold bh.add;split
 .rename_i e;subst e;rw[h]at g;cases g
 .exact g
def Tl(w:bI)(o:Obj):(w.alloc o).heap.size=w.heap.size+1:=by show(w.heap.push o).size=_;simp
section
variable{E:aK}{w0 w:bI}{ρ:bh}{H H':D}
def HR.fresh(h:HR E w0 ρ H w):ρ H.ab=none:=by cases e:ρ H.ab with|none=>rfl|some p=>exact absurd (h.lt _ _ e) (Tb _)
def HR.drew(h:HR E w0 ρ H w){w':bI}(O:w'.heap=w.heap)(U:w'.os=w.os)(F:w'.tape=w.tape)(p:w'.output=w.output):HR E w0 ρ H w':=⟨h.lt,λ id b s N o e n=>by rw[O];exact h.obj id b s N o e n,h.inj,h.own,λ id b s N e=>by rw[O];exact h.bF id b s N e,h.vo,⟨U.trans h.ia.os,F.trans h.ia.tape,p.trans h.ia.output,by rw[O];exact h.ia.size,λ k Q g=>by rw[O];exact h.ia.block k Q g⟩,h.Y⟩
def HR.more(h:HR E w0 ρ H w)(o:Obj):HR E w0 ρ H (w.alloc o):=⟨h.lt,λ id b s N o' e g=>by rw[heap_alloc_old _ _ (h.bF id b s N e)];exact h.obj id b s N o' e g,h.inj,h.own,λ id b s N e=>aT (h.bF id b s N e) (by rw[Tl];omega),h.vo,h.ia.alloc o,h.Y⟩
def HR.Ye(h:HR E w0 ρ H w){o:AO}(B:uO H o H'):HR E w0 ρ H' w:=by
 have⟨A,g⟩:=B;have key:∀id p,ρ id=some p->H'.t.get id=H.t.get id:=λ id p e=>by rw[g,ao (bC (h.lt id p e))]
 refine⟨λ id p e=>by rw[A];exact KM (h.lt id p e),?_,?_,?_,h.bF,h.vo,h.ia,λ id D=>by rw[g,ao ω];exact h.Y id ω⟩
 .intro id b s N o' O U;rw[key _ _ O]at U;exact h.obj id b s N o' O U
 .intro i j b s N s' N' z u O U F n C;rw[key _ _ O]at F;rw[key _ _ U]at n;exact h.inj i j b s N s' N' z u O U F n C
 .intro id b s N o' O U F;rw[key _ _ O]at U;exact h.own id b s N o' O U F
def cV.Ye{o:AO}(e:uO H o H')(u:∀id p,ρ id=some p->id<H.ab):cV ρ H ρ H':=⟨λ _ _ h=>h,λ id n g=>⟨g,by rw[e.2,ao (bC n)]⟩,by rw[e.1];omega⟩
def HR.named(h:HR E w0 ρ H w){id:Nat}{o:AO}(T:id<H.ab)(G:ρ id=none)(D:H.t.get id=some o)(C:OR E (ρ.add id (w.heap.size,s,N)) o s N (some x))(J:w0.heap.size<=w.heap.size):HR E w0 (ρ.add id (w.heap.size,s,N)) H (w.alloc x):=by
 have Z:=bh.sk (p:=(w.heap.size,s,N)) G
 have cases:∀j p,(ρ.add id (w.heap.size,s,N)) j=some p->(j=id/\p=(w.heap.size,s,N))\/ρ j=some p:=by
  intro j p u;unfold bh.add at u;split at u
  .rename_i e;cases u;exact .inl ⟨e,rfl⟩
  .exact .inr u
 refine⟨?_,?_,?_,?_,?_,?_,h.ia.alloc x,h.Y⟩
 .intro j p u
  rcases cases j p u with⟨rfl,_⟩|u
  .exact T
  .exact h.lt j p u
 .intro j b s' N' o' O U
  rcases cases j _ O with⟨rfl,e⟩|n
  .cases e;rw[D]at U;cases U;rw[heap_alloc_new];exact C
  .rw[heap_alloc_old _ _ (h.bF j b s' N' n)];exact(h.obj j b s' N' o' n U).mono Z
 .intro i j b s1 W s2 V B A O U F Q M
  rcases cases i _ O with⟨rfl,e⟩|n
  .cases e;rcases cases j _ U with⟨rfl,_⟩|z
   .rfl
   .have:=h.bF j _ _ _ z;omega
  .rcases cases j _ U with⟨rfl,e⟩|z
   .cases e;have:=h.bF i _ _ _ n;omega
   .exact h.inj i j b s1 W s2 V B A n z F Q M
 .intro j b s' N' o' O U F
  rcases cases j _ O with⟨rfl,e⟩|n
  .cases e;exact J
  .exact h.own j b s' N' o' n U F
 .intro j b s' N' O
  rcases cases j _ O with⟨rfl,e⟩|n
  .cases e;rw[Tl];omega
  .exact aT (h.bF j _ _ _ n) (by rw[Tl];omega)
 .intro g i I
  obtain⟨N',L⟩:=h.vo g i I;exact⟨N',Z _ _ L⟩
def HR.alloc(h:HR E w0 ρ H w){x:Obj}{o:AO}{s N:Nat}(e:uO H o H')(p:OR E (ρ.add H.ab (w.heap.size,s,N)) o s N (some x)):HR E w0 (ρ.add H.ab (w.heap.size,s,N)) H' (w.alloc x)/\cV ρ H (ρ.add H.ab (w.heap.size,s,N)) H':=by
 have g:=h.fresh
 refine⟨(h.Ye e).named (by rw[e.1];omega) g (by rw[e.2,aq rfl]) p h.ia.size,?_⟩
 refine⟨bh.sk g,λ id n u=>⟨?_,by rw[e.2,ao (bC n)]⟩,by rw[e.1];omega⟩
 unfold bh.add;rw[ao (bC n)];exact u
def HR.XE(h:HR E w0 ρ H w){w':bI}{id:Nat}{o:AO}(A:ρ id=some (b,s,N))(G:H.t.get id=some o)(D:o.Dh=false)(amx:o'.Dh=false)(B:tG H id (some o') H')(W:OR E ρ o' s N w'.heap[b]?)(O:w'.heap.size=w.heap.size)(T:∀k,k≠b->w'.heap[k]?=w.heap[k]?)(U:w'.os=w.os)(F:w'.tape=w.tape)(h4:w'.output=w.output):HR E w0 ρ H' w'/\cV ρ H ρ H':=by
 have hB:=h.own id b s N o A G D
 have back:∀j z,H'.t.get j=some z->∃C,H.t.get j=some C/\(z.Dh=false->C.Dh=false):=by
  intro j z n;rw[B.2]at n;split at n
  .rename_i e;subst e;exact⟨o,G,λ _=>D⟩
  .exact⟨z,n,λ h=>h⟩
 refine⟨⟨λ j p Z=>by rw[B.1];exact h.lt j p Z,?_,?_,?_,λ j b' s' N' n=>by rw[O];exact h.bF j b' s' N' n,h.vo,?_,λ j n=>by rw[B.2,ao (λ e=>by have:=h.lt id _ A;rw[B.1]at n;omega)];exact h.Y j (by rw[B.1]at n;exact n)⟩,λ _ _ h=>h,λ j n I=>⟨I,?_⟩,by rw[B.1];omega⟩
 .intro j b' s' N' z u g
  obtain⟨C,sL,_⟩:=back j z g;rw[B.2]at g;split at g
  .rename_i e;subst e;cases g;rw[A]at u;cases u;exact W
  .rename_i e;have cR:b'≠b:=by rintro rfl;exact e (h.inj j id b' s' N' s N _ _ u A g G D)
   rw[T _ cR];exact h.obj j b' s' N' z u g
 .intro i j b' s1 N1 s2 N2 C V u g M h8 h9
  obtain⟨_,L,_⟩:=back i C M;obtain⟨_,J,hr⟩:=back j V h8;exact h.inj i j b' s1 N1 s2 N2 _ _ u g L J (hr h9)
 .intro j b' s' N' z u g M
  rw[B.2]at g;split at g
  .rename_i e;subst e;rw[A]at u;cases u;exact hB
  .exact h.own j b' s' N' z u g M
 .exact⟨U.trans h.ia.os,F.trans h.ia.tape,h4.trans h.ia.output,by rw[O];exact h.ia.size,λ k Q X=>by rw[T k ω];exact h.ia.block k Q X⟩
 .rw[B.2,ao]
  rintro rfl;rw[A]at I;cases I
def HR.gone(h:HR E w0 ρ H w){p:Nat×Nat×Nat}(A:ρ b=some p)(n:tG H b none H'):HR E w0 ρ H' w/\cV ρ H ρ H':=by
 have back:∀j g,H'.t.get j=some g->H.t.get j=some g:=by
  intro j g e;rw[n.2]at e;split at e
  .cases e
  .exact e
 refine⟨⟨λ j p G=>by rw[n.1];exact h.lt j p G,λ j b' s' N' g z u=>h.obj j b' s' N' g z (back _ _ u),λ i j b' s1 M s2 L F D z u C J I=>h.inj i j b' s1 M s2 L F D z u (back _ _ C) (back _ _ J) I,λ j b' s' N' g z u C=>h.own j b' s' N' g z (back _ _ u) C,h.bF,h.vo,h.ia,λ j e=>by rw[n.2];split;rfl;exact h.Y j (by rw[n.1]at e;exact e)⟩,λ _ _ h=>h,λ j e B=>⟨B,?_⟩,by rw[n.1];omega⟩;rw[n.2,ao];rintro rfl;rw[A]at B;cases B
end
def db{l:AT}{x:R β}{b:Bool}(h:aB (.er l) x b=.ok r):b=true/\x=.ok r:=by cases b with|false=>cases h|true=>exact⟨rfl,h⟩
def O3{l:AT}{x:R β}{b:Bool}(h:aB x (.er l) b=.ok r):b=false/\x=.ok r:=by cases b with|true=>cases h|false=>exact⟨rfl,h⟩
def ajq{l:AT}(h:eC (.er l) f b=.ok r):∃m,b=m+1/\f m=.ok r:=by cases b with|zero=>cases h|succ m=>exact⟨m,rfl,h⟩
def oY{α:Type}{t:Tr α}{k:α->R β}{l:AT}(h:cB t b k (.er l)=.ok r):∃v,t.get b=some v/\k v=.ok r:=by rw[jJ]at h;cases e:t.get b with|none=>rw[e]at h;cases h|some v=>rw[e]at h;exact⟨v,rfl,h⟩
def JU{α:Type}{t:Tr α}{v:Option α}{k:Tr α->R β}{l:AT}(h:j_ b t s v k (.er l)=.ok r):∃t',(∀j,t'.get j=if j=s then v else t.get j)/\k t'=.ok r:=by
 rw[DA]at h
 cases e:t.set b s v with|none=>rw[e]at h;cases h|some t'=>rw[e]at h;exact⟨t',Tr.adU _ _ _ _ _ e,h⟩
def oB(h:ie H b k=.ok r):∃o,H.t.get b=some o/\k o=.ok r:=by cases H;exact oY h
def rk{o:Option AO}{k:D->R β}(h:me H b o k=.ok r):∃H',tG H b o H'/\k H'=.ok r:=by
 cases H with
 |mk e t=>
  have g:j_ (Nat.succ b) t b o (λ t'=>k ⟨e,t'⟩) (.er [3])=.ok r:=h
  have⟨t',O,U⟩:=JU g
  exact⟨⟨e,t'⟩,⟨rfl,O⟩,U⟩
def vP{k:Nat->D->R β}(h:kM H o' k=.ok r):∃H',uO H o' H'/\k H.ab H'=.ok r:=by
 cases H with
 |mk e t=>
  have g:j_ (Nat.succ e) t e (some o') (λ t'=>d_ (Nat.succ e) λ n=>k e ⟨n,t'⟩) (.er [1])=.ok r:=h
  have⟨t',O,U⟩:=JU g
  rw[mr]at U
  exact⟨⟨e+1,t'⟩,⟨rfl,O⟩,U⟩
def qA{α γ:Type}(z:γ->β)(s:α->List α->(γ->β)->γ->β)(a:α)(l:List α)(g:γ):jQ z s (a::l) g=s a l (jQ z s l) g:=rfl
def z8{α:Type}(z:α->β)(s:Nat->(α->β)->α->β)(n:Nat)(a:α):rV z s (n+1) a=s n (rV z s n) a:=rfl
def He{t:CX}{k:AU->R β}(h:pU t b s k=.ok r):∃l,l.length=s/\(∀i,i<s->∃a,l[i]?=some a/\t.get (b+i)=some a)/\k l=.ok r:=by
 have key:∀(s:Nat) (g:AU),rV (α:=AU) (β:=R β) k (λ i n g=>cB t (Nat.add b i) (λ v=>n (v::g)) (.er [4,b,i])) s g=.ok r->∃l,l.length=s/\(∀i,i<s->∃a,l[i]?=some a/\t.get (b+i)=some a)/\k (l++g)=.ok r:=by
  intro s
  induction s with
  |zero=>intro g h;exact⟨[],rfl,λ i A=>absurd A (Nat.not_lt_zero _),h⟩
  |succ s n=>
   intro g h
   rw[z8]at h
   have⟨v,O,U⟩:=oY h
   have⟨l,F,B,z⟩:=n _ U
   refine⟨l++[v],by simp[F],λ i A=>?_,by simpa using z⟩
   by_cases e:i<s
   .have⟨a,u,p⟩:=B i e
    exact⟨a,by rw[jI ω];exact u,p⟩
   .obtain rfl:i=s:=ω
    exact⟨v,by rw[mi ω,F];simp,O⟩
 unfold pU at h
 have⟨l,O,U,F⟩:=key s [] h
 exact⟨l,O,U,by simpa using F⟩
theorem sd{β:Type}{k:CX->R β}{r:β}:∀{l:AU} {ah:Nat} {t:CX},kN t ah l k=.ok r->∃t',(∀j,t'.get j=if ah<=j/\j<ah+l.length then l[j-ah]? else t.get j)/\k t'=.ok r
 |[],ah,t,h=>⟨t,λ j=>by rw[ao (by rw[wg];omega)],h⟩
 |v::l,ah,t,h=>by
  unfold kN at h
  rw[qA]at h
  have⟨t1,O,U⟩:=JU h
  rw[mr]at U
  have⟨t',F,n⟩:=sd (l:=l) U
  refine⟨t',λ j=>?_,n⟩
  rw[F j,O j]
  by_cases e:j=ah
  .subst e
   rw[ao ω,aq rfl,aq ζ];simp
  .by_cases g:ah.succ<=j/\j<ah.succ+l.length
   .rw[aq g,aq ξ];obtain⟨d,rfl⟩:∃d,j=ah+1+d:=⟨j-(ah+1),ω⟩;have u:ah+1+d-ah.succ=d:=ω
    have p:ah+1+d-ah=d+1:=ω
    rw[u,p];simp
   .rw[ao g,ao e,ao ξ]
theorem W_{β:Type}{z:AU}{sz ah:Nat}{k:CX->R β}{r:β}(g:z.length=sz):∀{n:Nat} {t:CX},Ac z sz n ah t k=.ok r->∃t',(∀j,t'.get j=if ah<=j/\j<ah+n*sz then z[(j-ah)%sz]? else t.get j)/\k t'=.ok r
 |0,t,h=>⟨t,λ j=>by rw[ao ω],h⟩
 |n+1,t,h=>by
  unfold Ac at h
  rw[z8]at h
  have⟨t1,O,U⟩:=sd h
  have⟨t',F,u⟩:=W_ g (n:=n) U
  refine⟨t',λ j=>?_,u⟩
  rw[F j,O j,g]
  have e0:ah.add (n.mul sz)=ah+n*sz:=rfl
  rw[e0,DW,Nat.one_mul]
  by_cases e:ah<=j/\j<ah+n*sz
  .rw[aq e,aq ω]
  .rw[ao e]
   by_cases p:ah+n*sz<=j/\j<ah+n*sz+sz
   .rw[aq p,aq ω];congr 1;obtain⟨d,hd⟩:∃d,j=ah+n*sz+d:=⟨j-(ah+n*sz),ω⟩;subst hd;have A:ah+n*sz+d-ah=d+n*sz:=ω
    rw[A,Nat.add_mul_mod_self_right,YN ω];omega
   .rw[ao p,ao ω]
theorem Bh{α γ β:Type}{f:α->(γ->R β)->R β}{S:α->γ->Prop}(e:∀a k r,f a k=.ok r->∃b,S a b/\k b=.ok r):∀{l:List α} {k:List γ->R β} {r:β},iA f l k=.ok r->∃l',F2 S l l'/\k l'=.ok r
 |[],k,r,h=>⟨[],.nil,h⟩
 |a::l,k,r,h=>by
  have⟨b,O,U⟩:=e a _ r h
  have⟨l',F,g⟩:=Bh e (l:=l) (k:=λ l'=>k (b::l')) U
  exact⟨b::l',.cons O F,g⟩
theorem DX{α β:Type}:∀(l m:List α) (k:List α->R β),F3 l m k=k (l++m)
 |[],_,_=>rfl|a::l,m,k=>DX l m (λ l'=>k (a::l'))
theorem ux{α β:Type}:∀(l:List α) (k:Nat->R β),jV l k=k l.length
 |[],_=>rfl|_::l,k=>ux l (λ n=>k (Nat.succ n))
theorem Dr{α β:Type}{k:α->R β}{e:AT}{r:β}:∀{l:List α} {n:Nat},mE l n k (.er e)=.ok r->∃a,l[n]?=some a/\k a=.ok r
 |[],_,h=>by cases h
 |a::l,0,h=>⟨a,rfl,h⟩
 |a::l,n+1,h=>by
  have g:mE l n k (.er e)=.ok r:=h
  have⟨b,O,U⟩:=Dr g
  exact⟨b,by simpa using O,U⟩
theorem aea{α β:Type}{e:AT}{r:β}:∀{n:Nat} {l:List α} {k:List α->R β},J7 n l k (.er e)=.ok r->n<=l.length/\k (l.take n)=.ok r
 |0,l,k,h=>⟨dQ _,by have g:k []=.ok r:=h;simpa using g⟩|n+1,[],k,h=>by cases h
 |n+1,a::l,k,h=>by
  have g:J7 n l (λ r=>k (a::r)) (.er e)=.ok r:=h
  have⟨O,U⟩:=aea g
  exact⟨ξ,by simpa using U⟩
theorem ZI{α β:Type}{k:List α->R β}{e:AT}{r:β}:∀{n:Nat} {l:List α},Li n l k (.er e)=.ok r->n<=l.length/\k (l.drop n)=.ok r
 |0,l,h=>⟨dQ _,by have g:k l=.ok r:=h;simpa using g⟩|n+1,[],h=>by cases h
 |n+1,a::l,h=>by
  have g:Li n l k (.er e)=.ok r:=h
  have⟨O,U⟩:=ZI g
  exact⟨ξ,by simpa using U⟩
def agX(v:aC)(k:aC->β):agW v k=k v:=by
 cases v<;>try rfl
 case int j n=>exact aqs n λ n'=>k (.int j n')
 case bool b=>cases b<;>rfl
theorem KQ:∀{l:AU},fX l=true->∀a∈l,km a=true
 |[],_,_,h=>by cases h
 |a::l,h,x,Z=>by
  have g:aB false (fX l) (km a)=true:=h
  cases e:km a with
  |false=>rw[e]at g;cases g
  |true=>
   rw[e]at g
   rcases cZ.1 Z with rfl|Z
   .exact e
   .exact KQ g x Z
variable{E:aK}{l:AU}{ah:Nat}{x:dy}{ρ:bh}{β:Type}{r:β}
structure pE(P:Program)(t:TypeId)(i:TI):Prop where
 oH:P.underlying t=some i.desc
 info:∃x zv,P.info? t=some x/\x.size=i.size/\x.bytes=i.bytes/\x.zero=some zv/\i.zero=zv.cells.toList.map J.lit/\((k9 i.desc=true/\∃M,zv=.agg M)\/(k9 i.desc=false/\zv.oneCell'=true))
 len:i.zero.length=i.size
 cell:fX i.zero=true
 br:∀fs,i.desc=.struct fs->∀f∈fs.toList,∃x,P.info? f.type=some x
structure Ob(P:Program)(t:TypeId)(ks:KS):Prop where
 ko:Oc P t (KP ks)
 eq:∀x y w,KP ks x->KP ks y->(Op.equal t x y).run P w=.ok (c8 x y) w
 gd:P.eqGuardType P.depth t=false
structure eW(P:Program)(E:aK):Prop where
 tt:∀t i,E.tt.get t=some i->pE P t i
 ft:∀f fn,E.ft.get f=some fn->P.funcs[f]?=some fn
 nm:∀(f:fD) (fn:Func),P.funcs[f]?=some fn->fn.body.isSome=true->(fn.name== "runtime.NumGoroutine")=false
 ky:∀t ks,E.ky.get t=some ks->Ob P t ks
 mixed:P.follows .mixedOrders=true
 pl:∀(f:fD) (fn:Func) (c:Code),E.ft.get f=some fn->fn.body=some c->qG E f c
def nS{t:aS}{k:TypeDesc->Nat->Nat->AU->R β}(h:gD E t k=.ok r):∃i,E.tt.get t=some i/\k i.desc i.size i.bytes i.zero=.ok r:=by have⟨i,O,U⟩:=oY h;exact⟨i,O,U⟩
section
variable{P:e8}{t:aS}{i:TI}
def pE.aki(h:pE P t i)(w:bI):(underlying t).run P w=.ok i.desc w:=dR h.oH w
def pE.wZ(h:pE P t i)(w:bI):(sizeOf t).run P w=.ok i.size w:=by have⟨x,zv,O,U,_⟩:=h.info;simp[sizeOf,typeInfo,O,U]
def pE.Xj(h:pE P t i)(w:bI):(isAgg t).run P w=.ok (k9 i.desc) w:=by unfold isAgg;simp only[cK,h.aki w,dD];cases i.desc<;>rfl
def pE.aD8(h:pE P t i)(w:bI):∃x,(typeInfo t).run P w=.ok x w/\x.size=i.size/\x.bytes=i.bytes:=by have⟨x,zv,O,U,F,_⟩:=h.info;exact⟨x,by simp[typeInfo,O],U,F⟩
def pE.adR(h:pE P t i)(w:bI):∃zv,(zeroValue t).run P w=.ok zv w/\i.zero=zv.cells.toList.map J.lit/\((k9 i.desc=true/\∃M,zv=.agg M)\/(k9 i.desc=false/\zv.oneCell'=true)):=by have⟨x,zv,O,U,F,n,g,e⟩:=h.info;exact⟨zv,by simp[zeroValue,typeInfo,O,n],g,e⟩
end
def RI(l:List aC):cA ρ (l.map J.lit) l:=by induction l with|nil=>exact .nil|cons v l e=>exact .cons (.lit v) e
def Zw{v:aC}(h:v.oneCell'=true):v.cells=#[v]:=by cases v<;>simp_all[Value.oneCell',Value.cells]
def QX{v:aC}(h:Rl ρ a v)(e:km a=true):v.oneCell'=true:=by
 cases h with
 |lit v=>cases v<;>first|rfl|(cases e)
 |agg _=>cases e|dh _=>cases e|_=>rfl
def O9{a:J}{v:aC}(h:Rl ρ a v)(p:fX (cellsOf a)=true):cA ρ (cellsOf a) v.cells.toList/\∀x∈v.cells.toList,x.oneCell'=true:=by
 cases h with
 |@agg _ l' g=>
  refine⟨g,λ x Z=>?_⟩
  obtain⟨n,z⟩:=sq Z
  have D:=g.length
  obtain⟨C,_⟩:=cW.1 z
  obtain⟨v',O,U⟩:=g.get (bf (by rw[D];exact C))
  have G:l'.toList[n]?=some x:=z
  rw[G]at O;cases O
  exact QX U (KQ p _ (cG _))
 |lit v=>
  have u:v.oneCell'=true:=QX (ρ:=ρ) (.lit v) (KQ p _ (by simp[cellsOf]))
  rw[Zw u]
  exact⟨.cons (.lit v) .nil,λ x Z=>by simp at Z;subst Z;exact u⟩
 |dh _=>
  have:=KQ p _ (jo.2 rfl)
  cases this
 |ptr e=>exact⟨.cons (.ptr e) .nil,λ x Z=>by simp[Value.cells]at Z;subst Z;rfl⟩|sl e O U F B A=>exact⟨.cons (.sl e O U F B A) .nil,λ x Z=>by simp[Value.cells]at Z;subst Z;rfl⟩|eF=>exact⟨.cons .eF .nil,λ x Z=>by simp[Value.cells]at Z;subst Z;rfl⟩|map e=>exact⟨.cons (.map e) .nil,λ x Z=>by simp[Value.cells]at Z;subst Z;rfl⟩|Hs e=>exact⟨.cons (.Hs e) .nil,λ x Z=>by simp[Value.cells]at Z;subst Z;rfl⟩|fn O U=>exact⟨.cons (.fn O U) .nil,λ x Z=>by simp[Value.cells]at Z;subst Z;rfl⟩
def Zv{v:aC}(h:Rl ρ a v)(e:fX (cellsOf a)=true):(cellsOf a).length=v.cells.size:=by have:=(O9 h e).1.length;simpa using this
def Ev(E:aK)(s:CX)(x:dy)(v:J):Prop:=match x with|.tmp t=>s.get t=some v|.const c=>∀ρ,Rl ρ v c|.global g=>∃id,E.gl.get g=some id/\v=.ptr id 0|.func f=>v=.fn (.func f) [] []
def gO{s:CX}{k:J->R β}(h:bE E s x k=.ok r):∃v,Ev E s x v/\k v=.ok r:=by
 cases x with
 |tmp t=>exact oY h
 |const c=>
  have n:JJ c k=.ok r:=h
  cases c<;>try exact⟨_,λ ρ=>.lit _,n⟩
  rename_i M
  have U:iA (λ v k=>k (J.lit v)) M.toList (λ l=>k (.agg l))=.ok r:=n
  obtain⟨l,F,p⟩:=Bh (S:=λ v a=>a=J.lit v) (λ a k r h=>⟨_,rfl,h⟩) U
  refine⟨_,λ ρ=>?_,p⟩
  have:l=M.toList.map J.lit:=by clear U p h n;generalize M.toList=m at F;induction F with|nil=>rfl|cons e _ u=>rw[e,u];rfl
  rw[this]
  exact .agg (RI _)
 |global g=>
  obtain⟨id,O,U⟩:=oY h
  exact⟨_,⟨id,O,rfl⟩,U⟩
 |func f=>exact⟨_,rfl,h⟩
def Oo(ρ:bh)(s:CX)(a:Act)(x:dy):Prop:=match x with|.tmp t=>∀v,s.get t=some v->∃v',a.tmps[t]?=some v'/\Rl ρ v v'|_=>True
section
variable{P:e8}{E:aK}{w0 w:bI}{ρ:bh}{H:D}{s:CX}{a:Act}
def BY{l:List dy}{k:AU->R β}(h:iA (bE E s) l k=.ok r):∃e,F2 (Ev E s) l e/\k e=.ok r:=Bh (λ _ _ _ h=>gO h) h
def Au(b ah:Nat):∀j,(⟨b,ah,none⟩:Addr).add j=⟨b,ah+j,none⟩:=λ j=>by unfold Addr.add;split<;>simp_all
def HR.read(hr:HR E w0 ρ H w){id n m:Nat}{t:CX}{ro:Bool}(A:ρ id=some (b,sh,N))(L:H.t.get id=some (.cells n t ro))(hn:ah+m<=n)(C:l.length=m)(M:∀i,i<m->∃x,l[i]?=some x/\t.get (ah+i)=some x):∃p,p.length=m/\cA ρ l p/\∀j v,p[j]?=some v->w.cell? (((⟨b,sh+ah,none⟩:Addr)).add j)=some v:=by
 have⟨c,e,fz,O,U,F,_,h5,_⟩:=hr.obj _ _ _ _ _ A L
 have J:∀i,i<m->∃x v,l[i]?=some x/\c[sh+(ah+i)]?=some v/\Rl ρ x v:=by intro i B;have⟨x,V,T⟩:=M i B;have⟨v,Q,hd⟩:=h5 (ah+i) x ω T;exact⟨x,v,V,Q,hd⟩
 have g:((c.toList.drop (sh+ah)).take m).length=m:=by simp only[eK,FM,rH];omega
 have G:∀i,i<m->((c.toList.drop (sh+ah)).take m)[i]?=c[sh+(ah+i)]?:=by intro i B;rw[rI,aq B,v_,pG,vd]
 refine⟨(c.toList.drop (sh+ah)).take m,g,cA.azS (by rw[g,C]) λ i x v Z h=>?_,λ j v u=>?_⟩
 .have z:i<m:=by rw[<-C];exact(cW.1 Z).1
  have⟨x',v',D,X,W⟩:=J i z;rw[Z]at D;cases D;rw[G i z,X]at h;cases h;exact W
 .have I:j<m:=by rw[<-g];exact(cW.1 u).1
  rw[G j I]at u;rw[Au];refine O8 O ?_;rw[<-u];congr 1;omega
def nU(H H2:D):Prop:=∀id o,H.t.get id=some o->H2.t.get id=some o
def HR.load(EO:eW P E)(L:nU H H2)(hr:HR E w0 ρ H2 w){t:aS}{a:J}{v:aC}{k:J->R β}(h:zX E t a H k=.ok r)(T:Rl ρ a v):∃Q x v',v=.pointer (some Q)/\(loadVar t Q).run P w=.ok v' w/\Rl ρ x v'/\k x=.ok r:=by
 cases T with
 |@ptr id ah b sh N A=>
  have⟨o,D,h⟩:=oB h
  cases o with
  |cells n M ro=>
   have⟨i,X,h⟩:=nS h
   have ay:=EO.tt _ _ X
   refine⟨⟨b,sh+ah,none⟩,?_⟩
   cases e:k9 i.desc with
   |false=>
    rw[e]at h
    have⟨C,h⟩:=db (x:=cB M ah k (.er [28,id,ah])) h
    have⟨x,Z,h⟩:=oY h
    have g:ah+1<=n:=by rw[tK]at C;omega
    have W:∀j,j<1->∃y,[x][j]?=some y/\M.get (ah+j)=some y:=by
     intro j hj;obtain rfl:j=0:=ω
     exact⟨x,rfl,Z⟩
    have⟨p,O,U,F⟩:=hr.read (ah:=ah) (m:=1) (l:=[x]) A (L _ _ D) g rfl W
    cases U with
    |@cons _ u _ _ B G=>
     have z:=F 0 u rfl
     refine⟨x,u,rfl,?_,B,h⟩
     unfold loadVar
     simp only[cK,ay.Xj w,e,dD,uZ,n_]
     rw[Au]at z
     simp only[xx]at z
     simp[z]
   |true=>
    rw[e]at h
    have⟨C,h⟩:=db (x:=pU M ah i.size λ l=>k (.agg l)) h
    have g:ah+i.size<=n:=by simpa[kC]using C
    have⟨l,O,U,F⟩:=He h
    have⟨p,B,G,V⟩:=hr.read A (L _ _ D) g O U
    refine⟨.agg l,.agg p.toArray,rfl,?_,.agg (by simpa using G),F⟩
    unfold loadVar
    have I:=run_loadCells_list (P:=P) w ⟨b,sh+ah,none⟩ p V
    rw[B]at I
    simp only[cK,ay.Xj w,e,dD,qk,ay.wZ w,I,iL]
  |tN _=>cases h|map _ _ _=>cases h|loop _ _ _ _ _ _ _ _ _=>cases h|deferred=>cases h
 |lit v=>cases h|sl _ _ _ _ _ _=>cases h|eF=>cases h|map _=>cases h|Hs _=>cases h|fn _ _=>cases h|agg _=>cases h|dh _=>cases h
def HR.write(hr:HR E w0 ρ H w){id n:Nat}{t:CX}(A:ρ id=some (b,sh,N))(u:H.t.get id=some (.cells n t false))(W:ah+l.length<=n)(z:cA ρ l m)(O:∀v∈m,v.oneCell'=true)(D:∀j,t'.get j=if ah<=j/\j<ah+l.length then l[j-ah]? else t.get j)(G:tG H id (some (.cells n t' false)) H2):∃w',(storeCells ⟨b,sh+ah,none⟩ m).run P w=.ok () w'/\HR E w0 ρ H2 w'/\cV ρ H ρ H2:=by
 have⟨c,e,X,U,F,M,L,J,I⟩:=hr.obj _ _ _ _ _ A u
 rw[L rfl]at U
 have bA:=z.length
 have Z:c.toList.length=c.size:=rH
 have T:sh+ah+m.length<=c.size:=ω
 have B:=run_storeCells_at (P:=P) b (sh+ah) e m 0 c w U (by simpa using T) O
 simp only[xx]at B
 refine⟨_,B,?_⟩
 refine hr.XE A u rfl rfl G ?_ (by simp[World.setRow]) (λ k Q=>setRow_other _ _ _ _ Q) rfl rfl rfl
 rw[setRow_heap w b c _ e (0,0) U]
 refine⟨_,e,(0,0),rfl,?_,M,λ _=>rfl,λ i av V g=>?_,I⟩
 .simp only[Ta,iP,eK,FM,rH];omega
 .rw[D]at g
  rw[SY];by_cases C:ah<=i/\i<ah+l.length
  .rw[aq C]at g;have⟨v,h,p⟩:=z.get g;refine⟨v,?_,p⟩;rw[jI (by simp only[iP,eK];omega),mi (by simp only[eK];omega),eK,rH,FU ω];rw[<-h];congr 1;omega
  .rw[ao C]at g;have⟨v,h,p⟩:=J i av V g;refine⟨v,?_,p⟩;by_cases e2:i<ah
   .rw[jI (by simp only[iP,eK];omega),jI (by simp only[eK];omega),rI,aq ω,pG];exact h
   .rw[mi (by simp only[iP,eK];omega),iP,eK,rH,FU ω,v_,pG,<-h];congr 1;simp only[Ta];omega
def HR.store(V:eW P E)(hr:HR E w0 ρ H w){t:aS}{a x:J}{v:aC}{k:D->R β}(h:Xw E t a x H k=.ok r)(I:Rl ρ a v)(Z:Rl ρ x xv):∃g w' H',v=.pointer (some g)/\(storeVar t g xv).run P w=.ok () w'/\HR E w0 ρ H' w'/\cV ρ H ρ H'/\k H'=.ok r:=by
 cases I with
 |@ptr id ah b sh N A=>
  have⟨o,G,h⟩:=oB h
  cases o with
  |cells n M ro=>
   have⟨C,h⟩:=O3 h
   subst C
   have⟨i,T,h⟩:=nS h
   have ay:=V.tt _ _ T
   rw[ux]at h
   have⟨B,h⟩:=db h
   have⟨e,h⟩:=db h
   have⟨Q,h⟩:=db h
   have⟨t',z,h⟩:=sd h
   have⟨H',L,h⟩:=rk h
   have W:(cellsOf x).length=i.size:=by simpa using B
   have Mi:ah+i.size<=n:=by simpa[kC]using Q
   have⟨u,p⟩:=O9 Z e
   have⟨w',O,U,F⟩:=hr.write (P:=P) A G ω u p z L
   refine⟨_,w',H',rfl,?_,U,F,h⟩
   unfold storeVar
   have X:=Zv Z e
   simp only[cK,ay.wZ w,dD]
   rw[ao ξ]
   exact O
  |tN _=>cases h|map _ _ _=>cases h|loop _ _ _ _ _ _ _ _ _=>cases h|deferred=>cases h
 |lit v=>cases h|sl _ _ _ _ _ _=>cases h|eF=>cases h|map _=>cases h|Hs _=>cases h|fn _ _=>cases h|agg _=>cases h|dh _=>cases h
def bh.uY(ρ:bh)(id:Nat)(p:Nat×Nat×Nat):(ρ.add id p) id=some p:=by unfold bh.add;simp
end
variable{H:D}{y:dy}
def Gl(E:aK)(ρ:bh):Prop:=∀g id,E.gl.get g=some id->∃N,ρ id=some (g,0,N)
structure Ctx(E:aK)(ρ:bh)(s:Tr J)(a:Act)(o:Op):Prop where
 gl:Gl E ρ
 Xo:∀x∈o.operands.toList,Oo ρ s a x
def Ev.adH{a:Act}(n:Gl E ρ){v:J}(h:Ev E t' x v)(e:Oo ρ t' a x):Rl ρ v (a.eval x):=by
 cases x with
 |tmp t=>
  have⟨v',O,U⟩:=e v h
  show Rl ρ v (a.tmps.getD t undef)
  rw[DU,O];exact U
 |const c=>exact h ρ
 |global g=>
  obtain⟨id,O,rfl⟩:=h
  have⟨N,U⟩:=n g id O
  exact .ptr U
 |func f=>have p:v=.fn (.func f) [] []:=h;subst p;exact .fn .nil .nil
def Ctx.ev{a:Act}{o:Op}(c:Ctx E ρ t' a o){v:J}(h:Ev E t' x v)(Z:x∈o.operands.toList):Rl ρ v (a.eval x):=h.adH c.gl (c.Xo x Z)
def Ctx.TY{a:Act}{o:Op}(c:Ctx E ρ t' a o){l:List dy}(h:F2 (Ev E t') l l2)(Z:∀x∈l,x∈o.operands.toList):cA ρ l2 (l.map a.eval):=by induction h with|nil=>exact .nil|cons O _ e=>exact .cons (c.ev O (Z _ ζ)) (e λ x h=>Z x (by simp[h]))
section
variable{ρ:bh}{v:aC}
def Rl.fI(h:Rl ρ (.lit xv) v):v=xv:=by cases h;rfl
def Rl.M0{id:Nat}(h:Rl ρ (.ptr id ah) v):∃b s N,ρ id=some (b,s,N)/\v=.pointer (some ⟨b,s+ah,none⟩):=by cases h with|ptr e=>exact⟨_,_,_,e,rfl⟩
def Rl.rT{es len:Nat}(h:Rl ρ (.sl sh ah es len ax ex) v):∃b s N c,ρ sh=some (b,s,N)/\(ex=true->c=ax)/\ax<=c/\len<=ax/\s+ah+c*es<=N/\c<=maxLen/\v=.slice (some ⟨b,s+ah,none⟩) len c:=by cases h with|sl e O U F n g=>exact⟨_,_,_,_,e,O,U,F,n,g,rfl⟩
def Rl.EY(h:Rl ρ .eF v):∃a c,v=.slice (some a) 0 c:=by cases h;exact⟨_,_,rfl⟩
def Rl.aiI(h:Rl ρ (.map sh) v):∃b s N,ρ sh=some (b,s,N)/\v=.map (some b):=by cases h with|map e=>exact⟨_,_,_,e,rfl⟩
def Rl.QW(h:Rl ρ (.agg l) v):∃l':Array aC,cA ρ l l'.toList/\v=.agg l':=by cases h with|agg e=>exact⟨_,e,rfl⟩
def Rl.awR(h:Rl ρ (.dh l) v):∃l':Array aC,cA ρ l l'.toList/\v=.tuple l':=by cases h with|dh e=>exact⟨_,e,rfl⟩
def Rl.V6{f:fD}(h:Rl ρ (.fn (.func f) l l2) v):∃l' m':Array aC,cA ρ l l'.toList/\cA ρ l2 m'.toList/\v=.func (.func f) l' m':=by cases h with|fn e g=>exact⟨_,_,e,g,rfl⟩
def Rl.awS{y:AU}(h:Rl ρ (.fn (.yield sh) l2 y) v):∃b s N,ρ sh=some (b,s,N)/\l2=[]/\y=[]/\v=.func (.yield b) #[] #[]:=by cases h with|Hs e=>exact⟨_,_,_,e,rfl,rfl,rfl⟩
def cA.awQ(h:cA ρ (m.map J.lit) m2):m2=m:=by induction m generalizing m2 with|nil=>cases h;rfl|cons a m e=>cases h with|cons O U=>rw[O.fI,e U]
end
def dk{r:dS}(h:val a H=.ok r):r=.val a H:=by unfold val at h;cases h;rfl
def BA{r:dS}(h:lj xv H=.ok r):r=.val (.lit xv) H:=by unfold lj at h;rw[agX]at h;cases h;rfl
def Rx{s:Sem aC}{k:aC->R β}{l:AT}(h:lY s k (.er l)=.ok r):∃v,s=.pure v/\k v=.ok r:=by
 unfold lY at h;split at h
 .exact⟨_,rfl,h⟩
 .cases h
def G9{k:Nat->R β}(h:sS a k=.ok r):∃j n,a=.lit (.int j (.ofNat n))/\k n=.ok r:=by
 unfold sS at h;split at h
 .exact⟨_,_,rfl,h⟩
 .cases h
def aAr{x:Option dy}{k:Nat->R β}(h:yG E t' x b k=.ok r):∃n,k n=.ok r/\((x=none/\n=b)\/∃y j,x=some y/\Ev E t' y (.lit (.int j (.ofNat n)))):=by
 unfold yG at h
 cases x with
 |none=>exact⟨b,h,.inl ⟨rfl,rfl⟩⟩
 |some y=>
  have⟨v,e,h⟩:=gO h
  obtain⟨j,n,rfl,h⟩:=G9 h
  exact⟨n,h,.inr ⟨y,j,rfl,e⟩⟩
def Lk{t:aS}{k:aS->TypeDesc->Nat->Nat->AU->R β}(h:tS E t k=.ok r):∃i e j,E.tt.get t=some i/\i.desc=.slice e/\E.tt.get e=some j/\k e j.desc j.size j.bytes j.zero=.ok r:=by
 unfold tS at h
 obtain⟨i,A,h⟩:=nS h
 split at h
 .rename_i e he
  obtain⟨j,g,h⟩:=nS h;exact⟨i,e,j,A,he,g,h⟩
 .cases h
def ZW{t:aS}{k:Nat->Nat->Bool->R β}(h:D8 E t b k=.ok r):∃i fs fd j,E.tt.get t=some i/\i.desc=.struct fs/\fs[b]?=some fd/\E.tt.get fd.type=some j/\k fd.offset j.size (k9 j.desc)=.ok r:=by
 unfold D8 at h
 obtain⟨i,A,h⟩:=nS h
 split at h
 .rename_i fs g
  obtain⟨fd,e,h⟩:=Dr h;obtain⟨j,n,h⟩:=nS h;exact⟨i,fs,fd,j,A,g,by simpa using e,n,h⟩
 .cases h
def zu{k:Nat->R β}(h:d_ b k=.ok r):k b=.ok r:=by rw[mr]at h;exact h
def Pu(P:e8)(E:aK)(s:CX)(o:Oper)(H:D)(r:dS):Prop:=∃av,r=.val av H/\∀ρ a w,Ctx E ρ s a o.op->∃v,(execOp a.eval o).run P w=.ok (.value v) w/\Rl ρ av v
section
variable{P:e8}{E:aK}{s:CX}{o:Oper}{H:D}{r:dS}
def ajW(e:o.op=.move x\/o.op=.assign x)(h:bE E s x (λ v=>val v H)=.ok r):Pu P E s o H r:=by
 have⟨v,g,h⟩:=gO h;refine⟨v,dk h,λ ρ a w c=>⟨a.eval x,?_,c.ev g ?_⟩⟩
 .rcases e with e|e<;>simp[execOp,e]
 .rcases e with e|e<;>simp[e,Op.operands]
def aCz(e:o.op=.pick c x y)(h:bw E s (.pick c x y) H=.ok r):Pu P E s o H r:=by
 unfold bw at h;dsimp only at h;obtain⟨v,g,h⟩:=gO h;split at h
 .rename_i b;cases b with
  |true=>
   obtain⟨u,hu,h⟩:=gO (x:=x) h
   refine⟨u,dk h,λ ρ a w ct=>⟨a.eval x,?_,ct.ev hu (by simp[e,Op.operands])⟩⟩
   have:=(ct.ev g (by simp[e,Op.operands])).fI
   simp[execOp,e,this,asBool]
  |false=>
   obtain⟨u,hu,h⟩:=gO (x:=y) h
   refine⟨u,dk h,λ ρ a w ct=>⟨a.eval y,?_,ct.ev hu (by simp[e,Op.operands])⟩⟩
   have:=(ct.ev g (by simp[e,Op.operands])).fI
   simp[execOp,e,this,asBool]
 .cases h
def aCy(g:o.op=.nilCheck x)(h:bw E s (.nilCheck x) H=.ok r):Pu P E s o H r:=by
 unfold bw at h;dsimp only at h;obtain⟨v,n,h⟩:=gO h;split at h
 .rename_i id ah;refine⟨_,dk h,λ ρ a w c=>⟨a.eval x,?_,c.ev n (by simp[g,Op.operands])⟩⟩;obtain⟨b,s',N,_,e⟩:=(c.ev n (by simp[g,Op.operands])).M0;simp[execOp,g,e]
 .rename_i f l m;refine⟨_,dk h,λ ρ a w c=>⟨a.eval x,?_,c.ev n (by simp[g,Op.operands])⟩⟩;obtain⟨l',m',_,_,e⟩:=(c.ev n (by simp[g,Op.operands])).V6;simp[execOp,g,e]
 .cases h
def aCB{op:UnOp}{t:aS}(e:o.op=.unOp op t x)(h:bw E s (.unOp op t x) H=.ok r):Pu P E s o H r:=by
 unfold bw at h;dsimp only at h;obtain⟨v,g,h⟩:=gO h;split at h
 .rename_i u;obtain⟨y,G,h⟩:=Rx h;refine⟨_,BA h,λ ρ a w c=>⟨y,?_,.lit y⟩⟩;have:=(c.ev g (by simp[e,Op.operands])).fI;simp only[execOp,e,this,G];rfl
 .cases h
def aCr(u:eW P E)(p:o.op=.convert src dst x)(h:bw E s (.convert src dst x) H=.ok r):Pu P E s o H r:=by
 unfold bw at h;dsimp only at h;replace h:=gO h;obtain⟨v,z,h⟩:=h;replace h:=nS h;obtain⟨i,A,h⟩:=h;replace h:=nS h;obtain⟨j,B,h⟩:=h;have key:∃k e n y,j.desc=.int k/\v=.lit (.int e n)/\Conv.intToInt k n=.pure y/\r=.val (.lit y) H:=by
  split at h
  .rename_i k e n hd;obtain⟨y,G,h⟩:=Rx h;exact⟨k,e,n,y,hd,rfl,G,BA h⟩
  .cases h
 obtain⟨k,e,n,y,hd,rfl,G,hr⟩:=key;refine⟨_,hr,λ ρ a w c=>⟨y,?_,.lit y⟩⟩;have:=(c.ev z (by simp[p,Op.operands])).fI;have g:P.underlying dst=some (.int k):=by have:=(u.tt _ _ B).oH;rwa[hd]at this
 simp only[execOp,p,this,convert,cK,(u.tt _ _ A).aki w,dR g,dD,G];rfl
def aCx{f:Fn}{first captured:Array dy}(e:o.op=.makeFunc f first captured)(h:bw E s (.makeFunc f first captured) H=.ok r):Pu P E s o H r:=by
 unfold bw at h;dsimp only at h;split at h
 .rename_i n;obtain⟨l,g,h⟩:=BY h;obtain⟨m,B,h⟩:=BY h;refine⟨_,dk h,λ ρ a w c=>⟨.func (.func n) (first.map a.eval) (captured.map a.eval),?_,.fn ?_ ?_⟩⟩
  .simp[execOp,e,Instr.makeFunc]
  .have:=c.TY g (λ x Z=>by simp only[e,Op.operands,yY,b_];exact .inl Z);simpa using this
  .have:=c.TY B (λ x Z=>by simp only[e,Op.operands,yY,b_];exact .inr Z);simpa using this
 .cases h
def aCs(g:o.op=.extract x b)(h:bw E s (.extract x b) H=.ok r):Pu P E s o H r:=by
 unfold bw at h;dsimp only at h;obtain⟨v,n,h⟩:=gO h;split at h
 .rename_i l;obtain⟨u,hu,h⟩:=Dr h;refine⟨_,dk h,λ ρ a w c=>?_⟩;obtain⟨l',p,e⟩:=(c.ev n (by simp[g,Op.operands])).awR;obtain⟨v',O,U⟩:=p.get hu;have z:l'[b]?=some v':=by simpa using O
  refine⟨v',?_,U⟩;simp[execOp,g,e,Instr.extract,z]
 .cases h
def adq{k:J->R β}{r:β}(h:Ha ah b ex l k=.ok r):(ex=false/\∃v,l[ah]?=some v/\k v=.ok r)\/(ex=true/\ah+b<=l.length/\k (.agg ((l.drop ah).take b))=.ok r):=by
 unfold Ha at h
 cases ex with
 |false=>have⟨v,O,U⟩:=Dr (k:=k) h;exact .inl ⟨rfl,v,O,U⟩
 |true=>
  have⟨O,h⟩:=ZI (k:=λ l'=>J7 b l' (λ p=>k (.agg p)) (.er [94])) h
  have⟨U,h⟩:=aea h
  exact .inr ⟨rfl,by rw[FM]at U;omega,h⟩
def adO{i:TI}(ay:pE P src i)(g:cA ρ l l'.toList){k:J->R dS}(h:Ha ah i.size (k9 i.desc) l k=.ok r)(w:bI):∃u v,k u=.ok r/\(part src l' ah).run P w=.ok v w/\Rl ρ u v:=by
 rcases adq h with⟨e,u,O,U⟩|⟨e,O,U⟩
 .have⟨v,F,p⟩:=g.get O
  refine⟨u,v,U,?_,p⟩;have n:l'[ah]?=some v:=by simpa using F
  unfold part;simp only[cK,ay.Xj w,e,dD,uZ,n_,n,iL]
 .refine⟨_,.agg (l'.extract ah (ah+i.size)),U,?_,.agg ?_⟩
  .unfold part;simp only[cK,ay.Xj w,e,dD,qk,ay.wZ w,iL]
  .have:=(g.drop ah).take i.size;rw[aeZ];simpa[ae6]using this
def aCt(C:eW P E)(B:o.op=.field src x b)(h:bw E s (.field src x b) H=.ok r):Pu P E s o H r:=by
 unfold bw at h;dsimp only at h;obtain⟨v,G,h⟩:=gO h;split at h
 .rename_i l;obtain⟨i,fs,fd,j,A,hd,J,I,h⟩:=ZW h;have ay:=C.tt _ _ I;have hu:P.underlying src=some (.struct fs):=by have:=(C.tt _ _ A).oH;rwa[hd]at this
  have key:∃u,(∀(l':Array aC) (ρ:bh),cA ρ l l'.toList->∀w,∃v,(part fd.type l' fd.offset).run P w=.ok v w/\Rl ρ u v)/\r=.val u H:=by
   rcases adq h with⟨L,u,O,U⟩|⟨L,O,U⟩
   .refine⟨u,λ l' ρ g w=>?_,dk U⟩;obtain⟨D,v,F,z,p⟩:=adO ay g h w;have:=dk F;have n:=dk U;rw[this]at n;cases n;exact⟨v,z,p⟩
   .refine⟨_,λ l' ρ g w=>?_,dk U⟩;obtain⟨D,v,F,z,p⟩:=adO ay g h w;have:=dk F;have n:=dk U;rw[this]at n;cases n;exact⟨v,z,p⟩
  obtain⟨u,M,hr⟩:=key;refine⟨u,hr,λ ρ a w c=>?_⟩;obtain⟨l',g,e⟩:=(c.ev G (by simp[B,Op.operands])).QW;obtain⟨v,O,U⟩:=M l' ρ g w;refine⟨v,?_,U⟩;simp[execOp,B,e,Instr.field,dR hu,J,asAgg,O]
 .cases h
end
variable{c:Nat}{q:β}
section
variable{P:e8}{E:aK}{s:CX}{o:Oper}{H:D}{r:dS}
def Fj(h:Rl ρ (.lit (.int j (.ofNat b))) xv):xv=.int j b:=h.fI
def aCu(p:eW P E)(n:o.op=.fieldAddr src x sh)(h:bw E s (.fieldAddr src x sh) H=.ok r):Pu P E s o H r:=by
 unfold bw at h;dsimp only at h;have⟨v,u,h⟩:=gO h;split at h
 .rename_i id ah;have⟨i,fs,fd,j,A,hd,C,z,h⟩:=ZW h;have⟨m,B,h⟩:=ajq h;replace h:=zu h;have ay:=p.tt _ _ z;have hu:P.underlying src=some (.struct fs):=by have:=(p.tt _ _ A).oH;rwa[hd]at this
  refine⟨_,dk h,λ ρ a w c=>?_⟩;obtain⟨b,s',N,D,e⟩:=(c.ev u (by simp[n,Op.operands])).M0;refine⟨.pointer (some ⟨b,s'+(ah+fd.offset),none⟩),?_,.ptr D⟩;have g:(fieldPlace ⟨b,s'+ah,none⟩ fd).run P w=.ok ⟨b,s'+(ah+fd.offset),none⟩ w:=by unfold fieldPlace;simp only[cK,ay.wZ w,dD,B];rw[ao ω,Au,vd];rfl
  simp[execOp,n,e,Instr.fieldAt,dR hu,C,Instr.sureAddr,g]
 .cases h
def mul_eq(a b:Nat):Nat.mul a b=a*b:=rfl
def add_eq(a b:Nat):Nat.add a b=a+b:=rfl
def sub_eq(a b:Nat):Nat.sub a b=a-b:=rfl
def aCw(I:eW P E){t:aS}(g:o.op=.indexAddr t x y)(h:bw E s (.indexAddr t x y) H=.ok r):Pu P E s o H r:=by
 unfold bw at h;dsimp only at h;replace h:=gO h;obtain⟨v,J,h⟩:=h;replace h:=gO h;obtain⟨u,hu,h⟩:=h;replace h:=G9 h;obtain⟨j,n,rfl,h⟩:=h;unfold V3 at h;replace h:=nS h;obtain⟨i,A,h⟩:=h;have L:=I.tt _ _ A;split at h
 .rename_i e id ah es len ax ex hd;replace h:=nS h;obtain⟨z,B,h⟩:=h;replace h:=db h;obtain⟨O,h⟩:=h;replace h:=db h;obtain⟨U,h⟩:=h;replace h:=zu h;have ay:=I.tt _ _ B;have M:es=z.size:=by simpa using O
  have Q:n<len:=by rw[tK]at U;exact U
  have p:P.underlying t=some (.slice e):=by have:=L.oH;rwa[hd]at this
  refine⟨_,dk h,λ ρ a w c=>?_⟩;obtain⟨b,s',N,cm,C,_,_,_,_,_,F⟩:=(c.ev J (by simp[g,Op.operands])).rT;have D:=Fj (c.ev hu (by simp[g,Op.operands]));refine⟨.pointer (some ⟨b,s'+(ah+n*es),none⟩),?_,.ptr C⟩;have G:(0:Int)<=(n:Int)/\(n:Int)<((len:Nat):Int):=ω
  simp only[execOp,g,F,D,Instr.indexAt,asIntOf,cK,iL,dR p,dD,G,and_self,qk,ay.wZ w,Kw];rw[Au,<-M,vd]
 .rename_i m e id ah hd;replace h:=nS h;obtain⟨z,B,h⟩:=h;replace h:=db h;obtain⟨U,h⟩:=h;replace h:=zu h;have ay:=I.tt _ _ B;have Q:n<m:=by rw[tK]at U;exact U
  have p:P.underlying t=some (.array m e):=by have:=L.oH;rwa[hd]at this
  refine⟨_,dk h,λ ρ a w c=>?_⟩;obtain⟨b,s',N,C,F⟩:=(c.ev J (by simp[g,Op.operands])).M0;have D:=Fj (c.ev hu (by simp[g,Op.operands]));refine⟨.pointer (some ⟨b,s'+(ah+n*z.size),none⟩),?_,.ptr C⟩;have G:(0:Int)<=(n:Int)/\(n:Int)<((m:Nat):Int):=ω
  simp only[execOp,g,F,D,Instr.indexAt,asIntOf,cK,iL,dR p,dD,Instr.sureAddr,G,and_self,qk,ay.wZ w,Kw];rw[Au,vd]
 .cases h
def aD9{i:TI}(ay:pE P src i)(h:Ha ah i.size (k9 i.desc) l (λ v=>val v H)=.ok r):∃u,r=.val u H/\∀(l':Array aC) (ρ:bh),cA ρ l l'.toList->∀w,∃v,(part src l' ah).run P w=.ok v w/\Rl ρ u v:=by
 rcases adq h with⟨n,u,O,U⟩|⟨n,O,U⟩
 all_goals refine⟨_,dk U,λ l' ρ g w=>?_⟩;have⟨A,v,F,z,p⟩:=adO ay g h w;have:=dk F;have e:=dk U;rw[this]at e;cases e;exact⟨v,z,p⟩
def aCv(G:eW P E){t:aS}(g:o.op=.index t x y)(h:bw E s (.index t x y) H=.ok r):Pu P E s o H r:=by
 unfold bw at h;dsimp only at h;replace h:=gO h;obtain⟨v,C,h⟩:=h;replace h:=gO h;obtain⟨u,hu,h⟩:=h;replace h:=G9 h;obtain⟨j,n,rfl,h⟩:=h;unfold V4 at h;replace h:=nS h;obtain⟨i,A,h⟩:=h;have D:=G.tt _ _ A;split at h
 .rename_i str hd;replace h:=Dr h;obtain⟨b,T,h⟩:=h;have p:P.underlying t=some .string:=by have:=D.oH;rwa[hd]at this
  refine⟨_,BA h,λ ρ a w c=>⟨_,?_,.lit _⟩⟩;have B:=(c.ev C (by simp[g,Op.operands])).fI;have z:=Fj (c.ev hu (by simp[g,Op.operands]));have J:str[n]?=some b:=by
   have W:str.data[n]?=some b:=by simpa using T
   obtain⟨O,U⟩:=tI.1 W;show(if h:n<str.size then some str[n]else none)=some b;exact(OK (show n<str.size from O)).trans (iQ some U)
  simp[execOp,g,B,z,Instr.index,asIntOf,dR p,J]
 .rename_i m e l hd;replace h:=nS h;obtain⟨L,Q,h⟩:=h;replace h:=db h;obtain⟨U,h⟩:=h;have ay:=G.tt _ _ Q;have Z:n<m:=by rw[tK]at U;exact U
  have p:P.underlying t=some (.array m e):=by have:=D.oH;rwa[hd]at this
  obtain⟨u,hr,key⟩:=aD9 ay h;refine⟨u,hr,λ ρ a w c=>?_⟩;obtain⟨l',M,B⟩:=(c.ev C (by simp[g,Op.operands])).QW;have z:=Fj (c.ev hu (by simp[g,Op.operands]));obtain⟨v,F,V⟩:=key l' ρ M w;refine⟨v,?_,V⟩;have X:(0:Int)<=(n:Int)/\(n:Int)<((m:Nat):Int):=ω
  simp only[execOp,g,B,z,Instr.index,asIntOf,cK,iL,dR p,dD,X,and_self,qk,ay.wZ w,Kw];have I:(part e l' (n*L.size)).run P w=.ok v w:=F;rw[I];rfl
 .cases h
def NJ{a:Act}{y:Nat}{code:BoundsCode}(h:Rl ρ (.lit (.int j (.ofNat b))) (a.eval x))(e:b<=y)(w:bI):(Instr.sliceBound (a.eval x) y code).run P w=.ok b w:=by
 rw[Fj h]
 unfold Instr.sliceBound
 simp only[asIntOf,cK,iL,dD]
 rw[aq ⟨ω,ω⟩]
 simp
def Bd(E:aK)(s:CX)(x:Option dy)(d n:Nat):Prop:=(x=none/\n=d)\/∃y j,x=some y/\Ev E s y (.lit (.int j (.ofNat n)))
def RM{A mx:Option dy}{len m:Nat}{a:Act}(C:Bd E s lo 0 b)(D:Bd E s A len N)(u:Bd E s mx ax m)(M:mx.isSome=true->A.isSome=true)(e:∀y,(lo=some y\/A=some y\/mx=some y)->∀v,Ev E s y v->Rl ρ v (a.eval y))(O:b<=N)(U:N<=m)(F:m<=c)(T:mx=none->m=ax/\ax<=c/\N<=ax)(w:bI):∃m',(Instr.sliceBounds true len c (lo.map a.eval) (A.map a.eval) (mx.map a.eval)).run P w=.ok (b,N,m') w/\((mx=none/\m'=c)\/(mx.isSome=true/\m'=m)):=by
 unfold Instr.sliceBounds
 rcases u with⟨rfl,rfl⟩|⟨J,Q,rfl,B⟩
 .refine⟨c,?_,.inl ⟨rfl,rfl⟩⟩
  rcases D with⟨rfl,rfl⟩|⟨p,L,rfl,z⟩
  .rcases C with⟨rfl,rfl⟩|⟨g,I,rfl,h⟩
   .simp
   .have:=NJ (P:=P) (code:=.sliceB) (e g ζ _ h) O w;simp[this]
  .have n:=NJ (P:=P) (y:=c) (code:=.sliceAcap) (e p ζ _ z) ω w;rcases C with⟨rfl,rfl⟩|⟨g,I,rfl,h⟩
   .simp[n]
   .have:=NJ (P:=P) (code:=.sliceB) (e g ζ _ h) O w;simp[this,n]
 .refine⟨m,?_,.inr ⟨rfl,rfl⟩⟩
  have G:=NJ (P:=P) (y:=c) (code:=.slice3Acap) (e J ζ _ B) F w;rcases D with⟨rfl,rfl⟩|⟨p,L,rfl,z⟩
  .simp at M
  .have n:=NJ (P:=P) (y:=m) (code:=.slice3B) (e p ζ _ z) U w;rcases C with⟨rfl,rfl⟩|⟨g,I,rfl,h⟩
   .simp[n,G]
   .have:=NJ (P:=P) (code:=.slice3C) (e g ζ _ h) O w;simp[this,n,G]
def G8(z:β)(f:Nat->β)(n:Nat):eC z f (n+1)=f n:=rfl
def F5{k:Nat->R β}(h:yG E s lo b k=.ok q):∃n,Bd E s lo b n/\k n=.ok q:=by have⟨n,O,U⟩:=aAr h;exact⟨n,U,O⟩
def aCA(EO:eW P E){t:aS}{lo A mx:Option dy}(V:o.op=.slice t x lo A mx)(h:bw E s (.slice t x lo A mx) H=.ok r):Pu P E s o H r:=by
 unfold bw at h;dsimp only at h;replace h:=gO h;obtain⟨v,hv,h⟩:=h;unfold NP at h;replace h:=Lk h;obtain⟨i,e,j,dJ,hd,hj,h⟩:=h;have ay:=EO.tt _ _ hj;have hu:P.underlying t=some (.slice e):=by have:=(EO.tt _ _ dJ).oH;rwa[hd]at this
 have fl:∀(a:Act) (base:Option Addr) (n c:Nat) (w:bI) (l h m:Nat),a.eval x=.slice base n c->(Instr.sliceBounds true n c (lo.map a.eval) (A.map a.eval) (mx.map a.eval)).run P w=.ok (l,h,m) w->(execOp a.eval o).run P w=.ok (.value (.slice (if m=l then base else base.map (·.add (l*j.size))) (h-l) (m-l))) w:=by
  intro a base n c w l h m p e2
  simp only[execOp,V,p,Instr.sliceAt,Instr.slice,cK,dR hu,dD,e2,ay.wZ w,iL]
 have EE:∀y,(lo=some y\/A=some y\/mx=some y)->y∈o.op.operands.toList:=by intro y G;simp only[V,Op.operands,yY,b_,Option.toList_toArray];rcases G with rfl|rfl|rfl<;>simp
 split at h
 .rename_i id ah es len ax ex;replace h:=db h;obtain⟨O,h⟩:=h;have fj:j.size=es:=by simpa using O
  subst fj;replace h:=F5 h;obtain⟨z,W,h⟩:=h;replace h:=F5 h;obtain⟨g,T,h⟩:=h;split at h
  .replace h:=db h;obtain⟨U,h⟩:=h;replace h:=db h;obtain⟨F,h⟩:=h;have fR:z<=ax:=by simpa[kC]using U
   have vq:g<=z:=by simpa[kC]using F
   replace h:=zu h;replace h:=zu h;rw[sub_eq,sub_eq]at h;have go:∀(ρ:bh) (a:Act) (w:bI),Ctx E ρ s a o.op->∃b sh N c,ρ id=some (b,sh,N)/\(ex=true->c=ax)/\ax<=c/\len<=ax/\sh+ah+c*j.size<=N/\c<=maxLen/\(execOp a.eval o).run P w=.ok (.value (.slice (if c=g then some ⟨b,sh+ah,none⟩else some ⟨b,sh+ah+g*j.size,none⟩) (z-g) (c-g))) w:=by
    intro ρ a w ct
    obtain⟨b,sh,N,c,B,Q,D,X,I,M,p⟩:=(ct.ev hv (by simp[V,Op.operands])).rT
    obtain⟨m',hr,L⟩:=RM (P:=P) (c:=c) (mx:=none) (ax:=ax) (m:=ax) T W (.inl ⟨rfl,rfl⟩) ζ (λ y G u J=>ct.ev J (EE y G)) vq fR D (λ _=>⟨rfl,D,fR⟩) w
    obtain⟨_,rfl⟩:=L.resolve_right ζ
    refine⟨b,sh,N,m',B,Q,D,X,I,M,?_⟩
    rw[fl a _ len m' w g z m' p hr]
    simp only[xy,Au]
   cases hc:ax-g with
   |zero=>
    rw[hc]at h
    have eN:g=ax:=ω
    have U1:z-g=0:=ω
    rw[U1]at h
    cases hl:g with
    |zero=>
     rw[hl]at h
     refine⟨_,dk h,λ ρ a w ct=>?_⟩
     obtain⟨b,sh,N,c,B,Q,D,X,I,M,p⟩:=go ρ a w ct
     refine⟨_,p,?_⟩
     rw[U1]
     have e3:(if c=g then some (⟨b,sh+ah,none⟩:Addr)else some ⟨b,sh+ah+g*j.size,none⟩)=some ⟨b,sh+ah,none⟩:=by
      split
      .rfl
      .rw[hl];simp
     rw[e3]
     exact .sl B (λ Z=>by have:=Q Z;omega) (dQ _) aF (by rw[hl];exact I) ω
    |succ l'=>
     rw[hl]at h
     cases hex:ex with
     |true=>
      rw[hex]at h
      refine⟨_,dk h,λ ρ a w ct=>?_⟩
      obtain⟨b,sh,N,c,B,Q,D,X,I,M,p⟩:=go ρ a w ct
      refine⟨_,p,?_⟩
      have bX:=Q hex
      rw[aq ω,U1]
      exact .sl B (λ _=>ω) (dQ _) aF (by rw[bX,eN];simp;omega) ω
     |false=>
      rw[hex]at h
      refine⟨_,dk h,λ ρ a w ct=>?_⟩
      obtain⟨b,sh,N,c,B,Q,D,X,I,M,p⟩:=go ρ a w ct
      refine⟨_,p,?_⟩
      rw[U1]
      split<;>exact .eF
   |succ c'=>
    rw[hc,G8]at h
    replace h:=zu h
    refine⟨_,dk h,λ ρ a w ct=>?_⟩
    obtain⟨b,sh,N,c,B,Q,D,X,I,M,p⟩:=go ρ a w ct
    refine⟨_,p,?_⟩
    rw[ao ω,vd]
    have e4:(c-g)*j.size+g*j.size=c*j.size:=by rw[<-DW];congr 1;omega
    refine .sl B (λ Z=>by have:=Q Z;omega) ω ω ?_ ω
    rw[add_eq,mul_eq];omega
  .rename_i ym;replace h:=gO h;obtain⟨vm,zT,h⟩:=h;replace h:=G9 h;obtain⟨jm,C,rfl,h⟩:=h;replace h:=db h;obtain⟨h0,h⟩:=h;replace h:=db h;obtain⟨h4,h⟩:=h;replace h:=db h;obtain⟨U,h⟩:=h;replace h:=db h;obtain⟨F,h⟩:=h;have fR:z<=C:=by simpa[kC]using U
   have vq:g<=z:=by simpa[kC]using F
   have h4':C<=ax:=by simpa[kC]using h4
   replace h:=zu h;replace h:=zu h;rw[sub_eq,sub_eq]at h;have go:∀(ρ:bh) (a:Act) (w:bI),Ctx E ρ s a o.op->∃b sh N c,ρ id=some (b,sh,N)/\ax<=c/\sh+ah+c*j.size<=N/\c<=maxLen/\(execOp a.eval o).run P w=.ok (.value (.slice (if C=g then some ⟨b,sh+ah,none⟩else some ⟨b,sh+ah+g*j.size,none⟩) (z-g) (C-g))) w:=by
    intro ρ a w ct
    obtain⟨b,sh,N,c,B,Q,D,X,I,M,p⟩:=(ct.ev hv (by simp[V,Op.operands])).rT
    obtain⟨m',hr,L⟩:=RM (P:=P) (c:=c) (mx:=some ym) (ax:=ax) (m:=C) T W (.inr ⟨ym,jm,rfl,zT⟩) (λ _=>h0) (λ y G u J=>ct.ev J (EE y G)) vq fR ω ζ w
    obtain⟨_,rfl⟩:=L.resolve_left ζ
    refine⟨b,sh,N,c,B,D,I,M,?_⟩
    rw[fl a _ len c w g z m' p hr]
    simp only[xy,Au]
   cases hc:C-g with
   |zero=>
    rw[hc]at h
    refine⟨_,dk h,λ ρ a w ct=>?_⟩
    obtain⟨b,sh,N,c,B,D,I,M,p⟩:=go ρ a w ct
    refine⟨_,p,?_⟩
    rw[aq ω]
    have:z-g=0:=ω
    rw[this]
    exact .sl B (λ _=>ω) (dQ _) aF (by rw[hc];simp;omega) ω
   |succ c'=>
    rw[hc,G8]at h
    replace h:=zu h
    refine⟨_,dk h,λ ρ a w ct=>?_⟩
    obtain⟨b,sh,N,c,B,D,I,M,p⟩:=go ρ a w ct
    refine⟨_,p,?_⟩
    rw[ao ω,vd]
    have e4:(C-g)*j.size+g*j.size=C*j.size:=by rw[<-DW];congr 1;omega
    have e5:C*j.size<=c*j.size:=nW _ ω
    refine .sl B (λ _=>ω) ω ω ?_ ω
    rw[add_eq,mul_eq];omega
 .replace h:=db h;obtain⟨h0,h⟩:=h;replace h:=F5 h;obtain⟨z,W,h⟩:=h;replace h:=F5 h;obtain⟨g,T,h⟩:=h;replace h:=F5 h;obtain⟨C,xW,h⟩:=h;have h0':mx.isSome=true->A.isSome=true:=by intro Z;rw[Z]at h0;exact h0
  cases z with
  |succ _=>cases h
  |zero=>
   cases g with
   |succ _=>cases h
   |zero=>
    cases C with
    |succ _=>cases h
    |zero=>
     refine⟨_,dk h,λ ρ a w ct=>?_⟩
     have p:=(ct.ev hv (by simp[V,Op.operands])).fI
     obtain⟨m',hr,L⟩:=RM (P:=P) (c:=0) (len:=0) (ax:=0) (m:=0) T W xW h0' (λ y G u J=>ct.ev J (EE y G)) aF aF aF (λ _=>⟨rfl,aF,aF⟩) w
     have Vg:m'=0:=by rcases L with⟨_,e⟩|⟨_,e⟩<;>exact e
     subst Vg
     refine⟨_,fl a none 0 0 w 0 0 0 p hr,?_⟩
     exact .lit _
 .replace h:=F5 h;obtain⟨z,W,h⟩:=h;replace h:=F5 h;obtain⟨g,T,h⟩:=h;split at h
  .cases z with
   |succ _=>cases h
   |zero=>
    cases g with
    |succ _=>cases h
    |zero=>
     refine⟨_,dk h,λ ρ a w ct=>?_⟩
     obtain⟨b,c,p⟩:=(ct.ev hv (by simp[V,Op.operands])).EY
     obtain⟨m',hr,L⟩:=RM (P:=P) (c:=c) (len:=0) (ax:=0) (m:=0) (mx:=none) T W (.inl ⟨rfl,rfl⟩) ζ (λ y G u J=>ct.ev J (EE y G)) aF aF (dQ _) (λ _=>⟨rfl,dQ _,aF⟩) w
     obtain⟨_,rfl⟩:=L.resolve_right ζ
     refine⟨_,fl a _ 0 m' w 0 0 m' p hr,?_⟩
     simp only[xy,Ax]
     split<;>exact .eF
  .rename_i ym;replace h:=gO h;obtain⟨vm,zT,h⟩:=h;replace h:=G9 h;obtain⟨jm,C,rfl,h⟩:=h;replace h:=db h;obtain⟨h0,h⟩:=h;cases z with
   |succ _=>cases h
   |zero=>
    cases g with
    |succ _=>cases h
    |zero=>
     cases C with
     |succ _=>cases h
     |zero=>
      refine⟨_,dk h,λ ρ a w ct=>?_⟩
      obtain⟨b,c,p⟩:=(ct.ev hv (by simp[V,Op.operands])).EY
      obtain⟨m',hr,L⟩:=RM (P:=P) (c:=c) (len:=0) (ax:=0) (m:=0) (mx:=some ym) T W (.inr ⟨ym,jm,rfl,zT⟩) (λ _=>h0) (λ y G u J=>ct.ev J (EE y G)) aF aF (dQ _) ζ w
      obtain⟨_,rfl⟩:=L.resolve_left ζ
      refine⟨_,fl a _ 0 c w 0 0 0 p hr,?_⟩
      simp only[xy,Ax]
      split<;>exact .eF
 .cases h
end
variable{α:Type}{w:bI}
def aFa(l m:List α)(ah:Nat)(h:ah+l.length<=m.length)(i:Nat):(m.take ah++(l++m.drop (ah+l.length)))[i]?=if ah<=i/\i<ah+l.length then l[i-ah]? else m[i]?:=by
 have e:(m.take ah).length=ah:=by rw[eK];omega
 by_cases O:i<ah
 .rw[jI ω,rI,aq O,ao ω]
 .rw[mi ω,e]
  by_cases U:i<ah+l.length
  .rw[jI ω,aq ⟨ω,U⟩]
  .rw[mi ω,v_,ao ω];congr 1;omega
theorem Z9(ah:Nat):∀(l:List aC) (k:Nat) (cells:Array aC),ah+k+l.length<=cells.size->((l.zipIdx k).foldl (λ (M:Array aC) (p:aC×Nat)=>M.setIfInBounds (ah+p.2) p.1) cells).size=cells.size/\∀i:Nat,((l.zipIdx k).foldl (λ (M:Array aC) (p:aC×Nat)=>M.setIfInBounds (ah+p.2) p.1) cells)[i]?=if ah+k<=i/\i<ah+k+l.length then l[i-(ah+k)]? else cells[i]?
 |[],k,cells,_=>⟨rfl,λ i=>ξ⟩
 |v::l,k,cells,h=>by
  simp only[qi]at h
  have⟨O,U⟩:=Z9 ah l (k+1) (cells.setIfInBounds (ah+k) v) ξ
  refine⟨by simpa[List.zipIdx_cons]using O,λ i=>?_⟩
  have F:=U i
  simp only[List.zipIdx_cons,DV]
  rw[F]
  simp only[qi,HP]
  by_cases u:i=ah+k
  .subst u
   rw[ao ω,aq rfl,aq ω,aq ⟨ω,ω⟩];simp
  .by_cases e:ah+(k+1)<=i/\i<ah+(k+1)+l.length
   .rw[aq e,aq ω];obtain⟨d,rfl⟩:∃d,i=ah+(k+1)+d:=⟨i-(ah+(k+1)),ω⟩;have n:ah+(k+1)+d-(ah+(k+1))=d:=ω
    have g:ah+(k+1)+d-(ah+k)=d+1:=ω
    rw[n,g];simp
   .rw[ao e,ao ω,ao ω]
def agH(ah:Nat)(v cells:Array aC)(h:ah+v.size<=cells.size):(v.zipIdx.foldl (λ (M:Array aC) (p:aC×Nat)=>M.setIfInBounds (ah+p.2) p.1) cells).toList=cells.toList.take ah++(v.toList++cells.toList.drop (ah+v.size)):=by
 rw[<-Yh,ae0]
 have⟨_,U⟩:=Z9 ah v.toList 0 cells (by simpa using h)
 apply SU
 intro i
 have F:=U i
 simp only[xx]at F
 rw[pG,F]
 have:=aFa v.toList cells.toList ah (by simpa using h) i
 simp only[rH]at this⊢
 rw[this];simp
section
variable{P:e8}{E:aK}{s:CX}{o:Oper}{H:D}{r:dS}
def axx{k:AU->R β}(h:Nb ah l l2 k=.ok q):ah+l.length<=l2.length/\k (l2.take ah++(l++l2.drop (ah+l.length)))=.ok q:=by
 unfold Nb at h
 have⟨O,h⟩:=aea h
 rw[ux]at h
 have⟨U,h⟩:=ZI h
 rw[DX,DX]at h
 exact⟨U,h⟩
def aqi{F:Nat->(Nat->Nat->R β)->R β}{place:Nat->Option (Nat×Nat)}(z:∀i k q,F i k=.ok q->∃ah size,place i=some (ah,size)/\k ah size=.ok q):
 ∀(parts:List (Nat×dy)) (cells:AU) (k:AU->R β) (q:β),CO E s F parts cells k=.ok q->
  ∃out,k out=.ok q/\out.length=cells.length/\∀(ρ:bh) (a:Act),(∀p∈parts,∀v,Ev E s p.2 v->Rl ρ v (a.eval p.2))->∀g:Array aC,cA ρ cells g.toList->
   ∃rW,Instr.fill place g (parts.map λ p=>(p.1,a.eval p.2))=some rW/\cA ρ out rW.toList:=by
 intro parts
 induction parts with
 |nil=>intro cells k q h;exact⟨cells,h,rfl,λ ρ a _ g u=>⟨g,rfl,u⟩⟩
 |cons p parts L=>
  intro cells k q h
  unfold CO at h
  rw[qA]at h
  have⟨i,x⟩:=p
  dsimp only at h
  have⟨v,T,h⟩:=gO h
  have⟨ah,size,G,e⟩:=z _ _ _ h
  rw[ux]at e
  replace e:=db e;have⟨D,e⟩:=e
  replace e:=db e;have⟨V,e⟩:=e
  replace e:=axx e;have⟨aU,e⟩:=e
  have Jj:(cellsOf v).length=size:=by simpa using V
  have⟨out,Q,X,n⟩:=L _ _ _ e
  refine⟨out,Q,?_,λ ρ a C g u=>?_⟩
  .rw[X];simp only[iP,eK,FM];omega
  .have B:Rl ρ v (a.eval x):=C (i,x) ζ v T
   have⟨A,_⟩:=O9 B D;have I:=Zv B D;have W:=u.length;simp only[rH]at W;have Z:=agH ah (a.eval x).cells g ω;have J:cA ρ (cells.take ah++(cellsOf v++cells.drop (ah+(cellsOf v).length))) ((a.eval x).cells.zipIdx.foldl (λ (M:Array aC) (p:aC×Nat)=>M.setIfInBounds (ah+p.2) p.1) g).toList:=by rw[Z,I];exact(u.take ah).append (A.append (u.drop _))
   have⟨rW,O,U⟩:=n ρ a (λ p z=>C p (by simp[z])) _ J;refine⟨rW,?_,U⟩;simp only[kB,Instr.fill,G];rw[ao ξ];exact O
def aGY{i:TI}(ay:pE P src i)(ρ:bh):∃x zv,P.info? src=some x/\x.zero=some zv/\cA ρ i.zero zv.cells.toList:=by have⟨x,zv,O,_,_,g,e,_⟩:=ay.info;exact⟨x,zv,O,g,by rw[e];exact RI _⟩
theorem aje:∀(fs:List Field),(∀f∈fs,∃x,P.info? f.type=some x)->∃places:List (Nat×Nat),fs.mapM (λ f=>(P.info? f.type).map λ i=>(f.offset,i.size))=some places/\∀(i:Nat) f x,fs[i]?=some f->P.info? f.type=some x->places[i]?=some (f.offset,x.size)
 |[],_=>⟨[],rfl,λ i f x h=>by simp at h⟩
 |f::fs,h=>by
  have⟨x,Z⟩:=h f ζ
  have⟨pl,O,U⟩:=aje fs (λ g e=>h g (by simp[e]))
  refine⟨(f.offset,x.size)::pl,by simp[YI,Z,O],λ i g y e G=>?_⟩
  cases i with|zero=>simp at e;subst e;rw[Z]at G;cases G;rfl|succ i=>simpa using U i g y (by simpa using e) G
def aCq(I:eW P E){parts:Array (Nat×dy)}(L:o.op=.build src parts)(h:bw E s (.build src parts) H=.ok r):Pu P E s o H r:=by
 unfold bw at h;dsimp only at h;have⟨i,A,h⟩:=nS h;have ay:=I.tt _ _ A;have EE:∀p∈parts.toList,p.2∈o.op.operands.toList:=by intro p u;simp only[L,Op.operands,jn];exact⟨p,u,rfl⟩
 have fin:∀(place:Nat->Option (Nat×Nat)) (D:Nat->(Nat->Nat->R dS)->R dS),(∀i k q,D i k=.ok q->∃ah size,place i=some (ah,size)/\k ah size=.ok q)->(∀(ps:List (Nat×aC)) (x:TypeInfo) (zv:aC),P.info? src=some x->x.zero=some zv->P.built src ps=Instr.fill place zv.cells ps)->CO E s D parts.toList i.zero (λ l=>val (.agg l) H)=.ok r->Pu P E s o H r:=by
  intro place D u X h
  obtain⟨out,O,_,U⟩:=aqi u _ _ _ _ h
  refine⟨_,dk O,λ ρ a w c=>?_⟩
  obtain⟨x,zv,F,h4,h5⟩:=aGY ay ρ
  obtain⟨rW,h6,h7⟩:=U ρ a (λ p u v V=>c.ev V (EE p u)) zv.cells h5
  refine⟨.agg rW,?_,.agg h7⟩
  have h8:(Instr.build src (parts.map λ (i,x)=>(i,a.eval x))).run P w=.ok (.agg rW) w:=by refine run_build w src _ _ ?_;rw[X _ x zv F h4,<-h6];congr 1;simp
  simp only[execOp,L,cK,h8,dD,iL]
 split at h
 .rename_i fs hd;have hu:P.underlying src=some (.struct fs):=by have:=ay.oH;rwa[hd]at this
  obtain⟨places,T,B⟩:=aje (P:=P) fs.toList (ay.br fs hd);refine fin (places.toArray[·]?) _ ?_ ?_ h
  .intro f k q g;obtain⟨i',fs',fd,j,M,J,W,C,g⟩:=ZW g;rw[A]at M;cases M;rw[hd]at J;cases J;obtain⟨x,_,Z,Q,_⟩:=(I.tt _ _ C).info;refine⟨_,_,?_,g⟩;have:=B f fd x (by simpa using W) Z;rw[Q]at this;simpa using this
  .intro ps x zv Z z;simp only[Program.built,Z,hu,z,T]
 .rename_i n e hd;have⟨j,C,h⟩:=nS h;have hu:P.underlying src=some (.array n e):=by have:=ay.oH;rwa[hd]at this
  obtain⟨y,_,G,VH,_⟩:=(I.tt _ _ C).info;refine fin (λ i=>some (i*j.size,j.size)) _ ?_ ?_ h
  .intro f k q g;obtain⟨_,g⟩:=db g;exact⟨_,_,rfl,g⟩
  .intro ps x zv Z z;simp only[Program.built,Z,hu,z,G,VH]
 .cases h
def ZS(a b:Int):Pm a b=(a==b):=by
 cases a with
 |ofNat x=>
  cases b with
  |ofNat y=>
   show Nat.beq x y=_
   rw[qH,su,zk]
   exact⟨λ h=>iQ _ h,λ h=>SP h⟩
  |negSucc y=>symm;show(Int.ofNat x==Int.negSucc y)=false;rw[afx];intro h;cases h
 |negSucc x=>
  cases b with
  |ofNat y=>symm;show(Int.negSucc x==Int.ofNat y)=false;rw[afx];intro h;cases h
  |negSucc y=>
   show Nat.beq x y=_
   rw[qH,su,zk]
   exact⟨λ h=>iQ _ h,λ h=>Int.negSucc.inj h⟩
def Ik(x y:β):aB x y false=x:=rfl
def xI(x y:β):aB x y true=y:=rfl
def afP(x y:UInt8):Nat.beq x.toNat y.toNat=(x==y):=by rw[qH,su,zk];exact⟨λ h=>UInt8.toNat_inj.1 h,λ h=>by rw[h]⟩
theorem IB:∀a b:List UInt8,zr a b=(a==b)
 |[],[]=>rfl|[],_::_=>rfl|_::_,[]=>rfl
 |x::a,y::b=>by
  show aB false (zr a b) (Nat.beq x.toNat y.toNat)=_
  rw[IB a b,afP]
  show aB false (a==b) (x==y)=(x==y&&a==b)
  cases x==y<;>rfl
theorem abp:∀a b:List UInt8,yD a b=Op.bytesLess a b
 |[],[]=>rfl|[],_::_=>rfl|_::_,[]=>rfl
 |x::a,y::b=>by
  show aB (aB false (yD a b) (Nat.beq x.toNat y.toNat)) true (Nat.blt x.toNat y.toNat)=(decide (x<y)||(x==y&&Op.bytesLess a b))
  rw[abp a b,afP]
  have:Nat.blt x.toNat y.toNat=decide (x<y):=by rw[qH,tK,xz];exact so
  rw[this]
  cases decide (x<y)<;>cases x==y<;>rfl
def Zr(b:aI):b.toList=b.data.toList:=ByteArray.toList_eq b
def anx(op:BinOp)(t:aS)(j k:IntKind)(a b:Int):Go.binOp op t (.int j a) (.int k b)=Go.binOp op 0 (.int j a) (.int k b):=by cases op<;>rfl
def ZR(op:BinOp)(t:aS)(x y:dy)(u v:aC)(O:∀c,u≠.agg c)(U:u≠.nilIface)(w:bI):(eqGuard op t x y u v).run P w=.ok () w:=by unfold eqGuard;cases op<;>cases u<;>cases v<;>first|rfl|exact absurd rfl U|exact absurd rfl (O _)
def aFi{op:BinOp}{a b:aI}{k:aC->R dS}(h:NU op a.data.toList b.data.toList k=.ok r)(t:aS)(w:bI):∃v,(Go.binOp op t (.string a) (.string b)).run P w=.ok v w/\k v=.ok r/\∃c,v=.bool c:=by
 have O:∀x y,zr x y=(x==y):=IB
 cases op<;>first
  |(cases h;done)
  |(refine⟨_,?_,h,_,rfl⟩
    simp only[Go.binOp,Op.stringOp,Zr,IB,abp]
    first|rfl|(cases(a.data.toList==b.data.toList)<;>cases Op.bytesLess a.data.toList b.data.toList<;>rfl))
def yF{op:BinOp}{k:aC->R dS}(h:lL op ex k=.ok r):(op=.eql/\k (.bool ex)=.ok r)\/(op=.neq/\k (.bool (!ex))=.ok r):=by
 cases op<;>first
  |(cases h;done)|exact .inl ⟨rfl,h⟩|(refine .inr ⟨rfl,?_⟩;cases ex<;>exact h)
def run_eq{t:aS}{u v:aC}{b:Bool}(hu:∀j n,u≠.int j n)(e:∀x,u≠.string x)(g:∀j n,u≠.float j n)(p:∀j n m,u≠.complex j n m)(h:(Op.equal t u v).run P w=.ok b w):(Go.binOp .eql t u v).run P w=.ok (.bool b) w/\(Go.binOp .neq t u v).run P w=.ok (.bool (!b)) w:=by
 have A:Go.binOp .eql t u v=(do pure (.bool (<-Op.equal t u v))):=by cases u<;>first|exact absurd rfl (hu _ _)|exact absurd rfl (e _)|exact absurd rfl (g _ _)|exact absurd rfl (p _ _ _)|(cases v<;>rfl)
 have z:Go.binOp .neq t u v=(do pure (.bool (!(<-Op.equal t u v)))):=by cases u<;>first|exact absurd rfl (hu _ _)|exact absurd rfl (e _)|exact absurd rfl (g _ _)|exact absurd rfl (p _ _ _)|(cases v<;>rfl)
 rw[A,z]
 simp[h]
end
variable{ts:Array aS}{γ:Type}{kt:aS}{S:α->γ->Prop}
section
variable{P:e8}{E:aK}{s:CX}{o:Oper}{H:D}{r:dS}
def ai6{k:List aC->R β}(h:Fc l k=.ok q):∃xs:List aC,l=xs.map J.lit/\k xs=.ok q:=by
 unfold Fc at h;have⟨xs,O,U⟩:=Bh (S:=λ v x=>v=J.lit x) (λ v k q h=>by
  split at h
  .exact⟨_,rfl,h⟩
  .cases h) h
 refine⟨xs,?_,U⟩;clear h U;induction O with|nil=>rfl|cons e _ g=>rw[e,g];rfl
def M8{v:J}{k:aC->R β}(h:yC E kt v k=.ok q):∃ks key,E.ky.get kt=some ks/\KP ks key/\k key=.ok q/\∀(ρ:bh) v',Rl ρ v v'->v'=key:=by
 unfold yC at h
 replace h:=oY h;obtain⟨ks,e,h⟩:=h
 split at h
 .rename_i c x
  replace h:=db h;obtain⟨O,h⟩:=h;exact⟨_,x,e,O,h,λ ρ v' hr=>hr.fI⟩
 .rename_i M l
  replace h:=ai6 h;obtain⟨xs,rfl,h⟩:=h;replace h:=db h;obtain⟨O,h⟩:=h;refine⟨_,.agg ⟨xs⟩,e,⟨xs,rfl,O⟩,h,λ ρ v' hr=>?_⟩;obtain⟨l',U,rfl⟩:=hr.QW;have:=U.awQ;cases l';simp_all
 .cases h
def aex(P:e8)(op:BinOp)(t:aS)(x y:J)(b:Bool):Prop:=∀(ρ:bh) u v w,Rl ρ x u->Rl ρ y v->(Go.binOp .eql t u v).run P w=.ok (.bool b) w/\(Go.binOp .neq t u v).run P w=.ok (.bool (!b)) w/\∀g e,(eqGuard op t g e u v).run P w=.ok () w
def zt{op:BinOp}{y:J}(h:∀(ρ:bh) u v w,Rl ρ a u->Rl ρ y v->(Op.equal src u v).run P w=.ok ex w/\((∃p,u=.pointer p)\/(∃p n m,u=.slice p n m)\/(∃p,u=.map p)\/(∃p l m,u=.func p l m)\/u=.nilFunc\/(∃p,u=.bool p))):aex P op src a y ex:=by
 intro ρ u v w Z G
 have⟨O,U⟩:=h ρ u v w Z G
 have F:=run_eq (P:=P) (t:=src) (u:=u) (v:=v) (b:=ex) (w:=w) (by rcases U with⟨_,rfl⟩|⟨_,_,_,rfl⟩|⟨_,rfl⟩|⟨_,_,_,rfl⟩|rfl|⟨_,rfl⟩<;>simp) (by rcases U with⟨_,rfl⟩|⟨_,_,_,rfl⟩|⟨_,rfl⟩|⟨_,_,_,rfl⟩|rfl|⟨_,rfl⟩<;>simp) (by rcases U with⟨_,rfl⟩|⟨_,_,_,rfl⟩|⟨_,rfl⟩|⟨_,_,_,rfl⟩|rfl|⟨_,rfl⟩<;>simp) (by rcases U with⟨_,rfl⟩|⟨_,_,_,rfl⟩|⟨_,rfl⟩|⟨_,_,_,rfl⟩|rfl|⟨_,rfl⟩<;>simp) O
 refine⟨F.1,F.2,λ g e=>ZR _ _ _ _ _ _ ?_ ?_ _⟩
 .rcases U with⟨_,rfl⟩|⟨_,_,_,rfl⟩|⟨_,rfl⟩|⟨_,_,_,rfl⟩|rfl|⟨_,rfl⟩<;>simp
 .rcases U with⟨_,rfl⟩|⟨_,_,_,rfl⟩|⟨_,rfl⟩|⟨_,_,_,rfl⟩|rfl|⟨_,rfl⟩<;>simp
section
variable{t:aS}(w:bI)
def apI(d:Nat)(h:P.underlying t=some .bool)(a b:Bool):(Op.equalIn (d+1) t (.bool a) (.bool b)).run P w=.ok (a==b) w:=by unfold Op.equalIn;simp only[cK,dR h,dD,iL]
def agw(d:Nat)(h:P.underlying t=some (.pointer src))(b:Option Addr):(Op.equalIn (d+1) t (.pointer none) (.pointer b)).run P w=.ok b.isNone w:=by unfold Op.equalIn;cases b<;>simp only[cK,dR h,dD,iL]
def apN(d:Nat)(h:P.underlying t=some (.pointer src))(b:Addr):(Op.equalIn (d+1) t (.pointer (some b)) (.pointer none)).run P w=.ok false w:=by unfold Op.equalIn;simp only[cK,dR h,dD,iL]
def agx(d:Nat)(h:P.underlying t=some (.slice src))(b:Option Addr)(n m n' m':Nat):(Op.equalIn (d+1) t (.slice none n m) (.slice b n' m')).run P w=.ok b.isNone w:=by unfold Op.equalIn;cases b<;>simp only[cK,dR h,dD,iL]
def agy(d:Nat)(h:P.underlying t=some (.slice src))(b:Addr)(n m n' m':Nat):(Op.equalIn (d+1) t (.slice (some b) n m) (.slice none n' m')).run P w=.ok false w:=by unfold Op.equalIn;simp only[cK,dR h,dD,iL]
def apL(d:Nat)(h:P.underlying t=some (.map src dst))(b:Option Nat):(Op.equalIn (d+1) t (.map none) (.map b)).run P w=.ok b.isNone w:=by unfold Op.equalIn;cases b<;>simp only[cK,dR h,dD,iL]
def apM(d:Nat)(h:P.underlying t=some (.map src dst))(b:Nat):(Op.equalIn (d+1) t (.map (some b)) (.map none)).run P w=.ok false w:=by unfold Op.equalIn;simp only[cK,dR h,dD,iL]
def apJ(d:Nat){x y:Array aS}(h:P.underlying t=some (.func x y ex)):(Op.equalIn (d+1) t .nilFunc .nilFunc).run P w=.ok true w:=by unfold Op.equalIn;simp only[cK,dR h,dD,iL]
def apK(d:Nat){x y:Array aS}(h:P.underlying t=some (.func x y ex))(f:Fn)(l m:Array aC):(Op.equalIn (d+1) t (.func f l m) .nilFunc).run P w=.ok false w:=by unfold Op.equalIn;simp only[cK,dR h,dD,iL]
end
def anQ(a b:Bool):aB (aB true false b) b a=(a==b):=by cases a<;>cases b<;>rfl
def apP(I:eW P E){op:BinOp}{t:aS}{x y:J}{k:aC->R dS}(h:iG E op t x y k=.ok r):∃b,((op=.eql/\k (.bool b)=.ok r)\/(op=.neq/\k (.bool (!b))=.ok r))/\aex P op t x y b:=by
 unfold iG at h
 replace h:=nS h;obtain⟨i,A,h⟩:=h
 have ay:=I.tt _ _ A
 have hu:=ay.oH
 split at h
 .rename_i a b hd
  rw[hd]at hu;rw[anQ]at h;refine⟨_,yF h,zt λ ρ u v w Z G=>?_⟩;rw[Z.fI,G.fI];exact⟨apI _ 9999 hu _ _,ζ⟩
 .rename_i e hd
  rw[hd]at hu;refine⟨_,yF h,zt λ ρ u v w Z G=>?_⟩;rw[Z.fI,G.fI];exact⟨agw _ 9999 hu _,ζ⟩
 .rename_i e id ah hd
  rw[hd]at hu;refine⟨_,yF h,zt λ ρ u v w Z G=>?_⟩;obtain⟨b,s',N,_,rfl⟩:=G.M0;rw[Z.fI];exact⟨agw _ 9999 hu _,ζ⟩
 .rename_i e id ah hd
  rw[hd]at hu;refine⟨_,yF h,zt λ ρ u v w Z G=>?_⟩;obtain⟨b,s',N,_,rfl⟩:=Z.M0;rw[G.fI];exact⟨apN _ 9999 hu _,ζ⟩
 .rename_i e n m n' m' hd
  rw[hd]at hu;refine⟨_,yF h,zt λ ρ u v w Z G=>?_⟩;rw[Z.fI,G.fI];exact⟨agx _ 9999 hu _ _ _ _ _,ζ⟩
 .rename_i hd
  rw[hd]at hu;refine⟨_,yF h,zt λ ρ u v w Z G=>?_⟩;obtain⟨b,s',N,c,_,_,_,_,_,_,rfl⟩:=Z.rT;rw[G.fI];exact⟨agy _ 9999 hu _ _ _ _ _,ζ⟩
 .rename_i hd
  rw[hd]at hu;refine⟨_,yF h,zt λ ρ u v w Z G=>?_⟩;obtain⟨b,c,rfl⟩:=Z.EY;rw[G.fI];exact⟨agy _ 9999 hu _ _ _ _ _,ζ⟩
 .rename_i hd
  rw[hd]at hu;refine⟨_,yF h,zt λ ρ u v w Z G=>?_⟩;obtain⟨b,s',N,c,_,_,_,_,_,_,rfl⟩:=G.rT;rw[Z.fI];exact⟨agx _ 9999 hu _ _ _ _ _,ζ⟩
 .rename_i hd
  rw[hd]at hu;refine⟨_,yF h,zt λ ρ u v w Z G=>?_⟩;rw[Z.fI,G.fI];exact⟨apL _ 9999 hu _,ζ⟩
 .rename_i hd
  rw[hd]at hu;refine⟨_,yF h,zt λ ρ u v w Z G=>?_⟩;obtain⟨b,s',N,_,rfl⟩:=Z.aiI;rw[G.fI];exact⟨apM _ 9999 hu _,ζ⟩
 .rename_i hd
  rw[hd]at hu;refine⟨_,yF h,zt λ ρ u v w Z G=>?_⟩;rw[Z.fI,G.fI];exact⟨apJ _ 9999 hu,ζ⟩
 .rename_i f l m hd
  rw[hd]at hu;refine⟨_,yF h,zt λ ρ u v w Z G=>?_⟩;rw[G.fI];have L:∃p l m,u=.func p l m:=by cases Z<;>exact⟨_,_,_,rfl⟩
  obtain⟨p,l',m',rfl⟩:=L;exact⟨apK _ 9999 hu _ _ _,ζ⟩
 all_goals
  first
   |(cases h;done)
   |(replace h:=M8 h;obtain⟨ks,a,C,Q,h,z⟩:=h
     replace h:=M8 h;obtain⟨X,b,B,M,h,g⟩:=h
     rw[C]at B;cases B
     refine⟨_,yF h,λ ρ u v w Z G=>?_⟩
     have D:=I.ky _ _ C
     obtain⟨l',_,rfl⟩:=Z.QW
     obtain⟨m',_,rfl⟩:=G.QW
     have U:=z ρ _ Z
     have T:=g ρ _ G
     subst U T
     have O:=D.eq _ _ w Q M
     have F:=run_eq (P:=P) (t:=t) (w:=w) ζ ζ ζ ζ O
     exact⟨F.1,F.2,λ W V=>run_eqGuard_agg _ _ _ _ _ _ _ D.gd⟩)
def aCp(L:eW P E){op:BinOp}{t u:aS}(e:o.op=.binOp op t x y u)(h:bw E s (.binOp op t x y u) H=.ok r):Pu P E s o H r:=by
 unfold bw at h;dsimp only at h;replace h:=gO h;obtain⟨a,p,h⟩:=h;replace h:=gO h;obtain⟨b,g,h⟩:=h;unfold fh at h;split at h
 .rename_i j m k n;replace h:=Rx h;obtain⟨v,I,h⟩:=h;refine⟨_,BA h,λ ρ ac w c=>⟨v,?_,.lit v⟩⟩;have B:=(c.ev p (by simp[e,Op.operands])).fI;have A:=(c.ev g (by simp[e,Op.operands])).fI;have z:=ZR (P:=P) op t x y (.int j m) (.int k n) ζ ζ w;simp only[execOp,e,B,A,cK,z,dD,anx op t,I];rfl
 .rename_i m n;have key:∀w,∃v,(Go.binOp op t (.string m) (.string n)).run P w=.ok v w/\lj v H=.ok r:=λ w=>by obtain⟨v,O,U,_⟩:=aFi (P:=P) h t w;exact⟨v,O,U⟩
  obtain⟨v0,_,D⟩:=key default;refine⟨_,BA D,λ ρ ac w c=>⟨v0,?_,.lit v0⟩⟩;obtain⟨v,O,U⟩:=key w;have:v=v0:=by have J:=BA D;have G:=BA U;rw[J]at G;cases G;rfl
  subst this;have B:=(c.ev p (by simp[e,Op.operands])).fI;have A:=(c.ev g (by simp[e,Op.operands])).fI;have z:=ZR (P:=P) op t x y (.string m) (.string n) ζ ζ w;simp only[execOp,e,B,A,cK,z,dD,O];rfl
 .replace h:=apP L h;obtain⟨q,h,C⟩:=h;rcases h with⟨rfl,h⟩|⟨rfl,h⟩
  .refine⟨_,BA h,λ ρ ac w c=>⟨_,?_,.lit _⟩⟩;obtain⟨O,U,F⟩:=C ρ _ _ w (c.ev p (by simp[e,Op.operands])) (c.ev g (by simp[e,Op.operands]));simp only[execOp,e,cK,F,dD,O];rfl
  .refine⟨_,BA h,λ ρ ac w c=>⟨_,?_,.lit _⟩⟩;obtain⟨O,U,F⟩:=C ρ _ _ w (c.ev p (by simp[e,Op.operands])) (c.ev g (by simp[e,Op.operands]));simp only[execOp,e,cK,F,dD,U];rfl
def NK{b:Builtin}{args:Array dy}(e:o.op=.call {callee:=.builtin b,args:=args,argTypes:=ts})(a:Act)(w:bI):(execOp a.eval o).run P w=(builtin b ts o.type (args.map λ|.const _=>true|_=>false) (args.map a.eval)).run P w:=by
 simp[execOp,e,resolve,invoke]
 rfl
def T_{l:List α}{x y:γ}(h:F2 S l [x,y]):∃a b,l=[a,b]/\S a x/\S b y:=by cases h with|cons O U=>cases U with|cons F e=>cases e;exact⟨_,_,rfl,O,F⟩
def agD{l:List α}{x:γ}(h:F2 S l [x]):∃a,l=[a]/\S a x:=by cases h with|cons O U=>cases U;exact⟨_,rfl,O⟩
def anY(ts:List aS)(args:AU):rL E .min ts args H=match args with|[x,y]=>G2 false x y H|_=>.er [77]:=by unfold rL;rcases args with _|⟨x,_|⟨y,_|⟨z,l⟩⟩⟩<;>rfl
def anX(ts:List aS)(args:AU):rL E .max ts args H=match args with|[x,y]=>G2 true x y H|_=>.er [77]:=by unfold rL;rcases args with _|⟨x,_|⟨y,_|⟨z,l⟩⟩⟩<;>rfl
def aym{y:J}(h:G2 ex a y H=.ok r):∃j m k n v,a=.lit (.int j m)/\y=.lit (.int k n)/\(if ex then Builtin.max2 (.int j m) (.int k n)else Builtin.min2 (.int j m) (.int k n))=.pure v/\r=.val (.lit v) H:=by
 unfold G2 at h;split at h
 .rename_i j m k n;cases ex with
  |false=>rw[Ik]at h;obtain⟨v,e,h⟩:=Rx (k:=λ v=>lj v H) h;exact⟨_,_,_,_,v,rfl,rfl,e,BA h⟩
  |true=>rw[xI]at h;obtain⟨v,e,h⟩:=Rx (k:=λ v=>lj v H) h;exact⟨_,_,_,_,v,rfl,rfl,e,BA h⟩
 .cases h
def ajV{b:Builtin}(L:b=.min\/b=.max){args:Array dy}(A:o.op=.call {callee:=.builtin b,args:=args,argTypes:=ts})(h:bw E s (.call {callee:=.builtin b,args:=args,argTypes:=ts}) H=.ok r):Pu P E s o H r:=by
 unfold bw at h
 dsimp only at h
 replace h:=BY h;obtain⟨C,I,h⟩:=h
 have key:∃x y e,C=[x,y]/\((e=false/\b=.min)\/(e=true/\b=.max))/\G2 e x y H=.ok r:=by
  rcases L with rfl|rfl
  .rw[anY]at h;split at h
   .exact⟨_,_,_,rfl,.inl ⟨rfl,rfl⟩,h⟩
   .cases h
  .rw[anX]at h;split at h
   .exact⟨_,_,_,rfl,.inr ⟨rfl,rfl⟩,h⟩
   .cases h
 obtain⟨x,y,e,rfl,Q,h⟩:=key
 obtain⟨F,D,T,Z,G⟩:=T_ I
 have p:args=#[F,D]:=by cases args;simp_all
 obtain⟨j,m,k,n,v,rfl,rfl,u,hr⟩:=aym h
 refine⟨_,hr,λ ρ ac w c=>⟨v,?_,.lit v⟩⟩
 have B:∀z∈args.toList,z∈o.op.operands.toList:=by intro z J;simp only[A,Op.operands,Call.operands,yY,b_];exact .inr J
 have O:=(c.ev Z (B _ (by simp[p]))).fI
 have M:=(c.ev G (B _ (by simp[p]))).fI
 rw[NK A]
 have:args.map ac.eval=#[.int j m,.int k n]:=by rw[p];simp[O,M]
 rw[this]
 rcases Q with⟨rfl,rfl⟩|⟨rfl,rfl⟩
 .have:Builtin.min_ ts o.type #[.int j m,.int k n]=.pure v:=by show(do let a<-Builtin.min2 (.int j m) (.int k n);pure a)=_;have g:Builtin.min2 (.int j m) (.int k n)=.pure v:=u;rw[g]
  simp only[builtin,this];try rfl
 .have:Builtin.max_ ts o.type #[.int j m,.int k n]=.pure v:=by show(do let a<-Builtin.max2 (.int j m) (.int k n);pure a)=_;have g:Builtin.max2 (.int j m) (.int k n)=.pure v:=u;rw[g]
  simp only[builtin,this];try rfl
end
variable{ks:KS}{a:aC}
def ZT(h:nC a xv=true):a=xv:=by
 unfold nC at h;split at h
 .rename_i j x k y;cases e:(j==k)with
  |false=>rw[e]at h;cases h
  |true=>
   rw[e,xI,ZS]at h
   rw[zk]at e h
   rw[e,h]
 .rename_i x y;rw[IB,zk]at h;obtain⟨⟨x⟩⟩:=x;obtain⟨⟨y⟩⟩:=y;simp at h;rw[h]
 .rename_i x y;cases x<;>cases y<;>first|rfl|cases h
 .cases h
def agu{c:KC}(h:oz c a=true):nC a a=true:=by
 unfold oz at h;split at h
 .unfold nC;simp[xI,ZS]
 .unfold nC;simp[IB]
 .rename_i x;cases x<;>rfl
 .cases h
def Gh(x y:aC)(a b:List aC):vi (x::a) (y::b)=aB false (vi a b) (nC x y):=rfl
theorem ags:∀{a b:List aC},vi a b=true->a=b
 |[],[],_=>rfl|[],_::_,h=>by cases h
 |_::_,[],h=>by cases h
 |x::a,y::b,h=>by
  rw[Gh]at h
  cases e:nC x y with|false=>rw[e]at h;cases h|true=>rw[e]at h;rw[ZT e,ags (a:=a) (b:=b) h]
def DY(c:KC)(M:List KC)(x:aC)(xs:List aC):oc (c::M) (x::xs)=aB false (oc M xs) (oz c x):=rfl
theorem agt:∀{M:List KC} {a:List aC},oc M a=true->vi a a=true
 |[],[],_=>rfl|[],_::_,h=>by cases h
 |_::_,[],h=>by cases h
 |c::M,x::a,h=>by
  rw[DY]at h
  cases e:oz c x with
  |false=>rw[e]at h;cases h
  |true=>
   rw[e]at h
   rw[Gh,agu e]
   exact agt (M:=M) h
def Gg(h:c8 a xv=true):a=xv:=by
 unfold c8 at h;split at h
 .rename_i x y;have:=ags h;obtain⟨x⟩:=x;obtain⟨y⟩:=y;simp at this;rw[this]
 .exact ZT h
def Pn(h:KP ks a):c8 a a=true:=by
 cases ks with
 |one c=>
  have e:oz c a=true:=h
  have:=agu e
  cases a<;>first|exact this|(cases c<;>cases e)
 |agg M=>
  obtain⟨xs,rfl,U⟩:=h
  exact agt (M:=M) U
def agq(h:KP ks a):c8 a xv=true↔a=xv:=⟨Gg,λ e=>by rw[<-e];exact Pn h⟩
def apG(h:KP ks a):c8 a xv=false↔a≠xv:=by rw[Ne,<-agq h];simp
theorem abo{β:Type}{key:aC}{k:Nat->J->R β}{d:Unit->R β}{q:β}:∀{l:List AE},Nm key l k d=.ok q->(∃pre e post,l=pre++e::post/\(∀x∈pre,c8 x.k key=false)/\c8 e.k key=true/\k e.b e.v=.ok q)\/((∀x∈l,c8 x.k key=false)/\d ()=.ok q)
 |[],h=>.inr ⟨ζ,h⟩
 |e::l,h=>by
  have⟨x,b,v⟩:=e
  have g:aB (Nm key l k d) (k b v) (c8 x key)=.ok q:=h
  cases Z:c8 x key with
  |true=>
   rw[Z]at g
   exact .inl ⟨[],⟨x,b,v⟩,l,rfl,ζ,Z,g⟩
  |false=>
   rw[Z]at g
   rcases abo (l:=l) g with⟨pre,e,post,rfl,O,U,F⟩|⟨O,U⟩
   .exact .inl ⟨⟨x,b,v⟩::pre,e,post,rfl,λ y G=>by rcases cZ.1 G with rfl|G;exact Z;exact O y G,U,F⟩
   .exact .inr ⟨λ y G=>by rcases cZ.1 G with rfl|G;exact Z;exact O y G,U⟩
def F2.split{α γ:Type}{S:α->γ->Prop}:∀{pre:List α} {e:α} {post:List α} {m:List γ},F2 S (pre++e::post) m->∃n p g,m=n++p::g/\F2 S pre n/\S e p/\F2 S post g
 |[],_,_,_,h=>by cases h with|cons O U=>exact⟨[],_,_,rfl,.nil,O,U⟩
 |_::_,_,_,_,h=>by
  cases h with
  |cons O U=>
   obtain⟨n,p,g,rfl,F,z,u⟩:=F2.split U
   exact⟨_::n,p,g,rfl,.cons O F,z,u⟩
def F2.all{aR:α->Prop}{aG:γ->Prop}{l:List α}{m:List γ}(h:F2 S l m)(g:∀a∈l,aR a)(n:∀a b,S a b->aR a->aG b):∀b∈m,aG b:=by
 induction h with
 |nil=>simp
 |cons O _ p=>
  intro b e
  rcases cZ.1 e with rfl|e
  .exact n _ _ O (g _ ζ)
  .exact p (λ a h=>g a (by simp[h])) b e
def ER(ρ:bh)(e:AE)(g:MapEntry):Prop:=g.key=e.k/\g.born=e.b/\Rl ρ e.v g.val
theorem Pp{key:aC}:∀(l:List MapEntry) (i:Nat),(∀e∈l,e.key≠key)->rO key l i=none
 |[],_,_=>rfl
 |e::l,i,h=>by
  unfold rO
  rw[ao (h e ζ)]
  exact Pp l _ λ x Z=>h x (by simp[Z])
theorem Po{key:aC}:∀(pre:List MapEntry) (e:MapEntry) (post:List MapEntry) (i:Nat),(∀x∈pre,x.key≠key)->e.key=key->rO key (pre++e::post) i=some (i+pre.length,e.val)
 |[],e,post,i,_,h=>by unfold rO;simp[h]
 |x::pre,e,post,i,h,he=>by
  simp only[Ov]
  unfold rO
  rw[ao (h x ζ),Po pre e post (i+1) (λ y G=>h y (by simp[G])) he]
  simp;omega
section
variable{P:e8}{E:aK}{s:CX}{o:Oper}{H:D}{r:dS}
def Ro(P:e8)(E:aK)(s:CX)(o:Oper)(H:D)(r:dS):Prop:=∃av,r=.val av H/\∀w0 ρ H2 w a,nU H H2->HR E w0 ρ H2 w->Ctx E ρ s a o.op->∃v,(execOp a.eval o).run P w=.ok (.value v) w/\Rl ρ av v
def Pu.ro(h:Pu P E s o H r):Ro P E s o H r:=by have⟨av,hr,h⟩:=h;exact⟨av,hr,λ w0 ρ H2 w a _ _ c=>h ρ a w c⟩
def aD1(D:eW P E)(A:o.op=.load src x)(h:bw E s (.load src x) H=.ok r):Ro P E s o H r:=by
 unfold bw at h;dsimp only at h;have⟨v,B,h⟩:=gO h;have one:∃av,r=.val av H/\∀w0 ρ H2 w a,nU H H2->HR E w0 ρ H2 w->Ctx E ρ s a o.op->∃e v',val e H=.ok r/\(execOp a.eval o).run P w=.ok (.value v') w/\Rl ρ e v':=by
  have key:∀w0 ρ H2 w a,nU H H2->HR E w0 ρ H2 w->Ctx E ρ s a o.op->∃e v',val e H=.ok r/\(execOp a.eval o).run P w=.ok (.value v') w/\Rl ρ e v':=by intro w0 ρ H2 w a Q hr c;have⟨F,e,v',u,p,n,C⟩:=HR.load D Q hr h (c.ev B (by simp[A,Op.operands]));refine⟨e,v',C,?_,n⟩;simp only[execOp,A,u,Instr.loadAt,Instr.sureAddr,cK,iL,dD,p]
  have:∃av,r=.val av H:=by
   unfold zX at h;split at h
   .have⟨o',_,h⟩:=oB h;split at h
    .have⟨i,_,h⟩:=nS h;cases z:k9 i.desc with
     |false=>
      rw[z]at h
      have⟨_,h⟩:=db (x:=cB _ _ _ _) h
      have⟨x,_,h⟩:=oY h
      exact⟨_,dk h⟩
     |true=>
      rw[z]at h
      have⟨_,h⟩:=db (x:=pU _ _ _ _) h
      have⟨l,_,_,h⟩:=He h
      exact⟨_,dk h⟩
    .cases h
   .cases h
  have⟨av,g⟩:=this;exact⟨av,g,key⟩
 have⟨av,g,key⟩:=one;refine⟨av,g,λ w0 ρ H2 w a Q hr c=>?_⟩;have⟨e,v',u,p,n⟩:=key w0 ρ H2 w a Q hr c;have:=dk u;rw[g]at this;cases this;exact⟨v',p,n⟩
def Ww{m:J}{k:aS->aS->Nat->List AE->R β}(h:mapOf E src m H k=.ok q):∃i kt e c l,E.tt.get src=some i/\i.desc=.map kt e/\k kt e c l=.ok q/\((m=.lit (.map none)/\c=0/\l=[])\/∃id,m=.map id/\H.t.get id=some (.map kt c l)):=by
 unfold mapOf at h
 replace h:=nS h;obtain⟨i,A,h⟩:=h
 split at h
 .rename_i kt e hd
  split at h
  .exact⟨i,kt,e,0,[],A,hd,h,.inl ⟨rfl,rfl,rfl⟩⟩
  .rename_i id;replace h:=oB h;obtain⟨o',p,h⟩:=h;split at h
   .rename_i g c l;replace h:=db h;obtain⟨O,h⟩:=h;have n:g=kt:=by simpa using O
    subst n;exact⟨i,g,e,c,l,A,hd,h,.inr ⟨id,rfl,p⟩⟩
   .cases h
  .cases h
 .cases h
def HR.JB(hr:HR E w0 ρ H w){l:List AE}(n:H.t.get ax=some (.map kt c l))(h:Rl ρ (.map ax) xv):∃b sh N es,ρ ax=some (b,sh,N)/\xv=.map (some b)/\w.heap[b]?=some (.map es c)/\F2 (ER ρ) l es.toList/\∃ks,E.ky.get kt=some ks/\∀e∈l,KP ks e.k:=by
 obtain⟨b,sh,N,g,rfl⟩:=h.aiI
 have⟨es,O,⟨ks,U,F⟩,p⟩:=hr.obj _ _ _ _ _ g n
 exact⟨b,sh,N,es,g,rfl,O,p,ks,U,F⟩
def TW{l:List AE}(h:F2 (ER ρ) l es)(Q:∀e∈l,KP ks e.k):∀e∈es,KP ks e.key:=h.all Q λ a b g n=>by rw[g.1];exact n
def Gi{l:List AE}(h:F2 (ER ρ) l es)(Q:∀e∈l,KP ks e.k)(B:∀x∈l,c8 x.k xv=false):∀e∈es,e.key≠xv:=h.all (aR:=λ e=>KP ks e.k/\c8 e.k xv=false) (λ a g=>⟨Q a g,B a g⟩) λ a b n g=>by rw[n.1];exact(apG g.1).1 g.2
def alU{i:TI}(ay:pE P src i){k:J->R β}(h:Si i.desc i.zero k=.ok q):∃z,k z=.ok q/\∀(ρ:bh) (w:bI),∃zv,(zeroValue src).run P w=.ok zv w/\Rl ρ z zv:=by
 unfold Si at h;have⟨x,zv,O,U,F,B,g,A⟩:=ay.info;have n:∀w,(zeroValue src).run P w=.ok zv w:=λ w=>by simp[zeroValue,typeInfo,O,B]
 rcases A with⟨e,M,rfl⟩|⟨e,p⟩
 .rw[e]at h;refine⟨.agg i.zero,h,λ ρ w=>⟨_,n w,.agg ?_⟩⟩;rw[g];exact RI _
 .rw[e,Ik]at h;have u:=Zw p;rw[u]at g;have C:i.zero=[.lit zv]:=by simpa using g
  rw[C]at h;exact⟨.lit zv,h,λ ρ w=>⟨_,n w,.lit _⟩⟩
def aD2(EO:eW P E)(C:o.op=.lookup src x y ex)(h:bw E s (.lookup src x y ex) H=.ok r):Ro P E s o H r:=by
 unfold bw at h;dsimp only at h;have⟨m,B,h⟩:=gO h;have⟨kv,dG,h⟩:=gO h;unfold Wp at h;have⟨i,kt,et,c,l,A,hd,h,hl⟩:=Ww h;have⟨ks,key,gS,I,h,vA⟩:=M8 h;have ay:=EO.tt _ _ A;have hu:P.underlying src=some (.map kt et):=by have:=ay.oH;rwa[hd]at this
 have V:=(EO.ky _ _ gS).ko;have Ra:∀w0 ρ H2 w a,nU H H2->HR E w0 ρ H2 w->Ctx E ρ s a o.op->∃es:List MapEntry,F2 (ER ρ) l es/\(∀e∈l,KP ks e.k)/\(∀p,rO key es 0=some p->(execOp a.eval o).run P w=.ok (.value (if ex then .tuple #[p.2,.bool true]else p.2)) w)/\(∀z,rO key es 0=none->(zeroValue et).run P w=.ok z w->(execOp a.eval o).run P w=.ok (.value (if ex then .tuple #[z,.bool false]else z)) w):=by
  intro w0 ρ H2 w a Q hr ct
  have e2:=vA ρ _ (ct.ev dG (by simp[C,Op.operands]))
  rcases hl with⟨rfl,_,rfl⟩|⟨id,rfl,bD⟩
  .have T:=(ct.ev B (by simp[C,Op.operands])).fI
   have L:=V.find key [] w I ζ;have M:=V.check true key w I;refine⟨[],.nil,ζ,λ p hp=>by simp[rO]at hp,λ z _ G=>?_⟩;cases ex<;>simp[execOp,C,T,e2,Instr.lookup,dR hu,cK,M,L,rO,G,Result.andThen]
  .have⟨b,sh,N,es,hb,T,iV,D,Wb,wG,u⟩:=hr.JB (Q _ _ bD) (ct.ev B (by simp[C,Op.operands]))
   rw[gS]at wG;cases wG;have L:=V.find key es.toList w I (TW D u);have M:=λ e=>V.check e key w I;refine⟨es.toList,D,u,λ p g=>?_,λ z g G=>?_⟩
   .cases ex<;>simp[execOp,C,T,e2,Instr.lookup,dR hu,cK,getObj,Sem.run,iV,M,L,g,Result.andThen]
   .cases ex<;>simp[execOp,C,T,e2,Instr.lookup,dR hu,cK,getObj,Sem.run,iV,M,L,g,G,Result.andThen]
 rcases abo h with⟨pre,e,post,rfl,O,U,F⟩|⟨O,U⟩
 .have fin:∀(av:J),r=.val av H->(∀(ρ:bh) v,Rl ρ e.v v->Rl ρ av (if ex then .tuple #[v,.bool true]else v))->Ro P E s o H r:=by
   intro av eM n;refine⟨av,eM,λ w0 ρ H2 w a Q hr ct=>?_⟩;have⟨es,D,u,X,_⟩:=Ra w0 ρ H2 w a Q hr ct;obtain⟨nQ,e',uD,rfl,f1,f2,f3⟩:=D.split;have Je:=Gi f1 (λ x Z=>u x (by simp[Z])) O;have Es:e'.key=key:=by rw[f2.1];exact Gg U
   have:=X _ (Po nQ e' uD 0 Je Es);exact⟨_,this,n ρ _ f2.2.2⟩
  cases ex with
  |false=>exact fin _ (dk F) λ ρ v g=>g
  |true=>exact fin _ (dk F) λ ρ v g=>.dh (.cons g (.cons (.lit _) .nil))
 .have⟨j,hj,U⟩:=nS U;have⟨z,F,G⟩:=alU (EO.tt _ _ hj) U;have fin:∀(av:J),r=.val av H->(∀(ρ:bh) v,Rl ρ z v->Rl ρ av (if ex then .tuple #[v,.bool false]else v))->Ro P E s o H r:=by intro av eM n;refine⟨av,eM,λ w0 ρ H2 w a Q hr ct=>?_⟩;have⟨es,D,u,_,X⟩:=Ra w0 ρ H2 w a Q hr ct;have⟨zv,W,VV⟩:=G ρ w;have:=X zv (Pp es 0 (Gi D u O)) W;exact⟨_,this,n ρ _ VV⟩
  cases ex with
  |false=>exact fin _ (dk F) λ ρ v g=>g
  |true=>exact fin _ (dk F) λ ρ v g=>.dh (.cons g (.cons (.lit _) .nil))
def anW(ts:List aS)(args:AU):rL E .len ts args H=match ts,args with|[t],[x]=>aN E t x H|_,_=>.er [77]:=by unfold rL;rcases ts with _|⟨t,_|⟨t',ts⟩⟩<;>rcases args with _|⟨x,_|⟨y,l⟩⟩<;>rfl
def akw{l:List α}(h:JX l H=.ok r):r=.val (.lit (.int .i64 l.length)) H:=by unfold JX at h;rw[ux]at h;exact dk h
def Ib{a:Array α}{l:List α}(h:a.toList=l):a=l.toArray:=by rw[<-h]
def aD0(X:eW P E){args:Array dy}(D:o.op=.call {callee:=.builtin .len,args:=args,argTypes:=ts})(h:bw E s (.call {callee:=.builtin .len,args:=args,argTypes:=ts}) H=.ok r):Ro P E s o H r:=by
 unfold bw at h
 dsimp only at h
 replace h:=BY h;obtain⟨I,J,h⟩:=h
 rw[anW]at h
 have key:∃t x,ts.toList=[t]/\I=[x]/\aN E t x H=.ok r:=by
  split at h
  .rename_i e;exact⟨_,_,e,rfl,h⟩
  .cases h
 clear h
 obtain⟨t,x,A4,rfl,h⟩:=key
 obtain⟨C,O,Z⟩:=agD J
 have u:args=#[C]:=Ib O
 have B:ts=#[t]:=Ib A4
 unfold aN at h
 replace h:=nS h;obtain⟨i,A,h⟩:=h
 have hu:=(X.tt _ _ A).oH
 have G:∀z∈args.toList,z∈o.op.operands.toList:=by intro z M;simp only[D,Op.operands,Call.operands,yY,b_];exact .inr M
 have F:∀(a:Act) (w:bI) v n,a.eval C=v->(Builtin.len_ #[t] o.type #[v]).run P w=.ok (goInt n) w->(execOp a.eval o).run P w=.ok (.value (.int .i64 n)) w:=by
  intro a w v n p V;rw[NK D,B];have:args.map a.eval=#[v]:=by rw[u];simp[p]
  rw[this];simp only[builtin,cK,V,dD,iL,goInt]
 have pu:∀n:Nat,r=.val (.lit (.int .i64 n)) H->(∀(ρ:bh) v w,Rl ρ x v->(Builtin.len_ #[t] o.type #[v]).run P w=.ok (goInt n) w)->Ro P E s o H r:=by intro n hr W;exact⟨_,hr,λ w0 ρ H2 w a _ _ c=>⟨_,F a w _ n rfl (W ρ _ w (c.ev Z (G _ (by simp[u])))),.lit _⟩⟩
 split at h
 .rename_i hd
  rw[hd]at hu;refine pu _ (dk h) λ ρ v w g=>?_;obtain⟨b,sh,N,c,_,_,_,_,_,_,rfl⟩:=g.rT;simp[Builtin.len_,dR hu]
 .rename_i hd
  rw[hd]at hu;refine pu 0 (dk h) λ ρ v w g=>?_;obtain⟨b,c,rfl⟩:=g.EY;simp[Builtin.len_,dR hu]
 .rename_i hd
  rw[hd]at hu;refine pu _ (dk h) λ ρ v w g=>?_;rw[g.fI];simp[Builtin.len_,dR hu]
 .rename_i str hd
  rw[hd]at hu;refine pu _ (akw h) λ ρ v w g=>?_;rw[g.fI];rw[show str.data.toList.length=str.size from rH];simp[Builtin.len_,dR hu]
 .rename_i hd
  rw[hd]at hu;refine pu 0 (dk h) λ ρ v w g=>?_;rw[g.fI];simp[Builtin.len_,dR hu]
 .rename_i kt et id hd
  rw[hd]at hu;replace h:=oB h;obtain⟨o',U,h⟩:=h;split at h
  .rename_i GW c l;refine⟨_,akw h,λ w0 ρ H2 w a Q hr ct=>⟨_,F a w _ l.length rfl ?_,.lit _⟩⟩;obtain⟨b,sh,N,es,hb,p,L,T,_⟩:=hr.JB (Q _ _ U) (ct.ev Z (G _ (by simp[u])));rw[p,T.length];simp[Builtin.len_,dR hu,cK,getObj,Sem.run,L,Result.andThen]
  .cases h
 .rename_i n e hd
  rw[hd]at hu;refine pu _ (dk h) λ ρ v w g=>?_;simp[Builtin.len_,dR hu]
 .cases h
end
def Al(P:e8)(E:aK)(s:CX)(o:Oper)(H:D)(r:dS):Prop:=
 ∃av ob H',r=.val av H'/\uO H ob H'/\ob.Dh=false/\∀ρ a w,Ctx E ρ s a o.op->ρ H.ab=none->∃x N v,(execOp a.eval o).run P w=.ok (.value v) (w.alloc x)/\
  OR E (ρ.add H.ab (w.heap.size,0,N)) ob 0 N (some x)/\Rl (ρ.add H.ab (w.heap.size,0,N)) av v
def TR(ρ:bh)(n:Nat)(t:CX)(M:Array aC):Prop:=M.size=n/\∀(i:Nat) av,i<n->t.get i=some av->∃v,M[i]?=some v/\Rl ρ av v
section
variable{P:e8}{E:aK}{s:CX}{o:Oper}{H:D}{r:dS}{ρ:bh}
def TR.mono{bM:bh}{n:Nat}{t:CX}{M:Array aC}(h:TR ρ n t M)(Z:Am ρ bM):TR bM n t M:=⟨h.1,λ i av A e=>let⟨v,a,b⟩:=h.2 i av A e;⟨v,a,b.mono Z⟩⟩
def TR.or(h:TR ρ b t' l')(e:aS):OR E ρ (.cells b t' false) 0 b (some (.cells l' e)):=⟨l',e,(0,0),rfl,h.1,ω,λ _=>rfl,λ i av A g=>by rw[mQ];exact h.2 i av A g,λ _=>rfl⟩
def ale(g:cA ρ l l'.toList)(n:∀j,t'.get j=if 0<=j/\j<0+l.length then l[j-0]? else(Tr.e:CX).get j):TR ρ l.length t' l':=by have p:=g.length;refine⟨by simpa using p.symm,λ i av A h=>?_⟩;rw[n,aq ω]at h;have⟨v,O,U⟩:=g.get h;exact⟨v,by simpa using O,U⟩
def amQ(C:eW P E)(p:o.op=.alloc src)(h:bw E s (.alloc src) H=.ok r):Al P E s o H r:=by
 unfold bw at h;dsimp only at h;have⟨i,A,h⟩:=nS h;have⟨t',n,h⟩:=sd h;have⟨H',B,h⟩:=vP h;have ay:=C.tt _ _ A;refine⟨_,_,H',dk h,B,rfl,λ ρ a w c u=>?_⟩;have⟨zv,g,D,_⟩:=ay.adR w;have z:cA ρ i.zero zv.cells.toList:=by rw[D];exact RI _
 have e:=ale z n;rw[ay.len]at e;refine⟨.cells zv.cells src,i.size,.pointer (some ⟨w.heap.size,0,none⟩),?_,(e.mono (bh.sk u)).or src,?_⟩
 .simp[execOp,p,Instr.alloc,g,newVar,newRow,cK]
 .exact .ptr (s:=0) (bh.uY _ _ _)
def amR(e:o.op=.box src x)(h:bw E s (.box src x) H=.ok r):Al P E s o H r:=by
 unfold bw at h;dsimp only at h;have⟨v,n,h⟩:=gO h;rw[ux]at h;have⟨B,h⟩:=db h;have⟨t',p,h⟩:=sd h;have⟨H',A,h⟩:=vP h;refine⟨_,_,H',dk h,A,rfl,λ ρ a w c u=>?_⟩;have hr:=c.ev n (by simp[e,Op.operands]);have z:=(O9 hr B).1;have g:=ale z p;refine⟨.cells (a.eval x).cells src,(cellsOf v).length,.pointer (some ⟨w.heap.size,0,none⟩),?_,(g.mono (bh.sk u)).or src,?_⟩
 .simp[execOp,e,Instr.box,newVar,newRow]
 .exact .ptr (s:=0) (bh.uY _ _ _)
def amT(B:eW P E)(g:o.op=.makeMap src lo)(h:bw E s (.makeMap src lo) H=.ok r):Al P E s o H r:=by
 unfold bw at h;dsimp only at h;have⟨i,A,h⟩:=nS h;have hu:=(B.tt _ _ A).oH;split at h
 .rename_i kt D hd;rw[hd]at hu;have⟨n,p,h⟩:=F5 h;have⟨ks,z,h⟩:=oY h;have⟨H',u,h⟩:=vP h;refine⟨_,_,H',dk h,u,rfl,λ ρ a w c C=>?_⟩;refine⟨.map #[] 0,0,.map (some w.heap.size),?_,⟨#[],rfl,⟨ks,z,ζ⟩,.nil⟩,.map (bh.uY _ _ _)⟩;rcases p with⟨rfl,_⟩|⟨y,j,rfl,G⟩
  .simp[execOp,g,Instr.makeMap]
  .have e:=Fj (c.ev G (by simp[g,Op.operands]));simp[execOp,g,Instr.makeMap,cK,dR hu,e,asInt,asIntOf]
 .cases h
def alf{j:TI}(ay:pE P src j){n:Nat}(D:∀k,t'.get k=if 0<=k/\k<0+n*j.size then j.zero[(k-0)%j.size]? else(Tr.e:CX).get k)(ρ:bh)(w:bI):∃(zv:aC) (p:Array aC),(zeroValue src).run P w=.ok zv w/\((n*j.size=0/\p=#[])\/(n*j.size≠0/\p=zv.cells))/\TR ρ (n*j.size) t' ((Array.range (n*j.size)).map (λ x=>p[x%p.size]!)):=by
 have⟨zv,B,C,_⟩:=ay.adR w
 have F:zv.cells.size=j.size:=by have:=ay.len;rw[C]at this;simpa using this
 by_cases u:n*j.size=0
 .exact⟨zv,#[],B,.inl ⟨u,rfl⟩,ζ,λ i av A=>ω⟩
 .refine⟨zv,zv.cells,B,.inr ⟨u,rfl⟩,ζ,λ i av A g=>?_⟩
  rw[D,aq ω,C,y']at g;have G:i%j.size<j.size:=H8 _ (by rcases ze j.size with h|h;(rw[h]at u;simp at u);exact h);simp only[Ax,pG]at g;have z:i%j.size<zv.cells.size:=ω
  rw[HO z]at g;simp only[xy,zi]at g;subst g;refine⟨zv.cells[i%j.size],?_,.lit _⟩;simp only[aeW];rw[aeY,aq A];simp only[xy,F];rw[FZ zv.cells _ z]
def alQ{n:Nat}(h:n<=9223372036854775807):IntKind.i64.wrap (n:Int)=n:=IntWalk.i64_in _ ω
def amU(I:eW P E)(p:o.op=.makeSlice src x y)(h:bw E s (.makeSlice src x y) H=.ok r):Al P E s o H r:=by
 unfold bw at h;dsimp only at h;have⟨lv,T,h⟩:=gO h;replace h:=G9 h;obtain⟨j1,n,rfl,h⟩:=h;have⟨cv,En,h⟩:=gO h;replace h:=G9 h;obtain⟨j2,c,rfl,h⟩:=h;unfold Wv at h;have⟨i,e,j,A,hd,Z,h⟩:=Lk h;have⟨O,h⟩:=db h;have⟨U,h⟩:=db h;have⟨F,h⟩:=db h;have ay:=I.tt _ _ Z;have hu:P.underlying src=some (.slice e):=by have:=(I.tt _ _ A).oH;rwa[hd]at this
 have⟨t',W,h⟩:=W_ ay.len h;have⟨H',hA,h⟩:=vP h;have fj:c<=9223372036854775807:=by simpa[kC]using O
 have fR:j.bytes*c<=140737488355328:=by simpa[kC,mul_eq]using U
 have M:n<=c:=by simpa[kC]using F
 refine⟨_,_,H',dk h,hA,rfl,λ ρ a w ct X=>?_⟩;have e1:=Fj (ct.ev T (by simp[p,Op.operands]));have e2:=Fj (ct.ev En (by simp[p,Op.operands]));have⟨zv,D,V,g,J⟩:=alf (n:=c) ay W ρ w;have⟨G,Jm,aIu,C⟩:=ay.aD8 w;refine⟨.cells ((Array.range (c*j.size)).map (D[·%D.size]!)) e,c*j.size,.slice (some ⟨w.heap.size,0,none⟩) n c,?_,(J.mono (bh.sk X)).or e,?_⟩
 .have Q:=alQ (n:=n) ω;have EW:=alQ fj;have L6:¬((281474976710656:Int)<(G.bytes:Int)*(c:Int)):=by rw[C];have:((j.bytes*c:Nat):Int)<=140737488355328:=Int.ofNat_le.2 fR;rw[Int.natCast_mul]at this;omega
  have C':¬((n:Int)<0):=ω
  have L:¬((c:Int)<0):=ω
  have u:¬((c:Int)<(n:Int)):=ω
  unfold execOp;simp only[p,e1,e2,Instr.makeSlice,cK,dR hu,dD,asInt,asIntOf,iL,Jm,Q,EW];have Qn:((decide ((c:Int)<0)||decide ((G.bytes:Int)*(c:Int)>2^48))||decide ((n:Int)<0)||decide ((n:Int)>(c:Int)))=false:=by simp only[HQ,Th];have B:(2:Int)^48=281474976710656:=rfl;exact⟨⟨⟨L,by rw[B];exact L6⟩,C'⟩,u⟩
  simp only[Qn,uZ,n_,cK,run_askRoom,dD,ay.wZ w,Kw];rcases g with⟨z,rfl⟩|⟨z,rfl⟩
  .simp only[z,qk,cK,iL,dD,newRow,run_newObj_alloc]
  .simp only[z,n_,cK,iL,dD,newRow,run_newObj_alloc,V]
 .exact .sl (s:=0) (bh.uY _ _ _) (λ _=>rfl) aF M ζ (by unfold maxLen;omega)
def aqh:∀(parts:List (Nat×dy)) (t:CX) (k:CX->R dS) (q:dS),ID E s b N parts t k=.ok q->
 ∃t',k t'=.ok q/\∀(ρ:bh) (a:Act),(∀p∈parts,∀v,Ev E s p.2 v->Rl ρ v (a.eval p.2))->∀M:Array aC,TR ρ (N*b) t M->
  ∃out,Instr.fill (λ i=>some (i*b,b)) M (parts.map λ p=>(p.1,a.eval p.2))=some out/\TR ρ (N*b) t' out:=by
 intro parts
 induction parts with
 |nil=>intro t k q h;exact⟨t,h,λ ρ a _ M g=>⟨M,rfl,g⟩⟩
 |cons p parts X=>
  intro t k q h
  unfold ID at h
  rw[qA]at h
  have⟨i,x⟩:=p
  dsimp only at h
  have⟨v,Z,h⟩:=gO h
  rw[ux]at h
  have⟨I,h⟩:=db h
  have⟨gu,h⟩:=db h
  have⟨J,h⟩:=db h
  have⟨t1,A3,h⟩:=sd h
  have Jj:(cellsOf v).length=b:=by simpa using gu
  have V:i<N:=by rw[tK]at J;exact J
  have⟨t',Q,e⟩:=X _ _ _ h
  refine⟨t',Q,λ ρ a G M g=>?_⟩
  have D:Rl ρ v (a.eval x):=G (i,x) ζ v Z
  have⟨A,_⟩:=O9 D I
  have z:=Zv D I
  have hmul:i*b+b<=N*b:=by rw[<-ve];exact nW _ V
  have L:i*b+(a.eval x).cells.size<=M.size:=by rw[g.1,<-z,Jj];exact hmul
  have UY:=agH (i*b) (a.eval x).cells M L
  have W:TR ρ (N*b) t1 ((a.eval x).cells.zipIdx.foldl (λ (M:Array aC) (p:aC×Nat)=>M.setIfInBounds (i*b+p.2) p.1) M):=by
   have⟨T,ES⟩:=Z9 (i*b) (a.eval x).cells.toList 0 M (by simpa using L);have C:(a.eval x).cells.zipIdx.foldl (λ (M:Array aC) (p:aC×Nat)=>M.setIfInBounds (i*b+p.2) p.1) M=((a.eval x).cells.toList.zipIdx 0).foldl (λ (M:Array aC) (p:aC×Nat)=>M.setIfInBounds (i*b+p.2) p.1) M:=by rw[<-Yh,ae0]
   rw[C];refine⟨by rw[T];exact g.1,λ m av B n=>?_⟩;rw[A3,mul_eq]at n;have F:=ES m;simp only[xx,rH]at F;rw[F];by_cases u:i*b<=m/\m<i*b+(cellsOf v).length
   .rw[aq u]at n;rw[aq (by rw[<-z];exact u)];exact A.get n
   .rw[ao u]at n;rw[ao (by rw[<-z];exact u)];exact g.2 m av B n
  have⟨out,O,U⟩:=e ρ a (λ p hp=>G p (by simp[hp])) _ W
  refine⟨out,?_,U⟩
  simp only[kB,Instr.fill]
  rw[ao ξ]
  exact O
def amS(I:eW P E){parts:Array (Nat×dy)}(G:o.op=.buildSlice src b parts)(h:bw E s (.buildSlice src b parts) H=.ok r):Al P E s o H r:=by
 unfold bw at h;dsimp only at h;have⟨i,e,j,A,hd,V,h⟩:=Lk h;have⟨D,h⟩:=db h;have⟨O,h⟩:=db h;have Z:b<=9223372036854775807:=by simpa[kC]using D
 have ay:=I.tt _ _ V;have hu:P.underlying src=some (.slice e):=by have:=(I.tt _ _ A).oH;rwa[hd]at this
 have⟨t0,T,h⟩:=W_ ay.len h;have⟨t',h,g⟩:=aqh _ _ _ _ h;have⟨H',X,h⟩:=vP h;have fj:b*j.size<=16777216:=by simpa[kC,mul_eq]using O
 refine⟨_,_,H',dk h,X,rfl,λ ρ a w ct U=>?_⟩;have⟨zv,F,M,B,J⟩:=alf (n:=b) ay T ρ w;have EE:∀p∈parts.toList,p.2∈o.op.operands.toList:=by intro p C;simp only[G,Op.operands,jn];exact⟨p,C,rfl⟩
 have⟨out,W,L⟩:=g ρ a (λ p C v Q=>ct.ev Q (EE p C)) _ J;refine⟨.cells out e,b*j.size,.slice (some ⟨w.heap.size,0,none⟩) b b,?_,(L.mono (bh.sk U)).or e,?_⟩
 .have z:Instr.fill (λ i=>some (i*j.size,j.size)) ((Array.range (b*j.size)).map (F[·%F.size]!)) (parts.map λ (i,x)=>(i,a.eval x)).toList=some out:=by rw[<-W];congr 1;simp
  have L6:¬(b*j.size>2^24):=ω
  unfold execOp;simp only[G,Instr.buildSlice,cK,dR hu,dD,ay.wZ w,L6,n_];rcases B with⟨u,rfl⟩|⟨u,rfl⟩
  .rw[u]at z;simp only[u,qk,cK,iL,dD,newRow,run_newObj_alloc,z]
  .simp only[u,n_,cK,iL,dD,newRow,run_newObj_alloc,M,z]
 .exact .sl (s:=0) (bh.uY _ _ _) (λ _=>rfl) aF aF ζ (by unfold maxLen;omega)
end
section
variable{P:e8}{E:aK}{s:CX}{o:Oper}{H:D}{r:dS}
def Wr(P:e8)(E:aK)(s:CX)(o:Oper)(H:D)(r:dS):Prop:=
 ∀w0 ρ w a,HR E w0 ρ H w->Ctx E ρ s a o.op->∃av H' v w' bM,r=.val av H'/\((execOp a.eval o).run P w=.ok (.value v) w'\/((execOp a.eval o).run P w=.ok .skip w'/\v=undef))/\
  Rl bM av v/\HR E w0 bM H' w'/\cV ρ H bM H'
def nU.refl(H:D):nU H H:=λ _ _ h=>h
def Ro.wr(h:Ro P E s o H r):Wr P E s o H r:=by have⟨av,hr,h⟩:=h;intro w0 ρ w a e c;have⟨v,O,U⟩:=h w0 ρ H w a (nU.refl H) e c;exact⟨av,H,v,w,ρ,hr,.inl O,U,e,cV.refl _ _⟩
def HR.gl(h:HR E w0 ρ H w):Gl E ρ:=h.vo
def Al.wr(h:Al P E s o H r):Wr P E s o H r:=by have⟨av,ob,H',hr,g,u,h⟩:=h;intro w0 ρ w a e c;have⟨x,N,v,O,U,F⟩:=h ρ a w c e.fresh;have⟨p,n⟩:=e.alloc g U;exact⟨av,H',v,w.alloc x,_,hr,.inl O,F,p,n⟩
def aGR(A:eW P E)(e:o.op=.store src x y)(h:bw E s (.store src x y) H=.ok r):Wr P E s o H r:=by unfold bw at h;dsimp only at h;have⟨av,p,h⟩:=gO h;have⟨bv,g,h⟩:=gO h;intro w0 ρ w a n c;have⟨B,w',H',z,u,O,U,F⟩:=HR.store A n h (c.ev p (by simp[e,Op.operands])) (c.ev g (by simp[e,Op.operands]));refine⟨_,H',undef,w',ρ,dk F,.inr ⟨?_,rfl⟩,.lit _,O,U⟩;simp only[execOp,e,z,Instr.storeAt,Instr.sureAddr,cK,iL,dD,u]
theorem adx{β:Type}{c:Nat}{key:aC}{v:J}{q:β}:∀{l:List AE} {k:Nat->List AE->R β},ND c key v l k=.ok q->(∃pre e post,l=pre++e::post/\(∀x∈pre,c8 x.k key=false)/\c8 e.k key=true/\k c (pre++⟨key,e.b,v⟩::post)=.ok q)\/((∀x∈l,c8 x.k key=false)/\k (c+1) (l++[⟨key,c,v⟩])=.ok q)
 |[],k,h=>by
  have g:d_ (Nat.succ c) (λ c'=>k c' [⟨key,c,v⟩])=.ok q:=h
  rw[mr]at g
  exact .inr ⟨ζ,g⟩
 |e::l,k,h=>by
  have⟨x,b,u⟩:=e
  have g:aB (ND c key v l λ c' r=>k c' (⟨x,b,u⟩::r)) (k c (⟨key,b,v⟩::l)) (c8 x key)=.ok q:=h
  cases Z:c8 x key with
  |true=>rw[Z]at g;exact .inl ⟨[],⟨x,b,u⟩,l,rfl,ζ,Z,g⟩
  |false=>
   rw[Z]at g
   rcases adx (l:=l) g with⟨pre,e,post,rfl,O,U,F⟩|⟨O,U⟩
   .exact .inl ⟨⟨x,b,u⟩::pre,e,post,rfl,λ y G=>by rcases cZ.1 G with rfl|G;exact Z;exact O y G,U,F⟩
   .exact .inr ⟨λ y G=>by rcases cZ.1 G with rfl|G;exact Z;exact O y G,U⟩
theorem agc{β:Type}{key:aC}{q:β}:∀{l:List AE} {k:List AE->R β},Pd key l k=.ok q->(∃pre e post,l=pre++e::post/\(∀x∈pre,c8 x.k key=false)/\c8 e.k key=true/\k (pre++post)=.ok q)\/((∀x∈l,c8 x.k key=false)/\k l=.ok q)
 |[],k,h=>.inr ⟨ζ,h⟩
 |e::l,k,h=>by
  have⟨x,b,u⟩:=e
  have g:aB (Pd key l λ r=>k (⟨x,b,u⟩::r)) (k l) (c8 x key)=.ok q:=h
  cases Z:c8 x key with
  |true=>rw[Z]at g;exact .inl ⟨[],⟨x,b,u⟩,l,rfl,ζ,Z,g⟩
  |false=>
   rw[Z]at g
   rcases agc (l:=l) g with⟨pre,e,post,rfl,O,U,F⟩|⟨O,U⟩
   .exact .inl ⟨⟨x,b,u⟩::pre,e,post,rfl,λ y G=>by rcases cZ.1 G with rfl|G;exact Z;exact O y G,U,F⟩
   .exact .inr ⟨λ y G=>by rcases cZ.1 G with rfl|G;exact Z;exact O y G,U⟩
theorem WB{α:Type}(f:α->α):∀(pre:List α) (e:α) (post:List α),(pre++e::post).modify pre.length f=pre++f e::post
 |[],_,_=>rfl
 |x::pre,e,post=>by
  simp only[Ov,qi,List.modify_succ_cons]
  rw[WB f pre e post]
def F2.ag7{l l2:List α}{m m2:List γ}{a:α}{b:γ}(O:F2 S l m)(h:S a b)(U:F2 S l2 m2):F2 S (l++a::l2) (m++b::m2):=O.append (.cons h U)
def HR.JR(hr:HR E w0 ρ H w){l l':List AE}{es:Array MapEntry}(A:ρ ax=some (b,sh,N))(g:H.t.get ax=some (.map kt c l))(hw:w.heap[b]?=some (.map es c))(h:tG H ax (some (.map kt c' l')) H2)(n:F2 (ER ρ) l' gM.toList)(Q:∃ks,E.ky.get kt=some ks/\∀e∈l',KP ks e.k):HR E w0 ρ H2 {w with heap:=w.heap.setIfInBounds b (.map gM c')}/\cV ρ H ρ H2:=by
 refine hr.XE A g rfl rfl h ?_ ζ (λ k Q=>?_) rfl rfl rfl
 .rw[show({w with heap:=w.heap.setIfInBounds b (.map gM c')}:bI).heap[b]?=some (.map gM c')from by show(w.heap.setIfInBounds b (.map gM c'))[b]?=_;rw[HP,aq rfl,aq (DZ hw)]]
  exact⟨gM,rfl,Q,n⟩
 .show(w.heap.setIfInBounds b (.map gM c'))[k]?=_
  rw[HP,ao (λ e=>Q e.symm)]
def aEb{D:aS}{t:aS}{K:aC->Prop}(h:Oc P kt K)(p:P.underlying t=some (.map kt D)){b:Nat}{es:Array MapEntry}(n:w.heap[b]?=some (.map es c))(C:∀e∈es.toList,K e.key){key:aC}(Q:K key)(v:aC):(∀pre e post,es.toList=pre++e::post->(∀x∈pre,x.key≠key)->e.key=key->∃gM,gM.toList=pre++{e with key:=key,val:=v}::post/\(Instr.mapUpdate t (.map (some b)) key v).run P w=.ok () {w with heap:=w.heap.setIfInBounds b (.map gM c)})/\
 ((∀x∈es.toList,x.key≠key)->∃gM,gM.toList=es.toList++[{key:=key,val:=v,born:=c}]/\
   (Instr.mapUpdate t (.map (some b)) key v).run P w=.ok () {w with heap:=w.heap.setIfInBounds b (.map gM (c+1))}):=by
 have u:=h.find key es.toList w Q C
 constructor
 .intro pre e post O U F
  have g:=Po pre e post 0 U F;rw[<-O]at g;have z:es[pre.length]?=some e:=by rw[<-pG,O,mi aF];simp
  refine⟨es.modify pre.length λ e=>{e with key:=key,val:=v},by rw[Yo,O,WB],?_⟩;unfold Instr.mapUpdate;simp only[cK,dR p,dD,getObj,Sem.run,n,h.check _ _ _ Q,u,g];have A:Instr.sameBits 10000 e.key key=true:=by rw[F];exact h.same _ Q
  simp[Instr.keyThatStays,z,A,setObj,Sem.run,n]
 .intro B
  have g:=Pp es.toList 0 B;refine⟨es.push {key:=key,val:=v,born:=c},ζ,?_⟩;unfold Instr.mapUpdate;simp[cK,dR p,getObj,Sem.run,n,h.check _ _ _ Q,u,g,setObj,Result.andThen]
def alP(EO:eW P E){t:aS}{z:dy}(g:o.op=.mapUpdate t x y z\/o.op=.insert t x y z)(h:bw E s (.mapUpdate t x y z) H=.ok r):Wr P E s o H r:=by
 unfold bw at h;dsimp only at h;have⟨m,B,h⟩:=gO h;have⟨kv,dG,h⟩:=gO h;have⟨v,hv,h⟩:=gO h;unfold N4 at h;split at h
 .rename_i id;have⟨i,kt,et,c,l,A,hd,h,hl⟩:=Ww h;obtain⟨_,e0,V⟩:=hl.resolve_left (by rintro⟨e,_⟩;cases e);cases e0;have⟨ks,key,u,I,h,vA⟩:=M8 h;have hu:P.underlying t=some (.map kt et):=by have:=(EO.tt _ _ A).oH;rwa[hd]at this
  have KO:=(EO.ky _ _ u).ko;intro w0 ρ w a L ct;have Z:x∈o.op.operands.toList:=by rcases g with g|g<;>simp[g,Op.operands]
  have G:y∈o.op.operands.toList:=by rcases g with g|g<;>simp[g,Op.operands]
  have hz:z∈o.op.operands.toList:=by rcases g with g|g<;>simp[g,Op.operands]
  have e2:=vA ρ _ (ct.ev dG G);have e3:=ct.ev hv hz;obtain⟨b,sh,N,es,hb,e1,J,p,Wb,X,n⟩:=L.JB V (ct.ev B Z);rw[u]at X;cases X;obtain⟨R1,R2⟩:=aEb (P:=P) KO hu J (TW p n) I (a.eval z);have qQ:∀w',(Instr.mapUpdate t (.map (some b)) key (a.eval z)).run P w=.ok () w'->(execOp a.eval o).run P w=.ok .skip w':=by intro w' EV;rcases g with g|g<;>simp[execOp,g,e1,e2,EV]
  rcases adx h with⟨pre,e,post,rfl,O,U,F⟩|⟨O,U⟩
  .have⟨H',M,F⟩:=rk F;obtain⟨nQ,e',uD,sF,f1,f2,f3⟩:=p.split;have Je:=Gi f1 (λ x Z=>n x (by simp[Z])) O;have Es:e'.key=key:=by rw[f2.1];exact Gg U
   obtain⟨gM,D,C⟩:=R1 nQ e' uD sF Je Es;have W:F2 (ER ρ) (pre++⟨key,e.b,v⟩::post) gM.toList:=by rw[D];exact f1.ag7 ⟨rfl,f2.2.1,e3⟩ f3
   obtain⟨T,Q⟩:=L.JR hb V J M W ⟨ks,u,λ e he=>by
    simp only[b_,cZ]at he;rcases he with he|rfl|he
    .exact n e (by simp[he])
    .exact I
    .exact n e (by simp[he])⟩
   exact⟨_,H',undef,_,ρ,dk F,.inr ⟨qQ _ C,rfl⟩,.lit _,T,Q⟩
  .have⟨H',M,U⟩:=rk U;obtain⟨gM,D,C⟩:=R2 (Gi p n O);have W:F2 (ER ρ) (l++[⟨key,c,v⟩]) gM.toList:=by rw[D];exact p.append (.cons ⟨rfl,rfl,e3⟩ .nil)
   obtain⟨T,Q⟩:=L.JR hb V J M W ⟨ks,u,λ e he=>by
    simp only[b_,jo]at he;rcases he with he|rfl
    .exact n e he
    .exact I⟩
   exact⟨_,H',undef,_,ρ,dk U,.inr ⟨qQ _ C,rfl⟩,.lit _,T,Q⟩
 .cases h
def anV(ts:List aS)(args:AU):rL E .delete ts args H=match ts,args with|t::_,[m,x]=>Pc E t m x H|_,_=>.er [77]:=by unfold rL;rcases ts with _|⟨t,_|⟨t',ts⟩⟩<;>rcases args with _|⟨x,_|⟨y,_|⟨z,l⟩⟩⟩<;>rfl
def aGO(EO:eW P E){args:Array dy}(ho:o.op=.call {callee:=.builtin .delete,args:=args,argTypes:=ts})(h:bw E s (.call {callee:=.builtin .delete,args:=args,argTypes:=ts}) H=.ok r):Wr P E s o H r:=by
 unfold bw at h
 dsimp only at h
 have⟨vs,kL,h⟩:=BY h
 rw[anV]at h
 have key:∃t NY m x,ts.toList=t::NY/\vs=[m,x]/\Pc E t m x H=.ok r:=by
  split at h
  .rename_i e;exact⟨_,_,_,_,e,rfl,h⟩
  .cases h
 clear h
 obtain⟨t,NY,m,kv,A4,rfl,h⟩:=key
 obtain⟨ox,oy,hl,Z,G⟩:=T_ kL
 have T:args=#[ox,oy]:=Ib hl
 have De:ts[0]?=some t:=by rw[<-pG,A4];rfl
 have bP:∀z∈args.toList,z∈o.op.operands.toList:=by intro z hz;simp only[ho,Op.operands,Call.operands,yY,b_];exact .inr hz
 unfold Pc at h
 split at h
 .rename_i id
  have⟨i,kt,et,c,l,A,hd,h,lR⟩:=Ww h;obtain⟨_,e0,V⟩:=lR.resolve_left (by rintro⟨e,_⟩;cases e);cases e0;have⟨ks,key,C,D,h,vA⟩:=M8 h;have hu:P.underlying t=some (.map kt et):=by have:=(EO.tt _ _ A).oH;rwa[hd]at this
  have X:=(EO.ky _ _ C).ko;intro w0 ρ w a I ct;have e2:=vA ρ _ (ct.ev G (bP _ (by simp[T])));obtain⟨b,sh,N,es,hb,e1,p,B,Wb,wG,g⟩:=I.JB V (ct.ev Z (bP _ (by simp[T])));rw[C]at wG;cases wG;have hf:=X.find key es.toList w D (TW B g);have qQ:∀w',(Builtin.delete_ ts o.type #[.map (some b),key]).run P w=.ok (.tuple #[]) w'->(execOp a.eval o).run P w=.ok (.value (.tuple #[])) w':=by
   intro w' EV;rw[NK ho];have:args.map a.eval=#[.map (some b),key]:=by rw[T];simp[e1,e2]
   rw[this];simp only[builtin,cK,EV,dD,iL]
  rcases agc h with⟨pre,e,post,rfl,O,U,F⟩|⟨O,U⟩
  .have⟨H',J,F⟩:=rk F;obtain⟨n,e',uD,sF,f1,f2,f3⟩:=B.split;have Je:=Gi f1 (λ x Z=>g x (by simp[Z])) O;have Es:e'.key=key:=by rw[f2.1];exact Gg U
   have u:=Po n e' uD 0 Je Es;rw[<-sF]at u;have Q:(Builtin.delete_ ts o.type #[.map (some b),key]).run P w=.ok (.tuple #[]) {w with heap:=w.heap.setIfInBounds b (.map (es.eraseIdxIfInBounds n.length) c)}:=by unfold Builtin.delete_;simp[De,dR hu,cK,getObj,setObj,Sem.run,p,X.check _ _ _ D,hf,u,Result.andThen]
   have W:(es.eraseIdxIfInBounds n.length).toList=n++uD:=by rw[Array.toList_eraseIdxIfInBounds,sF,List.eraseIdx_append_of_length_le aF];simp
   obtain⟨M,L⟩:=I.JR hb V p J (by rw[W];exact f1.append f3) ⟨ks,C,λ x Z=>by simp only[b_]at Z;rcases Z with Z|Z<;>exact g x (by simp[Z])⟩;exact⟨_,H',_,_,ρ,dk F,.inl (qQ _ Q),.lit _,M,L⟩
  .have⟨H',J,U⟩:=rk U;have u:=Pp es.toList 0 (Gi B g O);have Q:(Builtin.delete_ ts o.type #[.map (some b),key]).run P w=.ok (.tuple #[]) {w with heap:=w.heap.setIfInBounds b (.map es c)}:=by unfold Builtin.delete_;simp[De,dR hu,cK,getObj,setObj,Sem.run,p,X.check _ _ _ D,hf,u,Result.andThen]
   obtain⟨M,L⟩:=I.JR hb V p J B ⟨ks,C,g⟩;exact⟨_,H',_,_,ρ,dk U,.inl (qQ _ Q),.lit _,M,L⟩
 .cases h
end
end
end Go.Proofs.YtgipmaoplfkdoaaGreatDoor
