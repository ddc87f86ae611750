import Derived.Test.YtgipmaoplfkdoaaGreatDoorJ11e
import Derived.Test.YtgipmaoplfkdoaaGreatDoorM72
import Derived.Test.YtgipmaoplfkdoaaGreatDoorCards
import Derived.Deep.DeepHandedRow
import Derived.Deep.DeepWitnessRowRef
import Derived.Lib.LaidTab
set_option linter.all false
namespace Go.Proofs.YtgipmaoplfkdoaaGreatDoor.wQ
open Go.ChangeShapes Go.WideShapes Go.ChangeAt Go.RowKit
theorem Zq{H:Type}:∀l:List (DataW H),Rows.uptoBulkAll l=(l.map Rows.uptoBulk).sum
 |[]=>by simp[Rows.uptoBulkAll]
 |d::r=>by simp only[Rows.uptoBulkAll,kB,sr,Zq r]
def anZ{H:Type}:BK (Rows.uptoBulk (H:=H))where
 one d:=by cases d with|lit l=>cases l<;>simp[Rows.uptoBulk]|nil=>simp[Rows.uptoBulk]|ptr d=>simp[Rows.uptoBulk]|slice elems spare=>simp[Rows.uptoBulk]|agg parts=>simp[Rows.uptoBulk]|iface t d=>simp[Rows.uptoBulk]|map entries=>simp[Rows.uptoBulk]|held h=>simp[Rows.uptoBulk]
 agg l:=by simp only[Rows.uptoBulk,Zq]
 sl l r:=by simp only[Rows.uptoBulk,Zq];omega
set_option maxRecDepth 100000 in
theorem ao3(H:Type)(enc:TypeId×Value->H)(aA:World)(base:Nat)(args:Array Value)(ds gs:List (DataW H))(before:List MemPlace)(aiw:∀(j:Nat) t v,Tryz.f11.params[j]?=some t->args[j]?=some v->Value.okWide Tryz.prog aA .any base t v)(hW:DataW.Whole enc Tryz.prog Tryz.f11.params.toList Rows.chiJustSpec.vars false aA args.toList ds gs before)(hL:laidMetH Tryz.prog Rows.chiJustUptoRow.laid aA)(aut:Rows.uptoSmall H (ds++gs)=true):Calls Tryz.prog 11 args aA λ e W'=>∃v,e=.returned v/\Rows.chiJustSpec.post enc Tryz.prog Tryz.f11 false true false false aA args v W':=by
 have Vv:∀(j:Nat) t v,Tryz.f11.params[j]?=some t->args[j]?=some v->Value.okWide Tryz.prog aA .any base t v:=aiw
 have hW':=hW
 obtain⟨p,q,hA0,hV,rfl,hfz,ud⟩:=hW
 have hA:DataW.TrodAll enc Tryz.prog aA 0 (λ _=>true) true Tryz.f11.params.toList args.toList ds p:=hA0
 rw[Tryz.params11]at hA Vv
 obtain⟨v0,vs0,d0,ds0,p0,q0,dj,rfl,rfl,h0,r0⟩:=trodAll_cons hA
 obtain⟨rfl,rfl,rfl⟩:=trodAll_nil r0
 obtain rfl:args=#[v0]:=by cases args;simp_all
 obtain⟨rfl,rfl⟩:=trodVars_none hV
 have o0:=Vv 0 24 v0 rfl rfl
 have lt0:∀x∈p0,x.block<aA.heap.size:=by obtain⟨m,B⟩:=h0;exact DataW.trod_lt m _ _ _ B
 obtain⟨M,rfl,hs⟩:=okWide_struct Tryz.underlying24 o0
 have hb:Rows.uptoBulk d0<=1048576:=by have h:=Tj aut;simp only[HU,Rows.uptoBulkAll]at h;omega
 clear hA0 aiw
 have hT:=aGB aA (ajD hL)
 have awv:Calls Tryz.prog 11 #[.agg M] aA λ e w'=>e=.returned (.bool true)/\jG (λ _=>False) aA w':=by
  obtain⟨m,B⟩:=h0;have e:(Value.agg M).cells=M:=by simp[Value.cells]
  rw[e]at B;exact axu anZ (ajD hL) hT (λ E EO hh=>ahQ E aA FC EO hh hT aGA) B hb
 refine awv.mono λ e W' ⟨he,hc⟩=>?_
 have bel:=hc.below
 subst he
 exact⟨_,rfl,_,_,_,[],_,[],hW',trodAll_mk1 (shut_bool Tryz.underlying4 _),(trodAll_cons_mk (Below.trod laidOut κ (Tj κ) h0 bel lt0) trodAll_mk0),rfl,bel.frame _,λ h=>by cases h⟩
set_option maxRecDepth 100000 in
theorem lifted(os:Os)(started:os.Started)(H:Type)(enc:TypeId×Value->H)(au:Stop.Interp):ReturnsInHanded {} Tryz.checked os 11 .any ((Rows.OpenSpec.upto Rows.chiJustSpec).preRow enc Tryz.prog Tryz.f11 Rows.chiJustUptoRow.domain false Rows.chiJustUptoRow.laid) (((Rows.OpenSpec.upto Rows.chiJustSpec).at au).post enc Tryz.prog Tryz.f11 false true false false):=by
 have Z:∃places,DataW.whole enc Tryz.prog ((World.doorLaid Tryz.prog 4000 os).forCall (λ _ _=>0) ⟨#[],#[.agg #[.slice none 0 0]],[]⟩).memory Tryz.f11.params.toList Rows.chiJustSpec.vars false #[Value.agg #[.slice none 0 0]].toList 8=some ([.agg [.nil]],[],places):=⟨[],κ⟩
 obtain⟨places,Z⟩:=Z
 refine returnsInHanded_of_row (C:=Tryz.checked) (s:=Rows.OpenSpec.upto Rows.chiJustSpec) own started κ Tryz.func11 (witness_row_atRef (enc:=enc) (C:=Tryz.checked) false (World.doorLaid Tryz.prog 4000 os) #[.agg #[.slice none 0 0]] rfl κ κ κ (OpenSpec.preRow_of_cond 8 Z κ (λ k Q=>by cases Q;kernel_rfl) κ (api os _))) ?_
 intro aA base args ds gs before Vv hW _ Qn _ hL _ _
 exact ao3 H enc aA base args ds gs before Vv hW hL (Qn _ rfl)
theorem holds:Rows.ChiJustUptoSaid:=OpenClaim.holds_of_cond 11 Tryz.f11 rfl rfl rfl rfl rfl rfl rfl ⟨rfl,rfl,rfl,rfl,rfl⟩ rfl rfl rfl rfl rfl κ Tryz.func11 aw3 (Tj κ) (by unfold Func.isWrapper;first|(rw[aq (by decide+kernel)];kernel_rfl)|(rw[ao (by decide+kernel)];exact⟨rfl,rfl⟩)) (λ os started H enc _ au=>by rw[OpenClaim.pre_eq_preRow];exact lifted os started H enc au)
theorem plain(f:FuncId)(fn:Func)(hf:Tryz.pinned.checked.prog.funcNamed "gnomon/gnomonlaw20.ChiJust" =some f)(iw:Tryz.pinned.checked.prog.funcs[f]?=some fn):false=Tryz.pinned.checked.prog.looks []/\∀(j:Nat) t,fn.params[j]?=some t->Tryz.pinned.checked.prog.wantsStandIn t=false:=by
 obtain rfl:f=11:=FX ((show Tryz.prog.funcNamed "gnomon/gnomonlaw20.ChiJust" =some 11 by kernel_rfl).symm.trans hf)|>.symm
 obtain rfl:fn=Tryz.f11:=(FX (Tryz.func11.symm.trans iw)).symm
 refine⟨axM,λ j t ht=>?_⟩
 rw[Tryz.params11]at ht
 obtain rfl:t=24:=by simpa using Array.mem_of_getElem? ht
 exact(show Tryz.pinned.checked.prog.wantsStandIn 24=false by kernel_rfl)
theorem card:Rows.ChiJustUptoCardSaid:=Claim7.holds_tied_plain_at .later [] _ _ _ _ holds (λ _ h=>by cases h) κ (λ _ h=>by cases h) chiJustUpto_row_tie rfl ⟨rfl,rfl⟩ κ rfl plain goes
end Go.Proofs.YtgipmaoplfkdoaaGreatDoor.wQ
namespace Go.Proofs.YtgipmaoplfkdoaaGreatDoor
theorem chiJust_card_proved:Rows.ChiJustUptoCardSaid:=wQ.card
end Go.Proofs.YtgipmaoplfkdoaaGreatDoor
