/-
  No cell of these rows narrows 'for every input' (looked for: loops, veiled, ifaces, maps, wideKeys, modest, calm, conditions, laid).
  DERIVED. THE GIVEN ROWS OF THIS SEAT. 5 by the template 'for every input the law returns true; each argument reads behind the call as it read before'; 0 by the template 'total and deterministic' (their statements: YtlbppfdkcaoijaaTotals.lean).
  GIVEN WITH THE SEED: the statements are not yours to turn. If you find one false, say at which input.
  Laid BY PROGRAM, IN A SANDBOX (cutbox-rows.mjs): the forced cells as the released guide's own fill.sh prints them over the translation e07dfdb8c8562b1c… (all of the seat's roots in one cut). By AI agents, Wed Nov 11 2026. No macro, syntax, notation, axiom, sorry.
-/
import Derived.Test.YtlbppfdkcaoijaaChecked
import GoSem.Claim
import GoSem.ClaimJoined
import GoSem.ClaimMapViews
import Derived.JoinedTies
import Derived.KernelRfl
namespace Go.Proofs.Ytlbppfdkcaoijaa
/- THE CELL 'sum', in the pinned program and in every row, IS THE sha256 OF THE DUMP (.gsa) THAT YtlbppfdkcaoijaaProg.lean LOADS. Nothing in Lean hashes anything: it is a label: what it is worth is what the hold of that sum in a sandbox is worth. -/
noncomputable def Try.pinned : Pinned := { name := "ytlbppfdkcaoijaa", sum := "e07dfdb8c8562b1cc183491d94a0d74112311d6311ea3cbae91c24482a2ae9d6", checked := Try.checked }
namespace Rows
def none {H : Type} : Left H := { results := [], args := [] }

/-- 'gnomonlaw02.IdsKinds': WHATEVER THE INPUT: true; the input reads as it did. -/
def idsKindsSpec : ChangeSpec := { name := "idsKinds", fn := fun _ => fun
  | [d] => { results := [.lit (.bool true)], args := [d] }
  | _ => none }
def idsKindsRow : OpenClaim := { program := "ytlbppfdkcaoijaa", sum := "e07dfdb8c8562b1cc183491d94a0d74112311d6311ea3cbae91c24482a2ae9d6", func := "gnomon/gnomonlaw02.IdsKinds", spec := "idsKinds", plainKeys := false, apart := false }
def IdsKindsSaid : Prop := idsKindsRow.holds Try.pinned (OpenSpec.ofChange idsKindsSpec)

/-- ITS FALSE NEIGHBOUR: 'it returns false'. Refute it at one input. -/
def idsKindsWrong : ChangeSpec := { name := "idsKinds", fn := fun _ => fun
  | [d] => { results := [.lit (.bool false)], args := [d] }
  | _ => none }
def IdsKindsWrongFalsely : Prop := idsKindsRow.holds Try.pinned (OpenSpec.ofChange idsKindsWrong)

/-- 'gnomonlaw02.IdsPlays': WHATEVER THE INPUT: true; the input reads as it did. -/
def idsPlaysSpec : ChangeSpec := { name := "idsPlays", fn := fun _ => fun
  | [d1, d2] => { results := [.lit (.bool true)], args := [d1, d2] }
  | _ => none }
def idsPlaysRow : OpenClaim := { program := "ytlbppfdkcaoijaa", sum := "e07dfdb8c8562b1cc183491d94a0d74112311d6311ea3cbae91c24482a2ae9d6", func := "gnomon/gnomonlaw02.IdsPlays", spec := "idsPlays", plainKeys := false, apart := false }
def IdsPlaysSaid : Prop := idsPlaysRow.holds Try.pinned (OpenSpec.ofChange idsPlaysSpec)

/-- ITS FALSE NEIGHBOUR: 'it returns false'. Refute it at one input. -/
def idsPlaysWrong : ChangeSpec := { name := "idsPlays", fn := fun _ => fun
  | [d1, d2] => { results := [.lit (.bool false)], args := [d1, d2] }
  | _ => none }
def IdsPlaysWrongFalsely : Prop := idsPlaysRow.holds Try.pinned (OpenSpec.ofChange idsPlaysWrong)

/-- 'gnomonlaw02.IdsNil': WHATEVER THE INPUT: true; the input reads as it did. -/
def idsNilSpec : ChangeSpec := { name := "idsNil", fn := fun _ => fun
  | [d1, d2] => { results := [.lit (.bool true)], args := [d1, d2] }
  | _ => none }
def idsNilRow : OpenClaim := { program := "ytlbppfdkcaoijaa", sum := "e07dfdb8c8562b1cc183491d94a0d74112311d6311ea3cbae91c24482a2ae9d6", func := "gnomon/gnomonlaw02.IdsNil", spec := "idsNil", plainKeys := false, apart := false }
def IdsNilSaid : Prop := idsNilRow.holds Try.pinned (OpenSpec.ofChange idsNilSpec)

/-- ITS FALSE NEIGHBOUR: 'it returns false'. Refute it at one input. -/
def idsNilWrong : ChangeSpec := { name := "idsNil", fn := fun _ => fun
  | [d1, d2] => { results := [.lit (.bool false)], args := [d1, d2] }
  | _ => none }
def IdsNilWrongFalsely : Prop := idsNilRow.holds Try.pinned (OpenSpec.ofChange idsNilWrong)

/-- 'gnomonlaw02.IdsOne': WHATEVER THE INPUT: true; the input reads as it did. -/
def idsOneSpec : ChangeSpec := { name := "idsOne", fn := fun _ => fun
  | [d] => { results := [.lit (.bool true)], args := [d] }
  | _ => none }
def idsOneRow : OpenClaim := { program := "ytlbppfdkcaoijaa", sum := "e07dfdb8c8562b1cc183491d94a0d74112311d6311ea3cbae91c24482a2ae9d6", func := "gnomon/gnomonlaw02.IdsOne", spec := "idsOne", plainKeys := false, apart := false }
def IdsOneSaid : Prop := idsOneRow.holds Try.pinned (OpenSpec.ofChange idsOneSpec)

/-- ITS FALSE NEIGHBOUR: 'it returns false'. Refute it at one input. -/
def idsOneWrong : ChangeSpec := { name := "idsOne", fn := fun _ => fun
  | [d] => { results := [.lit (.bool false)], args := [d] }
  | _ => none }
def IdsOneWrongFalsely : Prop := idsOneRow.holds Try.pinned (OpenSpec.ofChange idsOneWrong)

/-- 'gnomonlaw02.IdsAgain': WHATEVER THE INPUT: true; the input reads as it did. -/
def idsAgainSpec : ChangeSpec := { name := "idsAgain", fn := fun _ => fun
  | [d1, d2] => { results := [.lit (.bool true)], args := [d1, d2] }
  | _ => none }
def idsAgainRow : OpenClaim := { program := "ytlbppfdkcaoijaa", sum := "e07dfdb8c8562b1cc183491d94a0d74112311d6311ea3cbae91c24482a2ae9d6", func := "gnomon/gnomonlaw02.IdsAgain", spec := "idsAgain", plainKeys := false, apart := false }
def IdsAgainSaid : Prop := idsAgainRow.holds Try.pinned (OpenSpec.ofChange idsAgainSpec)

/-- ITS FALSE NEIGHBOUR: 'it returns false'. Refute it at one input. -/
def idsAgainWrong : ChangeSpec := { name := "idsAgain", fn := fun _ => fun
  | [d1, d2] => { results := [.lit (.bool false)], args := [d1, d2] }
  | _ => none }
def IdsAgainWrongFalsely : Prop := idsAgainRow.holds Try.pinned (OpenSpec.ofChange idsAgainWrong)

/- THE SECOND FORM. 'bulk': how many values and letters a reading holds, each counted each time it is reached (what is shared counts as often as it is met; a slice's spare places count too). A statement '..UptoSaid' is the law's where the arguments, and the package variables that the reading takes, are together of bulk at most 1048576: NARROWER than '..Said'. Prove '..Said' where nothing that the law and all that it calls make is longer than what came in: it says more and counts as full. Else prove '..UptoSaid'. A law counts once. -/
mutual
def uptoBulk {H : Type} : DataW H → Nat
  | .lit (.string bytes) => bytes.length + 1
  | .lit _ => 1
  | .nil => 1
  | .ptr d => uptoBulk d + 1
  | .slice elems spare => uptoBulkAll elems + uptoBulkAll spare + 1
  | .agg parts => uptoBulkAll parts + 1
  | .iface _ d => uptoBulk d + 1
  | .map entries => uptoBulkEntries entries + 1
  | .held _ => 1
def uptoBulkAll {H : Type} : List (DataW H) → Nat
  | [] => 0
  | d :: r => uptoBulk d + uptoBulkAll r
def uptoBulkEntries {H : Type} : List (Lit × DataW H) → Nat
  | [] => 0
  | x :: r => uptoBulkEntry x + uptoBulkEntries r
def uptoBulkEntry {H : Type} : Lit × DataW H → Nat
  | (.string bytes, d) => bytes.length + uptoBulk d + 1
  | (_, d) => uptoBulk d + 1
 end
def uptoSmall : (H : Type) → List (DataW H) → Bool := fun _ ds => decide (uptoBulkAll ds ≤ 1048576)
def OpenSpec.upto (s : _root_.Go.ChangeSpec) : _root_.Go.OpenSpec := { _root_.Go.OpenSpec.ofChange s with cond := some uptoSmall }

/-- 'gnomonlaw02.IdsKinds', WHERE WHAT IT READS IS OF BULK AT MOST 1048576: true; the input reads as it did. -/
def idsKindsUptoRow : OpenClaim := { program := "ytlbppfdkcaoijaa", sum := "e07dfdb8c8562b1cc183491d94a0d74112311d6311ea3cbae91c24482a2ae9d6", func := "gnomon/gnomonlaw02.IdsKinds", spec := "idsKinds", plainKeys := false, apart := false, narrowed := true }
def IdsKindsUptoSaid : Prop := idsKindsUptoRow.holds Try.pinned (OpenSpec.upto idsKindsSpec)

/-- 'gnomonlaw02.IdsPlays', WHERE WHAT IT READS IS OF BULK AT MOST 1048576: true; the input reads as it did. -/
def idsPlaysUptoRow : OpenClaim := { program := "ytlbppfdkcaoijaa", sum := "e07dfdb8c8562b1cc183491d94a0d74112311d6311ea3cbae91c24482a2ae9d6", func := "gnomon/gnomonlaw02.IdsPlays", spec := "idsPlays", plainKeys := false, apart := false, narrowed := true }
def IdsPlaysUptoSaid : Prop := idsPlaysUptoRow.holds Try.pinned (OpenSpec.upto idsPlaysSpec)

/-- 'gnomonlaw02.IdsNil', WHERE WHAT IT READS IS OF BULK AT MOST 1048576: true; the input reads as it did. -/
def idsNilUptoRow : OpenClaim := { program := "ytlbppfdkcaoijaa", sum := "e07dfdb8c8562b1cc183491d94a0d74112311d6311ea3cbae91c24482a2ae9d6", func := "gnomon/gnomonlaw02.IdsNil", spec := "idsNil", plainKeys := false, apart := false, narrowed := true }
def IdsNilUptoSaid : Prop := idsNilUptoRow.holds Try.pinned (OpenSpec.upto idsNilSpec)

/-- 'gnomonlaw02.IdsOne', WHERE WHAT IT READS IS OF BULK AT MOST 1048576: true; the input reads as it did. -/
def idsOneUptoRow : OpenClaim := { program := "ytlbppfdkcaoijaa", sum := "e07dfdb8c8562b1cc183491d94a0d74112311d6311ea3cbae91c24482a2ae9d6", func := "gnomon/gnomonlaw02.IdsOne", spec := "idsOne", plainKeys := false, apart := false, narrowed := true }
def IdsOneUptoSaid : Prop := idsOneUptoRow.holds Try.pinned (OpenSpec.upto idsOneSpec)

/-- 'gnomonlaw02.IdsAgain', WHERE WHAT IT READS IS OF BULK AT MOST 1048576: true; the input reads as it did. -/
def idsAgainUptoRow : OpenClaim := { program := "ytlbppfdkcaoijaa", sum := "e07dfdb8c8562b1cc183491d94a0d74112311d6311ea3cbae91c24482a2ae9d6", func := "gnomon/gnomonlaw02.IdsAgain", spec := "idsAgain", plainKeys := false, apart := false, narrowed := true }
def IdsAgainUptoSaid : Prop := idsAgainUptoRow.holds Try.pinned (OpenSpec.upto idsAgainSpec)

end Rows
end Go.Proofs.Ytlbppfdkcaoijaa
