/-
  NARROWER THAN 'FOR EVERY INPUT', by the rows' own cells (each row's printed sentence says how): SolveFulfils: laid · SolveGrows: laid · SolveOwn: laid · CallsChain: laid · CallsBoth: laid · ModrefCalls: laid · ModrefNeed: laid · ChiBounds: laid · ChiJust: laid.
  DERIVED. THE GIVEN ROWS OF THIS SEAT. 9 by the template 'for every input the law returns true; each argument reads behind the call as it read before'; 0 by the template 'total and deterministic' (their statements: YtgipmaoplfkdoaaGreatDoorTotals.lean).
  GIVEN WITH THE SEED: the statements are not yours to turn. If you find one false, say at which input.
  Laid BY PROGRAM, IN A SANDBOX (cutbox-rows.mjs): the forced cells as the released guide's own fill.sh prints them over the translation 10eb78099ad71f94… (all of the seat's roots in one cut). By AI agents, Wed Nov 11 2026. No macro, syntax, notation, axiom, sorry.
-/
import Derived.Test.YtgipmaoplfkdoaaGreatDoorChecked
import GoSem.Claim
import GoSem.ClaimJoined
import GoSem.ClaimMapViews
import Derived.JoinedTies
import Derived.KernelRfl
namespace Go.Proofs.YtgipmaoplfkdoaaGreatDoor
/- THE CELL 'sum', in the pinned program and in every row, IS THE sha256 OF THE DUMP (.gsa) THAT YtgipmaoplfkdoaaGreatDoorProg.lean LOADS. Nothing in Lean hashes anything: it is a label: what it is worth is what the hold of that sum in a sandbox is worth. -/
noncomputable def Tryz.pinned : Pinned := { name := "ytgipmaoplfkdoaagreatdoor", sum := "10eb78099ad71f94463c59720c9285379851ea946c8ce818589f074c62d1b7b4", checked := Tryz.checked }
namespace Rows
def none {H : Type} : Left H := { results := [], args := [] }

/- WHAT THE LISTED PACKAGE-LEVEL VARIABLES READ AS WHEN THE CALL BEGINS. Each datum BY PROGRAM (the guide's laid-datum.mjs) off the statement by which the dump's own 'gosem.cut.vars' lays the variable. In a bare row this is a premise. The card (YtgipmaoplfkdoaaGreatDoorCards.lean) ties it to the program's text. -/
def laid_math_bits_deBruijn64tab {H : Type} : DataW H := .agg [.lit (.int .u8 0), .lit (.int .u8 1), .lit (.int .u8 56), .lit (.int .u8 2), .lit (.int .u8 57), .lit (.int .u8 49), .lit (.int .u8 28), .lit (.int .u8 3), .lit (.int .u8 61), .lit (.int .u8 58), .lit (.int .u8 42), .lit (.int .u8 50), .lit (.int .u8 38), .lit (.int .u8 29), .lit (.int .u8 17), .lit (.int .u8 4), .lit (.int .u8 62), .lit (.int .u8 47), .lit (.int .u8 59), .lit (.int .u8 36), .lit (.int .u8 45), .lit (.int .u8 43), .lit (.int .u8 51), .lit (.int .u8 22), .lit (.int .u8 53), .lit (.int .u8 39), .lit (.int .u8 33), .lit (.int .u8 30), .lit (.int .u8 24), .lit (.int .u8 18), .lit (.int .u8 12), .lit (.int .u8 5), .lit (.int .u8 63), .lit (.int .u8 55), .lit (.int .u8 48), .lit (.int .u8 27), .lit (.int .u8 60), .lit (.int .u8 41), .lit (.int .u8 37), .lit (.int .u8 16), .lit (.int .u8 46), .lit (.int .u8 35), .lit (.int .u8 44), .lit (.int .u8 21), .lit (.int .u8 52), .lit (.int .u8 32), .lit (.int .u8 23), .lit (.int .u8 11), .lit (.int .u8 54), .lit (.int .u8 26), .lit (.int .u8 40), .lit (.int .u8 15), .lit (.int .u8 34), .lit (.int .u8 20), .lit (.int .u8 31), .lit (.int .u8 10), .lit (.int .u8 25), .lit (.int .u8 14), .lit (.int .u8 19), .lit (.int .u8 9), .lit (.int .u8 13), .lit (.int .u8 8), .lit (.int .u8 7), .lit (.int .u8 6)]

/-- 'gnomonlaw17.SolveFulfils': WHATEVER THE INPUT: true; the input reads as it did. -/
def solveFulfilsSpec : ChangeSpec := { name := "solveFulfils", fn := fun _ => fun
  | [d] => { results := [.lit (.bool true)], args := [d] }
  | _ => none }
def solveFulfilsRow : OpenClaim := { program := "ytgipmaoplfkdoaagreatdoor", sum := "10eb78099ad71f94463c59720c9285379851ea946c8ce818589f074c62d1b7b4", func := "gnomon/gnomonlaw17.SolveFulfils", spec := "solveFulfils", unfollowed := true, recurses := true, named := ["math/bits.deBruijn64tab"], plainKeys := false, apart := false, laid := [("math/bits.deBruijn64tab", laid_math_bits_deBruijn64tab)] }
def SolveFulfilsSaid : Prop := solveFulfilsRow.holds Tryz.pinned (OpenSpec.ofChange solveFulfilsSpec)

/-- ITS FALSE NEIGHBOUR: 'it returns false'. Refute it at one input. -/
def solveFulfilsWrong : ChangeSpec := { name := "solveFulfils", fn := fun _ => fun
  | [d] => { results := [.lit (.bool false)], args := [d] }
  | _ => none }
def SolveFulfilsWrongFalsely : Prop := solveFulfilsRow.holds Tryz.pinned (OpenSpec.ofChange solveFulfilsWrong)

/-- 'gnomonlaw17.SolveGrows': WHATEVER THE INPUT: true; the input reads as it did. -/
def solveGrowsSpec : ChangeSpec := { name := "solveGrows", fn := fun _ => fun
  | [d1, d2, d3, d4] => { results := [.lit (.bool true)], args := [d1, d2, d3, d4] }
  | _ => none }
def solveGrowsRow : OpenClaim := { program := "ytgipmaoplfkdoaagreatdoor", sum := "10eb78099ad71f94463c59720c9285379851ea946c8ce818589f074c62d1b7b4", func := "gnomon/gnomonlaw17.SolveGrows", spec := "solveGrows", unfollowed := true, recurses := true, named := ["math/bits.deBruijn64tab"], plainKeys := false, apart := false, laid := [("math/bits.deBruijn64tab", laid_math_bits_deBruijn64tab)] }
def SolveGrowsSaid : Prop := solveGrowsRow.holds Tryz.pinned (OpenSpec.ofChange solveGrowsSpec)

/-- ITS FALSE NEIGHBOUR: 'it returns false'. Refute it at one input. -/
def solveGrowsWrong : ChangeSpec := { name := "solveGrows", fn := fun _ => fun
  | [d1, d2, d3, d4] => { results := [.lit (.bool false)], args := [d1, d2, d3, d4] }
  | _ => none }
def SolveGrowsWrongFalsely : Prop := solveGrowsRow.holds Tryz.pinned (OpenSpec.ofChange solveGrowsWrong)

/-- 'gnomonlaw17.SolveOwn': WHATEVER THE INPUT: true; the input reads as it did. -/
def solveOwnSpec : ChangeSpec := { name := "solveOwn", fn := fun _ => fun
  | [d] => { results := [.lit (.bool true)], args := [d] }
  | _ => none }
def solveOwnRow : OpenClaim := { program := "ytgipmaoplfkdoaagreatdoor", sum := "10eb78099ad71f94463c59720c9285379851ea946c8ce818589f074c62d1b7b4", func := "gnomon/gnomonlaw17.SolveOwn", spec := "solveOwn", unfollowed := true, recurses := true, named := ["math/bits.deBruijn64tab"], plainKeys := false, apart := false, laid := [("math/bits.deBruijn64tab", laid_math_bits_deBruijn64tab)] }
def SolveOwnSaid : Prop := solveOwnRow.holds Tryz.pinned (OpenSpec.ofChange solveOwnSpec)

/-- ITS FALSE NEIGHBOUR: 'it returns false'. Refute it at one input. -/
def solveOwnWrong : ChangeSpec := { name := "solveOwn", fn := fun _ => fun
  | [d] => { results := [.lit (.bool false)], args := [d] }
  | _ => none }
def SolveOwnWrongFalsely : Prop := solveOwnRow.holds Tryz.pinned (OpenSpec.ofChange solveOwnWrong)

/-- 'gnomonlaw18.CallsChain': WHATEVER THE INPUT: true; the input reads as it did. -/
def callsChainSpec : ChangeSpec := { name := "callsChain", fn := fun _ => fun
  | [d] => { results := [.lit (.bool true)], args := [d] }
  | _ => none }
def callsChainRow : OpenClaim := { program := "ytgipmaoplfkdoaagreatdoor", sum := "10eb78099ad71f94463c59720c9285379851ea946c8ce818589f074c62d1b7b4", func := "gnomon/gnomonlaw18.CallsChain", spec := "callsChain", unfollowed := true, recurses := true, named := ["math/bits.deBruijn64tab"], plainKeys := false, apart := false, laid := [("math/bits.deBruijn64tab", laid_math_bits_deBruijn64tab)] }
def CallsChainSaid : Prop := callsChainRow.holds Tryz.pinned (OpenSpec.ofChange callsChainSpec)

/-- ITS FALSE NEIGHBOUR: 'it returns false'. Refute it at one input. -/
def callsChainWrong : ChangeSpec := { name := "callsChain", fn := fun _ => fun
  | [d] => { results := [.lit (.bool false)], args := [d] }
  | _ => none }
def CallsChainWrongFalsely : Prop := callsChainRow.holds Tryz.pinned (OpenSpec.ofChange callsChainWrong)

/-- 'gnomonlaw18.CallsBoth': WHATEVER THE INPUT: true; the input reads as it did. -/
def callsBothSpec : ChangeSpec := { name := "callsBoth", fn := fun _ => fun
  | [d] => { results := [.lit (.bool true)], args := [d] }
  | _ => none }
def callsBothRow : OpenClaim := { program := "ytgipmaoplfkdoaagreatdoor", sum := "10eb78099ad71f94463c59720c9285379851ea946c8ce818589f074c62d1b7b4", func := "gnomon/gnomonlaw18.CallsBoth", spec := "callsBoth", unfollowed := true, recurses := true, named := ["math/bits.deBruijn64tab"], plainKeys := false, apart := false, laid := [("math/bits.deBruijn64tab", laid_math_bits_deBruijn64tab)] }
def CallsBothSaid : Prop := callsBothRow.holds Tryz.pinned (OpenSpec.ofChange callsBothSpec)

/-- ITS FALSE NEIGHBOUR: 'it returns false'. Refute it at one input. -/
def callsBothWrong : ChangeSpec := { name := "callsBoth", fn := fun _ => fun
  | [d] => { results := [.lit (.bool false)], args := [d] }
  | _ => none }
def CallsBothWrongFalsely : Prop := callsBothRow.holds Tryz.pinned (OpenSpec.ofChange callsBothWrong)

/-- 'gnomonlaw19.ModrefCalls': WHATEVER THE INPUT: true; the input reads as it did. -/
def modrefCallsSpec : ChangeSpec := { name := "modrefCalls", fn := fun _ => fun
  | [d] => { results := [.lit (.bool true)], args := [d] }
  | _ => none }
def modrefCallsRow : OpenClaim := { program := "ytgipmaoplfkdoaagreatdoor", sum := "10eb78099ad71f94463c59720c9285379851ea946c8ce818589f074c62d1b7b4", func := "gnomon/gnomonlaw19.ModrefCalls", spec := "modrefCalls", unfollowed := true, recurses := true, named := ["math/bits.deBruijn64tab"], plainKeys := false, apart := false, laid := [("math/bits.deBruijn64tab", laid_math_bits_deBruijn64tab)] }
def ModrefCallsSaid : Prop := modrefCallsRow.holds Tryz.pinned (OpenSpec.ofChange modrefCallsSpec)

/-- ITS FALSE NEIGHBOUR: 'it returns false'. Refute it at one input. -/
def modrefCallsWrong : ChangeSpec := { name := "modrefCalls", fn := fun _ => fun
  | [d] => { results := [.lit (.bool false)], args := [d] }
  | _ => none }
def ModrefCallsWrongFalsely : Prop := modrefCallsRow.holds Tryz.pinned (OpenSpec.ofChange modrefCallsWrong)

/-- 'gnomonlaw19.ModrefNeed': WHATEVER THE INPUT: true; the input reads as it did. -/
def modrefNeedSpec : ChangeSpec := { name := "modrefNeed", fn := fun _ => fun
  | [d] => { results := [.lit (.bool true)], args := [d] }
  | _ => none }
def modrefNeedRow : OpenClaim := { program := "ytgipmaoplfkdoaagreatdoor", sum := "10eb78099ad71f94463c59720c9285379851ea946c8ce818589f074c62d1b7b4", func := "gnomon/gnomonlaw19.ModrefNeed", spec := "modrefNeed", unfollowed := true, recurses := true, named := ["math/bits.deBruijn64tab"], plainKeys := false, apart := false, laid := [("math/bits.deBruijn64tab", laid_math_bits_deBruijn64tab)] }
def ModrefNeedSaid : Prop := modrefNeedRow.holds Tryz.pinned (OpenSpec.ofChange modrefNeedSpec)

/-- ITS FALSE NEIGHBOUR: 'it returns false'. Refute it at one input. -/
def modrefNeedWrong : ChangeSpec := { name := "modrefNeed", fn := fun _ => fun
  | [d] => { results := [.lit (.bool false)], args := [d] }
  | _ => none }
def ModrefNeedWrongFalsely : Prop := modrefNeedRow.holds Tryz.pinned (OpenSpec.ofChange modrefNeedWrong)

/-- 'gnomonlaw20.ChiBounds': WHATEVER THE INPUT: true; the input reads as it did. -/
def chiBoundsSpec : ChangeSpec := { name := "chiBounds", fn := fun _ => fun
  | [d] => { results := [.lit (.bool true)], args := [d] }
  | _ => none }
def chiBoundsRow : OpenClaim := { program := "ytgipmaoplfkdoaagreatdoor", sum := "10eb78099ad71f94463c59720c9285379851ea946c8ce818589f074c62d1b7b4", func := "gnomon/gnomonlaw20.ChiBounds", spec := "chiBounds", unfollowed := true, recurses := true, named := ["math/bits.deBruijn64tab"], plainKeys := false, apart := false, laid := [("math/bits.deBruijn64tab", laid_math_bits_deBruijn64tab)] }
def ChiBoundsSaid : Prop := chiBoundsRow.holds Tryz.pinned (OpenSpec.ofChange chiBoundsSpec)

/-- ITS FALSE NEIGHBOUR: 'it returns false'. Refute it at one input. -/
def chiBoundsWrong : ChangeSpec := { name := "chiBounds", fn := fun _ => fun
  | [d] => { results := [.lit (.bool false)], args := [d] }
  | _ => none }
def ChiBoundsWrongFalsely : Prop := chiBoundsRow.holds Tryz.pinned (OpenSpec.ofChange chiBoundsWrong)

/-- 'gnomonlaw20.ChiJust': WHATEVER THE INPUT: true; the input reads as it did. -/
def chiJustSpec : ChangeSpec := { name := "chiJust", fn := fun _ => fun
  | [d] => { results := [.lit (.bool true)], args := [d] }
  | _ => none }
def chiJustRow : OpenClaim := { program := "ytgipmaoplfkdoaagreatdoor", sum := "10eb78099ad71f94463c59720c9285379851ea946c8ce818589f074c62d1b7b4", func := "gnomon/gnomonlaw20.ChiJust", spec := "chiJust", unfollowed := true, recurses := true, named := ["math/bits.deBruijn64tab"], plainKeys := false, apart := false, laid := [("math/bits.deBruijn64tab", laid_math_bits_deBruijn64tab)] }
def ChiJustSaid : Prop := chiJustRow.holds Tryz.pinned (OpenSpec.ofChange chiJustSpec)

/-- ITS FALSE NEIGHBOUR: 'it returns false'. Refute it at one input. -/
def chiJustWrong : ChangeSpec := { name := "chiJust", fn := fun _ => fun
  | [d] => { results := [.lit (.bool false)], args := [d] }
  | _ => none }
def ChiJustWrongFalsely : Prop := chiJustRow.holds Tryz.pinned (OpenSpec.ofChange chiJustWrong)

/- THE SECOND FORM. 'bulk': how many values and letters a reading holds, each counted each time it is reached (what is shared counts as often as it is met; a slice's spare places count too). A statement '..UptoSaid' is the law's where the arguments, and the package variables that the reading takes, are together of bulk at most 1048576: NARROWER than '..Said'. Prove '..Said' where nothing that the law and all that it calls make is longer than what came in: it says more and counts as full. Else prove '..UptoSaid'. A law counts once. -/
mutual
def uptoBulk {H : Type} : DataW H → Nat
  | .lit (.string bytes) => bytes.length + 1
  | .lit _ => 1
  | .nil => 1
  | .ptr d => uptoBulk d + 1
  | .slice elems spare => uptoBulkAll elems + uptoBulkAll spare + 1
  | .agg parts => uptoBulkAll parts + 1
  | .iface _ d => uptoBulk d + 1
  | .map entries => uptoBulkEntries entries + 1
  | .held _ => 1
def uptoBulkAll {H : Type} : List (DataW H) → Nat
  | [] => 0
  | d :: r => uptoBulk d + uptoBulkAll r
def uptoBulkEntries {H : Type} : List (Lit × DataW H) → Nat
  | [] => 0
  | x :: r => uptoBulkEntry x + uptoBulkEntries r
def uptoBulkEntry {H : Type} : Lit × DataW H → Nat
  | (.string bytes, d) => bytes.length + uptoBulk d + 1
  | (_, d) => uptoBulk d + 1
 end
def uptoSmall : (H : Type) → List (DataW H) → Bool := fun _ ds => decide (uptoBulkAll ds ≤ 1048576)
def OpenSpec.upto (s : _root_.Go.ChangeSpec) : _root_.Go.OpenSpec := { _root_.Go.OpenSpec.ofChange s with cond := some uptoSmall }

/-- 'gnomonlaw17.SolveFulfils', WHERE WHAT IT READS IS OF BULK AT MOST 1048576: true; the input reads as it did. -/
def solveFulfilsUptoRow : OpenClaim := { program := "ytgipmaoplfkdoaagreatdoor", sum := "10eb78099ad71f94463c59720c9285379851ea946c8ce818589f074c62d1b7b4", func := "gnomon/gnomonlaw17.SolveFulfils", spec := "solveFulfils", unfollowed := true, recurses := true, named := ["math/bits.deBruijn64tab"], plainKeys := false, apart := false, laid := [("math/bits.deBruijn64tab", laid_math_bits_deBruijn64tab)], narrowed := true }
def SolveFulfilsUptoSaid : Prop := solveFulfilsUptoRow.holds Tryz.pinned (OpenSpec.upto solveFulfilsSpec)

/-- 'gnomonlaw17.SolveGrows', WHERE WHAT IT READS IS OF BULK AT MOST 1048576: true; the input reads as it did. -/
def solveGrowsUptoRow : OpenClaim := { program := "ytgipmaoplfkdoaagreatdoor", sum := "10eb78099ad71f94463c59720c9285379851ea946c8ce818589f074c62d1b7b4", func := "gnomon/gnomonlaw17.SolveGrows", spec := "solveGrows", unfollowed := true, recurses := true, named := ["math/bits.deBruijn64tab"], plainKeys := false, apart := false, laid := [("math/bits.deBruijn64tab", laid_math_bits_deBruijn64tab)], narrowed := true }
def SolveGrowsUptoSaid : Prop := solveGrowsUptoRow.holds Tryz.pinned (OpenSpec.upto solveGrowsSpec)

/-- 'gnomonlaw17.SolveOwn', WHERE WHAT IT READS IS OF BULK AT MOST 1048576: true; the input reads as it did. -/
def solveOwnUptoRow : OpenClaim := { program := "ytgipmaoplfkdoaagreatdoor", sum := "10eb78099ad71f94463c59720c9285379851ea946c8ce818589f074c62d1b7b4", func := "gnomon/gnomonlaw17.SolveOwn", spec := "solveOwn", unfollowed := true, recurses := true, named := ["math/bits.deBruijn64tab"], plainKeys := false, apart := false, laid := [("math/bits.deBruijn64tab", laid_math_bits_deBruijn64tab)], narrowed := true }
def SolveOwnUptoSaid : Prop := solveOwnUptoRow.holds Tryz.pinned (OpenSpec.upto solveOwnSpec)

/-- 'gnomonlaw18.CallsChain', WHERE WHAT IT READS IS OF BULK AT MOST 1048576: true; the input reads as it did. -/
def callsChainUptoRow : OpenClaim := { program := "ytgipmaoplfkdoaagreatdoor", sum := "10eb78099ad71f94463c59720c9285379851ea946c8ce818589f074c62d1b7b4", func := "gnomon/gnomonlaw18.CallsChain", spec := "callsChain", unfollowed := true, recurses := true, named := ["math/bits.deBruijn64tab"], plainKeys := false, apart := false, laid := [("math/bits.deBruijn64tab", laid_math_bits_deBruijn64tab)], narrowed := true }
def CallsChainUptoSaid : Prop := callsChainUptoRow.holds Tryz.pinned (OpenSpec.upto callsChainSpec)

/-- 'gnomonlaw18.CallsBoth', WHERE WHAT IT READS IS OF BULK AT MOST 1048576: true; the input reads as it did. -/
def callsBothUptoRow : OpenClaim := { program := "ytgipmaoplfkdoaagreatdoor", sum := "10eb78099ad71f94463c59720c9285379851ea946c8ce818589f074c62d1b7b4", func := "gnomon/gnomonlaw18.CallsBoth", spec := "callsBoth", unfollowed := true, recurses := true, named := ["math/bits.deBruijn64tab"], plainKeys := false, apart := false, laid := [("math/bits.deBruijn64tab", laid_math_bits_deBruijn64tab)], narrowed := true }
def CallsBothUptoSaid : Prop := callsBothUptoRow.holds Tryz.pinned (OpenSpec.upto callsBothSpec)

/-- 'gnomonlaw19.ModrefCalls', WHERE WHAT IT READS IS OF BULK AT MOST 1048576: true; the input reads as it did. -/
def modrefCallsUptoRow : OpenClaim := { program := "ytgipmaoplfkdoaagreatdoor", sum := "10eb78099ad71f94463c59720c9285379851ea946c8ce818589f074c62d1b7b4", func := "gnomon/gnomonlaw19.ModrefCalls", spec := "modrefCalls", unfollowed := true, recurses := true, named := ["math/bits.deBruijn64tab"], plainKeys := false, apart := false, laid := [("math/bits.deBruijn64tab", laid_math_bits_deBruijn64tab)], narrowed := true }
def ModrefCallsUptoSaid : Prop := modrefCallsUptoRow.holds Tryz.pinned (OpenSpec.upto modrefCallsSpec)

/-- 'gnomonlaw19.ModrefNeed', WHERE WHAT IT READS IS OF BULK AT MOST 1048576: true; the input reads as it did. -/
def modrefNeedUptoRow : OpenClaim := { program := "ytgipmaoplfkdoaagreatdoor", sum := "10eb78099ad71f94463c59720c9285379851ea946c8ce818589f074c62d1b7b4", func := "gnomon/gnomonlaw19.ModrefNeed", spec := "modrefNeed", unfollowed := true, recurses := true, named := ["math/bits.deBruijn64tab"], plainKeys := false, apart := false, laid := [("math/bits.deBruijn64tab", laid_math_bits_deBruijn64tab)], narrowed := true }
def ModrefNeedUptoSaid : Prop := modrefNeedUptoRow.holds Tryz.pinned (OpenSpec.upto modrefNeedSpec)

/-- 'gnomonlaw20.ChiBounds', WHERE WHAT IT READS IS OF BULK AT MOST 1048576: true; the input reads as it did. -/
def chiBoundsUptoRow : OpenClaim := { program := "ytgipmaoplfkdoaagreatdoor", sum := "10eb78099ad71f94463c59720c9285379851ea946c8ce818589f074c62d1b7b4", func := "gnomon/gnomonlaw20.ChiBounds", spec := "chiBounds", unfollowed := true, recurses := true, named := ["math/bits.deBruijn64tab"], plainKeys := false, apart := false, laid := [("math/bits.deBruijn64tab", laid_math_bits_deBruijn64tab)], narrowed := true }
def ChiBoundsUptoSaid : Prop := chiBoundsUptoRow.holds Tryz.pinned (OpenSpec.upto chiBoundsSpec)

/-- 'gnomonlaw20.ChiJust', WHERE WHAT IT READS IS OF BULK AT MOST 1048576: true; the input reads as it did. -/
def chiJustUptoRow : OpenClaim := { program := "ytgipmaoplfkdoaagreatdoor", sum := "10eb78099ad71f94463c59720c9285379851ea946c8ce818589f074c62d1b7b4", func := "gnomon/gnomonlaw20.ChiJust", spec := "chiJust", unfollowed := true, recurses := true, named := ["math/bits.deBruijn64tab"], plainKeys := false, apart := false, laid := [("math/bits.deBruijn64tab", laid_math_bits_deBruijn64tab)], narrowed := true }
def ChiJustUptoSaid : Prop := chiJustUptoRow.holds Tryz.pinned (OpenSpec.upto chiJustSpec)

end Rows
end Go.Proofs.YtgipmaoplfkdoaaGreatDoor
