/-
  NARROWER THAN 'FOR EVERY INPUT', by the rows' own cells (each row's printed sentence says how): SolveNil: laid · CallsNil: laid · ModrefNil: laid · ChiNil: laid · MemphiNil: laid · MssaNil: laid · VfgNil: laid · SparseKnown: laid · SparseNil: laid.
  DERIVED. THE GIVEN ROWS OF THIS SEAT. 9 by the template 'for every input the law returns true; each argument reads behind the call as it read before'; 0 by the template 'total and deterministic' (their statements: YtclljjfkaljdnaaGreatDoorTotals.lean).
  GIVEN WITH THE SEED: the statements are not yours to turn. If you find one false, say at which input.
  Laid BY PROGRAM, IN A SANDBOX (cutbox-rows.mjs): the forced cells as the released guide's own fill.sh prints them over the translation d8ba9caf44c6bcd8… (all of the seat's roots in one cut). By AI agents, Wed Nov 11 2026. No macro, syntax, notation, axiom, sorry.
-/
import Derived.Test.YtclljjfkaljdnaaGreatDoorChecked
import GoSem.Claim
import GoSem.ClaimJoined
import GoSem.ClaimMapViews
import Derived.JoinedTies
import Derived.KernelRfl
namespace Go.Proofs.YtclljjfkaljdnaaGreatDoor
/- THE CELL 'sum', in the pinned program and in every row, IS THE sha256 OF THE DUMP (.gsa) THAT YtclljjfkaljdnaaGreatDoorProg.lean LOADS. Nothing in Lean hashes anything: it is a label: what it is worth is what the hold of that sum in a sandbox is worth. -/
noncomputable def Tryz.pinned : Pinned := { name := "ytclljjfkaljdnaagreatdoor", sum := "d8ba9caf44c6bcd86689c6a1cb3243d6448678680d4f7ec3b7f3e89565bd8743", checked := Tryz.checked }
namespace Rows
def none {H : Type} : Left H := { results := [], args := [] }

/- WHAT THE LISTED PACKAGE-LEVEL VARIABLES READ AS WHEN THE CALL BEGINS. Each datum BY PROGRAM (the guide's laid-datum.mjs) off the statement by which the dump's own 'gosem.cut.vars' lays the variable. In a bare row this is a premise. The card (YtclljjfkaljdnaaGreatDoorCards.lean) ties it to the program's text. -/
def laid_math_bits_deBruijn64tab {H : Type} : DataW H := .agg [.lit (.int .u8 0), .lit (.int .u8 1), .lit (.int .u8 56), .lit (.int .u8 2), .lit (.int .u8 57), .lit (.int .u8 49), .lit (.int .u8 28), .lit (.int .u8 3), .lit (.int .u8 61), .lit (.int .u8 58), .lit (.int .u8 42), .lit (.int .u8 50), .lit (.int .u8 38), .lit (.int .u8 29), .lit (.int .u8 17), .lit (.int .u8 4), .lit (.int .u8 62), .lit (.int .u8 47), .lit (.int .u8 59), .lit (.int .u8 36), .lit (.int .u8 45), .lit (.int .u8 43), .lit (.int .u8 51), .lit (.int .u8 22), .lit (.int .u8 53), .lit (.int .u8 39), .lit (.int .u8 33), .lit (.int .u8 30), .lit (.int .u8 24), .lit (.int .u8 18), .lit (.int .u8 12), .lit (.int .u8 5), .lit (.int .u8 63), .lit (.int .u8 55), .lit (.int .u8 48), .lit (.int .u8 27), .lit (.int .u8 60), .lit (.int .u8 41), .lit (.int .u8 37), .lit (.int .u8 16), .lit (.int .u8 46), .lit (.int .u8 35), .lit (.int .u8 44), .lit (.int .u8 21), .lit (.int .u8 52), .lit (.int .u8 32), .lit (.int .u8 23), .lit (.int .u8 11), .lit (.int .u8 54), .lit (.int .u8 26), .lit (.int .u8 40), .lit (.int .u8 15), .lit (.int .u8 34), .lit (.int .u8 20), .lit (.int .u8 31), .lit (.int .u8 10), .lit (.int .u8 25), .lit (.int .u8 14), .lit (.int .u8 19), .lit (.int .u8 9), .lit (.int .u8 13), .lit (.int .u8 8), .lit (.int .u8 7), .lit (.int .u8 6)]

/-- 'gnomonlaw17.SolveNil': WHATEVER THE INPUT: true; the input reads as it did. -/
def solveNilSpec : ChangeSpec := { name := "solveNil", fn := fun _ => fun
  | [d1, d2, d3, d4] => { results := [.lit (.bool true)], args := [d1, d2, d3, d4] }
  | _ => none }
def solveNilRow : OpenClaim := { program := "ytclljjfkaljdnaagreatdoor", sum := "d8ba9caf44c6bcd86689c6a1cb3243d6448678680d4f7ec3b7f3e89565bd8743", func := "gnomon/gnomonlaw17.SolveNil", spec := "solveNil", unfollowed := true, recurses := true, named := ["math/bits.deBruijn64tab"], plainKeys := false, apart := false, laid := [("math/bits.deBruijn64tab", laid_math_bits_deBruijn64tab)] }
def SolveNilSaid : Prop := solveNilRow.holds Tryz.pinned (OpenSpec.ofChange solveNilSpec)

/-- ITS FALSE NEIGHBOUR: 'it returns false'. Refute it at one input. -/
def solveNilWrong : ChangeSpec := { name := "solveNil", fn := fun _ => fun
  | [d1, d2, d3, d4] => { results := [.lit (.bool false)], args := [d1, d2, d3, d4] }
  | _ => none }
def SolveNilWrongFalsely : Prop := solveNilRow.holds Tryz.pinned (OpenSpec.ofChange solveNilWrong)

/-- 'gnomonlaw18.CallsNil': WHATEVER THE INPUT: true; the input reads as it did. -/
def callsNilSpec : ChangeSpec := { name := "callsNil", fn := fun _ => fun
  | [d1, d2] => { results := [.lit (.bool true)], args := [d1, d2] }
  | _ => none }
def callsNilRow : OpenClaim := { program := "ytclljjfkaljdnaagreatdoor", sum := "d8ba9caf44c6bcd86689c6a1cb3243d6448678680d4f7ec3b7f3e89565bd8743", func := "gnomon/gnomonlaw18.CallsNil", spec := "callsNil", unfollowed := true, recurses := true, named := ["math/bits.deBruijn64tab"], plainKeys := false, apart := false, laid := [("math/bits.deBruijn64tab", laid_math_bits_deBruijn64tab)] }
def CallsNilSaid : Prop := callsNilRow.holds Tryz.pinned (OpenSpec.ofChange callsNilSpec)

/-- ITS FALSE NEIGHBOUR: 'it returns false'. Refute it at one input. -/
def callsNilWrong : ChangeSpec := { name := "callsNil", fn := fun _ => fun
  | [d1, d2] => { results := [.lit (.bool false)], args := [d1, d2] }
  | _ => none }
def CallsNilWrongFalsely : Prop := callsNilRow.holds Tryz.pinned (OpenSpec.ofChange callsNilWrong)

/-- 'gnomonlaw19.ModrefNil': WHATEVER THE INPUT: true; the input reads as it did. -/
def modrefNilSpec : ChangeSpec := { name := "modrefNil", fn := fun _ => fun
  | [d] => { results := [.lit (.bool true)], args := [d] }
  | _ => none }
def modrefNilRow : OpenClaim := { program := "ytclljjfkaljdnaagreatdoor", sum := "d8ba9caf44c6bcd86689c6a1cb3243d6448678680d4f7ec3b7f3e89565bd8743", func := "gnomon/gnomonlaw19.ModrefNil", spec := "modrefNil", unfollowed := true, recurses := true, named := ["math/bits.deBruijn64tab"], plainKeys := false, apart := false, laid := [("math/bits.deBruijn64tab", laid_math_bits_deBruijn64tab)] }
def ModrefNilSaid : Prop := modrefNilRow.holds Tryz.pinned (OpenSpec.ofChange modrefNilSpec)

/-- ITS FALSE NEIGHBOUR: 'it returns false'. Refute it at one input. -/
def modrefNilWrong : ChangeSpec := { name := "modrefNil", fn := fun _ => fun
  | [d] => { results := [.lit (.bool false)], args := [d] }
  | _ => none }
def ModrefNilWrongFalsely : Prop := modrefNilRow.holds Tryz.pinned (OpenSpec.ofChange modrefNilWrong)

/-- 'gnomonlaw20.ChiNil': WHATEVER THE INPUT: true; the input reads as it did. -/
def chiNilSpec : ChangeSpec := { name := "chiNil", fn := fun _ => fun
  | [d1, d2] => { results := [.lit (.bool true)], args := [d1, d2] }
  | _ => none }
def chiNilRow : OpenClaim := { program := "ytclljjfkaljdnaagreatdoor", sum := "d8ba9caf44c6bcd86689c6a1cb3243d6448678680d4f7ec3b7f3e89565bd8743", func := "gnomon/gnomonlaw20.ChiNil", spec := "chiNil", unfollowed := true, recurses := true, named := ["math/bits.deBruijn64tab"], plainKeys := false, apart := false, laid := [("math/bits.deBruijn64tab", laid_math_bits_deBruijn64tab)] }
def ChiNilSaid : Prop := chiNilRow.holds Tryz.pinned (OpenSpec.ofChange chiNilSpec)

/-- ITS FALSE NEIGHBOUR: 'it returns false'. Refute it at one input. -/
def chiNilWrong : ChangeSpec := { name := "chiNil", fn := fun _ => fun
  | [d1, d2] => { results := [.lit (.bool false)], args := [d1, d2] }
  | _ => none }
def ChiNilWrongFalsely : Prop := chiNilRow.holds Tryz.pinned (OpenSpec.ofChange chiNilWrong)

/-- 'gnomonlaw21.MemphiNil': WHATEVER THE INPUT: true; the input reads as it did. -/
def memphiNilSpec : ChangeSpec := { name := "memphiNil", fn := fun _ => fun
  | [d1, d2] => { results := [.lit (.bool true)], args := [d1, d2] }
  | _ => none }
def memphiNilRow : OpenClaim := { program := "ytclljjfkaljdnaagreatdoor", sum := "d8ba9caf44c6bcd86689c6a1cb3243d6448678680d4f7ec3b7f3e89565bd8743", func := "gnomon/gnomonlaw21.MemphiNil", spec := "memphiNil", unfollowed := true, recurses := true, named := ["math/bits.deBruijn64tab"], plainKeys := false, apart := false, laid := [("math/bits.deBruijn64tab", laid_math_bits_deBruijn64tab)] }
def MemphiNilSaid : Prop := memphiNilRow.holds Tryz.pinned (OpenSpec.ofChange memphiNilSpec)

/-- ITS FALSE NEIGHBOUR: 'it returns false'. Refute it at one input. -/
def memphiNilWrong : ChangeSpec := { name := "memphiNil", fn := fun _ => fun
  | [d1, d2] => { results := [.lit (.bool false)], args := [d1, d2] }
  | _ => none }
def MemphiNilWrongFalsely : Prop := memphiNilRow.holds Tryz.pinned (OpenSpec.ofChange memphiNilWrong)

/-- 'gnomonlaw22.MssaNil': WHATEVER THE INPUT: true; the input reads as it did. -/
def mssaNilSpec : ChangeSpec := { name := "mssaNil", fn := fun _ => fun
  | [d1, d2] => { results := [.lit (.bool true)], args := [d1, d2] }
  | _ => none }
def mssaNilRow : OpenClaim := { program := "ytclljjfkaljdnaagreatdoor", sum := "d8ba9caf44c6bcd86689c6a1cb3243d6448678680d4f7ec3b7f3e89565bd8743", func := "gnomon/gnomonlaw22.MssaNil", spec := "mssaNil", unfollowed := true, recurses := true, named := ["math/bits.deBruijn64tab"], plainKeys := false, apart := false, laid := [("math/bits.deBruijn64tab", laid_math_bits_deBruijn64tab)] }
def MssaNilSaid : Prop := mssaNilRow.holds Tryz.pinned (OpenSpec.ofChange mssaNilSpec)

/-- ITS FALSE NEIGHBOUR: 'it returns false'. Refute it at one input. -/
def mssaNilWrong : ChangeSpec := { name := "mssaNil", fn := fun _ => fun
  | [d1, d2] => { results := [.lit (.bool false)], args := [d1, d2] }
  | _ => none }
def MssaNilWrongFalsely : Prop := mssaNilRow.holds Tryz.pinned (OpenSpec.ofChange mssaNilWrong)

/-- 'gnomonlaw23.VfgNil': WHATEVER THE INPUT: true; the input reads as it did. -/
def vfgNilSpec : ChangeSpec := { name := "vfgNil", fn := fun _ => fun
  | [d1, d2, d3] => { results := [.lit (.bool true)], args := [d1, d2, d3] }
  | _ => none }
def vfgNilRow : OpenClaim := { program := "ytclljjfkaljdnaagreatdoor", sum := "d8ba9caf44c6bcd86689c6a1cb3243d6448678680d4f7ec3b7f3e89565bd8743", func := "gnomon/gnomonlaw23.VfgNil", spec := "vfgNil", unfollowed := true, recurses := true, named := ["math/bits.deBruijn64tab"], plainKeys := false, apart := false, laid := [("math/bits.deBruijn64tab", laid_math_bits_deBruijn64tab)] }
def VfgNilSaid : Prop := vfgNilRow.holds Tryz.pinned (OpenSpec.ofChange vfgNilSpec)

/-- ITS FALSE NEIGHBOUR: 'it returns false'. Refute it at one input. -/
def vfgNilWrong : ChangeSpec := { name := "vfgNil", fn := fun _ => fun
  | [d1, d2, d3] => { results := [.lit (.bool false)], args := [d1, d2, d3] }
  | _ => none }
def VfgNilWrongFalsely : Prop := vfgNilRow.holds Tryz.pinned (OpenSpec.ofChange vfgNilWrong)

/-- 'gnomonlaw26.SparseKnown': WHATEVER THE INPUT: true; the input reads as it did. -/
def sparseKnownSpec : ChangeSpec := { name := "sparseKnown", fn := fun _ => fun
  | [] => { results := [.lit (.bool true)], args := [] }
  | _ => none }
def sparseKnownRow : OpenClaim := { program := "ytclljjfkaljdnaagreatdoor", sum := "d8ba9caf44c6bcd86689c6a1cb3243d6448678680d4f7ec3b7f3e89565bd8743", func := "gnomon/gnomonlaw26.SparseKnown", spec := "sparseKnown", unfollowed := true, recurses := true, named := ["math/bits.deBruijn64tab"], plainKeys := false, apart := false, laid := [("math/bits.deBruijn64tab", laid_math_bits_deBruijn64tab)] }
def SparseKnownSaid : Prop := sparseKnownRow.holds Tryz.pinned (OpenSpec.ofChange sparseKnownSpec)

/-- ITS FALSE NEIGHBOUR: 'it returns false'. Refute it at one input. -/
def sparseKnownWrong : ChangeSpec := { name := "sparseKnown", fn := fun _ => fun
  | [] => { results := [.lit (.bool false)], args := [] }
  | _ => none }
def SparseKnownWrongFalsely : Prop := sparseKnownRow.holds Tryz.pinned (OpenSpec.ofChange sparseKnownWrong)

/-- 'gnomonlaw26.SparseNil': WHATEVER THE INPUT: true; the input reads as it did. -/
def sparseNilSpec : ChangeSpec := { name := "sparseNil", fn := fun _ => fun
  | [d1, d2, d3, d4] => { results := [.lit (.bool true)], args := [d1, d2, d3, d4] }
  | _ => none }
def sparseNilRow : OpenClaim := { program := "ytclljjfkaljdnaagreatdoor", sum := "d8ba9caf44c6bcd86689c6a1cb3243d6448678680d4f7ec3b7f3e89565bd8743", func := "gnomon/gnomonlaw26.SparseNil", spec := "sparseNil", unfollowed := true, recurses := true, named := ["math/bits.deBruijn64tab"], plainKeys := false, apart := false, laid := [("math/bits.deBruijn64tab", laid_math_bits_deBruijn64tab)] }
def SparseNilSaid : Prop := sparseNilRow.holds Tryz.pinned (OpenSpec.ofChange sparseNilSpec)

/-- ITS FALSE NEIGHBOUR: 'it returns false'. Refute it at one input. -/
def sparseNilWrong : ChangeSpec := { name := "sparseNil", fn := fun _ => fun
  | [d1, d2, d3, d4] => { results := [.lit (.bool false)], args := [d1, d2, d3, d4] }
  | _ => none }
def SparseNilWrongFalsely : Prop := sparseNilRow.holds Tryz.pinned (OpenSpec.ofChange sparseNilWrong)

/- THE SECOND FORM. 'bulk': how many values and letters a reading holds, each counted each time it is reached (what is shared counts as often as it is met; a slice's spare places count too). A statement '..UptoSaid' is the law's where the arguments, and the package variables that the reading takes, are together of bulk at most 1048576: NARROWER than '..Said'. Prove '..Said' where nothing that the law and all that it calls make is longer than what came in: it says more and counts as full. Else prove '..UptoSaid'. A law counts once. -/
mutual
def uptoBulk {H : Type} : DataW H → Nat
  | .lit (.string bytes) => bytes.length + 1
  | .lit _ => 1
  | .nil => 1
  | .ptr d => uptoBulk d + 1
  | .slice elems spare => uptoBulkAll elems + uptoBulkAll spare + 1
  | .agg parts => uptoBulkAll parts + 1
  | .iface _ d => uptoBulk d + 1
  | .map entries => uptoBulkEntries entries + 1
  | .held _ => 1
def uptoBulkAll {H : Type} : List (DataW H) → Nat
  | [] => 0
  | d :: r => uptoBulk d + uptoBulkAll r
def uptoBulkEntries {H : Type} : List (Lit × DataW H) → Nat
  | [] => 0
  | x :: r => uptoBulkEntry x + uptoBulkEntries r
def uptoBulkEntry {H : Type} : Lit × DataW H → Nat
  | (.string bytes, d) => bytes.length + uptoBulk d + 1
  | (_, d) => uptoBulk d + 1
 end
def uptoSmall : (H : Type) → List (DataW H) → Bool := fun _ ds => decide (uptoBulkAll ds ≤ 1048576)
def OpenSpec.upto (s : _root_.Go.ChangeSpec) : _root_.Go.OpenSpec := { _root_.Go.OpenSpec.ofChange s with cond := some uptoSmall }

/-- 'gnomonlaw17.SolveNil', WHERE WHAT IT READS IS OF BULK AT MOST 1048576: true; the input reads as it did. -/
def solveNilUptoRow : OpenClaim := { program := "ytclljjfkaljdnaagreatdoor", sum := "d8ba9caf44c6bcd86689c6a1cb3243d6448678680d4f7ec3b7f3e89565bd8743", func := "gnomon/gnomonlaw17.SolveNil", spec := "solveNil", unfollowed := true, recurses := true, named := ["math/bits.deBruijn64tab"], plainKeys := false, apart := false, laid := [("math/bits.deBruijn64tab", laid_math_bits_deBruijn64tab)], narrowed := true }
def SolveNilUptoSaid : Prop := solveNilUptoRow.holds Tryz.pinned (OpenSpec.upto solveNilSpec)

/-- 'gnomonlaw18.CallsNil', WHERE WHAT IT READS IS OF BULK AT MOST 1048576: true; the input reads as it did. -/
def callsNilUptoRow : OpenClaim := { program := "ytclljjfkaljdnaagreatdoor", sum := "d8ba9caf44c6bcd86689c6a1cb3243d6448678680d4f7ec3b7f3e89565bd8743", func := "gnomon/gnomonlaw18.CallsNil", spec := "callsNil", unfollowed := true, recurses := true, named := ["math/bits.deBruijn64tab"], plainKeys := false, apart := false, laid := [("math/bits.deBruijn64tab", laid_math_bits_deBruijn64tab)], narrowed := true }
def CallsNilUptoSaid : Prop := callsNilUptoRow.holds Tryz.pinned (OpenSpec.upto callsNilSpec)

/-- 'gnomonlaw19.ModrefNil', WHERE WHAT IT READS IS OF BULK AT MOST 1048576: true; the input reads as it did. -/
def modrefNilUptoRow : OpenClaim := { program := "ytclljjfkaljdnaagreatdoor", sum := "d8ba9caf44c6bcd86689c6a1cb3243d6448678680d4f7ec3b7f3e89565bd8743", func := "gnomon/gnomonlaw19.ModrefNil", spec := "modrefNil", unfollowed := true, recurses := true, named := ["math/bits.deBruijn64tab"], plainKeys := false, apart := false, laid := [("math/bits.deBruijn64tab", laid_math_bits_deBruijn64tab)], narrowed := true }
def ModrefNilUptoSaid : Prop := modrefNilUptoRow.holds Tryz.pinned (OpenSpec.upto modrefNilSpec)

/-- 'gnomonlaw20.ChiNil', WHERE WHAT IT READS IS OF BULK AT MOST 1048576: true; the input reads as it did. -/
def chiNilUptoRow : OpenClaim := { program := "ytclljjfkaljdnaagreatdoor", sum := "d8ba9caf44c6bcd86689c6a1cb3243d6448678680d4f7ec3b7f3e89565bd8743", func := "gnomon/gnomonlaw20.ChiNil", spec := "chiNil", unfollowed := true, recurses := true, named := ["math/bits.deBruijn64tab"], plainKeys := false, apart := false, laid := [("math/bits.deBruijn64tab", laid_math_bits_deBruijn64tab)], narrowed := true }
def ChiNilUptoSaid : Prop := chiNilUptoRow.holds Tryz.pinned (OpenSpec.upto chiNilSpec)

/-- 'gnomonlaw21.MemphiNil', WHERE WHAT IT READS IS OF BULK AT MOST 1048576: true; the input reads as it did. -/
def memphiNilUptoRow : OpenClaim := { program := "ytclljjfkaljdnaagreatdoor", sum := "d8ba9caf44c6bcd86689c6a1cb3243d6448678680d4f7ec3b7f3e89565bd8743", func := "gnomon/gnomonlaw21.MemphiNil", spec := "memphiNil", unfollowed := true, recurses := true, named := ["math/bits.deBruijn64tab"], plainKeys := false, apart := false, laid := [("math/bits.deBruijn64tab", laid_math_bits_deBruijn64tab)], narrowed := true }
def MemphiNilUptoSaid : Prop := memphiNilUptoRow.holds Tryz.pinned (OpenSpec.upto memphiNilSpec)

/-- 'gnomonlaw22.MssaNil', WHERE WHAT IT READS IS OF BULK AT MOST 1048576: true; the input reads as it did. -/
def mssaNilUptoRow : OpenClaim := { program := "ytclljjfkaljdnaagreatdoor", sum := "d8ba9caf44c6bcd86689c6a1cb3243d6448678680d4f7ec3b7f3e89565bd8743", func := "gnomon/gnomonlaw22.MssaNil", spec := "mssaNil", unfollowed := true, recurses := true, named := ["math/bits.deBruijn64tab"], plainKeys := false, apart := false, laid := [("math/bits.deBruijn64tab", laid_math_bits_deBruijn64tab)], narrowed := true }
def MssaNilUptoSaid : Prop := mssaNilUptoRow.holds Tryz.pinned (OpenSpec.upto mssaNilSpec)

/-- 'gnomonlaw23.VfgNil', WHERE WHAT IT READS IS OF BULK AT MOST 1048576: true; the input reads as it did. -/
def vfgNilUptoRow : OpenClaim := { program := "ytclljjfkaljdnaagreatdoor", sum := "d8ba9caf44c6bcd86689c6a1cb3243d6448678680d4f7ec3b7f3e89565bd8743", func := "gnomon/gnomonlaw23.VfgNil", spec := "vfgNil", unfollowed := true, recurses := true, named := ["math/bits.deBruijn64tab"], plainKeys := false, apart := false, laid := [("math/bits.deBruijn64tab", laid_math_bits_deBruijn64tab)], narrowed := true }
def VfgNilUptoSaid : Prop := vfgNilUptoRow.holds Tryz.pinned (OpenSpec.upto vfgNilSpec)

/-- 'gnomonlaw26.SparseKnown', WHERE WHAT IT READS IS OF BULK AT MOST 1048576: true; the input reads as it did. -/
def sparseKnownUptoRow : OpenClaim := { program := "ytclljjfkaljdnaagreatdoor", sum := "d8ba9caf44c6bcd86689c6a1cb3243d6448678680d4f7ec3b7f3e89565bd8743", func := "gnomon/gnomonlaw26.SparseKnown", spec := "sparseKnown", unfollowed := true, recurses := true, named := ["math/bits.deBruijn64tab"], plainKeys := false, apart := false, laid := [("math/bits.deBruijn64tab", laid_math_bits_deBruijn64tab)], narrowed := true }
def SparseKnownUptoSaid : Prop := sparseKnownUptoRow.holds Tryz.pinned (OpenSpec.upto sparseKnownSpec)

/-- 'gnomonlaw26.SparseNil', WHERE WHAT IT READS IS OF BULK AT MOST 1048576: true; the input reads as it did. -/
def sparseNilUptoRow : OpenClaim := { program := "ytclljjfkaljdnaagreatdoor", sum := "d8ba9caf44c6bcd86689c6a1cb3243d6448678680d4f7ec3b7f3e89565bd8743", func := "gnomon/gnomonlaw26.SparseNil", spec := "sparseNil", unfollowed := true, recurses := true, named := ["math/bits.deBruijn64tab"], plainKeys := false, apart := false, laid := [("math/bits.deBruijn64tab", laid_math_bits_deBruijn64tab)], narrowed := true }
def SparseNilUptoSaid : Prop := sparseNilUptoRow.holds Tryz.pinned (OpenSpec.upto sparseNilSpec)

end Rows
end Go.Proofs.YtclljjfkaljdnaaGreatDoor
