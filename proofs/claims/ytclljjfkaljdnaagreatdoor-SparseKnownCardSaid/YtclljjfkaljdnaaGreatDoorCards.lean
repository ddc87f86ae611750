/-
  DERIVED. GIVEN WITH THE SEED: THE CARDS: each row of YtclljjfkaljdnaaGreatDoorRows.lean that lists a variable, with what it lists TIED to the program's text (the seventh form; the later family's looks); each row that meets fmt, with fmt's text TOLD by the authors' own Lean function (tested against real Go, not proved from fmt's source: count such statements apart). THE CARD IS WHAT COUNTS. Prove the row's statement (the work); the ties are given (YtclljjfkaljdnaaGreatDoorTie.lean); close each card by the builder's one call (the guide's Derived/Test/ToyasCard.lean, 'card_holds'). Laid BY PROGRAM, IN A SANDBOX (cutbox-door.mjs). By AI agents, Wed Nov 11 2026. No macro, syntax, notation, axiom, sorry.
-/
import Derived.Test.YtclljjfkaljdnaaGreatDoorRows
import GoSem.ClaimSeven
namespace Go.Proofs.YtclljjfkaljdnaaGreatDoor
namespace Rows

/-- THE TIED CARD OF 'gnomonlaw17.SolveNil'. -/
def solveNilCard : Claim7 := { stood := { row := solveNilRow, standIns := [], harness := (true, "8601c3a19fd7b9414215a23257b9cb42c3d4955cdb782de4827c98d1c9db54e8"), looks := false }, kinds := [], alts := [], laidByText := true, laidKinds := [.data], laidTests := true, laidLooks := .later }
def SolveNilCardSaid : Prop := Claim7.holds Tryz.pinned (.plain (OpenSpec.ofChange solveNilSpec)) solveNilCard

/-- THE TIED CARD OF 'gnomonlaw18.CallsNil'. -/
def callsNilCard : Claim7 := { stood := { row := callsNilRow, standIns := [], harness := (true, "8601c3a19fd7b9414215a23257b9cb42c3d4955cdb782de4827c98d1c9db54e8"), looks := false }, kinds := [], alts := [], laidByText := true, laidKinds := [.data], laidTests := true, laidLooks := .later }
def CallsNilCardSaid : Prop := Claim7.holds Tryz.pinned (.plain (OpenSpec.ofChange callsNilSpec)) callsNilCard

/-- THE TIED CARD OF 'gnomonlaw19.ModrefNil'. -/
def modrefNilCard : Claim7 := { stood := { row := modrefNilRow, standIns := [], harness := (true, "8601c3a19fd7b9414215a23257b9cb42c3d4955cdb782de4827c98d1c9db54e8"), looks := false }, kinds := [], alts := [], laidByText := true, laidKinds := [.data], laidTests := true, laidLooks := .later }
def ModrefNilCardSaid : Prop := Claim7.holds Tryz.pinned (.plain (OpenSpec.ofChange modrefNilSpec)) modrefNilCard

/-- THE TIED CARD OF 'gnomonlaw20.ChiNil'. -/
def chiNilCard : Claim7 := { stood := { row := chiNilRow, standIns := [], harness := (true, "8601c3a19fd7b9414215a23257b9cb42c3d4955cdb782de4827c98d1c9db54e8"), looks := false }, kinds := [], alts := [], laidByText := true, laidKinds := [.data], laidTests := true, laidLooks := .later }
def ChiNilCardSaid : Prop := Claim7.holds Tryz.pinned (.plain (OpenSpec.ofChange chiNilSpec)) chiNilCard

/-- THE TIED CARD OF 'gnomonlaw21.MemphiNil'. -/
def memphiNilCard : Claim7 := { stood := { row := memphiNilRow, standIns := [], harness := (true, "8601c3a19fd7b9414215a23257b9cb42c3d4955cdb782de4827c98d1c9db54e8"), looks := false }, kinds := [], alts := [], laidByText := true, laidKinds := [.data], laidTests := true, laidLooks := .later }
def MemphiNilCardSaid : Prop := Claim7.holds Tryz.pinned (.plain (OpenSpec.ofChange memphiNilSpec)) memphiNilCard

/-- THE TIED CARD OF 'gnomonlaw22.MssaNil'. -/
def mssaNilCard : Claim7 := { stood := { row := mssaNilRow, standIns := [], harness := (true, "8601c3a19fd7b9414215a23257b9cb42c3d4955cdb782de4827c98d1c9db54e8"), looks := false }, kinds := [], alts := [], laidByText := true, laidKinds := [.data], laidTests := true, laidLooks := .later }
def MssaNilCardSaid : Prop := Claim7.holds Tryz.pinned (.plain (OpenSpec.ofChange mssaNilSpec)) mssaNilCard

/-- THE TIED CARD OF 'gnomonlaw23.VfgNil'. -/
def vfgNilCard : Claim7 := { stood := { row := vfgNilRow, standIns := [], harness := (true, "8601c3a19fd7b9414215a23257b9cb42c3d4955cdb782de4827c98d1c9db54e8"), looks := false }, kinds := [], alts := [], laidByText := true, laidKinds := [.data], laidTests := true, laidLooks := .later }
def VfgNilCardSaid : Prop := Claim7.holds Tryz.pinned (.plain (OpenSpec.ofChange vfgNilSpec)) vfgNilCard

/-- THE TIED CARD OF 'gnomonlaw26.SparseKnown'. -/
def sparseKnownCard : Claim7 := { stood := { row := sparseKnownRow, standIns := [], harness := (true, "8601c3a19fd7b9414215a23257b9cb42c3d4955cdb782de4827c98d1c9db54e8"), looks := false }, kinds := [], alts := [], laidByText := true, laidKinds := [.data], laidTests := true, laidLooks := .later }
def SparseKnownCardSaid : Prop := Claim7.holds Tryz.pinned (.plain (OpenSpec.ofChange sparseKnownSpec)) sparseKnownCard

/-- THE TIED CARD OF 'gnomonlaw26.SparseNil'. -/
def sparseNilCard : Claim7 := { stood := { row := sparseNilRow, standIns := [], harness := (true, "8601c3a19fd7b9414215a23257b9cb42c3d4955cdb782de4827c98d1c9db54e8"), looks := false }, kinds := [], alts := [], laidByText := true, laidKinds := [.data], laidTests := true, laidLooks := .later }
def SparseNilCardSaid : Prop := Claim7.holds Tryz.pinned (.plain (OpenSpec.ofChange sparseNilSpec)) sparseNilCard

/-- THE SECOND FORM's CARD OF 'gnomonlaw17.SolveNil'. -/
def solveNilUptoCard : Claim7 := { stood := { row := solveNilUptoRow, standIns := [], harness := (true, "8601c3a19fd7b9414215a23257b9cb42c3d4955cdb782de4827c98d1c9db54e8"), looks := false }, kinds := [], alts := [], laidByText := true, laidKinds := [.data], laidTests := true, laidLooks := .later }
def SolveNilUptoCardSaid : Prop := Claim7.holds Tryz.pinned (.plain (OpenSpec.upto solveNilSpec)) solveNilUptoCard

/-- THE SECOND FORM's CARD OF 'gnomonlaw18.CallsNil'. -/
def callsNilUptoCard : Claim7 := { stood := { row := callsNilUptoRow, standIns := [], harness := (true, "8601c3a19fd7b9414215a23257b9cb42c3d4955cdb782de4827c98d1c9db54e8"), looks := false }, kinds := [], alts := [], laidByText := true, laidKinds := [.data], laidTests := true, laidLooks := .later }
def CallsNilUptoCardSaid : Prop := Claim7.holds Tryz.pinned (.plain (OpenSpec.upto callsNilSpec)) callsNilUptoCard

/-- THE SECOND FORM's CARD OF 'gnomonlaw19.ModrefNil'. -/
def modrefNilUptoCard : Claim7 := { stood := { row := modrefNilUptoRow, standIns := [], harness := (true, "8601c3a19fd7b9414215a23257b9cb42c3d4955cdb782de4827c98d1c9db54e8"), looks := false }, kinds := [], alts := [], laidByText := true, laidKinds := [.data], laidTests := true, laidLooks := .later }
def ModrefNilUptoCardSaid : Prop := Claim7.holds Tryz.pinned (.plain (OpenSpec.upto modrefNilSpec)) modrefNilUptoCard

/-- THE SECOND FORM's CARD OF 'gnomonlaw20.ChiNil'. -/
def chiNilUptoCard : Claim7 := { stood := { row := chiNilUptoRow, standIns := [], harness := (true, "8601c3a19fd7b9414215a23257b9cb42c3d4955cdb782de4827c98d1c9db54e8"), looks := false }, kinds := [], alts := [], laidByText := true, laidKinds := [.data], laidTests := true, laidLooks := .later }
def ChiNilUptoCardSaid : Prop := Claim7.holds Tryz.pinned (.plain (OpenSpec.upto chiNilSpec)) chiNilUptoCard

/-- THE SECOND FORM's CARD OF 'gnomonlaw21.MemphiNil'. -/
def memphiNilUptoCard : Claim7 := { stood := { row := memphiNilUptoRow, standIns := [], harness := (true, "8601c3a19fd7b9414215a23257b9cb42c3d4955cdb782de4827c98d1c9db54e8"), looks := false }, kinds := [], alts := [], laidByText := true, laidKinds := [.data], laidTests := true, laidLooks := .later }
def MemphiNilUptoCardSaid : Prop := Claim7.holds Tryz.pinned (.plain (OpenSpec.upto memphiNilSpec)) memphiNilUptoCard

/-- THE SECOND FORM's CARD OF 'gnomonlaw22.MssaNil'. -/
def mssaNilUptoCard : Claim7 := { stood := { row := mssaNilUptoRow, standIns := [], harness := (true, "8601c3a19fd7b9414215a23257b9cb42c3d4955cdb782de4827c98d1c9db54e8"), looks := false }, kinds := [], alts := [], laidByText := true, laidKinds := [.data], laidTests := true, laidLooks := .later }
def MssaNilUptoCardSaid : Prop := Claim7.holds Tryz.pinned (.plain (OpenSpec.upto mssaNilSpec)) mssaNilUptoCard

/-- THE SECOND FORM's CARD OF 'gnomonlaw23.VfgNil'. -/
def vfgNilUptoCard : Claim7 := { stood := { row := vfgNilUptoRow, standIns := [], harness := (true, "8601c3a19fd7b9414215a23257b9cb42c3d4955cdb782de4827c98d1c9db54e8"), looks := false }, kinds := [], alts := [], laidByText := true, laidKinds := [.data], laidTests := true, laidLooks := .later }
def VfgNilUptoCardSaid : Prop := Claim7.holds Tryz.pinned (.plain (OpenSpec.upto vfgNilSpec)) vfgNilUptoCard

/-- THE SECOND FORM's CARD OF 'gnomonlaw26.SparseKnown'. -/
def sparseKnownUptoCard : Claim7 := { stood := { row := sparseKnownUptoRow, standIns := [], harness := (true, "8601c3a19fd7b9414215a23257b9cb42c3d4955cdb782de4827c98d1c9db54e8"), looks := false }, kinds := [], alts := [], laidByText := true, laidKinds := [.data], laidTests := true, laidLooks := .later }
def SparseKnownUptoCardSaid : Prop := Claim7.holds Tryz.pinned (.plain (OpenSpec.upto sparseKnownSpec)) sparseKnownUptoCard

/-- THE SECOND FORM's CARD OF 'gnomonlaw26.SparseNil'. -/
def sparseNilUptoCard : Claim7 := { stood := { row := sparseNilUptoRow, standIns := [], harness := (true, "8601c3a19fd7b9414215a23257b9cb42c3d4955cdb782de4827c98d1c9db54e8"), looks := false }, kinds := [], alts := [], laidByText := true, laidKinds := [.data], laidTests := true, laidLooks := .later }
def SparseNilUptoCardSaid : Prop := Claim7.holds Tryz.pinned (.plain (OpenSpec.upto sparseNilSpec)) sparseNilUptoCard
end Rows
end Go.Proofs.YtclljjfkaljdnaaGreatDoor
