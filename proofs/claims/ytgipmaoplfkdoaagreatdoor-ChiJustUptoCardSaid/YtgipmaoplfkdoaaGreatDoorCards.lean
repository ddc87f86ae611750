/-
  DERIVED. GIVEN WITH THE SEED: THE CARDS: each row of YtgipmaoplfkdoaaGreatDoorRows.lean that lists a variable, with what it lists TIED to the program's text (the seventh form; the later family's looks); each row that meets fmt, with fmt's text TOLD by the authors' own Lean function (tested against real Go, not proved from fmt's source: count such statements apart). THE CARD IS WHAT COUNTS. Prove the row's statement (the work); the ties are given (YtgipmaoplfkdoaaGreatDoorTie.lean); close each card by the builder's one call (the guide's Derived/Test/ToyasCard.lean, 'card_holds'). Laid BY PROGRAM, IN A SANDBOX (cutbox-door.mjs). By AI agents, Wed Nov 11 2026. No macro, syntax, notation, axiom, sorry.
-/
import Derived.Test.YtgipmaoplfkdoaaGreatDoorRows
import GoSem.ClaimSeven
namespace Go.Proofs.YtgipmaoplfkdoaaGreatDoor
namespace Rows

/-- THE TIED CARD OF 'gnomonlaw17.SolveFulfils'. -/
def solveFulfilsCard : Claim7 := { stood := { row := solveFulfilsRow, standIns := [], harness := (true, "7a0846b2740ccc0515e7c977ec76e54f62949b7e418cb724c716f40b8cc3edf8"), looks := false }, kinds := [], alts := [], laidByText := true, laidKinds := [.data], laidTests := true, laidLooks := .later }
def SolveFulfilsCardSaid : Prop := Claim7.holds Tryz.pinned (.plain (OpenSpec.ofChange solveFulfilsSpec)) solveFulfilsCard

/-- THE TIED CARD OF 'gnomonlaw17.SolveGrows'. -/
def solveGrowsCard : Claim7 := { stood := { row := solveGrowsRow, standIns := [], harness := (true, "7a0846b2740ccc0515e7c977ec76e54f62949b7e418cb724c716f40b8cc3edf8"), looks := false }, kinds := [], alts := [], laidByText := true, laidKinds := [.data], laidTests := true, laidLooks := .later }
def SolveGrowsCardSaid : Prop := Claim7.holds Tryz.pinned (.plain (OpenSpec.ofChange solveGrowsSpec)) solveGrowsCard

/-- THE TIED CARD OF 'gnomonlaw17.SolveOwn'. -/
def solveOwnCard : Claim7 := { stood := { row := solveOwnRow, standIns := [], harness := (true, "7a0846b2740ccc0515e7c977ec76e54f62949b7e418cb724c716f40b8cc3edf8"), looks := false }, kinds := [], alts := [], laidByText := true, laidKinds := [.data], laidTests := true, laidLooks := .later }
def SolveOwnCardSaid : Prop := Claim7.holds Tryz.pinned (.plain (OpenSpec.ofChange solveOwnSpec)) solveOwnCard

/-- THE TIED CARD OF 'gnomonlaw18.CallsChain'. -/
def callsChainCard : Claim7 := { stood := { row := callsChainRow, standIns := [], harness := (true, "7a0846b2740ccc0515e7c977ec76e54f62949b7e418cb724c716f40b8cc3edf8"), looks := false }, kinds := [], alts := [], laidByText := true, laidKinds := [.data], laidTests := true, laidLooks := .later }
def CallsChainCardSaid : Prop := Claim7.holds Tryz.pinned (.plain (OpenSpec.ofChange callsChainSpec)) callsChainCard

/-- THE TIED CARD OF 'gnomonlaw18.CallsBoth'. -/
def callsBothCard : Claim7 := { stood := { row := callsBothRow, standIns := [], harness := (true, "7a0846b2740ccc0515e7c977ec76e54f62949b7e418cb724c716f40b8cc3edf8"), looks := false }, kinds := [], alts := [], laidByText := true, laidKinds := [.data], laidTests := true, laidLooks := .later }
def CallsBothCardSaid : Prop := Claim7.holds Tryz.pinned (.plain (OpenSpec.ofChange callsBothSpec)) callsBothCard

/-- THE TIED CARD OF 'gnomonlaw19.ModrefCalls'. -/
def modrefCallsCard : Claim7 := { stood := { row := modrefCallsRow, standIns := [], harness := (true, "7a0846b2740ccc0515e7c977ec76e54f62949b7e418cb724c716f40b8cc3edf8"), looks := false }, kinds := [], alts := [], laidByText := true, laidKinds := [.data], laidTests := true, laidLooks := .later }
def ModrefCallsCardSaid : Prop := Claim7.holds Tryz.pinned (.plain (OpenSpec.ofChange modrefCallsSpec)) modrefCallsCard

/-- THE TIED CARD OF 'gnomonlaw19.ModrefNeed'. -/
def modrefNeedCard : Claim7 := { stood := { row := modrefNeedRow, standIns := [], harness := (true, "7a0846b2740ccc0515e7c977ec76e54f62949b7e418cb724c716f40b8cc3edf8"), looks := false }, kinds := [], alts := [], laidByText := true, laidKinds := [.data], laidTests := true, laidLooks := .later }
def ModrefNeedCardSaid : Prop := Claim7.holds Tryz.pinned (.plain (OpenSpec.ofChange modrefNeedSpec)) modrefNeedCard

/-- THE TIED CARD OF 'gnomonlaw20.ChiBounds'. -/
def chiBoundsCard : Claim7 := { stood := { row := chiBoundsRow, standIns := [], harness := (true, "7a0846b2740ccc0515e7c977ec76e54f62949b7e418cb724c716f40b8cc3edf8"), looks := false }, kinds := [], alts := [], laidByText := true, laidKinds := [.data], laidTests := true, laidLooks := .later }
def ChiBoundsCardSaid : Prop := Claim7.holds Tryz.pinned (.plain (OpenSpec.ofChange chiBoundsSpec)) chiBoundsCard

/-- THE TIED CARD OF 'gnomonlaw20.ChiJust'. -/
def chiJustCard : Claim7 := { stood := { row := chiJustRow, standIns := [], harness := (true, "7a0846b2740ccc0515e7c977ec76e54f62949b7e418cb724c716f40b8cc3edf8"), looks := false }, kinds := [], alts := [], laidByText := true, laidKinds := [.data], laidTests := true, laidLooks := .later }
def ChiJustCardSaid : Prop := Claim7.holds Tryz.pinned (.plain (OpenSpec.ofChange chiJustSpec)) chiJustCard

/-- THE SECOND FORM's CARD OF 'gnomonlaw17.SolveFulfils'. -/
def solveFulfilsUptoCard : Claim7 := { stood := { row := solveFulfilsUptoRow, standIns := [], harness := (true, "7a0846b2740ccc0515e7c977ec76e54f62949b7e418cb724c716f40b8cc3edf8"), looks := false }, kinds := [], alts := [], laidByText := true, laidKinds := [.data], laidTests := true, laidLooks := .later }
def SolveFulfilsUptoCardSaid : Prop := Claim7.holds Tryz.pinned (.plain (OpenSpec.upto solveFulfilsSpec)) solveFulfilsUptoCard

/-- THE SECOND FORM's CARD OF 'gnomonlaw17.SolveGrows'. -/
def solveGrowsUptoCard : Claim7 := { stood := { row := solveGrowsUptoRow, standIns := [], harness := (true, "7a0846b2740ccc0515e7c977ec76e54f62949b7e418cb724c716f40b8cc3edf8"), looks := false }, kinds := [], alts := [], laidByText := true, laidKinds := [.data], laidTests := true, laidLooks := .later }
def SolveGrowsUptoCardSaid : Prop := Claim7.holds Tryz.pinned (.plain (OpenSpec.upto solveGrowsSpec)) solveGrowsUptoCard

/-- THE SECOND FORM's CARD OF 'gnomonlaw17.SolveOwn'. -/
def solveOwnUptoCard : Claim7 := { stood := { row := solveOwnUptoRow, standIns := [], harness := (true, "7a0846b2740ccc0515e7c977ec76e54f62949b7e418cb724c716f40b8cc3edf8"), looks := false }, kinds := [], alts := [], laidByText := true, laidKinds := [.data], laidTests := true, laidLooks := .later }
def SolveOwnUptoCardSaid : Prop := Claim7.holds Tryz.pinned (.plain (OpenSpec.upto solveOwnSpec)) solveOwnUptoCard

/-- THE SECOND FORM's CARD OF 'gnomonlaw18.CallsChain'. -/
def callsChainUptoCard : Claim7 := { stood := { row := callsChainUptoRow, standIns := [], harness := (true, "7a0846b2740ccc0515e7c977ec76e54f62949b7e418cb724c716f40b8cc3edf8"), looks := false }, kinds := [], alts := [], laidByText := true, laidKinds := [.data], laidTests := true, laidLooks := .later }
def CallsChainUptoCardSaid : Prop := Claim7.holds Tryz.pinned (.plain (OpenSpec.upto callsChainSpec)) callsChainUptoCard

/-- THE SECOND FORM's CARD OF 'gnomonlaw18.CallsBoth'. -/
def callsBothUptoCard : Claim7 := { stood := { row := callsBothUptoRow, standIns := [], harness := (true, "7a0846b2740ccc0515e7c977ec76e54f62949b7e418cb724c716f40b8cc3edf8"), looks := false }, kinds := [], alts := [], laidByText := true, laidKinds := [.data], laidTests := true, laidLooks := .later }
def CallsBothUptoCardSaid : Prop := Claim7.holds Tryz.pinned (.plain (OpenSpec.upto callsBothSpec)) callsBothUptoCard

/-- THE SECOND FORM's CARD OF 'gnomonlaw19.ModrefCalls'. -/
def modrefCallsUptoCard : Claim7 := { stood := { row := modrefCallsUptoRow, standIns := [], harness := (true, "7a0846b2740ccc0515e7c977ec76e54f62949b7e418cb724c716f40b8cc3edf8"), looks := false }, kinds := [], alts := [], laidByText := true, laidKinds := [.data], laidTests := true, laidLooks := .later }
def ModrefCallsUptoCardSaid : Prop := Claim7.holds Tryz.pinned (.plain (OpenSpec.upto modrefCallsSpec)) modrefCallsUptoCard

/-- THE SECOND FORM's CARD OF 'gnomonlaw19.ModrefNeed'. -/
def modrefNeedUptoCard : Claim7 := { stood := { row := modrefNeedUptoRow, standIns := [], harness := (true, "7a0846b2740ccc0515e7c977ec76e54f62949b7e418cb724c716f40b8cc3edf8"), looks := false }, kinds := [], alts := [], laidByText := true, laidKinds := [.data], laidTests := true, laidLooks := .later }
def ModrefNeedUptoCardSaid : Prop := Claim7.holds Tryz.pinned (.plain (OpenSpec.upto modrefNeedSpec)) modrefNeedUptoCard

/-- THE SECOND FORM's CARD OF 'gnomonlaw20.ChiBounds'. -/
def chiBoundsUptoCard : Claim7 := { stood := { row := chiBoundsUptoRow, standIns := [], harness := (true, "7a0846b2740ccc0515e7c977ec76e54f62949b7e418cb724c716f40b8cc3edf8"), looks := false }, kinds := [], alts := [], laidByText := true, laidKinds := [.data], laidTests := true, laidLooks := .later }
def ChiBoundsUptoCardSaid : Prop := Claim7.holds Tryz.pinned (.plain (OpenSpec.upto chiBoundsSpec)) chiBoundsUptoCard

/-- THE SECOND FORM's CARD OF 'gnomonlaw20.ChiJust'. -/
def chiJustUptoCard : Claim7 := { stood := { row := chiJustUptoRow, standIns := [], harness := (true, "7a0846b2740ccc0515e7c977ec76e54f62949b7e418cb724c716f40b8cc3edf8"), looks := false }, kinds := [], alts := [], laidByText := true, laidKinds := [.data], laidTests := true, laidLooks := .later }
def ChiJustUptoCardSaid : Prop := Claim7.holds Tryz.pinned (.plain (OpenSpec.upto chiJustSpec)) chiJustUptoCard
end Rows
end Go.Proofs.YtgipmaoplfkdoaaGreatDoor
