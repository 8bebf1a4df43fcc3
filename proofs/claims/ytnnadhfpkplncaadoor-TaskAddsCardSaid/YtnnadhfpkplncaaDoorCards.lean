/-
  DERIVED. GIVEN WITH THE SEED: THE CARDS: each row of YtnnadhfpkplncaaDoorRows.lean that lists a variable, with what it lists TIED to the program's text (the seventh form; the later family's looks); each row that meets fmt, with fmt's text TOLD by the authors' own Lean function (tested against real Go, not proved from fmt's source: count such statements apart). THE CARD IS WHAT COUNTS. Prove the row's statement (the work); the ties are given (YtnnadhfpkplncaaDoorTie.lean); close each card by the builder's one call (the guide's Derived/Test/ToyasCard.lean, 'card_holds'). Laid BY PROGRAM, IN A SANDBOX (cutbox-door.mjs). By AI agents, Wed Nov 11 2026. No macro, syntax, notation, axiom, sorry.
-/
import Derived.Test.YtnnadhfpkplncaaDoorRows
import GoSem.ClaimSeven
namespace Go.Proofs.YtnnadhfpkplncaaDoor
namespace Rows

/-- THE TIED CARD OF 'drydocklaw22.LockMay'. -/
def lockMayCard : Claim7 := { stood := { row := lockMayRow, standIns := [], harness := (true, "533fcab9ee826771be622b89904d5b50b5166fc3b7698d3a6114000193c07e75"), looks := true }, kinds := [], alts := [], laidByText := true, laidKinds := [.handle], laidTests := true, laidLooks := .later }
def LockMayCardSaid : Prop := Claim7.holds Tryd.pinned (.plain (OpenSpec.ofChange lockMaySpec)) lockMayCard

/-- THE TIED CARD OF 'drydocklaw22.LockFree'. -/
def lockFreeCard : Claim7 := { stood := { row := lockFreeRow, standIns := [], harness := (true, "533fcab9ee826771be622b89904d5b50b5166fc3b7698d3a6114000193c07e75"), looks := true }, kinds := [], alts := [], laidByText := true, laidKinds := [.handle], laidTests := true, laidLooks := .later }
def LockFreeCardSaid : Prop := Claim7.holds Tryd.pinned (.plain (OpenSpec.ofChange lockFreeSpec)) lockFreeCard

/-- THE TIED CARD OF 'drydocklaw22.LockAlone'. -/
def lockAloneCard : Claim7 := { stood := { row := lockAloneRow, standIns := [], harness := (true, "533fcab9ee826771be622b89904d5b50b5166fc3b7698d3a6114000193c07e75"), looks := true }, kinds := [], alts := [], laidByText := true, laidKinds := [.handle], laidTests := true, laidLooks := .later }
def LockAloneCardSaid : Prop := Claim7.holds Tryd.pinned (.plain (OpenSpec.ofChange lockAloneSpec)) lockAloneCard

/-- THE TIED CARD OF 'drydocklaw22.LockRuns'. -/
def lockRunsCard : Claim7 := { stood := { row := lockRunsRow, standIns := [], harness := (true, "533fcab9ee826771be622b89904d5b50b5166fc3b7698d3a6114000193c07e75"), looks := true }, kinds := [], alts := [], laidByText := true, laidKinds := [.handle], laidTests := true, laidLooks := .later }
def LockRunsCardSaid : Prop := Claim7.holds Tryd.pinned (.plain (OpenSpec.ofChange lockRunsSpec)) lockRunsCard

/-- THE TIED CARD OF 'drydocklaw23.TaskAdds'. -/
def taskAddsCard : Claim7 := { stood := { row := taskAddsRow, standIns := [], harness := (true, "533fcab9ee826771be622b89904d5b50b5166fc3b7698d3a6114000193c07e75"), looks := true }, kinds := [], alts := [], laidByText := true, laidKinds := [.handle], laidTests := true, laidLooks := .later }
def TaskAddsCardSaid : Prop := Claim7.holds Tryd.pinned (.plain (OpenSpec.ofChange taskAddsSpec)) taskAddsCard

/-- THE SECOND FORM's CARD OF 'drydocklaw22.LockMay'. -/
def lockMayUptoCard : Claim7 := { stood := { row := lockMayUptoRow, standIns := [], harness := (true, "533fcab9ee826771be622b89904d5b50b5166fc3b7698d3a6114000193c07e75"), looks := true }, kinds := [], alts := [], laidByText := true, laidKinds := [.handle], laidTests := true, laidLooks := .later }
def LockMayUptoCardSaid : Prop := Claim7.holds Tryd.pinned (.plain (OpenSpec.upto lockMaySpec)) lockMayUptoCard

/-- THE SECOND FORM's CARD OF 'drydocklaw22.LockFree'. -/
def lockFreeUptoCard : Claim7 := { stood := { row := lockFreeUptoRow, standIns := [], harness := (true, "533fcab9ee826771be622b89904d5b50b5166fc3b7698d3a6114000193c07e75"), looks := true }, kinds := [], alts := [], laidByText := true, laidKinds := [.handle], laidTests := true, laidLooks := .later }
def LockFreeUptoCardSaid : Prop := Claim7.holds Tryd.pinned (.plain (OpenSpec.upto lockFreeSpec)) lockFreeUptoCard

/-- THE SECOND FORM's CARD OF 'drydocklaw22.LockAlone'. -/
def lockAloneUptoCard : Claim7 := { stood := { row := lockAloneUptoRow, standIns := [], harness := (true, "533fcab9ee826771be622b89904d5b50b5166fc3b7698d3a6114000193c07e75"), looks := true }, kinds := [], alts := [], laidByText := true, laidKinds := [.handle], laidTests := true, laidLooks := .later }
def LockAloneUptoCardSaid : Prop := Claim7.holds Tryd.pinned (.plain (OpenSpec.upto lockAloneSpec)) lockAloneUptoCard

/-- THE SECOND FORM's CARD OF 'drydocklaw22.LockRuns'. -/
def lockRunsUptoCard : Claim7 := { stood := { row := lockRunsUptoRow, standIns := [], harness := (true, "533fcab9ee826771be622b89904d5b50b5166fc3b7698d3a6114000193c07e75"), looks := true }, kinds := [], alts := [], laidByText := true, laidKinds := [.handle], laidTests := true, laidLooks := .later }
def LockRunsUptoCardSaid : Prop := Claim7.holds Tryd.pinned (.plain (OpenSpec.upto lockRunsSpec)) lockRunsUptoCard

/-- THE SECOND FORM's CARD OF 'drydocklaw23.TaskAdds'. -/
def taskAddsUptoCard : Claim7 := { stood := { row := taskAddsUptoRow, standIns := [], harness := (true, "533fcab9ee826771be622b89904d5b50b5166fc3b7698d3a6114000193c07e75"), looks := true }, kinds := [], alts := [], laidByText := true, laidKinds := [.handle], laidTests := true, laidLooks := .later }
def TaskAddsUptoCardSaid : Prop := Claim7.holds Tryd.pinned (.plain (OpenSpec.upto taskAddsSpec)) taskAddsUptoCard
end Rows
end Go.Proofs.YtnnadhfpkplncaaDoor
