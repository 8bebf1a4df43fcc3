/-
  DERIVED. GIVEN WITH THE SEED: THE CARDS: each row of YtdeopklgdemnfaaDoorRows.lean that lists a variable, with what it lists TIED to the program's text (the seventh form; the later family's looks); each row that meets fmt, with fmt's text TOLD by the authors' own Lean function (tested against real Go, not proved from fmt's source: count such statements apart). THE CARD IS WHAT COUNTS. Prove the row's statement (the work); the ties are given (YtdeopklgdemnfaaDoorTie.lean); close each card by the builder's one call (the guide's Derived/Test/ToyasCard.lean, 'card_holds'). Laid BY PROGRAM, IN A SANDBOX (cutbox-door.mjs). By AI agents, Wed Nov 11 2026. No macro, syntax, notation, axiom, sorry.
-/
import Derived.Test.YtdeopklgdemnfaaDoorRows
import GoSem.ClaimSeven
namespace Go.Proofs.YtdeopklgdemnfaaDoor
namespace Rows

/-- THE TIED CARD OF 'drydocklaw07.GfInverses'. -/
def gfInversesCard : Claim7 := { stood := { row := gfInversesRow, standIns := [], harness := (true, "ba6604b1d1f8637130f36f0611bbfc224d3480363dcc2f933ecd2bade12206bc"), looks := true }, kinds := [], alts := [], laidByText := true, laidKinds := [.handle], laidTests := true, laidLooks := .later }
def GfInversesCardSaid : Prop := Claim7.holds Tryd.pinned (.plain (OpenSpec.ofChange gfInversesSpec)) gfInversesCard

/-- THE TIED CARD OF 'drydocklaw07.GfPowers'. -/
def gfPowersCard : Claim7 := { stood := { row := gfPowersRow, standIns := [], harness := (true, "ba6604b1d1f8637130f36f0611bbfc224d3480363dcc2f933ecd2bade12206bc"), looks := true }, kinds := [], alts := [], laidByText := true, laidKinds := [.handle], laidTests := true, laidLooks := .later }
def GfPowersCardSaid : Prop := Claim7.holds Tryd.pinned (.plain (OpenSpec.ofChange gfPowersSpec)) gfPowersCard

/-- THE TIED CARD OF 'drydocklaw07.GfExponents'. -/
def gfExponentsCard : Claim7 := { stood := { row := gfExponentsRow, standIns := [], harness := (true, "ba6604b1d1f8637130f36f0611bbfc224d3480363dcc2f933ecd2bade12206bc"), looks := true }, kinds := [], alts := [], laidByText := true, laidKinds := [.handle], laidTests := true, laidLooks := .later }
def GfExponentsCardSaid : Prop := Claim7.holds Tryd.pinned (.plain (OpenSpec.ofChange gfExponentsSpec)) gfExponentsCard

/-- THE TIED CARD OF 'drydocklaw07.GfReckons'. -/
def gfReckonsCard : Claim7 := { stood := { row := gfReckonsRow, standIns := [], harness := (true, "ba6604b1d1f8637130f36f0611bbfc224d3480363dcc2f933ecd2bade12206bc"), looks := true }, kinds := [], alts := [], laidByText := true, laidKinds := [.handle], laidTests := true, laidLooks := .later }
def GfReckonsCardSaid : Prop := Claim7.holds Tryd.pinned (.plain (OpenSpec.ofChange gfReckonsSpec)) gfReckonsCard

/-- THE TIED CARD OF 'drydocklaw08.RsRows'. -/
def rsRowsCard : Claim7 := { stood := { row := rsRowsRow, standIns := [], harness := (true, "ba6604b1d1f8637130f36f0611bbfc224d3480363dcc2f933ecd2bade12206bc"), looks := true }, kinds := [], alts := [], laidByText := true, laidKinds := [.handle], laidTests := true, laidLooks := .later }
def RsRowsCardSaid : Prop := Claim7.holds Tryd.pinned (.plain (OpenSpec.ofChange rsRowsSpec)) rsRowsCard

/-- THE TIED CARD OF 'drydocklaw08.RsEncodes'. -/
def rsEncodesCard : Claim7 := { stood := { row := rsEncodesRow, standIns := [], harness := (true, "ba6604b1d1f8637130f36f0611bbfc224d3480363dcc2f933ecd2bade12206bc"), looks := true }, kinds := [], alts := [], laidByText := true, laidKinds := [.handle], laidTests := true, laidLooks := .later }
def RsEncodesCardSaid : Prop := Claim7.holds Tryd.pinned (.plain (OpenSpec.ofChange rsEncodesSpec)) rsEncodesCard

/-- THE TIED CARD OF 'drydocklaw08.RsMatrix'. -/
def rsMatrixCard : Claim7 := { stood := { row := rsMatrixRow, standIns := [], harness := (true, "ba6604b1d1f8637130f36f0611bbfc224d3480363dcc2f933ecd2bade12206bc"), looks := true }, kinds := [], alts := [], laidByText := true, laidKinds := [.handle], laidTests := true, laidLooks := .later }
def RsMatrixCardSaid : Prop := Claim7.holds Tryd.pinned (.plain (OpenSpec.ofChange rsMatrixSpec)) rsMatrixCard

/-- THE TIED CARD OF 'drydocklaw08.RsSplits'. -/
def rsSplitsCard : Claim7 := { stood := { row := rsSplitsRow, standIns := [], harness := (true, "ba6604b1d1f8637130f36f0611bbfc224d3480363dcc2f933ecd2bade12206bc"), looks := true }, kinds := [], alts := [], laidByText := true, laidKinds := [.handle], laidTests := true, laidLooks := .later }
def RsSplitsCardSaid : Prop := Claim7.holds Tryd.pinned (.plain (OpenSpec.ofChange rsSplitsSpec)) rsSplitsCard

/-- THE TIED CARD OF 'drydocklaw08.RsParts'. -/
def rsPartsCard : Claim7 := { stood := { row := rsPartsRow, standIns := [], harness := (true, "ba6604b1d1f8637130f36f0611bbfc224d3480363dcc2f933ecd2bade12206bc"), looks := true }, kinds := [], alts := [], laidByText := true, laidKinds := [.handle], laidTests := true, laidLooks := .later }
def RsPartsCardSaid : Prop := Claim7.holds Tryd.pinned (.plain (OpenSpec.ofChange rsPartsSpec)) rsPartsCard

/-- THE TIED CARD OF 'drydocklaw08.RsLost'. -/
def rsLostCard : Claim7 := { stood := { row := rsLostRow, standIns := [], harness := (true, "ba6604b1d1f8637130f36f0611bbfc224d3480363dcc2f933ecd2bade12206bc"), looks := true }, kinds := [], alts := [], laidByText := true, laidKinds := [.handle], laidTests := true, laidLooks := .later }
def RsLostCardSaid : Prop := Claim7.holds Tryd.pinned (.plain (OpenSpec.ofChange rsLostSpec)) rsLostCard

/-- THE TIED CARD OF 'drydocklaw08.RsTexts'. -/
def rsTextsCard : Claim7 := { stood := { row := rsTextsRow, standIns := [], harness := (true, "ba6604b1d1f8637130f36f0611bbfc224d3480363dcc2f933ecd2bade12206bc"), looks := true }, kinds := [], alts := [], laidByText := true, laidKinds := [.handle], laidTests := true, laidLooks := .later }
def RsTextsCardSaid : Prop := Claim7.holds Tryd.pinned (.plain (OpenSpec.ofChange rsTextsSpec)) rsTextsCard

/-- THE SECOND FORM's CARD OF 'drydocklaw07.GfInverses'. -/
def gfInversesUptoCard : Claim7 := { stood := { row := gfInversesUptoRow, standIns := [], harness := (true, "ba6604b1d1f8637130f36f0611bbfc224d3480363dcc2f933ecd2bade12206bc"), looks := true }, kinds := [], alts := [], laidByText := true, laidKinds := [.handle], laidTests := true, laidLooks := .later }
def GfInversesUptoCardSaid : Prop := Claim7.holds Tryd.pinned (.plain (OpenSpec.upto gfInversesSpec)) gfInversesUptoCard

/-- THE SECOND FORM's CARD OF 'drydocklaw07.GfPowers'. -/
def gfPowersUptoCard : Claim7 := { stood := { row := gfPowersUptoRow, standIns := [], harness := (true, "ba6604b1d1f8637130f36f0611bbfc224d3480363dcc2f933ecd2bade12206bc"), looks := true }, kinds := [], alts := [], laidByText := true, laidKinds := [.handle], laidTests := true, laidLooks := .later }
def GfPowersUptoCardSaid : Prop := Claim7.holds Tryd.pinned (.plain (OpenSpec.upto gfPowersSpec)) gfPowersUptoCard

/-- THE SECOND FORM's CARD OF 'drydocklaw07.GfExponents'. -/
def gfExponentsUptoCard : Claim7 := { stood := { row := gfExponentsUptoRow, standIns := [], harness := (true, "ba6604b1d1f8637130f36f0611bbfc224d3480363dcc2f933ecd2bade12206bc"), looks := true }, kinds := [], alts := [], laidByText := true, laidKinds := [.handle], laidTests := true, laidLooks := .later }
def GfExponentsUptoCardSaid : Prop := Claim7.holds Tryd.pinned (.plain (OpenSpec.upto gfExponentsSpec)) gfExponentsUptoCard

/-- THE SECOND FORM's CARD OF 'drydocklaw07.GfReckons'. -/
def gfReckonsUptoCard : Claim7 := { stood := { row := gfReckonsUptoRow, standIns := [], harness := (true, "ba6604b1d1f8637130f36f0611bbfc224d3480363dcc2f933ecd2bade12206bc"), looks := true }, kinds := [], alts := [], laidByText := true, laidKinds := [.handle], laidTests := true, laidLooks := .later }
def GfReckonsUptoCardSaid : Prop := Claim7.holds Tryd.pinned (.plain (OpenSpec.upto gfReckonsSpec)) gfReckonsUptoCard

/-- THE SECOND FORM's CARD OF 'drydocklaw08.RsRows'. -/
def rsRowsUptoCard : Claim7 := { stood := { row := rsRowsUptoRow, standIns := [], harness := (true, "ba6604b1d1f8637130f36f0611bbfc224d3480363dcc2f933ecd2bade12206bc"), looks := true }, kinds := [], alts := [], laidByText := true, laidKinds := [.handle], laidTests := true, laidLooks := .later }
def RsRowsUptoCardSaid : Prop := Claim7.holds Tryd.pinned (.plain (OpenSpec.upto rsRowsSpec)) rsRowsUptoCard

/-- THE SECOND FORM's CARD OF 'drydocklaw08.RsEncodes'. -/
def rsEncodesUptoCard : Claim7 := { stood := { row := rsEncodesUptoRow, standIns := [], harness := (true, "ba6604b1d1f8637130f36f0611bbfc224d3480363dcc2f933ecd2bade12206bc"), looks := true }, kinds := [], alts := [], laidByText := true, laidKinds := [.handle], laidTests := true, laidLooks := .later }
def RsEncodesUptoCardSaid : Prop := Claim7.holds Tryd.pinned (.plain (OpenSpec.upto rsEncodesSpec)) rsEncodesUptoCard

/-- THE SECOND FORM's CARD OF 'drydocklaw08.RsMatrix'. -/
def rsMatrixUptoCard : Claim7 := { stood := { row := rsMatrixUptoRow, standIns := [], harness := (true, "ba6604b1d1f8637130f36f0611bbfc224d3480363dcc2f933ecd2bade12206bc"), looks := true }, kinds := [], alts := [], laidByText := true, laidKinds := [.handle], laidTests := true, laidLooks := .later }
def RsMatrixUptoCardSaid : Prop := Claim7.holds Tryd.pinned (.plain (OpenSpec.upto rsMatrixSpec)) rsMatrixUptoCard

/-- THE SECOND FORM's CARD OF 'drydocklaw08.RsSplits'. -/
def rsSplitsUptoCard : Claim7 := { stood := { row := rsSplitsUptoRow, standIns := [], harness := (true, "ba6604b1d1f8637130f36f0611bbfc224d3480363dcc2f933ecd2bade12206bc"), looks := true }, kinds := [], alts := [], laidByText := true, laidKinds := [.handle], laidTests := true, laidLooks := .later }
def RsSplitsUptoCardSaid : Prop := Claim7.holds Tryd.pinned (.plain (OpenSpec.upto rsSplitsSpec)) rsSplitsUptoCard

/-- THE SECOND FORM's CARD OF 'drydocklaw08.RsParts'. -/
def rsPartsUptoCard : Claim7 := { stood := { row := rsPartsUptoRow, standIns := [], harness := (true, "ba6604b1d1f8637130f36f0611bbfc224d3480363dcc2f933ecd2bade12206bc"), looks := true }, kinds := [], alts := [], laidByText := true, laidKinds := [.handle], laidTests := true, laidLooks := .later }
def RsPartsUptoCardSaid : Prop := Claim7.holds Tryd.pinned (.plain (OpenSpec.upto rsPartsSpec)) rsPartsUptoCard

/-- THE SECOND FORM's CARD OF 'drydocklaw08.RsLost'. -/
def rsLostUptoCard : Claim7 := { stood := { row := rsLostUptoRow, standIns := [], harness := (true, "ba6604b1d1f8637130f36f0611bbfc224d3480363dcc2f933ecd2bade12206bc"), looks := true }, kinds := [], alts := [], laidByText := true, laidKinds := [.handle], laidTests := true, laidLooks := .later }
def RsLostUptoCardSaid : Prop := Claim7.holds Tryd.pinned (.plain (OpenSpec.upto rsLostSpec)) rsLostUptoCard

/-- THE SECOND FORM's CARD OF 'drydocklaw08.RsTexts'. -/
def rsTextsUptoCard : Claim7 := { stood := { row := rsTextsUptoRow, standIns := [], harness := (true, "ba6604b1d1f8637130f36f0611bbfc224d3480363dcc2f933ecd2bade12206bc"), looks := true }, kinds := [], alts := [], laidByText := true, laidKinds := [.handle], laidTests := true, laidLooks := .later }
def RsTextsUptoCardSaid : Prop := Claim7.holds Tryd.pinned (.plain (OpenSpec.upto rsTextsSpec)) rsTextsUptoCard
end Rows
end Go.Proofs.YtdeopklgdemnfaaDoor
