/-
  DERIVED. GIVEN WITH THE SEED: THE CARDS: each row of YtpfohmboflcneaaGreatDoorRows.lean that lists a variable, with what it lists TIED to the program's text (the seventh form; the later family's looks); each row that meets fmt, with fmt's text TOLD by the authors' own Lean function (tested against real Go, not proved from fmt's source: count such statements apart). THE CARD IS WHAT COUNTS. Prove the row's statement (the work); the ties are given (YtpfohmboflcneaaGreatDoorTie.lean); close each card by the builder's one call (the guide's Derived/Test/ToyasCard.lean, 'card_holds'). Laid BY PROGRAM, IN A SANDBOX (cutbox-door.mjs). By AI agents, Wed Nov 11 2026. No macro, syntax, notation, axiom, sorry.
-/
import Derived.Test.YtpfohmboflcneaaGreatDoorRows
import GoSem.ClaimSeven
namespace Go.Proofs.YtpfohmboflcneaaGreatDoor
namespace Rows

/-- THE TIED CARD OF 'apodixislaw28.ClauseForms'. -/
def clauseFormsCard : Claim7 := { stood := { row := clauseFormsRow, standIns := [], harness := (true, "3bc811999172bd670b173e4cdb25ed212f2e11043ef58c3ee0d2c8e1f50d3337"), looks := true }, kinds := [], alts := [], laidByText := true, laidKinds := [.data, .data, .data, .sentinel, .sentinel], laidTests := true, laidLooks := .later }
def ClauseFormsCardSaid : Prop := Claim7.holds Tryz.pinned (.plain (OpenSpec.ofChange clauseFormsSpec)) clauseFormsCard

/-- THE TIED CARD OF 'apodixislaw28.ClauseApplies'. -/
def clauseAppliesCard : Claim7 := { stood := { row := clauseAppliesRow, standIns := [], harness := (true, "3bc811999172bd670b173e4cdb25ed212f2e11043ef58c3ee0d2c8e1f50d3337"), looks := true }, kinds := [], alts := [], laidByText := true, laidKinds := [.data, .data, .data, .sentinel, .sentinel], laidTests := true, laidLooks := .later }
def ClauseAppliesCardSaid : Prop := Claim7.holds Tryz.pinned (.plain (OpenSpec.ofChange clauseAppliesSpec)) clauseAppliesCard

/-- THE TIED CARD OF 'apodixislaw28.ClauseOrders'. -/
def clauseOrdersCard : Claim7 := { stood := { row := clauseOrdersRow, standIns := [], harness := (true, "3bc811999172bd670b173e4cdb25ed212f2e11043ef58c3ee0d2c8e1f50d3337"), looks := true }, kinds := [], alts := [], laidByText := true, laidKinds := [.data, .data, .data, .sentinel, .sentinel], laidTests := true, laidLooks := .later }
def ClauseOrdersCardSaid : Prop := Claim7.holds Tryz.pinned (.plain (OpenSpec.ofChange clauseOrdersSpec)) clauseOrdersCard

/-- THE TIED CARD OF 'apodixislaw28.ClauseSubsumes'. -/
def clauseSubsumesCard : Claim7 := { stood := { row := clauseSubsumesRow, standIns := [], harness := (true, "3bc811999172bd670b173e4cdb25ed212f2e11043ef58c3ee0d2c8e1f50d3337"), looks := true }, kinds := [], alts := [], laidByText := true, laidKinds := [.data, .data, .data, .sentinel, .sentinel], laidTests := true, laidLooks := .later }
def ClauseSubsumesCardSaid : Prop := Claim7.holds Tryz.pinned (.plain (OpenSpec.ofChange clauseSubsumesSpec)) clauseSubsumesCard

/-- THE TIED CARD OF 'apodixislaw28.ClauseTerms'. -/
def clauseTermsCard : Claim7 := { stood := { row := clauseTermsRow, standIns := [], harness := (true, "3bc811999172bd670b173e4cdb25ed212f2e11043ef58c3ee0d2c8e1f50d3337"), looks := true }, kinds := [], alts := [], laidByText := true, laidKinds := [.data, .data, .data, .sentinel, .sentinel], laidTests := true, laidLooks := .later }
def ClauseTermsCardSaid : Prop := Claim7.holds Tryz.pinned (.plain (OpenSpec.ofChange clauseTermsSpec)) clauseTermsCard

/-- THE TIED CARD OF 'apodixislaw28.ClauseBack'. -/
def clauseBackCard : Claim7 := { stood := { row := clauseBackRow, standIns := [], harness := (true, "3bc811999172bd670b173e4cdb25ed212f2e11043ef58c3ee0d2c8e1f50d3337"), looks := true }, kinds := [], alts := [], laidByText := true, laidKinds := [.data, .data, .data, .sentinel, .sentinel], laidTests := true, laidLooks := .later }
def ClauseBackCardSaid : Prop := Claim7.holds Tryz.pinned (.plain (OpenSpec.ofChange clauseBackSpec)) clauseBackCard

/-- THE TIED CARD OF 'apodixislaw28.ClauseUnifies'. -/
def clauseUnifiesCard : Claim7 := { stood := { row := clauseUnifiesRow, standIns := [], harness := (true, "3bc811999172bd670b173e4cdb25ed212f2e11043ef58c3ee0d2c8e1f50d3337"), looks := true }, kinds := [], alts := [], laidByText := true, laidKinds := [.data, .data, .data, .sentinel, .sentinel], laidTests := true, laidLooks := .later }
def ClauseUnifiesCardSaid : Prop := Claim7.holds Tryz.pinned (.plain (OpenSpec.ofChange clauseUnifiesSpec)) clauseUnifiesCard

/-- THE TIED CARD OF 'apodixislaw28.ClauseIndex'. -/
def clauseIndexCard : Claim7 := { stood := { row := clauseIndexRow, standIns := [], harness := (true, "3bc811999172bd670b173e4cdb25ed212f2e11043ef58c3ee0d2c8e1f50d3337"), looks := true }, kinds := [], alts := [], laidByText := true, laidKinds := [.data, .data, .data, .sentinel, .sentinel], laidTests := true, laidLooks := .later }
def ClauseIndexCardSaid : Prop := Claim7.holds Tryz.pinned (.plain (OpenSpec.ofChange clauseIndexSpec)) clauseIndexCard

/-- THE SECOND FORM's CARD OF 'apodixislaw28.ClauseForms'. -/
def clauseFormsUptoCard : Claim7 := { stood := { row := clauseFormsUptoRow, standIns := [], harness := (true, "3bc811999172bd670b173e4cdb25ed212f2e11043ef58c3ee0d2c8e1f50d3337"), looks := true }, kinds := [], alts := [], laidByText := true, laidKinds := [.data, .data, .data, .sentinel, .sentinel], laidTests := true, laidLooks := .later }
def ClauseFormsUptoCardSaid : Prop := Claim7.holds Tryz.pinned (.plain (OpenSpec.upto clauseFormsSpec)) clauseFormsUptoCard

/-- THE SECOND FORM's CARD OF 'apodixislaw28.ClauseApplies'. -/
def clauseAppliesUptoCard : Claim7 := { stood := { row := clauseAppliesUptoRow, standIns := [], harness := (true, "3bc811999172bd670b173e4cdb25ed212f2e11043ef58c3ee0d2c8e1f50d3337"), looks := true }, kinds := [], alts := [], laidByText := true, laidKinds := [.data, .data, .data, .sentinel, .sentinel], laidTests := true, laidLooks := .later }
def ClauseAppliesUptoCardSaid : Prop := Claim7.holds Tryz.pinned (.plain (OpenSpec.upto clauseAppliesSpec)) clauseAppliesUptoCard

/-- THE SECOND FORM's CARD OF 'apodixislaw28.ClauseOrders'. -/
def clauseOrdersUptoCard : Claim7 := { stood := { row := clauseOrdersUptoRow, standIns := [], harness := (true, "3bc811999172bd670b173e4cdb25ed212f2e11043ef58c3ee0d2c8e1f50d3337"), looks := true }, kinds := [], alts := [], laidByText := true, laidKinds := [.data, .data, .data, .sentinel, .sentinel], laidTests := true, laidLooks := .later }
def ClauseOrdersUptoCardSaid : Prop := Claim7.holds Tryz.pinned (.plain (OpenSpec.upto clauseOrdersSpec)) clauseOrdersUptoCard

/-- THE SECOND FORM's CARD OF 'apodixislaw28.ClauseSubsumes'. -/
def clauseSubsumesUptoCard : Claim7 := { stood := { row := clauseSubsumesUptoRow, standIns := [], harness := (true, "3bc811999172bd670b173e4cdb25ed212f2e11043ef58c3ee0d2c8e1f50d3337"), looks := true }, kinds := [], alts := [], laidByText := true, laidKinds := [.data, .data, .data, .sentinel, .sentinel], laidTests := true, laidLooks := .later }
def ClauseSubsumesUptoCardSaid : Prop := Claim7.holds Tryz.pinned (.plain (OpenSpec.upto clauseSubsumesSpec)) clauseSubsumesUptoCard

/-- THE SECOND FORM's CARD OF 'apodixislaw28.ClauseTerms'. -/
def clauseTermsUptoCard : Claim7 := { stood := { row := clauseTermsUptoRow, standIns := [], harness := (true, "3bc811999172bd670b173e4cdb25ed212f2e11043ef58c3ee0d2c8e1f50d3337"), looks := true }, kinds := [], alts := [], laidByText := true, laidKinds := [.data, .data, .data, .sentinel, .sentinel], laidTests := true, laidLooks := .later }
def ClauseTermsUptoCardSaid : Prop := Claim7.holds Tryz.pinned (.plain (OpenSpec.upto clauseTermsSpec)) clauseTermsUptoCard

/-- THE SECOND FORM's CARD OF 'apodixislaw28.ClauseBack'. -/
def clauseBackUptoCard : Claim7 := { stood := { row := clauseBackUptoRow, standIns := [], harness := (true, "3bc811999172bd670b173e4cdb25ed212f2e11043ef58c3ee0d2c8e1f50d3337"), looks := true }, kinds := [], alts := [], laidByText := true, laidKinds := [.data, .data, .data, .sentinel, .sentinel], laidTests := true, laidLooks := .later }
def ClauseBackUptoCardSaid : Prop := Claim7.holds Tryz.pinned (.plain (OpenSpec.upto clauseBackSpec)) clauseBackUptoCard

/-- THE SECOND FORM's CARD OF 'apodixislaw28.ClauseUnifies'. -/
def clauseUnifiesUptoCard : Claim7 := { stood := { row := clauseUnifiesUptoRow, standIns := [], harness := (true, "3bc811999172bd670b173e4cdb25ed212f2e11043ef58c3ee0d2c8e1f50d3337"), looks := true }, kinds := [], alts := [], laidByText := true, laidKinds := [.data, .data, .data, .sentinel, .sentinel], laidTests := true, laidLooks := .later }
def ClauseUnifiesUptoCardSaid : Prop := Claim7.holds Tryz.pinned (.plain (OpenSpec.upto clauseUnifiesSpec)) clauseUnifiesUptoCard

/-- THE SECOND FORM's CARD OF 'apodixislaw28.ClauseIndex'. -/
def clauseIndexUptoCard : Claim7 := { stood := { row := clauseIndexUptoRow, standIns := [], harness := (true, "3bc811999172bd670b173e4cdb25ed212f2e11043ef58c3ee0d2c8e1f50d3337"), looks := true }, kinds := [], alts := [], laidByText := true, laidKinds := [.data, .data, .data, .sentinel, .sentinel], laidTests := true, laidLooks := .later }
def ClauseIndexUptoCardSaid : Prop := Claim7.holds Tryz.pinned (.plain (OpenSpec.upto clauseIndexSpec)) clauseIndexUptoCard
end Rows
end Go.Proofs.YtpfohmboflcneaaGreatDoor
