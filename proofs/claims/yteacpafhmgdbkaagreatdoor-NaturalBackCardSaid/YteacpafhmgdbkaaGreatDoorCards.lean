/-
  DERIVED. GIVEN WITH THE SEED: THE CARDS: each row of YteacpafhmgdbkaaGreatDoorRows.lean that lists a variable, with what it lists TIED to the program's text (the seventh form; the later family's looks); each row that meets fmt, with fmt's text TOLD by the authors' own Lean function (tested against real Go, not proved from fmt's source: count such statements apart). THE CARD IS WHAT COUNTS. Prove the row's statement (the work); the ties are given (YteacpafhmgdbkaaGreatDoorTie.lean); close each card by the builder's one call (the guide's Derived/Test/ToyasCard.lean, 'card_holds'). Laid BY PROGRAM, IN A SANDBOX (cutbox-door.mjs). By AI agents, Wed Nov 11 2026. No macro, syntax, notation, axiom, sorry.
-/
import Derived.Test.YteacpafhmgdbkaaGreatDoorRows
import GoSem.ClaimSeven
namespace Go.Proofs.YteacpafhmgdbkaaGreatDoor
namespace Rows

/-- THE TIED CARD OF 'apodixislaw25.NaturalChecks'. -/
def naturalChecksCard : Claim7 := { stood := { row := naturalChecksRow, standIns := [], harness := (true, "63487c1e5a237d839c2f1b6a0ade07061214eb14c195c5e2f8ff852079e4d956"), looks := true }, kinds := [], alts := [], laidByText := true, laidKinds := [.data, .data, .data], laidTests := true, laidLooks := .later }
def NaturalChecksCardSaid : Prop := Claim7.holds Tryz.pinned (.plain (OpenSpec.ofChange naturalChecksSpec)) naturalChecksCard

/-- THE TIED CARD OF 'apodixislaw25.NaturalSubsts'. -/
def naturalSubstsCard : Claim7 := { stood := { row := naturalSubstsRow, standIns := [], harness := (true, "63487c1e5a237d839c2f1b6a0ade07061214eb14c195c5e2f8ff852079e4d956"), looks := true }, kinds := [], alts := [], laidByText := true, laidKinds := [.data, .data, .data], laidTests := true, laidLooks := .later }
def NaturalSubstsCardSaid : Prop := Claim7.holds Tryz.pinned (.plain (OpenSpec.ofChange naturalSubstsSpec)) naturalSubstsCard

/-- THE TIED CARD OF 'apodixislaw25.NaturalSound'. -/
def naturalSoundCard : Claim7 := { stood := { row := naturalSoundRow, standIns := [], harness := (true, "63487c1e5a237d839c2f1b6a0ade07061214eb14c195c5e2f8ff852079e4d956"), looks := true }, kinds := [], alts := [], laidByText := true, laidKinds := [.data, .data, .data], laidTests := true, laidLooks := .later }
def NaturalSoundCardSaid : Prop := Claim7.holds Tryz.pinned (.plain (OpenSpec.ofChange naturalSoundSpec)) naturalSoundCard

/-- THE TIED CARD OF 'apodixislaw25.NaturalTexts'. -/
def naturalTextsCard : Claim7 := { stood := { row := naturalTextsRow, standIns := [], harness := (true, "63487c1e5a237d839c2f1b6a0ade07061214eb14c195c5e2f8ff852079e4d956"), looks := true }, kinds := [], alts := [], laidByText := true, laidKinds := [.data, .data, .data], laidTests := true, laidLooks := .later }
def NaturalTextsCardSaid : Prop := Claim7.holds Tryz.pinned (.plain (OpenSpec.ofChange naturalTextsSpec)) naturalTextsCard

/-- THE TIED CARD OF 'apodixislaw25.NaturalWeakens'. -/
def naturalWeakensCard : Claim7 := { stood := { row := naturalWeakensRow, standIns := [], harness := (true, "63487c1e5a237d839c2f1b6a0ade07061214eb14c195c5e2f8ff852079e4d956"), looks := true }, kinds := [], alts := [], laidByText := true, laidKinds := [.data, .data, .data], laidTests := true, laidLooks := .later }
def NaturalWeakensCardSaid : Prop := Claim7.holds Tryz.pinned (.plain (OpenSpec.ofChange naturalWeakensSpec)) naturalWeakensCard

/-- THE TIED CARD OF 'apodixislaw25.NaturalSubstitutes'. -/
def naturalSubstitutesCard : Claim7 := { stood := { row := naturalSubstitutesRow, standIns := [], harness := (true, "63487c1e5a237d839c2f1b6a0ade07061214eb14c195c5e2f8ff852079e4d956"), looks := true }, kinds := [], alts := [], laidByText := true, laidKinds := [.data, .data, .data], laidTests := true, laidLooks := .later }
def NaturalSubstitutesCardSaid : Prop := Claim7.holds Tryz.pinned (.plain (OpenSpec.ofChange naturalSubstitutesSpec)) naturalSubstitutesCard

/-- THE TIED CARD OF 'apodixislaw25.NaturalFormulas'. -/
def naturalFormulasCard : Claim7 := { stood := { row := naturalFormulasRow, standIns := [], harness := (true, "63487c1e5a237d839c2f1b6a0ade07061214eb14c195c5e2f8ff852079e4d956"), looks := true }, kinds := [], alts := [], laidByText := true, laidKinds := [.data, .data, .data], laidTests := true, laidLooks := .later }
def NaturalFormulasCardSaid : Prop := Claim7.holds Tryz.pinned (.plain (OpenSpec.ofChange naturalFormulasSpec)) naturalFormulasCard

/-- THE TIED CARD OF 'apodixislaw25.NaturalBack'. -/
def naturalBackCard : Claim7 := { stood := { row := naturalBackRow, standIns := [], harness := (true, "63487c1e5a237d839c2f1b6a0ade07061214eb14c195c5e2f8ff852079e4d956"), looks := true }, kinds := [], alts := [], laidByText := true, laidKinds := [.data, .data, .data, .data, .pinned], laidTests := true, laidLooks := .later }
def NaturalBackCardSaid : Prop := Claim7.holds Tryz.pinned (.plain (OpenSpec.ofChange naturalBackSpec)) naturalBackCard

/-- THE SECOND FORM's CARD OF 'apodixislaw25.NaturalChecks'. -/
def naturalChecksUptoCard : Claim7 := { stood := { row := naturalChecksUptoRow, standIns := [], harness := (true, "63487c1e5a237d839c2f1b6a0ade07061214eb14c195c5e2f8ff852079e4d956"), looks := true }, kinds := [], alts := [], laidByText := true, laidKinds := [.data, .data, .data], laidTests := true, laidLooks := .later }
def NaturalChecksUptoCardSaid : Prop := Claim7.holds Tryz.pinned (.plain (OpenSpec.upto naturalChecksSpec)) naturalChecksUptoCard

/-- THE SECOND FORM's CARD OF 'apodixislaw25.NaturalSubsts'. -/
def naturalSubstsUptoCard : Claim7 := { stood := { row := naturalSubstsUptoRow, standIns := [], harness := (true, "63487c1e5a237d839c2f1b6a0ade07061214eb14c195c5e2f8ff852079e4d956"), looks := true }, kinds := [], alts := [], laidByText := true, laidKinds := [.data, .data, .data], laidTests := true, laidLooks := .later }
def NaturalSubstsUptoCardSaid : Prop := Claim7.holds Tryz.pinned (.plain (OpenSpec.upto naturalSubstsSpec)) naturalSubstsUptoCard

/-- THE SECOND FORM's CARD OF 'apodixislaw25.NaturalSound'. -/
def naturalSoundUptoCard : Claim7 := { stood := { row := naturalSoundUptoRow, standIns := [], harness := (true, "63487c1e5a237d839c2f1b6a0ade07061214eb14c195c5e2f8ff852079e4d956"), looks := true }, kinds := [], alts := [], laidByText := true, laidKinds := [.data, .data, .data], laidTests := true, laidLooks := .later }
def NaturalSoundUptoCardSaid : Prop := Claim7.holds Tryz.pinned (.plain (OpenSpec.upto naturalSoundSpec)) naturalSoundUptoCard

/-- THE SECOND FORM's CARD OF 'apodixislaw25.NaturalTexts'. -/
def naturalTextsUptoCard : Claim7 := { stood := { row := naturalTextsUptoRow, standIns := [], harness := (true, "63487c1e5a237d839c2f1b6a0ade07061214eb14c195c5e2f8ff852079e4d956"), looks := true }, kinds := [], alts := [], laidByText := true, laidKinds := [.data, .data, .data], laidTests := true, laidLooks := .later }
def NaturalTextsUptoCardSaid : Prop := Claim7.holds Tryz.pinned (.plain (OpenSpec.upto naturalTextsSpec)) naturalTextsUptoCard

/-- THE SECOND FORM's CARD OF 'apodixislaw25.NaturalWeakens'. -/
def naturalWeakensUptoCard : Claim7 := { stood := { row := naturalWeakensUptoRow, standIns := [], harness := (true, "63487c1e5a237d839c2f1b6a0ade07061214eb14c195c5e2f8ff852079e4d956"), looks := true }, kinds := [], alts := [], laidByText := true, laidKinds := [.data, .data, .data], laidTests := true, laidLooks := .later }
def NaturalWeakensUptoCardSaid : Prop := Claim7.holds Tryz.pinned (.plain (OpenSpec.upto naturalWeakensSpec)) naturalWeakensUptoCard

/-- THE SECOND FORM's CARD OF 'apodixislaw25.NaturalSubstitutes'. -/
def naturalSubstitutesUptoCard : Claim7 := { stood := { row := naturalSubstitutesUptoRow, standIns := [], harness := (true, "63487c1e5a237d839c2f1b6a0ade07061214eb14c195c5e2f8ff852079e4d956"), looks := true }, kinds := [], alts := [], laidByText := true, laidKinds := [.data, .data, .data], laidTests := true, laidLooks := .later }
def NaturalSubstitutesUptoCardSaid : Prop := Claim7.holds Tryz.pinned (.plain (OpenSpec.upto naturalSubstitutesSpec)) naturalSubstitutesUptoCard

/-- THE SECOND FORM's CARD OF 'apodixislaw25.NaturalFormulas'. -/
def naturalFormulasUptoCard : Claim7 := { stood := { row := naturalFormulasUptoRow, standIns := [], harness := (true, "63487c1e5a237d839c2f1b6a0ade07061214eb14c195c5e2f8ff852079e4d956"), looks := true }, kinds := [], alts := [], laidByText := true, laidKinds := [.data, .data, .data], laidTests := true, laidLooks := .later }
def NaturalFormulasUptoCardSaid : Prop := Claim7.holds Tryz.pinned (.plain (OpenSpec.upto naturalFormulasSpec)) naturalFormulasUptoCard

/-- THE SECOND FORM's CARD OF 'apodixislaw25.NaturalBack'. -/
def naturalBackUptoCard : Claim7 := { stood := { row := naturalBackUptoRow, standIns := [], harness := (true, "63487c1e5a237d839c2f1b6a0ade07061214eb14c195c5e2f8ff852079e4d956"), looks := true }, kinds := [], alts := [], laidByText := true, laidKinds := [.data, .data, .data, .data, .pinned], laidTests := true, laidLooks := .later }
def NaturalBackUptoCardSaid : Prop := Claim7.holds Tryz.pinned (.plain (OpenSpec.upto naturalBackSpec)) naturalBackUptoCard
end Rows
end Go.Proofs.YteacpafhmgdbkaaGreatDoor
