/-
  DERIVED. GIVEN WITH THE SEED: THE CARDS: each row of YtlpcdpjkdodmcaaGreatDoorRows.lean that lists a variable, with what it lists TIED to the program's text (the seventh form; the later family's looks); each row that meets fmt, with fmt's text TOLD by the authors' own Lean function (tested against real Go, not proved from fmt's source: count such statements apart). THE CARD IS WHAT COUNTS. Prove the row's statement (the work); the ties are given (YtlpcdpjkdodmcaaGreatDoorTie.lean); close each card by the builder's one call (the guide's Derived/Test/ToyasCard.lean, 'card_holds'). Laid BY PROGRAM, IN A SANDBOX (cutbox-door.mjs). By AI agents, Wed Nov 11 2026. No macro, syntax, notation, axiom, sorry.
-/
import Derived.Test.YtlpcdpjkdodmcaaGreatDoorRows
import GoSem.ClaimSeven
namespace Go.Proofs.YtlpcdpjkdodmcaaGreatDoor
namespace Rows

/-- THE TIED CARD OF 'apodixislaw39.SessionServers'. -/
def sessionServersCard : Claim7 := { stood := { row := sessionServersRow, standIns := [], harness := (true, "a1c46c67a4fb7019f49bc4fbee7fe616e2aa5360667f47c016c1b7862a5ca1b4"), looks := true }, kinds := [], alts := [], laidByText := true, laidKinds := [.data, .data, .data, .sentinel, .sentinel], laidTests := true, laidLooks := .later }
def SessionServersCardSaid : Prop := Claim7.holds Tryz.pinned (.plain (OpenSpec.ofChange sessionServersSpec)) sessionServersCard

/-- THE TIED CARD OF 'apodixislaw39.SessionTalks'. -/
def sessionTalksCard : Claim7 := { stood := { row := sessionTalksRow, standIns := [], harness := (true, "a1c46c67a4fb7019f49bc4fbee7fe616e2aa5360667f47c016c1b7862a5ca1b4"), looks := true }, kinds := [], alts := [], laidByText := true, laidKinds := [.data, .data, .data, .sentinel, .sentinel], laidTests := true, laidLooks := .later }
def SessionTalksCardSaid : Prop := Claim7.holds Tryz.pinned (.plain (OpenSpec.ofChange sessionTalksSpec)) sessionTalksCard

/-- THE SECOND FORM's CARD OF 'apodixislaw39.SessionServers'. -/
def sessionServersUptoCard : Claim7 := { stood := { row := sessionServersUptoRow, standIns := [], harness := (true, "a1c46c67a4fb7019f49bc4fbee7fe616e2aa5360667f47c016c1b7862a5ca1b4"), looks := true }, kinds := [], alts := [], laidByText := true, laidKinds := [.data, .data, .data, .sentinel, .sentinel], laidTests := true, laidLooks := .later }
def SessionServersUptoCardSaid : Prop := Claim7.holds Tryz.pinned (.plain (OpenSpec.upto sessionServersSpec)) sessionServersUptoCard

/-- THE SECOND FORM's CARD OF 'apodixislaw39.SessionTalks'. -/
def sessionTalksUptoCard : Claim7 := { stood := { row := sessionTalksUptoRow, standIns := [], harness := (true, "a1c46c67a4fb7019f49bc4fbee7fe616e2aa5360667f47c016c1b7862a5ca1b4"), looks := true }, kinds := [], alts := [], laidByText := true, laidKinds := [.data, .data, .data, .sentinel, .sentinel], laidTests := true, laidLooks := .later }
def SessionTalksUptoCardSaid : Prop := Claim7.holds Tryz.pinned (.plain (OpenSpec.upto sessionTalksSpec)) sessionTalksUptoCard
end Rows
end Go.Proofs.YtlpcdpjkdodmcaaGreatDoor
