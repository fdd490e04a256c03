/-
  DERIVED. GIVEN WITH THE SEED: THE CARDS: each row of YtlpcdpjkdodmcaaDoorRows.lean that lists a variable, with what it lists TIED to the program's text (the seventh form; the later family's looks); each row that meets fmt, with fmt's text TOLD by the authors' own Lean function (tested against real Go, not proved from fmt's source: count such statements apart). THE CARD IS WHAT COUNTS. Prove the row's statement (the work); the ties are given (YtlpcdpjkdodmcaaDoorTie.lean); close each card by the builder's one call (the guide's Derived/Test/ToyasCard.lean, 'card_holds'). Laid BY PROGRAM, IN A SANDBOX (cutbox-door.mjs). By AI agents, Wed Nov 11 2026. No macro, syntax, notation, axiom, sorry.
-/
import Derived.Test.YtlpcdpjkdodmcaaDoorRows
import GoSem.ClaimSeven
namespace Go.Proofs.YtlpcdpjkdodmcaaDoor
namespace Rows

/-- THE TIED CARD OF 'apodixislaw39.SessionFrames'. -/
def sessionFramesCard : Claim7 := { stood := { row := sessionFramesRow, standIns := [], harness := (true, "8dd4fc41f272e488d368aef40eb0c90237f5de32c4080e4f5aeb1439592af685"), looks := true }, kinds := [], alts := [], laidByText := true, laidKinds := [.data, .data, .data, .sentinel, .sentinel], laidTests := true, laidLooks := .later }
def SessionFramesCardSaid : Prop := Claim7.holds Tryd.pinned (.plain (OpenSpec.ofChange sessionFramesSpec)) sessionFramesCard

/-- THE TIED CARD OF 'apodixislaw39.SessionBytes'. -/
def sessionBytesCard : Claim7 := { stood := { row := sessionBytesRow, standIns := [], harness := (true, "8dd4fc41f272e488d368aef40eb0c90237f5de32c4080e4f5aeb1439592af685"), looks := true }, kinds := [], alts := [], laidByText := true, laidKinds := [.data, .data, .data, .sentinel, .sentinel], laidTests := true, laidLooks := .later }
def SessionBytesCardSaid : Prop := Claim7.holds Tryd.pinned (.plain (OpenSpec.ofChange sessionBytesSpec)) sessionBytesCard

/-- THE TIED CARD OF 'apodixislaw39.SessionClients'. -/
def sessionClientsCard : Claim7 := { stood := { row := sessionClientsRow, standIns := [], harness := (true, "8dd4fc41f272e488d368aef40eb0c90237f5de32c4080e4f5aeb1439592af685"), looks := true }, kinds := [], alts := [], laidByText := true, laidKinds := [.data, .data, .data, .sentinel, .sentinel], laidTests := true, laidLooks := .later }
def SessionClientsCardSaid : Prop := Claim7.holds Tryd.pinned (.plain (OpenSpec.ofChange sessionClientsSpec)) sessionClientsCard

/-- THE TIED CARD OF 'apodixislaw39.SessionCancels'. -/
def sessionCancelsCard : Claim7 := { stood := { row := sessionCancelsRow, standIns := [], harness := (true, "8dd4fc41f272e488d368aef40eb0c90237f5de32c4080e4f5aeb1439592af685"), looks := true }, kinds := [], alts := [], laidByText := true, laidKinds := [.data, .data, .data, .sentinel, .sentinel], laidTests := true, laidLooks := .later }
def SessionCancelsCardSaid : Prop := Claim7.holds Tryd.pinned (.plain (OpenSpec.ofChange sessionCancelsSpec)) sessionCancelsCard

/-- THE SECOND FORM's CARD OF 'apodixislaw39.SessionFrames'. -/
def sessionFramesUptoCard : Claim7 := { stood := { row := sessionFramesUptoRow, standIns := [], harness := (true, "8dd4fc41f272e488d368aef40eb0c90237f5de32c4080e4f5aeb1439592af685"), looks := true }, kinds := [], alts := [], laidByText := true, laidKinds := [.data, .data, .data, .sentinel, .sentinel], laidTests := true, laidLooks := .later }
def SessionFramesUptoCardSaid : Prop := Claim7.holds Tryd.pinned (.plain (OpenSpec.upto sessionFramesSpec)) sessionFramesUptoCard

/-- THE SECOND FORM's CARD OF 'apodixislaw39.SessionBytes'. -/
def sessionBytesUptoCard : Claim7 := { stood := { row := sessionBytesUptoRow, standIns := [], harness := (true, "8dd4fc41f272e488d368aef40eb0c90237f5de32c4080e4f5aeb1439592af685"), looks := true }, kinds := [], alts := [], laidByText := true, laidKinds := [.data, .data, .data, .sentinel, .sentinel], laidTests := true, laidLooks := .later }
def SessionBytesUptoCardSaid : Prop := Claim7.holds Tryd.pinned (.plain (OpenSpec.upto sessionBytesSpec)) sessionBytesUptoCard

/-- THE SECOND FORM's CARD OF 'apodixislaw39.SessionClients'. -/
def sessionClientsUptoCard : Claim7 := { stood := { row := sessionClientsUptoRow, standIns := [], harness := (true, "8dd4fc41f272e488d368aef40eb0c90237f5de32c4080e4f5aeb1439592af685"), looks := true }, kinds := [], alts := [], laidByText := true, laidKinds := [.data, .data, .data, .sentinel, .sentinel], laidTests := true, laidLooks := .later }
def SessionClientsUptoCardSaid : Prop := Claim7.holds Tryd.pinned (.plain (OpenSpec.upto sessionClientsSpec)) sessionClientsUptoCard

/-- THE SECOND FORM's CARD OF 'apodixislaw39.SessionCancels'. -/
def sessionCancelsUptoCard : Claim7 := { stood := { row := sessionCancelsUptoRow, standIns := [], harness := (true, "8dd4fc41f272e488d368aef40eb0c90237f5de32c4080e4f5aeb1439592af685"), looks := true }, kinds := [], alts := [], laidByText := true, laidKinds := [.data, .data, .data, .sentinel, .sentinel], laidTests := true, laidLooks := .later }
def SessionCancelsUptoCardSaid : Prop := Claim7.holds Tryd.pinned (.plain (OpenSpec.upto sessionCancelsSpec)) sessionCancelsUptoCard
end Rows
end Go.Proofs.YtlpcdpjkdodmcaaDoor
