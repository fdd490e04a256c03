/-
  No cell of these rows narrows 'for every input' (looked for: loops, veiled, ifaces, maps, wideKeys, modest, calm, conditions, laid).
  DERIVED. THE GIVEN ROWS OF THIS SEAT. 6 by the template 'for every input the law returns true; each argument reads behind the call as it read before'; 0 by the template 'total and deterministic' (their statements: YtilbfhldohibhaaTotals.lean).
  GIVEN WITH THE SEED: the statements are not yours to turn. If you find one false, say at which input.
  Laid BY PROGRAM, IN A SANDBOX (cutbox-rows.mjs): the forced cells as the released guide's own fill.sh prints them over the translation 3bb4a7c94ac3020a… (all of the seat's roots in one cut). By AI agents, Wed Nov 11 2026. No macro, syntax, notation, axiom, sorry.
-/
import Derived.Test.YtilbfhldohibhaaChecked
import GoSem.Claim
import GoSem.ClaimJoined
import GoSem.ClaimMapViews
import Derived.JoinedTies
import Derived.KernelRfl
namespace Go.Proofs.Ytilbfhldohibhaa
/- THE CELL 'sum', in the pinned program and in every row, IS THE sha256 OF THE DUMP (.gsa) THAT YtilbfhldohibhaaProg.lean LOADS. Nothing in Lean hashes anything: it is a label: what it is worth is what the hold of that sum in a sandbox is worth. -/
noncomputable def Try.pinned : Pinned := { name := "ytilbfhldohibhaa", sum := "3bb4a7c94ac3020ab6c3e9dd2eda9923354f5c19d4c53f680e76ebc7d2c44ca7", checked := Try.checked }
namespace Rows
def none {H : Type} : Left H := { results := [], args := [] }

/-- 'apodixislaw01.TokenLocal': WHATEVER THE INPUT: true; the input reads as it did. -/
def tokenLocalSpec : ChangeSpec := { name := "tokenLocal", fn := fun _ => fun
  | [d1, d2, d3] => { results := [.lit (.bool true)], args := [d1, d2, d3] }
  | _ => none }
def tokenLocalRow : OpenClaim := { program := "ytilbfhldohibhaa", sum := "3bb4a7c94ac3020ab6c3e9dd2eda9923354f5c19d4c53f680e76ebc7d2c44ca7", func := "apodixis/apodixislaw01.TokenLocal", spec := "tokenLocal", unfollowed := true, recurses := true, apart := false }
def TokenLocalSaid : Prop := tokenLocalRow.holds Try.pinned (OpenSpec.ofChange tokenLocalSpec)

/-- ITS FALSE NEIGHBOUR: 'it returns false'. Refute it at one input. -/
def tokenLocalWrong : ChangeSpec := { name := "tokenLocal", fn := fun _ => fun
  | [d1, d2, d3] => { results := [.lit (.bool false)], args := [d1, d2, d3] }
  | _ => none }
def TokenLocalWrongFalsely : Prop := tokenLocalRow.holds Try.pinned (OpenSpec.ofChange tokenLocalWrong)

/-- 'apodixislaw01.TokenPositions': WHATEVER THE INPUT: true; the input reads as it did. -/
def tokenPositionsSpec : ChangeSpec := { name := "tokenPositions", fn := fun _ => fun
  | [d1, d2, d3] => { results := [.lit (.bool true)], args := [d1, d2, d3] }
  | _ => none }
def tokenPositionsRow : OpenClaim := { program := "ytilbfhldohibhaa", sum := "3bb4a7c94ac3020ab6c3e9dd2eda9923354f5c19d4c53f680e76ebc7d2c44ca7", func := "apodixis/apodixislaw01.TokenPositions", spec := "tokenPositions", unfollowed := true, recurses := true, apart := false }
def TokenPositionsSaid : Prop := tokenPositionsRow.holds Try.pinned (OpenSpec.ofChange tokenPositionsSpec)

/-- ITS FALSE NEIGHBOUR: 'it returns false'. Refute it at one input. -/
def tokenPositionsWrong : ChangeSpec := { name := "tokenPositions", fn := fun _ => fun
  | [d1, d2, d3] => { results := [.lit (.bool false)], args := [d1, d2, d3] }
  | _ => none }
def TokenPositionsWrongFalsely : Prop := tokenPositionsRow.holds Try.pinned (OpenSpec.ofChange tokenPositionsWrong)

/-- 'apodixislaw01.TokenScans': WHATEVER THE INPUT: true; the input reads as it did. -/
def tokenScansSpec : ChangeSpec := { name := "tokenScans", fn := fun _ => fun
  | [d] => { results := [.lit (.bool true)], args := [d] }
  | _ => none }
def tokenScansRow : OpenClaim := { program := "ytilbfhldohibhaa", sum := "3bb4a7c94ac3020ab6c3e9dd2eda9923354f5c19d4c53f680e76ebc7d2c44ca7", func := "apodixis/apodixislaw01.TokenScans", spec := "tokenScans", unfollowed := true, recurses := true, apart := false }
def TokenScansSaid : Prop := tokenScansRow.holds Try.pinned (OpenSpec.ofChange tokenScansSpec)

/-- ITS FALSE NEIGHBOUR: 'it returns false'. Refute it at one input. -/
def tokenScansWrong : ChangeSpec := { name := "tokenScans", fn := fun _ => fun
  | [d] => { results := [.lit (.bool false)], args := [d] }
  | _ => none }
def TokenScansWrongFalsely : Prop := tokenScansRow.holds Try.pinned (OpenSpec.ofChange tokenScansWrong)

/-- 'apodixislaw01.TokenKinds': WHATEVER THE INPUT: true; the input reads as it did. -/
def tokenKindsSpec : ChangeSpec := { name := "tokenKinds", fn := fun _ => fun
  | [d1, d2] => { results := [.lit (.bool true)], args := [d1, d2] }
  | _ => none }
def tokenKindsRow : OpenClaim := { program := "ytilbfhldohibhaa", sum := "3bb4a7c94ac3020ab6c3e9dd2eda9923354f5c19d4c53f680e76ebc7d2c44ca7", func := "apodixis/apodixislaw01.TokenKinds", spec := "tokenKinds", unfollowed := true, recurses := true, apart := false }
def TokenKindsSaid : Prop := tokenKindsRow.holds Try.pinned (OpenSpec.ofChange tokenKindsSpec)

/-- ITS FALSE NEIGHBOUR: 'it returns false'. Refute it at one input. -/
def tokenKindsWrong : ChangeSpec := { name := "tokenKinds", fn := fun _ => fun
  | [d1, d2] => { results := [.lit (.bool false)], args := [d1, d2] }
  | _ => none }
def TokenKindsWrongFalsely : Prop := tokenKindsRow.holds Try.pinned (OpenSpec.ofChange tokenKindsWrong)

/-- 'apodixislaw01.TokenWeaves': WHATEVER THE INPUT: true; the input reads as it did. -/
def tokenWeavesSpec : ChangeSpec := { name := "tokenWeaves", fn := fun _ => fun
  | [d1, d2, d3] => { results := [.lit (.bool true)], args := [d1, d2, d3] }
  | _ => none }
def tokenWeavesRow : OpenClaim := { program := "ytilbfhldohibhaa", sum := "3bb4a7c94ac3020ab6c3e9dd2eda9923354f5c19d4c53f680e76ebc7d2c44ca7", func := "apodixis/apodixislaw01.TokenWeaves", spec := "tokenWeaves", inPlace := ["internal/abi.NoEscape", "internal/bytealg.MakeNoZero"], unfollowed := true, recurses := true, apart := false }
def TokenWeavesSaid : Prop := tokenWeavesRow.holds Try.pinned (OpenSpec.ofChange tokenWeavesSpec)

/-- ITS FALSE NEIGHBOUR: 'it returns false'. Refute it at one input. -/
def tokenWeavesWrong : ChangeSpec := { name := "tokenWeaves", fn := fun _ => fun
  | [d1, d2, d3] => { results := [.lit (.bool false)], args := [d1, d2, d3] }
  | _ => none }
def TokenWeavesWrongFalsely : Prop := tokenWeavesRow.holds Try.pinned (OpenSpec.ofChange tokenWeavesWrong)

/-- 'apodixislaw01.TokenBack': WHATEVER THE INPUT: true; the input reads as it did. -/
def tokenBackSpec : ChangeSpec := { name := "tokenBack", fn := fun _ => fun
  | [d1, d2, d3] => { results := [.lit (.bool true)], args := [d1, d2, d3] }
  | _ => none }
def tokenBackRow : OpenClaim := { program := "ytilbfhldohibhaa", sum := "3bb4a7c94ac3020ab6c3e9dd2eda9923354f5c19d4c53f680e76ebc7d2c44ca7", func := "apodixis/apodixislaw01.TokenBack", spec := "tokenBack", inPlace := ["internal/abi.NoEscape", "internal/bytealg.MakeNoZero"], unfollowed := true, recurses := true, apart := false }
def TokenBackSaid : Prop := tokenBackRow.holds Try.pinned (OpenSpec.ofChange tokenBackSpec)

/-- ITS FALSE NEIGHBOUR: 'it returns false'. Refute it at one input. -/
def tokenBackWrong : ChangeSpec := { name := "tokenBack", fn := fun _ => fun
  | [d1, d2, d3] => { results := [.lit (.bool false)], args := [d1, d2, d3] }
  | _ => none }
def TokenBackWrongFalsely : Prop := tokenBackRow.holds Try.pinned (OpenSpec.ofChange tokenBackWrong)

/- THE SECOND FORM. 'bulk': how many values and letters a reading holds, each counted each time it is reached (what is shared counts as often as it is met; a slice's spare places count too). A statement '..UptoSaid' is the law's where the arguments, and the package variables that the reading takes, are together of bulk at most 1048576: NARROWER than '..Said'. Prove '..Said' where nothing that the law and all that it calls make is longer than what came in: it says more and counts as full. Else prove '..UptoSaid'. A law counts once. -/
mutual
def uptoBulk {H : Type} : DataW H → Nat
  | .lit (.string bytes) => bytes.length + 1
  | .lit _ => 1
  | .nil => 1
  | .ptr d => uptoBulk d + 1
  | .slice elems spare => uptoBulkAll elems + uptoBulkAll spare + 1
  | .agg parts => uptoBulkAll parts + 1
  | .iface _ d => uptoBulk d + 1
  | .map entries => uptoBulkEntries entries + 1
  | .held _ => 1
def uptoBulkAll {H : Type} : List (DataW H) → Nat
  | [] => 0
  | d :: r => uptoBulk d + uptoBulkAll r
def uptoBulkEntries {H : Type} : List (Lit × DataW H) → Nat
  | [] => 0
  | x :: r => uptoBulkEntry x + uptoBulkEntries r
def uptoBulkEntry {H : Type} : Lit × DataW H → Nat
  | (.string bytes, d) => bytes.length + uptoBulk d + 1
  | (_, d) => uptoBulk d + 1
 end
def uptoSmall : (H : Type) → List (DataW H) → Bool := fun _ ds => decide (uptoBulkAll ds ≤ 1048576)
def OpenSpec.upto (s : _root_.Go.ChangeSpec) : _root_.Go.OpenSpec := { _root_.Go.OpenSpec.ofChange s with cond := some uptoSmall }

/-- 'apodixislaw01.TokenLocal', WHERE WHAT IT READS IS OF BULK AT MOST 1048576: true; the input reads as it did. -/
def tokenLocalUptoRow : OpenClaim := { program := "ytilbfhldohibhaa", sum := "3bb4a7c94ac3020ab6c3e9dd2eda9923354f5c19d4c53f680e76ebc7d2c44ca7", func := "apodixis/apodixislaw01.TokenLocal", spec := "tokenLocal", unfollowed := true, recurses := true, apart := false, narrowed := true }
def TokenLocalUptoSaid : Prop := tokenLocalUptoRow.holds Try.pinned (OpenSpec.upto tokenLocalSpec)

/-- 'apodixislaw01.TokenPositions', WHERE WHAT IT READS IS OF BULK AT MOST 1048576: true; the input reads as it did. -/
def tokenPositionsUptoRow : OpenClaim := { program := "ytilbfhldohibhaa", sum := "3bb4a7c94ac3020ab6c3e9dd2eda9923354f5c19d4c53f680e76ebc7d2c44ca7", func := "apodixis/apodixislaw01.TokenPositions", spec := "tokenPositions", unfollowed := true, recurses := true, apart := false, narrowed := true }
def TokenPositionsUptoSaid : Prop := tokenPositionsUptoRow.holds Try.pinned (OpenSpec.upto tokenPositionsSpec)

/-- 'apodixislaw01.TokenScans', WHERE WHAT IT READS IS OF BULK AT MOST 1048576: true; the input reads as it did. -/
def tokenScansUptoRow : OpenClaim := { program := "ytilbfhldohibhaa", sum := "3bb4a7c94ac3020ab6c3e9dd2eda9923354f5c19d4c53f680e76ebc7d2c44ca7", func := "apodixis/apodixislaw01.TokenScans", spec := "tokenScans", unfollowed := true, recurses := true, apart := false, narrowed := true }
def TokenScansUptoSaid : Prop := tokenScansUptoRow.holds Try.pinned (OpenSpec.upto tokenScansSpec)

/-- 'apodixislaw01.TokenKinds', WHERE WHAT IT READS IS OF BULK AT MOST 1048576: true; the input reads as it did. -/
def tokenKindsUptoRow : OpenClaim := { program := "ytilbfhldohibhaa", sum := "3bb4a7c94ac3020ab6c3e9dd2eda9923354f5c19d4c53f680e76ebc7d2c44ca7", func := "apodixis/apodixislaw01.TokenKinds", spec := "tokenKinds", unfollowed := true, recurses := true, apart := false, narrowed := true }
def TokenKindsUptoSaid : Prop := tokenKindsUptoRow.holds Try.pinned (OpenSpec.upto tokenKindsSpec)

/-- 'apodixislaw01.TokenWeaves', WHERE WHAT IT READS IS OF BULK AT MOST 1048576: true; the input reads as it did. -/
def tokenWeavesUptoRow : OpenClaim := { program := "ytilbfhldohibhaa", sum := "3bb4a7c94ac3020ab6c3e9dd2eda9923354f5c19d4c53f680e76ebc7d2c44ca7", func := "apodixis/apodixislaw01.TokenWeaves", spec := "tokenWeaves", inPlace := ["internal/abi.NoEscape", "internal/bytealg.MakeNoZero"], unfollowed := true, recurses := true, apart := false, narrowed := true }
def TokenWeavesUptoSaid : Prop := tokenWeavesUptoRow.holds Try.pinned (OpenSpec.upto tokenWeavesSpec)

/-- 'apodixislaw01.TokenBack', WHERE WHAT IT READS IS OF BULK AT MOST 1048576: true; the input reads as it did. -/
def tokenBackUptoRow : OpenClaim := { program := "ytilbfhldohibhaa", sum := "3bb4a7c94ac3020ab6c3e9dd2eda9923354f5c19d4c53f680e76ebc7d2c44ca7", func := "apodixis/apodixislaw01.TokenBack", spec := "tokenBack", inPlace := ["internal/abi.NoEscape", "internal/bytealg.MakeNoZero"], unfollowed := true, recurses := true, apart := false, narrowed := true }
def TokenBackUptoSaid : Prop := tokenBackUptoRow.holds Try.pinned (OpenSpec.upto tokenBackSpec)

end Rows
end Go.Proofs.Ytilbfhldohibhaa
