/-
  NARROWER THAN 'FOR EVERY INPUT', by the rows' own cells (each row's printed sentence says how): ClauseForms: loops, laid · ClauseApplies: loops, laid · ClauseOrders: loops, laid · ClauseSubsumes: loops, laid · ClauseTerms: loops, laid · ClauseBack: loops, laid · ClauseUnifies: loops, laid · ClauseIndex: loops, laid.
  DERIVED. THE GIVEN ROWS OF THIS SEAT. 8 by the template 'for every input the law returns true; each argument reads behind the call as it read before'; 0 by the template 'total and deterministic' (their statements: YtpfohmboflcneaaGreatDoorTotals.lean).
  GIVEN WITH THE SEED: the statements are not yours to turn. If you find one false, say at which input.
  Laid BY PROGRAM, IN A SANDBOX (cutbox-rows.mjs): the forced cells as the released guide's own fill.sh prints them over the translation 4f3497f2dcf1f8fd… (all of the seat's roots in one cut). By AI agents, Wed Nov 11 2026. No macro, syntax, notation, axiom, sorry.
-/
import Derived.Test.YtpfohmboflcneaaGreatDoorChecked
import GoSem.Claim
import GoSem.ClaimJoined
import GoSem.ClaimMapViews
import Derived.JoinedTies
import Derived.KernelRfl
namespace Go.Proofs.YtpfohmboflcneaaGreatDoor
/- THE CELL 'sum', in the pinned program and in every row, IS THE sha256 OF THE DUMP (.gsa) THAT YtpfohmboflcneaaGreatDoorProg.lean LOADS. Nothing in Lean hashes anything: it is a label: what it is worth is what the hold of that sum in a sandbox is worth. -/
noncomputable def Tryz.pinned : Pinned := { name := "ytpfohmboflcneaagreatdoor", sum := "4f3497f2dcf1f8fdee037e0ba02fe98161228c9ad99773db93ac0c2844f852ef", checked := Tryz.checked }
namespace Rows
def none {H : Type} : Left H := { results := [], args := [] }

/- WHAT THE LISTED PACKAGE-LEVEL VARIABLES READ AS WHEN THE CALL BEGINS. Each datum BY PROGRAM (the guide's laid-datum.mjs) off the statement by which the dump's own 'gosem.cut.vars' lays the variable. In a bare row this is a premise. The card (YtpfohmboflcneaaGreatDoorCards.lean) ties it to the program's text. -/
def laid_math_bits_deBruijn32tab {H : Type} : DataW H := .agg [.lit (.int .u8 0), .lit (.int .u8 1), .lit (.int .u8 28), .lit (.int .u8 2), .lit (.int .u8 29), .lit (.int .u8 14), .lit (.int .u8 24), .lit (.int .u8 3), .lit (.int .u8 30), .lit (.int .u8 22), .lit (.int .u8 20), .lit (.int .u8 15), .lit (.int .u8 25), .lit (.int .u8 17), .lit (.int .u8 4), .lit (.int .u8 8), .lit (.int .u8 31), .lit (.int .u8 27), .lit (.int .u8 13), .lit (.int .u8 23), .lit (.int .u8 21), .lit (.int .u8 19), .lit (.int .u8 16), .lit (.int .u8 7), .lit (.int .u8 26), .lit (.int .u8 12), .lit (.int .u8 18), .lit (.int .u8 6), .lit (.int .u8 11), .lit (.int .u8 5), .lit (.int .u8 10), .lit (.int .u8 9)]
def laid_math_bits_deBruijn64tab {H : Type} : DataW H := .agg [.lit (.int .u8 0), .lit (.int .u8 1), .lit (.int .u8 56), .lit (.int .u8 2), .lit (.int .u8 57), .lit (.int .u8 49), .lit (.int .u8 28), .lit (.int .u8 3), .lit (.int .u8 61), .lit (.int .u8 58), .lit (.int .u8 42), .lit (.int .u8 50), .lit (.int .u8 38), .lit (.int .u8 29), .lit (.int .u8 17), .lit (.int .u8 4), .lit (.int .u8 62), .lit (.int .u8 47), .lit (.int .u8 59), .lit (.int .u8 36), .lit (.int .u8 45), .lit (.int .u8 43), .lit (.int .u8 51), .lit (.int .u8 22), .lit (.int .u8 53), .lit (.int .u8 39), .lit (.int .u8 33), .lit (.int .u8 30), .lit (.int .u8 24), .lit (.int .u8 18), .lit (.int .u8 12), .lit (.int .u8 5), .lit (.int .u8 63), .lit (.int .u8 55), .lit (.int .u8 48), .lit (.int .u8 27), .lit (.int .u8 60), .lit (.int .u8 41), .lit (.int .u8 37), .lit (.int .u8 16), .lit (.int .u8 46), .lit (.int .u8 35), .lit (.int .u8 44), .lit (.int .u8 21), .lit (.int .u8 52), .lit (.int .u8 32), .lit (.int .u8 23), .lit (.int .u8 11), .lit (.int .u8 54), .lit (.int .u8 26), .lit (.int .u8 40), .lit (.int .u8 15), .lit (.int .u8 34), .lit (.int .u8 20), .lit (.int .u8 31), .lit (.int .u8 10), .lit (.int .u8 25), .lit (.int .u8 14), .lit (.int .u8 19), .lit (.int .u8 9), .lit (.int .u8 13), .lit (.int .u8 8), .lit (.int .u8 7), .lit (.int .u8 6)]
def laid_internal_strconv_uint64pow10 {H : Type} : DataW H := .agg [.lit (.int .u64 1), .lit (.int .u64 10), .lit (.int .u64 100), .lit (.int .u64 1000), .lit (.int .u64 10000), .lit (.int .u64 100000), .lit (.int .u64 1000000), .lit (.int .u64 10000000), .lit (.int .u64 100000000), .lit (.int .u64 1000000000), .lit (.int .u64 10000000000), .lit (.int .u64 100000000000), .lit (.int .u64 1000000000000), .lit (.int .u64 10000000000000), .lit (.int .u64 100000000000000), .lit (.int .u64 1000000000000000), .lit (.int .u64 10000000000000000), .lit (.int .u64 100000000000000000), .lit (.int .u64 1000000000000000000), .lit (.int .u64 10000000000000000000)]
def laid_strconv_ErrRange {H : Type} : DataW H := .iface "*errors.errorString" (.ptr (.agg [.lit (.string [118, 97, 108, 117, 101, 32, 111, 117, 116, 32, 111, 102, 32, 114, 97, 110, 103, 101])]))
def laid_strconv_ErrSyntax {H : Type} : DataW H := .iface "*errors.errorString" (.ptr (.agg [.lit (.string [105, 110, 118, 97, 108, 105, 100, 32, 115, 121, 110, 116, 97, 120])]))

/-- 'apodixislaw28.ClauseForms': WHATEVER THE INPUT: true; the input reads as it did. -/
def clauseFormsSpec : ChangeSpec := { name := "clauseForms", fn := fun _ => fun
  | [d1, d2] => { results := [.lit (.bool true)], args := [d1, d2] }
  | _ => none }
def clauseFormsRow : OpenClaim := { program := "ytpfohmboflcneaagreatdoor", sum := "4f3497f2dcf1f8fdee037e0ba02fe98161228c9ad99773db93ac0c2844f852ef", func := "apodixis/apodixislaw28.ClauseForms", spec := "clauseForms", inPlace := ["internal/abi.NoEscape"], unfollowed := true, recurses := true, named := ["strconv.ErrSyntax", "strconv.ErrRange", "internal/strconv.uint64pow10", "math/bits.deBruijn32tab", "math/bits.deBruijn64tab"], loops := true, plainKeys := false, apart := false, laid := [("math/bits.deBruijn32tab", laid_math_bits_deBruijn32tab), ("math/bits.deBruijn64tab", laid_math_bits_deBruijn64tab), ("internal/strconv.uint64pow10", laid_internal_strconv_uint64pow10), ("strconv.ErrRange", laid_strconv_ErrRange), ("strconv.ErrSyntax", laid_strconv_ErrSyntax)] }
def ClauseFormsSaid : Prop := clauseFormsRow.holds Tryz.pinned (OpenSpec.ofChange clauseFormsSpec)

/-- ITS FALSE NEIGHBOUR: 'it returns false'. Refute it at one input. -/
def clauseFormsWrong : ChangeSpec := { name := "clauseForms", fn := fun _ => fun
  | [d1, d2] => { results := [.lit (.bool false)], args := [d1, d2] }
  | _ => none }
def ClauseFormsWrongFalsely : Prop := clauseFormsRow.holds Tryz.pinned (OpenSpec.ofChange clauseFormsWrong)

/-- 'apodixislaw28.ClauseApplies': WHATEVER THE INPUT: true; the input reads as it did. -/
def clauseAppliesSpec : ChangeSpec := { name := "clauseApplies", fn := fun _ => fun
  | [d1, d2] => { results := [.lit (.bool true)], args := [d1, d2] }
  | _ => none }
def clauseAppliesRow : OpenClaim := { program := "ytpfohmboflcneaagreatdoor", sum := "4f3497f2dcf1f8fdee037e0ba02fe98161228c9ad99773db93ac0c2844f852ef", func := "apodixis/apodixislaw28.ClauseApplies", spec := "clauseApplies", inPlace := ["internal/abi.NoEscape"], unfollowed := true, recurses := true, named := ["strconv.ErrSyntax", "strconv.ErrRange", "internal/strconv.uint64pow10", "math/bits.deBruijn32tab", "math/bits.deBruijn64tab"], loops := true, plainKeys := false, apart := false, laid := [("math/bits.deBruijn32tab", laid_math_bits_deBruijn32tab), ("math/bits.deBruijn64tab", laid_math_bits_deBruijn64tab), ("internal/strconv.uint64pow10", laid_internal_strconv_uint64pow10), ("strconv.ErrRange", laid_strconv_ErrRange), ("strconv.ErrSyntax", laid_strconv_ErrSyntax)] }
def ClauseAppliesSaid : Prop := clauseAppliesRow.holds Tryz.pinned (OpenSpec.ofChange clauseAppliesSpec)

/-- ITS FALSE NEIGHBOUR: 'it returns false'. Refute it at one input. -/
def clauseAppliesWrong : ChangeSpec := { name := "clauseApplies", fn := fun _ => fun
  | [d1, d2] => { results := [.lit (.bool false)], args := [d1, d2] }
  | _ => none }
def ClauseAppliesWrongFalsely : Prop := clauseAppliesRow.holds Tryz.pinned (OpenSpec.ofChange clauseAppliesWrong)

/-- 'apodixislaw28.ClauseOrders': WHATEVER THE INPUT: true; the input reads as it did. -/
def clauseOrdersSpec : ChangeSpec := { name := "clauseOrders", fn := fun _ => fun
  | [d1, d2, d3, d4] => { results := [.lit (.bool true)], args := [d1, d2, d3, d4] }
  | _ => none }
def clauseOrdersRow : OpenClaim := { program := "ytpfohmboflcneaagreatdoor", sum := "4f3497f2dcf1f8fdee037e0ba02fe98161228c9ad99773db93ac0c2844f852ef", func := "apodixis/apodixislaw28.ClauseOrders", spec := "clauseOrders", inPlace := ["internal/abi.NoEscape"], unfollowed := true, recurses := true, named := ["strconv.ErrSyntax", "strconv.ErrRange", "internal/strconv.uint64pow10", "math/bits.deBruijn32tab", "math/bits.deBruijn64tab"], loops := true, plainKeys := false, apart := false, laid := [("math/bits.deBruijn32tab", laid_math_bits_deBruijn32tab), ("math/bits.deBruijn64tab", laid_math_bits_deBruijn64tab), ("internal/strconv.uint64pow10", laid_internal_strconv_uint64pow10), ("strconv.ErrRange", laid_strconv_ErrRange), ("strconv.ErrSyntax", laid_strconv_ErrSyntax)] }
def ClauseOrdersSaid : Prop := clauseOrdersRow.holds Tryz.pinned (OpenSpec.ofChange clauseOrdersSpec)

/-- ITS FALSE NEIGHBOUR: 'it returns false'. Refute it at one input. -/
def clauseOrdersWrong : ChangeSpec := { name := "clauseOrders", fn := fun _ => fun
  | [d1, d2, d3, d4] => { results := [.lit (.bool false)], args := [d1, d2, d3, d4] }
  | _ => none }
def ClauseOrdersWrongFalsely : Prop := clauseOrdersRow.holds Tryz.pinned (OpenSpec.ofChange clauseOrdersWrong)

/-- 'apodixislaw28.ClauseSubsumes': WHATEVER THE INPUT: true; the input reads as it did. -/
def clauseSubsumesSpec : ChangeSpec := { name := "clauseSubsumes", fn := fun _ => fun
  | [d1, d2] => { results := [.lit (.bool true)], args := [d1, d2] }
  | _ => none }
def clauseSubsumesRow : OpenClaim := { program := "ytpfohmboflcneaagreatdoor", sum := "4f3497f2dcf1f8fdee037e0ba02fe98161228c9ad99773db93ac0c2844f852ef", func := "apodixis/apodixislaw28.ClauseSubsumes", spec := "clauseSubsumes", inPlace := ["internal/abi.NoEscape"], unfollowed := true, recurses := true, named := ["strconv.ErrSyntax", "strconv.ErrRange", "internal/strconv.uint64pow10", "math/bits.deBruijn32tab", "math/bits.deBruijn64tab"], loops := true, plainKeys := false, apart := false, laid := [("math/bits.deBruijn32tab", laid_math_bits_deBruijn32tab), ("math/bits.deBruijn64tab", laid_math_bits_deBruijn64tab), ("internal/strconv.uint64pow10", laid_internal_strconv_uint64pow10), ("strconv.ErrRange", laid_strconv_ErrRange), ("strconv.ErrSyntax", laid_strconv_ErrSyntax)] }
def ClauseSubsumesSaid : Prop := clauseSubsumesRow.holds Tryz.pinned (OpenSpec.ofChange clauseSubsumesSpec)

/-- ITS FALSE NEIGHBOUR: 'it returns false'. Refute it at one input. -/
def clauseSubsumesWrong : ChangeSpec := { name := "clauseSubsumes", fn := fun _ => fun
  | [d1, d2] => { results := [.lit (.bool false)], args := [d1, d2] }
  | _ => none }
def ClauseSubsumesWrongFalsely : Prop := clauseSubsumesRow.holds Tryz.pinned (OpenSpec.ofChange clauseSubsumesWrong)

/-- 'apodixislaw28.ClauseTerms': WHATEVER THE INPUT: true; the input reads as it did. -/
def clauseTermsSpec : ChangeSpec := { name := "clauseTerms", fn := fun _ => fun
  | [d1, d2] => { results := [.lit (.bool true)], args := [d1, d2] }
  | _ => none }
def clauseTermsRow : OpenClaim := { program := "ytpfohmboflcneaagreatdoor", sum := "4f3497f2dcf1f8fdee037e0ba02fe98161228c9ad99773db93ac0c2844f852ef", func := "apodixis/apodixislaw28.ClauseTerms", spec := "clauseTerms", inPlace := ["internal/abi.NoEscape"], unfollowed := true, recurses := true, named := ["strconv.ErrSyntax", "strconv.ErrRange", "internal/strconv.uint64pow10", "math/bits.deBruijn32tab", "math/bits.deBruijn64tab"], loops := true, plainKeys := false, apart := false, laid := [("math/bits.deBruijn32tab", laid_math_bits_deBruijn32tab), ("math/bits.deBruijn64tab", laid_math_bits_deBruijn64tab), ("internal/strconv.uint64pow10", laid_internal_strconv_uint64pow10), ("strconv.ErrRange", laid_strconv_ErrRange), ("strconv.ErrSyntax", laid_strconv_ErrSyntax)] }
def ClauseTermsSaid : Prop := clauseTermsRow.holds Tryz.pinned (OpenSpec.ofChange clauseTermsSpec)

/-- ITS FALSE NEIGHBOUR: 'it returns false'. Refute it at one input. -/
def clauseTermsWrong : ChangeSpec := { name := "clauseTerms", fn := fun _ => fun
  | [d1, d2] => { results := [.lit (.bool false)], args := [d1, d2] }
  | _ => none }
def ClauseTermsWrongFalsely : Prop := clauseTermsRow.holds Tryz.pinned (OpenSpec.ofChange clauseTermsWrong)

/-- 'apodixislaw28.ClauseBack': WHATEVER THE INPUT: true; the input reads as it did. -/
def clauseBackSpec : ChangeSpec := { name := "clauseBack", fn := fun _ => fun
  | [d1, d2] => { results := [.lit (.bool true)], args := [d1, d2] }
  | _ => none }
def clauseBackRow : OpenClaim := { program := "ytpfohmboflcneaagreatdoor", sum := "4f3497f2dcf1f8fdee037e0ba02fe98161228c9ad99773db93ac0c2844f852ef", func := "apodixis/apodixislaw28.ClauseBack", spec := "clauseBack", inPlace := ["internal/abi.NoEscape", "internal/bytealg.IndexByteString", "internal/bytealg.IndexString"], unfollowed := true, recurses := true, named := ["strconv.ErrSyntax", "strconv.ErrRange", "internal/strconv.uint64pow10", "math/bits.deBruijn32tab", "math/bits.deBruijn64tab", "internal/bytealg.MaxLen"], loops := true, plainKeys := false, apart := false, laid := [("math/bits.deBruijn32tab", laid_math_bits_deBruijn32tab), ("math/bits.deBruijn64tab", laid_math_bits_deBruijn64tab), ("internal/strconv.uint64pow10", laid_internal_strconv_uint64pow10), ("strconv.ErrRange", laid_strconv_ErrRange), ("strconv.ErrSyntax", laid_strconv_ErrSyntax)] }
def ClauseBackSaid : Prop := clauseBackRow.holds Tryz.pinned (OpenSpec.ofChange clauseBackSpec)

/-- ITS FALSE NEIGHBOUR: 'it returns false'. Refute it at one input. -/
def clauseBackWrong : ChangeSpec := { name := "clauseBack", fn := fun _ => fun
  | [d1, d2] => { results := [.lit (.bool false)], args := [d1, d2] }
  | _ => none }
def ClauseBackWrongFalsely : Prop := clauseBackRow.holds Tryz.pinned (OpenSpec.ofChange clauseBackWrong)

/-- 'apodixislaw28.ClauseUnifies': WHATEVER THE INPUT: true; the input reads as it did. -/
def clauseUnifiesSpec : ChangeSpec := { name := "clauseUnifies", fn := fun _ => fun
  | [d1, d2, d3] => { results := [.lit (.bool true)], args := [d1, d2, d3] }
  | _ => none }
def clauseUnifiesRow : OpenClaim := { program := "ytpfohmboflcneaagreatdoor", sum := "4f3497f2dcf1f8fdee037e0ba02fe98161228c9ad99773db93ac0c2844f852ef", func := "apodixis/apodixislaw28.ClauseUnifies", spec := "clauseUnifies", inPlace := ["internal/abi.NoEscape"], unfollowed := true, recurses := true, named := ["strconv.ErrSyntax", "strconv.ErrRange", "internal/strconv.uint64pow10", "math/bits.deBruijn32tab", "math/bits.deBruijn64tab"], loops := true, plainKeys := false, apart := false, laid := [("math/bits.deBruijn32tab", laid_math_bits_deBruijn32tab), ("math/bits.deBruijn64tab", laid_math_bits_deBruijn64tab), ("internal/strconv.uint64pow10", laid_internal_strconv_uint64pow10), ("strconv.ErrRange", laid_strconv_ErrRange), ("strconv.ErrSyntax", laid_strconv_ErrSyntax)] }
def ClauseUnifiesSaid : Prop := clauseUnifiesRow.holds Tryz.pinned (OpenSpec.ofChange clauseUnifiesSpec)

/-- ITS FALSE NEIGHBOUR: 'it returns false'. Refute it at one input. -/
def clauseUnifiesWrong : ChangeSpec := { name := "clauseUnifies", fn := fun _ => fun
  | [d1, d2, d3] => { results := [.lit (.bool false)], args := [d1, d2, d3] }
  | _ => none }
def ClauseUnifiesWrongFalsely : Prop := clauseUnifiesRow.holds Tryz.pinned (OpenSpec.ofChange clauseUnifiesWrong)

/-- 'apodixislaw28.ClauseIndex': WHATEVER THE INPUT: true; the input reads as it did. -/
def clauseIndexSpec : ChangeSpec := { name := "clauseIndex", fn := fun _ => fun
  | [d] => { results := [.lit (.bool true)], args := [d] }
  | _ => none }
def clauseIndexRow : OpenClaim := { program := "ytpfohmboflcneaagreatdoor", sum := "4f3497f2dcf1f8fdee037e0ba02fe98161228c9ad99773db93ac0c2844f852ef", func := "apodixis/apodixislaw28.ClauseIndex", spec := "clauseIndex", inPlace := ["internal/abi.NoEscape"], unfollowed := true, recurses := true, named := ["strconv.ErrSyntax", "strconv.ErrRange", "internal/strconv.uint64pow10", "math/bits.deBruijn32tab", "math/bits.deBruijn64tab"], loops := true, plainKeys := false, apart := false, laid := [("math/bits.deBruijn32tab", laid_math_bits_deBruijn32tab), ("math/bits.deBruijn64tab", laid_math_bits_deBruijn64tab), ("internal/strconv.uint64pow10", laid_internal_strconv_uint64pow10), ("strconv.ErrRange", laid_strconv_ErrRange), ("strconv.ErrSyntax", laid_strconv_ErrSyntax)] }
def ClauseIndexSaid : Prop := clauseIndexRow.holds Tryz.pinned (OpenSpec.ofChange clauseIndexSpec)

/-- ITS FALSE NEIGHBOUR: 'it returns false'. Refute it at one input. -/
def clauseIndexWrong : ChangeSpec := { name := "clauseIndex", fn := fun _ => fun
  | [d] => { results := [.lit (.bool false)], args := [d] }
  | _ => none }
def ClauseIndexWrongFalsely : Prop := clauseIndexRow.holds Tryz.pinned (OpenSpec.ofChange clauseIndexWrong)

/- THE SECOND FORM. 'bulk': how many values and letters a reading holds, each counted each time it is reached (what is shared counts as often as it is met; a slice's spare places count too). A statement '..UptoSaid' is the law's where the arguments, and the package variables that the reading takes, are together of bulk at most 1048576: NARROWER than '..Said'. Prove '..Said' where nothing that the law and all that it calls make is longer than what came in: it says more and counts as full. Else prove '..UptoSaid'. A law counts once. -/
mutual
def uptoBulk {H : Type} : DataW H → Nat
  | .lit (.string bytes) => bytes.length + 1
  | .lit _ => 1
  | .nil => 1
  | .ptr d => uptoBulk d + 1
  | .slice elems spare => uptoBulkAll elems + uptoBulkAll spare + 1
  | .agg parts => uptoBulkAll parts + 1
  | .iface _ d => uptoBulk d + 1
  | .map entries => uptoBulkEntries entries + 1
  | .held _ => 1
def uptoBulkAll {H : Type} : List (DataW H) → Nat
  | [] => 0
  | d :: r => uptoBulk d + uptoBulkAll r
def uptoBulkEntries {H : Type} : List (Lit × DataW H) → Nat
  | [] => 0
  | x :: r => uptoBulkEntry x + uptoBulkEntries r
def uptoBulkEntry {H : Type} : Lit × DataW H → Nat
  | (.string bytes, d) => bytes.length + uptoBulk d + 1
  | (_, d) => uptoBulk d + 1
 end
def uptoSmall : (H : Type) → List (DataW H) → Bool := fun _ ds => decide (uptoBulkAll ds ≤ 1048576)
def OpenSpec.upto (s : _root_.Go.ChangeSpec) : _root_.Go.OpenSpec := { _root_.Go.OpenSpec.ofChange s with cond := some uptoSmall }

/-- 'apodixislaw28.ClauseForms', WHERE WHAT IT READS IS OF BULK AT MOST 1048576: true; the input reads as it did. -/
def clauseFormsUptoRow : OpenClaim := { program := "ytpfohmboflcneaagreatdoor", sum := "4f3497f2dcf1f8fdee037e0ba02fe98161228c9ad99773db93ac0c2844f852ef", func := "apodixis/apodixislaw28.ClauseForms", spec := "clauseForms", inPlace := ["internal/abi.NoEscape"], unfollowed := true, recurses := true, named := ["strconv.ErrSyntax", "strconv.ErrRange", "internal/strconv.uint64pow10", "math/bits.deBruijn32tab", "math/bits.deBruijn64tab"], loops := true, plainKeys := false, apart := false, laid := [("math/bits.deBruijn32tab", laid_math_bits_deBruijn32tab), ("math/bits.deBruijn64tab", laid_math_bits_deBruijn64tab), ("internal/strconv.uint64pow10", laid_internal_strconv_uint64pow10), ("strconv.ErrRange", laid_strconv_ErrRange), ("strconv.ErrSyntax", laid_strconv_ErrSyntax)], narrowed := true }
def ClauseFormsUptoSaid : Prop := clauseFormsUptoRow.holds Tryz.pinned (OpenSpec.upto clauseFormsSpec)

/-- 'apodixislaw28.ClauseApplies', WHERE WHAT IT READS IS OF BULK AT MOST 1048576: true; the input reads as it did. -/
def clauseAppliesUptoRow : OpenClaim := { program := "ytpfohmboflcneaagreatdoor", sum := "4f3497f2dcf1f8fdee037e0ba02fe98161228c9ad99773db93ac0c2844f852ef", func := "apodixis/apodixislaw28.ClauseApplies", spec := "clauseApplies", inPlace := ["internal/abi.NoEscape"], unfollowed := true, recurses := true, named := ["strconv.ErrSyntax", "strconv.ErrRange", "internal/strconv.uint64pow10", "math/bits.deBruijn32tab", "math/bits.deBruijn64tab"], loops := true, plainKeys := false, apart := false, laid := [("math/bits.deBruijn32tab", laid_math_bits_deBruijn32tab), ("math/bits.deBruijn64tab", laid_math_bits_deBruijn64tab), ("internal/strconv.uint64pow10", laid_internal_strconv_uint64pow10), ("strconv.ErrRange", laid_strconv_ErrRange), ("strconv.ErrSyntax", laid_strconv_ErrSyntax)], narrowed := true }
def ClauseAppliesUptoSaid : Prop := clauseAppliesUptoRow.holds Tryz.pinned (OpenSpec.upto clauseAppliesSpec)

/-- 'apodixislaw28.ClauseOrders', WHERE WHAT IT READS IS OF BULK AT MOST 1048576: true; the input reads as it did. -/
def clauseOrdersUptoRow : OpenClaim := { program := "ytpfohmboflcneaagreatdoor", sum := "4f3497f2dcf1f8fdee037e0ba02fe98161228c9ad99773db93ac0c2844f852ef", func := "apodixis/apodixislaw28.ClauseOrders", spec := "clauseOrders", inPlace := ["internal/abi.NoEscape"], unfollowed := true, recurses := true, named := ["strconv.ErrSyntax", "strconv.ErrRange", "internal/strconv.uint64pow10", "math/bits.deBruijn32tab", "math/bits.deBruijn64tab"], loops := true, plainKeys := false, apart := false, laid := [("math/bits.deBruijn32tab", laid_math_bits_deBruijn32tab), ("math/bits.deBruijn64tab", laid_math_bits_deBruijn64tab), ("internal/strconv.uint64pow10", laid_internal_strconv_uint64pow10), ("strconv.ErrRange", laid_strconv_ErrRange), ("strconv.ErrSyntax", laid_strconv_ErrSyntax)], narrowed := true }
def ClauseOrdersUptoSaid : Prop := clauseOrdersUptoRow.holds Tryz.pinned (OpenSpec.upto clauseOrdersSpec)

/-- 'apodixislaw28.ClauseSubsumes', WHERE WHAT IT READS IS OF BULK AT MOST 1048576: true; the input reads as it did. -/
def clauseSubsumesUptoRow : OpenClaim := { program := "ytpfohmboflcneaagreatdoor", sum := "4f3497f2dcf1f8fdee037e0ba02fe98161228c9ad99773db93ac0c2844f852ef", func := "apodixis/apodixislaw28.ClauseSubsumes", spec := "clauseSubsumes", inPlace := ["internal/abi.NoEscape"], unfollowed := true, recurses := true, named := ["strconv.ErrSyntax", "strconv.ErrRange", "internal/strconv.uint64pow10", "math/bits.deBruijn32tab", "math/bits.deBruijn64tab"], loops := true, plainKeys := false, apart := false, laid := [("math/bits.deBruijn32tab", laid_math_bits_deBruijn32tab), ("math/bits.deBruijn64tab", laid_math_bits_deBruijn64tab), ("internal/strconv.uint64pow10", laid_internal_strconv_uint64pow10), ("strconv.ErrRange", laid_strconv_ErrRange), ("strconv.ErrSyntax", laid_strconv_ErrSyntax)], narrowed := true }
def ClauseSubsumesUptoSaid : Prop := clauseSubsumesUptoRow.holds Tryz.pinned (OpenSpec.upto clauseSubsumesSpec)

/-- 'apodixislaw28.ClauseTerms', WHERE WHAT IT READS IS OF BULK AT MOST 1048576: true; the input reads as it did. -/
def clauseTermsUptoRow : OpenClaim := { program := "ytpfohmboflcneaagreatdoor", sum := "4f3497f2dcf1f8fdee037e0ba02fe98161228c9ad99773db93ac0c2844f852ef", func := "apodixis/apodixislaw28.ClauseTerms", spec := "clauseTerms", inPlace := ["internal/abi.NoEscape"], unfollowed := true, recurses := true, named := ["strconv.ErrSyntax", "strconv.ErrRange", "internal/strconv.uint64pow10", "math/bits.deBruijn32tab", "math/bits.deBruijn64tab"], loops := true, plainKeys := false, apart := false, laid := [("math/bits.deBruijn32tab", laid_math_bits_deBruijn32tab), ("math/bits.deBruijn64tab", laid_math_bits_deBruijn64tab), ("internal/strconv.uint64pow10", laid_internal_strconv_uint64pow10), ("strconv.ErrRange", laid_strconv_ErrRange), ("strconv.ErrSyntax", laid_strconv_ErrSyntax)], narrowed := true }
def ClauseTermsUptoSaid : Prop := clauseTermsUptoRow.holds Tryz.pinned (OpenSpec.upto clauseTermsSpec)

/-- 'apodixislaw28.ClauseBack', WHERE WHAT IT READS IS OF BULK AT MOST 1048576: true; the input reads as it did. -/
def clauseBackUptoRow : OpenClaim := { program := "ytpfohmboflcneaagreatdoor", sum := "4f3497f2dcf1f8fdee037e0ba02fe98161228c9ad99773db93ac0c2844f852ef", func := "apodixis/apodixislaw28.ClauseBack", spec := "clauseBack", inPlace := ["internal/abi.NoEscape", "internal/bytealg.IndexByteString", "internal/bytealg.IndexString"], unfollowed := true, recurses := true, named := ["strconv.ErrSyntax", "strconv.ErrRange", "internal/strconv.uint64pow10", "math/bits.deBruijn32tab", "math/bits.deBruijn64tab", "internal/bytealg.MaxLen"], loops := true, plainKeys := false, apart := false, laid := [("math/bits.deBruijn32tab", laid_math_bits_deBruijn32tab), ("math/bits.deBruijn64tab", laid_math_bits_deBruijn64tab), ("internal/strconv.uint64pow10", laid_internal_strconv_uint64pow10), ("strconv.ErrRange", laid_strconv_ErrRange), ("strconv.ErrSyntax", laid_strconv_ErrSyntax)], narrowed := true }
def ClauseBackUptoSaid : Prop := clauseBackUptoRow.holds Tryz.pinned (OpenSpec.upto clauseBackSpec)

/-- 'apodixislaw28.ClauseUnifies', WHERE WHAT IT READS IS OF BULK AT MOST 1048576: true; the input reads as it did. -/
def clauseUnifiesUptoRow : OpenClaim := { program := "ytpfohmboflcneaagreatdoor", sum := "4f3497f2dcf1f8fdee037e0ba02fe98161228c9ad99773db93ac0c2844f852ef", func := "apodixis/apodixislaw28.ClauseUnifies", spec := "clauseUnifies", inPlace := ["internal/abi.NoEscape"], unfollowed := true, recurses := true, named := ["strconv.ErrSyntax", "strconv.ErrRange", "internal/strconv.uint64pow10", "math/bits.deBruijn32tab", "math/bits.deBruijn64tab"], loops := true, plainKeys := false, apart := false, laid := [("math/bits.deBruijn32tab", laid_math_bits_deBruijn32tab), ("math/bits.deBruijn64tab", laid_math_bits_deBruijn64tab), ("internal/strconv.uint64pow10", laid_internal_strconv_uint64pow10), ("strconv.ErrRange", laid_strconv_ErrRange), ("strconv.ErrSyntax", laid_strconv_ErrSyntax)], narrowed := true }
def ClauseUnifiesUptoSaid : Prop := clauseUnifiesUptoRow.holds Tryz.pinned (OpenSpec.upto clauseUnifiesSpec)

/-- 'apodixislaw28.ClauseIndex', WHERE WHAT IT READS IS OF BULK AT MOST 1048576: true; the input reads as it did. -/
def clauseIndexUptoRow : OpenClaim := { program := "ytpfohmboflcneaagreatdoor", sum := "4f3497f2dcf1f8fdee037e0ba02fe98161228c9ad99773db93ac0c2844f852ef", func := "apodixis/apodixislaw28.ClauseIndex", spec := "clauseIndex", inPlace := ["internal/abi.NoEscape"], unfollowed := true, recurses := true, named := ["strconv.ErrSyntax", "strconv.ErrRange", "internal/strconv.uint64pow10", "math/bits.deBruijn32tab", "math/bits.deBruijn64tab"], loops := true, plainKeys := false, apart := false, laid := [("math/bits.deBruijn32tab", laid_math_bits_deBruijn32tab), ("math/bits.deBruijn64tab", laid_math_bits_deBruijn64tab), ("internal/strconv.uint64pow10", laid_internal_strconv_uint64pow10), ("strconv.ErrRange", laid_strconv_ErrRange), ("strconv.ErrSyntax", laid_strconv_ErrSyntax)], narrowed := true }
def ClauseIndexUptoSaid : Prop := clauseIndexUptoRow.holds Tryz.pinned (OpenSpec.upto clauseIndexSpec)

end Rows
end Go.Proofs.YtpfohmboflcneaaGreatDoor
