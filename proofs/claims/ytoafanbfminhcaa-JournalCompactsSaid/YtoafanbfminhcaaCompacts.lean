/- JournalCompacts of layer 38 answers true for all numbers of blocks, records, fates: behind a crash there are the records ahead of a compaction, or its snapshot and the first ones of those behind it. No conditions. -/
import Derived.Test.YtoafanbfminhcaaW3
import Derived.Test.YtoafanbfminhcaaRows
import Derived.ProofKit
set_option linter.unusedSimpArgs false
set_option linter.unusedVariables false
set_option linter.unnecessarySimpa false
namespace Go.Proofs.Ytoafanbfminhcaa.journalCompacts
open Go Go.AL Go.ChangeShapes Go.WideShapes Go.ChangeAt Go.RowKit
set_option linter.unusedVariables false
theorem own : ownKnob Try.prog.godebug = none := by kernel_rfl
theorem walk (xss : List (List IV)) (h : TypedAll Try.prog Try.f5.params.toList xss) : PFn Try.prog 5 (argAVs Try.prog Try.f5.params.toList xss) (.im (.v (.bool true))) := by
  rw [Try.params5] at h ⊢
  match xss, h with
  | [x0, x1, x2, x3, x4, x5], ⟨⟨n0, h0⟩, ⟨n1, h1⟩, ⟨n2, h2⟩, ⟨n3, h3⟩, ⟨n4, h4⟩, ⟨n5, h5⟩, _⟩ =>
    obtain ⟨i, rfl, hi⟩ := typed_int Try.underlying5 h0
    obtain ⟨b, rfl, _⟩ := u8_nat hi
    obtain ⟨A, rfl, hA⟩ := strs_of h1
    obtain ⟨s, rfl, hs⟩ := typed_str Try.underlying9 h2
    obtain ⟨Z, rfl, hZ⟩ := strs_of h3
    obtain ⟨F, rfl, hF⟩ := ints_of h4
    obtain ⟨cm, rfl⟩ := typed_bool Try.underlying4 h5
    have e : argAVs Try.prog #[5, 25, 9, 25, 36, 4].toList [[.v (.int .u8 b)], [.sl 1 (blkR A)], [.v (.string s)], [.sl 1 (blkR Z)], [.sl 1 (intR F)], [.v (.bool cm)]] = [.im (.v (.int .u8 b)), .im (.sl 1 (blkR A)), .im (.v (.string s)), .im (.sl 1 (blkR Z)), .im (.sl 1 (intR F)), .im (.v (.bool cm))] := by
      simp [argAVs, argAV, Try.underlying5, Try.underlying25, Try.underlying9, Try.underlying36, Try.underlying4]
    rw [e, BA_of s]
    exact compacts_walk b A _ Z F cm hA hZ
set_option maxRecDepth 100000 in
theorem lifted (os : Os) (started : os.Started) (H : Type) (enc : TypeId × Value → H) :
    ReturnsInHanded {} Try.checked os 5 .any (Rows.journalCompactsSpec.pre6 enc Try.prog Try.f5 Rows.journalCompactsRow.domain false) (Rows.journalCompactsSpec.post enc Try.prog Try.f5 false true false false) := by
  refine returnsInHanded_of_change (C := Try.checked) own started (by kernel_rfl) Try.func5
    (ChangeSpec.witness6 (enc := enc) (C := Try.checked) false ⟨#[], #[.int .u8 0, .slice none 0 0, .string ⟨#[]⟩, .slice none 0 0, .slice none 0 0, .bool false], []⟩ 8 (by kernel_rfl) (by kernel_rfl) (by kernel_rfl) (by kernel_rfl)) ?_
  intro W base args ds gs before hval hW _ _
  exact law 4 [5, 25, 9, 36, 4, 3] rfl (fun ds h => by
    have h : ds.length = 6 := h.trans (by kernel_rfl)
    match ds, h with
    | [a, b, c, d, e, f], _ => rfl) (by kernel_rfl) (by kernel_rfl) (by kernel_rfl) (by kernel_rfl) (by kernel_rfl) (by kernel_rfl) walk hval hW
theorem proved : Rows.JournalCompactsSaid :=
  OpenClaim.holds_of_wide 5 Try.f5 rfl rfl rfl rfl rfl rfl rfl ⟨rfl, rfl, rfl, rfl, rfl⟩ rfl rfl rfl rfl rfl (by kernel_rfl) Try.func5 (by kernel_rfl)
    (of_decide_eq_true (by kernel_rfl)) (by unfold Func.isWrapper; first | (rw [if_pos (by decide +kernel)]; kernel_rfl) | (rw [if_neg (by decide +kernel)]; exact ⟨rfl, rfl⟩))
    (fun os started H enc _ => lifted os started H enc)
end Go.Proofs.Ytoafanbfminhcaa.journalCompacts
