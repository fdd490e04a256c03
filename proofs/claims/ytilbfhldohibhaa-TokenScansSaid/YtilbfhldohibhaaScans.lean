/- The law TokenScans returns true at every text, and leaves its arguments as they were. Conditions: none beyond those of the given statement. -/
import Derived.Test.YtilbfhldohibhaaRows
import Derived.Test.YtilbfhldohibhaaW14
import Derived.ProofKit
set_option linter.unusedSimpArgs false
set_option linter.unusedVariables false
set_option linter.unnecessarySimpa false
namespace Go.Proofs.Ytilbfhldohibhaa.tokenScans
open Go Go.AL Go.ChangeShapes Go.WideShapes Go.ChangeAt Go.RowKit
set_option linter.unusedVariables false

theorem own : ownKnob Try.prog.godebug = none := by kernel_rfl
theorem und9 : Try.prog.underlying 9 = some .string := Try.underlying9
theorem und3 : Try.prog.underlying 3 = some (.int .i64) := Try.underlying3
theorem walk (xss : List (List IV)) (h : TypedAll Try.prog Try.f5.params.toList xss) : PFn Try.prog 5 (argAVs Try.prog Try.f5.params.toList xss) (.im (.v (.bool true))) := by
  rw [Try.params5] at h ⊢
  match xss, h with
  | [x0], ⟨⟨n0, h0⟩, _⟩ =>
    obtain ⟨s, rfl, hs⟩ := typed_str Try.underlying9 h0
    have e : argAVs Try.prog #[9].toList [[.v (.string s)]] = [.im (.v (.string s))] := by
      simp [argAVs, argAV, Try.underlying9, Try.underlying3]
    rw [e, BA_of s]
    exact scans_walk _

set_option maxRecDepth 100000 in
theorem lifted (os : Os) (started : os.Started) (H : Type) (enc : TypeId × Value → H) :
    ReturnsInHanded {} Try.checked os 5 .any (Rows.tokenScansSpec.pre6 enc Try.prog Try.f5 Rows.tokenScansRow.domain false) (Rows.tokenScansSpec.post enc Try.prog Try.f5 false true false false) := by
  refine returnsInHanded_of_change (C := Try.checked) own started (by kernel_rfl) Try.func5
    (ChangeSpec.witness6 (enc := enc) (C := Try.checked) false ⟨#[], #[.string ByteArray.empty], []⟩ 8 (by kernel_rfl) (by kernel_rfl) (by kernel_rfl) (by kernel_rfl)) ?_
  intro W base args ds gs before hval hW _ _
  exact law 4 [9] rfl (fun ds h => by
    have h : ds.length = 1 := h.trans (by kernel_rfl)
    match ds, h with
    | [a], _ => rfl) (by kernel_rfl) (by kernel_rfl) (by kernel_rfl) (by kernel_rfl) (by kernel_rfl) (by kernel_rfl) walk hval hW

theorem proved : Rows.TokenScansSaid :=
  OpenClaim.holds_of_wide 5 Try.f5 rfl rfl rfl rfl rfl rfl rfl ⟨rfl, rfl, rfl, rfl, rfl⟩ rfl rfl rfl rfl rfl (by kernel_rfl) Try.func5 (by kernel_rfl)
    (of_decide_eq_true (by kernel_rfl)) (by unfold Func.isWrapper; first | (rw [if_pos (by decide +kernel)]; kernel_rfl) | (rw [if_neg (by decide +kernel)]; exact ⟨rfl, rfl⟩))
    (fun os started H enc _ => lifted os started H enc)
end Go.Proofs.Ytilbfhldohibhaa.tokenScans
