/- The law TokenPositions returns true at every text and every two offsets, and leaves its arguments as they were. Conditions: none beyond those of the given statement. -/
import Derived.Test.YtilbfhldohibhaaRows
import Derived.Test.YtilbfhldohibhaaW10
import Derived.ProofKit
namespace Go.Proofs.Ytilbfhldohibhaa.tokenPositions
open Go Go.AL Go.ChangeShapes Go.WideShapes Go.ChangeAt Go.RowKit
set_option linter.unusedVariables false

theorem own : ownKnob Try.prog.godebug = none := by kernel_rfl
theorem und9 : Try.prog.underlying 9 = some .string := Try.underlying9
theorem und3 : Try.prog.underlying 3 = some (.int .i64) := Try.underlying3
theorem walk (xss : List (List IV)) (h : TypedAll Try.prog Try.f4.params.toList xss) : PFn Try.prog 4 (argAVs Try.prog Try.f4.params.toList xss) (.im (.v (.bool true))) := by
  rw [Try.params4] at h ⊢
  match xss, h with
  | [x0, x1, x2], ⟨⟨n0, h0⟩, ⟨n1, h1⟩, ⟨n2, h2⟩, _⟩ =>
    obtain ⟨s, rfl, hs⟩ := typed_str Try.underlying9 h0
    obtain ⟨a, rfl, ha⟩ := typed_int Try.underlying3 h1
    obtain ⟨b, rfl, hb⟩ := typed_int Try.underlying3 h2
    have e : argAVs Try.prog #[9, 3, 3].toList [[.v (.string s)], [.v (.int .i64 a)], [.v (.int .i64 b)]] = [.im (.v (.string s)), Iv a, Iv b] := by
      simp [argAVs, argAV, Try.underlying9, Try.underlying3]
    rw [e, BA_of s]
    exact positions_walk _ a b

set_option maxRecDepth 100000 in
theorem lifted (os : Os) (started : os.Started) (H : Type) (enc : TypeId × Value → H) :
    ReturnsInHanded {} Try.checked os 4 .any (Rows.tokenPositionsSpec.pre6 enc Try.prog Try.f4 Rows.tokenPositionsRow.domain false) (Rows.tokenPositionsSpec.post enc Try.prog Try.f4 false true false false) := by
  refine returnsInHanded_of_change (C := Try.checked) own started (by kernel_rfl) Try.func4
    (ChangeSpec.witness6 (enc := enc) (C := Try.checked) false ⟨#[], #[.string ByteArray.empty, .int .i64 0, .int .i64 0], []⟩ 8 (by kernel_rfl) (by kernel_rfl) (by kernel_rfl) (by kernel_rfl)) ?_
  intro W base args ds gs before hval hW _ _
  exact law 4 [9, 3] rfl (fun ds h => by
    have h : ds.length = 3 := h.trans (by kernel_rfl)
    match ds, h with
    | [a, b, c], _ => rfl) (by kernel_rfl) (by kernel_rfl) (by kernel_rfl) (by kernel_rfl) (by kernel_rfl) (by kernel_rfl) walk hval hW

theorem proved : Rows.TokenPositionsSaid :=
  OpenClaim.holds_of_wide 4 Try.f4 rfl rfl rfl rfl rfl rfl rfl ⟨rfl, rfl, rfl, rfl, rfl⟩ rfl rfl rfl rfl rfl (by kernel_rfl) Try.func4 (by kernel_rfl)
    (of_decide_eq_true (by kernel_rfl)) (by unfold Func.isWrapper; first | (rw [if_pos (by decide +kernel)]; kernel_rfl) | (rw [if_neg (by decide +kernel)]; exact ⟨rfl, rfl⟩))
    (fun os started H enc _ => lifted os started H enc)
end Go.Proofs.Ytilbfhldohibhaa.tokenPositions
