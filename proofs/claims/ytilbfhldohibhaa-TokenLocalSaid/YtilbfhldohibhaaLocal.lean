/- The law TokenLocal returns true at every two texts and every number, and leaves its arguments as they were. Conditions: none beyond those of the given statement. -/
import Derived.Test.YtilbfhldohibhaaRows
import Derived.Test.YtilbfhldohibhaaW17
import Derived.ProofKit
set_option linter.unusedSimpArgs false
set_option linter.unusedVariables false
set_option linter.unnecessarySimpa false
namespace Go.Proofs.Ytilbfhldohibhaa.tokenLocal
open Go Go.AL Go.ChangeShapes Go.WideShapes Go.ChangeAt Go.RowKit
set_option linter.unusedVariables false
theorem own : ownKnob Try.prog.godebug = none := by kernel_rfl
theorem walk (xss : List (List IV)) (h : TypedAll Try.prog Try.f3.params.toList xss) : PFn Try.prog 3 (argAVs Try.prog Try.f3.params.toList xss) (.im (.v (.bool true))) := by
  rw [Try.params3] at h ⊢
  match xss, h with
  | [x0, x1, x2], ⟨⟨n0, h0⟩, ⟨n1, h1⟩, ⟨n2, h2⟩, _⟩ =>
    obtain ⟨s, rfl, hs⟩ := typed_str Try.underlying9 h0
    obtain ⟨a, rfl, ha⟩ := typed_str Try.underlying9 h1
    obtain ⟨b, rfl, hb⟩ := typed_int Try.underlying5 h2
    have e : argAVs Try.prog #[9, 9, 5].toList [[.v (.string s)], [.v (.string a)], [.v (.int .u8 b)]] = [.im (.v (.string s)), .im (.v (.string a)), .im (.v (.int .u8 b))] := by
      simp [argAVs, argAV, Try.underlying9, Try.underlying5]
    have hb' : 0 ≤ b ∧ b ≤ 255 := by
      simp [Lit.wf, IntKind.min, IntKind.max, IntKind.bits, IntKind.signed] at hb
      omega
    rw [e, BA_of s, BA_of a]
    exact local_walk _ _ b hb'
set_option maxRecDepth 100000 in
theorem lifted (os : Os) (started : os.Started) (H : Type) (enc : TypeId × Value → H) :
    ReturnsInHanded {} Try.checked os 3 .any (Rows.tokenLocalSpec.pre6 enc Try.prog Try.f3 Rows.tokenLocalRow.domain false) (Rows.tokenLocalSpec.post enc Try.prog Try.f3 false true false false) := by
  refine returnsInHanded_of_change (C := Try.checked) own started (by kernel_rfl) Try.func3
    (ChangeSpec.witness6 (enc := enc) (C := Try.checked) false ⟨#[], #[.string ByteArray.empty, .string ByteArray.empty, .int .u8 0], []⟩ 8 (by kernel_rfl) (by kernel_rfl) (by kernel_rfl) (by kernel_rfl)) ?_
  intro W base args ds gs before hval hW _ _
  exact law 4 [9, 5] rfl (fun ds h => by
    have h : ds.length = 3 := h.trans (by kernel_rfl)
    match ds, h with
    | [a, b, c], _ => rfl) (by kernel_rfl) (by kernel_rfl) (by kernel_rfl) (by kernel_rfl) (by kernel_rfl) (by kernel_rfl) walk hval hW
theorem proved : Rows.TokenLocalSaid :=
  OpenClaim.holds_of_wide 3 Try.f3 rfl rfl rfl rfl rfl rfl rfl ⟨rfl, rfl, rfl, rfl, rfl⟩ rfl rfl rfl rfl rfl (by kernel_rfl) Try.func3 (by kernel_rfl)
    (of_decide_eq_true (by kernel_rfl)) (by unfold Func.isWrapper; first | (rw [if_pos (by decide +kernel)]; kernel_rfl) | (rw [if_neg (by decide +kernel)]; exact ⟨rfl, rfl⟩))
    (fun os started H enc _ => lifted os started H enc)
end Go.Proofs.Ytilbfhldohibhaa.tokenLocal
