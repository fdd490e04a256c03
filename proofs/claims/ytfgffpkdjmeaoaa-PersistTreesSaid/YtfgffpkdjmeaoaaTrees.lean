/- PersistTrees of layer 12 answers true for all operations: each tree that they make has the contents of the reference's list, and answers as it does. No conditions. -/
import Derived.Test.YtfgffpkdjmeaoaaW3
import Derived.Test.YtfgffpkdjmeaoaaRows
import Derived.ProofKit
set_option linter.unusedSimpArgs false
set_option linter.unusedVariables false
set_option linter.unnecessarySimpa false
namespace Go.Proofs.Ytfgffpkdjmeaoaa.persistTrees
open Go Go.AL Go.ChangeShapes Go.WideShapes Go.ChangeAt Go.RowKit
set_option linter.unusedVariables false
theorem own : ownKnob Try.prog.godebug = none := by kernel_rfl
theorem walk (xss : List (List IV)) (h : TypedAll Try.prog Try.f8.params.toList xss) : PFn Try.prog 8 (argAVs Try.prog Try.f8.params.toList xss) (.im (.v (.bool true))) := by
  rw [Try.params8] at h ⊢
  match xss, h with
  | [x0], ⟨⟨n0, h0⟩, _⟩ =>
    obtain ⟨ops, rfl, ho, hl⟩ := ops_of h0
    have e : argAVs Try.prog #[78].toList [[.sl 5 (opsR ops)]] = [.im (.sl 5 (opsR ops))] := by
      simp [argAVs, argAV, Try.underlying78]
    rw [e]
    exact trees_walk ops ho hl
set_option maxRecDepth 100000 in
theorem lifted (os : Os) (started : os.Started) (H : Type) (enc : TypeId × Value → H) :
    ReturnsInHanded {} Try.checked os 8 .any (Rows.persistTreesSpec.pre6 enc Try.prog Try.f8 Rows.persistTreesRow.domain false) (Rows.persistTreesSpec.post enc Try.prog Try.f8 false true false false) := by
  refine returnsInHanded_of_change (C := Try.checked) own started (by kernel_rfl) Try.func8
    (ChangeSpec.witness6 (enc := enc) (C := Try.checked) false ⟨#[], #[.slice none 0 0], []⟩ 8 (by kernel_rfl) (by kernel_rfl) (by kernel_rfl) (by kernel_rfl)) ?_
  intro W base args ds gs before hval hW _ _
  exact law 4 [78, 85, 5, 9, 3] rfl (fun ds h => by
    have h : ds.length = 1 := h.trans (by kernel_rfl)
    match ds, h with
    | [a], _ => rfl) (by kernel_rfl) (by kernel_rfl) (by kernel_rfl) (by kernel_rfl) (by kernel_rfl) (by kernel_rfl) walk hval hW
theorem proved : Rows.PersistTreesSaid :=
  OpenClaim.holds_of_wide 8 Try.f8 rfl rfl rfl rfl rfl rfl rfl ⟨rfl, rfl, rfl, rfl, rfl⟩ rfl rfl rfl rfl rfl (by kernel_rfl) Try.func8 (by kernel_rfl)
    (of_decide_eq_true (by kernel_rfl)) (by unfold Func.isWrapper; first | (rw [if_pos (by decide +kernel)]; kernel_rfl) | (rw [if_neg (by decide +kernel)]; exact ⟨rfl, rfl⟩))
    (fun os started H enc _ => lifted os started H enc)
end Go.Proofs.Ytfgffpkdjmeaoaa.persistTrees
