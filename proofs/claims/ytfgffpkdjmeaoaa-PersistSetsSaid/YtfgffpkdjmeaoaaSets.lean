/- PersistSets of layer 12 answers true for all numbers and lists of calls: the sets return what the reference returns. No conditions. -/
import Derived.Test.YtfgffpkdjmeaoaaW2
import Derived.Test.YtfgffpkdjmeaoaaRows
import Derived.ProofKit
set_option linter.unusedSimpArgs false
set_option linter.unusedVariables false
set_option linter.unnecessarySimpa false
namespace Go.Proofs.Ytfgffpkdjmeaoaa.persistSets
open Go Go.AL Go.ChangeShapes Go.WideShapes Go.ChangeAt Go.RowKit
set_option linter.unusedVariables false
theorem own : ownKnob Try.prog.godebug = none := by kernel_rfl
theorem walk (xss : List (List IV)) (h : TypedAll Try.prog Try.f5.params.toList xss) : PFn Try.prog 5 (argAVs Try.prog Try.f5.params.toList xss) (.im (.v (.bool true))) := by
  rw [Try.params5] at h ⊢
  match xss, h with
  | [x0, x1], ⟨⟨n0, h0⟩, ⟨n1, h1⟩, _⟩ =>
    obtain ⟨a, rfl, ha⟩ := typed_int Try.underlying3 h0
    obtain ⟨l, rfl, ho, hl⟩ := sops_of h1
    have e : argAVs Try.prog #[3, 52].toList [[.v (.int .i64 a)], [.sl 3 (sopR l)]] = [.im (.v (.int .i64 a)), .im (.sl 3 (sopR l))] := by
      simp [argAVs, argAV, Try.underlying3, Try.underlying52]
    rw [e]
    exact sets_walk a l ho (by omega)
set_option maxRecDepth 100000 in
theorem lifted (os : Os) (started : os.Started) (H : Type) (enc : TypeId × Value → H) :
    ReturnsInHanded {} Try.checked os 5 .any (Rows.persistSetsSpec.pre6 enc Try.prog Try.f5 Rows.persistSetsRow.domain false) (Rows.persistSetsSpec.post enc Try.prog Try.f5 false true false false) := by
  refine returnsInHanded_of_change (C := Try.checked) own started (by kernel_rfl) Try.func5
    (ChangeSpec.witness6 (enc := enc) (C := Try.checked) false ⟨#[], #[.int .i64 0, .slice none 0 0], []⟩ 8 (by kernel_rfl) (by kernel_rfl) (by kernel_rfl) (by kernel_rfl)) ?_
  intro W base args ds gs before hval hW _ _
  exact law 4 [3, 52, 5, 67] rfl (fun ds h => by
    have h : ds.length = 2 := h.trans (by kernel_rfl)
    match ds, h with
    | [a, b], _ => rfl) (by kernel_rfl) (by kernel_rfl) (by kernel_rfl) (by kernel_rfl) (by kernel_rfl) (by kernel_rfl) walk hval hW
theorem proved : Rows.PersistSetsSaid :=
  OpenClaim.holds_of_wide 5 Try.f5 rfl rfl rfl rfl rfl rfl rfl ⟨rfl, rfl, rfl, rfl, rfl⟩ rfl rfl rfl rfl rfl (by kernel_rfl) Try.func5 (by kernel_rfl)
    (of_decide_eq_true (by kernel_rfl)) (by unfold Func.isWrapper; first | (rw [if_pos (by decide +kernel)]; kernel_rfl) | (rw [if_neg (by decide +kernel)]; exact ⟨rfl, rfl⟩))
    (fun os started H enc _ => lifted os started H enc)
end Go.Proofs.Ytfgffpkdjmeaoaa.persistSets
