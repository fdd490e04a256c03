/- PersistSplits of layer 12 answers true for all operations and keys: the parts of a split tree, joined, are the tree without the key, and with the key put again it is the tree. No conditions. -/
import Derived.Test.YtfgffpkdjmeaoaaW3
import Derived.Test.YtfgffpkdjmeaoaaRows
import Derived.ProofKit
set_option linter.unusedSimpArgs false
set_option linter.unusedVariables false
set_option linter.unnecessarySimpa false
namespace Go.Proofs.Ytfgffpkdjmeaoaa.persistSplits
open Go Go.AL Go.ChangeShapes Go.WideShapes Go.ChangeAt Go.RowKit
set_option linter.unusedVariables false
theorem own : ownKnob Try.prog.godebug = none := by kernel_rfl
theorem walk (xss : List (List IV)) (h : TypedAll Try.prog Try.f9.params.toList xss) : PFn Try.prog 9 (argAVs Try.prog Try.f9.params.toList xss) (.im (.v (.bool true))) := by
  rw [Try.params9] at h ⊢
  match xss, h with
  | [x0, x1], ⟨⟨n0, h0⟩, ⟨n1, h1⟩, _⟩ =>
    obtain ⟨ops, rfl, ho, hl⟩ := ops_of h0
    obtain ⟨s, rfl, hs⟩ := typed_str Try.underlying9 h1
    have e : argAVs Try.prog #[78, 9].toList [[.sl 5 (opsR ops)], [.v (.string s)]] = [.im (.sl 5 (opsR ops)), .im (.v (.string s))] := by
      simp [argAVs, argAV, Try.underlying78, Try.underlying9]
    rw [e, BA_of s]
    exact splits_walk ops _ ho hl
set_option maxRecDepth 100000 in
theorem lifted (os : Os) (started : os.Started) (H : Type) (enc : TypeId × Value → H) :
    ReturnsInHanded {} Try.checked os 9 .any (Rows.persistSplitsSpec.pre6 enc Try.prog Try.f9 Rows.persistSplitsRow.domain false) (Rows.persistSplitsSpec.post enc Try.prog Try.f9 false true false false) := by
  refine returnsInHanded_of_change (C := Try.checked) own started (by kernel_rfl) Try.func9
    (ChangeSpec.witness6 (enc := enc) (C := Try.checked) false ⟨#[], #[.slice none 0 0, .string ⟨#[]⟩], []⟩ 8 (by kernel_rfl) (by kernel_rfl) (by kernel_rfl) (by kernel_rfl)) ?_
  intro W base args ds gs before hval hW _ _
  exact law 4 [78, 85, 5, 9, 3] rfl (fun ds h => by
    have h : ds.length = 2 := h.trans (by kernel_rfl)
    match ds, h with
    | [a, b], _ => rfl) (by kernel_rfl) (by kernel_rfl) (by kernel_rfl) (by kernel_rfl) (by kernel_rfl) (by kernel_rfl) walk hval hW
theorem proved : Rows.PersistSplitsSaid :=
  OpenClaim.holds_of_wide 9 Try.f9 rfl rfl rfl rfl rfl rfl rfl ⟨rfl, rfl, rfl, rfl, rfl⟩ rfl rfl rfl rfl rfl (by kernel_rfl) Try.func9 (by kernel_rfl)
    (of_decide_eq_true (by kernel_rfl)) (by unfold Func.isWrapper; first | (rw [if_pos (by decide +kernel)]; kernel_rfl) | (rw [if_neg (by decide +kernel)]; exact ⟨rfl, rfl⟩))
    (fun os started H enc _ => lifted os started H enc)
end Go.Proofs.Ytfgffpkdjmeaoaa.persistSplits
