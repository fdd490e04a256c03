/- PersistUndo of layer 12 answers true for all bytes and lists of pairs of bytes: Undo to a mark restores all sets, whatever was united behind it. No conditions. -/
import Derived.Test.YtfgffpkdjmeaoaaW3
import Derived.Test.YtfgffpkdjmeaoaaRows
import Derived.ProofKit
set_option linter.unusedSimpArgs false
set_option linter.unusedVariables false
set_option linter.unnecessarySimpa false
namespace Go.Proofs.Ytfgffpkdjmeaoaa.persistUndo
open Go Go.AL Go.ChangeShapes Go.WideShapes Go.ChangeAt Go.RowKit
set_option linter.unusedVariables false
theorem own : ownKnob Try.prog.godebug = none := by kernel_rfl
theorem walk (xss : List (List IV)) (h : TypedAll Try.prog Try.f6.params.toList xss) : PFn Try.prog 6 (argAVs Try.prog Try.f6.params.toList xss) (.im (.v (.bool true))) := by
  rw [Try.params6] at h ⊢
  match xss, h with
  | [x0, x1, x2], ⟨⟨n0, h0⟩, ⟨n1, h1⟩, ⟨n2, h2⟩, _⟩ =>
    obtain ⟨b, rfl, hb⟩ := typed_int Try.underlying5 h0
    obtain ⟨m, rfl, hm⟩ := u8_natS hb
    obtain ⟨A, rfl, hA, lA⟩ := prs_of h1
    obtain ⟨B, rfl, hB, lB⟩ := prs_of h2
    have e : argAVs Try.prog #[5, 75, 75].toList [[.v (.int .u8 m)], [.sl 2 (prR A)], [.sl 2 (prR B)]] = [.im (.v (.int .u8 m)), .im (.sl 2 (prR A)), .im (.sl 2 (prR B))] := by
      simp [argAVs, argAV, Try.underlying75, Try.underlying5]
    rw [e]
    exact undo_walk m A B hm hA hB (by omega) (by omega)
set_option maxRecDepth 100000 in
theorem lifted (os : Os) (started : os.Started) (H : Type) (enc : TypeId × Value → H) :
    ReturnsInHanded {} Try.checked os 6 .any (Rows.persistUndoSpec.pre6 enc Try.prog Try.f6 Rows.persistUndoRow.domain false) (Rows.persistUndoSpec.post enc Try.prog Try.f6 false true false false) := by
  refine returnsInHanded_of_change (C := Try.checked) own started (by kernel_rfl) Try.func6
    (ChangeSpec.witness6 (enc := enc) (C := Try.checked) false ⟨#[], #[.int .u8 0, .slice none 0 0, .slice none 0 0], []⟩ 8 (by kernel_rfl) (by kernel_rfl) (by kernel_rfl) (by kernel_rfl)) ?_
  intro W base args ds gs before hval hW _ _
  exact law 4 [5, 75, 76] rfl (fun ds h => by
    have h : ds.length = 3 := h.trans (by kernel_rfl)
    match ds, h with
    | [a, b, c], _ => rfl) (by kernel_rfl) (by kernel_rfl) (by kernel_rfl) (by kernel_rfl) (by kernel_rfl) (by kernel_rfl) walk hval hW
theorem proved : Rows.PersistUndoSaid :=
  OpenClaim.holds_of_wide 6 Try.f6 rfl rfl rfl rfl rfl rfl rfl ⟨rfl, rfl, rfl, rfl, rfl⟩ rfl rfl rfl rfl rfl (by kernel_rfl) Try.func6 (by kernel_rfl)
    (of_decide_eq_true (by kernel_rfl)) (by unfold Func.isWrapper; first | (rw [if_pos (by decide +kernel)]; kernel_rfl) | (rw [if_neg (by decide +kernel)]; exact ⟨rfl, rfl⟩))
    (fun os started H enc _ => lifted os started H enc)
end Go.Proofs.Ytfgffpkdjmeaoaa.persistUndo
