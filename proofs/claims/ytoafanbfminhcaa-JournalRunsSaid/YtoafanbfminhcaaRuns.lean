/- JournalRuns of layer 38 answers true for all numbers of blocks and lists of calls: the journal answers every call as the reference does. No conditions. -/
import Derived.Test.YtoafanbfminhcaaW4
import Derived.Test.YtoafanbfminhcaaRows
import Derived.ProofKit
set_option linter.unusedSimpArgs false
set_option linter.unusedVariables false
set_option linter.unnecessarySimpa false
namespace Go.Proofs.Ytoafanbfminhcaa.journalRuns
open Go Go.AL Go.ChangeShapes Go.WideShapes Go.ChangeAt Go.RowKit
set_option linter.unusedVariables false
theorem own : ownKnob Try.prog.godebug = none := by kernel_rfl
theorem walk (xss : List (List IV)) (h : TypedAll Try.prog Try.f8.params.toList xss) : PFn Try.prog 8 (argAVs Try.prog Try.f8.params.toList xss) (.im (.v (.bool true))) := by
  rw [Try.params8] at h ⊢
  match xss, h with
  | [x0, x1], ⟨⟨n0, h0⟩, ⟨n1, h1⟩, _⟩ =>
    obtain ⟨i, rfl, hi⟩ := typed_int Try.underlying5 h0
    obtain ⟨b, rfl, hbb⟩ := u8_nat hi
    obtain ⟨l, rfl, hl, _⟩ := acts_of h1
    have e : argAVs Try.prog #[5, 22].toList [[.v (.int .u8 b)], [.sl 3 (acR l)]] = [.im (.v (.int .u8 b)), .im (.sl 3 (acR l))] := by
      simp [argAVs, argAV, Try.underlying5, Try.underlying22]
    rw [e]
    exact runs_walk b l hbb hl
set_option maxRecDepth 100000 in
theorem lifted (os : Os) (started : os.Started) (H : Type) (enc : TypeId × Value → H) :
    ReturnsInHanded {} Try.checked os 8 .any (Rows.journalRunsSpec.pre6 enc Try.prog Try.f8 Rows.journalRunsRow.domain false) (Rows.journalRunsSpec.post enc Try.prog Try.f8 false true false false) := by
  refine returnsInHanded_of_change (C := Try.checked) own started (by kernel_rfl) Try.func8
    (ChangeSpec.witness6 (enc := enc) (C := Try.checked) false ⟨#[], #[.int .u8 0, .slice none 0 0], []⟩ 8 (by kernel_rfl) (by kernel_rfl) (by kernel_rfl) (by kernel_rfl)) ?_
  intro W base args ds gs before hval hW _ _
  exact law 4 [5, 22, 38, 9, 36, 3] rfl (fun ds h => by
    have h : ds.length = 2 := h.trans (by kernel_rfl)
    match ds, h with
    | [a, b], _ => rfl) (by kernel_rfl) (by kernel_rfl) (by kernel_rfl) (by kernel_rfl) (by kernel_rfl) (by kernel_rfl) walk hval hW
theorem proved : Rows.JournalRunsSaid :=
  OpenClaim.holds_of_wide 8 Try.f8 rfl rfl rfl rfl rfl rfl rfl ⟨rfl, rfl, rfl, rfl, rfl⟩ rfl rfl rfl rfl rfl (by kernel_rfl) Try.func8 (by kernel_rfl)
    (of_decide_eq_true (by kernel_rfl)) (by unfold Func.isWrapper; first | (rw [if_pos (by decide +kernel)]; kernel_rfl) | (rw [if_neg (by decide +kernel)]; exact ⟨rfl, rfl⟩))
    (fun os started H enc _ => lifted os started H enc)
end Go.Proofs.Ytoafanbfminhcaa.journalRuns
