/- JournalAgain of layer 38 answers true for all numbers of blocks and lists of calls: a journal that was committed and is opened again goes on as the one that was left. No conditions. -/
import Derived.Test.YtoafanbfminhcaaW3
import Derived.Test.YtoafanbfminhcaaRows
import Derived.ProofKit
set_option linter.unusedSimpArgs false
set_option linter.unusedVariables false
set_option linter.unnecessarySimpa false
namespace Go.Proofs.Ytoafanbfminhcaa.journalAgain
open Go Go.AL Go.ChangeShapes Go.WideShapes Go.ChangeAt Go.RowKit
set_option linter.unusedVariables false
theorem own : ownKnob Try.prog.godebug = none := by kernel_rfl
theorem walk (xss : List (List IV)) (h : TypedAll Try.prog Try.f6.params.toList xss) : PFn Try.prog 6 (argAVs Try.prog Try.f6.params.toList xss) (.im (.v (.bool true))) := by
  rw [Try.params6] at h ⊢
  match xss, h with
  | [x0, x1, x2], ⟨⟨n0, h0⟩, ⟨n1, h1⟩, ⟨n2, h2⟩, _⟩ =>
    obtain ⟨i, rfl, hi⟩ := typed_int Try.underlying5 h0
    obtain ⟨b, rfl, _⟩ := u8_nat hi
    obtain ⟨l, rfl, hl, _⟩ := acts_of h1
    obtain ⟨m, rfl, hm, _⟩ := acts_of h2
    have e : argAVs Try.prog #[5, 22, 22].toList [[.v (.int .u8 b)], [.sl 3 (acR l)], [.sl 3 (acR m)]] = [.im (.v (.int .u8 b)), .im (.sl 3 (acR l)), .im (.sl 3 (acR m))] := by
      simp [argAVs, argAV, Try.underlying5, Try.underlying22]
    rw [e]
    exact again_walk b l m hl hm
set_option maxRecDepth 100000 in
theorem lifted (os : Os) (started : os.Started) (H : Type) (enc : TypeId × Value → H) :
    ReturnsInHanded {} Try.checked os 6 .any (Rows.journalAgainSpec.pre6 enc Try.prog Try.f6 Rows.journalAgainRow.domain false) (Rows.journalAgainSpec.post enc Try.prog Try.f6 false true false false) := by
  refine returnsInHanded_of_change (C := Try.checked) own started (by kernel_rfl) Try.func6
    (ChangeSpec.witness6 (enc := enc) (C := Try.checked) false ⟨#[], #[.int .u8 0, .slice none 0 0, .slice none 0 0], []⟩ 8 (by kernel_rfl) (by kernel_rfl) (by kernel_rfl) (by kernel_rfl)) ?_
  intro W base args ds gs before hval hW _ _
  exact law 4 [5, 22, 38, 9, 36, 3] rfl (fun ds h => by
    have h : ds.length = 3 := h.trans (by kernel_rfl)
    match ds, h with
    | [a, b, c], _ => rfl) (by kernel_rfl) (by kernel_rfl) (by kernel_rfl) (by kernel_rfl) (by kernel_rfl) (by kernel_rfl) walk hval hW
theorem proved : Rows.JournalAgainSaid :=
  OpenClaim.holds_of_wide 6 Try.f6 rfl rfl rfl rfl rfl rfl rfl ⟨rfl, rfl, rfl, rfl, rfl⟩ rfl rfl rfl rfl rfl (by kernel_rfl) Try.func6 (by kernel_rfl)
    (of_decide_eq_true (by kernel_rfl)) (by unfold Func.isWrapper; first | (rw [if_pos (by decide +kernel)]; kernel_rfl) | (rw [if_neg (by decide +kernel)]; exact ⟨rfl, rfl⟩))
    (fun os started H enc _ => lifted os started H enc)
end Go.Proofs.Ytoafanbfminhcaa.journalAgain
