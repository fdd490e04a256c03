/- JournalOpens of layer 38 answers true for all disks and records: the journal that is opened is that of the reference, also behind Append, Compact and Commit. No conditions. -/
import Derived.Test.YtoafanbfminhcaaW4
import Derived.Test.YtoafanbfminhcaaRows
import Derived.ProofKit
set_option linter.unusedSimpArgs false
set_option linter.unusedVariables false
set_option linter.unnecessarySimpa false
namespace Go.Proofs.Ytoafanbfminhcaa.journalOpens
open Go Go.AL Go.ChangeShapes Go.WideShapes Go.ChangeAt Go.RowKit
set_option linter.unusedVariables false
theorem own : ownKnob Try.prog.godebug = none := by kernel_rfl
theorem walk (xss : List (List IV)) (h : TypedAll Try.prog Try.f7.params.toList xss) : PFn Try.prog 7 (argAVs Try.prog Try.f7.params.toList xss) (.im (.v (.bool true))) := by
  rw [Try.params7] at h ⊢
  match xss, h with
  | [x0, x1, x2], ⟨⟨n0, h0⟩, ⟨n1, h1⟩, ⟨n2, h2⟩, _⟩ =>
    obtain ⟨d, rfl, hb, hw⟩ := disk_of h0
    obtain ⟨r, rfl, hr⟩ := typed_str Try.underlying9 h1
    obtain ⟨s, rfl, hs⟩ := typed_str Try.underlying9 h2
    have e : argAVs Try.prog #[48, 9, 9].toList [[.sl 1 (blkR d.B), .sl 2 (wrR d.W)], [.v (.string r)], [.v (.string s)]] = [d.ar, .im (.v (.string r)), .im (.v (.string s))] := by
      simp [argAVs, argAV, Try.underlying48, Try.underlying9]
    rw [e, BA_of r, BA_of s]
    exact opens_walk d _ _ hb hw
set_option maxRecDepth 100000 in
theorem lifted (os : Os) (started : os.Started) (H : Type) (enc : TypeId × Value → H) :
    ReturnsInHanded {} Try.checked os 7 .any (Rows.journalOpensSpec.pre6 enc Try.prog Try.f7 Rows.journalOpensRow.domain false) (Rows.journalOpensSpec.post enc Try.prog Try.f7 false true false false) := by
  refine returnsInHanded_of_change (C := Try.checked) own started (by kernel_rfl) Try.func7
    (ChangeSpec.witness6 (enc := enc) (C := Try.checked) false ⟨#[], #[.agg #[.slice none 0 0, .slice none 0 0], .string ⟨#[]⟩, .string ⟨#[]⟩], []⟩ 8 (by kernel_rfl) (by kernel_rfl) (by kernel_rfl) (by kernel_rfl)) ?_
  intro W base args ds gs before hval hW _ _
  exact law 4 [48, 9, 25, 46, 101, 3] rfl (fun ds h => by
    have h : ds.length = 3 := h.trans (by kernel_rfl)
    match ds, h with
    | [a, b, c], _ => rfl) (by kernel_rfl) (by kernel_rfl) (by kernel_rfl) (by kernel_rfl) (by kernel_rfl) (by kernel_rfl) walk hval hW
theorem proved : Rows.JournalOpensSaid :=
  OpenClaim.holds_of_wide 7 Try.f7 rfl rfl rfl rfl rfl rfl rfl ⟨rfl, rfl, rfl, rfl, rfl⟩ rfl rfl rfl rfl rfl (by kernel_rfl) Try.func7 (by kernel_rfl)
    (of_decide_eq_true (by kernel_rfl)) (by unfold Func.isWrapper; first | (rw [if_pos (by decide +kernel)]; kernel_rfl) | (rw [if_neg (by decide +kernel)]; exact ⟨rfl, rfl⟩))
    (fun os started H enc _ => lifted os started H enc)
end Go.Proofs.Ytoafanbfminhcaa.journalOpens
