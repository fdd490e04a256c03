/- JournalDisks of layer 38 answers true for all disks, numbers, data and fates: the disks of the program are those of the reference. No conditions. -/
import Derived.Test.YtoafanbfminhcaaW3
import Derived.Test.YtoafanbfminhcaaRows
import Derived.ProofKit
set_option linter.unusedSimpArgs false
set_option linter.unusedVariables false
set_option linter.unnecessarySimpa false
namespace Go.Proofs.Ytoafanbfminhcaa.journalDisks
open Go Go.AL Go.ChangeShapes Go.WideShapes Go.ChangeAt Go.RowKit
set_option linter.unusedVariables false
theorem own : ownKnob Try.prog.godebug = none := by kernel_rfl
theorem walk (xss : List (List IV)) (h : TypedAll Try.prog Try.f4.params.toList xss) : PFn Try.prog 4 (argAVs Try.prog Try.f4.params.toList xss) (.im (.v (.bool true))) := by
  rw [Try.params4] at h ⊢
  match xss, h with
  | [x0, x1, x2, x3], ⟨⟨n0, h0⟩, ⟨n1, h1⟩, ⟨n2, h2⟩, ⟨n3, h3⟩, _⟩ =>
    obtain ⟨d, rfl, hb, hw⟩ := disk_of h0
    obtain ⟨a, rfl, ha⟩ := typed_int Try.underlying3 h1
    obtain ⟨s, rfl, hs⟩ := typed_str Try.underlying9 h2
    obtain ⟨F, rfl, hF⟩ := ints_of h3
    have e : argAVs Try.prog #[48, 3, 9, 36].toList [[.sl 1 (blkR d.B), .sl 2 (wrR d.W)], [.v (.int .i64 a)], [.v (.string s)], [.sl 1 (intR F)]] = [d.ar, .im (.v (.int .i64 a)), .im (.v (.string s)), .im (.sl 1 (intR F))] := by
      simp [argAVs, argAV, Try.underlying48, Try.underlying3, Try.underlying9, Try.underlying36]
    rw [e, BA_of s]
    exact disks_walk d a _ F hb hw
set_option maxRecDepth 100000 in
theorem lifted (os : Os) (started : os.Started) (H : Type) (enc : TypeId × Value → H) :
    ReturnsInHanded {} Try.checked os 4 .any (Rows.journalDisksSpec.pre6 enc Try.prog Try.f4 Rows.journalDisksRow.domain false) (Rows.journalDisksSpec.post enc Try.prog Try.f4 false true false false) := by
  refine returnsInHanded_of_change (C := Try.checked) own started (by kernel_rfl) Try.func4
    (ChangeSpec.witness6 (enc := enc) (C := Try.checked) false ⟨#[], #[.agg #[.slice none 0 0, .slice none 0 0], .int .i64 0, .string ⟨#[]⟩, .slice none 0 0], []⟩ 8 (by kernel_rfl) (by kernel_rfl) (by kernel_rfl) (by kernel_rfl)) ?_
  intro W base args ds gs before hval hW _ _
  exact law 4 [48, 3, 9, 36, 25, 46, 101] rfl (fun ds h => by
    have h : ds.length = 4 := h.trans (by kernel_rfl)
    match ds, h with
    | [a, b, c, d], _ => rfl) (by kernel_rfl) (by kernel_rfl) (by kernel_rfl) (by kernel_rfl) (by kernel_rfl) (by kernel_rfl) walk hval hW
theorem proved : Rows.JournalDisksSaid :=
  OpenClaim.holds_of_wide 4 Try.f4 rfl rfl rfl rfl rfl rfl rfl ⟨rfl, rfl, rfl, rfl, rfl⟩ rfl rfl rfl rfl rfl (by kernel_rfl) Try.func4 (by kernel_rfl)
    (of_decide_eq_true (by kernel_rfl)) (by unfold Func.isWrapper; first | (rw [if_pos (by decide +kernel)]; kernel_rfl) | (rw [if_neg (by decide +kernel)]; exact ⟨rfl, rfl⟩))
    (fun os started H enc _ => lifted os started H enc)
end Go.Proofs.Ytoafanbfminhcaa.journalDisks
