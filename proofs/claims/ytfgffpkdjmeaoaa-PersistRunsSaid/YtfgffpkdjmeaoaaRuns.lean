/- PersistRuns of layer 12 answers true for all lists of numbers and all bytes: a tree of numbers has just these numbers, ascending, with the last value of each, and iteration ends when it is told to. No conditions. -/
import Derived.Test.YtfgffpkdjmeaoaaW2
import Derived.Test.YtfgffpkdjmeaoaaRows
import Derived.ProofKit
set_option linter.unusedSimpArgs false
set_option linter.unusedVariables false
set_option linter.unnecessarySimpa false
namespace Go.Proofs.Ytfgffpkdjmeaoaa.persistRuns
open Go Go.AL Go.ChangeShapes Go.WideShapes Go.ChangeAt Go.RowKit
set_option linter.unusedVariables false
theorem own : ownKnob Try.prog.godebug = none := by kernel_rfl
theorem walk (xss : List (List IV)) (h : TypedAll Try.prog Try.f3.params.toList xss) : PFn Try.prog 3 (argAVs Try.prog Try.f3.params.toList xss) (.im (.v (.bool true))) := by
  rw [Try.params3] at h ⊢
  match xss, h with
  | [x0, x1], ⟨⟨n0, h0⟩, ⟨n1, h1⟩, _⟩ =>
    obtain ⟨l, rfl, hl⟩ := IntT.ints_of h0
    obtain ⟨b, rfl, hb⟩ := typed_int Try.underlying5 h1
    obtain ⟨m, rfl, hm⟩ := IntT.u8_natR hb
    have e : argAVs Try.prog #[22, 5].toList [[.sl 1 (intR l)], [.v (.int .u8 m)]] = [.im (.sl 1 (intR l)), .im (.v (.int .u8 m))] := by
      simp [argAVs, argAV, Try.underlying22, Try.underlying5]
    rw [e]
    exact IntT.runs_walk l m hm hl
set_option maxRecDepth 100000 in
theorem lifted (os : Os) (started : os.Started) (H : Type) (enc : TypeId × Value → H) :
    ReturnsInHanded {} Try.checked os 3 .any (Rows.persistRunsSpec.pre6 enc Try.prog Try.f3 Rows.persistRunsRow.domain false) (Rows.persistRunsSpec.post enc Try.prog Try.f3 false true false false) := by
  refine returnsInHanded_of_change (C := Try.checked) own started (by kernel_rfl) Try.func3
    (ChangeSpec.witness6 (enc := enc) (C := Try.checked) false ⟨#[], #[.slice none 0 0, .int .u8 0], []⟩ 8 (by kernel_rfl) (by kernel_rfl) (by kernel_rfl) (by kernel_rfl)) ?_
  intro W base args ds gs before hval hW _ _
  exact law 4 [22, 5, 3] rfl (fun ds h => by
    have h : ds.length = 2 := h.trans (by kernel_rfl)
    match ds, h with
    | [a, b], _ => rfl) (by kernel_rfl) (by kernel_rfl) (by kernel_rfl) (by kernel_rfl) (by kernel_rfl) (by kernel_rfl) walk hval hW
theorem proved : Rows.PersistRunsSaid :=
  OpenClaim.holds_of_wide 3 Try.f3 rfl rfl rfl rfl rfl rfl rfl ⟨rfl, rfl, rfl, rfl, rfl⟩ rfl rfl rfl rfl rfl (by kernel_rfl) Try.func3 (by kernel_rfl)
    (of_decide_eq_true (by kernel_rfl)) (by unfold Func.isWrapper; first | (rw [if_pos (by decide +kernel)]; kernel_rfl) | (rw [if_neg (by decide +kernel)]; exact ⟨rfl, rfl⟩))
    (fun os started H enc _ => lifted os started H enc)
end Go.Proofs.Ytfgffpkdjmeaoaa.persistRuns
