/- The law TokenKinds returns true at every string and every tokens, and leaves its arguments as they were. Conditions: none beyond those of the given statement. -/
import Derived.Test.YtilbfhldohibhaaW2
import Derived.Test.YtilbfhldohibhaaRows
import Derived.ProofKit
set_option linter.unusedSimpArgs false
set_option linter.unusedVariables false
set_option linter.unnecessarySimpa false
namespace Go.Proofs.Ytilbfhldohibhaa.tokenKinds
open Go Go.AL Go.ChangeShapes Go.WideShapes Go.ChangeAt Go.RowKit
set_option linter.unusedVariables false
theorem own : ownKnob Try.prog.godebug = none := by kernel_rfl
theorem walk (xss : List (List IV)) (h : TypedAll Try.prog Try.f6.params.toList xss) : PFn Try.prog 6 (argAVs Try.prog Try.f6.params.toList xss) (.im (.v (.bool true))) := by
  rw [Try.params6] at h ⊢
  match xss, h with
  | [x0, x1], ⟨⟨n0, h0⟩, ⟨n1, h1⟩, _⟩ =>
    obtain ⟨s, rfl, hs⟩ := typed_str Try.underlying9 h0
    obtain ⟨rows, m, rfl, hr, hrow⟩ := typed_slice Try.underlying24 h1
    obtain ⟨l, rfl, _⟩ := rows_of (p := fun _ => True) (f := itRow) rows fun r hr => by
      obtain ⟨m', hlen, hf⟩ := typed_struct Try.underlying29 (hrow r hr)
      have hc : Try.prog.cellsOf 29 = 2 := by kernel_rfl
      have hc9 : Try.prog.cellsOf 9 = 1 := by kernel_rfl
      have hc3 : Try.prog.cellsOf 3 = 1 := by kernel_rfl
      rw [hc] at hlen
      match r, hlen with
      | [a, b], _ =>
        have f0 := hf 0 _ rfl
        have f1 := hf 1 _ rfl
        simp only [hc9, hc3, List.drop_zero, List.take_succ_cons, List.take_zero, List.drop_succ_cons] at f0 f1
        obtain ⟨s1, e1, _⟩ := typed_str Try.underlying9 f0
        obtain ⟨i1, e2, _⟩ := typed_int Try.underlying3 f1
        cases e1; cases e2
        exact ⟨(s1.data.toList, i1), by show [IV.v (Value.string s1), IV.v (Value.int .i64 i1)] = [IV.v (Value.string (BA s1.data.toList)), IV.v (Value.int .i64 i1)]; rw [← BA_of s1], trivial⟩
    have e : argAVs Try.prog #[9, 24].toList [[.v (.string s)], [.sl (Try.prog.cellsOf 29) (l.map itRow)]] = [.im (.v (.string s)), .im (.sl 2 (itRows l))] := by
      have hc : Try.prog.cellsOf 29 = 2 := by kernel_rfl
      simp [argAVs, argAV, Try.underlying9, Try.underlying24, hc, itRows]
    rw [e, BA_of s]
    exact kinds_walk _ _
set_option maxRecDepth 100000 in
theorem lifted (os : Os) (started : os.Started) (H : Type) (enc : TypeId × Value → H) :
    ReturnsInHanded {} Try.checked os 6 .any (Rows.tokenKindsSpec.pre6 enc Try.prog Try.f6 Rows.tokenKindsRow.domain false) (Rows.tokenKindsSpec.post enc Try.prog Try.f6 false true false false) := by
  refine returnsInHanded_of_change (C := Try.checked) own started (by kernel_rfl) Try.func6
    (ChangeSpec.witness6 (enc := enc) (C := Try.checked) false ⟨#[], #[.string ByteArray.empty, .slice none 0 0], []⟩ 8 (by kernel_rfl) (by kernel_rfl) (by kernel_rfl) (by kernel_rfl)) ?_
  intro W base args ds gs before hval hW _ _
  exact law 4 [9, 24, 29, 3] rfl (fun ds h => by
    have h : ds.length = 2 := h.trans (by kernel_rfl)
    match ds, h with
    | [a, b], _ => rfl) (by kernel_rfl) (by kernel_rfl) (by kernel_rfl) (by kernel_rfl) (by kernel_rfl) (by kernel_rfl) walk hval hW
theorem proved : Rows.TokenKindsSaid :=
  OpenClaim.holds_of_wide 6 Try.f6 rfl rfl rfl rfl rfl rfl rfl ⟨rfl, rfl, rfl, rfl, rfl⟩ rfl rfl rfl rfl rfl (by kernel_rfl) Try.func6 (by kernel_rfl)
    (of_decide_eq_true (by kernel_rfl)) (by unfold Func.isWrapper; first | (rw [if_pos (by decide +kernel)]; kernel_rfl) | (rw [if_neg (by decide +kernel)]; exact ⟨rfl, rfl⟩))
    (fun os started H enc _ => lifted os started H enc)
end Go.Proofs.Ytilbfhldohibhaa.tokenKinds
