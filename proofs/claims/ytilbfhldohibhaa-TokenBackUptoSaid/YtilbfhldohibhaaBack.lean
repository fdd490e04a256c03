/- The law TokenBack returns true at every text and every gaps and words, and leaves its arguments as they were. Conditions: the bound of the given second form, bulk at most 1048576; none beyond. -/
import Derived.Test.YtilbfhldohibhaaW3
import Derived.Test.YtilbfhldohibhaaRows
import Derived.ProofKit
import Derived.JoinedCond
set_option linter.unusedSimpArgs false
set_option linter.unusedVariables false
set_option linter.unnecessarySimpa false
namespace Go.Proofs.Ytilbfhldohibhaa.tokenBack
open Go Go.AL Go.ChangeShapes Go.WideShapes Go.ChangeAt Go.RowKit
set_option linter.unusedVariables false
theorem own : ownKnob Try.prog.godebug = none := by kernel_rfl
theorem bulk (H : Type) : Bulk (H := H) Rows.uptoBulk Rows.uptoBulkAll := by
  refine ⟨fun d => ?_, fun l => ?_, fun d => ?_, fun e r => ?_, fun l => ?_, ?_, fun d r => ?_⟩
  · cases d with
    | lit l => cases l <;> simp [Rows.uptoBulk]
    | _ => simp [Rows.uptoBulk]
  all_goals simp only [Rows.uptoBulk, Rows.uptoBulkAll]
  all_goals omega
theorem bound {H : Type} {l : List (DataW H)} (hk : Rows.uptoSmall H l = true) : Rows.uptoBulkAll l ≤ 1048576 := of_decide_eq_true hk
theorem walk (xss : List (List IV)) (h : TypedAll Try.prog Try.f8.params.toList xss) (hb : IV.ivbss xss ≤ 1048576) : PFn Try.prog 8 (argAVs Try.prog Try.f8.params.toList xss) (.im (.v (.bool true))) := by
  rw [Try.params8] at h ⊢
  match xss, h with
  | [x0, x1, x2], ⟨⟨n0, h0⟩, ⟨n1, h1⟩, ⟨n2, h2⟩, _⟩ =>
    obtain ⟨s, rfl, hs⟩ := typed_str Try.underlying9 h0
    have hc : Try.prog.cellsOf 9 = 1 := by kernel_rfl
    have key : ∀ {n : Nat} {xs : List IV}, Typed Try.prog n 23 xs → ∃ l : List (List UInt8), xs = [.sl 1 (strRows l)] := fun {n xs} hx => by
      obtain ⟨rows, m, rfl, hr, hrow⟩ := typed_slice Try.underlying23 hx
      obtain ⟨l, rfl, _⟩ := rows_of (p := fun _ => True) (f := fun s : List UInt8 => [Si s]) rows fun r hr => by
        obtain ⟨s1, e1, _⟩ := typed_str Try.underlying9 (hrow r hr)
        subst e1
        exact ⟨s1.data.toList, by show [IV.v (Value.string s1)] = [IV.v (Value.string (BA s1.data.toList))]; rw [← BA_of s1], trivial⟩
      exact ⟨l, by rw [hc]; rfl⟩
    obtain ⟨ga, rfl⟩ := key h1
    obtain ⟨ws, rfl⟩ := key h2
    simp only [IV.ivbss, IV.ivbs, IV.ivb, strRows_bulk] at hb
    have e : argAVs Try.prog #[9, 23, 23].toList [[.v (.string s)], [.sl 1 (strRows ga)], [.sl 1 (strRows ws)]] = [.im (.v (.string s)), .im (.sl 1 (strRows ga)), .im (.sl 1 (strRows ws))] := by
      simp [argAVs, argAV, Try.underlying9, Try.underlying23]
    rw [e, BA_of s]
    exact back_walk _ ga ws (by omega) (by omega) (by omega) (by omega)
set_option maxRecDepth 100000 in
theorem lifted (os : Os) (started : os.Started) (H : Type) (enc : TypeId × Value → H) (F : Stop.Interp) :
    ReturnsInHanded {} Try.checked os 8 .any ((Rows.OpenSpec.upto Rows.tokenBackSpec).pre6 enc Try.prog Try.f8 Rows.tokenBackUptoRow.domain false) (((Rows.OpenSpec.upto Rows.tokenBackSpec).at F).post enc Try.prog Try.f8 false true false false) := by
  refine returnsInHanded_of_cond (C := Try.checked) (s := Rows.OpenSpec.upto Rows.tokenBackSpec) (k := Rows.uptoSmall) rfl own started (by kernel_rfl) Try.func8
    (OpenSpec.witness (enc := enc) (C := Try.checked) (s := Rows.OpenSpec.upto Rows.tokenBackSpec) (k := Rows.uptoSmall) rfl false ⟨#[], #[.string ByteArray.empty, .slice none 0 0, .slice none 0 0], []⟩ 8 (by kernel_rfl) (by kernel_rfl) (by kernel_rfl)
      (x := ([.lit (.string []), .nil, .nil], [], [])) (by kernel_rfl) rfl (by kernel_rfl)) ?_
  intro W base args ds gs before hval hW _ hk _
  exact law_upto (bulk H) 1048576 4 [9, 23] rfl (fun ds h => by
    have h : ds.length = 3 := h.trans (by kernel_rfl)
    match ds, h with
    | [a, b, c], _ => rfl) (by kernel_rfl) (by kernel_rfl) (by kernel_rfl) (by kernel_rfl) (by kernel_rfl) (by kernel_rfl) walk hval hW (bound hk)
theorem proved : Rows.TokenBackUptoSaid :=
  OpenClaim.holds_of_cond 8 Try.f8 rfl rfl rfl rfl rfl rfl rfl ⟨rfl, rfl, rfl, rfl, rfl⟩ rfl rfl rfl rfl rfl (by kernel_rfl) Try.func8 (by kernel_rfl)
    (of_decide_eq_true (by kernel_rfl)) (by unfold Func.isWrapper; first | (rw [if_pos (by decide +kernel)]; kernel_rfl) | (rw [if_neg (by decide +kernel)]; exact ⟨rfl, rfl⟩))
    (fun os started H enc _ F => lifted os started H enc F)
end Go.Proofs.Ytilbfhldohibhaa.tokenBack
