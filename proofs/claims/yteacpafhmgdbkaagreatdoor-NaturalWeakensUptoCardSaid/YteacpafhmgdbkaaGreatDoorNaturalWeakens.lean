/- NaturalWeakens of layer 25 answers true for all theories, assumptions, derivations and further formulas that hold together at most 1048576 values and letters: what a derivation proves, it proves with a further closed formula in the theory and among the assumptions; the tied card in its second form. No other conditions. -/
import Derived.Test.YteacpafhmgdbkaaGreatDoorW3
import Derived.Test.YteacpafhmgdbkaaGreatDoorCards
import Derived.Test.YteacpafhmgdbkaaGreatDoorTie
import Derived.ProofKit
import Derived.OpenShut
import Derived.Deep.DeepHandedRow
import Derived.JoinedCond
set_option linter.unusedSimpArgs false
set_option linter.unusedVariables false
set_option linter.unnecessarySimpa false
namespace Go.Proofs.YteacpafhmgdbkaaGreatDoor.naturalWeakens
open Go Go.AL Go.ChangeShapes Go.WideShapes Go.ChangeAt Go.RowKit
set_option linter.unusedVariables false
theorem own : ownKnob Tryz.prog.godebug = none := by kernel_rfl
theorem bulk (H : Type) : Bulk (H := H) Rows.uptoBulk Rows.uptoBulkAll := by
  refine ⟨fun d => ?_, fun l => ?_, fun d => ?_, fun e r => ?_, fun l => ?_, ?_, fun d r => ?_⟩
  · cases d with
    | lit l => cases l <;> simp [Rows.uptoBulk]
    | _ => simp [Rows.uptoBulk]
  all_goals simp only [Rows.uptoBulk, Rows.uptoBulkAll]
  all_goals omega
theorem bound {H : Type} {l : List (DataW H)} (hk : Rows.uptoSmall H l = true) : Rows.uptoBulkAll l ≤ 1048576 := of_decide_eq_true hk
theorem walk (xss : List (List IV)) (h : TypedAll Tryz.prog Tryz.f7.params.toList xss) (hb : IV.ivbss xss ≤ 1048576) : PFn Tryz.prog 7 (argAVs Tryz.prog Tryz.f7.params.toList xss) (.im (.v (.bool true))) := by
  rw [Tryz.params7] at h ⊢
  match xss, h with
  | [x0, x1, x2, x3], ⟨⟨n0, h0⟩, ⟨n1, h1⟩, ⟨n2, h2⟩, ⟨n3, h3⟩, _⟩ =>
    obtain ⟨th, rfl, _, p0⟩ := fms_of n0 h0
    obtain ⟨ax, rfl, _, p1⟩ := fms_of n1 h1
    obtain ⟨d, rfl, p2⟩ := dv_of n2 h2
    obtain ⟨m, rfl, p3⟩ := fm_of n3 h3
    rw [dvC_eq, fmC_eq] at hb ⊢
    simp only [IV.ivbss, IV.ivbs, IV.ivb] at hb
    have b0 := fmR_bulk th
    have b1 := fmR_bulk ax
    have e : argAVs Tryz.prog #[22, 22, 30, 27].toList [[.sl 4 (fmR th)], [.sl 4 (fmR ax)], [Ii d.r, Ii d.ix, Si d.nm, Si d.t.nm, Ii d.t.ix, .sl 3 (tmR d.t.xs), Ii d.f.k, Si d.f.nm, .sl 3 (tmR d.f.ts), .sl 4 (fmR d.f.ps), .sl 11 (dvR d.ks)], [Ii m.k, Si m.nm, .sl 3 (tmR m.ts), .sl 4 (fmR m.ps)]] = [.im (.sl 4 (fmR th)), .im (.sl 4 (fmR ax)), .ar [Ii d.r, Ii d.ix, Si d.nm, Si d.t.nm, Ii d.t.ix, .sl 3 (tmR d.t.xs), Ii d.f.k, Si d.f.nm, .sl 3 (tmR d.f.ts), .sl 4 (fmR d.f.ps), .sl 11 (dvR d.ks)], .ar [Ii m.k, Si m.nm, .sl 3 (tmR m.ts), .sl 4 (fmR m.ps)]] := by
      simp [argAVs, argAV, Tryz.underlying22, Tryz.underlying30, Tryz.underlying27]
    rw [e]
    exact (weakens_walk th ax d m (by omega) (by omega) p0 p1 p2 p3).argLe (cellsLe.cons2 (AVle.refl _) (cellsLe.cons2 (AVle.refl _) (cellsLe.cons2 (AVle.ar _) (cellsLe.cons2 (AVle.ar _) (cellsLe.refl _)))))
theorem laid_met (os : Os) : laidMet Tryz.prog Rows.naturalWeakensUptoRow.laid ((laidWorld os).forCall (fun _ _ => 0) ⟨#[], #[.slice none 0 0, .slice none 0 0, .agg #[.int .i64 0, .int .i64 0, .string ⟨#[]⟩, .string ⟨#[]⟩, .int .i64 0, .slice none 0 0, .int .i64 0, .string ⟨#[]⟩, .slice none 0 0, .slice none 0 0, .slice none 0 0], .agg #[.int .i64 0, .string ⟨#[]⟩, .slice none 0 0, .slice none 0 0]], []⟩).memory :=
  laidMet_of_run' 8 (by kernel_rfl) (by kernel_rfl)
set_option maxRecDepth 100000 in
theorem lifted (os : Os) (started : os.Started) (H : Type) (enc : TypeId × Value → H) (F : Stop.Interp) :
    ReturnsInHanded {} Tryz.checked os 7 .any ((Rows.OpenSpec.upto Rows.naturalWeakensSpec).preRow enc Tryz.prog Tryz.f7 Rows.naturalWeakensUptoRow.domain false Rows.naturalWeakensUptoRow.laid) (((Rows.OpenSpec.upto Rows.naturalWeakensSpec).at F).post enc Tryz.prog Tryz.f7 false true false false) := by
  obtain ⟨places, hx⟩ : ∃ places, DataW.whole enc Tryz.prog ((laidWorld os).forCall (fun _ _ => 0) ⟨#[], #[.slice none 0 0, .slice none 0 0, .agg #[.int .i64 0, .int .i64 0, .string ⟨#[]⟩, .string ⟨#[]⟩, .int .i64 0, .slice none 0 0, .int .i64 0, .string ⟨#[]⟩, .slice none 0 0, .slice none 0 0, .slice none 0 0], .agg #[.int .i64 0, .string ⟨#[]⟩, .slice none 0 0, .slice none 0 0]], []⟩).memory Tryz.f7.params.toList Rows.naturalWeakensSpec.vars false (#[.slice none 0 0, .slice none 0 0, .agg #[.int .i64 0, .int .i64 0, .string ⟨#[]⟩, .string ⟨#[]⟩, .int .i64 0, .slice none 0 0, .int .i64 0, .string ⟨#[]⟩, .slice none 0 0, .slice none 0 0, .slice none 0 0], .agg #[.int .i64 0, .string ⟨#[]⟩, .slice none 0 0, .slice none 0 0]] : Array Value).toList 8 = some ([.nil, .nil, .agg [.lit (.int .i64 0), .lit (.int .i64 0), .lit (.string []), .agg [.lit (.string []), .lit (.int .i64 0), .nil], .agg [.lit (.int .i64 0), .lit (.string []), .nil, .nil], .nil], .agg [.lit (.int .i64 0), .lit (.string []), .nil, .nil]], [], places) :=
    ⟨[], by kernel_rfl⟩
  refine returnsInHanded_of_row (C := Tryz.checked) (s := Rows.OpenSpec.upto Rows.naturalWeakensSpec) own started (by kernel_rfl) Tryz.func7
    (witness_row_at (enc := enc) (C := Tryz.checked) false (laidWorld os) #[.slice none 0 0, .slice none 0 0, .agg #[.int .i64 0, .int .i64 0, .string ⟨#[]⟩, .string ⟨#[]⟩, .int .i64 0, .slice none 0 0, .int .i64 0, .string ⟨#[]⟩, .slice none 0 0, .slice none 0 0, .slice none 0 0], .agg #[.int .i64 0, .string ⟨#[]⟩, .slice none 0 0, .slice none 0 0]] rfl (by kernel_rfl) (by kernel_rfl) (by kernel_rfl)
      (OpenSpec.preRow_of_cond 8 hx (by kernel_rfl) (fun k hk => by cases hk; kernel_rfl) (by kernel_rfl) (laid_met os))) ?_
  intro W base args ds gs before hval hW _ hk _ hL _ _
  exact law_upto (bulk H) 1048576 4 [22, 30, 27, 25, 23, 28, 3, 9] rfl (fun ds h => by
    have h : ds.length = 4 := h.trans (by kernel_rfl)
    match ds, h with
    | [a, b, c, d], _ => rfl) (by kernel_rfl) (by kernel_rfl) (by kernel_rfl) (by kernel_rfl) (by kernel_rfl) (by kernel_rfl) walk hval hW (bound (hk _ rfl)) (vk_of hL)
theorem said : Rows.NaturalWeakensUptoSaid :=
  OpenClaim.holds_of_cond 7 Tryz.f7 rfl rfl rfl rfl rfl rfl rfl ⟨rfl, rfl, rfl, rfl, rfl⟩ rfl rfl rfl rfl rfl (by kernel_rfl) Tryz.func7 (by kernel_rfl)
    (of_decide_eq_true (by kernel_rfl)) (by unfold Func.isWrapper; first | (rw [if_pos (by decide +kernel)]; kernel_rfl) | (rw [if_neg (by decide +kernel)]; exact ⟨rfl, rfl⟩))
    (fun os started H enc _ F => by rw [OpenClaim.pre_eq_preRow]; exact lifted os started H enc F)
theorem plain (f : FuncId) (fn : Func) (hf : Tryz.pinned.checked.prog.funcNamed Rows.naturalWeakensUptoRow.func = some f) (hfn : Tryz.pinned.checked.prog.funcs[f]? = some fn) :
    Rows.naturalWeakensUptoCard.stood.looks = Tryz.pinned.checked.prog.looks [] ∧ ∀ (j : Nat) t, fn.params[j]? = some t → Tryz.pinned.checked.prog.wantsStandIn t = false := by
  obtain rfl : f = 7 := Option.some.inj ((show Tryz.prog.funcNamed Rows.naturalWeakensUptoRow.func = some 7 by kernel_rfl).symm.trans hf) |>.symm
  obtain rfl : fn = Tryz.f7 := (Option.some.inj (Tryz.func7.symm.trans hfn)).symm
  refine ⟨by kernel_rfl, fun j t ht => ?_⟩
  have hall : Tryz.f7.params.toList.all (fun t => !Tryz.prog.wantsStandIn t) = true := by kernel_rfl
  have := List.all_eq_true.1 hall t (by simpa using Array.mem_of_getElem? ht)
  show Tryz.prog.wantsStandIn t = false
  simpa using this
theorem proved : Rows.NaturalWeakensUptoCardSaid :=
  Claim7.holds_tied_plain_at .later [] _ _ _ _ said (fun _ h => by cases h) (by kernel_rfl) (fun _ h => by cases h) naturalWeakensUpto_row_tie rfl ⟨rfl, rfl⟩ (by kernel_rfl) rfl plain (by kernel_rfl)
end Go.Proofs.YteacpafhmgdbkaaGreatDoor.naturalWeakens
