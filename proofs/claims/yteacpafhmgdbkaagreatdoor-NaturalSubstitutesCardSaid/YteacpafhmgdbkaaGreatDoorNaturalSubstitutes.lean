/- NaturalSubstitutes of layer 25 answers true for all formulas, names and terms: Abstract, Instance and Replaced keep the laws of substitution; the tied card. No conditions. -/
import Derived.Test.YteacpafhmgdbkaaGreatDoorW3
import Derived.Test.YteacpafhmgdbkaaGreatDoorCards
import Derived.Test.YteacpafhmgdbkaaGreatDoorTie
import Derived.ProofKit
import Derived.OpenShut
import Derived.Deep.DeepHandedRow
set_option linter.unusedSimpArgs false
set_option linter.unusedVariables false
set_option linter.unnecessarySimpa false
namespace Go.Proofs.YteacpafhmgdbkaaGreatDoor.naturalSubstitutes
open Go Go.AL Go.ChangeShapes Go.WideShapes Go.ChangeAt Go.RowKit
set_option linter.unusedVariables false
theorem own : ownKnob Tryz.prog.godebug = none := by kernel_rfl
theorem walk (xss : List (List IV)) (h : TypedAll Tryz.prog Tryz.f8.params.toList xss) : PFn Tryz.prog 8 (argAVs Tryz.prog Tryz.f8.params.toList xss) (.im (.v (.bool true))) := by
  rw [Tryz.params8] at h ⊢
  match xss, h with
  | [x0, x1, x2, x3, x4], ⟨⟨n0, h0⟩, ⟨n1, h1⟩, ⟨n2, h2⟩, ⟨n3, h3⟩, ⟨n4, h4⟩, _⟩ =>
    obtain ⟨f, rfl, p0⟩ := fm_of n0 h0
    obtain ⟨a, rfl, p1⟩ := str_of h1
    obtain ⟨b, rfl, p2⟩ := str_of h2
    obtain ⟨s, rfl, p3⟩ := tm_of n3 h3
    obtain ⟨t, rfl, p4⟩ := tm_of n4 h4
    rw [fmC_eq, tmC_eq, tmC_eq]
    have e : argAVs Tryz.prog #[27, 9, 9, 25, 25].toList [[Ii f.k, Si f.nm, .sl 3 (tmR f.ts), .sl 4 (fmR f.ps)], [Si a], [Si b], [Si s.nm, Ii s.ix, .sl 3 (tmR s.xs)], [Si t.nm, Ii t.ix, .sl 3 (tmR t.xs)]] = [.ar [Ii f.k, Si f.nm, .sl 3 (tmR f.ts), .sl 4 (fmR f.ps)], Sv a, Sv b, .ar [Si s.nm, Ii s.ix, .sl 3 (tmR s.xs)], .ar [Si t.nm, Ii t.ix, .sl 3 (tmR t.xs)]] := by
      simp [argAVs, argAV, Tryz.underlying27, Tryz.underlying25, Tryz.underlying9]
    rw [e]
    exact (substitutes_walk f a b s t p0 p1 p2 p3 p4).argLe (cellsLe.cons2 (AVle.ar _) (cellsLe.cons2 (AVle.refl _) (cellsLe.cons2 (AVle.refl _) (cellsLe.cons2 (AVle.ar _) (cellsLe.cons2 (AVle.ar _) (cellsLe.refl _))))))
theorem laid_met (os : Os) : laidMet Tryz.prog Rows.naturalSubstitutesRow.laid ((laidWorld os).forCall (fun _ _ => 0) ⟨#[], #[.agg #[.int .i64 0, .string ⟨#[]⟩, .slice none 0 0, .slice none 0 0], .string ⟨#[]⟩, .string ⟨#[]⟩, .agg #[.string ⟨#[]⟩, .int .i64 0, .slice none 0 0], .agg #[.string ⟨#[]⟩, .int .i64 0, .slice none 0 0]], []⟩).memory :=
  laidMet_of_run' 8 (by kernel_rfl) (by kernel_rfl)
set_option maxRecDepth 100000 in
theorem lifted (os : Os) (started : os.Started) (H : Type) (enc : TypeId × Value → H) (F : Stop.Interp) :
    ReturnsInHanded {} Tryz.checked os 8 .any ((OpenSpec.ofChange Rows.naturalSubstitutesSpec).preRow enc Tryz.prog Tryz.f8 Rows.naturalSubstitutesRow.domain false Rows.naturalSubstitutesRow.laid) (((OpenSpec.ofChange Rows.naturalSubstitutesSpec).at F).post enc Tryz.prog Tryz.f8 false true false false) := by
  obtain ⟨places, hx⟩ : ∃ places, DataW.whole enc Tryz.prog ((laidWorld os).forCall (fun _ _ => 0) ⟨#[], #[.agg #[.int .i64 0, .string ⟨#[]⟩, .slice none 0 0, .slice none 0 0], .string ⟨#[]⟩, .string ⟨#[]⟩, .agg #[.string ⟨#[]⟩, .int .i64 0, .slice none 0 0], .agg #[.string ⟨#[]⟩, .int .i64 0, .slice none 0 0]], []⟩).memory Tryz.f8.params.toList Rows.naturalSubstitutesSpec.vars false (#[.agg #[.int .i64 0, .string ⟨#[]⟩, .slice none 0 0, .slice none 0 0], .string ⟨#[]⟩, .string ⟨#[]⟩, .agg #[.string ⟨#[]⟩, .int .i64 0, .slice none 0 0], .agg #[.string ⟨#[]⟩, .int .i64 0, .slice none 0 0]] : Array Value).toList 8 = some ([.agg [.lit (.int .i64 0), .lit (.string []), .nil, .nil], .lit (.string []), .lit (.string []), .agg [.lit (.string []), .lit (.int .i64 0), .nil], .agg [.lit (.string []), .lit (.int .i64 0), .nil]], [], places) :=
    ⟨[], by kernel_rfl⟩
  refine returnsInHanded_of_row (C := Tryz.checked) (s := OpenSpec.ofChange Rows.naturalSubstitutesSpec) own started (by kernel_rfl) Tryz.func8
    (witness_row_at (enc := enc) (C := Tryz.checked) false (laidWorld os) #[.agg #[.int .i64 0, .string ⟨#[]⟩, .slice none 0 0, .slice none 0 0], .string ⟨#[]⟩, .string ⟨#[]⟩, .agg #[.string ⟨#[]⟩, .int .i64 0, .slice none 0 0], .agg #[.string ⟨#[]⟩, .int .i64 0, .slice none 0 0]] rfl (by kernel_rfl) (by kernel_rfl) (by kernel_rfl)
      (OpenSpec.preRow_of_cond 8 hx (by kernel_rfl) (fun k hk => by cases hk) (by kernel_rfl) (laid_met os))) ?_
  intro W base args ds gs before hval hW _ _ _ hL _ _
  exact law 4 [27, 25, 22, 23, 3, 9] rfl (fun ds h => by
    have h : ds.length = 5 := h.trans (by kernel_rfl)
    match ds, h with
    | [a, b, c, d, e], _ => rfl) (by kernel_rfl) (by kernel_rfl) (by kernel_rfl) (by kernel_rfl) (by kernel_rfl) (by kernel_rfl) walk hval hW (vk_of hL)
theorem said : Rows.NaturalSubstitutesSaid :=
  OpenClaim.holds_of_cond 8 Tryz.f8 rfl rfl rfl rfl rfl rfl rfl ⟨rfl, rfl, rfl, rfl, rfl⟩ rfl rfl rfl rfl rfl (by kernel_rfl) Tryz.func8 (by kernel_rfl)
    (of_decide_eq_true (by kernel_rfl)) (by unfold Func.isWrapper; first | (rw [if_pos (by decide +kernel)]; kernel_rfl) | (rw [if_neg (by decide +kernel)]; exact ⟨rfl, rfl⟩))
    (fun os started H enc _ F => by rw [OpenClaim.pre_eq_preRow]; exact lifted os started H enc F)
theorem plain (f : FuncId) (fn : Func) (hf : Tryz.pinned.checked.prog.funcNamed Rows.naturalSubstitutesRow.func = some f) (hfn : Tryz.pinned.checked.prog.funcs[f]? = some fn) :
    Rows.naturalSubstitutesCard.stood.looks = Tryz.pinned.checked.prog.looks [] ∧ ∀ (j : Nat) t, fn.params[j]? = some t → Tryz.pinned.checked.prog.wantsStandIn t = false := by
  obtain rfl : f = 8 := Option.some.inj ((show Tryz.prog.funcNamed Rows.naturalSubstitutesRow.func = some 8 by kernel_rfl).symm.trans hf) |>.symm
  obtain rfl : fn = Tryz.f8 := (Option.some.inj (Tryz.func8.symm.trans hfn)).symm
  refine ⟨by kernel_rfl, fun j t ht => ?_⟩
  have hall : Tryz.f8.params.toList.all (fun t => !Tryz.prog.wantsStandIn t) = true := by kernel_rfl
  have := List.all_eq_true.1 hall t (by simpa using Array.mem_of_getElem? ht)
  show Tryz.prog.wantsStandIn t = false
  simpa using this
theorem proved : Rows.NaturalSubstitutesCardSaid :=
  Claim7.holds_tied_plain_at .later [] _ _ _ _ said (fun _ h => by cases h) (by kernel_rfl) (fun _ h => by cases h) naturalSubstitutes_row_tie rfl ⟨rfl, rfl⟩ (by kernel_rfl) rfl plain (by kernel_rfl)
end Go.Proofs.YteacpafhmgdbkaaGreatDoor.naturalSubstitutes
