/- ClauseApplies of layer 28 answers true for all clauses and bindings: Apply returns the clause of the reference, or its error; the tied card. No conditions. -/
import Derived.Test.YtpfohmboflcneaaGreatDoorW3
import Derived.Test.YtpfohmboflcneaaGreatDoorCards
import Derived.Test.YtpfohmboflcneaaGreatDoorTie
import Derived.ProofKit
import Derived.OpenShut
import Derived.Deep.DeepHandedRow
set_option linter.unusedSimpArgs false
set_option linter.unusedVariables false
set_option linter.unnecessarySimpa false
namespace Go.Proofs.YtpfohmboflcneaaGreatDoor.clauseApplies
open Go Go.AL Go.ChangeShapes Go.WideShapes Go.ChangeAt Go.RowKit
set_option linter.unusedVariables false
theorem own : ownKnob Tryz.prog.godebug = none := by kernel_rfl
theorem walk (xss : List (List IV)) (h : TypedAll Tryz.prog Tryz.f4.params.toList xss) : PFn Tryz.prog 4 (argAVs Tryz.prog Tryz.f4.params.toList xss) (.im (.v (.bool true))) := by
  rw [Tryz.params4] at h ⊢
  match xss, h with
  | [x0, x1], ⟨⟨n0, h0⟩, ⟨n1, h1⟩, _⟩ =>
    obtain ⟨c, rfl, p0⟩ := cl_of n0 h0
    obtain ⟨l, rfl, p1⟩ := bds_of n1 h1
    have e : argAVs Tryz.prog #[23, 52].toList [[.sl 3 (ltR c)], [.sl 4 (bdR l)]] = [clV c, bdV l] := by
      simp [argAVs, argAV, Tryz.underlying23, Tryz.underlying52]
    rw [e]
    exact applies_walk c l p0 p1
theorem laid_met (os : Os) : laidMet Tryz.prog Rows.clauseAppliesRow.laid ((laidWorld os).forCall (fun _ _ => 0) ⟨#[], #[.slice none 0 0, .slice none 0 0], []⟩).memory :=
  laidMet_of_run' 8 (by kernel_rfl) (by kernel_rfl)
set_option maxRecDepth 100000 in
theorem lifted (os : Os) (started : os.Started) (H : Type) (enc : TypeId × Value → H) (F : Stop.Interp) :
    ReturnsInHanded {} Tryz.checked os 4 .any ((OpenSpec.ofChange Rows.clauseAppliesSpec).preRow enc Tryz.prog Tryz.f4 Rows.clauseAppliesRow.domain false Rows.clauseAppliesRow.laid) (((OpenSpec.ofChange Rows.clauseAppliesSpec).at F).post enc Tryz.prog Tryz.f4 false true false false) := by
  obtain ⟨places, hx⟩ : ∃ places, DataW.whole enc Tryz.prog ((laidWorld os).forCall (fun _ _ => 0) ⟨#[], #[.slice none 0 0, .slice none 0 0], []⟩).memory Tryz.f4.params.toList Rows.clauseAppliesSpec.vars false (#[.slice none 0 0, .slice none 0 0] : Array Value).toList 8 = some ([.nil, .nil], [], places) :=
    ⟨[], by kernel_rfl⟩
  refine returnsInHanded_of_row (C := Tryz.checked) (s := OpenSpec.ofChange Rows.clauseAppliesSpec) own started (by kernel_rfl) Tryz.func4
    (witness_row_at (enc := enc) (C := Tryz.checked) false (laidWorld os) #[.slice none 0 0, .slice none 0 0] rfl (by kernel_rfl) (by kernel_rfl) (by kernel_rfl)
      (OpenSpec.preRow_of_cond 8 hx (by kernel_rfl) (fun k hk => by cases hk) (by kernel_rfl) (laid_met os))) ?_
  intro W base args ds gs before hval hW _ _ _ hL _ _
  exact law 4 [23, 52, 61, 59, 57, 55, 3, 4, 9] rfl (fun ds h => by
    have h : ds.length = 2 := h.trans (by kernel_rfl)
    match ds, h with
    | [a, b], _ => rfl) (by kernel_rfl) (by kernel_rfl) (by kernel_rfl) (by kernel_rfl) (by kernel_rfl) (by kernel_rfl) walk hval hW (vk_of hL)
theorem said : Rows.ClauseAppliesSaid :=
  OpenClaim.holds_of_cond 4 Tryz.f4 rfl rfl rfl rfl rfl rfl rfl ⟨rfl, rfl, rfl, rfl, rfl⟩ rfl rfl rfl rfl rfl (by kernel_rfl) Tryz.func4 (by kernel_rfl)
    (of_decide_eq_true (by kernel_rfl)) (by unfold Func.isWrapper; first | (rw [if_pos (by decide +kernel)]; kernel_rfl) | (rw [if_neg (by decide +kernel)]; exact ⟨rfl, rfl⟩))
    (fun os started H enc _ F => by rw [OpenClaim.pre_eq_preRow]; exact lifted os started H enc F)
theorem plain (f : FuncId) (fn : Func) (hf : Tryz.pinned.checked.prog.funcNamed Rows.clauseAppliesRow.func = some f) (hfn : Tryz.pinned.checked.prog.funcs[f]? = some fn) :
    Rows.clauseAppliesCard.stood.looks = Tryz.pinned.checked.prog.looks [] ∧ ∀ (j : Nat) t, fn.params[j]? = some t → Tryz.pinned.checked.prog.wantsStandIn t = false := by
  obtain rfl : f = 4 := Option.some.inj ((show Tryz.prog.funcNamed Rows.clauseAppliesRow.func = some 4 by kernel_rfl).symm.trans hf) |>.symm
  obtain rfl : fn = Tryz.f4 := (Option.some.inj (Tryz.func4.symm.trans hfn)).symm
  refine ⟨by kernel_rfl, fun j t ht => ?_⟩
  have hall : Tryz.f4.params.toList.all (fun t => !Tryz.prog.wantsStandIn t) = true := by kernel_rfl
  have := List.all_eq_true.1 hall t (by simpa using Array.mem_of_getElem? ht)
  show Tryz.prog.wantsStandIn t = false
  simpa using this
theorem proved : Rows.ClauseAppliesCardSaid :=
  Claim7.holds_tied_plain_at .later [] _ _ _ _ said (fun _ h => by cases h) (by kernel_rfl) (fun _ h => by cases h) clauseApplies_row_tie rfl ⟨rfl, rfl⟩ (by kernel_rfl) rfl plain (by kernel_rfl)
end Go.Proofs.YtpfohmboflcneaaGreatDoor.clauseApplies
