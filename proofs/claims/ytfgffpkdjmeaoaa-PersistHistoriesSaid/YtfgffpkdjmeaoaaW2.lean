import Derived.Test.YtfgffpkdjmeaoaaW1
set_option linter.unusedSimpArgs false
set_option linter.unusedVariables false
set_option linter.unnecessarySimpa false
section
namespace Go.Proofs.Ytfgffpkdjmeaoaa
open Go Go.AL Go.RowKit
set_option maxRecDepth 10000
set_option maxHeartbeats 4000000
theorem mark_spec (a b c : List Int) (lg : List (List IV)) : ACall Try.prog 31 [.ob 0 0] (setsH a b c lg) (fun r' H' => H' = setsH a b c lg ∧ r' = Iv lg.length) := by
  refine ACall.walk [0, 2, 4] [] Try.func31 rfl Try.ntmps31 (by kernel_rfl) (by rfl) rfl fun W own I0 φ0 => ?_
  simp only [go_sem, Nat.reduceAdd, Nat.reduceLeDiff, reduceCtorEq, setsH]
  repeat (first | refine xPP rfl ?_ | refine xPE rfl ?_ | refine xEP rfl ?_ | refine xEE rfl ?_ | refine AQ.done ?_ | refine AQ.skip (by kernel_rfl) rfl ?_ | refine AQ.s2b (by kernel_rfl) rfl rfl rfl rfl ?_ | refine AQ.mark (by kernel_rfl) rfl rfl rfl rfl rfl rfl rfl ?_ | refine AP.cond_true rfl rfl ?_ | refine AP.cond_false rfl rfl ?_ | (refine AP.region rfl (by kernel_rfl) ?_; simp only [go_sem, Nat.reduceAdd, Nat.reduceLeDiff, reduceCtorEq]) | (refine AP.drawQ rfl rfl (by kernel_rfl) ?_; simp only [go_sem, Nat.reduceAdd, Nat.reduceLeDiff, reduceCtorEq]) | (refine vq_id ?_; simp only [go_sem, Nat.reduceAdd, Nat.reduceLeDiff, reduceCtorEq]) | (refine ⟨by first | omega | (intros; simp_all; done) | (intros; simp_all; omega), ?_⟩; try simp only [go_sem, Nat.reduceAdd, Nat.reduceLeDiff, reduceCtorEq]))
  exact AE.ret rfl ⟨rfl, trivial⟩ ⟨rfl, rfl⟩
theorem count_spec' (a b c : List Int) (lg : List (List IV)) (h : lg.length ≤ a.length) (hl : a.length ≤ 1000000000) : ACall Try.prog 30 [.ob 0 0] (setsH a b c lg) (fun r' H' => H' = setsH a b c lg ∧ r' = Iv (a.length - lg.length : Nat)) := by
  have hw := wr (x := (a.length : Int) - lg.length) (by omega)
  refine ACall.walk [0, 2, 4] [] Try.func30 rfl Try.ntmps30 (by kernel_rfl) (by rfl) rfl fun W own I0 φ0 => ?_
  simp only [go_sem, Nat.reduceAdd, Nat.reduceLeDiff, reduceCtorEq, setsH]
  repeat (first | refine xPP rfl ?_ | refine xPE rfl ?_ | refine xEP rfl ?_ | refine xEE rfl ?_ | refine AQ.done ?_ | refine AQ.skip (by kernel_rfl) rfl ?_ | refine AQ.s2b (by kernel_rfl) rfl rfl rfl rfl ?_ | refine AQ.mark (by kernel_rfl) rfl rfl rfl rfl rfl rfl rfl ?_ | refine AP.cond_true rfl rfl ?_ | refine AP.cond_false rfl rfl ?_ | (refine AP.region rfl (by kernel_rfl) ?_; simp only [go_sem, Nat.reduceAdd, Nat.reduceLeDiff, reduceCtorEq, hw]) | (refine AP.drawQ rfl rfl (by kernel_rfl) ?_; simp only [go_sem, Nat.reduceAdd, Nat.reduceLeDiff, reduceCtorEq, hw]) | (refine vq_id ?_; simp only [go_sem, Nat.reduceAdd, Nat.reduceLeDiff, reduceCtorEq, hw]) | (refine ⟨by first | omega | (intros; simp_all; done) | (intros; simp_all; omega), ?_⟩; try simp only [go_sem, Nat.reduceAdd, Nat.reduceLeDiff, reduceCtorEq, hw]))
  exact AE.ret rfl ⟨rfl, trivial⟩ ⟨rfl, by rw [Int.ofNat_sub h]; rfl⟩
theorem setsFind_bad (a b c : List Int) (lg : List (List IV)) (x : Int) (hx : ¬ (0 ≤ x ∧ x < a.length)) (hl : a.length ≤ 1000000000) : ACall Try.prog 27 [.ob 0 0, Iv x] (setsH a b c lg) (fun r' H' => H' = setsH a b c lg ∧ r' = .tup [Iv 0, Iv 3]) := by
  have hh := has_spec a b c lg x hl
  have hf : (decide (0 ≤ x) && decide (x < (a.length : Int))) = false := by simpa using hx
  rw [hf] at hh
  refine ACall.walk [0, 1, 4, 5, 6, 9] [] Try.func27 rfl Try.ntmps27 (by kernel_rfl) (by rfl) rfl fun W own I0 φ0 => ?_
  simp only [go_sem, Nat.reduceAdd, Nat.reduceLeDiff, reduceCtorEq, setsH] at *
  repeat (first | refine xPP rfl ?_ | refine xPE rfl ?_ | refine xEP rfl ?_ | refine xEE rfl ?_ | refine AQ.done ?_ | refine AQ.skip (by kernel_rfl) rfl ?_ | refine AQ.s2b (by kernel_rfl) rfl rfl rfl rfl ?_ | refine AQ.mark (by kernel_rfl) rfl rfl rfl rfl rfl rfl rfl ?_ | refine AP.cond_true rfl rfl ?_ | refine AP.cond_false rfl rfl ?_ | (refine AP.region rfl (by kernel_rfl) ?_; simp only [go_sem, Nat.reduceAdd, Nat.reduceLeDiff, reduceCtorEq]) | (refine AP.drawQ rfl rfl (by kernel_rfl) ?_; simp only [go_sem, Nat.reduceAdd, Nat.reduceLeDiff, reduceCtorEq]) | (refine vq_id ?_; simp only [go_sem, Nat.reduceAdd, Nat.reduceLeDiff, reduceCtorEq]) | (refine ⟨by first | omega | (intros; simp_all; done) | (intros; simp_all; omega), ?_⟩; try simp only [go_sem, Nat.reduceAdd, Nat.reduceLeDiff, reduceCtorEq]))
  refine AQ.callI (by kernel_rfl) rfl rfl rfl (hh) ?_
  repeat (first | refine xPP rfl ?_ | refine xPE rfl ?_ | refine xEP rfl ?_ | refine xEE rfl ?_ | refine AQ.done ?_ | refine AQ.skip (by kernel_rfl) rfl ?_ | refine AQ.s2b (by kernel_rfl) rfl rfl rfl rfl ?_ | refine AQ.mark (by kernel_rfl) rfl rfl rfl rfl rfl rfl rfl ?_ | refine AP.cond_true rfl rfl ?_ | refine AP.cond_false rfl rfl ?_ | (refine AP.region rfl (by kernel_rfl) ?_; simp only [go_sem, Nat.reduceAdd, Nat.reduceLeDiff, reduceCtorEq]) | (refine AP.drawQ rfl rfl (by kernel_rfl) ?_; simp only [go_sem, Nat.reduceAdd, Nat.reduceLeDiff, reduceCtorEq]) | (refine vq_id ?_; simp only [go_sem, Nat.reduceAdd, Nat.reduceLeDiff, reduceCtorEq]) | (refine ⟨by first | omega | (intros; simp_all; done) | (intros; simp_all; omega), ?_⟩; try simp only [go_sem, Nat.reduceAdd, Nat.reduceLeDiff, reduceCtorEq]))
  exact AE.ret rfl ⟨rfl, rfl, trivial⟩ ⟨rfl, rfl⟩
theorem setsFind_spec (a b c : List Int) (lg : List (List IV)) (n x r : Nat) (hr : Root a n x r) (hc : c.length = a.length) (hl : a.length ≤ 1000000000) : ACall Try.prog 27 [.ob 0 0, Iv x] (setsH a b c lg) (fun r' H' => H' = setsH a b c lg ∧ r' = .tup [Iv (c.getD r 0), Iv 0]) := by
  have hx := hr.lt
  have hre := hr.end'
  have hh := has_spec a b c lg x hl
  have hro := root_spec a b c lg n x r hr hl
  have hf : (decide (0 ≤ (x : Int)) && decide ((x : Int) < (a.length : Int))) = true := by simp; omega
  rw [hf] at hh
  have hget := intR_get c r (by omega)
  refine ACall.walk [0, 1, 4, 5, 6, 9] [] Try.func27 rfl Try.ntmps27 (by kernel_rfl) (by rfl) rfl fun W own I0 φ0 => ?_
  simp only [go_sem, Nat.reduceAdd, Nat.reduceLeDiff, reduceCtorEq, setsH] at *
  repeat (first | refine xPP rfl ?_ | refine xPE rfl ?_ | refine xEP rfl ?_ | refine xEE rfl ?_ | refine AQ.done ?_ | refine AQ.skip (by kernel_rfl) rfl ?_ | refine AQ.s2b (by kernel_rfl) rfl rfl rfl rfl ?_ | refine AQ.mark (by kernel_rfl) rfl rfl rfl rfl rfl rfl rfl ?_ | refine AP.cond_true rfl rfl ?_ | refine AP.cond_false rfl rfl ?_ | (refine AP.region rfl (by kernel_rfl) ?_; simp only [go_sem, Nat.reduceAdd, Nat.reduceLeDiff, reduceCtorEq]) | (refine AP.drawQ rfl rfl (by kernel_rfl) ?_; simp only [go_sem, Nat.reduceAdd, Nat.reduceLeDiff, reduceCtorEq]) | (refine vq_id ?_; simp only [go_sem, Nat.reduceAdd, Nat.reduceLeDiff, reduceCtorEq]) | (refine ⟨by first | omega | (intros; simp_all; done) | (intros; simp_all; omega), ?_⟩; try simp only [go_sem, Nat.reduceAdd, Nat.reduceLeDiff, reduceCtorEq]))
  refine AQ.callI (by kernel_rfl) rfl rfl rfl (hh) ?_
  repeat (first | refine xPP rfl ?_ | refine xPE rfl ?_ | refine xEP rfl ?_ | refine xEE rfl ?_ | refine AQ.done ?_ | refine AQ.skip (by kernel_rfl) rfl ?_ | refine AQ.s2b (by kernel_rfl) rfl rfl rfl rfl ?_ | refine AQ.mark (by kernel_rfl) rfl rfl rfl rfl rfl rfl rfl ?_ | refine AP.cond_true rfl rfl ?_ | refine AP.cond_false rfl rfl ?_ | (refine AP.region rfl (by kernel_rfl) ?_; simp only [go_sem, Nat.reduceAdd, Nat.reduceLeDiff, reduceCtorEq]) | (refine AP.drawQ rfl rfl (by kernel_rfl) ?_; simp only [go_sem, Nat.reduceAdd, Nat.reduceLeDiff, reduceCtorEq]) | (refine vq_id ?_; simp only [go_sem, Nat.reduceAdd, Nat.reduceLeDiff, reduceCtorEq]) | (refine ⟨by first | omega | (intros; simp_all; done) | (intros; simp_all; omega), ?_⟩; try simp only [go_sem, Nat.reduceAdd, Nat.reduceLeDiff, reduceCtorEq]))
  refine AP.drawE 11 (Tree.node [] [0, 1, 2, 3, 4, 5] [6] [Tree.node [0, 1, 2, 3] [7, 8, 9, 10] [] []]) (by kernel_rfl) rfl (by kernel_rfl) (by kernel_rfl) ?_
  refine vd_node ?_
  simp only [go_sem, Nat.reduceAdd, Nat.reduceLeDiff, reduceCtorEq]
  refine AQ.callI (by kernel_rfl) rfl rfl rfl (hro) ?_
  simp only [go_sem, Nat.reduceAdd, Nat.reduceLeDiff, reduceCtorEq]
  refine AQ.nx rfl ?_
  simp only [go_sem, Nat.reduceAdd, Nat.reduceLeDiff, reduceCtorEq, hget]
  refine ⟨by omega, by omega, ?_⟩
  repeat (first | refine xPP rfl ?_ | refine xPE rfl ?_ | refine xEP rfl ?_ | refine xEE rfl ?_ | refine AQ.done ?_ | refine AQ.skip (by kernel_rfl) rfl ?_ | refine AQ.s2b (by kernel_rfl) rfl rfl rfl rfl ?_ | refine AQ.mark (by kernel_rfl) rfl rfl rfl rfl rfl rfl rfl ?_ | refine AP.cond_true rfl rfl ?_ | refine AP.cond_false rfl rfl ?_ | (refine AP.region rfl (by kernel_rfl) ?_; simp only [go_sem, Nat.reduceAdd, Nat.reduceLeDiff, reduceCtorEq]) | (refine AP.drawQ rfl rfl (by kernel_rfl) ?_; simp only [go_sem, Nat.reduceAdd, Nat.reduceLeDiff, reduceCtorEq]) | (refine vq_id ?_; simp only [go_sem, Nat.reduceAdd, Nat.reduceLeDiff, reduceCtorEq]) | (refine ⟨by first | omega | (intros; simp_all; done) | (intros; simp_all; omega), ?_⟩; try simp only [go_sem, Nat.reduceAdd, Nat.reduceLeDiff, reduceCtorEq]))
  exact AE.ret rfl ⟨rfl, rfl, trivial⟩ ⟨rfl, rfl⟩
theorem union_bad (a b c : List Int) (lg : List (List IV)) (x y : Int) (hx : ¬ ((0 ≤ x ∧ x < a.length) ∧ (0 ≤ y ∧ y < a.length))) (hl : a.length ≤ 1000000000) :
    ACall Try.prog 28 [.ob 0 0, Iv x, Iv y] (setsH a b c lg) (fun r' H' => H' = setsH a b c lg ∧ r' = .tup [Bv false, Iv 3]) := by
  have hh := has_spec a b c lg x hl
  have hh2 := has_spec a b c lg y hl
  refine ACall.walk [0, 1, 2, 6, 7, 8, 11, 30, 45] [] Try.func28 rfl Try.ntmps28 (by kernel_rfl) (by rfl) rfl fun W own I0 φ0 => ?_
  simp only [go_sem, Nat.reduceAdd, Nat.reduceLeDiff, reduceCtorEq, setsH] at *
  repeat (first | refine xPP rfl ?_ | refine xPE rfl ?_ | refine xEP rfl ?_ | refine xEE rfl ?_ | refine AQ.done ?_ | refine AQ.skip (by kernel_rfl) rfl ?_ | refine AQ.s2b (by kernel_rfl) rfl rfl rfl rfl ?_ | refine AQ.mark (by kernel_rfl) rfl rfl rfl rfl rfl rfl rfl ?_ | refine AP.cond_true rfl rfl ?_ | refine AP.cond_false rfl rfl ?_ | (refine AP.region rfl (by kernel_rfl) ?_; simp only [go_sem, Nat.reduceAdd, Nat.reduceLeDiff, reduceCtorEq]) | (refine AP.drawQ rfl rfl (by kernel_rfl) ?_; simp only [go_sem, Nat.reduceAdd, Nat.reduceLeDiff, reduceCtorEq]) | (refine vq_id ?_; simp only [go_sem, Nat.reduceAdd, Nat.reduceLeDiff, reduceCtorEq]) | (refine ⟨by first | omega | (intros; simp_all; done) | (intros; simp_all; omega), ?_⟩; try simp only [go_sem, Nat.reduceAdd, Nat.reduceLeDiff, reduceCtorEq]))
  refine AQ.callI (by kernel_rfl) rfl rfl rfl (hh) ?_
  repeat (first | refine xPP rfl ?_ | refine xPE rfl ?_ | refine xEP rfl ?_ | refine xEE rfl ?_ | refine AQ.done ?_ | refine AQ.skip (by kernel_rfl) rfl ?_ | refine AQ.s2b (by kernel_rfl) rfl rfl rfl rfl ?_ | refine AQ.mark (by kernel_rfl) rfl rfl rfl rfl rfl rfl rfl ?_ | refine AP.cond_true rfl rfl ?_ | refine AP.cond_false rfl rfl ?_ | (refine AP.region rfl (by kernel_rfl) ?_; simp only [go_sem, Nat.reduceAdd, Nat.reduceLeDiff, reduceCtorEq]) | (refine AP.drawQ rfl rfl (by kernel_rfl) ?_; simp only [go_sem, Nat.reduceAdd, Nat.reduceLeDiff, reduceCtorEq]) | (refine vq_id ?_; simp only [go_sem, Nat.reduceAdd, Nat.reduceLeDiff, reduceCtorEq]) | (refine ⟨by first | omega | (intros; simp_all; done) | (intros; simp_all; omega), ?_⟩; try simp only [go_sem, Nat.reduceAdd, Nat.reduceLeDiff, reduceCtorEq]))
  refine AQ.callI_g (by kernel_rfl) rfl rfl rfl (fun h => by first | (simp [gs, AV.g]; done) | (simp [gs, AV.g, constAV]; done) | (simp [gs, AV.g, constAV, bw] at h ⊢; done) | (simp [bw] at h; done) | (simp [gs, AV.g, bw] at h ⊢; simp [h]; done) | (simp [gs, AV.g, bw] at h ⊢; exact h.1) | (simp [gs, AV.g]; rfl) | (simp [gs, AV.g, bw] at h ⊢; rfl) | (simp [gs, AV.g, bw] at h ⊢; simp [h]; rfl) | (simp [gs, AV.g, bw] at h ⊢; simp_all)) (fun _ => hh2) ?_
  simp only [go_sem, Nat.reduceAdd, Nat.reduceLeDiff, reduceCtorEq]
  repeat (first | refine xPP rfl ?_ | refine xPE rfl ?_ | refine xEP rfl ?_ | refine xEE rfl ?_ | refine AQ.done ?_ | refine AQ.skip (by kernel_rfl) rfl ?_ | refine AQ.s2b (by kernel_rfl) rfl rfl rfl rfl ?_ | refine AQ.mark (by kernel_rfl) rfl rfl rfl rfl rfl rfl rfl ?_ | refine AP.cond_true rfl rfl ?_ | refine AP.cond_false rfl rfl ?_ | (refine AP.region rfl (by kernel_rfl) ?_; simp only [go_sem, Nat.reduceAdd, Nat.reduceLeDiff, reduceCtorEq]) | (refine AP.drawQ rfl rfl (by kernel_rfl) ?_; simp only [go_sem, Nat.reduceAdd, Nat.reduceLeDiff, reduceCtorEq]) | (refine vq_id ?_; simp only [go_sem, Nat.reduceAdd, Nat.reduceLeDiff, reduceCtorEq]) | (refine ⟨by first | omega | (intros; simp_all; done) | (intros; simp_all; omega), ?_⟩; try simp only [go_sem, Nat.reduceAdd, Nat.reduceLeDiff, reduceCtorEq]))

  refine AP.cond_true rfl (by simp only [go_sem, Nat.reduceAdd, Nat.reduceLeDiff, reduceCtorEq]; refine congrArg (fun b => some (AV.im (IV.v (Value.bool b)))) ?_; (first | (simp only [Bool.or_eq_true, Bool.and_eq_true, Bool.not_eq_true', Bool.not_eq_false', Bool.and_eq_false_iff, Bool.or_eq_false_iff, decide_eq_true_eq, decide_eq_false_iff_not, beq_iff_eq, bne_iff_ne, beq_eq_false_iff_ne, bne_eq_false_iff_eq, ne_eq]; omega) | (simp; done) | (simp; omega) | (simp_all; done) | (simp_all; omega))) ?_
  repeat (first | refine xPP rfl ?_ | refine xPE rfl ?_ | refine xEP rfl ?_ | refine xEE rfl ?_ | refine AQ.done ?_ | refine AQ.skip (by kernel_rfl) rfl ?_ | refine AQ.s2b (by kernel_rfl) rfl rfl rfl rfl ?_ | refine AQ.mark (by kernel_rfl) rfl rfl rfl rfl rfl rfl rfl ?_ | refine AP.cond_true rfl rfl ?_ | refine AP.cond_false rfl rfl ?_ | (refine AP.region rfl (by kernel_rfl) ?_; simp only [go_sem, Nat.reduceAdd, Nat.reduceLeDiff, reduceCtorEq]) | (refine AP.drawQ rfl rfl (by kernel_rfl) ?_; simp only [go_sem, Nat.reduceAdd, Nat.reduceLeDiff, reduceCtorEq]) | (refine vq_id ?_; simp only [go_sem, Nat.reduceAdd, Nat.reduceLeDiff, reduceCtorEq]) | (refine ⟨by first | omega | (intros; simp_all; done) | (intros; simp_all; omega), ?_⟩; try simp only [go_sem, Nat.reduceAdd, Nat.reduceLeDiff, reduceCtorEq]))
  exact AE.ret rfl ⟨rfl, rfl, trivial⟩ ⟨rfl, rfl⟩
def swapB (b : List Int) (x y : Nat) : Bool := decide (b.getD x 0 < b.getD y 0)
def uRoot (b : List Int) (x y : Nat) : Nat := if swapB b x y then y else x
def uBelow (b : List Int) (x y : Nat) : Nat := if swapB b x y then x else y
def logRow (b c : List Int) (r s : Nat) : List IV := [Ii s, Ii r, Ii (b.getD r 0), Ii (c.getD r 0)]
theorem union_same (a b c : List Int) (lg : List (List IV)) (x y n n' r : Nat) (hx : Root a n x r) (hy : Root a n' y r) (hl : a.length ≤ 1000000000) :
    ACall Try.prog 28 [.ob 0 0, Iv x, Iv y] (setsH a b c lg) (fun r' H' => H' = setsH a b c lg ∧ r' = .tup [Bv false, Iv 0]) := by
  have hlx := hx.lt
  have hly := hy.lt
  have hh := has_spec a b c lg x hl
  have hh2 := has_spec a b c lg y hl
  have hr1 := root_spec a b c lg n x r hx hl
  have hr2 := root_spec a b c lg n' y r hy hl
  rw [show (decide (0 ≤ (x : Int)) && decide ((x : Int) < (a.length : Int))) = true by simp; omega] at hh
  rw [show (decide (0 ≤ (y : Int)) && decide ((y : Int) < (a.length : Int))) = true by simp; omega] at hh2
  refine ACall.walk [0, 1, 2, 6, 7, 8, 11, 30, 45] [] Try.func28 rfl Try.ntmps28 (by kernel_rfl) (by rfl) rfl fun W own I0 φ0 => ?_
  simp only [go_sem, Nat.reduceAdd, Nat.reduceLeDiff, reduceCtorEq, setsH] at *
  repeat (first | refine xPP rfl ?_ | refine xPE rfl ?_ | refine xEP rfl ?_ | refine xEE rfl ?_ | refine AQ.done ?_ | refine AQ.skip (by kernel_rfl) rfl ?_ | refine AQ.s2b (by kernel_rfl) rfl rfl rfl rfl ?_ | refine AQ.mark (by kernel_rfl) rfl rfl rfl rfl rfl rfl rfl ?_ | refine AP.cond_true rfl rfl ?_ | refine AP.cond_false rfl rfl ?_ | (refine AP.region rfl (by kernel_rfl) ?_; simp only [go_sem, Nat.reduceAdd, Nat.reduceLeDiff, reduceCtorEq]) | (refine AP.drawQ rfl rfl (by kernel_rfl) ?_; simp only [go_sem, Nat.reduceAdd, Nat.reduceLeDiff, reduceCtorEq]) | (refine vq_id ?_; simp only [go_sem, Nat.reduceAdd, Nat.reduceLeDiff, reduceCtorEq]) | (refine ⟨by first | omega | (intros; simp_all; done) | (intros; simp_all; omega), ?_⟩; try simp only [go_sem, Nat.reduceAdd, Nat.reduceLeDiff, reduceCtorEq]))
  refine AQ.callI (by kernel_rfl) rfl rfl rfl (hh) ?_
  repeat (first | refine xPP rfl ?_ | refine xPE rfl ?_ | refine xEP rfl ?_ | refine xEE rfl ?_ | refine AQ.done ?_ | refine AQ.skip (by kernel_rfl) rfl ?_ | refine AQ.s2b (by kernel_rfl) rfl rfl rfl rfl ?_ | refine AQ.mark (by kernel_rfl) rfl rfl rfl rfl rfl rfl rfl ?_ | refine AP.cond_true rfl rfl ?_ | refine AP.cond_false rfl rfl ?_ | (refine AP.region rfl (by kernel_rfl) ?_; simp only [go_sem, Nat.reduceAdd, Nat.reduceLeDiff, reduceCtorEq]) | (refine AP.drawQ rfl rfl (by kernel_rfl) ?_; simp only [go_sem, Nat.reduceAdd, Nat.reduceLeDiff, reduceCtorEq]) | (refine vq_id ?_; simp only [go_sem, Nat.reduceAdd, Nat.reduceLeDiff, reduceCtorEq]) | (refine ⟨by first | omega | (intros; simp_all; done) | (intros; simp_all; omega), ?_⟩; try simp only [go_sem, Nat.reduceAdd, Nat.reduceLeDiff, reduceCtorEq]))
  refine AQ.callI_g (by kernel_rfl) rfl rfl rfl (fun h => by first | (simp [gs, AV.g]; done) | (simp [gs, AV.g, constAV]; done) | (simp [gs, AV.g, constAV, bw] at h ⊢; done) | (simp [bw] at h; done) | (simp [gs, AV.g, bw] at h ⊢; simp [h]; done) | (simp [gs, AV.g, bw] at h ⊢; exact h.1) | (simp [gs, AV.g]; rfl) | (simp [gs, AV.g, bw] at h ⊢; rfl) | (simp [gs, AV.g, bw] at h ⊢; simp [h]; rfl) | (simp [gs, AV.g, bw] at h ⊢; simp_all)) (fun _ => hh2) ?_
  simp only [go_sem, Nat.reduceAdd, Nat.reduceLeDiff, reduceCtorEq]
  repeat (first | refine xPP rfl ?_ | refine xPE rfl ?_ | refine xEP rfl ?_ | refine xEE rfl ?_ | refine AQ.done ?_ | refine AQ.skip (by kernel_rfl) rfl ?_ | refine AQ.s2b (by kernel_rfl) rfl rfl rfl rfl ?_ | refine AQ.mark (by kernel_rfl) rfl rfl rfl rfl rfl rfl rfl ?_ | refine AP.cond_true rfl rfl ?_ | refine AP.cond_false rfl rfl ?_ | (refine AP.region rfl (by kernel_rfl) ?_; simp only [go_sem, Nat.reduceAdd, Nat.reduceLeDiff, reduceCtorEq]) | (refine AP.drawQ rfl rfl (by kernel_rfl) ?_; simp only [go_sem, Nat.reduceAdd, Nat.reduceLeDiff, reduceCtorEq]) | (refine vq_id ?_; simp only [go_sem, Nat.reduceAdd, Nat.reduceLeDiff, reduceCtorEq]) | (refine ⟨by first | omega | (intros; simp_all; done) | (intros; simp_all; omega), ?_⟩; try simp only [go_sem, Nat.reduceAdd, Nat.reduceLeDiff, reduceCtorEq]))
  refine AQ.callI (by kernel_rfl) rfl rfl rfl (hr1) ?_
  repeat (first | refine xPP rfl ?_ | refine xPE rfl ?_ | refine xEP rfl ?_ | refine xEE rfl ?_ | refine AQ.done ?_ | refine AQ.skip (by kernel_rfl) rfl ?_ | refine AQ.s2b (by kernel_rfl) rfl rfl rfl rfl ?_ | refine AQ.mark (by kernel_rfl) rfl rfl rfl rfl rfl rfl rfl ?_ | refine AP.cond_true rfl rfl ?_ | refine AP.cond_false rfl rfl ?_ | (refine AP.region rfl (by kernel_rfl) ?_; simp only [go_sem, Nat.reduceAdd, Nat.reduceLeDiff, reduceCtorEq]) | (refine AP.drawQ rfl rfl (by kernel_rfl) ?_; simp only [go_sem, Nat.reduceAdd, Nat.reduceLeDiff, reduceCtorEq]) | (refine vq_id ?_; simp only [go_sem, Nat.reduceAdd, Nat.reduceLeDiff, reduceCtorEq]) | (refine ⟨by first | omega | (intros; simp_all; done) | (intros; simp_all; omega), ?_⟩; try simp only [go_sem, Nat.reduceAdd, Nat.reduceLeDiff, reduceCtorEq]))
  refine AQ.callI (by kernel_rfl) rfl rfl rfl (hr2) ?_
  repeat (first | refine xPP rfl ?_ | refine xPE rfl ?_ | refine xEP rfl ?_ | refine xEE rfl ?_ | refine AQ.done ?_ | refine AQ.skip (by kernel_rfl) rfl ?_ | refine AQ.s2b (by kernel_rfl) rfl rfl rfl rfl ?_ | refine AQ.mark (by kernel_rfl) rfl rfl rfl rfl rfl rfl rfl ?_ | refine AP.cond_true rfl rfl ?_ | refine AP.cond_false rfl rfl ?_ | (refine AP.region rfl (by kernel_rfl) ?_; simp only [go_sem, Nat.reduceAdd, Nat.reduceLeDiff, reduceCtorEq]) | (refine AP.drawQ rfl rfl (by kernel_rfl) ?_; simp only [go_sem, Nat.reduceAdd, Nat.reduceLeDiff, reduceCtorEq]) | (refine vq_id ?_; simp only [go_sem, Nat.reduceAdd, Nat.reduceLeDiff, reduceCtorEq]) | (refine ⟨by first | omega | (intros; simp_all; done) | (intros; simp_all; omega), ?_⟩; try simp only [go_sem, Nat.reduceAdd, Nat.reduceLeDiff, reduceCtorEq]))
  refine AP.cond_true rfl (by simp only [go_sem, Nat.reduceAdd, Nat.reduceLeDiff, reduceCtorEq]; refine congrArg (fun b => some (AV.im (IV.v (Value.bool b)))) ?_; (first | (simp only [Bool.or_eq_true, Bool.and_eq_true, Bool.not_eq_true', Bool.not_eq_false', Bool.and_eq_false_iff, Bool.or_eq_false_iff, decide_eq_true_eq, decide_eq_false_iff_not, beq_iff_eq, bne_iff_ne, beq_eq_false_iff_ne, bne_eq_false_iff_eq, ne_eq]; omega) | (simp; done) | (simp; omega) | (simp_all; done) | (simp_all; omega))) ?_
  repeat (first | refine xPP rfl ?_ | refine xPE rfl ?_ | refine xEP rfl ?_ | refine xEE rfl ?_ | refine AQ.done ?_ | refine AQ.skip (by kernel_rfl) rfl ?_ | refine AQ.s2b (by kernel_rfl) rfl rfl rfl rfl ?_ | refine AQ.mark (by kernel_rfl) rfl rfl rfl rfl rfl rfl rfl ?_ | refine AP.cond_true rfl rfl ?_ | refine AP.cond_false rfl rfl ?_ | (refine AP.region rfl (by kernel_rfl) ?_; simp only [go_sem, Nat.reduceAdd, Nat.reduceLeDiff, reduceCtorEq]) | (refine AP.drawQ rfl rfl (by kernel_rfl) ?_; simp only [go_sem, Nat.reduceAdd, Nat.reduceLeDiff, reduceCtorEq]) | (refine vq_id ?_; simp only [go_sem, Nat.reduceAdd, Nat.reduceLeDiff, reduceCtorEq]) | (refine ⟨by first | omega | (intros; simp_all; done) | (intros; simp_all; omega), ?_⟩; try simp only [go_sem, Nat.reduceAdd, Nat.reduceLeDiff, reduceCtorEq]))
  exact AE.ret rfl ⟨rfl, rfl, trivial⟩ ⟨rfl, rfl⟩
end Go.Proofs.Ytfgffpkdjmeaoaa
end

section
namespace Go.Proofs.Ytfgffpkdjmeaoaa
open Go Go.AL Go.RowKit
set_option maxRecDepth 10000
set_option maxHeartbeats 4000000
theorem intR_set (l : List Int) (k : Nat) (v : Int) : (intR l).set k [Ii v] = intR (l.set k v) := by
  simp [intR, List.map_set]
theorem intR_set1 (l : List Int) (k : Nat) (v : Int) (h : k < l.length) : (intR l).set k (IV.v (Value.int .i64 v) :: List.drop 1 ((intR l).getD k [])) = intR (l.set k v) := by
  rw [intR_get l k h, ← intR_set]; rfl
theorem min_if (x y : Int) : (if y < x then y else x) = min x y := by omega
/-- as setsH; the log's row has the id i -/
def setsHi (i : Nat) (a b c : List Int) (lg : List (List IV)) : Heap := [(i, .vec 121 4 lg), (3, .vec 3 1 (intR c)), (2, .vec 3 1 (intR b)), (1, .vec 3 1 (intR a)), (0, .var 117 [.os 1 1 0 a.length, .os 2 1 0 b.length, .os 3 1 0 c.length, .os i 4 0 lg.length])]
theorem union_ok (a b c : List Int) (lg : List (List IV)) (x y n n' r s u w : Nat) (hx : Root a n x r) (hy : Root a n' y s) (hne : r ≠ s)
    (hs : (swapB b r s = true ∧ u = s ∧ w = r) ∨ (swapB b r s = false ∧ u = r ∧ w = s)) (hb : b.length = a.length) (hc : c.length = a.length) (hl : a.length ≤ 1000000) (hlg : lg.length ≤ 1000000)
    (hbs : ∀ i, 0 ≤ b.getD i 0 ∧ b.getD i 0 ≤ 1000000) :
    ACall Try.prog 28 [.ob 0 0, Iv x, Iv y] (setsH a b c lg) (fun r' H' => H' = setsHi 5 (a.set w u) (b.set u (b.getD u 0 + b.getD w 0)) (c.set u (min (c.getD u 0) (c.getD w 0))) (lg ++ [logRow b c u w]) ∧ r' = .tup [Bv true, Iv 0]) := by
  have hlx := hx.lt
  have hly := hy.lt
  have hre := hx.end'
  have hse := hy.end'
  have hh := has_spec a b c lg x (by omega)
  have hh2 := has_spec a b c lg y (by omega)
  have hr1 := root_spec a b c lg n x r hx (by omega)
  have hr2 := root_spec a b c lg n' y s hy (by omega)
  rw [show (decide (0 ≤ (x : Int)) && decide ((x : Int) < (a.length : Int))) = true by simp; omega] at hh
  rw [show (decide (0 ≤ (y : Int)) && decide ((y : Int) < (a.length : Int))) = true by simp; omega] at hh2
  have g1 := intR_get b r (by omega)
  have g2 := intR_get b s (by omega)
  have g3 := intR_get c r (by omega)
  have g4 := intR_get c s (by omega)
  refine ACall.walk [0, 1, 2, 6, 7, 8, 11, 30, 45] [] Try.func28 rfl Try.ntmps28 (by kernel_rfl) (by rfl) rfl fun W own I0 φ0 => ?_
  simp only [go_sem, Nat.reduceAdd, Nat.reduceLeDiff, reduceCtorEq, setsH, setsHi] at *
  repeat (first | refine xPP rfl ?_ | refine xPE rfl ?_ | refine xEP rfl ?_ | refine xEE rfl ?_ | refine AQ.done ?_ | refine AQ.skip (by kernel_rfl) rfl ?_ | refine AQ.s2b (by kernel_rfl) rfl rfl rfl rfl ?_ | refine AQ.mark (by kernel_rfl) rfl rfl rfl rfl rfl rfl rfl ?_ | refine AP.cond_true rfl rfl ?_ | refine AP.cond_false rfl rfl ?_ | (refine AP.region rfl (by kernel_rfl) ?_; simp only [go_sem, Nat.reduceAdd, Nat.reduceLeDiff, reduceCtorEq]) | (refine AP.drawQ rfl rfl (by kernel_rfl) ?_; simp only [go_sem, Nat.reduceAdd, Nat.reduceLeDiff, reduceCtorEq]) | (refine vq_id ?_; simp only [go_sem, Nat.reduceAdd, Nat.reduceLeDiff, reduceCtorEq]) | (refine ⟨by first | omega | (intros; simp_all; done) | (intros; simp_all; omega), ?_⟩; try simp only [go_sem, Nat.reduceAdd, Nat.reduceLeDiff, reduceCtorEq]))
  refine AQ.callI (by kernel_rfl) rfl rfl rfl (hh) ?_
  repeat (first | refine xPP rfl ?_ | refine xPE rfl ?_ | refine xEP rfl ?_ | refine xEE rfl ?_ | refine AQ.done ?_ | refine AQ.skip (by kernel_rfl) rfl ?_ | refine AQ.s2b (by kernel_rfl) rfl rfl rfl rfl ?_ | refine AQ.mark (by kernel_rfl) rfl rfl rfl rfl rfl rfl rfl ?_ | refine AP.cond_true rfl rfl ?_ | refine AP.cond_false rfl rfl ?_ | (refine AP.region rfl (by kernel_rfl) ?_; simp only [go_sem, Nat.reduceAdd, Nat.reduceLeDiff, reduceCtorEq]) | (refine AP.drawQ rfl rfl (by kernel_rfl) ?_; simp only [go_sem, Nat.reduceAdd, Nat.reduceLeDiff, reduceCtorEq]) | (refine vq_id ?_; simp only [go_sem, Nat.reduceAdd, Nat.reduceLeDiff, reduceCtorEq]) | (refine ⟨by first | omega | (intros; simp_all; done) | (intros; simp_all; omega), ?_⟩; try simp only [go_sem, Nat.reduceAdd, Nat.reduceLeDiff, reduceCtorEq]))
  refine AQ.callI_g (by kernel_rfl) rfl rfl rfl (fun h => by first | (simp [gs, AV.g]; done) | (simp [gs, AV.g, constAV]; done) | (simp [gs, AV.g, constAV, bw] at h ⊢; done) | (simp [bw] at h; done) | (simp [gs, AV.g, bw] at h ⊢; simp [h]; done) | (simp [gs, AV.g, bw] at h ⊢; exact h.1) | (simp [gs, AV.g]; rfl) | (simp [gs, AV.g, bw] at h ⊢; rfl) | (simp [gs, AV.g, bw] at h ⊢; simp [h]; rfl) | (simp [gs, AV.g, bw] at h ⊢; simp_all)) (fun _ => hh2) ?_
  simp only [go_sem, Nat.reduceAdd, Nat.reduceLeDiff, reduceCtorEq]
  repeat (first | refine xPP rfl ?_ | refine xPE rfl ?_ | refine xEP rfl ?_ | refine xEE rfl ?_ | refine AQ.done ?_ | refine AQ.skip (by kernel_rfl) rfl ?_ | refine AQ.s2b (by kernel_rfl) rfl rfl rfl rfl ?_ | refine AQ.mark (by kernel_rfl) rfl rfl rfl rfl rfl rfl rfl ?_ | refine AP.cond_true rfl rfl ?_ | refine AP.cond_false rfl rfl ?_ | (refine AP.region rfl (by kernel_rfl) ?_; simp only [go_sem, Nat.reduceAdd, Nat.reduceLeDiff, reduceCtorEq]) | (refine AP.drawQ rfl rfl (by kernel_rfl) ?_; simp only [go_sem, Nat.reduceAdd, Nat.reduceLeDiff, reduceCtorEq]) | (refine vq_id ?_; simp only [go_sem, Nat.reduceAdd, Nat.reduceLeDiff, reduceCtorEq]) | (refine ⟨by first | omega | (intros; simp_all; done) | (intros; simp_all; omega), ?_⟩; try simp only [go_sem, Nat.reduceAdd, Nat.reduceLeDiff, reduceCtorEq]))
  refine AQ.callI (by kernel_rfl) rfl rfl rfl (hr1) ?_
  repeat (first | refine xPP rfl ?_ | refine xPE rfl ?_ | refine xEP rfl ?_ | refine xEE rfl ?_ | refine AQ.done ?_ | refine AQ.skip (by kernel_rfl) rfl ?_ | refine AQ.s2b (by kernel_rfl) rfl rfl rfl rfl ?_ | refine AQ.mark (by kernel_rfl) rfl rfl rfl rfl rfl rfl rfl ?_ | refine AP.cond_true rfl rfl ?_ | refine AP.cond_false rfl rfl ?_ | (refine AP.region rfl (by kernel_rfl) ?_; simp only [go_sem, Nat.reduceAdd, Nat.reduceLeDiff, reduceCtorEq]) | (refine AP.drawQ rfl rfl (by kernel_rfl) ?_; simp only [go_sem, Nat.reduceAdd, Nat.reduceLeDiff, reduceCtorEq]) | (refine vq_id ?_; simp only [go_sem, Nat.reduceAdd, Nat.reduceLeDiff, reduceCtorEq]) | (refine ⟨by first | omega | (intros; simp_all; done) | (intros; simp_all; omega), ?_⟩; try simp only [go_sem, Nat.reduceAdd, Nat.reduceLeDiff, reduceCtorEq]))
  refine AQ.callI (by kernel_rfl) rfl rfl rfl (hr2) ?_
  repeat (first | refine xPP rfl ?_ | refine xPE rfl ?_ | refine xEP rfl ?_ | refine xEE rfl ?_ | refine AQ.done ?_ | refine AQ.skip (by kernel_rfl) rfl ?_ | refine AQ.s2b (by kernel_rfl) rfl rfl rfl rfl ?_ | refine AQ.mark (by kernel_rfl) rfl rfl rfl rfl rfl rfl rfl ?_ | refine AP.cond_true rfl rfl ?_ | refine AP.cond_false rfl rfl ?_ | (refine AP.region rfl (by kernel_rfl) ?_; simp only [go_sem, Nat.reduceAdd, Nat.reduceLeDiff, reduceCtorEq]) | (refine AP.drawQ rfl rfl (by kernel_rfl) ?_; simp only [go_sem, Nat.reduceAdd, Nat.reduceLeDiff, reduceCtorEq]) | (refine vq_id ?_; simp only [go_sem, Nat.reduceAdd, Nat.reduceLeDiff, reduceCtorEq]) | (refine ⟨by first | omega | (intros; simp_all; done) | (intros; simp_all; omega), ?_⟩; try simp only [go_sem, Nat.reduceAdd, Nat.reduceLeDiff, reduceCtorEq]))
  refine AP.cond_false rfl (by simp only [go_sem, Nat.reduceAdd, Nat.reduceLeDiff, reduceCtorEq]; refine congrArg (fun b => some (AV.im (IV.v (Value.bool b)))) ?_; (first | (simp only [Bool.or_eq_true, Bool.and_eq_true, Bool.not_eq_true', Bool.not_eq_false', Bool.and_eq_false_iff, Bool.or_eq_false_iff, decide_eq_true_eq, decide_eq_false_iff_not, beq_iff_eq, bne_iff_ne, beq_eq_false_iff_ne, bne_eq_false_iff_eq, ne_eq]; omega) | (simp; done) | (simp; omega) | (simp_all; done) | (simp_all; omega))) ?_
  repeat (first | refine xPP rfl ?_ | refine xPE rfl ?_ | refine xEP rfl ?_ | refine xEE rfl ?_ | refine AQ.done ?_ | refine AQ.skip (by kernel_rfl) rfl ?_ | refine AQ.s2b (by kernel_rfl) rfl rfl rfl rfl ?_ | refine AQ.mark (by kernel_rfl) rfl rfl rfl rfl rfl rfl rfl ?_ | refine AP.cond_true rfl rfl ?_ | refine AP.cond_false rfl rfl ?_ | (refine AP.region rfl (by kernel_rfl) ?_; simp only [go_sem, Nat.reduceAdd, Nat.reduceLeDiff, reduceCtorEq, g1, g2]) | (refine AP.drawQ rfl rfl (by kernel_rfl) ?_; simp only [go_sem, Nat.reduceAdd, Nat.reduceLeDiff, reduceCtorEq, g1, g2]) | (refine vq_id ?_; simp only [go_sem, Nat.reduceAdd, Nat.reduceLeDiff, reduceCtorEq, g1, g2]) | (refine ⟨by first | omega | (intros; simp_all; done) | (intros; simp_all; omega), ?_⟩; try simp only [go_sem, Nat.reduceAdd, Nat.reduceLeDiff, reduceCtorEq, g1, g2]))
  refine AP.cond rfl rfl (fun hd => ?_) (fun hd => ?_)
  · have e := hs.resolve_right (fun h => by rw [swapB, hd] at h; cases h.1)
    obtain ⟨_, e1, e2⟩ := e
    subst e1; subst e2
    have hw := wr (x := b.getD u 0 + b.getD w 0) (by have := hbs u; have := hbs w; omega)
    repeat (first | refine xPP rfl ?_ | refine xPE rfl ?_ | refine xEP rfl ?_ | refine xEE rfl ?_ | refine AQ.done ?_ | refine AQ.skip (by kernel_rfl) rfl ?_ | refine AQ.s2b (by kernel_rfl) rfl rfl rfl rfl ?_ | refine AQ.mark (by kernel_rfl) rfl rfl rfl rfl rfl rfl rfl ?_ | refine AP.cond_true rfl rfl ?_ | refine AP.cond_false rfl rfl ?_ | (refine AP.region rfl (by kernel_rfl) ?_; simp only [go_sem, Nat.reduceAdd, Nat.reduceLeDiff, reduceCtorEq]) | (refine AP.drawQ rfl rfl (by kernel_rfl) ?_; simp only [go_sem, Nat.reduceAdd, Nat.reduceLeDiff, reduceCtorEq]) | (refine vq_id ?_; simp only [go_sem, Nat.reduceAdd, Nat.reduceLeDiff, reduceCtorEq]) | (refine ⟨by first | omega | (intros; simp_all; done) | (intros; simp_all; omega), ?_⟩; try simp only [go_sem, Nat.reduceAdd, Nat.reduceLeDiff, reduceCtorEq]))
    refine AP.drawE 27 (Tree.node [] [0, 1, 2, 3, 4, 5, 6, 7, 8, 9, 10, 11, 12, 13, 14, 15, 16, 17, 18, 19, 20, 21] [22] [Tree.node [0, 1, 2, 3, 4] [] [23] [Tree.node [0] [24, 25] [26] [Tree.node [] [] [] []]]]) (by kernel_rfl) rfl (by kernel_rfl) (by kernel_rfl) ?_
    refine vd_node ?_
    simp only [go_sem, Nat.reduceAdd, Nat.reduceLeDiff, reduceCtorEq, g1, g2, g3, g4]
    repeat (with_reducible refine And.intro (by omega) ?_)
    refine AQ.go (by kernel_rfl) ?_
    simp only [go_sem, Nat.reduceAdd, Nat.reduceLeDiff, reduceCtorEq]
    refine AQ.nx rfl ?_
    simp only [go_sem, Nat.reduceAdd, Nat.reduceLeDiff, reduceCtorEq]
    refine AQ.rename 4 5 rfl rfl rfl ?_; simp only [go_sem, Nat.reduceAdd, Nat.reduceLeDiff, reduceCtorEq]
    refine AQ.kill 5 ?_; simp only [go_sem, Nat.reduceAdd, Nat.reduceLeDiff, reduceCtorEq]
    refine AQ.append (hnb := rfl) (rows := lg) (es := 3) (by kernel_rfl) rfl rfl rfl (by rfl) Try.tk115 Try.sz121 (by show Option.map _ (zro Try.prog 121) = _; rw [Try.zr121]; rfl) Try.by121 rfl (by simp only [List.length_cons, List.length_nil]; omega) (by simp only [List.length_cons, List.length_nil]; omega) ?_
    simp only [go_sem, Nat.reduceAdd, Nat.reduceLeDiff, reduceCtorEq]
    refine AQ.nx rfl ?_
    simp only [go_sem, Nat.reduceAdd, Nat.reduceLeDiff, reduceCtorEq]
    refine AQ.go (by kernel_rfl) ?_
    simp only [go_sem, Nat.reduceAdd, Nat.reduceLeDiff, reduceCtorEq]
    refine AQ.nx rfl ?_
    simp only [go_sem, Nat.reduceAdd, Nat.reduceLeDiff, reduceCtorEq]
    repeat (first | refine xPP rfl ?_ | refine xPE rfl ?_ | refine xEP rfl ?_ | refine xEE rfl ?_ | refine AQ.done ?_ | refine AQ.skip (by kernel_rfl) rfl ?_ | refine AQ.s2b (by kernel_rfl) rfl rfl rfl rfl ?_ | refine AQ.mark (by kernel_rfl) rfl rfl rfl rfl rfl rfl rfl ?_ | refine AP.cond_true rfl rfl ?_ | refine AP.cond_false rfl rfl ?_ | (refine AP.region rfl (by kernel_rfl) ?_; simp only [go_sem, Nat.reduceAdd, Nat.reduceLeDiff, reduceCtorEq]) | (refine AP.drawQ rfl rfl (by kernel_rfl) ?_; simp only [go_sem, Nat.reduceAdd, Nat.reduceLeDiff, reduceCtorEq]) | (refine vq_id ?_; simp only [go_sem, Nat.reduceAdd, Nat.reduceLeDiff, reduceCtorEq]) | (refine ⟨by first | omega | (intros; simp_all; done) | (intros; simp_all; omega), ?_⟩; try simp only [go_sem, Nat.reduceAdd, Nat.reduceLeDiff, reduceCtorEq]))
    refine AP.drawE 44 (Tree.node [] [0, 1, 2, 3, 4, 5, 6, 7, 8, 9, 10, 11, 12, 13, 14, 15, 16, 17, 18, 19, 20, 21, 22, 23, 24, 25, 26, 27, 28, 29, 30, 31, 32, 33, 34, 35, 36, 37, 38, 39, 40] [41] [Tree.node [9, 39] [42] [43] [Tree.node [] [] [] []]]) (by kernel_rfl) rfl (by kernel_rfl) (by kernel_rfl) ?_
    refine vd_node ?_
    simp only [go_sem, Nat.reduceAdd, Nat.reduceLeDiff, reduceCtorEq, g1, g2, g3, g4, hw]
    repeat (with_reducible refine And.intro (by omega) ?_)
    refine AQ.go (by kernel_rfl) ?_
    simp only [go_sem, Nat.reduceAdd, Nat.reduceLeDiff, reduceCtorEq]
    repeat (with_reducible refine And.intro (by omega) ?_)
    refine AQ.nx rfl ?_
    simp only [go_sem, Nat.reduceAdd, Nat.reduceLeDiff, reduceCtorEq]
    repeat (with_reducible refine And.intro (by omega) ?_)
    refine AQ.go (by kernel_rfl) ?_
    simp only [go_sem, Nat.reduceAdd, Nat.reduceLeDiff, reduceCtorEq]
    repeat (with_reducible refine And.intro (by omega) ?_)
    refine AQ.nx rfl ?_
    simp only [go_sem, Nat.reduceAdd, Nat.reduceLeDiff, reduceCtorEq]
    repeat (first | refine xPP rfl ?_ | refine xPE rfl ?_ | refine xEP rfl ?_ | refine xEE rfl ?_ | refine AQ.done ?_ | refine AQ.skip (by kernel_rfl) rfl ?_ | refine AQ.s2b (by kernel_rfl) rfl rfl rfl rfl ?_ | refine AQ.mark (by kernel_rfl) rfl rfl rfl rfl rfl rfl rfl ?_ | refine AP.cond_true rfl rfl ?_ | refine AP.cond_false rfl rfl ?_ | (refine AP.region rfl (by kernel_rfl) ?_; simp only [go_sem, Nat.reduceAdd, Nat.reduceLeDiff, reduceCtorEq]) | (refine AP.drawQ rfl rfl (by kernel_rfl) ?_; simp only [go_sem, Nat.reduceAdd, Nat.reduceLeDiff, reduceCtorEq]) | (refine vq_id ?_; simp only [go_sem, Nat.reduceAdd, Nat.reduceLeDiff, reduceCtorEq]) | (refine ⟨by first | omega | (intros; simp_all; done) | (intros; simp_all; omega), ?_⟩; try simp only [go_sem, Nat.reduceAdd, Nat.reduceLeDiff, reduceCtorEq]))
    refine AE.ret rfl ⟨rfl, rfl, trivial⟩ ⟨?_, rfl⟩
    rw [intR_set1 a w u (by omega), intR_set1 b u _ (by omega), intR_set1 c u _ (by omega), min_if]
    simp only [List.length_set, List.length_append, List.length_cons, List.length_nil]
    rfl
  · have e := hs.resolve_left (fun h => by rw [swapB, hd] at h; cases h.1)
    obtain ⟨_, e1, e2⟩ := e
    subst e1; subst e2
    have hw := wr (x := b.getD u 0 + b.getD w 0) (by have := hbs u; have := hbs w; omega)
    repeat (first | refine xPP rfl ?_ | refine xPE rfl ?_ | refine xEP rfl ?_ | refine xEE rfl ?_ | refine AQ.done ?_ | refine AQ.skip (by kernel_rfl) rfl ?_ | refine AQ.s2b (by kernel_rfl) rfl rfl rfl rfl ?_ | refine AQ.mark (by kernel_rfl) rfl rfl rfl rfl rfl rfl rfl ?_ | refine AP.cond_true rfl rfl ?_ | refine AP.cond_false rfl rfl ?_ | (refine AP.region rfl (by kernel_rfl) ?_; simp only [go_sem, Nat.reduceAdd, Nat.reduceLeDiff, reduceCtorEq]) | (refine AP.drawQ rfl rfl (by kernel_rfl) ?_; simp only [go_sem, Nat.reduceAdd, Nat.reduceLeDiff, reduceCtorEq]) | (refine vq_id ?_; simp only [go_sem, Nat.reduceAdd, Nat.reduceLeDiff, reduceCtorEq]) | (refine ⟨by first | omega | (intros; simp_all; done) | (intros; simp_all; omega), ?_⟩; try simp only [go_sem, Nat.reduceAdd, Nat.reduceLeDiff, reduceCtorEq]))
    refine AP.drawE 27 (Tree.node [] [0, 1, 2, 3, 4, 5, 6, 7, 8, 9, 10, 11, 12, 13, 14, 15, 16, 17, 18, 19, 20, 21] [22] [Tree.node [0, 1, 2, 3, 4] [] [23] [Tree.node [0] [24, 25] [26] [Tree.node [] [] [] []]]]) (by kernel_rfl) rfl (by kernel_rfl) (by kernel_rfl) ?_
    refine vd_node ?_
    simp only [go_sem, Nat.reduceAdd, Nat.reduceLeDiff, reduceCtorEq, g1, g2, g3, g4]
    repeat (with_reducible refine And.intro (by omega) ?_)
    refine AQ.go (by kernel_rfl) ?_
    simp only [go_sem, Nat.reduceAdd, Nat.reduceLeDiff, reduceCtorEq]
    refine AQ.nx rfl ?_
    simp only [go_sem, Nat.reduceAdd, Nat.reduceLeDiff, reduceCtorEq]
    refine AQ.rename 4 5 rfl rfl rfl ?_; simp only [go_sem, Nat.reduceAdd, Nat.reduceLeDiff, reduceCtorEq]
    refine AQ.kill 5 ?_; simp only [go_sem, Nat.reduceAdd, Nat.reduceLeDiff, reduceCtorEq]
    refine AQ.append (hnb := rfl) (rows := lg) (es := 3) (by kernel_rfl) rfl rfl rfl (by rfl) Try.tk115 Try.sz121 (by show Option.map _ (zro Try.prog 121) = _; rw [Try.zr121]; rfl) Try.by121 rfl (by simp only [List.length_cons, List.length_nil]; omega) (by simp only [List.length_cons, List.length_nil]; omega) ?_
    simp only [go_sem, Nat.reduceAdd, Nat.reduceLeDiff, reduceCtorEq]
    refine AQ.nx rfl ?_
    simp only [go_sem, Nat.reduceAdd, Nat.reduceLeDiff, reduceCtorEq]
    refine AQ.go (by kernel_rfl) ?_
    simp only [go_sem, Nat.reduceAdd, Nat.reduceLeDiff, reduceCtorEq]
    refine AQ.nx rfl ?_
    simp only [go_sem, Nat.reduceAdd, Nat.reduceLeDiff, reduceCtorEq]
    repeat (first | refine xPP rfl ?_ | refine xPE rfl ?_ | refine xEP rfl ?_ | refine xEE rfl ?_ | refine AQ.done ?_ | refine AQ.skip (by kernel_rfl) rfl ?_ | refine AQ.s2b (by kernel_rfl) rfl rfl rfl rfl ?_ | refine AQ.mark (by kernel_rfl) rfl rfl rfl rfl rfl rfl rfl ?_ | refine AP.cond_true rfl rfl ?_ | refine AP.cond_false rfl rfl ?_ | (refine AP.region rfl (by kernel_rfl) ?_; simp only [go_sem, Nat.reduceAdd, Nat.reduceLeDiff, reduceCtorEq]) | (refine AP.drawQ rfl rfl (by kernel_rfl) ?_; simp only [go_sem, Nat.reduceAdd, Nat.reduceLeDiff, reduceCtorEq]) | (refine vq_id ?_; simp only [go_sem, Nat.reduceAdd, Nat.reduceLeDiff, reduceCtorEq]) | (refine ⟨by first | omega | (intros; simp_all; done) | (intros; simp_all; omega), ?_⟩; try simp only [go_sem, Nat.reduceAdd, Nat.reduceLeDiff, reduceCtorEq]))
    refine AP.drawE 44 (Tree.node [] [0, 1, 2, 3, 4, 5, 6, 7, 8, 9, 10, 11, 12, 13, 14, 15, 16, 17, 18, 19, 20, 21, 22, 23, 24, 25, 26, 27, 28, 29, 30, 31, 32, 33, 34, 35, 36, 37, 38, 39, 40] [41] [Tree.node [9, 39] [42] [43] [Tree.node [] [] [] []]]) (by kernel_rfl) rfl (by kernel_rfl) (by kernel_rfl) ?_
    refine vd_node ?_
    simp only [go_sem, Nat.reduceAdd, Nat.reduceLeDiff, reduceCtorEq, g1, g2, g3, g4, hw]
    repeat (with_reducible refine And.intro (by omega) ?_)
    refine AQ.go (by kernel_rfl) ?_
    simp only [go_sem, Nat.reduceAdd, Nat.reduceLeDiff, reduceCtorEq]
    repeat (with_reducible refine And.intro (by omega) ?_)
    refine AQ.nx rfl ?_
    simp only [go_sem, Nat.reduceAdd, Nat.reduceLeDiff, reduceCtorEq]
    repeat (with_reducible refine And.intro (by omega) ?_)
    refine AQ.go (by kernel_rfl) ?_
    simp only [go_sem, Nat.reduceAdd, Nat.reduceLeDiff, reduceCtorEq]
    repeat (with_reducible refine And.intro (by omega) ?_)
    refine AQ.nx rfl ?_
    simp only [go_sem, Nat.reduceAdd, Nat.reduceLeDiff, reduceCtorEq]
    repeat (first | refine xPP rfl ?_ | refine xPE rfl ?_ | refine xEP rfl ?_ | refine xEE rfl ?_ | refine AQ.done ?_ | refine AQ.skip (by kernel_rfl) rfl ?_ | refine AQ.s2b (by kernel_rfl) rfl rfl rfl rfl ?_ | refine AQ.mark (by kernel_rfl) rfl rfl rfl rfl rfl rfl rfl ?_ | refine AP.cond_true rfl rfl ?_ | refine AP.cond_false rfl rfl ?_ | (refine AP.region rfl (by kernel_rfl) ?_; simp only [go_sem, Nat.reduceAdd, Nat.reduceLeDiff, reduceCtorEq]) | (refine AP.drawQ rfl rfl (by kernel_rfl) ?_; simp only [go_sem, Nat.reduceAdd, Nat.reduceLeDiff, reduceCtorEq]) | (refine vq_id ?_; simp only [go_sem, Nat.reduceAdd, Nat.reduceLeDiff, reduceCtorEq]) | (refine ⟨by first | omega | (intros; simp_all; done) | (intros; simp_all; omega), ?_⟩; try simp only [go_sem, Nat.reduceAdd, Nat.reduceLeDiff, reduceCtorEq]))
    refine AE.ret rfl ⟨rfl, rfl, trivial⟩ ⟨?_, rfl⟩
    rw [intR_set1 a w u (by omega), intR_set1 b u _ (by omega), intR_set1 c u _ (by omega), min_if]
    simp only [List.length_set, List.length_append, List.length_cons, List.length_nil]
    rfl
end Go.Proofs.Ytfgffpkdjmeaoaa
end

section
namespace Go.Proofs.Ytfgffpkdjmeaoaa
open Go Go.AL Go.RowKit
set_option maxRecDepth 10000
set_option maxHeartbeats 4000000
def aw1 : Tr := Tr.put [98] 2 .nil
def aw2 : Tr := Tr.put [97] 1 aw1
theorem awake_spec : PFn Try.prog 10 [] (Bv true) := by
  have hu := union_ok (ids 4) (List.replicate 4 1) (ids 4) [] 3 1 0 0 3 1 3 1 (.here (by decide) (by decide)) (.here (by decide) (by decide)) (by decide) (.inr ⟨by decide, rfl, rfl⟩) (by decide) (by decide) (by decide) (by decide) (fun i => by
    rcases Nat.lt_or_ge i 4 with h | h
    · have : i = 0 ∨ i = 1 ∨ i = 2 ∨ i = 3 := by omega
      rcases this with rfl | rfl | rfl | rfl <;> decide
    · rw [List.getD_eq_getElem?_getD, List.getElem?_eq_none (by simpa using h)]; decide)
  have hf := setsFind_spec ((ids 4).set 1 (3 : Nat)) ((List.replicate 4 1).set 3 ((List.replicate 4 1).getD 3 0 + (List.replicate 4 1).getD 1 0)) ((ids 4).set 3 (min ((ids 4).getD 3 0) ((ids 4).getD 1 0))) [logRow (List.replicate 4 1) (ids 4) 3 1] 0 3 3 (.here (by decide) (by decide)) (by decide) (by decide)
  have hc := count_spec' ((ids 4).set 1 (3 : Nat)) ((List.replicate 4 1).set 3 ((List.replicate 4 1).getD 3 0 + (List.replicate 4 1).getD 1 0)) ((ids 4).set 3 (min ((ids 4).getD 3 0) ((ids 4).getD 1 0))) [logRow (List.replicate 4 1) (ids 4) 3 1] (by decide) (by decide)
  refine ACall.walk [0, 1, 2, 3, 4, 5, 6, 7, 9, 25] [1] Try.func10 rfl Try.ntmps10 (by kernel_rfl) (by rfl) rfl fun W own I0 φ0 => ?_
  repeat (first | refine xPP rfl ?_ | refine xPE rfl ?_ | refine xEP rfl ?_ | refine xEE rfl ?_ | refine AQ.done ?_ | refine AQ.skip (by kernel_rfl) rfl ?_ | refine AQ.s2b (by kernel_rfl) rfl rfl rfl rfl ?_ | refine AQ.mark (by kernel_rfl) rfl rfl rfl rfl rfl rfl rfl ?_ | refine AP.cond_true rfl rfl ?_ | refine AP.cond_false rfl rfl ?_ | (refine AP.region rfl (by kernel_rfl) ?_; simp only [go_sem, Nat.reduceAdd, Nat.reduceLeDiff, reduceCtorEq]) | (refine AP.drawQ rfl rfl (by kernel_rfl) ?_; simp only [go_sem, Nat.reduceAdd, Nat.reduceLeDiff, reduceCtorEq]) | (refine vq_id ?_; simp only [go_sem, Nat.reduceAdd, Nat.reduceLeDiff, reduceCtorEq]) | (refine ⟨by first | omega | (intros; simp_all; done) | (intros; simp_all; omega), ?_⟩; try simp only [go_sem, Nat.reduceAdd, Nat.reduceLeDiff, reduceCtorEq]))
  refine AQ.fn (by kernel_rfl) rfl rfl rfl (Put_spec .nil [98] 2 (by decide)) rfl ?_
  repeat (first | refine xPP rfl ?_ | refine xPE rfl ?_ | refine xEP rfl ?_ | refine xEE rfl ?_ | refine AQ.done ?_ | refine AQ.skip (by kernel_rfl) rfl ?_ | refine AQ.s2b (by kernel_rfl) rfl rfl rfl rfl ?_ | refine AQ.mark (by kernel_rfl) rfl rfl rfl rfl rfl rfl rfl ?_ | refine AP.cond_true rfl rfl ?_ | refine AP.cond_false rfl rfl ?_ | (refine AP.region rfl (by kernel_rfl) ?_; simp only [go_sem, Nat.reduceAdd, Nat.reduceLeDiff, reduceCtorEq]) | (refine AP.drawQ rfl rfl (by kernel_rfl) ?_; simp only [go_sem, Nat.reduceAdd, Nat.reduceLeDiff, reduceCtorEq]) | (refine vq_id ?_; simp only [go_sem, Nat.reduceAdd, Nat.reduceLeDiff, reduceCtorEq]) | (refine ⟨by first | omega | (intros; simp_all; done) | (intros; simp_all; omega), ?_⟩; try simp only [go_sem, Nat.reduceAdd, Nat.reduceLeDiff, reduceCtorEq]))
  refine AQ.fn (by kernel_rfl) rfl rfl rfl (Put_spec aw1 [97] 1 (by decide)) rfl ?_
  repeat (first | refine xPP rfl ?_ | refine xPE rfl ?_ | refine xEP rfl ?_ | refine xEE rfl ?_ | refine AQ.done ?_ | refine AQ.skip (by kernel_rfl) rfl ?_ | refine AQ.s2b (by kernel_rfl) rfl rfl rfl rfl ?_ | refine AQ.mark (by kernel_rfl) rfl rfl rfl rfl rfl rfl rfl ?_ | refine AP.cond_true rfl rfl ?_ | refine AP.cond_false rfl rfl ?_ | (refine AP.region rfl (by kernel_rfl) ?_; simp only [go_sem, Nat.reduceAdd, Nat.reduceLeDiff, reduceCtorEq]) | (refine AP.drawQ rfl rfl (by kernel_rfl) ?_; simp only [go_sem, Nat.reduceAdd, Nat.reduceLeDiff, reduceCtorEq]) | (refine vq_id ?_; simp only [go_sem, Nat.reduceAdd, Nat.reduceLeDiff, reduceCtorEq]) | (refine ⟨by first | omega | (intros; simp_all; done) | (intros; simp_all; omega), ?_⟩; try simp only [go_sem, Nat.reduceAdd, Nat.reduceLeDiff, reduceCtorEq]))
  refine AQ.fn (by kernel_rfl) rfl rfl rfl (At_in aw2 0 (by decide) (by decide)) rfl ?_
  repeat (first | refine xPP rfl ?_ | refine xPE rfl ?_ | refine xEP rfl ?_ | refine xEE rfl ?_ | refine AQ.done ?_ | refine AQ.skip (by kernel_rfl) rfl ?_ | refine AQ.s2b (by kernel_rfl) rfl rfl rfl rfl ?_ | refine AQ.mark (by kernel_rfl) rfl rfl rfl rfl rfl rfl rfl ?_ | refine AP.cond_true rfl rfl ?_ | refine AP.cond_false rfl rfl ?_ | (refine AP.region rfl (by kernel_rfl) ?_; simp only [go_sem, Nat.reduceAdd, Nat.reduceLeDiff, reduceCtorEq]) | (refine AP.drawQ rfl rfl (by kernel_rfl) ?_; simp only [go_sem, Nat.reduceAdd, Nat.reduceLeDiff, reduceCtorEq]) | (refine vq_id ?_; simp only [go_sem, Nat.reduceAdd, Nat.reduceLeDiff, reduceCtorEq]) | (refine ⟨by first | omega | (intros; simp_all; done) | (intros; simp_all; omega), ?_⟩; try simp only [go_sem, Nat.reduceAdd, Nat.reduceLeDiff, reduceCtorEq]))
  refine AQ.callv (by kernel_rfl) rfl rfl rfl (newSets_spec 4 (by omega)) fun r' H' ⟨e1, e2⟩ => ?_
  subst e1; subst e2
  simp only [go_sem, Nat.reduceAdd, Nat.reduceLeDiff, reduceCtorEq, setsH]
  repeat (first | refine xPP rfl ?_ | refine xPE rfl ?_ | refine xEP rfl ?_ | refine xEE rfl ?_ | refine AQ.done ?_ | refine AQ.skip (by kernel_rfl) rfl ?_ | refine AQ.s2b (by kernel_rfl) rfl rfl rfl rfl ?_ | refine AQ.mark (by kernel_rfl) rfl rfl rfl rfl rfl rfl rfl ?_ | refine AP.cond_true rfl rfl ?_ | refine AP.cond_false rfl rfl ?_ | (refine AP.region rfl (by kernel_rfl) ?_; simp only [go_sem, Nat.reduceAdd, Nat.reduceLeDiff, reduceCtorEq]) | (refine AP.drawQ rfl rfl (by kernel_rfl) ?_; simp only [go_sem, Nat.reduceAdd, Nat.reduceLeDiff, reduceCtorEq]) | (refine vq_id ?_; simp only [go_sem, Nat.reduceAdd, Nat.reduceLeDiff, reduceCtorEq]) | (refine ⟨by first | omega | (intros; simp_all; done) | (intros; simp_all; omega), ?_⟩; try simp only [go_sem, Nat.reduceAdd, Nat.reduceLeDiff, reduceCtorEq]))
  refine AQ.callH [(4, 5), (3, 4), (2, 3), (1, 2), (0, 1)] (by kernel_rfl) rfl rfl rfl rfl rfl rfl (by exact ⟨rfl, rfl, rfl, rfl, rfl, trivial⟩) rfl hu ?_
  rintro r' H' ⟨e1, e2⟩
  subst e1; subst e2
  refine ⟨rfl, ?_⟩
  simp only [go_sem, Nat.reduceAdd, Nat.reduceLeDiff, reduceCtorEq, setsHi]
  repeat (first | refine xPP rfl ?_ | refine xPE rfl ?_ | refine xEP rfl ?_ | refine xEE rfl ?_ | refine AQ.done ?_ | refine AQ.skip (by kernel_rfl) rfl ?_ | refine AQ.s2b (by kernel_rfl) rfl rfl rfl rfl ?_ | refine AQ.mark (by kernel_rfl) rfl rfl rfl rfl rfl rfl rfl ?_ | refine AP.cond_true rfl rfl ?_ | refine AP.cond_false rfl rfl ?_ | (refine AP.region rfl (by kernel_rfl) ?_; simp only [go_sem, Nat.reduceAdd, Nat.reduceLeDiff, reduceCtorEq]) | (refine AP.drawQ rfl rfl (by kernel_rfl) ?_; simp only [go_sem, Nat.reduceAdd, Nat.reduceLeDiff, reduceCtorEq]) | (refine vq_id ?_; simp only [go_sem, Nat.reduceAdd, Nat.reduceLeDiff, reduceCtorEq]) | (refine ⟨by first | omega | (intros; simp_all; done) | (intros; simp_all; omega), ?_⟩; try simp only [go_sem, Nat.reduceAdd, Nat.reduceLeDiff, reduceCtorEq]))
  refine AQ.rename 11 5 rfl rfl rfl ?_
  simp only [go_sem, Nat.reduceAdd, Nat.reduceLeDiff, reduceCtorEq]
  refine AQ.callH [(4, 5), (3, 4), (2, 3), (1, 2), (0, 1)] (by kernel_rfl) rfl rfl rfl rfl rfl rfl (by exact ⟨rfl, rfl, rfl, rfl, rfl, trivial⟩) rfl hf ?_
  rintro r' H' ⟨e1, e2⟩
  subst e1; subst e2
  refine ⟨rfl, ?_⟩
  simp only [go_sem, Nat.reduceAdd, Nat.reduceLeDiff, reduceCtorEq, setsH]
  repeat (first | refine xPP rfl ?_ | refine xPE rfl ?_ | refine xEP rfl ?_ | refine xEE rfl ?_ | refine AQ.done ?_ | refine AQ.skip (by kernel_rfl) rfl ?_ | refine AQ.s2b (by kernel_rfl) rfl rfl rfl rfl ?_ | refine AQ.mark (by kernel_rfl) rfl rfl rfl rfl rfl rfl rfl ?_ | refine AP.cond_true rfl rfl ?_ | refine AP.cond_false rfl rfl ?_ | (refine AP.region rfl (by kernel_rfl) ?_; simp only [go_sem, Nat.reduceAdd, Nat.reduceLeDiff, reduceCtorEq]) | (refine AP.drawQ rfl rfl (by kernel_rfl) ?_; simp only [go_sem, Nat.reduceAdd, Nat.reduceLeDiff, reduceCtorEq]) | (refine vq_id ?_; simp only [go_sem, Nat.reduceAdd, Nat.reduceLeDiff, reduceCtorEq]) | (refine ⟨by first | omega | (intros; simp_all; done) | (intros; simp_all; omega), ?_⟩; try simp only [go_sem, Nat.reduceAdd, Nat.reduceLeDiff, reduceCtorEq]))
  refine AQ.guard_yes rfl ?_
  refine AQ.fn (by kernel_rfl) rfl rfl rfl (Rank_spec aw2 [98] (by decide)) rfl ?_
  repeat (first | refine xPP rfl ?_ | refine xPE rfl ?_ | refine xEP rfl ?_ | refine xEE rfl ?_ | refine AQ.done ?_ | refine AQ.skip (by kernel_rfl) rfl ?_ | refine AQ.s2b (by kernel_rfl) rfl rfl rfl rfl ?_ | refine AQ.mark (by kernel_rfl) rfl rfl rfl rfl rfl rfl rfl ?_ | refine AP.cond_true rfl rfl ?_ | refine AP.cond_false rfl rfl ?_ | (refine AP.region rfl (by kernel_rfl) ?_; simp only [go_sem, Nat.reduceAdd, Nat.reduceLeDiff, reduceCtorEq]) | (refine AP.drawQ rfl rfl (by kernel_rfl) ?_; simp only [go_sem, Nat.reduceAdd, Nat.reduceLeDiff, reduceCtorEq]) | (refine vq_id ?_; simp only [go_sem, Nat.reduceAdd, Nat.reduceLeDiff, reduceCtorEq]) | (refine ⟨by first | omega | (intros; simp_all; done) | (intros; simp_all; omega), ?_⟩; try simp only [go_sem, Nat.reduceAdd, Nat.reduceLeDiff, reduceCtorEq]))
  refine AQ.guard_yes rfl ?_
  refine AQ.callH [(4, 5), (3, 4), (2, 3), (1, 2), (0, 1)] (by kernel_rfl) rfl rfl rfl rfl rfl rfl (by exact ⟨rfl, rfl, rfl, rfl, rfl, trivial⟩) rfl hc ?_
  rintro r' H' ⟨e1, e2⟩
  subst e1; subst e2
  refine ⟨rfl, ?_⟩
  simp only [go_sem, Nat.reduceAdd, Nat.reduceLeDiff, reduceCtorEq, setsH]
  repeat (first | refine xPP rfl ?_ | refine xPE rfl ?_ | refine xEP rfl ?_ | refine xEE rfl ?_ | refine AQ.done ?_ | refine AQ.skip (by kernel_rfl) rfl ?_ | refine AQ.s2b (by kernel_rfl) rfl rfl rfl rfl ?_ | refine AQ.mark (by kernel_rfl) rfl rfl rfl rfl rfl rfl rfl ?_ | refine AP.cond_true rfl rfl ?_ | refine AP.cond_false rfl rfl ?_ | (refine AP.region rfl (by kernel_rfl) ?_; simp only [go_sem, Nat.reduceAdd, Nat.reduceLeDiff, reduceCtorEq]) | (refine AP.drawQ rfl rfl (by kernel_rfl) ?_; simp only [go_sem, Nat.reduceAdd, Nat.reduceLeDiff, reduceCtorEq]) | (refine vq_id ?_; simp only [go_sem, Nat.reduceAdd, Nat.reduceLeDiff, reduceCtorEq]) | (refine ⟨by first | omega | (intros; simp_all; done) | (intros; simp_all; omega), ?_⟩; try simp only [go_sem, Nat.reduceAdd, Nat.reduceLeDiff, reduceCtorEq]))
  exact AE.ret0 rfl ⟨rfl, trivial⟩ rfl ⟨rfl, rfl⟩
end Go.Proofs.Ytfgffpkdjmeaoaa
end

section
namespace Go.Proofs.Ytfgffpkdjmeaoaa
open Go Go.AL Go.RowKit
set_option maxRecDepth 10000
set_option maxHeartbeats 4000000
/-- a history: its versions, the number of the current one; the list's row has the id i -/
def hisH (i : Nat) (vs : List Int) (k : Nat) : Heap := [(i, .vec 3 1 (intR vs)), (0, .var 113 [.os i 1 0 vs.length, Iv k])]
theorem intR_one (l : List Int) (v : Int) : intR l ++ [[IV.v (Value.int .i64 v)]] = intR (l ++ [v]) := by simp [intR]
abbrev nilP : AV := .im (.v (.pointer none))
theorem cut_spec (vs : List Int) (k n : Nat) (hn : n ≤ vs.length) (hl : vs.length ≤ 1000000) : ACall Try.prog 58 [.ob 0 0, Iv n] (hisH 1 vs k) (fun _ H' => H' = [(1, .vec 3 1 (intR (vs.take n))), (0, .var 113 [.os 1 1 0 n, Iv k])]) := by
  refine ACall.walk [0, 1] [] Try.func58 rfl Try.ntmps58 (by kernel_rfl) (by rfl) rfl fun W own I0 φ0 => ?_
  simp only [go_sem, Nat.reduceAdd, Nat.reduceLeDiff, reduceCtorEq, hisH]
  repeat (first | refine xPP rfl ?_ | refine xPE rfl ?_ | refine xEP rfl ?_ | refine xEE rfl ?_ | refine AQ.done ?_ | refine AQ.skip (by kernel_rfl) rfl ?_ | refine AQ.s2b (by kernel_rfl) rfl rfl rfl rfl ?_ | refine AQ.mark (by kernel_rfl) rfl rfl rfl rfl rfl rfl rfl ?_ | refine AP.cond_true rfl rfl ?_ | refine AP.cond_false rfl rfl ?_ | (refine AP.region rfl (by kernel_rfl) ?_; simp only [go_sem, Nat.reduceAdd, Nat.reduceLeDiff, reduceCtorEq, Int.toNat_natCast]) | (refine AP.drawQ rfl rfl (by kernel_rfl) ?_; simp only [go_sem, Nat.reduceAdd, Nat.reduceLeDiff, reduceCtorEq, Int.toNat_natCast]) | (refine vq_id ?_; simp only [go_sem, Nat.reduceAdd, Nat.reduceLeDiff, reduceCtorEq, Int.toNat_natCast]) | (refine ⟨by first | omega | (intros; simp_all; done) | (intros; simp_all; omega), ?_⟩; try simp only [go_sem, Nat.reduceAdd, Nat.reduceLeDiff, reduceCtorEq, Int.toNat_natCast]))
  refine AE.trunc 1 n rfl ?_
  simp only [go_sem, Nat.reduceAdd, Nat.reduceLeDiff, reduceCtorEq, intR_take]
  exact AE.fallD [] rfl trivial rfl rfl
theorem commit_nil (v : Int) : PFn Try.prog 16 [nilP, Iv v] (Iv 1) := by
  refine ACall.walk [0, 1, 4, 5, 8] [] Try.func16 rfl Try.ntmps16 (by kernel_rfl) (by rfl) rfl fun W own I0 φ0 => ?_
  repeat (first | refine xPP rfl ?_ | refine xPE rfl ?_ | refine xEP rfl ?_ | refine xEE rfl ?_ | refine AQ.done ?_ | refine AQ.skip (by kernel_rfl) rfl ?_ | refine AQ.s2b (by kernel_rfl) rfl rfl rfl rfl ?_ | refine AQ.mark (by kernel_rfl) rfl rfl rfl rfl rfl rfl rfl ?_ | refine AP.cond_true rfl rfl ?_ | refine AP.cond_false rfl rfl ?_ | (refine AP.region rfl (by kernel_rfl) ?_; simp only [go_sem, Nat.reduceAdd, Nat.reduceLeDiff, reduceCtorEq]) | (refine AP.drawQ rfl rfl (by kernel_rfl) ?_; simp only [go_sem, Nat.reduceAdd, Nat.reduceLeDiff, reduceCtorEq]) | (refine vq_id ?_; simp only [go_sem, Nat.reduceAdd, Nat.reduceLeDiff, reduceCtorEq]) | (refine ⟨by first | omega | (intros; simp_all; done) | (intros; simp_all; omega), ?_⟩; try simp only [go_sem, Nat.reduceAdd, Nat.reduceLeDiff, reduceCtorEq]))
  exact AE.ret rfl ⟨rfl, trivial⟩ ⟨rfl, rfl⟩
theorem commit_full (vs : List Int) (k : Nat) (v : Int) (hk : 999 ≤ k) : ACall Try.prog 16 [.ob 0 0, Iv v] (hisH 1 vs k) (fun r' H' => H' = hisH 1 vs k ∧ r' = Iv 8) := by
  refine ACall.walk [0, 1, 4, 5, 8] [] Try.func16 rfl Try.ntmps16 (by kernel_rfl) (by rfl) rfl fun W own I0 φ0 => ?_
  simp only [go_sem, Nat.reduceAdd, Nat.reduceLeDiff, reduceCtorEq, hisH]
  repeat (first | refine xPP rfl ?_ | refine xPE rfl ?_ | refine xEP rfl ?_ | refine xEE rfl ?_ | refine AQ.done ?_ | refine AQ.skip (by kernel_rfl) rfl ?_ | refine AQ.s2b (by kernel_rfl) rfl rfl rfl rfl ?_ | refine AQ.mark (by kernel_rfl) rfl rfl rfl rfl rfl rfl rfl ?_ | refine AP.cond_true rfl rfl ?_ | refine AP.cond_false rfl rfl ?_ | (refine AP.region rfl (by kernel_rfl) ?_; simp only [go_sem, Nat.reduceAdd, Nat.reduceLeDiff, reduceCtorEq]) | (refine AP.drawQ rfl rfl (by kernel_rfl) ?_; simp only [go_sem, Nat.reduceAdd, Nat.reduceLeDiff, reduceCtorEq]) | (refine vq_id ?_; simp only [go_sem, Nat.reduceAdd, Nat.reduceLeDiff, reduceCtorEq]) | (refine ⟨by first | omega | (intros; simp_all; done) | (intros; simp_all; omega), ?_⟩; try simp only [go_sem, Nat.reduceAdd, Nat.reduceLeDiff, reduceCtorEq]))
  refine AP.cond_true rfl (by simp only [go_sem, Nat.reduceAdd, Nat.reduceLeDiff, reduceCtorEq]; refine congrArg (fun b => some (AV.im (IV.v (Value.bool b)))) ?_; (first | (simp only [Bool.or_eq_true, Bool.and_eq_true, Bool.not_eq_true', Bool.not_eq_false', Bool.and_eq_false_iff, Bool.or_eq_false_iff, decide_eq_true_eq, decide_eq_false_iff_not, beq_iff_eq, bne_iff_ne, beq_eq_false_iff_ne, bne_eq_false_iff_eq, ne_eq]; omega) | (simp; done) | (simp; omega) | (simp_all; done) | (simp_all; omega))) ?_
  repeat (first | refine xPP rfl ?_ | refine xPE rfl ?_ | refine xEP rfl ?_ | refine xEE rfl ?_ | refine AQ.done ?_ | refine AQ.skip (by kernel_rfl) rfl ?_ | refine AQ.s2b (by kernel_rfl) rfl rfl rfl rfl ?_ | refine AQ.mark (by kernel_rfl) rfl rfl rfl rfl rfl rfl rfl ?_ | refine AP.cond_true rfl rfl ?_ | refine AP.cond_false rfl rfl ?_ | (refine AP.region rfl (by kernel_rfl) ?_; simp only [go_sem, Nat.reduceAdd, Nat.reduceLeDiff, reduceCtorEq]) | (refine AP.drawQ rfl rfl (by kernel_rfl) ?_; simp only [go_sem, Nat.reduceAdd, Nat.reduceLeDiff, reduceCtorEq]) | (refine vq_id ?_; simp only [go_sem, Nat.reduceAdd, Nat.reduceLeDiff, reduceCtorEq]) | (refine ⟨by first | omega | (intros; simp_all; done) | (intros; simp_all; omega), ?_⟩; try simp only [go_sem, Nat.reduceAdd, Nat.reduceLeDiff, reduceCtorEq]))
  exact AE.ret rfl ⟨rfl, trivial⟩ ⟨rfl, rfl⟩
theorem commit_spec (vs : List Int) (k : Nat) (v : Int) (hk : k < 999) (hkl : k < vs.length) (hl : vs.length ≤ 1000000) :
    ACall Try.prog 16 [.ob 0 0, Iv v] (hisH 1 vs k) (fun r' H' => H' = hisH 2 (vs.take (k + 1) ++ [v]) (k + 1) ∧ r' = Iv 0) := by
  have hc := cut_spec vs k (k + 1) (by omega) hl
  have hw := wr (x := (k : Int) + 1) (by omega)
  have hm : (if (vs.length : Int) < (k : Int) + 1 then (vs.length : Int) else (k : Int) + 1) = ((k + 1 : Nat) : Int) := by split <;> omega
  have hlt : (vs.take (k + 1)).length = k + 1 := List.length_take_of_le (by omega)
  have hw2 : IntKind.i64.wrap (((k + 1 + 1 : Nat) : Int) - 1) = ((k + 1 : Nat) : Int) := by rw [wr (by omega)]; omega
  refine ACall.walk [0, 1, 4, 5, 8] [] Try.func16 rfl Try.ntmps16 (by kernel_rfl) (by rfl) rfl fun W own I0 φ0 => ?_
  simp only [go_sem, Nat.reduceAdd, Nat.reduceLeDiff, reduceCtorEq, hisH] at *
  repeat (first | refine xPP rfl ?_ | refine xPE rfl ?_ | refine xEP rfl ?_ | refine xEE rfl ?_ | refine AQ.done ?_ | refine AQ.skip (by kernel_rfl) rfl ?_ | refine AQ.s2b (by kernel_rfl) rfl rfl rfl rfl ?_ | refine AQ.mark (by kernel_rfl) rfl rfl rfl rfl rfl rfl rfl ?_ | refine AP.cond_true rfl rfl ?_ | refine AP.cond_false rfl rfl ?_ | (refine AP.region rfl (by kernel_rfl) ?_; simp only [go_sem, Nat.reduceAdd, Nat.reduceLeDiff, reduceCtorEq]) | (refine AP.drawQ rfl rfl (by kernel_rfl) ?_; simp only [go_sem, Nat.reduceAdd, Nat.reduceLeDiff, reduceCtorEq]) | (refine vq_id ?_; simp only [go_sem, Nat.reduceAdd, Nat.reduceLeDiff, reduceCtorEq]) | (refine ⟨by first | omega | (intros; simp_all; done) | (intros; simp_all; omega), ?_⟩; try simp only [go_sem, Nat.reduceAdd, Nat.reduceLeDiff, reduceCtorEq]))
  refine AP.cond_false rfl (by simp only [go_sem, Nat.reduceAdd, Nat.reduceLeDiff, reduceCtorEq]; refine congrArg (fun b => some (AV.im (IV.v (Value.bool b)))) ?_; (first | (simp only [Bool.or_eq_true, Bool.and_eq_true, Bool.not_eq_true', Bool.not_eq_false', Bool.and_eq_false_iff, Bool.or_eq_false_iff, decide_eq_true_eq, decide_eq_false_iff_not, beq_iff_eq, bne_iff_ne, beq_eq_false_iff_ne, bne_eq_false_iff_eq, ne_eq]; omega) | (simp; done) | (simp; omega) | (simp_all; done) | (simp_all; omega))) ?_
  repeat (first | refine xPP rfl ?_ | refine xPE rfl ?_ | refine xEP rfl ?_ | refine xEE rfl ?_ | refine AQ.done ?_ | refine AQ.skip (by kernel_rfl) rfl ?_ | refine AQ.s2b (by kernel_rfl) rfl rfl rfl rfl ?_ | refine AQ.mark (by kernel_rfl) rfl rfl rfl rfl rfl rfl rfl ?_ | refine AP.cond_true rfl rfl ?_ | refine AP.cond_false rfl rfl ?_ | (refine AP.region rfl (by kernel_rfl) ?_; simp only [go_sem, Nat.reduceAdd, Nat.reduceLeDiff, reduceCtorEq]) | (refine AP.drawQ rfl rfl (by kernel_rfl) ?_; simp only [go_sem, Nat.reduceAdd, Nat.reduceLeDiff, reduceCtorEq]) | (refine vq_id ?_; simp only [go_sem, Nat.reduceAdd, Nat.reduceLeDiff, reduceCtorEq]) | (refine ⟨by first | omega | (intros; simp_all; done) | (intros; simp_all; omega), ?_⟩; try simp only [go_sem, Nat.reduceAdd, Nat.reduceLeDiff, reduceCtorEq]))
  refine AP.drawE 16 (Tree.node [] [0, 1, 2, 3, 4, 5, 6, 7, 8, 9, 10, 11, 12, 13, 14] [15] [Tree.node [] [] [] []]) (by kernel_rfl) rfl (by kernel_rfl) (by kernel_rfl) ?_
  refine vd_node ?_
  simp only [go_sem, Nat.reduceAdd, Nat.reduceLeDiff, reduceCtorEq, hw, hm]
  repeat' (first | with_reducible exact True.intro | with_reducible refine And.intro (by omega) ?_ | with_reducible refine And.intro ?_ ?_ | (refine AQ.nx rfl ?_; simp only [go_sem, Nat.reduceAdd, Nat.reduceLeDiff, reduceCtorEq, hw, hm]) | (refine AQ.callH [(1, 1), (0, 0)] (by kernel_rfl) rfl rfl rfl rfl rfl rfl (by exact ⟨rfl, rfl, trivial⟩) rfl hc ?_; rintro r' H' e1; subst e1; refine ⟨rfl, ?_⟩; simp only [go_sem, Nat.reduceAdd, Nat.reduceLeDiff, reduceCtorEq]) | refine AQ.done ?_ | (refine AQ.go (by kernel_rfl) ?_; simp only [go_sem, Nat.reduceAdd, Nat.reduceLeDiff, reduceCtorEq, hw, hm]; repeat (with_reducible refine And.intro (by omega) ?_); refine AQ.nx rfl ?_; simp only [go_sem, Nat.reduceAdd, Nat.reduceLeDiff, reduceCtorEq, hw, hm]))
  repeat (first | refine xPP rfl ?_ | refine xPE rfl ?_ | refine xEP rfl ?_ | refine xEE rfl ?_ | refine AQ.done ?_ | refine AQ.skip (by kernel_rfl) rfl ?_ | refine AQ.s2b (by kernel_rfl) rfl rfl rfl rfl ?_ | refine AQ.mark (by kernel_rfl) rfl rfl rfl rfl rfl rfl rfl ?_ | refine AP.cond_true rfl rfl ?_ | refine AP.cond_false rfl rfl ?_ | (refine AP.region rfl (by kernel_rfl) ?_; simp only [go_sem, Nat.reduceAdd, Nat.reduceLeDiff, reduceCtorEq]) | (refine AP.drawQ rfl rfl (by kernel_rfl) ?_; simp only [go_sem, Nat.reduceAdd, Nat.reduceLeDiff, reduceCtorEq]) | (refine vq_id ?_; simp only [go_sem, Nat.reduceAdd, Nat.reduceLeDiff, reduceCtorEq]) | (refine ⟨by first | omega | (intros; simp_all; done) | (intros; simp_all; omega), ?_⟩; try simp only [go_sem, Nat.reduceAdd, Nat.reduceLeDiff, reduceCtorEq]))
  refine AQ.rename 1 2 rfl rfl rfl ?_; simp only [go_sem, Nat.reduceAdd, Nat.reduceLeDiff, reduceCtorEq]
  refine AQ.kill 2 ?_; simp only [go_sem, Nat.reduceAdd, Nat.reduceLeDiff, reduceCtorEq]
  refine AQ.append (hnb := rfl) (rows := intR (vs.take (k + 1))) (es := 0) (by kernel_rfl) rfl rfl rfl (by rfl) Try.tk22 Try.sz3 (by show Option.map _ (zro Try.prog 3) = _; rw [Try.zr3]; rfl) Try.by3 (by first | rfl | (simp only [intR_len, hlt, List.length_cons, List.length_nil]; done) | (simp only [intR_len, hlt, List.length_cons, List.length_nil]; omega)) (by simp only [intR_len, hlt, List.length_cons, List.length_nil]; omega) (by simp only [intR_len, hlt, List.length_cons, List.length_nil]; omega) ?_
  simp only [go_sem, Nat.reduceAdd, Nat.reduceLeDiff, reduceCtorEq, intR_len, hlt, intR_one]
  repeat (first | refine xPP rfl ?_ | refine xPE rfl ?_ | refine xEP rfl ?_ | refine xEE rfl ?_ | refine AQ.done ?_ | refine AQ.skip (by kernel_rfl) rfl ?_ | refine AQ.s2b (by kernel_rfl) rfl rfl rfl rfl ?_ | refine AQ.mark (by kernel_rfl) rfl rfl rfl rfl rfl rfl rfl ?_ | refine AP.cond_true rfl rfl ?_ | refine AP.cond_false rfl rfl ?_ | (refine AP.region rfl (by kernel_rfl) ?_; simp only [go_sem, Nat.reduceAdd, Nat.reduceLeDiff, reduceCtorEq, hw2]) | (refine AP.drawQ rfl rfl (by kernel_rfl) ?_; simp only [go_sem, Nat.reduceAdd, Nat.reduceLeDiff, reduceCtorEq, hw2]) | (refine vq_id ?_; simp only [go_sem, Nat.reduceAdd, Nat.reduceLeDiff, reduceCtorEq, hw2]) | (refine ⟨by first | omega | (intros; simp_all; done) | (intros; simp_all; omega), ?_⟩; try simp only [go_sem, Nat.reduceAdd, Nat.reduceLeDiff, reduceCtorEq, hw2]))
  refine AE.ret rfl ⟨rfl, trivial⟩ ⟨?_, rfl⟩
  simp only [List.length_append, hlt, List.length_cons, List.length_nil]
/-- a move to the version before or behind -/
theorem move_nil (d : Int) : PFn Try.prog 59 [nilP, Iv d] (Iv 1) := by
  refine ACall.walk [0, 1, 4, 5, 8] [] Try.func59 rfl Try.ntmps59 (by kernel_rfl) (by rfl) rfl fun W own I0 φ0 => ?_
  repeat (first | refine xPP rfl ?_ | refine xPE rfl ?_ | refine xEP rfl ?_ | refine xEE rfl ?_ | refine AQ.done ?_ | refine AQ.skip (by kernel_rfl) rfl ?_ | refine AQ.s2b (by kernel_rfl) rfl rfl rfl rfl ?_ | refine AQ.mark (by kernel_rfl) rfl rfl rfl rfl rfl rfl rfl ?_ | refine AP.cond_true rfl rfl ?_ | refine AP.cond_false rfl rfl ?_ | (refine AP.region rfl (by kernel_rfl) ?_; simp only [go_sem, Nat.reduceAdd, Nat.reduceLeDiff, reduceCtorEq]) | (refine AP.drawQ rfl rfl (by kernel_rfl) ?_; simp only [go_sem, Nat.reduceAdd, Nat.reduceLeDiff, reduceCtorEq]) | (refine vq_id ?_; simp only [go_sem, Nat.reduceAdd, Nat.reduceLeDiff, reduceCtorEq]) | (refine ⟨by first | omega | (intros; simp_all; done) | (intros; simp_all; omega), ?_⟩; try simp only [go_sem, Nat.reduceAdd, Nat.reduceLeDiff, reduceCtorEq]))
  exact AE.ret rfl ⟨rfl, trivial⟩ ⟨rfl, rfl⟩
theorem move_spec (vs : List Int) (k j : Nat) (d : Int) (hj : (k : Int) + d = j) (hkl : k < vs.length) (hj2 : j < vs.length) (hl : vs.length ≤ 1000000) :
    ACall Try.prog 59 [.ob 0 0, Iv d] (hisH 1 vs k) (fun r' H' => H' = hisH 1 vs j ∧ r' = Iv 0) := by
  have hw := wr (x := (k : Int) + d) (by omega)
  rw [hj] at hw
  have c1 : decide ((j : Int) < 0) = false := decide_eq_false (by omega)
  have c2 : decide ((vs.length : Int) ≤ (j : Int)) = false := decide_eq_false (by omega)
  refine ACall.walk [0, 1, 4, 5, 8] [] Try.func59 rfl Try.ntmps59 (by kernel_rfl) (by rfl) rfl fun W own I0 φ0 => ?_
  simp only [go_sem, Nat.reduceAdd, Nat.reduceLeDiff, reduceCtorEq, hisH]
  repeat (first | refine xPP rfl ?_ | refine xPE rfl ?_ | refine xEP rfl ?_ | refine xEE rfl ?_ | refine AQ.done ?_ | refine AQ.skip (by kernel_rfl) rfl ?_ | refine AQ.s2b (by kernel_rfl) rfl rfl rfl rfl ?_ | refine AQ.mark (by kernel_rfl) rfl rfl rfl rfl rfl rfl rfl ?_ | refine AP.cond_true rfl rfl ?_ | refine AP.cond_false rfl rfl ?_ | (refine AP.region rfl (by kernel_rfl) ?_; simp only [go_sem, Nat.reduceAdd, Nat.reduceLeDiff, reduceCtorEq, hj, hw, c1, c2]) | (refine AP.drawQ rfl rfl (by kernel_rfl) ?_; simp only [go_sem, Nat.reduceAdd, Nat.reduceLeDiff, reduceCtorEq, hj, hw, c1, c2]) | (refine vq_id ?_; simp only [go_sem, Nat.reduceAdd, Nat.reduceLeDiff, reduceCtorEq, hj, hw, c1, c2]) | (refine ⟨by first | omega | (intros; simp_all; done) | (intros; simp_all; omega), ?_⟩; try simp only [go_sem, Nat.reduceAdd, Nat.reduceLeDiff, reduceCtorEq, hj, hw, c1, c2]))
  exact AE.ret rfl ⟨rfl, trivial⟩ ⟨rfl, rfl⟩
theorem move_none (vs : List Int) (k : Nat) (d : Int) (hj : (k : Int) + d < 0 ∨ (vs.length : Int) ≤ (k : Int) + d) (hkl : k < vs.length) (hd : -1 ≤ d ∧ d ≤ 1) (hl : vs.length ≤ 1000000) :
    ACall Try.prog 59 [.ob 0 0, Iv d] (hisH 1 vs k) (fun r' H' => H' = hisH 1 vs k ∧ r' = Iv 5) := by
  have hw := wr (x := (k : Int) + d) (by omega)
  refine ACall.walk [0, 1, 4, 5, 8] [] Try.func59 rfl Try.ntmps59 (by kernel_rfl) (by rfl) rfl fun W own I0 φ0 => ?_
  simp only [go_sem, Nat.reduceAdd, Nat.reduceLeDiff, reduceCtorEq, hisH]
  repeat (first | refine xPP rfl ?_ | refine xPE rfl ?_ | refine xEP rfl ?_ | refine xEE rfl ?_ | refine AQ.done ?_ | refine AQ.skip (by kernel_rfl) rfl ?_ | refine AQ.s2b (by kernel_rfl) rfl rfl rfl rfl ?_ | refine AQ.mark (by kernel_rfl) rfl rfl rfl rfl rfl rfl rfl ?_ | refine AP.cond_true rfl rfl ?_ | refine AP.cond_false rfl rfl ?_ | (refine AP.region rfl (by kernel_rfl) ?_; simp only [go_sem, Nat.reduceAdd, Nat.reduceLeDiff, reduceCtorEq, hw]) | (refine AP.drawQ rfl rfl (by kernel_rfl) ?_; simp only [go_sem, Nat.reduceAdd, Nat.reduceLeDiff, reduceCtorEq, hw]) | (refine vq_id ?_; simp only [go_sem, Nat.reduceAdd, Nat.reduceLeDiff, reduceCtorEq, hw]) | (refine ⟨by first | omega | (intros; simp_all; done) | (intros; simp_all; omega), ?_⟩; try simp only [go_sem, Nat.reduceAdd, Nat.reduceLeDiff, reduceCtorEq, hw]))
  refine AP.cond_true rfl (by simp only [go_sem, Nat.reduceAdd, Nat.reduceLeDiff, reduceCtorEq]; refine congrArg (fun b => some (AV.im (IV.v (Value.bool b)))) ?_; (first | (simp only [Bool.or_eq_true, Bool.and_eq_true, Bool.not_eq_true', Bool.not_eq_false', Bool.and_eq_false_iff, Bool.or_eq_false_iff, decide_eq_true_eq, decide_eq_false_iff_not, beq_iff_eq, bne_iff_ne, beq_eq_false_iff_ne, bne_eq_false_iff_eq, ne_eq]; omega) | (simp; done) | (simp; omega) | (simp_all; done) | (simp_all; omega))) ?_
  repeat (first | refine xPP rfl ?_ | refine xPE rfl ?_ | refine xEP rfl ?_ | refine xEE rfl ?_ | refine AQ.done ?_ | refine AQ.skip (by kernel_rfl) rfl ?_ | refine AQ.s2b (by kernel_rfl) rfl rfl rfl rfl ?_ | refine AQ.mark (by kernel_rfl) rfl rfl rfl rfl rfl rfl rfl ?_ | refine AP.cond_true rfl rfl ?_ | refine AP.cond_false rfl rfl ?_ | (refine AP.region rfl (by kernel_rfl) ?_; simp only [go_sem, Nat.reduceAdd, Nat.reduceLeDiff, reduceCtorEq]) | (refine AP.drawQ rfl rfl (by kernel_rfl) ?_; simp only [go_sem, Nat.reduceAdd, Nat.reduceLeDiff, reduceCtorEq]) | (refine vq_id ?_; simp only [go_sem, Nat.reduceAdd, Nat.reduceLeDiff, reduceCtorEq]) | (refine ⟨by first | omega | (intros; simp_all; done) | (intros; simp_all; omega), ?_⟩; try simp only [go_sem, Nat.reduceAdd, Nat.reduceLeDiff, reduceCtorEq]))
  exact AE.ret rfl ⟨rfl, trivial⟩ ⟨rfl, rfl⟩
theorem undo_nil : PFn Try.prog 18 [nilP] (Iv 1) := by
  refine ACall.walk [0, 2] [] Try.func18 rfl Try.ntmps18 (by kernel_rfl) (by rfl) rfl fun W own I0 φ0 => ?_
  repeat (first | refine xPP rfl ?_ | refine xPE rfl ?_ | refine xEP rfl ?_ | refine xEE rfl ?_ | refine AQ.done ?_ | refine AQ.skip (by kernel_rfl) rfl ?_ | refine AQ.s2b (by kernel_rfl) rfl rfl rfl rfl ?_ | refine AQ.mark (by kernel_rfl) rfl rfl rfl rfl rfl rfl rfl ?_ | refine AP.cond_true rfl rfl ?_ | refine AP.cond_false rfl rfl ?_ | (refine AP.region rfl (by kernel_rfl) ?_; simp only [go_sem, Nat.reduceAdd, Nat.reduceLeDiff, reduceCtorEq]) | (refine AP.drawQ rfl rfl (by kernel_rfl) ?_; simp only [go_sem, Nat.reduceAdd, Nat.reduceLeDiff, reduceCtorEq]) | (refine vq_id ?_; simp only [go_sem, Nat.reduceAdd, Nat.reduceLeDiff, reduceCtorEq]) | (refine ⟨by first | omega | (intros; simp_all; done) | (intros; simp_all; omega), ?_⟩; try simp only [go_sem, Nat.reduceAdd, Nat.reduceLeDiff, reduceCtorEq]))
  refine AQ.fn (by kernel_rfl) rfl rfl rfl (move_nil (-1)) rfl ?_
  repeat (first | refine xPP rfl ?_ | refine xPE rfl ?_ | refine xEP rfl ?_ | refine xEE rfl ?_ | refine AQ.done ?_ | refine AQ.skip (by kernel_rfl) rfl ?_ | refine AQ.s2b (by kernel_rfl) rfl rfl rfl rfl ?_ | refine AQ.mark (by kernel_rfl) rfl rfl rfl rfl rfl rfl rfl ?_ | refine AP.cond_true rfl rfl ?_ | refine AP.cond_false rfl rfl ?_ | (refine AP.region rfl (by kernel_rfl) ?_; simp only [go_sem, Nat.reduceAdd, Nat.reduceLeDiff, reduceCtorEq]) | (refine AP.drawQ rfl rfl (by kernel_rfl) ?_; simp only [go_sem, Nat.reduceAdd, Nat.reduceLeDiff, reduceCtorEq]) | (refine vq_id ?_; simp only [go_sem, Nat.reduceAdd, Nat.reduceLeDiff, reduceCtorEq]) | (refine ⟨by first | omega | (intros; simp_all; done) | (intros; simp_all; omega), ?_⟩; try simp only [go_sem, Nat.reduceAdd, Nat.reduceLeDiff, reduceCtorEq]))
  exact AE.ret rfl ⟨rfl, trivial⟩ ⟨rfl, rfl⟩
theorem redo_nil : PFn Try.prog 20 [nilP] (Iv 1) := by
  refine ACall.walk [0, 2] [] Try.func20 rfl Try.ntmps20 (by kernel_rfl) (by rfl) rfl fun W own I0 φ0 => ?_
  repeat (first | refine xPP rfl ?_ | refine xPE rfl ?_ | refine xEP rfl ?_ | refine xEE rfl ?_ | refine AQ.done ?_ | refine AQ.skip (by kernel_rfl) rfl ?_ | refine AQ.s2b (by kernel_rfl) rfl rfl rfl rfl ?_ | refine AQ.mark (by kernel_rfl) rfl rfl rfl rfl rfl rfl rfl ?_ | refine AP.cond_true rfl rfl ?_ | refine AP.cond_false rfl rfl ?_ | (refine AP.region rfl (by kernel_rfl) ?_; simp only [go_sem, Nat.reduceAdd, Nat.reduceLeDiff, reduceCtorEq]) | (refine AP.drawQ rfl rfl (by kernel_rfl) ?_; simp only [go_sem, Nat.reduceAdd, Nat.reduceLeDiff, reduceCtorEq]) | (refine vq_id ?_; simp only [go_sem, Nat.reduceAdd, Nat.reduceLeDiff, reduceCtorEq]) | (refine ⟨by first | omega | (intros; simp_all; done) | (intros; simp_all; omega), ?_⟩; try simp only [go_sem, Nat.reduceAdd, Nat.reduceLeDiff, reduceCtorEq]))
  refine AQ.fn (by kernel_rfl) rfl rfl rfl (move_nil 1) rfl ?_
  repeat (first | refine xPP rfl ?_ | refine xPE rfl ?_ | refine xEP rfl ?_ | refine xEE rfl ?_ | refine AQ.done ?_ | refine AQ.skip (by kernel_rfl) rfl ?_ | refine AQ.s2b (by kernel_rfl) rfl rfl rfl rfl ?_ | refine AQ.mark (by kernel_rfl) rfl rfl rfl rfl rfl rfl rfl ?_ | refine AP.cond_true rfl rfl ?_ | refine AP.cond_false rfl rfl ?_ | (refine AP.region rfl (by kernel_rfl) ?_; simp only [go_sem, Nat.reduceAdd, Nat.reduceLeDiff, reduceCtorEq]) | (refine AP.drawQ rfl rfl (by kernel_rfl) ?_; simp only [go_sem, Nat.reduceAdd, Nat.reduceLeDiff, reduceCtorEq]) | (refine vq_id ?_; simp only [go_sem, Nat.reduceAdd, Nat.reduceLeDiff, reduceCtorEq]) | (refine ⟨by first | omega | (intros; simp_all; done) | (intros; simp_all; omega), ?_⟩; try simp only [go_sem, Nat.reduceAdd, Nat.reduceLeDiff, reduceCtorEq]))
  exact AE.ret rfl ⟨rfl, trivial⟩ ⟨rfl, rfl⟩
theorem undo_spec (vs : List Int) (k : Nat) (hk : 0 < k) (hkl : k < vs.length) (hl : vs.length ≤ 1000000) :
    ACall Try.prog 18 [.ob 0 0] (hisH 1 vs k) (fun r' H' => H' = hisH 1 vs (k - 1) ∧ r' = Iv 0) := by
  have hm := move_spec vs k (k - 1) (-1) (by omega) hkl (by omega) hl
  refine ACall.walk [0, 2] [] Try.func18 rfl Try.ntmps18 (by kernel_rfl) (by rfl) rfl fun W own I0 φ0 => ?_
  simp only [go_sem, Nat.reduceAdd, Nat.reduceLeDiff, reduceCtorEq, hisH] at *
  repeat (first | refine xPP rfl ?_ | refine xPE rfl ?_ | refine xEP rfl ?_ | refine xEE rfl ?_ | refine AQ.done ?_ | refine AQ.skip (by kernel_rfl) rfl ?_ | refine AQ.s2b (by kernel_rfl) rfl rfl rfl rfl ?_ | refine AQ.mark (by kernel_rfl) rfl rfl rfl rfl rfl rfl rfl ?_ | refine AP.cond_true rfl rfl ?_ | refine AP.cond_false rfl rfl ?_ | (refine AP.region rfl (by kernel_rfl) ?_; simp only [go_sem, Nat.reduceAdd, Nat.reduceLeDiff, reduceCtorEq]) | (refine AP.drawQ rfl rfl (by kernel_rfl) ?_; simp only [go_sem, Nat.reduceAdd, Nat.reduceLeDiff, reduceCtorEq]) | (refine vq_id ?_; simp only [go_sem, Nat.reduceAdd, Nat.reduceLeDiff, reduceCtorEq]) | (refine ⟨by first | omega | (intros; simp_all; done) | (intros; simp_all; omega), ?_⟩; try simp only [go_sem, Nat.reduceAdd, Nat.reduceLeDiff, reduceCtorEq]))
  refine AQ.callH [(1, 1), (0, 0)] (by kernel_rfl) rfl rfl rfl rfl rfl rfl (by exact ⟨rfl, rfl, trivial⟩) rfl hm ?_
  rintro r' H' ⟨e1, e2⟩; subst e1; subst e2; refine ⟨rfl, ?_⟩
  repeat (first | refine xPP rfl ?_ | refine xPE rfl ?_ | refine xEP rfl ?_ | refine xEE rfl ?_ | refine AQ.done ?_ | refine AQ.skip (by kernel_rfl) rfl ?_ | refine AQ.s2b (by kernel_rfl) rfl rfl rfl rfl ?_ | refine AQ.mark (by kernel_rfl) rfl rfl rfl rfl rfl rfl rfl ?_ | refine AP.cond_true rfl rfl ?_ | refine AP.cond_false rfl rfl ?_ | (refine AP.region rfl (by kernel_rfl) ?_; simp only [go_sem, Nat.reduceAdd, Nat.reduceLeDiff, reduceCtorEq]) | (refine AP.drawQ rfl rfl (by kernel_rfl) ?_; simp only [go_sem, Nat.reduceAdd, Nat.reduceLeDiff, reduceCtorEq]) | (refine vq_id ?_; simp only [go_sem, Nat.reduceAdd, Nat.reduceLeDiff, reduceCtorEq]) | (refine ⟨by first | omega | (intros; simp_all; done) | (intros; simp_all; omega), ?_⟩; try simp only [go_sem, Nat.reduceAdd, Nat.reduceLeDiff, reduceCtorEq]))
  exact AE.ret rfl ⟨rfl, trivial⟩ ⟨rfl, rfl⟩
theorem undo_none (vs : List Int) (hkl : 0 < vs.length) (hl : vs.length ≤ 1000000) :
    ACall Try.prog 18 [.ob 0 0] (hisH 1 vs 0) (fun r' H' => H' = hisH 1 vs 0 ∧ r' = Iv 5) := by
  have hm := move_none vs 0 (-1) (by omega) hkl (by omega) hl
  refine ACall.walk [0, 2] [] Try.func18 rfl Try.ntmps18 (by kernel_rfl) (by rfl) rfl fun W own I0 φ0 => ?_
  simp only [go_sem, Nat.reduceAdd, Nat.reduceLeDiff, reduceCtorEq, hisH] at *
  repeat (first | refine xPP rfl ?_ | refine xPE rfl ?_ | refine xEP rfl ?_ | refine xEE rfl ?_ | refine AQ.done ?_ | refine AQ.skip (by kernel_rfl) rfl ?_ | refine AQ.s2b (by kernel_rfl) rfl rfl rfl rfl ?_ | refine AQ.mark (by kernel_rfl) rfl rfl rfl rfl rfl rfl rfl ?_ | refine AP.cond_true rfl rfl ?_ | refine AP.cond_false rfl rfl ?_ | (refine AP.region rfl (by kernel_rfl) ?_; simp only [go_sem, Nat.reduceAdd, Nat.reduceLeDiff, reduceCtorEq]) | (refine AP.drawQ rfl rfl (by kernel_rfl) ?_; simp only [go_sem, Nat.reduceAdd, Nat.reduceLeDiff, reduceCtorEq]) | (refine vq_id ?_; simp only [go_sem, Nat.reduceAdd, Nat.reduceLeDiff, reduceCtorEq]) | (refine ⟨by first | omega | (intros; simp_all; done) | (intros; simp_all; omega), ?_⟩; try simp only [go_sem, Nat.reduceAdd, Nat.reduceLeDiff, reduceCtorEq]))
  refine AQ.callI (by kernel_rfl) rfl rfl rfl (hm) ?_
  repeat (first | refine xPP rfl ?_ | refine xPE rfl ?_ | refine xEP rfl ?_ | refine xEE rfl ?_ | refine AQ.done ?_ | refine AQ.skip (by kernel_rfl) rfl ?_ | refine AQ.s2b (by kernel_rfl) rfl rfl rfl rfl ?_ | refine AQ.mark (by kernel_rfl) rfl rfl rfl rfl rfl rfl rfl ?_ | refine AP.cond_true rfl rfl ?_ | refine AP.cond_false rfl rfl ?_ | (refine AP.region rfl (by kernel_rfl) ?_; simp only [go_sem, Nat.reduceAdd, Nat.reduceLeDiff, reduceCtorEq]) | (refine AP.drawQ rfl rfl (by kernel_rfl) ?_; simp only [go_sem, Nat.reduceAdd, Nat.reduceLeDiff, reduceCtorEq]) | (refine vq_id ?_; simp only [go_sem, Nat.reduceAdd, Nat.reduceLeDiff, reduceCtorEq]) | (refine ⟨by first | omega | (intros; simp_all; done) | (intros; simp_all; omega), ?_⟩; try simp only [go_sem, Nat.reduceAdd, Nat.reduceLeDiff, reduceCtorEq]))
  exact AE.ret rfl ⟨rfl, trivial⟩ ⟨rfl, rfl⟩
theorem redo_spec (vs : List Int) (k : Nat) (hkl : k + 1 < vs.length) (hl : vs.length ≤ 1000000) :
    ACall Try.prog 20 [.ob 0 0] (hisH 1 vs k) (fun r' H' => H' = hisH 1 vs (k + 1) ∧ r' = Iv 0) := by
  have hm := move_spec vs k (k + 1) 1 (by omega) (by omega) (by omega) hl
  refine ACall.walk [0, 2] [] Try.func20 rfl Try.ntmps20 (by kernel_rfl) (by rfl) rfl fun W own I0 φ0 => ?_
  simp only [go_sem, Nat.reduceAdd, Nat.reduceLeDiff, reduceCtorEq, hisH] at *
  repeat (first | refine xPP rfl ?_ | refine xPE rfl ?_ | refine xEP rfl ?_ | refine xEE rfl ?_ | refine AQ.done ?_ | refine AQ.skip (by kernel_rfl) rfl ?_ | refine AQ.s2b (by kernel_rfl) rfl rfl rfl rfl ?_ | refine AQ.mark (by kernel_rfl) rfl rfl rfl rfl rfl rfl rfl ?_ | refine AP.cond_true rfl rfl ?_ | refine AP.cond_false rfl rfl ?_ | (refine AP.region rfl (by kernel_rfl) ?_; simp only [go_sem, Nat.reduceAdd, Nat.reduceLeDiff, reduceCtorEq]) | (refine AP.drawQ rfl rfl (by kernel_rfl) ?_; simp only [go_sem, Nat.reduceAdd, Nat.reduceLeDiff, reduceCtorEq]) | (refine vq_id ?_; simp only [go_sem, Nat.reduceAdd, Nat.reduceLeDiff, reduceCtorEq]) | (refine ⟨by first | omega | (intros; simp_all; done) | (intros; simp_all; omega), ?_⟩; try simp only [go_sem, Nat.reduceAdd, Nat.reduceLeDiff, reduceCtorEq]))
  refine AQ.callH [(1, 1), (0, 0)] (by kernel_rfl) rfl rfl rfl rfl rfl rfl (by exact ⟨rfl, rfl, trivial⟩) rfl hm ?_
  rintro r' H' ⟨e1, e2⟩; subst e1; subst e2; refine ⟨rfl, ?_⟩
  repeat (first | refine xPP rfl ?_ | refine xPE rfl ?_ | refine xEP rfl ?_ | refine xEE rfl ?_ | refine AQ.done ?_ | refine AQ.skip (by kernel_rfl) rfl ?_ | refine AQ.s2b (by kernel_rfl) rfl rfl rfl rfl ?_ | refine AQ.mark (by kernel_rfl) rfl rfl rfl rfl rfl rfl rfl ?_ | refine AP.cond_true rfl rfl ?_ | refine AP.cond_false rfl rfl ?_ | (refine AP.region rfl (by kernel_rfl) ?_; simp only [go_sem, Nat.reduceAdd, Nat.reduceLeDiff, reduceCtorEq]) | (refine AP.drawQ rfl rfl (by kernel_rfl) ?_; simp only [go_sem, Nat.reduceAdd, Nat.reduceLeDiff, reduceCtorEq]) | (refine vq_id ?_; simp only [go_sem, Nat.reduceAdd, Nat.reduceLeDiff, reduceCtorEq]) | (refine ⟨by first | omega | (intros; simp_all; done) | (intros; simp_all; omega), ?_⟩; try simp only [go_sem, Nat.reduceAdd, Nat.reduceLeDiff, reduceCtorEq]))
  exact AE.ret rfl ⟨rfl, trivial⟩ ⟨rfl, rfl⟩
theorem redo_none (vs : List Int) (k : Nat) (hkl : k + 1 = vs.length) (hl : vs.length ≤ 1000000) :
    ACall Try.prog 20 [.ob 0 0] (hisH 1 vs k) (fun r' H' => H' = hisH 1 vs k ∧ r' = Iv 5) := by
  have hm := move_none vs k 1 (by omega) (by omega) (by omega) hl
  refine ACall.walk [0, 2] [] Try.func20 rfl Try.ntmps20 (by kernel_rfl) (by rfl) rfl fun W own I0 φ0 => ?_
  simp only [go_sem, Nat.reduceAdd, Nat.reduceLeDiff, reduceCtorEq, hisH] at *
  repeat (first | refine xPP rfl ?_ | refine xPE rfl ?_ | refine xEP rfl ?_ | refine xEE rfl ?_ | refine AQ.done ?_ | refine AQ.skip (by kernel_rfl) rfl ?_ | refine AQ.s2b (by kernel_rfl) rfl rfl rfl rfl ?_ | refine AQ.mark (by kernel_rfl) rfl rfl rfl rfl rfl rfl rfl ?_ | refine AP.cond_true rfl rfl ?_ | refine AP.cond_false rfl rfl ?_ | (refine AP.region rfl (by kernel_rfl) ?_; simp only [go_sem, Nat.reduceAdd, Nat.reduceLeDiff, reduceCtorEq]) | (refine AP.drawQ rfl rfl (by kernel_rfl) ?_; simp only [go_sem, Nat.reduceAdd, Nat.reduceLeDiff, reduceCtorEq]) | (refine vq_id ?_; simp only [go_sem, Nat.reduceAdd, Nat.reduceLeDiff, reduceCtorEq]) | (refine ⟨by first | omega | (intros; simp_all; done) | (intros; simp_all; omega), ?_⟩; try simp only [go_sem, Nat.reduceAdd, Nat.reduceLeDiff, reduceCtorEq]))
  refine AQ.callI (by kernel_rfl) rfl rfl rfl (hm) ?_
  repeat (first | refine xPP rfl ?_ | refine xPE rfl ?_ | refine xEP rfl ?_ | refine xEE rfl ?_ | refine AQ.done ?_ | refine AQ.skip (by kernel_rfl) rfl ?_ | refine AQ.s2b (by kernel_rfl) rfl rfl rfl rfl ?_ | refine AQ.mark (by kernel_rfl) rfl rfl rfl rfl rfl rfl rfl ?_ | refine AP.cond_true rfl rfl ?_ | refine AP.cond_false rfl rfl ?_ | (refine AP.region rfl (by kernel_rfl) ?_; simp only [go_sem, Nat.reduceAdd, Nat.reduceLeDiff, reduceCtorEq]) | (refine AP.drawQ rfl rfl (by kernel_rfl) ?_; simp only [go_sem, Nat.reduceAdd, Nat.reduceLeDiff, reduceCtorEq]) | (refine vq_id ?_; simp only [go_sem, Nat.reduceAdd, Nat.reduceLeDiff, reduceCtorEq]) | (refine ⟨by first | omega | (intros; simp_all; done) | (intros; simp_all; omega), ?_⟩; try simp only [go_sem, Nat.reduceAdd, Nat.reduceLeDiff, reduceCtorEq]))
  exact AE.ret rfl ⟨rfl, trivial⟩ ⟨rfl, rfl⟩
theorem current_nil : PFn Try.prog 24 [nilP] (.tup [Iv 0, Iv 0]) := by
  refine ACall.walk [0, 2, 3, 18] [] Try.func24 rfl Try.ntmps24 (by kernel_rfl) (by rfl) rfl fun W own I0 φ0 => ?_
  repeat (first | refine xPP rfl ?_ | refine xPE rfl ?_ | refine xEP rfl ?_ | refine xEE rfl ?_ | refine AQ.done ?_ | refine AQ.skip (by kernel_rfl) rfl ?_ | refine AQ.s2b (by kernel_rfl) rfl rfl rfl rfl ?_ | refine AQ.mark (by kernel_rfl) rfl rfl rfl rfl rfl rfl rfl ?_ | refine AP.cond_true rfl rfl ?_ | refine AP.cond_false rfl rfl ?_ | (refine AP.region rfl (by kernel_rfl) ?_; simp only [go_sem, Nat.reduceAdd, Nat.reduceLeDiff, reduceCtorEq]) | (refine AP.drawQ rfl rfl (by kernel_rfl) ?_; simp only [go_sem, Nat.reduceAdd, Nat.reduceLeDiff, reduceCtorEq]) | (refine vq_id ?_; simp only [go_sem, Nat.reduceAdd, Nat.reduceLeDiff, reduceCtorEq]) | (refine ⟨by first | omega | (intros; simp_all; done) | (intros; simp_all; omega), ?_⟩; try simp only [go_sem, Nat.reduceAdd, Nat.reduceLeDiff, reduceCtorEq]))
  exact AE.ret rfl ⟨rfl, rfl, trivial⟩ ⟨rfl, rfl⟩
theorem current_spec (vs : List Int) (k : Nat) (hkl : k < vs.length) (hl : vs.length ≤ 1000000) :
    ACall Try.prog 24 [.ob 0 0] (hisH 1 vs k) (fun r' H' => H' = hisH 1 vs k ∧ r' = .tup [Iv (vs.getD k 0), Iv k]) := by
  have c1 : decide ((vs.length : Int) ≤ (k : Int)) = false := decide_eq_false (by omega)
  have hg := intR_get vs k hkl
  refine ACall.walk [0, 2, 3, 18] [] Try.func24 rfl Try.ntmps24 (by kernel_rfl) (by rfl) rfl fun W own I0 φ0 => ?_
  simp only [go_sem, Nat.reduceAdd, Nat.reduceLeDiff, reduceCtorEq, hisH]
  repeat (first | refine xPP rfl ?_ | refine xPE rfl ?_ | refine xEP rfl ?_ | refine xEE rfl ?_ | refine AQ.done ?_ | refine AQ.skip (by kernel_rfl) rfl ?_ | refine AQ.s2b (by kernel_rfl) rfl rfl rfl rfl ?_ | refine AQ.mark (by kernel_rfl) rfl rfl rfl rfl rfl rfl rfl ?_ | refine AP.cond_true rfl rfl ?_ | refine AP.cond_false rfl rfl ?_ | (refine AP.region rfl (by kernel_rfl) ?_; simp only [go_sem, Nat.reduceAdd, Nat.reduceLeDiff, reduceCtorEq, c1, hg, Int.toNat_natCast, intR_len]) | (refine AP.drawQ rfl rfl (by kernel_rfl) ?_; simp only [go_sem, Nat.reduceAdd, Nat.reduceLeDiff, reduceCtorEq, c1, hg, Int.toNat_natCast, intR_len]) | (refine vq_id ?_; simp only [go_sem, Nat.reduceAdd, Nat.reduceLeDiff, reduceCtorEq, c1, hg, Int.toNat_natCast, intR_len]) | (refine ⟨by first | omega | (intros; simp_all; done) | (intros; simp_all; omega), ?_⟩; try simp only [go_sem, Nat.reduceAdd, Nat.reduceLeDiff, reduceCtorEq, c1, hg, Int.toNat_natCast, intR_len]))
  exact AE.ret rfl ⟨rfl, rfl, trivial⟩ ⟨rfl, rfl⟩
theorem fork_nil : PFn Try.prog 22 [nilP] nilP := by
  refine ACall.walk [0, 2, 3, 5] [] Try.func22 rfl Try.ntmps22 (by kernel_rfl) (by rfl) rfl fun W own I0 φ0 => ?_
  repeat (first | refine xPP rfl ?_ | refine xPE rfl ?_ | refine xEP rfl ?_ | refine xEE rfl ?_ | refine AQ.done ?_ | refine AQ.skip (by kernel_rfl) rfl ?_ | refine AQ.s2b (by kernel_rfl) rfl rfl rfl rfl ?_ | refine AQ.mark (by kernel_rfl) rfl rfl rfl rfl rfl rfl rfl ?_ | refine AP.cond_true rfl rfl ?_ | refine AP.cond_false rfl rfl ?_ | (refine AP.region rfl (by kernel_rfl) ?_; simp only [go_sem, Nat.reduceAdd, Nat.reduceLeDiff, reduceCtorEq]) | (refine AP.drawQ rfl rfl (by kernel_rfl) ?_; simp only [go_sem, Nat.reduceAdd, Nat.reduceLeDiff, reduceCtorEq]) | (refine vq_id ?_; simp only [go_sem, Nat.reduceAdd, Nat.reduceLeDiff, reduceCtorEq]) | (refine ⟨by first | omega | (intros; simp_all; done) | (intros; simp_all; omega), ?_⟩; try simp only [go_sem, Nat.reduceAdd, Nat.reduceLeDiff, reduceCtorEq]))
  exact AE.ret rfl ⟨rfl, trivial⟩ ⟨rfl, rfl⟩
end Go.Proofs.Ytfgffpkdjmeaoaa
end

section
namespace Go.Proofs.Ytfgffpkdjmeaoaa
open Go Go.AL Go.RowKit
set_option maxRecDepth 10000
set_option maxHeartbeats 4000000
abbrev rA (vs : List Int) (k : Nat) : AV := .agg [.im (.sl 1 (intR vs)), Iv k]
theorem undo_ref0 (vs : List Int) : PFn Try.prog 19 [rA vs 0] (.tup [rA vs 0, Iv 5]) := by
  refine ACall.walk [0, 1, 2, 3, 6] [2] Try.func19 rfl Try.ntmps19 (by kernel_rfl) (by rfl) rfl fun W own I0 φ0 => ?_
  repeat (first | refine xPP rfl ?_ | refine xPE rfl ?_ | refine xEP rfl ?_ | refine xEE rfl ?_ | refine AQ.done ?_ | refine AQ.skip (by kernel_rfl) rfl ?_ | refine AQ.s2b (by kernel_rfl) rfl rfl rfl rfl ?_ | refine AQ.mark (by kernel_rfl) rfl rfl rfl rfl rfl rfl rfl ?_ | refine AP.cond_true rfl rfl ?_ | refine AP.cond_false rfl rfl ?_ | (refine AP.region rfl (by kernel_rfl) ?_; simp only [go_sem, Nat.reduceAdd, Nat.reduceLeDiff, reduceCtorEq]) | (refine AP.drawQ rfl rfl (by kernel_rfl) ?_; simp only [go_sem, Nat.reduceAdd, Nat.reduceLeDiff, reduceCtorEq]) | (refine vq_id ?_; simp only [go_sem, Nat.reduceAdd, Nat.reduceLeDiff, reduceCtorEq]) | (refine ⟨by first | omega | (intros; simp_all; done) | (intros; simp_all; omega), ?_⟩; try simp only [go_sem, Nat.reduceAdd, Nat.reduceLeDiff, reduceCtorEq]))
  exact AE.ret0 rfl ⟨⟨rfl, Nat.le_of_ble_eq_true (by kernel_rfl)⟩, rfl, trivial⟩ rfl ⟨rfl, rfl⟩
theorem undo_ref (vs : List Int) (k : Nat) (hk : 0 < k) (hk2 : k ≤ 1000000) : PFn Try.prog 19 [rA vs k] (.tup [rA vs (k - 1), Iv 0]) := by
  have hw : IntKind.i64.wrap ((k : Int) - 1) = ((k - 1 : Nat) : Int) := by rw [wr (by omega)]; omega
  refine ACall.walk [0, 1, 2, 3, 6] [2] Try.func19 rfl Try.ntmps19 (by kernel_rfl) (by rfl) rfl fun W own I0 φ0 => ?_
  repeat (first | refine xPP rfl ?_ | refine xPE rfl ?_ | refine xEP rfl ?_ | refine xEE rfl ?_ | refine AQ.done ?_ | refine AQ.skip (by kernel_rfl) rfl ?_ | refine AQ.s2b (by kernel_rfl) rfl rfl rfl rfl ?_ | refine AQ.mark (by kernel_rfl) rfl rfl rfl rfl rfl rfl rfl ?_ | refine AP.cond_true rfl rfl ?_ | refine AP.cond_false rfl rfl ?_ | (refine AP.region rfl (by kernel_rfl) ?_; simp only [go_sem, Nat.reduceAdd, Nat.reduceLeDiff, reduceCtorEq]) | (refine AP.drawQ rfl rfl (by kernel_rfl) ?_; simp only [go_sem, Nat.reduceAdd, Nat.reduceLeDiff, reduceCtorEq]) | (refine vq_id ?_; simp only [go_sem, Nat.reduceAdd, Nat.reduceLeDiff, reduceCtorEq]) | (refine ⟨by first | omega | (intros; simp_all; done) | (intros; simp_all; omega), ?_⟩; try simp only [go_sem, Nat.reduceAdd, Nat.reduceLeDiff, reduceCtorEq]))
  refine AP.cond_false rfl (by simp only [go_sem, Nat.reduceAdd, Nat.reduceLeDiff, reduceCtorEq]; refine congrArg (fun b => some (AV.im (IV.v (Value.bool b)))) ?_; (first | (simp only [Bool.or_eq_true, Bool.and_eq_true, Bool.not_eq_true', Bool.not_eq_false', Bool.and_eq_false_iff, Bool.or_eq_false_iff, decide_eq_true_eq, decide_eq_false_iff_not, beq_iff_eq, bne_iff_ne, beq_eq_false_iff_ne, bne_eq_false_iff_eq, ne_eq]; omega) | (simp; done) | (simp; omega) | (simp_all; done) | (simp_all; omega))) ?_
  repeat (first | refine xPP rfl ?_ | refine xPE rfl ?_ | refine xEP rfl ?_ | refine xEE rfl ?_ | refine AQ.done ?_ | refine AQ.skip (by kernel_rfl) rfl ?_ | refine AQ.s2b (by kernel_rfl) rfl rfl rfl rfl ?_ | refine AQ.mark (by kernel_rfl) rfl rfl rfl rfl rfl rfl rfl ?_ | refine AP.cond_true rfl rfl ?_ | refine AP.cond_false rfl rfl ?_ | (refine AP.region rfl (by kernel_rfl) ?_; simp only [go_sem, Nat.reduceAdd, Nat.reduceLeDiff, reduceCtorEq, hw]) | (refine AP.drawQ rfl rfl (by kernel_rfl) ?_; simp only [go_sem, Nat.reduceAdd, Nat.reduceLeDiff, reduceCtorEq, hw]) | (refine vq_id ?_; simp only [go_sem, Nat.reduceAdd, Nat.reduceLeDiff, reduceCtorEq, hw]) | (refine ⟨by first | omega | (intros; simp_all; done) | (intros; simp_all; omega), ?_⟩; try simp only [go_sem, Nat.reduceAdd, Nat.reduceLeDiff, reduceCtorEq, hw]))
  exact AE.ret0 rfl ⟨⟨rfl, Nat.le_of_ble_eq_true (by kernel_rfl)⟩, rfl, trivial⟩ rfl ⟨rfl, rfl⟩
theorem redo_ref0 (vs : List Int) (k : Nat) (hk : k + 1 = vs.length) (hk2 : k ≤ 1000000) : PFn Try.prog 21 [rA vs k] (.tup [rA vs k, Iv 5]) := by
  have hw := wr (x := (k : Int) + 1) (by omega)
  refine ACall.walk [0, 1, 2, 3, 10] [2] Try.func21 rfl Try.ntmps21 (by kernel_rfl) (by rfl) rfl fun W own I0 φ0 => ?_
  repeat (first | refine xPP rfl ?_ | refine xPE rfl ?_ | refine xEP rfl ?_ | refine xEE rfl ?_ | refine AQ.done ?_ | refine AQ.skip (by kernel_rfl) rfl ?_ | refine AQ.s2b (by kernel_rfl) rfl rfl rfl rfl ?_ | refine AQ.mark (by kernel_rfl) rfl rfl rfl rfl rfl rfl rfl ?_ | refine AP.cond_true rfl rfl ?_ | refine AP.cond_false rfl rfl ?_ | (refine AP.region rfl (by kernel_rfl) ?_; simp only [go_sem, Nat.reduceAdd, Nat.reduceLeDiff, reduceCtorEq, hw, intR_len]) | (refine AP.drawQ rfl rfl (by kernel_rfl) ?_; simp only [go_sem, Nat.reduceAdd, Nat.reduceLeDiff, reduceCtorEq, hw, intR_len]) | (refine vq_id ?_; simp only [go_sem, Nat.reduceAdd, Nat.reduceLeDiff, reduceCtorEq, hw, intR_len]) | (refine ⟨by first | omega | (intros; simp_all; done) | (intros; simp_all; omega), ?_⟩; try simp only [go_sem, Nat.reduceAdd, Nat.reduceLeDiff, reduceCtorEq, hw, intR_len]))
  refine AP.cond_true rfl (by simp only [go_sem, Nat.reduceAdd, Nat.reduceLeDiff, reduceCtorEq]; refine congrArg (fun b => some (AV.im (IV.v (Value.bool b)))) ?_; (first | (simp only [Bool.or_eq_true, Bool.and_eq_true, Bool.not_eq_true', Bool.not_eq_false', Bool.and_eq_false_iff, Bool.or_eq_false_iff, decide_eq_true_eq, decide_eq_false_iff_not, beq_iff_eq, bne_iff_ne, beq_eq_false_iff_ne, bne_eq_false_iff_eq, ne_eq]; omega) | (simp; done) | (simp; omega) | (simp_all; done) | (simp_all; omega))) ?_
  repeat (first | refine xPP rfl ?_ | refine xPE rfl ?_ | refine xEP rfl ?_ | refine xEE rfl ?_ | refine AQ.done ?_ | refine AQ.skip (by kernel_rfl) rfl ?_ | refine AQ.s2b (by kernel_rfl) rfl rfl rfl rfl ?_ | refine AQ.mark (by kernel_rfl) rfl rfl rfl rfl rfl rfl rfl ?_ | refine AP.cond_true rfl rfl ?_ | refine AP.cond_false rfl rfl ?_ | (refine AP.region rfl (by kernel_rfl) ?_; simp only [go_sem, Nat.reduceAdd, Nat.reduceLeDiff, reduceCtorEq]) | (refine AP.drawQ rfl rfl (by kernel_rfl) ?_; simp only [go_sem, Nat.reduceAdd, Nat.reduceLeDiff, reduceCtorEq]) | (refine vq_id ?_; simp only [go_sem, Nat.reduceAdd, Nat.reduceLeDiff, reduceCtorEq]) | (refine ⟨by first | omega | (intros; simp_all; done) | (intros; simp_all; omega), ?_⟩; try simp only [go_sem, Nat.reduceAdd, Nat.reduceLeDiff, reduceCtorEq]))
  exact AE.ret0 rfl ⟨⟨rfl, Nat.le_of_ble_eq_true (by kernel_rfl)⟩, rfl, trivial⟩ rfl ⟨rfl, rfl⟩
theorem redo_ref (vs : List Int) (k : Nat) (hk : k + 1 < vs.length) (hk2 : k ≤ 1000000) : PFn Try.prog 21 [rA vs k] (.tup [rA vs (k + 1), Iv 0]) := by
  have hw := wr (x := (k : Int) + 1) (by omega)
  refine ACall.walk [0, 1, 2, 3, 10] [2] Try.func21 rfl Try.ntmps21 (by kernel_rfl) (by rfl) rfl fun W own I0 φ0 => ?_
  repeat (first | refine xPP rfl ?_ | refine xPE rfl ?_ | refine xEP rfl ?_ | refine xEE rfl ?_ | refine AQ.done ?_ | refine AQ.skip (by kernel_rfl) rfl ?_ | refine AQ.s2b (by kernel_rfl) rfl rfl rfl rfl ?_ | refine AQ.mark (by kernel_rfl) rfl rfl rfl rfl rfl rfl rfl ?_ | refine AP.cond_true rfl rfl ?_ | refine AP.cond_false rfl rfl ?_ | (refine AP.region rfl (by kernel_rfl) ?_; simp only [go_sem, Nat.reduceAdd, Nat.reduceLeDiff, reduceCtorEq, hw, intR_len]) | (refine AP.drawQ rfl rfl (by kernel_rfl) ?_; simp only [go_sem, Nat.reduceAdd, Nat.reduceLeDiff, reduceCtorEq, hw, intR_len]) | (refine vq_id ?_; simp only [go_sem, Nat.reduceAdd, Nat.reduceLeDiff, reduceCtorEq, hw, intR_len]) | (refine ⟨by first | omega | (intros; simp_all; done) | (intros; simp_all; omega), ?_⟩; try simp only [go_sem, Nat.reduceAdd, Nat.reduceLeDiff, reduceCtorEq, hw, intR_len]))
  refine AP.cond_false rfl (by simp only [go_sem, Nat.reduceAdd, Nat.reduceLeDiff, reduceCtorEq]; refine congrArg (fun b => some (AV.im (IV.v (Value.bool b)))) ?_; (first | (simp only [Bool.or_eq_true, Bool.and_eq_true, Bool.not_eq_true', Bool.not_eq_false', Bool.and_eq_false_iff, Bool.or_eq_false_iff, decide_eq_true_eq, decide_eq_false_iff_not, beq_iff_eq, bne_iff_ne, beq_eq_false_iff_ne, bne_eq_false_iff_eq, ne_eq]; omega) | (simp; done) | (simp; omega) | (simp_all; done) | (simp_all; omega))) ?_
  repeat (first | refine xPP rfl ?_ | refine xPE rfl ?_ | refine xEP rfl ?_ | refine xEE rfl ?_ | refine AQ.done ?_ | refine AQ.skip (by kernel_rfl) rfl ?_ | refine AQ.s2b (by kernel_rfl) rfl rfl rfl rfl ?_ | refine AQ.mark (by kernel_rfl) rfl rfl rfl rfl rfl rfl rfl ?_ | refine AP.cond_true rfl rfl ?_ | refine AP.cond_false rfl rfl ?_ | (refine AP.region rfl (by kernel_rfl) ?_; simp only [go_sem, Nat.reduceAdd, Nat.reduceLeDiff, reduceCtorEq, hw]) | (refine AP.drawQ rfl rfl (by kernel_rfl) ?_; simp only [go_sem, Nat.reduceAdd, Nat.reduceLeDiff, reduceCtorEq, hw]) | (refine vq_id ?_; simp only [go_sem, Nat.reduceAdd, Nat.reduceLeDiff, reduceCtorEq, hw]) | (refine ⟨by first | omega | (intros; simp_all; done) | (intros; simp_all; omega), ?_⟩; try simp only [go_sem, Nat.reduceAdd, Nat.reduceLeDiff, reduceCtorEq, hw]))
  exact AE.ret0 rfl ⟨⟨rfl, Nat.le_of_ble_eq_true (by kernel_rfl)⟩, rfl, trivial⟩ rfl ⟨rfl, rfl⟩
theorem commit_ref0 (vs : List Int) (v : Int) : PFn Try.prog 17 [rA vs 999, Iv v] (.tup [rA vs 999, Iv 8]) := by
  refine ACall.walk [0, 1, 2, 4, 5, 6, 9] [4] Try.func17 rfl Try.ntmps17 (by kernel_rfl) (by rfl) rfl fun W own I0 φ0 => ?_
  repeat (first | refine xPP rfl ?_ | refine xPE rfl ?_ | refine xEP rfl ?_ | refine xEE rfl ?_ | refine AQ.done ?_ | refine AQ.skip (by kernel_rfl) rfl ?_ | refine AQ.s2b (by kernel_rfl) rfl rfl rfl rfl ?_ | refine AQ.mark (by kernel_rfl) rfl rfl rfl rfl rfl rfl rfl ?_ | refine AP.cond_true rfl rfl ?_ | refine AP.cond_false rfl rfl ?_ | (refine AP.region rfl (by kernel_rfl) ?_; simp only [go_sem, Nat.reduceAdd, Nat.reduceLeDiff, reduceCtorEq]) | (refine AP.drawQ rfl rfl (by kernel_rfl) ?_; simp only [go_sem, Nat.reduceAdd, Nat.reduceLeDiff, reduceCtorEq]) | (refine vq_id ?_; simp only [go_sem, Nat.reduceAdd, Nat.reduceLeDiff, reduceCtorEq]) | (refine ⟨by first | omega | (intros; simp_all; done) | (intros; simp_all; omega), ?_⟩; try simp only [go_sem, Nat.reduceAdd, Nat.reduceLeDiff, reduceCtorEq]))
  exact AE.ret0 rfl ⟨⟨rfl, Nat.le_of_ble_eq_true (by kernel_rfl)⟩, rfl, trivial⟩ rfl ⟨rfl, rfl⟩
theorem intR_T (X : List Int) (n : Nat) (h : X.length ≤ n) : (intR X).take n = intR X := List.take_of_length_le (by rw [intR_len]; exact h)
theorem commit_ref (vs : List Int) (k : Nat) (v : Int) (hk : k < 999) (hkl : k < vs.length) (hl : vs.length ≤ 1000000) : PFn Try.prog 17 [rA vs k, Iv v] (.tup [rA (vs.take (k + 1) ++ [v]) (k + 1), Iv 0]) := by
  have hw : IntKind.i64.wrap ((k : Int) + 1) = ((k + 1 : Nat) : Int) := by rw [wr (by omega)]; omega
  have hlt : (vs.take (k + 1)).length = k + 1 := List.length_take_of_le (by omega)
  have hlp : (intR (vs.take (k + 1) ++ [v])).length = k + 1 + 1 := by rw [intR_len, List.length_append, hlt]; rfl
  refine ACall.walk [0, 1, 2, 4, 5, 6, 9] [4] Try.func17 rfl Try.ntmps17 (by kernel_rfl) (by rfl) rfl fun W own I0 φ0 => ?_
  repeat (first | refine xPP rfl ?_ | refine xPE rfl ?_ | refine xEP rfl ?_ | refine xEE rfl ?_ | refine AQ.done ?_ | refine AQ.skip (by kernel_rfl) rfl ?_ | refine AQ.s2b (by kernel_rfl) rfl rfl rfl rfl ?_ | refine AQ.mark (by kernel_rfl) rfl rfl rfl rfl rfl rfl rfl ?_ | refine AP.cond_true rfl rfl ?_ | refine AP.cond_false rfl rfl ?_ | (refine AP.region rfl (by kernel_rfl) ?_; simp only [go_sem, Nat.reduceAdd, Nat.reduceLeDiff, reduceCtorEq]) | (refine AP.drawQ rfl rfl (by kernel_rfl) ?_; simp only [go_sem, Nat.reduceAdd, Nat.reduceLeDiff, reduceCtorEq]) | (refine vq_id ?_; simp only [go_sem, Nat.reduceAdd, Nat.reduceLeDiff, reduceCtorEq]) | (refine ⟨by first | omega | (intros; simp_all; done) | (intros; simp_all; omega), ?_⟩; try simp only [go_sem, Nat.reduceAdd, Nat.reduceLeDiff, reduceCtorEq]))
  refine AP.cond_false rfl (by simp only [go_sem, Nat.reduceAdd, Nat.reduceLeDiff, reduceCtorEq]; refine congrArg (fun b => some (AV.im (IV.v (Value.bool b)))) ?_; (first | (simp only [Bool.or_eq_true, Bool.and_eq_true, Bool.not_eq_true', Bool.not_eq_false', Bool.and_eq_false_iff, Bool.or_eq_false_iff, decide_eq_true_eq, decide_eq_false_iff_not, beq_iff_eq, bne_iff_ne, beq_eq_false_iff_ne, bne_eq_false_iff_eq, ne_eq]; omega) | (simp; done) | (simp; omega) | (simp_all; done) | (simp_all; omega))) ?_
  repeat (first | refine xPP rfl ?_ | refine xPE rfl ?_ | refine xEP rfl ?_ | refine xEE rfl ?_ | refine AQ.done ?_ | refine AQ.skip (by kernel_rfl) rfl ?_ | refine AQ.s2b (by kernel_rfl) rfl rfl rfl rfl ?_ | refine AQ.mark (by kernel_rfl) rfl rfl rfl rfl rfl rfl rfl ?_ | refine AP.cond_true rfl rfl ?_ | refine AP.cond_false rfl rfl ?_ | (refine AP.region rfl (by kernel_rfl) ?_; simp only [go_sem, Nat.reduceAdd, Nat.reduceLeDiff, reduceCtorEq, hw, Int.toNat_natCast, intR_take, intR_len]) | (refine AP.drawQ rfl rfl (by kernel_rfl) ?_; simp only [go_sem, Nat.reduceAdd, Nat.reduceLeDiff, reduceCtorEq, hw, Int.toNat_natCast, intR_take, intR_len]) | (refine vq_id ?_; simp only [go_sem, Nat.reduceAdd, Nat.reduceLeDiff, reduceCtorEq, hw, Int.toNat_natCast, intR_take, intR_len]) | (refine ⟨by first | omega | (intros; simp_all; done) | (intros; simp_all; omega), ?_⟩; try simp only [go_sem, Nat.reduceAdd, Nat.reduceLeDiff, reduceCtorEq, hw, Int.toNat_natCast, intR_take, intR_len]))
  refine AQ.append (hnb := rfl) (rows := []) (es := 0) (by kernel_rfl) rfl rfl rfl (by rfl) Try.tk22 Try.sz3 (by show Option.map _ (zro Try.prog 3) = _; rw [Try.zr3]; rfl) Try.by3 (by first | rfl | (simp only [intR_len, List.length_take, List.length_cons, List.length_nil]; done) | (simp only [intR_len, List.length_take, List.length_cons, List.length_nil]; omega)) (by simp only [intR_len, List.length_take, List.length_cons, List.length_nil]; omega) (by simp only [intR_len, List.length_take, List.length_cons, List.length_nil]; omega) ?_
  simp only [go_sem, Nat.reduceAdd, Nat.reduceLeDiff, reduceCtorEq, List.nil_append, intR_len, hlt]
  repeat (first | refine xPP rfl ?_ | refine xPE rfl ?_ | refine xEP rfl ?_ | refine xEE rfl ?_ | refine AQ.done ?_ | refine AQ.skip (by kernel_rfl) rfl ?_ | refine AQ.s2b (by kernel_rfl) rfl rfl rfl rfl ?_ | refine AQ.mark (by kernel_rfl) rfl rfl rfl rfl rfl rfl rfl ?_ | refine AP.cond_true rfl rfl ?_ | refine AP.cond_false rfl rfl ?_ | (refine AP.region rfl (by kernel_rfl) ?_; simp only [go_sem, Nat.reduceAdd, Nat.reduceLeDiff, reduceCtorEq]) | (refine AP.drawQ rfl rfl (by kernel_rfl) ?_; simp only [go_sem, Nat.reduceAdd, Nat.reduceLeDiff, reduceCtorEq]) | (refine vq_id ?_; simp only [go_sem, Nat.reduceAdd, Nat.reduceLeDiff, reduceCtorEq]) | (refine ⟨by first | omega | (intros; simp_all; done) | (intros; simp_all; omega), ?_⟩; try simp only [go_sem, Nat.reduceAdd, Nat.reduceLeDiff, reduceCtorEq]))
  refine AP.drawE 10 (Tree.node [] [0, 1, 4, 5, 6] [2] [Tree.node [0, 4, 5, 6] [] [3] [Tree.node [4, 5, 6] [7] [8] [Tree.node [] [9] [] []]]]) (by kernel_rfl) rfl (by kernel_rfl) (by kernel_rfl) ?_
  refine vd_node ?_
  simp only [go_sem, Nat.reduceAdd, Nat.reduceLeDiff, reduceCtorEq, hw]
  repeat' (first | with_reducible exact True.intro | with_reducible refine And.intro (by omega) ?_ | with_reducible refine And.intro ?_ ?_ | (refine AQ.nx rfl ?_; simp only [go_sem, Nat.reduceAdd, Nat.reduceLeDiff, reduceCtorEq, hw, intR_one, intR_len, hlt]) | (refine AQ.append (hnb := rfl) (rows := intR (vs.take (k + 1))) (es := 0) (by kernel_rfl) rfl rfl rfl (by rfl) Try.tk22 Try.sz3 (by show Option.map _ (zro Try.prog 3) = _; rw [Try.zr3]; rfl) Try.by3 (by first | rfl | (simp only [intR_len, hlt, List.length_cons, List.length_nil]; done) | (simp only [intR_len, hlt, List.length_cons, List.length_nil]; omega)) (by simp only [intR_len, hlt, List.length_cons, List.length_nil]; omega) (by simp only [intR_len, hlt, List.length_cons, List.length_nil]; omega) ?_; simp only [go_sem, Nat.reduceAdd, Nat.reduceLeDiff, reduceCtorEq, intR_one, intR_len, hlt]) | refine AQ.done ?_ | (refine AQ.go (by kernel_rfl) ?_; simp only [go_sem, Nat.reduceAdd, Nat.reduceLeDiff, reduceCtorEq, hw, intR_one, intR_len, hlt]; repeat (with_reducible refine And.intro (by omega) ?_); refine AQ.nx rfl ?_; simp only [go_sem, Nat.reduceAdd, Nat.reduceLeDiff, reduceCtorEq, hw, intR_one, intR_len, hlt]))
  all_goals repeat (first | refine xPP rfl ?_ | refine xPE rfl ?_ | refine xEP rfl ?_ | refine xEE rfl ?_ | refine AQ.done ?_ | refine AQ.skip (by kernel_rfl) rfl ?_ | refine AQ.s2b (by kernel_rfl) rfl rfl rfl rfl ?_ | refine AQ.mark (by kernel_rfl) rfl rfl rfl rfl rfl rfl rfl ?_ | refine AP.cond_true rfl rfl ?_ | refine AP.cond_false rfl rfl ?_ | (refine AP.region rfl (by kernel_rfl) ?_; simp only [go_sem, Nat.reduceAdd, Nat.reduceLeDiff, reduceCtorEq]) | (refine AP.drawQ rfl rfl (by kernel_rfl) ?_; simp only [go_sem, Nat.reduceAdd, Nat.reduceLeDiff, reduceCtorEq]) | (refine vq_id ?_; simp only [go_sem, Nat.reduceAdd, Nat.reduceLeDiff, reduceCtorEq]) | (refine ⟨by first | omega | (intros; simp_all; done) | (intros; simp_all; omega), ?_⟩; try simp only [go_sem, Nat.reduceAdd, Nat.reduceLeDiff, reduceCtorEq]))
  all_goals refine AE.freeze 1 (el := 3) (es := 1) (rows := intR (vs.take (k + 1) ++ [v])) rfl (by simp only [go_sem, Nat.reduceAdd, Nat.reduceLeDiff, reduceCtorEq, intR_len, List.length_append, hlt]; first | done | trivial | omega | (simp; done) | (simp; omega)) (by simp only [go_sem, Nat.reduceAdd, Nat.reduceLeDiff, reduceCtorEq, intR_len, List.length_append, hlt]; first | done | trivial | omega | (simp; done) | (simp; omega)) ?_; simp only [go_sem, Nat.reduceAdd, Nat.reduceLeDiff, reduceCtorEq, intR_len, List.length_append, hlt]
  all_goals exact AE.ret0 rfl ⟨⟨rfl, Nat.le_of_ble_eq_true (by kernel_rfl)⟩, rfl, trivial⟩ rfl ⟨rfl, by rw [intR_T _ _ (by simp [hlt])]; rfl⟩
theorem fork_ref2 (l : List Int) (k : Nat) (hk : k + 1 ≤ l.length) (hl : l.length ≤ 1000000) : PFn Try.prog 23 [rA l k] (rA (l.take (k + 1)) k) := by
  have hw : IntKind.i64.wrap ((k : Int) + 1) = ((k + 1 : Nat) : Int) := by rw [wr (by omega)]; omega
  have hlt : (l.take (k + 1)).length = k + 1 := List.length_take_of_le (by omega)
  refine ACall.walk [0, 1, 2] [2] Try.func23 rfl Try.ntmps23 (by kernel_rfl) (by rfl) rfl fun W own I0 φ0 => ?_
  repeat (first | refine xPP rfl ?_ | refine xPE rfl ?_ | refine xEP rfl ?_ | refine xEE rfl ?_ | refine AQ.done ?_ | refine AQ.skip (by kernel_rfl) rfl ?_ | refine AQ.s2b (by kernel_rfl) rfl rfl rfl rfl ?_ | refine AQ.mark (by kernel_rfl) rfl rfl rfl rfl rfl rfl rfl ?_ | refine AP.cond_true rfl rfl ?_ | refine AP.cond_false rfl rfl ?_ | (refine AP.region rfl (by kernel_rfl) ?_; simp only [go_sem, Nat.reduceAdd, Nat.reduceLeDiff, reduceCtorEq]) | (refine AP.drawQ rfl rfl (by kernel_rfl) ?_; simp only [go_sem, Nat.reduceAdd, Nat.reduceLeDiff, reduceCtorEq]) | (refine vq_id ?_; simp only [go_sem, Nat.reduceAdd, Nat.reduceLeDiff, reduceCtorEq]) | (refine ⟨by first | omega | (intros; simp_all; done) | (intros; simp_all; omega), ?_⟩; try simp only [go_sem, Nat.reduceAdd, Nat.reduceLeDiff, reduceCtorEq]))
  refine AP.drawE 12 (Tree.node [] [1, 2, 3, 4, 5, 6, 8, 9] [0] [Tree.node [1, 2, 3, 4, 5, 6, 8, 9] [] [7] [Tree.node [8, 9] [10] [11] [Tree.node [] [] [] []]]]) (by kernel_rfl) rfl (by kernel_rfl) (by kernel_rfl) ?_
  refine vd_node ?_
  simp only [go_sem, Nat.reduceAdd, Nat.reduceLeDiff, reduceCtorEq, hw, Int.toNat_natCast, intR_take, intR_len]
  repeat' (first | with_reducible exact True.intro | with_reducible refine And.intro (by omega) ?_ | with_reducible refine And.intro ?_ ?_ | (refine AQ.nx rfl ?_; simp only [go_sem, Nat.reduceAdd, Nat.reduceLeDiff, reduceCtorEq, hw, Int.toNat_natCast, intR_take, intR_len, hlt]) | (refine AQ.append (hnb := rfl) (rows := []) (es := 0) (by kernel_rfl) rfl rfl rfl (by rfl) Try.tk22 Try.sz3 (by show Option.map _ (zro Try.prog 3) = _; rw [Try.zr3]; rfl) Try.by3 (by first | rfl | (simp only [intR_len, hlt, List.length_cons, List.length_nil]; done) | (simp only [intR_len, hlt, List.length_cons, List.length_nil]; omega)) (by simp only [intR_len, hlt, List.length_cons, List.length_nil]; omega) (by simp only [intR_len, hlt, List.length_cons, List.length_nil]; omega) ?_; simp only [go_sem, Nat.reduceAdd, Nat.reduceLeDiff, reduceCtorEq, List.nil_append, intR_len, hlt]) | refine AQ.done ?_ | (refine AQ.go (by kernel_rfl) ?_; simp only [go_sem, Nat.reduceAdd, Nat.reduceLeDiff, reduceCtorEq, hw, Int.toNat_natCast, intR_take, intR_len, hlt]; repeat (with_reducible refine And.intro (by omega) ?_); refine AQ.nx rfl ?_; simp only [go_sem, Nat.reduceAdd, Nat.reduceLeDiff, reduceCtorEq, hw, Int.toNat_natCast, intR_take, intR_len, hlt]))
  all_goals repeat (first | refine xPP rfl ?_ | refine xPE rfl ?_ | refine xEP rfl ?_ | refine xEE rfl ?_ | refine AQ.done ?_ | refine AQ.skip (by kernel_rfl) rfl ?_ | refine AQ.s2b (by kernel_rfl) rfl rfl rfl rfl ?_ | refine AQ.mark (by kernel_rfl) rfl rfl rfl rfl rfl rfl rfl ?_ | refine AP.cond_true rfl rfl ?_ | refine AP.cond_false rfl rfl ?_ | (refine AP.region rfl (by kernel_rfl) ?_; simp only [go_sem, Nat.reduceAdd, Nat.reduceLeDiff, reduceCtorEq]) | (refine AP.drawQ rfl rfl (by kernel_rfl) ?_; simp only [go_sem, Nat.reduceAdd, Nat.reduceLeDiff, reduceCtorEq]) | (refine vq_id ?_; simp only [go_sem, Nat.reduceAdd, Nat.reduceLeDiff, reduceCtorEq]) | (refine ⟨by first | omega | (intros; simp_all; done) | (intros; simp_all; omega), ?_⟩; try simp only [go_sem, Nat.reduceAdd, Nat.reduceLeDiff, reduceCtorEq]))
  all_goals refine AE.freeze 1 (el := 3) (es := 1) (rows := intR (l.take (k + 1))) rfl (by simp only [go_sem, Nat.reduceAdd, Nat.reduceLeDiff, reduceCtorEq, intR_len, hlt]; first | done | trivial | omega | (simp; done) | (simp; omega)) (by simp only [go_sem, Nat.reduceAdd, Nat.reduceLeDiff, reduceCtorEq, intR_len, hlt]; first | done | trivial | omega | (simp; done) | (simp; omega)) ?_; simp only [go_sem, Nat.reduceAdd, Nat.reduceLeDiff, reduceCtorEq, intR_len, hlt]
  all_goals exact AE.ret0 rfl ⟨⟨rfl, Nat.le_of_ble_eq_true (by kernel_rfl)⟩, trivial⟩ rfl ⟨rfl, by rw [intR_T _ _ (by simp [hlt])]; rfl⟩
end Go.Proofs.Ytfgffpkdjmeaoaa
end

section
namespace Go.Proofs.Ytfgffpkdjmeaoaa
open Go Go.AL Go.RowKit
set_option maxRecDepth 10000
set_option maxHeartbeats 8000000
structure MoveM where
  kind : Nat
  times : Nat
  val : Int
abbrev movR (m : MoveM) : List IV := [.v (.int .u8 m.kind), .v (.int .u16 m.times), Ii m.val]
def movsR (l : List MoveM) : List (List IV) := l.map movR
def movD : MoveM := ⟨0, 0, 0⟩
theorem movsR_len (l : List MoveM) : (movsR l).length = l.length := by simp [movsR]
theorem movsR_get (l : List MoveM) (k : Nat) (h : k < l.length) : (movsR l).getD k [] = movR (l.getD k movD) := by
  simp [movsR, List.getD_eq_getElem?_getD, h]
abbrev Mv (l : List MoveM) : AV := .im (.sl 3 (movsR l))
def cnt (m : MoveM) : Nat := m.times % 1100 + 1
theorem cnt_le (m : MoveM) : cnt m ≤ 1100 := by have := Nat.mod_lt m.times (show 0 < 1100 by omega); unfold cnt; omega
theorem newHis_spec (v : Int) : ACall Try.prog 15 [Iv v] [] (fun r' H' => H' = [(1, .var 113 [.os 0 1 0 1, Iv 0]), (0, .vec 3 1 (intR [v]))] ∧ r' = .ob 1 0) := by
  refine ACall.walk [0, 2] [4, 7] Try.func15 rfl Try.ntmps15 (by kernel_rfl) (by rfl) rfl fun W own I0 φ0 => ?_
  repeat (first | refine xPP rfl ?_ | refine xPE rfl ?_ | refine xEP rfl ?_ | refine xEE rfl ?_ | refine AQ.done ?_ | refine AQ.skip (by kernel_rfl) rfl ?_ | refine AQ.s2b (by kernel_rfl) rfl rfl rfl rfl ?_ | refine AQ.mark (by kernel_rfl) rfl rfl rfl rfl rfl rfl rfl ?_ | refine AP.cond_true rfl rfl ?_ | refine AP.cond_false rfl rfl ?_ | (refine AP.region rfl (by kernel_rfl) ?_; simp only [go_sem, Nat.reduceAdd, Nat.reduceLeDiff, reduceCtorEq]) | (refine AP.drawQ rfl rfl (by kernel_rfl) ?_; simp only [go_sem, Nat.reduceAdd, Nat.reduceLeDiff, reduceCtorEq]) | (refine vq_id ?_; simp only [go_sem, Nat.reduceAdd, Nat.reduceLeDiff, reduceCtorEq]) | (refine ⟨by first | omega | (intros; simp_all; done) | (intros; simp_all; omega), ?_⟩; try simp only [go_sem, Nat.reduceAdd, Nat.reduceLeDiff, reduceCtorEq]))
  exact AE.ret rfl ⟨rfl, trivial⟩ ⟨rfl, rfl⟩
theorem fork_spec (vs : List Int) (k : Nat) (hk : k < vs.length) (hl : vs.length ≤ 1000000) : ACall Try.prog 22 [.ob 0 0] (hisH 1 vs k) (fun r' H' => H' = [(3, .var 113 [.os 2 1 0 (k + 1), Iv k]), (2, .vec 3 1 (intR (vs.take (k + 1)))), (1, .vec 3 1 (intR vs)), (0, .var 113 [.os 1 1 0 vs.length, Iv k])] ∧ r' = .ob 3 0) := by
  have hw := wr (x := (k : Int) + 1) (by omega)
  have hm : (if (vs.length : Int) < (k : Int) + 1 then (vs.length : Int) else (k : Int) + 1) = ((k + 1 : Nat) : Int) := by split <;> omega
  have hlt : (vs.take (k + 1)).length = k + 1 := List.length_take_of_le (by omega)
  have hxs : (intR vs).take (k + 1) = intR (vs.take (k + 1)) := intR_take vs (k + 1)
  refine ACall.walk [0, 2, 3, 5] [32] Try.func22 rfl Try.ntmps22 (by kernel_rfl) (by rfl) rfl fun W own I0 φ0 => ?_
  simp only [go_sem, Nat.reduceAdd, Nat.reduceLeDiff, reduceCtorEq, hisH]
  repeat (first | refine xPP rfl ?_ | refine xPE rfl ?_ | refine xEP rfl ?_ | refine xEE rfl ?_ | refine AQ.done ?_ | refine AQ.skip (by kernel_rfl) rfl ?_ | refine AQ.s2b (by kernel_rfl) rfl rfl rfl rfl ?_ | refine AQ.mark (by kernel_rfl) rfl rfl rfl rfl rfl rfl rfl ?_ | refine AP.cond_true rfl rfl ?_ | refine AP.cond_false rfl rfl ?_ | (refine AP.region rfl (by kernel_rfl) ?_; simp only [go_sem, Nat.reduceAdd, Nat.reduceLeDiff, reduceCtorEq, hw, hm, Int.toNat_natCast]) | (refine AP.drawQ rfl rfl (by kernel_rfl) ?_; simp only [go_sem, Nat.reduceAdd, Nat.reduceLeDiff, reduceCtorEq, hw, hm, Int.toNat_natCast]) | (refine vq_id ?_; simp only [go_sem, Nat.reduceAdd, Nat.reduceLeDiff, reduceCtorEq, hw, hm, Int.toNat_natCast]) | (refine ⟨by first | omega | (intros; simp_all; done) | (intros; simp_all; omega), ?_⟩; try simp only [go_sem, Nat.reduceAdd, Nat.reduceLeDiff, reduceCtorEq, hw, hm, Int.toNat_natCast]))
  refine AP.drawE 16 (Tree.node [] [0, 1, 2, 3, 4, 5, 6, 9, 10, 11, 12] [7] [Tree.node [9, 10, 11, 12] [8, 13] [14] [Tree.node [] [15] [] []]]) (by kernel_rfl) rfl (by kernel_rfl) (by kernel_rfl) ?_
  refine vd_node ?_
  simp only [go_sem, Nat.reduceAdd, Nat.reduceLeDiff, reduceCtorEq, hw, hm, Int.toNat_natCast]
  repeat' (first | with_reducible exact True.intro | with_reducible refine And.intro (by omega) ?_ | with_reducible refine And.intro ?_ ?_ | (refine AQ.nx rfl ?_; simp only [go_sem, Nat.reduceAdd, Nat.reduceLeDiff, reduceCtorEq]) | (refine AQ.appendNO (es := 0) (by kernel_rfl) rfl rfl rfl (by rw [intR_len]; omega) hxs rfl Try.tk22 Try.sz3 (by show Option.map _ (zro Try.prog 3) = _; rw [Try.zr3]; rfl) Try.by3 (by rw [intR_len]; omega) (by rw [intR_len]; omega) ?_; simp only [go_sem, Nat.reduceAdd, Nat.reduceLeDiff, reduceCtorEq, intR_len, hlt]) | refine AQ.done ?_ | (refine AQ.go (by kernel_rfl) ?_; simp only [go_sem, Nat.reduceAdd, Nat.reduceLeDiff, reduceCtorEq]; repeat (with_reducible refine And.intro (by omega) ?_); refine AQ.nx rfl ?_; simp only [go_sem, Nat.reduceAdd, Nat.reduceLeDiff, reduceCtorEq]))
  repeat (first | refine xPP rfl ?_ | refine xPE rfl ?_ | refine xEP rfl ?_ | refine xEE rfl ?_ | refine AQ.done ?_ | refine AQ.skip (by kernel_rfl) rfl ?_ | refine AQ.s2b (by kernel_rfl) rfl rfl rfl rfl ?_ | refine AQ.mark (by kernel_rfl) rfl rfl rfl rfl rfl rfl rfl ?_ | refine AP.cond_true rfl rfl ?_ | refine AP.cond_false rfl rfl ?_ | (refine AP.region rfl (by kernel_rfl) ?_; simp only [go_sem, Nat.reduceAdd, Nat.reduceLeDiff, reduceCtorEq]) | (refine AP.drawQ rfl rfl (by kernel_rfl) ?_; simp only [go_sem, Nat.reduceAdd, Nat.reduceLeDiff, reduceCtorEq]) | (refine vq_id ?_; simp only [go_sem, Nat.reduceAdd, Nat.reduceLeDiff, reduceCtorEq]) | (refine ⟨by first | omega | (intros; simp_all; done) | (intros; simp_all; omega), ?_⟩; try simp only [go_sem, Nat.reduceAdd, Nat.reduceLeDiff, reduceCtorEq]))
  exact AE.ret rfl ⟨rfl, trivial⟩ ⟨rfl, rfl⟩
end Go.Proofs.Ytfgffpkdjmeaoaa
end

section
namespace Go.Proofs.Ytfgffpkdjmeaoaa
open Go Go.AL Go.RowKit
set_option maxRecDepth 10000
set_option maxHeartbeats 16000000
def sumC (l : List MoveM) : Nat := (l.map cnt).foldl (· + ·) 0
theorem sumC_snoc (l : List MoveM) (k : Nat) (h : k < l.length) : sumC (l.take (k + 1)) = sumC (l.take k) + cnt (l.getD k movD) := by
  have e : l.take (k + 1) = l.take k ++ [l.getD k movD] := by
    rw [List.take_add_one, List.getElem?_eq_getElem h, List.getD_eq_getElem?_getD, List.getElem?_eq_getElem h]; rfl
  rw [sumC, e, List.map_append, List.foldl_append]; rfl
theorem sumC_le (l : List MoveM) : ∀ k, k ≤ l.length → sumC (l.take k) ≤ 1100 * k
  | 0, _ => by simp [sumC]
  | k + 1, h => by
    have := sumC_le l k (by omega)
    have := cnt_le (l.getD k movD)
    rw [sumC_snoc l k (by omega)]; omega
noncomputable def h3 (vs : List Int) (at' : Nat) : Heap := [(0, .var 113 [.os 1 1 0 vs.length, Iv at']), (1, .vec 3 1 (intR vs)), (2, .var 40 [.im (.sl 1 (intR vs)), Iv at'])]
noncomputable def hH (vs : List Int) (at' : Nat) (m : MoveM) : Heap := [(0, .var 113 [.os 1 1 0 vs.length, Iv at']), (1, .vec 3 1 (intR vs)), (2, .var 40 [.im (.sl 1 (intR vs)), Iv at']), (3, .var 36 [.im (.v (.int .u8 m.kind)), .im (.v (.int .u16 m.times)), Iv m.val])]
theorem hist_walk (first : Int) (l : List MoveM) (ho : ∀ m ∈ l, m.kind < 256 ∧ m.times < 65536) (hl : l.length ≤ 9223372036854775807) : PFn Try.prog 4 [Iv first, Mv l] (Bv true) := by
  refine ACall.walk [0, 1, 4, 5, 7, 8, 9, 11, 12, 13, 14, 15, 16, 17, 18, 19, 20, 21, 22, 23, 40, 47, 48, 49, 50, 57, 58, 59, 62, 69, 83, 92, 101, 136] [7, 9, 11] Try.func4 rfl Try.ntmps4 (by kernel_rfl) (by rfl) rfl fun W own I0 φ0 => ?_
  repeat (first | refine xPP rfl ?_ | refine xPE rfl ?_ | refine xEP rfl ?_ | refine xEE rfl ?_ | refine AQ.done ?_ | refine AQ.skip (by kernel_rfl) rfl ?_ | refine AQ.s2b (by kernel_rfl) rfl rfl rfl rfl ?_ | refine AQ.mark (by kernel_rfl) rfl rfl rfl rfl rfl rfl rfl ?_ | refine AP.cond_true rfl rfl ?_ | refine AP.cond_false rfl rfl ?_ | (refine AP.region rfl (by kernel_rfl) ?_; simp only [go_sem, Nat.reduceAdd, Nat.reduceLeDiff, reduceCtorEq]) | (refine AP.drawQ rfl rfl (by kernel_rfl) ?_; simp only [go_sem, Nat.reduceAdd, Nat.reduceLeDiff, reduceCtorEq]) | (refine vq_id ?_; simp only [go_sem, Nat.reduceAdd, Nat.reduceLeDiff, reduceCtorEq]) | (refine ⟨by first | omega | (intros; simp_all; done) | (intros; simp_all; omega), ?_⟩; try simp only [go_sem, Nat.reduceAdd, Nat.reduceLeDiff, reduceCtorEq]))
  refine AP.loop rfl (α := Nat × Int) (fun p => [(0, Iv first), (1, Mv l), (5, Iv p.2), (20, Mv l), (21, Iv (movsR l).length), (22, Iv p.1)]) (fun _ => []) (fun p => p.1 ≤ l.length ∧ (l.length ≤ 40 → p.2 = (sumC (l.take p.1) : Nat))) (fun p => l.length - p.1) (0, 0) ⟨by omega, fun _ => rfl⟩ (by repeat (first | exact Sub.nil _ | refine Sub.cons rfl ?_)) rfl fun p hp => ?_
  obtain ⟨k, c⟩ := p
  obtain ⟨hk, hcs⟩ := hp
  simp only at hk hcs ⊢
  repeat (first | refine xPP rfl ?_ | refine xPE rfl ?_ | refine xEP rfl ?_ | refine xEE rfl ?_ | refine AQ.done ?_ | refine AQ.skip (by kernel_rfl) rfl ?_ | refine AQ.s2b (by kernel_rfl) rfl rfl rfl rfl ?_ | refine AQ.mark (by kernel_rfl) rfl rfl rfl rfl rfl rfl rfl ?_ | refine AP.cond_true rfl rfl ?_ | refine AP.cond_false rfl rfl ?_ | (refine AP.region rfl (by kernel_rfl) ?_; simp only [go_sem, Nat.reduceAdd, Nat.reduceLeDiff, reduceCtorEq, movsR_len]) | (refine AP.drawQ rfl rfl (by kernel_rfl) ?_; simp only [go_sem, Nat.reduceAdd, Nat.reduceLeDiff, reduceCtorEq, movsR_len]) | (refine vq_id ?_; simp only [go_sem, Nat.reduceAdd, Nat.reduceLeDiff, reduceCtorEq, movsR_len]) | (refine ⟨by first | omega | (intros; simp_all; done) | (intros; simp_all; omega), ?_⟩; try simp only [go_sem, Nat.reduceAdd, Nat.reduceLeDiff, reduceCtorEq, movsR_len]))
  refine AP.cond rfl rfl (fun hc => ?_) (fun hc => ?_)
  · have hk' : k < l.length := by simp at hc; omega
    have hw := wr (x := (k : Int) + 1) (by omega)
    have hg := movsR_get l k hk'
    have hm1 : ((l.getD k movD).times : Int).tmod 1100 = (((l.getD k movD).times % 1100 : Nat) : Int) := rfl
    have hlt := Nat.mod_lt (l.getD k movD).times (show 0 < 1100 by omega)
    have hw2 := wr (x := (((l.getD k movD).times % 1100 : Nat) : Int)) (by omega)
    have hw3 : IntKind.i64.wrap ((((l.getD k movD).times % 1100 : Nat) : Int) + 1) = ((cnt (l.getD k movD) : Nat) : Int) := by rw [wr (by omega)]; unfold cnt; omega
    repeat (first | refine xPP rfl ?_ | refine xPE rfl ?_ | refine xEP rfl ?_ | refine xEE rfl ?_ | refine AQ.done ?_ | refine AQ.skip (by kernel_rfl) rfl ?_ | refine AQ.s2b (by kernel_rfl) rfl rfl rfl rfl ?_ | refine AQ.mark (by kernel_rfl) rfl rfl rfl rfl rfl rfl rfl ?_ | refine AP.cond_true rfl rfl ?_ | refine AP.cond_false rfl rfl ?_ | (refine AP.region rfl (by kernel_rfl) ?_; simp only [go_sem, Nat.reduceAdd, Nat.reduceLeDiff, reduceCtorEq, hg, movsR_len, hm1, hw2, hw3, hw]) | (refine AP.drawQ rfl rfl (by kernel_rfl) ?_; simp only [go_sem, Nat.reduceAdd, Nat.reduceLeDiff, reduceCtorEq, hg, movsR_len, hm1, hw2, hw3, hw]) | (refine vq_id ?_; simp only [go_sem, Nat.reduceAdd, Nat.reduceLeDiff, reduceCtorEq, hg, movsR_len, hm1, hw2, hw3, hw]) | (refine ⟨by first | omega | (intros; simp_all; done) | (intros; simp_all; omega), ?_⟩; try simp only [go_sem, Nat.reduceAdd, Nat.reduceLeDiff, reduceCtorEq, hg, movsR_len, hm1, hw2, hw3, hw]))
    refine AE.forgets [0] rfl ?_
    simp only [go_sem, Nat.reduceAdd, Nat.reduceLeDiff, reduceCtorEq]
    refine AE.round (k + 1, IntKind.i64.wrap (c + ((cnt (l.getD k movD) : Nat) : Int))) ⟨by simp only; omega, fun h40 => ?_⟩ (by simp only; omega) (by repeat (first | exact Sub.nil _ | refine Sub.cons rfl ?_)) rfl
    have h1 := hcs h40
    have h2 := sumC_le l k hk
    have h3 := cnt_le (l.getD k movD)
    simp only
    rw [sumC_snoc l k hk', h1, wr (by omega)]; omega
  repeat (first | refine xPP rfl ?_ | refine xPE rfl ?_ | refine xEP rfl ?_ | refine xEE rfl ?_ | refine AQ.done ?_ | refine AQ.skip (by kernel_rfl) rfl ?_ | refine AQ.s2b (by kernel_rfl) rfl rfl rfl rfl ?_ | refine AQ.mark (by kernel_rfl) rfl rfl rfl rfl rfl rfl rfl ?_ | refine AP.cond_true rfl rfl ?_ | refine AP.cond_false rfl rfl ?_ | (refine AP.region rfl (by kernel_rfl) ?_; simp only [go_sem, Nat.reduceAdd, Nat.reduceLeDiff, reduceCtorEq, movsR_len]) | (refine AP.drawQ rfl rfl (by kernel_rfl) ?_; simp only [go_sem, Nat.reduceAdd, Nat.reduceLeDiff, reduceCtorEq, movsR_len]) | (refine vq_id ?_; simp only [go_sem, Nat.reduceAdd, Nat.reduceLeDiff, reduceCtorEq, movsR_len]) | (refine ⟨by first | omega | (intros; simp_all; done) | (intros; simp_all; omega), ?_⟩; try simp only [go_sem, Nat.reduceAdd, Nat.reduceLeDiff, reduceCtorEq, movsR_len]))
  refine AP.cond rfl rfl (fun hf => ?_) (fun hf => ?_)
  · repeat (first | refine xPP rfl ?_ | refine xPE rfl ?_ | refine xEP rfl ?_ | refine xEE rfl ?_ | refine AQ.done ?_ | refine AQ.skip (by kernel_rfl) rfl ?_ | refine AQ.s2b (by kernel_rfl) rfl rfl rfl rfl ?_ | refine AQ.mark (by kernel_rfl) rfl rfl rfl rfl rfl rfl rfl ?_ | refine AP.cond_true rfl rfl ?_ | refine AP.cond_false rfl rfl ?_ | (refine AP.region rfl (by kernel_rfl) ?_; simp only [go_sem, Nat.reduceAdd, Nat.reduceLeDiff, reduceCtorEq]) | (refine AP.drawQ rfl rfl (by kernel_rfl) ?_; simp only [go_sem, Nat.reduceAdd, Nat.reduceLeDiff, reduceCtorEq]) | (refine vq_id ?_; simp only [go_sem, Nat.reduceAdd, Nat.reduceLeDiff, reduceCtorEq]) | (refine ⟨by first | omega | (intros; simp_all; done) | (intros; simp_all; omega), ?_⟩; try simp only [go_sem, Nat.reduceAdd, Nat.reduceLeDiff, reduceCtorEq]))
    refine AQ.fn (by kernel_rfl) rfl rfl rfl (awake_spec) rfl ?_
    repeat (first | refine xPP rfl ?_ | refine xPE rfl ?_ | refine xEP rfl ?_ | refine xEE rfl ?_ | refine AQ.done ?_ | refine AQ.skip (by kernel_rfl) rfl ?_ | refine AQ.s2b (by kernel_rfl) rfl rfl rfl rfl ?_ | refine AQ.mark (by kernel_rfl) rfl rfl rfl rfl rfl rfl rfl ?_ | refine AP.cond_true rfl rfl ?_ | refine AP.cond_false rfl rfl ?_ | (refine AP.region rfl (by kernel_rfl) ?_; simp only [go_sem, Nat.reduceAdd, Nat.reduceLeDiff, reduceCtorEq]) | (refine AP.drawQ rfl rfl (by kernel_rfl) ?_; simp only [go_sem, Nat.reduceAdd, Nat.reduceLeDiff, reduceCtorEq]) | (refine vq_id ?_; simp only [go_sem, Nat.reduceAdd, Nat.reduceLeDiff, reduceCtorEq]) | (refine ⟨by first | omega | (intros; simp_all; done) | (intros; simp_all; omega), ?_⟩; try simp only [go_sem, Nat.reduceAdd, Nat.reduceLeDiff, reduceCtorEq]))
    exact AE.ret0 rfl ⟨rfl, trivial⟩ rfl ⟨rfl, rfl⟩
  have hl40 : l.length ≤ 40 := by simp at hf; omega
  clear hf hcs hc
  repeat (first | refine xPP rfl ?_ | refine xPE rfl ?_ | refine xEP rfl ?_ | refine xEE rfl ?_ | refine AQ.done ?_ | refine AQ.skip (by kernel_rfl) rfl ?_ | refine AQ.s2b (by kernel_rfl) rfl rfl rfl rfl ?_ | refine AQ.mark (by kernel_rfl) rfl rfl rfl rfl rfl rfl rfl ?_ | refine AP.cond_true rfl rfl ?_ | refine AP.cond_false rfl rfl ?_ | (refine AP.region rfl (by kernel_rfl) ?_; simp only [go_sem, Nat.reduceAdd, Nat.reduceLeDiff, reduceCtorEq]) | (refine AP.drawQ rfl rfl (by kernel_rfl) ?_; simp only [go_sem, Nat.reduceAdd, Nat.reduceLeDiff, reduceCtorEq]) | (refine vq_id ?_; simp only [go_sem, Nat.reduceAdd, Nat.reduceLeDiff, reduceCtorEq]) | (refine ⟨by first | omega | (intros; simp_all; done) | (intros; simp_all; omega), ?_⟩; try simp only [go_sem, Nat.reduceAdd, Nat.reduceLeDiff, reduceCtorEq]))
  refine AQ.callv (by kernel_rfl) rfl rfl rfl (newHis_spec first) fun r' H' ⟨e1, e2⟩ => ?_
  subst e1; subst e2
  simp only [go_sem, Nat.reduceAdd, Nat.reduceLeDiff, reduceCtorEq]
  repeat (first | refine xPP rfl ?_ | refine xPE rfl ?_ | refine xEP rfl ?_ | refine xEE rfl ?_ | refine AQ.done ?_ | refine AQ.skip (by kernel_rfl) rfl ?_ | refine AQ.s2b (by kernel_rfl) rfl rfl rfl rfl ?_ | refine AQ.mark (by kernel_rfl) rfl rfl rfl rfl rfl rfl rfl ?_ | refine AP.cond_true rfl rfl ?_ | refine AP.cond_false rfl rfl ?_ | (refine AP.region rfl (by kernel_rfl) ?_; simp only [go_sem, Nat.reduceAdd, Nat.reduceLeDiff, reduceCtorEq]) | (refine AP.drawQ rfl rfl (by kernel_rfl) ?_; simp only [go_sem, Nat.reduceAdd, Nat.reduceLeDiff, reduceCtorEq]) | (refine vq_id ?_; simp only [go_sem, Nat.reduceAdd, Nat.reduceLeDiff, reduceCtorEq]) | (refine ⟨by first | omega | (intros; simp_all; done) | (intros; simp_all; omega), ?_⟩; try simp only [go_sem, Nat.reduceAdd, Nat.reduceLeDiff, reduceCtorEq]))
  refine AP.rename 0 7 rfl rfl rfl ?_
  simp only [go_sem, Nat.reduceAdd, Nat.reduceLeDiff, reduceCtorEq]
  refine AP.rename 1 0 rfl rfl rfl ?_
  simp only [go_sem, Nat.reduceAdd, Nat.reduceLeDiff, reduceCtorEq]
  refine AP.rename 7 1 rfl rfl rfl ?_
  simp only [go_sem, Nat.reduceAdd, Nat.reduceLeDiff, reduceCtorEq]
  refine AP.order [0, 1, 2] rfl ?_
  simp only [go_sem, Nat.reduceAdd, Nat.reduceLeDiff, reduceCtorEq]
  refine AP.loop rfl (α := Nat × List Int × Nat) (fun p => [(1, Mv l), (8, .ob 0 0), (9, .ob 2 0), (47, Mv l), (48, Iv (movsR l).length), (49, Iv p.1)]) (fun p => h3 p.2.1 p.2.2) (fun p => p.1 ≤ l.length ∧ p.2.2 < p.2.1.length ∧ p.2.1.length ≤ 1000) (fun p => l.length - p.1) (0, [first], 0) ⟨by omega, by simp, by simp⟩ (by repeat (first | exact Sub.nil _ | refine Sub.cons rfl ?_)) rfl fun p hp => ?_
  obtain ⟨k, vs, n⟩ := p
  obtain ⟨hk, hn, hv⟩ := hp
  simp only at hk hn hv ⊢
  simp only [go_sem, Nat.reduceAdd, Nat.reduceLeDiff, reduceCtorEq, h3]
  repeat (first | refine xPP rfl ?_ | refine xPE rfl ?_ | refine xEP rfl ?_ | refine xEE rfl ?_ | refine AQ.done ?_ | refine AQ.skip (by kernel_rfl) rfl ?_ | refine AQ.s2b (by kernel_rfl) rfl rfl rfl rfl ?_ | refine AQ.mark (by kernel_rfl) rfl rfl rfl rfl rfl rfl rfl ?_ | refine AP.cond_true rfl rfl ?_ | refine AP.cond_false rfl rfl ?_ | (refine AP.region rfl (by kernel_rfl) ?_; simp only [go_sem, Nat.reduceAdd, Nat.reduceLeDiff, reduceCtorEq, movsR_len]) | (refine AP.drawQ rfl rfl (by kernel_rfl) ?_; simp only [go_sem, Nat.reduceAdd, Nat.reduceLeDiff, reduceCtorEq, movsR_len]) | (refine vq_id ?_; simp only [go_sem, Nat.reduceAdd, Nat.reduceLeDiff, reduceCtorEq, movsR_len]) | (refine ⟨by first | omega | (intros; simp_all; done) | (intros; simp_all; omega), ?_⟩; try simp only [go_sem, Nat.reduceAdd, Nat.reduceLeDiff, reduceCtorEq, movsR_len]))
  refine AP.cond rfl rfl (fun hc => ?_) (fun hc => ?_)
  · have hk' : k < l.length := by simp at hc; omega
    have hw := wr (x := (k : Int) + 1) (by omega)
    have hg := movsR_get l k hk'
    obtain ⟨m, hme⟩ : ∃ m, l.getD k movD = m := ⟨_, rfl⟩
    have hmk : m.kind < 256 ∧ m.times < 65536 := by rw [← hme]; exact ho _ (by rw [List.getD_eq_getElem?_getD, List.getElem?_eq_getElem hk']; simp)
    rw [hme] at hg
    have hm1 : (m.times : Int).tmod 1100 = ((m.times % 1100 : Nat) : Int) := rfl
    have hlt := Nat.mod_lt m.times (show 0 < 1100 by omega)
    have hw2 := wr (x := ((m.times % 1100 : Nat) : Int)) (by omega)
    have hw3 : IntKind.i64.wrap (((m.times % 1100 : Nat) : Int) + 1) = ((cnt m : Nat) : Int) := by rw [wr (by omega)]; unfold cnt; omega
    have hcm := cnt_le m
    repeat (first | refine xPP rfl ?_ | refine xPE rfl ?_ | refine xEP rfl ?_ | refine xEE rfl ?_ | refine AQ.done ?_ | refine AQ.skip (by kernel_rfl) rfl ?_ | refine AQ.s2b (by kernel_rfl) rfl rfl rfl rfl ?_ | refine AQ.mark (by kernel_rfl) rfl rfl rfl rfl rfl rfl rfl ?_ | refine AP.cond_true rfl rfl ?_ | refine AP.cond_false rfl rfl ?_ | (refine AP.region rfl (by kernel_rfl) ?_; simp only [go_sem, Nat.reduceAdd, Nat.reduceLeDiff, reduceCtorEq, hg, movsR_len, hm1, hw2, hw3]) | (refine AP.drawQ rfl rfl (by kernel_rfl) ?_; simp only [go_sem, Nat.reduceAdd, Nat.reduceLeDiff, reduceCtorEq, hg, movsR_len, hm1, hw2, hw3]) | (refine vq_id ?_; simp only [go_sem, Nat.reduceAdd, Nat.reduceLeDiff, reduceCtorEq, hg, movsR_len, hm1, hw2, hw3]) | (refine ⟨by first | omega | (intros; simp_all; done) | (intros; simp_all; omega), ?_⟩; try simp only [go_sem, Nat.reduceAdd, Nat.reduceLeDiff, reduceCtorEq, hg, movsR_len, hm1, hw2, hw3]))
    refine AP.order [0, 1, 2, 3] rfl ?_
    simp only [go_sem, Nat.reduceAdd, Nat.reduceLeDiff, reduceCtorEq]
    refine AP.loop rfl (α := Nat × List Int × Nat) (fun p => [(1, Mv l), (8, .ob 0 0), (9, .ob 2 0), (11, .ob 3 0), (47, Mv l), (48, Iv l.length), (49, Iv k), (57, Iv (cnt m)), (58, Iv p.1)]) (fun p => hH p.2.1 p.2.2 m) (fun p => p.1 ≤ cnt m ∧ p.2.2 < p.2.1.length ∧ p.2.1.length ≤ 1000) (fun p => cnt m - p.1) (0, vs, n) ⟨by omega, hn, hv⟩ (by repeat (first | exact Sub.nil _ | refine Sub.cons rfl ?_)) rfl fun p hp => ?_
    clear hn hv vs n
    obtain ⟨j, vs, n⟩ := p
    obtain ⟨hj, hn, hv⟩ := hp
    simp only at hj hn hv ⊢
    simp only [go_sem, Nat.reduceAdd, Nat.reduceLeDiff, reduceCtorEq, hH]
    repeat (first | refine xPP rfl ?_ | refine xPE rfl ?_ | refine xEP rfl ?_ | refine xEE rfl ?_ | refine AQ.done ?_ | refine AQ.skip (by kernel_rfl) rfl ?_ | refine AQ.s2b (by kernel_rfl) rfl rfl rfl rfl ?_ | refine AQ.mark (by kernel_rfl) rfl rfl rfl rfl rfl rfl rfl ?_ | refine AP.cond_true rfl rfl ?_ | refine AP.cond_false rfl rfl ?_ | (refine AP.region rfl (by kernel_rfl) ?_; simp only [go_sem, Nat.reduceAdd, Nat.reduceLeDiff, reduceCtorEq]) | (refine AP.drawQ rfl rfl (by kernel_rfl) ?_; simp only [go_sem, Nat.reduceAdd, Nat.reduceLeDiff, reduceCtorEq]) | (refine vq_id ?_; simp only [go_sem, Nat.reduceAdd, Nat.reduceLeDiff, reduceCtorEq]) | (refine ⟨by first | omega | (intros; simp_all; done) | (intros; simp_all; omega), ?_⟩; try simp only [go_sem, Nat.reduceAdd, Nat.reduceLeDiff, reduceCtorEq]))
    refine AP.cond rfl rfl (fun hd => ?_) (fun hd => ?_)
    · have hj' : j < cnt m := by simp at hd; omega
      have hwj := wr (x := (j : Int) + 1) (by omega)
      have m3 : (m.kind : Int).tmod (6 : Int) = ((m.kind % 6 : Nat) : Int) := rfl
      have hq6 := Nat.mod_lt m.kind (show 0 < 6 by omega)
      repeat (first | refine xPP rfl ?_ | refine xPE rfl ?_ | refine xEP rfl ?_ | refine xEE rfl ?_ | refine AQ.done ?_ | refine AQ.skip (by kernel_rfl) rfl ?_ | refine AQ.s2b (by kernel_rfl) rfl rfl rfl rfl ?_ | refine AQ.mark (by kernel_rfl) rfl rfl rfl rfl rfl rfl rfl ?_ | refine AP.cond_true rfl rfl ?_ | refine AP.cond_false rfl rfl ?_ | (refine AP.region rfl (by kernel_rfl) ?_; simp only [go_sem, Nat.reduceAdd, Nat.reduceLeDiff, reduceCtorEq, m3]) | (refine AP.drawQ rfl rfl (by kernel_rfl) ?_; simp only [go_sem, Nat.reduceAdd, Nat.reduceLeDiff, reduceCtorEq, m3]) | (refine vq_id ?_; simp only [go_sem, Nat.reduceAdd, Nat.reduceLeDiff, reduceCtorEq, m3]) | (refine ⟨by first | omega | (intros; simp_all; done) | (intros; simp_all; omega), ?_⟩; try simp only [go_sem, Nat.reduceAdd, Nat.reduceLeDiff, reduceCtorEq, m3]))
      generalize m.kind % 6 = q at *
      have hq : q = 0 ∨ q = 1 ∨ q = 2 ∨ q = 3 ∨ q = 4 ∨ q = 5 := by omega
      rcases hq with rfl | rfl | rfl | rfl | rfl | rfl
      · have f0 : (((0 : Nat) : Int) == 0) = true := rfl
        by_cases h9 : n = 999
        · subst h9
          have hcf := commit_full vs 999 m.val (by omega)
          have hcur := current_spec (vs) (999) (hn) (by omega)
          have hget := intR_get (vs) (999) (hn)
          simp only [go_sem, Nat.reduceAdd, Nat.reduceLeDiff, reduceCtorEq, hisH] at hcur
          simp only [go_sem, Nat.reduceAdd, Nat.reduceLeDiff, reduceCtorEq, hisH] at hcf
          repeat (first | refine xPP rfl ?_ | refine xPE rfl ?_ | refine xEP rfl ?_ | refine xEE rfl ?_ | refine AQ.done ?_ | refine AQ.skip (by kernel_rfl) rfl ?_ | refine AQ.s2b (by kernel_rfl) rfl rfl rfl rfl ?_ | refine AQ.mark (by kernel_rfl) rfl rfl rfl rfl rfl rfl rfl ?_ | refine AP.cond_true rfl rfl ?_ | refine AP.cond_false rfl rfl ?_ | (refine AP.region rfl (by kernel_rfl) ?_; simp only [go_sem, Nat.reduceAdd, Nat.reduceLeDiff, reduceCtorEq, f0]) | (refine AP.drawQ rfl rfl (by kernel_rfl) ?_; simp only [go_sem, Nat.reduceAdd, Nat.reduceLeDiff, reduceCtorEq, f0]) | (refine vq_id ?_; simp only [go_sem, Nat.reduceAdd, Nat.reduceLeDiff, reduceCtorEq, f0]) | (refine ⟨by first | omega | (intros; simp_all; done) | (intros; simp_all; omega), ?_⟩; try simp only [go_sem, Nat.reduceAdd, Nat.reduceLeDiff, reduceCtorEq, f0]))
          refine AQ.callH [(1, 1), (0, 0)] (by kernel_rfl) rfl rfl rfl rfl rfl rfl (by exact ⟨rfl, rfl, trivial⟩) rfl hcf ?_
          rintro r' H' ⟨e1, e2⟩
          subst e1; subst e2
          refine ⟨rfl, ?_⟩
          simp only [go_sem, Nat.reduceAdd, Nat.reduceLeDiff, reduceCtorEq, hisH]
          repeat (first | refine xPP rfl ?_ | refine xPE rfl ?_ | refine xEP rfl ?_ | refine xEE rfl ?_ | refine AQ.done ?_ | refine AQ.skip (by kernel_rfl) rfl ?_ | refine AQ.s2b (by kernel_rfl) rfl rfl rfl rfl ?_ | refine AQ.mark (by kernel_rfl) rfl rfl rfl rfl rfl rfl rfl ?_ | refine AP.cond_true rfl rfl ?_ | refine AP.cond_false rfl rfl ?_ | (refine AP.region rfl (by kernel_rfl) ?_; simp only [go_sem, Nat.reduceAdd, Nat.reduceLeDiff, reduceCtorEq]) | (refine AP.drawQ rfl rfl (by kernel_rfl) ?_; simp only [go_sem, Nat.reduceAdd, Nat.reduceLeDiff, reduceCtorEq]) | (refine vq_id ?_; simp only [go_sem, Nat.reduceAdd, Nat.reduceLeDiff, reduceCtorEq]) | (refine ⟨by first | omega | (intros; simp_all; done) | (intros; simp_all; omega), ?_⟩; try simp only [go_sem, Nat.reduceAdd, Nat.reduceLeDiff, reduceCtorEq]))
          refine AQ.fn (by kernel_rfl) rfl rfl rfl (commit_ref0 vs m.val) rfl ?_
          repeat (first | refine xPP rfl ?_ | refine xPE rfl ?_ | refine xEP rfl ?_ | refine xEE rfl ?_ | refine AQ.done ?_ | refine AQ.skip (by kernel_rfl) rfl ?_ | refine AQ.s2b (by kernel_rfl) rfl rfl rfl rfl ?_ | refine AQ.mark (by kernel_rfl) rfl rfl rfl rfl rfl rfl rfl ?_ | refine AP.cond_true rfl rfl ?_ | refine AP.cond_false rfl rfl ?_ | (refine AP.region rfl (by kernel_rfl) ?_; simp only [go_sem, Nat.reduceAdd, Nat.reduceLeDiff, reduceCtorEq]) | (refine AP.drawQ rfl rfl (by kernel_rfl) ?_; simp only [go_sem, Nat.reduceAdd, Nat.reduceLeDiff, reduceCtorEq]) | (refine vq_id ?_; simp only [go_sem, Nat.reduceAdd, Nat.reduceLeDiff, reduceCtorEq]) | (refine ⟨by first | omega | (intros; simp_all; done) | (intros; simp_all; omega), ?_⟩; try simp only [go_sem, Nat.reduceAdd, Nat.reduceLeDiff, reduceCtorEq]))
          refine AQ.callH [(1, 1), (0, 0)] (by kernel_rfl) rfl rfl rfl rfl rfl rfl (by exact ⟨rfl, rfl, trivial⟩) rfl hcur ?_
          rintro r' H' ⟨e1, e2⟩
          subst e1; subst e2
          refine ⟨rfl, ?_⟩
          simp only [go_sem, Nat.reduceAdd, Nat.reduceLeDiff, reduceCtorEq, hisH]
          repeat (first | refine xPP rfl ?_ | refine xPE rfl ?_ | refine xEP rfl ?_ | refine xEE rfl ?_ | refine AQ.done ?_ | refine AQ.skip (by kernel_rfl) rfl ?_ | refine AQ.s2b (by kernel_rfl) rfl rfl rfl rfl ?_ | refine AQ.mark (by kernel_rfl) rfl rfl rfl rfl rfl rfl rfl ?_ | refine AP.cond_true rfl rfl ?_ | refine AP.cond_false rfl rfl ?_ | (refine AP.region rfl (by kernel_rfl) ?_; simp only [go_sem, Nat.reduceAdd, Nat.reduceLeDiff, reduceCtorEq, hget, Int.toNat_natCast, intR_len, bne_self_eq_false, hwj]) | (refine AP.drawQ rfl rfl (by kernel_rfl) ?_; simp only [go_sem, Nat.reduceAdd, Nat.reduceLeDiff, reduceCtorEq, hget, Int.toNat_natCast, intR_len, bne_self_eq_false, hwj]) | (refine vq_id ?_; simp only [go_sem, Nat.reduceAdd, Nat.reduceLeDiff, reduceCtorEq, hget, Int.toNat_natCast, intR_len, bne_self_eq_false, hwj]) | (refine ⟨by first | omega | (intros; simp_all; done) | (intros; simp_all; omega), ?_⟩; try simp only [go_sem, Nat.reduceAdd, Nat.reduceLeDiff, reduceCtorEq, hget, Int.toNat_natCast, intR_len, bne_self_eq_false, hwj]))
          simp only [go_sem, Nat.reduceAdd, Nat.reduceLeDiff, reduceCtorEq]
          refine AE.order [0, 1, 2, 3] rfl ?_
          simp only [go_sem, Nat.reduceAdd, Nat.reduceLeDiff, reduceCtorEq]
          exact AE.round (j + 1, vs, 999) ⟨by simp only; omega, hn, hv⟩ (by simp only; omega) (by repeat (first | exact Sub.nil _ | refine Sub.cons rfl ?_)) (by simp only [List.length_cons])
        · have hlt : (vs.take (n + 1)).length = n + 1 := List.length_take_of_le (by omega)
          have hcs := commit_spec vs n m.val (by omega) hn (by omega)
          have hcur := current_spec (vs.take (n + 1) ++ [m.val]) (n + 1) (by rw [List.length_append, hlt]; simp only [List.length_cons, List.length_nil]; omega) (by rw [List.length_append, hlt]; simp only [List.length_cons, List.length_nil]; omega)
          have hget := intR_get (vs.take (n + 1) ++ [m.val]) (n + 1) (by rw [List.length_append, hlt]; simp only [List.length_cons, List.length_nil]; omega)
          simp only [go_sem, Nat.reduceAdd, Nat.reduceLeDiff, reduceCtorEq, hisH] at hcur
          simp only [go_sem, Nat.reduceAdd, Nat.reduceLeDiff, reduceCtorEq, hisH] at hcs
          repeat (first | refine xPP rfl ?_ | refine xPE rfl ?_ | refine xEP rfl ?_ | refine xEE rfl ?_ | refine AQ.done ?_ | refine AQ.skip (by kernel_rfl) rfl ?_ | refine AQ.s2b (by kernel_rfl) rfl rfl rfl rfl ?_ | refine AQ.mark (by kernel_rfl) rfl rfl rfl rfl rfl rfl rfl ?_ | refine AP.cond_true rfl rfl ?_ | refine AP.cond_false rfl rfl ?_ | (refine AP.region rfl (by kernel_rfl) ?_; simp only [go_sem, Nat.reduceAdd, Nat.reduceLeDiff, reduceCtorEq, f0]) | (refine AP.drawQ rfl rfl (by kernel_rfl) ?_; simp only [go_sem, Nat.reduceAdd, Nat.reduceLeDiff, reduceCtorEq, f0]) | (refine vq_id ?_; simp only [go_sem, Nat.reduceAdd, Nat.reduceLeDiff, reduceCtorEq, f0]) | (refine ⟨by first | omega | (intros; simp_all; done) | (intros; simp_all; omega), ?_⟩; try simp only [go_sem, Nat.reduceAdd, Nat.reduceLeDiff, reduceCtorEq, f0]))
          refine AQ.callH [(1, 1), (0, 0)] (by kernel_rfl) rfl rfl rfl rfl rfl rfl (by exact ⟨rfl, rfl, trivial⟩) rfl hcs ?_
          rintro r' H' ⟨e1, e2⟩
          subst e1; subst e2
          refine ⟨rfl, ?_⟩
          simp only [go_sem, Nat.reduceAdd, Nat.reduceLeDiff, reduceCtorEq, hisH]
          repeat (first | refine xPP rfl ?_ | refine xPE rfl ?_ | refine xEP rfl ?_ | refine xEE rfl ?_ | refine AQ.done ?_ | refine AQ.skip (by kernel_rfl) rfl ?_ | refine AQ.s2b (by kernel_rfl) rfl rfl rfl rfl ?_ | refine AQ.mark (by kernel_rfl) rfl rfl rfl rfl rfl rfl rfl ?_ | refine AP.cond_true rfl rfl ?_ | refine AP.cond_false rfl rfl ?_ | (refine AP.region rfl (by kernel_rfl) ?_; simp only [go_sem, Nat.reduceAdd, Nat.reduceLeDiff, reduceCtorEq]) | (refine AP.drawQ rfl rfl (by kernel_rfl) ?_; simp only [go_sem, Nat.reduceAdd, Nat.reduceLeDiff, reduceCtorEq]) | (refine vq_id ?_; simp only [go_sem, Nat.reduceAdd, Nat.reduceLeDiff, reduceCtorEq]) | (refine ⟨by first | omega | (intros; simp_all; done) | (intros; simp_all; omega), ?_⟩; try simp only [go_sem, Nat.reduceAdd, Nat.reduceLeDiff, reduceCtorEq]))
          refine AQ.rename 6 1 rfl rfl rfl ?_
          simp only [go_sem, Nat.reduceAdd, Nat.reduceLeDiff, reduceCtorEq]
          refine AQ.fn (by kernel_rfl) rfl rfl rfl (commit_ref vs n m.val (by omega) hn (by omega)) rfl ?_
          repeat (first | refine xPP rfl ?_ | refine xPE rfl ?_ | refine xEP rfl ?_ | refine xEE rfl ?_ | refine AQ.done ?_ | refine AQ.skip (by kernel_rfl) rfl ?_ | refine AQ.s2b (by kernel_rfl) rfl rfl rfl rfl ?_ | refine AQ.mark (by kernel_rfl) rfl rfl rfl rfl rfl rfl rfl ?_ | refine AP.cond_true rfl rfl ?_ | refine AP.cond_false rfl rfl ?_ | (refine AP.region rfl (by kernel_rfl) ?_; simp only [go_sem, Nat.reduceAdd, Nat.reduceLeDiff, reduceCtorEq]) | (refine AP.drawQ rfl rfl (by kernel_rfl) ?_; simp only [go_sem, Nat.reduceAdd, Nat.reduceLeDiff, reduceCtorEq]) | (refine vq_id ?_; simp only [go_sem, Nat.reduceAdd, Nat.reduceLeDiff, reduceCtorEq]) | (refine ⟨by first | omega | (intros; simp_all; done) | (intros; simp_all; omega), ?_⟩; try simp only [go_sem, Nat.reduceAdd, Nat.reduceLeDiff, reduceCtorEq]))
          refine AQ.callH [(1, 1), (0, 0)] (by kernel_rfl) rfl rfl rfl rfl rfl rfl (by exact ⟨rfl, rfl, trivial⟩) rfl hcur ?_
          rintro r' H' ⟨e1, e2⟩
          subst e1; subst e2
          refine ⟨rfl, ?_⟩
          simp only [go_sem, Nat.reduceAdd, Nat.reduceLeDiff, reduceCtorEq, hisH]
          repeat (first | refine xPP rfl ?_ | refine xPE rfl ?_ | refine xEP rfl ?_ | refine xEE rfl ?_ | refine AQ.done ?_ | refine AQ.skip (by kernel_rfl) rfl ?_ | refine AQ.s2b (by kernel_rfl) rfl rfl rfl rfl ?_ | refine AQ.mark (by kernel_rfl) rfl rfl rfl rfl rfl rfl rfl ?_ | refine AP.cond_true rfl rfl ?_ | refine AP.cond_false rfl rfl ?_ | (refine AP.region rfl (by kernel_rfl) ?_; simp only [go_sem, Nat.reduceAdd, Nat.reduceLeDiff, reduceCtorEq, hget, Int.toNat_natCast, intR_len, bne_self_eq_false, hwj]) | (refine AP.drawQ rfl rfl (by kernel_rfl) ?_; simp only [go_sem, Nat.reduceAdd, Nat.reduceLeDiff, reduceCtorEq, hget, Int.toNat_natCast, intR_len, bne_self_eq_false, hwj]) | (refine vq_id ?_; simp only [go_sem, Nat.reduceAdd, Nat.reduceLeDiff, reduceCtorEq, hget, Int.toNat_natCast, intR_len, bne_self_eq_false, hwj]) | (refine ⟨by first | omega | (intros; simp_all; done) | (intros; simp_all; omega), ?_⟩; try simp only [go_sem, Nat.reduceAdd, Nat.reduceLeDiff, reduceCtorEq, hget, Int.toNat_natCast, intR_len, bne_self_eq_false, hwj]))
          simp only [go_sem, Nat.reduceAdd, Nat.reduceLeDiff, reduceCtorEq]
          refine AE.order [0, 1, 2, 3] rfl ?_
          simp only [go_sem, Nat.reduceAdd, Nat.reduceLeDiff, reduceCtorEq]
          exact AE.round (j + 1, vs.take (n + 1) ++ [m.val], n + 1) ⟨by simp only; omega, by rw [List.length_append, hlt]; simp only [List.length_cons, List.length_nil]; omega, by rw [List.length_append, hlt]; simp only [List.length_cons, List.length_nil]; omega⟩ (by simp only; omega) (by repeat (first | exact Sub.nil _ | refine Sub.cons rfl ?_)) (by simp only [List.length_cons])
      · have f0 : (((1 : Nat) : Int) == 0) = false := rfl
        have f1 : (((1 : Nat) : Int) == 1) = true := rfl
        by_cases h9 : n = 999
        · subst h9
          have hcf := commit_full vs 999 m.val (by omega)
          have hcur := current_spec (vs) (999) (hn) (by omega)
          have hget := intR_get (vs) (999) (hn)
          simp only [go_sem, Nat.reduceAdd, Nat.reduceLeDiff, reduceCtorEq, hisH] at hcur
          simp only [go_sem, Nat.reduceAdd, Nat.reduceLeDiff, reduceCtorEq, hisH] at hcf
          repeat (first | refine xPP rfl ?_ | refine xPE rfl ?_ | refine xEP rfl ?_ | refine xEE rfl ?_ | refine AQ.done ?_ | refine AQ.skip (by kernel_rfl) rfl ?_ | refine AQ.s2b (by kernel_rfl) rfl rfl rfl rfl ?_ | refine AQ.mark (by kernel_rfl) rfl rfl rfl rfl rfl rfl rfl ?_ | refine AP.cond_true rfl rfl ?_ | refine AP.cond_false rfl rfl ?_ | (refine AP.region rfl (by kernel_rfl) ?_; simp only [go_sem, Nat.reduceAdd, Nat.reduceLeDiff, reduceCtorEq, f0, f1]) | (refine AP.drawQ rfl rfl (by kernel_rfl) ?_; simp only [go_sem, Nat.reduceAdd, Nat.reduceLeDiff, reduceCtorEq, f0, f1]) | (refine vq_id ?_; simp only [go_sem, Nat.reduceAdd, Nat.reduceLeDiff, reduceCtorEq, f0, f1]) | (refine ⟨by first | omega | (intros; simp_all; done) | (intros; simp_all; omega), ?_⟩; try simp only [go_sem, Nat.reduceAdd, Nat.reduceLeDiff, reduceCtorEq, f0, f1]))
          refine AQ.callH [(1, 1), (0, 0)] (by kernel_rfl) rfl rfl rfl rfl rfl rfl (by exact ⟨rfl, rfl, trivial⟩) rfl hcf ?_
          rintro r' H' ⟨e1, e2⟩
          subst e1; subst e2
          refine ⟨rfl, ?_⟩
          simp only [go_sem, Nat.reduceAdd, Nat.reduceLeDiff, reduceCtorEq, hisH]
          repeat (first | refine xPP rfl ?_ | refine xPE rfl ?_ | refine xEP rfl ?_ | refine xEE rfl ?_ | refine AQ.done ?_ | refine AQ.skip (by kernel_rfl) rfl ?_ | refine AQ.s2b (by kernel_rfl) rfl rfl rfl rfl ?_ | refine AQ.mark (by kernel_rfl) rfl rfl rfl rfl rfl rfl rfl ?_ | refine AP.cond_true rfl rfl ?_ | refine AP.cond_false rfl rfl ?_ | (refine AP.region rfl (by kernel_rfl) ?_; simp only [go_sem, Nat.reduceAdd, Nat.reduceLeDiff, reduceCtorEq]) | (refine AP.drawQ rfl rfl (by kernel_rfl) ?_; simp only [go_sem, Nat.reduceAdd, Nat.reduceLeDiff, reduceCtorEq]) | (refine vq_id ?_; simp only [go_sem, Nat.reduceAdd, Nat.reduceLeDiff, reduceCtorEq]) | (refine ⟨by first | omega | (intros; simp_all; done) | (intros; simp_all; omega), ?_⟩; try simp only [go_sem, Nat.reduceAdd, Nat.reduceLeDiff, reduceCtorEq]))
          refine AQ.fn (by kernel_rfl) rfl rfl rfl (commit_ref0 vs m.val) rfl ?_
          repeat (first | refine xPP rfl ?_ | refine xPE rfl ?_ | refine xEP rfl ?_ | refine xEE rfl ?_ | refine AQ.done ?_ | refine AQ.skip (by kernel_rfl) rfl ?_ | refine AQ.s2b (by kernel_rfl) rfl rfl rfl rfl ?_ | refine AQ.mark (by kernel_rfl) rfl rfl rfl rfl rfl rfl rfl ?_ | refine AP.cond_true rfl rfl ?_ | refine AP.cond_false rfl rfl ?_ | (refine AP.region rfl (by kernel_rfl) ?_; simp only [go_sem, Nat.reduceAdd, Nat.reduceLeDiff, reduceCtorEq]) | (refine AP.drawQ rfl rfl (by kernel_rfl) ?_; simp only [go_sem, Nat.reduceAdd, Nat.reduceLeDiff, reduceCtorEq]) | (refine vq_id ?_; simp only [go_sem, Nat.reduceAdd, Nat.reduceLeDiff, reduceCtorEq]) | (refine ⟨by first | omega | (intros; simp_all; done) | (intros; simp_all; omega), ?_⟩; try simp only [go_sem, Nat.reduceAdd, Nat.reduceLeDiff, reduceCtorEq]))
          refine AQ.callH [(1, 1), (0, 0)] (by kernel_rfl) rfl rfl rfl rfl rfl rfl (by exact ⟨rfl, rfl, trivial⟩) rfl hcur ?_
          rintro r' H' ⟨e1, e2⟩
          subst e1; subst e2
          refine ⟨rfl, ?_⟩
          simp only [go_sem, Nat.reduceAdd, Nat.reduceLeDiff, reduceCtorEq, hisH]
          repeat (first | refine xPP rfl ?_ | refine xPE rfl ?_ | refine xEP rfl ?_ | refine xEE rfl ?_ | refine AQ.done ?_ | refine AQ.skip (by kernel_rfl) rfl ?_ | refine AQ.s2b (by kernel_rfl) rfl rfl rfl rfl ?_ | refine AQ.mark (by kernel_rfl) rfl rfl rfl rfl rfl rfl rfl ?_ | refine AP.cond_true rfl rfl ?_ | refine AP.cond_false rfl rfl ?_ | (refine AP.region rfl (by kernel_rfl) ?_; simp only [go_sem, Nat.reduceAdd, Nat.reduceLeDiff, reduceCtorEq, hget, Int.toNat_natCast, intR_len, bne_self_eq_false, hwj]) | (refine AP.drawQ rfl rfl (by kernel_rfl) ?_; simp only [go_sem, Nat.reduceAdd, Nat.reduceLeDiff, reduceCtorEq, hget, Int.toNat_natCast, intR_len, bne_self_eq_false, hwj]) | (refine vq_id ?_; simp only [go_sem, Nat.reduceAdd, Nat.reduceLeDiff, reduceCtorEq, hget, Int.toNat_natCast, intR_len, bne_self_eq_false, hwj]) | (refine ⟨by first | omega | (intros; simp_all; done) | (intros; simp_all; omega), ?_⟩; try simp only [go_sem, Nat.reduceAdd, Nat.reduceLeDiff, reduceCtorEq, hget, Int.toNat_natCast, intR_len, bne_self_eq_false, hwj]))
          simp only [go_sem, Nat.reduceAdd, Nat.reduceLeDiff, reduceCtorEq]
          refine AE.order [0, 1, 2, 3] rfl ?_
          simp only [go_sem, Nat.reduceAdd, Nat.reduceLeDiff, reduceCtorEq]
          exact AE.round (j + 1, vs, 999) ⟨by simp only; omega, hn, hv⟩ (by simp only; omega) (by repeat (first | exact Sub.nil _ | refine Sub.cons rfl ?_)) (by simp only [List.length_cons])
        · have hlt : (vs.take (n + 1)).length = n + 1 := List.length_take_of_le (by omega)
          have hcs := commit_spec vs n m.val (by omega) hn (by omega)
          have hcur := current_spec (vs.take (n + 1) ++ [m.val]) (n + 1) (by rw [List.length_append, hlt]; simp only [List.length_cons, List.length_nil]; omega) (by rw [List.length_append, hlt]; simp only [List.length_cons, List.length_nil]; omega)
          have hget := intR_get (vs.take (n + 1) ++ [m.val]) (n + 1) (by rw [List.length_append, hlt]; simp only [List.length_cons, List.length_nil]; omega)
          simp only [go_sem, Nat.reduceAdd, Nat.reduceLeDiff, reduceCtorEq, hisH] at hcur
          simp only [go_sem, Nat.reduceAdd, Nat.reduceLeDiff, reduceCtorEq, hisH] at hcs
          repeat (first | refine xPP rfl ?_ | refine xPE rfl ?_ | refine xEP rfl ?_ | refine xEE rfl ?_ | refine AQ.done ?_ | refine AQ.skip (by kernel_rfl) rfl ?_ | refine AQ.s2b (by kernel_rfl) rfl rfl rfl rfl ?_ | refine AQ.mark (by kernel_rfl) rfl rfl rfl rfl rfl rfl rfl ?_ | refine AP.cond_true rfl rfl ?_ | refine AP.cond_false rfl rfl ?_ | (refine AP.region rfl (by kernel_rfl) ?_; simp only [go_sem, Nat.reduceAdd, Nat.reduceLeDiff, reduceCtorEq, f0, f1]) | (refine AP.drawQ rfl rfl (by kernel_rfl) ?_; simp only [go_sem, Nat.reduceAdd, Nat.reduceLeDiff, reduceCtorEq, f0, f1]) | (refine vq_id ?_; simp only [go_sem, Nat.reduceAdd, Nat.reduceLeDiff, reduceCtorEq, f0, f1]) | (refine ⟨by first | omega | (intros; simp_all; done) | (intros; simp_all; omega), ?_⟩; try simp only [go_sem, Nat.reduceAdd, Nat.reduceLeDiff, reduceCtorEq, f0, f1]))
          refine AQ.callH [(1, 1), (0, 0)] (by kernel_rfl) rfl rfl rfl rfl rfl rfl (by exact ⟨rfl, rfl, trivial⟩) rfl hcs ?_
          rintro r' H' ⟨e1, e2⟩
          subst e1; subst e2
          refine ⟨rfl, ?_⟩
          simp only [go_sem, Nat.reduceAdd, Nat.reduceLeDiff, reduceCtorEq, hisH]
          repeat (first | refine xPP rfl ?_ | refine xPE rfl ?_ | refine xEP rfl ?_ | refine xEE rfl ?_ | refine AQ.done ?_ | refine AQ.skip (by kernel_rfl) rfl ?_ | refine AQ.s2b (by kernel_rfl) rfl rfl rfl rfl ?_ | refine AQ.mark (by kernel_rfl) rfl rfl rfl rfl rfl rfl rfl ?_ | refine AP.cond_true rfl rfl ?_ | refine AP.cond_false rfl rfl ?_ | (refine AP.region rfl (by kernel_rfl) ?_; simp only [go_sem, Nat.reduceAdd, Nat.reduceLeDiff, reduceCtorEq]) | (refine AP.drawQ rfl rfl (by kernel_rfl) ?_; simp only [go_sem, Nat.reduceAdd, Nat.reduceLeDiff, reduceCtorEq]) | (refine vq_id ?_; simp only [go_sem, Nat.reduceAdd, Nat.reduceLeDiff, reduceCtorEq]) | (refine ⟨by first | omega | (intros; simp_all; done) | (intros; simp_all; omega), ?_⟩; try simp only [go_sem, Nat.reduceAdd, Nat.reduceLeDiff, reduceCtorEq]))
          refine AQ.rename 6 1 rfl rfl rfl ?_
          simp only [go_sem, Nat.reduceAdd, Nat.reduceLeDiff, reduceCtorEq]
          refine AQ.fn (by kernel_rfl) rfl rfl rfl (commit_ref vs n m.val (by omega) hn (by omega)) rfl ?_
          repeat (first | refine xPP rfl ?_ | refine xPE rfl ?_ | refine xEP rfl ?_ | refine xEE rfl ?_ | refine AQ.done ?_ | refine AQ.skip (by kernel_rfl) rfl ?_ | refine AQ.s2b (by kernel_rfl) rfl rfl rfl rfl ?_ | refine AQ.mark (by kernel_rfl) rfl rfl rfl rfl rfl rfl rfl ?_ | refine AP.cond_true rfl rfl ?_ | refine AP.cond_false rfl rfl ?_ | (refine AP.region rfl (by kernel_rfl) ?_; simp only [go_sem, Nat.reduceAdd, Nat.reduceLeDiff, reduceCtorEq]) | (refine AP.drawQ rfl rfl (by kernel_rfl) ?_; simp only [go_sem, Nat.reduceAdd, Nat.reduceLeDiff, reduceCtorEq]) | (refine vq_id ?_; simp only [go_sem, Nat.reduceAdd, Nat.reduceLeDiff, reduceCtorEq]) | (refine ⟨by first | omega | (intros; simp_all; done) | (intros; simp_all; omega), ?_⟩; try simp only [go_sem, Nat.reduceAdd, Nat.reduceLeDiff, reduceCtorEq]))
          refine AQ.callH [(1, 1), (0, 0)] (by kernel_rfl) rfl rfl rfl rfl rfl rfl (by exact ⟨rfl, rfl, trivial⟩) rfl hcur ?_
          rintro r' H' ⟨e1, e2⟩
          subst e1; subst e2
          refine ⟨rfl, ?_⟩
          simp only [go_sem, Nat.reduceAdd, Nat.reduceLeDiff, reduceCtorEq, hisH]
          repeat (first | refine xPP rfl ?_ | refine xPE rfl ?_ | refine xEP rfl ?_ | refine xEE rfl ?_ | refine AQ.done ?_ | refine AQ.skip (by kernel_rfl) rfl ?_ | refine AQ.s2b (by kernel_rfl) rfl rfl rfl rfl ?_ | refine AQ.mark (by kernel_rfl) rfl rfl rfl rfl rfl rfl rfl ?_ | refine AP.cond_true rfl rfl ?_ | refine AP.cond_false rfl rfl ?_ | (refine AP.region rfl (by kernel_rfl) ?_; simp only [go_sem, Nat.reduceAdd, Nat.reduceLeDiff, reduceCtorEq, hget, Int.toNat_natCast, intR_len, bne_self_eq_false, hwj]) | (refine AP.drawQ rfl rfl (by kernel_rfl) ?_; simp only [go_sem, Nat.reduceAdd, Nat.reduceLeDiff, reduceCtorEq, hget, Int.toNat_natCast, intR_len, bne_self_eq_false, hwj]) | (refine vq_id ?_; simp only [go_sem, Nat.reduceAdd, Nat.reduceLeDiff, reduceCtorEq, hget, Int.toNat_natCast, intR_len, bne_self_eq_false, hwj]) | (refine ⟨by first | omega | (intros; simp_all; done) | (intros; simp_all; omega), ?_⟩; try simp only [go_sem, Nat.reduceAdd, Nat.reduceLeDiff, reduceCtorEq, hget, Int.toNat_natCast, intR_len, bne_self_eq_false, hwj]))
          simp only [go_sem, Nat.reduceAdd, Nat.reduceLeDiff, reduceCtorEq]
          refine AE.order [0, 1, 2, 3] rfl ?_
          simp only [go_sem, Nat.reduceAdd, Nat.reduceLeDiff, reduceCtorEq]
          exact AE.round (j + 1, vs.take (n + 1) ++ [m.val], n + 1) ⟨by simp only; omega, by rw [List.length_append, hlt]; simp only [List.length_cons, List.length_nil]; omega, by rw [List.length_append, hlt]; simp only [List.length_cons, List.length_nil]; omega⟩ (by simp only; omega) (by repeat (first | exact Sub.nil _ | refine Sub.cons rfl ?_)) (by simp only [List.length_cons])
      · have f0 : (((2 : Nat) : Int) == 0) = false := rfl
        have f1 : (((2 : Nat) : Int) == 1) = false := rfl
        have f2 : (((2 : Nat) : Int) == 2) = true := rfl
        by_cases h0 : n = 0
        · subst h0
          have hcf := undo_none vs (by omega) (by omega)
          have hcur := current_spec (vs) (0) (hn) (by omega)
          have hget := intR_get (vs) (0) (hn)
          simp only [go_sem, Nat.reduceAdd, Nat.reduceLeDiff, reduceCtorEq, hisH] at hcur
          simp only [go_sem, Nat.reduceAdd, Nat.reduceLeDiff, reduceCtorEq, hisH] at hcf
          repeat (first | refine xPP rfl ?_ | refine xPE rfl ?_ | refine xEP rfl ?_ | refine xEE rfl ?_ | refine AQ.done ?_ | refine AQ.skip (by kernel_rfl) rfl ?_ | refine AQ.s2b (by kernel_rfl) rfl rfl rfl rfl ?_ | refine AQ.mark (by kernel_rfl) rfl rfl rfl rfl rfl rfl rfl ?_ | refine AP.cond_true rfl rfl ?_ | refine AP.cond_false rfl rfl ?_ | (refine AP.region rfl (by kernel_rfl) ?_; simp only [go_sem, Nat.reduceAdd, Nat.reduceLeDiff, reduceCtorEq, f0, f1, f2]) | (refine AP.drawQ rfl rfl (by kernel_rfl) ?_; simp only [go_sem, Nat.reduceAdd, Nat.reduceLeDiff, reduceCtorEq, f0, f1, f2]) | (refine vq_id ?_; simp only [go_sem, Nat.reduceAdd, Nat.reduceLeDiff, reduceCtorEq, f0, f1, f2]) | (refine ⟨by first | omega | (intros; simp_all; done) | (intros; simp_all; omega), ?_⟩; try simp only [go_sem, Nat.reduceAdd, Nat.reduceLeDiff, reduceCtorEq, f0, f1, f2]))
          refine AQ.callH [(1, 1), (0, 0)] (by kernel_rfl) rfl rfl rfl rfl rfl rfl (by exact ⟨rfl, rfl, trivial⟩) rfl hcf ?_
          rintro r' H' ⟨e1, e2⟩
          subst e1; subst e2
          refine ⟨rfl, ?_⟩
          simp only [go_sem, Nat.reduceAdd, Nat.reduceLeDiff, reduceCtorEq, hisH]
          repeat (first | refine xPP rfl ?_ | refine xPE rfl ?_ | refine xEP rfl ?_ | refine xEE rfl ?_ | refine AQ.done ?_ | refine AQ.skip (by kernel_rfl) rfl ?_ | refine AQ.s2b (by kernel_rfl) rfl rfl rfl rfl ?_ | refine AQ.mark (by kernel_rfl) rfl rfl rfl rfl rfl rfl rfl ?_ | refine AP.cond_true rfl rfl ?_ | refine AP.cond_false rfl rfl ?_ | (refine AP.region rfl (by kernel_rfl) ?_; simp only [go_sem, Nat.reduceAdd, Nat.reduceLeDiff, reduceCtorEq]) | (refine AP.drawQ rfl rfl (by kernel_rfl) ?_; simp only [go_sem, Nat.reduceAdd, Nat.reduceLeDiff, reduceCtorEq]) | (refine vq_id ?_; simp only [go_sem, Nat.reduceAdd, Nat.reduceLeDiff, reduceCtorEq]) | (refine ⟨by first | omega | (intros; simp_all; done) | (intros; simp_all; omega), ?_⟩; try simp only [go_sem, Nat.reduceAdd, Nat.reduceLeDiff, reduceCtorEq]))
          refine AQ.fn (by kernel_rfl) rfl rfl rfl (undo_ref0 vs) rfl ?_
          repeat (first | refine xPP rfl ?_ | refine xPE rfl ?_ | refine xEP rfl ?_ | refine xEE rfl ?_ | refine AQ.done ?_ | refine AQ.skip (by kernel_rfl) rfl ?_ | refine AQ.s2b (by kernel_rfl) rfl rfl rfl rfl ?_ | refine AQ.mark (by kernel_rfl) rfl rfl rfl rfl rfl rfl rfl ?_ | refine AP.cond_true rfl rfl ?_ | refine AP.cond_false rfl rfl ?_ | (refine AP.region rfl (by kernel_rfl) ?_; simp only [go_sem, Nat.reduceAdd, Nat.reduceLeDiff, reduceCtorEq]) | (refine AP.drawQ rfl rfl (by kernel_rfl) ?_; simp only [go_sem, Nat.reduceAdd, Nat.reduceLeDiff, reduceCtorEq]) | (refine vq_id ?_; simp only [go_sem, Nat.reduceAdd, Nat.reduceLeDiff, reduceCtorEq]) | (refine ⟨by first | omega | (intros; simp_all; done) | (intros; simp_all; omega), ?_⟩; try simp only [go_sem, Nat.reduceAdd, Nat.reduceLeDiff, reduceCtorEq]))
          refine AQ.callH [(1, 1), (0, 0)] (by kernel_rfl) rfl rfl rfl rfl rfl rfl (by exact ⟨rfl, rfl, trivial⟩) rfl hcur ?_
          rintro r' H' ⟨e1, e2⟩
          subst e1; subst e2
          refine ⟨rfl, ?_⟩
          simp only [go_sem, Nat.reduceAdd, Nat.reduceLeDiff, reduceCtorEq, hisH]
          repeat (first | refine xPP rfl ?_ | refine xPE rfl ?_ | refine xEP rfl ?_ | refine xEE rfl ?_ | refine AQ.done ?_ | refine AQ.skip (by kernel_rfl) rfl ?_ | refine AQ.s2b (by kernel_rfl) rfl rfl rfl rfl ?_ | refine AQ.mark (by kernel_rfl) rfl rfl rfl rfl rfl rfl rfl ?_ | refine AP.cond_true rfl rfl ?_ | refine AP.cond_false rfl rfl ?_ | (refine AP.region rfl (by kernel_rfl) ?_; simp only [go_sem, Nat.reduceAdd, Nat.reduceLeDiff, reduceCtorEq, hget, Int.toNat_natCast, intR_len, bne_self_eq_false, hwj]) | (refine AP.drawQ rfl rfl (by kernel_rfl) ?_; simp only [go_sem, Nat.reduceAdd, Nat.reduceLeDiff, reduceCtorEq, hget, Int.toNat_natCast, intR_len, bne_self_eq_false, hwj]) | (refine vq_id ?_; simp only [go_sem, Nat.reduceAdd, Nat.reduceLeDiff, reduceCtorEq, hget, Int.toNat_natCast, intR_len, bne_self_eq_false, hwj]) | (refine ⟨by first | omega | (intros; simp_all; done) | (intros; simp_all; omega), ?_⟩; try simp only [go_sem, Nat.reduceAdd, Nat.reduceLeDiff, reduceCtorEq, hget, Int.toNat_natCast, intR_len, bne_self_eq_false, hwj]))
          simp only [go_sem, Nat.reduceAdd, Nat.reduceLeDiff, reduceCtorEq]
          refine AE.order [0, 1, 2, 3] rfl ?_
          simp only [go_sem, Nat.reduceAdd, Nat.reduceLeDiff, reduceCtorEq]
          exact AE.round (j + 1, vs, 0) ⟨by simp only; omega, hn, hv⟩ (by simp only; omega) (by repeat (first | exact Sub.nil _ | refine Sub.cons rfl ?_)) (by simp only [List.length_cons])
        · have hcs := undo_spec vs n (by omega) hn (by omega)
          have hcur := current_spec (vs) (n - 1) (by omega) (by omega)
          have hget := intR_get (vs) (n - 1) (by omega)
          simp only [go_sem, Nat.reduceAdd, Nat.reduceLeDiff, reduceCtorEq, hisH] at hcur
          simp only [go_sem, Nat.reduceAdd, Nat.reduceLeDiff, reduceCtorEq, hisH] at hcs
          repeat (first | refine xPP rfl ?_ | refine xPE rfl ?_ | refine xEP rfl ?_ | refine xEE rfl ?_ | refine AQ.done ?_ | refine AQ.skip (by kernel_rfl) rfl ?_ | refine AQ.s2b (by kernel_rfl) rfl rfl rfl rfl ?_ | refine AQ.mark (by kernel_rfl) rfl rfl rfl rfl rfl rfl rfl ?_ | refine AP.cond_true rfl rfl ?_ | refine AP.cond_false rfl rfl ?_ | (refine AP.region rfl (by kernel_rfl) ?_; simp only [go_sem, Nat.reduceAdd, Nat.reduceLeDiff, reduceCtorEq, f0, f1, f2]) | (refine AP.drawQ rfl rfl (by kernel_rfl) ?_; simp only [go_sem, Nat.reduceAdd, Nat.reduceLeDiff, reduceCtorEq, f0, f1, f2]) | (refine vq_id ?_; simp only [go_sem, Nat.reduceAdd, Nat.reduceLeDiff, reduceCtorEq, f0, f1, f2]) | (refine ⟨by first | omega | (intros; simp_all; done) | (intros; simp_all; omega), ?_⟩; try simp only [go_sem, Nat.reduceAdd, Nat.reduceLeDiff, reduceCtorEq, f0, f1, f2]))
          refine AQ.callH [(1, 1), (0, 0)] (by kernel_rfl) rfl rfl rfl rfl rfl rfl (by exact ⟨rfl, rfl, trivial⟩) rfl hcs ?_
          rintro r' H' ⟨e1, e2⟩
          subst e1; subst e2
          refine ⟨rfl, ?_⟩
          simp only [go_sem, Nat.reduceAdd, Nat.reduceLeDiff, reduceCtorEq, hisH]
          repeat (first | refine xPP rfl ?_ | refine xPE rfl ?_ | refine xEP rfl ?_ | refine xEE rfl ?_ | refine AQ.done ?_ | refine AQ.skip (by kernel_rfl) rfl ?_ | refine AQ.s2b (by kernel_rfl) rfl rfl rfl rfl ?_ | refine AQ.mark (by kernel_rfl) rfl rfl rfl rfl rfl rfl rfl ?_ | refine AP.cond_true rfl rfl ?_ | refine AP.cond_false rfl rfl ?_ | (refine AP.region rfl (by kernel_rfl) ?_; simp only [go_sem, Nat.reduceAdd, Nat.reduceLeDiff, reduceCtorEq]) | (refine AP.drawQ rfl rfl (by kernel_rfl) ?_; simp only [go_sem, Nat.reduceAdd, Nat.reduceLeDiff, reduceCtorEq]) | (refine vq_id ?_; simp only [go_sem, Nat.reduceAdd, Nat.reduceLeDiff, reduceCtorEq]) | (refine ⟨by first | omega | (intros; simp_all; done) | (intros; simp_all; omega), ?_⟩; try simp only [go_sem, Nat.reduceAdd, Nat.reduceLeDiff, reduceCtorEq]))
          refine AQ.fn (by kernel_rfl) rfl rfl rfl (undo_ref vs n (by omega) (by omega)) rfl ?_
          repeat (first | refine xPP rfl ?_ | refine xPE rfl ?_ | refine xEP rfl ?_ | refine xEE rfl ?_ | refine AQ.done ?_ | refine AQ.skip (by kernel_rfl) rfl ?_ | refine AQ.s2b (by kernel_rfl) rfl rfl rfl rfl ?_ | refine AQ.mark (by kernel_rfl) rfl rfl rfl rfl rfl rfl rfl ?_ | refine AP.cond_true rfl rfl ?_ | refine AP.cond_false rfl rfl ?_ | (refine AP.region rfl (by kernel_rfl) ?_; simp only [go_sem, Nat.reduceAdd, Nat.reduceLeDiff, reduceCtorEq]) | (refine AP.drawQ rfl rfl (by kernel_rfl) ?_; simp only [go_sem, Nat.reduceAdd, Nat.reduceLeDiff, reduceCtorEq]) | (refine vq_id ?_; simp only [go_sem, Nat.reduceAdd, Nat.reduceLeDiff, reduceCtorEq]) | (refine ⟨by first | omega | (intros; simp_all; done) | (intros; simp_all; omega), ?_⟩; try simp only [go_sem, Nat.reduceAdd, Nat.reduceLeDiff, reduceCtorEq]))
          refine AQ.callH [(1, 1), (0, 0)] (by kernel_rfl) rfl rfl rfl rfl rfl rfl (by exact ⟨rfl, rfl, trivial⟩) rfl hcur ?_
          rintro r' H' ⟨e1, e2⟩
          subst e1; subst e2
          refine ⟨rfl, ?_⟩
          simp only [go_sem, Nat.reduceAdd, Nat.reduceLeDiff, reduceCtorEq, hisH]
          repeat (first | refine xPP rfl ?_ | refine xPE rfl ?_ | refine xEP rfl ?_ | refine xEE rfl ?_ | refine AQ.done ?_ | refine AQ.skip (by kernel_rfl) rfl ?_ | refine AQ.s2b (by kernel_rfl) rfl rfl rfl rfl ?_ | refine AQ.mark (by kernel_rfl) rfl rfl rfl rfl rfl rfl rfl ?_ | refine AP.cond_true rfl rfl ?_ | refine AP.cond_false rfl rfl ?_ | (refine AP.region rfl (by kernel_rfl) ?_; simp only [go_sem, Nat.reduceAdd, Nat.reduceLeDiff, reduceCtorEq, hget, Int.toNat_natCast, intR_len, bne_self_eq_false, hwj]) | (refine AP.drawQ rfl rfl (by kernel_rfl) ?_; simp only [go_sem, Nat.reduceAdd, Nat.reduceLeDiff, reduceCtorEq, hget, Int.toNat_natCast, intR_len, bne_self_eq_false, hwj]) | (refine vq_id ?_; simp only [go_sem, Nat.reduceAdd, Nat.reduceLeDiff, reduceCtorEq, hget, Int.toNat_natCast, intR_len, bne_self_eq_false, hwj]) | (refine ⟨by first | omega | (intros; simp_all; done) | (intros; simp_all; omega), ?_⟩; try simp only [go_sem, Nat.reduceAdd, Nat.reduceLeDiff, reduceCtorEq, hget, Int.toNat_natCast, intR_len, bne_self_eq_false, hwj]))
          simp only [go_sem, Nat.reduceAdd, Nat.reduceLeDiff, reduceCtorEq]
          refine AE.order [0, 1, 2, 3] rfl ?_
          simp only [go_sem, Nat.reduceAdd, Nat.reduceLeDiff, reduceCtorEq]
          exact AE.round (j + 1, vs, n - 1) ⟨by simp only; omega, by simp only; omega, hv⟩ (by simp only; omega) (by repeat (first | exact Sub.nil _ | refine Sub.cons rfl ?_)) (by simp only [List.length_cons])
      · have f0 : (((3 : Nat) : Int) == 0) = false := rfl
        have f1 : (((3 : Nat) : Int) == 1) = false := rfl
        have f2 : (((3 : Nat) : Int) == 2) = false := rfl
        have f3 : (((3 : Nat) : Int) == 3) = true := rfl
        by_cases h0 : n + 1 = vs.length
        · have hcf := redo_none vs n h0 (by omega)
          have hcur := current_spec (vs) (n) (hn) (by omega)
          have hget := intR_get (vs) (n) (hn)
          simp only [go_sem, Nat.reduceAdd, Nat.reduceLeDiff, reduceCtorEq, hisH] at hcur
          simp only [go_sem, Nat.reduceAdd, Nat.reduceLeDiff, reduceCtorEq, hisH] at hcf
          repeat (first | refine xPP rfl ?_ | refine xPE rfl ?_ | refine xEP rfl ?_ | refine xEE rfl ?_ | refine AQ.done ?_ | refine AQ.skip (by kernel_rfl) rfl ?_ | refine AQ.s2b (by kernel_rfl) rfl rfl rfl rfl ?_ | refine AQ.mark (by kernel_rfl) rfl rfl rfl rfl rfl rfl rfl ?_ | refine AP.cond_true rfl rfl ?_ | refine AP.cond_false rfl rfl ?_ | (refine AP.region rfl (by kernel_rfl) ?_; simp only [go_sem, Nat.reduceAdd, Nat.reduceLeDiff, reduceCtorEq, f0, f1, f2, f3]) | (refine AP.drawQ rfl rfl (by kernel_rfl) ?_; simp only [go_sem, Nat.reduceAdd, Nat.reduceLeDiff, reduceCtorEq, f0, f1, f2, f3]) | (refine vq_id ?_; simp only [go_sem, Nat.reduceAdd, Nat.reduceLeDiff, reduceCtorEq, f0, f1, f2, f3]) | (refine ⟨by first | omega | (intros; simp_all; done) | (intros; simp_all; omega), ?_⟩; try simp only [go_sem, Nat.reduceAdd, Nat.reduceLeDiff, reduceCtorEq, f0, f1, f2, f3]))
          refine AQ.callH [(1, 1), (0, 0)] (by kernel_rfl) rfl rfl rfl rfl rfl rfl (by exact ⟨rfl, rfl, trivial⟩) rfl hcf ?_
          rintro r' H' ⟨e1, e2⟩
          subst e1; subst e2
          refine ⟨rfl, ?_⟩
          simp only [go_sem, Nat.reduceAdd, Nat.reduceLeDiff, reduceCtorEq, hisH]
          repeat (first | refine xPP rfl ?_ | refine xPE rfl ?_ | refine xEP rfl ?_ | refine xEE rfl ?_ | refine AQ.done ?_ | refine AQ.skip (by kernel_rfl) rfl ?_ | refine AQ.s2b (by kernel_rfl) rfl rfl rfl rfl ?_ | refine AQ.mark (by kernel_rfl) rfl rfl rfl rfl rfl rfl rfl ?_ | refine AP.cond_true rfl rfl ?_ | refine AP.cond_false rfl rfl ?_ | (refine AP.region rfl (by kernel_rfl) ?_; simp only [go_sem, Nat.reduceAdd, Nat.reduceLeDiff, reduceCtorEq]) | (refine AP.drawQ rfl rfl (by kernel_rfl) ?_; simp only [go_sem, Nat.reduceAdd, Nat.reduceLeDiff, reduceCtorEq]) | (refine vq_id ?_; simp only [go_sem, Nat.reduceAdd, Nat.reduceLeDiff, reduceCtorEq]) | (refine ⟨by first | omega | (intros; simp_all; done) | (intros; simp_all; omega), ?_⟩; try simp only [go_sem, Nat.reduceAdd, Nat.reduceLeDiff, reduceCtorEq]))
          refine AQ.fn (by kernel_rfl) rfl rfl rfl (redo_ref0 vs n h0 (by omega)) rfl ?_
          repeat (first | refine xPP rfl ?_ | refine xPE rfl ?_ | refine xEP rfl ?_ | refine xEE rfl ?_ | refine AQ.done ?_ | refine AQ.skip (by kernel_rfl) rfl ?_ | refine AQ.s2b (by kernel_rfl) rfl rfl rfl rfl ?_ | refine AQ.mark (by kernel_rfl) rfl rfl rfl rfl rfl rfl rfl ?_ | refine AP.cond_true rfl rfl ?_ | refine AP.cond_false rfl rfl ?_ | (refine AP.region rfl (by kernel_rfl) ?_; simp only [go_sem, Nat.reduceAdd, Nat.reduceLeDiff, reduceCtorEq]) | (refine AP.drawQ rfl rfl (by kernel_rfl) ?_; simp only [go_sem, Nat.reduceAdd, Nat.reduceLeDiff, reduceCtorEq]) | (refine vq_id ?_; simp only [go_sem, Nat.reduceAdd, Nat.reduceLeDiff, reduceCtorEq]) | (refine ⟨by first | omega | (intros; simp_all; done) | (intros; simp_all; omega), ?_⟩; try simp only [go_sem, Nat.reduceAdd, Nat.reduceLeDiff, reduceCtorEq]))
          refine AQ.callH [(1, 1), (0, 0)] (by kernel_rfl) rfl rfl rfl rfl rfl rfl (by exact ⟨rfl, rfl, trivial⟩) rfl hcur ?_
          rintro r' H' ⟨e1, e2⟩
          subst e1; subst e2
          refine ⟨rfl, ?_⟩
          simp only [go_sem, Nat.reduceAdd, Nat.reduceLeDiff, reduceCtorEq, hisH]
          repeat (first | refine xPP rfl ?_ | refine xPE rfl ?_ | refine xEP rfl ?_ | refine xEE rfl ?_ | refine AQ.done ?_ | refine AQ.skip (by kernel_rfl) rfl ?_ | refine AQ.s2b (by kernel_rfl) rfl rfl rfl rfl ?_ | refine AQ.mark (by kernel_rfl) rfl rfl rfl rfl rfl rfl rfl ?_ | refine AP.cond_true rfl rfl ?_ | refine AP.cond_false rfl rfl ?_ | (refine AP.region rfl (by kernel_rfl) ?_; simp only [go_sem, Nat.reduceAdd, Nat.reduceLeDiff, reduceCtorEq, hget, Int.toNat_natCast, intR_len, bne_self_eq_false, hwj]) | (refine AP.drawQ rfl rfl (by kernel_rfl) ?_; simp only [go_sem, Nat.reduceAdd, Nat.reduceLeDiff, reduceCtorEq, hget, Int.toNat_natCast, intR_len, bne_self_eq_false, hwj]) | (refine vq_id ?_; simp only [go_sem, Nat.reduceAdd, Nat.reduceLeDiff, reduceCtorEq, hget, Int.toNat_natCast, intR_len, bne_self_eq_false, hwj]) | (refine ⟨by first | omega | (intros; simp_all; done) | (intros; simp_all; omega), ?_⟩; try simp only [go_sem, Nat.reduceAdd, Nat.reduceLeDiff, reduceCtorEq, hget, Int.toNat_natCast, intR_len, bne_self_eq_false, hwj]))
          simp only [go_sem, Nat.reduceAdd, Nat.reduceLeDiff, reduceCtorEq]
          refine AE.order [0, 1, 2, 3] rfl ?_
          simp only [go_sem, Nat.reduceAdd, Nat.reduceLeDiff, reduceCtorEq]
          exact AE.round (j + 1, vs, n) ⟨by simp only; omega, hn, hv⟩ (by simp only; omega) (by repeat (first | exact Sub.nil _ | refine Sub.cons rfl ?_)) (by simp only [List.length_cons])
        · have hcs := redo_spec vs n (by omega) (by omega)
          have hcur := current_spec (vs) (n + 1) (by omega) (by omega)
          have hget := intR_get (vs) (n + 1) (by omega)
          simp only [go_sem, Nat.reduceAdd, Nat.reduceLeDiff, reduceCtorEq, hisH] at hcur
          simp only [go_sem, Nat.reduceAdd, Nat.reduceLeDiff, reduceCtorEq, hisH] at hcs
          repeat (first | refine xPP rfl ?_ | refine xPE rfl ?_ | refine xEP rfl ?_ | refine xEE rfl ?_ | refine AQ.done ?_ | refine AQ.skip (by kernel_rfl) rfl ?_ | refine AQ.s2b (by kernel_rfl) rfl rfl rfl rfl ?_ | refine AQ.mark (by kernel_rfl) rfl rfl rfl rfl rfl rfl rfl ?_ | refine AP.cond_true rfl rfl ?_ | refine AP.cond_false rfl rfl ?_ | (refine AP.region rfl (by kernel_rfl) ?_; simp only [go_sem, Nat.reduceAdd, Nat.reduceLeDiff, reduceCtorEq, f0, f1, f2, f3]) | (refine AP.drawQ rfl rfl (by kernel_rfl) ?_; simp only [go_sem, Nat.reduceAdd, Nat.reduceLeDiff, reduceCtorEq, f0, f1, f2, f3]) | (refine vq_id ?_; simp only [go_sem, Nat.reduceAdd, Nat.reduceLeDiff, reduceCtorEq, f0, f1, f2, f3]) | (refine ⟨by first | omega | (intros; simp_all; done) | (intros; simp_all; omega), ?_⟩; try simp only [go_sem, Nat.reduceAdd, Nat.reduceLeDiff, reduceCtorEq, f0, f1, f2, f3]))
          refine AQ.callH [(1, 1), (0, 0)] (by kernel_rfl) rfl rfl rfl rfl rfl rfl (by exact ⟨rfl, rfl, trivial⟩) rfl hcs ?_
          rintro r' H' ⟨e1, e2⟩
          subst e1; subst e2
          refine ⟨rfl, ?_⟩
          simp only [go_sem, Nat.reduceAdd, Nat.reduceLeDiff, reduceCtorEq, hisH]
          repeat (first | refine xPP rfl ?_ | refine xPE rfl ?_ | refine xEP rfl ?_ | refine xEE rfl ?_ | refine AQ.done ?_ | refine AQ.skip (by kernel_rfl) rfl ?_ | refine AQ.s2b (by kernel_rfl) rfl rfl rfl rfl ?_ | refine AQ.mark (by kernel_rfl) rfl rfl rfl rfl rfl rfl rfl ?_ | refine AP.cond_true rfl rfl ?_ | refine AP.cond_false rfl rfl ?_ | (refine AP.region rfl (by kernel_rfl) ?_; simp only [go_sem, Nat.reduceAdd, Nat.reduceLeDiff, reduceCtorEq]) | (refine AP.drawQ rfl rfl (by kernel_rfl) ?_; simp only [go_sem, Nat.reduceAdd, Nat.reduceLeDiff, reduceCtorEq]) | (refine vq_id ?_; simp only [go_sem, Nat.reduceAdd, Nat.reduceLeDiff, reduceCtorEq]) | (refine ⟨by first | omega | (intros; simp_all; done) | (intros; simp_all; omega), ?_⟩; try simp only [go_sem, Nat.reduceAdd, Nat.reduceLeDiff, reduceCtorEq]))
          refine AQ.fn (by kernel_rfl) rfl rfl rfl (redo_ref vs n (by omega) (by omega)) rfl ?_
          repeat (first | refine xPP rfl ?_ | refine xPE rfl ?_ | refine xEP rfl ?_ | refine xEE rfl ?_ | refine AQ.done ?_ | refine AQ.skip (by kernel_rfl) rfl ?_ | refine AQ.s2b (by kernel_rfl) rfl rfl rfl rfl ?_ | refine AQ.mark (by kernel_rfl) rfl rfl rfl rfl rfl rfl rfl ?_ | refine AP.cond_true rfl rfl ?_ | refine AP.cond_false rfl rfl ?_ | (refine AP.region rfl (by kernel_rfl) ?_; simp only [go_sem, Nat.reduceAdd, Nat.reduceLeDiff, reduceCtorEq]) | (refine AP.drawQ rfl rfl (by kernel_rfl) ?_; simp only [go_sem, Nat.reduceAdd, Nat.reduceLeDiff, reduceCtorEq]) | (refine vq_id ?_; simp only [go_sem, Nat.reduceAdd, Nat.reduceLeDiff, reduceCtorEq]) | (refine ⟨by first | omega | (intros; simp_all; done) | (intros; simp_all; omega), ?_⟩; try simp only [go_sem, Nat.reduceAdd, Nat.reduceLeDiff, reduceCtorEq]))
          refine AQ.callH [(1, 1), (0, 0)] (by kernel_rfl) rfl rfl rfl rfl rfl rfl (by exact ⟨rfl, rfl, trivial⟩) rfl hcur ?_
          rintro r' H' ⟨e1, e2⟩
          subst e1; subst e2
          refine ⟨rfl, ?_⟩
          simp only [go_sem, Nat.reduceAdd, Nat.reduceLeDiff, reduceCtorEq, hisH]
          repeat (first | refine xPP rfl ?_ | refine xPE rfl ?_ | refine xEP rfl ?_ | refine xEE rfl ?_ | refine AQ.done ?_ | refine AQ.skip (by kernel_rfl) rfl ?_ | refine AQ.s2b (by kernel_rfl) rfl rfl rfl rfl ?_ | refine AQ.mark (by kernel_rfl) rfl rfl rfl rfl rfl rfl rfl ?_ | refine AP.cond_true rfl rfl ?_ | refine AP.cond_false rfl rfl ?_ | (refine AP.region rfl (by kernel_rfl) ?_; simp only [go_sem, Nat.reduceAdd, Nat.reduceLeDiff, reduceCtorEq, hget, Int.toNat_natCast, intR_len, bne_self_eq_false, hwj]) | (refine AP.drawQ rfl rfl (by kernel_rfl) ?_; simp only [go_sem, Nat.reduceAdd, Nat.reduceLeDiff, reduceCtorEq, hget, Int.toNat_natCast, intR_len, bne_self_eq_false, hwj]) | (refine vq_id ?_; simp only [go_sem, Nat.reduceAdd, Nat.reduceLeDiff, reduceCtorEq, hget, Int.toNat_natCast, intR_len, bne_self_eq_false, hwj]) | (refine ⟨by first | omega | (intros; simp_all; done) | (intros; simp_all; omega), ?_⟩; try simp only [go_sem, Nat.reduceAdd, Nat.reduceLeDiff, reduceCtorEq, hget, Int.toNat_natCast, intR_len, bne_self_eq_false, hwj]))
          simp only [go_sem, Nat.reduceAdd, Nat.reduceLeDiff, reduceCtorEq]
          refine AE.order [0, 1, 2, 3] rfl ?_
          simp only [go_sem, Nat.reduceAdd, Nat.reduceLeDiff, reduceCtorEq]
          exact AE.round (j + 1, vs, n + 1) ⟨by simp only; omega, by simp only; omega, hv⟩ (by simp only; omega) (by repeat (first | exact Sub.nil _ | refine Sub.cons rfl ?_)) (by simp only [List.length_cons])
      · have f0 : (((4 : Nat) : Int) == 0) = false := rfl
        have f1 : (((4 : Nat) : Int) == 1) = false := rfl
        have f2 : (((4 : Nat) : Int) == 2) = false := rfl
        have f3 : (((4 : Nat) : Int) == 3) = false := rfl
        have f4 : (((4 : Nat) : Int) == 4) = true := rfl
        have hlt : (vs.take (n + 1)).length = n + 1 := List.length_take_of_le (by omega)
        have hfk := fork_spec vs n hn (by omega)
        have hcur := current_spec (vs.take (n + 1)) (n) (by omega) (by omega)
        have hget := intR_get (vs.take (n + 1)) (n) (by omega)
        simp only [go_sem, Nat.reduceAdd, Nat.reduceLeDiff, reduceCtorEq, hisH] at hcur
        rw [hlt] at hcur
        simp only [go_sem, Nat.reduceAdd, Nat.reduceLeDiff, reduceCtorEq, hisH] at hfk
        by_cases h9 : n = 999
        · have hcf := commit_full vs n (IntKind.i64.wrap (m.val + 1)) (by omega)
          simp only [go_sem, Nat.reduceAdd, Nat.reduceLeDiff, reduceCtorEq, hisH] at hcf
          repeat (first | refine xPP rfl ?_ | refine xPE rfl ?_ | refine xEP rfl ?_ | refine xEE rfl ?_ | refine AQ.done ?_ | refine AQ.skip (by kernel_rfl) rfl ?_ | refine AQ.s2b (by kernel_rfl) rfl rfl rfl rfl ?_ | refine AQ.mark (by kernel_rfl) rfl rfl rfl rfl rfl rfl rfl ?_ | refine AP.cond_true rfl rfl ?_ | refine AP.cond_false rfl rfl ?_ | (refine AP.region rfl (by kernel_rfl) ?_; simp only [go_sem, Nat.reduceAdd, Nat.reduceLeDiff, reduceCtorEq, f0, f1, f2, f3, f4]) | (refine AP.drawQ rfl rfl (by kernel_rfl) ?_; simp only [go_sem, Nat.reduceAdd, Nat.reduceLeDiff, reduceCtorEq, f0, f1, f2, f3, f4]) | (refine vq_id ?_; simp only [go_sem, Nat.reduceAdd, Nat.reduceLeDiff, reduceCtorEq, f0, f1, f2, f3, f4]) | (refine ⟨by first | omega | (intros; simp_all; done) | (intros; simp_all; omega), ?_⟩; try simp only [go_sem, Nat.reduceAdd, Nat.reduceLeDiff, reduceCtorEq, f0, f1, f2, f3, f4]))
          refine AQ.callH [(1, 1), (0, 0)] (by kernel_rfl) rfl rfl rfl rfl rfl rfl (by exact ⟨rfl, rfl, trivial⟩) rfl hfk ?_
          rintro r' H' ⟨e1, e2⟩
          subst e1; subst e2
          refine ⟨rfl, ?_⟩
          simp only [go_sem, Nat.reduceAdd, Nat.reduceLeDiff, reduceCtorEq]
          repeat (first | refine xPP rfl ?_ | refine xPE rfl ?_ | refine xEP rfl ?_ | refine xEE rfl ?_ | refine AQ.done ?_ | refine AQ.skip (by kernel_rfl) rfl ?_ | refine AQ.s2b (by kernel_rfl) rfl rfl rfl rfl ?_ | refine AQ.mark (by kernel_rfl) rfl rfl rfl rfl rfl rfl rfl ?_ | refine AP.cond_true rfl rfl ?_ | refine AP.cond_false rfl rfl ?_ | (refine AP.region rfl (by kernel_rfl) ?_; simp only [go_sem, Nat.reduceAdd, Nat.reduceLeDiff, reduceCtorEq]) | (refine AP.drawQ rfl rfl (by kernel_rfl) ?_; simp only [go_sem, Nat.reduceAdd, Nat.reduceLeDiff, reduceCtorEq]) | (refine vq_id ?_; simp only [go_sem, Nat.reduceAdd, Nat.reduceLeDiff, reduceCtorEq]) | (refine ⟨by first | omega | (intros; simp_all; done) | (intros; simp_all; omega), ?_⟩; try simp only [go_sem, Nat.reduceAdd, Nat.reduceLeDiff, reduceCtorEq]))
          refine AQ.callH [(1, 1), (0, 0)] (by kernel_rfl) rfl rfl rfl rfl rfl rfl (by exact ⟨rfl, rfl, trivial⟩) rfl hcf ?_
          rintro r' H' ⟨e1, e2⟩
          subst e1; subst e2
          refine ⟨rfl, ?_⟩
          simp only [go_sem, Nat.reduceAdd, Nat.reduceLeDiff, reduceCtorEq, hisH]
          repeat (first | refine xPP rfl ?_ | refine xPE rfl ?_ | refine xEP rfl ?_ | refine xEE rfl ?_ | refine AQ.done ?_ | refine AQ.skip (by kernel_rfl) rfl ?_ | refine AQ.s2b (by kernel_rfl) rfl rfl rfl rfl ?_ | refine AQ.mark (by kernel_rfl) rfl rfl rfl rfl rfl rfl rfl ?_ | refine AP.cond_true rfl rfl ?_ | refine AP.cond_false rfl rfl ?_ | (refine AP.region rfl (by kernel_rfl) ?_; simp only [go_sem, Nat.reduceAdd, Nat.reduceLeDiff, reduceCtorEq]) | (refine AP.drawQ rfl rfl (by kernel_rfl) ?_; simp only [go_sem, Nat.reduceAdd, Nat.reduceLeDiff, reduceCtorEq]) | (refine vq_id ?_; simp only [go_sem, Nat.reduceAdd, Nat.reduceLeDiff, reduceCtorEq]) | (refine ⟨by first | omega | (intros; simp_all; done) | (intros; simp_all; omega), ?_⟩; try simp only [go_sem, Nat.reduceAdd, Nat.reduceLeDiff, reduceCtorEq]))
          refine AQ.fn (by kernel_rfl) rfl rfl rfl (fork_ref2 vs n (by omega) (by omega)) rfl ?_
          repeat (first | refine xPP rfl ?_ | refine xPE rfl ?_ | refine xEP rfl ?_ | refine xEE rfl ?_ | refine AQ.done ?_ | refine AQ.skip (by kernel_rfl) rfl ?_ | refine AQ.s2b (by kernel_rfl) rfl rfl rfl rfl ?_ | refine AQ.mark (by kernel_rfl) rfl rfl rfl rfl rfl rfl rfl ?_ | refine AP.cond_true rfl rfl ?_ | refine AP.cond_false rfl rfl ?_ | (refine AP.region rfl (by kernel_rfl) ?_; simp only [go_sem, Nat.reduceAdd, Nat.reduceLeDiff, reduceCtorEq]) | (refine AP.drawQ rfl rfl (by kernel_rfl) ?_; simp only [go_sem, Nat.reduceAdd, Nat.reduceLeDiff, reduceCtorEq]) | (refine vq_id ?_; simp only [go_sem, Nat.reduceAdd, Nat.reduceLeDiff, reduceCtorEq]) | (refine ⟨by first | omega | (intros; simp_all; done) | (intros; simp_all; omega), ?_⟩; try simp only [go_sem, Nat.reduceAdd, Nat.reduceLeDiff, reduceCtorEq]))
          refine AQ.callH [(1, 6), (0, 7)] (by kernel_rfl) rfl rfl rfl rfl rfl rfl (by exact ⟨rfl, rfl, trivial⟩) rfl hcur ?_
          rintro r' H' ⟨e1, e2⟩
          subst e1; subst e2
          refine ⟨rfl, ?_⟩
          simp only [go_sem, Nat.reduceAdd, Nat.reduceLeDiff, reduceCtorEq, hisH]
          repeat (first | refine xPP rfl ?_ | refine xPE rfl ?_ | refine xEP rfl ?_ | refine xEE rfl ?_ | refine AQ.done ?_ | refine AQ.skip (by kernel_rfl) rfl ?_ | refine AQ.s2b (by kernel_rfl) rfl rfl rfl rfl ?_ | refine AQ.mark (by kernel_rfl) rfl rfl rfl rfl rfl rfl rfl ?_ | refine AP.cond_true rfl rfl ?_ | refine AP.cond_false rfl rfl ?_ | (refine AP.region rfl (by kernel_rfl) ?_; simp only [go_sem, Nat.reduceAdd, Nat.reduceLeDiff, reduceCtorEq, hget, Int.toNat_natCast, intR_len, bne_self_eq_false, hwj]) | (refine AP.drawQ rfl rfl (by kernel_rfl) ?_; simp only [go_sem, Nat.reduceAdd, Nat.reduceLeDiff, reduceCtorEq, hget, Int.toNat_natCast, intR_len, bne_self_eq_false, hwj]) | (refine vq_id ?_; simp only [go_sem, Nat.reduceAdd, Nat.reduceLeDiff, reduceCtorEq, hget, Int.toNat_natCast, intR_len, bne_self_eq_false, hwj]) | (refine ⟨by first | omega | (intros; simp_all; done) | (intros; simp_all; omega), ?_⟩; try simp only [go_sem, Nat.reduceAdd, Nat.reduceLeDiff, reduceCtorEq, hget, Int.toNat_natCast, intR_len, bne_self_eq_false, hwj]))
          refine AE.forgets [0, 1] rfl ?_
          simp only [go_sem, Nat.reduceAdd, Nat.reduceLeDiff, reduceCtorEq]
          refine AE.rename 7 0 rfl rfl rfl ?_
          simp only [go_sem, Nat.reduceAdd, Nat.reduceLeDiff, reduceCtorEq]
          refine AE.rename 6 1 rfl rfl rfl ?_
          simp only [go_sem, Nat.reduceAdd, Nat.reduceLeDiff, reduceCtorEq]
          refine AE.order [0, 1, 2, 3] rfl ?_
          simp only [go_sem, Nat.reduceAdd, Nat.reduceLeDiff, reduceCtorEq]
          exact AE.round (j + 1, vs.take (n + 1), n) ⟨by simp only; omega, by simp only; omega, by simp only; omega⟩ (by simp only; omega) (by repeat (first | exact Sub.nil _ | refine Sub.cons rfl ?_)) (by simp only [hlt])
        · have hcs := commit_spec vs n (IntKind.i64.wrap (m.val + 1)) (by omega) hn (by omega)
          simp only [go_sem, Nat.reduceAdd, Nat.reduceLeDiff, reduceCtorEq, hisH] at hcs
          repeat (first | refine xPP rfl ?_ | refine xPE rfl ?_ | refine xEP rfl ?_ | refine xEE rfl ?_ | refine AQ.done ?_ | refine AQ.skip (by kernel_rfl) rfl ?_ | refine AQ.s2b (by kernel_rfl) rfl rfl rfl rfl ?_ | refine AQ.mark (by kernel_rfl) rfl rfl rfl rfl rfl rfl rfl ?_ | refine AP.cond_true rfl rfl ?_ | refine AP.cond_false rfl rfl ?_ | (refine AP.region rfl (by kernel_rfl) ?_; simp only [go_sem, Nat.reduceAdd, Nat.reduceLeDiff, reduceCtorEq, f0, f1, f2, f3, f4]) | (refine AP.drawQ rfl rfl (by kernel_rfl) ?_; simp only [go_sem, Nat.reduceAdd, Nat.reduceLeDiff, reduceCtorEq, f0, f1, f2, f3, f4]) | (refine vq_id ?_; simp only [go_sem, Nat.reduceAdd, Nat.reduceLeDiff, reduceCtorEq, f0, f1, f2, f3, f4]) | (refine ⟨by first | omega | (intros; simp_all; done) | (intros; simp_all; omega), ?_⟩; try simp only [go_sem, Nat.reduceAdd, Nat.reduceLeDiff, reduceCtorEq, f0, f1, f2, f3, f4]))
          refine AQ.callH [(1, 1), (0, 0)] (by kernel_rfl) rfl rfl rfl rfl rfl rfl (by exact ⟨rfl, rfl, trivial⟩) rfl hfk ?_
          rintro r' H' ⟨e1, e2⟩
          subst e1; subst e2
          refine ⟨rfl, ?_⟩
          simp only [go_sem, Nat.reduceAdd, Nat.reduceLeDiff, reduceCtorEq]
          repeat (first | refine xPP rfl ?_ | refine xPE rfl ?_ | refine xEP rfl ?_ | refine xEE rfl ?_ | refine AQ.done ?_ | refine AQ.skip (by kernel_rfl) rfl ?_ | refine AQ.s2b (by kernel_rfl) rfl rfl rfl rfl ?_ | refine AQ.mark (by kernel_rfl) rfl rfl rfl rfl rfl rfl rfl ?_ | refine AP.cond_true rfl rfl ?_ | refine AP.cond_false rfl rfl ?_ | (refine AP.region rfl (by kernel_rfl) ?_; simp only [go_sem, Nat.reduceAdd, Nat.reduceLeDiff, reduceCtorEq]) | (refine AP.drawQ rfl rfl (by kernel_rfl) ?_; simp only [go_sem, Nat.reduceAdd, Nat.reduceLeDiff, reduceCtorEq]) | (refine vq_id ?_; simp only [go_sem, Nat.reduceAdd, Nat.reduceLeDiff, reduceCtorEq]) | (refine ⟨by first | omega | (intros; simp_all; done) | (intros; simp_all; omega), ?_⟩; try simp only [go_sem, Nat.reduceAdd, Nat.reduceLeDiff, reduceCtorEq]))
          refine AQ.callH [(1, 1), (0, 0)] (by kernel_rfl) rfl rfl rfl rfl rfl rfl (by exact ⟨rfl, rfl, trivial⟩) rfl hcs ?_
          rintro r' H' ⟨e1, e2⟩
          subst e1; subst e2
          refine ⟨rfl, ?_⟩
          simp only [go_sem, Nat.reduceAdd, Nat.reduceLeDiff, reduceCtorEq, hisH]
          repeat (first | refine xPP rfl ?_ | refine xPE rfl ?_ | refine xEP rfl ?_ | refine xEE rfl ?_ | refine AQ.done ?_ | refine AQ.skip (by kernel_rfl) rfl ?_ | refine AQ.s2b (by kernel_rfl) rfl rfl rfl rfl ?_ | refine AQ.mark (by kernel_rfl) rfl rfl rfl rfl rfl rfl rfl ?_ | refine AP.cond_true rfl rfl ?_ | refine AP.cond_false rfl rfl ?_ | (refine AP.region rfl (by kernel_rfl) ?_; simp only [go_sem, Nat.reduceAdd, Nat.reduceLeDiff, reduceCtorEq]) | (refine AP.drawQ rfl rfl (by kernel_rfl) ?_; simp only [go_sem, Nat.reduceAdd, Nat.reduceLeDiff, reduceCtorEq]) | (refine vq_id ?_; simp only [go_sem, Nat.reduceAdd, Nat.reduceLeDiff, reduceCtorEq]) | (refine ⟨by first | omega | (intros; simp_all; done) | (intros; simp_all; omega), ?_⟩; try simp only [go_sem, Nat.reduceAdd, Nat.reduceLeDiff, reduceCtorEq]))
          refine AQ.fn (by kernel_rfl) rfl rfl rfl (fork_ref2 vs n (by omega) (by omega)) rfl ?_
          repeat (first | refine xPP rfl ?_ | refine xPE rfl ?_ | refine xEP rfl ?_ | refine xEE rfl ?_ | refine AQ.done ?_ | refine AQ.skip (by kernel_rfl) rfl ?_ | refine AQ.s2b (by kernel_rfl) rfl rfl rfl rfl ?_ | refine AQ.mark (by kernel_rfl) rfl rfl rfl rfl rfl rfl rfl ?_ | refine AP.cond_true rfl rfl ?_ | refine AP.cond_false rfl rfl ?_ | (refine AP.region rfl (by kernel_rfl) ?_; simp only [go_sem, Nat.reduceAdd, Nat.reduceLeDiff, reduceCtorEq]) | (refine AP.drawQ rfl rfl (by kernel_rfl) ?_; simp only [go_sem, Nat.reduceAdd, Nat.reduceLeDiff, reduceCtorEq]) | (refine vq_id ?_; simp only [go_sem, Nat.reduceAdd, Nat.reduceLeDiff, reduceCtorEq]) | (refine ⟨by first | omega | (intros; simp_all; done) | (intros; simp_all; omega), ?_⟩; try simp only [go_sem, Nat.reduceAdd, Nat.reduceLeDiff, reduceCtorEq]))
          refine AQ.callH [(1, 6), (0, 7)] (by kernel_rfl) rfl rfl rfl rfl rfl rfl (by exact ⟨rfl, rfl, trivial⟩) rfl hcur ?_
          rintro r' H' ⟨e1, e2⟩
          subst e1; subst e2
          refine ⟨rfl, ?_⟩
          simp only [go_sem, Nat.reduceAdd, Nat.reduceLeDiff, reduceCtorEq, hisH]
          repeat (first | refine xPP rfl ?_ | refine xPE rfl ?_ | refine xEP rfl ?_ | refine xEE rfl ?_ | refine AQ.done ?_ | refine AQ.skip (by kernel_rfl) rfl ?_ | refine AQ.s2b (by kernel_rfl) rfl rfl rfl rfl ?_ | refine AQ.mark (by kernel_rfl) rfl rfl rfl rfl rfl rfl rfl ?_ | refine AP.cond_true rfl rfl ?_ | refine AP.cond_false rfl rfl ?_ | (refine AP.region rfl (by kernel_rfl) ?_; simp only [go_sem, Nat.reduceAdd, Nat.reduceLeDiff, reduceCtorEq, hget, Int.toNat_natCast, intR_len, bne_self_eq_false, hwj]) | (refine AP.drawQ rfl rfl (by kernel_rfl) ?_; simp only [go_sem, Nat.reduceAdd, Nat.reduceLeDiff, reduceCtorEq, hget, Int.toNat_natCast, intR_len, bne_self_eq_false, hwj]) | (refine vq_id ?_; simp only [go_sem, Nat.reduceAdd, Nat.reduceLeDiff, reduceCtorEq, hget, Int.toNat_natCast, intR_len, bne_self_eq_false, hwj]) | (refine ⟨by first | omega | (intros; simp_all; done) | (intros; simp_all; omega), ?_⟩; try simp only [go_sem, Nat.reduceAdd, Nat.reduceLeDiff, reduceCtorEq, hget, Int.toNat_natCast, intR_len, bne_self_eq_false, hwj]))
          refine AE.forgets [0, 10] rfl ?_
          simp only [go_sem, Nat.reduceAdd, Nat.reduceLeDiff, reduceCtorEq]
          refine AE.rename 7 0 rfl rfl rfl ?_
          simp only [go_sem, Nat.reduceAdd, Nat.reduceLeDiff, reduceCtorEq]
          refine AE.rename 6 1 rfl rfl rfl ?_
          simp only [go_sem, Nat.reduceAdd, Nat.reduceLeDiff, reduceCtorEq]
          refine AE.order [0, 1, 2, 3] rfl ?_
          simp only [go_sem, Nat.reduceAdd, Nat.reduceLeDiff, reduceCtorEq]
          exact AE.round (j + 1, vs.take (n + 1), n) ⟨by simp only; omega, by simp only; omega, by simp only; omega⟩ (by simp only; omega) (by repeat (first | exact Sub.nil _ | refine Sub.cons rfl ?_)) (by simp only [hlt])
      · have f0 : (((5 : Nat) : Int) == 0) = false := rfl
        have f1 : (((5 : Nat) : Int) == 1) = false := rfl
        have f2 : (((5 : Nat) : Int) == 2) = false := rfl
        have f3 : (((5 : Nat) : Int) == 3) = false := rfl
        have f4 : (((5 : Nat) : Int) == 4) = false := rfl
        have hlt : (vs.take (n + 1)).length = n + 1 := List.length_take_of_le (by omega)
        have hfk := fork_spec vs n hn (by omega)
        have hcur := current_spec (vs) (n) (hn) (by omega)
        have hget := intR_get (vs) (n) (hn)
        simp only [go_sem, Nat.reduceAdd, Nat.reduceLeDiff, reduceCtorEq, hisH] at hcur
        simp only [go_sem, Nat.reduceAdd, Nat.reduceLeDiff, reduceCtorEq, hisH] at hfk
        by_cases h9 : n = 999
        · have hcm := commit_full (vs.take (n + 1)) n (IntKind.i64.wrap (m.val + 1)) (by omega)
          simp only [go_sem, Nat.reduceAdd, Nat.reduceLeDiff, reduceCtorEq, hisH, hlt] at hcm
          repeat (first | refine xPP rfl ?_ | refine xPE rfl ?_ | refine xEP rfl ?_ | refine xEE rfl ?_ | refine AQ.done ?_ | refine AQ.skip (by kernel_rfl) rfl ?_ | refine AQ.s2b (by kernel_rfl) rfl rfl rfl rfl ?_ | refine AQ.mark (by kernel_rfl) rfl rfl rfl rfl rfl rfl rfl ?_ | refine AP.cond_true rfl rfl ?_ | refine AP.cond_false rfl rfl ?_ | (refine AP.region rfl (by kernel_rfl) ?_; simp only [go_sem, Nat.reduceAdd, Nat.reduceLeDiff, reduceCtorEq, f0, f1, f2, f3, f4]) | (refine AP.drawQ rfl rfl (by kernel_rfl) ?_; simp only [go_sem, Nat.reduceAdd, Nat.reduceLeDiff, reduceCtorEq, f0, f1, f2, f3, f4]) | (refine vq_id ?_; simp only [go_sem, Nat.reduceAdd, Nat.reduceLeDiff, reduceCtorEq, f0, f1, f2, f3, f4]) | (refine ⟨by first | omega | (intros; simp_all; done) | (intros; simp_all; omega), ?_⟩; try simp only [go_sem, Nat.reduceAdd, Nat.reduceLeDiff, reduceCtorEq, f0, f1, f2, f3, f4]))
          refine AP.drawE 6 (Tree.node [] [0, 2, 3, 4] [1] [Tree.node [2, 3, 4] [] [5] [Tree.node [] [] [] []]]) (by kernel_rfl) rfl (by kernel_rfl) (by kernel_rfl) ?_
          refine vd_node ?_
          simp only [go_sem, Nat.reduceAdd, Nat.reduceLeDiff, reduceCtorEq]
          repeat' (first | with_reducible exact True.intro | with_reducible refine And.intro (by omega) ?_ | with_reducible refine And.intro ?_ ?_ | (refine AQ.nx rfl ?_; simp only [go_sem, Nat.reduceAdd, Nat.reduceLeDiff, reduceCtorEq]) | (refine AQ.callH [(1, 1), (0, 0)] (by kernel_rfl) rfl rfl rfl rfl rfl rfl (by exact ⟨rfl, rfl, trivial⟩) rfl hfk ?_; rintro r' H' ⟨e1, e2⟩; subst e1; subst e2; refine ⟨rfl, ?_⟩; simp only [go_sem, Nat.reduceAdd, Nat.reduceLeDiff, reduceCtorEq]) | (refine AQ.callH [(1, 6), (0, 7)] (by kernel_rfl) rfl rfl rfl rfl rfl rfl (by exact ⟨rfl, rfl, trivial⟩) rfl hcm ?_; rintro r' H' ⟨e1, e2⟩; subst e1; subst e2; refine ⟨rfl, ?_⟩; simp only [go_sem, Nat.reduceAdd, Nat.reduceLeDiff, reduceCtorEq]) | refine AQ.done ?_ | (refine AQ.go (by kernel_rfl) ?_; simp only [go_sem, Nat.reduceAdd, Nat.reduceLeDiff, reduceCtorEq]; repeat (with_reducible refine And.intro (by omega) ?_); refine AQ.nx rfl ?_; simp only [go_sem, Nat.reduceAdd, Nat.reduceLeDiff, reduceCtorEq]))
          repeat (first | refine xPP rfl ?_ | refine xPE rfl ?_ | refine xEP rfl ?_ | refine xEE rfl ?_ | refine AQ.done ?_ | refine AQ.skip (by kernel_rfl) rfl ?_ | refine AQ.s2b (by kernel_rfl) rfl rfl rfl rfl ?_ | refine AQ.mark (by kernel_rfl) rfl rfl rfl rfl rfl rfl rfl ?_ | refine AP.cond_true rfl rfl ?_ | refine AP.cond_false rfl rfl ?_ | (refine AP.region rfl (by kernel_rfl) ?_; simp only [go_sem, Nat.reduceAdd, Nat.reduceLeDiff, reduceCtorEq]) | (refine AP.drawQ rfl rfl (by kernel_rfl) ?_; simp only [go_sem, Nat.reduceAdd, Nat.reduceLeDiff, reduceCtorEq]) | (refine vq_id ?_; simp only [go_sem, Nat.reduceAdd, Nat.reduceLeDiff, reduceCtorEq]) | (refine ⟨by first | omega | (intros; simp_all; done) | (intros; simp_all; omega), ?_⟩; try simp only [go_sem, Nat.reduceAdd, Nat.reduceLeDiff, reduceCtorEq]))
          refine AQ.callH [(1, 1), (0, 0)] (by kernel_rfl) rfl rfl rfl rfl rfl rfl (by exact ⟨rfl, rfl, trivial⟩) rfl hcur ?_
          rintro r' H' ⟨e1, e2⟩
          subst e1; subst e2
          refine ⟨rfl, ?_⟩
          simp only [go_sem, Nat.reduceAdd, Nat.reduceLeDiff, reduceCtorEq, hisH]
          repeat (first | refine xPP rfl ?_ | refine xPE rfl ?_ | refine xEP rfl ?_ | refine xEE rfl ?_ | refine AQ.done ?_ | refine AQ.skip (by kernel_rfl) rfl ?_ | refine AQ.s2b (by kernel_rfl) rfl rfl rfl rfl ?_ | refine AQ.mark (by kernel_rfl) rfl rfl rfl rfl rfl rfl rfl ?_ | refine AP.cond_true rfl rfl ?_ | refine AP.cond_false rfl rfl ?_ | (refine AP.region rfl (by kernel_rfl) ?_; simp only [go_sem, Nat.reduceAdd, Nat.reduceLeDiff, reduceCtorEq, hget, Int.toNat_natCast, intR_len, bne_self_eq_false, hwj]) | (refine AP.drawQ rfl rfl (by kernel_rfl) ?_; simp only [go_sem, Nat.reduceAdd, Nat.reduceLeDiff, reduceCtorEq, hget, Int.toNat_natCast, intR_len, bne_self_eq_false, hwj]) | (refine vq_id ?_; simp only [go_sem, Nat.reduceAdd, Nat.reduceLeDiff, reduceCtorEq, hget, Int.toNat_natCast, intR_len, bne_self_eq_false, hwj]) | (refine ⟨by first | omega | (intros; simp_all; done) | (intros; simp_all; omega), ?_⟩; try simp only [go_sem, Nat.reduceAdd, Nat.reduceLeDiff, reduceCtorEq, hget, Int.toNat_natCast, intR_len, bne_self_eq_false, hwj]))
          refine AE.forgets [7, 6] rfl ?_
          simp only [go_sem, Nat.reduceAdd, Nat.reduceLeDiff, reduceCtorEq]
          refine AE.order [0, 1, 2, 3] rfl ?_
          simp only [go_sem, Nat.reduceAdd, Nat.reduceLeDiff, reduceCtorEq]
          exact AE.round (j + 1, vs, n) ⟨by simp only; omega, hn, hv⟩ (by simp only; omega) (by repeat (first | exact Sub.nil _ | refine Sub.cons rfl ?_)) (by simp only [List.length_cons])
        · have hcm := commit_spec (vs.take (n + 1)) n (IntKind.i64.wrap (m.val + 1)) (by omega) (by omega) (by omega)
          simp only [go_sem, Nat.reduceAdd, Nat.reduceLeDiff, reduceCtorEq, hisH, hlt] at hcm
          repeat (first | refine xPP rfl ?_ | refine xPE rfl ?_ | refine xEP rfl ?_ | refine xEE rfl ?_ | refine AQ.done ?_ | refine AQ.skip (by kernel_rfl) rfl ?_ | refine AQ.s2b (by kernel_rfl) rfl rfl rfl rfl ?_ | refine AQ.mark (by kernel_rfl) rfl rfl rfl rfl rfl rfl rfl ?_ | refine AP.cond_true rfl rfl ?_ | refine AP.cond_false rfl rfl ?_ | (refine AP.region rfl (by kernel_rfl) ?_; simp only [go_sem, Nat.reduceAdd, Nat.reduceLeDiff, reduceCtorEq, f0, f1, f2, f3, f4]) | (refine AP.drawQ rfl rfl (by kernel_rfl) ?_; simp only [go_sem, Nat.reduceAdd, Nat.reduceLeDiff, reduceCtorEq, f0, f1, f2, f3, f4]) | (refine vq_id ?_; simp only [go_sem, Nat.reduceAdd, Nat.reduceLeDiff, reduceCtorEq, f0, f1, f2, f3, f4]) | (refine ⟨by first | omega | (intros; simp_all; done) | (intros; simp_all; omega), ?_⟩; try simp only [go_sem, Nat.reduceAdd, Nat.reduceLeDiff, reduceCtorEq, f0, f1, f2, f3, f4]))
          refine AP.drawE 6 (Tree.node [] [0, 2, 3, 4] [1] [Tree.node [2, 3, 4] [] [5] [Tree.node [] [] [] []]]) (by kernel_rfl) rfl (by kernel_rfl) (by kernel_rfl) ?_
          refine vd_node ?_
          simp only [go_sem, Nat.reduceAdd, Nat.reduceLeDiff, reduceCtorEq]
          repeat' (first | with_reducible exact True.intro | with_reducible refine And.intro (by omega) ?_ | with_reducible refine And.intro ?_ ?_ | (refine AQ.nx rfl ?_; simp only [go_sem, Nat.reduceAdd, Nat.reduceLeDiff, reduceCtorEq]) | (refine AQ.callH [(1, 1), (0, 0)] (by kernel_rfl) rfl rfl rfl rfl rfl rfl (by exact ⟨rfl, rfl, trivial⟩) rfl hfk ?_; rintro r' H' ⟨e1, e2⟩; subst e1; subst e2; refine ⟨rfl, ?_⟩; simp only [go_sem, Nat.reduceAdd, Nat.reduceLeDiff, reduceCtorEq]) | (refine AQ.callH [(1, 6), (0, 7)] (by kernel_rfl) rfl rfl rfl rfl rfl rfl (by exact ⟨rfl, rfl, trivial⟩) rfl hcm ?_; rintro r' H' ⟨e1, e2⟩; subst e1; subst e2; refine ⟨rfl, ?_⟩; simp only [go_sem, Nat.reduceAdd, Nat.reduceLeDiff, reduceCtorEq]) | refine AQ.done ?_ | (refine AQ.go (by kernel_rfl) ?_; simp only [go_sem, Nat.reduceAdd, Nat.reduceLeDiff, reduceCtorEq]; repeat (with_reducible refine And.intro (by omega) ?_); refine AQ.nx rfl ?_; simp only [go_sem, Nat.reduceAdd, Nat.reduceLeDiff, reduceCtorEq]))
          repeat (first | refine xPP rfl ?_ | refine xPE rfl ?_ | refine xEP rfl ?_ | refine xEE rfl ?_ | refine AQ.done ?_ | refine AQ.skip (by kernel_rfl) rfl ?_ | refine AQ.s2b (by kernel_rfl) rfl rfl rfl rfl ?_ | refine AQ.mark (by kernel_rfl) rfl rfl rfl rfl rfl rfl rfl ?_ | refine AP.cond_true rfl rfl ?_ | refine AP.cond_false rfl rfl ?_ | (refine AP.region rfl (by kernel_rfl) ?_; simp only [go_sem, Nat.reduceAdd, Nat.reduceLeDiff, reduceCtorEq]) | (refine AP.drawQ rfl rfl (by kernel_rfl) ?_; simp only [go_sem, Nat.reduceAdd, Nat.reduceLeDiff, reduceCtorEq]) | (refine vq_id ?_; simp only [go_sem, Nat.reduceAdd, Nat.reduceLeDiff, reduceCtorEq]) | (refine ⟨by first | omega | (intros; simp_all; done) | (intros; simp_all; omega), ?_⟩; try simp only [go_sem, Nat.reduceAdd, Nat.reduceLeDiff, reduceCtorEq]))
          refine AQ.callH [(1, 1), (0, 0)] (by kernel_rfl) rfl rfl rfl rfl rfl rfl (by exact ⟨rfl, rfl, trivial⟩) rfl hcur ?_
          rintro r' H' ⟨e1, e2⟩
          subst e1; subst e2
          refine ⟨rfl, ?_⟩
          simp only [go_sem, Nat.reduceAdd, Nat.reduceLeDiff, reduceCtorEq, hisH]
          repeat (first | refine xPP rfl ?_ | refine xPE rfl ?_ | refine xEP rfl ?_ | refine xEE rfl ?_ | refine AQ.done ?_ | refine AQ.skip (by kernel_rfl) rfl ?_ | refine AQ.s2b (by kernel_rfl) rfl rfl rfl rfl ?_ | refine AQ.mark (by kernel_rfl) rfl rfl rfl rfl rfl rfl rfl ?_ | refine AP.cond_true rfl rfl ?_ | refine AP.cond_false rfl rfl ?_ | (refine AP.region rfl (by kernel_rfl) ?_; simp only [go_sem, Nat.reduceAdd, Nat.reduceLeDiff, reduceCtorEq, hget, Int.toNat_natCast, intR_len, bne_self_eq_false, hwj]) | (refine AP.drawQ rfl rfl (by kernel_rfl) ?_; simp only [go_sem, Nat.reduceAdd, Nat.reduceLeDiff, reduceCtorEq, hget, Int.toNat_natCast, intR_len, bne_self_eq_false, hwj]) | (refine vq_id ?_; simp only [go_sem, Nat.reduceAdd, Nat.reduceLeDiff, reduceCtorEq, hget, Int.toNat_natCast, intR_len, bne_self_eq_false, hwj]) | (refine ⟨by first | omega | (intros; simp_all; done) | (intros; simp_all; omega), ?_⟩; try simp only [go_sem, Nat.reduceAdd, Nat.reduceLeDiff, reduceCtorEq, hget, Int.toNat_natCast, intR_len, bne_self_eq_false, hwj]))
          refine AE.forgets [7, 10] rfl ?_
          simp only [go_sem, Nat.reduceAdd, Nat.reduceLeDiff, reduceCtorEq]
          refine AE.order [0, 1, 2, 3] rfl ?_
          simp only [go_sem, Nat.reduceAdd, Nat.reduceLeDiff, reduceCtorEq]
          exact AE.round (j + 1, vs, n) ⟨by simp only; omega, hn, hv⟩ (by simp only; omega) (by repeat (first | exact Sub.nil _ | refine Sub.cons rfl ?_)) (by simp only [List.length_cons])
    · repeat (first | refine xPP rfl ?_ | refine xPE rfl ?_ | refine xEP rfl ?_ | refine xEE rfl ?_ | refine AQ.done ?_ | refine AQ.skip (by kernel_rfl) rfl ?_ | refine AQ.s2b (by kernel_rfl) rfl rfl rfl rfl ?_ | refine AQ.mark (by kernel_rfl) rfl rfl rfl rfl rfl rfl rfl ?_ | refine AP.cond_true rfl rfl ?_ | refine AP.cond_false rfl rfl ?_ | (refine AP.region rfl (by kernel_rfl) ?_; simp only [go_sem, Nat.reduceAdd, Nat.reduceLeDiff, reduceCtorEq, hw]) | (refine AP.drawQ rfl rfl (by kernel_rfl) ?_; simp only [go_sem, Nat.reduceAdd, Nat.reduceLeDiff, reduceCtorEq, hw]) | (refine vq_id ?_; simp only [go_sem, Nat.reduceAdd, Nat.reduceLeDiff, reduceCtorEq, hw]) | (refine ⟨by first | omega | (intros; simp_all; done) | (intros; simp_all; omega), ?_⟩; try simp only [go_sem, Nat.reduceAdd, Nat.reduceLeDiff, reduceCtorEq, hw]))
      refine AE.forgets [3] rfl ?_
      simp only [go_sem, Nat.reduceAdd, Nat.reduceLeDiff, reduceCtorEq]
      exact AE.round (k + 1, vs, n) ⟨by simp only; omega, hn, hv⟩ (by simp only; omega) (by repeat (first | exact Sub.nil _ | refine Sub.cons rfl ?_)) rfl
  · repeat (first | refine xPP rfl ?_ | refine xPE rfl ?_ | refine xEP rfl ?_ | refine xEE rfl ?_ | refine AQ.done ?_ | refine AQ.skip (by kernel_rfl) rfl ?_ | refine AQ.s2b (by kernel_rfl) rfl rfl rfl rfl ?_ | refine AQ.mark (by kernel_rfl) rfl rfl rfl rfl rfl rfl rfl ?_ | refine AP.cond_true rfl rfl ?_ | refine AP.cond_false rfl rfl ?_ | (refine AP.region rfl (by kernel_rfl) ?_; simp only [go_sem, Nat.reduceAdd, Nat.reduceLeDiff, reduceCtorEq]) | (refine AP.drawQ rfl rfl (by kernel_rfl) ?_; simp only [go_sem, Nat.reduceAdd, Nat.reduceLeDiff, reduceCtorEq]) | (refine vq_id ?_; simp only [go_sem, Nat.reduceAdd, Nat.reduceLeDiff, reduceCtorEq]) | (refine ⟨by first | omega | (intros; simp_all; done) | (intros; simp_all; omega), ?_⟩; try simp only [go_sem, Nat.reduceAdd, Nat.reduceLeDiff, reduceCtorEq]))
    refine AQ.fn (by kernel_rfl) rfl rfl rfl (current_nil) rfl ?_
    repeat (first | refine xPP rfl ?_ | refine xPE rfl ?_ | refine xEP rfl ?_ | refine xEE rfl ?_ | refine AQ.done ?_ | refine AQ.skip (by kernel_rfl) rfl ?_ | refine AQ.s2b (by kernel_rfl) rfl rfl rfl rfl ?_ | refine AQ.mark (by kernel_rfl) rfl rfl rfl rfl rfl rfl rfl ?_ | refine AP.cond_true rfl rfl ?_ | refine AP.cond_false rfl rfl ?_ | (refine AP.region rfl (by kernel_rfl) ?_; simp only [go_sem, Nat.reduceAdd, Nat.reduceLeDiff, reduceCtorEq, beq_self_eq_true, Bool.and_self]) | (refine AP.drawQ rfl rfl (by kernel_rfl) ?_; simp only [go_sem, Nat.reduceAdd, Nat.reduceLeDiff, reduceCtorEq, beq_self_eq_true, Bool.and_self]) | (refine vq_id ?_; simp only [go_sem, Nat.reduceAdd, Nat.reduceLeDiff, reduceCtorEq, beq_self_eq_true, Bool.and_self]) | (refine ⟨by first | omega | (intros; simp_all; done) | (intros; simp_all; omega), ?_⟩; try simp only [go_sem, Nat.reduceAdd, Nat.reduceLeDiff, reduceCtorEq, beq_self_eq_true, Bool.and_self]))
    refine AQ.fn (by kernel_rfl) rfl rfl rfl (commit_nil 1) rfl ?_
    repeat (first | refine xPP rfl ?_ | refine xPE rfl ?_ | refine xEP rfl ?_ | refine xEE rfl ?_ | refine AQ.done ?_ | refine AQ.skip (by kernel_rfl) rfl ?_ | refine AQ.s2b (by kernel_rfl) rfl rfl rfl rfl ?_ | refine AQ.mark (by kernel_rfl) rfl rfl rfl rfl rfl rfl rfl ?_ | refine AP.cond_true rfl rfl ?_ | refine AP.cond_false rfl rfl ?_ | (refine AP.region rfl (by kernel_rfl) ?_; simp only [go_sem, Nat.reduceAdd, Nat.reduceLeDiff, reduceCtorEq, beq_self_eq_true, Bool.and_self]) | (refine AP.drawQ rfl rfl (by kernel_rfl) ?_; simp only [go_sem, Nat.reduceAdd, Nat.reduceLeDiff, reduceCtorEq, beq_self_eq_true, Bool.and_self]) | (refine vq_id ?_; simp only [go_sem, Nat.reduceAdd, Nat.reduceLeDiff, reduceCtorEq, beq_self_eq_true, Bool.and_self]) | (refine ⟨by first | omega | (intros; simp_all; done) | (intros; simp_all; omega), ?_⟩; try simp only [go_sem, Nat.reduceAdd, Nat.reduceLeDiff, reduceCtorEq, beq_self_eq_true, Bool.and_self]))
    refine AQ.guard_yes (by simp only [go_sem]) ?_
    refine AQ.fn (by kernel_rfl) rfl rfl rfl (undo_nil) rfl ?_
    repeat (first | refine xPP rfl ?_ | refine xPE rfl ?_ | refine xEP rfl ?_ | refine xEE rfl ?_ | refine AQ.done ?_ | refine AQ.skip (by kernel_rfl) rfl ?_ | refine AQ.s2b (by kernel_rfl) rfl rfl rfl rfl ?_ | refine AQ.mark (by kernel_rfl) rfl rfl rfl rfl rfl rfl rfl ?_ | refine AP.cond_true rfl rfl ?_ | refine AP.cond_false rfl rfl ?_ | (refine AP.region rfl (by kernel_rfl) ?_; simp only [go_sem, Nat.reduceAdd, Nat.reduceLeDiff, reduceCtorEq, beq_self_eq_true, Bool.and_self]) | (refine AP.drawQ rfl rfl (by kernel_rfl) ?_; simp only [go_sem, Nat.reduceAdd, Nat.reduceLeDiff, reduceCtorEq, beq_self_eq_true, Bool.and_self]) | (refine vq_id ?_; simp only [go_sem, Nat.reduceAdd, Nat.reduceLeDiff, reduceCtorEq, beq_self_eq_true, Bool.and_self]) | (refine ⟨by first | omega | (intros; simp_all; done) | (intros; simp_all; omega), ?_⟩; try simp only [go_sem, Nat.reduceAdd, Nat.reduceLeDiff, reduceCtorEq, beq_self_eq_true, Bool.and_self]))
    refine AQ.guard_yes (by simp only [go_sem]) ?_
    refine AQ.fn (by kernel_rfl) rfl rfl rfl (redo_nil) rfl ?_
    repeat (first | refine xPP rfl ?_ | refine xPE rfl ?_ | refine xEP rfl ?_ | refine xEE rfl ?_ | refine AQ.done ?_ | refine AQ.skip (by kernel_rfl) rfl ?_ | refine AQ.s2b (by kernel_rfl) rfl rfl rfl rfl ?_ | refine AQ.mark (by kernel_rfl) rfl rfl rfl rfl rfl rfl rfl ?_ | refine AP.cond_true rfl rfl ?_ | refine AP.cond_false rfl rfl ?_ | (refine AP.region rfl (by kernel_rfl) ?_; simp only [go_sem, Nat.reduceAdd, Nat.reduceLeDiff, reduceCtorEq, beq_self_eq_true, Bool.and_self]) | (refine AP.drawQ rfl rfl (by kernel_rfl) ?_; simp only [go_sem, Nat.reduceAdd, Nat.reduceLeDiff, reduceCtorEq, beq_self_eq_true, Bool.and_self]) | (refine vq_id ?_; simp only [go_sem, Nat.reduceAdd, Nat.reduceLeDiff, reduceCtorEq, beq_self_eq_true, Bool.and_self]) | (refine ⟨by first | omega | (intros; simp_all; done) | (intros; simp_all; omega), ?_⟩; try simp only [go_sem, Nat.reduceAdd, Nat.reduceLeDiff, reduceCtorEq, beq_self_eq_true, Bool.and_self]))
    refine AQ.guard_yes (by simp only [go_sem]) ?_
    refine AQ.fn (by kernel_rfl) rfl rfl rfl (fork_nil) rfl ?_
    repeat (first | refine xPP rfl ?_ | refine xPE rfl ?_ | refine xEP rfl ?_ | refine xEE rfl ?_ | refine AQ.done ?_ | refine AQ.skip (by kernel_rfl) rfl ?_ | refine AQ.s2b (by kernel_rfl) rfl rfl rfl rfl ?_ | refine AQ.mark (by kernel_rfl) rfl rfl rfl rfl rfl rfl rfl ?_ | refine AP.cond_true rfl rfl ?_ | refine AP.cond_false rfl rfl ?_ | (refine AP.region rfl (by kernel_rfl) ?_; simp only [go_sem, Nat.reduceAdd, Nat.reduceLeDiff, reduceCtorEq, beq_self_eq_true, Bool.and_self]) | (refine AP.drawQ rfl rfl (by kernel_rfl) ?_; simp only [go_sem, Nat.reduceAdd, Nat.reduceLeDiff, reduceCtorEq, beq_self_eq_true, Bool.and_self]) | (refine vq_id ?_; simp only [go_sem, Nat.reduceAdd, Nat.reduceLeDiff, reduceCtorEq, beq_self_eq_true, Bool.and_self]) | (refine ⟨by first | omega | (intros; simp_all; done) | (intros; simp_all; omega), ?_⟩; try simp only [go_sem, Nat.reduceAdd, Nat.reduceLeDiff, reduceCtorEq, beq_self_eq_true, Bool.and_self]))
    refine AQ.guard_yes (by simp only [go_sem]) ?_
    refine AQ.fn (by kernel_rfl) rfl rfl rfl (awake_spec) rfl ?_
    repeat (first | refine xPP rfl ?_ | refine xPE rfl ?_ | refine xEP rfl ?_ | refine xEE rfl ?_ | refine AQ.done ?_ | refine AQ.skip (by kernel_rfl) rfl ?_ | refine AQ.s2b (by kernel_rfl) rfl rfl rfl rfl ?_ | refine AQ.mark (by kernel_rfl) rfl rfl rfl rfl rfl rfl rfl ?_ | refine AP.cond_true rfl rfl ?_ | refine AP.cond_false rfl rfl ?_ | (refine AP.region rfl (by kernel_rfl) ?_; simp only [go_sem, Nat.reduceAdd, Nat.reduceLeDiff, reduceCtorEq, beq_self_eq_true, Bool.and_self]) | (refine AP.drawQ rfl rfl (by kernel_rfl) ?_; simp only [go_sem, Nat.reduceAdd, Nat.reduceLeDiff, reduceCtorEq, beq_self_eq_true, Bool.and_self]) | (refine vq_id ?_; simp only [go_sem, Nat.reduceAdd, Nat.reduceLeDiff, reduceCtorEq, beq_self_eq_true, Bool.and_self]) | (refine ⟨by first | omega | (intros; simp_all; done) | (intros; simp_all; omega), ?_⟩; try simp only [go_sem, Nat.reduceAdd, Nat.reduceLeDiff, reduceCtorEq, beq_self_eq_true, Bool.and_self]))
    exact AE.ret0 rfl ⟨rfl, trivial⟩ rfl ⟨rfl, rfl⟩
end Go.Proofs.Ytfgffpkdjmeaoaa
end

section
namespace Go.Proofs.Ytfgffpkdjmeaoaa
open Go Go.AL Go.RowKit
set_option maxRecDepth 100000
theorem u8_nat' {i : Int} (h : (Lit.int .u8 i).wf = true) : ∃ n : Nat, i = n ∧ n < 256 := by
  simp [Lit.wf, IntKind.min, IntKind.max, IntKind.bits, IntKind.signed] at h
  exact ⟨i.toNat, by omega, by omega⟩
theorem u16_nat {i : Int} (h : (Lit.int .u16 i).wf = true) : ∃ n : Nat, i = n ∧ n < 65536 := by
  simp [Lit.wf, IntKind.min, IntKind.max, IntKind.bits, IntKind.signed] at h
  exact ⟨i.toNat, by omega, by omega⟩
/-- moves as they come -/
theorem movs_of {n : Nat} {xs : List IV} (h : Typed Try.prog n 33 xs) : ∃ l : List MoveM, xs = [.sl 3 (movsR l)] ∧ (∀ m ∈ l, m.kind < 256 ∧ m.times < 65536) ∧ l.length ≤ 9223372036854775807 := by
  have hc : Try.prog.cellsOf 36 = 3 := by kernel_rfl
  have hc5 : Try.prog.cellsOf 5 = 1 := by kernel_rfl
  have hc34 : Try.prog.cellsOf 34 = 1 := by kernel_rfl
  have hc3 : Try.prog.cellsOf 3 = 1 := by kernel_rfl
  obtain ⟨rows, m, rfl, hr, hrow⟩ := typed_slice Try.underlying33 h
  obtain ⟨l, rfl, hl⟩ := rows_of (p := fun o : MoveM => o.kind < 256 ∧ o.times < 65536) (f := movR) rows fun r hr => by
    obtain ⟨m', hlen, hf⟩ := typed_struct Try.underlying36 (hrow r hr)
    rw [hc] at hlen
    match r, hlen with
    | [a, b, c], _ =>
      have f0 := hf 0 _ rfl
      have f1 := hf 1 _ rfl
      have f2 := hf 2 _ rfl
      simp only [hc5, hc34, hc3, List.drop_zero, List.take_succ_cons, List.take_zero, List.drop_succ_cons] at f0 f1 f2
      obtain ⟨i0, e0, w0⟩ := typed_int Try.underlying5 f0
      obtain ⟨i1, e1, w1⟩ := typed_int Try.underlying34 f1
      obtain ⟨i2, e2, _⟩ := typed_int Try.underlying3 f2
      obtain ⟨n0, rfl, b0⟩ := u8_nat' w0
      obtain ⟨n1, rfl, b1⟩ := u16_nat w1
      cases e0; cases e1; cases e2
      exact ⟨⟨n0, n1, i2⟩, rfl, b0, b1⟩
  refine ⟨l, by rw [hc]; rfl, hl, ?_⟩
  rw [List.length_map] at hr
  unfold maxLen at hr
  omega
end Go.Proofs.Ytfgffpkdjmeaoaa
end
