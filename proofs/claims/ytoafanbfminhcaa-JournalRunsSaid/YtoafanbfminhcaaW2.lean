import Derived.Test.YtoafanbfminhcaaW1
import Derived.Lib.Strings
import Derived.Lib.Walk
import Derived.Lib.BufferWrite
import Derived.Lib.UnsafeStr
import Derived.Lib.Hide
import Derived.Laws.MakeOwn
import Derived.Lib.Builder
set_option linter.unusedSimpArgs false
set_option linter.unusedVariables false
set_option linter.unnecessarySimpa false
section
namespace Go.Proofs.Ytoafanbfminhcaa
open Go Go.AL Go.RowKit
set_option maxRecDepth 10000
set_option maxHeartbeats 4000000
theorem wru {x : Int} (h : 0 ≤ x ∧ x < 18446744073709551616) : IntKind.u64.wrap x = x := by
  simp only [IntKind.wrap, IntKind.bits, IntKind.signed, Bool.false_and, Bool.false_eq_true, if_false]
  omega
def repL (s : Bs) (n k : Nat) : List Bs := List.replicate k s ++ List.replicate (n - k) []
theorem repL_len (s : Bs) {n k : Nat} (h : k ≤ n) : (repL s n k).length = n := by simp [repL]; omega
theorem blkR_take (B : List Bs) (k : Nat) : (blkR B).take k = blkR (B.take k) := by simp [blkR]
theorem blkR_drop (B : List Bs) (k : Nat) : (blkR B).drop k = blkR (B.drop k) := by simp [blkR]
theorem blkR_app (A B : List Bs) : blkR A ++ blkR B = blkR (A ++ B) := by simp [blkR]
theorem repL_step (s : Bs) {n k : Nat} (h : k < n) : (repL s n k).take k ++ (((repL s n k).drop 0).take k).take (n - k) ++ (repL s n k).drop (k + min k (n - k)) = repL s n (k + min k (n - k)) := by
  have e1 : (repL s n k).take k = List.replicate k s := by simp [repL]
  have e2 : (repL s n k).drop (k + min k (n - k)) = List.replicate (n - (k + min k (n - k))) [] := by
    rw [repL, List.drop_append, List.length_replicate]
    simp
    omega
  rw [List.drop_zero, e1, e2, repL, List.take_replicate, List.replicate_append_replicate, Nat.min_comm]
theorem slRepeat_spec (s : Bs) (n : Nat) (h1 : 1 ≤ n) (h2 : n ≤ 2000) : ACall Try.prog 61 [.im (.sl 1 (blkR [s])), Iv n] [] (fun r H' => H' = [(0, .vec 9 1 (blkR (List.replicate n s)))] ∧ r = .os 0 1 0 n) := by
  have hu1 : IntKind.u64.wrap 1 = 1 := rfl
  have hun := wru (x := (n : Int)) (by omega)
  have hm := mul_spec 1 n (by omega) (by omega)
  have hd0 : 1 * n / 18446744073709551616 = 0 := by omega
  have hd1 : 1 * n % 18446744073709551616 = n := by omega
  rw [hd0, hd1] at hm
  have hwn := wr (x := (n : Int)) (by omega)
  refine ACall.walk [0, 1, 4, 5, 6, 7, 8, 10, 26, 37] [] Try.func61 rfl Try.ntmps61 (by kernel_rfl) (by rfl) rfl fun W own I0 φ0 => ?_
  repeat (first | refine xA ?_ | refine xB ?_ | refine xC ?_ | refine xE ?_ | refine xD ?_ | refine xK ?_ | refine xS ?_ | refine xM ?_ | refine xT ?_ | refine xF ?_ | ((first | refine xR ?_ | refine xW ?_ | refine vq_id ?_); simp only [go_sem, Nat.reduceAdd, Nat.reduceLeDiff, Nat.reduceSub, Int.reduceToNat, reduceCtorEq, blkR_len, hu1, hun, List.length_cons, List.length_nil, Nat.zero_add]) | (refine ⟨by first | omega | (intros; simp_all; done) | (intros; simp_all; omega), ?_⟩; try simp only [go_sem, Nat.reduceAdd, Nat.reduceLeDiff, Nat.reduceSub, Int.reduceToNat, reduceCtorEq, blkR_len, hu1, hun, List.length_cons, List.length_nil, Nat.zero_add]))
  refine AQ.fn (by kernel_rfl) rfl rfl rfl (hm) rfl ?_
  repeat (first | refine xA ?_ | refine xB ?_ | refine xC ?_ | refine xE ?_ | refine xD ?_ | refine xK ?_ | refine xS ?_ | refine xM ?_ | refine xT ?_ | refine xF ?_ | ((first | refine xR ?_ | refine xW ?_ | refine vq_id ?_); simp only [go_sem, Nat.reduceAdd, Nat.reduceLeDiff, Nat.reduceSub, Int.reduceToNat, reduceCtorEq]) | (refine ⟨by first | omega | (intros; simp_all; done) | (intros; simp_all; omega), ?_⟩; try simp only [go_sem, Nat.reduceAdd, Nat.reduceLeDiff, Nat.reduceSub, Int.reduceToNat, reduceCtorEq]))
  refine AP.cond_false rfl (by simp only [go_sem, Nat.reduceAdd, Nat.reduceLeDiff, Nat.reduceSub, Int.reduceToNat, reduceCtorEq]; refine congrArg (fun b => some (AV.im (IV.v (Value.bool b)))) ?_; (first | (simp only [Bool.or_eq_true, Bool.and_eq_true, Bool.not_eq_true', Bool.not_eq_false', Bool.and_eq_false_iff, Bool.or_eq_false_iff, decide_eq_true_eq, decide_eq_false_iff_not, beq_iff_eq, bne_iff_ne, beq_eq_false_iff_ne, bne_eq_false_iff_eq, ne_eq]; omega) | (simp; done) | (simp; omega) | (simp_all; done) | (simp_all; omega))) ?_
  repeat (first | refine xA ?_ | refine xB ?_ | refine xC ?_ | refine xE ?_ | refine xD ?_ | refine xK ?_ | refine xS ?_ | refine xM ?_ | refine xT ?_ | refine xF ?_ | ((first | refine xR ?_ | refine xW ?_ | refine vq_id ?_); simp only [go_sem, Nat.reduceAdd, Nat.reduceLeDiff, Nat.reduceSub, Int.reduceToNat, reduceCtorEq, hwn]) | (refine ⟨by first | omega | (intros; simp_all; done) | (intros; simp_all; omega), ?_⟩; try simp only [go_sem, Nat.reduceAdd, Nat.reduceLeDiff, Nat.reduceSub, Int.reduceToNat, reduceCtorEq, hwn]))
  refine AQ.make (by kernel_rfl) rfl rfl Try.tk25 Try.sz9 Try.zr9 rfl Try.by9 ⟨by omega, ?_⟩
  simp only [go_sem, Nat.reduceAdd, Nat.reduceLeDiff, Nat.reduceSub, Int.reduceToNat, reduceCtorEq]
  repeat (first | refine xA ?_ | refine xB ?_ | refine xC ?_ | refine xE ?_ | refine xD ?_ | refine xK ?_ | refine xS ?_ | refine xM ?_ | refine xT ?_ | refine xF ?_ | ((first | refine xR ?_ | refine xW ?_ | refine vq_id ?_); simp only [go_sem, Nat.reduceAdd, Nat.reduceLeDiff, Nat.reduceSub, Int.reduceToNat, reduceCtorEq]) | (refine ⟨by first | omega | (intros; simp_all; done) | (intros; simp_all; omega), ?_⟩; try simp only [go_sem, Nat.reduceAdd, Nat.reduceLeDiff, Nat.reduceSub, Int.reduceToNat, reduceCtorEq]))
  have hz : List.replicate n [IV.v (Value.string (BA []))] = blkR (repL s n 0) := by simp [repL, blkR]
  rw [hz]
  have hrl : ∀ k, k ≤ n → (blkR (repL s n k)).length = n := fun k hk => by rw [blkR_len, repL_len s hk]
  refine AQ.copyI (by kernel_rfl) rfl rfl rfl Try.tk25 Try.sz9 ⟨by rw [hrl 0 (by omega)]; simp [blkR]; omega, ?_⟩
  have h01 : (blkR [s]).take n ++ (blkR (repL s n 0)).drop 1 = blkR (repL s n 1) := by
    have e1 : (blkR [s]).take n = blkR [s] := List.take_of_length_le (by rw [blkR_len]; exact h1)
    rw [e1, blkR_drop, blkR_app]
    simp [repL]
  have hm1 : min (blkR [s]).length n = 1 := by rw [blkR_len]; simp; omega
  simp only [hm1]
  simp only [go_sem, Nat.reduceAdd, Nat.reduceLeDiff, Nat.reduceSub, Int.reduceToNat, reduceCtorEq]
  rw [h01]
  repeat (first | refine xA ?_ | refine xB ?_ | refine xC ?_ | refine xE ?_ | refine xD ?_ | refine xK ?_ | refine xS ?_ | refine xM ?_ | refine xT ?_ | refine xF ?_ | ((first | refine xR ?_ | refine xW ?_ | refine vq_id ?_); simp only [go_sem, Nat.reduceAdd, Nat.reduceLeDiff, Nat.reduceSub, Int.reduceToNat, reduceCtorEq]) | (refine ⟨by first | omega | (intros; simp_all; done) | (intros; simp_all; omega), ?_⟩; try simp only [go_sem, Nat.reduceAdd, Nat.reduceLeDiff, Nat.reduceSub, Int.reduceToNat, reduceCtorEq]))
  refine AP.loop rfl (α := Nat) (fun k => [(7, .os 0 1 0 n), (8, Iv k)]) (fun k => [(0, .vec 9 1 (blkR (repL s n k)))]) (fun k => 1 ≤ k ∧ k ≤ n) (fun k => n - k) 1 ⟨Nat.le_refl _, h1⟩ (by repeat (first | exact Sub.nil _ | refine Sub.cons rfl ?_)) rfl fun k ⟨hk1, hk⟩ => ?_
  rcases Nat.eq_or_lt_of_le hk with he | hlt
  · repeat (first | refine xA ?_ | refine xB ?_ | refine xC ?_ | refine xE ?_ | refine xD ?_ | refine xK ?_ | refine xS ?_ | refine xM ?_ | refine xT ?_ | refine xF ?_ | ((first | refine xR ?_ | refine xW ?_ | refine vq_id ?_); simp only [go_sem, Nat.reduceAdd, Nat.reduceLeDiff, Nat.reduceSub, Int.reduceToNat, reduceCtorEq]) | (refine ⟨by first | omega | (intros; simp_all; done) | (intros; simp_all; omega), ?_⟩; try simp only [go_sem, Nat.reduceAdd, Nat.reduceLeDiff, Nat.reduceSub, Int.reduceToNat, reduceCtorEq]))
    refine AP.cond_false rfl (by simp only [go_sem, Nat.reduceAdd, Nat.reduceLeDiff, Nat.reduceSub, Int.reduceToNat, reduceCtorEq]; refine congrArg (fun b => some (AV.im (IV.v (Value.bool b)))) ?_; (first | (simp only [Bool.or_eq_true, Bool.and_eq_true, Bool.not_eq_true', Bool.not_eq_false', Bool.and_eq_false_iff, Bool.or_eq_false_iff, decide_eq_true_eq, decide_eq_false_iff_not, beq_iff_eq, bne_iff_ne, beq_eq_false_iff_ne, bne_eq_false_iff_eq, ne_eq]; omega) | (simp; done) | (simp; omega) | (simp_all; done) | (simp_all; omega))) ?_
    repeat (first | refine xA ?_ | refine xB ?_ | refine xC ?_ | refine xE ?_ | refine xD ?_ | refine xK ?_ | refine xS ?_ | refine xM ?_ | refine xT ?_ | refine xF ?_ | ((first | refine xR ?_ | refine xW ?_ | refine vq_id ?_); simp only [go_sem, Nat.reduceAdd, Nat.reduceLeDiff, Nat.reduceSub, Int.reduceToNat, reduceCtorEq]) | (refine ⟨by first | omega | (intros; simp_all; done) | (intros; simp_all; omega), ?_⟩; try simp only [go_sem, Nat.reduceAdd, Nat.reduceLeDiff, Nat.reduceSub, Int.reduceToNat, reduceCtorEq]))
    rw [he, show repL s n n = List.replicate n s by simp [repL]]
    exact AE.ret rfl ⟨rfl, trivial⟩ ⟨rfl, rfl⟩
  · repeat (first | refine xA ?_ | refine xB ?_ | refine xC ?_ | refine xE ?_ | refine xD ?_ | refine xK ?_ | refine xS ?_ | refine xM ?_ | refine xT ?_ | refine xF ?_ | ((first | refine xR ?_ | refine xW ?_ | refine vq_id ?_); simp only [go_sem, Nat.reduceAdd, Nat.reduceLeDiff, Nat.reduceSub, Int.reduceToNat, reduceCtorEq]) | (refine ⟨by first | omega | (intros; simp_all; done) | (intros; simp_all; omega), ?_⟩; try simp only [go_sem, Nat.reduceAdd, Nat.reduceLeDiff, Nat.reduceSub, Int.reduceToNat, reduceCtorEq]))
    refine AP.cond_true rfl (by simp only [go_sem, Nat.reduceAdd, Nat.reduceLeDiff, Nat.reduceSub, Int.reduceToNat, reduceCtorEq]; refine congrArg (fun b => some (AV.im (IV.v (Value.bool b)))) ?_; (first | (simp only [Bool.or_eq_true, Bool.and_eq_true, Bool.not_eq_true', Bool.not_eq_false', Bool.and_eq_false_iff, Bool.or_eq_false_iff, decide_eq_true_eq, decide_eq_false_iff_not, beq_iff_eq, bne_iff_ne, beq_eq_false_iff_ne, bne_eq_false_iff_eq, ne_eq]; omega) | (simp; done) | (simp; omega) | (simp_all; done) | (simp_all; omega))) ?_
    refine xPP rfl ?_
    refine AP.drawE 9 (Tree.node [] [0, 1, 2, 3, 4, 5, 6] [7] [Tree.node [0] [8] [] []]) (by kernel_rfl) rfl (by kernel_rfl) (by kernel_rfl) ?_
    refine vd_node ?_
    simp only [go_sem, Nat.reduceAdd, Nat.reduceLeDiff, Nat.reduceSub, Int.reduceToNat, reduceCtorEq]
    have hbk := hrl k hk
    have hmin : min k (n - k) ≤ n - k := Nat.min_le_right _ _
    have hmin1 : 1 ≤ min k (n - k) := by omega
    have hst := congrArg blkR (repL_step s hlt)
    rw [← blkR_app, ← blkR_app, ← blkR_take, ← blkR_take, ← blkR_take, ← blkR_drop, ← blkR_drop] at hst
    obtain ⟨m, hm⟩ : ∃ m, min k (n - k) = m := ⟨_, rfl⟩
    rw [hm] at hmin hmin1 hst
    have hw := wr (x := (k : Int) + m) (by omega)
    repeat (with_reducible refine And.intro (by omega) ?_)
    refine AQ.copyO (by kernel_rfl) rfl rfl rfl rfl Try.tk25 Try.sz9 ⟨by rw [hbk]; omega, ?_⟩
    simp only [Nat.zero_add, hm, hst]
    simp only [go_sem, Nat.reduceAdd, Nat.reduceLeDiff, Nat.reduceSub, Int.reduceToNat, reduceCtorEq]
    refine AQ.nx rfl ?_
    simp only [go_sem, Nat.reduceAdd, Nat.reduceLeDiff, Nat.reduceSub, Int.reduceToNat, reduceCtorEq, hw]
    refine AQ.done ?_
    repeat (first | refine xA ?_ | refine xB ?_ | refine xC ?_ | refine xE ?_ | refine xD ?_ | refine xK ?_ | refine xS ?_ | refine xM ?_ | refine xT ?_ | refine xF ?_ | ((first | refine xR ?_ | refine xW ?_ | refine vq_id ?_); simp only [go_sem, Nat.reduceAdd, Nat.reduceLeDiff, Nat.reduceSub, Int.reduceToNat, reduceCtorEq]) | (refine ⟨by first | omega | (intros; simp_all; done) | (intros; simp_all; omega), ?_⟩; try simp only [go_sem, Nat.reduceAdd, Nat.reduceLeDiff, Nat.reduceSub, Int.reduceToNat, reduceCtorEq]))
    exact AE.round (k + m) ⟨by omega, by omega⟩ (by omega) (by repeat (first | exact Sub.nil _ | refine Sub.cons rfl ?_)) rfl
def z32 : Bs := List.replicate 32 0
theorem rep_z : Lib.repeatL [0] 32 = z32 := by decide
def newS (n : Nat) : List Bs := List.replicate n z32
theorem newDisk_bad (n : Int) (hn : permI n = false) : PFn Try.prog 23 [Iv n] (.tup [Dk.v nilD, Iv 4]) := by
  have hp := permitted_spec n
  rw [hn] at hp
  refine ACall.walk [0, 2, 3, 6] [2] Try.func23 rfl Try.ntmps23 (by kernel_rfl) (by rfl) rfl fun W own I0 φ0 => ?_
  repeat (first | refine xA ?_ | refine xB ?_ | refine xC ?_ | refine xE ?_ | refine xD ?_ | refine xK ?_ | refine xS ?_ | refine xM ?_ | refine xT ?_ | refine xF ?_ | ((first | refine xR ?_ | refine xW ?_ | refine vq_id ?_); simp only [go_sem, Nat.reduceAdd, Nat.reduceLeDiff, Nat.reduceSub, Int.reduceToNat, reduceCtorEq]) | (refine ⟨by first | omega | (intros; simp_all; done) | (intros; simp_all; omega), ?_⟩; try simp only [go_sem, Nat.reduceAdd, Nat.reduceLeDiff, Nat.reduceSub, Int.reduceToNat, reduceCtorEq]))
  refine AQ.fn (by kernel_rfl) rfl rfl rfl (hp) rfl ?_
  repeat (first | refine xA ?_ | refine xB ?_ | refine xC ?_ | refine xE ?_ | refine xD ?_ | refine xK ?_ | refine xS ?_ | refine xM ?_ | refine xT ?_ | refine xF ?_ | ((first | refine xR ?_ | refine xW ?_ | refine vq_id ?_); simp only [go_sem, Nat.reduceAdd, Nat.reduceLeDiff, Nat.reduceSub, Int.reduceToNat, reduceCtorEq]) | (refine ⟨by first | omega | (intros; simp_all; done) | (intros; simp_all; omega), ?_⟩; try simp only [go_sem, Nat.reduceAdd, Nat.reduceLeDiff, Nat.reduceSub, Int.reduceToNat, reduceCtorEq]))
  refine AE.cellsW 0 [.im (.sl 1 []), .im (.sl 2 [])] rfl (cellsLe.nil (cellsLe.nil (cellsLe.refl _))) ?_
  simp only [go_sem, Nat.reduceAdd, Nat.reduceLeDiff, Nat.reduceSub, Int.reduceToNat, reduceCtorEq]
  exact AE.ret0 rfl ⟨⟨rfl, Nat.le_of_ble_eq_true (by kernel_rfl)⟩, rfl, trivial⟩ rfl ⟨rfl, rfl⟩
theorem newDisk_own (n : Nat) (hn : okN n = true) : ACall Try.prog 23 [Iv n] [] (fun r H' => H' = [(1, .vec 9 1 (blkR (newS n)))] ∧ r = .tup [.agg [.os 1 1 0 n, .im (.sl 2 [])], Iv 0]) := by
  have hp := permitted_spec n
  rw [permI_nat, hn] at hp
  obtain ⟨h4, h2000, _⟩ := okN_le hn
  have hr := repeat_spec [0] 32 (by decide) (by decide)
  rw [rep_z] at hr
  have hs := slRepeat_spec z32 n (by omega) h2000
  refine ACall.walk [0, 2, 3, 6] [2] Try.func23 rfl Try.ntmps23 (by kernel_rfl) (by rfl) rfl fun W own I0 φ0 => ?_
  repeat (first | refine xA ?_ | refine xB ?_ | refine xC ?_ | refine xE ?_ | refine xD ?_ | refine xK ?_ | refine xS ?_ | refine xM ?_ | refine xT ?_ | refine xF ?_ | ((first | refine xR ?_ | refine xW ?_ | refine vq_id ?_); simp only [go_sem, Nat.reduceAdd, Nat.reduceLeDiff, Nat.reduceSub, Int.reduceToNat, reduceCtorEq]) | (refine ⟨by first | omega | (intros; simp_all; done) | (intros; simp_all; omega), ?_⟩; try simp only [go_sem, Nat.reduceAdd, Nat.reduceLeDiff, Nat.reduceSub, Int.reduceToNat, reduceCtorEq]))
  refine AQ.fn (by kernel_rfl) rfl rfl rfl (hp) rfl ?_
  repeat (first | refine xA ?_ | refine xB ?_ | refine xC ?_ | refine xE ?_ | refine xD ?_ | refine xK ?_ | refine xS ?_ | refine xM ?_ | refine xT ?_ | refine xF ?_ | ((first | refine xR ?_ | refine xW ?_ | refine vq_id ?_); simp only [go_sem, Nat.reduceAdd, Nat.reduceLeDiff, Nat.reduceSub, Int.reduceToNat, reduceCtorEq]) | (refine ⟨by first | omega | (intros; simp_all; done) | (intros; simp_all; omega), ?_⟩; try simp only [go_sem, Nat.reduceAdd, Nat.reduceLeDiff, Nat.reduceSub, Int.reduceToNat, reduceCtorEq]))
  refine AQ.fn (by kernel_rfl) rfl rfl rfl (hr) rfl ?_
  repeat (first | refine xA ?_ | refine xB ?_ | refine xC ?_ | refine xE ?_ | refine xD ?_ | refine xK ?_ | refine xS ?_ | refine xM ?_ | refine xT ?_ | refine xF ?_ | ((first | refine xR ?_ | refine xW ?_ | refine vq_id ?_); simp only [go_sem, Nat.reduceAdd, Nat.reduceLeDiff, Nat.reduceSub, Int.reduceToNat, reduceCtorEq]) | (refine ⟨by first | omega | (intros; simp_all; done) | (intros; simp_all; omega), ?_⟩; try simp only [go_sem, Nat.reduceAdd, Nat.reduceLeDiff, Nat.reduceSub, Int.reduceToNat, reduceCtorEq]))
  refine AQ.callv (by kernel_rfl) rfl rfl rfl hs fun r' H' ⟨e1, e2⟩ => ?_
  subst e1; subst e2
  simp only [go_sem, Nat.reduceAdd, Nat.reduceLeDiff, Nat.reduceSub, Int.reduceToNat, reduceCtorEq]
  repeat (first | refine xA ?_ | refine xB ?_ | refine xC ?_ | refine xE ?_ | refine xD ?_ | refine xK ?_ | refine xS ?_ | refine xM ?_ | refine xT ?_ | refine xF ?_ | ((first | refine xR ?_ | refine xW ?_ | refine vq_id ?_); simp only [go_sem, Nat.reduceAdd, Nat.reduceLeDiff, Nat.reduceSub, Int.reduceToNat, reduceCtorEq]) | (refine ⟨by first | omega | (intros; simp_all; done) | (intros; simp_all; omega), ?_⟩; try simp only [go_sem, Nat.reduceAdd, Nat.reduceLeDiff, Nat.reduceSub, Int.reduceToNat, reduceCtorEq]))
  refine AE.cellsW 0 [.os 1 1 0 n, .im (.sl 2 [])] rfl (cellsLe.cons (cellsLe.nil (cellsLe.refl _))) ?_
  simp only [go_sem, Nat.reduceAdd, Nat.reduceLeDiff, Nat.reduceSub, Int.reduceToNat, reduceCtorEq]
  exact AE.retD [0] rfl ⟨⟨rfl, Nat.le_of_ble_eq_true (by kernel_rfl)⟩, rfl, trivial⟩ rfl ⟨rfl, rfl⟩
theorem zeros_spec (n : Nat) (hn : n ≤ 1000000) : PFn Try.prog 62 [Iv n] (Sv (List.replicate n 0)) := by
  refine ACall.walk [0, 2] [] Try.func62 rfl Try.ntmps62 (by kernel_rfl) (by rfl) rfl fun W own I0 φ0 => ?_
  repeat (first | refine xA ?_ | refine xB ?_ | refine xC ?_ | refine xE ?_ | refine xD ?_ | refine xK ?_ | refine xS ?_ | refine xM ?_ | refine xT ?_ | refine xF ?_ | ((first | refine xR ?_ | refine xW ?_ | refine vq_id ?_); simp only [go_sem, Nat.reduceAdd, Nat.reduceLeDiff, Nat.reduceSub, Int.reduceToNat, reduceCtorEq]) | (refine ⟨by first | omega | (intros; simp_all; done) | (intros; simp_all; omega), ?_⟩; try simp only [go_sem, Nat.reduceAdd, Nat.reduceLeDiff, Nat.reduceSub, Int.reduceToNat, reduceCtorEq]))
  refine AQ.make (by kernel_rfl) rfl rfl Try.tk95 Try.sz5 Try.zr5 rfl Try.by5 ⟨by omega, ?_⟩
  simp only [go_sem, Nat.reduceAdd, Nat.reduceLeDiff, Nat.reduceSub, Int.reduceToNat, reduceCtorEq]
  have hz : List.replicate n [IV.v (Value.int IntKind.u8 0)] = byteR (List.replicate n 0) := by simp [byteR]
  have hbl : (byteR (List.replicate n 0)).length = n := by rw [byteR_len]; simp
  rw [hz]
  have u95 : (Try.prog.underlying 95).isSome = true := by kernel_rfl
  simp only [go_sem, Nat.reduceAdd, Nat.reduceLeDiff, Nat.reduceSub, Int.reduceToNat, reduceCtorEq, u95]
  refine AQ.freeze 0 (el := 5) (es := 1) (rows := byteR (List.replicate n 0)) rfl (by simp only [go_sem, Nat.reduceAdd, Nat.reduceLeDiff, Nat.reduceSub, Int.reduceToNat, reduceCtorEq]) (by simp only [go_sem, Nat.reduceAdd, Nat.reduceLeDiff, Nat.reduceSub, Int.reduceToNat, reduceCtorEq]; simp [hbl]) ?_
  simp only [go_sem, Nat.reduceAdd, Nat.reduceLeDiff, Nat.reduceSub, Int.reduceToNat, reduceCtorEq]
  rw [take_all' _ _ (Nat.le_of_eq hbl)]
  refine AQ.go (by kernel_rfl) ?_
  simp only [go_sem, Nat.reduceAdd, Nat.reduceLeDiff, Nat.reduceSub, Int.reduceToNat, reduceCtorEq, u95, byteR_back]
  refine ⟨byteR_bytes _, ?_⟩
  repeat (first | refine xA ?_ | refine xB ?_ | refine xC ?_ | refine xE ?_ | refine xD ?_ | refine xK ?_ | refine xS ?_ | refine xM ?_ | refine xT ?_ | refine xF ?_ | ((first | refine xR ?_ | refine xW ?_ | refine vq_id ?_); simp only [go_sem, Nat.reduceAdd, Nat.reduceLeDiff, Nat.reduceSub, Int.reduceToNat, reduceCtorEq]) | (refine ⟨by first | omega | (intros; simp_all; done) | (intros; simp_all; omega), ?_⟩; try simp only [go_sem, Nat.reduceAdd, Nat.reduceLeDiff, Nat.reduceSub, Int.reduceToNat, reduceCtorEq]))
  exact AE.ret0 rfl ⟨rfl, trivial⟩ rfl ⟨rfl, rfl⟩
theorem tmod_odd (n : Int) : (decide (n < 4) || decide (2000 < n) || n.tmod 2 == 1) = !permI n := by
  unfold permI
  rw [Bool.eq_iff_iff]
  simp only [Bool.or_eq_true, decide_eq_true_eq, beq_iff_eq, Bool.not_eq_true', Bool.and_eq_false_iff, decide_eq_false_iff_not, beq_eq_false_iff_ne]
  by_cases h4 : n < 4
  · simp [h4]
  · have h2 := Int.tmod_nonneg 2 (show 0 ≤ n by omega)
    have h3 := Int.tmod_lt_of_pos n (show (0 : Int) < 2 by omega)
    omega
theorem newR_bad (n : Int) (hn : permI n = false) : PFn Try.prog 24 [Iv n] (.tup [Dk.v nilD, Iv 4]) := by
  have ht := tmod_odd n
  rw [hn] at ht
  refine ACall.walk [0, 2, 3, 4, 5, 16, 21] [2, 4] Try.func24 rfl Try.ntmps24 (by kernel_rfl) (by rfl) rfl fun W own I0 φ0 => ?_
  repeat (first | refine xA ?_ | refine xB ?_ | refine xC ?_ | refine xE ?_ | refine xD ?_ | refine xK ?_ | refine xS ?_ | refine xM ?_ | refine xT ?_ | refine xF ?_ | ((first | refine xR ?_ | refine xW ?_ | refine vq_id ?_); simp only [go_sem, Nat.reduceAdd, Nat.reduceLeDiff, Nat.reduceSub, Int.reduceToNat, reduceCtorEq]) | (refine ⟨by first | omega | (intros; simp_all; done) | (intros; simp_all; omega), ?_⟩; try simp only [go_sem, Nat.reduceAdd, Nat.reduceLeDiff, Nat.reduceSub, Int.reduceToNat, reduceCtorEq]))
  refine AP.cond_true rfl (by simp only [go_sem, Nat.reduceAdd, Nat.reduceLeDiff, Nat.reduceSub, Int.reduceToNat, reduceCtorEq]; rw [ht]; rfl) ?_
  repeat (first | refine xA ?_ | refine xB ?_ | refine xC ?_ | refine xE ?_ | refine xD ?_ | refine xK ?_ | refine xS ?_ | refine xM ?_ | refine xT ?_ | refine xF ?_ | ((first | refine xR ?_ | refine xW ?_ | refine vq_id ?_); simp only [go_sem, Nat.reduceAdd, Nat.reduceLeDiff, Nat.reduceSub, Int.reduceToNat, reduceCtorEq]) | (refine ⟨by first | omega | (intros; simp_all; done) | (intros; simp_all; omega), ?_⟩; try simp only [go_sem, Nat.reduceAdd, Nat.reduceLeDiff, Nat.reduceSub, Int.reduceToNat, reduceCtorEq]))
  refine AE.cellsW 0 [.im (.sl 1 []), .im (.sl 2 [])] rfl (cellsLe.nil (cellsLe.nil (cellsLe.refl _))) ?_
  simp only [go_sem, Nat.reduceAdd, Nat.reduceLeDiff, Nat.reduceSub, Int.reduceToNat, reduceCtorEq]
  exact AE.ret0 rfl ⟨⟨rfl, Nat.le_of_ble_eq_true (by kernel_rfl)⟩, rfl, trivial⟩ rfl ⟨rfl, rfl⟩
end Go.Proofs.Ytoafanbfminhcaa
end

section
namespace Go.Proofs.Ytoafanbfminhcaa
open Go Go.AL Go.RowKit
set_option maxRecDepth 10000
set_option maxHeartbeats 4000000
theorem newS_succ (k : Nat) : newS (k + 1) = newS k ++ [z32] := by simp [newS, List.replicate_succ']
theorem newR_own (n : Nat) (hn : okN n = true) : ACall Try.prog 24 [Iv n] [] (fun r H' => H' = [(2, .vec 9 1 (blkR (newS n)))] ∧ r = .tup [.agg [.os 2 1 0 n, .im (.sl 2 [])], Iv 0]) := by
  have ht := tmod_odd n
  rw [permI_nat, hn] at ht
  obtain ⟨h4, h2000, _⟩ := okN_le hn
  have hz := zeros_spec 32 (by omega)
  rw [show List.replicate 32 (0 : UInt8) = z32 from rfl] at hz
  refine ACall.walk [0, 2, 3, 4, 5, 16, 21] [2, 4] Try.func24 rfl Try.ntmps24 (by kernel_rfl) (by rfl) rfl fun W own I0 φ0 => ?_
  repeat (first | refine xA ?_ | refine xB ?_ | refine xC ?_ | refine xE ?_ | refine xD ?_ | refine xK ?_ | refine xS ?_ | refine xM ?_ | refine xT ?_ | refine xF ?_ | ((first | refine xR ?_ | refine xW ?_ | refine vq_id ?_); simp only [go_sem, Nat.reduceAdd, Nat.reduceLeDiff, Nat.reduceSub, Int.reduceToNat, reduceCtorEq]) | (refine ⟨by first | omega | (intros; simp_all; done) | (intros; simp_all; omega), ?_⟩; try simp only [go_sem, Nat.reduceAdd, Nat.reduceLeDiff, Nat.reduceSub, Int.reduceToNat, reduceCtorEq]))
  refine AP.cond_false rfl (by simp only [go_sem, Nat.reduceAdd, Nat.reduceLeDiff, Nat.reduceSub, Int.reduceToNat, reduceCtorEq]; rw [ht]; rfl) ?_
  repeat (first | refine xA ?_ | refine xB ?_ | refine xC ?_ | refine xE ?_ | refine xD ?_ | refine xK ?_ | refine xS ?_ | refine xM ?_ | refine xT ?_ | refine xF ?_ | ((first | refine xR ?_ | refine xW ?_ | refine vq_id ?_); simp only [go_sem, Nat.reduceAdd, Nat.reduceLeDiff, Nat.reduceSub, Int.reduceToNat, reduceCtorEq]) | (refine ⟨by first | omega | (intros; simp_all; done) | (intros; simp_all; omega), ?_⟩; try simp only [go_sem, Nat.reduceAdd, Nat.reduceLeDiff, Nat.reduceSub, Int.reduceToNat, reduceCtorEq]))
  refine AP.ownCell 1 0 9 1 rfl rfl ?_
  simp only [go_sem, Nat.reduceAdd, Nat.reduceLeDiff, Nat.reduceSub, Int.reduceToNat, reduceCtorEq]
  refine AP.loop rfl (α := Nat) (fun k => [(0, Iv n), (2, .ob 0 0), (4, .ob 1 0), (5, Iv k)])
      (fun k => [(2, .vec 9 1 (blkR (newS k))), (1, .var 48 [.os 2 1 0 k, .im (.v (.slice none 0 0))]), (0, .var 48 [.im (.v (.slice none 0 0)), .im (.v (.slice none 0 0))])])
      (fun k => k ≤ n) (fun k => n - k) 0 (by omega) (by repeat (first | exact Sub.nil _ | refine Sub.cons rfl ?_)) rfl fun k hk => ?_
  have hw := wr (x := (k : Int) + 1) (by omega)
  have hj : (blkR (newS k)).length = k := by rw [blkR_len]; simp [newS]
  rcases Nat.eq_or_lt_of_le hk with he | hlt
  · repeat (first | refine xA ?_ | refine xB ?_ | refine xC ?_ | refine xE ?_ | refine xD ?_ | refine xK ?_ | refine xS ?_ | refine xM ?_ | refine xT ?_ | refine xF ?_ | ((first | refine xR ?_ | refine xW ?_ | refine vq_id ?_); simp only [go_sem, Nat.reduceAdd, Nat.reduceLeDiff, Nat.reduceSub, Int.reduceToNat, reduceCtorEq]) | (refine ⟨by first | omega | (intros; simp_all; done) | (intros; simp_all; omega), ?_⟩; try simp only [go_sem, Nat.reduceAdd, Nat.reduceLeDiff, Nat.reduceSub, Int.reduceToNat, reduceCtorEq]))
    refine AP.cond_false rfl (by simp only [go_sem, Nat.reduceAdd, Nat.reduceLeDiff, Nat.reduceSub, Int.reduceToNat, reduceCtorEq]; refine congrArg (fun b => some (AV.im (IV.v (Value.bool b)))) ?_; (first | (simp only [Bool.or_eq_true, Bool.and_eq_true, Bool.not_eq_true', Bool.not_eq_false', Bool.and_eq_false_iff, Bool.or_eq_false_iff, decide_eq_true_eq, decide_eq_false_iff_not, beq_iff_eq, bne_iff_ne, beq_eq_false_iff_ne, bne_eq_false_iff_eq, ne_eq]; omega) | (simp; done) | (simp; omega) | (simp_all; done) | (simp_all; omega))) ?_
    repeat (first | refine xA ?_ | refine xB ?_ | refine xC ?_ | refine xE ?_ | refine xD ?_ | refine xK ?_ | refine xS ?_ | refine xM ?_ | refine xT ?_ | refine xF ?_ | ((first | refine xR ?_ | refine xW ?_ | refine vq_id ?_); simp only [go_sem, Nat.reduceAdd, Nat.reduceLeDiff, Nat.reduceSub, Int.reduceToNat, reduceCtorEq]) | (refine ⟨by first | omega | (intros; simp_all; done) | (intros; simp_all; omega), ?_⟩; try simp only [go_sem, Nat.reduceAdd, Nat.reduceLeDiff, Nat.reduceSub, Int.reduceToNat, reduceCtorEq]))
    refine AE.cellsW 0 [.os 2 1 0 k, .im (.sl 2 [])] rfl (cellsLe.cons (cellsLe.nil (cellsLe.refl _))) ?_
    simp only [go_sem, Nat.reduceAdd, Nat.reduceLeDiff, Nat.reduceSub, Int.reduceToNat, reduceCtorEq]
    rw [he]
    exact AE.retD [0, 1] rfl ⟨⟨rfl, Nat.le_of_ble_eq_true (by kernel_rfl)⟩, rfl, trivial⟩ rfl ⟨rfl, rfl⟩
  · repeat (first | refine xA ?_ | refine xB ?_ | refine xC ?_ | refine xE ?_ | refine xD ?_ | refine xK ?_ | refine xS ?_ | refine xM ?_ | refine xT ?_ | refine xF ?_ | ((first | refine xR ?_ | refine xW ?_ | refine vq_id ?_); simp only [go_sem, Nat.reduceAdd, Nat.reduceLeDiff, Nat.reduceSub, Int.reduceToNat, reduceCtorEq]) | (refine ⟨by first | omega | (intros; simp_all; done) | (intros; simp_all; omega), ?_⟩; try simp only [go_sem, Nat.reduceAdd, Nat.reduceLeDiff, Nat.reduceSub, Int.reduceToNat, reduceCtorEq]))
    refine AP.cond_true rfl (by simp only [go_sem, Nat.reduceAdd, Nat.reduceLeDiff, Nat.reduceSub, Int.reduceToNat, reduceCtorEq]; refine congrArg (fun b => some (AV.im (IV.v (Value.bool b)))) ?_; (first | (simp only [Bool.or_eq_true, Bool.and_eq_true, Bool.not_eq_true', Bool.not_eq_false', Bool.and_eq_false_iff, Bool.or_eq_false_iff, decide_eq_true_eq, decide_eq_false_iff_not, beq_iff_eq, bne_iff_ne, beq_eq_false_iff_ne, bne_eq_false_iff_eq, ne_eq]; omega) | (simp; done) | (simp; omega) | (simp_all; done) | (simp_all; omega))) ?_
    refine xPP rfl ?_
    refine AP.drawE 7 (Tree.node [] [0, 1] [2] [Tree.node [0, 1] [] [3] [Tree.node [0, 1] [] [4] [Tree.node [] [5] [6] [Tree.node [] [] [] []]]]]) (by kernel_rfl) rfl (by kernel_rfl) (by kernel_rfl) ?_
    refine vd_node ?_
    simp only [go_sem, Nat.reduceAdd, Nat.reduceLeDiff, Nat.reduceSub, Int.reduceToNat, reduceCtorEq]
    repeat' (first | with_reducible exact True.intro | with_reducible refine And.intro (by omega) ?_ | with_reducible refine And.intro ?_ ?_ | (refine AQ.nx rfl ?_; simp only [go_sem, Nat.reduceAdd, Nat.reduceLeDiff, Nat.reduceSub, Int.reduceToNat, reduceCtorEq]) | (refine AQ.fn (by kernel_rfl) rfl rfl rfl (hz) rfl ?_; simp only [go_sem, Nat.reduceAdd, Nat.reduceLeDiff, Nat.reduceSub, Int.reduceToNat, reduceCtorEq]) | (refine AQ.kill 2 ?_; simp only [go_sem, Nat.reduceAdd, Nat.reduceLeDiff, Nat.reduceSub, Int.reduceToNat, reduceCtorEq]; refine AQ.append (hnb := rfl) (rows := blkR (newS k)) (es := 0) (by kernel_rfl) rfl rfl rfl (by rfl) Try.tk25 Try.sz9 (by show Option.map _ (zro Try.prog 9) = _; rw [Try.zr9]; rfl) Try.by9 hj.symm (by rw [hj]; simp only [List.length_cons, List.length_nil]; omega) (by rw [hj]; simp only [List.length_cons, List.length_nil]; omega) ?_; simp only [go_sem, Nat.reduceAdd, Nat.reduceLeDiff, Nat.reduceSub, Int.reduceToNat, reduceCtorEq]) | refine AQ.done ?_ | (refine AQ.go (by kernel_rfl) ?_; simp only [go_sem, Nat.reduceAdd, Nat.reduceLeDiff, Nat.reduceSub, Int.reduceToNat, reduceCtorEq]; repeat (with_reducible refine And.intro (by omega) ?_); refine AQ.nx rfl ?_; simp only [go_sem, Nat.reduceAdd, Nat.reduceLeDiff, Nat.reduceSub, Int.reduceToNat, reduceCtorEq]))
    have hsn : blkR (newS k) ++ [[Si z32]] = blkR (newS (k + 1)) := by rw [newS_succ, blkR, blkR, List.map_append]; rfl
    rw [hj, hsn]
    repeat (first | refine xA ?_ | refine xB ?_ | refine xC ?_ | refine xE ?_ | refine xD ?_ | refine xK ?_ | refine xS ?_ | refine xM ?_ | refine xT ?_ | refine xF ?_ | ((first | refine xR ?_ | refine xW ?_ | refine vq_id ?_); simp only [go_sem, Nat.reduceAdd, Nat.reduceLeDiff, Nat.reduceSub, Int.reduceToNat, reduceCtorEq, hw]) | (refine ⟨by first | omega | (intros; simp_all; done) | (intros; simp_all; omega), ?_⟩; try simp only [go_sem, Nat.reduceAdd, Nat.reduceLeDiff, Nat.reduceSub, Int.reduceToNat, reduceCtorEq, hw]))
    exact AE.round (k + 1) (by omega) (by omega) (by repeat (first | exact Sub.nil _ | refine Sub.cons rfl ?_)) rfl
end Go.Proofs.Ytoafanbfminhcaa
end

section
namespace Go.Proofs.Ytoafanbfminhcaa
open Go Go.AL Go.RowKit
set_option maxRecDepth 10000
set_option maxHeartbeats 4000000
abbrev Bi (b : UInt8) : IV := .v (.int .u8 b.toNat)
theorem u8_lt (b : UInt8) : b.toNat < 256 := b.toNat_lt
theorem w1 (b : UInt8) : IntKind.i64.wrap (b.toNat : Int) = b.toNat := wr (by have := u8_lt b; omega)
theorem sh8 (b : UInt8) : IntKind.i64.wrap ((b.toNat : Int) * 2 ^ min 8 64) = ((b.toNat * 2 ^ 8 : Nat) : Int) := by
  have := u8_lt b
  rw [show ((2 : Int) ^ min 8 64) = 256 from rfl, wr (by omega)]; omega
theorem sh16 (b : UInt8) : IntKind.i64.wrap ((b.toNat : Int) * 2 ^ min 16 64) = ((b.toNat * 2 ^ 16 : Nat) : Int) := by
  have := u8_lt b
  rw [show ((2 : Int) ^ min 16 64) = 65536 from rfl, wr (by omega)]; omega
theorem sh24 (b : UInt8) : IntKind.i64.wrap ((b.toNat : Int) * 2 ^ min 24 64) = ((b.toNat * 2 ^ 24 : Nat) : Int) := by
  have := u8_lt b
  rw [show ((2 : Int) ^ min 24 64) = 16777216 from rfl, wr (by omega)]; omega
theorem or_nat (x y k : Nat) (hx : x < 2 ^ k) (hb : x + y * 2 ^ k < 9223372036854775808) : bOr .i64 (x : Int) ((y * 2 ^ k : Nat) : Int) = ((x + y * 2 ^ k : Nat) : Int) := by
  show IntKind.i64.wrap ((BitVec.ofInt 64 (x : Int) ||| BitVec.ofInt 64 ((y * 2 ^ k : Nat) : Int)).toNat : Int) = _
  have e1 : (BitVec.ofInt 64 (x : Int)).toNat = x := by
    rw [BitVec.ofInt_natCast, BitVec.toNat_ofNat]
    exact Nat.mod_eq_of_lt (by omega)
  have e2 : (BitVec.ofInt 64 ((y * 2 ^ k : Nat) : Int)).toNat = y * 2 ^ k := by
    rw [BitVec.ofInt_natCast, BitVec.toNat_ofNat]
    exact Nat.mod_eq_of_lt (by omega)
  have e3 : x ||| y * 2 ^ k = x + y * 2 ^ k := by
    rw [Nat.or_comm, ← Nat.shiftLeft_eq, ← Nat.shiftLeft_add_eq_or_of_lt hx, Nat.add_comm]
  rw [BitVec.toNat_or, e1, e2, e3]
  exact wr (by omega)
def num4 (a b c d : UInt8) : Nat := a.toNat + b.toNat * 2 ^ 8 + c.toNat * 2 ^ 16 + d.toNat * 2 ^ 24
theorem num4_lt (a b c d : UInt8) : num4 a b c d < 4294967296 := by
  have := u8_lt a; have := u8_lt b; have := u8_lt c; have := u8_lt d
  unfold num4; omega
abbrev I2 (n : Int) : AV := .im (.v (.int .i64 n))
theorem number_spec (a b c d : UInt8) : PFn Try.prog 53 [.im (.sl 1 (byteR [a, b, c, d]))] (I2 (num4 a b c d)) := by
  have ha := u8_lt a; have hb := u8_lt b; have hc := u8_lt c; have hd := u8_lt d
  have o1 := or_nat a.toNat b.toNat 8 (by omega) (by omega)
  have o2 := or_nat (a.toNat + b.toNat * 2 ^ 8) c.toNat 16 (by omega) (by omega)
  have o3 := or_nat (a.toNat + b.toNat * 2 ^ 8 + c.toNat * 2 ^ 16) d.toNat 24 (by omega) (by omega)
  refine ACall.walk [0, 2, 3] [3] Try.func53 rfl Try.ntmps53 (by kernel_rfl) (by rfl) rfl fun W own I0 φ0 => ?_
  simp only [go_sem, Nat.reduceAdd, Nat.reduceLeDiff, Nat.reduceSub, Int.reduceToNat, reduceCtorEq, byteR, List.map_cons, List.map_nil]
  repeat (first | refine xA ?_ | refine xB ?_ | refine xC ?_ | refine xE ?_ | refine xD ?_ | refine xK ?_ | refine xS ?_ | refine xM ?_ | refine xT ?_ | refine xF ?_ | ((first | refine xR ?_ | refine xW ?_ | refine vq_id ?_); simp only [go_sem, Nat.reduceAdd, Nat.reduceLeDiff, Nat.reduceSub, Int.reduceToNat, reduceCtorEq, List.flatten_cons, List.flatten_nil, List.cons_append, List.nil_append, List.length_cons, List.length_nil, List.take_succ_cons, List.take_zero, List.map_cons, List.map_nil, Int.reduceToNat, List.getD_cons_zero, List.getD_cons_succ, w1, sh8, sh16, sh24, o1, o2, o3]) | (refine ⟨by first | omega | (intros; simp_all; done) | (intros; simp_all; omega), ?_⟩; try simp only [go_sem, Nat.reduceAdd, Nat.reduceLeDiff, Nat.reduceSub, Int.reduceToNat, reduceCtorEq, List.flatten_cons, List.flatten_nil, List.cons_append, List.nil_append, List.length_cons, List.length_nil, List.take_succ_cons, List.take_zero, List.map_cons, List.map_nil, Int.reduceToNat, List.getD_cons_zero, List.getD_cons_succ, w1, sh8, sh16, sh24, o1, o2, o3]))
  exact AE.ret0 rfl ⟨rfl, trivial⟩ rfl ⟨rfl, rfl⟩
def le4 (n : Nat) : Bs := [UInt8.ofNat (n % 256), UInt8.ofNat (n / 256 % 256), UInt8.ofNat (n / 65536 % 256), UInt8.ofNat (n / 16777216 % 256)]
theorem num_le4 (n : Nat) (h : n < 4294967296) : num4 (UInt8.ofNat (n % 256)) (UInt8.ofNat (n / 256 % 256)) (UInt8.ofNat (n / 65536 % 256)) (UInt8.ofNat (n / 16777216 % 256)) = n := by
  unfold num4
  simp only [UInt8.toNat_ofNat']
  omega
theorem set_mid {α : Type} (T A D : List α) (y : α) (i k : Nat) (hT : T.length = i) (hA : A.length = k) : (T ++ A ++ D).set (i + k) y = T ++ A ++ D.set 0 y := by
  rw [List.set_append, if_neg (by simp [hT, hA]), List.length_append, hT, hA, Nat.sub_self]
theorem le4_val (n k : Nat) (hk : k < 4) : IntKind.u8.wrap (Int.fdiv (n : Int) (2 ^ min (8 * k) 64)) = (((le4 n).getD k 0).toNat : Int) := by
  have hw : ∀ x : Nat, IntKind.u8.wrap (x : Int) = ((x % 256 : Nat) : Int) := fun x => by
    simp only [IntKind.wrap, IntKind.bits, IntKind.signed, Bool.false_and, Bool.false_eq_true, if_false]
    omega
  have hf : ∀ m : Nat, Int.fdiv (n : Int) (m : Int) = ((n / m : Nat) : Int) := fun m => by rw [Int.ofNat_fdiv]
  have h4 : k = 0 ∨ k = 1 ∨ k = 2 ∨ k = 3 := by omega
  rcases h4 with rfl | rfl | rfl | rfl
  · rw [show ((2 : Int) ^ min (8 * 0) 64) = ((1 : Nat) : Int) from rfl, hf, hw]
    simp [le4]
  · rw [show ((2 : Int) ^ min (8 * 1) 64) = ((256 : Nat) : Int) from rfl, hf, hw]
    simp [le4]
  · rw [show ((2 : Int) ^ min (8 * 2) 64) = ((65536 : Nat) : Int) from rfl, hf, hw]
    simp [le4]
  · rw [show ((2 : Int) ^ min (8 * 3) 64) = ((16777216 : Nat) : Int) from rfl, hf, hw]
    simp [le4]
theorem put_ok (el : Nat) (rows : List (List IV)) (i : Nat) (n : Nat) (hn : n < 9223372036854775808) (hi : i + 4 ≤ rows.length) (h1 : ∀ r ∈ rows, r.length = 1) :
    ACall Try.prog 83 [.os 0 1 i 4, I2 n] [(0, .vec el 1 rows)] (fun r H' => H' = [(0, .vec el 1 (rows.take i ++ byteR (le4 n) ++ rows.drop (i + 4)))] ∧ r = .tup []) := by
  have hl4 : (le4 n).length = 4 := rfl
  refine ACall.walk [0, 1, 4, 5, 6] [] Try.func83 rfl Try.ntmps83 (by kernel_rfl) (by rfl) rfl fun W own I0 φ0 => ?_
  repeat (first | refine xA ?_ | refine xB ?_ | refine xC ?_ | refine xE ?_ | refine xD ?_ | refine xK ?_ | refine xS ?_ | refine xM ?_ | refine xT ?_ | refine xF ?_ | ((first | refine xR ?_ | refine xW ?_ | refine vq_id ?_); simp only [go_sem, Nat.reduceAdd, Nat.reduceLeDiff, Nat.reduceSub, Int.reduceToNat, reduceCtorEq]) | (refine ⟨by first | omega | (intros; simp_all; done) | (intros; simp_all; omega), ?_⟩; try simp only [go_sem, Nat.reduceAdd, Nat.reduceLeDiff, Nat.reduceSub, Int.reduceToNat, reduceCtorEq]))
  refine AP.loop rfl (α := Nat) (fun k => [(0, .os 0 1 i 4), (1, I2 n), (5, Iv k)]) (fun k => [(0, .vec el 1 (rows.take i ++ byteR ((le4 n).take k) ++ rows.drop (i + k)))]) (fun k => k ≤ 4) (fun k => 4 - k) 0 (by omega) (by repeat (first | exact Sub.nil _ | refine Sub.cons rfl ?_)) (by simp [byteR]) fun k hk => ?_
  have hw := wr (x := (k : Int) + 1) (by omega)
  rcases Nat.eq_or_lt_of_le hk with he | hlt
  · repeat (first | refine xA ?_ | refine xB ?_ | refine xC ?_ | refine xE ?_ | refine xD ?_ | refine xK ?_ | refine xS ?_ | refine xM ?_ | refine xT ?_ | refine xF ?_ | ((first | refine xR ?_ | refine xW ?_ | refine vq_id ?_); simp only [go_sem, Nat.reduceAdd, Nat.reduceLeDiff, Nat.reduceSub, Int.reduceToNat, reduceCtorEq]) | (refine ⟨by first | omega | (intros; simp_all; done) | (intros; simp_all; omega), ?_⟩; try simp only [go_sem, Nat.reduceAdd, Nat.reduceLeDiff, Nat.reduceSub, Int.reduceToNat, reduceCtorEq]))
    refine AP.cond_false rfl (by simp only [go_sem, Nat.reduceAdd, Nat.reduceLeDiff, Nat.reduceSub, Int.reduceToNat, reduceCtorEq]; refine congrArg (fun b => some (AV.im (IV.v (Value.bool b)))) ?_; (first | (simp only [Bool.or_eq_true, Bool.and_eq_true, Bool.not_eq_true', Bool.not_eq_false', Bool.and_eq_false_iff, Bool.or_eq_false_iff, decide_eq_true_eq, decide_eq_false_iff_not, beq_iff_eq, bne_iff_ne, beq_eq_false_iff_ne, bne_eq_false_iff_eq, ne_eq]; omega) | (simp; done) | (simp; omega) | (simp_all; done) | (simp_all; omega))) ?_
    repeat (first | refine xA ?_ | refine xB ?_ | refine xC ?_ | refine xE ?_ | refine xD ?_ | refine xK ?_ | refine xS ?_ | refine xM ?_ | refine xT ?_ | refine xF ?_ | ((first | refine xR ?_ | refine xW ?_ | refine vq_id ?_); simp only [go_sem, Nat.reduceAdd, Nat.reduceLeDiff, Nat.reduceSub, Int.reduceToNat, reduceCtorEq]) | (refine ⟨by first | omega | (intros; simp_all; done) | (intros; simp_all; omega), ?_⟩; try simp only [go_sem, Nat.reduceAdd, Nat.reduceLeDiff, Nat.reduceSub, Int.reduceToNat, reduceCtorEq]))
    rw [he, take_all' (le4 n) 4 (by rw [hl4]; exact Nat.le_refl _)]
    exact AE.fall rfl trivial ⟨rfl, rfl⟩
  · have hw8 : IntKind.i64.wrap (8 * (k : Int)) = ((8 * k : Nat) : Int) := by rw [wr (by omega)]; omega
    have hv := le4_val n k hlt
    have hTl : (rows.take i).length = i := by rw [List.length_take]; omega
    have hAl : (byteR ((le4 n).take k)).length = k := by rw [byteR_len, List.length_take, hl4]; omega
    have hlen : (rows.take i ++ byteR ((le4 n).take k) ++ rows.drop (i + k)).length = rows.length := by simp only [List.length_append, hTl, hAl, List.length_drop]; omega
    have hrow : ((rows.take i ++ byteR ((le4 n).take k) ++ rows.drop (i + k)).getD (i + k) []).drop 1 = [] := by
      rw [List.getD_eq_getElem?_getD, List.getElem?_append_right (by simp only [List.length_append, hTl, hAl]; omega)]
      simp only [List.length_append, hTl, hAl, Nat.sub_self, List.getElem?_drop, Nat.add_zero]
      rw [List.getElem?_eq_getElem (by omega)]
      exact List.drop_eq_nil_of_le (by have := h1 _ (List.getElem_mem (show i + k < rows.length by omega)); simp only [Option.getD_some]; omega)
    have hset : (rows.take i ++ byteR ((le4 n).take k) ++ rows.drop (i + k)).set (i + k) [IV.v (Value.int .u8 (((le4 n).getD k 0).toNat : Int))] = rows.take i ++ byteR ((le4 n).take (k + 1)) ++ rows.drop (i + (k + 1)) := by
      rw [set_mid _ _ _ _ _ _ hTl hAl, drop_get rows (i + k) [] (by omega), List.set_cons_zero, List.take_add_one, List.getElem?_eq_getElem (by rw [hl4]; omega)]
      simp only [byteR, Option.toList_some, List.map_append, List.map_cons, List.map_nil, List.append_assoc, List.singleton_append]
      rw [List.getD_eq_getElem?_getD, List.getElem?_eq_getElem (by rw [hl4]; omega)]
      rfl
    repeat (first | refine xA ?_ | refine xB ?_ | refine xC ?_ | refine xE ?_ | refine xD ?_ | refine xK ?_ | refine xS ?_ | refine xM ?_ | refine xT ?_ | refine xF ?_ | ((first | refine xR ?_ | refine xW ?_ | refine vq_id ?_); simp only [go_sem, Nat.reduceAdd, Nat.reduceLeDiff, Nat.reduceSub, Int.reduceToNat, reduceCtorEq]) | (refine ⟨by first | omega | (intros; simp_all; done) | (intros; simp_all; omega), ?_⟩; try simp only [go_sem, Nat.reduceAdd, Nat.reduceLeDiff, Nat.reduceSub, Int.reduceToNat, reduceCtorEq]))
    refine AP.cond_true rfl (by simp only [go_sem, Nat.reduceAdd, Nat.reduceLeDiff, Nat.reduceSub, Int.reduceToNat, reduceCtorEq]; refine congrArg (fun b => some (AV.im (IV.v (Value.bool b)))) ?_; (first | (simp only [Bool.or_eq_true, Bool.and_eq_true, Bool.not_eq_true', Bool.not_eq_false', Bool.and_eq_false_iff, Bool.or_eq_false_iff, decide_eq_true_eq, decide_eq_false_iff_not, beq_iff_eq, bne_iff_ne, beq_eq_false_iff_ne, bne_eq_false_iff_eq, ne_eq]; omega) | (simp; done) | (simp; omega) | (simp_all; done) | (simp_all; omega))) ?_
    repeat (first | refine xA ?_ | refine xB ?_ | refine xC ?_ | refine xE ?_ | refine xD ?_ | refine xK ?_ | refine xS ?_ | refine xM ?_ | refine xT ?_ | refine xF ?_ | ((first | refine xR ?_ | refine xW ?_ | refine vq_id ?_); simp only [go_sem, Nat.reduceAdd, Nat.reduceLeDiff, Nat.reduceSub, Int.reduceToNat, reduceCtorEq, hw, hw8, hv, hrow]) | (refine ⟨by first | omega | (intros; simp_all; done) | (intros; simp_all; omega), ?_⟩; try simp only [go_sem, Nat.reduceAdd, Nat.reduceLeDiff, Nat.reduceSub, Int.reduceToNat, reduceCtorEq, hw, hw8, hv, hrow]))
    rw [hset]
    exact AE.round (k + 1) (by omega) (by omega) (by repeat (first | exact Sub.nil _ | refine Sub.cons rfl ?_)) rfl
end Go.Proofs.Ytoafanbfminhcaa
end

section
namespace Go.Proofs.Ytoafanbfminhcaa
open Go Go.AL Go.RowKit
set_option maxRecDepth 10000
set_option maxHeartbeats 1000000
def bI (l : Bs) : List IV := l.map fun b => Bi b
theorem bI_len (l : Bs) : (bI l).length = l.length := by simp [bI]
theorem bI_rows (l : Bs) : (bI l).map (fun c => [c]) = byteR l := by simp [bI, byteR]
theorem bI_drop (l : Bs) (n : Nat) : (bI l).drop n = bI (l.drop n) := by simp [bI]
theorem bI_take (l : Bs) (n : Nat) : (bI l).take n = bI (l.take n) := by simp [bI]
theorem byteR_drop (l : Bs) (n : Nat) : (byteR l).drop n = byteR (l.drop n) := by simp [byteR]
theorem byteR_take (l : Bs) (n : Nat) : (byteR l).take n = byteR (l.take n) := by simp [byteR]
theorem byteR_app (l m : Bs) : byteR l ++ byteR m = byteR (l ++ m) := by simp [byteR]
theorem byteR_flatI (l : Bs) : (byteR l).flatten = bI l := by
  unfold byteR bI
  induction l with
  | nil => rfl
  | cons x r ih => simp only [List.map_cons, List.flatten_cons, ih]; rfl
def bodyOf (l : Bs) : Bs := (l.drop 4).take 12 ++ l.drop 20
theorem bodyOf_len {l : Bs} (h : l.length = 32) : (bodyOf l).length = 24 := by simp [bodyOf, h]
theorem body_spec (l : Bs) (h : l.length = 32) : PFn Try.prog 101 [.ar (bI l)] (.ar (bI (bodyOf l))) := by
  refine ACall.walk [0, 1, 2, 3] [2, 3] Try.func101 rfl Try.ntmps101 (by kernel_rfl) (by rfl) rfl fun W own I0 φ0 => ?_
  have hbl := bodyOf_len h
  have hz : rowsF IntKind.u8 24 (fun _ => 0) = byteR (List.replicate 24 0) := rfl
  repeat (first | refine xA ?_ | refine xB ?_ | refine xC ?_ | refine xE ?_ | refine xD ?_ | refine xK ?_ | refine xS ?_ | refine xM ?_ | refine xT ?_ | refine xF ?_ | ((first | refine xR ?_ | refine xW ?_ | refine vq_id ?_); simp only [go_sem, Nat.reduceAdd, Nat.reduceLeDiff, Nat.reduceSub, Int.reduceToNat, reduceCtorEq]) | (refine ⟨by first | omega | (intros; simp_all; done) | (intros; simp_all; omega), ?_⟩; try simp only [go_sem, Nat.reduceAdd, Nat.reduceLeDiff, Nat.reduceSub, Int.reduceToNat, reduceCtorEq]))
  rw [hz]
  refine AP.cut (α := Unit) (fun _ => [(1, .im (.pt (bI l))), (2, .ob 0 0), (3, .ob 1 0)]) (fun _ => [(1, .vec 130 1 (byteR ((l.drop 4).take 12 ++ List.replicate 12 0))), (0, .vec 130 1 (byteR (List.replicate 24 0)))]) (fun _ => True) ?_ fun _ _ => ?_
  · skip
    refine AP.drawE 3 (Tree.node [] [0, 1] [2] [Tree.node [] [] [] []]) (by kernel_rfl) rfl (by kernel_rfl) (by kernel_rfl) ?_
    refine vd_node ?_
    have hm : List.take 12 (List.take 12 (List.drop 4 l)) = List.take 12 (List.drop 4 l) := take_all' _ _ (by simp; omega)
    simp only [go_sem, Nat.reduceAdd, Nat.reduceLeDiff, Nat.reduceSub, Int.reduceToNat, reduceCtorEq, byteR_take, byteR_drop, byteR_app, byteR_len, bI_len, bI_drop, bI_take, bI_rows, List.length_take, List.length_drop, List.length_replicate, h, Nat.reduceSub, Int.reduceToNat, Nat.min_self, List.drop_replicate, List.take_zero, List.nil_append, hm]
    repeat (with_reducible refine And.intro (by omega) ?_)
    (with_reducible show AQ _ _ _ ({ dst := _, op := Op.call { callee := .builtin .copy, args := _, argTypes := _ }, type := _, pos := _, after := _, guard := _ } :: _) _ _ _); refine AQ.copyI (by kernel_rfl) rfl rfl rfl Try.tk95 Try.sz5 ⟨(by refine ⟨?_, ?_, ?_⟩ <;> first | (simp [byteR_len]; done) | (simp [byteR_len]; omega)), ?_⟩
    simp only [go_sem, Nat.reduceAdd, Nat.reduceLeDiff, Nat.reduceSub, Int.reduceToNat, reduceCtorEq, byteR_take, byteR_drop, byteR_app, byteR_len, bI_len, bI_drop, bI_take, bI_rows, List.length_take, List.length_drop, List.length_replicate, h, Nat.reduceSub, Int.reduceToNat, Nat.min_self, List.drop_replicate, List.take_zero, List.nil_append, hm]
    refine AQ.nx rfl ?_
    simp only [go_sem, Nat.reduceAdd, Nat.reduceLeDiff, Nat.reduceSub, Int.reduceToNat, reduceCtorEq, byteR_take, byteR_drop, byteR_app, byteR_len, bI_len, bI_drop, bI_take, bI_rows, List.length_take, List.length_drop, List.length_replicate, h, Nat.reduceSub, Int.reduceToNat, Nat.min_self, List.drop_replicate, List.take_zero, List.nil_append, hm]
    refine AQ.done ?_
    exact AE.meet () trivial (by repeat (first | exact Sub.nil _ | refine Sub.cons rfl ?_)) rfl
  · refine xEP rfl ?_
    refine AP.cut (α := Unit) (fun _ => [(2, .ob 0 0), (3, .ob 1 0)]) (fun _ => [(1, .vec 130 1 (byteR (bodyOf l))), (0, .vec 130 1 (byteR (List.replicate 24 0)))]) (fun _ => True) ?_ fun _ _ => ?_
    · have hb : List.take 12 (List.take 12 (List.drop 4 l) ++ List.replicate 12 0) ++ List.drop 20 l ++ List.drop 24 (List.take 12 (List.drop 4 l) ++ List.replicate 12 0) = bodyOf l := by
        have hA : (List.take 12 (List.drop 4 l)).length = 12 := by simp; omega
        unfold bodyOf
        obtain ⟨A, hAe⟩ : ∃ A, List.take 12 (List.drop 4 l) = A := ⟨_, rfl⟩
        rw [hAe] at hA ⊢
        have e1 : List.take 12 (A ++ List.replicate 12 0) = A := by rw [List.take_append_of_le_length (by omega)]; exact take_all' _ _ (Nat.le_of_eq hA)
        have e2 : List.drop 24 (A ++ List.replicate 12 0) = [] := List.drop_eq_nil_of_le (by simp; omega)
        rw [e1, e2, List.append_nil]
      have hm2 : List.take 12 (List.take 12 (List.drop 20 l)) = List.drop 20 l := by rw [List.take_take]; exact take_all' _ _ (by simp; omega)
      refine AP.drawE 3 (Tree.node [] [0, 1] [2] [Tree.node [] [] [] []]) (by kernel_rfl) rfl (by kernel_rfl) (by kernel_rfl) ?_
      refine vd_node ?_
      simp only [go_sem, Nat.reduceAdd, Nat.reduceLeDiff, Nat.reduceSub, Int.reduceToNat, reduceCtorEq, byteR_take, byteR_drop, byteR_app, byteR_len, bI_len, bI_drop, bI_take, bI_rows, List.length_take, List.length_drop, List.length_replicate, h, Nat.reduceSub, Int.reduceToNat, Nat.min_self, List.drop_replicate, List.take_zero, List.nil_append, hm2]
      refine ⟨⟨by omega, by omega, by simp; omega⟩, by omega, ?_⟩
      (with_reducible show AQ _ _ _ ({ dst := _, op := Op.call { callee := .builtin .copy, args := _, argTypes := _ }, type := _, pos := _, after := _, guard := _ } :: _) _ _ _); refine AQ.copyI (by kernel_rfl) rfl rfl rfl Try.tk95 Try.sz5 ⟨(by refine ⟨?_, ?_, ?_⟩ <;> first | (simp [byteR_len]; done) | (simp [byteR_len]; omega)), ?_⟩
      simp only [go_sem, Nat.reduceAdd, Nat.reduceLeDiff, Nat.reduceSub, Int.reduceToNat, reduceCtorEq, byteR_take, byteR_drop, byteR_app, byteR_len, bI_len, bI_drop, bI_take, bI_rows, List.length_take, List.length_drop, List.length_replicate, h, Nat.reduceSub, Int.reduceToNat, Nat.min_self, List.drop_replicate, List.take_zero, List.nil_append, hm2]
      refine AQ.nx rfl ?_
      simp only [go_sem, Nat.reduceAdd, Nat.reduceLeDiff, Nat.reduceSub, Int.reduceToNat, reduceCtorEq, byteR_take, byteR_drop, byteR_app, byteR_len, bI_len, bI_drop, bI_take, bI_rows, List.length_take, List.length_drop, List.length_replicate, h, Nat.reduceSub, Int.reduceToNat, Nat.min_self, List.drop_replicate, List.take_zero, List.nil_append, hm2]
      refine AQ.done ?_
      exact AE.meet () trivial (by repeat (first | exact Sub.nil _ | refine Sub.cons rfl ?_)) (by rw [hb])
    · have hfl : (byteR (bodyOf l)).flatten = bI (bodyOf l) := by unfold byteR bI; induction bodyOf l with
        | nil => rfl
        | cons x r ih => simp only [List.map_cons, List.flatten_cons, ih]; rfl
      repeat (first | refine xA ?_ | refine xB ?_ | refine xC ?_ | refine xE ?_ | refine xD ?_ | refine xK ?_ | refine xS ?_ | refine xM ?_ | refine xT ?_ | refine xF ?_ | ((first | refine xR ?_ | refine xW ?_ | refine vq_id ?_); simp only [go_sem, Nat.reduceAdd, Nat.reduceLeDiff, Nat.reduceSub, Int.reduceToNat, reduceCtorEq, hfl, bI_len, hbl, byteR_len, List.length_replicate, bI_rows]) | (refine ⟨by first | omega | (intros; simp_all; done) | (intros; simp_all; omega), ?_⟩; try simp only [go_sem, Nat.reduceAdd, Nat.reduceLeDiff, Nat.reduceSub, Int.reduceToNat, reduceCtorEq, hfl, bI_len, hbl, byteR_len, List.length_replicate, bI_rows]))
      exact AE.ret0 rfl ⟨⟨rfl, by rw [hfl, bI_len, hbl]; kernel_rfl⟩, trivial⟩ rfl ⟨rfl, by rw [hfl]; rfl⟩
end Go.Proofs.Ytoafanbfminhcaa
end

section
namespace Go.Proofs.Ytoafanbfminhcaa
open Go Go.AL Go.RowKit
set_option maxRecDepth 10000
set_option maxHeartbeats 2000000
def n4 (l : Bs) : Nat := num4 (l.getD 0 0) (l.getD 1 0) (l.getD 2 0) (l.getD 3 0)
theorem n4_lt (l : Bs) : n4 l < 4294967296 := num4_lt _ _ _ _
theorem number4 (l : Bs) (h : l.length = 4) : PFn Try.prog 53 [.im (.sl 1 (byteR l))] (I2 (n4 l)) := by
  match l, h with
  | [a, b, c, d], _ => exact number_spec a b c d
attribute [irreducible] n4
structure Pc where
  s : Nat
  k : Nat
  last : Bool
  t : Bs
abbrev Pc.v (p : Pc) : AV := .agg [I2 p.s, I2 p.k, Bv p.last, Sv p.t]
def nilPc : Pc := ⟨0, 0, false, []⟩
def lenB (b : Bs) : Nat := (b.getD 4 0).toNat
def readG (k1 k2 k3 c : Nat) (b : Bs) : Option Pc :=
  if k1 = 0 ∨ k3 ≠ k1 ∨ 19 < c % 128 then none
  else if (b.drop (5 + c % 128)).all (· == 0) then some ⟨k1, k2, decide ((128 : Int) ≤ (c : Int)), (b.drop 5).take (c % 128)⟩ else none
def readP (s : Bs) : Option Pc := if s.length = 32 then readG (n4 (s.take 4)) (n4 ((bodyOf s).take 4)) (n4 ((s.drop 16).take 4)) (lenB (bodyOf s)) (bodyOf s) else none
def readV : Option Pc → AV
  | some p => .tup [p.v, Bv true]
  | none => .tup [nilPc.v, Bv false]
theorem read_bad (s : Bs) (h : s.length ≠ 32) : PFn Try.prog 97 [Sv s] (.tup [nilPc.v, Bv false]) := by
  refine ACall.walk [0, 2, 3, 4, 5, 6, 7, 9, 12, 45, 54, 55, 56, 57, 61] [2, 4, 5, 6] Try.func97 rfl Try.ntmps97 (by kernel_rfl) (by rfl) rfl fun W own I0 φ0 => ?_
  repeat (first | refine xA ?_ | refine xB ?_ | refine xC ?_ | refine xE ?_ | refine xD ?_ | refine xK ?_ | refine xS ?_ | refine xM ?_ | refine xT ?_ | refine xF ?_ | ((first | refine xR ?_ | refine xW ?_ | refine vq_id ?_); simp only [go_sem, Nat.reduceAdd, Nat.reduceLeDiff, Nat.reduceSub, Int.reduceToNat, reduceCtorEq, BA_size]) | (refine ⟨by first | omega | (intros; simp_all; done) | (intros; simp_all; omega), ?_⟩; try simp only [go_sem, Nat.reduceAdd, Nat.reduceLeDiff, Nat.reduceSub, Int.reduceToNat, reduceCtorEq, BA_size]))
  refine AP.cond_true rfl (by simp only [go_sem, Nat.reduceAdd, Nat.reduceLeDiff, Nat.reduceSub, Int.reduceToNat, reduceCtorEq]; refine congrArg (fun b => some (AV.im (IV.v (Value.bool b)))) ?_; (first | (simp only [Bool.or_eq_true, Bool.and_eq_true, Bool.not_eq_true', Bool.not_eq_false', Bool.and_eq_false_iff, Bool.or_eq_false_iff, decide_eq_true_eq, decide_eq_false_iff_not, beq_iff_eq, bne_iff_ne, beq_eq_false_iff_ne, bne_eq_false_iff_eq, ne_eq]; omega) | (simp; done) | (simp; omega) | (simp_all; done) | (simp_all; omega))) ?_
  repeat (first | refine xA ?_ | refine xB ?_ | refine xC ?_ | refine xE ?_ | refine xD ?_ | refine xK ?_ | refine xS ?_ | refine xM ?_ | refine xT ?_ | refine xF ?_ | ((first | refine xR ?_ | refine xW ?_ | refine vq_id ?_); simp only [go_sem, Nat.reduceAdd, Nat.reduceLeDiff, Nat.reduceSub, Int.reduceToNat, reduceCtorEq]) | (refine ⟨by first | omega | (intros; simp_all; done) | (intros; simp_all; omega), ?_⟩; try simp only [go_sem, Nat.reduceAdd, Nat.reduceLeDiff, Nat.reduceSub, Int.reduceToNat, reduceCtorEq]))
  exact AE.ret0 rfl ⟨⟨rfl, Nat.le_of_ble_eq_true (by kernel_rfl)⟩, rfl, trivial⟩ rfl ⟨rfl, rfl⟩
theorem and127 (n : Nat) (h : n < 256) : bAnd .u8 (n : Int) (127 : Int) = ((n % 128 : Nat) : Int) := by
  show IntKind.u8.wrap ((BitVec.ofInt 8 (n : Int) &&& BitVec.ofInt 8 (127 : Int)).toNat : Int) = _
  have e1 : (BitVec.ofInt 8 (n : Int)).toNat = n := by
    rw [BitVec.ofInt_natCast, BitVec.toNat_ofNat]
    exact Nat.mod_eq_of_lt (by omega)
  have e2 : (BitVec.ofInt 8 (127 : Int)).toNat = 2 ^ 7 - 1 := by decide
  rw [BitVec.toNat_and, e1, e2, Nat.and_two_pow_sub_one_eq_mod]
  have hw : IntKind.u8.wrap ((n % 2 ^ 7 : Nat) : Int) = ((n % 2 ^ 7 : Nat) : Int) := by
    simp only [IntKind.wrap, IntKind.bits, IntKind.signed, Bool.false_and, Bool.false_eq_true, if_false]; omega
  rw [hw]
theorem lenB_lt (b : Bs) : lenB b < 256 := u8_lt _
theorem bI_get (b : Bs) (k : Nat) (h : k < b.length) (d : IV) : (bI b).getD k d = Bi (b.getD k 0) := by simp [bI, List.getD_eq_getElem?_getD, h]
theorem read_ok' (s b : Bs) (h : s.length = 32) (hbl : b.length = 24) (k1 k2 k3 c : Nat) (hbody : PFn Try.prog 101 [.ar (bI s)] (.ar (bI b)))
    (hn1 : PFn Try.prog 53 [.im (.sl 1 (byteR (s.take 4)))] (I2 k1)) (hn2 : PFn Try.prog 53 [.im (.sl 1 (byteR (b.take 4)))] (I2 k2)) (hn3 : PFn Try.prog 53 [.im (.sl 1 (byteR ((s.drop 16).take 4)))] (I2 k3))
    (hg4 : (bI b).getD 4 (IV.v (Value.bool false)) = IV.v (Value.int .u8 (c : Nat))) (n : Nat) (hnc : c % 128 = n) (hn : n < 128) (ha7 : bAnd .u8 (c : Int) (127 : Int) = (n : Int)) (hw7 : IntKind.i64.wrap (n : Int) = (n : Int)) : PFn Try.prog 97 [Sv s] (readV (readG k1 k2 k3 c b)) := by
  have hz := show rowsF IntKind.u8 32 (fun _ => 0) = byteR (List.replicate 32 0) from rfl
  have ht : List.take 32 s = s := take_all' _ _ (by omega)
  have htb : List.take 24 b = b := take_all' _ _ (by omega)
  refine ACall.walk [0, 2, 3, 4, 5, 6, 7, 9, 12, 45, 54, 55, 56, 57, 61] [2, 4, 5, 6] Try.func97 rfl Try.ntmps97 (by kernel_rfl) (by rfl) rfl fun W own I0 φ0 => ?_
  repeat (first | refine xA ?_ | refine xB ?_ | refine xC ?_ | refine xE ?_ | refine xD ?_ | refine xK ?_ | refine xS ?_ | refine xM ?_ | refine xT ?_ | refine xF ?_ | ((first | refine xR ?_ | refine xW ?_ | refine vq_id ?_); simp only [go_sem, Nat.reduceAdd, Nat.reduceLeDiff, Nat.reduceSub, Int.reduceToNat, reduceCtorEq, BA_size, byteR_flatI, bI_take, bI_drop, bI_len, byteR_len, h, ht, bI_rows, hbl, htb, Int.reduceToNat, Nat.reduceSub]) | (refine ⟨by first | omega | (intros; simp_all; done) | (intros; simp_all; omega), ?_⟩; try simp only [go_sem, Nat.reduceAdd, Nat.reduceLeDiff, Nat.reduceSub, Int.reduceToNat, reduceCtorEq, BA_size, byteR_flatI, bI_take, bI_drop, bI_len, byteR_len, h, ht, bI_rows, hbl, htb, Int.reduceToNat, Nat.reduceSub]))
  refine AQ.freeze 1 (el := 133) (es := 1) (rows := byteR s) rfl (by simp only [go_sem, Nat.reduceAdd, Nat.reduceLeDiff, Nat.reduceSub, Int.reduceToNat, reduceCtorEq]) (by simp only [go_sem, Nat.reduceAdd, Nat.reduceLeDiff, Nat.reduceSub, Int.reduceToNat, reduceCtorEq]) ?_
  simp only [go_sem, Nat.reduceAdd, Nat.reduceLeDiff, Nat.reduceSub, Int.reduceToNat, reduceCtorEq, byteR_flatI]
  refine AQ.fn (by kernel_rfl) rfl rfl rfl (hbody) rfl ?_
  repeat (first | refine xA ?_ | refine xB ?_ | refine xC ?_ | refine xE ?_ | refine xD ?_ | refine xK ?_ | refine xS ?_ | refine xM ?_ | refine xT ?_ | refine xF ?_ | ((first | refine xR ?_ | refine xW ?_ | refine vq_id ?_); simp only [go_sem, Nat.reduceAdd, Nat.reduceLeDiff, Nat.reduceSub, Int.reduceToNat, reduceCtorEq, byteR_flatI, bI_take, bI_drop, bI_len, byteR_len, h, ht, bI_rows, hbl, htb, Int.reduceToNat, Nat.reduceSub]) | (refine ⟨by first | omega | (intros; simp_all; done) | (intros; simp_all; omega), ?_⟩; try simp only [go_sem, Nat.reduceAdd, Nat.reduceLeDiff, Nat.reduceSub, Int.reduceToNat, reduceCtorEq, byteR_flatI, bI_take, bI_drop, bI_len, byteR_len, h, ht, bI_rows, hbl, htb, Int.reduceToNat, Nat.reduceSub]))
  refine AP.freeze 1 (el := 130) (es := 1) (rows := byteR b) rfl (by simp only [go_sem, Nat.reduceAdd, Nat.reduceLeDiff, Nat.reduceSub, Int.reduceToNat, reduceCtorEq]) (by simp only [go_sem, Nat.reduceAdd, Nat.reduceLeDiff, Nat.reduceSub, Int.reduceToNat, reduceCtorEq]) ?_
  simp only [go_sem, Nat.reduceAdd, Nat.reduceLeDiff, Nat.reduceSub, Int.reduceToNat, reduceCtorEq, byteR_flatI]
  refine AP.cut (α := Unit) (fun _ => [(0, Sv s), (2, .ob 0 0), (3, Bv false), (4, .im (.pt (bI s))), (5, .im (.pt (bI b))), (6, .ob 1 0)]) (fun _ => [(1, .var 86 [I2 k1, I2 k2, Bv (decide (128 ≤ (c : Int))), Sv []]), (0, .var 86 [I2 0, I2 0, Bv false, Sv []])]) (fun _ => True) ?_ fun _ _ => ?_
  · skip
    refine AP.drawE 10 (Tree.node [] [0, 2, 4, 5, 6] [1, 8] [Tree.node [2, 4, 5, 6] [] [3, 8] [Tree.node [4, 5, 6] [7] [8] [Tree.node [4, 5, 6, 7] [] [9] [Tree.node [] [] [] []]], Tree.node [2, 4, 5, 6] [] [3] [Tree.node [4, 5, 6] [7] [9] [Tree.node [] [] [] []]]], Tree.node [0, 2, 4, 5, 6] [] [1] [Tree.node [2, 4, 5, 6] [] [3] [Tree.node [4, 5, 6] [7] [9] [Tree.node [] [] [] []]]]]) (by kernel_rfl) rfl (by kernel_rfl) (by kernel_rfl) ?_
    refine vd_node ?_
    simp only [go_sem, Nat.reduceAdd, Nat.reduceLeDiff, Nat.reduceSub, Int.reduceToNat, reduceCtorEq, byteR_flatI, bI_take, bI_drop, bI_len, byteR_len, h, ht, bI_rows, hbl, htb, Int.reduceToNat, Nat.reduceSub, List.drop_zero, hg4]
    repeat (with_reducible refine And.intro (by omega) ?_)
    repeat' (first | with_reducible exact True.intro | with_reducible refine And.intro (by omega) ?_ | with_reducible refine And.intro ?_ ?_ | omega | (refine AQ.fn (by kernel_rfl) rfl rfl rfl (hn1) rfl ?_; simp only [go_sem, Nat.reduceAdd, Nat.reduceLeDiff, Nat.reduceSub, Int.reduceToNat, reduceCtorEq]) | (refine AQ.fn (by kernel_rfl) rfl rfl rfl (hn2) rfl ?_; simp only [go_sem, Nat.reduceAdd, Nat.reduceLeDiff, Nat.reduceSub, Int.reduceToNat, reduceCtorEq]) | exact AE.meet () trivial (by repeat (first | exact Sub.nil _ | refine Sub.cons rfl ?_)) rfl | (refine AQ.nx rfl ?_; first | (refine And.intro ?_ ?_ <;> (try simp only [go_sem, Nat.reduceAdd, Nat.reduceLeDiff, Nat.reduceSub, Int.reduceToNat, reduceCtorEq, byteR_flatI, bI_take, bI_drop, bI_len, byteR_len, h, ht, bI_rows, hbl, htb, Int.reduceToNat, Nat.reduceSub, List.drop_zero, hg4])) | simp only [go_sem, Nat.reduceAdd, Nat.reduceLeDiff, Nat.reduceSub, Int.reduceToNat, reduceCtorEq, byteR_flatI, bI_take, bI_drop, bI_len, byteR_len, h, ht, bI_rows, hbl, htb, Int.reduceToNat, Nat.reduceSub, List.drop_zero, hg4]) | refine AQ.done ?_ | (refine AQ.go (by kernel_rfl) ?_; simp only [go_sem, Nat.reduceAdd, Nat.reduceLeDiff, Nat.reduceSub, Int.reduceToNat, reduceCtorEq, byteR_flatI, bI_take, bI_drop, bI_len, byteR_len, h, ht, bI_rows, hbl, htb, Int.reduceToNat, Nat.reduceSub, List.drop_zero, hg4]; (refine AQ.nx rfl ?_; first | (refine And.intro ?_ ?_ <;> (try simp only [go_sem, Nat.reduceAdd, Nat.reduceLeDiff, Nat.reduceSub, Int.reduceToNat, reduceCtorEq, byteR_flatI, bI_take, bI_drop, bI_len, byteR_len, h, ht, bI_rows, hbl, htb, Int.reduceToNat, Nat.reduceSub, List.drop_zero, hg4])) | simp only [go_sem, Nat.reduceAdd, Nat.reduceLeDiff, Nat.reduceSub, Int.reduceToNat, reduceCtorEq, byteR_flatI, bI_take, bI_drop, bI_len, byteR_len, h, ht, bI_rows, hbl, htb, Int.reduceToNat, Nat.reduceSub, List.drop_zero, hg4])))
  · have hX := 0
    repeat (first | refine xA ?_ | refine xB ?_ | refine xC ?_ | refine xE ?_ | refine xD ?_ | refine xK ?_ | refine xS ?_ | refine xM ?_ | refine xT ?_ | refine xF ?_ | ((first | refine xR ?_ | refine xW ?_ | refine vq_id ?_); simp only [go_sem, Nat.reduceAdd, Nat.reduceLeDiff, Nat.reduceSub, Int.reduceToNat, reduceCtorEq, byteR_flatI, bI_take, bI_drop, bI_len, byteR_len, h, ht, bI_rows, hbl, htb, Int.reduceToNat, Nat.reduceSub, List.drop_zero, hg4, ha7, hw7]) | (refine ⟨by first | omega | (intros; simp_all; done) | (intros; simp_all; omega), ?_⟩; try simp only [go_sem, Nat.reduceAdd, Nat.reduceLeDiff, Nat.reduceSub, Int.reduceToNat, reduceCtorEq, byteR_flatI, bI_take, bI_drop, bI_len, byteR_len, h, ht, bI_rows, hbl, htb, Int.reduceToNat, Nat.reduceSub, List.drop_zero, hg4, ha7, hw7]))
    refine AP.drawE 14 (Tree.node [] [0, 1, 2, 3, 4, 6, 7] [5] [Tree.node [6, 7] [8, 9, 10, 11, 12, 13] [] []]) (by kernel_rfl) rfl (by kernel_rfl) (by kernel_rfl) ?_
    refine vd_node ?_
    simp only [go_sem, Nat.reduceAdd, Nat.reduceLeDiff, Nat.reduceSub, Int.reduceToNat, reduceCtorEq, byteR_flatI, bI_take, bI_drop, bI_len, byteR_len, h, ht, bI_rows, hbl, htb, Int.reduceToNat, Nat.reduceSub, List.drop_zero, hg4]
    refine And.intro (fun _ => by omega) ?_
    refine AQ.fn_g (by kernel_rfl) rfl rfl (fun h => by first | (simp [gs, AV.g]; done) | (simp [gs, AV.g, constAV]; done) | (simp [gs, AV.g, constAV, bw] at h ⊢; done) | (simp [bw] at h; done) | (simp [gs, AV.g, bw] at h ⊢; simp [h]; done) | (simp [gs, AV.g, bw] at h ⊢; exact h.1) | (simp [gs, AV.g]; rfl) | (simp [gs, AV.g, bw] at h ⊢; rfl) | (simp [gs, AV.g, bw] at h ⊢; simp [h]; rfl) | (simp [gs, AV.g, bw] at h ⊢; simp_all)) rfl (fun _ => hn3) rfl ?_
    simp only [go_sem, Nat.reduceAdd, Nat.reduceLeDiff, Nat.reduceSub, Int.reduceToNat, reduceCtorEq]
    refine AQ.nx rfl ?_
    refine And.intro ?_ ?_
    · simp only [go_sem, Nat.reduceAdd, Nat.reduceLeDiff, Nat.reduceSub, Int.reduceToNat, reduceCtorEq, byteR_flatI, bI_take, bI_drop, bI_len, byteR_len, h, ht, bI_rows, hbl, htb, Int.reduceToNat, Nat.reduceSub, List.drop_zero, hg4]
    · simp only [go_sem, Nat.reduceAdd, Nat.reduceLeDiff, Nat.reduceSub, Int.reduceToNat, reduceCtorEq, byteR_flatI, bI_take, bI_drop, bI_len, byteR_len, h, ht, bI_rows, hbl, htb, Int.reduceToNat, Nat.reduceSub, List.drop_zero, hg4]
      refine ⟨fun h => ⟨h, h⟩, ?_⟩
      refine AQ.done ?_
      have hw5 := wr (x := 5 + (n : Int)) (by omega)
      repeat (first | refine xA ?_ | refine xB ?_ | refine xC ?_ | refine xE ?_ | refine xD ?_ | refine xK ?_ | refine xS ?_ | refine xM ?_ | refine xT ?_ | refine xF ?_ | ((first | refine xR ?_ | refine xW ?_ | refine vq_id ?_); simp only [go_sem, Nat.reduceAdd, Nat.reduceLeDiff, Nat.reduceSub, Int.reduceToNat, reduceCtorEq]) | (refine ⟨by first | omega | (intros; simp_all; done) | (intros; simp_all; omega), ?_⟩; try simp only [go_sem, Nat.reduceAdd, Nat.reduceLeDiff, Nat.reduceSub, Int.reduceToNat, reduceCtorEq]))
      refine AP.cond rfl rfl (fun hc => ?_) (fun hc => ?_)
      · have hv : readG k1 k2 k3 c b = none := by
          simp only [Bool.or_eq_true, beq_iff_eq, bne_iff_ne, decide_eq_true_eq] at hc
          unfold readG
          rw [if_pos (by rw [hnc]; omega)]
        repeat (first | refine xA ?_ | refine xB ?_ | refine xC ?_ | refine xE ?_ | refine xD ?_ | refine xK ?_ | refine xS ?_ | refine xM ?_ | refine xT ?_ | refine xF ?_ | ((first | refine xR ?_ | refine xW ?_ | refine vq_id ?_); simp only [go_sem, Nat.reduceAdd, Nat.reduceLeDiff, Nat.reduceSub, Int.reduceToNat, reduceCtorEq]) | (refine ⟨by first | omega | (intros; simp_all; done) | (intros; simp_all; omega), ?_⟩; try simp only [go_sem, Nat.reduceAdd, Nat.reduceLeDiff, Nat.reduceSub, Int.reduceToNat, reduceCtorEq]))
        rw [hv]
        exact AE.ret0 rfl ⟨⟨rfl, Nat.le_of_ble_eq_true (by kernel_rfl)⟩, rfl, trivial⟩ rfl ⟨rfl, rfl⟩
      · simp only [Bool.or_eq_false_iff, beq_eq_false_iff_ne, bne_eq_false_iff_eq, decide_eq_false_iff_not] at hc
        have u95 : (Try.prog.underlying 95).isSome = true := by kernel_rfl
        have h5 : ((5 : Int) + (n : Int)).toNat = 5 + n := by omega
        have h55 : 5 + n - 5 = n := by omega
        have hT : (List.take n (List.drop 5 b)).length = n := by simp; omega
        repeat (first | refine xA ?_ | refine xB ?_ | refine xC ?_ | refine xE ?_ | refine xD ?_ | refine xK ?_ | refine xS ?_ | refine xM ?_ | refine xT ?_ | refine xF ?_ | ((first | refine xR ?_ | refine xW ?_ | refine vq_id ?_); simp only [go_sem, Nat.reduceAdd, Nat.reduceLeDiff, Nat.reduceSub, Int.reduceToNat, reduceCtorEq, hw5, u95, h5, h55, bI_drop, bI_take, bI_rows, byteR_back]) | (refine ⟨by first | omega | (intros; simp_all; done) | (intros; simp_all; omega), ?_⟩; try simp only [go_sem, Nat.reduceAdd, Nat.reduceLeDiff, Nat.reduceSub, Int.reduceToNat, reduceCtorEq, hw5, u95, h5, h55, bI_drop, bI_take, bI_rows, byteR_back]))
        refine And.intro (by rw [bI_len]; omega) (And.intro (byteR_bytes _) ?_)
        obtain ⟨T, hTe⟩ : ∃ T, List.take n (List.drop 5 b) = T := ⟨_, rfl⟩
        rw [hTe]
        repeat (first | refine xA ?_ | refine xB ?_ | refine xC ?_ | refine xE ?_ | refine xD ?_ | refine xK ?_ | refine xS ?_ | refine xM ?_ | refine xT ?_ | refine xF ?_ | ((first | refine xR ?_ | refine xW ?_ | refine vq_id ?_); simp only [go_sem, Nat.reduceAdd, Nat.reduceLeDiff, Nat.reduceSub, Int.reduceToNat, reduceCtorEq, hw5, h5, h55, bI_drop, bI_take, bI_rows, byteR_len, bI_len, hbl]) | (refine ⟨by first | omega | (intros; simp_all; done) | (intros; simp_all; omega), ?_⟩; try simp only [go_sem, Nat.reduceAdd, Nat.reduceLeDiff, Nat.reduceSub, Int.reduceToNat, reduceCtorEq, hw5, h5, h55, bI_drop, bI_take, bI_rows, byteR_len, bI_len, hbl]))
        have hZ : List.take (24 - (5 + n)) (List.drop (5 + n) b) = List.drop (5 + n) b := take_all' _ _ (by simp; omega)
        obtain ⟨Z, hZe⟩ : ∃ Z, List.drop (5 + n) b = Z := ⟨_, rfl⟩
        have hZl : Z.length ≤ 24 := by rw [← hZe]; simp; omega
        have hG : readG k1 k2 k3 c b = if Z.all (· == 0) then some ⟨k1, k2, decide ((128 : Int) ≤ (c : Int)), T⟩ else none := by
          unfold readG
          rw [if_neg (by rw [hnc]; omega), hnc, hZe, hTe]
        rw [hG, hZ, hZe]
        repeat (first | refine xA ?_ | refine xB ?_ | refine xC ?_ | refine xE ?_ | refine xD ?_ | refine xK ?_ | refine xS ?_ | refine xM ?_ | refine xT ?_ | refine xF ?_ | ((first | refine xR ?_ | refine xW ?_ | refine vq_id ?_); simp only [go_sem, Nat.reduceAdd, Nat.reduceLeDiff, Nat.reduceSub, Int.reduceToNat, reduceCtorEq]) | (refine ⟨by first | omega | (intros; simp_all; done) | (intros; simp_all; omega), ?_⟩; try simp only [go_sem, Nat.reduceAdd, Nat.reduceLeDiff, Nat.reduceSub, Int.reduceToNat, reduceCtorEq]))
        refine AP.loop rfl (α := Nat) (fun k => [(54, .im (.sl 1 (byteR Z))), (55, Iv Z.length), (56, Iv k), (2, .ob 0 0), (3, Bv false), (6, .ob 1 0)]) (fun _ => [(1, .var 86 [I2 k1, I2 k2, Bv (decide ((128 : Int) ≤ (c : Int))), Sv T]), (0, .var 86 [I2 0, I2 0, Bv false, Sv []])]) (fun k => k ≤ Z.length ∧ Z.all (· == 0) = (Z.drop k).all (· == 0)) (fun k => Z.length - k) 0 ⟨by omega, rfl⟩ (by repeat (first | exact Sub.nil _ | refine Sub.cons rfl ?_)) rfl fun k ⟨hk, ha⟩ => ?_
        repeat (first | refine xA ?_ | refine xB ?_ | refine xC ?_ | refine xE ?_ | refine xD ?_ | refine xK ?_ | refine xS ?_ | refine xM ?_ | refine xT ?_ | refine xF ?_ | ((first | refine xR ?_ | refine xW ?_ | refine vq_id ?_); simp only [go_sem, Nat.reduceAdd, Nat.reduceLeDiff, Nat.reduceSub, Int.reduceToNat, reduceCtorEq, byteR_len]) | (refine ⟨by first | omega | (intros; simp_all; done) | (intros; simp_all; omega), ?_⟩; try simp only [go_sem, Nat.reduceAdd, Nat.reduceLeDiff, Nat.reduceSub, Int.reduceToNat, reduceCtorEq, byteR_len]))
        refine AP.cond rfl rfl (fun hq => ?_) (fun hq => ?_)
        · have hk' : k < Z.length := by simp at hq; omega
          have hw := wr (x := (k : Int) + 1) (by omega)
          have hg := byteR_get Z k hk'
          have hdr : (Z.drop k).all (· == 0) = ((Z.getD k 0 == 0) && (Z.drop (k + 1)).all (· == 0)) := by
            rw [List.drop_eq_getElem_cons hk', List.all_cons, List.getD_eq_getElem?_getD, List.getElem?_eq_getElem hk', Option.getD_some]
          repeat (first | refine xA ?_ | refine xB ?_ | refine xC ?_ | refine xE ?_ | refine xD ?_ | refine xK ?_ | refine xS ?_ | refine xM ?_ | refine xT ?_ | refine xF ?_ | ((first | refine xR ?_ | refine xW ?_ | refine vq_id ?_); simp only [go_sem, Nat.reduceAdd, Nat.reduceLeDiff, Nat.reduceSub, Int.reduceToNat, reduceCtorEq, hg, byteR_len, hw]) | (refine ⟨by first | omega | (intros; simp_all; done) | (intros; simp_all; omega), ?_⟩; try simp only [go_sem, Nat.reduceAdd, Nat.reduceLeDiff, Nat.reduceSub, Int.reduceToNat, reduceCtorEq, hg, byteR_len, hw]))
          refine AP.cond rfl rfl (fun hb => ?_) (fun hb => ?_)
          · have : Z.all (· == 0) = false := by
              rw [ha, hdr]
              have : (Z.getD k 0 == 0) = false := by
                simp only [bne_iff_ne, ne_eq] at hb
                simp only [beq_eq_false_iff_ne, ne_eq]
                intro h0; apply hb; rw [h0]; rfl
              rw [this]; rfl
            rw [this]
            repeat (first | refine xA ?_ | refine xB ?_ | refine xC ?_ | refine xE ?_ | refine xD ?_ | refine xK ?_ | refine xS ?_ | refine xM ?_ | refine xT ?_ | refine xF ?_ | ((first | refine xR ?_ | refine xW ?_ | refine vq_id ?_); simp only [go_sem, Nat.reduceAdd, Nat.reduceLeDiff, Nat.reduceSub, Int.reduceToNat, reduceCtorEq]) | (refine ⟨by first | omega | (intros; simp_all; done) | (intros; simp_all; omega), ?_⟩; try simp only [go_sem, Nat.reduceAdd, Nat.reduceLeDiff, Nat.reduceSub, Int.reduceToNat, reduceCtorEq]))
            exact AE.ret0 rfl ⟨⟨rfl, Nat.le_of_ble_eq_true (by kernel_rfl)⟩, rfl, trivial⟩ rfl ⟨rfl, rfl⟩
          · have h0 : (Z.getD k 0 == 0) = true := by
              simp only [bne_eq_false_iff_eq] at hb
              have : (Z.getD k 0).toNat = 0 := by omega
              simp only [beq_iff_eq]
              exact UInt8.toNat_inj.1 this
            repeat (first | refine xA ?_ | refine xB ?_ | refine xC ?_ | refine xE ?_ | refine xD ?_ | refine xK ?_ | refine xS ?_ | refine xM ?_ | refine xT ?_ | refine xF ?_ | ((first | refine xR ?_ | refine xW ?_ | refine vq_id ?_); simp only [go_sem, Nat.reduceAdd, Nat.reduceLeDiff, Nat.reduceSub, Int.reduceToNat, reduceCtorEq, hw]) | (refine ⟨by first | omega | (intros; simp_all; done) | (intros; simp_all; omega), ?_⟩; try simp only [go_sem, Nat.reduceAdd, Nat.reduceLeDiff, Nat.reduceSub, Int.reduceToNat, reduceCtorEq, hw]))
            exact AE.round (k + 1) ⟨by omega, by rw [ha, hdr, h0, Bool.true_and]⟩ (by omega) (by repeat (first | exact Sub.nil _ | refine Sub.cons rfl ?_)) rfl
        · have hk' : k = Z.length := by simp at hq; omega
          rw [hk', List.drop_length] at ha
          rw [ha]
          repeat (first | refine xA ?_ | refine xB ?_ | refine xC ?_ | refine xE ?_ | refine xD ?_ | refine xK ?_ | refine xS ?_ | refine xM ?_ | refine xT ?_ | refine xF ?_ | ((first | refine xR ?_ | refine xW ?_ | refine vq_id ?_); simp only [go_sem, Nat.reduceAdd, Nat.reduceLeDiff, Nat.reduceSub, Int.reduceToNat, reduceCtorEq]) | (refine ⟨by first | omega | (intros; simp_all; done) | (intros; simp_all; omega), ?_⟩; try simp only [go_sem, Nat.reduceAdd, Nat.reduceLeDiff, Nat.reduceSub, Int.reduceToNat, reduceCtorEq]))
          exact AE.ret0 rfl ⟨⟨rfl, Nat.le_of_ble_eq_true (by kernel_rfl)⟩, rfl, trivial⟩ rfl ⟨rfl, rfl⟩
theorem read_ok (s : Bs) (h : s.length = 32) : PFn Try.prog 97 [Sv s] (readV (readP s)) := by
  have hbl := bodyOf_len h
  have hlt := lenB_lt (bodyOf s)
  have hr : readP s = readG (n4 (s.take 4)) (n4 ((bodyOf s).take 4)) (n4 ((s.drop 16).take 4)) (lenB (bodyOf s)) (bodyOf s) := by rw [readP, if_pos h]
  rw [hr]
  exact read_ok' s _ h hbl _ _ _ _ (body_spec s h) (number4 _ (by simp; omega)) (number4 _ (by simp; omega)) (number4 _ (by simp; omega)) (bI_get _ 4 (by omega) _) _ rfl (Nat.mod_lt _ (by omega)) (and127 _ hlt) (wr (by omega))
theorem read_spec (s : Bs) : PFn Try.prog 97 [Sv s] (readV (readP s)) := by
  by_cases h : s.length = 32
  · exact read_ok s h
  · rw [readP, if_neg h]; exact read_bad s h
end Go.Proofs.Ytoafanbfminhcaa
end

section
namespace Go.Proofs.Ytoafanbfminhcaa
open Go Go.AL Go.RowKit
set_option maxRecDepth 10000
set_option maxHeartbeats 2000000
def zB (n : Nat) : Bs := List.replicate n 0
def lastB (n : Nat) (last : Bool) : UInt8 := UInt8.ofNat (if last then n + 128 else n)
def bodyP (k : Nat) (last : Bool) (t : Bs) : Bs := le4 k ++ [lastB t.length last] ++ t ++ zB (19 - t.length)
def blockP (s k : Nat) (last : Bool) (t : Bs) : Bs := le4 s ++ (bodyP k last t).take 12 ++ le4 s ++ (bodyP k last t).drop 12
theorem le4_len (n : Nat) : (le4 n).length = 4 := rfl
theorem bodyP_len (k : Nat) (last : Bool) {t : Bs} (h : t.length ≤ 19) : (bodyP k last t).length = 24 := by simp [bodyP, le4_len, zB]; omega
theorem byteR_one (l : Bs) : ∀ r ∈ byteR l, r.length = 1 := fun r hr => by obtain ⟨x, _, rfl⟩ := List.mem_map.1 hr; rfl
theorem put_b (el : Nat) (l : Bs) (i n : Nat) (hn : n < 9223372036854775808) (hi : i + 4 ≤ l.length) :
    ACall Try.prog 83 [.os 0 1 i 4, I2 n] [(0, .vec el 1 (byteR l))] (fun r H' => H' = [(0, .vec el 1 (byteR (l.take i ++ le4 n ++ l.drop (i + 4))))] ∧ r = .tup []) := by
  have := put_ok el (byteR l) i n hn (by rw [byteR_len]; exact hi) (byteR_one l)
  rw [byteR_take, byteR_drop, byteR_app, byteR_app] at this
  exact this
theorem byteR_set (l : Bs) (i n : Nat) (hi : i < l.length) (hn : n < 256) : (byteR l).set i (IV.v (Value.int .u8 (n : Int)) :: List.drop 1 ((byteR l).getD i [])) = byteR (l.set i (UInt8.ofNat n)) := by
  have h1 : ((byteR l).getD i []).drop 1 = [] := by
    rw [List.getD_eq_getElem?_getD, List.getElem?_eq_getElem (by rw [byteR_len]; exact hi)]
    exact List.drop_eq_nil_of_le (by have := byteR_one l _ (List.getElem_mem (show i < (byteR l).length by rw [byteR_len]; exact hi)); simp only [Option.getD_some]; omega)
  rw [h1, byteR, byteR, List.map_set]
  congr 1
  have : (UInt8.ofNat n).toNat = n := by rw [UInt8.toNat_ofNat']; omega
  rw [this]
theorem or128 (n : Nat) (h : n ≤ 19) : bOr .u8 (n : Int) (128 : Int) = ((n + 128 : Nat) : Int) := by
  have h2 : n = 0 ∨ n = 1 ∨ n = 2 ∨ n = 3 ∨ n = 4 ∨ n = 5 ∨ n = 6 ∨ n = 7 ∨ n = 8 ∨ n = 9 ∨ n = 10 ∨ n = 11 ∨ n = 12 ∨ n = 13 ∨ n = 14 ∨ n = 15 ∨ n = 16 ∨ n = 17 ∨ n = 18 ∨ n = 19 := by omega
  rcases h2 with rfl | rfl | rfl | rfl | rfl | rfl | rfl | rfl | rfl | rfl | rfl | rfl | rfl | rfl | rfl | rfl | rfl | rfl | rfl | rfl <;> rfl
theorem bytes_spec (s k : Nat) (last : Bool) (t : Bs) (hs : s < 9223372036854775808) (hk : k < 9223372036854775808) (ht : t.length ≤ 19) :
    PFn Try.prog 50 [.agg [I2 s, I2 k, Bv last, Sv t]] (Sv (blockP s k last t)) := by
  have hz24 := show rowsF IntKind.u8 24 (fun _ => 0) = byteR (zB 24) from rfl
  have hz32 := show rowsF IntKind.u8 32 (fun _ => 0) = byteR (zB 32) from rfl
  have p1 := put_b 130 (zB 24) 0 k hk (by decide)
  refine ACall.walk [0, 1, 2, 3, 4, 15] [3, 4] Try.func50 rfl Try.ntmps50 (by kernel_rfl) (by rfl) rfl fun W own I0 φ0 => ?_
  repeat (first | refine xA ?_ | refine xB ?_ | refine xC ?_ | refine xE ?_ | refine xD ?_ | refine xK ?_ | refine xS ?_ | refine xM ?_ | refine xT ?_ | refine xF ?_ | ((first | refine xR ?_ | refine xW ?_ | refine vq_id ?_); simp only [go_sem, Nat.reduceAdd, Nat.reduceLeDiff, Nat.reduceSub, Int.reduceToNat, reduceCtorEq]) | (refine ⟨by first | omega | (intros; simp_all; done) | (intros; simp_all; omega), ?_⟩; try simp only [go_sem, Nat.reduceAdd, Nat.reduceLeDiff, Nat.reduceSub, Int.reduceToNat, reduceCtorEq]))
  rw [hz24]
  refine AP.drawE 4 (Tree.node [] [0, 1, 2] [3] [Tree.node [] [] [] []]) (by kernel_rfl) rfl (by kernel_rfl) (by kernel_rfl) ?_
  refine vd_node ?_
  simp only [go_sem, Nat.reduceAdd, Nat.reduceLeDiff, Nat.reduceSub, Int.reduceToNat, reduceCtorEq, byteR_len]
  refine ⟨by decide, ?_⟩
  refine AQ.callH [(0, 0)] (by kernel_rfl) rfl rfl rfl rfl rfl rfl (by exact ⟨rfl, trivial⟩) rfl p1 ?_
  rintro r' H' ⟨e1, e2⟩
  subst e1; subst e2
  refine ⟨rfl, ?_⟩
  simp only [go_sem, Nat.reduceAdd, Nat.reduceLeDiff, Nat.reduceSub, Int.reduceToNat, reduceCtorEq]
  refine AQ.nx rfl ?_
  simp only [go_sem, Nat.reduceAdd, Nat.reduceLeDiff, Nat.reduceSub, Int.reduceToNat, reduceCtorEq]
  have d1 : List.drop 4 (zB 24) = zB 20 := rfl
  rw [d1]
  have hlw : IntKind.u8.wrap (t.length : Int) = t.length := by
    simp only [IntKind.wrap, IntKind.bits, IntKind.signed, Bool.false_and, Bool.false_eq_true, if_false]; omega
  repeat (first | refine xA ?_ | refine xB ?_ | refine xC ?_ | refine xE ?_ | refine xD ?_ | refine xK ?_ | refine xS ?_ | refine xM ?_ | refine xT ?_ | refine xF ?_ | ((first | refine xR ?_ | refine xW ?_ | refine vq_id ?_); simp only [go_sem, Nat.reduceAdd, Nat.reduceLeDiff, Nat.reduceSub, Int.reduceToNat, reduceCtorEq, BA_size, hlw, byteR_len]) | (refine ⟨by first | omega | (intros; simp_all; done) | (intros; simp_all; omega), ?_⟩; try simp only [go_sem, Nat.reduceAdd, Nat.reduceLeDiff, Nat.reduceSub, Int.reduceToNat, reduceCtorEq, BA_size, hlw, byteR_len]))
  refine ⟨by simp [le4_len, zB], ?_⟩
  rw [byteR_set _ _ _ (by simp [le4_len, zB]) (by omega)]
  have d2 : (le4 k ++ zB 20).set 4 (UInt8.ofNat t.length) = le4 k ++ [UInt8.ofNat t.length] ++ zB 19 := rfl
  rw [d2]
  repeat (first | refine xA ?_ | refine xB ?_ | refine xC ?_ | refine xE ?_ | refine xD ?_ | refine xK ?_ | refine xS ?_ | refine xM ?_ | refine xT ?_ | refine xF ?_ | ((first | refine xR ?_ | refine xW ?_ | refine vq_id ?_); simp only [go_sem, Nat.reduceAdd, Nat.reduceLeDiff, Nat.reduceSub, Int.reduceToNat, reduceCtorEq]) | (refine ⟨by first | omega | (intros; simp_all; done) | (intros; simp_all; omega), ?_⟩; try simp only [go_sem, Nat.reduceAdd, Nat.reduceLeDiff, Nat.reduceSub, Int.reduceToNat, reduceCtorEq]))
  have hd5 : List.drop (5 + t.length) (le4 k ++ [lastB t.length last] ++ zB 19) = zB (19 - t.length) := by
    rw [← List.drop_drop, show List.drop 5 (le4 k ++ [lastB t.length last] ++ zB 19) = zB 19 from rfl, zB, List.drop_replicate]; rfl
  have ht5 : List.take 5 (le4 k ++ [lastB t.length last] ++ zB 19) = le4 k ++ [lastB t.length last] := rfl
  refine AP.cut (α := Unit) (fun _ => [(1, .im (.pt [.v (.int .i64 s), .v (.int .i64 k), .v (.bool last), Si t])), (3, .ob 0 0)]) (fun _ => [(0, .vec 130 1 (byteR (le4 k ++ [lastB t.length last] ++ zB 19)))]) (fun _ => True) ?_ fun _ _ => ?_
  · cases last
    · repeat (first | refine xA ?_ | refine xB ?_ | refine xC ?_ | refine xE ?_ | refine xD ?_ | refine xK ?_ | refine xS ?_ | refine xM ?_ | refine xT ?_ | refine xF ?_ | ((first | refine xR ?_ | refine xW ?_ | refine vq_id ?_); simp only [go_sem, Nat.reduceAdd, Nat.reduceLeDiff, Nat.reduceSub, Int.reduceToNat, reduceCtorEq]) | (refine ⟨by first | omega | (intros; simp_all; done) | (intros; simp_all; omega), ?_⟩; try simp only [go_sem, Nat.reduceAdd, Nat.reduceLeDiff, Nat.reduceSub, Int.reduceToNat, reduceCtorEq]))
      exact AE.meet () trivial (by repeat (first | exact Sub.nil _ | refine Sub.cons rfl ?_)) rfl
    · have ho := or128 t.length ht
      have hg4 : (byteR (le4 k ++ [UInt8.ofNat t.length] ++ zB 19)).getD 4 [] = [.v (.int .u8 ((UInt8.ofNat t.length).toNat : Int))] := rfl
      have htn : (UInt8.ofNat t.length).toNat = t.length := by rw [UInt8.toNat_ofNat']; omega
      rw [htn] at hg4
      have hlen5 : (le4 k ++ [UInt8.ofNat t.length] ++ zB 19).length = 24 := rfl
      repeat (first | refine xA ?_ | refine xB ?_ | refine xC ?_ | refine xE ?_ | refine xD ?_ | refine xK ?_ | refine xS ?_ | refine xM ?_ | refine xT ?_ | refine xF ?_ | ((first | refine xR ?_ | refine xW ?_ | refine vq_id ?_); simp only [go_sem, Nat.reduceAdd, Nat.reduceLeDiff, Nat.reduceSub, Int.reduceToNat, reduceCtorEq, hg4, byteR_len, hlen5, ho]) | (refine ⟨by first | omega | (intros; simp_all; done) | (intros; simp_all; omega), ?_⟩; try simp only [go_sem, Nat.reduceAdd, Nat.reduceLeDiff, Nat.reduceSub, Int.reduceToNat, reduceCtorEq, hg4, byteR_len, hlen5, ho]))
      have := byteR_set (le4 k ++ [UInt8.ofNat t.length] ++ zB 19) 4 (t.length + 128) (by rw [hlen5]; omega) (by omega)
      rw [hg4] at this
      exact AE.meet () trivial (by repeat (first | exact Sub.nil _ | refine Sub.cons rfl ?_)) (congrArg (fun x => [(0, Ob.vec 130 1 x)]) this)
  · have hlen5 : (le4 k ++ [lastB t.length last] ++ zB 19).length = 24 := rfl
    refine xEP rfl ?_
    refine AP.drawE 4 (Tree.node [] [0, 1, 2] [3] [Tree.node [] [] [] []]) (by kernel_rfl) rfl (by kernel_rfl) (by kernel_rfl) ?_
    refine vd_node ?_
    simp only [go_sem, Nat.reduceAdd, Nat.reduceLeDiff, Nat.reduceSub, Int.reduceToNat, reduceCtorEq, byteR_len, hlen5]
    repeat (with_reducible refine And.intro (by omega) ?_)
    refine AQ.copyS (by kernel_rfl) rfl rfl rfl Try.tk95 Try.sz5 ⟨⟨ht, by omega, by rw [byteR_len, hlen5]; omega⟩, ?_⟩
    simp only [go_sem, Nat.reduceAdd, Nat.reduceLeDiff, Nat.reduceSub, Int.reduceToNat, reduceCtorEq, byteR_take, byteR_drop, byteR_app, ht5, hd5]
    refine AQ.nx rfl ?_
    simp only [go_sem, Nat.reduceAdd, Nat.reduceLeDiff, Nat.reduceSub, Int.reduceToNat, reduceCtorEq]
    have hbo : le4 k ++ [lastB t.length last] ++ t ++ zB (19 - t.length) = bodyP k last t := rfl
    rw [hbo]
    obtain ⟨b, hb⟩ : ∃ b, bodyP k last t = b := ⟨_, rfl⟩
    have hbl := bodyP_len k last ht
    rw [hb] at hbl ⊢
    have e3 : blockP s k last t = le4 s ++ b.take 12 ++ le4 s ++ b.drop 12 := by rw [blockP, hb]
    rw [e3]
    refine AQ.done ?_
    repeat (first | refine xA ?_ | refine xB ?_ | refine xC ?_ | refine xE ?_ | refine xD ?_ | refine xK ?_ | refine xS ?_ | refine xM ?_ | refine xT ?_ | refine xF ?_ | ((first | refine xR ?_ | refine xW ?_ | refine vq_id ?_); simp only [go_sem, Nat.reduceAdd, Nat.reduceLeDiff, Nat.reduceSub, Int.reduceToNat, reduceCtorEq]) | (refine ⟨by first | omega | (intros; simp_all; done) | (intros; simp_all; omega), ?_⟩; try simp only [go_sem, Nat.reduceAdd, Nat.reduceLeDiff, Nat.reduceSub, Int.reduceToNat, reduceCtorEq]))
    rw [hz32]
    have p2 := put_b 133 (zB 32) 0 s hs (by decide)
    have p3 := put_b 133 (le4 s ++ zB 28) 16 s hs (by simp [le4_len, zB])
    have q2 : List.drop 4 (zB 32) = zB 28 := rfl
    have q3 : List.take 16 (le4 s ++ zB 28) ++ le4 s ++ List.drop (16 + 4) (le4 s ++ zB 28) = le4 s ++ zB 12 ++ le4 s ++ zB 12 := rfl
    rw [q3] at p3
    refine AP.drawE 4 (Tree.node [] [0, 1, 2] [3] [Tree.node [] [] [] []]) (by kernel_rfl) rfl (by kernel_rfl) (by kernel_rfl) ?_
    refine vd_node ?_
    simp only [go_sem, Nat.reduceAdd, Nat.reduceLeDiff, Nat.reduceSub, Int.reduceToNat, reduceCtorEq, byteR_len]
    refine ⟨by decide, ?_⟩
    refine AQ.callH [(0, 1)] (by kernel_rfl) rfl rfl rfl rfl rfl rfl (by exact ⟨rfl, trivial⟩) rfl p2 ?_
    rintro r' H' ⟨e1, e2⟩
    subst e1; subst e2
    refine ⟨rfl, ?_⟩
    simp only [go_sem, Nat.reduceAdd, Nat.reduceLeDiff, Nat.reduceSub, Int.reduceToNat, reduceCtorEq]
    refine AQ.nx rfl ?_
    simp only [go_sem, Nat.reduceAdd, Nat.reduceLeDiff, Nat.reduceSub, Int.reduceToNat, reduceCtorEq]
    rw [q2]
    refine AQ.done ?_
    refine xEP rfl ?_
    refine AP.drawE 4 (Tree.node [] [0, 1, 2] [3] [Tree.node [] [] [] []]) (by kernel_rfl) rfl (by kernel_rfl) (by kernel_rfl) ?_
    refine vd_node ?_
    simp only [go_sem, Nat.reduceAdd, Nat.reduceLeDiff, Nat.reduceSub, Int.reduceToNat, reduceCtorEq, byteR_len]
    refine ⟨by simp [le4_len, zB], ?_⟩
    refine AQ.callH [(0, 1)] (by kernel_rfl) rfl rfl rfl rfl rfl rfl (by exact ⟨rfl, trivial⟩) rfl p3 ?_
    rintro r' H' ⟨e1, e2⟩
    subst e1; subst e2
    refine ⟨rfl, ?_⟩
    simp only [go_sem, Nat.reduceAdd, Nat.reduceLeDiff, Nat.reduceSub, Int.reduceToNat, reduceCtorEq]
    refine AQ.nx rfl ?_
    simp only [go_sem, Nat.reduceAdd, Nat.reduceLeDiff, Nat.reduceSub, Int.reduceToNat, reduceCtorEq]
    refine AQ.done ?_
    refine xEP rfl ?_
    have l32 : (le4 s ++ zB 12 ++ le4 s ++ zB 12).length = 32 := rfl
    have q4 : List.take 4 (le4 s ++ zB 12 ++ le4 s ++ zB 12) = le4 s := rfl
    have q5 : List.drop 16 (le4 s ++ zB 12 ++ le4 s ++ zB 12) = le4 s ++ zB 12 := rfl
    refine AP.drawE 3 (Tree.node [] [0, 1] [2] [Tree.node [] [] [] []]) (by kernel_rfl) rfl (by kernel_rfl) (by kernel_rfl) ?_
    refine vd_node ?_
    simp only [go_sem, Nat.reduceAdd, Nat.reduceLeDiff, Nat.reduceSub, Int.reduceToNat, reduceCtorEq, byteR_len, l32, hbl]
    repeat (with_reducible refine And.intro (by omega) ?_)
    refine AQ.copyO (by kernel_rfl) rfl rfl rfl rfl Try.tk95 Try.sz5 ⟨⟨by omega, by omega, by rw [byteR_len, l32]; omega, by rw [byteR_len, hbl]; omega⟩, ?_⟩
    simp only [go_sem, Nat.reduceAdd, Nat.reduceLeDiff, Nat.reduceSub, Int.reduceToNat, reduceCtorEq, byteR_take, byteR_drop, byteR_app, Nat.min_self, q4, q5, List.drop_zero, List.take_take]
    refine AQ.nx rfl ?_
    simp only [go_sem, Nat.reduceAdd, Nat.reduceLeDiff, Nat.reduceSub, Int.reduceToNat, reduceCtorEq]
    have hA : (List.take 12 b).length = 12 := by rw [List.length_take]; omega
    have hT : le4 s ++ List.take 12 b ++ (le4 s ++ zB 12) = (le4 s ++ List.take 12 b ++ le4 s) ++ zB 12 := by simp only [List.append_assoc]
    have hTl : (le4 s ++ List.take 12 b ++ le4 s).length = 20 := by simp only [List.length_append, hA, le4_len]
    rw [hT]
    obtain ⟨T, hTe⟩ : ∃ T, le4 s ++ List.take 12 b ++ le4 s = T := ⟨_, rfl⟩
    rw [hTe] at hTl ⊢
    have l32b : (T ++ zB 12).length = 32 := by rw [List.length_append, hTl]; rfl
    have q6 : List.take 20 (T ++ zB 12) = T := List.take_left' hTl
    have q7 : List.drop 32 (T ++ zB 12) = [] := List.drop_eq_nil_of_le (by omega)
    have q8 : List.take 12 (List.drop 12 b) = List.drop 12 b := take_all' _ _ (by rw [List.length_drop]; omega)
    refine AQ.done ?_
    refine xEP rfl ?_
    refine AP.drawE 3 (Tree.node [] [0, 1] [2] [Tree.node [] [] [] []]) (by kernel_rfl) rfl (by kernel_rfl) (by kernel_rfl) ?_
    refine vd_node ?_
    simp only [go_sem, Nat.reduceAdd, Nat.reduceLeDiff, Nat.reduceSub, Int.reduceToNat, reduceCtorEq, byteR_len, l32b, hbl]
    repeat (with_reducible refine And.intro (by omega) ?_)
    refine AQ.copyO (by kernel_rfl) rfl rfl rfl rfl Try.tk95 Try.sz5 ⟨⟨by omega, by omega, by rw [byteR_len, l32b]; omega, by rw [byteR_len, hbl]; omega⟩, ?_⟩
    simp only [go_sem, Nat.reduceAdd, Nat.reduceLeDiff, Nat.reduceSub, Int.reduceToNat, reduceCtorEq, byteR_take, byteR_drop, byteR_app, Nat.min_self, q6, q7, q8, List.append_nil, List.take_take]
    refine AQ.nx rfl ?_
    simp only [go_sem, Nat.reduceAdd, Nat.reduceLeDiff, Nat.reduceSub, Int.reduceToNat, reduceCtorEq, q6, q7, q8, List.append_nil]
    refine AQ.done ?_
    refine xEP rfl ?_
    have hF : (T ++ List.drop 12 b).length = 32 := by rw [List.length_append, hTl, List.length_drop]; omega
    refine AP.freeze 1 (el := 133) (es := 1) (rows := byteR (T ++ List.drop 12 b)) rfl (by simp only [go_sem, Nat.reduceAdd, Nat.reduceLeDiff, Nat.reduceSub, Int.reduceToNat, reduceCtorEq]) (by simp only [go_sem, Nat.reduceAdd, Nat.reduceLeDiff, Nat.reduceSub, Int.reduceToNat, reduceCtorEq]) ?_
    simp only [go_sem, Nat.reduceAdd, Nat.reduceLeDiff, Nat.reduceSub, Int.reduceToNat, reduceCtorEq]
    have hI : (byteR (T ++ List.drop 12 b)).flatten = bI (T ++ List.drop 12 b) := byteR_flatI _
    rw [hI]
    obtain ⟨F, hFe⟩ : ∃ F, T ++ List.drop 12 b = F := ⟨_, rfl⟩
    rw [hFe] at hF ⊢
    have hFt : List.take 32 F = F := take_all' _ _ (by omega)
    have u95 : (Try.prog.underlying 95).isSome = true := by kernel_rfl
    repeat (first | refine xA ?_ | refine xB ?_ | refine xC ?_ | refine xE ?_ | refine xD ?_ | refine xK ?_ | refine xS ?_ | refine xM ?_ | refine xT ?_ | refine xF ?_ | ((first | refine xR ?_ | refine xW ?_ | refine vq_id ?_); simp only [go_sem, Nat.reduceAdd, Nat.reduceLeDiff, Nat.reduceSub, Int.reduceToNat, reduceCtorEq, bI_len, hF, bI_take, bI_drop, bI_rows, List.drop_zero, hFt, u95, byteR_back]) | (refine ⟨by first | omega | (intros; simp_all; done) | (intros; simp_all; omega), ?_⟩; try simp only [go_sem, Nat.reduceAdd, Nat.reduceLeDiff, Nat.reduceSub, Int.reduceToNat, reduceCtorEq, bI_len, hF, bI_take, bI_drop, bI_rows, List.drop_zero, hFt, u95, byteR_back]))
    refine ⟨byteR_bytes _, ?_⟩
    repeat (first | refine xA ?_ | refine xB ?_ | refine xC ?_ | refine xE ?_ | refine xD ?_ | refine xK ?_ | refine xS ?_ | refine xM ?_ | refine xT ?_ | refine xF ?_ | ((first | refine xR ?_ | refine xW ?_ | refine vq_id ?_); simp only [go_sem, Nat.reduceAdd, Nat.reduceLeDiff, Nat.reduceSub, Int.reduceToNat, reduceCtorEq]) | (refine ⟨by first | omega | (intros; simp_all; done) | (intros; simp_all; omega), ?_⟩; try simp only [go_sem, Nat.reduceAdd, Nat.reduceLeDiff, Nat.reduceSub, Int.reduceToNat, reduceCtorEq]))
    refine AE.ret0 rfl ⟨rfl, trivial⟩ rfl ⟨rfl, ?_⟩
    rw [← hFe, ← hTe]; rfl
end Go.Proofs.Ytoafanbfminhcaa
end

section
namespace Go.Proofs.Ytoafanbfminhcaa
open Go Go.AL Go.RowKit
set_option linter.unusedSimpArgs false
theorem freeze_other (w : World) (p : Addr) (n b : Nat) (h : b ≠ p.block) : (w.freeze p n).heap[b]? = w.heap[b]? := by
  unfold World.freeze
  split
  · rfl
  · simp only [Array.getElem?_modify]
    rw [if_neg (by intro e; exact h e.symm)]
set_option maxHeartbeats 4000000 in
set_option maxRecDepth 100000 in
theorem bstr_row (l : List UInt8) (h0 : l ≠ []) (b g cap : Nat) (p : Value) (rest : List Value) (w : World) (own : Nat → Prop) (hown : own g) (hbg : b ≠ g)
    (hbk : w.heap[b]? = some (.cells #[p, .slice (some ⟨g, 0, none⟩) l.length cap] 124 (0, 0))) (hg : w.heap[g]? = some (.cells (Lib.byteCells l ++ rest).toArray 5 (0, 0)))
    (hnc : l.length ≤ cap) (hcm : cap ≤ maxLen) :
    Calls Try.prog 82 #[.pointer (some ⟨b, 0, none⟩)] w fun e w' => e = .returned (.string ⟨l.toArray⟩) ∧ Ext own w w' ∧ w'.heap[b]? = w.heap[b]? := by
  have i5 : (Try.prog.info? 5).map (fun i => (i.zero, i.size, i.bytes)) = some (some (Value.int IntKind.u8 0), 1, 1) := by kernel_rfl
  obtain ⟨i0, hi, hz0, hz1, hz2⟩ := info_parts i5
  have hco : Try.prog.cellsOf 5 = 1 := by simp [Program.cellsOf, hi, hz1]
  have hl0 : l.length ≠ 0 := by simpa using h0
  have c1 : w.drew.cell? ⟨b, 1, none⟩ = some (.slice (some ⟨g, 0, none⟩) l.length cap) := by
    have : w.drew.heap[b]? = some (.cells #[p, .slice (some ⟨g, 0, none⟩) l.length cap] 124 (0, 0)) := hbk
    rw [Lib.cell_of_heap this]; rfl
  have hSD : (Builtin.unsafeSliceData_ #[95] 152 #[.slice (some ⟨g, 0, none⟩) l.length cap]).run Try.prog w.drew = .ok (.pointer (some ⟨g, 0, none⟩)) w.drew :=
    Lib.run_unsafeSliceData_row _ _ _ _ _ _ (by omega)
  have hUS : (Builtin.unsafeString_ #[152, 3] 9 #[.pointer (some ⟨g, 0, none⟩), .int .i64 l.length]).run Try.prog w.drew = .ok (.string ⟨l.toArray⟩) (w.drew.freeze ⟨g, 0, none⟩ l.length) := by
    have hg' : w.drew.heap[g]? = some (.cells (Lib.byteCells l ++ rest).toArray 5 (0, 0)) := hg
    refine Lib.run_unsafeString_row w.drew 152 3 9 5 Try.underlying152 hco g (Lib.byteCells l ++ rest).toArray.size (by simp [World.shape?, hg']) l h0 (by simp [Lib.byteCells_length]) (by unfold maxLen at hcm; omega) ?_
    intro j x hx
    have hlt : j < l.length := by
      rcases Nat.lt_or_ge j l.length with h | h
      · exact h
      · rw [List.getElem?_eq_none h] at hx; cases hx
    have e1 : (⟨g, 0, none⟩ : Addr).add j = ⟨g, j, none⟩ := by unfold Addr.add; by_cases hj : j = 0 <;> simp [hj]
    rw [e1, Lib.cell_of_heap hg', List.getElem?_toArray, List.getElem?_append_left (by rw [Lib.byteCells_length]; exact hlt)]
    simp [Lib.byteCells, hx]
  go_enter Try.func82, Try.ntmps82
  go_wp2
  go_region
  all_goals (go_wp2; go_ret; exact ⟨rfl, (ext_drew0 w).trans (ext_freeze w.drew ⟨g, 0, none⟩ l.length hown) (fun _ h => .inl h), freeze_other w.drew ⟨g, 0, none⟩ l.length b hbg⟩)
set_option maxHeartbeats 4000000 in
set_option maxRecDepth 100000 in
theorem bstr_nil (b : Nat) (p : Value) (w : World) (own : Nat → Prop) (hbk : w.heap[b]? = some (.cells #[p, .slice none 0 0] 124 (0, 0))) :
    Calls Try.prog 82 #[.pointer (some ⟨b, 0, none⟩)] w fun e w' => e = .returned (.string ⟨#[]⟩) ∧ Ext own w w' ∧ w'.heap[b]? = w.heap[b]? := by
  have hUS : ∀ (W : World) (q : Option Addr), (Builtin.unsafeString_ #[152, 3] 9 #[.pointer q, .int .i64 0]).run Try.prog W = .ok (.string .empty) W := fun W q => Lib.run_unsafeString_none W _ _ _ q
  have c1 : w.drew.cell? ⟨b, 1, none⟩ = some (.slice none 0 0) := by
    have : w.drew.heap[b]? = some (.cells #[p, .slice none 0 0] 124 (0, 0)) := hbk
    rw [Lib.cell_of_heap this]; rfl
  have hSD : (Builtin.unsafeSliceData_ #[95] 152 #[.slice none 0 0]).run Try.prog w.drew = .ok (.pointer none) w.drew := rfl
  go_enter Try.func82, Try.ntmps82
  go_wp2
  go_region
  all_goals (go_wp2; go_ret; exact ⟨rfl, ext_drew0 w, rfl⟩)
set_option maxHeartbeats 4000000 in
set_option maxRecDepth 100000 in
theorem bstr_noroom (b g : Nat) (p : Value) (cur : Array Value) (w : World) (own : Nat → Prop) (hbk : w.heap[b]? = some (.cells #[p, .slice (some ⟨g, 0, none⟩) 0 0] 124 (0, 0))) (hg : w.heap[g]? = some (.cells cur 5 (0, 0))) :
    Calls Try.prog 82 #[.pointer (some ⟨b, 0, none⟩)] w fun e w' => e = .returned (.string ⟨#[]⟩) ∧ Ext own w w' ∧ w'.heap[b]? = w.heap[b]? := by
  have hUS : ∀ (W : World) (q : Option Addr), (Builtin.unsafeString_ #[152, 3] 9 #[.pointer q, .int .i64 0]).run Try.prog W = .ok (.string .empty) W := fun W q => Lib.run_unsafeString_none W _ _ _ q
  have hlt : b < w.heap.size := by
    rcases Nat.lt_or_ge b w.heap.size with h' | h'
    · exact h'
    · simp [Array.getElem?_eq_none h'] at hbk
  have c1 : w.drew.cell? ⟨b, 1, none⟩ = some (.slice (some ⟨g, 0, none⟩) 0 0) := by
    have : w.drew.heap[b]? = some (.cells #[p, .slice (some ⟨g, 0, none⟩) 0 0] 124 (0, 0)) := hbk
    rw [Lib.cell_of_heap this]; rfl
  have hSD : (Builtin.unsafeSliceData_ #[95] 152 #[.slice (some ⟨g, 0, none⟩) 0 0]).run Try.prog w.drew = .ok (.pointer (some ⟨w.drew.heap.size, 0, none⟩)) (w.drew.alloc (.view ⟨g, 0, none⟩ 5)) :=
    Lib.run_unsafeSliceData_zero w.drew _ _ 5 Try.underlying152 ⟨g, 0, none⟩ 0 (5, cur.size) (by have hg' : w.drew.heap[g]? = some (.cells cur 5 (0, 0)) := hg; simp [World.shape?, hg'])
  have c2 : (w.drew.alloc (.view ⟨g, 0, none⟩ 5)).cell? ⟨b, 1, none⟩ = some (.slice (some ⟨g, 0, none⟩) 0 0) := by
    have : (w.drew.alloc (.view ⟨g, 0, none⟩ 5)).heap[b]? = _ := (Lib.alloc_old w.drew _ b hlt).trans hbk
    rw [Lib.cell_of_heap this]; rfl
  have c3 : (w.alloc (.view ⟨g, 0, none⟩ 5)).drew.cell? ⟨b, 1, none⟩ = some (.slice (some ⟨g, 0, none⟩) 0 0) := c2
  have c0 : w.cell? ⟨b, 1, none⟩ = some (.slice (some ⟨g, 0, none⟩) 0 0) := c1
  go_enter Try.func82, Try.ntmps82
  go_wp2
  go_region
  all_goals (go_wp2; go_ret; exact ⟨rfl, ext_drew (w := w) _, Lib.alloc_old w.drew _ b hlt⟩)
set_option maxHeartbeats 4000000 in
set_option maxRecDepth 100000 in
theorem bstr_room (b g cap : Nat) (p : Value) (w : World) (own : Nat → Prop) (hc0 : cap ≠ 0) (hbk : w.heap[b]? = some (.cells #[p, .slice (some ⟨g, 0, none⟩) 0 cap] 124 (0, 0))) :
    Calls Try.prog 82 #[.pointer (some ⟨b, 0, none⟩)] w fun e w' => e = .returned (.string ⟨#[]⟩) ∧ Ext own w w' ∧ w'.heap[b]? = w.heap[b]? := by
  have hUS : ∀ (W : World) (q : Option Addr), (Builtin.unsafeString_ #[152, 3] 9 #[.pointer q, .int .i64 0]).run Try.prog W = .ok (.string .empty) W := fun W q => Lib.run_unsafeString_none W _ _ _ q
  have c1 : w.drew.cell? ⟨b, 1, none⟩ = some (.slice (some ⟨g, 0, none⟩) 0 cap) := by
    have : w.drew.heap[b]? = some (.cells #[p, .slice (some ⟨g, 0, none⟩) 0 cap] 124 (0, 0)) := hbk
    rw [Lib.cell_of_heap this]; rfl
  have hSD : (Builtin.unsafeSliceData_ #[95] 152 #[.slice (some ⟨g, 0, none⟩) 0 cap]).run Try.prog w.drew = .ok (.pointer (some ⟨g, 0, none⟩)) w.drew :=
    Lib.run_unsafeSliceData_row _ _ _ _ _ _ hc0
  clear hc0
  go_enter Try.func82, Try.ntmps82
  go_wp2
  go_region
  all_goals (go_wp2; go_ret; exact ⟨rfl, ext_drew0 w, rfl⟩)
theorem byteR_denss_inv {w : World} {I : Nat → Prop} : ∀ (l : List UInt8) (vss : List (List Value)), IV.denss w I (byteR l) vss → vss.flatten = Lib.byteCells l
  | [], vss, h => by simp only [byteR, List.map_nil, IV.denss] at h; subst h; rfl
  | x :: l, vss, h => by
    simp only [byteR, List.map_cons, IV.denss, IV.dens, IV.den] at h
    obtain ⟨u, us', rfl, ⟨v, vs, rfl, ⟨rfl, _⟩, rfl⟩, h2⟩ := h
    have := byteR_denss_inv l us' h2
    simp [Lib.byteCells, this]
theorem ACall.dropK {P : Program} {f : FuncId} {args : List AV} {H : Heap} {r p q : AV} {e : TypeId} (he : enters P f = true) (hr : r.free = true) (hl : lk H 0 = some (.var (.cell e) [p, q])) (hp : p = .im (.v (.pointer none)) ∨ p = .ob 0 0)
    (h : ∀ (w : World) (φ : Phi) (I : Nat → Prop) (vs : List Value) (b : Nat), AV.dens w φ I args vs → Real w φ I H → φ 0 = some (some b) →
      Calls P f vs.toArray w fun e w' => ∃ v, e = .returned v ∧ AV.den w' φ I r v ∧ Ext (ownB φ) w w' ∧ w'.heap[b]? = w.heap[b]?) : ACall P f args H (fun r' H' => H' = [(0, .var (.cell e) [p, .top])] ∧ r' = r) := by
  refine ⟨he, fun w φ I vs hd hR => ?_⟩
  have hdom := hR.dom 0
  rw [hl] at hdom
  obtain ⟨b0, hb0⟩ := Option.isSome_iff_exists.1 (hdom.trans rfl)
  have h0 := hR.own 0 _ _ hl hb0
  simp only [Ob.at, AV.dens] at h0
  obtain ⟨b, us, rfl, hbk, ⟨u, us1, rfl, hu, v2, us2, rfl, hv2, rfl⟩, h1⟩ := h0
  refine (h w φ I vs b hd hR hb0).mono fun e' w' ⟨v, he', hv, hx, hsame⟩ => ?_
  have hoff := hR.off 0 b hb0
  refine ⟨r, [(0, .var (.cell e) [p, .top])], fun i => if i = 0 then some (some b) else none, I, v, ⟨rfl, rfl⟩, he', AV.free_den _ _ hr hv, ?_⟩
  refine ⟨⟨fun i => ?_, fun i o pp hlo hpp => ?_, fun i g hg => ?_, fun i i' g hg hg' => ?_, fun g hg => Nat.lt_of_lt_of_le (hR.imm g hg) hx.size⟩, hx, fun i g hg => ?_, fun g hg => .inl hg, fun g hg => hg, fun i pp o _ hpp hlo => ?_⟩
  · by_cases hi : i = 0
    · subst hi; rfl
    · have hb : Nat.beq 0 i = false := by cases i with
        | zero => exact absurd rfl hi
        | succ i => rfl
      simp only [if_neg hi, lk, hb, cond_false]
      rfl
  · by_cases hi : i = 0
    · subst hi
      simp only [lk, Nat.beq_refl, cond_true, Option.some.injEq] at hlo
      subst hlo
      simp only [if_true, Option.some.injEq] at hpp
      subst hpp
      simp only [Ob.at, AV.dens]
      refine ⟨b, [u, v2], rfl, hbk.keep hsame, ⟨u, [v2], rfl, ?_, v2, [], rfl, by simp only [AV.den], rfl⟩, h1⟩
      rcases hp with rfl | rfl
      · simpa only [AV.den, IV.den] using hu
      · simp only [AV.den] at hu ⊢
        obtain ⟨g, hg, hug⟩ := hu
        rw [hb0] at hg
        cases hg
        exact ⟨b, by simp, hug⟩
    · rw [if_neg hi] at hpp; cases hpp
  · by_cases hi : i = 0
    · subst hi
      simp only [if_true, Option.some.injEq] at hg
      subst hg
      exact ⟨hoff.1, Nat.lt_of_lt_of_le hoff.2 hx.size⟩
    · rw [if_neg hi] at hg; cases hg
  · by_cases hi : i = 0
    · by_cases hi' : i' = 0
      · omega
      · rw [if_neg hi'] at hg'; cases hg'
    · rw [if_neg hi] at hg; cases hg
  · by_cases hi : i = 0
    · subst hi
      simp only [if_true, Option.some.injEq] at hg
      subst hg
      exact .inl ⟨0, hb0⟩
    · rw [if_neg hi] at hg; cases hg
  · by_cases hi : i = 0
    · subst hi
      have : φ 0 = some pp := hpp
      rw [hb0] at this
      simpa using this
    · have hb : Nat.beq 0 i = false := by cases i with
        | zero => exact absurd rfl hi
        | succ i => rfl
      simp only [lk, hb, cond_false] at hlo
      cases hlo
theorem bstr_spec (l : List UInt8) (p : AV) (hp : p = .im (.v (.pointer none)) ∨ p = .ob 0 0) : ACall Try.prog 82 [.ob 0 0] [(0, .var 124 [p, .os 1 1 0 l.length]), (1, .vec 5 1 (byteR l))] (fun r H' => H' = [(0, .var 124 [p, .top])] ∧ r = Sv l) := by
  refine (ACall.dropK (r := Sv l) (by rfl) rfl rfl hp fun w φ I vs b hd hR hb => ?_).mono (fun r H' h => h)
  simp only [AV.dens, AV.den] at hd
  obtain ⟨u, us, rfl, ⟨b1, hb1, rfl⟩, rfl⟩ := hd
  rw [hb] at hb1
  cases hb1
  have h0 := hR.own 0 _ _ rfl hb
  simp only [Ob.at, AV.dens, AV.den] at h0
  obtain ⟨b', us, hbe, hbk, ⟨u, us1, rfl, _, v, us2, rfl, hv, rfl⟩, _⟩ := h0
  cases hbe
  have key : Calls Try.prog 82 #[.pointer (some ⟨b, 0, none⟩)] w fun e' w' => e' = .returned (.string ⟨l.toArray⟩) ∧ Ext (ownB φ) w w' ∧ w'.heap[b]? = w.heap[b]? := by
    rcases hv with ⟨_, _, hl, rfl⟩ | ⟨g, c, hg, rfl, h2, h3, h4⟩
    · have : l = [] := List.eq_nil_of_length_eq_zero hl
      subst this
      exact bstr_nil b u w _ hbk
    · have h1 := hR.own 1 _ _ rfl hg
      simp only [Ob.at] at h1
      rcases h1 with ⟨h1, _⟩ | ⟨g', vss, rest, hge, hgk, hr, _⟩
      · cases h1
      cases hge
      have hfl := byteR_denss_inv l vss hr
      rw [hfl] at hgk
      simp only [Nat.zero_mul] at hbk
      by_cases hl : l = []
      · subst hl
        by_cases hc : c = 0
        · subst hc
          exact bstr_noroom b g u _ w _ hbk hgk
        · exact bstr_room b g c u w _ hc hbk
      · exact bstr_row l hl b g c u rest w _ ⟨1, hg⟩ (fun e => by subst e; exact absurd (hR.inj 0 1 b hb hg) (by decide)) hbk hgk h2 h3
  refine key.mono fun e w' ⟨he, hx⟩ => ⟨_, he, ?_, hx⟩
  rw [den_s]
  rfl
theorem builder_sz : ∃ j, Try.prog.info? 124 = some j ∧ j.size ≠ 0 := by
  have h : (Try.prog.info? 124).map (·.size) = some 2 := by kernel_rfl
  obtain ⟨j, hj, hs⟩ := Option.map_eq_some_iff.1 h
  exact ⟨j, hj, by rw [hs]; decide⟩
theorem builder_lies : liesAt Try.prog Try.prog.depth 124 (2 / Try.prog.cellsOf 124) 0 124 1 = true := by kernel_rfl
theorem self_shape {w : World} {φ : Phi} {I : Nat → Prop} {H : Heap} {b g : Nat} {p q : AV} (hR : Real w φ I H) (hl : lk H b = some (.var 124 [p, q])) (hb : φ b = some (some g)) : w.shape? g = some (124, 2) := by
  have h0 := hR.own b _ _ hl hb
  simp only [Ob.at, AV.dens] at h0
  obtain ⟨b', us, hbe, hbk, ⟨u, us1, rfl, _, v, us2, rfl, hv, rfl⟩, _⟩ := h0
  cases hbe
  have hbk' : w.heap[g]? = some (.cells #[u, v] 124) := hbk
  simp [World.shape?, hbk']
theorem ob_ev {C : Cx} {φ : Phi} {I : Nat → Prop} {E : Env} {H : Heap} {a : Act} {w : World} (hs : Sim C φ I E H a w) {t : Nat} (ht : lk E t = some (.ob 0 0)) : ∃ g, φ 0 = some (some g) ∧ a.eval (.tmp t) = .pointer (some ⟨g, 0, none⟩) := by
  obtain ⟨u, hu, hd⟩ := hs.env _ _ ht
  simp only [AV.den] at hd
  obtain ⟨g, hg, rfl⟩ := hd
  exact ⟨g, hg, by simp only [Act.eval, Array.getD_eq_getD_getElem?, hu, Option.getD_some]⟩
set_option maxRecDepth 10000
set_option maxHeartbeats 1000000
theorem copyCheck_fresh (q : AV) (rows : List (List IV)) : ACall Try.prog 94 [.ob 0 0] [(0, .var 124 [.im (.v (.pointer none)), q]), (1, .vec 5 1 rows)] (fun r H' => H' = [(0, .var 124 [.ob 0 0, q]), (1, .vec 5 1 rows)] ∧ r = .tup []) := by
  obtain ⟨j, hj, hjs⟩ := builder_sz
  refine ACall.walk [0, 6, 19] [] Try.func94 rfl Try.ntmps94 (by kernel_rfl) (by rfl) rfl fun W own I0 φ0 => ?_
  repeat (first | refine xA ?_ | refine xB ?_ | refine xC ?_ | refine xE ?_ | refine xD ?_ | refine xK ?_ | refine xS ?_ | refine xM ?_ | refine xT ?_ | refine xF ?_ | ((first | refine xR ?_ | refine xW ?_ | refine vq_id ?_); simp only [go_sem, Nat.reduceAdd, Nat.reduceLeDiff, Nat.reduceSub, Int.reduceToNat, reduceCtorEq]) | (refine ⟨by first | omega | (intros; simp_all; done) | (intros; simp_all; omega), ?_⟩; try simp only [go_sem, Nat.reduceAdd, Nat.reduceLeDiff, Nat.reduceSub, Int.reduceToNat, reduceCtorEq]))
  refine AQ.val (.ob 0 0) (by kernel_rfl) rfl (fun φ I a w hs => ?_) ?_
  · obtain ⟨g, hg, hev⟩ := ob_ev (t := 8) hs rfl
    have hsh := self_shape hs.st.real rfl hg
    refine ⟨_, ?_, by simp only [AV.den]; exact ⟨g, hg, rfl⟩⟩
    simp only [execOp, hev, Sem.run_bind]
    rw [Lib.run_to_unsafe w ⟨g, 0, none⟩ Try.underlying122 Try.underlying157 hj hjs hsh (Nat.zero_lt_succ 1)]
    rfl
  repeat (first | refine xA ?_ | refine xB ?_ | refine xC ?_ | refine xE ?_ | refine xD ?_ | refine xK ?_ | refine xS ?_ | refine xM ?_ | refine xT ?_ | refine xF ?_ | ((first | refine xR ?_ | refine xW ?_ | refine vq_id ?_); simp only [go_sem, Nat.reduceAdd, Nat.reduceLeDiff, Nat.reduceSub, Int.reduceToNat, reduceCtorEq]) | (refine ⟨by first | omega | (intros; simp_all; done) | (intros; simp_all; omega), ?_⟩; try simp only [go_sem, Nat.reduceAdd, Nat.reduceLeDiff, Nat.reduceSub, Int.reduceToNat, reduceCtorEq]))
  refine AQ.val (.ob 0 0) (by kernel_rfl) rfl (fun φ I a w hs => ?_) ?_
  · obtain ⟨g, hg, hev⟩ := ob_ev (t := 9) hs rfl
    refine ⟨_, ?_, by simp only [AV.den]; exact ⟨g, hg, rfl⟩⟩
    simp only [execOp, Sem.run_bind, resolve, invoke, Sem.run_pure, Result.andThen_ok, List.map_toArray, List.map_cons, List.map_nil, hev]
    have hf : a.eval (Operand.func 99) = .func (.func 99) #[] #[] := rfl
    simp only [hf, Deferred.ofValue, Sem.run_pure, Result.andThen_ok, Array.append_empty, Array.empty_append]
    rw [run_callFunc_extern Try.func99 (by kernel_rfl) (by kernel_rfl) (by kernel_rfl) (e := Extern.AbiNoEscape.same) (by kernel_rfl)]
    rw [Lib.run_noEscape]
    rfl
  repeat (first | refine xA ?_ | refine xB ?_ | refine xC ?_ | refine xE ?_ | refine xD ?_ | refine xK ?_ | refine xS ?_ | refine xM ?_ | refine xT ?_ | refine xF ?_ | ((first | refine xR ?_ | refine xW ?_ | refine vq_id ?_); simp only [go_sem, Nat.reduceAdd, Nat.reduceLeDiff, Nat.reduceSub, Int.reduceToNat, reduceCtorEq]) | (refine ⟨by first | omega | (intros; simp_all; done) | (intros; simp_all; omega), ?_⟩; try simp only [go_sem, Nat.reduceAdd, Nat.reduceLeDiff, Nat.reduceSub, Int.reduceToNat, reduceCtorEq]))
  refine AQ.val (.ob 0 0) (by kernel_rfl) rfl (fun φ I a w hs => ?_) ?_
  · obtain ⟨g, hg, hev⟩ := ob_ev (t := 10) hs rfl
    have hsh := self_shape hs.st.real rfl hg
    refine ⟨_, ?_, by simp only [AV.den]; exact ⟨g, hg, rfl⟩⟩
    simp only [execOp, hev, Sem.run_bind]
    rw [Lib.run_from_unsafe w ⟨g, 0, none⟩ Try.underlying157 Try.underlying122 hj hsh builder_lies]
    rfl
  repeat (first | refine xA ?_ | refine xB ?_ | refine xC ?_ | refine xE ?_ | refine xD ?_ | refine xK ?_ | refine xS ?_ | refine xM ?_ | refine xT ?_ | refine xF ?_ | ((first | refine xR ?_ | refine xW ?_ | refine vq_id ?_); simp only [go_sem, Nat.reduceAdd, Nat.reduceLeDiff, Nat.reduceSub, Int.reduceToNat, reduceCtorEq]) | (refine ⟨by first | omega | (intros; simp_all; done) | (intros; simp_all; omega), ?_⟩; try simp only [go_sem, Nat.reduceAdd, Nat.reduceLeDiff, Nat.reduceSub, Int.reduceToNat, reduceCtorEq]))
  exact AE.fall rfl trivial ⟨rfl, rfl⟩
theorem copyCheck_used (q : AV) (rows : List (List IV)) : ACall Try.prog 94 [.ob 0 0] [(0, .var 124 [.ob 0 0, q]), (1, .vec 5 1 rows)] (fun r H' => H' = [(0, .var 124 [.ob 0 0, q]), (1, .vec 5 1 rows)] ∧ r = .tup []) := by
  obtain ⟨j, hj, hjs⟩ := builder_sz
  refine ACall.walk [0, 6, 19] [] Try.func94 rfl Try.ntmps94 (by kernel_rfl) (by rfl) rfl fun W own I0 φ0 => ?_
  repeat (first | refine xA ?_ | refine xB ?_ | refine xC ?_ | refine xE ?_ | refine xD ?_ | refine xK ?_ | refine xS ?_ | refine xM ?_ | refine xT ?_ | refine xF ?_ | ((first | refine xR ?_ | refine xW ?_ | refine vq_id ?_); simp only [go_sem, Nat.reduceAdd, Nat.reduceLeDiff, Nat.reduceSub, Int.reduceToNat, reduceCtorEq]) | (refine ⟨by first | omega | (intros; simp_all; done) | (intros; simp_all; omega), ?_⟩; try simp only [go_sem, Nat.reduceAdd, Nat.reduceLeDiff, Nat.reduceSub, Int.reduceToNat, reduceCtorEq]))
  exact AE.fall rfl trivial ⟨rfl, rfl⟩
theorem writeString_spec (p : AV) (hp : p = .im (.v (.pointer none)) ∨ p = .ob 0 0) (l m : List UInt8) (n : Nat) (hn : n = l.length) (hb : l.length + m.length ≤ 1000000000) :
    ACall Try.prog 80 [.ob 0 0, Sv m] [(0, .var 124 [p, .os 1 1 0 n]), (1, .vec 5 1 (byteR l))]
      (fun r H' => H' = [(0, .var 124 [.ob 0 0, .os 2 1 0 (n + m.length)]), (2, .vec 5 1 (byteR (l ++ m)))] ∧ r = .tup [Iv m.length, .im (.v .nilIface)]) := by
  subst hn
  have hcc : ACall Try.prog 94 [.ob 0 0] [(0, .var 124 [p, .os 1 1 0 l.length]), (1, .vec 5 1 (byteR l))] (fun r H' => H' = [(0, .var 124 [.ob 0 0, .os 1 1 0 l.length]), (1, .vec 5 1 (byteR l))] ∧ r = .tup []) := by
    rcases hp with rfl | rfl
    · exact copyCheck_fresh _ _
    · exact copyCheck_used _ _
  have hpa : passes (rho [(0, 0), (1, 1)] 2) [(0, .var 124 [p, .os 1 1 0 l.length]), (1, .vec 5 1 (byteR l))] [(0, .var 124 [p, .os 1 1 0 l.length]), (1, .vec 5 1 (byteR l))] := by
    rcases hp with rfl | rfl
    · exact ⟨rfl, rfl, trivial⟩
    · exact ⟨rfl, rfl, trivial⟩
  refine ACall.walk [0, 1, 4, 5] [] Try.func80 rfl Try.ntmps80 (by kernel_rfl) (by rfl) rfl fun W own I0 φ0 => ?_
  repeat (first | refine xA ?_ | refine xB ?_ | refine xC ?_ | refine xE ?_ | refine xD ?_ | refine xK ?_ | refine xS ?_ | refine xM ?_ | refine xT ?_ | refine xF ?_ | ((first | refine xR ?_ | refine xW ?_ | refine vq_id ?_); simp only [go_sem, Nat.reduceAdd, Nat.reduceLeDiff, Nat.reduceSub, Int.reduceToNat, reduceCtorEq]) | (refine ⟨by first | omega | (intros; simp_all; done) | (intros; simp_all; omega), ?_⟩; try simp only [go_sem, Nat.reduceAdd, Nat.reduceLeDiff, Nat.reduceSub, Int.reduceToNat, reduceCtorEq]))
  refine AQ.callH [(0, 0), (1, 1)] (by kernel_rfl) rfl rfl rfl rfl rfl rfl hpa rfl hcc ?_
  rintro r H1 ⟨rfl, rfl⟩
  refine ⟨rfl, ?_⟩
  repeat (first | refine xA ?_ | refine xB ?_ | refine xC ?_ | refine xE ?_ | refine xD ?_ | refine xK ?_ | refine xS ?_ | refine xM ?_ | refine xT ?_ | refine xF ?_ | ((first | refine xR ?_ | refine xW ?_ | refine vq_id ?_); simp only [go_sem, Nat.reduceAdd, Nat.reduceLeDiff, Nat.reduceSub, Int.reduceToNat, reduceCtorEq]) | (refine ⟨by first | omega | (intros; simp_all; done) | (intros; simp_all; omega), ?_⟩; try simp only [go_sem, Nat.reduceAdd, Nat.reduceLeDiff, Nat.reduceSub, Int.reduceToNat, reduceCtorEq]))
  refine AQ.rename 1 2 rfl rfl rfl ?_
  simp only [go_sem, Nat.reduceAdd, Nat.reduceLeDiff, Nat.reduceSub, Int.reduceToNat, reduceCtorEq]
  refine AQ.kill 2 ?_
  simp only [go_sem, Nat.reduceAdd, Nat.reduceLeDiff, Nat.reduceSub, Int.reduceToNat, reduceCtorEq]
  refine AQ.appendS (hnb := rfl) (l := m) (by kernel_rfl) rfl rfl rfl rfl (by kernel_rfl) (by kernel_rfl) (by kernel_rfl) (by kernel_rfl) (by kernel_rfl) (byteR_len l).symm (by rw [byteR_len]; omega) ?_
  repeat (first | refine xA ?_ | refine xB ?_ | refine xC ?_ | refine xE ?_ | refine xD ?_ | refine xK ?_ | refine xS ?_ | refine xM ?_ | refine xT ?_ | refine xF ?_ | ((first | refine xR ?_ | refine xW ?_ | refine vq_id ?_); simp only [go_sem, Nat.reduceAdd, Nat.reduceLeDiff, Nat.reduceSub, Int.reduceToNat, reduceCtorEq]) | (refine ⟨by first | omega | (intros; simp_all; done) | (intros; simp_all; omega), ?_⟩; try simp only [go_sem, Nat.reduceAdd, Nat.reduceLeDiff, Nat.reduceSub, Int.reduceToNat, reduceCtorEq]))
  exact AE.ret rfl ⟨rfl, rfl, trivial⟩ ⟨by rw [byteR_len, show byteR (l ++ m) = byteR l ++ byteR m by simp [byteR]], rfl⟩
theorem reset_spec (p q : AV) : ACall Try.prog 85 [.ob 0 0] [(0, .var 124 [p, q])] (fun r H' => H' = [(0, .var 124 [.im (.v (.pointer none)), .im (.v (.slice none 0 0))])] ∧ r = .tup []) := by
  refine ACall.walk [0] [] Try.func85 rfl Try.ntmps85 (by kernel_rfl) (by rfl) rfl fun W own I0 φ0 => ?_
  repeat (first | refine xA ?_ | refine xB ?_ | refine xC ?_ | refine xE ?_ | refine xD ?_ | refine xK ?_ | refine xS ?_ | refine xM ?_ | refine xT ?_ | refine xF ?_ | ((first | refine xR ?_ | refine xW ?_ | refine vq_id ?_); simp only [go_sem, Nat.reduceAdd, Nat.reduceLeDiff, Nat.reduceSub, Int.reduceToNat, reduceCtorEq]) | (refine ⟨by first | omega | (intros; simp_all; done) | (intros; simp_all; omega), ?_⟩; try simp only [go_sem, Nat.reduceAdd, Nat.reduceLeDiff, Nat.reduceSub, Int.reduceToNat, reduceCtorEq]))
  exact AE.fall rfl trivial ⟨rfl, rfl⟩
end Go.Proofs.Ytoafanbfminhcaa
end

section
namespace Go.Proofs.Ytoafanbfminhcaa
open Go Go.AL Go.RowKit
set_option maxRecDepth 10000
set_option maxHeartbeats 4000000
def chainL : Nat → List Bs → List Pc
  | _, [] => []
  | k, s :: r => match readP s with
    | some p => if p.k = k then p :: chainL p.s r else []
    | none => []
structure Sc where
  n : Nat
  part : Bs
  recs : List Bs
  used : Nat
  first : Nat
  last : Nat
  w : Bool
def Sc.step (a : Sc) (p : Pc) : Sc :=
  if p.last then ⟨a.n + 1, [], a.recs ++ [a.part ++ p.t], a.n + 1, if a.n = 0 then p.s else a.first, p.s, false⟩
  else ⟨a.n + 1, a.part ++ p.t, a.recs, a.used, if a.n = 0 then p.s else a.first, a.last, true⟩
def sc0 : Sc := ⟨0, [], [], 0, 0, 0, false⟩
def scanS (B : List Bs) : Sc := (chainL 0 B).foldl Sc.step sc0
def Sc.bp (a : Sc) : AV := if a.w then .ob 2 0 else .im (.v (.pointer none))
noncomputable def scanH (B : List Bs) (q : Nat) (a : Sc) : Heap :=
  [(6, .lp q 35 .ready Try.f51 [0, 1, 0, 1, 1, 1, 1] [9] [(0, .im (.sl 1 (blkR B))), (2, .ob 0 0), (3, .ob 1 0), (4, .ob 2 0), (5, .ob 3 0)]), (5, .vec 5 1 (byteR a.part)), (4, .vec 9 1 (blkR a.recs)), (3, .var 3 [Iv a.n]), (2, .var 124 [a.bp, .os 5 1 0 a.part.length]), (1, .var 89 [.os 4 1 0 a.recs.length, Iv a.used, I2 a.first, I2 a.last]), (0, .var 89 [.im (.v (.slice none 0 0)), Iv 0, I2 0, I2 0])]
theorem chain_spec (B : List Bs) : PFn Try.prog 84 [.im (.sl 1 (blkR B))] (.fn 96 [] [.im (.pt [.sl 1 (blkR B)])]) := by
  refine ACall.walk [0, 1, 2] [] Try.func84 rfl Try.ntmps84 (by kernel_rfl) (by rfl) rfl fun W own I0 φ0 => ?_
  repeat (first | refine xA ?_ | refine xB ?_ | refine xC ?_ | refine xE ?_ | refine xD ?_ | refine xK ?_ | refine xS ?_ | refine xM ?_ | refine xT ?_ | refine xF ?_ | ((first | refine xR ?_ | refine xW ?_ | refine vq_id ?_); simp only [go_sem, Nat.reduceAdd, Nat.reduceLeDiff, Nat.reduceSub, Int.reduceToNat, reduceCtorEq]) | (refine ⟨by first | omega | (intros; simp_all; done) | (intros; simp_all; omega), ?_⟩; try simp only [go_sem, Nat.reduceAdd, Nat.reduceLeDiff, Nat.reduceSub, Int.reduceToNat, reduceCtorEq]))
  exact AE.ret rfl ⟨rfl, trivial⟩ ⟨rfl, rfl⟩
theorem bstr_spec' (l : List UInt8) (n : Nat) (hn : n = l.length) : ACall Try.prog 82 [.ob 0 0] [(0, .var 124 [.ob 0 0, .os 1 1 0 n]), (1, .vec 5 1 (byteR l))] (fun r H' => H' = [(0, .var 124 [.ob 0 0, .top])] ∧ r = Sv l) := by
  subst hn; exact bstr_spec l (.ob 0 0) (.inr rfl)
theorem scan_round (B : List Bs) (q : Nat) (a : Sc) (p : Pc) (hn : a.n ≤ 1000000) (hp : a.part.length + p.t.length ≤ 1000000000) (hr : a.recs.length ≤ 1000000) :
    YCallN Try.prog 4 q [p.v] (scanH B q a) (fun r H' => r = Bv true ∧ H' = scanH B q (a.step p)) := by
  obtain ⟨bp, hbp⟩ : ∃ bp, a.bp = bp := ⟨_, rfl⟩
  obtain ⟨bp', hbp', hbq⟩ : ∃ bp' : AV, (bp' = .im (.v (.pointer none)) ∨ bp' = .ob 0 0) ∧ ((bp = .im (.v (.pointer none)) ∧ bp' = .im (.v (.pointer none))) ∨ (bp = .ob 2 0 ∧ bp' = .ob 0 0)) := by
    rw [← hbp]; unfold Sc.bp
    cases a.w
    · exact ⟨_, .inl rfl, .inl ⟨rfl, rfl⟩⟩
    · exact ⟨_, .inr rfl, .inr ⟨rfl, rfl⟩⟩
  obtain ⟨n, part, recs, used, first, last, w⟩ := a
  obtain ⟨s, k, lst, t⟩ := p
  simp only at hn hp hr
  obtain ⟨F, hF⟩ : ∃ F, (if n = 0 then s else first) = F := ⟨_, rfl⟩
  have hstep : Sc.step ⟨n, part, recs, used, first, last, w⟩ ⟨s, k, lst, t⟩ = if lst then ⟨n + 1, [], recs ++ [part ++ t], n + 1, F, s, false⟩ else ⟨n + 1, part ++ t, recs, used, F, last, true⟩ := by rw [← hF]; rfl
  have hw := wr (x := (n : Int) + 1) (by omega)
  rw [hstep]
  obtain ⟨Z, hZ⟩ : ∃ Z, scanH B q (if lst then ⟨n + 1, [], recs ++ [part ++ t], n + 1, F, s, false⟩ else ⟨n + 1, part ++ t, recs, used, F, last, true⟩) = Z := ⟨_, rfl⟩
  rw [hZ]
  refine YCallN.walk (b := 6) [0, 2, 3, 4, 5, 6, 8, 9, 11, 21] [] rfl rfl rfl fun w own I0 φ0 => ?_
  simp only [go_sem, Nat.reduceAdd, Nat.reduceLeDiff, Nat.reduceSub, Int.reduceToNat, reduceCtorEq, zipP, scanH, hbp]
  repeat (first | refine xA ?_ | refine xB ?_ | refine xC ?_ | refine xE ?_ | refine xD ?_ | refine xK ?_ | refine xS ?_ | refine xM ?_ | refine xT ?_ | refine xF ?_ | ((first | refine xR ?_ | refine xW ?_ | refine vq_id ?_); simp only [go_sem, Nat.reduceAdd, Nat.reduceLeDiff, Nat.reduceSub, Int.reduceToNat, reduceCtorEq]) | (refine ⟨by first | omega | (intros; simp_all; done) | (intros; simp_all; omega), ?_⟩; try simp only [go_sem, Nat.reduceAdd, Nat.reduceLeDiff, Nat.reduceSub, Int.reduceToNat, reduceCtorEq]))
  refine AE.begin (b := 6) rfl rfl _ ?_
  simp only [go_sem, Nat.reduceAdd, Nat.reduceLeDiff, Nat.reduceSub, Int.reduceToNat, reduceCtorEq]
  repeat (first | refine xA ?_ | refine xB ?_ | refine xC ?_ | refine xE ?_ | refine xD ?_ | refine xK ?_ | refine xS ?_ | refine xM ?_ | refine xT ?_ | refine xF ?_ | ((first | refine xR ?_ | refine xW ?_ | refine vq_id ?_); simp only [go_sem, Nat.reduceAdd, Nat.reduceLeDiff, Nat.reduceSub, Int.reduceToNat, reduceCtorEq]) | (refine ⟨by first | omega | (intros; simp_all; done) | (intros; simp_all; omega), ?_⟩; try simp only [go_sem, Nat.reduceAdd, Nat.reduceLeDiff, Nat.reduceSub, Int.reduceToNat, reduceCtorEq]))
  refine AP.cut (α := Unit) (fun _ => [(0, .im (.sl 1 (blkR B))), (2, .ob 0 0), (3, .ob 1 0), (4, .ob 2 0), (5, .ob 3 0), (6, .ob 7 0)]) (fun _ => [(7, .var 86 [I2 s, I2 k, Bv lst, Sv t]), (6, .lp q 35 .busy Try.f51 [0, 1, 0, 1, 1, 1, 1] [9] [(0, .im (.sl 1 (blkR B))), (2, .ob 0 0), (3, .ob 1 0), (4, .ob 2 0), (5, .ob 3 0)]), (5, .vec 5 1 (byteR part)), (4, .vec 9 1 (blkR recs)), (3, .var 3 [Iv n]), (2, .var 124 [bp, .os 5 1 0 part.length]), (1, .var 89 [.os 4 1 0 recs.length, Iv used, I2 F, I2 last]), (0, .var 89 [.im (.v (.slice none 0 0)), Iv 0, I2 0, I2 0])]) (fun _ => True) ?_ fun _ _ => ?_
  · refine AP.cond rfl rfl (fun h0 => ?_) (fun h0 => ?_)
    · have : F = s := by rw [← hF, if_pos (by simpa using h0)]
      rw [this]
      repeat (first | refine xA ?_ | refine xB ?_ | refine xC ?_ | refine xE ?_ | refine xD ?_ | refine xK ?_ | refine xS ?_ | refine xM ?_ | refine xT ?_ | refine xF ?_ | ((first | refine xR ?_ | refine xW ?_ | refine vq_id ?_); simp only [go_sem, Nat.reduceAdd, Nat.reduceLeDiff, Nat.reduceSub, Int.reduceToNat, reduceCtorEq]) | (refine ⟨by first | omega | (intros; simp_all; done) | (intros; simp_all; omega), ?_⟩; try simp only [go_sem, Nat.reduceAdd, Nat.reduceLeDiff, Nat.reduceSub, Int.reduceToNat, reduceCtorEq]))
      exact AE.meet () trivial (by repeat (first | exact Sub.nil _ | refine Sub.cons rfl ?_)) rfl
    · have : F = first := by rw [← hF, if_neg (by simpa using h0)]
      rw [this]
      repeat (first | refine xA ?_ | refine xB ?_ | refine xC ?_ | refine xE ?_ | refine xD ?_ | refine xK ?_ | refine xS ?_ | refine xM ?_ | refine xT ?_ | refine xF ?_ | ((first | refine xR ?_ | refine xW ?_ | refine vq_id ?_); simp only [go_sem, Nat.reduceAdd, Nat.reduceLeDiff, Nat.reduceSub, Int.reduceToNat, reduceCtorEq]) | (refine ⟨by first | omega | (intros; simp_all; done) | (intros; simp_all; omega), ?_⟩; try simp only [go_sem, Nat.reduceAdd, Nat.reduceLeDiff, Nat.reduceSub, Int.reduceToNat, reduceCtorEq]))
      exact AE.meet () trivial (by repeat (first | exact Sub.nil _ | refine Sub.cons rfl ?_)) rfl
  · repeat (first | refine xA ?_ | refine xB ?_ | refine xC ?_ | refine xE ?_ | refine xD ?_ | refine xK ?_ | refine xS ?_ | refine xM ?_ | refine xT ?_ | refine xF ?_ | ((first | refine xR ?_ | refine xW ?_ | refine vq_id ?_); simp only [go_sem, Nat.reduceAdd, Nat.reduceLeDiff, Nat.reduceSub, Int.reduceToNat, reduceCtorEq, hw]) | (refine ⟨by first | omega | (intros; simp_all; done) | (intros; simp_all; omega), ?_⟩; try simp only [go_sem, Nat.reduceAdd, Nat.reduceLeDiff, Nat.reduceSub, Int.reduceToNat, reduceCtorEq, hw]))
    refine AQ.callH [(0, 2), (1, 5)] (by kernel_rfl) rfl rfl rfl rfl rfl rfl (by rcases hbq with ⟨rfl, rfl⟩ | ⟨rfl, rfl⟩ <;> exact ⟨rfl, rfl, trivial⟩) rfl (writeString_spec bp' hbp' part t _ rfl (by omega)) ?_
    rintro r H1 ⟨rfl, rfl⟩
    refine ⟨by rcases hbq with ⟨rfl, rfl⟩ | ⟨rfl, rfl⟩ <;> rfl, ?_⟩
    repeat (first | refine xA ?_ | refine xB ?_ | refine xC ?_ | refine xE ?_ | refine xD ?_ | refine xK ?_ | refine xS ?_ | refine xM ?_ | refine xT ?_ | refine xF ?_ | ((first | refine xR ?_ | refine xW ?_ | refine vq_id ?_); simp only [go_sem, Nat.reduceAdd, Nat.reduceLeDiff, Nat.reduceSub, Int.reduceToNat, reduceCtorEq]) | (refine ⟨by first | omega | (intros; simp_all; done) | (intros; simp_all; omega), ?_⟩; try simp only [go_sem, Nat.reduceAdd, Nat.reduceLeDiff, Nat.reduceSub, Int.reduceToNat, reduceCtorEq]))
    refine AP.rename 10 5 rfl rfl rfl ?_
    simp only [go_sem, Nat.reduceAdd, Nat.reduceLeDiff, Nat.reduceSub, Int.reduceToNat, reduceCtorEq]
    refine AP.cond rfl rfl (fun hl => ?_) (fun hl => ?_)
    · subst hl
      repeat (first | refine xA ?_ | refine xB ?_ | refine xC ?_ | refine xE ?_ | refine xD ?_ | refine xK ?_ | refine xS ?_ | refine xM ?_ | refine xT ?_ | refine xF ?_ | ((first | refine xR ?_ | refine xW ?_ | refine vq_id ?_); simp only [go_sem, Nat.reduceAdd, Nat.reduceLeDiff, Nat.reduceSub, Int.reduceToNat, reduceCtorEq]) | (refine ⟨by first | omega | (intros; simp_all; done) | (intros; simp_all; omega), ?_⟩; try simp only [go_sem, Nat.reduceAdd, Nat.reduceLeDiff, Nat.reduceSub, Int.reduceToNat, reduceCtorEq]))
      refine AP.drawE 7 (Tree.node [] [0, 1] [2] [Tree.node [0, 1] [] [3] [Tree.node [0, 1] [] [4] [Tree.node [] [5] [6] [Tree.node [] [] [] []]]]]) (by kernel_rfl) rfl (by kernel_rfl) (by kernel_rfl) ?_
      refine vd_node ?_
      simp only [go_sem, Nat.reduceAdd, Nat.reduceLeDiff, Nat.reduceSub, Int.reduceToNat, reduceCtorEq]
      refine AQ.callH [(0, 2), (1, 5)] (by kernel_rfl) rfl rfl rfl rfl rfl rfl (by exact ⟨rfl, rfl, trivial⟩) rfl (bstr_spec' (part ++ t) _ (by simp)) ?_
      rintro r H1 ⟨rfl, rfl⟩
      refine ⟨rfl, ?_⟩
      simp only [go_sem, Nat.reduceAdd, Nat.reduceLeDiff, Nat.reduceSub, Int.reduceToNat, reduceCtorEq]
      refine AQ.nx rfl ?_
      simp only [go_sem, Nat.reduceAdd, Nat.reduceLeDiff, Nat.reduceSub, Int.reduceToNat, reduceCtorEq]
      refine AQ.go (by kernel_rfl) ?_
      simp only [go_sem, Nat.reduceAdd, Nat.reduceLeDiff, Nat.reduceSub, Int.reduceToNat, reduceCtorEq]
      refine AQ.nx rfl ?_
      simp only [go_sem, Nat.reduceAdd, Nat.reduceLeDiff, Nat.reduceSub, Int.reduceToNat, reduceCtorEq]
      refine AQ.kill 4 ?_
      simp only [go_sem, Nat.reduceAdd, Nat.reduceLeDiff, Nat.reduceSub, Int.reduceToNat, reduceCtorEq]
      refine AQ.append (hnb := rfl) (rows := blkR recs) (es := 0) (by kernel_rfl) rfl rfl rfl (by rfl) Try.tk25 Try.sz9 (by show Option.map _ (zro Try.prog 9) = _; rw [Try.zr9]; rfl) Try.by9 (by first | rfl | (simp only [blkR_len, List.length_cons, List.length_nil]; done) | (simp only [blkR_len, List.length_cons, List.length_nil]; omega)) (by simp only [blkR_len, List.length_cons, List.length_nil]; omega) (by simp only [blkR_len, List.length_cons, List.length_nil]; omega) ?_
      simp only [go_sem, Nat.reduceAdd, Nat.reduceLeDiff, Nat.reduceSub, Int.reduceToNat, reduceCtorEq]
      refine AQ.nx rfl ?_
      simp only [go_sem, Nat.reduceAdd, Nat.reduceLeDiff, Nat.reduceSub, Int.reduceToNat, reduceCtorEq]
      refine AQ.go (by kernel_rfl) ?_
      simp only [go_sem, Nat.reduceAdd, Nat.reduceLeDiff, Nat.reduceSub, Int.reduceToNat, reduceCtorEq]
      refine AQ.nx rfl ?_
      simp only [go_sem, Nat.reduceAdd, Nat.reduceLeDiff, Nat.reduceSub, Int.reduceToNat, reduceCtorEq]
      refine AQ.done ?_
      repeat (first | refine xA ?_ | refine xB ?_ | refine xC ?_ | refine xE ?_ | refine xD ?_ | refine xK ?_ | refine xS ?_ | refine xM ?_ | refine xT ?_ | refine xF ?_ | ((first | refine xR ?_ | refine xW ?_ | refine vq_id ?_); simp only [go_sem, Nat.reduceAdd, Nat.reduceLeDiff, Nat.reduceSub, Int.reduceToNat, reduceCtorEq]) | (refine ⟨by first | omega | (intros; simp_all; done) | (intros; simp_all; omega), ?_⟩; try simp only [go_sem, Nat.reduceAdd, Nat.reduceLeDiff, Nat.reduceSub, Int.reduceToNat, reduceCtorEq]))
      refine AP.drawE 7 (Tree.node [] [0, 1, 2, 3] [4] [Tree.node [1, 2] [5] [6] [Tree.node [] [] [] []]]) (by kernel_rfl) rfl (by kernel_rfl) (by kernel_rfl) ?_
      refine vd_node ?_
      simp only [go_sem, Nat.reduceAdd, Nat.reduceLeDiff, Nat.reduceSub, Int.reduceToNat, reduceCtorEq]
      repeat' (first | with_reducible exact True.intro | with_reducible refine And.intro (by omega) ?_ | with_reducible refine And.intro ?_ ?_ | omega | refine AP.region rfl (by kernel_rfl) ?_ | (refine AQ.nx rfl ?_; first | (refine And.intro ?_ ?_ <;> (try simp only [go_sem, Nat.reduceAdd, Nat.reduceLeDiff, Nat.reduceSub, Int.reduceToNat, reduceCtorEq])) | simp only [go_sem, Nat.reduceAdd, Nat.reduceLeDiff, Nat.reduceSub, Int.reduceToNat, reduceCtorEq]) | refine AQ.done ?_ | (refine AQ.go (by kernel_rfl) ?_; simp only [go_sem, Nat.reduceAdd, Nat.reduceLeDiff, Nat.reduceSub, Int.reduceToNat, reduceCtorEq]; (refine AQ.nx rfl ?_; first | (refine And.intro ?_ ?_ <;> (try simp only [go_sem, Nat.reduceAdd, Nat.reduceLeDiff, Nat.reduceSub, Int.reduceToNat, reduceCtorEq])) | simp only [go_sem, Nat.reduceAdd, Nat.reduceLeDiff, Nat.reduceSub, Int.reduceToNat, reduceCtorEq])))
      repeat (first | refine xA ?_ | refine xB ?_ | refine xC ?_ | refine xE ?_ | refine xD ?_ | refine xK ?_ | refine xS ?_ | refine xM ?_ | refine xT ?_ | refine xF ?_ | ((first | refine xR ?_ | refine xW ?_ | refine vq_id ?_); simp only [go_sem, Nat.reduceAdd, Nat.reduceLeDiff, Nat.reduceSub, Int.reduceToNat, reduceCtorEq]) | (refine ⟨by first | omega | (intros; simp_all; done) | (intros; simp_all; omega), ?_⟩; try simp only [go_sem, Nat.reduceAdd, Nat.reduceLeDiff, Nat.reduceSub, Int.reduceToNat, reduceCtorEq]))
      refine AQ.callH [(0, 2)] (by kernel_rfl) rfl rfl rfl rfl rfl rfl (by exact ⟨rfl, trivial⟩) rfl (reset_spec (.ob 0 0) .top) ?_
      rintro r H1 ⟨rfl, rfl⟩
      refine ⟨rfl, ?_⟩
      repeat (first | refine xA ?_ | refine xB ?_ | refine xC ?_ | refine xE ?_ | refine xD ?_ | refine xK ?_ | refine xS ?_ | refine xM ?_ | refine xT ?_ | refine xF ?_ | ((first | refine xR ?_ | refine xW ?_ | refine vq_id ?_); simp only [go_sem, Nat.reduceAdd, Nat.reduceLeDiff, Nat.reduceSub, Int.reduceToNat, reduceCtorEq]) | (refine ⟨by first | omega | (intros; simp_all; done) | (intros; simp_all; omega), ?_⟩; try simp only [go_sem, Nat.reduceAdd, Nat.reduceLeDiff, Nat.reduceSub, Int.reduceToNat, reduceCtorEq]))
      refine AE.ownCell 2 1 5 1 rfl rfl ?_
      simp only [go_sem, Nat.reduceAdd, Nat.reduceLeDiff, Nat.reduceSub, Int.reduceToNat, reduceCtorEq]
      refine AE.forgets [7] rfl ?_
      simp only [go_sem, Nat.reduceAdd, Nat.reduceLeDiff, Nat.reduceSub, Int.reduceToNat, reduceCtorEq]
      refine AE.rename 8 5 rfl rfl rfl ?_
      simp only [go_sem, Nat.reduceAdd, Nat.reduceLeDiff, Nat.reduceSub, Int.reduceToNat, reduceCtorEq]
      refine AE.order [6, 5, 4, 3, 2, 1, 0] rfl ?_
      simp only [go_sem, Nat.reduceAdd, Nat.reduceLeDiff, Nat.reduceSub, Int.reduceToNat, reduceCtorEq]
      refine AE.roundEnd (b := 6) rfl ⟨rfl, ?_⟩
      rw [← hZ, if_pos rfl]
      simp only [hset, scanH, List.length_append, blkR_len]
      have : blkR (recs ++ [part ++ t]) = blkR recs ++ [[Si (part ++ t)]] := by simp [blkR]
      rw [this]
      rfl
    · subst hl
      repeat (first | refine xA ?_ | refine xB ?_ | refine xC ?_ | refine xE ?_ | refine xD ?_ | refine xK ?_ | refine xS ?_ | refine xM ?_ | refine xT ?_ | refine xF ?_ | ((first | refine xR ?_ | refine xW ?_ | refine vq_id ?_); simp only [go_sem, Nat.reduceAdd, Nat.reduceLeDiff, Nat.reduceSub, Int.reduceToNat, reduceCtorEq]) | (refine ⟨by first | omega | (intros; simp_all; done) | (intros; simp_all; omega), ?_⟩; try simp only [go_sem, Nat.reduceAdd, Nat.reduceLeDiff, Nat.reduceSub, Int.reduceToNat, reduceCtorEq]))
      refine AE.forgets [7] rfl ?_
      simp only [go_sem, Nat.reduceAdd, Nat.reduceLeDiff, Nat.reduceSub, Int.reduceToNat, reduceCtorEq]
      refine AE.order [6, 5, 4, 3, 2, 1, 0] rfl ?_
      simp only [go_sem, Nat.reduceAdd, Nat.reduceLeDiff, Nat.reduceSub, Int.reduceToNat, reduceCtorEq]
      refine AE.roundEnd (b := 6) rfl ⟨rfl, ?_⟩
      rw [← hZ, if_neg (by decide)]
      simp only [hset, scanH, List.length_append]
      rfl
end Go.Proofs.Ytoafanbfminhcaa
end

section
namespace Go.Proofs.Ytoafanbfminhcaa
open Go Go.AL Go.RowKit
set_option maxRecDepth 10000
set_option maxHeartbeats 4000000
theorem readP_len {s : Bs} {p : Pc} (h : readP s = some p) : p.t.length ≤ 19 := by
  unfold readP at h
  split at h
  · unfold readG at h
    split at h
    · cases h
    · rename_i hc
      split at h
      · cases h
        simp only [List.length_take]
        omega
      · cases h
  · cases h
theorem step_bound (a : Sc) (p : Pc) (k : Nat) (hp : p.t.length ≤ 19) (h1 : a.n ≤ k) (h2 : a.part.length ≤ 19 * k) (h3 : a.recs.length ≤ k) : (a.step p).n ≤ k + 1 ∧ (a.step p).part.length ≤ 19 * (k + 1) ∧ (a.step p).recs.length ≤ k + 1 := by
  unfold Sc.step
  split
  · refine ⟨by simp only; omega, by simp, by simp; omega⟩
  · refine ⟨by simp only; omega, by simp; omega, by simp only; omega⟩
theorem readV_none : readV none = .tup [.agg [I2 0, I2 0, Bv false, Sv []], Bv false] := rfl
theorem readV_some (p : Pc) : readV (some p) = .tup [.agg [I2 p.s, I2 p.k, Bv p.last, Sv p.t], Bv true] := rfl
theorem nid_scanH (B : List Bs) (q : Nat) (a : Sc) : nid (scanH B q a) = 7 := rfl
theorem frv_scanH (l : List IV) (B : List Bs) (q : Nat) (a : Sc) : frvH 7 l (scanH B q a) = scanH B q a := by
  unfold scanH Sc.bp
  cases a.w <;> rfl
theorem chain_walk (B : List Bs) (hB : B.length ≤ 1000000) (q : Nat) : ACallN Try.prog 4 96 [Yl q, .im (.pt [.sl 1 (blkR B)])] (scanH B q sc0) (fun _ H' => H' = scanH B q (scanS B)) := by
  obtain ⟨Z, hZ⟩ : ∃ Z, scanS B = Z := ⟨_, rfl⟩
  rw [hZ]
  refine ACallN.walk [0, 1, 3, 5, 6, 7, 8, 9, 10, 11, 32] [6] Try.func96 rfl Try.ntmps96 (by kernel_rfl) (by rfl) fun W own I0 φ0 => ?_
  repeat (first | refine xA ?_ | refine xB ?_ | refine xC ?_ | refine xE ?_ | refine xD ?_ | refine xK ?_ | refine xS ?_ | refine xM ?_ | refine xT ?_ | refine xF ?_ | ((first | refine xR ?_ | refine xW ?_ | refine vq_id ?_); simp only [go_sem, Nat.reduceAdd, Nat.reduceLeDiff, Nat.reduceSub, Int.reduceToNat, reduceCtorEq]) | (refine ⟨by first | omega | (intros; simp_all; done) | (intros; simp_all; omega), ?_⟩; try simp only [go_sem, Nat.reduceAdd, Nat.reduceLeDiff, Nat.reduceSub, Int.reduceToNat, reduceCtorEq]))
  refine AP.loop rfl (α := Nat × Sc × Nat) (fun x => [(0, Yl q), (1, .im (.pt [.sl 1 (blkR B)])), (3, I2 x.2.2), (8, .im (.sl 1 (blkR B))), (9, Iv B.length), (10, Iv x.1)]) (fun x => scanH B q x.2.1) (fun x => x.1 ≤ B.length ∧ (chainL x.2.2 (B.drop x.1)).foldl Sc.step x.2.1 = Z ∧ x.2.1.n ≤ x.1 ∧ x.2.1.part.length ≤ 19 * x.1 ∧ x.2.1.recs.length ≤ x.1) (fun x => B.length - x.1) (0, sc0, 0) ⟨by simp only; omega, hZ, Nat.le_refl _, Nat.le_refl _, Nat.le_refl _⟩ (by simp only [go_sem, Nat.reduceAdd, Nat.reduceLeDiff, Nat.reduceSub, Int.reduceToNat, reduceCtorEq, blkR_len]; exact (by repeat (first | exact Sub.nil _ | refine Sub.cons rfl ?_))) rfl fun ⟨k, a, link⟩ ⟨hk, hi, b1, b2, b3⟩ => ?_
  · simp only at hk hi b1 b2 b3
    repeat (first | refine xA ?_ | refine xB ?_ | refine xC ?_ | refine xE ?_ | refine xD ?_ | refine xK ?_ | refine xS ?_ | refine xM ?_ | refine xT ?_ | refine xF ?_ | ((first | refine xR ?_ | refine xW ?_ | refine vq_id ?_); simp only [go_sem, Nat.reduceAdd, Nat.reduceLeDiff, Nat.reduceSub, Int.reduceToNat, reduceCtorEq, blkR_len]) | (refine ⟨by first | omega | (intros; simp_all; done) | (intros; simp_all; omega), ?_⟩; try simp only [go_sem, Nat.reduceAdd, Nat.reduceLeDiff, Nat.reduceSub, Int.reduceToNat, reduceCtorEq, blkR_len]))
    refine AP.cond rfl rfl (fun hc => ?_) (fun hc => ?_)
    · have hk' : k < B.length := by simp at hc; omega
      have hg := blkR_get B k hk'
      obtain ⟨s, hs⟩ : ∃ s, B.getD k [] = s := ⟨_, rfl⟩
      rw [hs] at hg
      have hr := read_spec s
      have hw := wr (x := (k : Int) + 1) (by omega)
      have hd : chainL link (B.drop k) = match readP s with | some p => if p.k = link then p :: chainL p.s (B.drop (k + 1)) else [] | none => [] := by
        rw [List.drop_eq_getElem_cons hk', chainL]
        have : B[k] = s := by rw [← hs, List.getD_eq_getElem?_getD, List.getElem?_eq_getElem hk']; rfl
        rw [this]
        all_goals (cases readP s <;> rfl)
      rw [hd] at hi
      cases hp : readP s with
      | none =>
        rw [hp] at hi hr
        simp only [List.foldl_nil] at hi
        repeat (first | refine xA ?_ | refine xB ?_ | refine xC ?_ | refine xE ?_ | refine xD ?_ | refine xK ?_ | refine xS ?_ | refine xM ?_ | refine xT ?_ | refine xF ?_ | ((first | refine xR ?_ | refine xW ?_ | refine vq_id ?_); simp only [go_sem, Nat.reduceAdd, Nat.reduceLeDiff, Nat.reduceSub, Int.reduceToNat, reduceCtorEq, hg, blkR_len]) | (refine ⟨by first | omega | (intros; simp_all; done) | (intros; simp_all; omega), ?_⟩; try simp only [go_sem, Nat.reduceAdd, Nat.reduceLeDiff, Nat.reduceSub, Int.reduceToNat, reduceCtorEq, hg, blkR_len]))
        refine AQ.fn (by kernel_rfl) rfl rfl rfl (hr) rfl ?_
        repeat (first | refine xA ?_ | refine xB ?_ | refine xC ?_ | refine xE ?_ | refine xD ?_ | refine xK ?_ | refine xS ?_ | refine xM ?_ | refine xT ?_ | refine xF ?_ | ((first | refine xR ?_ | refine xW ?_ | refine vq_id ?_); simp only [go_sem, Nat.reduceAdd, Nat.reduceLeDiff, Nat.reduceSub, Int.reduceToNat, reduceCtorEq, readV_none, readV_some, nid_scanH]) | (refine ⟨by first | omega | (intros; simp_all; done) | (intros; simp_all; omega), ?_⟩; try simp only [go_sem, Nat.reduceAdd, Nat.reduceLeDiff, Nat.reduceSub, Int.reduceToNat, reduceCtorEq, readV_none, readV_some, nid_scanH]))
        refine AE.fix 7 rfl rfl ?_
        simp only [go_sem, Nat.reduceAdd, Nat.reduceLeDiff, Nat.reduceSub, Int.reduceToNat, reduceCtorEq, frv_scanH]
        exact AE.ret rfl trivial (by rw [hi])
      | some p =>
        rw [hp] at hi hr
        have hpl := readP_len hp
        repeat (first | refine xA ?_ | refine xB ?_ | refine xC ?_ | refine xE ?_ | refine xD ?_ | refine xK ?_ | refine xS ?_ | refine xM ?_ | refine xT ?_ | refine xF ?_ | ((first | refine xR ?_ | refine xW ?_ | refine vq_id ?_); simp only [go_sem, Nat.reduceAdd, Nat.reduceLeDiff, Nat.reduceSub, Int.reduceToNat, reduceCtorEq, hg, blkR_len]) | (refine ⟨by first | omega | (intros; simp_all; done) | (intros; simp_all; omega), ?_⟩; try simp only [go_sem, Nat.reduceAdd, Nat.reduceLeDiff, Nat.reduceSub, Int.reduceToNat, reduceCtorEq, hg, blkR_len]))
        refine AQ.fn (by kernel_rfl) rfl rfl rfl (hr) rfl ?_
        by_cases hkl : p.k = link
        · simp only [if_pos hkl, List.foldl_cons] at hi
          have hk1 : ((p.k : Int) != (link : Int)) = false := by simp [hkl]
          repeat (first | refine xA ?_ | refine xB ?_ | refine xC ?_ | refine xE ?_ | refine xD ?_ | refine xK ?_ | refine xS ?_ | refine xM ?_ | refine xT ?_ | refine xF ?_ | ((first | refine xR ?_ | refine xW ?_ | refine vq_id ?_); simp only [go_sem, Nat.reduceAdd, Nat.reduceLeDiff, Nat.reduceSub, Int.reduceToNat, reduceCtorEq, readV_none, readV_some, nid_scanH, hk1]) | (refine ⟨by first | omega | (intros; simp_all; done) | (intros; simp_all; omega), ?_⟩; try simp only [go_sem, Nat.reduceAdd, Nat.reduceLeDiff, Nat.reduceSub, Int.reduceToNat, reduceCtorEq, readV_none, readV_some, nid_scanH, hk1]))
          refine AQ.fix 7 rfl rfl ?_
          simp only [go_sem, Nat.reduceAdd, Nat.reduceLeDiff, Nat.reduceSub, Int.reduceToNat, reduceCtorEq, frv_scanH]
          refine AQ.guard_yes (by simp only [go_sem]) ?_
          refine AQ.yieldN 4 (by kernel_rfl) (by kernel_rfl) rfl ⟨rfl, rfl⟩ rfl rfl (scan_round B q a p (by omega) (by omega) (by omega)) (fun r H' h => by rw [h.2]; exact lowSame.of _ _ _ rfl) fun r H' h => ?_
          obtain ⟨rfl, rfl⟩ := h
          simp only [go_sem, Nat.reduceAdd, Nat.reduceLeDiff, Nat.reduceSub, Int.reduceToNat, reduceCtorEq]
          refine AQ.go (by kernel_rfl) ?_
          simp only [go_sem, Nat.reduceAdd, Nat.reduceLeDiff, Nat.reduceSub, Int.reduceToNat, reduceCtorEq]
          repeat (first | refine xA ?_ | refine xB ?_ | refine xC ?_ | refine xE ?_ | refine xD ?_ | refine xK ?_ | refine xS ?_ | refine xM ?_ | refine xT ?_ | refine xF ?_ | ((first | refine xR ?_ | refine xW ?_ | refine vq_id ?_); simp only [go_sem, Nat.reduceAdd, Nat.reduceLeDiff, Nat.reduceSub, Int.reduceToNat, reduceCtorEq, hw]) | (refine ⟨by first | omega | (intros; simp_all; done) | (intros; simp_all; omega), ?_⟩; try simp only [go_sem, Nat.reduceAdd, Nat.reduceLeDiff, Nat.reduceSub, Int.reduceToNat, reduceCtorEq, hw]))
          obtain ⟨c1, c2, c3⟩ := step_bound a p k hpl b1 b2 b3
          exact AE.round (k + 1, a.step p, p.s) ⟨by simp only; omega, hi, c1, c2, c3⟩ (by simp only; omega) (by repeat (first | exact Sub.nil _ | refine Sub.cons rfl ?_)) rfl
        · simp only [if_neg hkl, List.foldl_nil] at hi
          have hk1 : ((p.k : Int) != (link : Int)) = true := by simp; omega
          repeat (first | refine xA ?_ | refine xB ?_ | refine xC ?_ | refine xE ?_ | refine xD ?_ | refine xK ?_ | refine xS ?_ | refine xM ?_ | refine xT ?_ | refine xF ?_ | ((first | refine xR ?_ | refine xW ?_ | refine vq_id ?_); simp only [go_sem, Nat.reduceAdd, Nat.reduceLeDiff, Nat.reduceSub, Int.reduceToNat, reduceCtorEq, readV_none, readV_some, nid_scanH, hk1]) | (refine ⟨by first | omega | (intros; simp_all; done) | (intros; simp_all; omega), ?_⟩; try simp only [go_sem, Nat.reduceAdd, Nat.reduceLeDiff, Nat.reduceSub, Int.reduceToNat, reduceCtorEq, readV_none, readV_some, nid_scanH, hk1]))
          refine AE.fix 7 rfl rfl ?_
          simp only [go_sem, Nat.reduceAdd, Nat.reduceLeDiff, Nat.reduceSub, Int.reduceToNat, reduceCtorEq, frv_scanH]
          exact AE.ret rfl trivial (by rw [hi])
    · have hk' : k = B.length := by simp at hc; omega
      rw [hk', List.drop_length, chainL, List.foldl_nil] at hi
      repeat (first | refine xA ?_ | refine xB ?_ | refine xC ?_ | refine xE ?_ | refine xD ?_ | refine xK ?_ | refine xS ?_ | refine xM ?_ | refine xT ?_ | refine xF ?_ | ((first | refine xR ?_ | refine xW ?_ | refine vq_id ?_); simp only [go_sem, Nat.reduceAdd, Nat.reduceLeDiff, Nat.reduceSub, Int.reduceToNat, reduceCtorEq]) | (refine ⟨by first | omega | (intros; simp_all; done) | (intros; simp_all; omega), ?_⟩; try simp only [go_sem, Nat.reduceAdd, Nat.reduceLeDiff, Nat.reduceSub, Int.reduceToNat, reduceCtorEq]))
      exact AE.fall rfl trivial (by rw [hi])
end Go.Proofs.Ytoafanbfminhcaa
end

section
namespace Go.Proofs.Ytoafanbfminhcaa
open Go Go.AL Go.RowKit
set_option maxRecDepth 10000
set_option maxHeartbeats 4000000
abbrev Sc.v (b : Nat) (a : Sc) : AV := .agg [.os b 1 0 a.recs.length, Iv a.used, I2 a.first, I2 a.last]
theorem scan_spec (B : List Bs) (hB : B.length ≤ 1000000) : ACall Try.prog 51 [.im (.sl 1 (blkR B))] [] (fun r H' => H' = [(4, .vec 9 1 (blkR (scanS B).recs))] ∧ r = (scanS B).v 4) := by
  have hw := chain_walk B hB
  obtain ⟨Z, hZ⟩ : ∃ Z, scanS B = Z := ⟨_, rfl⟩
  rw [hZ] at hw ⊢
  refine ACall.walk [0, 2, 3, 4, 5, 6, 8, 9, 11, 21] [2, 3, 4, 5, 6] Try.func51 rfl Try.ntmps51 (by kernel_rfl) (by rfl) rfl fun W own I0 φ0 => ?_
  repeat (first | refine xA ?_ | refine xB ?_ | refine xC ?_ | refine xE ?_ | refine xD ?_ | refine xK ?_ | refine xS ?_ | refine xM ?_ | refine xT ?_ | refine xF ?_ | ((first | refine xR ?_ | refine xW ?_ | refine vq_id ?_); simp only [go_sem, Nat.reduceAdd, Nat.reduceLeDiff, Nat.reduceSub, Int.reduceToNat, reduceCtorEq]) | (refine ⟨by first | omega | (intros; simp_all; done) | (intros; simp_all; omega), ?_⟩; try simp only [go_sem, Nat.reduceAdd, Nat.reduceLeDiff, Nat.reduceSub, Int.reduceToNat, reduceCtorEq]))
  refine AQ.fn (by kernel_rfl) rfl rfl rfl (chain_spec B) rfl ?_
  repeat (first | refine xA ?_ | refine xB ?_ | refine xC ?_ | refine xE ?_ | refine xD ?_ | refine xK ?_ | refine xS ?_ | refine xM ?_ | refine xT ?_ | refine xF ?_ | ((first | refine xR ?_ | refine xW ?_ | refine vq_id ?_); simp only [go_sem, Nat.reduceAdd, Nat.reduceLeDiff, Nat.reduceSub, Int.reduceToNat, reduceCtorEq]) | (refine ⟨by first | omega | (intros; simp_all; done) | (intros; simp_all; omega), ?_⟩; try simp only [go_sem, Nat.reduceAdd, Nat.reduceLeDiff, Nat.reduceSub, Int.reduceToNat, reduceCtorEq]))
  refine AP.ownCell 1 0 9 1 rfl rfl ?_
  simp only [go_sem, Nat.reduceAdd, Nat.reduceLeDiff, Nat.reduceSub, Int.reduceToNat, reduceCtorEq]
  refine AP.ownCell 2 1 5 1 rfl rfl ?_
  simp only [go_sem, Nat.reduceAdd, Nat.reduceLeDiff, Nat.reduceSub, Int.reduceToNat, reduceCtorEq]
  refine AP.rangeB 4 0 6 [(0, .im (.sl 1 (blkR B))), (2, .ob 0 0), (3, .ob 1 0), (4, .ob 2 0), (5, .ob 3 0)] (R := fun l _ H' => H' = scanH B l Z) rfl rfl (by kernel_rfl) (by repeat (first | exact Sub.nil _ | refine Sub.cons rfl ?_)) trivial rfl (fun l => ?_) (fun l r H' hR => ?_)
  · exact hw l
  · subst hR
    refine ⟨lowSame.of _ _ _ rfl, .ready, _, rfl, by unfold scanH Sc.bp; cases Z.w <;> rfl, ?_⟩
    simp only [go_sem, Nat.reduceAdd, Nat.reduceLeDiff, Nat.reduceSub, Int.reduceToNat, reduceCtorEq, scanH]
    repeat (first | refine xA ?_ | refine xB ?_ | refine xC ?_ | refine xE ?_ | refine xD ?_ | refine xK ?_ | refine xS ?_ | refine xM ?_ | refine xT ?_ | refine xF ?_ | ((first | refine xR ?_ | refine xW ?_ | refine vq_id ?_); simp only [go_sem, Nat.reduceAdd, Nat.reduceLeDiff, Nat.reduceSub, Int.reduceToNat, reduceCtorEq]) | (refine ⟨by first | omega | (intros; simp_all; done) | (intros; simp_all; omega), ?_⟩; try simp only [go_sem, Nat.reduceAdd, Nat.reduceLeDiff, Nat.reduceSub, Int.reduceToNat, reduceCtorEq]))
    have hb : Z.bp = .im (.v (.pointer none)) ∨ Z.bp = .ob 2 0 := by unfold Sc.bp; cases Z.w <;> simp
    rcases hb with hb | hb
    · rw [hb]
      exact AE.retD [0, 1, 2, 3, 5] rfl ⟨⟨rfl, Nat.le_of_ble_eq_true (by kernel_rfl)⟩, trivial⟩ rfl ⟨rfl, rfl⟩
    · rw [hb]
      exact AE.retD [0, 1, 2, 3, 5] rfl ⟨⟨rfl, Nat.le_of_ble_eq_true (by kernel_rfl)⟩, trivial⟩ rfl ⟨rfl, rfl⟩
end Go.Proofs.Ytoafanbfminhcaa
end

section
namespace Go.Proofs.Ytoafanbfminhcaa
open Go Go.AL Go.RowKit
set_option maxRecDepth 10000
set_option maxHeartbeats 4000000
structure Jn where
  B : List Bs
  W : List Wr
  half : Int
  recs : List Bs
  used : Nat
  first : Nat
  last : Nat
  next : Nat
abbrev Jn.cs (x : Jn) (w r : Nat) : List AV := [.im (.sl 1 (blkR x.B)), .os w 2 0 x.W.length, Iv x.half, .os r 1 0 x.recs.length, Iv x.used, I2 x.first, I2 x.last, I2 x.next]
abbrev Jn.H (x : Jn) (w r : Nat) : Heap := [(r, .vec 9 1 (blkR x.recs)), (w, .vec 97 2 (wrR x.W)), (0, .var 93 (x.cs w r))]
abbrev Jn.ic (x : Jn) : List IV := [.sl 1 (blkR x.B), .sl 2 (wrR x.W), Ii x.half, .sl 1 (blkR x.recs), Ii x.used, Ii x.first, Ii x.last, Ii x.next]
theorem size_spec (B : List Bs) (l : List IV) (hB : B.length ≤ 1000000) : PFn Try.prog 55 [.im (.pt (.sl 1 (blkR B) :: l))] (Iv (B.length / 2 : Nat)) := by
  have h : (B.length : Int).tdiv 2 = ((B.length / 2 : Nat) : Int) := rfl
  have hw := wr (x := ((B.length / 2 : Nat) : Int)) (by omega)
  refine ACall.walk [0, 2] [] Try.func55 rfl Try.ntmps55 (by kernel_rfl) (by rfl) rfl fun W own I0 φ0 => ?_
  repeat (first | refine xA ?_ | refine xB ?_ | refine xC ?_ | refine xE ?_ | refine xD ?_ | refine xK ?_ | refine xS ?_ | refine xM ?_ | refine xT ?_ | refine xF ?_ | ((first | refine xR ?_ | refine xW ?_ | refine vq_id ?_); simp only [go_sem, Nat.reduceAdd, Nat.reduceLeDiff, Nat.reduceSub, Int.reduceToNat, reduceCtorEq, blkR_len, h, hw]) | (refine ⟨by first | omega | (intros; simp_all; done) | (intros; simp_all; omega), ?_⟩; try simp only [go_sem, Nat.reduceAdd, Nat.reduceLeDiff, Nat.reduceSub, Int.reduceToNat, reduceCtorEq, blkR_len, h, hw]))
  exact AE.ret0 rfl ⟨rfl, trivial⟩ rfl ⟨rfl, rfl⟩
def nparts (s : Bs) : Nat := max 1 ((s.length + 18) / 19)
theorem blocksOf_spec (s : Bs) (h : s.length ≤ 1000000000) : PFn Try.prog 54 [Sv s] (Iv (nparts s)) := by
  have h1 : ((s.length : Int) + 19 - 1) = ((s.length + 18 : Nat) : Int) := by omega
  have h2 : (((s.length + 18 : Nat) : Int)).tdiv 19 = (((s.length + 18) / 19 : Nat) : Int) := rfl
  have w1 := wr (x := (s.length : Int) + 19) (by omega)
  have w2 := wr (x := ((s.length + 18 : Nat) : Int)) (by omega)
  have w3 := wr (x := (((s.length + 18) / 19 : Nat) : Int)) (by omega)
  have h4 : (if (1 : Int) < (((s.length + 18) / 19 : Nat) : Int) then (((s.length + 18) / 19 : Nat) : Int) else 1) = ((nparts s : Nat) : Int) := by unfold nparts; split <;> omega
  refine ACall.walk [0, 2] [] Try.func54 rfl Try.ntmps54 (by kernel_rfl) (by rfl) rfl fun W own I0 φ0 => ?_
  repeat (first | refine xA ?_ | refine xB ?_ | refine xC ?_ | refine xE ?_ | refine xD ?_ | refine xK ?_ | refine xS ?_ | refine xM ?_ | refine xT ?_ | refine xF ?_ | ((first | refine xR ?_ | refine xW ?_ | refine vq_id ?_); simp only [go_sem, Nat.reduceAdd, Nat.reduceLeDiff, Nat.reduceSub, Int.reduceToNat, reduceCtorEq, BA_size, w1, h1, w2, h2, w3, h4]) | (refine ⟨by first | omega | (intros; simp_all; done) | (intros; simp_all; omega), ?_⟩; try simp only [go_sem, Nat.reduceAdd, Nat.reduceLeDiff, Nat.reduceSub, Int.reduceToNat, reduceCtorEq, BA_size, w1, h1, w2, h2, w3, h4]))
  exact AE.ret0 rfl ⟨rfl, trivial⟩ rfl ⟨rfl, rfl⟩
def partAt (s : Bs) (i : Nat) : Bs := (s.drop (19 * i)).take 19
def partLast (s : Bs) (i : Nat) : Bool := decide (i + 1 = nparts s)
theorem parts_spec (s : Bs) : ACall Try.prog 87 [Sv s] [] (fun r H' => H' = [(0, .var 9 [Sv s])] ∧ r = .fn 98 [] [.ob 0 0]) := by
  refine ACall.walk [0, 1, 2] [1] Try.func87 rfl Try.ntmps87 (by kernel_rfl) (by rfl) rfl fun W own I0 φ0 => ?_
  repeat (first | refine xA ?_ | refine xB ?_ | refine xC ?_ | refine xE ?_ | refine xD ?_ | refine xK ?_ | refine xS ?_ | refine xM ?_ | refine xT ?_ | refine xF ?_ | ((first | refine xR ?_ | refine xW ?_ | refine vq_id ?_); simp only [go_sem, Nat.reduceAdd, Nat.reduceLeDiff, Nat.reduceSub, Int.reduceToNat, reduceCtorEq]) | (refine ⟨by first | omega | (intros; simp_all; done) | (intros; simp_all; omega), ?_⟩; try simp only [go_sem, Nat.reduceAdd, Nat.reduceLeDiff, Nat.reduceSub, Int.reduceToNat, reduceCtorEq]))
  exact AE.ret rfl ⟨rfl, trivial⟩ ⟨rfl, rfl⟩
theorem parts_walk {nb q b : Nat} (s : Bs) (hs : s.length ≤ 1000000) (Hs : Bs → Nat → Heap) (hv : ∀ t i, lk (Hs t i) b = some (.var 9 [Sv t])) (hset' : ∀ t i t', hset (Hs t i) b (.var 9 [Sv t']) = Hs t' i)
    (hb : Nat.ble nb b = false) (low : ∀ t t' i j, lowSame nb (Hs t i) (Hs t' j))
    (hy : ∀ i, i < nparts s → YCallN Try.prog nb q [Sv (partAt s i), Bv (partLast s i)] (Hs (s.drop (19 * i)) i) (fun r H' => r = Bv true ∧ H' = Hs (s.drop (19 * i)) (i + 1))) :
    ACallN Try.prog nb 98 [Yl q, .ob b 0] (Hs s 0) (fun _ H' => ∃ t, H' = Hs t (nparts s)) := by
  refine ACallN.walk [0, 1, 5, 10] [] Try.func98 rfl Try.ntmps98 (by kernel_rfl) (by rfl) fun W own I0 φ0 => ?_
  repeat (first | refine xA ?_ | refine xB ?_ | refine xC ?_ | refine xE ?_ | refine xD ?_ | refine xK ?_ | refine xS ?_ | refine xM ?_ | refine xT ?_ | refine xF ?_ | ((first | refine xR ?_ | refine xW ?_ | refine vq_id ?_); simp only [go_sem, Nat.reduceAdd, Nat.reduceLeDiff, Nat.reduceSub, Int.reduceToNat, reduceCtorEq]) | (refine ⟨by first | omega | (intros; simp_all; done) | (intros; simp_all; omega), ?_⟩; try simp only [go_sem, Nat.reduceAdd, Nat.reduceLeDiff, Nat.reduceSub, Int.reduceToNat, reduceCtorEq]))
  refine AP.loop rfl (α := Nat) (fun i => [(0, Yl q), (1, .ob b 0)]) (fun i => Hs (s.drop (19 * i)) i) (fun i => i < nparts s) (fun i => nparts s - i) 0 (by unfold nparts; omega) (by repeat (first | exact Sub.nil _ | refine Sub.cons rfl ?_)) rfl fun i hi => ?_
  have hyi := hy i hi
  obtain ⟨t, ht⟩ : ∃ t, s.drop (19 * i) = t := ⟨_, rfl⟩
  have htl : t.length = s.length - 19 * i := by rw [← ht, List.length_drop]
  rw [ht] at hyi ⊢
  repeat (first | refine xA ?_ | refine xB ?_ | refine xC ?_ | refine xE ?_ | refine xD ?_ | refine xK ?_ | refine xS ?_ | refine xM ?_ | refine xT ?_ | refine xF ?_ | ((first | refine xR ?_ | refine xW ?_ | refine vq_id ?_); simp only [go_sem, Nat.reduceAdd, Nat.reduceLeDiff, Nat.reduceSub, Int.reduceToNat, reduceCtorEq, hv, BA_size]) | (refine ⟨by first | omega | (intros; simp_all; done) | (intros; simp_all; omega), ?_⟩; try simp only [go_sem, Nat.reduceAdd, Nat.reduceLeDiff, Nat.reduceSub, Int.reduceToNat, reduceCtorEq, hv, BA_size]))
  refine AP.cond rfl rfl (fun hc => ?_) (fun hc => ?_)
  · have hl : 19 < t.length := by simp at hc; omega
    have hp : partAt s i = t.take 19 := by rw [partAt, ht]
    have hq : partLast s i = false := by
      unfold partLast nparts; simp only [decide_eq_false_iff_not]; omega
    rw [hp, hq] at hyi
    repeat (first | refine xA ?_ | refine xB ?_ | refine xC ?_ | refine xE ?_ | refine xD ?_ | refine xK ?_ | refine xS ?_ | refine xM ?_ | refine xT ?_ | refine xF ?_ | ((first | refine xR ?_ | refine xW ?_ | refine vq_id ?_); simp only [go_sem, Nat.reduceAdd, Nat.reduceLeDiff, Nat.reduceSub, Int.reduceToNat, reduceCtorEq, hv, BA_size, BA_extract]) | (refine ⟨by first | omega | (intros; simp_all; done) | (intros; simp_all; omega), ?_⟩; try simp only [go_sem, Nat.reduceAdd, Nat.reduceLeDiff, Nat.reduceSub, Int.reduceToNat, reduceCtorEq, hv, BA_size, BA_extract]))
    refine AQ.yieldN nb (Nat.ble_eq_true_of_le (Nat.le_refl _)) (by kernel_rfl) rfl ⟨rfl, rfl⟩ rfl rfl hyi (fun r H' h => by rw [h.2]; exact low _ _ _ _) fun r H' h => ?_
    obtain ⟨rfl, rfl⟩ := h
    simp only [go_sem, Nat.reduceAdd, Nat.reduceLeDiff, Nat.reduceSub, Int.reduceToNat, reduceCtorEq, hb]
    refine AQ.go (by kernel_rfl) ?_
    simp only [go_sem, Nat.reduceAdd, Nat.reduceLeDiff, Nat.reduceSub, Int.reduceToNat, reduceCtorEq]
    repeat (first | refine xA ?_ | refine xB ?_ | refine xC ?_ | refine xE ?_ | refine xD ?_ | refine xK ?_ | refine xS ?_ | refine xM ?_ | refine xT ?_ | refine xF ?_ | ((first | refine xR ?_ | refine xW ?_ | refine vq_id ?_); simp only [go_sem, Nat.reduceAdd, Nat.reduceLeDiff, Nat.reduceSub, Int.reduceToNat, reduceCtorEq, hv, hset', BA_size, BA_extract, hb]) | (refine ⟨by first | omega | (intros; simp_all; done) | (intros; simp_all; omega), ?_⟩; try simp only [go_sem, Nat.reduceAdd, Nat.reduceLeDiff, Nat.reduceSub, Int.reduceToNat, reduceCtorEq, hv, hset', BA_size, BA_extract, hb]))
    have hd : List.take (t.length - 19) (List.drop 19 t) = s.drop (19 * (i + 1)) := by
      rw [take_all' _ _ (by simp), ← ht, List.drop_drop]; congr 1
    refine AE.round (i + 1) ?_ (by omega) (by repeat (first | exact Sub.nil _ | refine Sub.cons rfl ?_)) (by rw [← hd]; exact hset' _ _ _)
    unfold nparts; omega
  · have hl : t.length ≤ 19 := by simp at hc; omega
    have hp : partAt s i = t := by rw [partAt, ht]; exact take_all' _ _ hl
    have hn : nparts s = i + 1 := by
      have : i < max 1 ((s.length + 18) / 19) := hi
      unfold nparts; omega
    have hq : partLast s i = true := by
      unfold partLast; simp [hn]
    rw [hp, hq] at hyi
    repeat (first | refine xA ?_ | refine xB ?_ | refine xC ?_ | refine xE ?_ | refine xD ?_ | refine xK ?_ | refine xS ?_ | refine xM ?_ | refine xT ?_ | refine xF ?_ | ((first | refine xR ?_ | refine xW ?_ | refine vq_id ?_); simp only [go_sem, Nat.reduceAdd, Nat.reduceLeDiff, Nat.reduceSub, Int.reduceToNat, reduceCtorEq, hv, BA_size, BA_extract]) | (refine ⟨by first | omega | (intros; simp_all; done) | (intros; simp_all; omega), ?_⟩; try simp only [go_sem, Nat.reduceAdd, Nat.reduceLeDiff, Nat.reduceSub, Int.reduceToNat, reduceCtorEq, hv, BA_size, BA_extract]))
    refine AQ.yieldN nb (Nat.ble_eq_true_of_le (Nat.le_refl _)) (by kernel_rfl) rfl ⟨rfl, rfl⟩ rfl rfl hyi (fun r H' h => by rw [h.2]; exact low _ _ _ _) fun r H' h => ?_
    obtain ⟨rfl, rfl⟩ := h
    simp only [go_sem, Nat.reduceAdd, Nat.reduceLeDiff, Nat.reduceSub, Int.reduceToNat, reduceCtorEq, hb]
    refine AQ.go (by kernel_rfl) ?_
    simp only [go_sem, Nat.reduceAdd, Nat.reduceLeDiff, Nat.reduceSub, Int.reduceToNat, reduceCtorEq]
    repeat (first | refine xA ?_ | refine xB ?_ | refine xC ?_ | refine xE ?_ | refine xD ?_ | refine xK ?_ | refine xS ?_ | refine xM ?_ | refine xT ?_ | refine xF ?_ | ((first | refine xR ?_ | refine xW ?_ | refine vq_id ?_); simp only [go_sem, Nat.reduceAdd, Nat.reduceLeDiff, Nat.reduceSub, Int.reduceToNat, reduceCtorEq]) | (refine ⟨by first | omega | (intros; simp_all; done) | (intros; simp_all; omega), ?_⟩; try simp only [go_sem, Nat.reduceAdd, Nat.reduceLeDiff, Nat.reduceSub, Int.reduceToNat, reduceCtorEq]))
    exact AE.fall rfl trivial ⟨t, by rw [hn]⟩
end Go.Proofs.Ytoafanbfminhcaa
end

section
namespace Go.Proofs.Ytoafanbfminhcaa
open Go Go.AL Go.RowKit
set_option maxRecDepth 10000
set_option maxHeartbeats 4000000
structure Ws where
  W : List Wr
  next : Nat
  frm : Nat
  link : Nat
def Ws.step (sz half : Nat) (a : Ws) (p : Bs) (l : Bool) : Ws := ⟨a.W ++ [(((half * sz + a.frm : Nat) : Int), blockP a.next a.link l p)], a.next + 1, a.frm + 1, a.next⟩
def Ws.run (sz half : Nat) (s : Bs) (a : Ws) : Nat → Ws
  | 0 => a
  | i + 1 => (Ws.run sz half s a i).step sz half (partAt s i) (partLast s i)
noncomputable def wrH (x : Jn) (half q : Nat) (t : Bs) (a : Ws) : Heap :=
  [(8, .lp q 80 .ready Try.f56 [0, 1, 0, 1] [15, 16] [(5, .ob 3 0), (6, .im (.pt [Ii half])), (7, .ob 4 0), (8, .ob 5 0)]), (7, .vec 97 2 (wrR a.W)), (6, .var 9 [Sv t]), (5, .var 2 [I2 a.link]), (4, .var 3 [Iv a.frm]), (3, .var 32 [.ob 0 0]), (2, .vec 9 1 (blkR x.recs)),
   (0, .var 93 [.im (.sl 1 (blkR x.B)), .os 7 2 0 a.W.length, Iv x.half, .os 2 1 0 x.recs.length, Iv x.used, I2 x.first, I2 x.last, I2 a.next])]
theorem write_round (x : Jn) (half q : Nat) (t : Bs) (a : Ws) (p : Bs) (l : Bool) (hp : p.length ≤ 19) (hB : x.B.length ≤ 1000000) (hh : half ≤ 1) (hf : a.frm ≤ 1000000000) (hn : a.next ≤ 1000000000000000) (hl : a.link ≤ 1000000000000000) (hW : a.W.length ≤ 1000000) :
    YCallN Try.prog 7 q [Sv p, Bv l] (wrH x half q t a) (fun r H' => r = Bv true ∧ H' = wrH x half q t (a.step (x.B.length / 2) half p l)) := by
  obtain ⟨Z, hZ⟩ : ∃ Z, wrH x half q t (a.step (x.B.length / 2) half p l) = Z := ⟨_, rfl⟩
  rw [hZ]
  have hm : half * (x.B.length / 2) ≤ 1000000 := by
    rcases (show half = 0 ∨ half = 1 by omega) with h | h <;> subst h <;> omega
  have hw1 : IntKind.i64.wrap ((half : Int) * ((x.B.length / 2 : Nat) : Int)) = ((half * (x.B.length / 2) : Nat) : Int) := by
    rw [Int.natCast_mul]; exact wr (by rw [← Int.natCast_mul]; omega)
  have hw2 : IntKind.i64.wrap (((half * (x.B.length / 2) : Nat) : Int) + (a.frm : Int)) = ((half * (x.B.length / 2) + a.frm : Nat) : Int) := by
    rw [Int.natCast_add]; exact wr (by omega)
  refine YCallN.walk (b := 8) [5, 6, 7, 8, 10, 11, 12, 15, 16] [] rfl rfl rfl fun w own I0 φ0 => ?_
  simp only [go_sem, Nat.reduceAdd, Nat.reduceLeDiff, Nat.reduceSub, Int.reduceToNat, reduceCtorEq, zipP, wrH]
  repeat (first | refine xA ?_ | refine xB ?_ | refine xC ?_ | refine xE ?_ | refine xD ?_ | refine xK ?_ | refine xS ?_ | refine xM ?_ | refine xT ?_ | refine xF ?_ | ((first | refine xR ?_ | refine xW ?_ | refine vq_id ?_); simp only [go_sem, Nat.reduceAdd, Nat.reduceLeDiff, Nat.reduceSub, Int.reduceToNat, reduceCtorEq]) | (refine ⟨by first | omega | (intros; simp_all; done) | (intros; simp_all; omega), ?_⟩; try simp only [go_sem, Nat.reduceAdd, Nat.reduceLeDiff, Nat.reduceSub, Int.reduceToNat, reduceCtorEq]))
  refine AE.begin (b := 8) rfl rfl _ ?_
  simp only [go_sem, Nat.reduceAdd, Nat.reduceLeDiff, Nat.reduceSub, Int.reduceToNat, reduceCtorEq]
  repeat (first | refine xA ?_ | refine xB ?_ | refine xC ?_ | refine xE ?_ | refine xD ?_ | refine xK ?_ | refine xS ?_ | refine xM ?_ | refine xT ?_ | refine xF ?_ | ((first | refine xR ?_ | refine xW ?_ | refine vq_id ?_); simp only [go_sem, Nat.reduceAdd, Nat.reduceLeDiff, Nat.reduceSub, Int.reduceToNat, reduceCtorEq]) | (refine ⟨by first | omega | (intros; simp_all; done) | (intros; simp_all; omega), ?_⟩; try simp only [go_sem, Nat.reduceAdd, Nat.reduceLeDiff, Nat.reduceSub, Int.reduceToNat, reduceCtorEq]))
  refine AP.drawE 10 (Tree.node [] [0, 1, 2, 3, 4, 5, 6, 7] [8] [Tree.node [0, 1, 2, 3, 4, 5, 6, 7] [] [9] [Tree.node [] [] [] []]]) (by kernel_rfl) rfl (by kernel_rfl) (by kernel_rfl) ?_
  refine vd_node ?_
  simp only [go_sem, Nat.reduceAdd, Nat.reduceLeDiff, Nat.reduceSub, Int.reduceToNat, reduceCtorEq]
  repeat' (first | with_reducible exact True.intro | with_reducible refine And.intro (by omega) ?_ | with_reducible refine And.intro ?_ ?_ | omega | fail | (refine AQ.nx rfl ?_; first | (refine And.intro ?_ ?_ <;> (try simp only [go_sem, Nat.reduceAdd, Nat.reduceLeDiff, Nat.reduceSub, Int.reduceToNat, reduceCtorEq])) | simp only [go_sem, Nat.reduceAdd, Nat.reduceLeDiff, Nat.reduceSub, Int.reduceToNat, reduceCtorEq]) | refine AQ.done ?_ | (refine AQ.go (by kernel_rfl) ?_; simp only [go_sem, Nat.reduceAdd, Nat.reduceLeDiff, Nat.reduceSub, Int.reduceToNat, reduceCtorEq]; (refine AQ.nx rfl ?_; first | (refine And.intro ?_ ?_ <;> (try simp only [go_sem, Nat.reduceAdd, Nat.reduceLeDiff, Nat.reduceSub, Int.reduceToNat, reduceCtorEq])) | simp only [go_sem, Nat.reduceAdd, Nat.reduceLeDiff, Nat.reduceSub, Int.reduceToNat, reduceCtorEq])))
  repeat (first | refine xA ?_ | refine xB ?_ | refine xC ?_ | refine xE ?_ | refine xD ?_ | refine xK ?_ | refine xS ?_ | refine xM ?_ | refine xT ?_ | refine xF ?_ | ((first | refine xR ?_ | refine xW ?_ | refine vq_id ?_); simp only [go_sem, Nat.reduceAdd, Nat.reduceLeDiff, Nat.reduceSub, Int.reduceToNat, reduceCtorEq]) | (refine ⟨by first | omega | (intros; simp_all; done) | (intros; simp_all; omega), ?_⟩; try simp only [go_sem, Nat.reduceAdd, Nat.reduceLeDiff, Nat.reduceSub, Int.reduceToNat, reduceCtorEq]))
  refine AP.drawE 21 (Tree.node [] [0, 1, 2, 3, 4, 5, 6, 7, 10, 12] [8] [Tree.node [0, 1, 2, 3, 4, 5, 6, 10, 12] [9, 11] [13] [Tree.node [0, 1, 2, 3, 4, 5, 6, 9, 10, 11] [14] [15] [Tree.node [0, 1, 2, 3, 4, 5] [] [16] [Tree.node [0] [17, 18, 19] [20] [Tree.node [] [] [] []]]]]]) (by kernel_rfl) rfl (by kernel_rfl) (by kernel_rfl) ?_
  refine vd_node ?_
  simp only [go_sem, Nat.reduceAdd, Nat.reduceLeDiff, Nat.reduceSub, Int.reduceToNat, reduceCtorEq]
  refine AQ.fnL ([.im (.pt (Jn.ic ⟨x.B, a.W, x.half, x.recs, x.used, x.first, x.last, a.next⟩))]) (by kernel_rfl) rfl rfl rfl (by ((try simp only [List.nil_append, List.append_nil, List.map_cons, List.map_nil, AV.st, constAV]); repeat (first | with_reducible exact LentC.nil | with_reducible exact LentAs.nil | with_reducible refine LentC.cons ?_ ?_ | with_reducible refine LentAs.cons ?_ ?_ | with_reducible exact Lent.im _ | with_reducible exact LentA.im _ | with_reducible refine LentA.of ?_ | with_reducible refine LentA.agg ?_ | ((with_reducible apply Lent.osw); rfl; simp only [blkR_len, wrR_len, byteR_len, List.length_append, List.length_cons, List.length_nil]) | ((with_reducible apply Lent.ob0); rfl)))) (size_spec x.B _ hB) rfl (fun _ => rfl) ?_
  simp only [go_sem, Nat.reduceAdd, Nat.reduceLeDiff, Nat.reduceSub, Int.reduceToNat, reduceCtorEq]
  refine AQ.nx rfl ?_
  simp only [go_sem, Nat.reduceAdd, Nat.reduceLeDiff, Nat.reduceSub, Int.reduceToNat, reduceCtorEq, hw1, hw2]
  refine AQ.fn (by kernel_rfl) rfl rfl rfl (bytes_spec a.next a.link l p (by omega) (by omega) hp) rfl ?_
  simp only [go_sem, Nat.reduceAdd, Nat.reduceLeDiff, Nat.reduceSub, Int.reduceToNat, reduceCtorEq]
  refine AQ.nx rfl ?_
  simp only [go_sem, Nat.reduceAdd, Nat.reduceLeDiff, Nat.reduceSub, Int.reduceToNat, reduceCtorEq, hw1, hw2]
  refine AQ.go (by kernel_rfl) ?_
  simp only [go_sem, Nat.reduceAdd, Nat.reduceLeDiff, Nat.reduceSub, Int.reduceToNat, reduceCtorEq]
  refine AQ.nx rfl ?_
  simp only [go_sem, Nat.reduceAdd, Nat.reduceLeDiff, Nat.reduceSub, Int.reduceToNat, reduceCtorEq]
  refine AQ.kill 7 ?_
  simp only [go_sem, Nat.reduceAdd, Nat.reduceLeDiff, Nat.reduceSub, Int.reduceToNat, reduceCtorEq]
  refine AQ.append (hnb := rfl) (rows := wrR a.W) (es := 1) (by kernel_rfl) rfl rfl rfl (by rfl) Try.tk26 Try.sz97 (by show Option.map _ (zro Try.prog 97) = _; rw [Try.zr97]; rfl) Try.by97 (by first | rfl | (simp only [wrR_len, List.length_cons, List.length_nil]; done) | (simp only [wrR_len, List.length_cons, List.length_nil]; omega)) (by simp only [wrR_len, List.length_cons, List.length_nil]; omega) (by simp only [wrR_len, List.length_cons, List.length_nil]; omega) ?_
  simp only [go_sem, Nat.reduceAdd, Nat.reduceLeDiff, Nat.reduceSub, Int.reduceToNat, reduceCtorEq]
  refine AQ.nx rfl ?_
  simp only [go_sem, Nat.reduceAdd, Nat.reduceLeDiff, Nat.reduceSub, Int.reduceToNat, reduceCtorEq]
  refine AQ.go (by kernel_rfl) ?_
  simp only [go_sem, Nat.reduceAdd, Nat.reduceLeDiff, Nat.reduceSub, Int.reduceToNat, reduceCtorEq]
  refine AQ.nx rfl ?_
  simp only [go_sem, Nat.reduceAdd, Nat.reduceLeDiff, Nat.reduceSub, Int.reduceToNat, reduceCtorEq]
  refine AQ.done ?_
  have hwn := wr (x := (a.next : Int) + 1) (by omega)
  have hwf := wr (x := (a.frm : Int) + 1) (by omega)
  repeat (first | refine xA ?_ | refine xB ?_ | refine xC ?_ | refine xE ?_ | refine xD ?_ | refine xK ?_ | refine xS ?_ | refine xM ?_ | refine xT ?_ | refine xF ?_ | ((first | refine xR ?_ | refine xW ?_ | refine vq_id ?_); simp only [go_sem, Nat.reduceAdd, Nat.reduceLeDiff, Nat.reduceSub, Int.reduceToNat, reduceCtorEq, hwn, hwf]) | (refine ⟨by first | omega | (intros; simp_all; done) | (intros; simp_all; omega), ?_⟩; try simp only [go_sem, Nat.reduceAdd, Nat.reduceLeDiff, Nat.reduceSub, Int.reduceToNat, reduceCtorEq, hwn, hwf]))
  refine AE.forgets [9] rfl ?_
  simp only [go_sem, Nat.reduceAdd, Nat.reduceLeDiff, Nat.reduceSub, Int.reduceToNat, reduceCtorEq]
  refine AE.order [8, 7, 6, 5, 4, 3, 2, 0] rfl ?_
  simp only [go_sem, Nat.reduceAdd, Nat.reduceLeDiff, Nat.reduceSub, Int.reduceToNat, reduceCtorEq]
  refine AE.roundEnd (b := 8) rfl ⟨rfl, ?_⟩
  rw [← hZ]
  simp only [hset, wrH, Ws.step, List.length_append, wrR_len]
  have : wrR (a.W ++ [(((half * (x.B.length / 2) + a.frm : Nat) : Int), blockP a.next a.link l p)]) = wrR a.W ++ [[Ii ((half * (x.B.length / 2) + a.frm : Nat) : Int), Si (blockP a.next a.link l p)]] := by simp [wrR]
  rw [this]
  rfl
theorem Ws.run_facts (sz half : Nat) (s : Bs) (a : Ws) : ∀ i, (Ws.run sz half s a i).frm = a.frm + i ∧ (Ws.run sz half s a i).next = a.next + i ∧ (Ws.run sz half s a i).W.length = a.W.length + i ∧ (Ws.run sz half s a i).link ≤ max a.link (a.next + i)
  | 0 => ⟨rfl, rfl, rfl, by simp only [Ws.run]; omega⟩
  | i + 1 => by
    obtain ⟨h1, h2, h3, h4⟩ := Ws.run_facts sz half s a i
    simp only [Ws.run, Ws.step, List.length_append, List.length_cons, List.length_nil]
    omega
theorem partAt_len (s : Bs) (i : Nat) : (partAt s i).length ≤ 19 := by simp [partAt]; omega
def Jn.wrote (x : Jn) (half frm link : Nat) (s : Bs) : Jn :=
  let a := Ws.run (x.B.length / 2) half s ⟨x.W, x.next, frm, link⟩ (nparts s)
  { x with W := a.W, recs := x.recs ++ [s], used := a.frm, last := a.link, next := a.next }
theorem write_spec (x : Jn) (half frm link : Nat) (s : Bs) (hs : s.length ≤ 100000) (hB : x.B.length ≤ 1000000) (hh : half ≤ 1) (hf : frm ≤ 1000000) (hn : x.next ≤ 100000000000) (hl : link ≤ 100000000000) (hW : x.W.length ≤ 100000) (hr : x.recs.length ≤ 1000000) :
    ACall Try.prog 56 [.ob 0 0, Iv half, Iv frm, I2 link, Sv s] (x.H 1 2) (fun r H' => H' = (x.wrote half frm link s).H 3 4 ∧ r = .tup []) := by
  obtain ⟨Z, hZ⟩ : ∃ Z, (x.wrote half frm link s).H 3 4 = Z := ⟨_, rfl⟩
  rw [hZ]
  have hf' := Ws.run_facts (x.B.length / 2) half s ⟨x.W, x.next, frm, link⟩
  simp only at hf'
  have hnp : nparts s ≤ 10000 := by unfold nparts; omega
  simp only [go_sem, Nat.reduceAdd, Nat.reduceLeDiff, Nat.reduceSub, Int.reduceToNat, reduceCtorEq, Jn.H, Jn.cs]
  refine ACall.walk [0, 1, 2, 3, 4, 5, 6, 7, 8, 10, 11, 12, 14, 15, 16] [5, 7, 8, 12] Try.func56 rfl Try.ntmps56 (by kernel_rfl) (by rfl) rfl fun W own I0 φ0 => ?_
  repeat (first | refine xA ?_ | refine xB ?_ | refine xC ?_ | refine xE ?_ | refine xD ?_ | refine xK ?_ | refine xS ?_ | refine xM ?_ | refine xT ?_ | refine xF ?_ | ((first | refine xR ?_ | refine xW ?_ | refine vq_id ?_); simp only [go_sem, Nat.reduceAdd, Nat.reduceLeDiff, Nat.reduceSub, Int.reduceToNat, reduceCtorEq]) | (refine ⟨by first | omega | (intros; simp_all; done) | (intros; simp_all; omega), ?_⟩; try simp only [go_sem, Nat.reduceAdd, Nat.reduceLeDiff, Nat.reduceSub, Int.reduceToNat, reduceCtorEq]))
  refine AQ.callH [] (by kernel_rfl) rfl rfl rfl rfl rfl rfl (by trivial) rfl (parts_spec s) ?_
  rintro r H1 ⟨rfl, rfl⟩
  refine ⟨rfl, ?_⟩
  repeat (first | refine xA ?_ | refine xB ?_ | refine xC ?_ | refine xE ?_ | refine xD ?_ | refine xK ?_ | refine xS ?_ | refine xM ?_ | refine xT ?_ | refine xF ?_ | ((first | refine xR ?_ | refine xW ?_ | refine vq_id ?_); simp only [go_sem, Nat.reduceAdd, Nat.reduceLeDiff, Nat.reduceSub, Int.reduceToNat, reduceCtorEq]) | (refine ⟨by first | omega | (intros; simp_all; done) | (intros; simp_all; omega), ?_⟩; try simp only [go_sem, Nat.reduceAdd, Nat.reduceLeDiff, Nat.reduceSub, Int.reduceToNat, reduceCtorEq]))
  refine AP.rename 1 7 rfl rfl rfl ?_
  simp only [go_sem, Nat.reduceAdd, Nat.reduceLeDiff, Nat.reduceSub, Int.reduceToNat, reduceCtorEq]
  refine AP.order [7, 6, 5, 4, 3, 2, 0] rfl ?_
  simp only [go_sem, Nat.reduceAdd, Nat.reduceLeDiff, Nat.reduceSub, Int.reduceToNat, reduceCtorEq]
  refine AP.rangeB 7 0 8 [(5, .ob 3 0), (6, .im (.pt [Ii half])), (7, .ob 4 0), (8, .ob 5 0)] (R := fun l _ H' => ∃ t, H' = wrH x half l t (Ws.run (x.B.length / 2) half s ⟨x.W, x.next, frm, link⟩ (nparts s))) rfl rfl (by kernel_rfl) (by repeat (first | exact Sub.nil _ | refine Sub.cons rfl ?_)) trivial rfl (fun l => ?_) (fun l r H' hR => ?_)
  · refine parts_walk s (by omega) (fun t i => wrH x half l t (Ws.run (x.B.length / 2) half s ⟨x.W, x.next, frm, link⟩ i)) (fun t i => rfl) (fun t i t' => rfl) rfl (fun _ _ _ _ => lowSame.of _ _ _ rfl) fun i hi => ?_
    obtain ⟨h1, h2, h3, h4⟩ := hf' i
    exact write_round x half l _ _ _ _ (partAt_len s i) hB hh (by omega) (by omega) (by omega) (by omega)
  · obtain ⟨t, rfl⟩ := hR
    obtain ⟨h1, h2, h3, h4⟩ := hf' (nparts s)
    obtain ⟨a, ha⟩ : ∃ a, Ws.run (x.B.length / 2) half s ⟨x.W, x.next, frm, link⟩ (nparts s) = a := ⟨_, rfl⟩
    rw [ha]
    have hZ' : Z = Jn.H { x with W := a.W, recs := x.recs ++ [s], used := a.frm, last := a.link, next := a.next } 3 4 := by rw [← hZ, ← ha]; rfl
    refine ⟨lowSame.of _ _ _ rfl, .ready, _, rfl, rfl, ?_⟩
    simp only [go_sem, Nat.reduceAdd, Nat.reduceLeDiff, Nat.reduceSub, Int.reduceToNat, reduceCtorEq, wrH]
    repeat (first | refine xA ?_ | refine xB ?_ | refine xC ?_ | refine xE ?_ | refine xD ?_ | refine xK ?_ | refine xS ?_ | refine xM ?_ | refine xT ?_ | refine xF ?_ | ((first | refine xR ?_ | refine xW ?_ | refine vq_id ?_); simp only [go_sem, Nat.reduceAdd, Nat.reduceLeDiff, Nat.reduceSub, Int.reduceToNat, reduceCtorEq]) | (refine ⟨by first | omega | (intros; simp_all; done) | (intros; simp_all; omega), ?_⟩; try simp only [go_sem, Nat.reduceAdd, Nat.reduceLeDiff, Nat.reduceSub, Int.reduceToNat, reduceCtorEq]))
    refine AP.rename 2 8 rfl rfl rfl ?_
    simp only [go_sem, Nat.reduceAdd, Nat.reduceLeDiff, Nat.reduceSub, Int.reduceToNat, reduceCtorEq]
    refine AP.drawE 13 (Tree.node [] [0, 1, 2, 3, 4, 5, 6] [7] [Tree.node [0, 1, 2, 3, 4, 5] [] [8] [Tree.node [0] [9, 10, 11] [12] [Tree.node [] [] [] []]]]) (by kernel_rfl) rfl (by kernel_rfl) (by kernel_rfl) ?_
    refine vd_node ?_
    simp only [go_sem, Nat.reduceAdd, Nat.reduceLeDiff, Nat.reduceSub, Int.reduceToNat, reduceCtorEq]
    refine AQ.go (by kernel_rfl) ?_
    simp only [go_sem, Nat.reduceAdd, Nat.reduceLeDiff, Nat.reduceSub, Int.reduceToNat, reduceCtorEq]
    refine AQ.nx rfl ?_
    simp only [go_sem, Nat.reduceAdd, Nat.reduceLeDiff, Nat.reduceSub, Int.reduceToNat, reduceCtorEq]
    refine AQ.kill 8 ?_
    simp only [go_sem, Nat.reduceAdd, Nat.reduceLeDiff, Nat.reduceSub, Int.reduceToNat, reduceCtorEq]
    refine AQ.append (hnb := rfl) (rows := blkR x.recs) (es := 0) (by kernel_rfl) rfl rfl rfl (by rfl) Try.tk25 Try.sz9 (by show Option.map _ (zro Try.prog 9) = _; rw [Try.zr9]; rfl) Try.by9 (by first | rfl | (simp only [blkR_len, List.length_cons, List.length_nil]; done) | (simp only [blkR_len, List.length_cons, List.length_nil]; omega)) (by simp only [blkR_len, List.length_cons, List.length_nil]; omega) (by simp only [blkR_len, List.length_cons, List.length_nil]; omega) ?_
    simp only [go_sem, Nat.reduceAdd, Nat.reduceLeDiff, Nat.reduceSub, Int.reduceToNat, reduceCtorEq]
    refine AQ.nx rfl ?_
    simp only [go_sem, Nat.reduceAdd, Nat.reduceLeDiff, Nat.reduceSub, Int.reduceToNat, reduceCtorEq]
    refine AQ.go (by kernel_rfl) ?_
    simp only [go_sem, Nat.reduceAdd, Nat.reduceLeDiff, Nat.reduceSub, Int.reduceToNat, reduceCtorEq]
    refine AQ.nx rfl ?_
    simp only [go_sem, Nat.reduceAdd, Nat.reduceLeDiff, Nat.reduceSub, Int.reduceToNat, reduceCtorEq]
    refine AQ.done ?_
    repeat (first | refine xA ?_ | refine xB ?_ | refine xC ?_ | refine xE ?_ | refine xD ?_ | refine xK ?_ | refine xS ?_ | refine xM ?_ | refine xT ?_ | refine xF ?_ | ((first | refine xR ?_ | refine xW ?_ | refine vq_id ?_); simp only [go_sem, Nat.reduceAdd, Nat.reduceLeDiff, Nat.reduceSub, Int.reduceToNat, reduceCtorEq]) | (refine ⟨by first | omega | (intros; simp_all; done) | (intros; simp_all; omega), ?_⟩; try simp only [go_sem, Nat.reduceAdd, Nat.reduceLeDiff, Nat.reduceSub, Int.reduceToNat, reduceCtorEq]))
    refine AP.drawE 12 (Tree.node [] [0, 1, 2, 3, 4, 5, 6] [7] [Tree.node [1, 3] [8, 9, 10] [11] [Tree.node [] [] [] []]]) (by kernel_rfl) rfl (by kernel_rfl) (by kernel_rfl) ?_
    refine vd_node ?_
    simp only [go_sem, Nat.reduceAdd, Nat.reduceLeDiff, Nat.reduceSub, Int.reduceToNat, reduceCtorEq]
    repeat' (first | with_reducible exact True.intro | with_reducible refine And.intro (by omega) ?_ | with_reducible refine And.intro ?_ ?_ | omega | fail | (refine AQ.nx rfl ?_; first | (refine And.intro ?_ ?_ <;> (try simp only [go_sem, Nat.reduceAdd, Nat.reduceLeDiff, Nat.reduceSub, Int.reduceToNat, reduceCtorEq])) | simp only [go_sem, Nat.reduceAdd, Nat.reduceLeDiff, Nat.reduceSub, Int.reduceToNat, reduceCtorEq]) | refine AQ.done ?_ | (refine AQ.go (by kernel_rfl) ?_; simp only [go_sem, Nat.reduceAdd, Nat.reduceLeDiff, Nat.reduceSub, Int.reduceToNat, reduceCtorEq]; (refine AQ.nx rfl ?_; first | (refine And.intro ?_ ?_ <;> (try simp only [go_sem, Nat.reduceAdd, Nat.reduceLeDiff, Nat.reduceSub, Int.reduceToNat, reduceCtorEq])) | simp only [go_sem, Nat.reduceAdd, Nat.reduceLeDiff, Nat.reduceSub, Int.reduceToNat, reduceCtorEq])))
    refine AE.forgets [3, 4, 5, 6] rfl ?_
    simp only [go_sem, Nat.reduceAdd, Nat.reduceLeDiff, Nat.reduceSub, Int.reduceToNat, reduceCtorEq]
    refine AE.rename 7 3 rfl rfl rfl ?_
    simp only [go_sem, Nat.reduceAdd, Nat.reduceLeDiff, Nat.reduceSub, Int.reduceToNat, reduceCtorEq]
    refine AE.rename 8 4 rfl rfl rfl ?_
    simp only [go_sem, Nat.reduceAdd, Nat.reduceLeDiff, Nat.reduceSub, Int.reduceToNat, reduceCtorEq]
    refine AE.order [4, 3, 0] rfl ?_
    simp only [go_sem, Nat.reduceAdd, Nat.reduceLeDiff, Nat.reduceSub, Int.reduceToNat, reduceCtorEq]
    refine AE.fall rfl trivial ⟨?_, rfl⟩
    rw [hZ']
    have : blkR (x.recs ++ [s]) = blkR x.recs ++ [[Si s]] := by simp [blkR]
    simp only [Jn.H, Jn.cs, List.length_append, blkR_len, this]
    rfl
end Go.Proofs.Ytoafanbfminhcaa
end

section
namespace Go.Proofs.Ytoafanbfminhcaa
open Go Go.AL Go.RowKit
set_option maxRecDepth 10000
set_option maxHeartbeats 4000000
theorem blkR_plain (B : List Bs) : rowsPlain (blkR B) := fun r hr => by
  simp only [blkR, List.mem_map] at hr
  obtain ⟨s, _, rfl⟩ := hr
  rfl
theorem wrR_plain (W : List Wr) : rowsPlain (wrR W) := fun r hr => by
  simp only [wrR, List.mem_map] at hr
  obtain ⟨s, _, rfl⟩ := hr
  rfl
abbrev Jn.D (x : Jn) : Dk := ⟨x.B, x.W⟩
theorem room_spec (x : Jn) (hB : x.B.length ≤ 1000000) (hu : x.used ≤ x.B.length / 2) : PFn Try.prog 39 [.im (.pt x.ic)] (Iv (x.B.length / 2 - x.used : Nat)) := by
  have hw : IntKind.i64.wrap (((x.B.length / 2 : Nat) : Int) - (x.used : Int)) = ((x.B.length / 2 - x.used : Nat) : Int) := by
    rw [wr (by omega)]; omega
  refine ACall.walk [0, 2, 4] [] Try.func39 rfl Try.ntmps39 (by kernel_rfl) (by rfl) rfl fun W own I0 φ0 => ?_
  repeat (first | refine xA ?_ | refine xB ?_ | refine xC ?_ | refine xE ?_ | refine xD ?_ | refine xK ?_ | refine xS ?_ | refine xM ?_ | refine xT ?_ | refine xF ?_ | ((first | refine xR ?_ | refine xW ?_ | refine vq_id ?_); simp only [go_sem, Nat.reduceAdd, Nat.reduceLeDiff, Nat.reduceSub, Int.reduceToNat, reduceCtorEq]) | (refine ⟨by first | omega | (intros; simp_all; done) | (intros; simp_all; omega), ?_⟩; try simp only [go_sem, Nat.reduceAdd, Nat.reduceLeDiff, Nat.reduceSub, Int.reduceToNat, reduceCtorEq]))
  refine AP.drawE 9 (Tree.node [] [0, 2, 3, 4, 5, 6] [1] [Tree.node [2, 3, 4, 5, 6] [7, 8] [] []]) (by kernel_rfl) rfl (by kernel_rfl) (by kernel_rfl) ?_
  refine vd_node ?_
  simp only [go_sem, Nat.reduceAdd, Nat.reduceLeDiff, Nat.reduceSub, Int.reduceToNat, reduceCtorEq]
  refine AQ.fn (by kernel_rfl) rfl rfl rfl (size_spec x.B _ hB) rfl ?_
  simp only [go_sem, Nat.reduceAdd, Nat.reduceLeDiff, Nat.reduceSub, Int.reduceToNat, reduceCtorEq]
  refine AQ.nx rfl ?_
  simp only [go_sem, Nat.reduceAdd, Nat.reduceLeDiff, Nat.reduceSub, Int.reduceToNat, reduceCtorEq, hw]
  refine AQ.done ?_
  repeat (first | refine xA ?_ | refine xB ?_ | refine xC ?_ | refine xE ?_ | refine xD ?_ | refine xK ?_ | refine xS ?_ | refine xM ?_ | refine xT ?_ | refine xF ?_ | ((first | refine xR ?_ | refine xW ?_ | refine vq_id ?_); simp only [go_sem, Nat.reduceAdd, Nat.reduceLeDiff, Nat.reduceSub, Int.reduceToNat, reduceCtorEq]) | (refine ⟨by first | omega | (intros; simp_all; done) | (intros; simp_all; omega), ?_⟩; try simp only [go_sem, Nat.reduceAdd, Nat.reduceLeDiff, Nat.reduceSub, Int.reduceToNat, reduceCtorEq]))
  exact AE.ret0 rfl ⟨rfl, trivial⟩ rfl ⟨rfl, rfl⟩
theorem room_nil : PFn Try.prog 39 [.im (.v (.pointer none))] (Iv 0) := by
  refine ACall.walk [0, 2, 4] [] Try.func39 rfl Try.ntmps39 (by kernel_rfl) (by rfl) rfl fun W own I0 φ0 => ?_
  repeat (first | refine xA ?_ | refine xB ?_ | refine xC ?_ | refine xE ?_ | refine xD ?_ | refine xK ?_ | refine xS ?_ | refine xM ?_ | refine xT ?_ | refine xF ?_ | ((first | refine xR ?_ | refine xW ?_ | refine vq_id ?_); simp only [go_sem, Nat.reduceAdd, Nat.reduceLeDiff, Nat.reduceSub, Int.reduceToNat, reduceCtorEq]) | (refine ⟨by first | omega | (intros; simp_all; done) | (intros; simp_all; omega), ?_⟩; try simp only [go_sem, Nat.reduceAdd, Nat.reduceLeDiff, Nat.reduceSub, Int.reduceToNat, reduceCtorEq]))
  exact AE.ret0 rfl ⟨rfl, trivial⟩ rfl ⟨rfl, rfl⟩
theorem disk_own (x : Jn) (hd : x.D.Sz) : ACall Try.prog 17 [.im (.pt x.ic)] [] (fun r H' => H' = [(1, .vec 9 1 (blkR x.B)), (2, .vec 97 2 (wrR x.W))] ∧ r = .agg [.os 1 1 0 x.B.length, .os 2 2 0 x.W.length]) := by
  have hc := copied_own x.D hd
  refine ACall.walk [0, 2, 4] [2] Try.func17 rfl Try.ntmps17 (by kernel_rfl) (by rfl) rfl fun W own I0 φ0 => ?_
  repeat (first | refine xA ?_ | refine xB ?_ | refine xC ?_ | refine xE ?_ | refine xD ?_ | refine xK ?_ | refine xS ?_ | refine xM ?_ | refine xT ?_ | refine xF ?_ | ((first | refine xR ?_ | refine xW ?_ | refine vq_id ?_); simp only [go_sem, Nat.reduceAdd, Nat.reduceLeDiff, Nat.reduceSub, Int.reduceToNat, reduceCtorEq]) | (refine ⟨by first | omega | (intros; simp_all; done) | (intros; simp_all; omega), ?_⟩; try simp only [go_sem, Nat.reduceAdd, Nat.reduceLeDiff, Nat.reduceSub, Int.reduceToNat, reduceCtorEq]))
  refine AQ.callv (by kernel_rfl) rfl rfl rfl hc fun r' H' ⟨e1, e2⟩ => ?_
  subst e1; subst e2
  simp only [go_sem, Nat.reduceAdd, Nat.reduceLeDiff, Nat.reduceSub, Int.reduceToNat, reduceCtorEq]
  repeat (first | refine xA ?_ | refine xB ?_ | refine xC ?_ | refine xE ?_ | refine xD ?_ | refine xK ?_ | refine xS ?_ | refine xM ?_ | refine xT ?_ | refine xF ?_ | ((first | refine xR ?_ | refine xW ?_ | refine vq_id ?_); simp only [go_sem, Nat.reduceAdd, Nat.reduceLeDiff, Nat.reduceSub, Int.reduceToNat, reduceCtorEq]) | (refine ⟨by first | omega | (intros; simp_all; done) | (intros; simp_all; omega), ?_⟩; try simp only [go_sem, Nat.reduceAdd, Nat.reduceLeDiff, Nat.reduceSub, Int.reduceToNat, reduceCtorEq]))
  refine AE.rename 2 1 rfl rfl rfl ?_
  simp only [go_sem, Nat.reduceAdd, Nat.reduceLeDiff, Nat.reduceSub, Int.reduceToNat, reduceCtorEq]
  refine AE.rename 3 2 rfl rfl rfl ?_
  simp only [go_sem, Nat.reduceAdd, Nat.reduceLeDiff, Nat.reduceSub, Int.reduceToNat, reduceCtorEq]
  refine AE.order [1, 2, 0] rfl ?_
  simp only [go_sem, Nat.reduceAdd, Nat.reduceLeDiff, Nat.reduceSub, Int.reduceToNat, reduceCtorEq]
  exact AE.retD [0] rfl ⟨⟨rfl, Nat.le_of_ble_eq_true (by kernel_rfl)⟩, trivial⟩ rfl ⟨rfl, rfl⟩
theorem disk_nil : PFn Try.prog 17 [.im (.v (.pointer none))] (Dk.v nilD) := by
  refine ACall.walk [0, 2, 4] [2] Try.func17 rfl Try.ntmps17 (by kernel_rfl) (by rfl) rfl fun W own I0 φ0 => ?_
  repeat (first | refine xA ?_ | refine xB ?_ | refine xC ?_ | refine xE ?_ | refine xD ?_ | refine xK ?_ | refine xS ?_ | refine xM ?_ | refine xT ?_ | refine xF ?_ | ((first | refine xR ?_ | refine xW ?_ | refine vq_id ?_); simp only [go_sem, Nat.reduceAdd, Nat.reduceLeDiff, Nat.reduceSub, Int.reduceToNat, reduceCtorEq]) | (refine ⟨by first | omega | (intros; simp_all; done) | (intros; simp_all; omega), ?_⟩; try simp only [go_sem, Nat.reduceAdd, Nat.reduceLeDiff, Nat.reduceSub, Int.reduceToNat, reduceCtorEq]))
  refine AE.cellsW 0 [.im (.sl 1 []), .im (.sl 2 [])] rfl (cellsLe.nil (cellsLe.nil (cellsLe.refl _))) ?_
  simp only [go_sem, Nat.reduceAdd, Nat.reduceLeDiff, Nat.reduceSub, Int.reduceToNat, reduceCtorEq]
  exact AE.ret0 rfl ⟨⟨rfl, Nat.le_of_ble_eq_true (by kernel_rfl)⟩, trivial⟩ rfl ⟨rfl, rfl⟩
theorem records_nil : PFn Try.prog 46 [.im (.v (.pointer none))] (.tup [Sv [], .im (.v (.slice none 0 0))]) := by
  refine ACall.walk [0, 2, 3, 14] [] Try.func46 rfl Try.ntmps46 (by kernel_rfl) (by rfl) rfl fun W own I0 φ0 => ?_
  repeat (first | refine xA ?_ | refine xB ?_ | refine xC ?_ | refine xE ?_ | refine xD ?_ | refine xK ?_ | refine xS ?_ | refine xM ?_ | refine xT ?_ | refine xF ?_ | ((first | refine xR ?_ | refine xW ?_ | refine vq_id ?_); simp only [go_sem, Nat.reduceAdd, Nat.reduceLeDiff, Nat.reduceSub, Int.reduceToNat, reduceCtorEq]) | (refine ⟨by first | omega | (intros; simp_all; done) | (intros; simp_all; omega), ?_⟩; try simp only [go_sem, Nat.reduceAdd, Nat.reduceLeDiff, Nat.reduceSub, Int.reduceToNat, reduceCtorEq]))
  exact AE.ret0 rfl ⟨rfl, rfl, trivial⟩ rfl ⟨rfl, rfl⟩
theorem records_own (x : Jn) (s : Bs) (l : List Bs) (hr : x.recs = s :: l) (hl : l.length ≤ 1000000) : ACall Try.prog 46 [.im (.pt x.ic)] [] (fun r H' => H' = [(0, .vec 9 1 (blkR l))] ∧ r = .tup [Sv s, .os 0 1 0 l.length]) := by
  have hc := clone15o l (by omega)
  have hl1 : (blkR x.recs).length = l.length + 1 := by rw [hr, blkR_len]; rfl
  obtain ⟨B, W', half, recs, used, first, last, next⟩ := x
  simp only at hr hl1
  subst hr
  have ht : List.take l.length (blkR l) = blkR l := take_all' _ _ (by rw [blkR_len]; exact Nat.le_refl _)
  have hg : (blkR (s :: l)).getD 0 [] = [Si s] := rfl
  have hd : List.drop 1 (blkR (s :: l)) = blkR l := rfl
  have hb : (((l.length + 1 : Nat) : Int) == 0) = false := by simp; omega
  refine ACall.walk [0, 2, 3, 14] [] Try.func46 rfl Try.ntmps46 (by kernel_rfl) (by rfl) rfl fun W own I0 φ0 => ?_
  repeat (first | refine xA ?_ | refine xB ?_ | refine xC ?_ | refine xE ?_ | refine xD ?_ | refine xK ?_ | refine xS ?_ | refine xM ?_ | refine xT ?_ | refine xF ?_ | ((first | refine xR ?_ | refine xW ?_ | refine vq_id ?_); simp only [go_sem, Nat.reduceAdd, Nat.reduceLeDiff, Nat.reduceSub, Int.reduceToNat, reduceCtorEq, hl1, hb]) | (refine ⟨by first | omega | (intros; simp_all; done) | (intros; simp_all; omega), ?_⟩; try simp only [go_sem, Nat.reduceAdd, Nat.reduceLeDiff, Nat.reduceSub, Int.reduceToNat, reduceCtorEq, hl1, hb]))
  simp only [go_sem, Nat.reduceAdd, Nat.reduceLeDiff, Nat.reduceSub, Int.reduceToNat, reduceCtorEq]
  refine AP.drawE 16 (Tree.node [] [0, 1, 2, 3, 4, 5, 6, 7, 8, 9, 10, 11, 12] [13] [Tree.node [0, 1, 2, 3, 4, 5, 6] [14, 15] [] []]) (by kernel_rfl) rfl (by kernel_rfl) (by kernel_rfl) ?_
  refine vd_node ?_
  simp only [go_sem, Nat.reduceAdd, Nat.reduceLeDiff, Nat.reduceSub, Int.reduceToNat, reduceCtorEq, hl1, hg, hd]
  repeat (with_reducible refine And.intro (by omega) ?_)
  refine AQ.callv (by kernel_rfl) rfl rfl rfl hc fun r' H' ⟨e1, e2⟩ => ?_
  subst e1; subst e2
  simp only [go_sem, Nat.reduceAdd, Nat.reduceLeDiff, Nat.reduceSub, Int.reduceToNat, reduceCtorEq]
  refine AQ.nx rfl ?_
  simp only [go_sem, Nat.reduceAdd, Nat.reduceLeDiff, Nat.reduceSub, Int.reduceToNat, reduceCtorEq, hg, blkR_len, List.length_cons]
  repeat (with_reducible refine And.intro (by omega) ?_)
  refine AQ.done ?_
  repeat (first | refine xA ?_ | refine xB ?_ | refine xC ?_ | refine xE ?_ | refine xD ?_ | refine xK ?_ | refine xS ?_ | refine xM ?_ | refine xT ?_ | refine xF ?_ | ((first | refine xR ?_ | refine xW ?_ | refine vq_id ?_); simp only [go_sem, Nat.reduceAdd, Nat.reduceLeDiff, Nat.reduceSub, Int.reduceToNat, reduceCtorEq]) | (refine ⟨by first | omega | (intros; simp_all; done) | (intros; simp_all; omega), ?_⟩; try simp only [go_sem, Nat.reduceAdd, Nat.reduceLeDiff, Nat.reduceSub, Int.reduceToNat, reduceCtorEq]))
  exact AE.retD [] rfl ⟨rfl, rfl, trivial⟩ rfl ⟨rfl, rfl⟩
end Go.Proofs.Ytoafanbfminhcaa
end

section
namespace Go.Proofs.Ytoafanbfminhcaa
open Go Go.AL Go.RowKit
set_option maxRecDepth 10000
set_option maxHeartbeats 4000000
structure Jn.Sz (x : Jn) : Prop where
  b : x.B.length ≤ 2000
  h : x.half = 0 ∨ x.half = 1
  u : x.used ≤ x.B.length / 2
  f : x.first ≤ 4294967296
  l : x.last ≤ 4294967296
  n : x.next ≤ 4294967296
  n1 : 1 ≤ x.next
  w : x.W.length ≤ 10000
  r : x.recs.length ≤ 2000
def Jn.appE (x : Jn) (s : Bs) : Int := if 10000 < s.length then 4 else if x.B.length / 2 < x.used + nparts s ∨ 4294967296 < x.next + nparts s ∨ 10000 < x.W.length + nparts s then 8 else 0
theorem nparts_le (s : Bs) (h : s.length ≤ 10000) : nparts s ≤ 527 := by unfold nparts; omega
theorem nparts_pos (s : Bs) : 1 ≤ nparts s := by unfold nparts; omega
theorem append_long (x : Jn) (s : Bs) (hx : x.Sz) (h : 10000 < s.length) (hs : s.length ≤ 1000000) : ACall Try.prog 19 [.ob 0 0, Sv s] (x.H 1 2) (fun r H' => H' = x.H 1 2 ∧ r = Iv 4) := by
  simp only [go_sem, Nat.reduceAdd, Nat.reduceLeDiff, Nat.reduceSub, Int.reduceToNat, reduceCtorEq, Jn.H, Jn.cs]
  refine ACall.walk [0, 1, 4, 5, 7, 10, 14] [] Try.func19 rfl Try.ntmps19 (by kernel_rfl) (by rfl) rfl fun W own I0 φ0 => ?_
  repeat (first | refine xA ?_ | refine xB ?_ | refine xC ?_ | refine xE ?_ | refine xD ?_ | refine xK ?_ | refine xS ?_ | refine xM ?_ | refine xT ?_ | refine xF ?_ | ((first | refine xR ?_ | refine xW ?_ | refine vq_id ?_); simp only [go_sem, Nat.reduceAdd, Nat.reduceLeDiff, Nat.reduceSub, Int.reduceToNat, reduceCtorEq]) | (refine ⟨by first | omega | (intros; simp_all; done) | (intros; simp_all; omega), ?_⟩; try simp only [go_sem, Nat.reduceAdd, Nat.reduceLeDiff, Nat.reduceSub, Int.reduceToNat, reduceCtorEq]))
  refine AQ.fn (by kernel_rfl) rfl rfl rfl (blocksOf_spec s (by omega)) rfl ?_
  repeat (first | refine xA ?_ | refine xB ?_ | refine xC ?_ | refine xE ?_ | refine xD ?_ | refine xK ?_ | refine xS ?_ | refine xM ?_ | refine xT ?_ | refine xF ?_ | ((first | refine xR ?_ | refine xW ?_ | refine vq_id ?_); simp only [go_sem, Nat.reduceAdd, Nat.reduceLeDiff, Nat.reduceSub, Int.reduceToNat, reduceCtorEq, BA_size]) | (refine ⟨by first | omega | (intros; simp_all; done) | (intros; simp_all; omega), ?_⟩; try simp only [go_sem, Nat.reduceAdd, Nat.reduceLeDiff, Nat.reduceSub, Int.reduceToNat, reduceCtorEq, BA_size]))
  refine AP.cond_true rfl (by simp only [go_sem, Nat.reduceAdd, Nat.reduceLeDiff, Nat.reduceSub, Int.reduceToNat, reduceCtorEq]; refine congrArg (fun b => some (AV.im (IV.v (Value.bool b)))) ?_; (first | (simp only [Bool.or_eq_true, Bool.and_eq_true, Bool.not_eq_true', Bool.not_eq_false', Bool.and_eq_false_iff, Bool.or_eq_false_iff, decide_eq_true_eq, decide_eq_false_iff_not, beq_iff_eq, bne_iff_ne, beq_eq_false_iff_ne, bne_eq_false_iff_eq, ne_eq]; omega) | (simp; done) | (simp; omega) | (simp_all; done) | (simp_all; omega))) ?_
  repeat (first | refine xA ?_ | refine xB ?_ | refine xC ?_ | refine xE ?_ | refine xD ?_ | refine xK ?_ | refine xS ?_ | refine xM ?_ | refine xT ?_ | refine xF ?_ | ((first | refine xR ?_ | refine xW ?_ | refine vq_id ?_); simp only [go_sem, Nat.reduceAdd, Nat.reduceLeDiff, Nat.reduceSub, Int.reduceToNat, reduceCtorEq]) | (refine ⟨by first | omega | (intros; simp_all; done) | (intros; simp_all; omega), ?_⟩; try simp only [go_sem, Nat.reduceAdd, Nat.reduceLeDiff, Nat.reduceSub, Int.reduceToNat, reduceCtorEq]))
  exact AE.ret rfl ⟨rfl, trivial⟩ ⟨rfl, rfl⟩
theorem append_full (x : Jn) (half : Nat) (s : Bs) (hx : x.Sz) (hh : x.half = (half : Int)) (h : x.appE s = 8) : ACall Try.prog 19 [.ob 0 0, Sv s] (x.H 1 2) (fun r H' => H' = x.H 1 2 ∧ r = Iv 8) := by
  obtain ⟨hb, hhf, hu, hf, hl, hn, hn1, hw, hr⟩ := hx
  unfold Jn.appE at h
  split at h
  · cases h
  rename_i hs
  split at h
  rename_i hc
  case isFalse => cases h
  have hnp := nparts_le s (by omega)
  have hh1 := nparts_pos s
  have hsz := size_spec x.B (x.ic.drop 1) (by omega)
  obtain ⟨B, W', half', recs, used, first, last, next⟩ := x
  simp only at hb hhf hu hf hl hn hn1 hw hr hs hc hsz hh
  have w1 := wr (x := (used : Int) + (nparts s : Int)) (by omega)
  have w2 := wr (x := (next : Int) + (nparts s : Int)) (by omega)
  have w3 := wr (x := (next : Int) + (nparts s : Int) - 1) (by omega)
  have w4 := wr (x := (W'.length : Int) + (nparts s : Int)) (by omega)
  have w5 := wr (x := (nparts s : Int)) (by omega)
  subst hh
  simp only [go_sem, Nat.reduceAdd, Nat.reduceLeDiff, Nat.reduceSub, Int.reduceToNat, reduceCtorEq, Jn.H, Jn.cs]
  refine ACall.walk [0, 1, 4, 5, 7, 10, 14] [] Try.func19 rfl Try.ntmps19 (by kernel_rfl) (by rfl) rfl fun W own I0 φ0 => ?_
  repeat (first | refine xA ?_ | refine xB ?_ | refine xC ?_ | refine xE ?_ | refine xD ?_ | refine xK ?_ | refine xS ?_ | refine xM ?_ | refine xT ?_ | refine xF ?_ | ((first | refine xR ?_ | refine xW ?_ | refine vq_id ?_); simp only [go_sem, Nat.reduceAdd, Nat.reduceLeDiff, Nat.reduceSub, Int.reduceToNat, reduceCtorEq]) | (refine ⟨by first | omega | (intros; simp_all; done) | (intros; simp_all; omega), ?_⟩; try simp only [go_sem, Nat.reduceAdd, Nat.reduceLeDiff, Nat.reduceSub, Int.reduceToNat, reduceCtorEq]))
  refine AQ.fn (by kernel_rfl) rfl rfl rfl (blocksOf_spec s (by omega)) rfl ?_
  repeat (first | refine xA ?_ | refine xB ?_ | refine xC ?_ | refine xE ?_ | refine xD ?_ | refine xK ?_ | refine xS ?_ | refine xM ?_ | refine xT ?_ | refine xF ?_ | ((first | refine xR ?_ | refine xW ?_ | refine vq_id ?_); simp only [go_sem, Nat.reduceAdd, Nat.reduceLeDiff, Nat.reduceSub, Int.reduceToNat, reduceCtorEq, BA_size]) | (refine ⟨by first | omega | (intros; simp_all; done) | (intros; simp_all; omega), ?_⟩; try simp only [go_sem, Nat.reduceAdd, Nat.reduceLeDiff, Nat.reduceSub, Int.reduceToNat, reduceCtorEq, BA_size]))
  refine AP.cond_false rfl (by simp only [go_sem, Nat.reduceAdd, Nat.reduceLeDiff, Nat.reduceSub, Int.reduceToNat, reduceCtorEq]; refine congrArg (fun b => some (AV.im (IV.v (Value.bool b)))) ?_; (first | (simp only [Bool.or_eq_true, Bool.and_eq_true, Bool.not_eq_true', Bool.not_eq_false', Bool.and_eq_false_iff, Bool.or_eq_false_iff, decide_eq_true_eq, decide_eq_false_iff_not, beq_iff_eq, bne_iff_ne, beq_eq_false_iff_ne, bne_eq_false_iff_eq, ne_eq]; omega) | (simp; done) | (simp; omega) | (simp_all; done) | (simp_all; omega))) ?_
  repeat (first | refine xA ?_ | refine xB ?_ | refine xC ?_ | refine xE ?_ | refine xD ?_ | refine xK ?_ | refine xS ?_ | refine xM ?_ | refine xT ?_ | refine xF ?_ | ((first | refine xR ?_ | refine xW ?_ | refine vq_id ?_); simp only [go_sem, Nat.reduceAdd, Nat.reduceLeDiff, Nat.reduceSub, Int.reduceToNat, reduceCtorEq, BA_size]) | (refine ⟨by first | omega | (intros; simp_all; done) | (intros; simp_all; omega), ?_⟩; try simp only [go_sem, Nat.reduceAdd, Nat.reduceLeDiff, Nat.reduceSub, Int.reduceToNat, reduceCtorEq, BA_size]))
  refine AP.drawE 32 (Tree.node [] [0, 1, 2, 3, 4, 5, 6, 7] [8] [Tree.node [0, 1, 2, 3, 4, 5, 6] [9, 10, 11, 12, 13, 14, 15, 16, 17, 18, 19, 20, 21, 22, 23, 24, 25, 26, 27, 28, 29, 30, 31] [] []]) (by kernel_rfl) rfl (by kernel_rfl) (by kernel_rfl) ?_
  refine vd_node ?_
  simp only [go_sem, Nat.reduceAdd, Nat.reduceLeDiff, Nat.reduceSub, Int.reduceToNat, reduceCtorEq, w1]
  refine AQ.fnL ([.im (.pt (Jn.ic ⟨B, W', half, recs, used, first, last, next⟩))]) (by kernel_rfl) rfl rfl rfl (by ((try simp only [List.nil_append, List.append_nil, List.map_cons, List.map_nil, AV.st, constAV]); repeat (first | with_reducible exact LentC.nil | with_reducible exact LentAs.nil | with_reducible refine LentC.cons ?_ ?_ | with_reducible refine LentAs.cons ?_ ?_ | with_reducible exact Lent.im _ | with_reducible exact LentA.im _ | with_reducible refine LentA.of ?_ | with_reducible refine LentA.agg ?_ | ((with_reducible apply Lent.osw); rfl; simp only [blkR_len, wrR_len, byteR_len, List.length_append, List.length_cons, List.length_nil]) | ((with_reducible apply Lent.ob0); rfl)))) (hsz) rfl (fun _ => rfl) ?_
  simp only [go_sem, Nat.reduceAdd, Nat.reduceLeDiff, Nat.reduceSub, Int.reduceToNat, reduceCtorEq, w1]
  refine AQ.nx rfl ?_
  simp only [go_sem, Nat.reduceAdd, Nat.reduceLeDiff, Nat.reduceSub, Int.reduceToNat, reduceCtorEq, w1, w2, w3, w4, w5]
  refine And.intro (fun h => ⟨h, h⟩) (And.intro (fun h => ⟨h, h⟩) (AQ.done ?_))
  repeat (first | refine xA ?_ | refine xB ?_ | refine xC ?_ | refine xE ?_ | refine xD ?_ | refine xK ?_ | refine xS ?_ | refine xM ?_ | refine xT ?_ | refine xF ?_ | ((first | refine xR ?_ | refine xW ?_ | refine vq_id ?_); simp only [go_sem, Nat.reduceAdd, Nat.reduceLeDiff, Nat.reduceSub, Int.reduceToNat, reduceCtorEq]) | (refine ⟨by first | omega | (intros; simp_all; done) | (intros; simp_all; omega), ?_⟩; try simp only [go_sem, Nat.reduceAdd, Nat.reduceLeDiff, Nat.reduceSub, Int.reduceToNat, reduceCtorEq]))
  refine AP.cond_true rfl (by simp only [go_sem, Nat.reduceAdd, Nat.reduceLeDiff, Nat.reduceSub, Int.reduceToNat, reduceCtorEq]; refine congrArg (fun b => some (AV.im (IV.v (Value.bool b)))) ?_; (first | (simp only [Bool.or_eq_true, Bool.and_eq_true, Bool.not_eq_true', Bool.not_eq_false', Bool.and_eq_false_iff, Bool.or_eq_false_iff, decide_eq_true_eq, decide_eq_false_iff_not, beq_iff_eq, bne_iff_ne, beq_eq_false_iff_ne, bne_eq_false_iff_eq, ne_eq]; omega) | (simp; done) | (simp; omega) | (simp_all; done) | (simp_all; omega))) ?_
  repeat (first | refine xA ?_ | refine xB ?_ | refine xC ?_ | refine xE ?_ | refine xD ?_ | refine xK ?_ | refine xS ?_ | refine xM ?_ | refine xT ?_ | refine xF ?_ | ((first | refine xR ?_ | refine xW ?_ | refine vq_id ?_); simp only [go_sem, Nat.reduceAdd, Nat.reduceLeDiff, Nat.reduceSub, Int.reduceToNat, reduceCtorEq]) | (refine ⟨by first | omega | (intros; simp_all; done) | (intros; simp_all; omega), ?_⟩; try simp only [go_sem, Nat.reduceAdd, Nat.reduceLeDiff, Nat.reduceSub, Int.reduceToNat, reduceCtorEq]))
  exact AE.ret rfl ⟨rfl, trivial⟩ ⟨rfl, rfl⟩
theorem append_ok (x : Jn) (half : Nat) (s : Bs) (hx : x.Sz) (hh : x.half = (half : Int)) (h : x.appE s = 0) : ACall Try.prog 19 [.ob 0 0, Sv s] (x.H 1 2) (fun r H' => H' = (x.wrote half x.used x.last s).H 3 4 ∧ r = Iv 0) := by
  obtain ⟨hb, hhf, hu, hf, hl, hn, hn1, hw, hr⟩ := hx
  unfold Jn.appE at h
  split at h
  · cases h
  rename_i hs
  split at h
  · cases h
  rename_i hc
  have hnp := nparts_le s (by omega)
  have hwr := write_spec x half x.used x.last s (by omega) (by omega) (by omega) (by omega) (by omega) (by omega) (by omega) (by omega)
  have hh1 := nparts_pos s
  have hsz := size_spec x.B (x.ic.drop 1) (by omega)
  obtain ⟨Z, hZ⟩ : ∃ Z, (x.wrote half x.used x.last s) = Z := ⟨_, rfl⟩
  rw [hZ] at hwr ⊢
  obtain ⟨B, W', half', recs, used, first, last, next⟩ := x
  simp only at hb hhf hu hf hl hn hn1 hw hr hs hc hsz hh
  have w1 := wr (x := (used : Int) + (nparts s : Int)) (by omega)
  have w2 := wr (x := (next : Int) + (nparts s : Int)) (by omega)
  have w3 := wr (x := (next : Int) + (nparts s : Int) - 1) (by omega)
  have w4 := wr (x := (W'.length : Int) + (nparts s : Int)) (by omega)
  have w5 := wr (x := (nparts s : Int)) (by omega)
  subst hh
  simp only [go_sem, Nat.reduceAdd, Nat.reduceLeDiff, Nat.reduceSub, Int.reduceToNat, reduceCtorEq, Jn.H, Jn.cs]
  refine ACall.walk [0, 1, 4, 5, 7, 10, 14] [] Try.func19 rfl Try.ntmps19 (by kernel_rfl) (by rfl) rfl fun W own I0 φ0 => ?_
  repeat (first | refine xA ?_ | refine xB ?_ | refine xC ?_ | refine xE ?_ | refine xD ?_ | refine xK ?_ | refine xS ?_ | refine xM ?_ | refine xT ?_ | refine xF ?_ | ((first | refine xR ?_ | refine xW ?_ | refine vq_id ?_); simp only [go_sem, Nat.reduceAdd, Nat.reduceLeDiff, Nat.reduceSub, Int.reduceToNat, reduceCtorEq]) | (refine ⟨by first | omega | (intros; simp_all; done) | (intros; simp_all; omega), ?_⟩; try simp only [go_sem, Nat.reduceAdd, Nat.reduceLeDiff, Nat.reduceSub, Int.reduceToNat, reduceCtorEq]))
  refine AQ.fn (by kernel_rfl) rfl rfl rfl (blocksOf_spec s (by omega)) rfl ?_
  repeat (first | refine xA ?_ | refine xB ?_ | refine xC ?_ | refine xE ?_ | refine xD ?_ | refine xK ?_ | refine xS ?_ | refine xM ?_ | refine xT ?_ | refine xF ?_ | ((first | refine xR ?_ | refine xW ?_ | refine vq_id ?_); simp only [go_sem, Nat.reduceAdd, Nat.reduceLeDiff, Nat.reduceSub, Int.reduceToNat, reduceCtorEq, BA_size]) | (refine ⟨by first | omega | (intros; simp_all; done) | (intros; simp_all; omega), ?_⟩; try simp only [go_sem, Nat.reduceAdd, Nat.reduceLeDiff, Nat.reduceSub, Int.reduceToNat, reduceCtorEq, BA_size]))
  refine AP.cond_false rfl (by simp only [go_sem, Nat.reduceAdd, Nat.reduceLeDiff, Nat.reduceSub, Int.reduceToNat, reduceCtorEq]; refine congrArg (fun b => some (AV.im (IV.v (Value.bool b)))) ?_; (first | (simp only [Bool.or_eq_true, Bool.and_eq_true, Bool.not_eq_true', Bool.not_eq_false', Bool.and_eq_false_iff, Bool.or_eq_false_iff, decide_eq_true_eq, decide_eq_false_iff_not, beq_iff_eq, bne_iff_ne, beq_eq_false_iff_ne, bne_eq_false_iff_eq, ne_eq]; omega) | (simp; done) | (simp; omega) | (simp_all; done) | (simp_all; omega))) ?_
  repeat (first | refine xA ?_ | refine xB ?_ | refine xC ?_ | refine xE ?_ | refine xD ?_ | refine xK ?_ | refine xS ?_ | refine xM ?_ | refine xT ?_ | refine xF ?_ | ((first | refine xR ?_ | refine xW ?_ | refine vq_id ?_); simp only [go_sem, Nat.reduceAdd, Nat.reduceLeDiff, Nat.reduceSub, Int.reduceToNat, reduceCtorEq, BA_size]) | (refine ⟨by first | omega | (intros; simp_all; done) | (intros; simp_all; omega), ?_⟩; try simp only [go_sem, Nat.reduceAdd, Nat.reduceLeDiff, Nat.reduceSub, Int.reduceToNat, reduceCtorEq, BA_size]))
  refine AP.drawE 32 (Tree.node [] [0, 1, 2, 3, 4, 5, 6, 7] [8] [Tree.node [0, 1, 2, 3, 4, 5, 6] [9, 10, 11, 12, 13, 14, 15, 16, 17, 18, 19, 20, 21, 22, 23, 24, 25, 26, 27, 28, 29, 30, 31] [] []]) (by kernel_rfl) rfl (by kernel_rfl) (by kernel_rfl) ?_
  refine vd_node ?_
  simp only [go_sem, Nat.reduceAdd, Nat.reduceLeDiff, Nat.reduceSub, Int.reduceToNat, reduceCtorEq, w1]
  refine AQ.fnL ([.im (.pt (Jn.ic ⟨B, W', half, recs, used, first, last, next⟩))]) (by kernel_rfl) rfl rfl rfl (by ((try simp only [List.nil_append, List.append_nil, List.map_cons, List.map_nil, AV.st, constAV]); repeat (first | with_reducible exact LentC.nil | with_reducible exact LentAs.nil | with_reducible refine LentC.cons ?_ ?_ | with_reducible refine LentAs.cons ?_ ?_ | with_reducible exact Lent.im _ | with_reducible exact LentA.im _ | with_reducible refine LentA.of ?_ | with_reducible refine LentA.agg ?_ | ((with_reducible apply Lent.osw); rfl; simp only [blkR_len, wrR_len, byteR_len, List.length_append, List.length_cons, List.length_nil]) | ((with_reducible apply Lent.ob0); rfl)))) (hsz) rfl (fun _ => rfl) ?_
  simp only [go_sem, Nat.reduceAdd, Nat.reduceLeDiff, Nat.reduceSub, Int.reduceToNat, reduceCtorEq, w1]
  refine AQ.nx rfl ?_
  simp only [go_sem, Nat.reduceAdd, Nat.reduceLeDiff, Nat.reduceSub, Int.reduceToNat, reduceCtorEq, w1, w2, w3, w4, w5]
  refine And.intro (fun h => ⟨h, h⟩) (And.intro (fun h => ⟨h, h⟩) (AQ.done ?_))
  repeat (first | refine xA ?_ | refine xB ?_ | refine xC ?_ | refine xE ?_ | refine xD ?_ | refine xK ?_ | refine xS ?_ | refine xM ?_ | refine xT ?_ | refine xF ?_ | ((first | refine xR ?_ | refine xW ?_ | refine vq_id ?_); simp only [go_sem, Nat.reduceAdd, Nat.reduceLeDiff, Nat.reduceSub, Int.reduceToNat, reduceCtorEq]) | (refine ⟨by first | omega | (intros; simp_all; done) | (intros; simp_all; omega), ?_⟩; try simp only [go_sem, Nat.reduceAdd, Nat.reduceLeDiff, Nat.reduceSub, Int.reduceToNat, reduceCtorEq]))
  refine AP.cond_false rfl (by simp only [go_sem, Nat.reduceAdd, Nat.reduceLeDiff, Nat.reduceSub, Int.reduceToNat, reduceCtorEq]; refine congrArg (fun b => some (AV.im (IV.v (Value.bool b)))) ?_; (first | (simp only [Bool.or_eq_true, Bool.and_eq_true, Bool.not_eq_true', Bool.not_eq_false', Bool.and_eq_false_iff, Bool.or_eq_false_iff, decide_eq_true_eq, decide_eq_false_iff_not, beq_iff_eq, bne_iff_ne, beq_eq_false_iff_ne, bne_eq_false_iff_eq, ne_eq]; omega) | (simp; done) | (simp; omega) | (simp_all; done) | (simp_all; omega))) ?_
  repeat (first | refine xA ?_ | refine xB ?_ | refine xC ?_ | refine xE ?_ | refine xD ?_ | refine xK ?_ | refine xS ?_ | refine xM ?_ | refine xT ?_ | refine xF ?_ | ((first | refine xR ?_ | refine xW ?_ | refine vq_id ?_); simp only [go_sem, Nat.reduceAdd, Nat.reduceLeDiff, Nat.reduceSub, Int.reduceToNat, reduceCtorEq]) | (refine ⟨by first | omega | (intros; simp_all; done) | (intros; simp_all; omega), ?_⟩; try simp only [go_sem, Nat.reduceAdd, Nat.reduceLeDiff, Nat.reduceSub, Int.reduceToNat, reduceCtorEq]))
  refine AP.drawE 17 (Tree.node [] [0, 1, 2, 3, 4, 5, 6, 7, 8, 9, 10, 11, 12, 13, 14, 15] [16] [Tree.node [] [] [] []]) (by kernel_rfl) rfl (by kernel_rfl) (by kernel_rfl) ?_
  refine vd_node ?_
  simp only [go_sem, Nat.reduceAdd, Nat.reduceLeDiff, Nat.reduceSub, Int.reduceToNat, reduceCtorEq]
  refine AQ.callH [(2, 2), (1, 1), (0, 0)] (by kernel_rfl) rfl rfl rfl rfl rfl rfl (by exact ⟨rfl, rfl, rfl, trivial⟩) rfl hwr ?_
  rintro r H1 ⟨rfl, rfl⟩
  refine ⟨rfl, ?_⟩
  simp only [go_sem, Nat.reduceAdd, Nat.reduceLeDiff, Nat.reduceSub, Int.reduceToNat, reduceCtorEq, Jn.H, Jn.cs]
  refine AQ.nx rfl ?_
  simp only [go_sem, Nat.reduceAdd, Nat.reduceLeDiff, Nat.reduceSub, Int.reduceToNat, reduceCtorEq]
  refine AQ.done ?_
  repeat (first | refine xA ?_ | refine xB ?_ | refine xC ?_ | refine xE ?_ | refine xD ?_ | refine xK ?_ | refine xS ?_ | refine xM ?_ | refine xT ?_ | refine xF ?_ | ((first | refine xR ?_ | refine xW ?_ | refine vq_id ?_); simp only [go_sem, Nat.reduceAdd, Nat.reduceLeDiff, Nat.reduceSub, Int.reduceToNat, reduceCtorEq]) | (refine ⟨by first | omega | (intros; simp_all; done) | (intros; simp_all; omega), ?_⟩; try simp only [go_sem, Nat.reduceAdd, Nat.reduceLeDiff, Nat.reduceSub, Int.reduceToNat, reduceCtorEq]))
  refine AE.rename 6 3 rfl rfl rfl ?_
  simp only [go_sem, Nat.reduceAdd, Nat.reduceLeDiff, Nat.reduceSub, Int.reduceToNat, reduceCtorEq]
  refine AE.rename 7 4 rfl rfl rfl ?_
  simp only [go_sem, Nat.reduceAdd, Nat.reduceLeDiff, Nat.reduceSub, Int.reduceToNat, reduceCtorEq]
  exact AE.ret rfl ⟨rfl, trivial⟩ ⟨rfl, rfl⟩
theorem append_nil (s : Bs) : PFn Try.prog 19 [.im (.v (.pointer none)), Sv s] (Iv 1) := by
  refine ACall.walk [0, 1, 4, 5, 7, 10, 14] [] Try.func19 rfl Try.ntmps19 (by kernel_rfl) (by rfl) rfl fun W own I0 φ0 => ?_
  repeat (first | refine xA ?_ | refine xB ?_ | refine xC ?_ | refine xE ?_ | refine xD ?_ | refine xK ?_ | refine xS ?_ | refine xM ?_ | refine xT ?_ | refine xF ?_ | ((first | refine xR ?_ | refine xW ?_ | refine vq_id ?_); simp only [go_sem, Nat.reduceAdd, Nat.reduceLeDiff, Nat.reduceSub, Int.reduceToNat, reduceCtorEq]) | (refine ⟨by first | omega | (intros; simp_all; done) | (intros; simp_all; omega), ?_⟩; try simp only [go_sem, Nat.reduceAdd, Nat.reduceLeDiff, Nat.reduceSub, Int.reduceToNat, reduceCtorEq]))
  exact AE.ret0 rfl ⟨rfl, trivial⟩ rfl ⟨rfl, rfl⟩
theorem commit_nil : PFn Try.prog 14 [.im (.v (.pointer none))] (Iv 1) := by
  refine ACall.walk [0, 2, 4] [] Try.func14 rfl Try.ntmps14 (by kernel_rfl) (by rfl) rfl fun W own I0 φ0 => ?_
  repeat (first | refine xA ?_ | refine xB ?_ | refine xC ?_ | refine xE ?_ | refine xD ?_ | refine xK ?_ | refine xS ?_ | refine xM ?_ | refine xT ?_ | refine xF ?_ | ((first | refine xR ?_ | refine xW ?_ | refine vq_id ?_); simp only [go_sem, Nat.reduceAdd, Nat.reduceLeDiff, Nat.reduceSub, Int.reduceToNat, reduceCtorEq]) | (refine ⟨by first | omega | (intros; simp_all; done) | (intros; simp_all; omega), ?_⟩; try simp only [go_sem, Nat.reduceAdd, Nat.reduceLeDiff, Nat.reduceSub, Int.reduceToNat, reduceCtorEq]))
  exact AE.ret0 rfl ⟨rfl, trivial⟩ rfl ⟨rfl, rfl⟩
theorem compact_nil (s : Bs) : PFn Try.prog 37 [.im (.v (.pointer none)), Sv s] (Iv 1) := by
  refine ACall.walk [0, 1, 4, 5, 6, 8, 11, 15] [] Try.func37 rfl Try.ntmps37 (by kernel_rfl) (by rfl) rfl fun W own I0 φ0 => ?_
  repeat (first | refine xA ?_ | refine xB ?_ | refine xC ?_ | refine xE ?_ | refine xD ?_ | refine xK ?_ | refine xS ?_ | refine xM ?_ | refine xT ?_ | refine xF ?_ | ((first | refine xR ?_ | refine xW ?_ | refine vq_id ?_); simp only [go_sem, Nat.reduceAdd, Nat.reduceLeDiff, Nat.reduceSub, Int.reduceToNat, reduceCtorEq]) | (refine ⟨by first | omega | (intros; simp_all; done) | (intros; simp_all; omega), ?_⟩; try simp only [go_sem, Nat.reduceAdd, Nat.reduceLeDiff, Nat.reduceSub, Int.reduceToNat, reduceCtorEq]))
  exact AE.ret0 rfl ⟨rfl, trivial⟩ rfl ⟨rfl, rfl⟩
def Jn.synced (x : Jn) : Jn := { x with B := x.D.syncD.B, W := [] }
theorem commit_ok (x : Jn) (hx : x.Sz) (hd : x.D.Ok) : ACall Try.prog 14 [.ob 0 0] (x.H 1 2) (fun r H' => H' = x.synced.H 3 2 ∧ r = Iv 0) := by
  obtain ⟨hb, hhf, hu, hf, hl, hn, hn1, hw, hr⟩ := hx
  have hs := sync_okN x.D ⟨by simp only; omega, by simp only; omega⟩ hd
  obtain ⟨Z, hZ⟩ : ∃ Z, x.D.syncD.B = Z := ⟨_, rfl⟩
  obtain ⟨Z2, hZ2⟩ : ∃ Z2, x.synced = Z2 := ⟨_, rfl⟩
  rw [hZ2]
  rw [hZ] at hs
  have hZ3 : Z2 = { x with B := Z, W := [] } := by rw [← hZ2, Jn.synced, hZ]
  subst hZ3
  simp only [go_sem, Nat.reduceAdd, Nat.reduceLeDiff, Nat.reduceSub, Int.reduceToNat, reduceCtorEq, Jn.H, Jn.cs]
  refine ACall.walk [0, 2, 4] [] Try.func14 rfl Try.ntmps14 (by kernel_rfl) (by rfl) rfl fun W own I0 φ0 => ?_
  repeat (first | refine xA ?_ | refine xB ?_ | refine xC ?_ | refine xE ?_ | refine xD ?_ | refine xK ?_ | refine xS ?_ | refine xM ?_ | refine xT ?_ | refine xF ?_ | ((first | refine xR ?_ | refine xW ?_ | refine vq_id ?_); simp only [go_sem, Nat.reduceAdd, Nat.reduceLeDiff, Nat.reduceSub, Int.reduceToNat, reduceCtorEq]) | (refine ⟨by first | omega | (intros; simp_all; done) | (intros; simp_all; omega), ?_⟩; try simp only [go_sem, Nat.reduceAdd, Nat.reduceLeDiff, Nat.reduceSub, Int.reduceToNat, reduceCtorEq]))
  refine AQ.freeze 1 (el := 97) (es := 2) (rows := wrR x.W) rfl (by simp only [go_sem, Nat.reduceAdd, Nat.reduceLeDiff, Nat.reduceSub, Int.reduceToNat, reduceCtorEq]; exact Nat.le_of_eq (wrR_len _).symm) (by simp only [go_sem, Nat.reduceAdd, Nat.reduceLeDiff, Nat.reduceSub, Int.reduceToNat, reduceCtorEq]; exact Nat.le_of_eq (wrR_len _).symm) ?_
  simp only [go_sem, Nat.reduceAdd, Nat.reduceLeDiff, Nat.reduceSub, Int.reduceToNat, reduceCtorEq]
  rw [take_all' (wrR x.W) _ (Nat.le_of_eq (wrR_len _))]
  refine AQ.fn (by kernel_rfl) rfl rfl rfl (hs) rfl ?_
  simp only [go_sem, Nat.reduceAdd, Nat.reduceLeDiff, Nat.reduceSub, Int.reduceToNat, reduceCtorEq]
  repeat (first | refine xA ?_ | refine xB ?_ | refine xC ?_ | refine xE ?_ | refine xD ?_ | refine xK ?_ | refine xS ?_ | refine xM ?_ | refine xT ?_ | refine xF ?_ | ((first | refine xR ?_ | refine xW ?_ | refine vq_id ?_); simp only [go_sem, Nat.reduceAdd, Nat.reduceLeDiff, Nat.reduceSub, Int.reduceToNat, reduceCtorEq]) | (refine ⟨by first | omega | (intros; simp_all; done) | (intros; simp_all; omega), ?_⟩; try simp only [go_sem, Nat.reduceAdd, Nat.reduceLeDiff, Nat.reduceSub, Int.reduceToNat, reduceCtorEq]))
  refine AE.ownCell 0 1 97 2 rfl rfl ?_
  simp only [go_sem, Nat.reduceAdd, Nat.reduceLeDiff, Nat.reduceSub, Int.reduceToNat, reduceCtorEq]
  refine AE.order [2, 3, 0] rfl ?_
  simp only [go_sem, Nat.reduceAdd, Nat.reduceLeDiff, Nat.reduceSub, Int.reduceToNat, reduceCtorEq]
  exact AE.ret rfl ⟨rfl, trivial⟩ ⟨rfl, rfl⟩
end Go.Proofs.Ytoafanbfminhcaa
end

section
namespace Go.Proofs.Ytoafanbfminhcaa
open Go Go.AL Go.RowKit
set_option maxRecDepth 10000
set_option maxHeartbeats 4000000
def Jn.compE (x : Jn) (s : Bs) : Int := if 10000 < s.length then 4 else if x.B.length / 2 < nparts s ∨ 4294967296 < x.next + nparts s then 8 else 0
theorem compact_long (x : Jn) (s : Bs) (hx : x.Sz) (h : 10000 < s.length) (hs : s.length ≤ 1000000) : ACall Try.prog 37 [.ob 0 0, Sv s] (x.H 1 2) (fun r H' => H' = x.H 1 2 ∧ r = Iv 4) := by
  simp only [go_sem, Nat.reduceAdd, Nat.reduceLeDiff, Nat.reduceSub, Int.reduceToNat, reduceCtorEq, Jn.H, Jn.cs]
  refine ACall.walk [0, 1, 4, 5, 6, 8, 11, 15] [] Try.func37 rfl Try.ntmps37 (by kernel_rfl) (by rfl) rfl fun W own I0 φ0 => ?_
  repeat (first | refine xA ?_ | refine xB ?_ | refine xC ?_ | refine xE ?_ | refine xD ?_ | refine xK ?_ | refine xS ?_ | refine xM ?_ | refine xT ?_ | refine xF ?_ | ((first | refine xR ?_ | refine xW ?_ | refine vq_id ?_); simp only [go_sem, Nat.reduceAdd, Nat.reduceLeDiff, Nat.reduceSub, Int.reduceToNat, reduceCtorEq]) | (refine ⟨by first | omega | (intros; simp_all; done) | (intros; simp_all; omega), ?_⟩; try simp only [go_sem, Nat.reduceAdd, Nat.reduceLeDiff, Nat.reduceSub, Int.reduceToNat, reduceCtorEq]))
  refine AQ.fn (by kernel_rfl) rfl rfl rfl (blocksOf_spec s (by omega)) rfl ?_
  repeat (first | refine xA ?_ | refine xB ?_ | refine xC ?_ | refine xE ?_ | refine xD ?_ | refine xK ?_ | refine xS ?_ | refine xM ?_ | refine xT ?_ | refine xF ?_ | ((first | refine xR ?_ | refine xW ?_ | refine vq_id ?_); simp only [go_sem, Nat.reduceAdd, Nat.reduceLeDiff, Nat.reduceSub, Int.reduceToNat, reduceCtorEq, BA_size]) | (refine ⟨by first | omega | (intros; simp_all; done) | (intros; simp_all; omega), ?_⟩; try simp only [go_sem, Nat.reduceAdd, Nat.reduceLeDiff, Nat.reduceSub, Int.reduceToNat, reduceCtorEq, BA_size]))
  refine AP.cond_true rfl (by simp only [go_sem, Nat.reduceAdd, Nat.reduceLeDiff, Nat.reduceSub, Int.reduceToNat, reduceCtorEq]; refine congrArg (fun b => some (AV.im (IV.v (Value.bool b)))) ?_; (first | (simp only [Bool.or_eq_true, Bool.and_eq_true, Bool.not_eq_true', Bool.not_eq_false', Bool.and_eq_false_iff, Bool.or_eq_false_iff, decide_eq_true_eq, decide_eq_false_iff_not, beq_iff_eq, bne_iff_ne, beq_eq_false_iff_ne, bne_eq_false_iff_eq, ne_eq]; omega) | (simp; done) | (simp; omega) | (simp_all; done) | (simp_all; omega))) ?_
  repeat (first | refine xA ?_ | refine xB ?_ | refine xC ?_ | refine xE ?_ | refine xD ?_ | refine xK ?_ | refine xS ?_ | refine xM ?_ | refine xT ?_ | refine xF ?_ | ((first | refine xR ?_ | refine xW ?_ | refine vq_id ?_); simp only [go_sem, Nat.reduceAdd, Nat.reduceLeDiff, Nat.reduceSub, Int.reduceToNat, reduceCtorEq]) | (refine ⟨by first | omega | (intros; simp_all; done) | (intros; simp_all; omega), ?_⟩; try simp only [go_sem, Nat.reduceAdd, Nat.reduceLeDiff, Nat.reduceSub, Int.reduceToNat, reduceCtorEq]))
  exact AE.ret rfl ⟨rfl, trivial⟩ ⟨rfl, rfl⟩
theorem compact_full (x : Jn) (s : Bs) (hx : x.Sz) (h : x.compE s = 8) : ACall Try.prog 37 [.ob 0 0, Sv s] (x.H 1 2) (fun r H' => H' = x.H 1 2 ∧ r = Iv 8) := by
  obtain ⟨hb, hhf, hu, hf, hl, hn, hn1, hw, hr⟩ := hx
  unfold Jn.compE at h
  split at h
  · cases h
  rename_i hs
  split at h
  rename_i hc
  case isFalse => cases h
  have hnp := nparts_le s (by omega)
  have hh1 := nparts_pos s
  have hsz := size_spec x.B (x.ic.drop 1) (by omega)
  obtain ⟨B, W', half', recs, used, first, last, next⟩ := x
  simp only at hb hhf hu hf hl hn hn1 hw hr hs hc hsz
  have w2 := wr (x := (next : Int) + (nparts s : Int)) (by omega)
  have w3 := wr (x := (next : Int) + (nparts s : Int) - 1) (by omega)
  have w5 := wr (x := (nparts s : Int)) (by omega)
  simp only [go_sem, Nat.reduceAdd, Nat.reduceLeDiff, Nat.reduceSub, Int.reduceToNat, reduceCtorEq, Jn.H, Jn.cs]
  refine ACall.walk [0, 1, 4, 5, 6, 8, 11, 15] [] Try.func37 rfl Try.ntmps37 (by kernel_rfl) (by rfl) rfl fun W own I0 φ0 => ?_
  repeat (first | refine xA ?_ | refine xB ?_ | refine xC ?_ | refine xE ?_ | refine xD ?_ | refine xK ?_ | refine xS ?_ | refine xM ?_ | refine xT ?_ | refine xF ?_ | ((first | refine xR ?_ | refine xW ?_ | refine vq_id ?_); simp only [go_sem, Nat.reduceAdd, Nat.reduceLeDiff, Nat.reduceSub, Int.reduceToNat, reduceCtorEq]) | (refine ⟨by first | omega | (intros; simp_all; done) | (intros; simp_all; omega), ?_⟩; try simp only [go_sem, Nat.reduceAdd, Nat.reduceLeDiff, Nat.reduceSub, Int.reduceToNat, reduceCtorEq]))
  refine AQ.fn (by kernel_rfl) rfl rfl rfl (blocksOf_spec s (by omega)) rfl ?_
  repeat (first | refine xA ?_ | refine xB ?_ | refine xC ?_ | refine xE ?_ | refine xD ?_ | refine xK ?_ | refine xS ?_ | refine xM ?_ | refine xT ?_ | refine xF ?_ | ((first | refine xR ?_ | refine xW ?_ | refine vq_id ?_); simp only [go_sem, Nat.reduceAdd, Nat.reduceLeDiff, Nat.reduceSub, Int.reduceToNat, reduceCtorEq, BA_size]) | (refine ⟨by first | omega | (intros; simp_all; done) | (intros; simp_all; omega), ?_⟩; try simp only [go_sem, Nat.reduceAdd, Nat.reduceLeDiff, Nat.reduceSub, Int.reduceToNat, reduceCtorEq, BA_size]))
  refine AP.cond_false rfl (by simp only [go_sem, Nat.reduceAdd, Nat.reduceLeDiff, Nat.reduceSub, Int.reduceToNat, reduceCtorEq]; refine congrArg (fun b => some (AV.im (IV.v (Value.bool b)))) ?_; (first | (simp only [Bool.or_eq_true, Bool.and_eq_true, Bool.not_eq_true', Bool.not_eq_false', Bool.and_eq_false_iff, Bool.or_eq_false_iff, decide_eq_true_eq, decide_eq_false_iff_not, beq_iff_eq, bne_iff_ne, beq_eq_false_iff_ne, bne_eq_false_iff_eq, ne_eq]; omega) | (simp; done) | (simp; omega) | (simp_all; done) | (simp_all; omega))) ?_
  repeat (first | refine xA ?_ | refine xB ?_ | refine xC ?_ | refine xE ?_ | refine xD ?_ | refine xK ?_ | refine xS ?_ | refine xM ?_ | refine xT ?_ | refine xF ?_ | ((first | refine xR ?_ | refine xW ?_ | refine vq_id ?_); simp only [go_sem, Nat.reduceAdd, Nat.reduceLeDiff, Nat.reduceSub, Int.reduceToNat, reduceCtorEq, BA_size]) | (refine ⟨by first | omega | (intros; simp_all; done) | (intros; simp_all; omega), ?_⟩; try simp only [go_sem, Nat.reduceAdd, Nat.reduceLeDiff, Nat.reduceSub, Int.reduceToNat, reduceCtorEq, BA_size]))
  refine AQ.fnL ([.im (.pt (Jn.ic ⟨B, W', half', recs, used, first, last, next⟩))]) (by kernel_rfl) rfl rfl rfl (by ((try simp only [List.nil_append, List.append_nil, List.map_cons, List.map_nil, AV.st, constAV]); repeat (first | with_reducible exact LentC.nil | with_reducible exact LentAs.nil | with_reducible refine LentC.cons ?_ ?_ | with_reducible refine LentAs.cons ?_ ?_ | with_reducible exact Lent.im _ | with_reducible exact LentA.im _ | with_reducible refine LentA.of ?_ | with_reducible refine LentA.agg ?_ | ((with_reducible apply Lent.osw); rfl; simp only [blkR_len, wrR_len, byteR_len, List.length_append, List.length_cons, List.length_nil]) | ((with_reducible apply Lent.ob0); rfl)))) (hsz) rfl (fun _ => rfl) ?_
  simp only [go_sem, Nat.reduceAdd, Nat.reduceLeDiff, Nat.reduceSub, Int.reduceToNat, reduceCtorEq, w2, w3, w5]
  repeat (first | refine xA ?_ | refine xB ?_ | refine xC ?_ | refine xE ?_ | refine xD ?_ | refine xK ?_ | refine xS ?_ | refine xM ?_ | refine xT ?_ | refine xF ?_ | ((first | refine xR ?_ | refine xW ?_ | refine vq_id ?_); simp only [go_sem, Nat.reduceAdd, Nat.reduceLeDiff, Nat.reduceSub, Int.reduceToNat, reduceCtorEq, w2, w3, w5]) | (refine ⟨by first | omega | (intros; simp_all; done) | (intros; simp_all; omega), ?_⟩; try simp only [go_sem, Nat.reduceAdd, Nat.reduceLeDiff, Nat.reduceSub, Int.reduceToNat, reduceCtorEq, w2, w3, w5]))
  refine AP.cond_true rfl (by simp only [go_sem, Nat.reduceAdd, Nat.reduceLeDiff, Nat.reduceSub, Int.reduceToNat, reduceCtorEq]; refine congrArg (fun b => some (AV.im (IV.v (Value.bool b)))) ?_; (first | (simp only [Bool.or_eq_true, Bool.and_eq_true, Bool.not_eq_true', Bool.not_eq_false', Bool.and_eq_false_iff, Bool.or_eq_false_iff, decide_eq_true_eq, decide_eq_false_iff_not, beq_iff_eq, bne_iff_ne, beq_eq_false_iff_ne, bne_eq_false_iff_eq, ne_eq]; omega) | (simp; done) | (simp; omega) | (simp_all; done) | (simp_all; omega))) ?_
  repeat (first | refine xA ?_ | refine xB ?_ | refine xC ?_ | refine xE ?_ | refine xD ?_ | refine xK ?_ | refine xS ?_ | refine xM ?_ | refine xT ?_ | refine xF ?_ | ((first | refine xR ?_ | refine xW ?_ | refine vq_id ?_); simp only [go_sem, Nat.reduceAdd, Nat.reduceLeDiff, Nat.reduceSub, Int.reduceToNat, reduceCtorEq]) | (refine ⟨by first | omega | (intros; simp_all; done) | (intros; simp_all; omega), ?_⟩; try simp only [go_sem, Nat.reduceAdd, Nat.reduceLeDiff, Nat.reduceSub, Int.reduceToNat, reduceCtorEq]))
  exact AE.ret rfl ⟨rfl, trivial⟩ ⟨rfl, rfl⟩
def Jn.comp0 (x : Jn) : Jn := ⟨x.D.syncD.B, [], 1 - x.half, [], 0, x.next, 0, x.next⟩
theorem compact_ok (x : Jn) (half : Nat) (s : Bs) (hx : x.Sz) (hd : x.D.Ok) (hh : 1 - x.half = (half : Int)) (h : x.compE s = 0) : ACall Try.prog 37 [.ob 0 0, Sv s] (x.H 1 2) (fun r H' => H' = (x.comp0.wrote half 0 0 s).H 3 4 ∧ r = Iv 0) := by
  obtain ⟨hb, hhf, hu, hf, hl, hn, hn1, hw, hr⟩ := hx
  have hs' := sync_okN x.D ⟨by simp only; omega, by simp only; omega⟩ hd
  have hlen : x.D.syncD.B.length = x.B.length := syncD_len x.D ((x.D.chk_ok).2 hd)
  unfold Jn.compE at h
  split at h
  · cases h
  rename_i hs
  split at h
  · cases h
  rename_i hc
  have hnp := nparts_le s (by omega)
  have hh1 := nparts_pos s
  have hsz := size_spec x.B (x.ic.drop 1) (by omega)
  have hwr := write_spec x.comp0 half 0 0 s (by omega) (by rw [Jn.comp0, hlen]; omega) (by omega) (by omega) (by rw [Jn.comp0]; simp only; omega) (by omega) (by simp [Jn.comp0]) (by simp [Jn.comp0])
  obtain ⟨Z, hZ⟩ : ∃ Z, (x.comp0.wrote half 0 0 s) = Z := ⟨_, rfl⟩
  rw [hZ] at hwr ⊢
  unfold Jn.comp0 at hwr
  rw [hh] at hwr
  obtain ⟨S, hS⟩ : ∃ S, x.D.syncD.B = S := ⟨_, rfl⟩
  rw [hS] at hwr hs'
  obtain ⟨B, W', half', recs, used, first, last, next⟩ := x
  simp only at hb hhf hu hf hl hn hn1 hw hr hs hc hsz hh hwr hs'
  have w2 := wr (x := (next : Int) + (nparts s : Int)) (by omega)
  have w3 := wr (x := (next : Int) + (nparts s : Int) - 1) (by omega)
  have w5 := wr (x := (nparts s : Int)) (by omega)
  have w7 := wr (x := (half : Int)) (by omega)
  have w6 := wr (x := (1 : Int) - half') (by omega)
  simp only [go_sem, Nat.reduceAdd, Nat.reduceLeDiff, Nat.reduceSub, Int.reduceToNat, reduceCtorEq, Jn.H, Jn.cs]
  refine ACall.walk [0, 1, 4, 5, 6, 8, 11, 15] [] Try.func37 rfl Try.ntmps37 (by kernel_rfl) (by rfl) rfl fun W own I0 φ0 => ?_
  repeat (first | refine xA ?_ | refine xB ?_ | refine xC ?_ | refine xE ?_ | refine xD ?_ | refine xK ?_ | refine xS ?_ | refine xM ?_ | refine xT ?_ | refine xF ?_ | ((first | refine xR ?_ | refine xW ?_ | refine vq_id ?_); simp only [go_sem, Nat.reduceAdd, Nat.reduceLeDiff, Nat.reduceSub, Int.reduceToNat, reduceCtorEq]) | (refine ⟨by first | omega | (intros; simp_all; done) | (intros; simp_all; omega), ?_⟩; try simp only [go_sem, Nat.reduceAdd, Nat.reduceLeDiff, Nat.reduceSub, Int.reduceToNat, reduceCtorEq]))
  refine AQ.fn (by kernel_rfl) rfl rfl rfl (blocksOf_spec s (by omega)) rfl ?_
  repeat (first | refine xA ?_ | refine xB ?_ | refine xC ?_ | refine xE ?_ | refine xD ?_ | refine xK ?_ | refine xS ?_ | refine xM ?_ | refine xT ?_ | refine xF ?_ | ((first | refine xR ?_ | refine xW ?_ | refine vq_id ?_); simp only [go_sem, Nat.reduceAdd, Nat.reduceLeDiff, Nat.reduceSub, Int.reduceToNat, reduceCtorEq, BA_size]) | (refine ⟨by first | omega | (intros; simp_all; done) | (intros; simp_all; omega), ?_⟩; try simp only [go_sem, Nat.reduceAdd, Nat.reduceLeDiff, Nat.reduceSub, Int.reduceToNat, reduceCtorEq, BA_size]))
  refine AP.cond_false rfl (by simp only [go_sem, Nat.reduceAdd, Nat.reduceLeDiff, Nat.reduceSub, Int.reduceToNat, reduceCtorEq]; refine congrArg (fun b => some (AV.im (IV.v (Value.bool b)))) ?_; (first | (simp only [Bool.or_eq_true, Bool.and_eq_true, Bool.not_eq_true', Bool.not_eq_false', Bool.and_eq_false_iff, Bool.or_eq_false_iff, decide_eq_true_eq, decide_eq_false_iff_not, beq_iff_eq, bne_iff_ne, beq_eq_false_iff_ne, bne_eq_false_iff_eq, ne_eq]; omega) | (simp; done) | (simp; omega) | (simp_all; done) | (simp_all; omega))) ?_
  repeat (first | refine xA ?_ | refine xB ?_ | refine xC ?_ | refine xE ?_ | refine xD ?_ | refine xK ?_ | refine xS ?_ | refine xM ?_ | refine xT ?_ | refine xF ?_ | ((first | refine xR ?_ | refine xW ?_ | refine vq_id ?_); simp only [go_sem, Nat.reduceAdd, Nat.reduceLeDiff, Nat.reduceSub, Int.reduceToNat, reduceCtorEq, BA_size]) | (refine ⟨by first | omega | (intros; simp_all; done) | (intros; simp_all; omega), ?_⟩; try simp only [go_sem, Nat.reduceAdd, Nat.reduceLeDiff, Nat.reduceSub, Int.reduceToNat, reduceCtorEq, BA_size]))
  refine AQ.fnL ([.im (.pt (Jn.ic ⟨B, W', half', recs, used, first, last, next⟩))]) (by kernel_rfl) rfl rfl rfl (by ((try simp only [List.nil_append, List.append_nil, List.map_cons, List.map_nil, AV.st, constAV]); repeat (first | with_reducible exact LentC.nil | with_reducible exact LentAs.nil | with_reducible refine LentC.cons ?_ ?_ | with_reducible refine LentAs.cons ?_ ?_ | with_reducible exact Lent.im _ | with_reducible exact LentA.im _ | with_reducible refine LentA.of ?_ | with_reducible refine LentA.agg ?_ | ((with_reducible apply Lent.osw); rfl; simp only [blkR_len, wrR_len, byteR_len, List.length_append, List.length_cons, List.length_nil]) | ((with_reducible apply Lent.ob0); rfl)))) (hsz) rfl (fun _ => rfl) ?_
  simp only [go_sem, Nat.reduceAdd, Nat.reduceLeDiff, Nat.reduceSub, Int.reduceToNat, reduceCtorEq, w2, w3, w5]
  repeat (first | refine xA ?_ | refine xB ?_ | refine xC ?_ | refine xE ?_ | refine xD ?_ | refine xK ?_ | refine xS ?_ | refine xM ?_ | refine xT ?_ | refine xF ?_ | ((first | refine xR ?_ | refine xW ?_ | refine vq_id ?_); simp only [go_sem, Nat.reduceAdd, Nat.reduceLeDiff, Nat.reduceSub, Int.reduceToNat, reduceCtorEq, w2, w3, w5]) | (refine ⟨by first | omega | (intros; simp_all; done) | (intros; simp_all; omega), ?_⟩; try simp only [go_sem, Nat.reduceAdd, Nat.reduceLeDiff, Nat.reduceSub, Int.reduceToNat, reduceCtorEq, w2, w3, w5]))
  refine AP.cond_false rfl (by simp only [go_sem, Nat.reduceAdd, Nat.reduceLeDiff, Nat.reduceSub, Int.reduceToNat, reduceCtorEq]; refine congrArg (fun b => some (AV.im (IV.v (Value.bool b)))) ?_; (first | (simp only [Bool.or_eq_true, Bool.and_eq_true, Bool.not_eq_true', Bool.not_eq_false', Bool.and_eq_false_iff, Bool.or_eq_false_iff, decide_eq_true_eq, decide_eq_false_iff_not, beq_iff_eq, bne_iff_ne, beq_eq_false_iff_ne, bne_eq_false_iff_eq, ne_eq]; omega) | (simp; done) | (simp; omega) | (simp_all; done) | (simp_all; omega))) ?_
  repeat (first | refine xA ?_ | refine xB ?_ | refine xC ?_ | refine xE ?_ | refine xD ?_ | refine xK ?_ | refine xS ?_ | refine xM ?_ | refine xT ?_ | refine xF ?_ | ((first | refine xR ?_ | refine xW ?_ | refine vq_id ?_); simp only [go_sem, Nat.reduceAdd, Nat.reduceLeDiff, Nat.reduceSub, Int.reduceToNat, reduceCtorEq]) | (refine ⟨by first | omega | (intros; simp_all; done) | (intros; simp_all; omega), ?_⟩; try simp only [go_sem, Nat.reduceAdd, Nat.reduceLeDiff, Nat.reduceSub, Int.reduceToNat, reduceCtorEq]))
  refine AQ.freeze 1 (el := 97) (es := 2) (rows := wrR W') rfl (by simp only [go_sem, Nat.reduceAdd, Nat.reduceLeDiff, Nat.reduceSub, Int.reduceToNat, reduceCtorEq]; exact Nat.le_of_eq (wrR_len _).symm) (by simp only [go_sem, Nat.reduceAdd, Nat.reduceLeDiff, Nat.reduceSub, Int.reduceToNat, reduceCtorEq]; exact Nat.le_of_eq (wrR_len _).symm) ?_
  simp only [go_sem, Nat.reduceAdd, Nat.reduceLeDiff, Nat.reduceSub, Int.reduceToNat, reduceCtorEq]
  rw [take_all' (wrR W') _ (Nat.le_of_eq (wrR_len _))]
  refine AQ.fn (by kernel_rfl) rfl rfl rfl (hs') rfl ?_
  simp only [go_sem, Nat.reduceAdd, Nat.reduceLeDiff, Nat.reduceSub, Int.reduceToNat, reduceCtorEq]
  repeat (first | refine xA ?_ | refine xB ?_ | refine xC ?_ | refine xE ?_ | refine xD ?_ | refine xK ?_ | refine xS ?_ | refine xM ?_ | refine xT ?_ | refine xF ?_ | ((first | refine xR ?_ | refine xW ?_ | refine vq_id ?_); simp only [go_sem, Nat.reduceAdd, Nat.reduceLeDiff, Nat.reduceSub, Int.reduceToNat, reduceCtorEq, w6, hh, w7]) | (refine ⟨by first | omega | (intros; simp_all; done) | (intros; simp_all; omega), ?_⟩; try simp only [go_sem, Nat.reduceAdd, Nat.reduceLeDiff, Nat.reduceSub, Int.reduceToNat, reduceCtorEq, w6, hh, w7]))
  refine AQ.ownCell 0 1 97 2 rfl rfl ?_
  simp only [go_sem, Nat.reduceAdd, Nat.reduceLeDiff, Nat.reduceSub, Int.reduceToNat, reduceCtorEq]
  refine AQ.ownCell 0 3 9 1 rfl rfl ?_
  simp only [go_sem, Nat.reduceAdd, Nat.reduceLeDiff, Nat.reduceSub, Int.reduceToNat, reduceCtorEq]
  refine AQ.callH [(2, 4), (1, 3), (0, 0)] (by kernel_rfl) rfl rfl rfl rfl rfl rfl (by exact ⟨rfl, rfl, rfl, trivial⟩) rfl hwr ?_
  rintro r H1 ⟨rfl, rfl⟩
  refine ⟨rfl, ?_⟩
  simp only [go_sem, Nat.reduceAdd, Nat.reduceLeDiff, Nat.reduceSub, Int.reduceToNat, reduceCtorEq, Jn.H, Jn.cs]
  repeat (first | refine xA ?_ | refine xB ?_ | refine xC ?_ | refine xE ?_ | refine xD ?_ | refine xK ?_ | refine xS ?_ | refine xM ?_ | refine xT ?_ | refine xF ?_ | ((first | refine xR ?_ | refine xW ?_ | refine vq_id ?_); simp only [go_sem, Nat.reduceAdd, Nat.reduceLeDiff, Nat.reduceSub, Int.reduceToNat, reduceCtorEq]) | (refine ⟨by first | omega | (intros; simp_all; done) | (intros; simp_all; omega), ?_⟩; try simp only [go_sem, Nat.reduceAdd, Nat.reduceLeDiff, Nat.reduceSub, Int.reduceToNat, reduceCtorEq]))
  refine AE.forgets [2] rfl ?_
  simp only [go_sem, Nat.reduceAdd, Nat.reduceLeDiff, Nat.reduceSub, Int.reduceToNat, reduceCtorEq]
  refine AE.rename 8 3 rfl rfl rfl ?_
  simp only [go_sem, Nat.reduceAdd, Nat.reduceLeDiff, Nat.reduceSub, Int.reduceToNat, reduceCtorEq]
  refine AE.rename 9 4 rfl rfl rfl ?_
  simp only [go_sem, Nat.reduceAdd, Nat.reduceLeDiff, Nat.reduceSub, Int.reduceToNat, reduceCtorEq]
  exact AE.ret rfl ⟨rfl, trivial⟩ ⟨rfl, rfl⟩
end Go.Proofs.Ytoafanbfminhcaa
end
