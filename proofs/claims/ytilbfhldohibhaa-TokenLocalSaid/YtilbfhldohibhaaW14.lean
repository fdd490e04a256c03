import Derived.Test.YtilbfhldohibhaaW13
import Derived.Test.YtilbfhldohibhaaW9
set_option linter.unusedSimpArgs false
set_option linter.unusedVariables false
set_option linter.unnecessarySimpa false
namespace Go.Proofs.Ytilbfhldohibhaa
open Go Go.AL Go.RowKit
set_option maxRecDepth 10000
set_option maxHeartbeats 4000000
def scanT (t : List UInt8) : List Tok := if 40000 < t.length then [] else if okT t then toks t 0 else []
def scanA (t : List UInt8) : Int := if 40000 < t.length then 0 else if okT t then 0 else badAt t
def scanE (t : List UInt8) : Int := if 40000 < t.length then 4 else if okT t then 0 else 30
def scanR (t : List UInt8) : AV := .tup [.im (.sl 2 (tokRows (scanT t))), Iv (scanA t), Iv (scanE t)]
theorem scanOf_eq (t : List UInt8) (h : t.length ≤ 7000) : scanOf t = scanR t := by
  have : ¬ 40000 < t.length := by omega
  unfold scanOf scanR scanT scanA scanE
  cases okT t <;> simp [this] <;> rfl
theorem scan1 (t : List UInt8) (ht : t.length ≤ 7000 ∨ 40000 < t.length) : PFn Try.prog 10 [Sv t] (.tup [.im (.sl 2 (tokRows (scanT t))), Iv (scanA t), Iv (scanE t)]) := by
  rcases ht with ht | ht
  · have := scan_spec t ht
    rw [scanOf_eq t ht] at this
    exact this
  · refine ACall.walk [0, 2, 3, 4, 5, 6, 7, 8, 9, 12, 15, 16, 17, 24, 38, 41, 46, 63] [5] Try.func10 rfl Try.ntmps10 (by kernel_rfl) (by rfl) rfl fun w own I0 φ0 => ?_
    repeat (first | refine AP.seq rfl ?_ | refine AE.seq ?_ | refine AP.block rfl ?_ | refine AP.scope rfl ?_ | refine AP.label rfl ?_ | refine AE.sc ?_ | refine AE.sc_exit ?_ | refine AE.sc_ret ?_ | refine AP.skip rfl ?_ | refine AP.ret rfl ?_ | refine AP.exit rfl ?_ | refine AE.seq_exit ?_ | refine AE.seq_ret ?_ | refine AE.blk ?_ | refine AE.blk_exit ?_ | refine AE.blk_exit_ne rfl ?_ | refine AE.blk_ret ?_ | refine AE.lp_exit ?_ | refine AE.lp_ret ?_ | refine AQ.done ?_ | refine AP.cond_true rfl rfl ?_ | refine AP.cond_false rfl rfl ?_ | (refine AP.region rfl (by kernel_rfl) ?_; simp only [go_sem, Nat.reduceAdd, reduceCtorEq]) | (refine vq_id ?_; simp only [go_sem, Nat.reduceAdd, reduceCtorEq]) | (refine ⟨by first | omega | (intros; simp_all; done) | (intros; simp_all; omega), ?_⟩; try simp only [go_sem, Nat.reduceAdd, reduceCtorEq]))
    have h1 : ((40000 : Int) < t.length) := by omega
    refine AP.cond_true rfl (by rw [← decide_eq_true h1]; rfl) ?_
    repeat (first | refine AP.seq rfl ?_ | refine AE.seq ?_ | refine AP.block rfl ?_ | refine AP.scope rfl ?_ | refine AP.label rfl ?_ | refine AE.sc ?_ | refine AE.sc_exit ?_ | refine AE.sc_ret ?_ | refine AP.skip rfl ?_ | refine AP.ret rfl ?_ | refine AP.exit rfl ?_ | refine AE.seq_exit ?_ | refine AE.seq_ret ?_ | refine AE.blk ?_ | refine AE.blk_exit ?_ | refine AE.blk_exit_ne rfl ?_ | refine AE.blk_ret ?_ | refine AE.lp_exit ?_ | refine AE.lp_ret ?_ | refine AQ.done ?_ | refine AP.cond_true rfl rfl ?_ | refine AP.cond_false rfl rfl ?_ | (refine AP.region rfl (by kernel_rfl) ?_; simp only [go_sem, Nat.reduceAdd, reduceCtorEq]) | (refine vq_id ?_; simp only [go_sem, Nat.reduceAdd, reduceCtorEq]) | (refine ⟨by first | omega | (intros; simp_all; done) | (intros; simp_all; omega), ?_⟩; try simp only [go_sem, Nat.reduceAdd, reduceCtorEq]))
    refine AE.nilsl 2 2 rfl ?_
    refine AE.ret0 rfl ⟨rfl, rfl, rfl, trivial⟩ rfl ⟨rfl, ?_⟩
    simp only [scanT, scanA, scanE, if_pos ht]; rfl
theorem scan2 (t : List UInt8) (ht : t.length ≤ 7000 ∨ 40000 < t.length) : PFn Try.prog 14 [Sv t] (.tup [.im (.sl 2 (tokRows (scanT t))), Iv (scanA t), Iv (scanE t)]) := by
  rcases ht with ht | ht
  · have := scan_ref t ht
    rw [scanOf_eq t ht] at this
    exact this
  · refine ACall.walk [0, 2, 3, 4, 5, 6, 7, 8, 11, 15, 29, 35, 39, 52, 57] [] Try.func14 rfl Try.ntmps14 (by kernel_rfl) (by rfl) rfl fun w own I0 φ0 => ?_
    repeat (first | refine AP.seq rfl ?_ | refine AE.seq ?_ | refine AP.block rfl ?_ | refine AP.scope rfl ?_ | refine AP.label rfl ?_ | refine AE.sc ?_ | refine AE.sc_exit ?_ | refine AE.sc_ret ?_ | refine AP.skip rfl ?_ | refine AP.ret rfl ?_ | refine AP.exit rfl ?_ | refine AE.seq_exit ?_ | refine AE.seq_ret ?_ | refine AE.blk ?_ | refine AE.blk_exit ?_ | refine AE.blk_exit_ne rfl ?_ | refine AE.blk_ret ?_ | refine AE.lp_exit ?_ | refine AE.lp_ret ?_ | refine AQ.done ?_ | refine AP.cond_true rfl rfl ?_ | refine AP.cond_false rfl rfl ?_ | (refine AP.region rfl (by kernel_rfl) ?_; simp only [go_sem, Nat.reduceAdd, reduceCtorEq]) | (refine vq_id ?_; simp only [go_sem, Nat.reduceAdd, reduceCtorEq]) | (refine ⟨by first | omega | (intros; simp_all; done) | (intros; simp_all; omega), ?_⟩; try simp only [go_sem, Nat.reduceAdd, reduceCtorEq]))
    have h1 : ((40000 : Int) < t.length) := by omega
    refine AP.cond_true rfl (by rw [← decide_eq_true h1]; rfl) ?_
    repeat (first | refine AP.seq rfl ?_ | refine AE.seq ?_ | refine AP.block rfl ?_ | refine AP.scope rfl ?_ | refine AP.label rfl ?_ | refine AE.sc ?_ | refine AE.sc_exit ?_ | refine AE.sc_ret ?_ | refine AP.skip rfl ?_ | refine AP.ret rfl ?_ | refine AP.exit rfl ?_ | refine AE.seq_exit ?_ | refine AE.seq_ret ?_ | refine AE.blk ?_ | refine AE.blk_exit ?_ | refine AE.blk_exit_ne rfl ?_ | refine AE.blk_ret ?_ | refine AE.lp_exit ?_ | refine AE.lp_ret ?_ | refine AQ.done ?_ | refine AP.cond_true rfl rfl ?_ | refine AP.cond_false rfl rfl ?_ | (refine AP.region rfl (by kernel_rfl) ?_; simp only [go_sem, Nat.reduceAdd, reduceCtorEq]) | (refine vq_id ?_; simp only [go_sem, Nat.reduceAdd, reduceCtorEq]) | (refine ⟨by first | omega | (intros; simp_all; done) | (intros; simp_all; omega), ?_⟩; try simp only [go_sem, Nat.reduceAdd, reduceCtorEq]))
    refine AE.nilsl 2 2 rfl ?_
    refine AE.ret0 rfl ⟨rfl, rfl, rfl, trivial⟩ rfl ⟨rfl, ?_⟩
    simp only [scanT, scanA, scanE, if_pos ht]; rfl
theorem toks_len : ∀ (t : List UInt8) (o : Nat), (toks t o).length ≤ t.length
  | [], _ => by simp [toks]
  | b :: l, o => by
    have ih := toks_len l (o + 1)
    rw [toks]
    split
    · simp only [List.length_cons]; omega
    · unfold push
      split
      · simp
      · split
        · simp only [List.length_cons] at ih ⊢; omega
        · split
          · rename_i e; rw [e] at ih; simp only [List.length_cons] at ih ⊢; omega
          · simp
theorem scanT_len (t : List UInt8) : (scanT t).length ≤ 40000 := by
  unfold scanT
  split
  · simp
  · have := toks_len t 0
    split
    · omega
    · simp
theorem scans_walk (t : List UInt8) : PFn Try.prog 5 [Sv t] (Bv true) := by
  refine ACall.walk [0, 2, 3, 4, 5, 6, 7, 8, 16] [] Try.func5 rfl Try.ntmps5 (by kernel_rfl) (by rfl) rfl fun w own I0 φ0 => ?_
  repeat (first | refine AP.seq rfl ?_ | refine AE.seq ?_ | refine AP.block rfl ?_ | refine AP.scope rfl ?_ | refine AP.label rfl ?_ | refine AE.sc ?_ | refine AE.sc_exit ?_ | refine AE.sc_ret ?_ | refine AP.skip rfl ?_ | refine AP.ret rfl ?_ | refine AP.exit rfl ?_ | refine AE.seq_exit ?_ | refine AE.seq_ret ?_ | refine AE.blk ?_ | refine AE.blk_exit ?_ | refine AE.blk_exit_ne rfl ?_ | refine AE.blk_ret ?_ | refine AE.lp_exit ?_ | refine AE.lp_ret ?_ | refine AQ.done ?_ | refine AP.cond_true rfl rfl ?_ | refine AP.cond_false rfl rfl ?_ | (refine AP.region rfl (by kernel_rfl) ?_; simp only [go_sem, Nat.reduceAdd, reduceCtorEq]) | (refine vq_id ?_; simp only [go_sem, Nat.reduceAdd, reduceCtorEq]) | (refine ⟨by first | omega | (intros; simp_all; done) | (intros; simp_all; omega), ?_⟩; try simp only [go_sem, Nat.reduceAdd, reduceCtorEq]))
  refine AP.cond rfl rfl (fun h1 => ?_) (fun h1 => ?_)
  · repeat (first | refine AP.seq rfl ?_ | refine AE.seq ?_ | refine AP.block rfl ?_ | refine AP.scope rfl ?_ | refine AP.label rfl ?_ | refine AE.sc ?_ | refine AE.sc_exit ?_ | refine AE.sc_ret ?_ | refine AP.skip rfl ?_ | refine AP.ret rfl ?_ | refine AP.exit rfl ?_ | refine AE.seq_exit ?_ | refine AE.seq_ret ?_ | refine AE.blk ?_ | refine AE.blk_exit ?_ | refine AE.blk_exit_ne rfl ?_ | refine AE.blk_ret ?_ | refine AE.lp_exit ?_ | refine AE.lp_ret ?_ | refine AQ.done ?_ | refine AP.cond_true rfl rfl ?_ | refine AP.cond_false rfl rfl ?_ | (refine AP.region rfl (by kernel_rfl) ?_; simp only [go_sem, Nat.reduceAdd, reduceCtorEq]) | (refine vq_id ?_; simp only [go_sem, Nat.reduceAdd, reduceCtorEq]) | (refine ⟨by first | omega | (intros; simp_all; done) | (intros; simp_all; omega), ?_⟩; try simp only [go_sem, Nat.reduceAdd, reduceCtorEq]))
    refine AQ.fn (by kernel_rfl) rfl rfl rfl awake_spec rfl ?_
    repeat (first | refine AP.seq rfl ?_ | refine AE.seq ?_ | refine AP.block rfl ?_ | refine AP.scope rfl ?_ | refine AP.label rfl ?_ | refine AE.sc ?_ | refine AE.sc_exit ?_ | refine AE.sc_ret ?_ | refine AP.skip rfl ?_ | refine AP.ret rfl ?_ | refine AP.exit rfl ?_ | refine AE.seq_exit ?_ | refine AE.seq_ret ?_ | refine AE.blk ?_ | refine AE.blk_exit ?_ | refine AE.blk_exit_ne rfl ?_ | refine AE.blk_ret ?_ | refine AE.lp_exit ?_ | refine AE.lp_ret ?_ | refine AQ.done ?_ | refine AP.cond_true rfl rfl ?_ | refine AP.cond_false rfl rfl ?_ | (refine AP.region rfl (by kernel_rfl) ?_; simp only [go_sem, Nat.reduceAdd, reduceCtorEq]) | (refine vq_id ?_; simp only [go_sem, Nat.reduceAdd, reduceCtorEq]) | (refine ⟨by first | omega | (intros; simp_all; done) | (intros; simp_all; omega), ?_⟩; try simp only [go_sem, Nat.reduceAdd, reduceCtorEq]))
    exact AE.ret rfl ⟨rfl, trivial⟩ ⟨rfl, rfl⟩
  · have hl : t.length ≤ 7000 ∨ 40000 < t.length := by
      simp only [Bool.and_eq_false_iff, decide_eq_false_iff_not] at h1; omega
    have hn := scanT_len t
    repeat (first | refine AP.seq rfl ?_ | refine AE.seq ?_ | refine AP.block rfl ?_ | refine AP.scope rfl ?_ | refine AP.label rfl ?_ | refine AE.sc ?_ | refine AE.sc_exit ?_ | refine AE.sc_ret ?_ | refine AP.skip rfl ?_ | refine AP.ret rfl ?_ | refine AP.exit rfl ?_ | refine AE.seq_exit ?_ | refine AE.seq_ret ?_ | refine AE.blk ?_ | refine AE.blk_exit ?_ | refine AE.blk_exit_ne rfl ?_ | refine AE.blk_ret ?_ | refine AE.lp_exit ?_ | refine AE.lp_ret ?_ | refine AQ.done ?_ | refine AP.cond_true rfl rfl ?_ | refine AP.cond_false rfl rfl ?_ | (refine AP.region rfl (by kernel_rfl) ?_; simp only [go_sem, Nat.reduceAdd, reduceCtorEq]) | (refine vq_id ?_; simp only [go_sem, Nat.reduceAdd, reduceCtorEq]) | (refine ⟨by first | omega | (intros; simp_all; done) | (intros; simp_all; omega), ?_⟩; try simp only [go_sem, Nat.reduceAdd, reduceCtorEq]))
    refine AQ.fn (by kernel_rfl) rfl rfl rfl (scan1 t hl) rfl ?_
    repeat (first | refine AP.seq rfl ?_ | refine AE.seq ?_ | refine AP.block rfl ?_ | refine AP.scope rfl ?_ | refine AP.label rfl ?_ | refine AE.sc ?_ | refine AE.sc_exit ?_ | refine AE.sc_ret ?_ | refine AP.skip rfl ?_ | refine AP.ret rfl ?_ | refine AP.exit rfl ?_ | refine AE.seq_exit ?_ | refine AE.seq_ret ?_ | refine AE.blk ?_ | refine AE.blk_exit ?_ | refine AE.blk_exit_ne rfl ?_ | refine AE.blk_ret ?_ | refine AE.lp_exit ?_ | refine AE.lp_ret ?_ | refine AQ.done ?_ | refine AP.cond_true rfl rfl ?_ | refine AP.cond_false rfl rfl ?_ | (refine AP.region rfl (by kernel_rfl) ?_; simp only [go_sem, Nat.reduceAdd, reduceCtorEq]) | (refine vq_id ?_; simp only [go_sem, Nat.reduceAdd, reduceCtorEq]) | (refine ⟨by first | omega | (intros; simp_all; done) | (intros; simp_all; omega), ?_⟩; try simp only [go_sem, Nat.reduceAdd, reduceCtorEq]))
    refine AQ.fn (by kernel_rfl) rfl rfl rfl (scan2 t hl) rfl ?_
    repeat (first | refine AP.seq rfl ?_ | refine AE.seq ?_ | refine AP.block rfl ?_ | refine AP.scope rfl ?_ | refine AP.label rfl ?_ | refine AE.sc ?_ | refine AE.sc_exit ?_ | refine AE.sc_ret ?_ | refine AP.skip rfl ?_ | refine AP.ret rfl ?_ | refine AP.exit rfl ?_ | refine AE.seq_exit ?_ | refine AE.seq_ret ?_ | refine AE.blk ?_ | refine AE.blk_exit ?_ | refine AE.blk_exit_ne rfl ?_ | refine AE.blk_ret ?_ | refine AE.lp_exit ?_ | refine AE.lp_ret ?_ | refine AQ.done ?_ | refine AP.cond_true rfl rfl ?_ | refine AP.cond_false rfl rfl ?_ | (refine AP.region rfl (by kernel_rfl) ?_; simp only [go_sem, Nat.reduceAdd, reduceCtorEq]) | (refine vq_id ?_; simp only [go_sem, Nat.reduceAdd, reduceCtorEq]) | (refine ⟨by first | omega | (intros; simp_all; done) | (intros; simp_all; omega), ?_⟩; try simp only [go_sem, Nat.reduceAdd, reduceCtorEq]))
    refine AQ.fn (by kernel_rfl) rfl rfl rfl (eq_toks (scanT t) (by omega)) rfl ?_
    repeat (first | refine AP.seq rfl ?_ | refine AE.seq ?_ | refine AP.block rfl ?_ | refine AP.scope rfl ?_ | refine AP.label rfl ?_ | refine AE.sc ?_ | refine AE.sc_exit ?_ | refine AE.sc_ret ?_ | refine AP.skip rfl ?_ | refine AP.ret rfl ?_ | refine AP.exit rfl ?_ | refine AE.seq_exit ?_ | refine AE.seq_ret ?_ | refine AE.blk ?_ | refine AE.blk_exit ?_ | refine AE.blk_exit_ne rfl ?_ | refine AE.blk_ret ?_ | refine AE.lp_exit ?_ | refine AE.lp_ret ?_ | refine AQ.done ?_ | refine AP.cond_true rfl rfl ?_ | refine AP.cond_false rfl rfl ?_ | (refine AP.region rfl (by kernel_rfl) ?_; simp only [go_sem, Nat.reduceAdd, reduceCtorEq, beq_self_eq_true]) | (refine vq_id ?_; simp only [go_sem, Nat.reduceAdd, reduceCtorEq, beq_self_eq_true]) | (refine ⟨by first | omega | (intros; simp_all; done) | (intros; simp_all; omega), ?_⟩; try simp only [go_sem, Nat.reduceAdd, reduceCtorEq, beq_self_eq_true]))
    refine AQ.fn_g (by kernel_rfl) rfl rfl (fun h => by simp [gs, AV.g]) rfl (fun _ => texts_spec (scanT t) (by omega)) rfl ?_
    repeat (first | refine AP.seq rfl ?_ | refine AE.seq ?_ | refine AP.block rfl ?_ | refine AP.scope rfl ?_ | refine AP.label rfl ?_ | refine AE.sc ?_ | refine AE.sc_exit ?_ | refine AE.sc_ret ?_ | refine AP.skip rfl ?_ | refine AP.ret rfl ?_ | refine AP.exit rfl ?_ | refine AE.seq_exit ?_ | refine AE.seq_ret ?_ | refine AE.blk ?_ | refine AE.blk_exit ?_ | refine AE.blk_exit_ne rfl ?_ | refine AE.blk_ret ?_ | refine AE.lp_exit ?_ | refine AE.lp_ret ?_ | refine AQ.done ?_ | refine AP.cond_true rfl rfl ?_ | refine AP.cond_false rfl rfl ?_ | (refine AP.region rfl (by kernel_rfl) ?_; simp only [go_sem, Nat.reduceAdd, reduceCtorEq, beq_self_eq_true]) | (refine vq_id ?_; simp only [go_sem, Nat.reduceAdd, reduceCtorEq, beq_self_eq_true]) | (refine ⟨by first | omega | (intros; simp_all; done) | (intros; simp_all; omega), ?_⟩; try simp only [go_sem, Nat.reduceAdd, reduceCtorEq, beq_self_eq_true]))
    refine AQ.fn_g (by kernel_rfl) rfl rfl (fun h => by simp [gs, AV.g]) rfl (fun _ => texts_ref (scanT t) (by omega)) rfl ?_
    repeat (first | refine AP.seq rfl ?_ | refine AE.seq ?_ | refine AP.block rfl ?_ | refine AP.scope rfl ?_ | refine AP.label rfl ?_ | refine AE.sc ?_ | refine AE.sc_exit ?_ | refine AE.sc_ret ?_ | refine AP.skip rfl ?_ | refine AP.ret rfl ?_ | refine AP.exit rfl ?_ | refine AE.seq_exit ?_ | refine AE.seq_ret ?_ | refine AE.blk ?_ | refine AE.blk_exit ?_ | refine AE.blk_exit_ne rfl ?_ | refine AE.blk_ret ?_ | refine AE.lp_exit ?_ | refine AE.lp_ret ?_ | refine AQ.done ?_ | refine AP.cond_true rfl rfl ?_ | refine AP.cond_false rfl rfl ?_ | (refine AP.region rfl (by kernel_rfl) ?_; simp only [go_sem, Nat.reduceAdd, reduceCtorEq, beq_self_eq_true]) | (refine vq_id ?_; simp only [go_sem, Nat.reduceAdd, reduceCtorEq, beq_self_eq_true]) | (refine ⟨by first | omega | (intros; simp_all; done) | (intros; simp_all; omega), ?_⟩; try simp only [go_sem, Nat.reduceAdd, reduceCtorEq, beq_self_eq_true]))
    refine AQ.fn_g (by kernel_rfl) rfl rfl (fun h => by simp [gs, AV.g]) rfl (fun _ => eq_strs (texts (scanT t)) (by rw [texts, List.length_map]; omega)) rfl ?_
    repeat (first | refine AP.seq rfl ?_ | refine AE.seq ?_ | refine AP.block rfl ?_ | refine AP.scope rfl ?_ | refine AP.label rfl ?_ | refine AE.sc ?_ | refine AE.sc_exit ?_ | refine AE.sc_ret ?_ | refine AP.skip rfl ?_ | refine AP.ret rfl ?_ | refine AP.exit rfl ?_ | refine AE.seq_exit ?_ | refine AE.seq_ret ?_ | refine AE.blk ?_ | refine AE.blk_exit ?_ | refine AE.blk_exit_ne rfl ?_ | refine AE.blk_ret ?_ | refine AE.lp_exit ?_ | refine AE.lp_ret ?_ | refine AQ.done ?_ | refine AP.cond_true rfl rfl ?_ | refine AP.cond_false rfl rfl ?_ | (refine AP.region rfl (by kernel_rfl) ?_; simp only [go_sem, Nat.reduceAdd, reduceCtorEq, beq_self_eq_true]) | (refine vq_id ?_; simp only [go_sem, Nat.reduceAdd, reduceCtorEq, beq_self_eq_true]) | (refine ⟨by first | omega | (intros; simp_all; done) | (intros; simp_all; omega), ?_⟩; try simp only [go_sem, Nat.reduceAdd, reduceCtorEq, beq_self_eq_true]))
    refine AQ.fn_g (by kernel_rfl) rfl rfl (fun h => by simp [gs]) rfl (fun _ => awake_spec) rfl ?_
    repeat (first | refine AP.seq rfl ?_ | refine AE.seq ?_ | refine AP.block rfl ?_ | refine AP.scope rfl ?_ | refine AP.label rfl ?_ | refine AE.sc ?_ | refine AE.sc_exit ?_ | refine AE.sc_ret ?_ | refine AP.skip rfl ?_ | refine AP.ret rfl ?_ | refine AP.exit rfl ?_ | refine AE.seq_exit ?_ | refine AE.seq_ret ?_ | refine AE.blk ?_ | refine AE.blk_exit ?_ | refine AE.blk_exit_ne rfl ?_ | refine AE.blk_ret ?_ | refine AE.lp_exit ?_ | refine AE.lp_ret ?_ | refine AQ.done ?_ | refine AP.cond_true rfl rfl ?_ | refine AP.cond_false rfl rfl ?_ | (refine AP.region rfl (by kernel_rfl) ?_; simp only [go_sem, Nat.reduceAdd, reduceCtorEq, beq_self_eq_true]) | (refine vq_id ?_; simp only [go_sem, Nat.reduceAdd, reduceCtorEq, beq_self_eq_true]) | (refine ⟨by first | omega | (intros; simp_all; done) | (intros; simp_all; omega), ?_⟩; try simp only [go_sem, Nat.reduceAdd, reduceCtorEq, beq_self_eq_true]))
    exact AE.ret rfl ⟨rfl, trivial⟩ ⟨rfl, rfl⟩
end Go.Proofs.Ytilbfhldohibhaa
