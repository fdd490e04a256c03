import Derived.Test.YtilbfhldohibhaaW16
import Derived.Test.YtilbfhldohibhaaW14
import Derived.Test.YtilbfhldohibhaaW19
import Derived.Test.YtilbfhldohibhaaAl20
set_option linter.unusedSimpArgs false
set_option linter.unusedVariables false
set_option linter.unnecessarySimpa false
namespace Go.Proofs.Ytilbfhldohibhaa
open Go Go.AL Go.RowKit
set_option maxRecDepth 10000
set_option maxHeartbeats 4000000
def spaces : List (List UInt8) := [[32], [9], [13], [10], [12]]
def spb (j : Nat) : UInt8 := [32, 9, 13, 10, 12].getD j 0
theorem spb_sp (j : Nat) (h : j < 5) : sp (spb j) = true := by
  match j, h with
  | 0, _ => rfl
  | 1, _ => rfl
  | 2, _ => rfl
  | 3, _ => rfl
  | 4, _ => rfl
theorem spg (j : Nat) (h : j < 5) : [[IV.v (Value.string (BA [32]))], [IV.v (Value.string (BA [9]))], [IV.v (Value.string (BA [13]))], [IV.v (Value.string (BA [10]))], [IV.v (Value.string (BA [12]))]].getD j [] = [Si [spb j]] := by
  match j, h with
  | 0, _ => rfl
  | 1, _ => rfl
  | 2, _ => rfl
  | 3, _ => rfl
  | 4, _ => rfl
theorem ok_spb (j : Nat) (h : j < 5) : (!(cls (spb j).toNat == 0)) = true := by
  match j, h with
  | 0, _ => rfl
  | 1, _ => rfl
  | 2, _ => rfl
  | 3, _ => rfl
  | 4, _ => rfl
theorem okT_mid (a b : List UInt8) (j : Nat) (h : j < 5) : okT (a ++ [spb j] ++ b) = (okT a && okT b) := by
  rw [okT_app, okT_app]
  have : okT [spb j] = true := by unfold okT; rw [List.all_cons, ok_spb j h]; rfl
  rw [this, Bool.and_true]
theorem scanE_mid (a b : List UInt8) (j : Nat) (h : j < 5) (hl : a.length ≤ 1500 ∧ b.length ≤ 1500) : scanE (a ++ [spb j] ++ b) = if (okT a && okT b) = true then 0 else 30 := by
  have hn : ¬ 40000 < (a ++ [spb j] ++ b).length := by simp only [List.length_append, List.length_cons, List.length_nil]; omega
  unfold scanE
  rw [if_neg hn, okT_mid a b j h]
theorem scanT_mid (a b : List UInt8) (j : Nat) (h : j < 5) (hl : a.length ≤ 1500 ∧ b.length ≤ 1500) : scanT (a ++ [spb j] ++ b) = if (okT a && okT b) = true then toks a 0 ++ (toks b 0).map (shTok (a.length + 1)) else [] := by
  have hn : ¬ 40000 < (a ++ [spb j] ++ b).length := by simp only [List.length_append, List.length_cons, List.length_nil]; omega
  unfold scanT
  rw [if_neg hn, okT_mid a b j h, List.append_assoc, List.singleton_append, toks_app (spb j) b (spb_sp j h) a 0, Nat.add_assoc, toks_shift]
theorem scanA_mid (a b : List UInt8) (j : Nat) (h : j < 5) (hl : a.length ≤ 1500 ∧ b.length ≤ 1500) (oa : okT a = true) (ob : okT b = false) : scanA (a ++ [spb j] ++ b) = badAt b + (a.length + 1) := by
  have hn : ¬ 40000 < (a ++ [spb j] ++ b).length := by simp only [List.length_append, List.length_cons, List.length_nil]; omega
  have hm : okT (a ++ [spb j]) = true := by
    have := okT_mid a [] j h
    rw [List.append_nil, oa] at this
    exact this
  have hx : (a ++ [spb j]).findIdx (fun b => cls b.toNat == 0) = (a ++ [spb j]).length := by
    rw [List.findIdx_eq_length]
    intro x hx
    unfold okT at hm
    rw [List.all_eq_true] at hm
    simpa using hm x hx
  unfold scanA
  rw [if_neg hn, okT_mid a b j h, oa, ob]
  simp only [Bool.and_false, Bool.false_eq_true, if_false]
  unfold badAt
  rw [List.findIdx_append, hx, if_neg (by omega)]
  simp only [List.length_append, List.length_cons, List.length_nil]
  omega
theorem badAt_le (b : List UInt8) : badAt b ≤ b.length := List.findIdx_le_length
theorem local_walk (a b : List UInt8) (g : Int) (hg : 0 ≤ g ∧ g ≤ 255) : PFn Try.prog 3 [Sv a, Sv b, .im (.v (.int .u8 g))] (Bv true) := by
  refine ACall.walk [0, 1, 2, 6, 7, 8, 10, 11, 12, 13, 14, 15, 16, 17, 18, 26, 56, 72, 87, 88, 89] [] Try.func3 rfl Try.ntmps3 (by kernel_rfl) (by rfl) rfl fun w own I0 φ0 => ?_
  repeat (first | refine AP.seq rfl ?_ | refine AE.seq ?_ | refine AP.block rfl ?_ | refine AP.scope rfl ?_ | refine AP.label rfl ?_ | refine AE.sc ?_ | refine AE.sc_exit ?_ | refine AE.sc_ret ?_ | refine AP.skip rfl ?_ | refine AP.ret rfl ?_ | refine AP.exit rfl ?_ | refine AE.seq_exit ?_ | refine AE.seq_ret ?_ | refine AE.blk ?_ | refine AE.blk_exit ?_ | refine AE.blk_exit_ne rfl ?_ | refine AE.blk_ret ?_ | refine AE.lp_exit ?_ | refine AE.lp_ret ?_ | refine AQ.done ?_ | refine AP.cond_true rfl rfl ?_ | refine AP.cond_false rfl rfl ?_ | (refine AP.region rfl (by kernel_rfl) ?_; simp only [go_sem, Nat.reduceAdd, reduceCtorEq]) | (refine vq_id ?_; simp only [go_sem, Nat.reduceAdd, reduceCtorEq]) | (refine ⟨by first | omega | (intros; simp_all; done) | (intros; simp_all; omega), ?_⟩; try simp only [go_sem, Nat.reduceAdd, reduceCtorEq]))
  refine AP.cond rfl rfl (fun h1 => ?_) (fun h1 => ?_)
  · repeat (first | refine AP.seq rfl ?_ | refine AE.seq ?_ | refine AP.block rfl ?_ | refine AP.scope rfl ?_ | refine AP.label rfl ?_ | refine AE.sc ?_ | refine AE.sc_exit ?_ | refine AE.sc_ret ?_ | refine AP.skip rfl ?_ | refine AP.ret rfl ?_ | refine AP.exit rfl ?_ | refine AE.seq_exit ?_ | refine AE.seq_ret ?_ | refine AE.blk ?_ | refine AE.blk_exit ?_ | refine AE.blk_exit_ne rfl ?_ | refine AE.blk_ret ?_ | refine AE.lp_exit ?_ | refine AE.lp_ret ?_ | refine AQ.done ?_ | refine AP.cond_true rfl rfl ?_ | refine AP.cond_false rfl rfl ?_ | (refine AP.region rfl (by kernel_rfl) ?_; simp only [go_sem, Nat.reduceAdd, reduceCtorEq]) | (refine vq_id ?_; simp only [go_sem, Nat.reduceAdd, reduceCtorEq]) | (refine ⟨by first | omega | (intros; simp_all; done) | (intros; simp_all; omega), ?_⟩; try simp only [go_sem, Nat.reduceAdd, reduceCtorEq]))
    refine AQ.fn (by kernel_rfl) rfl rfl rfl awake_spec rfl ?_
    repeat (first | refine AP.seq rfl ?_ | refine AE.seq ?_ | refine AP.block rfl ?_ | refine AP.scope rfl ?_ | refine AP.label rfl ?_ | refine AE.sc ?_ | refine AE.sc_exit ?_ | refine AE.sc_ret ?_ | refine AP.skip rfl ?_ | refine AP.ret rfl ?_ | refine AP.exit rfl ?_ | refine AE.seq_exit ?_ | refine AE.seq_ret ?_ | refine AE.blk ?_ | refine AE.blk_exit ?_ | refine AE.blk_exit_ne rfl ?_ | refine AE.blk_ret ?_ | refine AE.lp_exit ?_ | refine AE.lp_ret ?_ | refine AQ.done ?_ | refine AP.cond_true rfl rfl ?_ | refine AP.cond_false rfl rfl ?_ | (refine AP.region rfl (by kernel_rfl) ?_; simp only [go_sem, Nat.reduceAdd, reduceCtorEq]) | (refine vq_id ?_; simp only [go_sem, Nat.reduceAdd, reduceCtorEq]) | (refine ⟨by first | omega | (intros; simp_all; done) | (intros; simp_all; omega), ?_⟩; try simp only [go_sem, Nat.reduceAdd, reduceCtorEq]))
    exact AE.ret rfl ⟨rfl, trivial⟩ ⟨rfl, rfl⟩
  · have hl : a.length ≤ 1500 ∧ b.length ≤ 1500 := by simp only [Bool.or_eq_false_iff, decide_eq_false_iff_not] at h1; omega
    have hm : 0 ≤ g.tmod 5 ∧ g.tmod 5 < 5 := ⟨Int.tmod_nonneg 5 hg.1, Int.tmod_lt_of_pos g (by omega)⟩
    obtain ⟨j, hj⟩ := Int.eq_ofNat_of_zero_le hm.1
    have hj5 : j < 5 := by omega
    repeat (first | refine AP.seq rfl ?_ | refine AE.seq ?_ | refine AP.block rfl ?_ | refine AP.scope rfl ?_ | refine AP.label rfl ?_ | refine AE.sc ?_ | refine AE.sc_exit ?_ | refine AE.sc_ret ?_ | refine AP.skip rfl ?_ | refine AP.ret rfl ?_ | refine AP.exit rfl ?_ | refine AE.seq_exit ?_ | refine AE.seq_ret ?_ | refine AE.blk ?_ | refine AE.blk_exit ?_ | refine AE.blk_exit_ne rfl ?_ | refine AE.blk_ret ?_ | refine AE.lp_exit ?_ | refine AE.lp_ret ?_ | refine AQ.done ?_ | refine AP.cond_true rfl rfl ?_ | refine AP.cond_false rfl rfl ?_ | (refine AP.region rfl (by kernel_rfl) ?_; simp only [go_sem, Nat.reduceAdd, reduceCtorEq, hj, spg j hj5]) | (refine vq_id ?_; simp only [go_sem, Nat.reduceAdd, reduceCtorEq, hj, spg j hj5]) | (refine ⟨by first | omega | (intros; simp_all; done) | (intros; simp_all; omega), ?_⟩; try simp only [go_sem, Nat.reduceAdd, reduceCtorEq, hj, spg j hj5]))
    refine AQ.callv (by kernel_rfl) rfl rfl rfl (scan_own a (by omega)) fun r' H' ⟨e1, e2⟩ => ?_
    subst e1; subst e2
    unfold ownR
    repeat (first | refine AP.seq rfl ?_ | refine AE.seq ?_ | refine AP.block rfl ?_ | refine AP.scope rfl ?_ | refine AP.label rfl ?_ | refine AE.sc ?_ | refine AE.sc_exit ?_ | refine AE.sc_ret ?_ | refine AP.skip rfl ?_ | refine AP.ret rfl ?_ | refine AP.exit rfl ?_ | refine AE.seq_exit ?_ | refine AE.seq_ret ?_ | refine AE.blk ?_ | refine AE.blk_exit ?_ | refine AE.blk_exit_ne rfl ?_ | refine AE.blk_ret ?_ | refine AE.lp_exit ?_ | refine AE.lp_ret ?_ | refine AQ.done ?_ | refine AP.cond_true rfl rfl ?_ | refine AP.cond_false rfl rfl ?_ | (refine AP.region rfl (by kernel_rfl) ?_; simp only [go_sem, Nat.reduceAdd, reduceCtorEq]) | (refine vq_id ?_; simp only [go_sem, Nat.reduceAdd, reduceCtorEq]) | (refine ⟨by first | omega | (intros; simp_all; done) | (intros; simp_all; omega), ?_⟩; try simp only [go_sem, Nat.reduceAdd, reduceCtorEq]))
    refine AQ.callv (by kernel_rfl) rfl rfl rfl (scan_own b (by omega)) fun r' H' ⟨e1, e2⟩ => ?_
    subst e1; subst e2
    unfold ownR
    repeat (first | refine AP.seq rfl ?_ | refine AE.seq ?_ | refine AP.block rfl ?_ | refine AP.scope rfl ?_ | refine AP.label rfl ?_ | refine AE.sc ?_ | refine AE.sc_exit ?_ | refine AE.sc_ret ?_ | refine AP.skip rfl ?_ | refine AP.ret rfl ?_ | refine AP.exit rfl ?_ | refine AE.seq_exit ?_ | refine AE.seq_ret ?_ | refine AE.blk ?_ | refine AE.blk_exit ?_ | refine AE.blk_exit_ne rfl ?_ | refine AE.blk_ret ?_ | refine AE.lp_exit ?_ | refine AE.lp_ret ?_ | refine AQ.done ?_ | refine AP.cond_true rfl rfl ?_ | refine AP.cond_false rfl rfl ?_ | (refine AP.region rfl (by kernel_rfl) ?_; simp only [go_sem, Nat.reduceAdd, reduceCtorEq]) | (refine vq_id ?_; simp only [go_sem, Nat.reduceAdd, reduceCtorEq]) | (refine ⟨by first | omega | (intros; simp_all; done) | (intros; simp_all; omega), ?_⟩; try simp only [go_sem, Nat.reduceAdd, reduceCtorEq]))
    refine AQ.fn (by kernel_rfl) rfl rfl rfl (scan1 (a ++ [spb j] ++ b) (by simp only [List.length_append, List.length_cons, List.length_nil]; omega)) rfl ?_
    rw [scanE_mid a b j hj5 hl, scanT_mid a b j hj5 hl]
    cases oa : okT a with
    | false =>
      repeat (first | refine AP.seq rfl ?_ | refine AE.seq ?_ | refine AP.block rfl ?_ | refine AP.scope rfl ?_ | refine AP.label rfl ?_ | refine AE.sc ?_ | refine AE.sc_exit ?_ | refine AE.sc_ret ?_ | refine AP.skip rfl ?_ | refine AP.ret rfl ?_ | refine AP.exit rfl ?_ | refine AE.seq_exit ?_ | refine AE.seq_ret ?_ | refine AE.blk ?_ | refine AE.blk_exit ?_ | refine AE.blk_exit_ne rfl ?_ | refine AE.blk_ret ?_ | refine AE.lp_exit ?_ | refine AE.lp_ret ?_ | refine AQ.done ?_ | refine AP.cond_true rfl rfl ?_ | refine AP.cond_false rfl rfl ?_ | (refine AP.region rfl (by kernel_rfl) ?_; simp only [go_sem, Nat.reduceAdd, reduceCtorEq, if_true, if_false, Bool.false_eq_true, beq_self_eq_true, List.map_nil, tokRows_len]) | (refine vq_id ?_; simp only [go_sem, Nat.reduceAdd, reduceCtorEq, if_true, if_false, Bool.false_eq_true, beq_self_eq_true, List.map_nil, tokRows_len]) | (refine ⟨by first | omega | (intros; simp_all; done) | (intros; simp_all; omega), ?_⟩; try simp only [go_sem, Nat.reduceAdd, reduceCtorEq, if_true, if_false, Bool.false_eq_true, beq_self_eq_true, List.map_nil, tokRows_len]))
      refine AQ.fn_g (by kernel_rfl) rfl rfl (fun h => by simp [gs]) rfl (fun _ => awake_spec) rfl ?_
      repeat (first | refine AP.seq rfl ?_ | refine AE.seq ?_ | refine AP.block rfl ?_ | refine AP.scope rfl ?_ | refine AP.label rfl ?_ | refine AE.sc ?_ | refine AE.sc_exit ?_ | refine AE.sc_ret ?_ | refine AP.skip rfl ?_ | refine AP.ret rfl ?_ | refine AP.exit rfl ?_ | refine AE.seq_exit ?_ | refine AE.seq_ret ?_ | refine AE.blk ?_ | refine AE.blk_exit ?_ | refine AE.blk_exit_ne rfl ?_ | refine AE.blk_ret ?_ | refine AE.lp_exit ?_ | refine AE.lp_ret ?_ | refine AQ.done ?_ | refine AP.cond_true rfl rfl ?_ | refine AP.cond_false rfl rfl ?_ | (refine AP.region rfl (by kernel_rfl) ?_; simp only [go_sem, Nat.reduceAdd, reduceCtorEq, if_true, if_false]) | (refine vq_id ?_; simp only [go_sem, Nat.reduceAdd, reduceCtorEq, if_true, if_false]) | (refine ⟨by first | omega | (intros; simp_all; done) | (intros; simp_all; omega), ?_⟩; try simp only [go_sem, Nat.reduceAdd, reduceCtorEq, if_true, if_false]))
      exact AE.ret0 rfl ⟨rfl, trivial⟩ rfl ⟨rfl, rfl⟩
    | true =>
      cases ob : okT b with
      | false =>
        have hb1 := badAt_le b
        have w1 := wr (x := (a.length : Int) + 1) (by omega)
        have w2 := wr (x := (badAt b : Int) + (a.length + 1)) (by omega)
        repeat (first | refine AP.seq rfl ?_ | refine AE.seq ?_ | refine AP.block rfl ?_ | refine AP.scope rfl ?_ | refine AP.label rfl ?_ | refine AE.sc ?_ | refine AE.sc_exit ?_ | refine AE.sc_ret ?_ | refine AP.skip rfl ?_ | refine AP.ret rfl ?_ | refine AP.exit rfl ?_ | refine AE.seq_exit ?_ | refine AE.seq_ret ?_ | refine AE.blk ?_ | refine AE.blk_exit ?_ | refine AE.blk_exit_ne rfl ?_ | refine AE.blk_ret ?_ | refine AE.lp_exit ?_ | refine AE.lp_ret ?_ | refine AQ.done ?_ | refine AP.cond_true rfl rfl ?_ | refine AP.cond_false rfl rfl ?_ | (refine AP.region rfl (by kernel_rfl) ?_; simp only [go_sem, Nat.reduceAdd, reduceCtorEq, if_true, if_false, Bool.false_eq_true, beq_self_eq_true, scanA_mid a b j hj5 hl oa ob, w1, w2]) | (refine vq_id ?_; simp only [go_sem, Nat.reduceAdd, reduceCtorEq, if_true, if_false, Bool.false_eq_true, beq_self_eq_true, scanA_mid a b j hj5 hl oa ob, w1, w2]) | (refine ⟨by first | omega | (intros; simp_all; done) | (intros; simp_all; omega), ?_⟩; try simp only [go_sem, Nat.reduceAdd, reduceCtorEq, if_true, if_false, Bool.false_eq_true, beq_self_eq_true, scanA_mid a b j hj5 hl oa ob, w1, w2]))
        refine AQ.fn_g (by kernel_rfl) rfl rfl (fun h => by simp [gs]) rfl (fun _ => awake_spec) rfl ?_
        repeat (first | refine AP.seq rfl ?_ | refine AE.seq ?_ | refine AP.block rfl ?_ | refine AP.scope rfl ?_ | refine AP.label rfl ?_ | refine AE.sc ?_ | refine AE.sc_exit ?_ | refine AE.sc_ret ?_ | refine AP.skip rfl ?_ | refine AP.ret rfl ?_ | refine AP.exit rfl ?_ | refine AE.seq_exit ?_ | refine AE.seq_ret ?_ | refine AE.blk ?_ | refine AE.blk_exit ?_ | refine AE.blk_exit_ne rfl ?_ | refine AE.blk_ret ?_ | refine AE.lp_exit ?_ | refine AE.lp_ret ?_ | refine AQ.done ?_ | refine AP.cond_true rfl rfl ?_ | refine AP.cond_false rfl rfl ?_ | (refine AP.region rfl (by kernel_rfl) ?_; simp only [go_sem, Nat.reduceAdd, reduceCtorEq, if_true, if_false]) | (refine vq_id ?_; simp only [go_sem, Nat.reduceAdd, reduceCtorEq, if_true, if_false]) | (refine ⟨by first | omega | (intros; simp_all; done) | (intros; simp_all; omega), ?_⟩; try simp only [go_sem, Nat.reduceAdd, reduceCtorEq, if_true, if_false]))
        exact AE.ret0 rfl ⟨rfl, trivial⟩ rfl ⟨rfl, rfl⟩
      | true =>
        have w1 := wr (x := (a.length : Int) + 1) (by omega)
        repeat (first | refine AP.seq rfl ?_ | refine AE.seq ?_ | refine AP.block rfl ?_ | refine AP.scope rfl ?_ | refine AP.label rfl ?_ | refine AE.sc ?_ | refine AE.sc_exit ?_ | refine AE.sc_ret ?_ | refine AP.skip rfl ?_ | refine AP.ret rfl ?_ | refine AP.exit rfl ?_ | refine AE.seq_exit ?_ | refine AE.seq_ret ?_ | refine AE.blk ?_ | refine AE.blk_exit ?_ | refine AE.blk_exit_ne rfl ?_ | refine AE.blk_ret ?_ | refine AE.lp_exit ?_ | refine AE.lp_ret ?_ | refine AQ.done ?_ | refine AP.cond_true rfl rfl ?_ | refine AP.cond_false rfl rfl ?_ | (refine AP.region rfl (by kernel_rfl) ?_; simp only [go_sem, Nat.reduceAdd, reduceCtorEq, if_true, if_false, Bool.false_eq_true, beq_self_eq_true, w1]) | (refine vq_id ?_; simp only [go_sem, Nat.reduceAdd, reduceCtorEq, if_true, if_false, Bool.false_eq_true, beq_self_eq_true, w1]) | (refine ⟨by first | omega | (intros; simp_all; done) | (intros; simp_all; omega), ?_⟩; try simp only [go_sem, Nat.reduceAdd, reduceCtorEq, if_true, if_false, Bool.false_eq_true, beq_self_eq_true, w1]))
        have hE : ownT b = toks b 0 := by rw [ownT, ob]; rfl
        refine AP.loop rfl (α := Nat) (fun k => [(8, .os 1 2 0 (ownT a).length), (11, .os 3 2 0 (ownT b).length), (14, .im (.sl 2 (tokRows (toks a 0 ++ (toks b 0).map (shTok (a.length + 1)))))), (16, Iv 0), (17, Iv ((a.length : Int) + 1)), (87, Iv (ownT b).length), (88, Iv k)]) (fun k => [(3, .vec 29 2 (tokRows (partT (a.length + 1) k (ownT b)))), (1, .vec 29 2 (tokRows (ownT a)))]) (fun k => k ≤ (ownT b).length) (fun k => (ownT b).length - k) 0 (by simp) ?_ (by rw [partT_zero]) fun k hk => ?_
        · exact Sub.cons rfl (Sub.cons rfl (Sub.cons rfl (Sub.cons rfl (Sub.cons rfl (Sub.cons rfl (Sub.cons rfl (Sub.nil _)))))))
        · have hlen : (ownT b).length ≤ 1500 := by rw [hE]; have := toks_len b 0; omega
          have hlena : (ownT a).length ≤ 1500 := by rw [show ownT a = toks a 0 by rw [ownT, oa]; rfl]; have := toks_len a 0; omega
          have hw := wr (x := (k : Int) + 1) (by omega)
          repeat (first | refine AP.seq rfl ?_ | refine AE.seq ?_ | refine AP.block rfl ?_ | refine AP.scope rfl ?_ | refine AP.label rfl ?_ | refine AE.sc ?_ | refine AE.sc_exit ?_ | refine AE.sc_ret ?_ | refine AP.skip rfl ?_ | refine AP.ret rfl ?_ | refine AP.exit rfl ?_ | refine AE.seq_exit ?_ | refine AE.seq_ret ?_ | refine AE.blk ?_ | refine AE.blk_exit ?_ | refine AE.blk_exit_ne rfl ?_ | refine AE.blk_ret ?_ | refine AE.lp_exit ?_ | refine AE.lp_ret ?_ | refine AQ.done ?_ | refine AP.cond_true rfl rfl ?_ | refine AP.cond_false rfl rfl ?_ | (refine AP.region rfl (by kernel_rfl) ?_; simp only [go_sem, Nat.reduceAdd, reduceCtorEq, hw]) | (refine vq_id ?_; simp only [go_sem, Nat.reduceAdd, reduceCtorEq, hw]) | (refine ⟨by first | omega | (intros; simp_all; done) | (intros; simp_all; omega), ?_⟩; try simp only [go_sem, Nat.reduceAdd, reduceCtorEq, hw]))
          refine AP.cond rfl rfl (fun hc => ?_) (fun hc => ?_)
          · have hk' : k < (ownT b).length := by simp at hc; omega
            have hof : ((ownT b).getD k ([], 0)).2 ≤ 1500 := by
              have := toks_off b 0 ((ownT b).getD k ([], 0)) (by rw [← hE, List.getD_eq_getElem?_getD, List.getElem?_eq_getElem hk']; simp)
              omega
            have hw3 := wr (x := (((ownT b).getD k ([], 0)).2 : Int) + (a.length + 1)) (by omega)
            repeat (first | refine AP.seq rfl ?_ | refine AE.seq ?_ | refine AP.block rfl ?_ | refine AP.scope rfl ?_ | refine AP.label rfl ?_ | refine AE.sc ?_ | refine AE.sc_exit ?_ | refine AE.sc_ret ?_ | refine AP.skip rfl ?_ | refine AP.ret rfl ?_ | refine AP.exit rfl ?_ | refine AE.seq_exit ?_ | refine AE.seq_ret ?_ | refine AE.blk ?_ | refine AE.blk_exit ?_ | refine AE.blk_exit_ne rfl ?_ | refine AE.blk_ret ?_ | refine AE.lp_exit ?_ | refine AE.lp_ret ?_ | refine AQ.done ?_ | refine AP.cond_true rfl rfl ?_ | refine AP.cond_false rfl rfl ?_ | (refine AP.region rfl (by kernel_rfl) ?_; simp only [go_sem, Nat.reduceAdd, reduceCtorEq, hw, hw3, partT_get _ _ _ hk', partT_len]) | (refine vq_id ?_; simp only [go_sem, Nat.reduceAdd, reduceCtorEq, hw, hw3, partT_get _ _ _ hk', partT_len]) | (refine ⟨by first | omega | (intros; simp_all; done) | (intros; simp_all; omega), ?_⟩; try simp only [go_sem, Nat.reduceAdd, reduceCtorEq, hw, hw3, partT_get _ _ _ hk', partT_len]))
            have hs : (tokRows (partT (a.length + 1) k (ownT b))).set k [Si ((ownT b).getD k ([], 0)).1, Ii ((((ownT b).getD k ([], 0)).2 : Int) + ((a.length : Int) + 1))] = tokRows (partT (a.length + 1) (k + 1) (ownT b)) := partT_set _ _ _ hk'
            exact AE.round (k + 1) (by omega) (by omega) (Sub.cons rfl (Sub.cons rfl (Sub.cons rfl (Sub.cons rfl (Sub.cons rfl (Sub.cons rfl (Sub.cons rfl (Sub.nil _)))))))) (by rw [← hs])
          · repeat (first | refine AP.seq rfl ?_ | refine AE.seq ?_ | refine AP.block rfl ?_ | refine AP.scope rfl ?_ | refine AP.label rfl ?_ | refine AE.sc ?_ | refine AE.sc_exit ?_ | refine AE.sc_ret ?_ | refine AP.skip rfl ?_ | refine AP.ret rfl ?_ | refine AP.exit rfl ?_ | refine AE.seq_exit ?_ | refine AE.seq_ret ?_ | refine AE.blk ?_ | refine AE.blk_exit ?_ | refine AE.blk_exit_ne rfl ?_ | refine AE.blk_ret ?_ | refine AE.lp_exit ?_ | refine AE.lp_ret ?_ | refine AQ.done ?_ | refine AP.cond_true rfl rfl ?_ | refine AP.cond_false rfl rfl ?_ | (refine AP.region rfl (by kernel_rfl) ?_; simp only [go_sem, Nat.reduceAdd, reduceCtorEq, if_true, if_false, Bool.false_eq_true, beq_self_eq_true]) | (refine vq_id ?_; simp only [go_sem, Nat.reduceAdd, reduceCtorEq, if_true, if_false, Bool.false_eq_true, beq_self_eq_true]) | (refine ⟨by first | omega | (intros; simp_all; done) | (intros; simp_all; omega), ?_⟩; try simp only [go_sem, Nat.reduceAdd, reduceCtorEq, if_true, if_false, Bool.false_eq_true, beq_self_eq_true]))
            have hk' : k = (ownT b).length := by simp at hc; omega
            subst hk'
            rw [partT_all]
            refine AQ.strip ?_
            simp only [go_sem, Nat.reduceAdd, reduceCtorEq]
            have e3 : (tokRows ((ownT b).map (shTok (a.length + 1)))).take (ownT b).length = tokRows ((ownT b).map (shTok (a.length + 1))) := by
              rw [List.take_of_length_le (by rw [tokRows_len, List.length_map]; exact Nat.le_refl _)]
            refine AQ.freeze 3 (el := 29) (es := 2) (rows := tokRows ((ownT b).map (shTok (a.length + 1)))) rfl (by simp only [go_sem, Nat.reduceAdd, reduceCtorEq]) (by simp only [go_sem, Nat.reduceAdd, reduceCtorEq]; try (simp; done)) ?_
            simp only [go_sem, Nat.reduceAdd, reduceCtorEq, e3]
            refine AQ.guard_yes rfl ?_
            refine AQ.append (rows := tokRows (ownT a)) (xs := tokRows ((ownT b).map (shTok (a.length + 1)))) (es := 1) (by kernel_rfl) rfl rfl rfl rfl Try.tk24 Try.sz29 (by rw [Try.zr29]; rfl) Try.by29 (tokRows_len _).symm (by simp only [tokRows_len, List.length_map]; omega) (by simp only [tokRows_len, List.length_map]; omega) ?_
            repeat (first | refine AP.seq rfl ?_ | refine AE.seq ?_ | refine AP.block rfl ?_ | refine AP.scope rfl ?_ | refine AP.label rfl ?_ | refine AE.sc ?_ | refine AE.sc_exit ?_ | refine AE.sc_ret ?_ | refine AP.skip rfl ?_ | refine AP.ret rfl ?_ | refine AP.exit rfl ?_ | refine AE.seq_exit ?_ | refine AE.seq_ret ?_ | refine AE.blk ?_ | refine AE.blk_exit ?_ | refine AE.blk_exit_ne rfl ?_ | refine AE.blk_ret ?_ | refine AE.lp_exit ?_ | refine AE.lp_ret ?_ | refine AQ.done ?_ | refine AP.cond_true rfl rfl ?_ | refine AP.cond_false rfl rfl ?_ | (refine AP.region rfl (by kernel_rfl) ?_; simp only [go_sem, Nat.reduceAdd, reduceCtorEq]) | (refine vq_id ?_; simp only [go_sem, Nat.reduceAdd, reduceCtorEq]) | (refine ⟨by first | omega | (intros; simp_all; done) | (intros; simp_all; omega), ?_⟩; try simp only [go_sem, Nat.reduceAdd, reduceCtorEq]))
            have e4 : tokRows (ownT a) ++ tokRows ((ownT b).map (shTok (a.length + 1))) = tokRows (toks a 0 ++ (toks b 0).map (shTok (a.length + 1))) := by
              rw [hE, show ownT a = toks a 0 by rw [ownT, oa]; rfl, tokRows, tokRows, tokRows, List.map_append]
            rw [e4]
            have e5 : (ownT a).length + ((ownT b).map (shTok (a.length + 1))).length = (toks a 0 ++ (toks b 0).map (shTok (a.length + 1))).length := by
              rw [← tokRows_len (toks a 0 ++ _), ← e4, List.length_append, tokRows_len, tokRows_len]
            rw [e5]
            have e6 : (tokRows (toks a 0 ++ (toks b 0).map (shTok (a.length + 1)))).take (toks a 0 ++ (toks b 0).map (shTok (a.length + 1))).length = tokRows (toks a 0 ++ (toks b 0).map (shTok (a.length + 1))) := by
              rw [List.take_of_length_le (by rw [tokRows_len]; exact Nat.le_refl _)]
            refine AQ.freeze 1 (el := 29) (es := 2) (rows := tokRows (toks a 0 ++ (toks b 0).map (shTok (a.length + 1)))) rfl (by simp only [go_sem, Nat.reduceAdd, reduceCtorEq]) (by simp only [go_sem, Nat.reduceAdd, reduceCtorEq]; try (simp; done)) ?_
            simp only [go_sem, Nat.reduceAdd, reduceCtorEq, e6]
            refine AQ.fn_g (by kernel_rfl) rfl rfl (fun h => by simp [gs, AV.g]) rfl (fun _ => eq_toks (toks a 0 ++ (toks b 0).map (shTok (a.length + 1))) (by rw [← e5, List.length_map]; omega)) rfl ?_
            repeat (first | refine AP.seq rfl ?_ | refine AE.seq ?_ | refine AP.block rfl ?_ | refine AP.scope rfl ?_ | refine AP.label rfl ?_ | refine AE.sc ?_ | refine AE.sc_exit ?_ | refine AE.sc_ret ?_ | refine AP.skip rfl ?_ | refine AP.ret rfl ?_ | refine AP.exit rfl ?_ | refine AE.seq_exit ?_ | refine AE.seq_ret ?_ | refine AE.blk ?_ | refine AE.blk_exit ?_ | refine AE.blk_exit_ne rfl ?_ | refine AE.blk_ret ?_ | refine AE.lp_exit ?_ | refine AE.lp_ret ?_ | refine AQ.done ?_ | refine AP.cond_true rfl rfl ?_ | refine AP.cond_false rfl rfl ?_ | (refine AP.region rfl (by kernel_rfl) ?_; simp only [go_sem, Nat.reduceAdd, reduceCtorEq]) | (refine vq_id ?_; simp only [go_sem, Nat.reduceAdd, reduceCtorEq]) | (refine ⟨by first | omega | (intros; simp_all; done) | (intros; simp_all; omega), ?_⟩; try simp only [go_sem, Nat.reduceAdd, reduceCtorEq]))
            refine AQ.fn_g (by kernel_rfl) rfl rfl (fun h => by simp [gs]) rfl (fun _ => awake_spec) rfl ?_
            repeat (first | refine AP.seq rfl ?_ | refine AE.seq ?_ | refine AP.block rfl ?_ | refine AP.scope rfl ?_ | refine AP.label rfl ?_ | refine AE.sc ?_ | refine AE.sc_exit ?_ | refine AE.sc_ret ?_ | refine AP.skip rfl ?_ | refine AP.ret rfl ?_ | refine AP.exit rfl ?_ | refine AE.seq_exit ?_ | refine AE.seq_ret ?_ | refine AE.blk ?_ | refine AE.blk_exit ?_ | refine AE.blk_exit_ne rfl ?_ | refine AE.blk_ret ?_ | refine AE.lp_exit ?_ | refine AE.lp_ret ?_ | refine AQ.done ?_ | refine AP.cond_true rfl rfl ?_ | refine AP.cond_false rfl rfl ?_ | (refine AP.region rfl (by kernel_rfl) ?_; simp only [go_sem, Nat.reduceAdd, reduceCtorEq]) | (refine vq_id ?_; simp only [go_sem, Nat.reduceAdd, reduceCtorEq]) | (refine ⟨by first | omega | (intros; simp_all; done) | (intros; simp_all; omega), ?_⟩; try simp only [go_sem, Nat.reduceAdd, reduceCtorEq]))
            exact AE.ret0 rfl ⟨rfl, trivial⟩ rfl ⟨rfl, rfl⟩
end Go.Proofs.Ytilbfhldohibhaa
