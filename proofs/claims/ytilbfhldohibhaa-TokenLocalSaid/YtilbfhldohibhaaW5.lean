import Derived.Test.YtilbfhldohibhaaW4
set_option linter.unusedSimpArgs false
set_option linter.unusedVariables false
set_option linter.unnecessarySimpa false
namespace Go.Proofs.Ytilbfhldohibhaa
open Go Go.AL Go.RowKit
set_option maxRecDepth 10000
/-- a line ends at i -/
def brk (t : List UInt8) (i : Nat) : Bool := (t.getD i 0).toNat == 10 || ((t.getD i 0).toNat == 13 && !(decide (i + 1 < t.length) && (t.getD (i + 1) 0).toNat == 10))
def lin (t : List UInt8) : Nat → Nat
  | 0 => 1
  | i + 1 => if brk t i then lin t i + 1 else lin t i
def beg (t : List UInt8) : Nat → Nat
  | 0 => 0
  | i + 1 => if brk t i then i + 1 else beg t i
theorem lin_le (t : List UInt8) (i : Nat) : 1 ≤ lin t i ∧ lin t i ≤ i + 1 := by
  induction i with
  | zero => simp [lin]
  | succ i ih => simp only [lin]; split <;> omega
theorem beg_le (t : List UInt8) (i : Nat) : beg t i ≤ i := by
  induction i with
  | zero => simp [beg]
  | succ i ih => simp only [beg]; split <;> omega
def posOf (t : List UInt8) (a : Int) : AV := if 0 ≤ a ∧ a ≤ t.length then .tup [Iv (lin t a.toNat), Iv (a.toNat - beg t a.toNat + 1), Iv 0] else .tup [Iv 0, Iv 0, Iv 3]
theorem brk_eq (t : List UInt8) (k : Nat) (hk : k < t.length) : (((t.getD k 0).toNat : Int) == 10 || ((t.getD k 0).toNat : Int) == 13 && ((k : Int) + 1 == (t.length : Int) || ((t.getD ((k : Int) + 1).toNat 0).toNat : Int) != 10)) = brk t k := by
  rw [Int.toNat_natCast_add_one]
  rw [Bool.eq_iff_iff]
  simp only [brk, Bool.or_eq_true, Bool.and_eq_true, beq_iff_eq, bne_iff_ne, Bool.not_eq_true', Bool.and_eq_false_iff, decide_eq_false_iff_not, beq_eq_false_iff_ne]
  omega
theorem position_spec (t : List UInt8) (a : Int) (ht : t.length ≤ 1000000) : PFn Try.prog 12 [Sv t, Iv a] (posOf t a) := by
  refine ACall.walk [0, 1, 4, 5, 6, 7, 8, 9, 17, 18, 19, 20, 46] [] Try.func12 rfl Try.ntmps12 (by kernel_rfl) (by rfl) rfl fun w own I0 φ0 => ?_
  repeat (first | refine AP.seq rfl ?_ | refine AE.seq ?_ | refine AP.block rfl ?_ | refine AP.scope rfl ?_ | refine AP.label rfl ?_ | refine AE.sc ?_ | refine AE.sc_exit ?_ | refine AE.sc_ret ?_ | refine AP.skip rfl ?_ | refine AP.ret rfl ?_ | refine AP.exit rfl ?_ | refine AE.seq_exit ?_ | refine AE.seq_ret ?_ | refine AE.blk ?_ | refine AE.blk_exit ?_ | refine AE.blk_exit_ne rfl ?_ | refine AE.blk_ret ?_ | refine AE.lp_exit ?_ | refine AE.lp_ret ?_ | refine AQ.done ?_ | refine AP.cond_true rfl rfl ?_ | refine AP.cond_false rfl rfl ?_ | (refine AP.region rfl (by kernel_rfl) ?_; simp only [go_sem, Nat.reduceAdd, reduceCtorEq]) | (refine vq_id ?_; simp only [go_sem, Nat.reduceAdd, reduceCtorEq]) | (refine ⟨by first | omega | (intros; simp_all; done) | (intros; simp_all; omega), ?_⟩; try simp only [go_sem, Nat.reduceAdd, reduceCtorEq]))
  refine AP.cond rfl rfl (fun h1 => ?_) (fun h1 => ?_)
  · repeat (first | refine AP.seq rfl ?_ | refine AE.seq ?_ | refine AP.block rfl ?_ | refine AP.scope rfl ?_ | refine AP.label rfl ?_ | refine AE.sc ?_ | refine AE.sc_exit ?_ | refine AE.sc_ret ?_ | refine AP.skip rfl ?_ | refine AP.ret rfl ?_ | refine AP.exit rfl ?_ | refine AE.seq_exit ?_ | refine AE.seq_ret ?_ | refine AE.blk ?_ | refine AE.blk_exit ?_ | refine AE.blk_exit_ne rfl ?_ | refine AE.blk_ret ?_ | refine AE.lp_exit ?_ | refine AE.lp_ret ?_ | refine AQ.done ?_ | refine AP.cond_true rfl rfl ?_ | refine AP.cond_false rfl rfl ?_ | (refine AP.region rfl (by kernel_rfl) ?_; simp only [go_sem, Nat.reduceAdd, reduceCtorEq]) | (refine vq_id ?_; simp only [go_sem, Nat.reduceAdd, reduceCtorEq]) | (refine ⟨by first | omega | (intros; simp_all; done) | (intros; simp_all; omega), ?_⟩; try simp only [go_sem, Nat.reduceAdd, reduceCtorEq]))
    refine AE.ret rfl ⟨rfl, rfl, rfl, trivial⟩ ⟨rfl, ?_⟩
    have : ¬ (0 ≤ a ∧ a ≤ t.length) := by simp at h1; omega
    rw [posOf, if_neg this]; rfl
  · have ha : 0 ≤ a ∧ a ≤ t.length := by simp at h1; omega
    obtain ⟨n, rfl⟩ := Int.eq_ofNat_of_zero_le ha.1
    repeat (first | refine AP.seq rfl ?_ | refine AE.seq ?_ | refine AP.block rfl ?_ | refine AP.scope rfl ?_ | refine AP.label rfl ?_ | refine AE.sc ?_ | refine AE.sc_exit ?_ | refine AE.sc_ret ?_ | refine AP.skip rfl ?_ | refine AP.ret rfl ?_ | refine AP.exit rfl ?_ | refine AE.seq_exit ?_ | refine AE.seq_ret ?_ | refine AE.blk ?_ | refine AE.blk_exit ?_ | refine AE.blk_exit_ne rfl ?_ | refine AE.blk_ret ?_ | refine AE.lp_exit ?_ | refine AE.lp_ret ?_ | refine AQ.done ?_ | refine AP.cond_true rfl rfl ?_ | refine AP.cond_false rfl rfl ?_ | (refine AP.region rfl (by kernel_rfl) ?_; simp only [go_sem, Nat.reduceAdd, reduceCtorEq]) | (refine vq_id ?_; simp only [go_sem, Nat.reduceAdd, reduceCtorEq]) | (refine ⟨by first | omega | (intros; simp_all; done) | (intros; simp_all; omega), ?_⟩; try simp only [go_sem, Nat.reduceAdd, reduceCtorEq]))
    refine AP.loop rfl (α := Nat) (fun k => [(0, Sv t), (1, Iv n), (4, Iv (lin t k)), (7, Iv (beg t k)), (18, Iv n), (19, Iv k)]) (fun k => []) (fun k => k ≤ n) (fun k => n - k) 0 (by simp) (Sub.cons rfl (Sub.cons rfl (Sub.cons rfl (Sub.cons rfl (Sub.cons rfl (Sub.cons rfl (Sub.nil _))))))) (by simp) fun k hk => ?_
    have hw := wr (x := (k : Int) + 1) (by omega)
    have hl := lin_le t k
    have hwl := wr (x := (lin t k : Int) + 1) (by omega)
    repeat (first | refine AP.seq rfl ?_ | refine AE.seq ?_ | refine AP.block rfl ?_ | refine AP.scope rfl ?_ | refine AP.label rfl ?_ | refine AE.sc ?_ | refine AE.sc_exit ?_ | refine AE.sc_ret ?_ | refine AP.skip rfl ?_ | refine AP.ret rfl ?_ | refine AP.exit rfl ?_ | refine AE.seq_exit ?_ | refine AE.seq_ret ?_ | refine AE.blk ?_ | refine AE.blk_exit ?_ | refine AE.blk_exit_ne rfl ?_ | refine AE.blk_ret ?_ | refine AE.lp_exit ?_ | refine AE.lp_ret ?_ | refine AQ.done ?_ | refine AP.cond_true rfl rfl ?_ | refine AP.cond_false rfl rfl ?_ | (refine AP.region rfl (by kernel_rfl) ?_; simp only [go_sem, Nat.reduceAdd, reduceCtorEq, hw, hwl]) | (refine vq_id ?_; simp only [go_sem, Nat.reduceAdd, reduceCtorEq, hw, hwl]) | (refine ⟨by first | omega | (intros; simp_all; done) | (intros; simp_all; omega), ?_⟩; try simp only [go_sem, Nat.reduceAdd, reduceCtorEq, hw, hwl]))
    refine AP.cond rfl rfl (fun hc => ?_) (fun hc => ?_)
    · have hk' : k < n := by simp at hc; omega
      repeat (first | refine AP.seq rfl ?_ | refine AE.seq ?_ | refine AP.block rfl ?_ | refine AP.scope rfl ?_ | refine AP.label rfl ?_ | refine AE.sc ?_ | refine AE.sc_exit ?_ | refine AE.sc_ret ?_ | refine AP.skip rfl ?_ | refine AP.ret rfl ?_ | refine AP.exit rfl ?_ | refine AE.seq_exit ?_ | refine AE.seq_ret ?_ | refine AE.blk ?_ | refine AE.blk_exit ?_ | refine AE.blk_exit_ne rfl ?_ | refine AE.blk_ret ?_ | refine AE.lp_exit ?_ | refine AE.lp_ret ?_ | refine AQ.done ?_ | refine AP.cond_true rfl rfl ?_ | refine AP.cond_false rfl rfl ?_ | (refine AP.region rfl (by kernel_rfl) ?_; simp only [go_sem, Nat.reduceAdd, reduceCtorEq, hw, hwl]) | (refine vq_id ?_; simp only [go_sem, Nat.reduceAdd, reduceCtorEq, hw, hwl]) | (refine ⟨by first | omega | (intros; simp_all; done) | (intros; simp_all; omega), ?_⟩; try simp only [go_sem, Nat.reduceAdd, reduceCtorEq, hw, hwl]))
      refine AP.cond (b := brk t k) rfl (by simp only [← brk_eq t k (by omega)]; rfl) (fun h2 => ?_) (fun h2 => ?_)
      · repeat (first | refine AP.seq rfl ?_ | refine AE.seq ?_ | refine AP.block rfl ?_ | refine AP.scope rfl ?_ | refine AP.label rfl ?_ | refine AE.sc ?_ | refine AE.sc_exit ?_ | refine AE.sc_ret ?_ | refine AP.skip rfl ?_ | refine AP.ret rfl ?_ | refine AP.exit rfl ?_ | refine AE.seq_exit ?_ | refine AE.seq_ret ?_ | refine AE.blk ?_ | refine AE.blk_exit ?_ | refine AE.blk_exit_ne rfl ?_ | refine AE.blk_ret ?_ | refine AE.lp_exit ?_ | refine AE.lp_ret ?_ | refine AQ.done ?_ | refine AP.cond_true rfl rfl ?_ | refine AP.cond_false rfl rfl ?_ | (refine AP.region rfl (by kernel_rfl) ?_; simp only [go_sem, Nat.reduceAdd, reduceCtorEq, hw, hwl]) | (refine vq_id ?_; simp only [go_sem, Nat.reduceAdd, reduceCtorEq, hw, hwl]) | (refine ⟨by first | omega | (intros; simp_all; done) | (intros; simp_all; omega), ?_⟩; try simp only [go_sem, Nat.reduceAdd, reduceCtorEq, hw, hwl]))
        exact AE.round (k + 1) (by omega) (by omega) (Sub.cons rfl (Sub.cons rfl (Sub.cons (by simp [lin, h2]; rfl) (Sub.cons (by simp [beg, h2]; rfl) (Sub.cons rfl (Sub.cons rfl (Sub.nil _))))))) rfl
      · repeat (first | refine AP.seq rfl ?_ | refine AE.seq ?_ | refine AP.block rfl ?_ | refine AP.scope rfl ?_ | refine AP.label rfl ?_ | refine AE.sc ?_ | refine AE.sc_exit ?_ | refine AE.sc_ret ?_ | refine AP.skip rfl ?_ | refine AP.ret rfl ?_ | refine AP.exit rfl ?_ | refine AE.seq_exit ?_ | refine AE.seq_ret ?_ | refine AE.blk ?_ | refine AE.blk_exit ?_ | refine AE.blk_exit_ne rfl ?_ | refine AE.blk_ret ?_ | refine AE.lp_exit ?_ | refine AE.lp_ret ?_ | refine AQ.done ?_ | refine AP.cond_true rfl rfl ?_ | refine AP.cond_false rfl rfl ?_ | (refine AP.region rfl (by kernel_rfl) ?_; simp only [go_sem, Nat.reduceAdd, reduceCtorEq, hw, hwl]) | (refine vq_id ?_; simp only [go_sem, Nat.reduceAdd, reduceCtorEq, hw, hwl]) | (refine ⟨by first | omega | (intros; simp_all; done) | (intros; simp_all; omega), ?_⟩; try simp only [go_sem, Nat.reduceAdd, reduceCtorEq, hw, hwl]))
        exact AE.round (k + 1) (by omega) (by omega) (Sub.cons rfl (Sub.cons rfl (Sub.cons (by simp [lin, h2]; rfl) (Sub.cons (by simp [beg, h2]; rfl) (Sub.cons rfl (Sub.cons rfl (Sub.nil _))))))) rfl
    · have hk' : k = n := by simp at hc; omega
      subst hk'
      have hb := beg_le t k
      have hw1 := wr (x := (k : Int) - beg t k) (by omega)
      have hw2 := wr (x := (k : Int) - beg t k + 1) (by omega)
      repeat (first | refine AP.seq rfl ?_ | refine AE.seq ?_ | refine AP.block rfl ?_ | refine AP.scope rfl ?_ | refine AP.label rfl ?_ | refine AE.sc ?_ | refine AE.sc_exit ?_ | refine AE.sc_ret ?_ | refine AP.skip rfl ?_ | refine AP.ret rfl ?_ | refine AP.exit rfl ?_ | refine AE.seq_exit ?_ | refine AE.seq_ret ?_ | refine AE.blk ?_ | refine AE.blk_exit ?_ | refine AE.blk_exit_ne rfl ?_ | refine AE.blk_ret ?_ | refine AE.lp_exit ?_ | refine AE.lp_ret ?_ | refine AQ.done ?_ | refine AP.cond_true rfl rfl ?_ | refine AP.cond_false rfl rfl ?_ | (refine AP.region rfl (by kernel_rfl) ?_; simp only [go_sem, Nat.reduceAdd, reduceCtorEq, hw, hw1, hw2]) | (refine vq_id ?_; simp only [go_sem, Nat.reduceAdd, reduceCtorEq, hw, hw1, hw2]) | (refine ⟨by first | omega | (intros; simp_all; done) | (intros; simp_all; omega), ?_⟩; try simp only [go_sem, Nat.reduceAdd, reduceCtorEq, hw, hw1, hw2]))
      refine AE.ret rfl ⟨rfl, rfl, rfl, trivial⟩ ⟨rfl, ?_⟩
      rw [posOf, if_pos ha]; rfl
end Go.Proofs.Ytilbfhldohibhaa
