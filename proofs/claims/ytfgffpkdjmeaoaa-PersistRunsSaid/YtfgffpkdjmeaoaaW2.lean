import Derived.Test.YtfgffpkdjmeaoaaW1
set_option linter.unusedSimpArgs false
set_option linter.unusedVariables false
set_option linter.unnecessarySimpa false
section
namespace Go.Proofs.Ytfgffpkdjmeaoaa
open Go Go.AL
set_option maxRecDepth 10000
set_option maxHeartbeats 2000000
/-! Put, Size, Depth, At, find, Rank, Get -/
theorem Put_spec (t : Tr) (k : List UInt8) (v : Int) (hs : t.size + 2 ≤ 1000000000) : PFn Try.prog 50 [.agg [Tv t], Sv k, Iv v] (.agg [Tv (t.put k v)]) := by
  refine ACall.walk [0, 1, 2, 3, 6] [6] Try.func50 rfl Try.ntmps50 (by kernel_rfl) (by rfl) rfl fun W own I0 φ0 => ?_
  repeat (first | refine xPP rfl ?_ | refine xPE rfl ?_ | refine xEP rfl ?_ | refine xEE rfl ?_ | refine AQ.done ?_ | refine AQ.skip (by kernel_rfl) rfl ?_ | refine AQ.s2b (by kernel_rfl) rfl rfl rfl rfl ?_ | refine AQ.mark (by kernel_rfl) rfl rfl rfl rfl rfl rfl rfl ?_ | refine AP.cond_true rfl rfl ?_ | refine AP.cond_false rfl rfl ?_ | (refine AP.region rfl (by kernel_rfl) ?_; simp only [go_sem, Nat.reduceAdd, Nat.reduceLeDiff, reduceCtorEq]) | (refine AP.drawQ rfl rfl (by kernel_rfl) ?_; simp only [go_sem, Nat.reduceAdd, Nat.reduceLeDiff, reduceCtorEq]) | (refine vq_id ?_; simp only [go_sem, Nat.reduceAdd, Nat.reduceLeDiff, reduceCtorEq]) | (refine ⟨by first | omega | (intros; simp_all; done) | (intros; simp_all; omega), ?_⟩; try simp only [go_sem, Nat.reduceAdd, Nat.reduceLeDiff, reduceCtorEq]))
  refine AQ.fn (by kernel_rfl) rfl rfl rfl (put_spec k v t hs) rfl ?_
  repeat (first | refine xPP rfl ?_ | refine xPE rfl ?_ | refine xEP rfl ?_ | refine xEE rfl ?_ | refine AQ.done ?_ | refine AQ.skip (by kernel_rfl) rfl ?_ | refine AQ.s2b (by kernel_rfl) rfl rfl rfl rfl ?_ | refine AQ.mark (by kernel_rfl) rfl rfl rfl rfl rfl rfl rfl ?_ | refine AP.cond_true rfl rfl ?_ | refine AP.cond_false rfl rfl ?_ | (refine AP.region rfl (by kernel_rfl) ?_; simp only [go_sem, Nat.reduceAdd, Nat.reduceLeDiff, reduceCtorEq]) | (refine AP.drawQ rfl rfl (by kernel_rfl) ?_; simp only [go_sem, Nat.reduceAdd, Nat.reduceLeDiff, reduceCtorEq]) | (refine vq_id ?_; simp only [go_sem, Nat.reduceAdd, Nat.reduceLeDiff, reduceCtorEq]) | (refine ⟨by first | omega | (intros; simp_all; done) | (intros; simp_all; omega), ?_⟩; try simp only [go_sem, Nat.reduceAdd, Nat.reduceLeDiff, reduceCtorEq]))
  exact AE.ret0 rfl ⟨⟨rfl, Nat.le_of_ble_eq_true (by kernel_rfl)⟩, trivial⟩ rfl ⟨rfl, rfl⟩
theorem Size_spec (t : Tr) : PFn Try.prog 41 [.agg [Tv t]] (Iv t.size) := by
  refine ACall.walk [0, 1, 2] [] Try.func41 rfl Try.ntmps41 (by kernel_rfl) (by rfl) rfl fun W own I0 φ0 => ?_
  repeat (first | refine xPP rfl ?_ | refine xPE rfl ?_ | refine xEP rfl ?_ | refine xEE rfl ?_ | refine AQ.done ?_ | refine AQ.skip (by kernel_rfl) rfl ?_ | refine AQ.s2b (by kernel_rfl) rfl rfl rfl rfl ?_ | refine AQ.mark (by kernel_rfl) rfl rfl rfl rfl rfl rfl rfl ?_ | refine AP.cond_true rfl rfl ?_ | refine AP.cond_false rfl rfl ?_ | (refine AP.region rfl (by kernel_rfl) ?_; simp only [go_sem, Nat.reduceAdd, Nat.reduceLeDiff, reduceCtorEq]) | (refine AP.drawQ rfl rfl (by kernel_rfl) ?_; simp only [go_sem, Nat.reduceAdd, Nat.reduceLeDiff, reduceCtorEq]) | (refine vq_id ?_; simp only [go_sem, Nat.reduceAdd, Nat.reduceLeDiff, reduceCtorEq]) | (refine ⟨by first | omega | (intros; simp_all; done) | (intros; simp_all; omega), ?_⟩; try simp only [go_sem, Nat.reduceAdd, Nat.reduceLeDiff, reduceCtorEq]))
  refine AQ.fn (by kernel_rfl) rfl rfl rfl (count_spec t) rfl ?_
  repeat (first | refine xPP rfl ?_ | refine xPE rfl ?_ | refine xEP rfl ?_ | refine xEE rfl ?_ | refine AQ.done ?_ | refine AQ.skip (by kernel_rfl) rfl ?_ | refine AQ.s2b (by kernel_rfl) rfl rfl rfl rfl ?_ | refine AQ.mark (by kernel_rfl) rfl rfl rfl rfl rfl rfl rfl ?_ | refine AP.cond_true rfl rfl ?_ | refine AP.cond_false rfl rfl ?_ | (refine AP.region rfl (by kernel_rfl) ?_; simp only [go_sem, Nat.reduceAdd, Nat.reduceLeDiff, reduceCtorEq]) | (refine AP.drawQ rfl rfl (by kernel_rfl) ?_; simp only [go_sem, Nat.reduceAdd, Nat.reduceLeDiff, reduceCtorEq]) | (refine vq_id ?_; simp only [go_sem, Nat.reduceAdd, Nat.reduceLeDiff, reduceCtorEq]) | (refine ⟨by first | omega | (intros; simp_all; done) | (intros; simp_all; omega), ?_⟩; try simp only [go_sem, Nat.reduceAdd, Nat.reduceLeDiff, reduceCtorEq]))
  exact AE.ret rfl ⟨rfl, trivial⟩ ⟨rfl, rfl⟩
theorem Depth_spec (t : Tr) : PFn Try.prog 40 [.agg [Tv t]] (Iv t.ht) := by
  refine ACall.walk [0, 1, 2] [] Try.func40 rfl Try.ntmps40 (by kernel_rfl) (by rfl) rfl fun W own I0 φ0 => ?_
  repeat (first | refine xPP rfl ?_ | refine xPE rfl ?_ | refine xEP rfl ?_ | refine xEE rfl ?_ | refine AQ.done ?_ | refine AQ.skip (by kernel_rfl) rfl ?_ | refine AQ.s2b (by kernel_rfl) rfl rfl rfl rfl ?_ | refine AQ.mark (by kernel_rfl) rfl rfl rfl rfl rfl rfl rfl ?_ | refine AP.cond_true rfl rfl ?_ | refine AP.cond_false rfl rfl ?_ | (refine AP.region rfl (by kernel_rfl) ?_; simp only [go_sem, Nat.reduceAdd, Nat.reduceLeDiff, reduceCtorEq]) | (refine AP.drawQ rfl rfl (by kernel_rfl) ?_; simp only [go_sem, Nat.reduceAdd, Nat.reduceLeDiff, reduceCtorEq]) | (refine vq_id ?_; simp only [go_sem, Nat.reduceAdd, Nat.reduceLeDiff, reduceCtorEq]) | (refine ⟨by first | omega | (intros; simp_all; done) | (intros; simp_all; omega), ?_⟩; try simp only [go_sem, Nat.reduceAdd, Nat.reduceLeDiff, reduceCtorEq]))
  refine AQ.fn (by kernel_rfl) rfl rfl rfl (height_spec t) rfl ?_
  repeat (first | refine xPP rfl ?_ | refine xPE rfl ?_ | refine xEP rfl ?_ | refine xEE rfl ?_ | refine AQ.done ?_ | refine AQ.skip (by kernel_rfl) rfl ?_ | refine AQ.s2b (by kernel_rfl) rfl rfl rfl rfl ?_ | refine AQ.mark (by kernel_rfl) rfl rfl rfl rfl rfl rfl rfl ?_ | refine AP.cond_true rfl rfl ?_ | refine AP.cond_false rfl rfl ?_ | (refine AP.region rfl (by kernel_rfl) ?_; simp only [go_sem, Nat.reduceAdd, Nat.reduceLeDiff, reduceCtorEq]) | (refine AP.drawQ rfl rfl (by kernel_rfl) ?_; simp only [go_sem, Nat.reduceAdd, Nat.reduceLeDiff, reduceCtorEq]) | (refine vq_id ?_; simp only [go_sem, Nat.reduceAdd, Nat.reduceLeDiff, reduceCtorEq]) | (refine ⟨by first | omega | (intros; simp_all; done) | (intros; simp_all; omega), ?_⟩; try simp only [go_sem, Nat.reduceAdd, Nat.reduceLeDiff, reduceCtorEq]))
  exact AE.ret rfl ⟨rfl, trivial⟩ ⟨rfl, rfl⟩
/-- the entry with an index -/
def Tr.at : Tr → Nat → List UInt8 × Int
  | .nil, _ => ([], 0)
  | .node k v l r, i => if i = l.size then (k, v) else if i < l.size then l.at i else r.at (i - (l.size + 1))
def atOf (t : Tr) (i : Int) : AV := if 0 ≤ i ∧ i < t.size then .tup [Sv (t.at i.toNat).1, Iv (t.at i.toNat).2, Bv true] else .tup [Sv [], Iv 0, Bv false]
theorem At_in (t : Tr) (i : Nat) (hi : i < t.size) (hs : t.size ≤ 1000000000) : PFn Try.prog 51 [.agg [Tv t], Iv i] (.tup [Sv (t.at i).1, Iv (t.at i).2, Bv true]) := by
  refine ACall.walk [0, 1, 2, 4, 5, 6, 7, 15, 26, 33] [] Try.func51 rfl Try.ntmps51 (by kernel_rfl) (by rfl) rfl fun W own I0 φ0 => ?_
  have h0 : decide ((i : Int) < 0) = false := by simp
  repeat (first | refine xPP rfl ?_ | refine xPE rfl ?_ | refine xEP rfl ?_ | refine xEE rfl ?_ | refine AQ.done ?_ | refine AQ.skip (by kernel_rfl) rfl ?_ | refine AQ.s2b (by kernel_rfl) rfl rfl rfl rfl ?_ | refine AQ.mark (by kernel_rfl) rfl rfl rfl rfl rfl rfl rfl ?_ | refine AP.cond_true rfl rfl ?_ | refine AP.cond_false rfl rfl ?_ | (refine AP.region rfl (by kernel_rfl) ?_; simp only [go_sem, Nat.reduceAdd, Nat.reduceLeDiff, reduceCtorEq, h0]) | (refine AP.drawQ rfl rfl (by kernel_rfl) ?_; simp only [go_sem, Nat.reduceAdd, Nat.reduceLeDiff, reduceCtorEq, h0]) | (refine vq_id ?_; simp only [go_sem, Nat.reduceAdd, Nat.reduceLeDiff, reduceCtorEq, h0]) | (refine ⟨by first | omega | (intros; simp_all; done) | (intros; simp_all; omega), ?_⟩; try simp only [go_sem, Nat.reduceAdd, Nat.reduceLeDiff, reduceCtorEq, h0]))
  refine AQ.fn_g (by kernel_rfl) rfl rfl (fun h => by first | (simp [gs, AV.g]; done) | (simp [gs, AV.g, constAV]; done) | (simp [gs, AV.g, constAV, bw] at h ⊢; done) | (simp [bw] at h; done) | (simp [gs, AV.g, bw] at h ⊢; simp [h]; done) | (simp [gs, AV.g, bw] at h ⊢; exact h.1) | (simp [gs, AV.g]; rfl) | (simp [gs, AV.g, bw] at h ⊢; rfl) | (simp [gs, AV.g, bw] at h ⊢; simp [h]; rfl) | (simp [gs, AV.g, bw] at h ⊢; simp_all)) rfl (fun _ => Size_spec t) rfl ?_
  have h1 : decide ((t.size : Int) ≤ (i : Int)) = false := by simp; omega
  repeat (first | refine xPP rfl ?_ | refine xPE rfl ?_ | refine xEP rfl ?_ | refine xEE rfl ?_ | refine AQ.done ?_ | refine AQ.skip (by kernel_rfl) rfl ?_ | refine AQ.s2b (by kernel_rfl) rfl rfl rfl rfl ?_ | refine AQ.mark (by kernel_rfl) rfl rfl rfl rfl rfl rfl rfl ?_ | refine AP.cond_true rfl rfl ?_ | refine AP.cond_false rfl rfl ?_ | (refine AP.region rfl (by kernel_rfl) ?_; simp only [go_sem, Nat.reduceAdd, Nat.reduceLeDiff, reduceCtorEq, h1]) | (refine AP.drawQ rfl rfl (by kernel_rfl) ?_; simp only [go_sem, Nat.reduceAdd, Nat.reduceLeDiff, reduceCtorEq, h1]) | (refine vq_id ?_; simp only [go_sem, Nat.reduceAdd, Nat.reduceLeDiff, reduceCtorEq, h1]) | (refine ⟨by first | omega | (intros; simp_all; done) | (intros; simp_all; omega), ?_⟩; try simp only [go_sem, Nat.reduceAdd, Nat.reduceLeDiff, reduceCtorEq, h1]))
  refine AP.loop rfl (α := Tr × Nat) (fun p => [(1, Iv p.2), (7, Tv p.1)]) (fun _ => []) (fun p => p.2 < p.1.size ∧ p.1.size ≤ 1000000000 ∧ p.1.at p.2 = t.at i) (fun p => p.1.size) (t, i) ⟨hi, hs, rfl⟩ (by repeat (first | exact Sub.nil _ | refine Sub.cons rfl ?_)) rfl fun p hp => ?_
  obtain ⟨n, j⟩ := p
  obtain ⟨hj, hn, hat⟩ := hp
  simp only at hj hn hat
  cases n with
  | nil => simp [Tr.size] at hj
  | node k v l r =>
    have hz : (Tr.node k v l r).size = l.size + r.size + 1 := rfl
    repeat (first | refine xPP rfl ?_ | refine xPE rfl ?_ | refine xEP rfl ?_ | refine xEE rfl ?_ | refine AQ.done ?_ | refine AQ.skip (by kernel_rfl) rfl ?_ | refine AQ.s2b (by kernel_rfl) rfl rfl rfl rfl ?_ | refine AQ.mark (by kernel_rfl) rfl rfl rfl rfl rfl rfl rfl ?_ | refine AP.cond_true rfl rfl ?_ | refine AP.cond_false rfl rfl ?_ | (refine AP.region rfl (by kernel_rfl) ?_; simp only [go_sem, Nat.reduceAdd, Nat.reduceLeDiff, reduceCtorEq, Tv, Tr.iv]) | (refine AP.drawQ rfl rfl (by kernel_rfl) ?_; simp only [go_sem, Nat.reduceAdd, Nat.reduceLeDiff, reduceCtorEq, Tv, Tr.iv]) | (refine vq_id ?_; simp only [go_sem, Nat.reduceAdd, Nat.reduceLeDiff, reduceCtorEq, Tv, Tr.iv]) | (refine ⟨by first | omega | (intros; simp_all; done) | (intros; simp_all; omega), ?_⟩; try simp only [go_sem, Nat.reduceAdd, Nat.reduceLeDiff, reduceCtorEq, Tv, Tr.iv]))
    refine AQ.fn (by kernel_rfl) rfl rfl rfl (count_spec l) rfl ?_
    repeat (first | refine xPP rfl ?_ | refine xPE rfl ?_ | refine xEP rfl ?_ | refine xEE rfl ?_ | refine AQ.done ?_ | refine AQ.skip (by kernel_rfl) rfl ?_ | refine AQ.s2b (by kernel_rfl) rfl rfl rfl rfl ?_ | refine AQ.mark (by kernel_rfl) rfl rfl rfl rfl rfl rfl rfl ?_ | refine AP.cond_true rfl rfl ?_ | refine AP.cond_false rfl rfl ?_ | (refine AP.region rfl (by kernel_rfl) ?_; simp only [go_sem, Nat.reduceAdd, Nat.reduceLeDiff, reduceCtorEq]) | (refine AP.drawQ rfl rfl (by kernel_rfl) ?_; simp only [go_sem, Nat.reduceAdd, Nat.reduceLeDiff, reduceCtorEq]) | (refine vq_id ?_; simp only [go_sem, Nat.reduceAdd, Nat.reduceLeDiff, reduceCtorEq]) | (refine ⟨by first | omega | (intros; simp_all; done) | (intros; simp_all; omega), ?_⟩; try simp only [go_sem, Nat.reduceAdd, Nat.reduceLeDiff, reduceCtorEq]))
    refine AP.cond rfl rfl (fun hc => ?_) (fun hc => ?_)
    · have hne : j ≠ l.size := by simp at hc; omega
      repeat (first | refine xPP rfl ?_ | refine xPE rfl ?_ | refine xEP rfl ?_ | refine xEE rfl ?_ | refine AQ.done ?_ | refine AQ.skip (by kernel_rfl) rfl ?_ | refine AQ.s2b (by kernel_rfl) rfl rfl rfl rfl ?_ | refine AQ.mark (by kernel_rfl) rfl rfl rfl rfl rfl rfl rfl ?_ | refine AP.cond_true rfl rfl ?_ | refine AP.cond_false rfl rfl ?_ | (refine AP.region rfl (by kernel_rfl) ?_; simp only [go_sem, Nat.reduceAdd, Nat.reduceLeDiff, reduceCtorEq, Tv, Tr.iv]) | (refine AP.drawQ rfl rfl (by kernel_rfl) ?_; simp only [go_sem, Nat.reduceAdd, Nat.reduceLeDiff, reduceCtorEq, Tv, Tr.iv]) | (refine vq_id ?_; simp only [go_sem, Nat.reduceAdd, Nat.reduceLeDiff, reduceCtorEq, Tv, Tr.iv]) | (refine ⟨by first | omega | (intros; simp_all; done) | (intros; simp_all; omega), ?_⟩; try simp only [go_sem, Nat.reduceAdd, Nat.reduceLeDiff, reduceCtorEq, Tv, Tr.iv]))
      refine AQ.fn (by kernel_rfl) rfl rfl rfl (count_spec l) rfl ?_
      repeat (first | refine xPP rfl ?_ | refine xPE rfl ?_ | refine xEP rfl ?_ | refine xEE rfl ?_ | refine AQ.done ?_ | refine AQ.skip (by kernel_rfl) rfl ?_ | refine AQ.s2b (by kernel_rfl) rfl rfl rfl rfl ?_ | refine AQ.mark (by kernel_rfl) rfl rfl rfl rfl rfl rfl rfl ?_ | refine AP.cond_true rfl rfl ?_ | refine AP.cond_false rfl rfl ?_ | (refine AP.region rfl (by kernel_rfl) ?_; simp only [go_sem, Nat.reduceAdd, Nat.reduceLeDiff, reduceCtorEq]) | (refine AP.drawQ rfl rfl (by kernel_rfl) ?_; simp only [go_sem, Nat.reduceAdd, Nat.reduceLeDiff, reduceCtorEq]) | (refine vq_id ?_; simp only [go_sem, Nat.reduceAdd, Nat.reduceLeDiff, reduceCtorEq]) | (refine ⟨by first | omega | (intros; simp_all; done) | (intros; simp_all; omega), ?_⟩; try simp only [go_sem, Nat.reduceAdd, Nat.reduceLeDiff, reduceCtorEq]))
      refine AP.cond rfl rfl (fun hd => ?_) (fun hd => ?_)
      · have hlt : j < l.size := by simp at hd; omega
        repeat (first | refine xPP rfl ?_ | refine xPE rfl ?_ | refine xEP rfl ?_ | refine xEE rfl ?_ | refine AQ.done ?_ | refine AQ.skip (by kernel_rfl) rfl ?_ | refine AQ.s2b (by kernel_rfl) rfl rfl rfl rfl ?_ | refine AQ.mark (by kernel_rfl) rfl rfl rfl rfl rfl rfl rfl ?_ | refine AP.cond_true rfl rfl ?_ | refine AP.cond_false rfl rfl ?_ | (refine AP.region rfl (by kernel_rfl) ?_; simp only [go_sem, Nat.reduceAdd, Nat.reduceLeDiff, reduceCtorEq, Tv, Tr.iv]) | (refine AP.drawQ rfl rfl (by kernel_rfl) ?_; simp only [go_sem, Nat.reduceAdd, Nat.reduceLeDiff, reduceCtorEq, Tv, Tr.iv]) | (refine vq_id ?_; simp only [go_sem, Nat.reduceAdd, Nat.reduceLeDiff, reduceCtorEq, Tv, Tr.iv]) | (refine ⟨by first | omega | (intros; simp_all; done) | (intros; simp_all; omega), ?_⟩; try simp only [go_sem, Nat.reduceAdd, Nat.reduceLeDiff, reduceCtorEq, Tv, Tr.iv]))
        exact AE.round (l, j) ⟨hlt, by dsimp only; omega, by rw [← hat]; simp only [Tr.at, if_neg hne, if_pos hlt]⟩ (by simp only [hz]; omega) (by repeat (first | exact Sub.nil _ | refine Sub.cons rfl ?_)) rfl
      · have hlt : ¬ j < l.size := by simp at hd; omega
        have w1 := wr (x := (l.size : Int) + 1) (by omega)
        have w2 : IntKind.i64.wrap ((j : Int) - ((l.size : Int) + 1)) = ((j - (l.size + 1) : Nat) : Int) := by rw [wr (by omega)]; omega
        repeat (first | refine xPP rfl ?_ | refine xPE rfl ?_ | refine xEP rfl ?_ | refine xEE rfl ?_ | refine AQ.done ?_ | refine AQ.skip (by kernel_rfl) rfl ?_ | refine AQ.s2b (by kernel_rfl) rfl rfl rfl rfl ?_ | refine AQ.mark (by kernel_rfl) rfl rfl rfl rfl rfl rfl rfl ?_ | refine AP.cond_true rfl rfl ?_ | refine AP.cond_false rfl rfl ?_ | (refine AP.region rfl (by kernel_rfl) ?_; simp only [go_sem, Nat.reduceAdd, Nat.reduceLeDiff, reduceCtorEq, Tv, Tr.iv]) | (refine AP.drawQ rfl rfl (by kernel_rfl) ?_; simp only [go_sem, Nat.reduceAdd, Nat.reduceLeDiff, reduceCtorEq, Tv, Tr.iv]) | (refine vq_id ?_; simp only [go_sem, Nat.reduceAdd, Nat.reduceLeDiff, reduceCtorEq, Tv, Tr.iv]) | (refine ⟨by first | omega | (intros; simp_all; done) | (intros; simp_all; omega), ?_⟩; try simp only [go_sem, Nat.reduceAdd, Nat.reduceLeDiff, reduceCtorEq, Tv, Tr.iv]))
        refine AQ.fn (by kernel_rfl) rfl rfl rfl (count_spec l) rfl ?_
        repeat (first | refine xPP rfl ?_ | refine xPE rfl ?_ | refine xEP rfl ?_ | refine xEE rfl ?_ | refine AQ.done ?_ | refine AQ.skip (by kernel_rfl) rfl ?_ | refine AQ.s2b (by kernel_rfl) rfl rfl rfl rfl ?_ | refine AQ.mark (by kernel_rfl) rfl rfl rfl rfl rfl rfl rfl ?_ | refine AP.cond_true rfl rfl ?_ | refine AP.cond_false rfl rfl ?_ | (refine AP.region rfl (by kernel_rfl) ?_; simp only [go_sem, Nat.reduceAdd, Nat.reduceLeDiff, reduceCtorEq, w1, w2]) | (refine AP.drawQ rfl rfl (by kernel_rfl) ?_; simp only [go_sem, Nat.reduceAdd, Nat.reduceLeDiff, reduceCtorEq, w1, w2]) | (refine vq_id ?_; simp only [go_sem, Nat.reduceAdd, Nat.reduceLeDiff, reduceCtorEq, w1, w2]) | (refine ⟨by first | omega | (intros; simp_all; done) | (intros; simp_all; omega), ?_⟩; try simp only [go_sem, Nat.reduceAdd, Nat.reduceLeDiff, reduceCtorEq, w1, w2]))
        exact AE.round (r, j - (l.size + 1)) ⟨by dsimp only; omega, by dsimp only; omega, by rw [← hat]; simp only [Tr.at, if_neg hne, if_neg hlt]⟩ (by simp only [hz]; omega) (by repeat (first | exact Sub.nil _ | refine Sub.cons rfl ?_)) rfl
    · have heq : j = l.size := by simp at hc; omega
      repeat (first | refine xPP rfl ?_ | refine xPE rfl ?_ | refine xEP rfl ?_ | refine xEE rfl ?_ | refine AQ.done ?_ | refine AQ.skip (by kernel_rfl) rfl ?_ | refine AQ.s2b (by kernel_rfl) rfl rfl rfl rfl ?_ | refine AQ.mark (by kernel_rfl) rfl rfl rfl rfl rfl rfl rfl ?_ | refine AP.cond_true rfl rfl ?_ | refine AP.cond_false rfl rfl ?_ | (refine AP.region rfl (by kernel_rfl) ?_; simp only [go_sem, Nat.reduceAdd, Nat.reduceLeDiff, reduceCtorEq]) | (refine AP.drawQ rfl rfl (by kernel_rfl) ?_; simp only [go_sem, Nat.reduceAdd, Nat.reduceLeDiff, reduceCtorEq]) | (refine vq_id ?_; simp only [go_sem, Nat.reduceAdd, Nat.reduceLeDiff, reduceCtorEq]) | (refine ⟨by first | omega | (intros; simp_all; done) | (intros; simp_all; omega), ?_⟩; try simp only [go_sem, Nat.reduceAdd, Nat.reduceLeDiff, reduceCtorEq]))
      repeat (first | refine xPP rfl ?_ | refine xPE rfl ?_ | refine xEP rfl ?_ | refine xEE rfl ?_ | refine AQ.done ?_ | refine AQ.skip (by kernel_rfl) rfl ?_ | refine AQ.s2b (by kernel_rfl) rfl rfl rfl rfl ?_ | refine AQ.mark (by kernel_rfl) rfl rfl rfl rfl rfl rfl rfl ?_ | refine AP.cond_true rfl rfl ?_ | refine AP.cond_false rfl rfl ?_ | (refine AP.region rfl (by kernel_rfl) ?_; simp only [go_sem, Nat.reduceAdd, Nat.reduceLeDiff, reduceCtorEq, Tv, Tr.iv]) | (refine AP.drawQ rfl rfl (by kernel_rfl) ?_; simp only [go_sem, Nat.reduceAdd, Nat.reduceLeDiff, reduceCtorEq, Tv, Tr.iv]) | (refine vq_id ?_; simp only [go_sem, Nat.reduceAdd, Nat.reduceLeDiff, reduceCtorEq, Tv, Tr.iv]) | (refine ⟨by first | omega | (intros; simp_all; done) | (intros; simp_all; omega), ?_⟩; try simp only [go_sem, Nat.reduceAdd, Nat.reduceLeDiff, reduceCtorEq, Tv, Tr.iv]))
      refine AE.ret rfl ⟨rfl, rfl, rfl, trivial⟩ ⟨rfl, ?_⟩
      rw [← hat]; simp only [Tr.at, if_pos heq]; rfl
theorem At_out (t : Tr) (i : Int) (hi : i < 0 ∨ (t.size : Int) ≤ i) : PFn Try.prog 51 [.agg [Tv t], Iv i] (.tup [Sv [], Iv 0, Bv false]) := by
  refine ACall.walk [0, 1, 2, 4, 5, 6, 7, 15, 26, 33] [] Try.func51 rfl Try.ntmps51 (by kernel_rfl) (by rfl) rfl fun W own I0 φ0 => ?_
  by_cases h0 : i < 0
  · repeat (first | refine xPP rfl ?_ | refine xPE rfl ?_ | refine xEP rfl ?_ | refine xEE rfl ?_ | refine AQ.done ?_ | refine AQ.skip (by kernel_rfl) rfl ?_ | refine AQ.s2b (by kernel_rfl) rfl rfl rfl rfl ?_ | refine AQ.mark (by kernel_rfl) rfl rfl rfl rfl rfl rfl rfl ?_ | refine AP.cond_true rfl rfl ?_ | refine AP.cond_false rfl rfl ?_ | (refine AP.region rfl (by kernel_rfl) ?_; simp only [go_sem, Nat.reduceAdd, Nat.reduceLeDiff, reduceCtorEq, decide_eq_true h0]) | (refine AP.drawQ rfl rfl (by kernel_rfl) ?_; simp only [go_sem, Nat.reduceAdd, Nat.reduceLeDiff, reduceCtorEq, decide_eq_true h0]) | (refine vq_id ?_; simp only [go_sem, Nat.reduceAdd, Nat.reduceLeDiff, reduceCtorEq, decide_eq_true h0]) | (refine ⟨by first | omega | (intros; simp_all; done) | (intros; simp_all; omega), ?_⟩; try simp only [go_sem, Nat.reduceAdd, Nat.reduceLeDiff, reduceCtorEq, decide_eq_true h0]))
    exact AE.ret rfl ⟨rfl, rfl, rfl, trivial⟩ ⟨rfl, rfl⟩
  · have h1 : (t.size : Int) ≤ i := by omega
    repeat (first | refine xPP rfl ?_ | refine xPE rfl ?_ | refine xEP rfl ?_ | refine xEE rfl ?_ | refine AQ.done ?_ | refine AQ.skip (by kernel_rfl) rfl ?_ | refine AQ.s2b (by kernel_rfl) rfl rfl rfl rfl ?_ | refine AQ.mark (by kernel_rfl) rfl rfl rfl rfl rfl rfl rfl ?_ | refine AP.cond_true rfl rfl ?_ | refine AP.cond_false rfl rfl ?_ | (refine AP.region rfl (by kernel_rfl) ?_; simp only [go_sem, Nat.reduceAdd, Nat.reduceLeDiff, reduceCtorEq, decide_eq_false h0]) | (refine AP.drawQ rfl rfl (by kernel_rfl) ?_; simp only [go_sem, Nat.reduceAdd, Nat.reduceLeDiff, reduceCtorEq, decide_eq_false h0]) | (refine vq_id ?_; simp only [go_sem, Nat.reduceAdd, Nat.reduceLeDiff, reduceCtorEq, decide_eq_false h0]) | (refine ⟨by first | omega | (intros; simp_all; done) | (intros; simp_all; omega), ?_⟩; try simp only [go_sem, Nat.reduceAdd, Nat.reduceLeDiff, reduceCtorEq, decide_eq_false h0]))
    refine AQ.fn_g (by kernel_rfl) rfl rfl (fun h => by first | (simp [gs, AV.g]; done) | (simp [gs, AV.g, constAV]; done) | (simp [gs, AV.g, constAV, bw] at h ⊢; done) | (simp [bw] at h; done) | (simp [gs, AV.g, bw] at h ⊢; simp [h]; done) | (simp [gs, AV.g, bw] at h ⊢; exact h.1) | (simp [gs, AV.g]; rfl) | (simp [gs, AV.g, bw] at h ⊢; rfl) | (simp [gs, AV.g, bw] at h ⊢; simp [h]; rfl) | (simp [gs, AV.g, bw] at h ⊢; simp_all)) rfl (fun _ => Size_spec t) rfl ?_
    repeat (first | refine xPP rfl ?_ | refine xPE rfl ?_ | refine xEP rfl ?_ | refine xEE rfl ?_ | refine AQ.done ?_ | refine AQ.skip (by kernel_rfl) rfl ?_ | refine AQ.s2b (by kernel_rfl) rfl rfl rfl rfl ?_ | refine AQ.mark (by kernel_rfl) rfl rfl rfl rfl rfl rfl rfl ?_ | refine AP.cond_true rfl rfl ?_ | refine AP.cond_false rfl rfl ?_ | (refine AP.region rfl (by kernel_rfl) ?_; simp only [go_sem, Nat.reduceAdd, Nat.reduceLeDiff, reduceCtorEq, decide_eq_true h1]) | (refine AP.drawQ rfl rfl (by kernel_rfl) ?_; simp only [go_sem, Nat.reduceAdd, Nat.reduceLeDiff, reduceCtorEq, decide_eq_true h1]) | (refine vq_id ?_; simp only [go_sem, Nat.reduceAdd, Nat.reduceLeDiff, reduceCtorEq, decide_eq_true h1]) | (refine ⟨by first | omega | (intros; simp_all; done) | (intros; simp_all; omega), ?_⟩; try simp only [go_sem, Nat.reduceAdd, Nat.reduceLeDiff, reduceCtorEq, decide_eq_true h1]))
    exact AE.ret rfl ⟨rfl, rfl, rfl, trivial⟩ ⟨rfl, rfl⟩
/-- the node with a key; the number of keys that are less -/
def Tr.find (k : List UInt8) : Tr → Tr
  | .nil => .nil
  | .node k' v l r => if cmpS k k' < 0 then l.find k else if 0 < cmpS k k' then r.find k else .node k' v l r
def Tr.rank (k : List UInt8) : Tr → Nat
  | .nil => 0
  | .node k' _ l r => if cmpS k k' < 0 then l.rank k else if 0 < cmpS k k' then l.size + 1 + r.rank k else l.size
theorem Tr.rank_le (k : List UInt8) : ∀ t : Tr, t.rank k ≤ t.size
  | .nil => Nat.le_refl _
  | .node k' _ l r => by
    have := Tr.rank_le k l
    have := Tr.rank_le k r
    simp only [Tr.rank, Tr.size]
    split
    · omega
    · split <;> omega
theorem find_spec (t : Tr) (k : List UInt8) (hs : t.size ≤ 1000000000) : PFn Try.prog 79 [.agg [Tv t], Sv k] (.tup [Tv (t.find k), Iv (t.rank k)]) := by
  refine ACall.walk [0, 1, 2, 4, 5, 6, 7, 8, 12, 27, 34] [] Try.func79 rfl Try.ntmps79 (by kernel_rfl) (by rfl) rfl fun W own I0 φ0 => ?_
  repeat (first | refine xPP rfl ?_ | refine xPE rfl ?_ | refine xEP rfl ?_ | refine xEE rfl ?_ | refine AQ.done ?_ | refine AQ.skip (by kernel_rfl) rfl ?_ | refine AQ.s2b (by kernel_rfl) rfl rfl rfl rfl ?_ | refine AQ.mark (by kernel_rfl) rfl rfl rfl rfl rfl rfl rfl ?_ | refine AP.cond_true rfl rfl ?_ | refine AP.cond_false rfl rfl ?_ | (refine AP.region rfl (by kernel_rfl) ?_; simp only [go_sem, Nat.reduceAdd, Nat.reduceLeDiff, reduceCtorEq]) | (refine AP.drawQ rfl rfl (by kernel_rfl) ?_; simp only [go_sem, Nat.reduceAdd, Nat.reduceLeDiff, reduceCtorEq]) | (refine vq_id ?_; simp only [go_sem, Nat.reduceAdd, Nat.reduceLeDiff, reduceCtorEq]) | (refine ⟨by first | omega | (intros; simp_all; done) | (intros; simp_all; omega), ?_⟩; try simp only [go_sem, Nat.reduceAdd, Nat.reduceLeDiff, reduceCtorEq]))
  refine AP.loop rfl (α := Tr × Nat) (fun p => [(1, Sv k), (6, Iv p.2), (7, Tv p.1)]) (fun _ => []) (fun p => p.2 + p.1.size ≤ 1000000000 ∧ p.1.find k = t.find k ∧ p.2 + p.1.rank k = t.rank k) (fun p => p.1.size) (t, 0) ⟨by simpa using hs, rfl, by simp⟩ (by repeat (first | exact Sub.nil _ | refine Sub.cons rfl ?_)) rfl fun p hp => ?_
  obtain ⟨n, j⟩ := p
  obtain ⟨hj, hf, hr⟩ := hp
  simp only at hj hf hr
  cases n with
  | nil =>
    repeat (first | refine xPP rfl ?_ | refine xPE rfl ?_ | refine xEP rfl ?_ | refine xEE rfl ?_ | refine AQ.done ?_ | refine AQ.skip (by kernel_rfl) rfl ?_ | refine AQ.s2b (by kernel_rfl) rfl rfl rfl rfl ?_ | refine AQ.mark (by kernel_rfl) rfl rfl rfl rfl rfl rfl rfl ?_ | refine AP.cond_true rfl rfl ?_ | refine AP.cond_false rfl rfl ?_ | (refine AP.region rfl (by kernel_rfl) ?_; simp only [go_sem, Nat.reduceAdd, Nat.reduceLeDiff, reduceCtorEq, Tv, Tr.iv]) | (refine AP.drawQ rfl rfl (by kernel_rfl) ?_; simp only [go_sem, Nat.reduceAdd, Nat.reduceLeDiff, reduceCtorEq, Tv, Tr.iv]) | (refine vq_id ?_; simp only [go_sem, Nat.reduceAdd, Nat.reduceLeDiff, reduceCtorEq, Tv, Tr.iv]) | (refine ⟨by first | omega | (intros; simp_all; done) | (intros; simp_all; omega), ?_⟩; try simp only [go_sem, Nat.reduceAdd, Nat.reduceLeDiff, reduceCtorEq, Tv, Tr.iv]))
    refine AE.ret rfl ⟨rfl, rfl, trivial⟩ ⟨rfl, ?_⟩
    rw [← hf, ← hr]; rfl
  | node k' v l r =>
    have hz : (Tr.node k' v l r).size = l.size + r.size + 1 := rfl
    repeat (first | refine xPP rfl ?_ | refine xPE rfl ?_ | refine xEP rfl ?_ | refine xEE rfl ?_ | refine AQ.done ?_ | refine AQ.skip (by kernel_rfl) rfl ?_ | refine AQ.s2b (by kernel_rfl) rfl rfl rfl rfl ?_ | refine AQ.mark (by kernel_rfl) rfl rfl rfl rfl rfl rfl rfl ?_ | refine AP.cond_true rfl rfl ?_ | refine AP.cond_false rfl rfl ?_ | (refine AP.region rfl (by kernel_rfl) ?_; simp only [go_sem, Nat.reduceAdd, Nat.reduceLeDiff, reduceCtorEq, Tv, Tr.iv]) | (refine AP.drawQ rfl rfl (by kernel_rfl) ?_; simp only [go_sem, Nat.reduceAdd, Nat.reduceLeDiff, reduceCtorEq, Tv, Tr.iv]) | (refine vq_id ?_; simp only [go_sem, Nat.reduceAdd, Nat.reduceLeDiff, reduceCtorEq, Tv, Tr.iv]) | (refine ⟨by first | omega | (intros; simp_all; done) | (intros; simp_all; omega), ?_⟩; try simp only [go_sem, Nat.reduceAdd, Nat.reduceLeDiff, reduceCtorEq, Tv, Tr.iv]))
    refine AQ.fn (by kernel_rfl) rfl rfl rfl (compare_spec k k') rfl ?_
    repeat (first | refine xPP rfl ?_ | refine xPE rfl ?_ | refine xEP rfl ?_ | refine xEE rfl ?_ | refine AQ.done ?_ | refine AQ.skip (by kernel_rfl) rfl ?_ | refine AQ.s2b (by kernel_rfl) rfl rfl rfl rfl ?_ | refine AQ.mark (by kernel_rfl) rfl rfl rfl rfl rfl rfl rfl ?_ | refine AP.cond_true rfl rfl ?_ | refine AP.cond_false rfl rfl ?_ | (refine AP.region rfl (by kernel_rfl) ?_; simp only [go_sem, Nat.reduceAdd, Nat.reduceLeDiff, reduceCtorEq]) | (refine AP.drawQ rfl rfl (by kernel_rfl) ?_; simp only [go_sem, Nat.reduceAdd, Nat.reduceLeDiff, reduceCtorEq]) | (refine vq_id ?_; simp only [go_sem, Nat.reduceAdd, Nat.reduceLeDiff, reduceCtorEq]) | (refine ⟨by first | omega | (intros; simp_all; done) | (intros; simp_all; omega), ?_⟩; try simp only [go_sem, Nat.reduceAdd, Nat.reduceLeDiff, reduceCtorEq]))
    refine AP.cond rfl rfl (fun hc => ?_) (fun hc => ?_)
    · have hlt : cmpS k k' < 0 := by simpa using hc
      repeat (first | refine xPP rfl ?_ | refine xPE rfl ?_ | refine xEP rfl ?_ | refine xEE rfl ?_ | refine AQ.done ?_ | refine AQ.skip (by kernel_rfl) rfl ?_ | refine AQ.s2b (by kernel_rfl) rfl rfl rfl rfl ?_ | refine AQ.mark (by kernel_rfl) rfl rfl rfl rfl rfl rfl rfl ?_ | refine AP.cond_true rfl rfl ?_ | refine AP.cond_false rfl rfl ?_ | (refine AP.region rfl (by kernel_rfl) ?_; simp only [go_sem, Nat.reduceAdd, Nat.reduceLeDiff, reduceCtorEq, Tv, Tr.iv]) | (refine AP.drawQ rfl rfl (by kernel_rfl) ?_; simp only [go_sem, Nat.reduceAdd, Nat.reduceLeDiff, reduceCtorEq, Tv, Tr.iv]) | (refine vq_id ?_; simp only [go_sem, Nat.reduceAdd, Nat.reduceLeDiff, reduceCtorEq, Tv, Tr.iv]) | (refine ⟨by first | omega | (intros; simp_all; done) | (intros; simp_all; omega), ?_⟩; try simp only [go_sem, Nat.reduceAdd, Nat.reduceLeDiff, reduceCtorEq, Tv, Tr.iv]))
      exact AE.round (l, j) ⟨by dsimp only; omega, by rw [← hf]; simp only [Tr.find, if_pos hlt], by rw [← hr]; simp only [Tr.rank, if_pos hlt]⟩ (by simp only [hz]; omega) (by repeat (first | exact Sub.nil _ | refine Sub.cons rfl ?_)) rfl
    · have hnl : ¬ cmpS k k' < 0 := by simpa using hc
      repeat (first | refine xPP rfl ?_ | refine xPE rfl ?_ | refine xEP rfl ?_ | refine xEE rfl ?_ | refine AQ.done ?_ | refine AQ.skip (by kernel_rfl) rfl ?_ | refine AQ.s2b (by kernel_rfl) rfl rfl rfl rfl ?_ | refine AQ.mark (by kernel_rfl) rfl rfl rfl rfl rfl rfl rfl ?_ | refine AP.cond_true rfl rfl ?_ | refine AP.cond_false rfl rfl ?_ | (refine AP.region rfl (by kernel_rfl) ?_; simp only [go_sem, Nat.reduceAdd, Nat.reduceLeDiff, reduceCtorEq, Tv, Tr.iv]) | (refine AP.drawQ rfl rfl (by kernel_rfl) ?_; simp only [go_sem, Nat.reduceAdd, Nat.reduceLeDiff, reduceCtorEq, Tv, Tr.iv]) | (refine vq_id ?_; simp only [go_sem, Nat.reduceAdd, Nat.reduceLeDiff, reduceCtorEq, Tv, Tr.iv]) | (refine ⟨by first | omega | (intros; simp_all; done) | (intros; simp_all; omega), ?_⟩; try simp only [go_sem, Nat.reduceAdd, Nat.reduceLeDiff, reduceCtorEq, Tv, Tr.iv]))
      refine AP.cond rfl rfl (fun hd => ?_) (fun hd => ?_)
      · have hlt : 0 < cmpS k k' := by simpa using hd
        have w1 := wr (x := (l.size : Int) + 1) (by omega)
        have w2 := wr (x := (j : Int) + (l.size + 1)) (by omega)
        repeat (first | refine xPP rfl ?_ | refine xPE rfl ?_ | refine xEP rfl ?_ | refine xEE rfl ?_ | refine AQ.done ?_ | refine AQ.skip (by kernel_rfl) rfl ?_ | refine AQ.s2b (by kernel_rfl) rfl rfl rfl rfl ?_ | refine AQ.mark (by kernel_rfl) rfl rfl rfl rfl rfl rfl rfl ?_ | refine AP.cond_true rfl rfl ?_ | refine AP.cond_false rfl rfl ?_ | (refine AP.region rfl (by kernel_rfl) ?_; simp only [go_sem, Nat.reduceAdd, Nat.reduceLeDiff, reduceCtorEq, Tv, Tr.iv]) | (refine AP.drawQ rfl rfl (by kernel_rfl) ?_; simp only [go_sem, Nat.reduceAdd, Nat.reduceLeDiff, reduceCtorEq, Tv, Tr.iv]) | (refine vq_id ?_; simp only [go_sem, Nat.reduceAdd, Nat.reduceLeDiff, reduceCtorEq, Tv, Tr.iv]) | (refine ⟨by first | omega | (intros; simp_all; done) | (intros; simp_all; omega), ?_⟩; try simp only [go_sem, Nat.reduceAdd, Nat.reduceLeDiff, reduceCtorEq, Tv, Tr.iv]))
        refine AQ.fn (by kernel_rfl) rfl rfl rfl (count_spec l) rfl ?_
        repeat (first | refine xPP rfl ?_ | refine xPE rfl ?_ | refine xEP rfl ?_ | refine xEE rfl ?_ | refine AQ.done ?_ | refine AQ.skip (by kernel_rfl) rfl ?_ | refine AQ.s2b (by kernel_rfl) rfl rfl rfl rfl ?_ | refine AQ.mark (by kernel_rfl) rfl rfl rfl rfl rfl rfl rfl ?_ | refine AP.cond_true rfl rfl ?_ | refine AP.cond_false rfl rfl ?_ | (refine AP.region rfl (by kernel_rfl) ?_; simp only [go_sem, Nat.reduceAdd, Nat.reduceLeDiff, reduceCtorEq, Tv, Tr.iv, w1, w2]) | (refine AP.drawQ rfl rfl (by kernel_rfl) ?_; simp only [go_sem, Nat.reduceAdd, Nat.reduceLeDiff, reduceCtorEq, Tv, Tr.iv, w1, w2]) | (refine vq_id ?_; simp only [go_sem, Nat.reduceAdd, Nat.reduceLeDiff, reduceCtorEq, Tv, Tr.iv, w1, w2]) | (refine ⟨by first | omega | (intros; simp_all; done) | (intros; simp_all; omega), ?_⟩; try simp only [go_sem, Nat.reduceAdd, Nat.reduceLeDiff, reduceCtorEq, Tv, Tr.iv, w1, w2]))
        exact AE.round (r, j + (l.size + 1)) ⟨by dsimp only; omega, by rw [← hf]; simp only [Tr.find, if_neg hnl, if_pos hlt], by rw [← hr]; simp only [Tr.rank, if_neg hnl, if_pos hlt]; omega⟩ (by simp only [hz]; omega) (by repeat (first | exact Sub.nil _ | refine Sub.cons rfl ?_)) rfl
      · have hng : ¬ 0 < cmpS k k' := by simpa using hd
        have w2 := wr (x := (j : Int) + l.size) (by omega)
        repeat (first | refine xPP rfl ?_ | refine xPE rfl ?_ | refine xEP rfl ?_ | refine xEE rfl ?_ | refine AQ.done ?_ | refine AQ.skip (by kernel_rfl) rfl ?_ | refine AQ.s2b (by kernel_rfl) rfl rfl rfl rfl ?_ | refine AQ.mark (by kernel_rfl) rfl rfl rfl rfl rfl rfl rfl ?_ | refine AP.cond_true rfl rfl ?_ | refine AP.cond_false rfl rfl ?_ | (refine AP.region rfl (by kernel_rfl) ?_; simp only [go_sem, Nat.reduceAdd, Nat.reduceLeDiff, reduceCtorEq, Tv, Tr.iv]) | (refine AP.drawQ rfl rfl (by kernel_rfl) ?_; simp only [go_sem, Nat.reduceAdd, Nat.reduceLeDiff, reduceCtorEq, Tv, Tr.iv]) | (refine vq_id ?_; simp only [go_sem, Nat.reduceAdd, Nat.reduceLeDiff, reduceCtorEq, Tv, Tr.iv]) | (refine ⟨by first | omega | (intros; simp_all; done) | (intros; simp_all; omega), ?_⟩; try simp only [go_sem, Nat.reduceAdd, Nat.reduceLeDiff, reduceCtorEq, Tv, Tr.iv]))
        refine AQ.fn (by kernel_rfl) rfl rfl rfl (count_spec l) rfl ?_
        repeat (first | refine xPP rfl ?_ | refine xPE rfl ?_ | refine xEP rfl ?_ | refine xEE rfl ?_ | refine AQ.done ?_ | refine AQ.skip (by kernel_rfl) rfl ?_ | refine AQ.s2b (by kernel_rfl) rfl rfl rfl rfl ?_ | refine AQ.mark (by kernel_rfl) rfl rfl rfl rfl rfl rfl rfl ?_ | refine AP.cond_true rfl rfl ?_ | refine AP.cond_false rfl rfl ?_ | (refine AP.region rfl (by kernel_rfl) ?_; simp only [go_sem, Nat.reduceAdd, Nat.reduceLeDiff, reduceCtorEq, Tv, Tr.iv, w2]) | (refine AP.drawQ rfl rfl (by kernel_rfl) ?_; simp only [go_sem, Nat.reduceAdd, Nat.reduceLeDiff, reduceCtorEq, Tv, Tr.iv, w2]) | (refine vq_id ?_; simp only [go_sem, Nat.reduceAdd, Nat.reduceLeDiff, reduceCtorEq, Tv, Tr.iv, w2]) | (refine ⟨by first | omega | (intros; simp_all; done) | (intros; simp_all; omega), ?_⟩; try simp only [go_sem, Nat.reduceAdd, Nat.reduceLeDiff, reduceCtorEq, Tv, Tr.iv, w2]))
        refine AE.ret rfl ⟨rfl, rfl, trivial⟩ ⟨rfl, ?_⟩
        rw [← hf, ← hr]; simp only [Tr.find, Tr.rank, if_neg hnl, if_neg hng]; rfl
theorem Rank_spec (t : Tr) (k : List UInt8) (hs : t.size ≤ 1000000000) : PFn Try.prog 52 [.agg [Tv t], Sv k] (Iv (t.rank k)) := by
  refine ACall.walk [0, 1, 2, 4, 6] [] Try.func52 rfl Try.ntmps52 (by kernel_rfl) (by rfl) rfl fun W own I0 φ0 => ?_
  repeat (first | refine xPP rfl ?_ | refine xPE rfl ?_ | refine xEP rfl ?_ | refine xEE rfl ?_ | refine AQ.done ?_ | refine AQ.skip (by kernel_rfl) rfl ?_ | refine AQ.s2b (by kernel_rfl) rfl rfl rfl rfl ?_ | refine AQ.mark (by kernel_rfl) rfl rfl rfl rfl rfl rfl rfl ?_ | refine AP.cond_true rfl rfl ?_ | refine AP.cond_false rfl rfl ?_ | (refine AP.region rfl (by kernel_rfl) ?_; simp only [go_sem, Nat.reduceAdd, Nat.reduceLeDiff, reduceCtorEq]) | (refine AP.drawQ rfl rfl (by kernel_rfl) ?_; simp only [go_sem, Nat.reduceAdd, Nat.reduceLeDiff, reduceCtorEq]) | (refine vq_id ?_; simp only [go_sem, Nat.reduceAdd, Nat.reduceLeDiff, reduceCtorEq]) | (refine ⟨by first | omega | (intros; simp_all; done) | (intros; simp_all; omega), ?_⟩; try simp only [go_sem, Nat.reduceAdd, Nat.reduceLeDiff, reduceCtorEq]))
  refine AQ.fn (by kernel_rfl) rfl rfl rfl (find_spec t k hs) rfl ?_
  repeat (first | refine xPP rfl ?_ | refine xPE rfl ?_ | refine xEP rfl ?_ | refine xEE rfl ?_ | refine AQ.done ?_ | refine AQ.skip (by kernel_rfl) rfl ?_ | refine AQ.s2b (by kernel_rfl) rfl rfl rfl rfl ?_ | refine AQ.mark (by kernel_rfl) rfl rfl rfl rfl rfl rfl rfl ?_ | refine AP.cond_true rfl rfl ?_ | refine AP.cond_false rfl rfl ?_ | (refine AP.region rfl (by kernel_rfl) ?_; simp only [go_sem, Nat.reduceAdd, Nat.reduceLeDiff, reduceCtorEq]) | (refine AP.drawQ rfl rfl (by kernel_rfl) ?_; simp only [go_sem, Nat.reduceAdd, Nat.reduceLeDiff, reduceCtorEq]) | (refine vq_id ?_; simp only [go_sem, Nat.reduceAdd, Nat.reduceLeDiff, reduceCtorEq]) | (refine ⟨by first | omega | (intros; simp_all; done) | (intros; simp_all; omega), ?_⟩; try simp only [go_sem, Nat.reduceAdd, Nat.reduceLeDiff, reduceCtorEq]))
  exact AE.ret rfl ⟨rfl, trivial⟩ ⟨rfl, rfl⟩
def getOf (t : Tr) (k : List UInt8) : AV := match t.find k with
  | .nil => .tup [Iv 0, Bv false]
  | .node _ v _ _ => .tup [Iv v, Bv true]
theorem Get_spec (t : Tr) (k : List UInt8) (hs : t.size ≤ 1000000000) : PFn Try.prog 49 [.agg [Tv t], Sv k] (getOf t k) := by
  refine ACall.walk [0, 1, 2, 4, 5, 6, 15] [] Try.func49 rfl Try.ntmps49 (by kernel_rfl) (by rfl) rfl fun W own I0 φ0 => ?_
  repeat (first | refine xPP rfl ?_ | refine xPE rfl ?_ | refine xEP rfl ?_ | refine xEE rfl ?_ | refine AQ.done ?_ | refine AQ.skip (by kernel_rfl) rfl ?_ | refine AQ.s2b (by kernel_rfl) rfl rfl rfl rfl ?_ | refine AQ.mark (by kernel_rfl) rfl rfl rfl rfl rfl rfl rfl ?_ | refine AP.cond_true rfl rfl ?_ | refine AP.cond_false rfl rfl ?_ | (refine AP.region rfl (by kernel_rfl) ?_; simp only [go_sem, Nat.reduceAdd, Nat.reduceLeDiff, reduceCtorEq]) | (refine AP.drawQ rfl rfl (by kernel_rfl) ?_; simp only [go_sem, Nat.reduceAdd, Nat.reduceLeDiff, reduceCtorEq]) | (refine vq_id ?_; simp only [go_sem, Nat.reduceAdd, Nat.reduceLeDiff, reduceCtorEq]) | (refine ⟨by first | omega | (intros; simp_all; done) | (intros; simp_all; omega), ?_⟩; try simp only [go_sem, Nat.reduceAdd, Nat.reduceLeDiff, reduceCtorEq]))
  refine AQ.fn (by kernel_rfl) rfl rfl rfl (find_spec t k hs) rfl ?_
  repeat (first | refine xPP rfl ?_ | refine xPE rfl ?_ | refine xEP rfl ?_ | refine xEE rfl ?_ | refine AQ.done ?_ | refine AQ.skip (by kernel_rfl) rfl ?_ | refine AQ.s2b (by kernel_rfl) rfl rfl rfl rfl ?_ | refine AQ.mark (by kernel_rfl) rfl rfl rfl rfl rfl rfl rfl ?_ | refine AP.cond_true rfl rfl ?_ | refine AP.cond_false rfl rfl ?_ | (refine AP.region rfl (by kernel_rfl) ?_; simp only [go_sem, Nat.reduceAdd, Nat.reduceLeDiff, reduceCtorEq]) | (refine AP.drawQ rfl rfl (by kernel_rfl) ?_; simp only [go_sem, Nat.reduceAdd, Nat.reduceLeDiff, reduceCtorEq]) | (refine vq_id ?_; simp only [go_sem, Nat.reduceAdd, Nat.reduceLeDiff, reduceCtorEq]) | (refine ⟨by first | omega | (intros; simp_all; done) | (intros; simp_all; omega), ?_⟩; try simp only [go_sem, Nat.reduceAdd, Nat.reduceLeDiff, reduceCtorEq]))
  unfold getOf
  cases t.find k with
  | nil =>
    repeat (first | refine xPP rfl ?_ | refine xPE rfl ?_ | refine xEP rfl ?_ | refine xEE rfl ?_ | refine AQ.done ?_ | refine AQ.skip (by kernel_rfl) rfl ?_ | refine AQ.s2b (by kernel_rfl) rfl rfl rfl rfl ?_ | refine AQ.mark (by kernel_rfl) rfl rfl rfl rfl rfl rfl rfl ?_ | refine AP.cond_true rfl rfl ?_ | refine AP.cond_false rfl rfl ?_ | (refine AP.region rfl (by kernel_rfl) ?_; simp only [go_sem, Nat.reduceAdd, Nat.reduceLeDiff, reduceCtorEq, Tv, Tr.iv]) | (refine AP.drawQ rfl rfl (by kernel_rfl) ?_; simp only [go_sem, Nat.reduceAdd, Nat.reduceLeDiff, reduceCtorEq, Tv, Tr.iv]) | (refine vq_id ?_; simp only [go_sem, Nat.reduceAdd, Nat.reduceLeDiff, reduceCtorEq, Tv, Tr.iv]) | (refine ⟨by first | omega | (intros; simp_all; done) | (intros; simp_all; omega), ?_⟩; try simp only [go_sem, Nat.reduceAdd, Nat.reduceLeDiff, reduceCtorEq, Tv, Tr.iv]))
    exact AE.ret rfl ⟨rfl, rfl, trivial⟩ ⟨rfl, rfl⟩
  | node k' v l r =>
    repeat (first | refine xPP rfl ?_ | refine xPE rfl ?_ | refine xEP rfl ?_ | refine xEE rfl ?_ | refine AQ.done ?_ | refine AQ.skip (by kernel_rfl) rfl ?_ | refine AQ.s2b (by kernel_rfl) rfl rfl rfl rfl ?_ | refine AQ.mark (by kernel_rfl) rfl rfl rfl rfl rfl rfl rfl ?_ | refine AP.cond_true rfl rfl ?_ | refine AP.cond_false rfl rfl ?_ | (refine AP.region rfl (by kernel_rfl) ?_; simp only [go_sem, Nat.reduceAdd, Nat.reduceLeDiff, reduceCtorEq, Tv, Tr.iv]) | (refine AP.drawQ rfl rfl (by kernel_rfl) ?_; simp only [go_sem, Nat.reduceAdd, Nat.reduceLeDiff, reduceCtorEq, Tv, Tr.iv]) | (refine vq_id ?_; simp only [go_sem, Nat.reduceAdd, Nat.reduceLeDiff, reduceCtorEq, Tv, Tr.iv]) | (refine ⟨by first | omega | (intros; simp_all; done) | (intros; simp_all; omega), ?_⟩; try simp only [go_sem, Nat.reduceAdd, Nat.reduceLeDiff, reduceCtorEq, Tv, Tr.iv]))
    exact AE.ret rfl ⟨rfl, rfl, trivial⟩ ⟨rfl, rfl⟩
end Go.Proofs.Ytfgffpkdjmeaoaa
end

section
namespace Go.Proofs.Ytfgffpkdjmeaoaa
open Go Go.AL
set_option maxRecDepth 10000
set_option maxHeartbeats 2000000
/-- a tree of two, with a key between them -/
def Tr.link (k : List UInt8) (v : Int) (l r : Tr) : Tr :=
  if r.ht + 1 < l.ht then match l with
    | .nil => .nil
    | .node kl vl ll lr => Tr.bal (.node kl vl ll (Tr.link k v lr r))
  else if l.ht + 1 < r.ht then match r with
    | .nil => .nil
    | .node kr vr rl rr => Tr.bal (.node kr vr (Tr.link k v l rl) rr)
  else .node k v l r
termination_by l.size + r.size
decreasing_by all_goals simp only [Tr.size]; omega
theorem Tr.link_l {k : List UInt8} {v : Int} {kl : List UInt8} {vl : Int} {ll lr r : Tr} (h : r.ht + 1 < (Tr.node kl vl ll lr).ht) : Tr.link k v (.node kl vl ll lr) r = Tr.bal (.node kl vl ll (Tr.link k v lr r)) := by
  rw [Tr.link.eq_def, if_pos h]
theorem Tr.link_r {k : List UInt8} {v : Int} {kr : List UInt8} {vr : Int} {l rl rr : Tr} (h0 : ¬ (Tr.node kr vr rl rr).ht + 1 < l.ht) (h : l.ht + 1 < (Tr.node kr vr rl rr).ht) : Tr.link k v l (.node kr vr rl rr) = Tr.bal (.node kr vr (Tr.link k v l rl) rr) := by
  rw [Tr.link.eq_def, if_neg h0, if_pos h]
theorem Tr.link_m {k : List UInt8} {v : Int} {l r : Tr} (h0 : ¬ r.ht + 1 < l.ht) (h : ¬ l.ht + 1 < r.ht) : Tr.link k v l r = .node k v l r := by
  rw [Tr.link.eq_def, if_neg h0, if_neg h]
theorem Tr.size_link (k : List UInt8) (v : Int) : ∀ (n : Nat) (l r : Tr), l.size + r.size = n → (Tr.link k v l r).size = l.size + r.size + 1 := by
  intro n
  induction n using Nat.strongRecOn with
  | _ n ih =>
    intro l r hn
    by_cases h1 : r.ht + 1 < l.ht
    · obtain ⟨kl, vl, ll, lr, rfl⟩ := Tr.of_ht (t := l) (by omega)
      have hz : (Tr.node kl vl ll lr).size = ll.size + lr.size + 1 := rfl
      rw [Tr.link_l h1, Tr.size_bal]
      have := ih (lr.size + r.size) (by omega) lr r rfl
      simp only [Tr.size]; omega
    · by_cases h2 : l.ht + 1 < r.ht
      · obtain ⟨kr, vr, rl, rr, rfl⟩ := Tr.of_ht (t := r) (by omega)
        have hz : (Tr.node kr vr rl rr).size = rl.size + rr.size + 1 := rfl
        rw [Tr.link_r h1 h2, Tr.size_bal]
        have := ih (l.size + rl.size) (by omega) l rl rfl
        simp only [Tr.size]; omega
      · rw [Tr.link_m h1 h2]; rfl
theorem link_spec (k : List UInt8) (v : Int) (a b : Tr) : ∀ (n : Nat) (l r : Tr), l.size + r.size = n → n + 2 ≤ 1000000000 → PFn Try.prog 85 [Tv l, Tv (.node k v a b), Tv r] (Tv (Tr.link k v l r)) := by
  intro n
  induction n using Nat.strongRecOn with
  | _ n ih =>
    intro l r hn hs
    have h1 := l.ht_le
    have h2 := r.ht_le
    have w1 := wr (x := (r.ht : Int) + 1) (by omega)
    have w2 := wr (x := (l.ht : Int) + 1) (by omega)
    refine ACall.walk [0, 1, 2, 6, 7, 28] [] Try.func85 rfl Try.ntmps85 (by kernel_rfl) (by rfl) rfl fun W own I0 φ0 => ?_
    repeat (first | refine xPP rfl ?_ | refine xPE rfl ?_ | refine xEP rfl ?_ | refine xEE rfl ?_ | refine AQ.done ?_ | refine AQ.skip (by kernel_rfl) rfl ?_ | refine AQ.s2b (by kernel_rfl) rfl rfl rfl rfl ?_ | refine AQ.mark (by kernel_rfl) rfl rfl rfl rfl rfl rfl rfl ?_ | refine AP.cond_true rfl rfl ?_ | refine AP.cond_false rfl rfl ?_ | (refine AP.region rfl (by kernel_rfl) ?_; simp only [go_sem, Nat.reduceAdd, Nat.reduceLeDiff, reduceCtorEq]) | (refine AP.drawQ rfl rfl (by kernel_rfl) ?_; simp only [go_sem, Nat.reduceAdd, Nat.reduceLeDiff, reduceCtorEq]) | (refine vq_id ?_; simp only [go_sem, Nat.reduceAdd, Nat.reduceLeDiff, reduceCtorEq]) | (refine ⟨by first | omega | (intros; simp_all; done) | (intros; simp_all; omega), ?_⟩; try simp only [go_sem, Nat.reduceAdd, Nat.reduceLeDiff, reduceCtorEq]))
    refine AQ.fn (by kernel_rfl) rfl rfl rfl (height_spec l) rfl ?_
    repeat (first | refine xPP rfl ?_ | refine xPE rfl ?_ | refine xEP rfl ?_ | refine xEE rfl ?_ | refine AQ.done ?_ | refine AQ.skip (by kernel_rfl) rfl ?_ | refine AQ.s2b (by kernel_rfl) rfl rfl rfl rfl ?_ | refine AQ.mark (by kernel_rfl) rfl rfl rfl rfl rfl rfl rfl ?_ | refine AP.cond_true rfl rfl ?_ | refine AP.cond_false rfl rfl ?_ | (refine AP.region rfl (by kernel_rfl) ?_; simp only [go_sem, Nat.reduceAdd, Nat.reduceLeDiff, reduceCtorEq]) | (refine AP.drawQ rfl rfl (by kernel_rfl) ?_; simp only [go_sem, Nat.reduceAdd, Nat.reduceLeDiff, reduceCtorEq]) | (refine vq_id ?_; simp only [go_sem, Nat.reduceAdd, Nat.reduceLeDiff, reduceCtorEq]) | (refine ⟨by first | omega | (intros; simp_all; done) | (intros; simp_all; omega), ?_⟩; try simp only [go_sem, Nat.reduceAdd, Nat.reduceLeDiff, reduceCtorEq]))
    refine AQ.fn (by kernel_rfl) rfl rfl rfl (height_spec r) rfl ?_
    repeat (first | refine xPP rfl ?_ | refine xPE rfl ?_ | refine xEP rfl ?_ | refine xEE rfl ?_ | refine AQ.done ?_ | refine AQ.skip (by kernel_rfl) rfl ?_ | refine AQ.s2b (by kernel_rfl) rfl rfl rfl rfl ?_ | refine AQ.mark (by kernel_rfl) rfl rfl rfl rfl rfl rfl rfl ?_ | refine AP.cond_true rfl rfl ?_ | refine AP.cond_false rfl rfl ?_ | (refine AP.region rfl (by kernel_rfl) ?_; simp only [go_sem, Nat.reduceAdd, Nat.reduceLeDiff, reduceCtorEq, w1]) | (refine AP.drawQ rfl rfl (by kernel_rfl) ?_; simp only [go_sem, Nat.reduceAdd, Nat.reduceLeDiff, reduceCtorEq, w1]) | (refine vq_id ?_; simp only [go_sem, Nat.reduceAdd, Nat.reduceLeDiff, reduceCtorEq, w1]) | (refine ⟨by first | omega | (intros; simp_all; done) | (intros; simp_all; omega), ?_⟩; try simp only [go_sem, Nat.reduceAdd, Nat.reduceLeDiff, reduceCtorEq, w1]))
    refine AP.cond rfl rfl (fun hc => ?_) (fun hc => ?_)
    · have hlt : r.ht + 1 < l.ht := by simp at hc; omega
      obtain ⟨kl, vl, ll, lr, rfl⟩ := Tr.of_ht (t := l) (by omega)
      have hz : (Tr.node kl vl ll lr).size = ll.size + lr.size + 1 := rfl
      have hl := Tr.size_link k v _ lr r rfl
      repeat (first | refine xPP rfl ?_ | refine xPE rfl ?_ | refine xEP rfl ?_ | refine xEE rfl ?_ | refine AQ.done ?_ | refine AQ.skip (by kernel_rfl) rfl ?_ | refine AQ.s2b (by kernel_rfl) rfl rfl rfl rfl ?_ | refine AQ.mark (by kernel_rfl) rfl rfl rfl rfl rfl rfl rfl ?_ | refine AP.cond_true rfl rfl ?_ | refine AP.cond_false rfl rfl ?_ | (refine AP.region rfl (by kernel_rfl) ?_; simp only [go_sem, Nat.reduceAdd, Nat.reduceLeDiff, reduceCtorEq, Tv, Tr.iv]) | (refine AP.drawQ rfl rfl (by kernel_rfl) ?_; simp only [go_sem, Nat.reduceAdd, Nat.reduceLeDiff, reduceCtorEq, Tv, Tr.iv]) | (refine vq_id ?_; simp only [go_sem, Nat.reduceAdd, Nat.reduceLeDiff, reduceCtorEq, Tv, Tr.iv]) | (refine ⟨by first | omega | (intros; simp_all; done) | (intros; simp_all; omega), ?_⟩; try simp only [go_sem, Nat.reduceAdd, Nat.reduceLeDiff, reduceCtorEq, Tv, Tr.iv]))
      refine AP.draw 14 [(11, Tv (Tr.link k v lr r)), (12, Tv (.node kl vl ll (Tr.link k v lr r))), (13, Tv (Tr.bal (.node kl vl ll (Tr.link k v lr r))))] (by kernel_rfl) rfl (by kernel_rfl) (by kernel_rfl) ?_
      simp only [go_sem, Nat.reduceAdd, Nat.reduceLeDiff, reduceCtorEq, Tv, Tr.iv]
      refine ⟨by have := ih (lr.size + r.size) (by omega) lr r rfl (by omega); simpa only [Tv, Tr.iv] using this, by have := with_spec kl vl ll lr ll (Tr.link k v lr r) (by omega); simpa only [Tv, Tr.iv] using this, by have := bal_spec kl vl ll (Tr.link k v lr r) (by omega); simpa only [Tv, Tr.iv] using this, ?_⟩
      repeat (first | refine xPP rfl ?_ | refine xPE rfl ?_ | refine xEP rfl ?_ | refine xEE rfl ?_ | refine AQ.done ?_ | refine AQ.skip (by kernel_rfl) rfl ?_ | refine AQ.s2b (by kernel_rfl) rfl rfl rfl rfl ?_ | refine AQ.mark (by kernel_rfl) rfl rfl rfl rfl rfl rfl rfl ?_ | refine AP.cond_true rfl rfl ?_ | refine AP.cond_false rfl rfl ?_ | (refine AP.region rfl (by kernel_rfl) ?_; simp only [go_sem, Nat.reduceAdd, Nat.reduceLeDiff, reduceCtorEq]) | (refine AP.drawQ rfl rfl (by kernel_rfl) ?_; simp only [go_sem, Nat.reduceAdd, Nat.reduceLeDiff, reduceCtorEq]) | (refine vq_id ?_; simp only [go_sem, Nat.reduceAdd, Nat.reduceLeDiff, reduceCtorEq]) | (refine ⟨by first | omega | (intros; simp_all; done) | (intros; simp_all; omega), ?_⟩; try simp only [go_sem, Nat.reduceAdd, Nat.reduceLeDiff, reduceCtorEq]))
      exact AE.ret rfl ⟨rfl, trivial⟩ ⟨rfl, by rw [Tr.link_l hlt]; rfl⟩
    · have hnl : ¬ r.ht + 1 < l.ht := by simp at hc; omega
      repeat (first | refine xPP rfl ?_ | refine xPE rfl ?_ | refine xEP rfl ?_ | refine xEE rfl ?_ | refine AQ.done ?_ | refine AQ.skip (by kernel_rfl) rfl ?_ | refine AQ.s2b (by kernel_rfl) rfl rfl rfl rfl ?_ | refine AQ.mark (by kernel_rfl) rfl rfl rfl rfl rfl rfl rfl ?_ | refine AP.cond_true rfl rfl ?_ | refine AP.cond_false rfl rfl ?_ | (refine AP.region rfl (by kernel_rfl) ?_; simp only [go_sem, Nat.reduceAdd, Nat.reduceLeDiff, reduceCtorEq, w1]) | (refine AP.drawQ rfl rfl (by kernel_rfl) ?_; simp only [go_sem, Nat.reduceAdd, Nat.reduceLeDiff, reduceCtorEq, w1]) | (refine vq_id ?_; simp only [go_sem, Nat.reduceAdd, Nat.reduceLeDiff, reduceCtorEq, w1]) | (refine ⟨by first | omega | (intros; simp_all; done) | (intros; simp_all; omega), ?_⟩; try simp only [go_sem, Nat.reduceAdd, Nat.reduceLeDiff, reduceCtorEq, w1]))
      refine AQ.fn (by kernel_rfl) rfl rfl rfl (height_spec r) rfl ?_
      repeat (first | refine xPP rfl ?_ | refine xPE rfl ?_ | refine xEP rfl ?_ | refine xEE rfl ?_ | refine AQ.done ?_ | refine AQ.skip (by kernel_rfl) rfl ?_ | refine AQ.s2b (by kernel_rfl) rfl rfl rfl rfl ?_ | refine AQ.mark (by kernel_rfl) rfl rfl rfl rfl rfl rfl rfl ?_ | refine AP.cond_true rfl rfl ?_ | refine AP.cond_false rfl rfl ?_ | (refine AP.region rfl (by kernel_rfl) ?_; simp only [go_sem, Nat.reduceAdd, Nat.reduceLeDiff, reduceCtorEq]) | (refine AP.drawQ rfl rfl (by kernel_rfl) ?_; simp only [go_sem, Nat.reduceAdd, Nat.reduceLeDiff, reduceCtorEq]) | (refine vq_id ?_; simp only [go_sem, Nat.reduceAdd, Nat.reduceLeDiff, reduceCtorEq]) | (refine ⟨by first | omega | (intros; simp_all; done) | (intros; simp_all; omega), ?_⟩; try simp only [go_sem, Nat.reduceAdd, Nat.reduceLeDiff, reduceCtorEq]))
      refine AQ.fn (by kernel_rfl) rfl rfl rfl (height_spec l) rfl ?_
      repeat (first | refine xPP rfl ?_ | refine xPE rfl ?_ | refine xEP rfl ?_ | refine xEE rfl ?_ | refine AQ.done ?_ | refine AQ.skip (by kernel_rfl) rfl ?_ | refine AQ.s2b (by kernel_rfl) rfl rfl rfl rfl ?_ | refine AQ.mark (by kernel_rfl) rfl rfl rfl rfl rfl rfl rfl ?_ | refine AP.cond_true rfl rfl ?_ | refine AP.cond_false rfl rfl ?_ | (refine AP.region rfl (by kernel_rfl) ?_; simp only [go_sem, Nat.reduceAdd, Nat.reduceLeDiff, reduceCtorEq, w2]) | (refine AP.drawQ rfl rfl (by kernel_rfl) ?_; simp only [go_sem, Nat.reduceAdd, Nat.reduceLeDiff, reduceCtorEq, w2]) | (refine vq_id ?_; simp only [go_sem, Nat.reduceAdd, Nat.reduceLeDiff, reduceCtorEq, w2]) | (refine ⟨by first | omega | (intros; simp_all; done) | (intros; simp_all; omega), ?_⟩; try simp only [go_sem, Nat.reduceAdd, Nat.reduceLeDiff, reduceCtorEq, w2]))
      refine AP.cond rfl rfl (fun hd => ?_) (fun hd => ?_)
      · have hlt : l.ht + 1 < r.ht := by simp at hd; omega
        obtain ⟨kr, vr, rl, rr, rfl⟩ := Tr.of_ht (t := r) (by omega)
        have hz : (Tr.node kr vr rl rr).size = rl.size + rr.size + 1 := rfl
        have hl := Tr.size_link k v _ l rl rfl
        repeat (first | refine xPP rfl ?_ | refine xPE rfl ?_ | refine xEP rfl ?_ | refine xEE rfl ?_ | refine AQ.done ?_ | refine AQ.skip (by kernel_rfl) rfl ?_ | refine AQ.s2b (by kernel_rfl) rfl rfl rfl rfl ?_ | refine AQ.mark (by kernel_rfl) rfl rfl rfl rfl rfl rfl rfl ?_ | refine AP.cond_true rfl rfl ?_ | refine AP.cond_false rfl rfl ?_ | (refine AP.region rfl (by kernel_rfl) ?_; simp only [go_sem, Nat.reduceAdd, Nat.reduceLeDiff, reduceCtorEq, Tv, Tr.iv]) | (refine AP.drawQ rfl rfl (by kernel_rfl) ?_; simp only [go_sem, Nat.reduceAdd, Nat.reduceLeDiff, reduceCtorEq, Tv, Tr.iv]) | (refine vq_id ?_; simp only [go_sem, Nat.reduceAdd, Nat.reduceLeDiff, reduceCtorEq, Tv, Tr.iv]) | (refine ⟨by first | omega | (intros; simp_all; done) | (intros; simp_all; omega), ?_⟩; try simp only [go_sem, Nat.reduceAdd, Nat.reduceLeDiff, reduceCtorEq, Tv, Tr.iv]))
        refine AP.draw 14 [(7, Tv (Tr.link k v l rl)), (12, Tv (.node kr vr (Tr.link k v l rl) rr)), (13, Tv (Tr.bal (.node kr vr (Tr.link k v l rl) rr)))] (by kernel_rfl) rfl (by kernel_rfl) (by kernel_rfl) ?_
        simp only [go_sem, Nat.reduceAdd, Nat.reduceLeDiff, reduceCtorEq, Tv, Tr.iv]
        refine ⟨by have := ih (l.size + rl.size) (by omega) l rl rfl (by omega); simpa only [Tv, Tr.iv] using this, by have := with_spec kr vr rl rr (Tr.link k v l rl) rr (by omega); simpa only [Tv, Tr.iv] using this, by have := bal_spec kr vr (Tr.link k v l rl) rr (by omega); simpa only [Tv, Tr.iv] using this, ?_⟩
        repeat (first | refine xPP rfl ?_ | refine xPE rfl ?_ | refine xEP rfl ?_ | refine xEE rfl ?_ | refine AQ.done ?_ | refine AQ.skip (by kernel_rfl) rfl ?_ | refine AQ.s2b (by kernel_rfl) rfl rfl rfl rfl ?_ | refine AQ.mark (by kernel_rfl) rfl rfl rfl rfl rfl rfl rfl ?_ | refine AP.cond_true rfl rfl ?_ | refine AP.cond_false rfl rfl ?_ | (refine AP.region rfl (by kernel_rfl) ?_; simp only [go_sem, Nat.reduceAdd, Nat.reduceLeDiff, reduceCtorEq]) | (refine AP.drawQ rfl rfl (by kernel_rfl) ?_; simp only [go_sem, Nat.reduceAdd, Nat.reduceLeDiff, reduceCtorEq]) | (refine vq_id ?_; simp only [go_sem, Nat.reduceAdd, Nat.reduceLeDiff, reduceCtorEq]) | (refine ⟨by first | omega | (intros; simp_all; done) | (intros; simp_all; omega), ?_⟩; try simp only [go_sem, Nat.reduceAdd, Nat.reduceLeDiff, reduceCtorEq]))
        exact AE.ret rfl ⟨rfl, trivial⟩ ⟨rfl, by rw [Tr.link_r hnl hlt]; rfl⟩
      · have hnr : ¬ l.ht + 1 < r.ht := by simp at hd; omega
        repeat (first | refine xPP rfl ?_ | refine xPE rfl ?_ | refine xEP rfl ?_ | refine xEE rfl ?_ | refine AQ.done ?_ | refine AQ.skip (by kernel_rfl) rfl ?_ | refine AQ.s2b (by kernel_rfl) rfl rfl rfl rfl ?_ | refine AQ.mark (by kernel_rfl) rfl rfl rfl rfl rfl rfl rfl ?_ | refine AP.cond_true rfl rfl ?_ | refine AP.cond_false rfl rfl ?_ | (refine AP.region rfl (by kernel_rfl) ?_; simp only [go_sem, Nat.reduceAdd, Nat.reduceLeDiff, reduceCtorEq, w2]) | (refine AP.drawQ rfl rfl (by kernel_rfl) ?_; simp only [go_sem, Nat.reduceAdd, Nat.reduceLeDiff, reduceCtorEq, w2]) | (refine vq_id ?_; simp only [go_sem, Nat.reduceAdd, Nat.reduceLeDiff, reduceCtorEq, w2]) | (refine ⟨by first | omega | (intros; simp_all; done) | (intros; simp_all; omega), ?_⟩; try simp only [go_sem, Nat.reduceAdd, Nat.reduceLeDiff, reduceCtorEq, w2]))
        refine AQ.fn (by kernel_rfl) rfl rfl rfl (with_spec k v a b l r (by omega)) rfl ?_
        repeat (first | refine xPP rfl ?_ | refine xPE rfl ?_ | refine xEP rfl ?_ | refine xEE rfl ?_ | refine AQ.done ?_ | refine AQ.skip (by kernel_rfl) rfl ?_ | refine AQ.s2b (by kernel_rfl) rfl rfl rfl rfl ?_ | refine AQ.mark (by kernel_rfl) rfl rfl rfl rfl rfl rfl rfl ?_ | refine AP.cond_true rfl rfl ?_ | refine AP.cond_false rfl rfl ?_ | (refine AP.region rfl (by kernel_rfl) ?_; simp only [go_sem, Nat.reduceAdd, Nat.reduceLeDiff, reduceCtorEq]) | (refine AP.drawQ rfl rfl (by kernel_rfl) ?_; simp only [go_sem, Nat.reduceAdd, Nat.reduceLeDiff, reduceCtorEq]) | (refine vq_id ?_; simp only [go_sem, Nat.reduceAdd, Nat.reduceLeDiff, reduceCtorEq]) | (refine ⟨by first | omega | (intros; simp_all; done) | (intros; simp_all; omega), ?_⟩; try simp only [go_sem, Nat.reduceAdd, Nat.reduceLeDiff, reduceCtorEq]))
        exact AE.ret rfl ⟨rfl, trivial⟩ ⟨rfl, by rw [Tr.link_m hnl hnr]; rfl⟩
theorem link_sp (k : List UInt8) (v : Int) (a b l r : Tr) (hs : l.size + r.size + 2 ≤ 1000000000) : PFn Try.prog 85 [Tv l, Tv (.node k v a b), Tv r] (Tv (Tr.link k v l r)) := link_spec k v a b _ l r rfl hs
/-- the node with the greatest key, and the tree without it -/
def Tr.last : Tr → Tr × Tr
  | .nil => (.nil, .nil)
  | .node k v l r => match r with
    | .nil => (.node k v l .nil, l)
    | .node k' v' l' r' => ((Tr.last (.node k' v' l' r')).1, Tr.link k v l (Tr.last (.node k' v' l' r')).2)
theorem Tr.last_node : ∀ (t : Tr), 0 < t.size → ∃ k v a b, t.last.1 = .node k v a b
  | .nil, h => by simp [Tr.size] at h
  | .node k v l .nil, _ => ⟨k, v, l, .nil, rfl⟩
  | .node k v l (.node k' v' l' r'), _ => by
    obtain ⟨a, b, c, d, e⟩ := Tr.last_node (.node k' v' l' r') (by simp only [Tr.size]; omega)
    exact ⟨a, b, c, d, by rw [Tr.last]; try exact e⟩
theorem Tr.size_last : ∀ (t : Tr), 0 < t.size → t.last.2.size + 1 = t.size
  | .nil, h => by simp [Tr.size] at h
  | .node k v l .nil, _ => by simp only [Tr.last, Tr.size]; try omega
  | .node k v l (.node k' v' l' r'), _ => by
    have := Tr.size_last (.node k' v' l' r') (by simp only [Tr.size]; omega)
    simp only [Tr.last]
    rw [Tr.size_link _ _ _ _ _ rfl]
    simp only [Tr.size] at this ⊢
    omega
theorem last_spec : ∀ (t : Tr), 0 < t.size → t.size + 2 ≤ 1000000000 → PFn Try.prog 87 [Tv t] (.tup [Tv t.last.1, Tv t.last.2])
  | .nil, h, _ => by simp [Tr.size] at h
  | .node k v l .nil, _, hs => by
    refine ACall.walk [0, 2, 3, 8] [] Try.func87 rfl Try.ntmps87 (by kernel_rfl) (by rfl) rfl fun W own I0 φ0 => ?_
    repeat (first | refine xPP rfl ?_ | refine xPE rfl ?_ | refine xEP rfl ?_ | refine xEE rfl ?_ | refine AQ.done ?_ | refine AQ.skip (by kernel_rfl) rfl ?_ | refine AQ.s2b (by kernel_rfl) rfl rfl rfl rfl ?_ | refine AQ.mark (by kernel_rfl) rfl rfl rfl rfl rfl rfl rfl ?_ | refine AP.cond_true rfl rfl ?_ | refine AP.cond_false rfl rfl ?_ | (refine AP.region rfl (by kernel_rfl) ?_; simp only [go_sem, Nat.reduceAdd, Nat.reduceLeDiff, reduceCtorEq, Tv, Tr.iv]) | (refine AP.drawQ rfl rfl (by kernel_rfl) ?_; simp only [go_sem, Nat.reduceAdd, Nat.reduceLeDiff, reduceCtorEq, Tv, Tr.iv]) | (refine vq_id ?_; simp only [go_sem, Nat.reduceAdd, Nat.reduceLeDiff, reduceCtorEq, Tv, Tr.iv]) | (refine ⟨by first | omega | (intros; simp_all; done) | (intros; simp_all; omega), ?_⟩; try simp only [go_sem, Nat.reduceAdd, Nat.reduceLeDiff, reduceCtorEq, Tv, Tr.iv]))
    repeat (first | refine xPP rfl ?_ | refine xPE rfl ?_ | refine xEP rfl ?_ | refine xEE rfl ?_ | refine AQ.done ?_ | refine AQ.skip (by kernel_rfl) rfl ?_ | refine AQ.s2b (by kernel_rfl) rfl rfl rfl rfl ?_ | refine AQ.mark (by kernel_rfl) rfl rfl rfl rfl rfl rfl rfl ?_ | refine AP.cond_true rfl rfl ?_ | refine AP.cond_false rfl rfl ?_ | (refine AP.region rfl (by kernel_rfl) ?_; simp only [go_sem, Nat.reduceAdd, Nat.reduceLeDiff, reduceCtorEq, Tv, Tr.iv]) | (refine AP.drawQ rfl rfl (by kernel_rfl) ?_; simp only [go_sem, Nat.reduceAdd, Nat.reduceLeDiff, reduceCtorEq, Tv, Tr.iv]) | (refine vq_id ?_; simp only [go_sem, Nat.reduceAdd, Nat.reduceLeDiff, reduceCtorEq, Tv, Tr.iv]) | (refine ⟨by first | omega | (intros; simp_all; done) | (intros; simp_all; omega), ?_⟩; try simp only [go_sem, Nat.reduceAdd, Nat.reduceLeDiff, reduceCtorEq, Tv, Tr.iv]))
    exact AE.ret rfl ⟨rfl, rfl, trivial⟩ ⟨rfl, rfl⟩
  | .node k v l (.node k' v' l' r'), _, hs => by
    have hz : (Tr.node k v l (.node k' v' l' r')).size = l.size + (Tr.node k' v' l' r').size + 1 := rfl
    have ih := last_spec (.node k' v' l' r') (by simp only [Tr.size]; omega) (by omega)
    have hsz := Tr.size_last (.node k' v' l' r') (by simp only [Tr.size]; omega)
    refine ACall.walk [0, 2, 3, 8] [] Try.func87 rfl Try.ntmps87 (by kernel_rfl) (by rfl) rfl fun W own I0 φ0 => ?_
    repeat (first | refine xPP rfl ?_ | refine xPE rfl ?_ | refine xEP rfl ?_ | refine xEE rfl ?_ | refine AQ.done ?_ | refine AQ.skip (by kernel_rfl) rfl ?_ | refine AQ.s2b (by kernel_rfl) rfl rfl rfl rfl ?_ | refine AQ.mark (by kernel_rfl) rfl rfl rfl rfl rfl rfl rfl ?_ | refine AP.cond_true rfl rfl ?_ | refine AP.cond_false rfl rfl ?_ | (refine AP.region rfl (by kernel_rfl) ?_; simp only [go_sem, Nat.reduceAdd, Nat.reduceLeDiff, reduceCtorEq, Tv, Tr.iv]) | (refine AP.drawQ rfl rfl (by kernel_rfl) ?_; simp only [go_sem, Nat.reduceAdd, Nat.reduceLeDiff, reduceCtorEq, Tv, Tr.iv]) | (refine vq_id ?_; simp only [go_sem, Nat.reduceAdd, Nat.reduceLeDiff, reduceCtorEq, Tv, Tr.iv]) | (refine ⟨by first | omega | (intros; simp_all; done) | (intros; simp_all; omega), ?_⟩; try simp only [go_sem, Nat.reduceAdd, Nat.reduceLeDiff, reduceCtorEq, Tv, Tr.iv]))
    refine AQ.fn (by kernel_rfl) rfl rfl rfl (ih) rfl ?_
    repeat (first | refine xPP rfl ?_ | refine xPE rfl ?_ | refine xEP rfl ?_ | refine xEE rfl ?_ | refine AQ.done ?_ | refine AQ.skip (by kernel_rfl) rfl ?_ | refine AQ.s2b (by kernel_rfl) rfl rfl rfl rfl ?_ | refine AQ.mark (by kernel_rfl) rfl rfl rfl rfl rfl rfl rfl ?_ | refine AP.cond_true rfl rfl ?_ | refine AP.cond_false rfl rfl ?_ | (refine AP.region rfl (by kernel_rfl) ?_; simp only [go_sem, Nat.reduceAdd, Nat.reduceLeDiff, reduceCtorEq]) | (refine AP.drawQ rfl rfl (by kernel_rfl) ?_; simp only [go_sem, Nat.reduceAdd, Nat.reduceLeDiff, reduceCtorEq]) | (refine vq_id ?_; simp only [go_sem, Nat.reduceAdd, Nat.reduceLeDiff, reduceCtorEq]) | (refine ⟨by first | omega | (intros; simp_all; done) | (intros; simp_all; omega), ?_⟩; try simp only [go_sem, Nat.reduceAdd, Nat.reduceLeDiff, reduceCtorEq]))
    refine AQ.fn (by kernel_rfl) rfl rfl rfl (link_sp k v l (.node k' v' l' r') l (Tr.last (.node k' v' l' r')).2 (by omega)) rfl ?_
    repeat (first | refine xPP rfl ?_ | refine xPE rfl ?_ | refine xEP rfl ?_ | refine xEE rfl ?_ | refine AQ.done ?_ | refine AQ.skip (by kernel_rfl) rfl ?_ | refine AQ.s2b (by kernel_rfl) rfl rfl rfl rfl ?_ | refine AQ.mark (by kernel_rfl) rfl rfl rfl rfl rfl rfl rfl ?_ | refine AP.cond_true rfl rfl ?_ | refine AP.cond_false rfl rfl ?_ | (refine AP.region rfl (by kernel_rfl) ?_; simp only [go_sem, Nat.reduceAdd, Nat.reduceLeDiff, reduceCtorEq]) | (refine AP.drawQ rfl rfl (by kernel_rfl) ?_; simp only [go_sem, Nat.reduceAdd, Nat.reduceLeDiff, reduceCtorEq]) | (refine vq_id ?_; simp only [go_sem, Nat.reduceAdd, Nat.reduceLeDiff, reduceCtorEq]) | (refine ⟨by first | omega | (intros; simp_all; done) | (intros; simp_all; omega), ?_⟩; try simp only [go_sem, Nat.reduceAdd, Nat.reduceLeDiff, reduceCtorEq]))
    exact AE.ret rfl ⟨rfl, rfl, trivial⟩ ⟨rfl, rfl⟩
def Tr.concat (l r : Tr) : Tr := match l.last.1 with
  | .nil => r
  | .node k v _ _ => Tr.link k v l.last.2 r
theorem Tr.size_concat (l r : Tr) : (Tr.concat l r).size = l.size + r.size := by
  unfold Tr.concat
  cases l with
  | nil => simp [Tr.last, Tr.size]
  | node k v a b =>
    obtain ⟨k', v', a', b', e⟩ := Tr.last_node (.node k v a b) (by simp only [Tr.size]; omega)
    have := Tr.size_last (.node k v a b) (by simp only [Tr.size]; omega)
    rw [e]
    simp only
    rw [Tr.size_link _ _ _ _ _ rfl]
    omega
theorem concat_spec (l r : Tr) (hs : l.size + r.size + 2 ≤ 1000000000) : PFn Try.prog 77 [Tv l, Tv r] (Tv (Tr.concat l r)) := by
  refine ACall.walk [0, 1, 4, 5, 6, 8] [] Try.func77 rfl Try.ntmps77 (by kernel_rfl) (by rfl) rfl fun W own I0 φ0 => ?_
  cases l with
  | nil =>
    repeat (first | refine xPP rfl ?_ | refine xPE rfl ?_ | refine xEP rfl ?_ | refine xEE rfl ?_ | refine AQ.done ?_ | refine AQ.skip (by kernel_rfl) rfl ?_ | refine AQ.s2b (by kernel_rfl) rfl rfl rfl rfl ?_ | refine AQ.mark (by kernel_rfl) rfl rfl rfl rfl rfl rfl rfl ?_ | refine AP.cond_true rfl rfl ?_ | refine AP.cond_false rfl rfl ?_ | (refine AP.region rfl (by kernel_rfl) ?_; simp only [go_sem, Nat.reduceAdd, Nat.reduceLeDiff, reduceCtorEq, Tv, Tr.iv]) | (refine AP.drawQ rfl rfl (by kernel_rfl) ?_; simp only [go_sem, Nat.reduceAdd, Nat.reduceLeDiff, reduceCtorEq, Tv, Tr.iv]) | (refine vq_id ?_; simp only [go_sem, Nat.reduceAdd, Nat.reduceLeDiff, reduceCtorEq, Tv, Tr.iv]) | (refine ⟨by first | omega | (intros; simp_all; done) | (intros; simp_all; omega), ?_⟩; try simp only [go_sem, Nat.reduceAdd, Nat.reduceLeDiff, reduceCtorEq, Tv, Tr.iv]))
    exact AE.ret rfl ⟨rfl, trivial⟩ ⟨rfl, rfl⟩
  | node k v a b =>
    obtain ⟨k', v', a', b', e⟩ := Tr.last_node (.node k v a b) (by simp only [Tr.size]; omega)
    have hl := Tr.size_last (.node k v a b) (by simp only [Tr.size]; omega)
    repeat (first | refine xPP rfl ?_ | refine xPE rfl ?_ | refine xEP rfl ?_ | refine xEE rfl ?_ | refine AQ.done ?_ | refine AQ.skip (by kernel_rfl) rfl ?_ | refine AQ.s2b (by kernel_rfl) rfl rfl rfl rfl ?_ | refine AQ.mark (by kernel_rfl) rfl rfl rfl rfl rfl rfl rfl ?_ | refine AP.cond_true rfl rfl ?_ | refine AP.cond_false rfl rfl ?_ | (refine AP.region rfl (by kernel_rfl) ?_; simp only [go_sem, Nat.reduceAdd, Nat.reduceLeDiff, reduceCtorEq, Tv, Tr.iv]) | (refine AP.drawQ rfl rfl (by kernel_rfl) ?_; simp only [go_sem, Nat.reduceAdd, Nat.reduceLeDiff, reduceCtorEq, Tv, Tr.iv]) | (refine vq_id ?_; simp only [go_sem, Nat.reduceAdd, Nat.reduceLeDiff, reduceCtorEq, Tv, Tr.iv]) | (refine ⟨by first | omega | (intros; simp_all; done) | (intros; simp_all; omega), ?_⟩; try simp only [go_sem, Nat.reduceAdd, Nat.reduceLeDiff, reduceCtorEq, Tv, Tr.iv]))
    refine AQ.fn (by kernel_rfl) rfl rfl rfl (last_spec (.node k v a b) (by simp only [Tr.size]; omega) (by omega)) rfl ?_
    rw [e]
    repeat (first | refine xPP rfl ?_ | refine xPE rfl ?_ | refine xEP rfl ?_ | refine xEE rfl ?_ | refine AQ.done ?_ | refine AQ.skip (by kernel_rfl) rfl ?_ | refine AQ.s2b (by kernel_rfl) rfl rfl rfl rfl ?_ | refine AQ.mark (by kernel_rfl) rfl rfl rfl rfl rfl rfl rfl ?_ | refine AP.cond_true rfl rfl ?_ | refine AP.cond_false rfl rfl ?_ | (refine AP.region rfl (by kernel_rfl) ?_; simp only [go_sem, Nat.reduceAdd, Nat.reduceLeDiff, reduceCtorEq, Tv, Tr.iv]) | (refine AP.drawQ rfl rfl (by kernel_rfl) ?_; simp only [go_sem, Nat.reduceAdd, Nat.reduceLeDiff, reduceCtorEq, Tv, Tr.iv]) | (refine vq_id ?_; simp only [go_sem, Nat.reduceAdd, Nat.reduceLeDiff, reduceCtorEq, Tv, Tr.iv]) | (refine ⟨by first | omega | (intros; simp_all; done) | (intros; simp_all; omega), ?_⟩; try simp only [go_sem, Nat.reduceAdd, Nat.reduceLeDiff, reduceCtorEq, Tv, Tr.iv]))
    refine AQ.fn (by kernel_rfl) rfl rfl rfl (link_sp k' v' a' b' (Tr.last (.node k v a b)).2 r (by omega)) rfl ?_
    repeat (first | refine xPP rfl ?_ | refine xPE rfl ?_ | refine xEP rfl ?_ | refine xEE rfl ?_ | refine AQ.done ?_ | refine AQ.skip (by kernel_rfl) rfl ?_ | refine AQ.s2b (by kernel_rfl) rfl rfl rfl rfl ?_ | refine AQ.mark (by kernel_rfl) rfl rfl rfl rfl rfl rfl rfl ?_ | refine AP.cond_true rfl rfl ?_ | refine AP.cond_false rfl rfl ?_ | (refine AP.region rfl (by kernel_rfl) ?_; simp only [go_sem, Nat.reduceAdd, Nat.reduceLeDiff, reduceCtorEq]) | (refine AP.drawQ rfl rfl (by kernel_rfl) ?_; simp only [go_sem, Nat.reduceAdd, Nat.reduceLeDiff, reduceCtorEq]) | (refine vq_id ?_; simp only [go_sem, Nat.reduceAdd, Nat.reduceLeDiff, reduceCtorEq]) | (refine ⟨by first | omega | (intros; simp_all; done) | (intros; simp_all; omega), ?_⟩; try simp only [go_sem, Nat.reduceAdd, Nat.reduceLeDiff, reduceCtorEq]))
    refine AE.ret rfl ⟨rfl, trivial⟩ ⟨rfl, ?_⟩
    have e2 : Tr.concat (.node k v a b) r = Tr.link k' v' (Tr.last (.node k v a b)).2 r := by unfold Tr.concat; rw [e]
    rw [e2]; rfl
def Tr.split (k : List UInt8) : Tr → Tr × Tr
  | .nil => (.nil, .nil)
  | .node k' v l r => if cmpS k k' < 0 then ((l.split k).1, Tr.link k' v (l.split k).2 r) else if 0 < cmpS k k' then (Tr.link k' v l (r.split k).1, (r.split k).2) else (l, r)
theorem Tr.size_split (k : List UInt8) : ∀ t : Tr, (t.split k).1.size + (t.split k).2.size ≤ t.size
  | .nil => Nat.le_refl _
  | .node k' v l r => by
    have h1 := Tr.size_split k l
    have h2 := Tr.size_split k r
    simp only [Tr.split]
    split
    · simp only; rw [Tr.size_link _ _ _ _ _ rfl]; simp only [Tr.size]; omega
    · split
      · simp only; rw [Tr.size_link _ _ _ _ _ rfl]; simp only [Tr.size]; omega
      · simp only [Tr.size]; omega
theorem split_spec (k : List UInt8) : ∀ t : Tr, t.size + 2 ≤ 1000000000 → PFn Try.prog 75 [Tv t, Sv k] (.tup [Tv (t.split k).1, Tv (t.split k).2])
  | .nil, _ => by
    refine ACall.walk [0, 1, 4, 5, 6, 7, 8, 9, 10, 12, 19, 39] [] Try.func75 rfl Try.ntmps75 (by kernel_rfl) (by rfl) rfl fun W own I0 φ0 => ?_
    repeat (first | refine xPP rfl ?_ | refine xPE rfl ?_ | refine xEP rfl ?_ | refine xEE rfl ?_ | refine AQ.done ?_ | refine AQ.skip (by kernel_rfl) rfl ?_ | refine AQ.s2b (by kernel_rfl) rfl rfl rfl rfl ?_ | refine AQ.mark (by kernel_rfl) rfl rfl rfl rfl rfl rfl rfl ?_ | refine AP.cond_true rfl rfl ?_ | refine AP.cond_false rfl rfl ?_ | (refine AP.region rfl (by kernel_rfl) ?_; simp only [go_sem, Nat.reduceAdd, Nat.reduceLeDiff, reduceCtorEq, Tv, Tr.iv]) | (refine AP.drawQ rfl rfl (by kernel_rfl) ?_; simp only [go_sem, Nat.reduceAdd, Nat.reduceLeDiff, reduceCtorEq, Tv, Tr.iv]) | (refine vq_id ?_; simp only [go_sem, Nat.reduceAdd, Nat.reduceLeDiff, reduceCtorEq, Tv, Tr.iv]) | (refine ⟨by first | omega | (intros; simp_all; done) | (intros; simp_all; omega), ?_⟩; try simp only [go_sem, Nat.reduceAdd, Nat.reduceLeDiff, reduceCtorEq, Tv, Tr.iv]))
    exact AE.ret rfl ⟨rfl, rfl, trivial⟩ ⟨rfl, rfl⟩
  | .node k' v l r, hs => by
    have hs' : l.size + r.size + 3 ≤ 1000000000 := by simp only [Tr.size] at hs; omega
    have ihl := split_spec k l (by omega)
    have ihr := split_spec k r (by omega)
    have z1 := Tr.size_split k l
    have z2 := Tr.size_split k r
    refine ACall.walk [0, 1, 4, 5, 6, 7, 8, 9, 10, 12, 19, 39] [] Try.func75 rfl Try.ntmps75 (by kernel_rfl) (by rfl) rfl fun W own I0 φ0 => ?_
    repeat (first | refine xPP rfl ?_ | refine xPE rfl ?_ | refine xEP rfl ?_ | refine xEE rfl ?_ | refine AQ.done ?_ | refine AQ.skip (by kernel_rfl) rfl ?_ | refine AQ.s2b (by kernel_rfl) rfl rfl rfl rfl ?_ | refine AQ.mark (by kernel_rfl) rfl rfl rfl rfl rfl rfl rfl ?_ | refine AP.cond_true rfl rfl ?_ | refine AP.cond_false rfl rfl ?_ | (refine AP.region rfl (by kernel_rfl) ?_; simp only [go_sem, Nat.reduceAdd, Nat.reduceLeDiff, reduceCtorEq, Tv, Tr.iv]) | (refine AP.drawQ rfl rfl (by kernel_rfl) ?_; simp only [go_sem, Nat.reduceAdd, Nat.reduceLeDiff, reduceCtorEq, Tv, Tr.iv]) | (refine vq_id ?_; simp only [go_sem, Nat.reduceAdd, Nat.reduceLeDiff, reduceCtorEq, Tv, Tr.iv]) | (refine ⟨by first | omega | (intros; simp_all; done) | (intros; simp_all; omega), ?_⟩; try simp only [go_sem, Nat.reduceAdd, Nat.reduceLeDiff, reduceCtorEq, Tv, Tr.iv]))
    refine AQ.fn (by kernel_rfl) rfl rfl rfl (compare_spec k k') rfl ?_
    repeat (first | refine xPP rfl ?_ | refine xPE rfl ?_ | refine xEP rfl ?_ | refine xEE rfl ?_ | refine AQ.done ?_ | refine AQ.skip (by kernel_rfl) rfl ?_ | refine AQ.s2b (by kernel_rfl) rfl rfl rfl rfl ?_ | refine AQ.mark (by kernel_rfl) rfl rfl rfl rfl rfl rfl rfl ?_ | refine AP.cond_true rfl rfl ?_ | refine AP.cond_false rfl rfl ?_ | (refine AP.region rfl (by kernel_rfl) ?_; simp only [go_sem, Nat.reduceAdd, Nat.reduceLeDiff, reduceCtorEq]) | (refine AP.drawQ rfl rfl (by kernel_rfl) ?_; simp only [go_sem, Nat.reduceAdd, Nat.reduceLeDiff, reduceCtorEq]) | (refine vq_id ?_; simp only [go_sem, Nat.reduceAdd, Nat.reduceLeDiff, reduceCtorEq]) | (refine ⟨by first | omega | (intros; simp_all; done) | (intros; simp_all; omega), ?_⟩; try simp only [go_sem, Nat.reduceAdd, Nat.reduceLeDiff, reduceCtorEq]))
    refine AP.cond rfl rfl (fun hc => ?_) (fun hc => ?_)
    · have hlt : cmpS k k' < 0 := by simpa using hc
      repeat (first | refine xPP rfl ?_ | refine xPE rfl ?_ | refine xEP rfl ?_ | refine xEE rfl ?_ | refine AQ.done ?_ | refine AQ.skip (by kernel_rfl) rfl ?_ | refine AQ.s2b (by kernel_rfl) rfl rfl rfl rfl ?_ | refine AQ.mark (by kernel_rfl) rfl rfl rfl rfl rfl rfl rfl ?_ | refine AP.cond_true rfl rfl ?_ | refine AP.cond_false rfl rfl ?_ | (refine AP.region rfl (by kernel_rfl) ?_; simp only [go_sem, Nat.reduceAdd, Nat.reduceLeDiff, reduceCtorEq, Tv, Tr.iv]) | (refine AP.drawQ rfl rfl (by kernel_rfl) ?_; simp only [go_sem, Nat.reduceAdd, Nat.reduceLeDiff, reduceCtorEq, Tv, Tr.iv]) | (refine vq_id ?_; simp only [go_sem, Nat.reduceAdd, Nat.reduceLeDiff, reduceCtorEq, Tv, Tr.iv]) | (refine ⟨by first | omega | (intros; simp_all; done) | (intros; simp_all; omega), ?_⟩; try simp only [go_sem, Nat.reduceAdd, Nat.reduceLeDiff, reduceCtorEq, Tv, Tr.iv]))
      refine AQ.fn (by kernel_rfl) rfl rfl rfl (ihl) rfl ?_
      repeat (first | refine xPP rfl ?_ | refine xPE rfl ?_ | refine xEP rfl ?_ | refine xEE rfl ?_ | refine AQ.done ?_ | refine AQ.skip (by kernel_rfl) rfl ?_ | refine AQ.s2b (by kernel_rfl) rfl rfl rfl rfl ?_ | refine AQ.mark (by kernel_rfl) rfl rfl rfl rfl rfl rfl rfl ?_ | refine AP.cond_true rfl rfl ?_ | refine AP.cond_false rfl rfl ?_ | (refine AP.region rfl (by kernel_rfl) ?_; simp only [go_sem, Nat.reduceAdd, Nat.reduceLeDiff, reduceCtorEq, Tv, Tr.iv]) | (refine AP.drawQ rfl rfl (by kernel_rfl) ?_; simp only [go_sem, Nat.reduceAdd, Nat.reduceLeDiff, reduceCtorEq, Tv, Tr.iv]) | (refine vq_id ?_; simp only [go_sem, Nat.reduceAdd, Nat.reduceLeDiff, reduceCtorEq, Tv, Tr.iv]) | (refine ⟨by first | omega | (intros; simp_all; done) | (intros; simp_all; omega), ?_⟩; try simp only [go_sem, Nat.reduceAdd, Nat.reduceLeDiff, reduceCtorEq, Tv, Tr.iv]))
      refine AQ.fn (by kernel_rfl) rfl rfl rfl (link_sp k' v l r (l.split k).2 r (by omega)) rfl ?_
      repeat (first | refine xPP rfl ?_ | refine xPE rfl ?_ | refine xEP rfl ?_ | refine xEE rfl ?_ | refine AQ.done ?_ | refine AQ.skip (by kernel_rfl) rfl ?_ | refine AQ.s2b (by kernel_rfl) rfl rfl rfl rfl ?_ | refine AQ.mark (by kernel_rfl) rfl rfl rfl rfl rfl rfl rfl ?_ | refine AP.cond_true rfl rfl ?_ | refine AP.cond_false rfl rfl ?_ | (refine AP.region rfl (by kernel_rfl) ?_; simp only [go_sem, Nat.reduceAdd, Nat.reduceLeDiff, reduceCtorEq]) | (refine AP.drawQ rfl rfl (by kernel_rfl) ?_; simp only [go_sem, Nat.reduceAdd, Nat.reduceLeDiff, reduceCtorEq]) | (refine vq_id ?_; simp only [go_sem, Nat.reduceAdd, Nat.reduceLeDiff, reduceCtorEq]) | (refine ⟨by first | omega | (intros; simp_all; done) | (intros; simp_all; omega), ?_⟩; try simp only [go_sem, Nat.reduceAdd, Nat.reduceLeDiff, reduceCtorEq]))
      refine AE.ret rfl ⟨rfl, rfl, trivial⟩ ⟨rfl, ?_⟩
      have e : Tr.split k (.node k' v l r) = ((l.split k).1, Tr.link k' v (l.split k).2 r) := by simp only [Tr.split, if_pos hlt]
      rw [e]; rfl
    · have hnl : ¬ cmpS k k' < 0 := by simpa using hc
      repeat (first | refine xPP rfl ?_ | refine xPE rfl ?_ | refine xEP rfl ?_ | refine xEE rfl ?_ | refine AQ.done ?_ | refine AQ.skip (by kernel_rfl) rfl ?_ | refine AQ.s2b (by kernel_rfl) rfl rfl rfl rfl ?_ | refine AQ.mark (by kernel_rfl) rfl rfl rfl rfl rfl rfl rfl ?_ | refine AP.cond_true rfl rfl ?_ | refine AP.cond_false rfl rfl ?_ | (refine AP.region rfl (by kernel_rfl) ?_; simp only [go_sem, Nat.reduceAdd, Nat.reduceLeDiff, reduceCtorEq]) | (refine AP.drawQ rfl rfl (by kernel_rfl) ?_; simp only [go_sem, Nat.reduceAdd, Nat.reduceLeDiff, reduceCtorEq]) | (refine vq_id ?_; simp only [go_sem, Nat.reduceAdd, Nat.reduceLeDiff, reduceCtorEq]) | (refine ⟨by first | omega | (intros; simp_all; done) | (intros; simp_all; omega), ?_⟩; try simp only [go_sem, Nat.reduceAdd, Nat.reduceLeDiff, reduceCtorEq]))
      refine AP.cond rfl rfl (fun hd => ?_) (fun hd => ?_)
      · have hlt : 0 < cmpS k k' := by simpa using hd
        repeat (first | refine xPP rfl ?_ | refine xPE rfl ?_ | refine xEP rfl ?_ | refine xEE rfl ?_ | refine AQ.done ?_ | refine AQ.skip (by kernel_rfl) rfl ?_ | refine AQ.s2b (by kernel_rfl) rfl rfl rfl rfl ?_ | refine AQ.mark (by kernel_rfl) rfl rfl rfl rfl rfl rfl rfl ?_ | refine AP.cond_true rfl rfl ?_ | refine AP.cond_false rfl rfl ?_ | (refine AP.region rfl (by kernel_rfl) ?_; simp only [go_sem, Nat.reduceAdd, Nat.reduceLeDiff, reduceCtorEq, Tv, Tr.iv]) | (refine AP.drawQ rfl rfl (by kernel_rfl) ?_; simp only [go_sem, Nat.reduceAdd, Nat.reduceLeDiff, reduceCtorEq, Tv, Tr.iv]) | (refine vq_id ?_; simp only [go_sem, Nat.reduceAdd, Nat.reduceLeDiff, reduceCtorEq, Tv, Tr.iv]) | (refine ⟨by first | omega | (intros; simp_all; done) | (intros; simp_all; omega), ?_⟩; try simp only [go_sem, Nat.reduceAdd, Nat.reduceLeDiff, reduceCtorEq, Tv, Tr.iv]))
        refine AQ.fn (by kernel_rfl) rfl rfl rfl (ihr) rfl ?_
        repeat (first | refine xPP rfl ?_ | refine xPE rfl ?_ | refine xEP rfl ?_ | refine xEE rfl ?_ | refine AQ.done ?_ | refine AQ.skip (by kernel_rfl) rfl ?_ | refine AQ.s2b (by kernel_rfl) rfl rfl rfl rfl ?_ | refine AQ.mark (by kernel_rfl) rfl rfl rfl rfl rfl rfl rfl ?_ | refine AP.cond_true rfl rfl ?_ | refine AP.cond_false rfl rfl ?_ | (refine AP.region rfl (by kernel_rfl) ?_; simp only [go_sem, Nat.reduceAdd, Nat.reduceLeDiff, reduceCtorEq, Tv, Tr.iv]) | (refine AP.drawQ rfl rfl (by kernel_rfl) ?_; simp only [go_sem, Nat.reduceAdd, Nat.reduceLeDiff, reduceCtorEq, Tv, Tr.iv]) | (refine vq_id ?_; simp only [go_sem, Nat.reduceAdd, Nat.reduceLeDiff, reduceCtorEq, Tv, Tr.iv]) | (refine ⟨by first | omega | (intros; simp_all; done) | (intros; simp_all; omega), ?_⟩; try simp only [go_sem, Nat.reduceAdd, Nat.reduceLeDiff, reduceCtorEq, Tv, Tr.iv]))
        refine AQ.fn (by kernel_rfl) rfl rfl rfl (link_sp k' v l r l (r.split k).1 (by omega)) rfl ?_
        repeat (first | refine xPP rfl ?_ | refine xPE rfl ?_ | refine xEP rfl ?_ | refine xEE rfl ?_ | refine AQ.done ?_ | refine AQ.skip (by kernel_rfl) rfl ?_ | refine AQ.s2b (by kernel_rfl) rfl rfl rfl rfl ?_ | refine AQ.mark (by kernel_rfl) rfl rfl rfl rfl rfl rfl rfl ?_ | refine AP.cond_true rfl rfl ?_ | refine AP.cond_false rfl rfl ?_ | (refine AP.region rfl (by kernel_rfl) ?_; simp only [go_sem, Nat.reduceAdd, Nat.reduceLeDiff, reduceCtorEq]) | (refine AP.drawQ rfl rfl (by kernel_rfl) ?_; simp only [go_sem, Nat.reduceAdd, Nat.reduceLeDiff, reduceCtorEq]) | (refine vq_id ?_; simp only [go_sem, Nat.reduceAdd, Nat.reduceLeDiff, reduceCtorEq]) | (refine ⟨by first | omega | (intros; simp_all; done) | (intros; simp_all; omega), ?_⟩; try simp only [go_sem, Nat.reduceAdd, Nat.reduceLeDiff, reduceCtorEq]))
        refine AE.ret rfl ⟨rfl, rfl, trivial⟩ ⟨rfl, ?_⟩
        have e : Tr.split k (.node k' v l r) = (Tr.link k' v l (r.split k).1, (r.split k).2) := by simp only [Tr.split, if_neg hnl, if_pos hlt]
        rw [e]; rfl
      · have hng : ¬ 0 < cmpS k k' := by simpa using hd
        repeat (first | refine xPP rfl ?_ | refine xPE rfl ?_ | refine xEP rfl ?_ | refine xEE rfl ?_ | refine AQ.done ?_ | refine AQ.skip (by kernel_rfl) rfl ?_ | refine AQ.s2b (by kernel_rfl) rfl rfl rfl rfl ?_ | refine AQ.mark (by kernel_rfl) rfl rfl rfl rfl rfl rfl rfl ?_ | refine AP.cond_true rfl rfl ?_ | refine AP.cond_false rfl rfl ?_ | (refine AP.region rfl (by kernel_rfl) ?_; simp only [go_sem, Nat.reduceAdd, Nat.reduceLeDiff, reduceCtorEq]) | (refine AP.drawQ rfl rfl (by kernel_rfl) ?_; simp only [go_sem, Nat.reduceAdd, Nat.reduceLeDiff, reduceCtorEq]) | (refine vq_id ?_; simp only [go_sem, Nat.reduceAdd, Nat.reduceLeDiff, reduceCtorEq]) | (refine ⟨by first | omega | (intros; simp_all; done) | (intros; simp_all; omega), ?_⟩; try simp only [go_sem, Nat.reduceAdd, Nat.reduceLeDiff, reduceCtorEq]))
        repeat (first | refine xPP rfl ?_ | refine xPE rfl ?_ | refine xEP rfl ?_ | refine xEE rfl ?_ | refine AQ.done ?_ | refine AQ.skip (by kernel_rfl) rfl ?_ | refine AQ.s2b (by kernel_rfl) rfl rfl rfl rfl ?_ | refine AQ.mark (by kernel_rfl) rfl rfl rfl rfl rfl rfl rfl ?_ | refine AP.cond_true rfl rfl ?_ | refine AP.cond_false rfl rfl ?_ | (refine AP.region rfl (by kernel_rfl) ?_; simp only [go_sem, Nat.reduceAdd, Nat.reduceLeDiff, reduceCtorEq, Tv, Tr.iv]) | (refine AP.drawQ rfl rfl (by kernel_rfl) ?_; simp only [go_sem, Nat.reduceAdd, Nat.reduceLeDiff, reduceCtorEq, Tv, Tr.iv]) | (refine vq_id ?_; simp only [go_sem, Nat.reduceAdd, Nat.reduceLeDiff, reduceCtorEq, Tv, Tr.iv]) | (refine ⟨by first | omega | (intros; simp_all; done) | (intros; simp_all; omega), ?_⟩; try simp only [go_sem, Nat.reduceAdd, Nat.reduceLeDiff, reduceCtorEq, Tv, Tr.iv]))
        refine AE.ret rfl ⟨rfl, rfl, trivial⟩ ⟨rfl, ?_⟩
        have e : Tr.split k (.node k' v l r) = (l, r) := by simp only [Tr.split, if_neg hnl, if_neg hng]
        rw [e]; rfl
theorem Split_spec (t : Tr) (k : List UInt8) (hs : t.size + 2 ≤ 1000000000) : PFn Try.prog 44 [.agg [Tv t], Sv k] (.tup [.agg [Tv (t.split k).1], .agg [Tv (t.split k).2]]) := by
  refine ACall.walk [0, 1, 2, 4, 5, 6, 7] [4, 5] Try.func44 rfl Try.ntmps44 (by kernel_rfl) (by rfl) rfl fun W own I0 φ0 => ?_
  repeat (first | refine xPP rfl ?_ | refine xPE rfl ?_ | refine xEP rfl ?_ | refine xEE rfl ?_ | refine AQ.done ?_ | refine AQ.skip (by kernel_rfl) rfl ?_ | refine AQ.s2b (by kernel_rfl) rfl rfl rfl rfl ?_ | refine AQ.mark (by kernel_rfl) rfl rfl rfl rfl rfl rfl rfl ?_ | refine AP.cond_true rfl rfl ?_ | refine AP.cond_false rfl rfl ?_ | (refine AP.region rfl (by kernel_rfl) ?_; simp only [go_sem, Nat.reduceAdd, Nat.reduceLeDiff, reduceCtorEq]) | (refine AP.drawQ rfl rfl (by kernel_rfl) ?_; simp only [go_sem, Nat.reduceAdd, Nat.reduceLeDiff, reduceCtorEq]) | (refine vq_id ?_; simp only [go_sem, Nat.reduceAdd, Nat.reduceLeDiff, reduceCtorEq]) | (refine ⟨by first | omega | (intros; simp_all; done) | (intros; simp_all; omega), ?_⟩; try simp only [go_sem, Nat.reduceAdd, Nat.reduceLeDiff, reduceCtorEq]))
  refine AQ.fn (by kernel_rfl) rfl rfl rfl (split_spec k t hs) rfl ?_
  repeat (first | refine xPP rfl ?_ | refine xPE rfl ?_ | refine xEP rfl ?_ | refine xEE rfl ?_ | refine AQ.done ?_ | refine AQ.skip (by kernel_rfl) rfl ?_ | refine AQ.s2b (by kernel_rfl) rfl rfl rfl rfl ?_ | refine AQ.mark (by kernel_rfl) rfl rfl rfl rfl rfl rfl rfl ?_ | refine AP.cond_true rfl rfl ?_ | refine AP.cond_false rfl rfl ?_ | (refine AP.region rfl (by kernel_rfl) ?_; simp only [go_sem, Nat.reduceAdd, Nat.reduceLeDiff, reduceCtorEq]) | (refine AP.drawQ rfl rfl (by kernel_rfl) ?_; simp only [go_sem, Nat.reduceAdd, Nat.reduceLeDiff, reduceCtorEq]) | (refine vq_id ?_; simp only [go_sem, Nat.reduceAdd, Nat.reduceLeDiff, reduceCtorEq]) | (refine ⟨by first | omega | (intros; simp_all; done) | (intros; simp_all; omega), ?_⟩; try simp only [go_sem, Nat.reduceAdd, Nat.reduceLeDiff, reduceCtorEq]))
  exact AE.ret0 rfl ⟨⟨rfl, Nat.le_of_ble_eq_true (by kernel_rfl)⟩, ⟨rfl, Nat.le_of_ble_eq_true (by kernel_rfl)⟩, trivial⟩ rfl ⟨rfl, rfl⟩
def Tr.del (t : Tr) (k : List UInt8) : Tr := match t.find k with
  | .nil => t
  | .node _ _ _ _ => Tr.concat (t.split k).1 (t.split k).2
theorem Tr.size_del (t : Tr) (k : List UInt8) : (t.del k).size ≤ t.size := by
  unfold Tr.del
  have := Tr.size_split k t
  split
  · exact Nat.le_refl _
  · rw [Tr.size_concat]; exact this
theorem Delete_spec (t : Tr) (k : List UInt8) (hs : t.size + 2 ≤ 1000000000) : PFn Try.prog 48 [.agg [Tv t], Sv k] (.agg [Tv (t.del k)]) := by
  have hz := Tr.size_split k t
  refine ACall.walk [0, 1, 2, 4, 6, 14] [4] Try.func48 rfl Try.ntmps48 (by kernel_rfl) (by rfl) rfl fun W own I0 φ0 => ?_
  repeat (first | refine xPP rfl ?_ | refine xPE rfl ?_ | refine xEP rfl ?_ | refine xEE rfl ?_ | refine AQ.done ?_ | refine AQ.skip (by kernel_rfl) rfl ?_ | refine AQ.s2b (by kernel_rfl) rfl rfl rfl rfl ?_ | refine AQ.mark (by kernel_rfl) rfl rfl rfl rfl rfl rfl rfl ?_ | refine AP.cond_true rfl rfl ?_ | refine AP.cond_false rfl rfl ?_ | (refine AP.region rfl (by kernel_rfl) ?_; simp only [go_sem, Nat.reduceAdd, Nat.reduceLeDiff, reduceCtorEq]) | (refine AP.drawQ rfl rfl (by kernel_rfl) ?_; simp only [go_sem, Nat.reduceAdd, Nat.reduceLeDiff, reduceCtorEq]) | (refine vq_id ?_; simp only [go_sem, Nat.reduceAdd, Nat.reduceLeDiff, reduceCtorEq]) | (refine ⟨by first | omega | (intros; simp_all; done) | (intros; simp_all; omega), ?_⟩; try simp only [go_sem, Nat.reduceAdd, Nat.reduceLeDiff, reduceCtorEq]))
  cases hf : t.find k with
  | nil =>
    have hg : getOf t k = .tup [Iv 0, Bv false] := by rw [getOf, hf]
    refine AQ.fn (by kernel_rfl) rfl rfl rfl (by have := Get_spec t k (by omega); rw [hg] at this; exact this) rfl ?_
    repeat (first | refine xPP rfl ?_ | refine xPE rfl ?_ | refine xEP rfl ?_ | refine xEE rfl ?_ | refine AQ.done ?_ | refine AQ.skip (by kernel_rfl) rfl ?_ | refine AQ.s2b (by kernel_rfl) rfl rfl rfl rfl ?_ | refine AQ.mark (by kernel_rfl) rfl rfl rfl rfl rfl rfl rfl ?_ | refine AP.cond_true rfl rfl ?_ | refine AP.cond_false rfl rfl ?_ | (refine AP.region rfl (by kernel_rfl) ?_; simp only [go_sem, Nat.reduceAdd, Nat.reduceLeDiff, reduceCtorEq]) | (refine AP.drawQ rfl rfl (by kernel_rfl) ?_; simp only [go_sem, Nat.reduceAdd, Nat.reduceLeDiff, reduceCtorEq]) | (refine vq_id ?_; simp only [go_sem, Nat.reduceAdd, Nat.reduceLeDiff, reduceCtorEq]) | (refine ⟨by first | omega | (intros; simp_all; done) | (intros; simp_all; omega), ?_⟩; try simp only [go_sem, Nat.reduceAdd, Nat.reduceLeDiff, reduceCtorEq]))
    exact AE.ret0 rfl ⟨⟨rfl, Nat.le_of_ble_eq_true (by kernel_rfl)⟩, trivial⟩ rfl ⟨rfl, by rw [Tr.del, hf]; rfl⟩
  | node k' v a b =>
    have hg : getOf t k = .tup [Iv v, Bv true] := by rw [getOf, hf]
    refine AQ.fn (by kernel_rfl) rfl rfl rfl (by have := Get_spec t k (by omega); rw [hg] at this; exact this) rfl ?_
    repeat (first | refine xPP rfl ?_ | refine xPE rfl ?_ | refine xEP rfl ?_ | refine xEE rfl ?_ | refine AQ.done ?_ | refine AQ.skip (by kernel_rfl) rfl ?_ | refine AQ.s2b (by kernel_rfl) rfl rfl rfl rfl ?_ | refine AQ.mark (by kernel_rfl) rfl rfl rfl rfl rfl rfl rfl ?_ | refine AP.cond_true rfl rfl ?_ | refine AP.cond_false rfl rfl ?_ | (refine AP.region rfl (by kernel_rfl) ?_; simp only [go_sem, Nat.reduceAdd, Nat.reduceLeDiff, reduceCtorEq]) | (refine AP.drawQ rfl rfl (by kernel_rfl) ?_; simp only [go_sem, Nat.reduceAdd, Nat.reduceLeDiff, reduceCtorEq]) | (refine vq_id ?_; simp only [go_sem, Nat.reduceAdd, Nat.reduceLeDiff, reduceCtorEq]) | (refine ⟨by first | omega | (intros; simp_all; done) | (intros; simp_all; omega), ?_⟩; try simp only [go_sem, Nat.reduceAdd, Nat.reduceLeDiff, reduceCtorEq]))
    refine AQ.fn (by kernel_rfl) rfl rfl rfl (split_spec k t hs) rfl ?_
    repeat (first | refine xPP rfl ?_ | refine xPE rfl ?_ | refine xEP rfl ?_ | refine xEE rfl ?_ | refine AQ.done ?_ | refine AQ.skip (by kernel_rfl) rfl ?_ | refine AQ.s2b (by kernel_rfl) rfl rfl rfl rfl ?_ | refine AQ.mark (by kernel_rfl) rfl rfl rfl rfl rfl rfl rfl ?_ | refine AP.cond_true rfl rfl ?_ | refine AP.cond_false rfl rfl ?_ | (refine AP.region rfl (by kernel_rfl) ?_; simp only [go_sem, Nat.reduceAdd, Nat.reduceLeDiff, reduceCtorEq]) | (refine AP.drawQ rfl rfl (by kernel_rfl) ?_; simp only [go_sem, Nat.reduceAdd, Nat.reduceLeDiff, reduceCtorEq]) | (refine vq_id ?_; simp only [go_sem, Nat.reduceAdd, Nat.reduceLeDiff, reduceCtorEq]) | (refine ⟨by first | omega | (intros; simp_all; done) | (intros; simp_all; omega), ?_⟩; try simp only [go_sem, Nat.reduceAdd, Nat.reduceLeDiff, reduceCtorEq]))
    refine AQ.fn (by kernel_rfl) rfl rfl rfl (concat_spec (t.split k).1 (t.split k).2 (by omega)) rfl ?_
    repeat (first | refine xPP rfl ?_ | refine xPE rfl ?_ | refine xEP rfl ?_ | refine xEE rfl ?_ | refine AQ.done ?_ | refine AQ.skip (by kernel_rfl) rfl ?_ | refine AQ.s2b (by kernel_rfl) rfl rfl rfl rfl ?_ | refine AQ.mark (by kernel_rfl) rfl rfl rfl rfl rfl rfl rfl ?_ | refine AP.cond_true rfl rfl ?_ | refine AP.cond_false rfl rfl ?_ | (refine AP.region rfl (by kernel_rfl) ?_; simp only [go_sem, Nat.reduceAdd, Nat.reduceLeDiff, reduceCtorEq]) | (refine AP.drawQ rfl rfl (by kernel_rfl) ?_; simp only [go_sem, Nat.reduceAdd, Nat.reduceLeDiff, reduceCtorEq]) | (refine vq_id ?_; simp only [go_sem, Nat.reduceAdd, Nat.reduceLeDiff, reduceCtorEq]) | (refine ⟨by first | omega | (intros; simp_all; done) | (intros; simp_all; omega), ?_⟩; try simp only [go_sem, Nat.reduceAdd, Nat.reduceLeDiff, reduceCtorEq]))
    exact AE.ret0 rfl ⟨⟨rfl, Nat.le_of_ble_eq_true (by kernel_rfl)⟩, trivial⟩ rfl ⟨rfl, by rw [Tr.del, hf]; rfl⟩
/-- whether the keys of the first tree are not ahead of those of the second one -/
def Tr.apart (t u : Tr) : Bool := t.size == 0 || u.size == 0 || decide (cmpS (t.at (t.size - 1)).1 (u.at 0).1 < 0)
def joinOf (t u : Tr) : AV := if t.apart u then .tup [.agg [Tv (Tr.concat t u)], Bv true] else .tup [.agg [Tv .nil], Bv false]
theorem Join_spec (t u : Tr) (hs : t.size + u.size + 2 ≤ 1000000000) : PFn Try.prog 45 [.agg [Tv t], .agg [Tv u]] (joinOf t u) := by
  refine ACall.walk [0, 1, 2, 3, 4, 5, 6, 9, 19, 38] [4] Try.func45 rfl Try.ntmps45 (by kernel_rfl) (by rfl) rfl fun W own I0 φ0 => ?_
  cases t with
  | nil =>
    cases u with
    | nil =>
      repeat (first | refine xPP rfl ?_ | refine xPE rfl ?_ | refine xEP rfl ?_ | refine xEE rfl ?_ | refine AQ.done ?_ | refine AQ.skip (by kernel_rfl) rfl ?_ | refine AQ.s2b (by kernel_rfl) rfl rfl rfl rfl ?_ | refine AQ.mark (by kernel_rfl) rfl rfl rfl rfl rfl rfl rfl ?_ | refine AP.cond_true rfl rfl ?_ | refine AP.cond_false rfl rfl ?_ | (refine AP.region rfl (by kernel_rfl) ?_; simp only [go_sem, Nat.reduceAdd, Nat.reduceLeDiff, reduceCtorEq, Tv, Tr.iv]) | (refine AP.drawQ rfl rfl (by kernel_rfl) ?_; simp only [go_sem, Nat.reduceAdd, Nat.reduceLeDiff, reduceCtorEq, Tv, Tr.iv]) | (refine vq_id ?_; simp only [go_sem, Nat.reduceAdd, Nat.reduceLeDiff, reduceCtorEq, Tv, Tr.iv]) | (refine ⟨by first | omega | (intros; simp_all; done) | (intros; simp_all; omega), ?_⟩; try simp only [go_sem, Nat.reduceAdd, Nat.reduceLeDiff, reduceCtorEq, Tv, Tr.iv]))
      refine AQ.fn (by kernel_rfl) rfl rfl rfl (concat_spec .nil .nil hs) rfl ?_
      repeat (first | refine xPP rfl ?_ | refine xPE rfl ?_ | refine xEP rfl ?_ | refine xEE rfl ?_ | refine AQ.done ?_ | refine AQ.skip (by kernel_rfl) rfl ?_ | refine AQ.s2b (by kernel_rfl) rfl rfl rfl rfl ?_ | refine AQ.mark (by kernel_rfl) rfl rfl rfl rfl rfl rfl rfl ?_ | refine AP.cond_true rfl rfl ?_ | refine AP.cond_false rfl rfl ?_ | (refine AP.region rfl (by kernel_rfl) ?_; simp only [go_sem, Nat.reduceAdd, Nat.reduceLeDiff, reduceCtorEq]) | (refine AP.drawQ rfl rfl (by kernel_rfl) ?_; simp only [go_sem, Nat.reduceAdd, Nat.reduceLeDiff, reduceCtorEq]) | (refine vq_id ?_; simp only [go_sem, Nat.reduceAdd, Nat.reduceLeDiff, reduceCtorEq]) | (refine ⟨by first | omega | (intros; simp_all; done) | (intros; simp_all; omega), ?_⟩; try simp only [go_sem, Nat.reduceAdd, Nat.reduceLeDiff, reduceCtorEq]))
      exact AE.ret0 rfl ⟨⟨rfl, Nat.le_of_ble_eq_true (by kernel_rfl)⟩, rfl, trivial⟩ rfl ⟨rfl, rfl⟩
    | node k v l r =>
      repeat (first | refine xPP rfl ?_ | refine xPE rfl ?_ | refine xEP rfl ?_ | refine xEE rfl ?_ | refine AQ.done ?_ | refine AQ.skip (by kernel_rfl) rfl ?_ | refine AQ.s2b (by kernel_rfl) rfl rfl rfl rfl ?_ | refine AQ.mark (by kernel_rfl) rfl rfl rfl rfl rfl rfl rfl ?_ | refine AP.cond_true rfl rfl ?_ | refine AP.cond_false rfl rfl ?_ | (refine AP.region rfl (by kernel_rfl) ?_; simp only [go_sem, Nat.reduceAdd, Nat.reduceLeDiff, reduceCtorEq, Tv, Tr.iv]) | (refine AP.drawQ rfl rfl (by kernel_rfl) ?_; simp only [go_sem, Nat.reduceAdd, Nat.reduceLeDiff, reduceCtorEq, Tv, Tr.iv]) | (refine vq_id ?_; simp only [go_sem, Nat.reduceAdd, Nat.reduceLeDiff, reduceCtorEq, Tv, Tr.iv]) | (refine ⟨by first | omega | (intros; simp_all; done) | (intros; simp_all; omega), ?_⟩; try simp only [go_sem, Nat.reduceAdd, Nat.reduceLeDiff, reduceCtorEq, Tv, Tr.iv]))
      refine AQ.fn (by kernel_rfl) rfl rfl rfl (concat_spec .nil (.node k v l r) hs) rfl ?_
      repeat (first | refine xPP rfl ?_ | refine xPE rfl ?_ | refine xEP rfl ?_ | refine xEE rfl ?_ | refine AQ.done ?_ | refine AQ.skip (by kernel_rfl) rfl ?_ | refine AQ.s2b (by kernel_rfl) rfl rfl rfl rfl ?_ | refine AQ.mark (by kernel_rfl) rfl rfl rfl rfl rfl rfl rfl ?_ | refine AP.cond_true rfl rfl ?_ | refine AP.cond_false rfl rfl ?_ | (refine AP.region rfl (by kernel_rfl) ?_; simp only [go_sem, Nat.reduceAdd, Nat.reduceLeDiff, reduceCtorEq]) | (refine AP.drawQ rfl rfl (by kernel_rfl) ?_; simp only [go_sem, Nat.reduceAdd, Nat.reduceLeDiff, reduceCtorEq]) | (refine vq_id ?_; simp only [go_sem, Nat.reduceAdd, Nat.reduceLeDiff, reduceCtorEq]) | (refine ⟨by first | omega | (intros; simp_all; done) | (intros; simp_all; omega), ?_⟩; try simp only [go_sem, Nat.reduceAdd, Nat.reduceLeDiff, reduceCtorEq]))
      exact AE.ret0 rfl ⟨⟨rfl, Nat.le_of_ble_eq_true (by kernel_rfl)⟩, rfl, trivial⟩ rfl ⟨rfl, rfl⟩
  | node k v l r =>
    cases u with
    | nil =>
      repeat (first | refine xPP rfl ?_ | refine xPE rfl ?_ | refine xEP rfl ?_ | refine xEE rfl ?_ | refine AQ.done ?_ | refine AQ.skip (by kernel_rfl) rfl ?_ | refine AQ.s2b (by kernel_rfl) rfl rfl rfl rfl ?_ | refine AQ.mark (by kernel_rfl) rfl rfl rfl rfl rfl rfl rfl ?_ | refine AP.cond_true rfl rfl ?_ | refine AP.cond_false rfl rfl ?_ | (refine AP.region rfl (by kernel_rfl) ?_; simp only [go_sem, Nat.reduceAdd, Nat.reduceLeDiff, reduceCtorEq, Tv, Tr.iv]) | (refine AP.drawQ rfl rfl (by kernel_rfl) ?_; simp only [go_sem, Nat.reduceAdd, Nat.reduceLeDiff, reduceCtorEq, Tv, Tr.iv]) | (refine vq_id ?_; simp only [go_sem, Nat.reduceAdd, Nat.reduceLeDiff, reduceCtorEq, Tv, Tr.iv]) | (refine ⟨by first | omega | (intros; simp_all; done) | (intros; simp_all; omega), ?_⟩; try simp only [go_sem, Nat.reduceAdd, Nat.reduceLeDiff, reduceCtorEq, Tv, Tr.iv]))
      refine AQ.fn (by kernel_rfl) rfl rfl rfl (concat_spec (.node k v l r) .nil hs) rfl ?_
      repeat (first | refine xPP rfl ?_ | refine xPE rfl ?_ | refine xEP rfl ?_ | refine xEE rfl ?_ | refine AQ.done ?_ | refine AQ.skip (by kernel_rfl) rfl ?_ | refine AQ.s2b (by kernel_rfl) rfl rfl rfl rfl ?_ | refine AQ.mark (by kernel_rfl) rfl rfl rfl rfl rfl rfl rfl ?_ | refine AP.cond_true rfl rfl ?_ | refine AP.cond_false rfl rfl ?_ | (refine AP.region rfl (by kernel_rfl) ?_; simp only [go_sem, Nat.reduceAdd, Nat.reduceLeDiff, reduceCtorEq]) | (refine AP.drawQ rfl rfl (by kernel_rfl) ?_; simp only [go_sem, Nat.reduceAdd, Nat.reduceLeDiff, reduceCtorEq]) | (refine vq_id ?_; simp only [go_sem, Nat.reduceAdd, Nat.reduceLeDiff, reduceCtorEq]) | (refine ⟨by first | omega | (intros; simp_all; done) | (intros; simp_all; omega), ?_⟩; try simp only [go_sem, Nat.reduceAdd, Nat.reduceLeDiff, reduceCtorEq]))
      exact AE.ret0 rfl ⟨⟨rfl, Nat.le_of_ble_eq_true (by kernel_rfl)⟩, rfl, trivial⟩ rfl ⟨rfl, by simp only [joinOf, Tr.apart, Tr.size]; simp; rfl⟩
    | node k' v' l' r' =>
      have hz1 : (Tr.node k v l r).size = l.size + r.size + 1 := rfl
      have hz2 : (Tr.node k' v' l' r').size = l'.size + r'.size + 1 := rfl
      generalize ht : Tr.node k v l r = t at *
      generalize hu : Tr.node k' v' l' r' = u at *
      have w1 : IntKind.i64.wrap ((t.size : Int) - 1) = ((t.size - 1 : Nat) : Int) := by rw [wr (by omega)]; omega
      have ei : t.iv = .pt [Si k, Ii v, l.iv, r.iv, Ii ((l.size + r.size + 1 : Nat) : Int), Ii ((max l.ht r.ht + 1 : Nat) : Int)] := by rw [← ht]; rfl
      have eu : u.iv = .pt [Si k', Ii v', l'.iv, r'.iv, Ii ((l'.size + r'.size + 1 : Nat) : Int), Ii ((max l'.ht r'.ht + 1 : Nat) : Int)] := by rw [← hu]; rfl
      repeat (first | refine xPP rfl ?_ | refine xPE rfl ?_ | refine xEP rfl ?_ | refine xEE rfl ?_ | refine AQ.done ?_ | refine AQ.skip (by kernel_rfl) rfl ?_ | refine AQ.s2b (by kernel_rfl) rfl rfl rfl rfl ?_ | refine AQ.mark (by kernel_rfl) rfl rfl rfl rfl rfl rfl rfl ?_ | refine AP.cond_true rfl rfl ?_ | refine AP.cond_false rfl rfl ?_ | (refine AP.region rfl (by kernel_rfl) ?_; simp only [go_sem, Nat.reduceAdd, Nat.reduceLeDiff, reduceCtorEq, Tv, ei, eu]) | (refine AP.drawQ rfl rfl (by kernel_rfl) ?_; simp only [go_sem, Nat.reduceAdd, Nat.reduceLeDiff, reduceCtorEq, Tv, ei, eu]) | (refine vq_id ?_; simp only [go_sem, Nat.reduceAdd, Nat.reduceLeDiff, reduceCtorEq, Tv, ei, eu]) | (refine ⟨by first | omega | (intros; simp_all; done) | (intros; simp_all; omega), ?_⟩; try simp only [go_sem, Nat.reduceAdd, Nat.reduceLeDiff, reduceCtorEq, Tv, ei, eu]))
      refine AP.draw 12 [(2, Iv t.size), (4, .tup [Sv (t.at (t.size - 1)).1, Iv (t.at (t.size - 1)).2, Bv true])] (by kernel_rfl) rfl (by kernel_rfl) (by kernel_rfl) ?_
      simp only [go_sem, Nat.reduceAdd, Nat.reduceLeDiff, reduceCtorEq, w1]
      refine ⟨by have := Size_spec t; simpa only [Tv, ei] using this, by have := At_in t (t.size - 1) (by omega) (by omega); simpa only [Tv, ei] using this, ?_⟩
      repeat (first | refine xPP rfl ?_ | refine xPE rfl ?_ | refine xEP rfl ?_ | refine xEE rfl ?_ | refine AQ.done ?_ | refine AQ.skip (by kernel_rfl) rfl ?_ | refine AQ.s2b (by kernel_rfl) rfl rfl rfl rfl ?_ | refine AQ.mark (by kernel_rfl) rfl rfl rfl rfl rfl rfl rfl ?_ | refine AP.cond_true rfl rfl ?_ | refine AP.cond_false rfl rfl ?_ | (refine AP.region rfl (by kernel_rfl) ?_; simp only [go_sem, Nat.reduceAdd, Nat.reduceLeDiff, reduceCtorEq]) | (refine AP.drawQ rfl rfl (by kernel_rfl) ?_; simp only [go_sem, Nat.reduceAdd, Nat.reduceLeDiff, reduceCtorEq]) | (refine vq_id ?_; simp only [go_sem, Nat.reduceAdd, Nat.reduceLeDiff, reduceCtorEq]) | (refine ⟨by first | omega | (intros; simp_all; done) | (intros; simp_all; omega), ?_⟩; try simp only [go_sem, Nat.reduceAdd, Nat.reduceLeDiff, reduceCtorEq]))
      refine AQ.fn (by kernel_rfl) rfl rfl rfl (by have := At_in u 0 (by omega) (by omega); rw [Tv, eu] at this; exact this) rfl ?_
      repeat (first | refine xPP rfl ?_ | refine xPE rfl ?_ | refine xEP rfl ?_ | refine xEE rfl ?_ | refine AQ.done ?_ | refine AQ.skip (by kernel_rfl) rfl ?_ | refine AQ.s2b (by kernel_rfl) rfl rfl rfl rfl ?_ | refine AQ.mark (by kernel_rfl) rfl rfl rfl rfl rfl rfl rfl ?_ | refine AP.cond_true rfl rfl ?_ | refine AP.cond_false rfl rfl ?_ | (refine AP.region rfl (by kernel_rfl) ?_; simp only [go_sem, Nat.reduceAdd, Nat.reduceLeDiff, reduceCtorEq]) | (refine AP.drawQ rfl rfl (by kernel_rfl) ?_; simp only [go_sem, Nat.reduceAdd, Nat.reduceLeDiff, reduceCtorEq]) | (refine vq_id ?_; simp only [go_sem, Nat.reduceAdd, Nat.reduceLeDiff, reduceCtorEq]) | (refine ⟨by first | omega | (intros; simp_all; done) | (intros; simp_all; omega), ?_⟩; try simp only [go_sem, Nat.reduceAdd, Nat.reduceLeDiff, reduceCtorEq]))
      refine AQ.fn (by kernel_rfl) rfl rfl rfl (compare_spec (t.at (t.size - 1)).1 (u.at 0).1) rfl ?_
      repeat (first | refine xPP rfl ?_ | refine xPE rfl ?_ | refine xEP rfl ?_ | refine xEE rfl ?_ | refine AQ.done ?_ | refine AQ.skip (by kernel_rfl) rfl ?_ | refine AQ.s2b (by kernel_rfl) rfl rfl rfl rfl ?_ | refine AQ.mark (by kernel_rfl) rfl rfl rfl rfl rfl rfl rfl ?_ | refine AP.cond_true rfl rfl ?_ | refine AP.cond_false rfl rfl ?_ | (refine AP.region rfl (by kernel_rfl) ?_; simp only [go_sem, Nat.reduceAdd, Nat.reduceLeDiff, reduceCtorEq]) | (refine AP.drawQ rfl rfl (by kernel_rfl) ?_; simp only [go_sem, Nat.reduceAdd, Nat.reduceLeDiff, reduceCtorEq]) | (refine vq_id ?_; simp only [go_sem, Nat.reduceAdd, Nat.reduceLeDiff, reduceCtorEq]) | (refine ⟨by first | omega | (intros; simp_all; done) | (intros; simp_all; omega), ?_⟩; try simp only [go_sem, Nat.reduceAdd, Nat.reduceLeDiff, reduceCtorEq]))
      refine AP.cond rfl rfl (fun hc => ?_) (fun hc => ?_)
      · repeat (first | refine xPP rfl ?_ | refine xPE rfl ?_ | refine xEP rfl ?_ | refine xEE rfl ?_ | refine AQ.done ?_ | refine AQ.skip (by kernel_rfl) rfl ?_ | refine AQ.s2b (by kernel_rfl) rfl rfl rfl rfl ?_ | refine AQ.mark (by kernel_rfl) rfl rfl rfl rfl rfl rfl rfl ?_ | refine AP.cond_true rfl rfl ?_ | refine AP.cond_false rfl rfl ?_ | (refine AP.region rfl (by kernel_rfl) ?_; simp only [go_sem, Nat.reduceAdd, Nat.reduceLeDiff, reduceCtorEq]) | (refine AP.drawQ rfl rfl (by kernel_rfl) ?_; simp only [go_sem, Nat.reduceAdd, Nat.reduceLeDiff, reduceCtorEq]) | (refine vq_id ?_; simp only [go_sem, Nat.reduceAdd, Nat.reduceLeDiff, reduceCtorEq]) | (refine ⟨by first | omega | (intros; simp_all; done) | (intros; simp_all; omega), ?_⟩; try simp only [go_sem, Nat.reduceAdd, Nat.reduceLeDiff, reduceCtorEq]))
        refine AE.ret0 rfl ⟨⟨rfl, Nat.le_of_ble_eq_true (by kernel_rfl)⟩, rfl, trivial⟩ rfl ⟨rfl, ?_⟩
        have e : t.apart u = false := by
          simp at hc
          unfold Tr.apart
          rw [show (t.size == 0) = false by simp; omega, show (u.size == 0) = false by simp; omega]
          simp; omega
        rw [joinOf, e]; rfl
      · repeat (first | refine xPP rfl ?_ | refine xPE rfl ?_ | refine xEP rfl ?_ | refine xEE rfl ?_ | refine AQ.done ?_ | refine AQ.skip (by kernel_rfl) rfl ?_ | refine AQ.s2b (by kernel_rfl) rfl rfl rfl rfl ?_ | refine AQ.mark (by kernel_rfl) rfl rfl rfl rfl rfl rfl rfl ?_ | refine AP.cond_true rfl rfl ?_ | refine AP.cond_false rfl rfl ?_ | (refine AP.region rfl (by kernel_rfl) ?_; simp only [go_sem, Nat.reduceAdd, Nat.reduceLeDiff, reduceCtorEq]) | (refine AP.drawQ rfl rfl (by kernel_rfl) ?_; simp only [go_sem, Nat.reduceAdd, Nat.reduceLeDiff, reduceCtorEq]) | (refine vq_id ?_; simp only [go_sem, Nat.reduceAdd, Nat.reduceLeDiff, reduceCtorEq]) | (refine ⟨by first | omega | (intros; simp_all; done) | (intros; simp_all; omega), ?_⟩; try simp only [go_sem, Nat.reduceAdd, Nat.reduceLeDiff, reduceCtorEq]))
        refine AQ.fn (by kernel_rfl) rfl rfl rfl (by have := concat_spec t u (by omega); rw [Tv, Tv, ei, eu] at this; exact this) rfl ?_
        repeat (first | refine xPP rfl ?_ | refine xPE rfl ?_ | refine xEP rfl ?_ | refine xEE rfl ?_ | refine AQ.done ?_ | refine AQ.skip (by kernel_rfl) rfl ?_ | refine AQ.s2b (by kernel_rfl) rfl rfl rfl rfl ?_ | refine AQ.mark (by kernel_rfl) rfl rfl rfl rfl rfl rfl rfl ?_ | refine AP.cond_true rfl rfl ?_ | refine AP.cond_false rfl rfl ?_ | (refine AP.region rfl (by kernel_rfl) ?_; simp only [go_sem, Nat.reduceAdd, Nat.reduceLeDiff, reduceCtorEq]) | (refine AP.drawQ rfl rfl (by kernel_rfl) ?_; simp only [go_sem, Nat.reduceAdd, Nat.reduceLeDiff, reduceCtorEq]) | (refine vq_id ?_; simp only [go_sem, Nat.reduceAdd, Nat.reduceLeDiff, reduceCtorEq]) | (refine ⟨by first | omega | (intros; simp_all; done) | (intros; simp_all; omega), ?_⟩; try simp only [go_sem, Nat.reduceAdd, Nat.reduceLeDiff, reduceCtorEq]))
        refine AE.ret0 rfl ⟨⟨rfl, Nat.le_of_ble_eq_true (by kernel_rfl)⟩, rfl, trivial⟩ rfl ⟨rfl, ?_⟩
        have e : t.apart u = true := by
          simp at hc
          unfold Tr.apart
          rw [show (t.size == 0) = false by simp; omega, show (u.size == 0) = false by simp; omega]
          simp; omega
        rw [joinOf, e]; rfl
end Go.Proofs.Ytfgffpkdjmeaoaa
end

section
namespace Go.Proofs.Ytfgffpkdjmeaoaa
open Go Go.AL Go.RowKit
set_option maxRecDepth 10000
set_option maxHeartbeats 2000000
def intR (l : List Int) : List (List IV) := l.map fun x => [Ii x]
theorem intR_len (l : List Int) : (intR l).length = l.length := by simp [intR]
theorem intR_take (l : List Int) (n : Nat) : (intR l).take n = intR (l.take n) := by simp [intR]
attribute [go_sem] intR_len
theorem fork_ref (l : List Int) (k : Nat) (hk : k + 1 ≤ l.length) (hl : l.length ≤ 1000000) : PFn Try.prog 23 [.ar [.sl 1 (intR l), Ii k]] (.agg [.im (.sl 1 (intR (l.take (k + 1)))), Iv k]) := by
  have hw := wr (x := (k : Int) + 1) (by omega)
  refine ACall.walk [0, 1, 2] [2] Try.func23 rfl Try.ntmps23 (by kernel_rfl) (by rfl) rfl fun W own I0 φ0 => ?_
  repeat (first | refine xPP rfl ?_ | refine xPE rfl ?_ | refine xEP rfl ?_ | refine xEE rfl ?_ | refine AQ.done ?_ | refine AQ.skip (by kernel_rfl) rfl ?_ | refine AQ.s2b (by kernel_rfl) rfl rfl rfl rfl ?_ | refine AQ.mark (by kernel_rfl) rfl rfl rfl rfl rfl rfl rfl ?_ | refine AP.cond_true rfl rfl ?_ | refine AP.cond_false rfl rfl ?_ | (refine AP.region rfl (by kernel_rfl) ?_; simp only [go_sem, Nat.reduceAdd, Nat.reduceLeDiff, reduceCtorEq]) | (refine AP.drawQ rfl rfl (by kernel_rfl) ?_; simp only [go_sem, Nat.reduceAdd, Nat.reduceLeDiff, reduceCtorEq]) | (refine vq_id ?_; simp only [go_sem, Nat.reduceAdd, Nat.reduceLeDiff, reduceCtorEq]) | (refine ⟨by first | omega | (intros; simp_all; done) | (intros; simp_all; omega), ?_⟩; try simp only [go_sem, Nat.reduceAdd, Nat.reduceLeDiff, reduceCtorEq]))
  refine AP.drawE 12 (Tree.node [] [1, 2, 3, 4, 5, 6, 8, 9] [0] [Tree.node [1, 2, 3, 4, 5, 6, 8, 9] [] [7] [Tree.node [8, 9] [10] [11] [Tree.node [] [] [] []]]]) (by kernel_rfl) rfl (by kernel_rfl) (by kernel_rfl) ?_
  refine vd_node ?_
  simp only [go_sem, Nat.reduceAdd, Nat.reduceLeDiff, reduceCtorEq, hw]
  refine ⟨by omega, ?_⟩
  refine AQ.go (by kernel_rfl) ?_
  simp only [go_sem, Nat.reduceAdd, Nat.reduceLeDiff, reduceCtorEq, hw]
  refine AQ.nx rfl ?_
  simp only [go_sem, Nat.reduceAdd, Nat.reduceLeDiff, reduceCtorEq, hw]
  refine ⟨by omega, ?_⟩
  refine AQ.append (hnb := rfl) (rows := []) (xs := intR (l.take (k + 1))) (es := 0) (by kernel_rfl) rfl (by rw [← intR_take]; rfl) rfl (by rfl) Try.tk22 Try.sz3 (by show Option.map _ (zro Try.prog 3) = _; rw [Try.zr3]; rfl) Try.by3 rfl (by rw [intR_len, List.length_take]; simp only [List.length_nil]; omega) (by rw [intR_len, List.length_take]; simp only [List.length_nil]; omega) ?_
  simp only [go_sem, Nat.reduceAdd, Nat.reduceLeDiff, reduceCtorEq, hw]
  refine AQ.nx rfl ?_
  simp only [go_sem, Nat.reduceAdd, Nat.reduceLeDiff, reduceCtorEq, hw]
  refine AQ.go (by kernel_rfl) ?_
  simp only [go_sem, Nat.reduceAdd, Nat.reduceLeDiff, reduceCtorEq, hw]
  refine AQ.nx rfl ?_
  simp only [go_sem, Nat.reduceAdd, Nat.reduceLeDiff, reduceCtorEq, hw]
  repeat (first | refine xPP rfl ?_ | refine xPE rfl ?_ | refine xEP rfl ?_ | refine xEE rfl ?_ | refine AQ.done ?_ | refine AQ.skip (by kernel_rfl) rfl ?_ | refine AQ.s2b (by kernel_rfl) rfl rfl rfl rfl ?_ | refine AQ.mark (by kernel_rfl) rfl rfl rfl rfl rfl rfl rfl ?_ | refine AP.cond_true rfl rfl ?_ | refine AP.cond_false rfl rfl ?_ | (refine AP.region rfl (by kernel_rfl) ?_; simp only [go_sem, Nat.reduceAdd, Nat.reduceLeDiff, reduceCtorEq]) | (refine AP.drawQ rfl rfl (by kernel_rfl) ?_; simp only [go_sem, Nat.reduceAdd, Nat.reduceLeDiff, reduceCtorEq]) | (refine vq_id ?_; simp only [go_sem, Nat.reduceAdd, Nat.reduceLeDiff, reduceCtorEq]) | (refine ⟨by first | omega | (intros; simp_all; done) | (intros; simp_all; omega), ?_⟩; try simp only [go_sem, Nat.reduceAdd, Nat.reduceLeDiff, reduceCtorEq]))
  simp only [go_sem, Nat.reduceAdd, Nat.reduceLeDiff, reduceCtorEq]
  refine AE.freeze 1 (el := 3) (es := 1) (rows := intR (l.take (k + 1))) rfl (by simp only [go_sem, Nat.reduceAdd, Nat.reduceLeDiff, reduceCtorEq]; try (simp; done)) (by simp only [go_sem, Nat.reduceAdd, Nat.reduceLeDiff, reduceCtorEq]; try (simp; done)) ?_
  simp only [go_sem, Nat.reduceAdd, Nat.reduceLeDiff, reduceCtorEq]
  refine AE.ret0 rfl ⟨⟨rfl, Nat.le_of_ble_eq_true (by kernel_rfl)⟩, trivial⟩ rfl ⟨rfl, ?_⟩
  show AV.agg [.im (.sl 1 ((intR (l.take (k + 1))).take (l.take (k + 1)).length)), Iv k] = _
  rw [← intR_len (l.take (k + 1)), List.take_length]
end Go.Proofs.Ytfgffpkdjmeaoaa
end

section
namespace Go.Proofs.Ytfgffpkdjmeaoaa
open Go Go.AL Go.RowKit
set_option maxRecDepth 10000
set_option maxHeartbeats 4000000
def setsH (a b c : List Int) (lg : List (List IV)) : Heap := [(4, .vec 121 4 lg), (3, .vec 3 1 (intR c)), (2, .vec 3 1 (intR b)), (1, .vec 3 1 (intR a)), (0, .var 117 [.os 1 1 0 a.length, .os 2 1 0 b.length, .os 3 1 0 c.length, .os 4 4 0 lg.length])]
def ids (n : Nat) : List Int := (List.range n).map Int.ofNat
theorem ids_len (n : Nat) : (ids n).length = n := by simp [ids]
theorem ids_succ (n : Nat) : intR (ids (n + 1)) = intR (ids n) ++ [[Ii n]] := by simp [ids, intR, List.range_succ]
theorem ones_succ (n : Nat) : intR (List.replicate (n + 1) 1) = intR (List.replicate n 1) ++ [[Ii 1]] := by simp [intR, List.replicate_succ']
theorem newSets_bad (n : Int) (hn : n < 0 ∨ 10000 < n) : PFn Try.prog 25 [Iv n] (.tup [.im (.v (.pointer none)), Iv 3]) := by
  refine ACall.walk [0, 2, 3, 4, 5, 11, 14, 15, 16] [13] Try.func25 rfl Try.ntmps25 (by kernel_rfl) (by rfl) rfl fun W own I0 φ0 => ?_
  repeat (first | refine xPP rfl ?_ | refine xPE rfl ?_ | refine xEP rfl ?_ | refine xEE rfl ?_ | refine AQ.done ?_ | refine AQ.skip (by kernel_rfl) rfl ?_ | refine AQ.s2b (by kernel_rfl) rfl rfl rfl rfl ?_ | refine AQ.mark (by kernel_rfl) rfl rfl rfl rfl rfl rfl rfl ?_ | refine AP.cond_true rfl rfl ?_ | refine AP.cond_false rfl rfl ?_ | (refine AP.region rfl (by kernel_rfl) ?_; simp only [go_sem, Nat.reduceAdd, Nat.reduceLeDiff, reduceCtorEq]) | (refine AP.drawQ rfl rfl (by kernel_rfl) ?_; simp only [go_sem, Nat.reduceAdd, Nat.reduceLeDiff, reduceCtorEq]) | (refine vq_id ?_; simp only [go_sem, Nat.reduceAdd, Nat.reduceLeDiff, reduceCtorEq]) | (refine ⟨by first | omega | (intros; simp_all; done) | (intros; simp_all; omega), ?_⟩; try simp only [go_sem, Nat.reduceAdd, Nat.reduceLeDiff, reduceCtorEq]))
  refine AP.cond_true rfl (by show _ = some (Bv true); rw [show (true : Bool) = (decide (n < 0) || decide (10000 < n)) by simp; omega]; rfl) ?_
  repeat (first | refine xPP rfl ?_ | refine xPE rfl ?_ | refine xEP rfl ?_ | refine xEE rfl ?_ | refine AQ.done ?_ | refine AQ.skip (by kernel_rfl) rfl ?_ | refine AQ.s2b (by kernel_rfl) rfl rfl rfl rfl ?_ | refine AQ.mark (by kernel_rfl) rfl rfl rfl rfl rfl rfl rfl ?_ | refine AP.cond_true rfl rfl ?_ | refine AP.cond_false rfl rfl ?_ | (refine AP.region rfl (by kernel_rfl) ?_; simp only [go_sem, Nat.reduceAdd, Nat.reduceLeDiff, reduceCtorEq]) | (refine AP.drawQ rfl rfl (by kernel_rfl) ?_; simp only [go_sem, Nat.reduceAdd, Nat.reduceLeDiff, reduceCtorEq]) | (refine vq_id ?_; simp only [go_sem, Nat.reduceAdd, Nat.reduceLeDiff, reduceCtorEq]) | (refine ⟨by first | omega | (intros; simp_all; done) | (intros; simp_all; omega), ?_⟩; try simp only [go_sem, Nat.reduceAdd, Nat.reduceLeDiff, reduceCtorEq]))
  exact AE.ret rfl ⟨rfl, rfl, trivial⟩ ⟨rfl, rfl⟩
theorem newSets_spec (n : Nat) (hn : n ≤ 10000) : ACall Try.prog 25 [Iv n] [] (fun r H' => H' = setsH (ids n) (List.replicate n 1) (ids n) [] ∧ r = .tup [.ob 0 0, Iv 0]) := by
  refine ACall.walk [0, 2, 3, 4, 5, 11, 14, 15, 16] [13] Try.func25 rfl Try.ntmps25 (by kernel_rfl) (by rfl) rfl fun W own I0 φ0 => ?_
  repeat (first | refine xPP rfl ?_ | refine xPE rfl ?_ | refine xEP rfl ?_ | refine xEE rfl ?_ | refine AQ.done ?_ | refine AQ.skip (by kernel_rfl) rfl ?_ | refine AQ.s2b (by kernel_rfl) rfl rfl rfl rfl ?_ | refine AQ.mark (by kernel_rfl) rfl rfl rfl rfl rfl rfl rfl ?_ | refine AP.cond_true rfl rfl ?_ | refine AP.cond_false rfl rfl ?_ | (refine AP.region rfl (by kernel_rfl) ?_; simp only [go_sem, Nat.reduceAdd, Nat.reduceLeDiff, reduceCtorEq]) | (refine AP.drawQ rfl rfl (by kernel_rfl) ?_; simp only [go_sem, Nat.reduceAdd, Nat.reduceLeDiff, reduceCtorEq]) | (refine vq_id ?_; simp only [go_sem, Nat.reduceAdd, Nat.reduceLeDiff, reduceCtorEq]) | (refine ⟨by first | omega | (intros; simp_all; done) | (intros; simp_all; omega), ?_⟩; try simp only [go_sem, Nat.reduceAdd, Nat.reduceLeDiff, reduceCtorEq]))
  refine AP.cond_false rfl (by show _ = some (Bv false); rw [show (false : Bool) = (decide ((n : Int) < 0) || decide (10000 < (n : Int))) by simp; omega]; rfl) ?_
  repeat (first | refine xPP rfl ?_ | refine xPE rfl ?_ | refine xEP rfl ?_ | refine xEE rfl ?_ | refine AQ.done ?_ | refine AQ.skip (by kernel_rfl) rfl ?_ | refine AQ.s2b (by kernel_rfl) rfl rfl rfl rfl ?_ | refine AQ.mark (by kernel_rfl) rfl rfl rfl rfl rfl rfl rfl ?_ | refine AP.cond_true rfl rfl ?_ | refine AP.cond_false rfl rfl ?_ | (refine AP.region rfl (by kernel_rfl) ?_; simp only [go_sem, Nat.reduceAdd, Nat.reduceLeDiff, reduceCtorEq]) | (refine AP.drawQ rfl rfl (by kernel_rfl) ?_; simp only [go_sem, Nat.reduceAdd, Nat.reduceLeDiff, reduceCtorEq]) | (refine vq_id ?_; simp only [go_sem, Nat.reduceAdd, Nat.reduceLeDiff, reduceCtorEq]) | (refine ⟨by first | omega | (intros; simp_all; done) | (intros; simp_all; omega), ?_⟩; try simp only [go_sem, Nat.reduceAdd, Nat.reduceLeDiff, reduceCtorEq]))
  refine AP.ownCell 0 0 3 1 rfl rfl ?_
  refine AP.ownCell 0 1 3 1 rfl rfl ?_
  refine AP.ownCell 0 2 3 1 rfl rfl ?_
  refine AP.ownCell 0 3 121 4 rfl rfl ?_
  refine AP.loop rfl (α := Nat) (fun k => [(4, .ob 0 0), (14, Iv n), (15, Iv k)]) (fun k => setsH (ids k) (List.replicate k 1) (ids k) []) (fun k => k ≤ n) (fun k => n - k) 0 (by omega) (by repeat (first | exact Sub.nil _ | refine Sub.cons rfl ?_)) (by rfl) fun k hk => ?_
  have hw := wr (x := (k : Int) + 1) (by omega)
  simp only [go_sem, Nat.reduceAdd, Nat.reduceLeDiff, reduceCtorEq, setsH, ids_len, List.length_replicate]
  repeat (first | refine xPP rfl ?_ | refine xPE rfl ?_ | refine xEP rfl ?_ | refine xEE rfl ?_ | refine AQ.done ?_ | refine AQ.skip (by kernel_rfl) rfl ?_ | refine AQ.s2b (by kernel_rfl) rfl rfl rfl rfl ?_ | refine AQ.mark (by kernel_rfl) rfl rfl rfl rfl rfl rfl rfl ?_ | refine AP.cond_true rfl rfl ?_ | refine AP.cond_false rfl rfl ?_ | (refine AP.region rfl (by kernel_rfl) ?_; simp only [go_sem, Nat.reduceAdd, Nat.reduceLeDiff, reduceCtorEq, hw]) | (refine AP.drawQ rfl rfl (by kernel_rfl) ?_; simp only [go_sem, Nat.reduceAdd, Nat.reduceLeDiff, reduceCtorEq, hw]) | (refine vq_id ?_; simp only [go_sem, Nat.reduceAdd, Nat.reduceLeDiff, reduceCtorEq, hw]) | (refine ⟨by first | omega | (intros; simp_all; done) | (intros; simp_all; omega), ?_⟩; try simp only [go_sem, Nat.reduceAdd, Nat.reduceLeDiff, reduceCtorEq, hw]))
  refine AP.cond rfl rfl (fun hc => ?_) (fun hc => ?_)
  · have hk' : k < n := by simp at hc; omega
    repeat (first | refine xPP rfl ?_ | refine xPE rfl ?_ | refine xEP rfl ?_ | refine xEE rfl ?_ | refine AQ.done ?_ | refine AQ.skip (by kernel_rfl) rfl ?_ | refine AQ.s2b (by kernel_rfl) rfl rfl rfl rfl ?_ | refine AQ.mark (by kernel_rfl) rfl rfl rfl rfl rfl rfl rfl ?_ | refine AP.cond_true rfl rfl ?_ | refine AP.cond_false rfl rfl ?_ | (refine AP.region rfl (by kernel_rfl) ?_; simp only [go_sem, Nat.reduceAdd, Nat.reduceLeDiff, reduceCtorEq, hw]) | (refine AP.drawQ rfl rfl (by kernel_rfl) ?_; simp only [go_sem, Nat.reduceAdd, Nat.reduceLeDiff, reduceCtorEq, hw]) | (refine vq_id ?_; simp only [go_sem, Nat.reduceAdd, Nat.reduceLeDiff, reduceCtorEq, hw]) | (refine ⟨by first | omega | (intros; simp_all; done) | (intros; simp_all; omega), ?_⟩; try simp only [go_sem, Nat.reduceAdd, Nat.reduceLeDiff, reduceCtorEq, hw]))
    refine AP.drawE 32 (Tree.node [] [0, 1, 2, 3, 4, 5, 6, 7, 10, 11, 12, 13, 16, 17, 18, 19, 20] [8, 14, 21] [Tree.node [0, 1, 2, 3, 4, 5, 6, 10, 11, 12, 13, 16, 17, 18, 19, 20] [] [9, 14, 21] [Tree.node [0, 1, 2, 10, 11, 12, 13, 16, 17, 18, 19, 20] [] [14, 21] [Tree.node [0, 1, 2, 10, 11, 12, 13, 16, 17, 18, 19, 20] [] [15, 21] [Tree.node [0, 1, 2, 16, 17, 18, 19, 20] [] [21] [Tree.node [0, 1, 2, 16, 17, 18, 19] [] [22] [Tree.node [0, 1, 2] [23, 24] [25] [Tree.node [1, 2] [26, 27] [28] [Tree.node [2] [29, 30] [31] [Tree.node [] [] [] []]]]]], Tree.node [0, 1, 2, 10, 11, 12, 13, 16, 17, 18, 19] [] [15] [Tree.node [0, 1, 2, 16, 17, 18, 19] [] [22] [Tree.node [0, 1, 2] [23, 24] [25] [Tree.node [1, 2] [26, 27] [28] [Tree.node [2] [29, 30] [31] [Tree.node [] [] [] []]]]]]], Tree.node [0, 1, 2, 10, 11, 12, 13, 16, 17, 18, 19] [] [14] [Tree.node [0, 1, 2, 10, 11, 12, 13, 16, 17, 18, 19] [] [15] [Tree.node [0, 1, 2, 16, 17, 18, 19] [] [22] [Tree.node [0, 1, 2] [23, 24] [25] [Tree.node [1, 2] [26, 27] [28] [Tree.node [2] [29, 30] [31] [Tree.node [] [] [] []]]]]]]], Tree.node [0, 1, 2, 3, 4, 5, 6, 10, 11, 12, 13, 16, 17, 18, 19, 20] [] [9, 21] [Tree.node [0, 1, 2, 10, 11, 12, 13, 16, 17, 18, 19, 20] [] [15, 21] [Tree.node [0, 1, 2, 16, 17, 18, 19, 20] [] [21] [Tree.node [0, 1, 2, 16, 17, 18, 19] [] [22] [Tree.node [0, 1, 2] [23, 24] [25] [Tree.node [1, 2] [26, 27] [28] [Tree.node [2] [29, 30] [31] [Tree.node [] [] [] []]]]]], Tree.node [0, 1, 2, 10, 11, 12, 13, 16, 17, 18, 19] [] [15] [Tree.node [0, 1, 2, 16, 17, 18, 19] [] [22] [Tree.node [0, 1, 2] [23, 24] [25] [Tree.node [1, 2] [26, 27] [28] [Tree.node [2] [29, 30] [31] [Tree.node [] [] [] []]]]]]], Tree.node [0, 1, 2, 3, 4, 5, 6, 10, 11, 12, 13, 16, 17, 18, 19] [] [9] [Tree.node [0, 1, 2, 10, 11, 12, 13, 16, 17, 18, 19] [] [15] [Tree.node [0, 1, 2, 16, 17, 18, 19] [] [22] [Tree.node [0, 1, 2] [23, 24] [25] [Tree.node [1, 2] [26, 27] [28] [Tree.node [2] [29, 30] [31] [Tree.node [] [] [] []]]]]]]], Tree.node [0, 1, 2, 3, 4, 5, 6, 10, 11, 12, 13, 16, 17, 18, 19] [] [9, 14] [Tree.node [0, 1, 2, 10, 11, 12, 13, 16, 17, 18, 19] [] [14] [Tree.node [0, 1, 2, 10, 11, 12, 13, 16, 17, 18, 19] [] [15] [Tree.node [0, 1, 2, 16, 17, 18, 19] [] [22] [Tree.node [0, 1, 2] [23, 24] [25] [Tree.node [1, 2] [26, 27] [28] [Tree.node [2] [29, 30] [31] [Tree.node [] [] [] []]]]]]], Tree.node [0, 1, 2, 3, 4, 5, 6, 10, 11, 12, 13, 16, 17, 18, 19] [] [9] [Tree.node [0, 1, 2, 10, 11, 12, 13, 16, 17, 18, 19] [] [15] [Tree.node [0, 1, 2, 16, 17, 18, 19] [] [22] [Tree.node [0, 1, 2] [23, 24] [25] [Tree.node [1, 2] [26, 27] [28] [Tree.node [2] [29, 30] [31] [Tree.node [] [] [] []]]]]]]]], Tree.node [0, 1, 2, 3, 4, 5, 6, 7, 10, 11, 12, 13, 16, 17, 18, 19, 20] [] [8, 21] [Tree.node [0, 1, 2, 3, 4, 5, 6, 10, 11, 12, 13, 16, 17, 18, 19, 20] [] [9, 21] [Tree.node [0, 1, 2, 10, 11, 12, 13, 16, 17, 18, 19, 20] [] [15, 21] [Tree.node [0, 1, 2, 16, 17, 18, 19, 20] [] [21] [Tree.node [0, 1, 2, 16, 17, 18, 19] [] [22] [Tree.node [0, 1, 2] [23, 24] [25] [Tree.node [1, 2] [26, 27] [28] [Tree.node [2] [29, 30] [31] [Tree.node [] [] [] []]]]]], Tree.node [0, 1, 2, 10, 11, 12, 13, 16, 17, 18, 19] [] [15] [Tree.node [0, 1, 2, 16, 17, 18, 19] [] [22] [Tree.node [0, 1, 2] [23, 24] [25] [Tree.node [1, 2] [26, 27] [28] [Tree.node [2] [29, 30] [31] [Tree.node [] [] [] []]]]]]], Tree.node [0, 1, 2, 3, 4, 5, 6, 10, 11, 12, 13, 16, 17, 18, 19] [] [9] [Tree.node [0, 1, 2, 10, 11, 12, 13, 16, 17, 18, 19] [] [15] [Tree.node [0, 1, 2, 16, 17, 18, 19] [] [22] [Tree.node [0, 1, 2] [23, 24] [25] [Tree.node [1, 2] [26, 27] [28] [Tree.node [2] [29, 30] [31] [Tree.node [] [] [] []]]]]]]], Tree.node [0, 1, 2, 3, 4, 5, 6, 7, 10, 11, 12, 13, 16, 17, 18, 19] [] [8] [Tree.node [0, 1, 2, 3, 4, 5, 6, 10, 11, 12, 13, 16, 17, 18, 19] [] [9] [Tree.node [0, 1, 2, 10, 11, 12, 13, 16, 17, 18, 19] [] [15] [Tree.node [0, 1, 2, 16, 17, 18, 19] [] [22] [Tree.node [0, 1, 2] [23, 24] [25] [Tree.node [1, 2] [26, 27] [28] [Tree.node [2] [29, 30] [31] [Tree.node [] [] [] []]]]]]]]], Tree.node [0, 1, 2, 3, 4, 5, 6, 7, 10, 11, 12, 13, 16, 17, 18, 19] [] [8, 14] [Tree.node [0, 1, 2, 3, 4, 5, 6, 10, 11, 12, 13, 16, 17, 18, 19] [] [9, 14] [Tree.node [0, 1, 2, 10, 11, 12, 13, 16, 17, 18, 19] [] [14] [Tree.node [0, 1, 2, 10, 11, 12, 13, 16, 17, 18, 19] [] [15] [Tree.node [0, 1, 2, 16, 17, 18, 19] [] [22] [Tree.node [0, 1, 2] [23, 24] [25] [Tree.node [1, 2] [26, 27] [28] [Tree.node [2] [29, 30] [31] [Tree.node [] [] [] []]]]]]], Tree.node [0, 1, 2, 3, 4, 5, 6, 10, 11, 12, 13, 16, 17, 18, 19] [] [9] [Tree.node [0, 1, 2, 10, 11, 12, 13, 16, 17, 18, 19] [] [15] [Tree.node [0, 1, 2, 16, 17, 18, 19] [] [22] [Tree.node [0, 1, 2] [23, 24] [25] [Tree.node [1, 2] [26, 27] [28] [Tree.node [2] [29, 30] [31] [Tree.node [] [] [] []]]]]]]], Tree.node [0, 1, 2, 3, 4, 5, 6, 7, 10, 11, 12, 13, 16, 17, 18, 19] [] [8] [Tree.node [0, 1, 2, 3, 4, 5, 6, 10, 11, 12, 13, 16, 17, 18, 19] [] [9] [Tree.node [0, 1, 2, 10, 11, 12, 13, 16, 17, 18, 19] [] [15] [Tree.node [0, 1, 2, 16, 17, 18, 19] [] [22] [Tree.node [0, 1, 2] [23, 24] [25] [Tree.node [1, 2] [26, 27] [28] [Tree.node [2] [29, 30] [31] [Tree.node [] [] [] []]]]]]]]]]) (by kernel_rfl) rfl (by kernel_rfl) (by kernel_rfl) ?_
    refine vd_node ?_
    simp only [go_sem, Nat.reduceAdd, Nat.reduceLeDiff, reduceCtorEq, hw]
    repeat' (first
      | exact True.intro
      | (refine And.intro ?_ ?_)
      | (refine AQ.next (vd_node ?_); simp only [go_sem, Nat.reduceAdd, Nat.reduceLeDiff, reduceCtorEq, hw])
      | (refine AQ.kill 1 ?_; simp only [go_sem, Nat.reduceAdd, Nat.reduceLeDiff, reduceCtorEq]; refine AQ.append (hnb := rfl) (rows := intR (ids k)) (xs := [[Ii k]]) (es := 0) (by kernel_rfl) rfl rfl rfl (by rfl) Try.tk22 Try.sz3 (by show Option.map _ (zro Try.prog 3) = _; rw [Try.zr3]; rfl) Try.by3 (by rw [intR_len, ids_len]) (by rw [intR_len, ids_len]; simp only [List.length_cons, List.length_nil]; omega) (by rw [intR_len, ids_len]; simp only [List.length_cons, List.length_nil]; omega) ?_; simp only [go_sem, Nat.reduceAdd, Nat.reduceLeDiff, reduceCtorEq, ids_len])
      | (refine AQ.kill 2 ?_; simp only [go_sem, Nat.reduceAdd, Nat.reduceLeDiff, reduceCtorEq]; refine AQ.append (hnb := rfl) (rows := intR (List.replicate k 1)) (xs := [[Ii 1]]) (es := 0) (by kernel_rfl) rfl rfl rfl (by rfl) Try.tk22 Try.sz3 (by show Option.map _ (zro Try.prog 3) = _; rw [Try.zr3]; rfl) Try.by3 (by rw [intR_len, List.length_replicate]) (by rw [intR_len, List.length_replicate]; simp only [List.length_cons, List.length_nil]; omega) (by rw [intR_len, List.length_replicate]; simp only [List.length_cons, List.length_nil]; omega) ?_; simp only [go_sem, Nat.reduceAdd, Nat.reduceLeDiff, reduceCtorEq, List.length_replicate])
      | (refine AQ.kill 3 ?_; simp only [go_sem, Nat.reduceAdd, Nat.reduceLeDiff, reduceCtorEq]; refine AQ.append (hnb := rfl) (rows := intR (ids k)) (xs := [[Ii k]]) (es := 0) (by kernel_rfl) rfl rfl rfl (by rfl) Try.tk22 Try.sz3 (by show Option.map _ (zro Try.prog 3) = _; rw [Try.zr3]; rfl) Try.by3 (by rw [intR_len, ids_len]) (by rw [intR_len, ids_len]; simp only [List.length_cons, List.length_nil]; omega) (by rw [intR_len, ids_len]; simp only [List.length_cons, List.length_nil]; omega) ?_; simp only [go_sem, Nat.reduceAdd, Nat.reduceLeDiff, reduceCtorEq, ids_len])
      | (refine AQ.done ?_)
      | (refine AQ.go (by kernel_rfl) ?_; simp only [go_sem, Nat.reduceAdd, Nat.reduceLeDiff, reduceCtorEq, hw]))
    all_goals (repeat (first | refine xPP rfl ?_ | refine xPE rfl ?_ | refine xEP rfl ?_ | refine xEE rfl ?_ | refine AQ.done ?_ | refine AQ.skip (by kernel_rfl) rfl ?_ | refine AQ.s2b (by kernel_rfl) rfl rfl rfl rfl ?_ | refine AQ.mark (by kernel_rfl) rfl rfl rfl rfl rfl rfl rfl ?_ | refine AP.cond_true rfl rfl ?_ | refine AP.cond_false rfl rfl ?_ | (refine AP.region rfl (by kernel_rfl) ?_; simp only [go_sem, Nat.reduceAdd, Nat.reduceLeDiff, reduceCtorEq, hw]) | (refine AP.drawQ rfl rfl (by kernel_rfl) ?_; simp only [go_sem, Nat.reduceAdd, Nat.reduceLeDiff, reduceCtorEq, hw]) | (refine vq_id ?_; simp only [go_sem, Nat.reduceAdd, Nat.reduceLeDiff, reduceCtorEq, hw]) | (refine ⟨by first | omega | (intros; simp_all; done) | (intros; simp_all; omega), ?_⟩; try simp only [go_sem, Nat.reduceAdd, Nat.reduceLeDiff, reduceCtorEq, hw])))
    all_goals (exact AE.round (k + 1) (by omega) (by omega) (by repeat (first | exact Sub.nil _ | refine Sub.cons rfl ?_)) (by simp only [ids_succ, ones_succ]))
  · repeat (first | refine xPP rfl ?_ | refine xPE rfl ?_ | refine xEP rfl ?_ | refine xEE rfl ?_ | refine AQ.done ?_ | refine AQ.skip (by kernel_rfl) rfl ?_ | refine AQ.s2b (by kernel_rfl) rfl rfl rfl rfl ?_ | refine AQ.mark (by kernel_rfl) rfl rfl rfl rfl rfl rfl rfl ?_ | refine AP.cond_true rfl rfl ?_ | refine AP.cond_false rfl rfl ?_ | (refine AP.region rfl (by kernel_rfl) ?_; simp only [go_sem, Nat.reduceAdd, Nat.reduceLeDiff, reduceCtorEq, hw]) | (refine AP.drawQ rfl rfl (by kernel_rfl) ?_; simp only [go_sem, Nat.reduceAdd, Nat.reduceLeDiff, reduceCtorEq, hw]) | (refine vq_id ?_; simp only [go_sem, Nat.reduceAdd, Nat.reduceLeDiff, reduceCtorEq, hw]) | (refine ⟨by first | omega | (intros; simp_all; done) | (intros; simp_all; omega), ?_⟩; try simp only [go_sem, Nat.reduceAdd, Nat.reduceLeDiff, reduceCtorEq, hw]))
    have hk' : k = n := by simp at hc; omega
    subst hk'
    refine AE.ret rfl ⟨rfl, rfl, trivial⟩ ⟨?_, rfl⟩
    simp only [setsH, ids_len, List.length_replicate]
end Go.Proofs.Ytfgffpkdjmeaoaa
end

section
namespace Go.Proofs.Ytfgffpkdjmeaoaa
open Go Go.AL Go.RowKit
set_option maxRecDepth 10000
set_option maxHeartbeats 4000000
theorem intR_get (l : List Int) (k : Nat) (h : k < l.length) : (intR l).getD k [] = [Ii (l.getD k 0)] := by
  simp [intR, List.getD_eq_getElem?_getD, h]
theorem has_spec (a b c : List Int) (lg : List (List IV)) (x : Int) (hl : a.length ≤ 1000000000) : ACall Try.prog 60 [.ob 0 0, Iv x] (setsH a b c lg) (fun r H' => H' = setsH a b c lg ∧ r = Bv (decide (0 ≤ x) && decide (x < a.length))) := by
  refine ACall.walk [0, 1, 4] [] Try.func60 rfl Try.ntmps60 (by kernel_rfl) (by rfl) rfl fun W own I0 φ0 => ?_
  simp only [go_sem, Nat.reduceAdd, Nat.reduceLeDiff, reduceCtorEq, setsH]
  repeat (first | refine xPP rfl ?_ | refine xPE rfl ?_ | refine xEP rfl ?_ | refine xEE rfl ?_ | refine AQ.done ?_ | refine AQ.skip (by kernel_rfl) rfl ?_ | refine AQ.s2b (by kernel_rfl) rfl rfl rfl rfl ?_ | refine AQ.mark (by kernel_rfl) rfl rfl rfl rfl rfl rfl rfl ?_ | refine AP.cond_true rfl rfl ?_ | refine AP.cond_false rfl rfl ?_ | (refine AP.region rfl (by kernel_rfl) ?_; simp only [go_sem, Nat.reduceAdd, Nat.reduceLeDiff, reduceCtorEq]) | (refine AP.drawQ rfl rfl (by kernel_rfl) ?_; simp only [go_sem, Nat.reduceAdd, Nat.reduceLeDiff, reduceCtorEq]) | (refine vq_id ?_; simp only [go_sem, Nat.reduceAdd, Nat.reduceLeDiff, reduceCtorEq]) | (refine ⟨by first | omega | (intros; simp_all; done) | (intros; simp_all; omega), ?_⟩; try simp only [go_sem, Nat.reduceAdd, Nat.reduceLeDiff, reduceCtorEq]))
  refine AE.ret rfl ⟨rfl, trivial⟩ ⟨rfl, rfl⟩
/-- from x it is n steps up to the root r -/
inductive Root (a : List Int) : Nat → Nat → Nat → Prop
  | here {x : Nat} : x < a.length → a.getD x 0 = x → Root a 0 x x
  | up {n x y r : Nat} : x < a.length → a.getD x 0 = y → y ≠ x → Root a n y r → Root a (n + 1) x r
theorem Root.lt {a : List Int} {n x r : Nat} (h : Root a n x r) : x < a.length := by cases h <;> assumption
theorem Root.end' {a : List Int} {n x r : Nat} (h : Root a n x r) : r < a.length ∧ a.getD r 0 = r := by
  induction h with
  | here h1 h2 => exact ⟨h1, h2⟩
  | up _ _ _ _ ih => exact ih
theorem root_spec (a b c : List Int) (lg : List (List IV)) (n x r : Nat) (hr : Root a n x r) (hl : a.length ≤ 1000000000) : ACall Try.prog 61 [.ob 0 0, Iv x] (setsH a b c lg) (fun r' H' => H' = setsH a b c lg ∧ r' = Iv r) := by
  refine ACall.walk [0, 1, 4, 13] [] Try.func61 rfl Try.ntmps61 (by kernel_rfl) (by rfl) rfl fun W own I0 φ0 => ?_
  simp only [go_sem, Nat.reduceAdd, Nat.reduceLeDiff, reduceCtorEq, setsH]
  repeat (first | refine xPP rfl ?_ | refine xPE rfl ?_ | refine xEP rfl ?_ | refine xEE rfl ?_ | refine AQ.done ?_ | refine AQ.skip (by kernel_rfl) rfl ?_ | refine AQ.s2b (by kernel_rfl) rfl rfl rfl rfl ?_ | refine AQ.mark (by kernel_rfl) rfl rfl rfl rfl rfl rfl rfl ?_ | refine AP.cond_true rfl rfl ?_ | refine AP.cond_false rfl rfl ?_ | (refine AP.region rfl (by kernel_rfl) ?_; simp only [go_sem, Nat.reduceAdd, Nat.reduceLeDiff, reduceCtorEq]) | (refine AP.drawQ rfl rfl (by kernel_rfl) ?_; simp only [go_sem, Nat.reduceAdd, Nat.reduceLeDiff, reduceCtorEq]) | (refine vq_id ?_; simp only [go_sem, Nat.reduceAdd, Nat.reduceLeDiff, reduceCtorEq]) | (refine ⟨by first | omega | (intros; simp_all; done) | (intros; simp_all; omega), ?_⟩; try simp only [go_sem, Nat.reduceAdd, Nat.reduceLeDiff, reduceCtorEq]))
  refine AP.loop rfl (α := Nat × Nat) (fun p => [(0, .ob 0 0), (1, Iv p.2)]) (fun p => setsH a b c lg) (fun p => Root a p.1 p.2 r) (fun p => p.1) (n, x) hr (by repeat (first | exact Sub.nil _ | refine Sub.cons rfl ?_)) rfl fun p hp => ?_
  obtain ⟨n, x⟩ := p
  simp only at hp ⊢
  have hx := hp.lt
  have hget := intR_get a x hx
  simp only [go_sem, Nat.reduceAdd, Nat.reduceLeDiff, reduceCtorEq, setsH]
  repeat (first | refine xPP rfl ?_ | refine xPE rfl ?_ | refine xEP rfl ?_ | refine xEE rfl ?_ | refine AQ.done ?_ | refine AQ.skip (by kernel_rfl) rfl ?_ | refine AQ.s2b (by kernel_rfl) rfl rfl rfl rfl ?_ | refine AQ.mark (by kernel_rfl) rfl rfl rfl rfl rfl rfl rfl ?_ | refine AP.cond_true rfl rfl ?_ | refine AP.cond_false rfl rfl ?_ | (refine AP.region rfl (by kernel_rfl) ?_; simp only [go_sem, Nat.reduceAdd, Nat.reduceLeDiff, reduceCtorEq, hget]) | (refine AP.drawQ rfl rfl (by kernel_rfl) ?_; simp only [go_sem, Nat.reduceAdd, Nat.reduceLeDiff, reduceCtorEq, hget]) | (refine vq_id ?_; simp only [go_sem, Nat.reduceAdd, Nat.reduceLeDiff, reduceCtorEq, hget]) | (refine ⟨by first | omega | (intros; simp_all; done) | (intros; simp_all; omega), ?_⟩; try simp only [go_sem, Nat.reduceAdd, Nat.reduceLeDiff, reduceCtorEq, hget]))
  refine AP.cond rfl rfl (fun h1 => ?_) (fun h1 => ?_)
  · cases hp with
    | here _ h2 => rw [h2] at h1; simp at h1
    | up _ h2 h3 h4 =>
      repeat (first | refine xPP rfl ?_ | refine xPE rfl ?_ | refine xEP rfl ?_ | refine xEE rfl ?_ | refine AQ.done ?_ | refine AQ.skip (by kernel_rfl) rfl ?_ | refine AQ.s2b (by kernel_rfl) rfl rfl rfl rfl ?_ | refine AQ.mark (by kernel_rfl) rfl rfl rfl rfl rfl rfl rfl ?_ | refine AP.cond_true rfl rfl ?_ | refine AP.cond_false rfl rfl ?_ | (refine AP.region rfl (by kernel_rfl) ?_; simp only [go_sem, Nat.reduceAdd, Nat.reduceLeDiff, reduceCtorEq, hget, h2]) | (refine AP.drawQ rfl rfl (by kernel_rfl) ?_; simp only [go_sem, Nat.reduceAdd, Nat.reduceLeDiff, reduceCtorEq, hget, h2]) | (refine vq_id ?_; simp only [go_sem, Nat.reduceAdd, Nat.reduceLeDiff, reduceCtorEq, hget, h2]) | (refine ⟨by first | omega | (intros; simp_all; done) | (intros; simp_all; omega), ?_⟩; try simp only [go_sem, Nat.reduceAdd, Nat.reduceLeDiff, reduceCtorEq, hget, h2]))
      exact AE.round (_, _) h4 (Nat.lt_succ_self _) (by repeat (first | exact Sub.nil _ | refine Sub.cons rfl ?_)) rfl
  · cases hp with
    | here _ h2 =>
      repeat (first | refine xPP rfl ?_ | refine xPE rfl ?_ | refine xEP rfl ?_ | refine xEE rfl ?_ | refine AQ.done ?_ | refine AQ.skip (by kernel_rfl) rfl ?_ | refine AQ.s2b (by kernel_rfl) rfl rfl rfl rfl ?_ | refine AQ.mark (by kernel_rfl) rfl rfl rfl rfl rfl rfl rfl ?_ | refine AP.cond_true rfl rfl ?_ | refine AP.cond_false rfl rfl ?_ | (refine AP.region rfl (by kernel_rfl) ?_; simp only [go_sem, Nat.reduceAdd, Nat.reduceLeDiff, reduceCtorEq]) | (refine AP.drawQ rfl rfl (by kernel_rfl) ?_; simp only [go_sem, Nat.reduceAdd, Nat.reduceLeDiff, reduceCtorEq]) | (refine vq_id ?_; simp only [go_sem, Nat.reduceAdd, Nat.reduceLeDiff, reduceCtorEq]) | (refine ⟨by first | omega | (intros; simp_all; done) | (intros; simp_all; omega), ?_⟩; try simp only [go_sem, Nat.reduceAdd, Nat.reduceLeDiff, reduceCtorEq]))
      exact AE.ret rfl ⟨rfl, trivial⟩ ⟨rfl, rfl⟩
    | up _ h2 h3 h4 => rw [h2] at h1; simp at h1; omega
end Go.Proofs.Ytfgffpkdjmeaoaa
end

section
namespace Go.Proofs.Ytfgffpkdjmeaoaa
open Go Go.AL Go.RowKit
set_option maxRecDepth 10000
set_option maxHeartbeats 4000000
theorem mark_spec (a b c : List Int) (lg : List (List IV)) : ACall Try.prog 31 [.ob 0 0] (setsH a b c lg) (fun r' H' => H' = setsH a b c lg ∧ r' = Iv lg.length) := by
  refine ACall.walk [0, 2, 4] [] Try.func31 rfl Try.ntmps31 (by kernel_rfl) (by rfl) rfl fun W own I0 φ0 => ?_
  simp only [go_sem, Nat.reduceAdd, Nat.reduceLeDiff, reduceCtorEq, setsH]
  repeat (first | refine xPP rfl ?_ | refine xPE rfl ?_ | refine xEP rfl ?_ | refine xEE rfl ?_ | refine AQ.done ?_ | refine AQ.skip (by kernel_rfl) rfl ?_ | refine AQ.s2b (by kernel_rfl) rfl rfl rfl rfl ?_ | refine AQ.mark (by kernel_rfl) rfl rfl rfl rfl rfl rfl rfl ?_ | refine AP.cond_true rfl rfl ?_ | refine AP.cond_false rfl rfl ?_ | (refine AP.region rfl (by kernel_rfl) ?_; simp only [go_sem, Nat.reduceAdd, Nat.reduceLeDiff, reduceCtorEq]) | (refine AP.drawQ rfl rfl (by kernel_rfl) ?_; simp only [go_sem, Nat.reduceAdd, Nat.reduceLeDiff, reduceCtorEq]) | (refine vq_id ?_; simp only [go_sem, Nat.reduceAdd, Nat.reduceLeDiff, reduceCtorEq]) | (refine ⟨by first | omega | (intros; simp_all; done) | (intros; simp_all; omega), ?_⟩; try simp only [go_sem, Nat.reduceAdd, Nat.reduceLeDiff, reduceCtorEq]))
  exact AE.ret rfl ⟨rfl, trivial⟩ ⟨rfl, rfl⟩
theorem count_spec' (a b c : List Int) (lg : List (List IV)) (h : lg.length ≤ a.length) (hl : a.length ≤ 1000000000) : ACall Try.prog 30 [.ob 0 0] (setsH a b c lg) (fun r' H' => H' = setsH a b c lg ∧ r' = Iv (a.length - lg.length : Nat)) := by
  have hw := wr (x := (a.length : Int) - lg.length) (by omega)
  refine ACall.walk [0, 2, 4] [] Try.func30 rfl Try.ntmps30 (by kernel_rfl) (by rfl) rfl fun W own I0 φ0 => ?_
  simp only [go_sem, Nat.reduceAdd, Nat.reduceLeDiff, reduceCtorEq, setsH]
  repeat (first | refine xPP rfl ?_ | refine xPE rfl ?_ | refine xEP rfl ?_ | refine xEE rfl ?_ | refine AQ.done ?_ | refine AQ.skip (by kernel_rfl) rfl ?_ | refine AQ.s2b (by kernel_rfl) rfl rfl rfl rfl ?_ | refine AQ.mark (by kernel_rfl) rfl rfl rfl rfl rfl rfl rfl ?_ | refine AP.cond_true rfl rfl ?_ | refine AP.cond_false rfl rfl ?_ | (refine AP.region rfl (by kernel_rfl) ?_; simp only [go_sem, Nat.reduceAdd, Nat.reduceLeDiff, reduceCtorEq, hw]) | (refine AP.drawQ rfl rfl (by kernel_rfl) ?_; simp only [go_sem, Nat.reduceAdd, Nat.reduceLeDiff, reduceCtorEq, hw]) | (refine vq_id ?_; simp only [go_sem, Nat.reduceAdd, Nat.reduceLeDiff, reduceCtorEq, hw]) | (refine ⟨by first | omega | (intros; simp_all; done) | (intros; simp_all; omega), ?_⟩; try simp only [go_sem, Nat.reduceAdd, Nat.reduceLeDiff, reduceCtorEq, hw]))
  exact AE.ret rfl ⟨rfl, trivial⟩ ⟨rfl, by rw [Int.ofNat_sub h]; rfl⟩
theorem setsFind_bad (a b c : List Int) (lg : List (List IV)) (x : Int) (hx : ¬ (0 ≤ x ∧ x < a.length)) (hl : a.length ≤ 1000000000) : ACall Try.prog 27 [.ob 0 0, Iv x] (setsH a b c lg) (fun r' H' => H' = setsH a b c lg ∧ r' = .tup [Iv 0, Iv 3]) := by
  have hh := has_spec a b c lg x hl
  have hf : (decide (0 ≤ x) && decide (x < (a.length : Int))) = false := by simpa using hx
  rw [hf] at hh
  refine ACall.walk [0, 1, 4, 5, 6, 9] [] Try.func27 rfl Try.ntmps27 (by kernel_rfl) (by rfl) rfl fun W own I0 φ0 => ?_
  simp only [go_sem, Nat.reduceAdd, Nat.reduceLeDiff, reduceCtorEq, setsH] at *
  repeat (first | refine xPP rfl ?_ | refine xPE rfl ?_ | refine xEP rfl ?_ | refine xEE rfl ?_ | refine AQ.done ?_ | refine AQ.skip (by kernel_rfl) rfl ?_ | refine AQ.s2b (by kernel_rfl) rfl rfl rfl rfl ?_ | refine AQ.mark (by kernel_rfl) rfl rfl rfl rfl rfl rfl rfl ?_ | refine AP.cond_true rfl rfl ?_ | refine AP.cond_false rfl rfl ?_ | (refine AP.region rfl (by kernel_rfl) ?_; simp only [go_sem, Nat.reduceAdd, Nat.reduceLeDiff, reduceCtorEq]) | (refine AP.drawQ rfl rfl (by kernel_rfl) ?_; simp only [go_sem, Nat.reduceAdd, Nat.reduceLeDiff, reduceCtorEq]) | (refine vq_id ?_; simp only [go_sem, Nat.reduceAdd, Nat.reduceLeDiff, reduceCtorEq]) | (refine ⟨by first | omega | (intros; simp_all; done) | (intros; simp_all; omega), ?_⟩; try simp only [go_sem, Nat.reduceAdd, Nat.reduceLeDiff, reduceCtorEq]))
  refine AQ.callI (by kernel_rfl) rfl rfl rfl (hh) ?_
  repeat (first | refine xPP rfl ?_ | refine xPE rfl ?_ | refine xEP rfl ?_ | refine xEE rfl ?_ | refine AQ.done ?_ | refine AQ.skip (by kernel_rfl) rfl ?_ | refine AQ.s2b (by kernel_rfl) rfl rfl rfl rfl ?_ | refine AQ.mark (by kernel_rfl) rfl rfl rfl rfl rfl rfl rfl ?_ | refine AP.cond_true rfl rfl ?_ | refine AP.cond_false rfl rfl ?_ | (refine AP.region rfl (by kernel_rfl) ?_; simp only [go_sem, Nat.reduceAdd, Nat.reduceLeDiff, reduceCtorEq]) | (refine AP.drawQ rfl rfl (by kernel_rfl) ?_; simp only [go_sem, Nat.reduceAdd, Nat.reduceLeDiff, reduceCtorEq]) | (refine vq_id ?_; simp only [go_sem, Nat.reduceAdd, Nat.reduceLeDiff, reduceCtorEq]) | (refine ⟨by first | omega | (intros; simp_all; done) | (intros; simp_all; omega), ?_⟩; try simp only [go_sem, Nat.reduceAdd, Nat.reduceLeDiff, reduceCtorEq]))
  exact AE.ret rfl ⟨rfl, rfl, trivial⟩ ⟨rfl, rfl⟩
theorem setsFind_spec (a b c : List Int) (lg : List (List IV)) (n x r : Nat) (hr : Root a n x r) (hc : c.length = a.length) (hl : a.length ≤ 1000000000) : ACall Try.prog 27 [.ob 0 0, Iv x] (setsH a b c lg) (fun r' H' => H' = setsH a b c lg ∧ r' = .tup [Iv (c.getD r 0), Iv 0]) := by
  have hx := hr.lt
  have hre := hr.end'
  have hh := has_spec a b c lg x hl
  have hro := root_spec a b c lg n x r hr hl
  have hf : (decide (0 ≤ (x : Int)) && decide ((x : Int) < (a.length : Int))) = true := by simp; omega
  rw [hf] at hh
  have hget := intR_get c r (by omega)
  refine ACall.walk [0, 1, 4, 5, 6, 9] [] Try.func27 rfl Try.ntmps27 (by kernel_rfl) (by rfl) rfl fun W own I0 φ0 => ?_
  simp only [go_sem, Nat.reduceAdd, Nat.reduceLeDiff, reduceCtorEq, setsH] at *
  repeat (first | refine xPP rfl ?_ | refine xPE rfl ?_ | refine xEP rfl ?_ | refine xEE rfl ?_ | refine AQ.done ?_ | refine AQ.skip (by kernel_rfl) rfl ?_ | refine AQ.s2b (by kernel_rfl) rfl rfl rfl rfl ?_ | refine AQ.mark (by kernel_rfl) rfl rfl rfl rfl rfl rfl rfl ?_ | refine AP.cond_true rfl rfl ?_ | refine AP.cond_false rfl rfl ?_ | (refine AP.region rfl (by kernel_rfl) ?_; simp only [go_sem, Nat.reduceAdd, Nat.reduceLeDiff, reduceCtorEq]) | (refine AP.drawQ rfl rfl (by kernel_rfl) ?_; simp only [go_sem, Nat.reduceAdd, Nat.reduceLeDiff, reduceCtorEq]) | (refine vq_id ?_; simp only [go_sem, Nat.reduceAdd, Nat.reduceLeDiff, reduceCtorEq]) | (refine ⟨by first | omega | (intros; simp_all; done) | (intros; simp_all; omega), ?_⟩; try simp only [go_sem, Nat.reduceAdd, Nat.reduceLeDiff, reduceCtorEq]))
  refine AQ.callI (by kernel_rfl) rfl rfl rfl (hh) ?_
  repeat (first | refine xPP rfl ?_ | refine xPE rfl ?_ | refine xEP rfl ?_ | refine xEE rfl ?_ | refine AQ.done ?_ | refine AQ.skip (by kernel_rfl) rfl ?_ | refine AQ.s2b (by kernel_rfl) rfl rfl rfl rfl ?_ | refine AQ.mark (by kernel_rfl) rfl rfl rfl rfl rfl rfl rfl ?_ | refine AP.cond_true rfl rfl ?_ | refine AP.cond_false rfl rfl ?_ | (refine AP.region rfl (by kernel_rfl) ?_; simp only [go_sem, Nat.reduceAdd, Nat.reduceLeDiff, reduceCtorEq]) | (refine AP.drawQ rfl rfl (by kernel_rfl) ?_; simp only [go_sem, Nat.reduceAdd, Nat.reduceLeDiff, reduceCtorEq]) | (refine vq_id ?_; simp only [go_sem, Nat.reduceAdd, Nat.reduceLeDiff, reduceCtorEq]) | (refine ⟨by first | omega | (intros; simp_all; done) | (intros; simp_all; omega), ?_⟩; try simp only [go_sem, Nat.reduceAdd, Nat.reduceLeDiff, reduceCtorEq]))
  refine AP.drawE 11 (Tree.node [] [0, 1, 2, 3, 4, 5] [6] [Tree.node [0, 1, 2, 3] [7, 8, 9, 10] [] []]) (by kernel_rfl) rfl (by kernel_rfl) (by kernel_rfl) ?_
  refine vd_node ?_
  simp only [go_sem, Nat.reduceAdd, Nat.reduceLeDiff, reduceCtorEq]
  refine AQ.callI (by kernel_rfl) rfl rfl rfl (hro) ?_
  simp only [go_sem, Nat.reduceAdd, Nat.reduceLeDiff, reduceCtorEq]
  refine AQ.nx rfl ?_
  simp only [go_sem, Nat.reduceAdd, Nat.reduceLeDiff, reduceCtorEq, hget]
  refine ⟨by omega, by omega, ?_⟩
  repeat (first | refine xPP rfl ?_ | refine xPE rfl ?_ | refine xEP rfl ?_ | refine xEE rfl ?_ | refine AQ.done ?_ | refine AQ.skip (by kernel_rfl) rfl ?_ | refine AQ.s2b (by kernel_rfl) rfl rfl rfl rfl ?_ | refine AQ.mark (by kernel_rfl) rfl rfl rfl rfl rfl rfl rfl ?_ | refine AP.cond_true rfl rfl ?_ | refine AP.cond_false rfl rfl ?_ | (refine AP.region rfl (by kernel_rfl) ?_; simp only [go_sem, Nat.reduceAdd, Nat.reduceLeDiff, reduceCtorEq]) | (refine AP.drawQ rfl rfl (by kernel_rfl) ?_; simp only [go_sem, Nat.reduceAdd, Nat.reduceLeDiff, reduceCtorEq]) | (refine vq_id ?_; simp only [go_sem, Nat.reduceAdd, Nat.reduceLeDiff, reduceCtorEq]) | (refine ⟨by first | omega | (intros; simp_all; done) | (intros; simp_all; omega), ?_⟩; try simp only [go_sem, Nat.reduceAdd, Nat.reduceLeDiff, reduceCtorEq]))
  exact AE.ret rfl ⟨rfl, rfl, trivial⟩ ⟨rfl, rfl⟩
theorem union_bad (a b c : List Int) (lg : List (List IV)) (x y : Int) (hx : ¬ ((0 ≤ x ∧ x < a.length) ∧ (0 ≤ y ∧ y < a.length))) (hl : a.length ≤ 1000000000) :
    ACall Try.prog 28 [.ob 0 0, Iv x, Iv y] (setsH a b c lg) (fun r' H' => H' = setsH a b c lg ∧ r' = .tup [Bv false, Iv 3]) := by
  have hh := has_spec a b c lg x hl
  have hh2 := has_spec a b c lg y hl
  refine ACall.walk [0, 1, 2, 6, 7, 8, 11, 30, 45] [] Try.func28 rfl Try.ntmps28 (by kernel_rfl) (by rfl) rfl fun W own I0 φ0 => ?_
  simp only [go_sem, Nat.reduceAdd, Nat.reduceLeDiff, reduceCtorEq, setsH] at *
  repeat (first | refine xPP rfl ?_ | refine xPE rfl ?_ | refine xEP rfl ?_ | refine xEE rfl ?_ | refine AQ.done ?_ | refine AQ.skip (by kernel_rfl) rfl ?_ | refine AQ.s2b (by kernel_rfl) rfl rfl rfl rfl ?_ | refine AQ.mark (by kernel_rfl) rfl rfl rfl rfl rfl rfl rfl ?_ | refine AP.cond_true rfl rfl ?_ | refine AP.cond_false rfl rfl ?_ | (refine AP.region rfl (by kernel_rfl) ?_; simp only [go_sem, Nat.reduceAdd, Nat.reduceLeDiff, reduceCtorEq]) | (refine AP.drawQ rfl rfl (by kernel_rfl) ?_; simp only [go_sem, Nat.reduceAdd, Nat.reduceLeDiff, reduceCtorEq]) | (refine vq_id ?_; simp only [go_sem, Nat.reduceAdd, Nat.reduceLeDiff, reduceCtorEq]) | (refine ⟨by first | omega | (intros; simp_all; done) | (intros; simp_all; omega), ?_⟩; try simp only [go_sem, Nat.reduceAdd, Nat.reduceLeDiff, reduceCtorEq]))
  refine AQ.callI (by kernel_rfl) rfl rfl rfl (hh) ?_
  repeat (first | refine xPP rfl ?_ | refine xPE rfl ?_ | refine xEP rfl ?_ | refine xEE rfl ?_ | refine AQ.done ?_ | refine AQ.skip (by kernel_rfl) rfl ?_ | refine AQ.s2b (by kernel_rfl) rfl rfl rfl rfl ?_ | refine AQ.mark (by kernel_rfl) rfl rfl rfl rfl rfl rfl rfl ?_ | refine AP.cond_true rfl rfl ?_ | refine AP.cond_false rfl rfl ?_ | (refine AP.region rfl (by kernel_rfl) ?_; simp only [go_sem, Nat.reduceAdd, Nat.reduceLeDiff, reduceCtorEq]) | (refine AP.drawQ rfl rfl (by kernel_rfl) ?_; simp only [go_sem, Nat.reduceAdd, Nat.reduceLeDiff, reduceCtorEq]) | (refine vq_id ?_; simp only [go_sem, Nat.reduceAdd, Nat.reduceLeDiff, reduceCtorEq]) | (refine ⟨by first | omega | (intros; simp_all; done) | (intros; simp_all; omega), ?_⟩; try simp only [go_sem, Nat.reduceAdd, Nat.reduceLeDiff, reduceCtorEq]))
  refine AQ.callI_g (by kernel_rfl) rfl rfl rfl (fun h => by first | (simp [gs, AV.g]; done) | (simp [gs, AV.g, constAV]; done) | (simp [gs, AV.g, constAV, bw] at h ⊢; done) | (simp [bw] at h; done) | (simp [gs, AV.g, bw] at h ⊢; simp [h]; done) | (simp [gs, AV.g, bw] at h ⊢; exact h.1) | (simp [gs, AV.g]; rfl) | (simp [gs, AV.g, bw] at h ⊢; rfl) | (simp [gs, AV.g, bw] at h ⊢; simp [h]; rfl) | (simp [gs, AV.g, bw] at h ⊢; simp_all)) (fun _ => hh2) ?_
  simp only [go_sem, Nat.reduceAdd, Nat.reduceLeDiff, reduceCtorEq]
  repeat (first | refine xPP rfl ?_ | refine xPE rfl ?_ | refine xEP rfl ?_ | refine xEE rfl ?_ | refine AQ.done ?_ | refine AQ.skip (by kernel_rfl) rfl ?_ | refine AQ.s2b (by kernel_rfl) rfl rfl rfl rfl ?_ | refine AQ.mark (by kernel_rfl) rfl rfl rfl rfl rfl rfl rfl ?_ | refine AP.cond_true rfl rfl ?_ | refine AP.cond_false rfl rfl ?_ | (refine AP.region rfl (by kernel_rfl) ?_; simp only [go_sem, Nat.reduceAdd, Nat.reduceLeDiff, reduceCtorEq]) | (refine AP.drawQ rfl rfl (by kernel_rfl) ?_; simp only [go_sem, Nat.reduceAdd, Nat.reduceLeDiff, reduceCtorEq]) | (refine vq_id ?_; simp only [go_sem, Nat.reduceAdd, Nat.reduceLeDiff, reduceCtorEq]) | (refine ⟨by first | omega | (intros; simp_all; done) | (intros; simp_all; omega), ?_⟩; try simp only [go_sem, Nat.reduceAdd, Nat.reduceLeDiff, reduceCtorEq]))

  refine AP.cond_true rfl (by simp only [go_sem, Nat.reduceAdd, Nat.reduceLeDiff, reduceCtorEq]; refine congrArg (fun b => some (AV.im (IV.v (Value.bool b)))) ?_; (first | (simp only [Bool.or_eq_true, Bool.and_eq_true, Bool.not_eq_true', Bool.not_eq_false', Bool.and_eq_false_iff, Bool.or_eq_false_iff, decide_eq_true_eq, decide_eq_false_iff_not, beq_iff_eq, bne_iff_ne, beq_eq_false_iff_ne, bne_eq_false_iff_eq, ne_eq]; omega) | (simp; done) | (simp; omega) | (simp_all; done) | (simp_all; omega))) ?_
  repeat (first | refine xPP rfl ?_ | refine xPE rfl ?_ | refine xEP rfl ?_ | refine xEE rfl ?_ | refine AQ.done ?_ | refine AQ.skip (by kernel_rfl) rfl ?_ | refine AQ.s2b (by kernel_rfl) rfl rfl rfl rfl ?_ | refine AQ.mark (by kernel_rfl) rfl rfl rfl rfl rfl rfl rfl ?_ | refine AP.cond_true rfl rfl ?_ | refine AP.cond_false rfl rfl ?_ | (refine AP.region rfl (by kernel_rfl) ?_; simp only [go_sem, Nat.reduceAdd, Nat.reduceLeDiff, reduceCtorEq]) | (refine AP.drawQ rfl rfl (by kernel_rfl) ?_; simp only [go_sem, Nat.reduceAdd, Nat.reduceLeDiff, reduceCtorEq]) | (refine vq_id ?_; simp only [go_sem, Nat.reduceAdd, Nat.reduceLeDiff, reduceCtorEq]) | (refine ⟨by first | omega | (intros; simp_all; done) | (intros; simp_all; omega), ?_⟩; try simp only [go_sem, Nat.reduceAdd, Nat.reduceLeDiff, reduceCtorEq]))
  exact AE.ret rfl ⟨rfl, rfl, trivial⟩ ⟨rfl, rfl⟩
def swapB (b : List Int) (x y : Nat) : Bool := decide (b.getD x 0 < b.getD y 0)
def uRoot (b : List Int) (x y : Nat) : Nat := if swapB b x y then y else x
def uBelow (b : List Int) (x y : Nat) : Nat := if swapB b x y then x else y
def logRow (b c : List Int) (r s : Nat) : List IV := [Ii s, Ii r, Ii (b.getD r 0), Ii (c.getD r 0)]
theorem union_same (a b c : List Int) (lg : List (List IV)) (x y n n' r : Nat) (hx : Root a n x r) (hy : Root a n' y r) (hl : a.length ≤ 1000000000) :
    ACall Try.prog 28 [.ob 0 0, Iv x, Iv y] (setsH a b c lg) (fun r' H' => H' = setsH a b c lg ∧ r' = .tup [Bv false, Iv 0]) := by
  have hlx := hx.lt
  have hly := hy.lt
  have hh := has_spec a b c lg x hl
  have hh2 := has_spec a b c lg y hl
  have hr1 := root_spec a b c lg n x r hx hl
  have hr2 := root_spec a b c lg n' y r hy hl
  rw [show (decide (0 ≤ (x : Int)) && decide ((x : Int) < (a.length : Int))) = true by simp; omega] at hh
  rw [show (decide (0 ≤ (y : Int)) && decide ((y : Int) < (a.length : Int))) = true by simp; omega] at hh2
  refine ACall.walk [0, 1, 2, 6, 7, 8, 11, 30, 45] [] Try.func28 rfl Try.ntmps28 (by kernel_rfl) (by rfl) rfl fun W own I0 φ0 => ?_
  simp only [go_sem, Nat.reduceAdd, Nat.reduceLeDiff, reduceCtorEq, setsH] at *
  repeat (first | refine xPP rfl ?_ | refine xPE rfl ?_ | refine xEP rfl ?_ | refine xEE rfl ?_ | refine AQ.done ?_ | refine AQ.skip (by kernel_rfl) rfl ?_ | refine AQ.s2b (by kernel_rfl) rfl rfl rfl rfl ?_ | refine AQ.mark (by kernel_rfl) rfl rfl rfl rfl rfl rfl rfl ?_ | refine AP.cond_true rfl rfl ?_ | refine AP.cond_false rfl rfl ?_ | (refine AP.region rfl (by kernel_rfl) ?_; simp only [go_sem, Nat.reduceAdd, Nat.reduceLeDiff, reduceCtorEq]) | (refine AP.drawQ rfl rfl (by kernel_rfl) ?_; simp only [go_sem, Nat.reduceAdd, Nat.reduceLeDiff, reduceCtorEq]) | (refine vq_id ?_; simp only [go_sem, Nat.reduceAdd, Nat.reduceLeDiff, reduceCtorEq]) | (refine ⟨by first | omega | (intros; simp_all; done) | (intros; simp_all; omega), ?_⟩; try simp only [go_sem, Nat.reduceAdd, Nat.reduceLeDiff, reduceCtorEq]))
  refine AQ.callI (by kernel_rfl) rfl rfl rfl (hh) ?_
  repeat (first | refine xPP rfl ?_ | refine xPE rfl ?_ | refine xEP rfl ?_ | refine xEE rfl ?_ | refine AQ.done ?_ | refine AQ.skip (by kernel_rfl) rfl ?_ | refine AQ.s2b (by kernel_rfl) rfl rfl rfl rfl ?_ | refine AQ.mark (by kernel_rfl) rfl rfl rfl rfl rfl rfl rfl ?_ | refine AP.cond_true rfl rfl ?_ | refine AP.cond_false rfl rfl ?_ | (refine AP.region rfl (by kernel_rfl) ?_; simp only [go_sem, Nat.reduceAdd, Nat.reduceLeDiff, reduceCtorEq]) | (refine AP.drawQ rfl rfl (by kernel_rfl) ?_; simp only [go_sem, Nat.reduceAdd, Nat.reduceLeDiff, reduceCtorEq]) | (refine vq_id ?_; simp only [go_sem, Nat.reduceAdd, Nat.reduceLeDiff, reduceCtorEq]) | (refine ⟨by first | omega | (intros; simp_all; done) | (intros; simp_all; omega), ?_⟩; try simp only [go_sem, Nat.reduceAdd, Nat.reduceLeDiff, reduceCtorEq]))
  refine AQ.callI_g (by kernel_rfl) rfl rfl rfl (fun h => by first | (simp [gs, AV.g]; done) | (simp [gs, AV.g, constAV]; done) | (simp [gs, AV.g, constAV, bw] at h ⊢; done) | (simp [bw] at h; done) | (simp [gs, AV.g, bw] at h ⊢; simp [h]; done) | (simp [gs, AV.g, bw] at h ⊢; exact h.1) | (simp [gs, AV.g]; rfl) | (simp [gs, AV.g, bw] at h ⊢; rfl) | (simp [gs, AV.g, bw] at h ⊢; simp [h]; rfl) | (simp [gs, AV.g, bw] at h ⊢; simp_all)) (fun _ => hh2) ?_
  simp only [go_sem, Nat.reduceAdd, Nat.reduceLeDiff, reduceCtorEq]
  repeat (first | refine xPP rfl ?_ | refine xPE rfl ?_ | refine xEP rfl ?_ | refine xEE rfl ?_ | refine AQ.done ?_ | refine AQ.skip (by kernel_rfl) rfl ?_ | refine AQ.s2b (by kernel_rfl) rfl rfl rfl rfl ?_ | refine AQ.mark (by kernel_rfl) rfl rfl rfl rfl rfl rfl rfl ?_ | refine AP.cond_true rfl rfl ?_ | refine AP.cond_false rfl rfl ?_ | (refine AP.region rfl (by kernel_rfl) ?_; simp only [go_sem, Nat.reduceAdd, Nat.reduceLeDiff, reduceCtorEq]) | (refine AP.drawQ rfl rfl (by kernel_rfl) ?_; simp only [go_sem, Nat.reduceAdd, Nat.reduceLeDiff, reduceCtorEq]) | (refine vq_id ?_; simp only [go_sem, Nat.reduceAdd, Nat.reduceLeDiff, reduceCtorEq]) | (refine ⟨by first | omega | (intros; simp_all; done) | (intros; simp_all; omega), ?_⟩; try simp only [go_sem, Nat.reduceAdd, Nat.reduceLeDiff, reduceCtorEq]))
  refine AQ.callI (by kernel_rfl) rfl rfl rfl (hr1) ?_
  repeat (first | refine xPP rfl ?_ | refine xPE rfl ?_ | refine xEP rfl ?_ | refine xEE rfl ?_ | refine AQ.done ?_ | refine AQ.skip (by kernel_rfl) rfl ?_ | refine AQ.s2b (by kernel_rfl) rfl rfl rfl rfl ?_ | refine AQ.mark (by kernel_rfl) rfl rfl rfl rfl rfl rfl rfl ?_ | refine AP.cond_true rfl rfl ?_ | refine AP.cond_false rfl rfl ?_ | (refine AP.region rfl (by kernel_rfl) ?_; simp only [go_sem, Nat.reduceAdd, Nat.reduceLeDiff, reduceCtorEq]) | (refine AP.drawQ rfl rfl (by kernel_rfl) ?_; simp only [go_sem, Nat.reduceAdd, Nat.reduceLeDiff, reduceCtorEq]) | (refine vq_id ?_; simp only [go_sem, Nat.reduceAdd, Nat.reduceLeDiff, reduceCtorEq]) | (refine ⟨by first | omega | (intros; simp_all; done) | (intros; simp_all; omega), ?_⟩; try simp only [go_sem, Nat.reduceAdd, Nat.reduceLeDiff, reduceCtorEq]))
  refine AQ.callI (by kernel_rfl) rfl rfl rfl (hr2) ?_
  repeat (first | refine xPP rfl ?_ | refine xPE rfl ?_ | refine xEP rfl ?_ | refine xEE rfl ?_ | refine AQ.done ?_ | refine AQ.skip (by kernel_rfl) rfl ?_ | refine AQ.s2b (by kernel_rfl) rfl rfl rfl rfl ?_ | refine AQ.mark (by kernel_rfl) rfl rfl rfl rfl rfl rfl rfl ?_ | refine AP.cond_true rfl rfl ?_ | refine AP.cond_false rfl rfl ?_ | (refine AP.region rfl (by kernel_rfl) ?_; simp only [go_sem, Nat.reduceAdd, Nat.reduceLeDiff, reduceCtorEq]) | (refine AP.drawQ rfl rfl (by kernel_rfl) ?_; simp only [go_sem, Nat.reduceAdd, Nat.reduceLeDiff, reduceCtorEq]) | (refine vq_id ?_; simp only [go_sem, Nat.reduceAdd, Nat.reduceLeDiff, reduceCtorEq]) | (refine ⟨by first | omega | (intros; simp_all; done) | (intros; simp_all; omega), ?_⟩; try simp only [go_sem, Nat.reduceAdd, Nat.reduceLeDiff, reduceCtorEq]))
  refine AP.cond_true rfl (by simp only [go_sem, Nat.reduceAdd, Nat.reduceLeDiff, reduceCtorEq]; refine congrArg (fun b => some (AV.im (IV.v (Value.bool b)))) ?_; (first | (simp only [Bool.or_eq_true, Bool.and_eq_true, Bool.not_eq_true', Bool.not_eq_false', Bool.and_eq_false_iff, Bool.or_eq_false_iff, decide_eq_true_eq, decide_eq_false_iff_not, beq_iff_eq, bne_iff_ne, beq_eq_false_iff_ne, bne_eq_false_iff_eq, ne_eq]; omega) | (simp; done) | (simp; omega) | (simp_all; done) | (simp_all; omega))) ?_
  repeat (first | refine xPP rfl ?_ | refine xPE rfl ?_ | refine xEP rfl ?_ | refine xEE rfl ?_ | refine AQ.done ?_ | refine AQ.skip (by kernel_rfl) rfl ?_ | refine AQ.s2b (by kernel_rfl) rfl rfl rfl rfl ?_ | refine AQ.mark (by kernel_rfl) rfl rfl rfl rfl rfl rfl rfl ?_ | refine AP.cond_true rfl rfl ?_ | refine AP.cond_false rfl rfl ?_ | (refine AP.region rfl (by kernel_rfl) ?_; simp only [go_sem, Nat.reduceAdd, Nat.reduceLeDiff, reduceCtorEq]) | (refine AP.drawQ rfl rfl (by kernel_rfl) ?_; simp only [go_sem, Nat.reduceAdd, Nat.reduceLeDiff, reduceCtorEq]) | (refine vq_id ?_; simp only [go_sem, Nat.reduceAdd, Nat.reduceLeDiff, reduceCtorEq]) | (refine ⟨by first | omega | (intros; simp_all; done) | (intros; simp_all; omega), ?_⟩; try simp only [go_sem, Nat.reduceAdd, Nat.reduceLeDiff, reduceCtorEq]))
  exact AE.ret rfl ⟨rfl, rfl, trivial⟩ ⟨rfl, rfl⟩
end Go.Proofs.Ytfgffpkdjmeaoaa
end

section
namespace Go.Proofs.Ytfgffpkdjmeaoaa
open Go Go.AL Go.RowKit
set_option maxRecDepth 10000
set_option maxHeartbeats 4000000
theorem intR_set (l : List Int) (k : Nat) (v : Int) : (intR l).set k [Ii v] = intR (l.set k v) := by
  simp [intR, List.map_set]
theorem intR_set1 (l : List Int) (k : Nat) (v : Int) (h : k < l.length) : (intR l).set k (IV.v (Value.int .i64 v) :: List.drop 1 ((intR l).getD k [])) = intR (l.set k v) := by
  rw [intR_get l k h, ← intR_set]; rfl
theorem min_if (x y : Int) : (if y < x then y else x) = min x y := by omega
/-- as setsH; the log's row has the id i -/
def setsHi (i : Nat) (a b c : List Int) (lg : List (List IV)) : Heap := [(i, .vec 121 4 lg), (3, .vec 3 1 (intR c)), (2, .vec 3 1 (intR b)), (1, .vec 3 1 (intR a)), (0, .var 117 [.os 1 1 0 a.length, .os 2 1 0 b.length, .os 3 1 0 c.length, .os i 4 0 lg.length])]
theorem union_ok (a b c : List Int) (lg : List (List IV)) (x y n n' r s u w : Nat) (hx : Root a n x r) (hy : Root a n' y s) (hne : r ≠ s)
    (hs : (swapB b r s = true ∧ u = s ∧ w = r) ∨ (swapB b r s = false ∧ u = r ∧ w = s)) (hb : b.length = a.length) (hc : c.length = a.length) (hl : a.length ≤ 1000000) (hlg : lg.length ≤ 1000000)
    (hbs : ∀ i, 0 ≤ b.getD i 0 ∧ b.getD i 0 ≤ 1000000) :
    ACall Try.prog 28 [.ob 0 0, Iv x, Iv y] (setsH a b c lg) (fun r' H' => H' = setsHi 5 (a.set w u) (b.set u (b.getD u 0 + b.getD w 0)) (c.set u (min (c.getD u 0) (c.getD w 0))) (lg ++ [logRow b c u w]) ∧ r' = .tup [Bv true, Iv 0]) := by
  have hlx := hx.lt
  have hly := hy.lt
  have hre := hx.end'
  have hse := hy.end'
  have hh := has_spec a b c lg x (by omega)
  have hh2 := has_spec a b c lg y (by omega)
  have hr1 := root_spec a b c lg n x r hx (by omega)
  have hr2 := root_spec a b c lg n' y s hy (by omega)
  rw [show (decide (0 ≤ (x : Int)) && decide ((x : Int) < (a.length : Int))) = true by simp; omega] at hh
  rw [show (decide (0 ≤ (y : Int)) && decide ((y : Int) < (a.length : Int))) = true by simp; omega] at hh2
  have g1 := intR_get b r (by omega)
  have g2 := intR_get b s (by omega)
  have g3 := intR_get c r (by omega)
  have g4 := intR_get c s (by omega)
  refine ACall.walk [0, 1, 2, 6, 7, 8, 11, 30, 45] [] Try.func28 rfl Try.ntmps28 (by kernel_rfl) (by rfl) rfl fun W own I0 φ0 => ?_
  simp only [go_sem, Nat.reduceAdd, Nat.reduceLeDiff, reduceCtorEq, setsH, setsHi] at *
  repeat (first | refine xPP rfl ?_ | refine xPE rfl ?_ | refine xEP rfl ?_ | refine xEE rfl ?_ | refine AQ.done ?_ | refine AQ.skip (by kernel_rfl) rfl ?_ | refine AQ.s2b (by kernel_rfl) rfl rfl rfl rfl ?_ | refine AQ.mark (by kernel_rfl) rfl rfl rfl rfl rfl rfl rfl ?_ | refine AP.cond_true rfl rfl ?_ | refine AP.cond_false rfl rfl ?_ | (refine AP.region rfl (by kernel_rfl) ?_; simp only [go_sem, Nat.reduceAdd, Nat.reduceLeDiff, reduceCtorEq]) | (refine AP.drawQ rfl rfl (by kernel_rfl) ?_; simp only [go_sem, Nat.reduceAdd, Nat.reduceLeDiff, reduceCtorEq]) | (refine vq_id ?_; simp only [go_sem, Nat.reduceAdd, Nat.reduceLeDiff, reduceCtorEq]) | (refine ⟨by first | omega | (intros; simp_all; done) | (intros; simp_all; omega), ?_⟩; try simp only [go_sem, Nat.reduceAdd, Nat.reduceLeDiff, reduceCtorEq]))
  refine AQ.callI (by kernel_rfl) rfl rfl rfl (hh) ?_
  repeat (first | refine xPP rfl ?_ | refine xPE rfl ?_ | refine xEP rfl ?_ | refine xEE rfl ?_ | refine AQ.done ?_ | refine AQ.skip (by kernel_rfl) rfl ?_ | refine AQ.s2b (by kernel_rfl) rfl rfl rfl rfl ?_ | refine AQ.mark (by kernel_rfl) rfl rfl rfl rfl rfl rfl rfl ?_ | refine AP.cond_true rfl rfl ?_ | refine AP.cond_false rfl rfl ?_ | (refine AP.region rfl (by kernel_rfl) ?_; simp only [go_sem, Nat.reduceAdd, Nat.reduceLeDiff, reduceCtorEq]) | (refine AP.drawQ rfl rfl (by kernel_rfl) ?_; simp only [go_sem, Nat.reduceAdd, Nat.reduceLeDiff, reduceCtorEq]) | (refine vq_id ?_; simp only [go_sem, Nat.reduceAdd, Nat.reduceLeDiff, reduceCtorEq]) | (refine ⟨by first | omega | (intros; simp_all; done) | (intros; simp_all; omega), ?_⟩; try simp only [go_sem, Nat.reduceAdd, Nat.reduceLeDiff, reduceCtorEq]))
  refine AQ.callI_g (by kernel_rfl) rfl rfl rfl (fun h => by first | (simp [gs, AV.g]; done) | (simp [gs, AV.g, constAV]; done) | (simp [gs, AV.g, constAV, bw] at h ⊢; done) | (simp [bw] at h; done) | (simp [gs, AV.g, bw] at h ⊢; simp [h]; done) | (simp [gs, AV.g, bw] at h ⊢; exact h.1) | (simp [gs, AV.g]; rfl) | (simp [gs, AV.g, bw] at h ⊢; rfl) | (simp [gs, AV.g, bw] at h ⊢; simp [h]; rfl) | (simp [gs, AV.g, bw] at h ⊢; simp_all)) (fun _ => hh2) ?_
  simp only [go_sem, Nat.reduceAdd, Nat.reduceLeDiff, reduceCtorEq]
  repeat (first | refine xPP rfl ?_ | refine xPE rfl ?_ | refine xEP rfl ?_ | refine xEE rfl ?_ | refine AQ.done ?_ | refine AQ.skip (by kernel_rfl) rfl ?_ | refine AQ.s2b (by kernel_rfl) rfl rfl rfl rfl ?_ | refine AQ.mark (by kernel_rfl) rfl rfl rfl rfl rfl rfl rfl ?_ | refine AP.cond_true rfl rfl ?_ | refine AP.cond_false rfl rfl ?_ | (refine AP.region rfl (by kernel_rfl) ?_; simp only [go_sem, Nat.reduceAdd, Nat.reduceLeDiff, reduceCtorEq]) | (refine AP.drawQ rfl rfl (by kernel_rfl) ?_; simp only [go_sem, Nat.reduceAdd, Nat.reduceLeDiff, reduceCtorEq]) | (refine vq_id ?_; simp only [go_sem, Nat.reduceAdd, Nat.reduceLeDiff, reduceCtorEq]) | (refine ⟨by first | omega | (intros; simp_all; done) | (intros; simp_all; omega), ?_⟩; try simp only [go_sem, Nat.reduceAdd, Nat.reduceLeDiff, reduceCtorEq]))
  refine AQ.callI (by kernel_rfl) rfl rfl rfl (hr1) ?_
  repeat (first | refine xPP rfl ?_ | refine xPE rfl ?_ | refine xEP rfl ?_ | refine xEE rfl ?_ | refine AQ.done ?_ | refine AQ.skip (by kernel_rfl) rfl ?_ | refine AQ.s2b (by kernel_rfl) rfl rfl rfl rfl ?_ | refine AQ.mark (by kernel_rfl) rfl rfl rfl rfl rfl rfl rfl ?_ | refine AP.cond_true rfl rfl ?_ | refine AP.cond_false rfl rfl ?_ | (refine AP.region rfl (by kernel_rfl) ?_; simp only [go_sem, Nat.reduceAdd, Nat.reduceLeDiff, reduceCtorEq]) | (refine AP.drawQ rfl rfl (by kernel_rfl) ?_; simp only [go_sem, Nat.reduceAdd, Nat.reduceLeDiff, reduceCtorEq]) | (refine vq_id ?_; simp only [go_sem, Nat.reduceAdd, Nat.reduceLeDiff, reduceCtorEq]) | (refine ⟨by first | omega | (intros; simp_all; done) | (intros; simp_all; omega), ?_⟩; try simp only [go_sem, Nat.reduceAdd, Nat.reduceLeDiff, reduceCtorEq]))
  refine AQ.callI (by kernel_rfl) rfl rfl rfl (hr2) ?_
  repeat (first | refine xPP rfl ?_ | refine xPE rfl ?_ | refine xEP rfl ?_ | refine xEE rfl ?_ | refine AQ.done ?_ | refine AQ.skip (by kernel_rfl) rfl ?_ | refine AQ.s2b (by kernel_rfl) rfl rfl rfl rfl ?_ | refine AQ.mark (by kernel_rfl) rfl rfl rfl rfl rfl rfl rfl ?_ | refine AP.cond_true rfl rfl ?_ | refine AP.cond_false rfl rfl ?_ | (refine AP.region rfl (by kernel_rfl) ?_; simp only [go_sem, Nat.reduceAdd, Nat.reduceLeDiff, reduceCtorEq]) | (refine AP.drawQ rfl rfl (by kernel_rfl) ?_; simp only [go_sem, Nat.reduceAdd, Nat.reduceLeDiff, reduceCtorEq]) | (refine vq_id ?_; simp only [go_sem, Nat.reduceAdd, Nat.reduceLeDiff, reduceCtorEq]) | (refine ⟨by first | omega | (intros; simp_all; done) | (intros; simp_all; omega), ?_⟩; try simp only [go_sem, Nat.reduceAdd, Nat.reduceLeDiff, reduceCtorEq]))
  refine AP.cond_false rfl (by simp only [go_sem, Nat.reduceAdd, Nat.reduceLeDiff, reduceCtorEq]; refine congrArg (fun b => some (AV.im (IV.v (Value.bool b)))) ?_; (first | (simp only [Bool.or_eq_true, Bool.and_eq_true, Bool.not_eq_true', Bool.not_eq_false', Bool.and_eq_false_iff, Bool.or_eq_false_iff, decide_eq_true_eq, decide_eq_false_iff_not, beq_iff_eq, bne_iff_ne, beq_eq_false_iff_ne, bne_eq_false_iff_eq, ne_eq]; omega) | (simp; done) | (simp; omega) | (simp_all; done) | (simp_all; omega))) ?_
  repeat (first | refine xPP rfl ?_ | refine xPE rfl ?_ | refine xEP rfl ?_ | refine xEE rfl ?_ | refine AQ.done ?_ | refine AQ.skip (by kernel_rfl) rfl ?_ | refine AQ.s2b (by kernel_rfl) rfl rfl rfl rfl ?_ | refine AQ.mark (by kernel_rfl) rfl rfl rfl rfl rfl rfl rfl ?_ | refine AP.cond_true rfl rfl ?_ | refine AP.cond_false rfl rfl ?_ | (refine AP.region rfl (by kernel_rfl) ?_; simp only [go_sem, Nat.reduceAdd, Nat.reduceLeDiff, reduceCtorEq, g1, g2]) | (refine AP.drawQ rfl rfl (by kernel_rfl) ?_; simp only [go_sem, Nat.reduceAdd, Nat.reduceLeDiff, reduceCtorEq, g1, g2]) | (refine vq_id ?_; simp only [go_sem, Nat.reduceAdd, Nat.reduceLeDiff, reduceCtorEq, g1, g2]) | (refine ⟨by first | omega | (intros; simp_all; done) | (intros; simp_all; omega), ?_⟩; try simp only [go_sem, Nat.reduceAdd, Nat.reduceLeDiff, reduceCtorEq, g1, g2]))
  refine AP.cond rfl rfl (fun hd => ?_) (fun hd => ?_)
  · have e := hs.resolve_right (fun h => by rw [swapB, hd] at h; cases h.1)
    obtain ⟨_, e1, e2⟩ := e
    subst e1; subst e2
    have hw := wr (x := b.getD u 0 + b.getD w 0) (by have := hbs u; have := hbs w; omega)
    repeat (first | refine xPP rfl ?_ | refine xPE rfl ?_ | refine xEP rfl ?_ | refine xEE rfl ?_ | refine AQ.done ?_ | refine AQ.skip (by kernel_rfl) rfl ?_ | refine AQ.s2b (by kernel_rfl) rfl rfl rfl rfl ?_ | refine AQ.mark (by kernel_rfl) rfl rfl rfl rfl rfl rfl rfl ?_ | refine AP.cond_true rfl rfl ?_ | refine AP.cond_false rfl rfl ?_ | (refine AP.region rfl (by kernel_rfl) ?_; simp only [go_sem, Nat.reduceAdd, Nat.reduceLeDiff, reduceCtorEq]) | (refine AP.drawQ rfl rfl (by kernel_rfl) ?_; simp only [go_sem, Nat.reduceAdd, Nat.reduceLeDiff, reduceCtorEq]) | (refine vq_id ?_; simp only [go_sem, Nat.reduceAdd, Nat.reduceLeDiff, reduceCtorEq]) | (refine ⟨by first | omega | (intros; simp_all; done) | (intros; simp_all; omega), ?_⟩; try simp only [go_sem, Nat.reduceAdd, Nat.reduceLeDiff, reduceCtorEq]))
    refine AP.drawE 27 (Tree.node [] [0, 1, 2, 3, 4, 5, 6, 7, 8, 9, 10, 11, 12, 13, 14, 15, 16, 17, 18, 19, 20, 21] [22] [Tree.node [0, 1, 2, 3, 4] [] [23] [Tree.node [0] [24, 25] [26] [Tree.node [] [] [] []]]]) (by kernel_rfl) rfl (by kernel_rfl) (by kernel_rfl) ?_
    refine vd_node ?_
    simp only [go_sem, Nat.reduceAdd, Nat.reduceLeDiff, reduceCtorEq, g1, g2, g3, g4]
    repeat (with_reducible refine And.intro (by omega) ?_)
    refine AQ.go (by kernel_rfl) ?_
    simp only [go_sem, Nat.reduceAdd, Nat.reduceLeDiff, reduceCtorEq]
    refine AQ.nx rfl ?_
    simp only [go_sem, Nat.reduceAdd, Nat.reduceLeDiff, reduceCtorEq]
    refine AQ.rename 4 5 rfl rfl rfl ?_; simp only [go_sem, Nat.reduceAdd, Nat.reduceLeDiff, reduceCtorEq]
    refine AQ.kill 5 ?_; simp only [go_sem, Nat.reduceAdd, Nat.reduceLeDiff, reduceCtorEq]
    refine AQ.append (hnb := rfl) (rows := lg) (es := 3) (by kernel_rfl) rfl rfl rfl (by rfl) Try.tk115 Try.sz121 (by show Option.map _ (zro Try.prog 121) = _; rw [Try.zr121]; rfl) Try.by121 rfl (by simp only [List.length_cons, List.length_nil]; omega) (by simp only [List.length_cons, List.length_nil]; omega) ?_
    simp only [go_sem, Nat.reduceAdd, Nat.reduceLeDiff, reduceCtorEq]
    refine AQ.nx rfl ?_
    simp only [go_sem, Nat.reduceAdd, Nat.reduceLeDiff, reduceCtorEq]
    refine AQ.go (by kernel_rfl) ?_
    simp only [go_sem, Nat.reduceAdd, Nat.reduceLeDiff, reduceCtorEq]
    refine AQ.nx rfl ?_
    simp only [go_sem, Nat.reduceAdd, Nat.reduceLeDiff, reduceCtorEq]
    repeat (first | refine xPP rfl ?_ | refine xPE rfl ?_ | refine xEP rfl ?_ | refine xEE rfl ?_ | refine AQ.done ?_ | refine AQ.skip (by kernel_rfl) rfl ?_ | refine AQ.s2b (by kernel_rfl) rfl rfl rfl rfl ?_ | refine AQ.mark (by kernel_rfl) rfl rfl rfl rfl rfl rfl rfl ?_ | refine AP.cond_true rfl rfl ?_ | refine AP.cond_false rfl rfl ?_ | (refine AP.region rfl (by kernel_rfl) ?_; simp only [go_sem, Nat.reduceAdd, Nat.reduceLeDiff, reduceCtorEq]) | (refine AP.drawQ rfl rfl (by kernel_rfl) ?_; simp only [go_sem, Nat.reduceAdd, Nat.reduceLeDiff, reduceCtorEq]) | (refine vq_id ?_; simp only [go_sem, Nat.reduceAdd, Nat.reduceLeDiff, reduceCtorEq]) | (refine ⟨by first | omega | (intros; simp_all; done) | (intros; simp_all; omega), ?_⟩; try simp only [go_sem, Nat.reduceAdd, Nat.reduceLeDiff, reduceCtorEq]))
    refine AP.drawE 44 (Tree.node [] [0, 1, 2, 3, 4, 5, 6, 7, 8, 9, 10, 11, 12, 13, 14, 15, 16, 17, 18, 19, 20, 21, 22, 23, 24, 25, 26, 27, 28, 29, 30, 31, 32, 33, 34, 35, 36, 37, 38, 39, 40] [41] [Tree.node [9, 39] [42] [43] [Tree.node [] [] [] []]]) (by kernel_rfl) rfl (by kernel_rfl) (by kernel_rfl) ?_
    refine vd_node ?_
    simp only [go_sem, Nat.reduceAdd, Nat.reduceLeDiff, reduceCtorEq, g1, g2, g3, g4, hw]
    repeat (with_reducible refine And.intro (by omega) ?_)
    refine AQ.go (by kernel_rfl) ?_
    simp only [go_sem, Nat.reduceAdd, Nat.reduceLeDiff, reduceCtorEq]
    repeat (with_reducible refine And.intro (by omega) ?_)
    refine AQ.nx rfl ?_
    simp only [go_sem, Nat.reduceAdd, Nat.reduceLeDiff, reduceCtorEq]
    repeat (with_reducible refine And.intro (by omega) ?_)
    refine AQ.go (by kernel_rfl) ?_
    simp only [go_sem, Nat.reduceAdd, Nat.reduceLeDiff, reduceCtorEq]
    repeat (with_reducible refine And.intro (by omega) ?_)
    refine AQ.nx rfl ?_
    simp only [go_sem, Nat.reduceAdd, Nat.reduceLeDiff, reduceCtorEq]
    repeat (first | refine xPP rfl ?_ | refine xPE rfl ?_ | refine xEP rfl ?_ | refine xEE rfl ?_ | refine AQ.done ?_ | refine AQ.skip (by kernel_rfl) rfl ?_ | refine AQ.s2b (by kernel_rfl) rfl rfl rfl rfl ?_ | refine AQ.mark (by kernel_rfl) rfl rfl rfl rfl rfl rfl rfl ?_ | refine AP.cond_true rfl rfl ?_ | refine AP.cond_false rfl rfl ?_ | (refine AP.region rfl (by kernel_rfl) ?_; simp only [go_sem, Nat.reduceAdd, Nat.reduceLeDiff, reduceCtorEq]) | (refine AP.drawQ rfl rfl (by kernel_rfl) ?_; simp only [go_sem, Nat.reduceAdd, Nat.reduceLeDiff, reduceCtorEq]) | (refine vq_id ?_; simp only [go_sem, Nat.reduceAdd, Nat.reduceLeDiff, reduceCtorEq]) | (refine ⟨by first | omega | (intros; simp_all; done) | (intros; simp_all; omega), ?_⟩; try simp only [go_sem, Nat.reduceAdd, Nat.reduceLeDiff, reduceCtorEq]))
    refine AE.ret rfl ⟨rfl, rfl, trivial⟩ ⟨?_, rfl⟩
    rw [intR_set1 a w u (by omega), intR_set1 b u _ (by omega), intR_set1 c u _ (by omega), min_if]
    simp only [List.length_set, List.length_append, List.length_cons, List.length_nil]
    rfl
  · have e := hs.resolve_left (fun h => by rw [swapB, hd] at h; cases h.1)
    obtain ⟨_, e1, e2⟩ := e
    subst e1; subst e2
    have hw := wr (x := b.getD u 0 + b.getD w 0) (by have := hbs u; have := hbs w; omega)
    repeat (first | refine xPP rfl ?_ | refine xPE rfl ?_ | refine xEP rfl ?_ | refine xEE rfl ?_ | refine AQ.done ?_ | refine AQ.skip (by kernel_rfl) rfl ?_ | refine AQ.s2b (by kernel_rfl) rfl rfl rfl rfl ?_ | refine AQ.mark (by kernel_rfl) rfl rfl rfl rfl rfl rfl rfl ?_ | refine AP.cond_true rfl rfl ?_ | refine AP.cond_false rfl rfl ?_ | (refine AP.region rfl (by kernel_rfl) ?_; simp only [go_sem, Nat.reduceAdd, Nat.reduceLeDiff, reduceCtorEq]) | (refine AP.drawQ rfl rfl (by kernel_rfl) ?_; simp only [go_sem, Nat.reduceAdd, Nat.reduceLeDiff, reduceCtorEq]) | (refine vq_id ?_; simp only [go_sem, Nat.reduceAdd, Nat.reduceLeDiff, reduceCtorEq]) | (refine ⟨by first | omega | (intros; simp_all; done) | (intros; simp_all; omega), ?_⟩; try simp only [go_sem, Nat.reduceAdd, Nat.reduceLeDiff, reduceCtorEq]))
    refine AP.drawE 27 (Tree.node [] [0, 1, 2, 3, 4, 5, 6, 7, 8, 9, 10, 11, 12, 13, 14, 15, 16, 17, 18, 19, 20, 21] [22] [Tree.node [0, 1, 2, 3, 4] [] [23] [Tree.node [0] [24, 25] [26] [Tree.node [] [] [] []]]]) (by kernel_rfl) rfl (by kernel_rfl) (by kernel_rfl) ?_
    refine vd_node ?_
    simp only [go_sem, Nat.reduceAdd, Nat.reduceLeDiff, reduceCtorEq, g1, g2, g3, g4]
    repeat (with_reducible refine And.intro (by omega) ?_)
    refine AQ.go (by kernel_rfl) ?_
    simp only [go_sem, Nat.reduceAdd, Nat.reduceLeDiff, reduceCtorEq]
    refine AQ.nx rfl ?_
    simp only [go_sem, Nat.reduceAdd, Nat.reduceLeDiff, reduceCtorEq]
    refine AQ.rename 4 5 rfl rfl rfl ?_; simp only [go_sem, Nat.reduceAdd, Nat.reduceLeDiff, reduceCtorEq]
    refine AQ.kill 5 ?_; simp only [go_sem, Nat.reduceAdd, Nat.reduceLeDiff, reduceCtorEq]
    refine AQ.append (hnb := rfl) (rows := lg) (es := 3) (by kernel_rfl) rfl rfl rfl (by rfl) Try.tk115 Try.sz121 (by show Option.map _ (zro Try.prog 121) = _; rw [Try.zr121]; rfl) Try.by121 rfl (by simp only [List.length_cons, List.length_nil]; omega) (by simp only [List.length_cons, List.length_nil]; omega) ?_
    simp only [go_sem, Nat.reduceAdd, Nat.reduceLeDiff, reduceCtorEq]
    refine AQ.nx rfl ?_
    simp only [go_sem, Nat.reduceAdd, Nat.reduceLeDiff, reduceCtorEq]
    refine AQ.go (by kernel_rfl) ?_
    simp only [go_sem, Nat.reduceAdd, Nat.reduceLeDiff, reduceCtorEq]
    refine AQ.nx rfl ?_
    simp only [go_sem, Nat.reduceAdd, Nat.reduceLeDiff, reduceCtorEq]
    repeat (first | refine xPP rfl ?_ | refine xPE rfl ?_ | refine xEP rfl ?_ | refine xEE rfl ?_ | refine AQ.done ?_ | refine AQ.skip (by kernel_rfl) rfl ?_ | refine AQ.s2b (by kernel_rfl) rfl rfl rfl rfl ?_ | refine AQ.mark (by kernel_rfl) rfl rfl rfl rfl rfl rfl rfl ?_ | refine AP.cond_true rfl rfl ?_ | refine AP.cond_false rfl rfl ?_ | (refine AP.region rfl (by kernel_rfl) ?_; simp only [go_sem, Nat.reduceAdd, Nat.reduceLeDiff, reduceCtorEq]) | (refine AP.drawQ rfl rfl (by kernel_rfl) ?_; simp only [go_sem, Nat.reduceAdd, Nat.reduceLeDiff, reduceCtorEq]) | (refine vq_id ?_; simp only [go_sem, Nat.reduceAdd, Nat.reduceLeDiff, reduceCtorEq]) | (refine ⟨by first | omega | (intros; simp_all; done) | (intros; simp_all; omega), ?_⟩; try simp only [go_sem, Nat.reduceAdd, Nat.reduceLeDiff, reduceCtorEq]))
    refine AP.drawE 44 (Tree.node [] [0, 1, 2, 3, 4, 5, 6, 7, 8, 9, 10, 11, 12, 13, 14, 15, 16, 17, 18, 19, 20, 21, 22, 23, 24, 25, 26, 27, 28, 29, 30, 31, 32, 33, 34, 35, 36, 37, 38, 39, 40] [41] [Tree.node [9, 39] [42] [43] [Tree.node [] [] [] []]]) (by kernel_rfl) rfl (by kernel_rfl) (by kernel_rfl) ?_
    refine vd_node ?_
    simp only [go_sem, Nat.reduceAdd, Nat.reduceLeDiff, reduceCtorEq, g1, g2, g3, g4, hw]
    repeat (with_reducible refine And.intro (by omega) ?_)
    refine AQ.go (by kernel_rfl) ?_
    simp only [go_sem, Nat.reduceAdd, Nat.reduceLeDiff, reduceCtorEq]
    repeat (with_reducible refine And.intro (by omega) ?_)
    refine AQ.nx rfl ?_
    simp only [go_sem, Nat.reduceAdd, Nat.reduceLeDiff, reduceCtorEq]
    repeat (with_reducible refine And.intro (by omega) ?_)
    refine AQ.go (by kernel_rfl) ?_
    simp only [go_sem, Nat.reduceAdd, Nat.reduceLeDiff, reduceCtorEq]
    repeat (with_reducible refine And.intro (by omega) ?_)
    refine AQ.nx rfl ?_
    simp only [go_sem, Nat.reduceAdd, Nat.reduceLeDiff, reduceCtorEq]
    repeat (first | refine xPP rfl ?_ | refine xPE rfl ?_ | refine xEP rfl ?_ | refine xEE rfl ?_ | refine AQ.done ?_ | refine AQ.skip (by kernel_rfl) rfl ?_ | refine AQ.s2b (by kernel_rfl) rfl rfl rfl rfl ?_ | refine AQ.mark (by kernel_rfl) rfl rfl rfl rfl rfl rfl rfl ?_ | refine AP.cond_true rfl rfl ?_ | refine AP.cond_false rfl rfl ?_ | (refine AP.region rfl (by kernel_rfl) ?_; simp only [go_sem, Nat.reduceAdd, Nat.reduceLeDiff, reduceCtorEq]) | (refine AP.drawQ rfl rfl (by kernel_rfl) ?_; simp only [go_sem, Nat.reduceAdd, Nat.reduceLeDiff, reduceCtorEq]) | (refine vq_id ?_; simp only [go_sem, Nat.reduceAdd, Nat.reduceLeDiff, reduceCtorEq]) | (refine ⟨by first | omega | (intros; simp_all; done) | (intros; simp_all; omega), ?_⟩; try simp only [go_sem, Nat.reduceAdd, Nat.reduceLeDiff, reduceCtorEq]))
    refine AE.ret rfl ⟨rfl, rfl, trivial⟩ ⟨?_, rfl⟩
    rw [intR_set1 a w u (by omega), intR_set1 b u _ (by omega), intR_set1 c u _ (by omega), min_if]
    simp only [List.length_set, List.length_append, List.length_cons, List.length_nil]
    rfl
end Go.Proofs.Ytfgffpkdjmeaoaa
end

section
namespace Go.Proofs.Ytfgffpkdjmeaoaa
open Go Go.AL Go.RowKit
set_option maxRecDepth 10000
set_option maxHeartbeats 4000000
def aw1 : Tr := Tr.put [98] 2 .nil
def aw2 : Tr := Tr.put [97] 1 aw1
theorem awake_spec : PFn Try.prog 10 [] (Bv true) := by
  have hu := union_ok (ids 4) (List.replicate 4 1) (ids 4) [] 3 1 0 0 3 1 3 1 (.here (by decide) (by decide)) (.here (by decide) (by decide)) (by decide) (.inr ⟨by decide, rfl, rfl⟩) (by decide) (by decide) (by decide) (by decide) (fun i => by
    rcases Nat.lt_or_ge i 4 with h | h
    · have : i = 0 ∨ i = 1 ∨ i = 2 ∨ i = 3 := by omega
      rcases this with rfl | rfl | rfl | rfl <;> decide
    · rw [List.getD_eq_getElem?_getD, List.getElem?_eq_none (by simpa using h)]; decide)
  have hf := setsFind_spec ((ids 4).set 1 (3 : Nat)) ((List.replicate 4 1).set 3 ((List.replicate 4 1).getD 3 0 + (List.replicate 4 1).getD 1 0)) ((ids 4).set 3 (min ((ids 4).getD 3 0) ((ids 4).getD 1 0))) [logRow (List.replicate 4 1) (ids 4) 3 1] 0 3 3 (.here (by decide) (by decide)) (by decide) (by decide)
  have hc := count_spec' ((ids 4).set 1 (3 : Nat)) ((List.replicate 4 1).set 3 ((List.replicate 4 1).getD 3 0 + (List.replicate 4 1).getD 1 0)) ((ids 4).set 3 (min ((ids 4).getD 3 0) ((ids 4).getD 1 0))) [logRow (List.replicate 4 1) (ids 4) 3 1] (by decide) (by decide)
  refine ACall.walk [0, 1, 2, 3, 4, 5, 6, 7, 9, 25] [1] Try.func10 rfl Try.ntmps10 (by kernel_rfl) (by rfl) rfl fun W own I0 φ0 => ?_
  repeat (first | refine xPP rfl ?_ | refine xPE rfl ?_ | refine xEP rfl ?_ | refine xEE rfl ?_ | refine AQ.done ?_ | refine AQ.skip (by kernel_rfl) rfl ?_ | refine AQ.s2b (by kernel_rfl) rfl rfl rfl rfl ?_ | refine AQ.mark (by kernel_rfl) rfl rfl rfl rfl rfl rfl rfl ?_ | refine AP.cond_true rfl rfl ?_ | refine AP.cond_false rfl rfl ?_ | (refine AP.region rfl (by kernel_rfl) ?_; simp only [go_sem, Nat.reduceAdd, Nat.reduceLeDiff, reduceCtorEq]) | (refine AP.drawQ rfl rfl (by kernel_rfl) ?_; simp only [go_sem, Nat.reduceAdd, Nat.reduceLeDiff, reduceCtorEq]) | (refine vq_id ?_; simp only [go_sem, Nat.reduceAdd, Nat.reduceLeDiff, reduceCtorEq]) | (refine ⟨by first | omega | (intros; simp_all; done) | (intros; simp_all; omega), ?_⟩; try simp only [go_sem, Nat.reduceAdd, Nat.reduceLeDiff, reduceCtorEq]))
  refine AQ.fn (by kernel_rfl) rfl rfl rfl (Put_spec .nil [98] 2 (by decide)) rfl ?_
  repeat (first | refine xPP rfl ?_ | refine xPE rfl ?_ | refine xEP rfl ?_ | refine xEE rfl ?_ | refine AQ.done ?_ | refine AQ.skip (by kernel_rfl) rfl ?_ | refine AQ.s2b (by kernel_rfl) rfl rfl rfl rfl ?_ | refine AQ.mark (by kernel_rfl) rfl rfl rfl rfl rfl rfl rfl ?_ | refine AP.cond_true rfl rfl ?_ | refine AP.cond_false rfl rfl ?_ | (refine AP.region rfl (by kernel_rfl) ?_; simp only [go_sem, Nat.reduceAdd, Nat.reduceLeDiff, reduceCtorEq]) | (refine AP.drawQ rfl rfl (by kernel_rfl) ?_; simp only [go_sem, Nat.reduceAdd, Nat.reduceLeDiff, reduceCtorEq]) | (refine vq_id ?_; simp only [go_sem, Nat.reduceAdd, Nat.reduceLeDiff, reduceCtorEq]) | (refine ⟨by first | omega | (intros; simp_all; done) | (intros; simp_all; omega), ?_⟩; try simp only [go_sem, Nat.reduceAdd, Nat.reduceLeDiff, reduceCtorEq]))
  refine AQ.fn (by kernel_rfl) rfl rfl rfl (Put_spec aw1 [97] 1 (by decide)) rfl ?_
  repeat (first | refine xPP rfl ?_ | refine xPE rfl ?_ | refine xEP rfl ?_ | refine xEE rfl ?_ | refine AQ.done ?_ | refine AQ.skip (by kernel_rfl) rfl ?_ | refine AQ.s2b (by kernel_rfl) rfl rfl rfl rfl ?_ | refine AQ.mark (by kernel_rfl) rfl rfl rfl rfl rfl rfl rfl ?_ | refine AP.cond_true rfl rfl ?_ | refine AP.cond_false rfl rfl ?_ | (refine AP.region rfl (by kernel_rfl) ?_; simp only [go_sem, Nat.reduceAdd, Nat.reduceLeDiff, reduceCtorEq]) | (refine AP.drawQ rfl rfl (by kernel_rfl) ?_; simp only [go_sem, Nat.reduceAdd, Nat.reduceLeDiff, reduceCtorEq]) | (refine vq_id ?_; simp only [go_sem, Nat.reduceAdd, Nat.reduceLeDiff, reduceCtorEq]) | (refine ⟨by first | omega | (intros; simp_all; done) | (intros; simp_all; omega), ?_⟩; try simp only [go_sem, Nat.reduceAdd, Nat.reduceLeDiff, reduceCtorEq]))
  refine AQ.fn (by kernel_rfl) rfl rfl rfl (At_in aw2 0 (by decide) (by decide)) rfl ?_
  repeat (first | refine xPP rfl ?_ | refine xPE rfl ?_ | refine xEP rfl ?_ | refine xEE rfl ?_ | refine AQ.done ?_ | refine AQ.skip (by kernel_rfl) rfl ?_ | refine AQ.s2b (by kernel_rfl) rfl rfl rfl rfl ?_ | refine AQ.mark (by kernel_rfl) rfl rfl rfl rfl rfl rfl rfl ?_ | refine AP.cond_true rfl rfl ?_ | refine AP.cond_false rfl rfl ?_ | (refine AP.region rfl (by kernel_rfl) ?_; simp only [go_sem, Nat.reduceAdd, Nat.reduceLeDiff, reduceCtorEq]) | (refine AP.drawQ rfl rfl (by kernel_rfl) ?_; simp only [go_sem, Nat.reduceAdd, Nat.reduceLeDiff, reduceCtorEq]) | (refine vq_id ?_; simp only [go_sem, Nat.reduceAdd, Nat.reduceLeDiff, reduceCtorEq]) | (refine ⟨by first | omega | (intros; simp_all; done) | (intros; simp_all; omega), ?_⟩; try simp only [go_sem, Nat.reduceAdd, Nat.reduceLeDiff, reduceCtorEq]))
  refine AQ.callv (by kernel_rfl) rfl rfl rfl (newSets_spec 4 (by omega)) fun r' H' ⟨e1, e2⟩ => ?_
  subst e1; subst e2
  simp only [go_sem, Nat.reduceAdd, Nat.reduceLeDiff, reduceCtorEq, setsH]
  repeat (first | refine xPP rfl ?_ | refine xPE rfl ?_ | refine xEP rfl ?_ | refine xEE rfl ?_ | refine AQ.done ?_ | refine AQ.skip (by kernel_rfl) rfl ?_ | refine AQ.s2b (by kernel_rfl) rfl rfl rfl rfl ?_ | refine AQ.mark (by kernel_rfl) rfl rfl rfl rfl rfl rfl rfl ?_ | refine AP.cond_true rfl rfl ?_ | refine AP.cond_false rfl rfl ?_ | (refine AP.region rfl (by kernel_rfl) ?_; simp only [go_sem, Nat.reduceAdd, Nat.reduceLeDiff, reduceCtorEq]) | (refine AP.drawQ rfl rfl (by kernel_rfl) ?_; simp only [go_sem, Nat.reduceAdd, Nat.reduceLeDiff, reduceCtorEq]) | (refine vq_id ?_; simp only [go_sem, Nat.reduceAdd, Nat.reduceLeDiff, reduceCtorEq]) | (refine ⟨by first | omega | (intros; simp_all; done) | (intros; simp_all; omega), ?_⟩; try simp only [go_sem, Nat.reduceAdd, Nat.reduceLeDiff, reduceCtorEq]))
  refine AQ.callH [(4, 5), (3, 4), (2, 3), (1, 2), (0, 1)] (by kernel_rfl) rfl rfl rfl rfl rfl rfl (by exact ⟨rfl, rfl, rfl, rfl, rfl, trivial⟩) rfl hu ?_
  rintro r' H' ⟨e1, e2⟩
  subst e1; subst e2
  refine ⟨rfl, ?_⟩
  simp only [go_sem, Nat.reduceAdd, Nat.reduceLeDiff, reduceCtorEq, setsHi]
  repeat (first | refine xPP rfl ?_ | refine xPE rfl ?_ | refine xEP rfl ?_ | refine xEE rfl ?_ | refine AQ.done ?_ | refine AQ.skip (by kernel_rfl) rfl ?_ | refine AQ.s2b (by kernel_rfl) rfl rfl rfl rfl ?_ | refine AQ.mark (by kernel_rfl) rfl rfl rfl rfl rfl rfl rfl ?_ | refine AP.cond_true rfl rfl ?_ | refine AP.cond_false rfl rfl ?_ | (refine AP.region rfl (by kernel_rfl) ?_; simp only [go_sem, Nat.reduceAdd, Nat.reduceLeDiff, reduceCtorEq]) | (refine AP.drawQ rfl rfl (by kernel_rfl) ?_; simp only [go_sem, Nat.reduceAdd, Nat.reduceLeDiff, reduceCtorEq]) | (refine vq_id ?_; simp only [go_sem, Nat.reduceAdd, Nat.reduceLeDiff, reduceCtorEq]) | (refine ⟨by first | omega | (intros; simp_all; done) | (intros; simp_all; omega), ?_⟩; try simp only [go_sem, Nat.reduceAdd, Nat.reduceLeDiff, reduceCtorEq]))
  refine AQ.rename 11 5 rfl rfl rfl ?_
  simp only [go_sem, Nat.reduceAdd, Nat.reduceLeDiff, reduceCtorEq]
  refine AQ.callH [(4, 5), (3, 4), (2, 3), (1, 2), (0, 1)] (by kernel_rfl) rfl rfl rfl rfl rfl rfl (by exact ⟨rfl, rfl, rfl, rfl, rfl, trivial⟩) rfl hf ?_
  rintro r' H' ⟨e1, e2⟩
  subst e1; subst e2
  refine ⟨rfl, ?_⟩
  simp only [go_sem, Nat.reduceAdd, Nat.reduceLeDiff, reduceCtorEq, setsH]
  repeat (first | refine xPP rfl ?_ | refine xPE rfl ?_ | refine xEP rfl ?_ | refine xEE rfl ?_ | refine AQ.done ?_ | refine AQ.skip (by kernel_rfl) rfl ?_ | refine AQ.s2b (by kernel_rfl) rfl rfl rfl rfl ?_ | refine AQ.mark (by kernel_rfl) rfl rfl rfl rfl rfl rfl rfl ?_ | refine AP.cond_true rfl rfl ?_ | refine AP.cond_false rfl rfl ?_ | (refine AP.region rfl (by kernel_rfl) ?_; simp only [go_sem, Nat.reduceAdd, Nat.reduceLeDiff, reduceCtorEq]) | (refine AP.drawQ rfl rfl (by kernel_rfl) ?_; simp only [go_sem, Nat.reduceAdd, Nat.reduceLeDiff, reduceCtorEq]) | (refine vq_id ?_; simp only [go_sem, Nat.reduceAdd, Nat.reduceLeDiff, reduceCtorEq]) | (refine ⟨by first | omega | (intros; simp_all; done) | (intros; simp_all; omega), ?_⟩; try simp only [go_sem, Nat.reduceAdd, Nat.reduceLeDiff, reduceCtorEq]))
  refine AQ.guard_yes rfl ?_
  refine AQ.fn (by kernel_rfl) rfl rfl rfl (Rank_spec aw2 [98] (by decide)) rfl ?_
  repeat (first | refine xPP rfl ?_ | refine xPE rfl ?_ | refine xEP rfl ?_ | refine xEE rfl ?_ | refine AQ.done ?_ | refine AQ.skip (by kernel_rfl) rfl ?_ | refine AQ.s2b (by kernel_rfl) rfl rfl rfl rfl ?_ | refine AQ.mark (by kernel_rfl) rfl rfl rfl rfl rfl rfl rfl ?_ | refine AP.cond_true rfl rfl ?_ | refine AP.cond_false rfl rfl ?_ | (refine AP.region rfl (by kernel_rfl) ?_; simp only [go_sem, Nat.reduceAdd, Nat.reduceLeDiff, reduceCtorEq]) | (refine AP.drawQ rfl rfl (by kernel_rfl) ?_; simp only [go_sem, Nat.reduceAdd, Nat.reduceLeDiff, reduceCtorEq]) | (refine vq_id ?_; simp only [go_sem, Nat.reduceAdd, Nat.reduceLeDiff, reduceCtorEq]) | (refine ⟨by first | omega | (intros; simp_all; done) | (intros; simp_all; omega), ?_⟩; try simp only [go_sem, Nat.reduceAdd, Nat.reduceLeDiff, reduceCtorEq]))
  refine AQ.guard_yes rfl ?_
  refine AQ.callH [(4, 5), (3, 4), (2, 3), (1, 2), (0, 1)] (by kernel_rfl) rfl rfl rfl rfl rfl rfl (by exact ⟨rfl, rfl, rfl, rfl, rfl, trivial⟩) rfl hc ?_
  rintro r' H' ⟨e1, e2⟩
  subst e1; subst e2
  refine ⟨rfl, ?_⟩
  simp only [go_sem, Nat.reduceAdd, Nat.reduceLeDiff, reduceCtorEq, setsH]
  repeat (first | refine xPP rfl ?_ | refine xPE rfl ?_ | refine xEP rfl ?_ | refine xEE rfl ?_ | refine AQ.done ?_ | refine AQ.skip (by kernel_rfl) rfl ?_ | refine AQ.s2b (by kernel_rfl) rfl rfl rfl rfl ?_ | refine AQ.mark (by kernel_rfl) rfl rfl rfl rfl rfl rfl rfl ?_ | refine AP.cond_true rfl rfl ?_ | refine AP.cond_false rfl rfl ?_ | (refine AP.region rfl (by kernel_rfl) ?_; simp only [go_sem, Nat.reduceAdd, Nat.reduceLeDiff, reduceCtorEq]) | (refine AP.drawQ rfl rfl (by kernel_rfl) ?_; simp only [go_sem, Nat.reduceAdd, Nat.reduceLeDiff, reduceCtorEq]) | (refine vq_id ?_; simp only [go_sem, Nat.reduceAdd, Nat.reduceLeDiff, reduceCtorEq]) | (refine ⟨by first | omega | (intros; simp_all; done) | (intros; simp_all; omega), ?_⟩; try simp only [go_sem, Nat.reduceAdd, Nat.reduceLeDiff, reduceCtorEq]))
  exact AE.ret0 rfl ⟨rfl, trivial⟩ rfl ⟨rfl, rfl⟩
end Go.Proofs.Ytfgffpkdjmeaoaa
end

section
namespace Go.Proofs.Ytfgffpkdjmeaoaa.IntT
open Go Go.AL Go.RowKit
set_option maxRecDepth 10000
set_option maxHeartbeats 4000000
theorem allF_spec {nb l m b : Nat} {Hs : Nat → Heap} {Hx : Heap} (t : Tr) (hy : Yields Try.prog nb l t.toList.length (itemS t.toList) Hs m Hx) (hb : lk (Hs 0) b = some (.var 108 [.fn 54 [Tv t] []])) :
    ACallN Try.prog nb 55 [Yl l, .ob b 0] (Hs 0) (rEnd Hs m Hx t.toList.length) := by
  have hw := walk_spec hy t 0 (Nat.zero_le _) (fun j _ => by rw [Nat.zero_add])
  rw [Nat.zero_add] at hw
  refine ACallN.walk [0, 1] [] Try.func55 rfl Try.ntmps55 (by kernel_rfl) (by rfl) fun W own I0 φ0 => ?_
  repeat (first | refine xPP rfl ?_ | refine xPE rfl ?_ | refine xEP rfl ?_ | refine xEE rfl ?_ | refine AQ.done ?_ | refine AQ.skip (by kernel_rfl) rfl ?_ | refine AQ.s2b (by kernel_rfl) rfl rfl rfl rfl ?_ | refine AQ.mark (by kernel_rfl) rfl rfl rfl rfl rfl rfl rfl ?_ | refine AP.cond_true rfl rfl ?_ | refine AP.cond_false rfl rfl ?_ | (refine AP.region rfl (by kernel_rfl) ?_; simp only [go_sem, Nat.reduceAdd, Nat.reduceLeDiff, reduceCtorEq, hb]) | (refine AP.drawQ rfl rfl (by kernel_rfl) ?_; simp only [go_sem, Nat.reduceAdd, Nat.reduceLeDiff, reduceCtorEq, hb]) | (refine vq_id ?_; simp only [go_sem, Nat.reduceAdd, Nat.reduceLeDiff, reduceCtorEq, hb]) | (refine ⟨by first | omega | (intros; simp_all; done) | (intros; simp_all; omega), ?_⟩; try simp only [go_sem, Nat.reduceAdd, Nat.reduceLeDiff, reduceCtorEq, hb]))
  refine AQ.callN nb (Nat.ble_eq_true_of_le (Nat.le_refl _)) (by kernel_rfl) rfl rfl rfl hw (fun r H' h => yLow hy _ _ r H' h) fun r H' h => ?_
  simp only [go_sem, Nat.reduceAdd, Nat.reduceLeDiff, reduceCtorEq]
  repeat (first | refine xPP rfl ?_ | refine xPE rfl ?_ | refine xEP rfl ?_ | refine xEE rfl ?_ | refine AQ.done ?_ | refine AQ.skip (by kernel_rfl) rfl ?_ | refine AQ.s2b (by kernel_rfl) rfl rfl rfl rfl ?_ | refine AQ.mark (by kernel_rfl) rfl rfl rfl rfl rfl rfl rfl ?_ | refine AP.cond_true rfl rfl ?_ | refine AP.cond_false rfl rfl ?_ | (refine AP.region rfl (by kernel_rfl) ?_; simp only [go_sem, Nat.reduceAdd, Nat.reduceLeDiff, reduceCtorEq]) | (refine AP.drawQ rfl rfl (by kernel_rfl) ?_; simp only [go_sem, Nat.reduceAdd, Nat.reduceLeDiff, reduceCtorEq]) | (refine vq_id ?_; simp only [go_sem, Nat.reduceAdd, Nat.reduceLeDiff, reduceCtorEq]) | (refine ⟨by first | omega | (intros; simp_all; done) | (intros; simp_all; omega), ?_⟩; try simp only [go_sem, Nat.reduceAdd, Nat.reduceLeDiff, reduceCtorEq]))
  rcases h with ⟨h1, rfl, rfl⟩ | ⟨h1, rfl, rfl⟩
  · exact AE.fall rfl trivial (.inl ⟨h1, rfl⟩)
  · exact AE.fall rfl trivial (.inr ⟨h1, rfl⟩)
theorem all_spec (t : Tr) : ACall Try.prog 12 [.agg [Tv t]] [] (fun r' H' => H' = [(0, .var 108 [.fn 54 [Tv t] []])] ∧ r' = .fn 55 [] [.ob 0 0]) := by
  refine ACall.walk [0, 1, 2, 3] [3] Try.func12 rfl Try.ntmps12 (by kernel_rfl) (by rfl) rfl fun W own I0 φ0 => ?_
  repeat (first | refine xPP rfl ?_ | refine xPE rfl ?_ | refine xEP rfl ?_ | refine xEE rfl ?_ | refine AQ.done ?_ | refine AQ.skip (by kernel_rfl) rfl ?_ | refine AQ.s2b (by kernel_rfl) rfl rfl rfl rfl ?_ | refine AQ.mark (by kernel_rfl) rfl rfl rfl rfl rfl rfl rfl ?_ | refine AP.cond_true rfl rfl ?_ | refine AP.cond_false rfl rfl ?_ | (refine AP.region rfl (by kernel_rfl) ?_; simp only [go_sem, Nat.reduceAdd, Nat.reduceLeDiff, reduceCtorEq]) | (refine AP.drawQ rfl rfl (by kernel_rfl) ?_; simp only [go_sem, Nat.reduceAdd, Nat.reduceLeDiff, reduceCtorEq]) | (refine vq_id ?_; simp only [go_sem, Nat.reduceAdd, Nat.reduceLeDiff, reduceCtorEq]) | (refine ⟨by first | omega | (intros; simp_all; done) | (intros; simp_all; omega), ?_⟩; try simp only [go_sem, Nat.reduceAdd, Nat.reduceLeDiff, reduceCtorEq]))
  exact AE.ret rfl ⟨rfl, trivial⟩ ⟨rfl, rfl⟩
def mKs (L : List Ent) : List Value := L.map fun e => .int .i64 e.1
def mVs (L : List Ent) : List AV := L.map fun e => Iv e.2
theorem mKs_ok (L : List Ent) : KeysOk (.int .i64) (mKs L) := fun k hk => by obtain ⟨e, _, rfl⟩ := List.mem_map.1 hk; exact rfl
theorem mKs_mem {L : List Ent} {n : Int} : Value.int .i64 n ∈ mKs L ↔ ∃ e ∈ L, e.1 = n := by
  unfold mKs
  rw [List.mem_map]
  constructor
  · rintro ⟨e, he, h⟩; cases h; exact ⟨e, he, rfl⟩
  · rintro ⟨e, he, rfl⟩; exact ⟨e, he, rfl⟩
theorem mVs_men (b : Nat) : ∀ L : List Ent, AV.mens b (mVs L) = false
  | [] => rfl
  | e :: r => by have := mVs_men b r; simp only [mVs, List.map_cons, AV.mens, AV.men, Bool.false_or] at this ⊢; exact this
theorem mKs_len (L : List Ent) : (mKs L).length = L.length := by simp [mKs]
theorem mKs_uniq {L : List Ent} (h : Keys L) {j : Nat} {n v : Int} (hj : L[j]? = some (n, v)) (i : Nat) (hi : (mKs L)[i]? = some (.int .i64 n)) : i = j := by
  unfold mKs at hi
  rw [List.getElem?_map] at hi
  cases hq : L[i]? with
  | none => rw [hq] at hi; cases hi
  | some e =>
    rw [hq] at hi
    simp only [Option.map_some, Option.some.injEq, Value.int.injEq, true_and] at hi
    exact key_uniq h hq hj hi
def hR (T : Tr) (L : List Ent) : Heap := [(3, .var 27 [.mp 2]), (2, .var (.map (mKs L)) (mVs L)), (1, .var 26 [Tv T]), (0, .var 4 [Bv false])]
theorem intR_get (l : List Int) (k : Nat) (h : k < l.length) : (intR l).getD k [] = [Ii (l.getD k 0)] := by
  simp [intR, List.getD_eq_getElem?_getD, h]
/-- the slots that a round finds -/
def ELr (l : List Int) (most : Nat) : Env := [(3, .im (.pt [.v (.int .u8 most)])), (4, .ob 0 0), (5, .ob 1 0), (6, .ob 3 0), (10, .ob 5 0), (11, .ob 6 0)]
def bef (T : Tr) (k : Nat) : Int := if k = 0 then 0 else (T.toList.getD (k - 1) (0, 0)).1
noncomputable def runS (l : List Int) (most : Nat) (T : Tr) (L : List Ent) (q : Nat) (st : LpSt) (k : Nat) : Heap :=
  [(7, .lp q 99 st Try.f3 [0, 1, 0, 1, 1, 1, 1, 1, 1, 1, 1] [40, 41] (ELr l most)), (6, .var 3 [Iv (bef T k)]), (5, .var 3 [Iv k]), (4, .var 108 [.fn 54 [Tv T] []]), (3, .var 27 [.mp 2]), (2, .var (.map (mKs L)) (mVs L)), (1, .var 26 [Tv T]), (0, .var 4 [Bv false])]
noncomputable def runH (l : List Int) (most : Nat) (T : Tr) (L : List Ent) (q : Nat) (k : Nat) : Heap := runS l most T L q .ready k
noncomputable def runX (l : List Int) (most : Nat) (T : Tr) (L : List Ent) (q : Nat) : Heap := runS l most T L q (.done (.exit 2)) (most + 1)
theorem runs_round (most : Nat) (l : List Int) (T : Tr) (L : List Ent) (hok : RunOk T L) (hsz : T.size ≤ 2000) (hm8 : most < 256) (q k : Nat) (hk : k < T.toList.length) :
    (k < most → YCallN Try.prog 7 q (itemS T.toList k) (runH l most T L q k) (fun r H' => r = Bv true ∧ H' = runH l most T L q (k + 1))) ∧
    (most ≤ k → k = most → YCallN Try.prog 7 q (itemS T.toList k) (runH l most T L q k) (fun r H' => r = Bv false ∧ H' = runX l most T L q)) := by
  have hlen := Tr.toList_len T
  obtain ⟨e, he⟩ : ∃ e, T.toList.getD k (0, 0) = e := ⟨_, rfl⟩
  have hek : T.toList[k]? = some e := by rw [← he, List.getD_eq_getElem?_getD, List.getElem?_eq_getElem hk]; rfl
  obtain ⟨j, hj⟩ := List.mem_iff_getElem?.1 ((hok.mem e).1 (List.mem_of_getElem? hek))
  have hj' : L[j]? = some (e.1, e.2) := hj
  have hx : (mVs L)[j]? = some (Iv e.2) := by rw [mVs, List.getElem?_map, hj]; rfl
  have hc : (decide ((0 : Int) < (k : Int)) && decide (e.1 ≤ bef T k)) = false := by
    by_cases h0 : k = 0
    · subst h0; rfl
    · have hp := List.pairwise_iff_getElem.1 hok.srt (k - 1) k (by omega) hk (by omega)
      have h1 : T.toList[k] = e := (List.getElem?_eq_some_iff.1 hek).2
      have h2 : bef T k = T.toList[k - 1].1 := by
        rw [bef, if_neg h0, List.getD_eq_getElem?_getD, List.getElem?_eq_getElem (by omega)]; rfl
      rw [h1] at hp
      simp only [ltS, decide_eq_true_eq] at hp
      rw [h2, decide_eq_false (show ¬ e.1 ≤ T.toList[k - 1].1 by omega), Bool.and_false]
  have hb : bef T (k + 1) = e.1 := by rw [bef, if_neg (by omega), Nat.add_sub_cancel, he]
  have hw := wr (x := (k : Int) + 1) (by omega)
  have hw2 := wr (x := (most : Int)) (by omega)
  refine ⟨fun hm => ?_, fun hm hme => ?_⟩
  · have hmost : decide ((most : Int) < (k : Int) + 1) = false := decide_eq_false (by omega)
    refine YCallN.walk (b := 7) [0, 1, 3, 4, 5, 6, 7, 8, 9, 10, 11, 12, 13, 14, 17, 20, 21, 22, 23, 38, 39, 40, 41, 55, 62] [] rfl rfl rfl fun w own I0 φ0 => ?_
    simp only [go_sem, Nat.reduceAdd, Nat.reduceLeDiff, reduceCtorEq, itemS, zipP, runH, runS, he, ELr]
    repeat (first | refine xPP rfl ?_ | refine xPE rfl ?_ | refine xEP rfl ?_ | refine xEE rfl ?_ | refine AQ.done ?_ | refine AQ.skip (by kernel_rfl) rfl ?_ | refine AQ.s2b (by kernel_rfl) rfl rfl rfl rfl ?_ | refine AQ.mark (by kernel_rfl) rfl rfl rfl rfl rfl rfl rfl ?_ | refine AP.cond_true rfl rfl ?_ | refine AP.cond_false rfl rfl ?_ | (refine AP.region rfl (by kernel_rfl) ?_; simp only [go_sem, Nat.reduceAdd, Nat.reduceLeDiff, reduceCtorEq]) | (refine AP.drawQ rfl rfl (by kernel_rfl) ?_; simp only [go_sem, Nat.reduceAdd, Nat.reduceLeDiff, reduceCtorEq]) | (refine vq_id ?_; simp only [go_sem, Nat.reduceAdd, Nat.reduceLeDiff, reduceCtorEq]) | (refine ⟨by first | omega | (intros; simp_all; done) | (intros; simp_all; omega), ?_⟩; try simp only [go_sem, Nat.reduceAdd, Nat.reduceLeDiff, reduceCtorEq]))
    refine AE.begin (b := 7) rfl rfl _ ?_
    simp only [go_sem, Nat.reduceAdd, Nat.reduceLeDiff, reduceCtorEq]
    repeat (first | refine xPP rfl ?_ | refine xPE rfl ?_ | refine xEP rfl ?_ | refine xEE rfl ?_ | refine AQ.done ?_ | refine AQ.skip (by kernel_rfl) rfl ?_ | refine AQ.s2b (by kernel_rfl) rfl rfl rfl rfl ?_ | refine AQ.mark (by kernel_rfl) rfl rfl rfl rfl rfl rfl rfl ?_ | refine AP.cond_true rfl rfl ?_ | refine AP.cond_false rfl rfl ?_ | (refine AP.region rfl (by kernel_rfl) ?_; simp only [go_sem, Nat.reduceAdd, Nat.reduceLeDiff, reduceCtorEq, hc]) | (refine AP.drawQ rfl rfl (by kernel_rfl) ?_; simp only [go_sem, Nat.reduceAdd, Nat.reduceLeDiff, reduceCtorEq, hc]) | (refine vq_id ?_; simp only [go_sem, Nat.reduceAdd, Nat.reduceLeDiff, reduceCtorEq, hc]) | (refine ⟨by first | omega | (intros; simp_all; done) | (intros; simp_all; omega), ?_⟩; try simp only [go_sem, Nat.reduceAdd, Nat.reduceLeDiff, reduceCtorEq, hc]))
    refine AQ.guard_yes (by simp only [go_sem]) ?_
    refine AQ.strip ?_
    simp only [go_sem, Nat.reduceAdd, Nat.reduceLeDiff, reduceCtorEq]
    refine AQ.lookF j (by kernel_rfl) rfl rfl rfl Try.underlying27 Try.underlying3 (mKs_ok _) rfl (mKs_mem.2 ⟨_, List.mem_of_getElem? hj', rfl⟩) (mKs_uniq hok.keys hj') hx ?_
    simp only [go_sem, Nat.reduceAdd, Nat.reduceLeDiff, reduceCtorEq, bne_self_eq_false]
    repeat (first | refine xPP rfl ?_ | refine xPE rfl ?_ | refine xEP rfl ?_ | refine xEE rfl ?_ | refine AQ.done ?_ | refine AQ.skip (by kernel_rfl) rfl ?_ | refine AQ.s2b (by kernel_rfl) rfl rfl rfl rfl ?_ | refine AQ.mark (by kernel_rfl) rfl rfl rfl rfl rfl rfl rfl ?_ | refine AP.cond_true rfl rfl ?_ | refine AP.cond_false rfl rfl ?_ | (refine AP.region rfl (by kernel_rfl) ?_; simp only [go_sem, Nat.reduceAdd, Nat.reduceLeDiff, reduceCtorEq, bne_self_eq_false, hw, hw2, hmost]) | (refine AP.drawQ rfl rfl (by kernel_rfl) ?_; simp only [go_sem, Nat.reduceAdd, Nat.reduceLeDiff, reduceCtorEq, bne_self_eq_false, hw, hw2, hmost]) | (refine vq_id ?_; simp only [go_sem, Nat.reduceAdd, Nat.reduceLeDiff, reduceCtorEq, bne_self_eq_false, hw, hw2, hmost]) | (refine ⟨by first | omega | (intros; simp_all; done) | (intros; simp_all; omega), ?_⟩; try simp only [go_sem, Nat.reduceAdd, Nat.reduceLeDiff, reduceCtorEq, bne_self_eq_false, hw, hw2, hmost]))
    refine AE.roundEnd (b := 7) rfl ⟨rfl, ?_⟩
    simp only [hset, runH, runS, hb, ELr]
    rfl
  · subst hme
    have hmost : decide ((k : Int) < (k : Int) + 1) = true := decide_eq_true (by omega)
    refine YCallN.walk (b := 7) [0, 1, 3, 4, 5, 6, 7, 8, 9, 10, 11, 12, 13, 14, 17, 20, 21, 22, 23, 38, 39, 40, 41, 55, 62] [] rfl rfl rfl fun w own I0 φ0 => ?_
    simp only [go_sem, Nat.reduceAdd, Nat.reduceLeDiff, reduceCtorEq, itemS, zipP, runH, runS, he, ELr]
    repeat (first | refine xPP rfl ?_ | refine xPE rfl ?_ | refine xEP rfl ?_ | refine xEE rfl ?_ | refine AQ.done ?_ | refine AQ.skip (by kernel_rfl) rfl ?_ | refine AQ.s2b (by kernel_rfl) rfl rfl rfl rfl ?_ | refine AQ.mark (by kernel_rfl) rfl rfl rfl rfl rfl rfl rfl ?_ | refine AP.cond_true rfl rfl ?_ | refine AP.cond_false rfl rfl ?_ | (refine AP.region rfl (by kernel_rfl) ?_; simp only [go_sem, Nat.reduceAdd, Nat.reduceLeDiff, reduceCtorEq]) | (refine AP.drawQ rfl rfl (by kernel_rfl) ?_; simp only [go_sem, Nat.reduceAdd, Nat.reduceLeDiff, reduceCtorEq]) | (refine vq_id ?_; simp only [go_sem, Nat.reduceAdd, Nat.reduceLeDiff, reduceCtorEq]) | (refine ⟨by first | omega | (intros; simp_all; done) | (intros; simp_all; omega), ?_⟩; try simp only [go_sem, Nat.reduceAdd, Nat.reduceLeDiff, reduceCtorEq]))
    refine AE.begin (b := 7) rfl rfl _ ?_
    simp only [go_sem, Nat.reduceAdd, Nat.reduceLeDiff, reduceCtorEq]
    repeat (first | refine xPP rfl ?_ | refine xPE rfl ?_ | refine xEP rfl ?_ | refine xEE rfl ?_ | refine AQ.done ?_ | refine AQ.skip (by kernel_rfl) rfl ?_ | refine AQ.s2b (by kernel_rfl) rfl rfl rfl rfl ?_ | refine AQ.mark (by kernel_rfl) rfl rfl rfl rfl rfl rfl rfl ?_ | refine AP.cond_true rfl rfl ?_ | refine AP.cond_false rfl rfl ?_ | (refine AP.region rfl (by kernel_rfl) ?_; simp only [go_sem, Nat.reduceAdd, Nat.reduceLeDiff, reduceCtorEq, hc]) | (refine AP.drawQ rfl rfl (by kernel_rfl) ?_; simp only [go_sem, Nat.reduceAdd, Nat.reduceLeDiff, reduceCtorEq, hc]) | (refine vq_id ?_; simp only [go_sem, Nat.reduceAdd, Nat.reduceLeDiff, reduceCtorEq, hc]) | (refine ⟨by first | omega | (intros; simp_all; done) | (intros; simp_all; omega), ?_⟩; try simp only [go_sem, Nat.reduceAdd, Nat.reduceLeDiff, reduceCtorEq, hc]))
    refine AQ.guard_yes (by simp only [go_sem]) ?_
    refine AQ.strip ?_
    simp only [go_sem, Nat.reduceAdd, Nat.reduceLeDiff, reduceCtorEq]
    refine AQ.lookF j (by kernel_rfl) rfl rfl rfl Try.underlying27 Try.underlying3 (mKs_ok _) rfl (mKs_mem.2 ⟨_, List.mem_of_getElem? hj', rfl⟩) (mKs_uniq hok.keys hj') hx ?_
    simp only [go_sem, Nat.reduceAdd, Nat.reduceLeDiff, reduceCtorEq, bne_self_eq_false]
    repeat (first | refine xPP rfl ?_ | refine xPE rfl ?_ | refine xEP rfl ?_ | refine xEE rfl ?_ | refine AQ.done ?_ | refine AQ.skip (by kernel_rfl) rfl ?_ | refine AQ.s2b (by kernel_rfl) rfl rfl rfl rfl ?_ | refine AQ.mark (by kernel_rfl) rfl rfl rfl rfl rfl rfl rfl ?_ | refine AP.cond_true rfl rfl ?_ | refine AP.cond_false rfl rfl ?_ | (refine AP.region rfl (by kernel_rfl) ?_; simp only [go_sem, Nat.reduceAdd, Nat.reduceLeDiff, reduceCtorEq, bne_self_eq_false, hw, hw2, hmost]) | (refine AP.drawQ rfl rfl (by kernel_rfl) ?_; simp only [go_sem, Nat.reduceAdd, Nat.reduceLeDiff, reduceCtorEq, bne_self_eq_false, hw, hw2, hmost]) | (refine vq_id ?_; simp only [go_sem, Nat.reduceAdd, Nat.reduceLeDiff, reduceCtorEq, bne_self_eq_false, hw, hw2, hmost]) | (refine ⟨by first | omega | (intros; simp_all; done) | (intros; simp_all; omega), ?_⟩; try simp only [go_sem, Nat.reduceAdd, Nat.reduceLeDiff, reduceCtorEq, bne_self_eq_false, hw, hw2, hmost]))
    refine AE.roundExit (b := 7) (id := 2) rfl ⟨rfl, ?_⟩
    simp only [hset, runX, runS, hb, ELr]
    rfl
theorem shl_ht (t : Tr) (h : t.ht ≤ 40) : IntKind.i64.wrap (1 * 2 ^ (min t.ht 64)) = ((2 ^ t.ht : Nat) : Int) := by
  rw [Nat.min_eq_left (by omega), Int.one_mul]
  have h1 : 2 ^ t.ht ≤ 2 ^ 40 := Nat.pow_le_pow_right (by omega) h
  have h2 : ((2 : Int) ^ t.ht) = ((2 ^ t.ht : Nat) : Int) := by simp
  rw [h2]
  have h3 : 2 ^ t.ht ≤ 1099511627776 := h1
  generalize 2 ^ t.ht = q at *
  exact wr (by omega)
theorem runs_walk (l : List Int) (most : Nat) (hm : most < 256) (hl : l.length ≤ 9223372036854775807) : PFn Try.prog 3 [.im (.sl 1 (intR l)), .im (.v (.int .u8 most))] (Bv true) := by
  refine ACall.walk [0, 1, 3, 4, 5, 6, 7, 8, 9, 10, 11, 12, 13, 14, 17, 20, 21, 22, 23, 38, 39, 40, 41, 55, 62] [4, 5, 6, 10, 11] Try.func3 rfl Try.ntmps3 (by kernel_rfl) (by rfl) rfl fun W own I0 φ0 => ?_
  repeat (first | refine xPP rfl ?_ | refine xPE rfl ?_ | refine xEP rfl ?_ | refine xEE rfl ?_ | refine AQ.done ?_ | refine AQ.skip (by kernel_rfl) rfl ?_ | refine AQ.s2b (by kernel_rfl) rfl rfl rfl rfl ?_ | refine AQ.mark (by kernel_rfl) rfl rfl rfl rfl rfl rfl rfl ?_ | refine AP.cond_true rfl rfl ?_ | refine AP.cond_false rfl rfl ?_ | (refine AP.region rfl (by kernel_rfl) ?_; simp only [go_sem, Nat.reduceAdd, Nat.reduceLeDiff, reduceCtorEq, intR_len]) | (refine AP.drawQ rfl rfl (by kernel_rfl) ?_; simp only [go_sem, Nat.reduceAdd, Nat.reduceLeDiff, reduceCtorEq, intR_len]) | (refine vq_id ?_; simp only [go_sem, Nat.reduceAdd, Nat.reduceLeDiff, reduceCtorEq, intR_len]) | (refine ⟨by first | omega | (intros; simp_all; done) | (intros; simp_all; omega), ?_⟩; try simp only [go_sem, Nat.reduceAdd, Nat.reduceLeDiff, reduceCtorEq, intR_len]))
  refine AP.cond rfl rfl (fun hf => ?_) (fun hf => ?_)
  · repeat (first | refine xPP rfl ?_ | refine xPE rfl ?_ | refine xEP rfl ?_ | refine xEE rfl ?_ | refine AQ.done ?_ | refine AQ.skip (by kernel_rfl) rfl ?_ | refine AQ.s2b (by kernel_rfl) rfl rfl rfl rfl ?_ | refine AQ.mark (by kernel_rfl) rfl rfl rfl rfl rfl rfl rfl ?_ | refine AP.cond_true rfl rfl ?_ | refine AP.cond_false rfl rfl ?_ | (refine AP.region rfl (by kernel_rfl) ?_; simp only [go_sem, Nat.reduceAdd, Nat.reduceLeDiff, reduceCtorEq]) | (refine AP.drawQ rfl rfl (by kernel_rfl) ?_; simp only [go_sem, Nat.reduceAdd, Nat.reduceLeDiff, reduceCtorEq]) | (refine vq_id ?_; simp only [go_sem, Nat.reduceAdd, Nat.reduceLeDiff, reduceCtorEq]) | (refine ⟨by first | omega | (intros; simp_all; done) | (intros; simp_all; omega), ?_⟩; try simp only [go_sem, Nat.reduceAdd, Nat.reduceLeDiff, reduceCtorEq]))
    refine AQ.fn (by kernel_rfl) rfl rfl rfl (awake_spec) rfl ?_
    repeat (first | refine xPP rfl ?_ | refine xPE rfl ?_ | refine xEP rfl ?_ | refine xEE rfl ?_ | refine AQ.done ?_ | refine AQ.skip (by kernel_rfl) rfl ?_ | refine AQ.s2b (by kernel_rfl) rfl rfl rfl rfl ?_ | refine AQ.mark (by kernel_rfl) rfl rfl rfl rfl rfl rfl rfl ?_ | refine AP.cond_true rfl rfl ?_ | refine AP.cond_false rfl rfl ?_ | (refine AP.region rfl (by kernel_rfl) ?_; simp only [go_sem, Nat.reduceAdd, Nat.reduceLeDiff, reduceCtorEq]) | (refine AP.drawQ rfl rfl (by kernel_rfl) ?_; simp only [go_sem, Nat.reduceAdd, Nat.reduceLeDiff, reduceCtorEq]) | (refine vq_id ?_; simp only [go_sem, Nat.reduceAdd, Nat.reduceLeDiff, reduceCtorEq]) | (refine ⟨by first | omega | (intros; simp_all; done) | (intros; simp_all; omega), ?_⟩; try simp only [go_sem, Nat.reduceAdd, Nat.reduceLeDiff, reduceCtorEq]))
    exact AE.ret0 rfl ⟨⟨rfl, Nat.le_of_ble_eq_true (by kernel_rfl)⟩, trivial⟩ rfl ⟨rfl, rfl⟩
  have hl2 : l.length ≤ 2000 := by simp at hf; omega
  clear hf
  repeat (first | refine xPP rfl ?_ | refine xPE rfl ?_ | refine xEP rfl ?_ | refine xEE rfl ?_ | refine AQ.done ?_ | refine AQ.skip (by kernel_rfl) rfl ?_ | refine AQ.s2b (by kernel_rfl) rfl rfl rfl rfl ?_ | refine AQ.mark (by kernel_rfl) rfl rfl rfl rfl rfl rfl rfl ?_ | refine AP.cond_true rfl rfl ?_ | refine AP.cond_false rfl rfl ?_ | (refine AP.region rfl (by kernel_rfl) ?_; simp only [go_sem, Nat.reduceAdd, Nat.reduceLeDiff, reduceCtorEq]) | (refine AP.drawQ rfl rfl (by kernel_rfl) ?_; simp only [go_sem, Nat.reduceAdd, Nat.reduceLeDiff, reduceCtorEq]) | (refine vq_id ?_; simp only [go_sem, Nat.reduceAdd, Nat.reduceLeDiff, reduceCtorEq]) | (refine ⟨by first | omega | (intros; simp_all; done) | (intros; simp_all; omega), ?_⟩; try simp only [go_sem, Nat.reduceAdd, Nat.reduceLeDiff, reduceCtorEq]))
  refine AQ.mmake (by kernel_rfl) ?_
  simp only [go_sem, Nat.reduceAdd, Nat.reduceLeDiff, reduceCtorEq]
  repeat (first | refine xPP rfl ?_ | refine xPE rfl ?_ | refine xEP rfl ?_ | refine xEE rfl ?_ | refine AQ.done ?_ | refine AQ.skip (by kernel_rfl) rfl ?_ | refine AQ.s2b (by kernel_rfl) rfl rfl rfl rfl ?_ | refine AQ.mark (by kernel_rfl) rfl rfl rfl rfl rfl rfl rfl ?_ | refine AP.cond_true rfl rfl ?_ | refine AP.cond_false rfl rfl ?_ | (refine AP.region rfl (by kernel_rfl) ?_; simp only [go_sem, Nat.reduceAdd, Nat.reduceLeDiff, reduceCtorEq]) | (refine AP.drawQ rfl rfl (by kernel_rfl) ?_; simp only [go_sem, Nat.reduceAdd, Nat.reduceLeDiff, reduceCtorEq]) | (refine vq_id ?_; simp only [go_sem, Nat.reduceAdd, Nat.reduceLeDiff, reduceCtorEq]) | (refine ⟨by first | omega | (intros; simp_all; done) | (intros; simp_all; omega), ?_⟩; try simp only [go_sem, Nat.reduceAdd, Nat.reduceLeDiff, reduceCtorEq]))
  refine AP.loop rfl (α := Nat) (fun k => [(0, .im (.sl 1 (intR l))), (3, .im (.pt [.v (.int .u8 most)])), (4, .ob 0 0), (5, .ob 1 0), (6, .ob 3 0), (20, .im (.sl 1 (intR l))), (21, Iv l.length), (22, Iv k)]) (fun k => hR (runT l k) (runM l k)) (fun k => k ≤ l.length) (fun k => l.length - k) 0 (by omega) (by repeat (first | exact Sub.nil _ | refine Sub.cons rfl ?_)) rfl fun k hk => ?_
  have hok := run_ok l k
  have hsz := run_size l k
  simp only [go_sem, Nat.reduceAdd, Nat.reduceLeDiff, reduceCtorEq, hR]
  repeat (first | refine xPP rfl ?_ | refine xPE rfl ?_ | refine xEP rfl ?_ | refine xEE rfl ?_ | refine AQ.done ?_ | refine AQ.skip (by kernel_rfl) rfl ?_ | refine AQ.s2b (by kernel_rfl) rfl rfl rfl rfl ?_ | refine AQ.mark (by kernel_rfl) rfl rfl rfl rfl rfl rfl rfl ?_ | refine AP.cond_true rfl rfl ?_ | refine AP.cond_false rfl rfl ?_ | (refine AP.region rfl (by kernel_rfl) ?_; simp only [go_sem, Nat.reduceAdd, Nat.reduceLeDiff, reduceCtorEq]) | (refine AP.drawQ rfl rfl (by kernel_rfl) ?_; simp only [go_sem, Nat.reduceAdd, Nat.reduceLeDiff, reduceCtorEq]) | (refine vq_id ?_; simp only [go_sem, Nat.reduceAdd, Nat.reduceLeDiff, reduceCtorEq]) | (refine ⟨by first | omega | (intros; simp_all; done) | (intros; simp_all; omega), ?_⟩; try simp only [go_sem, Nat.reduceAdd, Nat.reduceLeDiff, reduceCtorEq]))
  refine AP.cond rfl rfl (fun hc => ?_) (fun hc => ?_)
  · have hk' : k < l.length := by simp at hc; omega
    have hw := wr (x := (k : Int) + 1) (by omega)
    have hg := intR_get l k hk'
    have hok1 := run_ok l (k + 1)
    repeat (first | refine xPP rfl ?_ | refine xPE rfl ?_ | refine xEP rfl ?_ | refine xEE rfl ?_ | refine AQ.done ?_ | refine AQ.skip (by kernel_rfl) rfl ?_ | refine AQ.s2b (by kernel_rfl) rfl rfl rfl rfl ?_ | refine AQ.mark (by kernel_rfl) rfl rfl rfl rfl rfl rfl rfl ?_ | refine AP.cond_true rfl rfl ?_ | refine AP.cond_false rfl rfl ?_ | (refine AP.region rfl (by kernel_rfl) ?_; simp only [go_sem, Nat.reduceAdd, Nat.reduceLeDiff, reduceCtorEq, hg, intR_len]) | (refine AP.drawQ rfl rfl (by kernel_rfl) ?_; simp only [go_sem, Nat.reduceAdd, Nat.reduceLeDiff, reduceCtorEq, hg, intR_len]) | (refine vq_id ?_; simp only [go_sem, Nat.reduceAdd, Nat.reduceLeDiff, reduceCtorEq, hg, intR_len]) | (refine ⟨by first | omega | (intros; simp_all; done) | (intros; simp_all; omega), ?_⟩; try simp only [go_sem, Nat.reduceAdd, Nat.reduceLeDiff, reduceCtorEq, hg, intR_len]))
    refine AQ.fn (by kernel_rfl) rfl rfl rfl (Put_spec (runT l k) (l.getD k 0) k (by omega)) rfl ?_
    repeat (first | refine xPP rfl ?_ | refine xPE rfl ?_ | refine xEP rfl ?_ | refine xEE rfl ?_ | refine AQ.done ?_ | refine AQ.skip (by kernel_rfl) rfl ?_ | refine AQ.s2b (by kernel_rfl) rfl rfl rfl rfl ?_ | refine AQ.mark (by kernel_rfl) rfl rfl rfl rfl rfl rfl rfl ?_ | refine AP.cond_true rfl rfl ?_ | refine AP.cond_false rfl rfl ?_ | (refine AP.region rfl (by kernel_rfl) ?_; simp only [go_sem, Nat.reduceAdd, Nat.reduceLeDiff, reduceCtorEq]) | (refine AP.drawQ rfl rfl (by kernel_rfl) ?_; simp only [go_sem, Nat.reduceAdd, Nat.reduceLeDiff, reduceCtorEq]) | (refine vq_id ?_; simp only [go_sem, Nat.reduceAdd, Nat.reduceLeDiff, reduceCtorEq]) | (refine ⟨by first | omega | (intros; simp_all; done) | (intros; simp_all; omega), ?_⟩; try simp only [go_sem, Nat.reduceAdd, Nat.reduceLeDiff, reduceCtorEq]))
    cases hp : pos (l.getD k 0) (runM l k) with
    | some j =>
      obtain ⟨v0, hv⟩ := pos_some hp
      have hme : runM l (k + 1) = (runM l k).set j (l.getD k 0, (k : Int)) := by rw [runM, mapS, hp]
      refine AQ.msetF j (by kernel_rfl) rfl rfl rfl rfl Try.underlying27 Try.underlying3 (mKs_ok _) rfl (mKs_mem.2 ⟨_, List.mem_of_getElem? hv, rfl⟩) (mKs_uniq hok.keys hv) ?_
      simp only [go_sem, Nat.reduceAdd, Nat.reduceLeDiff, reduceCtorEq]
      repeat (first | refine xPP rfl ?_ | refine xPE rfl ?_ | refine xEP rfl ?_ | refine xEE rfl ?_ | refine AQ.done ?_ | refine AQ.skip (by kernel_rfl) rfl ?_ | refine AQ.s2b (by kernel_rfl) rfl rfl rfl rfl ?_ | refine AQ.mark (by kernel_rfl) rfl rfl rfl rfl rfl rfl rfl ?_ | refine AP.cond_true rfl rfl ?_ | refine AP.cond_false rfl rfl ?_ | (refine AP.region rfl (by kernel_rfl) ?_; simp only [go_sem, Nat.reduceAdd, Nat.reduceLeDiff, reduceCtorEq, hw]) | (refine AP.drawQ rfl rfl (by kernel_rfl) ?_; simp only [go_sem, Nat.reduceAdd, Nat.reduceLeDiff, reduceCtorEq, hw]) | (refine vq_id ?_; simp only [go_sem, Nat.reduceAdd, Nat.reduceLeDiff, reduceCtorEq, hw]) | (refine ⟨by first | omega | (intros; simp_all; done) | (intros; simp_all; omega), ?_⟩; try simp only [go_sem, Nat.reduceAdd, Nat.reduceLeDiff, reduceCtorEq, hw]))
      refine AE.round (k + 1) (by omega) (by omega) (by repeat (first | exact Sub.nil _ | refine Sub.cons rfl ?_)) ?_
      have e1 : mKs (runM l (k + 1)) = mKs (runM l k) := by
        rw [hme, mKs, List.map_set]
        have h1 : ((runM l k).map fun e => Value.int .i64 e.1)[j]? = some (.int .i64 (l.getD k 0)) := by rw [List.getElem?_map, hv]; rfl
        obtain ⟨l1, g1⟩ := List.getElem?_eq_some_iff.1 h1
        show ((runM l k).map fun e => Value.int .i64 e.1).set j (.int .i64 (l.getD k 0)) = _
        rw [← g1]; exact List.set_getElem_self l1
      have e2 : mVs (runM l (k + 1)) = (mVs (runM l k)).set j (Iv k) := by rw [hme, mVs, List.map_set]; rfl
      simp only [hR, e1, e2, runT]
    | none =>
      have hpn := pos_none hp
      have hme : runM l (k + 1) = runM l k ++ [(l.getD k 0, (k : Int))] := by rw [runM, mapS, hp]
      refine AQ.msetN (by kernel_rfl) rfl rfl rfl rfl Try.underlying27 Try.underlying3 (mKs_ok _) rfl (fun h => by obtain ⟨e, he, hn⟩ := mKs_mem.1 h; exact hpn e he hn) ?_
      simp only [go_sem, Nat.reduceAdd, Nat.reduceLeDiff, reduceCtorEq]
      repeat (first | refine xPP rfl ?_ | refine xPE rfl ?_ | refine xEP rfl ?_ | refine xEE rfl ?_ | refine AQ.done ?_ | refine AQ.skip (by kernel_rfl) rfl ?_ | refine AQ.s2b (by kernel_rfl) rfl rfl rfl rfl ?_ | refine AQ.mark (by kernel_rfl) rfl rfl rfl rfl rfl rfl rfl ?_ | refine AP.cond_true rfl rfl ?_ | refine AP.cond_false rfl rfl ?_ | (refine AP.region rfl (by kernel_rfl) ?_; simp only [go_sem, Nat.reduceAdd, Nat.reduceLeDiff, reduceCtorEq, hw]) | (refine AP.drawQ rfl rfl (by kernel_rfl) ?_; simp only [go_sem, Nat.reduceAdd, Nat.reduceLeDiff, reduceCtorEq, hw]) | (refine vq_id ?_; simp only [go_sem, Nat.reduceAdd, Nat.reduceLeDiff, reduceCtorEq, hw]) | (refine ⟨by first | omega | (intros; simp_all; done) | (intros; simp_all; omega), ?_⟩; try simp only [go_sem, Nat.reduceAdd, Nat.reduceLeDiff, reduceCtorEq, hw]))
      refine AE.round (k + 1) (by omega) (by omega) (by repeat (first | exact Sub.nil _ | refine Sub.cons rfl ?_)) ?_
      simp only [hR, hme, runT, mKs, mVs, List.map_append, List.map_cons, List.map_nil]
  have hke : k = l.length := by simp at hc; omega
  subst hke
  obtain ⟨T, hT⟩ : ∃ T, runT l l.length = T := ⟨_, rfl⟩
  obtain ⟨L, hL⟩ : ∃ L, runM l l.length = L := ⟨_, rfl⟩
  have hht := run_ht l l.length hl2
  rw [hT] at hok hsz hht
  rw [hL] at hok
  have hlen := hok.len
  repeat (first | refine xPP rfl ?_ | refine xPE rfl ?_ | refine xEP rfl ?_ | refine xEE rfl ?_ | refine AQ.done ?_ | refine AQ.skip (by kernel_rfl) rfl ?_ | refine AQ.s2b (by kernel_rfl) rfl rfl rfl rfl ?_ | refine AQ.mark (by kernel_rfl) rfl rfl rfl rfl rfl rfl rfl ?_ | refine AP.cond_true rfl rfl ?_ | refine AP.cond_false rfl rfl ?_ | (refine AP.region rfl (by kernel_rfl) ?_; simp only [go_sem, Nat.reduceAdd, Nat.reduceLeDiff, reduceCtorEq]) | (refine AP.drawQ rfl rfl (by kernel_rfl) ?_; simp only [go_sem, Nat.reduceAdd, Nat.reduceLeDiff, reduceCtorEq]) | (refine vq_id ?_; simp only [go_sem, Nat.reduceAdd, Nat.reduceLeDiff, reduceCtorEq]) | (refine ⟨by first | omega | (intros; simp_all; done) | (intros; simp_all; omega), ?_⟩; try simp only [go_sem, Nat.reduceAdd, Nat.reduceLeDiff, reduceCtorEq]))
  simp only [go_sem, Nat.reduceAdd, Nat.reduceLeDiff, reduceCtorEq, hT, hL]
  refine AQ.callv (by kernel_rfl) rfl rfl rfl (all_spec T) fun r' H' ⟨e1, e2⟩ => ?_
  subst e1; subst e2
  simp only [go_sem, Nat.reduceAdd, Nat.reduceLeDiff, reduceCtorEq]
  repeat (first | refine xPP rfl ?_ | refine xPE rfl ?_ | refine xEP rfl ?_ | refine xEE rfl ?_ | refine AQ.done ?_ | refine AQ.skip (by kernel_rfl) rfl ?_ | refine AQ.s2b (by kernel_rfl) rfl rfl rfl rfl ?_ | refine AQ.mark (by kernel_rfl) rfl rfl rfl rfl rfl rfl rfl ?_ | refine AP.cond_true rfl rfl ?_ | refine AP.cond_false rfl rfl ?_ | (refine AP.region rfl (by kernel_rfl) ?_; simp only [go_sem, Nat.reduceAdd, Nat.reduceLeDiff, reduceCtorEq]) | (refine AP.drawQ rfl rfl (by kernel_rfl) ?_; simp only [go_sem, Nat.reduceAdd, Nat.reduceLeDiff, reduceCtorEq]) | (refine vq_id ?_; simp only [go_sem, Nat.reduceAdd, Nat.reduceLeDiff, reduceCtorEq]) | (refine ⟨by first | omega | (intros; simp_all; done) | (intros; simp_all; omega), ?_⟩; try simp only [go_sem, Nat.reduceAdd, Nat.reduceLeDiff, reduceCtorEq]))
  have hTL := Tr.toList_len T
  have hlen' : L.length = T.size := hlen.symm
  have hpow := Tr.size_pow _ T rfl hok.bal
  have f3 := shl_ht T hht
  have f4 := wr (x := (T.size : Int) + 1) (by omega)
  have hsq : (T.size + 1) * (T.size + 1) ≤ 2001 * 2001 := Nat.mul_le_mul (by omega) (by omega)
  have f5 : IntKind.i64.wrap (((T.size : Int) + 1) * ((T.size : Int) + 1)) = (((T.size + 1) * (T.size + 1) : Nat) : Int) := by
    have e : ((T.size : Int) + 1) * ((T.size : Int) + 1) = (((T.size + 1) * (T.size + 1) : Nat) : Int) := by simp
    rw [e]; exact wr (by omega)
  have f6 : decide (((2 ^ T.ht : Nat) : Int) ≤ (((T.size + 1) * (T.size + 1) : Nat) : Int)) = true := decide_eq_true (by omega)
  have g1 : decide ((T.ht : Int) ≤ 40) = true := decide_eq_true (by omega)
  have g2 : (0 : Int) ≤ T.ht := by omega
  have wm1 := wr (x := (most : Int)) (by omega)
  have wm2 : IntKind.i64.wrap ((most : Int) + 1) = ((most + 1 : Nat) : Int) := by rw [wr (by omega)]; omega
  have hrnd := runs_round most l T L hok (by omega) hm
  refine AP.rangeB 7 0 7 (ELr l most) (R := fun q => rEnd (runH l most T L q) most (runX l most T L q) T.toList.length) rfl rfl (by kernel_rfl) (by repeat (first | exact Sub.nil _ | refine Sub.cons rfl ?_)) trivial rfl (fun q => ?_) (fun q r H' hR => ?_)
  · exact allF_spec T (Hs := runH l most T L q) ⟨fun k h1 h2 => (hrnd q k h2).1 h1, fun h => (hrnd q most h).2 (Nat.le_refl _) rfl, fun _ _ => lowSame.of _ _ _ rfl, fun k => lowSame.of _ _ _ rfl⟩ rfl
  · rcases hR with ⟨hn, rfl⟩ | ⟨hn, rfl⟩
    · refine ⟨lowSame.of _ _ _ rfl, .ready, _, rfl, by simp only [go_sem, Nat.reduceAdd, Nat.reduceLeDiff, reduceCtorEq, runH, runS, mVs_men, noMen, hdel, AV.mens, AV.men, Bool.not_false, Bool.and_self, Bool.or_self]; rfl, ?_⟩
      simp only [go_sem, Nat.reduceAdd, Nat.reduceLeDiff, reduceCtorEq, runH, runS]
      repeat (first | refine xPP rfl ?_ | refine xPE rfl ?_ | refine xEP rfl ?_ | refine xEE rfl ?_ | refine AQ.done ?_ | refine AQ.skip (by kernel_rfl) rfl ?_ | refine AQ.s2b (by kernel_rfl) rfl rfl rfl rfl ?_ | refine AQ.mark (by kernel_rfl) rfl rfl rfl rfl rfl rfl rfl ?_ | refine AP.cond_true rfl rfl ?_ | refine AP.cond_false rfl rfl ?_ | (refine AP.region rfl (by kernel_rfl) ?_; simp only [go_sem, Nat.reduceAdd, Nat.reduceLeDiff, reduceCtorEq]) | (refine AP.drawQ rfl rfl (by kernel_rfl) ?_; simp only [go_sem, Nat.reduceAdd, Nat.reduceLeDiff, reduceCtorEq]) | (refine vq_id ?_; simp only [go_sem, Nat.reduceAdd, Nat.reduceLeDiff, reduceCtorEq]) | (refine ⟨by first | omega | (intros; simp_all; done) | (intros; simp_all; omega), ?_⟩; try simp only [go_sem, Nat.reduceAdd, Nat.reduceLeDiff, reduceCtorEq]))
      have hmin : (if (((most + 1 : Nat) : Int)) < (T.size : Int) then ((most + 1 : Nat) : Int) else (T.size : Int)) = (T.size : Int) := by split <;> omega
      refine AQ.fn (by kernel_rfl) rfl rfl rfl (Depth_spec T) rfl ?_
      repeat (first | refine xPP rfl ?_ | refine xPE rfl ?_ | refine xEP rfl ?_ | refine xEE rfl ?_ | refine AQ.done ?_ | refine AQ.skip (by kernel_rfl) rfl ?_ | refine AQ.s2b (by kernel_rfl) rfl rfl rfl rfl ?_ | refine AQ.mark (by kernel_rfl) rfl rfl rfl rfl rfl rfl rfl ?_ | refine AP.cond_true rfl rfl ?_ | refine AP.cond_false rfl rfl ?_ | (refine AP.region rfl (by kernel_rfl) ?_; simp only [go_sem, Nat.reduceAdd, Nat.reduceLeDiff, reduceCtorEq]) | (refine AP.drawQ rfl rfl (by kernel_rfl) ?_; simp only [go_sem, Nat.reduceAdd, Nat.reduceLeDiff, reduceCtorEq]) | (refine vq_id ?_; simp only [go_sem, Nat.reduceAdd, Nat.reduceLeDiff, reduceCtorEq]) | (refine ⟨by first | omega | (intros; simp_all; done) | (intros; simp_all; omega), ?_⟩; try simp only [go_sem, Nat.reduceAdd, Nat.reduceLeDiff, reduceCtorEq]))
      refine AP.drawE 35 (Tree.node [] [0, 2] [1] [Tree.node [2] [] [3] [Tree.node [] [4, 5, 6, 7, 9, 10, 11] [8] [Tree.node [6, 9, 10, 11] [12, 13, 14, 15, 16, 17, 18, 19, 20, 21, 22, 25] [23] [Tree.node [20, 21, 25] [24] [26] [Tree.node [20, 21, 24] [27, 28, 29, 30, 31] [32] [Tree.node [] [33] [34] [Tree.node [] [] [] []]]]]]]]) (by kernel_rfl) rfl (by kernel_rfl) (by kernel_rfl) ?_
      refine vd_node ?_
      simp only [go_sem, Nat.reduceAdd, Nat.reduceLeDiff, reduceCtorEq, mKs_len, hlen', g1, hmin, g2, f3, f4, f5, f6, hTL, beq_self_eq_true, decide_true, wm1, wm2]
      repeat' (first | with_reducible exact True.intro | with_reducible refine And.intro (by omega) ?_ | with_reducible refine And.intro ?_ ?_ | (refine AQ.nx rfl ?_; simp only [go_sem, Nat.reduceAdd, Nat.reduceLeDiff, reduceCtorEq, mKs_len, hlen', g1, hmin, g2, f3, f4, f5, f6, hTL, beq_self_eq_true, decide_true, wm1, wm2]) | (refine AQ.fn (by kernel_rfl) rfl rfl rfl (Size_spec T) rfl ?_; simp only [go_sem, Nat.reduceAdd, Nat.reduceLeDiff, reduceCtorEq, mKs_len, hlen', g1, hmin, g2, f3, f4, f5, f6, hTL, beq_self_eq_true, decide_true, wm1, wm2]) | (refine AQ.guard_yes (by simp only [go_sem]) ?_; refine AQ.fn (by kernel_rfl) rfl rfl rfl (Size_spec T) rfl ?_; simp only [go_sem, Nat.reduceAdd, Nat.reduceLeDiff, reduceCtorEq, mKs_len, hlen', g1, hmin, g2, f3, f4, f5, f6, hTL, beq_self_eq_true, decide_true, wm1, wm2]) | (refine AQ.mlenG (by kernel_rfl) rfl rfl rfl rfl Try.underlying27 ?_; simp only [go_sem, Nat.reduceAdd, Nat.reduceLeDiff, reduceCtorEq, mKs_len, hlen', g1, hmin, g2, f3, f4, f5, f6, hTL, beq_self_eq_true, decide_true, wm1, wm2]) | (refine AQ.guard_yes (by simp only [go_sem]) ?_; refine AQ.mlenG (by kernel_rfl) rfl rfl rfl rfl Try.underlying27 ?_; simp only [go_sem, Nat.reduceAdd, Nat.reduceLeDiff, reduceCtorEq, mKs_len, hlen', g1, hmin, g2, f3, f4, f5, f6, hTL, beq_self_eq_true, decide_true, wm1, wm2]) | (refine AQ.guard_yes (by simp only [go_sem]) ?_; refine AQ.fn (by kernel_rfl) rfl rfl rfl (awake_spec) rfl ?_; simp only [go_sem, Nat.reduceAdd, Nat.reduceLeDiff, reduceCtorEq, mKs_len, hlen', g1, hmin, g2, f3, f4, f5, f6, hTL, beq_self_eq_true, decide_true, wm1, wm2]) | refine AQ.done ?_ | (refine AQ.go (by kernel_rfl) ?_; simp only [go_sem, Nat.reduceAdd, Nat.reduceLeDiff, reduceCtorEq, mKs_len, hlen', g1, hmin, g2, f3, f4, f5, f6, hTL, beq_self_eq_true, decide_true, wm1, wm2]; repeat (with_reducible refine And.intro (by omega) ?_); refine AQ.nx rfl ?_; simp only [go_sem, Nat.reduceAdd, Nat.reduceLeDiff, reduceCtorEq, mKs_len, hlen', g1, hmin, g2, f3, f4, f5, f6, hTL, beq_self_eq_true, decide_true, wm1, wm2]))
      repeat (first | refine xPP rfl ?_ | refine xPE rfl ?_ | refine xEP rfl ?_ | refine xEE rfl ?_ | refine AQ.done ?_ | refine AQ.skip (by kernel_rfl) rfl ?_ | refine AQ.s2b (by kernel_rfl) rfl rfl rfl rfl ?_ | refine AQ.mark (by kernel_rfl) rfl rfl rfl rfl rfl rfl rfl ?_ | refine AP.cond_true rfl rfl ?_ | refine AP.cond_false rfl rfl ?_ | (refine AP.region rfl (by kernel_rfl) ?_; simp only [go_sem, Nat.reduceAdd, Nat.reduceLeDiff, reduceCtorEq]) | (refine AP.drawQ rfl rfl (by kernel_rfl) ?_; simp only [go_sem, Nat.reduceAdd, Nat.reduceLeDiff, reduceCtorEq]) | (refine vq_id ?_; simp only [go_sem, Nat.reduceAdd, Nat.reduceLeDiff, reduceCtorEq]) | (refine ⟨by first | omega | (intros; simp_all; done) | (intros; simp_all; omega), ?_⟩; try simp only [go_sem, Nat.reduceAdd, Nat.reduceLeDiff, reduceCtorEq]))
      exact AE.ret0 rfl ⟨⟨rfl, Nat.le_of_ble_eq_true (by kernel_rfl)⟩, trivial⟩ rfl ⟨rfl, rfl⟩
    · refine ⟨lowSame.of _ _ _ rfl, .done (.exit 2), _, rfl, by simp only [go_sem, Nat.reduceAdd, Nat.reduceLeDiff, reduceCtorEq, runX, runS, mVs_men, noMen, hdel, AV.mens, AV.men, Bool.not_false, Bool.and_self, Bool.or_self]; rfl, ?_⟩
      simp only [go_sem, Nat.reduceAdd, Nat.reduceLeDiff, reduceCtorEq, runX, runS]
      repeat (first | refine xPP rfl ?_ | refine xPE rfl ?_ | refine xEP rfl ?_ | refine xEE rfl ?_ | refine AQ.done ?_ | refine AQ.skip (by kernel_rfl) rfl ?_ | refine AQ.s2b (by kernel_rfl) rfl rfl rfl rfl ?_ | refine AQ.mark (by kernel_rfl) rfl rfl rfl rfl rfl rfl rfl ?_ | refine AP.cond_true rfl rfl ?_ | refine AP.cond_false rfl rfl ?_ | (refine AP.region rfl (by kernel_rfl) ?_; simp only [go_sem, Nat.reduceAdd, Nat.reduceLeDiff, reduceCtorEq]) | (refine AP.drawQ rfl rfl (by kernel_rfl) ?_; simp only [go_sem, Nat.reduceAdd, Nat.reduceLeDiff, reduceCtorEq]) | (refine vq_id ?_; simp only [go_sem, Nat.reduceAdd, Nat.reduceLeDiff, reduceCtorEq]) | (refine ⟨by first | omega | (intros; simp_all; done) | (intros; simp_all; omega), ?_⟩; try simp only [go_sem, Nat.reduceAdd, Nat.reduceLeDiff, reduceCtorEq]))
      have hmin : (if (((most + 1 : Nat) : Int)) < (T.size : Int) then ((most + 1 : Nat) : Int) else (T.size : Int)) = ((most + 1 : Nat) : Int) := by split <;> omega
      refine AQ.fn (by kernel_rfl) rfl rfl rfl (Depth_spec T) rfl ?_
      repeat (first | refine xPP rfl ?_ | refine xPE rfl ?_ | refine xEP rfl ?_ | refine xEE rfl ?_ | refine AQ.done ?_ | refine AQ.skip (by kernel_rfl) rfl ?_ | refine AQ.s2b (by kernel_rfl) rfl rfl rfl rfl ?_ | refine AQ.mark (by kernel_rfl) rfl rfl rfl rfl rfl rfl rfl ?_ | refine AP.cond_true rfl rfl ?_ | refine AP.cond_false rfl rfl ?_ | (refine AP.region rfl (by kernel_rfl) ?_; simp only [go_sem, Nat.reduceAdd, Nat.reduceLeDiff, reduceCtorEq]) | (refine AP.drawQ rfl rfl (by kernel_rfl) ?_; simp only [go_sem, Nat.reduceAdd, Nat.reduceLeDiff, reduceCtorEq]) | (refine vq_id ?_; simp only [go_sem, Nat.reduceAdd, Nat.reduceLeDiff, reduceCtorEq]) | (refine ⟨by first | omega | (intros; simp_all; done) | (intros; simp_all; omega), ?_⟩; try simp only [go_sem, Nat.reduceAdd, Nat.reduceLeDiff, reduceCtorEq]))
      refine AP.drawE 35 (Tree.node [] [0, 2] [1] [Tree.node [2] [] [3] [Tree.node [] [4, 5, 6, 7, 9, 10, 11] [8] [Tree.node [6, 9, 10, 11] [12, 13, 14, 15, 16, 17, 18, 19, 20, 21, 22, 25] [23] [Tree.node [20, 21, 25] [24] [26] [Tree.node [20, 21, 24] [27, 28, 29, 30, 31] [32] [Tree.node [] [33] [34] [Tree.node [] [] [] []]]]]]]]) (by kernel_rfl) rfl (by kernel_rfl) (by kernel_rfl) ?_
      refine vd_node ?_
      simp only [go_sem, Nat.reduceAdd, Nat.reduceLeDiff, reduceCtorEq, mKs_len, hlen', g1, hmin, g2, f3, f4, f5, f6, hTL, beq_self_eq_true, decide_true, wm1, wm2]
      repeat' (first | with_reducible exact True.intro | with_reducible refine And.intro (by omega) ?_ | with_reducible refine And.intro ?_ ?_ | (refine AQ.nx rfl ?_; simp only [go_sem, Nat.reduceAdd, Nat.reduceLeDiff, reduceCtorEq, mKs_len, hlen', g1, hmin, g2, f3, f4, f5, f6, hTL, beq_self_eq_true, decide_true, wm1, wm2]) | (refine AQ.fn (by kernel_rfl) rfl rfl rfl (Size_spec T) rfl ?_; simp only [go_sem, Nat.reduceAdd, Nat.reduceLeDiff, reduceCtorEq, mKs_len, hlen', g1, hmin, g2, f3, f4, f5, f6, hTL, beq_self_eq_true, decide_true, wm1, wm2]) | (refine AQ.guard_yes (by simp only [go_sem]) ?_; refine AQ.fn (by kernel_rfl) rfl rfl rfl (Size_spec T) rfl ?_; simp only [go_sem, Nat.reduceAdd, Nat.reduceLeDiff, reduceCtorEq, mKs_len, hlen', g1, hmin, g2, f3, f4, f5, f6, hTL, beq_self_eq_true, decide_true, wm1, wm2]) | (refine AQ.mlenG (by kernel_rfl) rfl rfl rfl rfl Try.underlying27 ?_; simp only [go_sem, Nat.reduceAdd, Nat.reduceLeDiff, reduceCtorEq, mKs_len, hlen', g1, hmin, g2, f3, f4, f5, f6, hTL, beq_self_eq_true, decide_true, wm1, wm2]) | (refine AQ.guard_yes (by simp only [go_sem]) ?_; refine AQ.mlenG (by kernel_rfl) rfl rfl rfl rfl Try.underlying27 ?_; simp only [go_sem, Nat.reduceAdd, Nat.reduceLeDiff, reduceCtorEq, mKs_len, hlen', g1, hmin, g2, f3, f4, f5, f6, hTL, beq_self_eq_true, decide_true, wm1, wm2]) | (refine AQ.guard_yes (by simp only [go_sem]) ?_; refine AQ.fn (by kernel_rfl) rfl rfl rfl (awake_spec) rfl ?_; simp only [go_sem, Nat.reduceAdd, Nat.reduceLeDiff, reduceCtorEq, mKs_len, hlen', g1, hmin, g2, f3, f4, f5, f6, hTL, beq_self_eq_true, decide_true, wm1, wm2]) | refine AQ.done ?_ | (refine AQ.go (by kernel_rfl) ?_; simp only [go_sem, Nat.reduceAdd, Nat.reduceLeDiff, reduceCtorEq, mKs_len, hlen', g1, hmin, g2, f3, f4, f5, f6, hTL, beq_self_eq_true, decide_true, wm1, wm2]; repeat (with_reducible refine And.intro (by omega) ?_); refine AQ.nx rfl ?_; simp only [go_sem, Nat.reduceAdd, Nat.reduceLeDiff, reduceCtorEq, mKs_len, hlen', g1, hmin, g2, f3, f4, f5, f6, hTL, beq_self_eq_true, decide_true, wm1, wm2]))
      repeat (first | refine xPP rfl ?_ | refine xPE rfl ?_ | refine xEP rfl ?_ | refine xEE rfl ?_ | refine AQ.done ?_ | refine AQ.skip (by kernel_rfl) rfl ?_ | refine AQ.s2b (by kernel_rfl) rfl rfl rfl rfl ?_ | refine AQ.mark (by kernel_rfl) rfl rfl rfl rfl rfl rfl rfl ?_ | refine AP.cond_true rfl rfl ?_ | refine AP.cond_false rfl rfl ?_ | (refine AP.region rfl (by kernel_rfl) ?_; simp only [go_sem, Nat.reduceAdd, Nat.reduceLeDiff, reduceCtorEq]) | (refine AP.drawQ rfl rfl (by kernel_rfl) ?_; simp only [go_sem, Nat.reduceAdd, Nat.reduceLeDiff, reduceCtorEq]) | (refine vq_id ?_; simp only [go_sem, Nat.reduceAdd, Nat.reduceLeDiff, reduceCtorEq]) | (refine ⟨by first | omega | (intros; simp_all; done) | (intros; simp_all; omega), ?_⟩; try simp only [go_sem, Nat.reduceAdd, Nat.reduceLeDiff, reduceCtorEq]))
      exact AE.ret0 rfl ⟨⟨rfl, Nat.le_of_ble_eq_true (by kernel_rfl)⟩, trivial⟩ rfl ⟨rfl, rfl⟩
end Go.Proofs.Ytfgffpkdjmeaoaa.IntT
end

section
namespace Go.Proofs.Ytfgffpkdjmeaoaa.IntT
open Go Go.AL Go.RowKit
set_option maxRecDepth 100000
theorem u8_natR {i : Int} (h : (Lit.int .u8 i).wf = true) : ∃ n : Nat, i = n ∧ n < 256 := by
  simp [Lit.wf, IntKind.min, IntKind.max, IntKind.bits, IntKind.signed] at h
  exact ⟨i.toNat, by omega, by omega⟩
theorem ints_of {n : Nat} {xs : List IV} (h : Typed Try.prog n 22 xs) : ∃ l : List Int, xs = [.sl 1 (intR l)] ∧ l.length ≤ 9223372036854775807 := by
  have hc : Try.prog.cellsOf 3 = 1 := by kernel_rfl
  obtain ⟨rows, m, rfl, hr, hrow⟩ := typed_slice Try.underlying22 h
  obtain ⟨l, rfl, _⟩ := rows_of (p := fun _ : Int => True) (f := fun x => [Ii x]) rows fun r hr => by
    obtain ⟨i, e, _⟩ := typed_int Try.underlying3 (hrow r hr)
    exact ⟨i, e, trivial⟩
  refine ⟨l, by rw [hc]; rfl, ?_⟩
  rw [List.length_map] at hr
  unfold maxLen at hr
  omega
end Go.Proofs.Ytfgffpkdjmeaoaa.IntT
end
