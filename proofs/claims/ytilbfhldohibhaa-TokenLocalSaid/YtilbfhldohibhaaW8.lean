import Derived.Test.YtilbfhldohibhaaW7
set_option linter.unusedSimpArgs false
set_option linter.unusedVariables false
set_option linter.unnecessarySimpa false
namespace Go.Proofs.Ytilbfhldohibhaa
open Go Go.AL Go.RowKit
set_option maxRecDepth 10000
set_option maxHeartbeats 4000000
theorem word_step (t : List UInt8) (k e : Nat) (hke : k ≤ e) (he : e < t.length) (h : ∀ b ∈ (t.drop k).take (e - k), sp b = false) (h' : sp (t.getD e 0) = false) : ∀ b ∈ (t.drop k).take (e + 1 - k), sp b = false := by
  intro b hb
  rw [show e + 1 - k = e - k + 1 by omega, List.take_add_one] at hb
  rcases List.mem_append.1 hb with hb | hb
  · exact h b hb
  · rw [List.getElem?_drop, show k + (e - k) = e by omega, List.getElem?_eq_getElem he] at hb
    rw [List.getD_eq_getElem?_getD, List.getElem?_eq_getElem he] at h'
    simp at hb
    rw [hb]; exact h'
theorem scan_spec (t : List UInt8) (ht : t.length ≤ 7000) : PFn Try.prog 10 [Sv t] (scanOf t) := by
  refine ACall.walk [0, 2, 3, 4, 5, 6, 7, 8, 9, 12, 15, 16, 17, 24, 38, 41, 46, 63] [5] Try.func10 rfl Try.ntmps10 (by kernel_rfl) (by rfl) rfl fun w own I0 φ0 => ?_
  repeat (first | refine AP.seq rfl ?_ | refine AE.seq ?_ | refine AP.block rfl ?_ | refine AP.scope rfl ?_ | refine AP.label rfl ?_ | refine AE.sc ?_ | refine AE.sc_exit ?_ | refine AE.sc_ret ?_ | refine AP.skip rfl ?_ | refine AP.ret rfl ?_ | refine AP.exit rfl ?_ | refine AE.seq_exit ?_ | refine AE.seq_ret ?_ | refine AE.blk ?_ | refine AE.blk_exit ?_ | refine AE.blk_exit_ne rfl ?_ | refine AE.blk_ret ?_ | refine AE.lp_exit ?_ | refine AE.lp_ret ?_ | refine AQ.done ?_ | refine AP.cond_true rfl rfl ?_ | refine AP.cond_false rfl rfl ?_ | (refine AP.region rfl (by kernel_rfl) ?_; simp only [go_sem, Nat.reduceAdd, reduceCtorEq]) | (refine vq_id ?_; simp only [go_sem, Nat.reduceAdd, reduceCtorEq]) | (refine ⟨by first | omega | (intros; simp_all; done) | (intros; simp_all; omega), ?_⟩; try simp only [go_sem, Nat.reduceAdd, reduceCtorEq]))
  have h1 : ¬ ((40000 : Int) < t.length) := by omega
  refine AP.cond_false rfl (by rw [← decide_eq_false h1]; rfl) ?_
  repeat (first | refine AP.seq rfl ?_ | refine AE.seq ?_ | refine AP.block rfl ?_ | refine AP.scope rfl ?_ | refine AP.label rfl ?_ | refine AE.sc ?_ | refine AE.sc_exit ?_ | refine AE.sc_ret ?_ | refine AP.skip rfl ?_ | refine AP.ret rfl ?_ | refine AP.exit rfl ?_ | refine AE.seq_exit ?_ | refine AE.seq_ret ?_ | refine AE.blk ?_ | refine AE.blk_exit ?_ | refine AE.blk_exit_ne rfl ?_ | refine AE.blk_ret ?_ | refine AE.lp_exit ?_ | refine AE.lp_ret ?_ | refine AQ.done ?_ | refine AP.cond_true rfl rfl ?_ | refine AP.cond_false rfl rfl ?_ | (refine AP.region rfl (by kernel_rfl) ?_; simp only [go_sem, Nat.reduceAdd, reduceCtorEq]) | (refine vq_id ?_; simp only [go_sem, Nat.reduceAdd, reduceCtorEq]) | (refine ⟨by first | omega | (intros; simp_all; done) | (intros; simp_all; omega), ?_⟩; try simp only [go_sem, Nat.reduceAdd, reduceCtorEq]))
  refine AQ.fn (by kernel_rfl) rfl rfl rfl classes_spec rfl ?_
  repeat (first | refine AP.seq rfl ?_ | refine AE.seq ?_ | refine AP.block rfl ?_ | refine AP.scope rfl ?_ | refine AP.label rfl ?_ | refine AE.sc ?_ | refine AE.sc_exit ?_ | refine AE.sc_ret ?_ | refine AP.skip rfl ?_ | refine AP.ret rfl ?_ | refine AP.exit rfl ?_ | refine AE.seq_exit ?_ | refine AE.seq_ret ?_ | refine AE.blk ?_ | refine AE.blk_exit ?_ | refine AE.blk_exit_ne rfl ?_ | refine AE.blk_ret ?_ | refine AE.lp_exit ?_ | refine AE.lp_ret ?_ | refine AQ.done ?_ | refine AP.cond_true rfl rfl ?_ | refine AP.cond_false rfl rfl ?_ | (refine AP.region rfl (by kernel_rfl) ?_; simp only [go_sem, Nat.reduceAdd, reduceCtorEq]) | (refine vq_id ?_; simp only [go_sem, Nat.reduceAdd, reduceCtorEq]) | (refine ⟨by first | omega | (intros; simp_all; done) | (intros; simp_all; omega), ?_⟩; try simp only [go_sem, Nat.reduceAdd, reduceCtorEq]))
  refine AP.loop rfl (α := Nat) (fun k => [(0, Sv t), (5, .ob 0 0), (15, Iv t.length), (16, Iv k)]) (fun k => [(0, .vec 47 1 tabRows)]) (fun k => k ≤ t.length ∧ ((t.take k).all fun b => !(cls b.toNat == 0)) = true) (fun k => t.length - k) 0 (by simp) (Sub.cons rfl (Sub.cons rfl (Sub.cons rfl (Sub.cons rfl (Sub.nil _))))) (by simp) fun k hk => ?_
  obtain ⟨hk, hx⟩ := hk
  have hw := wr (x := (k : Int) + 1) (by omega)
  repeat (first | refine AP.seq rfl ?_ | refine AE.seq ?_ | refine AP.block rfl ?_ | refine AP.scope rfl ?_ | refine AP.label rfl ?_ | refine AE.sc ?_ | refine AE.sc_exit ?_ | refine AE.sc_ret ?_ | refine AP.skip rfl ?_ | refine AP.ret rfl ?_ | refine AP.exit rfl ?_ | refine AE.seq_exit ?_ | refine AE.seq_ret ?_ | refine AE.blk ?_ | refine AE.blk_exit ?_ | refine AE.blk_exit_ne rfl ?_ | refine AE.blk_ret ?_ | refine AE.lp_exit ?_ | refine AE.lp_ret ?_ | refine AQ.done ?_ | refine AP.cond_true rfl rfl ?_ | refine AP.cond_false rfl rfl ?_ | (refine AP.region rfl (by kernel_rfl) ?_; simp only [go_sem, Nat.reduceAdd, reduceCtorEq, hw]) | (refine vq_id ?_; simp only [go_sem, Nat.reduceAdd, reduceCtorEq, hw]) | (refine ⟨by first | omega | (intros; simp_all; done) | (intros; simp_all; omega), ?_⟩; try simp only [go_sem, Nat.reduceAdd, reduceCtorEq, hw]))
  refine AP.cond rfl rfl (fun hc => ?_) (fun hc => ?_)
  · have hk' : k < t.length := by simp at hc; omega
    have hb := (t.getD k 0).toNat_lt
    repeat (first | refine AP.seq rfl ?_ | refine AE.seq ?_ | refine AP.block rfl ?_ | refine AP.scope rfl ?_ | refine AP.label rfl ?_ | refine AE.sc ?_ | refine AE.sc_exit ?_ | refine AE.sc_ret ?_ | refine AP.skip rfl ?_ | refine AP.ret rfl ?_ | refine AP.exit rfl ?_ | refine AE.seq_exit ?_ | refine AE.seq_ret ?_ | refine AE.blk ?_ | refine AE.blk_exit ?_ | refine AE.blk_exit_ne rfl ?_ | refine AE.blk_ret ?_ | refine AE.lp_exit ?_ | refine AE.lp_ret ?_ | refine AQ.done ?_ | refine AP.cond_true rfl rfl ?_ | refine AP.cond_false rfl rfl ?_ | (refine AP.region rfl (by kernel_rfl) ?_; simp only [go_sem, Nat.reduceAdd, reduceCtorEq, hw]) | (refine vq_id ?_; simp only [go_sem, Nat.reduceAdd, reduceCtorEq, hw]) | (refine ⟨by first | omega | (intros; simp_all; done) | (intros; simp_all; omega), ?_⟩; try simp only [go_sem, Nat.reduceAdd, reduceCtorEq, hw]))
    refine AP.cond rfl rfl (fun h2 => ?_) (fun h2 => ?_)
    · repeat (first | refine AP.seq rfl ?_ | refine AE.seq ?_ | refine AP.block rfl ?_ | refine AP.scope rfl ?_ | refine AP.label rfl ?_ | refine AE.sc ?_ | refine AE.sc_exit ?_ | refine AE.sc_ret ?_ | refine AP.skip rfl ?_ | refine AP.ret rfl ?_ | refine AP.exit rfl ?_ | refine AE.seq_exit ?_ | refine AE.seq_ret ?_ | refine AE.blk ?_ | refine AE.blk_exit ?_ | refine AE.blk_exit_ne rfl ?_ | refine AE.blk_ret ?_ | refine AE.lp_exit ?_ | refine AE.lp_ret ?_ | refine AQ.done ?_ | refine AP.cond_true rfl rfl ?_ | refine AP.cond_false rfl rfl ?_ | (refine AP.region rfl (by kernel_rfl) ?_; simp only [go_sem, Nat.reduceAdd, reduceCtorEq, hw]) | (refine vq_id ?_; simp only [go_sem, Nat.reduceAdd, reduceCtorEq, hw]) | (refine ⟨by first | omega | (intros; simp_all; done) | (intros; simp_all; omega), ?_⟩; try simp only [go_sem, Nat.reduceAdd, reduceCtorEq, hw]))
      refine AE.nilsl 2 2 rfl ?_
      refine AE.ret0 rfl ⟨rfl, rfl, rfl, trivial⟩ rfl ⟨rfl, ?_⟩
      have : okT t = false := all_no t _ k hk' (by rw [h2]; rfl)
      rw [scanOf, this, bad_at t k hk' hx h2]; rfl
    · repeat (first | refine AP.seq rfl ?_ | refine AE.seq ?_ | refine AP.block rfl ?_ | refine AP.scope rfl ?_ | refine AP.label rfl ?_ | refine AE.sc ?_ | refine AE.sc_exit ?_ | refine AE.sc_ret ?_ | refine AP.skip rfl ?_ | refine AP.ret rfl ?_ | refine AP.exit rfl ?_ | refine AE.seq_exit ?_ | refine AE.seq_ret ?_ | refine AE.blk ?_ | refine AE.blk_exit ?_ | refine AE.blk_exit_ne rfl ?_ | refine AE.blk_ret ?_ | refine AE.lp_exit ?_ | refine AE.lp_ret ?_ | refine AQ.done ?_ | refine AP.cond_true rfl rfl ?_ | refine AP.cond_false rfl rfl ?_ | (refine AP.region rfl (by kernel_rfl) ?_; simp only [go_sem, Nat.reduceAdd, reduceCtorEq, hw]) | (refine vq_id ?_; simp only [go_sem, Nat.reduceAdd, reduceCtorEq, hw]) | (refine ⟨by first | omega | (intros; simp_all; done) | (intros; simp_all; omega), ?_⟩; try simp only [go_sem, Nat.reduceAdd, reduceCtorEq, hw]))
      exact AE.round (k + 1) ⟨by omega, all_step t _ k hk' hx (by rw [h2]; rfl)⟩ (by omega) (Sub.cons rfl (Sub.cons rfl (Sub.cons rfl (Sub.cons rfl (Sub.nil _))))) rfl
  · have hk' : k = t.length := by simp at hc; omega
    rw [hk', List.take_length] at hx
    repeat (first | refine AP.seq rfl ?_ | refine AE.seq ?_ | refine AP.block rfl ?_ | refine AP.scope rfl ?_ | refine AP.label rfl ?_ | refine AE.sc ?_ | refine AE.sc_exit ?_ | refine AE.sc_ret ?_ | refine AP.skip rfl ?_ | refine AP.ret rfl ?_ | refine AP.exit rfl ?_ | refine AE.seq_exit ?_ | refine AE.seq_ret ?_ | refine AE.blk ?_ | refine AE.blk_exit ?_ | refine AE.blk_exit_ne rfl ?_ | refine AE.blk_ret ?_ | refine AE.lp_exit ?_ | refine AE.lp_ret ?_ | refine AQ.done ?_ | refine AP.cond_true rfl rfl ?_ | refine AP.cond_false rfl rfl ?_ | (refine AP.region rfl (by kernel_rfl) ?_; simp only [go_sem, Nat.reduceAdd, reduceCtorEq, hw]) | (refine vq_id ?_; simp only [go_sem, Nat.reduceAdd, reduceCtorEq, hw]) | (refine ⟨by first | omega | (intros; simp_all; done) | (intros; simp_all; omega), ?_⟩; try simp only [go_sem, Nat.reduceAdd, reduceCtorEq, hw]))
    refine AP.own 7 29 2 rfl ?_
    refine AP.loop rfl (α := Nat × List Tok) (fun p => [(0, Sv t), (5, .ob 0 0), (7, .os 1 2 0 p.2.length), (8, Iv p.1)]) (fun p => [(1, .vec 29 2 (tokRows p.2)), (0, .vec 47 1 tabRows)]) (fun p => p.1 ≤ t.length ∧ p.2.length ≤ p.1 ∧ toks t 0 = p.2 ++ toks (t.drop p.1) p.1) (fun p => t.length - p.1) (0, []) (by simp) (Sub.cons rfl (Sub.cons rfl (Sub.cons rfl (Sub.cons rfl (Sub.nil _))))) (by rfl) fun p hp => ?_
    obtain ⟨a0, out⟩ := p
    obtain ⟨ha0, hout, htk⟩ := hp
    simp only at ha0 hout htk
    repeat (first | refine AP.seq rfl ?_ | refine AE.seq ?_ | refine AP.block rfl ?_ | refine AP.scope rfl ?_ | refine AP.label rfl ?_ | refine AE.sc ?_ | refine AE.sc_exit ?_ | refine AE.sc_ret ?_ | refine AP.skip rfl ?_ | refine AP.ret rfl ?_ | refine AP.exit rfl ?_ | refine AE.seq_exit ?_ | refine AE.seq_ret ?_ | refine AE.blk ?_ | refine AE.blk_exit ?_ | refine AE.blk_exit_ne rfl ?_ | refine AE.blk_ret ?_ | refine AE.lp_exit ?_ | refine AE.lp_ret ?_ | refine AQ.done ?_ | refine AP.cond_true rfl rfl ?_ | refine AP.cond_false rfl rfl ?_ | (refine AP.region rfl (by kernel_rfl) ?_; simp only [go_sem, Nat.reduceAdd, reduceCtorEq]) | (refine vq_id ?_; simp only [go_sem, Nat.reduceAdd, reduceCtorEq]) | (refine ⟨by first | omega | (intros; simp_all; done) | (intros; simp_all; omega), ?_⟩; try simp only [go_sem, Nat.reduceAdd, reduceCtorEq]))
    refine AP.loop rfl (α := Nat) (fun k => [(0, Sv t), (5, .ob 0 0), (7, .os 1 2 0 out.length), (8, Iv k)]) (fun _ => [(1, .vec 29 2 (tokRows out)), (0, .vec 47 1 tabRows)]) (fun k => a0 ≤ k ∧ k ≤ t.length ∧ toks t 0 = out ++ toks (t.drop k) k) (fun k => t.length - k) a0 ⟨by omega, ha0, htk⟩ (Sub.cons rfl (Sub.cons rfl (Sub.cons rfl (Sub.cons rfl (Sub.nil _))))) (by rfl) fun k hk => ?_
    obtain ⟨hak, hk, htk⟩ := hk
    have hw := wr (x := (k : Int) + 1) (by omega)
    have hb := (t.getD k 0).toNat_lt
    repeat (first | refine AP.seq rfl ?_ | refine AE.seq ?_ | refine AP.block rfl ?_ | refine AP.scope rfl ?_ | refine AP.label rfl ?_ | refine AE.sc ?_ | refine AE.sc_exit ?_ | refine AE.sc_ret ?_ | refine AP.skip rfl ?_ | refine AP.ret rfl ?_ | refine AP.exit rfl ?_ | refine AE.seq_exit ?_ | refine AE.seq_ret ?_ | refine AE.blk ?_ | refine AE.blk_exit ?_ | refine AE.blk_exit_ne rfl ?_ | refine AE.blk_ret ?_ | refine AE.lp_exit ?_ | refine AE.lp_ret ?_ | refine AQ.done ?_ | refine AP.cond_true rfl rfl ?_ | refine AP.cond_false rfl rfl ?_ | (refine AP.region rfl (by kernel_rfl) ?_; simp only [go_sem, Nat.reduceAdd, reduceCtorEq, hw]) | (refine vq_id ?_; simp only [go_sem, Nat.reduceAdd, reduceCtorEq, hw]) | (refine ⟨by first | omega | (intros; simp_all; done) | (intros; simp_all; omega), ?_⟩; try simp only [go_sem, Nat.reduceAdd, reduceCtorEq, hw]))
    refine AP.cond rfl rfl (fun hc => ?_) (fun hc => ?_)
    · simp only [Bool.and_eq_true, decide_eq_true_eq] at hc
      have hk' : k < t.length := by omega
      repeat (first | refine AP.seq rfl ?_ | refine AE.seq ?_ | refine AP.block rfl ?_ | refine AP.scope rfl ?_ | refine AP.label rfl ?_ | refine AE.sc ?_ | refine AE.sc_exit ?_ | refine AE.sc_ret ?_ | refine AP.skip rfl ?_ | refine AP.ret rfl ?_ | refine AP.exit rfl ?_ | refine AE.seq_exit ?_ | refine AE.seq_ret ?_ | refine AE.blk ?_ | refine AE.blk_exit ?_ | refine AE.blk_exit_ne rfl ?_ | refine AE.blk_ret ?_ | refine AE.lp_exit ?_ | refine AE.lp_ret ?_ | refine AQ.done ?_ | refine AP.cond_true rfl rfl ?_ | refine AP.cond_false rfl rfl ?_ | (refine AP.region rfl (by kernel_rfl) ?_; simp only [go_sem, Nat.reduceAdd, reduceCtorEq, hw]) | (refine vq_id ?_; simp only [go_sem, Nat.reduceAdd, reduceCtorEq, hw]) | (refine ⟨by first | omega | (intros; simp_all; done) | (intros; simp_all; omega), ?_⟩; try simp only [go_sem, Nat.reduceAdd, reduceCtorEq, hw]))
      refine AE.round (k + 1) ⟨by omega, by omega, ?_⟩ (by omega) (Sub.cons rfl (Sub.cons rfl (Sub.cons rfl (Sub.cons rfl (Sub.nil _))))) rfl
      rw [htk, drop_cons t k hk', toks_sp hc.2]
    · repeat (first | refine AP.seq rfl ?_ | refine AE.seq ?_ | refine AP.block rfl ?_ | refine AP.scope rfl ?_ | refine AP.label rfl ?_ | refine AE.sc ?_ | refine AE.sc_exit ?_ | refine AE.sc_ret ?_ | refine AP.skip rfl ?_ | refine AP.ret rfl ?_ | refine AP.exit rfl ?_ | refine AE.seq_exit ?_ | refine AE.seq_ret ?_ | refine AE.blk ?_ | refine AE.blk_exit ?_ | refine AE.blk_exit_ne rfl ?_ | refine AE.blk_ret ?_ | refine AE.lp_exit ?_ | refine AE.lp_ret ?_ | refine AQ.done ?_ | refine AP.cond_true rfl rfl ?_ | refine AP.cond_false rfl rfl ?_ | (refine AP.region rfl (by kernel_rfl) ?_; simp only [go_sem, Nat.reduceAdd, reduceCtorEq, hw]) | (refine vq_id ?_; simp only [go_sem, Nat.reduceAdd, reduceCtorEq, hw]) | (refine ⟨by first | omega | (intros; simp_all; done) | (intros; simp_all; omega), ?_⟩; try simp only [go_sem, Nat.reduceAdd, reduceCtorEq, hw]))
      refine AP.cond rfl rfl (fun h2 => ?_) (fun h2 => ?_)
      · have hk' : k = t.length := by simp at h2; omega
        repeat (first | refine AP.seq rfl ?_ | refine AE.seq ?_ | refine AP.block rfl ?_ | refine AP.scope rfl ?_ | refine AP.label rfl ?_ | refine AE.sc ?_ | refine AE.sc_exit ?_ | refine AE.sc_ret ?_ | refine AP.skip rfl ?_ | refine AP.ret rfl ?_ | refine AP.exit rfl ?_ | refine AE.seq_exit ?_ | refine AE.seq_ret ?_ | refine AE.blk ?_ | refine AE.blk_exit ?_ | refine AE.blk_exit_ne rfl ?_ | refine AE.blk_ret ?_ | refine AE.lp_exit ?_ | refine AE.lp_ret ?_ | refine AQ.done ?_ | refine AP.cond_true rfl rfl ?_ | refine AP.cond_false rfl rfl ?_ | (refine AP.region rfl (by kernel_rfl) ?_; simp only [go_sem, Nat.reduceAdd, reduceCtorEq]) | (refine vq_id ?_; simp only [go_sem, Nat.reduceAdd, reduceCtorEq]) | (refine ⟨by first | omega | (intros; simp_all; done) | (intros; simp_all; omega), ?_⟩; try simp only [go_sem, Nat.reduceAdd, reduceCtorEq]))
        simp only [go_sem, Nat.reduceAdd, reduceCtorEq]
        refine AE.freeze 1 (el := 29) (es := 2) (rows := tokRows out) rfl (by simp only [go_sem, Nat.reduceAdd, reduceCtorEq]) (by simp only [go_sem, Nat.reduceAdd, reduceCtorEq]; try (simp; done)) ?_
        refine AE.ret0 rfl ⟨rfl, rfl, rfl, trivial⟩ rfl ⟨rfl, ?_⟩
        have e1 : okT t = true := hx
        have e2 : toks t 0 = out := by rw [htk, hk', List.drop_length, toks, List.append_nil]
        rw [scanOf, e1, if_pos rfl, e2]
        have e3 : ((tokRows out).drop 0).take out.length = tokRows out := by rw [List.drop_zero, ← tokRows_len out, List.take_length]
        show AV.tup [.im (.sl 2 (((tokRows out).drop 0).take out.length)), Iv 0, Iv 0] = _
        rw [e3]
      · have hk' : k < t.length := by simp at h2; omega
        have hsp : sp (t.getD k 0) = false := by
          simp only [Bool.and_eq_false_iff, decide_eq_false_iff_not] at hc
          rcases hc with hc | hc
          · omega
          · exact hc
        repeat (first | refine AP.seq rfl ?_ | refine AE.seq ?_ | refine AP.block rfl ?_ | refine AP.scope rfl ?_ | refine AP.label rfl ?_ | refine AE.sc ?_ | refine AE.sc_exit ?_ | refine AE.sc_ret ?_ | refine AP.skip rfl ?_ | refine AP.ret rfl ?_ | refine AP.exit rfl ?_ | refine AE.seq_exit ?_ | refine AE.seq_ret ?_ | refine AE.blk ?_ | refine AE.blk_exit ?_ | refine AE.blk_exit_ne rfl ?_ | refine AE.blk_ret ?_ | refine AE.lp_exit ?_ | refine AE.lp_ret ?_ | refine AQ.done ?_ | refine AP.cond_true rfl rfl ?_ | refine AP.cond_false rfl rfl ?_ | (refine AP.region rfl (by kernel_rfl) ?_; simp only [go_sem, Nat.reduceAdd, reduceCtorEq]) | (refine vq_id ?_; simp only [go_sem, Nat.reduceAdd, reduceCtorEq]) | (refine ⟨by first | omega | (intros; simp_all; done) | (intros; simp_all; omega), ?_⟩; try simp only [go_sem, Nat.reduceAdd, reduceCtorEq]))
        refine AP.cond_false rfl (by rw [← show ((out.length : Int) == 8000) = false by simp; omega]; rfl) ?_
        repeat (first | refine AP.seq rfl ?_ | refine AE.seq ?_ | refine AP.block rfl ?_ | refine AP.scope rfl ?_ | refine AP.label rfl ?_ | refine AE.sc ?_ | refine AE.sc_exit ?_ | refine AE.sc_ret ?_ | refine AP.skip rfl ?_ | refine AP.ret rfl ?_ | refine AP.exit rfl ?_ | refine AE.seq_exit ?_ | refine AE.seq_ret ?_ | refine AE.blk ?_ | refine AE.blk_exit ?_ | refine AE.blk_exit_ne rfl ?_ | refine AE.blk_ret ?_ | refine AE.lp_exit ?_ | refine AE.lp_ret ?_ | refine AQ.done ?_ | refine AP.cond_true rfl rfl ?_ | refine AP.cond_false rfl rfl ?_ | (refine AP.region rfl (by kernel_rfl) ?_; simp only [go_sem, Nat.reduceAdd, reduceCtorEq]) | (refine vq_id ?_; simp only [go_sem, Nat.reduceAdd, reduceCtorEq]) | (refine ⟨by first | omega | (intros; simp_all; done) | (intros; simp_all; omega), ?_⟩; try simp only [go_sem, Nat.reduceAdd, reduceCtorEq]))
        refine AP.loop rfl (α := Nat) (fun e => [(0, Sv t), (5, .ob 0 0), (7, .os 1 2 0 out.length), (8, Iv k), (9, Iv e)]) (fun _ => [(1, .vec 29 2 (tokRows out)), (0, .vec 47 1 tabRows)]) (fun e => k ≤ e ∧ e ≤ t.length ∧ ∀ b ∈ (t.drop k).take (e - k), sp b = false) (fun e => t.length - e) k ⟨by omega, hk, by simp⟩ (Sub.cons rfl (Sub.cons rfl (Sub.cons rfl (Sub.cons rfl (Sub.cons rfl (Sub.nil _)))))) (by rfl) fun e he => ?_
        obtain ⟨hke, he, hwd⟩ := he
        have hw2 := wr (x := (e : Int) + 1) (by omega)
        have hb2 := (t.getD e 0).toNat_lt
        repeat (first | refine AP.seq rfl ?_ | refine AE.seq ?_ | refine AP.block rfl ?_ | refine AP.scope rfl ?_ | refine AP.label rfl ?_ | refine AE.sc ?_ | refine AE.sc_exit ?_ | refine AE.sc_ret ?_ | refine AP.skip rfl ?_ | refine AP.ret rfl ?_ | refine AP.exit rfl ?_ | refine AE.seq_exit ?_ | refine AE.seq_ret ?_ | refine AE.blk ?_ | refine AE.blk_exit ?_ | refine AE.blk_exit_ne rfl ?_ | refine AE.blk_ret ?_ | refine AE.lp_exit ?_ | refine AE.lp_ret ?_ | refine AQ.done ?_ | refine AP.cond_true rfl rfl ?_ | refine AP.cond_false rfl rfl ?_ | (refine AP.region rfl (by kernel_rfl) ?_; simp only [go_sem, Nat.reduceAdd, reduceCtorEq, hw2]) | (refine vq_id ?_; simp only [go_sem, Nat.reduceAdd, reduceCtorEq, hw2]) | (refine ⟨by first | omega | (intros; simp_all; done) | (intros; simp_all; omega), ?_⟩; try simp only [go_sem, Nat.reduceAdd, reduceCtorEq, hw2]))
        refine AP.cond rfl rfl (fun h3 => ?_) (fun h3 => ?_)
        · simp only [Bool.and_eq_true, decide_eq_true_eq] at h3
          have he' : e < t.length := by omega
          repeat (first | refine AP.seq rfl ?_ | refine AE.seq ?_ | refine AP.block rfl ?_ | refine AP.scope rfl ?_ | refine AP.label rfl ?_ | refine AE.sc ?_ | refine AE.sc_exit ?_ | refine AE.sc_ret ?_ | refine AP.skip rfl ?_ | refine AP.ret rfl ?_ | refine AP.exit rfl ?_ | refine AE.seq_exit ?_ | refine AE.seq_ret ?_ | refine AE.blk ?_ | refine AE.blk_exit ?_ | refine AE.blk_exit_ne rfl ?_ | refine AE.blk_ret ?_ | refine AE.lp_exit ?_ | refine AE.lp_ret ?_ | refine AQ.done ?_ | refine AP.cond_true rfl rfl ?_ | refine AP.cond_false rfl rfl ?_ | (refine AP.region rfl (by kernel_rfl) ?_; simp only [go_sem, Nat.reduceAdd, reduceCtorEq, hw2]) | (refine vq_id ?_; simp only [go_sem, Nat.reduceAdd, reduceCtorEq, hw2]) | (refine ⟨by first | omega | (intros; simp_all; done) | (intros; simp_all; omega), ?_⟩; try simp only [go_sem, Nat.reduceAdd, reduceCtorEq, hw2]))
          refine AE.round (e + 1) ⟨by omega, by omega, ?_⟩ (by omega) (Sub.cons rfl (Sub.cons rfl (Sub.cons rfl (Sub.cons rfl (Sub.cons rfl (Sub.nil _)))))) rfl
          exact word_step t k e hke he' hwd (by simpa [sp] using h3.2)
        · repeat (first | refine AP.seq rfl ?_ | refine AE.seq ?_ | refine AP.block rfl ?_ | refine AP.scope rfl ?_ | refine AP.label rfl ?_ | refine AE.sc ?_ | refine AE.sc_exit ?_ | refine AE.sc_ret ?_ | refine AP.skip rfl ?_ | refine AP.ret rfl ?_ | refine AP.exit rfl ?_ | refine AE.seq_exit ?_ | refine AE.seq_ret ?_ | refine AE.blk ?_ | refine AE.blk_exit ?_ | refine AE.blk_exit_ne rfl ?_ | refine AE.blk_ret ?_ | refine AE.lp_exit ?_ | refine AE.lp_ret ?_ | refine AQ.done ?_ | refine AP.cond_true rfl rfl ?_ | refine AP.cond_false rfl rfl ?_ | (refine AP.region rfl (by kernel_rfl) ?_; simp only [go_sem, Nat.reduceAdd, reduceCtorEq, hw2]) | (refine vq_id ?_; simp only [go_sem, Nat.reduceAdd, reduceCtorEq, hw2]) | (refine ⟨by first | omega | (intros; simp_all; done) | (intros; simp_all; omega), ?_⟩; try simp only [go_sem, Nat.reduceAdd, reduceCtorEq, hw2]))
          refine AQ.fn (by kernel_rfl) rfl rfl rfl (clone_spec _ (by rw [BA_size, List.length_take, List.length_drop]; omega)) rfl ?_
          repeat (first | refine AP.seq rfl ?_ | refine AE.seq ?_ | refine AP.block rfl ?_ | refine AP.scope rfl ?_ | refine AP.label rfl ?_ | refine AE.sc ?_ | refine AE.sc_exit ?_ | refine AE.sc_ret ?_ | refine AP.skip rfl ?_ | refine AP.ret rfl ?_ | refine AP.exit rfl ?_ | refine AE.seq_exit ?_ | refine AE.seq_ret ?_ | refine AE.blk ?_ | refine AE.blk_exit ?_ | refine AE.blk_exit_ne rfl ?_ | refine AE.blk_ret ?_ | refine AE.lp_exit ?_ | refine AE.lp_ret ?_ | refine AQ.done ?_ | refine AP.cond_true rfl rfl ?_ | refine AP.cond_false rfl rfl ?_ | (refine AP.region rfl (by kernel_rfl) ?_; simp only [go_sem, Nat.reduceAdd, reduceCtorEq, hw2]) | (refine vq_id ?_; simp only [go_sem, Nat.reduceAdd, reduceCtorEq, hw2]) | (refine ⟨by first | omega | (intros; simp_all; done) | (intros; simp_all; omega), ?_⟩; try simp only [go_sem, Nat.reduceAdd, reduceCtorEq, hw2]))
          have hlt : k < e := by
            rcases Nat.lt_or_ge k e with h | h
            · exact h
            · have : e = k := by omega
              subst this
              simp only [Bool.and_eq_false_iff, decide_eq_false_iff_not, bne_eq_false_iff_eq] at h3
              rcases h3 with h3 | h3
              · omega
              · have : sp (t.getD e 0) = true := by unfold sp; rw [h3]; rfl
                rw [this] at hsp; cases hsp
          refine AQ.append (rows := tokRows out) (xs := tokRows [((t.drop k).take (e - k), k)]) (es := 1) (by kernel_rfl) rfl rfl rfl rfl Try.tk24 Try.sz29 (by rw [Try.zr29]; rfl) Try.by29 (tokRows_len out).symm (by simp only [tokRows_len, List.length_cons, List.length_nil]; omega) (by simp only [tokRows_len, List.length_cons, List.length_nil]; omega) ?_
          repeat (first | refine AP.seq rfl ?_ | refine AE.seq ?_ | refine AP.block rfl ?_ | refine AP.scope rfl ?_ | refine AP.label rfl ?_ | refine AE.sc ?_ | refine AE.sc_exit ?_ | refine AE.sc_ret ?_ | refine AP.skip rfl ?_ | refine AP.ret rfl ?_ | refine AP.exit rfl ?_ | refine AE.seq_exit ?_ | refine AE.seq_ret ?_ | refine AE.blk ?_ | refine AE.blk_exit ?_ | refine AE.blk_exit_ne rfl ?_ | refine AE.blk_ret ?_ | refine AE.lp_exit ?_ | refine AE.lp_ret ?_ | refine AQ.done ?_ | refine AP.cond_true rfl rfl ?_ | refine AP.cond_false rfl rfl ?_ | (refine AP.region rfl (by kernel_rfl) ?_; simp only [go_sem, Nat.reduceAdd, reduceCtorEq]) | (refine vq_id ?_; simp only [go_sem, Nat.reduceAdd, reduceCtorEq]) | (refine ⟨by first | omega | (intros; simp_all; done) | (intros; simp_all; omega), ?_⟩; try simp only [go_sem, Nat.reduceAdd, reduceCtorEq]))
          refine AE.round (e, out ++ [((t.drop k).take (e - k), k)]) ⟨he, ?_, ?_⟩ (by simp only; omega) (Sub.cons rfl (Sub.cons rfl (Sub.cons ?_ (Sub.cons rfl (Sub.nil _))))) ?_
          · simp only [List.length_append, List.length_cons, List.length_nil]; omega
          · have hd : t.drop k = (t.drop k).take (e - k) ++ t.drop e := by
              conv => lhs; rw [← List.take_append_drop (e - k) (t.drop k)]
              rw [List.drop_drop, show k + (e - k) = e by omega]
            have hl : ((t.drop k).take (e - k)).length = e - k := by rw [List.length_take, List.length_drop]; omega
            rw [htk, List.append_assoc]
            congr 1
            conv => lhs; rw [hd]
            rw [toks_word _ _ _ (fun h => by rw [h] at hl; simp at hl; omega) hwd (fun c l' hcl => ?_), hl, show k + (e - k) = e by omega]
            · rfl
            · have he' : e < t.length := by
                rcases Nat.lt_or_ge e t.length with h | h
                · exact h
                · rw [List.drop_of_length_le h] at hcl; cases hcl
              rw [drop_cons t e he'] at hcl
              injection hcl with hcl _
              subst hcl
              simp only [Bool.and_eq_false_iff, decide_eq_false_iff_not, bne_eq_false_iff_eq] at h3
              rcases h3 with h3 | h3
              · omega
              · unfold sp; rw [h3]; rfl
          · simp only [List.length_append, List.length_cons, List.length_nil]; rfl
          · simp only [tokRows, List.map_append]
end Go.Proofs.Ytilbfhldohibhaa
