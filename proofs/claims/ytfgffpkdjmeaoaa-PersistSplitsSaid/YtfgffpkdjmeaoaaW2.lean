import Derived.Test.YtfgffpkdjmeaoaaW1
set_option linter.unusedSimpArgs false
set_option linter.unusedVariables false
set_option linter.unnecessarySimpa false
section
namespace Go.Proofs.Ytfgffpkdjmeaoaa
open Go Go.AL Go.RowKit
set_option maxRecDepth 10000
set_option maxHeartbeats 4000000
def setsH (a b c : List Int) (lg : List (List IV)) : Heap := [(4, .vec 121 4 lg), (3, .vec 3 1 (intR c)), (2, .vec 3 1 (intR b)), (1, .vec 3 1 (intR a)), (0, .var 117 [.os 1 1 0 a.length, .os 2 1 0 b.length, .os 3 1 0 c.length, .os 4 4 0 lg.length])]
def ids (n : Nat) : List Int := (List.range n).map Int.ofNat
theorem ids_len (n : Nat) : (ids n).length = n := by simp [ids]
theorem ids_succ (n : Nat) : intR (ids (n + 1)) = intR (ids n) ++ [[Ii n]] := by simp [ids, intR, List.range_succ]
theorem ones_succ (n : Nat) : intR (List.replicate (n + 1) 1) = intR (List.replicate n 1) ++ [[Ii 1]] := by simp [intR, List.replicate_succ']
theorem newSets_bad (n : Int) (hn : n < 0 ∨ 10000 < n) : PFn Try.prog 25 [Iv n] (.tup [.im (.v (.pointer none)), Iv 3]) := by
  refine ACall.walk [0, 2, 3, 4, 5, 11, 14, 15, 16] [13] Try.func25 rfl Try.ntmps25 (by kernel_rfl) (by rfl) rfl fun W own I0 φ0 => ?_
  repeat (first | refine xPP rfl ?_ | refine xPE rfl ?_ | refine xEP rfl ?_ | refine xEE rfl ?_ | refine AQ.done ?_ | refine AQ.skip (by kernel_rfl) rfl ?_ | refine AQ.s2b (by kernel_rfl) rfl rfl rfl rfl ?_ | refine AQ.mark (by kernel_rfl) rfl rfl rfl rfl rfl rfl rfl ?_ | refine AP.cond_true rfl rfl ?_ | refine AP.cond_false rfl rfl ?_ | (refine AP.region rfl (by kernel_rfl) ?_; simp only [go_sem, Nat.reduceAdd, Nat.reduceLeDiff, reduceCtorEq]) | (refine AP.drawQ rfl rfl (by kernel_rfl) ?_; simp only [go_sem, Nat.reduceAdd, Nat.reduceLeDiff, reduceCtorEq]) | (refine vq_id ?_; simp only [go_sem, Nat.reduceAdd, Nat.reduceLeDiff, reduceCtorEq]) | (refine ⟨by first | omega | (intros; simp_all; done) | (intros; simp_all; omega), ?_⟩; try simp only [go_sem, Nat.reduceAdd, Nat.reduceLeDiff, reduceCtorEq]))
  refine AP.cond_true rfl (by show _ = some (Bv true); rw [show (true : Bool) = (decide (n < 0) || decide (10000 < n)) by simp; omega]; rfl) ?_
  repeat (first | refine xPP rfl ?_ | refine xPE rfl ?_ | refine xEP rfl ?_ | refine xEE rfl ?_ | refine AQ.done ?_ | refine AQ.skip (by kernel_rfl) rfl ?_ | refine AQ.s2b (by kernel_rfl) rfl rfl rfl rfl ?_ | refine AQ.mark (by kernel_rfl) rfl rfl rfl rfl rfl rfl rfl ?_ | refine AP.cond_true rfl rfl ?_ | refine AP.cond_false rfl rfl ?_ | (refine AP.region rfl (by kernel_rfl) ?_; simp only [go_sem, Nat.reduceAdd, Nat.reduceLeDiff, reduceCtorEq]) | (refine AP.drawQ rfl rfl (by kernel_rfl) ?_; simp only [go_sem, Nat.reduceAdd, Nat.reduceLeDiff, reduceCtorEq]) | (refine vq_id ?_; simp only [go_sem, Nat.reduceAdd, Nat.reduceLeDiff, reduceCtorEq]) | (refine ⟨by first | omega | (intros; simp_all; done) | (intros; simp_all; omega), ?_⟩; try simp only [go_sem, Nat.reduceAdd, Nat.reduceLeDiff, reduceCtorEq]))
  exact AE.ret rfl ⟨rfl, rfl, trivial⟩ ⟨rfl, rfl⟩
theorem newSets_spec (n : Nat) (hn : n ≤ 10000) : ACall Try.prog 25 [Iv n] [] (fun r H' => H' = setsH (ids n) (List.replicate n 1) (ids n) [] ∧ r = .tup [.ob 0 0, Iv 0]) := by
  refine ACall.walk [0, 2, 3, 4, 5, 11, 14, 15, 16] [13] Try.func25 rfl Try.ntmps25 (by kernel_rfl) (by rfl) rfl fun W own I0 φ0 => ?_
  repeat (first | refine xPP rfl ?_ | refine xPE rfl ?_ | refine xEP rfl ?_ | refine xEE rfl ?_ | refine AQ.done ?_ | refine AQ.skip (by kernel_rfl) rfl ?_ | refine AQ.s2b (by kernel_rfl) rfl rfl rfl rfl ?_ | refine AQ.mark (by kernel_rfl) rfl rfl rfl rfl rfl rfl rfl ?_ | refine AP.cond_true rfl rfl ?_ | refine AP.cond_false rfl rfl ?_ | (refine AP.region rfl (by kernel_rfl) ?_; simp only [go_sem, Nat.reduceAdd, Nat.reduceLeDiff, reduceCtorEq]) | (refine AP.drawQ rfl rfl (by kernel_rfl) ?_; simp only [go_sem, Nat.reduceAdd, Nat.reduceLeDiff, reduceCtorEq]) | (refine vq_id ?_; simp only [go_sem, Nat.reduceAdd, Nat.reduceLeDiff, reduceCtorEq]) | (refine ⟨by first | omega | (intros; simp_all; done) | (intros; simp_all; omega), ?_⟩; try simp only [go_sem, Nat.reduceAdd, Nat.reduceLeDiff, reduceCtorEq]))
  refine AP.cond_false rfl (by show _ = some (Bv false); rw [show (false : Bool) = (decide ((n : Int) < 0) || decide (10000 < (n : Int))) by simp; omega]; rfl) ?_
  repeat (first | refine xPP rfl ?_ | refine xPE rfl ?_ | refine xEP rfl ?_ | refine xEE rfl ?_ | refine AQ.done ?_ | refine AQ.skip (by kernel_rfl) rfl ?_ | refine AQ.s2b (by kernel_rfl) rfl rfl rfl rfl ?_ | refine AQ.mark (by kernel_rfl) rfl rfl rfl rfl rfl rfl rfl ?_ | refine AP.cond_true rfl rfl ?_ | refine AP.cond_false rfl rfl ?_ | (refine AP.region rfl (by kernel_rfl) ?_; simp only [go_sem, Nat.reduceAdd, Nat.reduceLeDiff, reduceCtorEq]) | (refine AP.drawQ rfl rfl (by kernel_rfl) ?_; simp only [go_sem, Nat.reduceAdd, Nat.reduceLeDiff, reduceCtorEq]) | (refine vq_id ?_; simp only [go_sem, Nat.reduceAdd, Nat.reduceLeDiff, reduceCtorEq]) | (refine ⟨by first | omega | (intros; simp_all; done) | (intros; simp_all; omega), ?_⟩; try simp only [go_sem, Nat.reduceAdd, Nat.reduceLeDiff, reduceCtorEq]))
  refine AP.ownCell 0 0 3 1 rfl rfl ?_
  refine AP.ownCell 0 1 3 1 rfl rfl ?_
  refine AP.ownCell 0 2 3 1 rfl rfl ?_
  refine AP.ownCell 0 3 121 4 rfl rfl ?_
  refine AP.loop rfl (α := Nat) (fun k => [(4, .ob 0 0), (14, Iv n), (15, Iv k)]) (fun k => setsH (ids k) (List.replicate k 1) (ids k) []) (fun k => k ≤ n) (fun k => n - k) 0 (by omega) (by repeat (first | exact Sub.nil _ | refine Sub.cons rfl ?_)) (by rfl) fun k hk => ?_
  have hw := wr (x := (k : Int) + 1) (by omega)
  simp only [go_sem, Nat.reduceAdd, Nat.reduceLeDiff, reduceCtorEq, setsH, ids_len, List.length_replicate]
  repeat (first | refine xPP rfl ?_ | refine xPE rfl ?_ | refine xEP rfl ?_ | refine xEE rfl ?_ | refine AQ.done ?_ | refine AQ.skip (by kernel_rfl) rfl ?_ | refine AQ.s2b (by kernel_rfl) rfl rfl rfl rfl ?_ | refine AQ.mark (by kernel_rfl) rfl rfl rfl rfl rfl rfl rfl ?_ | refine AP.cond_true rfl rfl ?_ | refine AP.cond_false rfl rfl ?_ | (refine AP.region rfl (by kernel_rfl) ?_; simp only [go_sem, Nat.reduceAdd, Nat.reduceLeDiff, reduceCtorEq, hw]) | (refine AP.drawQ rfl rfl (by kernel_rfl) ?_; simp only [go_sem, Nat.reduceAdd, Nat.reduceLeDiff, reduceCtorEq, hw]) | (refine vq_id ?_; simp only [go_sem, Nat.reduceAdd, Nat.reduceLeDiff, reduceCtorEq, hw]) | (refine ⟨by first | omega | (intros; simp_all; done) | (intros; simp_all; omega), ?_⟩; try simp only [go_sem, Nat.reduceAdd, Nat.reduceLeDiff, reduceCtorEq, hw]))
  refine AP.cond rfl rfl (fun hc => ?_) (fun hc => ?_)
  · have hk' : k < n := by simp at hc; omega
    repeat (first | refine xPP rfl ?_ | refine xPE rfl ?_ | refine xEP rfl ?_ | refine xEE rfl ?_ | refine AQ.done ?_ | refine AQ.skip (by kernel_rfl) rfl ?_ | refine AQ.s2b (by kernel_rfl) rfl rfl rfl rfl ?_ | refine AQ.mark (by kernel_rfl) rfl rfl rfl rfl rfl rfl rfl ?_ | refine AP.cond_true rfl rfl ?_ | refine AP.cond_false rfl rfl ?_ | (refine AP.region rfl (by kernel_rfl) ?_; simp only [go_sem, Nat.reduceAdd, Nat.reduceLeDiff, reduceCtorEq, hw]) | (refine AP.drawQ rfl rfl (by kernel_rfl) ?_; simp only [go_sem, Nat.reduceAdd, Nat.reduceLeDiff, reduceCtorEq, hw]) | (refine vq_id ?_; simp only [go_sem, Nat.reduceAdd, Nat.reduceLeDiff, reduceCtorEq, hw]) | (refine ⟨by first | omega | (intros; simp_all; done) | (intros; simp_all; omega), ?_⟩; try simp only [go_sem, Nat.reduceAdd, Nat.reduceLeDiff, reduceCtorEq, hw]))
    refine AP.drawE 32 (Tree.node [] [0, 1, 2, 3, 4, 5, 6, 7, 10, 11, 12, 13, 16, 17, 18, 19, 20] [8, 14, 21] [Tree.node [0, 1, 2, 3, 4, 5, 6, 10, 11, 12, 13, 16, 17, 18, 19, 20] [] [9, 14, 21] [Tree.node [0, 1, 2, 10, 11, 12, 13, 16, 17, 18, 19, 20] [] [14, 21] [Tree.node [0, 1, 2, 10, 11, 12, 13, 16, 17, 18, 19, 20] [] [15, 21] [Tree.node [0, 1, 2, 16, 17, 18, 19, 20] [] [21] [Tree.node [0, 1, 2, 16, 17, 18, 19] [] [22] [Tree.node [0, 1, 2] [23, 24] [25] [Tree.node [1, 2] [26, 27] [28] [Tree.node [2] [29, 30] [31] [Tree.node [] [] [] []]]]]], Tree.node [0, 1, 2, 10, 11, 12, 13, 16, 17, 18, 19] [] [15] [Tree.node [0, 1, 2, 16, 17, 18, 19] [] [22] [Tree.node [0, 1, 2] [23, 24] [25] [Tree.node [1, 2] [26, 27] [28] [Tree.node [2] [29, 30] [31] [Tree.node [] [] [] []]]]]]], Tree.node [0, 1, 2, 10, 11, 12, 13, 16, 17, 18, 19] [] [14] [Tree.node [0, 1, 2, 10, 11, 12, 13, 16, 17, 18, 19] [] [15] [Tree.node [0, 1, 2, 16, 17, 18, 19] [] [22] [Tree.node [0, 1, 2] [23, 24] [25] [Tree.node [1, 2] [26, 27] [28] [Tree.node [2] [29, 30] [31] [Tree.node [] [] [] []]]]]]]], Tree.node [0, 1, 2, 3, 4, 5, 6, 10, 11, 12, 13, 16, 17, 18, 19, 20] [] [9, 21] [Tree.node [0, 1, 2, 10, 11, 12, 13, 16, 17, 18, 19, 20] [] [15, 21] [Tree.node [0, 1, 2, 16, 17, 18, 19, 20] [] [21] [Tree.node [0, 1, 2, 16, 17, 18, 19] [] [22] [Tree.node [0, 1, 2] [23, 24] [25] [Tree.node [1, 2] [26, 27] [28] [Tree.node [2] [29, 30] [31] [Tree.node [] [] [] []]]]]], Tree.node [0, 1, 2, 10, 11, 12, 13, 16, 17, 18, 19] [] [15] [Tree.node [0, 1, 2, 16, 17, 18, 19] [] [22] [Tree.node [0, 1, 2] [23, 24] [25] [Tree.node [1, 2] [26, 27] [28] [Tree.node [2] [29, 30] [31] [Tree.node [] [] [] []]]]]]], Tree.node [0, 1, 2, 3, 4, 5, 6, 10, 11, 12, 13, 16, 17, 18, 19] [] [9] [Tree.node [0, 1, 2, 10, 11, 12, 13, 16, 17, 18, 19] [] [15] [Tree.node [0, 1, 2, 16, 17, 18, 19] [] [22] [Tree.node [0, 1, 2] [23, 24] [25] [Tree.node [1, 2] [26, 27] [28] [Tree.node [2] [29, 30] [31] [Tree.node [] [] [] []]]]]]]], Tree.node [0, 1, 2, 3, 4, 5, 6, 10, 11, 12, 13, 16, 17, 18, 19] [] [9, 14] [Tree.node [0, 1, 2, 10, 11, 12, 13, 16, 17, 18, 19] [] [14] [Tree.node [0, 1, 2, 10, 11, 12, 13, 16, 17, 18, 19] [] [15] [Tree.node [0, 1, 2, 16, 17, 18, 19] [] [22] [Tree.node [0, 1, 2] [23, 24] [25] [Tree.node [1, 2] [26, 27] [28] [Tree.node [2] [29, 30] [31] [Tree.node [] [] [] []]]]]]], Tree.node [0, 1, 2, 3, 4, 5, 6, 10, 11, 12, 13, 16, 17, 18, 19] [] [9] [Tree.node [0, 1, 2, 10, 11, 12, 13, 16, 17, 18, 19] [] [15] [Tree.node [0, 1, 2, 16, 17, 18, 19] [] [22] [Tree.node [0, 1, 2] [23, 24] [25] [Tree.node [1, 2] [26, 27] [28] [Tree.node [2] [29, 30] [31] [Tree.node [] [] [] []]]]]]]]], Tree.node [0, 1, 2, 3, 4, 5, 6, 7, 10, 11, 12, 13, 16, 17, 18, 19, 20] [] [8, 21] [Tree.node [0, 1, 2, 3, 4, 5, 6, 10, 11, 12, 13, 16, 17, 18, 19, 20] [] [9, 21] [Tree.node [0, 1, 2, 10, 11, 12, 13, 16, 17, 18, 19, 20] [] [15, 21] [Tree.node [0, 1, 2, 16, 17, 18, 19, 20] [] [21] [Tree.node [0, 1, 2, 16, 17, 18, 19] [] [22] [Tree.node [0, 1, 2] [23, 24] [25] [Tree.node [1, 2] [26, 27] [28] [Tree.node [2] [29, 30] [31] [Tree.node [] [] [] []]]]]], Tree.node [0, 1, 2, 10, 11, 12, 13, 16, 17, 18, 19] [] [15] [Tree.node [0, 1, 2, 16, 17, 18, 19] [] [22] [Tree.node [0, 1, 2] [23, 24] [25] [Tree.node [1, 2] [26, 27] [28] [Tree.node [2] [29, 30] [31] [Tree.node [] [] [] []]]]]]], Tree.node [0, 1, 2, 3, 4, 5, 6, 10, 11, 12, 13, 16, 17, 18, 19] [] [9] [Tree.node [0, 1, 2, 10, 11, 12, 13, 16, 17, 18, 19] [] [15] [Tree.node [0, 1, 2, 16, 17, 18, 19] [] [22] [Tree.node [0, 1, 2] [23, 24] [25] [Tree.node [1, 2] [26, 27] [28] [Tree.node [2] [29, 30] [31] [Tree.node [] [] [] []]]]]]]], Tree.node [0, 1, 2, 3, 4, 5, 6, 7, 10, 11, 12, 13, 16, 17, 18, 19] [] [8] [Tree.node [0, 1, 2, 3, 4, 5, 6, 10, 11, 12, 13, 16, 17, 18, 19] [] [9] [Tree.node [0, 1, 2, 10, 11, 12, 13, 16, 17, 18, 19] [] [15] [Tree.node [0, 1, 2, 16, 17, 18, 19] [] [22] [Tree.node [0, 1, 2] [23, 24] [25] [Tree.node [1, 2] [26, 27] [28] [Tree.node [2] [29, 30] [31] [Tree.node [] [] [] []]]]]]]]], Tree.node [0, 1, 2, 3, 4, 5, 6, 7, 10, 11, 12, 13, 16, 17, 18, 19] [] [8, 14] [Tree.node [0, 1, 2, 3, 4, 5, 6, 10, 11, 12, 13, 16, 17, 18, 19] [] [9, 14] [Tree.node [0, 1, 2, 10, 11, 12, 13, 16, 17, 18, 19] [] [14] [Tree.node [0, 1, 2, 10, 11, 12, 13, 16, 17, 18, 19] [] [15] [Tree.node [0, 1, 2, 16, 17, 18, 19] [] [22] [Tree.node [0, 1, 2] [23, 24] [25] [Tree.node [1, 2] [26, 27] [28] [Tree.node [2] [29, 30] [31] [Tree.node [] [] [] []]]]]]], Tree.node [0, 1, 2, 3, 4, 5, 6, 10, 11, 12, 13, 16, 17, 18, 19] [] [9] [Tree.node [0, 1, 2, 10, 11, 12, 13, 16, 17, 18, 19] [] [15] [Tree.node [0, 1, 2, 16, 17, 18, 19] [] [22] [Tree.node [0, 1, 2] [23, 24] [25] [Tree.node [1, 2] [26, 27] [28] [Tree.node [2] [29, 30] [31] [Tree.node [] [] [] []]]]]]]], Tree.node [0, 1, 2, 3, 4, 5, 6, 7, 10, 11, 12, 13, 16, 17, 18, 19] [] [8] [Tree.node [0, 1, 2, 3, 4, 5, 6, 10, 11, 12, 13, 16, 17, 18, 19] [] [9] [Tree.node [0, 1, 2, 10, 11, 12, 13, 16, 17, 18, 19] [] [15] [Tree.node [0, 1, 2, 16, 17, 18, 19] [] [22] [Tree.node [0, 1, 2] [23, 24] [25] [Tree.node [1, 2] [26, 27] [28] [Tree.node [2] [29, 30] [31] [Tree.node [] [] [] []]]]]]]]]]) (by kernel_rfl) rfl (by kernel_rfl) (by kernel_rfl) ?_
    refine vd_node ?_
    simp only [go_sem, Nat.reduceAdd, Nat.reduceLeDiff, reduceCtorEq, hw]
    repeat' (first
      | exact True.intro
      | (refine And.intro ?_ ?_)
      | (refine AQ.next (vd_node ?_); simp only [go_sem, Nat.reduceAdd, Nat.reduceLeDiff, reduceCtorEq, hw])
      | (refine AQ.kill 1 ?_; simp only [go_sem, Nat.reduceAdd, Nat.reduceLeDiff, reduceCtorEq]; refine AQ.append (hnb := rfl) (rows := intR (ids k)) (xs := [[Ii k]]) (es := 0) (by kernel_rfl) rfl rfl rfl (by rfl) Try.tk22 Try.sz3 (by show Option.map _ (zro Try.prog 3) = _; rw [Try.zr3]; rfl) Try.by3 (by rw [intR_len, ids_len]) (by rw [intR_len, ids_len]; simp only [List.length_cons, List.length_nil]; omega) (by rw [intR_len, ids_len]; simp only [List.length_cons, List.length_nil]; omega) ?_; simp only [go_sem, Nat.reduceAdd, Nat.reduceLeDiff, reduceCtorEq, ids_len])
      | (refine AQ.kill 2 ?_; simp only [go_sem, Nat.reduceAdd, Nat.reduceLeDiff, reduceCtorEq]; refine AQ.append (hnb := rfl) (rows := intR (List.replicate k 1)) (xs := [[Ii 1]]) (es := 0) (by kernel_rfl) rfl rfl rfl (by rfl) Try.tk22 Try.sz3 (by show Option.map _ (zro Try.prog 3) = _; rw [Try.zr3]; rfl) Try.by3 (by rw [intR_len, List.length_replicate]) (by rw [intR_len, List.length_replicate]; simp only [List.length_cons, List.length_nil]; omega) (by rw [intR_len, List.length_replicate]; simp only [List.length_cons, List.length_nil]; omega) ?_; simp only [go_sem, Nat.reduceAdd, Nat.reduceLeDiff, reduceCtorEq, List.length_replicate])
      | (refine AQ.kill 3 ?_; simp only [go_sem, Nat.reduceAdd, Nat.reduceLeDiff, reduceCtorEq]; refine AQ.append (hnb := rfl) (rows := intR (ids k)) (xs := [[Ii k]]) (es := 0) (by kernel_rfl) rfl rfl rfl (by rfl) Try.tk22 Try.sz3 (by show Option.map _ (zro Try.prog 3) = _; rw [Try.zr3]; rfl) Try.by3 (by rw [intR_len, ids_len]) (by rw [intR_len, ids_len]; simp only [List.length_cons, List.length_nil]; omega) (by rw [intR_len, ids_len]; simp only [List.length_cons, List.length_nil]; omega) ?_; simp only [go_sem, Nat.reduceAdd, Nat.reduceLeDiff, reduceCtorEq, ids_len])
      | (refine AQ.done ?_)
      | (refine AQ.go (by kernel_rfl) ?_; simp only [go_sem, Nat.reduceAdd, Nat.reduceLeDiff, reduceCtorEq, hw]))
    all_goals (repeat (first | refine xPP rfl ?_ | refine xPE rfl ?_ | refine xEP rfl ?_ | refine xEE rfl ?_ | refine AQ.done ?_ | refine AQ.skip (by kernel_rfl) rfl ?_ | refine AQ.s2b (by kernel_rfl) rfl rfl rfl rfl ?_ | refine AQ.mark (by kernel_rfl) rfl rfl rfl rfl rfl rfl rfl ?_ | refine AP.cond_true rfl rfl ?_ | refine AP.cond_false rfl rfl ?_ | (refine AP.region rfl (by kernel_rfl) ?_; simp only [go_sem, Nat.reduceAdd, Nat.reduceLeDiff, reduceCtorEq, hw]) | (refine AP.drawQ rfl rfl (by kernel_rfl) ?_; simp only [go_sem, Nat.reduceAdd, Nat.reduceLeDiff, reduceCtorEq, hw]) | (refine vq_id ?_; simp only [go_sem, Nat.reduceAdd, Nat.reduceLeDiff, reduceCtorEq, hw]) | (refine ⟨by first | omega | (intros; simp_all; done) | (intros; simp_all; omega), ?_⟩; try simp only [go_sem, Nat.reduceAdd, Nat.reduceLeDiff, reduceCtorEq, hw])))
    all_goals (exact AE.round (k + 1) (by omega) (by omega) (by repeat (first | exact Sub.nil _ | refine Sub.cons rfl ?_)) (by simp only [ids_succ, ones_succ]))
  · repeat (first | refine xPP rfl ?_ | refine xPE rfl ?_ | refine xEP rfl ?_ | refine xEE rfl ?_ | refine AQ.done ?_ | refine AQ.skip (by kernel_rfl) rfl ?_ | refine AQ.s2b (by kernel_rfl) rfl rfl rfl rfl ?_ | refine AQ.mark (by kernel_rfl) rfl rfl rfl rfl rfl rfl rfl ?_ | refine AP.cond_true rfl rfl ?_ | refine AP.cond_false rfl rfl ?_ | (refine AP.region rfl (by kernel_rfl) ?_; simp only [go_sem, Nat.reduceAdd, Nat.reduceLeDiff, reduceCtorEq, hw]) | (refine AP.drawQ rfl rfl (by kernel_rfl) ?_; simp only [go_sem, Nat.reduceAdd, Nat.reduceLeDiff, reduceCtorEq, hw]) | (refine vq_id ?_; simp only [go_sem, Nat.reduceAdd, Nat.reduceLeDiff, reduceCtorEq, hw]) | (refine ⟨by first | omega | (intros; simp_all; done) | (intros; simp_all; omega), ?_⟩; try simp only [go_sem, Nat.reduceAdd, Nat.reduceLeDiff, reduceCtorEq, hw]))
    have hk' : k = n := by simp at hc; omega
    subst hk'
    refine AE.ret rfl ⟨rfl, rfl, trivial⟩ ⟨?_, rfl⟩
    simp only [setsH, ids_len, List.length_replicate]
end Go.Proofs.Ytfgffpkdjmeaoaa
end

section
namespace Go.Proofs.Ytfgffpkdjmeaoaa
open Go Go.AL Go.RowKit
set_option maxRecDepth 10000
set_option maxHeartbeats 4000000
theorem intR_get (l : List Int) (k : Nat) (h : k < l.length) : (intR l).getD k [] = [Ii (l.getD k 0)] := by
  simp [intR, List.getD_eq_getElem?_getD, h]
theorem has_spec (a b c : List Int) (lg : List (List IV)) (x : Int) (hl : a.length ≤ 1000000000) : ACall Try.prog 60 [.ob 0 0, Iv x] (setsH a b c lg) (fun r H' => H' = setsH a b c lg ∧ r = Bv (decide (0 ≤ x) && decide (x < a.length))) := by
  refine ACall.walk [0, 1, 4] [] Try.func60 rfl Try.ntmps60 (by kernel_rfl) (by rfl) rfl fun W own I0 φ0 => ?_
  simp only [go_sem, Nat.reduceAdd, Nat.reduceLeDiff, reduceCtorEq, setsH]
  repeat (first | refine xPP rfl ?_ | refine xPE rfl ?_ | refine xEP rfl ?_ | refine xEE rfl ?_ | refine AQ.done ?_ | refine AQ.skip (by kernel_rfl) rfl ?_ | refine AQ.s2b (by kernel_rfl) rfl rfl rfl rfl ?_ | refine AQ.mark (by kernel_rfl) rfl rfl rfl rfl rfl rfl rfl ?_ | refine AP.cond_true rfl rfl ?_ | refine AP.cond_false rfl rfl ?_ | (refine AP.region rfl (by kernel_rfl) ?_; simp only [go_sem, Nat.reduceAdd, Nat.reduceLeDiff, reduceCtorEq]) | (refine AP.drawQ rfl rfl (by kernel_rfl) ?_; simp only [go_sem, Nat.reduceAdd, Nat.reduceLeDiff, reduceCtorEq]) | (refine vq_id ?_; simp only [go_sem, Nat.reduceAdd, Nat.reduceLeDiff, reduceCtorEq]) | (refine ⟨by first | omega | (intros; simp_all; done) | (intros; simp_all; omega), ?_⟩; try simp only [go_sem, Nat.reduceAdd, Nat.reduceLeDiff, reduceCtorEq]))
  refine AE.ret rfl ⟨rfl, trivial⟩ ⟨rfl, rfl⟩
/-- from x it is n steps up to the root r -/
inductive Root (a : List Int) : Nat → Nat → Nat → Prop
  | here {x : Nat} : x < a.length → a.getD x 0 = x → Root a 0 x x
  | up {n x y r : Nat} : x < a.length → a.getD x 0 = y → y ≠ x → Root a n y r → Root a (n + 1) x r
theorem Root.lt {a : List Int} {n x r : Nat} (h : Root a n x r) : x < a.length := by cases h <;> assumption
theorem Root.end' {a : List Int} {n x r : Nat} (h : Root a n x r) : r < a.length ∧ a.getD r 0 = r := by
  induction h with
  | here h1 h2 => exact ⟨h1, h2⟩
  | up _ _ _ _ ih => exact ih
theorem root_spec (a b c : List Int) (lg : List (List IV)) (n x r : Nat) (hr : Root a n x r) (hl : a.length ≤ 1000000000) : ACall Try.prog 61 [.ob 0 0, Iv x] (setsH a b c lg) (fun r' H' => H' = setsH a b c lg ∧ r' = Iv r) := by
  refine ACall.walk [0, 1, 4, 13] [] Try.func61 rfl Try.ntmps61 (by kernel_rfl) (by rfl) rfl fun W own I0 φ0 => ?_
  simp only [go_sem, Nat.reduceAdd, Nat.reduceLeDiff, reduceCtorEq, setsH]
  repeat (first | refine xPP rfl ?_ | refine xPE rfl ?_ | refine xEP rfl ?_ | refine xEE rfl ?_ | refine AQ.done ?_ | refine AQ.skip (by kernel_rfl) rfl ?_ | refine AQ.s2b (by kernel_rfl) rfl rfl rfl rfl ?_ | refine AQ.mark (by kernel_rfl) rfl rfl rfl rfl rfl rfl rfl ?_ | refine AP.cond_true rfl rfl ?_ | refine AP.cond_false rfl rfl ?_ | (refine AP.region rfl (by kernel_rfl) ?_; simp only [go_sem, Nat.reduceAdd, Nat.reduceLeDiff, reduceCtorEq]) | (refine AP.drawQ rfl rfl (by kernel_rfl) ?_; simp only [go_sem, Nat.reduceAdd, Nat.reduceLeDiff, reduceCtorEq]) | (refine vq_id ?_; simp only [go_sem, Nat.reduceAdd, Nat.reduceLeDiff, reduceCtorEq]) | (refine ⟨by first | omega | (intros; simp_all; done) | (intros; simp_all; omega), ?_⟩; try simp only [go_sem, Nat.reduceAdd, Nat.reduceLeDiff, reduceCtorEq]))
  refine AP.loop rfl (α := Nat × Nat) (fun p => [(0, .ob 0 0), (1, Iv p.2)]) (fun p => setsH a b c lg) (fun p => Root a p.1 p.2 r) (fun p => p.1) (n, x) hr (by repeat (first | exact Sub.nil _ | refine Sub.cons rfl ?_)) rfl fun p hp => ?_
  obtain ⟨n, x⟩ := p
  simp only at hp ⊢
  have hx := hp.lt
  have hget := intR_get a x hx
  simp only [go_sem, Nat.reduceAdd, Nat.reduceLeDiff, reduceCtorEq, setsH]
  repeat (first | refine xPP rfl ?_ | refine xPE rfl ?_ | refine xEP rfl ?_ | refine xEE rfl ?_ | refine AQ.done ?_ | refine AQ.skip (by kernel_rfl) rfl ?_ | refine AQ.s2b (by kernel_rfl) rfl rfl rfl rfl ?_ | refine AQ.mark (by kernel_rfl) rfl rfl rfl rfl rfl rfl rfl ?_ | refine AP.cond_true rfl rfl ?_ | refine AP.cond_false rfl rfl ?_ | (refine AP.region rfl (by kernel_rfl) ?_; simp only [go_sem, Nat.reduceAdd, Nat.reduceLeDiff, reduceCtorEq, hget]) | (refine AP.drawQ rfl rfl (by kernel_rfl) ?_; simp only [go_sem, Nat.reduceAdd, Nat.reduceLeDiff, reduceCtorEq, hget]) | (refine vq_id ?_; simp only [go_sem, Nat.reduceAdd, Nat.reduceLeDiff, reduceCtorEq, hget]) | (refine ⟨by first | omega | (intros; simp_all; done) | (intros; simp_all; omega), ?_⟩; try simp only [go_sem, Nat.reduceAdd, Nat.reduceLeDiff, reduceCtorEq, hget]))
  refine AP.cond rfl rfl (fun h1 => ?_) (fun h1 => ?_)
  · cases hp with
    | here _ h2 => rw [h2] at h1; simp at h1
    | up _ h2 h3 h4 =>
      repeat (first | refine xPP rfl ?_ | refine xPE rfl ?_ | refine xEP rfl ?_ | refine xEE rfl ?_ | refine AQ.done ?_ | refine AQ.skip (by kernel_rfl) rfl ?_ | refine AQ.s2b (by kernel_rfl) rfl rfl rfl rfl ?_ | refine AQ.mark (by kernel_rfl) rfl rfl rfl rfl rfl rfl rfl ?_ | refine AP.cond_true rfl rfl ?_ | refine AP.cond_false rfl rfl ?_ | (refine AP.region rfl (by kernel_rfl) ?_; simp only [go_sem, Nat.reduceAdd, Nat.reduceLeDiff, reduceCtorEq, hget, h2]) | (refine AP.drawQ rfl rfl (by kernel_rfl) ?_; simp only [go_sem, Nat.reduceAdd, Nat.reduceLeDiff, reduceCtorEq, hget, h2]) | (refine vq_id ?_; simp only [go_sem, Nat.reduceAdd, Nat.reduceLeDiff, reduceCtorEq, hget, h2]) | (refine ⟨by first | omega | (intros; simp_all; done) | (intros; simp_all; omega), ?_⟩; try simp only [go_sem, Nat.reduceAdd, Nat.reduceLeDiff, reduceCtorEq, hget, h2]))
      exact AE.round (_, _) h4 (Nat.lt_succ_self _) (by repeat (first | exact Sub.nil _ | refine Sub.cons rfl ?_)) rfl
  · cases hp with
    | here _ h2 =>
      repeat (first | refine xPP rfl ?_ | refine xPE rfl ?_ | refine xEP rfl ?_ | refine xEE rfl ?_ | refine AQ.done ?_ | refine AQ.skip (by kernel_rfl) rfl ?_ | refine AQ.s2b (by kernel_rfl) rfl rfl rfl rfl ?_ | refine AQ.mark (by kernel_rfl) rfl rfl rfl rfl rfl rfl rfl ?_ | refine AP.cond_true rfl rfl ?_ | refine AP.cond_false rfl rfl ?_ | (refine AP.region rfl (by kernel_rfl) ?_; simp only [go_sem, Nat.reduceAdd, Nat.reduceLeDiff, reduceCtorEq]) | (refine AP.drawQ rfl rfl (by kernel_rfl) ?_; simp only [go_sem, Nat.reduceAdd, Nat.reduceLeDiff, reduceCtorEq]) | (refine vq_id ?_; simp only [go_sem, Nat.reduceAdd, Nat.reduceLeDiff, reduceCtorEq]) | (refine ⟨by first | omega | (intros; simp_all; done) | (intros; simp_all; omega), ?_⟩; try simp only [go_sem, Nat.reduceAdd, Nat.reduceLeDiff, reduceCtorEq]))
      exact AE.ret rfl ⟨rfl, trivial⟩ ⟨rfl, rfl⟩
    | up _ h2 h3 h4 => rw [h2] at h1; simp at h1; omega
end Go.Proofs.Ytfgffpkdjmeaoaa
end

section
namespace Go.Proofs.Ytfgffpkdjmeaoaa
open Go Go.AL Go.RowKit
set_option maxRecDepth 10000
set_option maxHeartbeats 4000000
theorem mark_spec (a b c : List Int) (lg : List (List IV)) : ACall Try.prog 31 [.ob 0 0] (setsH a b c lg) (fun r' H' => H' = setsH a b c lg ∧ r' = Iv lg.length) := by
  refine ACall.walk [0, 2, 4] [] Try.func31 rfl Try.ntmps31 (by kernel_rfl) (by rfl) rfl fun W own I0 φ0 => ?_
  simp only [go_sem, Nat.reduceAdd, Nat.reduceLeDiff, reduceCtorEq, setsH]
  repeat (first | refine xPP rfl ?_ | refine xPE rfl ?_ | refine xEP rfl ?_ | refine xEE rfl ?_ | refine AQ.done ?_ | refine AQ.skip (by kernel_rfl) rfl ?_ | refine AQ.s2b (by kernel_rfl) rfl rfl rfl rfl ?_ | refine AQ.mark (by kernel_rfl) rfl rfl rfl rfl rfl rfl rfl ?_ | refine AP.cond_true rfl rfl ?_ | refine AP.cond_false rfl rfl ?_ | (refine AP.region rfl (by kernel_rfl) ?_; simp only [go_sem, Nat.reduceAdd, Nat.reduceLeDiff, reduceCtorEq]) | (refine AP.drawQ rfl rfl (by kernel_rfl) ?_; simp only [go_sem, Nat.reduceAdd, Nat.reduceLeDiff, reduceCtorEq]) | (refine vq_id ?_; simp only [go_sem, Nat.reduceAdd, Nat.reduceLeDiff, reduceCtorEq]) | (refine ⟨by first | omega | (intros; simp_all; done) | (intros; simp_all; omega), ?_⟩; try simp only [go_sem, Nat.reduceAdd, Nat.reduceLeDiff, reduceCtorEq]))
  exact AE.ret rfl ⟨rfl, trivial⟩ ⟨rfl, rfl⟩
theorem count_spec' (a b c : List Int) (lg : List (List IV)) (h : lg.length ≤ a.length) (hl : a.length ≤ 1000000000) : ACall Try.prog 30 [.ob 0 0] (setsH a b c lg) (fun r' H' => H' = setsH a b c lg ∧ r' = Iv (a.length - lg.length : Nat)) := by
  have hw := wr (x := (a.length : Int) - lg.length) (by omega)
  refine ACall.walk [0, 2, 4] [] Try.func30 rfl Try.ntmps30 (by kernel_rfl) (by rfl) rfl fun W own I0 φ0 => ?_
  simp only [go_sem, Nat.reduceAdd, Nat.reduceLeDiff, reduceCtorEq, setsH]
  repeat (first | refine xPP rfl ?_ | refine xPE rfl ?_ | refine xEP rfl ?_ | refine xEE rfl ?_ | refine AQ.done ?_ | refine AQ.skip (by kernel_rfl) rfl ?_ | refine AQ.s2b (by kernel_rfl) rfl rfl rfl rfl ?_ | refine AQ.mark (by kernel_rfl) rfl rfl rfl rfl rfl rfl rfl ?_ | refine AP.cond_true rfl rfl ?_ | refine AP.cond_false rfl rfl ?_ | (refine AP.region rfl (by kernel_rfl) ?_; simp only [go_sem, Nat.reduceAdd, Nat.reduceLeDiff, reduceCtorEq, hw]) | (refine AP.drawQ rfl rfl (by kernel_rfl) ?_; simp only [go_sem, Nat.reduceAdd, Nat.reduceLeDiff, reduceCtorEq, hw]) | (refine vq_id ?_; simp only [go_sem, Nat.reduceAdd, Nat.reduceLeDiff, reduceCtorEq, hw]) | (refine ⟨by first | omega | (intros; simp_all; done) | (intros; simp_all; omega), ?_⟩; try simp only [go_sem, Nat.reduceAdd, Nat.reduceLeDiff, reduceCtorEq, hw]))
  exact AE.ret rfl ⟨rfl, trivial⟩ ⟨rfl, by rw [Int.ofNat_sub h]; rfl⟩
theorem setsFind_bad (a b c : List Int) (lg : List (List IV)) (x : Int) (hx : ¬ (0 ≤ x ∧ x < a.length)) (hl : a.length ≤ 1000000000) : ACall Try.prog 27 [.ob 0 0, Iv x] (setsH a b c lg) (fun r' H' => H' = setsH a b c lg ∧ r' = .tup [Iv 0, Iv 3]) := by
  have hh := has_spec a b c lg x hl
  have hf : (decide (0 ≤ x) && decide (x < (a.length : Int))) = false := by simpa using hx
  rw [hf] at hh
  refine ACall.walk [0, 1, 4, 5, 6, 9] [] Try.func27 rfl Try.ntmps27 (by kernel_rfl) (by rfl) rfl fun W own I0 φ0 => ?_
  simp only [go_sem, Nat.reduceAdd, Nat.reduceLeDiff, reduceCtorEq, setsH] at *
  repeat (first | refine xPP rfl ?_ | refine xPE rfl ?_ | refine xEP rfl ?_ | refine xEE rfl ?_ | refine AQ.done ?_ | refine AQ.skip (by kernel_rfl) rfl ?_ | refine AQ.s2b (by kernel_rfl) rfl rfl rfl rfl ?_ | refine AQ.mark (by kernel_rfl) rfl rfl rfl rfl rfl rfl rfl ?_ | refine AP.cond_true rfl rfl ?_ | refine AP.cond_false rfl rfl ?_ | (refine AP.region rfl (by kernel_rfl) ?_; simp only [go_sem, Nat.reduceAdd, Nat.reduceLeDiff, reduceCtorEq]) | (refine AP.drawQ rfl rfl (by kernel_rfl) ?_; simp only [go_sem, Nat.reduceAdd, Nat.reduceLeDiff, reduceCtorEq]) | (refine vq_id ?_; simp only [go_sem, Nat.reduceAdd, Nat.reduceLeDiff, reduceCtorEq]) | (refine ⟨by first | omega | (intros; simp_all; done) | (intros; simp_all; omega), ?_⟩; try simp only [go_sem, Nat.reduceAdd, Nat.reduceLeDiff, reduceCtorEq]))
  refine AQ.callI (by kernel_rfl) rfl rfl rfl (hh) ?_
  repeat (first | refine xPP rfl ?_ | refine xPE rfl ?_ | refine xEP rfl ?_ | refine xEE rfl ?_ | refine AQ.done ?_ | refine AQ.skip (by kernel_rfl) rfl ?_ | refine AQ.s2b (by kernel_rfl) rfl rfl rfl rfl ?_ | refine AQ.mark (by kernel_rfl) rfl rfl rfl rfl rfl rfl rfl ?_ | refine AP.cond_true rfl rfl ?_ | refine AP.cond_false rfl rfl ?_ | (refine AP.region rfl (by kernel_rfl) ?_; simp only [go_sem, Nat.reduceAdd, Nat.reduceLeDiff, reduceCtorEq]) | (refine AP.drawQ rfl rfl (by kernel_rfl) ?_; simp only [go_sem, Nat.reduceAdd, Nat.reduceLeDiff, reduceCtorEq]) | (refine vq_id ?_; simp only [go_sem, Nat.reduceAdd, Nat.reduceLeDiff, reduceCtorEq]) | (refine ⟨by first | omega | (intros; simp_all; done) | (intros; simp_all; omega), ?_⟩; try simp only [go_sem, Nat.reduceAdd, Nat.reduceLeDiff, reduceCtorEq]))
  exact AE.ret rfl ⟨rfl, rfl, trivial⟩ ⟨rfl, rfl⟩
theorem setsFind_spec (a b c : List Int) (lg : List (List IV)) (n x r : Nat) (hr : Root a n x r) (hc : c.length = a.length) (hl : a.length ≤ 1000000000) : ACall Try.prog 27 [.ob 0 0, Iv x] (setsH a b c lg) (fun r' H' => H' = setsH a b c lg ∧ r' = .tup [Iv (c.getD r 0), Iv 0]) := by
  have hx := hr.lt
  have hre := hr.end'
  have hh := has_spec a b c lg x hl
  have hro := root_spec a b c lg n x r hr hl
  have hf : (decide (0 ≤ (x : Int)) && decide ((x : Int) < (a.length : Int))) = true := by simp; omega
  rw [hf] at hh
  have hget := intR_get c r (by omega)
  refine ACall.walk [0, 1, 4, 5, 6, 9] [] Try.func27 rfl Try.ntmps27 (by kernel_rfl) (by rfl) rfl fun W own I0 φ0 => ?_
  simp only [go_sem, Nat.reduceAdd, Nat.reduceLeDiff, reduceCtorEq, setsH] at *
  repeat (first | refine xPP rfl ?_ | refine xPE rfl ?_ | refine xEP rfl ?_ | refine xEE rfl ?_ | refine AQ.done ?_ | refine AQ.skip (by kernel_rfl) rfl ?_ | refine AQ.s2b (by kernel_rfl) rfl rfl rfl rfl ?_ | refine AQ.mark (by kernel_rfl) rfl rfl rfl rfl rfl rfl rfl ?_ | refine AP.cond_true rfl rfl ?_ | refine AP.cond_false rfl rfl ?_ | (refine AP.region rfl (by kernel_rfl) ?_; simp only [go_sem, Nat.reduceAdd, Nat.reduceLeDiff, reduceCtorEq]) | (refine AP.drawQ rfl rfl (by kernel_rfl) ?_; simp only [go_sem, Nat.reduceAdd, Nat.reduceLeDiff, reduceCtorEq]) | (refine vq_id ?_; simp only [go_sem, Nat.reduceAdd, Nat.reduceLeDiff, reduceCtorEq]) | (refine ⟨by first | omega | (intros; simp_all; done) | (intros; simp_all; omega), ?_⟩; try simp only [go_sem, Nat.reduceAdd, Nat.reduceLeDiff, reduceCtorEq]))
  refine AQ.callI (by kernel_rfl) rfl rfl rfl (hh) ?_
  repeat (first | refine xPP rfl ?_ | refine xPE rfl ?_ | refine xEP rfl ?_ | refine xEE rfl ?_ | refine AQ.done ?_ | refine AQ.skip (by kernel_rfl) rfl ?_ | refine AQ.s2b (by kernel_rfl) rfl rfl rfl rfl ?_ | refine AQ.mark (by kernel_rfl) rfl rfl rfl rfl rfl rfl rfl ?_ | refine AP.cond_true rfl rfl ?_ | refine AP.cond_false rfl rfl ?_ | (refine AP.region rfl (by kernel_rfl) ?_; simp only [go_sem, Nat.reduceAdd, Nat.reduceLeDiff, reduceCtorEq]) | (refine AP.drawQ rfl rfl (by kernel_rfl) ?_; simp only [go_sem, Nat.reduceAdd, Nat.reduceLeDiff, reduceCtorEq]) | (refine vq_id ?_; simp only [go_sem, Nat.reduceAdd, Nat.reduceLeDiff, reduceCtorEq]) | (refine ⟨by first | omega | (intros; simp_all; done) | (intros; simp_all; omega), ?_⟩; try simp only [go_sem, Nat.reduceAdd, Nat.reduceLeDiff, reduceCtorEq]))
  refine AP.drawE 11 (Tree.node [] [0, 1, 2, 3, 4, 5] [6] [Tree.node [0, 1, 2, 3] [7, 8, 9, 10] [] []]) (by kernel_rfl) rfl (by kernel_rfl) (by kernel_rfl) ?_
  refine vd_node ?_
  simp only [go_sem, Nat.reduceAdd, Nat.reduceLeDiff, reduceCtorEq]
  refine AQ.callI (by kernel_rfl) rfl rfl rfl (hro) ?_
  simp only [go_sem, Nat.reduceAdd, Nat.reduceLeDiff, reduceCtorEq]
  refine AQ.nx rfl ?_
  simp only [go_sem, Nat.reduceAdd, Nat.reduceLeDiff, reduceCtorEq, hget]
  refine ⟨by omega, by omega, ?_⟩
  repeat (first | refine xPP rfl ?_ | refine xPE rfl ?_ | refine xEP rfl ?_ | refine xEE rfl ?_ | refine AQ.done ?_ | refine AQ.skip (by kernel_rfl) rfl ?_ | refine AQ.s2b (by kernel_rfl) rfl rfl rfl rfl ?_ | refine AQ.mark (by kernel_rfl) rfl rfl rfl rfl rfl rfl rfl ?_ | refine AP.cond_true rfl rfl ?_ | refine AP.cond_false rfl rfl ?_ | (refine AP.region rfl (by kernel_rfl) ?_; simp only [go_sem, Nat.reduceAdd, Nat.reduceLeDiff, reduceCtorEq]) | (refine AP.drawQ rfl rfl (by kernel_rfl) ?_; simp only [go_sem, Nat.reduceAdd, Nat.reduceLeDiff, reduceCtorEq]) | (refine vq_id ?_; simp only [go_sem, Nat.reduceAdd, Nat.reduceLeDiff, reduceCtorEq]) | (refine ⟨by first | omega | (intros; simp_all; done) | (intros; simp_all; omega), ?_⟩; try simp only [go_sem, Nat.reduceAdd, Nat.reduceLeDiff, reduceCtorEq]))
  exact AE.ret rfl ⟨rfl, rfl, trivial⟩ ⟨rfl, rfl⟩
theorem union_bad (a b c : List Int) (lg : List (List IV)) (x y : Int) (hx : ¬ ((0 ≤ x ∧ x < a.length) ∧ (0 ≤ y ∧ y < a.length))) (hl : a.length ≤ 1000000000) :
    ACall Try.prog 28 [.ob 0 0, Iv x, Iv y] (setsH a b c lg) (fun r' H' => H' = setsH a b c lg ∧ r' = .tup [Bv false, Iv 3]) := by
  have hh := has_spec a b c lg x hl
  have hh2 := has_spec a b c lg y hl
  refine ACall.walk [0, 1, 2, 6, 7, 8, 11, 30, 45] [] Try.func28 rfl Try.ntmps28 (by kernel_rfl) (by rfl) rfl fun W own I0 φ0 => ?_
  simp only [go_sem, Nat.reduceAdd, Nat.reduceLeDiff, reduceCtorEq, setsH] at *
  repeat (first | refine xPP rfl ?_ | refine xPE rfl ?_ | refine xEP rfl ?_ | refine xEE rfl ?_ | refine AQ.done ?_ | refine AQ.skip (by kernel_rfl) rfl ?_ | refine AQ.s2b (by kernel_rfl) rfl rfl rfl rfl ?_ | refine AQ.mark (by kernel_rfl) rfl rfl rfl rfl rfl rfl rfl ?_ | refine AP.cond_true rfl rfl ?_ | refine AP.cond_false rfl rfl ?_ | (refine AP.region rfl (by kernel_rfl) ?_; simp only [go_sem, Nat.reduceAdd, Nat.reduceLeDiff, reduceCtorEq]) | (refine AP.drawQ rfl rfl (by kernel_rfl) ?_; simp only [go_sem, Nat.reduceAdd, Nat.reduceLeDiff, reduceCtorEq]) | (refine vq_id ?_; simp only [go_sem, Nat.reduceAdd, Nat.reduceLeDiff, reduceCtorEq]) | (refine ⟨by first | omega | (intros; simp_all; done) | (intros; simp_all; omega), ?_⟩; try simp only [go_sem, Nat.reduceAdd, Nat.reduceLeDiff, reduceCtorEq]))
  refine AQ.callI (by kernel_rfl) rfl rfl rfl (hh) ?_
  repeat (first | refine xPP rfl ?_ | refine xPE rfl ?_ | refine xEP rfl ?_ | refine xEE rfl ?_ | refine AQ.done ?_ | refine AQ.skip (by kernel_rfl) rfl ?_ | refine AQ.s2b (by kernel_rfl) rfl rfl rfl rfl ?_ | refine AQ.mark (by kernel_rfl) rfl rfl rfl rfl rfl rfl rfl ?_ | refine AP.cond_true rfl rfl ?_ | refine AP.cond_false rfl rfl ?_ | (refine AP.region rfl (by kernel_rfl) ?_; simp only [go_sem, Nat.reduceAdd, Nat.reduceLeDiff, reduceCtorEq]) | (refine AP.drawQ rfl rfl (by kernel_rfl) ?_; simp only [go_sem, Nat.reduceAdd, Nat.reduceLeDiff, reduceCtorEq]) | (refine vq_id ?_; simp only [go_sem, Nat.reduceAdd, Nat.reduceLeDiff, reduceCtorEq]) | (refine ⟨by first | omega | (intros; simp_all; done) | (intros; simp_all; omega), ?_⟩; try simp only [go_sem, Nat.reduceAdd, Nat.reduceLeDiff, reduceCtorEq]))
  refine AQ.callI_g (by kernel_rfl) rfl rfl rfl (fun h => by first | (simp [gs, AV.g]; done) | (simp [gs, AV.g, constAV]; done) | (simp [gs, AV.g, constAV, bw] at h ⊢; done) | (simp [bw] at h; done) | (simp [gs, AV.g, bw] at h ⊢; simp [h]; done) | (simp [gs, AV.g, bw] at h ⊢; exact h.1) | (simp [gs, AV.g]; rfl) | (simp [gs, AV.g, bw] at h ⊢; rfl) | (simp [gs, AV.g, bw] at h ⊢; simp [h]; rfl) | (simp [gs, AV.g, bw] at h ⊢; simp_all)) (fun _ => hh2) ?_
  simp only [go_sem, Nat.reduceAdd, Nat.reduceLeDiff, reduceCtorEq]
  repeat (first | refine xPP rfl ?_ | refine xPE rfl ?_ | refine xEP rfl ?_ | refine xEE rfl ?_ | refine AQ.done ?_ | refine AQ.skip (by kernel_rfl) rfl ?_ | refine AQ.s2b (by kernel_rfl) rfl rfl rfl rfl ?_ | refine AQ.mark (by kernel_rfl) rfl rfl rfl rfl rfl rfl rfl ?_ | refine AP.cond_true rfl rfl ?_ | refine AP.cond_false rfl rfl ?_ | (refine AP.region rfl (by kernel_rfl) ?_; simp only [go_sem, Nat.reduceAdd, Nat.reduceLeDiff, reduceCtorEq]) | (refine AP.drawQ rfl rfl (by kernel_rfl) ?_; simp only [go_sem, Nat.reduceAdd, Nat.reduceLeDiff, reduceCtorEq]) | (refine vq_id ?_; simp only [go_sem, Nat.reduceAdd, Nat.reduceLeDiff, reduceCtorEq]) | (refine ⟨by first | omega | (intros; simp_all; done) | (intros; simp_all; omega), ?_⟩; try simp only [go_sem, Nat.reduceAdd, Nat.reduceLeDiff, reduceCtorEq]))

  refine AP.cond_true rfl (by simp only [go_sem, Nat.reduceAdd, Nat.reduceLeDiff, reduceCtorEq]; refine congrArg (fun b => some (AV.im (IV.v (Value.bool b)))) ?_; (first | (simp only [Bool.or_eq_true, Bool.and_eq_true, Bool.not_eq_true', Bool.not_eq_false', Bool.and_eq_false_iff, Bool.or_eq_false_iff, decide_eq_true_eq, decide_eq_false_iff_not, beq_iff_eq, bne_iff_ne, beq_eq_false_iff_ne, bne_eq_false_iff_eq, ne_eq]; omega) | (simp; done) | (simp; omega) | (simp_all; done) | (simp_all; omega))) ?_
  repeat (first | refine xPP rfl ?_ | refine xPE rfl ?_ | refine xEP rfl ?_ | refine xEE rfl ?_ | refine AQ.done ?_ | refine AQ.skip (by kernel_rfl) rfl ?_ | refine AQ.s2b (by kernel_rfl) rfl rfl rfl rfl ?_ | refine AQ.mark (by kernel_rfl) rfl rfl rfl rfl rfl rfl rfl ?_ | refine AP.cond_true rfl rfl ?_ | refine AP.cond_false rfl rfl ?_ | (refine AP.region rfl (by kernel_rfl) ?_; simp only [go_sem, Nat.reduceAdd, Nat.reduceLeDiff, reduceCtorEq]) | (refine AP.drawQ rfl rfl (by kernel_rfl) ?_; simp only [go_sem, Nat.reduceAdd, Nat.reduceLeDiff, reduceCtorEq]) | (refine vq_id ?_; simp only [go_sem, Nat.reduceAdd, Nat.reduceLeDiff, reduceCtorEq]) | (refine ⟨by first | omega | (intros; simp_all; done) | (intros; simp_all; omega), ?_⟩; try simp only [go_sem, Nat.reduceAdd, Nat.reduceLeDiff, reduceCtorEq]))
  exact AE.ret rfl ⟨rfl, rfl, trivial⟩ ⟨rfl, rfl⟩
def swapB (b : List Int) (x y : Nat) : Bool := decide (b.getD x 0 < b.getD y 0)
def uRoot (b : List Int) (x y : Nat) : Nat := if swapB b x y then y else x
def uBelow (b : List Int) (x y : Nat) : Nat := if swapB b x y then x else y
def logRow (b c : List Int) (r s : Nat) : List IV := [Ii s, Ii r, Ii (b.getD r 0), Ii (c.getD r 0)]
theorem union_same (a b c : List Int) (lg : List (List IV)) (x y n n' r : Nat) (hx : Root a n x r) (hy : Root a n' y r) (hl : a.length ≤ 1000000000) :
    ACall Try.prog 28 [.ob 0 0, Iv x, Iv y] (setsH a b c lg) (fun r' H' => H' = setsH a b c lg ∧ r' = .tup [Bv false, Iv 0]) := by
  have hlx := hx.lt
  have hly := hy.lt
  have hh := has_spec a b c lg x hl
  have hh2 := has_spec a b c lg y hl
  have hr1 := root_spec a b c lg n x r hx hl
  have hr2 := root_spec a b c lg n' y r hy hl
  rw [show (decide (0 ≤ (x : Int)) && decide ((x : Int) < (a.length : Int))) = true by simp; omega] at hh
  rw [show (decide (0 ≤ (y : Int)) && decide ((y : Int) < (a.length : Int))) = true by simp; omega] at hh2
  refine ACall.walk [0, 1, 2, 6, 7, 8, 11, 30, 45] [] Try.func28 rfl Try.ntmps28 (by kernel_rfl) (by rfl) rfl fun W own I0 φ0 => ?_
  simp only [go_sem, Nat.reduceAdd, Nat.reduceLeDiff, reduceCtorEq, setsH] at *
  repeat (first | refine xPP rfl ?_ | refine xPE rfl ?_ | refine xEP rfl ?_ | refine xEE rfl ?_ | refine AQ.done ?_ | refine AQ.skip (by kernel_rfl) rfl ?_ | refine AQ.s2b (by kernel_rfl) rfl rfl rfl rfl ?_ | refine AQ.mark (by kernel_rfl) rfl rfl rfl rfl rfl rfl rfl ?_ | refine AP.cond_true rfl rfl ?_ | refine AP.cond_false rfl rfl ?_ | (refine AP.region rfl (by kernel_rfl) ?_; simp only [go_sem, Nat.reduceAdd, Nat.reduceLeDiff, reduceCtorEq]) | (refine AP.drawQ rfl rfl (by kernel_rfl) ?_; simp only [go_sem, Nat.reduceAdd, Nat.reduceLeDiff, reduceCtorEq]) | (refine vq_id ?_; simp only [go_sem, Nat.reduceAdd, Nat.reduceLeDiff, reduceCtorEq]) | (refine ⟨by first | omega | (intros; simp_all; done) | (intros; simp_all; omega), ?_⟩; try simp only [go_sem, Nat.reduceAdd, Nat.reduceLeDiff, reduceCtorEq]))
  refine AQ.callI (by kernel_rfl) rfl rfl rfl (hh) ?_
  repeat (first | refine xPP rfl ?_ | refine xPE rfl ?_ | refine xEP rfl ?_ | refine xEE rfl ?_ | refine AQ.done ?_ | refine AQ.skip (by kernel_rfl) rfl ?_ | refine AQ.s2b (by kernel_rfl) rfl rfl rfl rfl ?_ | refine AQ.mark (by kernel_rfl) rfl rfl rfl rfl rfl rfl rfl ?_ | refine AP.cond_true rfl rfl ?_ | refine AP.cond_false rfl rfl ?_ | (refine AP.region rfl (by kernel_rfl) ?_; simp only [go_sem, Nat.reduceAdd, Nat.reduceLeDiff, reduceCtorEq]) | (refine AP.drawQ rfl rfl (by kernel_rfl) ?_; simp only [go_sem, Nat.reduceAdd, Nat.reduceLeDiff, reduceCtorEq]) | (refine vq_id ?_; simp only [go_sem, Nat.reduceAdd, Nat.reduceLeDiff, reduceCtorEq]) | (refine ⟨by first | omega | (intros; simp_all; done) | (intros; simp_all; omega), ?_⟩; try simp only [go_sem, Nat.reduceAdd, Nat.reduceLeDiff, reduceCtorEq]))
  refine AQ.callI_g (by kernel_rfl) rfl rfl rfl (fun h => by first | (simp [gs, AV.g]; done) | (simp [gs, AV.g, constAV]; done) | (simp [gs, AV.g, constAV, bw] at h ⊢; done) | (simp [bw] at h; done) | (simp [gs, AV.g, bw] at h ⊢; simp [h]; done) | (simp [gs, AV.g, bw] at h ⊢; exact h.1) | (simp [gs, AV.g]; rfl) | (simp [gs, AV.g, bw] at h ⊢; rfl) | (simp [gs, AV.g, bw] at h ⊢; simp [h]; rfl) | (simp [gs, AV.g, bw] at h ⊢; simp_all)) (fun _ => hh2) ?_
  simp only [go_sem, Nat.reduceAdd, Nat.reduceLeDiff, reduceCtorEq]
  repeat (first | refine xPP rfl ?_ | refine xPE rfl ?_ | refine xEP rfl ?_ | refine xEE rfl ?_ | refine AQ.done ?_ | refine AQ.skip (by kernel_rfl) rfl ?_ | refine AQ.s2b (by kernel_rfl) rfl rfl rfl rfl ?_ | refine AQ.mark (by kernel_rfl) rfl rfl rfl rfl rfl rfl rfl ?_ | refine AP.cond_true rfl rfl ?_ | refine AP.cond_false rfl rfl ?_ | (refine AP.region rfl (by kernel_rfl) ?_; simp only [go_sem, Nat.reduceAdd, Nat.reduceLeDiff, reduceCtorEq]) | (refine AP.drawQ rfl rfl (by kernel_rfl) ?_; simp only [go_sem, Nat.reduceAdd, Nat.reduceLeDiff, reduceCtorEq]) | (refine vq_id ?_; simp only [go_sem, Nat.reduceAdd, Nat.reduceLeDiff, reduceCtorEq]) | (refine ⟨by first | omega | (intros; simp_all; done) | (intros; simp_all; omega), ?_⟩; try simp only [go_sem, Nat.reduceAdd, Nat.reduceLeDiff, reduceCtorEq]))
  refine AQ.callI (by kernel_rfl) rfl rfl rfl (hr1) ?_
  repeat (first | refine xPP rfl ?_ | refine xPE rfl ?_ | refine xEP rfl ?_ | refine xEE rfl ?_ | refine AQ.done ?_ | refine AQ.skip (by kernel_rfl) rfl ?_ | refine AQ.s2b (by kernel_rfl) rfl rfl rfl rfl ?_ | refine AQ.mark (by kernel_rfl) rfl rfl rfl rfl rfl rfl rfl ?_ | refine AP.cond_true rfl rfl ?_ | refine AP.cond_false rfl rfl ?_ | (refine AP.region rfl (by kernel_rfl) ?_; simp only [go_sem, Nat.reduceAdd, Nat.reduceLeDiff, reduceCtorEq]) | (refine AP.drawQ rfl rfl (by kernel_rfl) ?_; simp only [go_sem, Nat.reduceAdd, Nat.reduceLeDiff, reduceCtorEq]) | (refine vq_id ?_; simp only [go_sem, Nat.reduceAdd, Nat.reduceLeDiff, reduceCtorEq]) | (refine ⟨by first | omega | (intros; simp_all; done) | (intros; simp_all; omega), ?_⟩; try simp only [go_sem, Nat.reduceAdd, Nat.reduceLeDiff, reduceCtorEq]))
  refine AQ.callI (by kernel_rfl) rfl rfl rfl (hr2) ?_
  repeat (first | refine xPP rfl ?_ | refine xPE rfl ?_ | refine xEP rfl ?_ | refine xEE rfl ?_ | refine AQ.done ?_ | refine AQ.skip (by kernel_rfl) rfl ?_ | refine AQ.s2b (by kernel_rfl) rfl rfl rfl rfl ?_ | refine AQ.mark (by kernel_rfl) rfl rfl rfl rfl rfl rfl rfl ?_ | refine AP.cond_true rfl rfl ?_ | refine AP.cond_false rfl rfl ?_ | (refine AP.region rfl (by kernel_rfl) ?_; simp only [go_sem, Nat.reduceAdd, Nat.reduceLeDiff, reduceCtorEq]) | (refine AP.drawQ rfl rfl (by kernel_rfl) ?_; simp only [go_sem, Nat.reduceAdd, Nat.reduceLeDiff, reduceCtorEq]) | (refine vq_id ?_; simp only [go_sem, Nat.reduceAdd, Nat.reduceLeDiff, reduceCtorEq]) | (refine ⟨by first | omega | (intros; simp_all; done) | (intros; simp_all; omega), ?_⟩; try simp only [go_sem, Nat.reduceAdd, Nat.reduceLeDiff, reduceCtorEq]))
  refine AP.cond_true rfl (by simp only [go_sem, Nat.reduceAdd, Nat.reduceLeDiff, reduceCtorEq]; refine congrArg (fun b => some (AV.im (IV.v (Value.bool b)))) ?_; (first | (simp only [Bool.or_eq_true, Bool.and_eq_true, Bool.not_eq_true', Bool.not_eq_false', Bool.and_eq_false_iff, Bool.or_eq_false_iff, decide_eq_true_eq, decide_eq_false_iff_not, beq_iff_eq, bne_iff_ne, beq_eq_false_iff_ne, bne_eq_false_iff_eq, ne_eq]; omega) | (simp; done) | (simp; omega) | (simp_all; done) | (simp_all; omega))) ?_
  repeat (first | refine xPP rfl ?_ | refine xPE rfl ?_ | refine xEP rfl ?_ | refine xEE rfl ?_ | refine AQ.done ?_ | refine AQ.skip (by kernel_rfl) rfl ?_ | refine AQ.s2b (by kernel_rfl) rfl rfl rfl rfl ?_ | refine AQ.mark (by kernel_rfl) rfl rfl rfl rfl rfl rfl rfl ?_ | refine AP.cond_true rfl rfl ?_ | refine AP.cond_false rfl rfl ?_ | (refine AP.region rfl (by kernel_rfl) ?_; simp only [go_sem, Nat.reduceAdd, Nat.reduceLeDiff, reduceCtorEq]) | (refine AP.drawQ rfl rfl (by kernel_rfl) ?_; simp only [go_sem, Nat.reduceAdd, Nat.reduceLeDiff, reduceCtorEq]) | (refine vq_id ?_; simp only [go_sem, Nat.reduceAdd, Nat.reduceLeDiff, reduceCtorEq]) | (refine ⟨by first | omega | (intros; simp_all; done) | (intros; simp_all; omega), ?_⟩; try simp only [go_sem, Nat.reduceAdd, Nat.reduceLeDiff, reduceCtorEq]))
  exact AE.ret rfl ⟨rfl, rfl, trivial⟩ ⟨rfl, rfl⟩
end Go.Proofs.Ytfgffpkdjmeaoaa
end

section
namespace Go.Proofs.Ytfgffpkdjmeaoaa
open Go Go.AL Go.RowKit
set_option maxRecDepth 10000
set_option maxHeartbeats 4000000
theorem intR_set (l : List Int) (k : Nat) (v : Int) : (intR l).set k [Ii v] = intR (l.set k v) := by
  simp [intR, List.map_set]
theorem intR_set1 (l : List Int) (k : Nat) (v : Int) (h : k < l.length) : (intR l).set k (IV.v (Value.int .i64 v) :: List.drop 1 ((intR l).getD k [])) = intR (l.set k v) := by
  rw [intR_get l k h, ← intR_set]; rfl
theorem min_if (x y : Int) : (if y < x then y else x) = min x y := by omega
/-- as setsH; the log's row has the id i -/
def setsHi (i : Nat) (a b c : List Int) (lg : List (List IV)) : Heap := [(i, .vec 121 4 lg), (3, .vec 3 1 (intR c)), (2, .vec 3 1 (intR b)), (1, .vec 3 1 (intR a)), (0, .var 117 [.os 1 1 0 a.length, .os 2 1 0 b.length, .os 3 1 0 c.length, .os i 4 0 lg.length])]
theorem union_ok (a b c : List Int) (lg : List (List IV)) (x y n n' r s u w : Nat) (hx : Root a n x r) (hy : Root a n' y s) (hne : r ≠ s)
    (hs : (swapB b r s = true ∧ u = s ∧ w = r) ∨ (swapB b r s = false ∧ u = r ∧ w = s)) (hb : b.length = a.length) (hc : c.length = a.length) (hl : a.length ≤ 1000000) (hlg : lg.length ≤ 1000000)
    (hbs : ∀ i, 0 ≤ b.getD i 0 ∧ b.getD i 0 ≤ 1000000) :
    ACall Try.prog 28 [.ob 0 0, Iv x, Iv y] (setsH a b c lg) (fun r' H' => H' = setsHi 5 (a.set w u) (b.set u (b.getD u 0 + b.getD w 0)) (c.set u (min (c.getD u 0) (c.getD w 0))) (lg ++ [logRow b c u w]) ∧ r' = .tup [Bv true, Iv 0]) := by
  have hlx := hx.lt
  have hly := hy.lt
  have hre := hx.end'
  have hse := hy.end'
  have hh := has_spec a b c lg x (by omega)
  have hh2 := has_spec a b c lg y (by omega)
  have hr1 := root_spec a b c lg n x r hx (by omega)
  have hr2 := root_spec a b c lg n' y s hy (by omega)
  rw [show (decide (0 ≤ (x : Int)) && decide ((x : Int) < (a.length : Int))) = true by simp; omega] at hh
  rw [show (decide (0 ≤ (y : Int)) && decide ((y : Int) < (a.length : Int))) = true by simp; omega] at hh2
  have g1 := intR_get b r (by omega)
  have g2 := intR_get b s (by omega)
  have g3 := intR_get c r (by omega)
  have g4 := intR_get c s (by omega)
  refine ACall.walk [0, 1, 2, 6, 7, 8, 11, 30, 45] [] Try.func28 rfl Try.ntmps28 (by kernel_rfl) (by rfl) rfl fun W own I0 φ0 => ?_
  simp only [go_sem, Nat.reduceAdd, Nat.reduceLeDiff, reduceCtorEq, setsH, setsHi] at *
  repeat (first | refine xPP rfl ?_ | refine xPE rfl ?_ | refine xEP rfl ?_ | refine xEE rfl ?_ | refine AQ.done ?_ | refine AQ.skip (by kernel_rfl) rfl ?_ | refine AQ.s2b (by kernel_rfl) rfl rfl rfl rfl ?_ | refine AQ.mark (by kernel_rfl) rfl rfl rfl rfl rfl rfl rfl ?_ | refine AP.cond_true rfl rfl ?_ | refine AP.cond_false rfl rfl ?_ | (refine AP.region rfl (by kernel_rfl) ?_; simp only [go_sem, Nat.reduceAdd, Nat.reduceLeDiff, reduceCtorEq]) | (refine AP.drawQ rfl rfl (by kernel_rfl) ?_; simp only [go_sem, Nat.reduceAdd, Nat.reduceLeDiff, reduceCtorEq]) | (refine vq_id ?_; simp only [go_sem, Nat.reduceAdd, Nat.reduceLeDiff, reduceCtorEq]) | (refine ⟨by first | omega | (intros; simp_all; done) | (intros; simp_all; omega), ?_⟩; try simp only [go_sem, Nat.reduceAdd, Nat.reduceLeDiff, reduceCtorEq]))
  refine AQ.callI (by kernel_rfl) rfl rfl rfl (hh) ?_
  repeat (first | refine xPP rfl ?_ | refine xPE rfl ?_ | refine xEP rfl ?_ | refine xEE rfl ?_ | refine AQ.done ?_ | refine AQ.skip (by kernel_rfl) rfl ?_ | refine AQ.s2b (by kernel_rfl) rfl rfl rfl rfl ?_ | refine AQ.mark (by kernel_rfl) rfl rfl rfl rfl rfl rfl rfl ?_ | refine AP.cond_true rfl rfl ?_ | refine AP.cond_false rfl rfl ?_ | (refine AP.region rfl (by kernel_rfl) ?_; simp only [go_sem, Nat.reduceAdd, Nat.reduceLeDiff, reduceCtorEq]) | (refine AP.drawQ rfl rfl (by kernel_rfl) ?_; simp only [go_sem, Nat.reduceAdd, Nat.reduceLeDiff, reduceCtorEq]) | (refine vq_id ?_; simp only [go_sem, Nat.reduceAdd, Nat.reduceLeDiff, reduceCtorEq]) | (refine ⟨by first | omega | (intros; simp_all; done) | (intros; simp_all; omega), ?_⟩; try simp only [go_sem, Nat.reduceAdd, Nat.reduceLeDiff, reduceCtorEq]))
  refine AQ.callI_g (by kernel_rfl) rfl rfl rfl (fun h => by first | (simp [gs, AV.g]; done) | (simp [gs, AV.g, constAV]; done) | (simp [gs, AV.g, constAV, bw] at h ⊢; done) | (simp [bw] at h; done) | (simp [gs, AV.g, bw] at h ⊢; simp [h]; done) | (simp [gs, AV.g, bw] at h ⊢; exact h.1) | (simp [gs, AV.g]; rfl) | (simp [gs, AV.g, bw] at h ⊢; rfl) | (simp [gs, AV.g, bw] at h ⊢; simp [h]; rfl) | (simp [gs, AV.g, bw] at h ⊢; simp_all)) (fun _ => hh2) ?_
  simp only [go_sem, Nat.reduceAdd, Nat.reduceLeDiff, reduceCtorEq]
  repeat (first | refine xPP rfl ?_ | refine xPE rfl ?_ | refine xEP rfl ?_ | refine xEE rfl ?_ | refine AQ.done ?_ | refine AQ.skip (by kernel_rfl) rfl ?_ | refine AQ.s2b (by kernel_rfl) rfl rfl rfl rfl ?_ | refine AQ.mark (by kernel_rfl) rfl rfl rfl rfl rfl rfl rfl ?_ | refine AP.cond_true rfl rfl ?_ | refine AP.cond_false rfl rfl ?_ | (refine AP.region rfl (by kernel_rfl) ?_; simp only [go_sem, Nat.reduceAdd, Nat.reduceLeDiff, reduceCtorEq]) | (refine AP.drawQ rfl rfl (by kernel_rfl) ?_; simp only [go_sem, Nat.reduceAdd, Nat.reduceLeDiff, reduceCtorEq]) | (refine vq_id ?_; simp only [go_sem, Nat.reduceAdd, Nat.reduceLeDiff, reduceCtorEq]) | (refine ⟨by first | omega | (intros; simp_all; done) | (intros; simp_all; omega), ?_⟩; try simp only [go_sem, Nat.reduceAdd, Nat.reduceLeDiff, reduceCtorEq]))
  refine AQ.callI (by kernel_rfl) rfl rfl rfl (hr1) ?_
  repeat (first | refine xPP rfl ?_ | refine xPE rfl ?_ | refine xEP rfl ?_ | refine xEE rfl ?_ | refine AQ.done ?_ | refine AQ.skip (by kernel_rfl) rfl ?_ | refine AQ.s2b (by kernel_rfl) rfl rfl rfl rfl ?_ | refine AQ.mark (by kernel_rfl) rfl rfl rfl rfl rfl rfl rfl ?_ | refine AP.cond_true rfl rfl ?_ | refine AP.cond_false rfl rfl ?_ | (refine AP.region rfl (by kernel_rfl) ?_; simp only [go_sem, Nat.reduceAdd, Nat.reduceLeDiff, reduceCtorEq]) | (refine AP.drawQ rfl rfl (by kernel_rfl) ?_; simp only [go_sem, Nat.reduceAdd, Nat.reduceLeDiff, reduceCtorEq]) | (refine vq_id ?_; simp only [go_sem, Nat.reduceAdd, Nat.reduceLeDiff, reduceCtorEq]) | (refine ⟨by first | omega | (intros; simp_all; done) | (intros; simp_all; omega), ?_⟩; try simp only [go_sem, Nat.reduceAdd, Nat.reduceLeDiff, reduceCtorEq]))
  refine AQ.callI (by kernel_rfl) rfl rfl rfl (hr2) ?_
  repeat (first | refine xPP rfl ?_ | refine xPE rfl ?_ | refine xEP rfl ?_ | refine xEE rfl ?_ | refine AQ.done ?_ | refine AQ.skip (by kernel_rfl) rfl ?_ | refine AQ.s2b (by kernel_rfl) rfl rfl rfl rfl ?_ | refine AQ.mark (by kernel_rfl) rfl rfl rfl rfl rfl rfl rfl ?_ | refine AP.cond_true rfl rfl ?_ | refine AP.cond_false rfl rfl ?_ | (refine AP.region rfl (by kernel_rfl) ?_; simp only [go_sem, Nat.reduceAdd, Nat.reduceLeDiff, reduceCtorEq]) | (refine AP.drawQ rfl rfl (by kernel_rfl) ?_; simp only [go_sem, Nat.reduceAdd, Nat.reduceLeDiff, reduceCtorEq]) | (refine vq_id ?_; simp only [go_sem, Nat.reduceAdd, Nat.reduceLeDiff, reduceCtorEq]) | (refine ⟨by first | omega | (intros; simp_all; done) | (intros; simp_all; omega), ?_⟩; try simp only [go_sem, Nat.reduceAdd, Nat.reduceLeDiff, reduceCtorEq]))
  refine AP.cond_false rfl (by simp only [go_sem, Nat.reduceAdd, Nat.reduceLeDiff, reduceCtorEq]; refine congrArg (fun b => some (AV.im (IV.v (Value.bool b)))) ?_; (first | (simp only [Bool.or_eq_true, Bool.and_eq_true, Bool.not_eq_true', Bool.not_eq_false', Bool.and_eq_false_iff, Bool.or_eq_false_iff, decide_eq_true_eq, decide_eq_false_iff_not, beq_iff_eq, bne_iff_ne, beq_eq_false_iff_ne, bne_eq_false_iff_eq, ne_eq]; omega) | (simp; done) | (simp; omega) | (simp_all; done) | (simp_all; omega))) ?_
  repeat (first | refine xPP rfl ?_ | refine xPE rfl ?_ | refine xEP rfl ?_ | refine xEE rfl ?_ | refine AQ.done ?_ | refine AQ.skip (by kernel_rfl) rfl ?_ | refine AQ.s2b (by kernel_rfl) rfl rfl rfl rfl ?_ | refine AQ.mark (by kernel_rfl) rfl rfl rfl rfl rfl rfl rfl ?_ | refine AP.cond_true rfl rfl ?_ | refine AP.cond_false rfl rfl ?_ | (refine AP.region rfl (by kernel_rfl) ?_; simp only [go_sem, Nat.reduceAdd, Nat.reduceLeDiff, reduceCtorEq, g1, g2]) | (refine AP.drawQ rfl rfl (by kernel_rfl) ?_; simp only [go_sem, Nat.reduceAdd, Nat.reduceLeDiff, reduceCtorEq, g1, g2]) | (refine vq_id ?_; simp only [go_sem, Nat.reduceAdd, Nat.reduceLeDiff, reduceCtorEq, g1, g2]) | (refine ⟨by first | omega | (intros; simp_all; done) | (intros; simp_all; omega), ?_⟩; try simp only [go_sem, Nat.reduceAdd, Nat.reduceLeDiff, reduceCtorEq, g1, g2]))
  refine AP.cond rfl rfl (fun hd => ?_) (fun hd => ?_)
  · have e := hs.resolve_right (fun h => by rw [swapB, hd] at h; cases h.1)
    obtain ⟨_, e1, e2⟩ := e
    subst e1; subst e2
    have hw := wr (x := b.getD u 0 + b.getD w 0) (by have := hbs u; have := hbs w; omega)
    repeat (first | refine xPP rfl ?_ | refine xPE rfl ?_ | refine xEP rfl ?_ | refine xEE rfl ?_ | refine AQ.done ?_ | refine AQ.skip (by kernel_rfl) rfl ?_ | refine AQ.s2b (by kernel_rfl) rfl rfl rfl rfl ?_ | refine AQ.mark (by kernel_rfl) rfl rfl rfl rfl rfl rfl rfl ?_ | refine AP.cond_true rfl rfl ?_ | refine AP.cond_false rfl rfl ?_ | (refine AP.region rfl (by kernel_rfl) ?_; simp only [go_sem, Nat.reduceAdd, Nat.reduceLeDiff, reduceCtorEq]) | (refine AP.drawQ rfl rfl (by kernel_rfl) ?_; simp only [go_sem, Nat.reduceAdd, Nat.reduceLeDiff, reduceCtorEq]) | (refine vq_id ?_; simp only [go_sem, Nat.reduceAdd, Nat.reduceLeDiff, reduceCtorEq]) | (refine ⟨by first | omega | (intros; simp_all; done) | (intros; simp_all; omega), ?_⟩; try simp only [go_sem, Nat.reduceAdd, Nat.reduceLeDiff, reduceCtorEq]))
    refine AP.drawE 27 (Tree.node [] [0, 1, 2, 3, 4, 5, 6, 7, 8, 9, 10, 11, 12, 13, 14, 15, 16, 17, 18, 19, 20, 21] [22] [Tree.node [0, 1, 2, 3, 4] [] [23] [Tree.node [0] [24, 25] [26] [Tree.node [] [] [] []]]]) (by kernel_rfl) rfl (by kernel_rfl) (by kernel_rfl) ?_
    refine vd_node ?_
    simp only [go_sem, Nat.reduceAdd, Nat.reduceLeDiff, reduceCtorEq, g1, g2, g3, g4]
    repeat (with_reducible refine And.intro (by omega) ?_)
    refine AQ.go (by kernel_rfl) ?_
    simp only [go_sem, Nat.reduceAdd, Nat.reduceLeDiff, reduceCtorEq]
    refine AQ.nx rfl ?_
    simp only [go_sem, Nat.reduceAdd, Nat.reduceLeDiff, reduceCtorEq]
    refine AQ.rename 4 5 rfl rfl rfl ?_; simp only [go_sem, Nat.reduceAdd, Nat.reduceLeDiff, reduceCtorEq]
    refine AQ.kill 5 ?_; simp only [go_sem, Nat.reduceAdd, Nat.reduceLeDiff, reduceCtorEq]
    refine AQ.append (hnb := rfl) (rows := lg) (es := 3) (by kernel_rfl) rfl rfl rfl (by rfl) Try.tk115 Try.sz121 (by show Option.map _ (zro Try.prog 121) = _; rw [Try.zr121]; rfl) Try.by121 rfl (by simp only [List.length_cons, List.length_nil]; omega) (by simp only [List.length_cons, List.length_nil]; omega) ?_
    simp only [go_sem, Nat.reduceAdd, Nat.reduceLeDiff, reduceCtorEq]
    refine AQ.nx rfl ?_
    simp only [go_sem, Nat.reduceAdd, Nat.reduceLeDiff, reduceCtorEq]
    refine AQ.go (by kernel_rfl) ?_
    simp only [go_sem, Nat.reduceAdd, Nat.reduceLeDiff, reduceCtorEq]
    refine AQ.nx rfl ?_
    simp only [go_sem, Nat.reduceAdd, Nat.reduceLeDiff, reduceCtorEq]
    repeat (first | refine xPP rfl ?_ | refine xPE rfl ?_ | refine xEP rfl ?_ | refine xEE rfl ?_ | refine AQ.done ?_ | refine AQ.skip (by kernel_rfl) rfl ?_ | refine AQ.s2b (by kernel_rfl) rfl rfl rfl rfl ?_ | refine AQ.mark (by kernel_rfl) rfl rfl rfl rfl rfl rfl rfl ?_ | refine AP.cond_true rfl rfl ?_ | refine AP.cond_false rfl rfl ?_ | (refine AP.region rfl (by kernel_rfl) ?_; simp only [go_sem, Nat.reduceAdd, Nat.reduceLeDiff, reduceCtorEq]) | (refine AP.drawQ rfl rfl (by kernel_rfl) ?_; simp only [go_sem, Nat.reduceAdd, Nat.reduceLeDiff, reduceCtorEq]) | (refine vq_id ?_; simp only [go_sem, Nat.reduceAdd, Nat.reduceLeDiff, reduceCtorEq]) | (refine ⟨by first | omega | (intros; simp_all; done) | (intros; simp_all; omega), ?_⟩; try simp only [go_sem, Nat.reduceAdd, Nat.reduceLeDiff, reduceCtorEq]))
    refine AP.drawE 44 (Tree.node [] [0, 1, 2, 3, 4, 5, 6, 7, 8, 9, 10, 11, 12, 13, 14, 15, 16, 17, 18, 19, 20, 21, 22, 23, 24, 25, 26, 27, 28, 29, 30, 31, 32, 33, 34, 35, 36, 37, 38, 39, 40] [41] [Tree.node [9, 39] [42] [43] [Tree.node [] [] [] []]]) (by kernel_rfl) rfl (by kernel_rfl) (by kernel_rfl) ?_
    refine vd_node ?_
    simp only [go_sem, Nat.reduceAdd, Nat.reduceLeDiff, reduceCtorEq, g1, g2, g3, g4, hw]
    repeat (with_reducible refine And.intro (by omega) ?_)
    refine AQ.go (by kernel_rfl) ?_
    simp only [go_sem, Nat.reduceAdd, Nat.reduceLeDiff, reduceCtorEq]
    repeat (with_reducible refine And.intro (by omega) ?_)
    refine AQ.nx rfl ?_
    simp only [go_sem, Nat.reduceAdd, Nat.reduceLeDiff, reduceCtorEq]
    repeat (with_reducible refine And.intro (by omega) ?_)
    refine AQ.go (by kernel_rfl) ?_
    simp only [go_sem, Nat.reduceAdd, Nat.reduceLeDiff, reduceCtorEq]
    repeat (with_reducible refine And.intro (by omega) ?_)
    refine AQ.nx rfl ?_
    simp only [go_sem, Nat.reduceAdd, Nat.reduceLeDiff, reduceCtorEq]
    repeat (first | refine xPP rfl ?_ | refine xPE rfl ?_ | refine xEP rfl ?_ | refine xEE rfl ?_ | refine AQ.done ?_ | refine AQ.skip (by kernel_rfl) rfl ?_ | refine AQ.s2b (by kernel_rfl) rfl rfl rfl rfl ?_ | refine AQ.mark (by kernel_rfl) rfl rfl rfl rfl rfl rfl rfl ?_ | refine AP.cond_true rfl rfl ?_ | refine AP.cond_false rfl rfl ?_ | (refine AP.region rfl (by kernel_rfl) ?_; simp only [go_sem, Nat.reduceAdd, Nat.reduceLeDiff, reduceCtorEq]) | (refine AP.drawQ rfl rfl (by kernel_rfl) ?_; simp only [go_sem, Nat.reduceAdd, Nat.reduceLeDiff, reduceCtorEq]) | (refine vq_id ?_; simp only [go_sem, Nat.reduceAdd, Nat.reduceLeDiff, reduceCtorEq]) | (refine ⟨by first | omega | (intros; simp_all; done) | (intros; simp_all; omega), ?_⟩; try simp only [go_sem, Nat.reduceAdd, Nat.reduceLeDiff, reduceCtorEq]))
    refine AE.ret rfl ⟨rfl, rfl, trivial⟩ ⟨?_, rfl⟩
    rw [intR_set1 a w u (by omega), intR_set1 b u _ (by omega), intR_set1 c u _ (by omega), min_if]
    simp only [List.length_set, List.length_append, List.length_cons, List.length_nil]
    rfl
  · have e := hs.resolve_left (fun h => by rw [swapB, hd] at h; cases h.1)
    obtain ⟨_, e1, e2⟩ := e
    subst e1; subst e2
    have hw := wr (x := b.getD u 0 + b.getD w 0) (by have := hbs u; have := hbs w; omega)
    repeat (first | refine xPP rfl ?_ | refine xPE rfl ?_ | refine xEP rfl ?_ | refine xEE rfl ?_ | refine AQ.done ?_ | refine AQ.skip (by kernel_rfl) rfl ?_ | refine AQ.s2b (by kernel_rfl) rfl rfl rfl rfl ?_ | refine AQ.mark (by kernel_rfl) rfl rfl rfl rfl rfl rfl rfl ?_ | refine AP.cond_true rfl rfl ?_ | refine AP.cond_false rfl rfl ?_ | (refine AP.region rfl (by kernel_rfl) ?_; simp only [go_sem, Nat.reduceAdd, Nat.reduceLeDiff, reduceCtorEq]) | (refine AP.drawQ rfl rfl (by kernel_rfl) ?_; simp only [go_sem, Nat.reduceAdd, Nat.reduceLeDiff, reduceCtorEq]) | (refine vq_id ?_; simp only [go_sem, Nat.reduceAdd, Nat.reduceLeDiff, reduceCtorEq]) | (refine ⟨by first | omega | (intros; simp_all; done) | (intros; simp_all; omega), ?_⟩; try simp only [go_sem, Nat.reduceAdd, Nat.reduceLeDiff, reduceCtorEq]))
    refine AP.drawE 27 (Tree.node [] [0, 1, 2, 3, 4, 5, 6, 7, 8, 9, 10, 11, 12, 13, 14, 15, 16, 17, 18, 19, 20, 21] [22] [Tree.node [0, 1, 2, 3, 4] [] [23] [Tree.node [0] [24, 25] [26] [Tree.node [] [] [] []]]]) (by kernel_rfl) rfl (by kernel_rfl) (by kernel_rfl) ?_
    refine vd_node ?_
    simp only [go_sem, Nat.reduceAdd, Nat.reduceLeDiff, reduceCtorEq, g1, g2, g3, g4]
    repeat (with_reducible refine And.intro (by omega) ?_)
    refine AQ.go (by kernel_rfl) ?_
    simp only [go_sem, Nat.reduceAdd, Nat.reduceLeDiff, reduceCtorEq]
    refine AQ.nx rfl ?_
    simp only [go_sem, Nat.reduceAdd, Nat.reduceLeDiff, reduceCtorEq]
    refine AQ.rename 4 5 rfl rfl rfl ?_; simp only [go_sem, Nat.reduceAdd, Nat.reduceLeDiff, reduceCtorEq]
    refine AQ.kill 5 ?_; simp only [go_sem, Nat.reduceAdd, Nat.reduceLeDiff, reduceCtorEq]
    refine AQ.append (hnb := rfl) (rows := lg) (es := 3) (by kernel_rfl) rfl rfl rfl (by rfl) Try.tk115 Try.sz121 (by show Option.map _ (zro Try.prog 121) = _; rw [Try.zr121]; rfl) Try.by121 rfl (by simp only [List.length_cons, List.length_nil]; omega) (by simp only [List.length_cons, List.length_nil]; omega) ?_
    simp only [go_sem, Nat.reduceAdd, Nat.reduceLeDiff, reduceCtorEq]
    refine AQ.nx rfl ?_
    simp only [go_sem, Nat.reduceAdd, Nat.reduceLeDiff, reduceCtorEq]
    refine AQ.go (by kernel_rfl) ?_
    simp only [go_sem, Nat.reduceAdd, Nat.reduceLeDiff, reduceCtorEq]
    refine AQ.nx rfl ?_
    simp only [go_sem, Nat.reduceAdd, Nat.reduceLeDiff, reduceCtorEq]
    repeat (first | refine xPP rfl ?_ | refine xPE rfl ?_ | refine xEP rfl ?_ | refine xEE rfl ?_ | refine AQ.done ?_ | refine AQ.skip (by kernel_rfl) rfl ?_ | refine AQ.s2b (by kernel_rfl) rfl rfl rfl rfl ?_ | refine AQ.mark (by kernel_rfl) rfl rfl rfl rfl rfl rfl rfl ?_ | refine AP.cond_true rfl rfl ?_ | refine AP.cond_false rfl rfl ?_ | (refine AP.region rfl (by kernel_rfl) ?_; simp only [go_sem, Nat.reduceAdd, Nat.reduceLeDiff, reduceCtorEq]) | (refine AP.drawQ rfl rfl (by kernel_rfl) ?_; simp only [go_sem, Nat.reduceAdd, Nat.reduceLeDiff, reduceCtorEq]) | (refine vq_id ?_; simp only [go_sem, Nat.reduceAdd, Nat.reduceLeDiff, reduceCtorEq]) | (refine ⟨by first | omega | (intros; simp_all; done) | (intros; simp_all; omega), ?_⟩; try simp only [go_sem, Nat.reduceAdd, Nat.reduceLeDiff, reduceCtorEq]))
    refine AP.drawE 44 (Tree.node [] [0, 1, 2, 3, 4, 5, 6, 7, 8, 9, 10, 11, 12, 13, 14, 15, 16, 17, 18, 19, 20, 21, 22, 23, 24, 25, 26, 27, 28, 29, 30, 31, 32, 33, 34, 35, 36, 37, 38, 39, 40] [41] [Tree.node [9, 39] [42] [43] [Tree.node [] [] [] []]]) (by kernel_rfl) rfl (by kernel_rfl) (by kernel_rfl) ?_
    refine vd_node ?_
    simp only [go_sem, Nat.reduceAdd, Nat.reduceLeDiff, reduceCtorEq, g1, g2, g3, g4, hw]
    repeat (with_reducible refine And.intro (by omega) ?_)
    refine AQ.go (by kernel_rfl) ?_
    simp only [go_sem, Nat.reduceAdd, Nat.reduceLeDiff, reduceCtorEq]
    repeat (with_reducible refine And.intro (by omega) ?_)
    refine AQ.nx rfl ?_
    simp only [go_sem, Nat.reduceAdd, Nat.reduceLeDiff, reduceCtorEq]
    repeat (with_reducible refine And.intro (by omega) ?_)
    refine AQ.go (by kernel_rfl) ?_
    simp only [go_sem, Nat.reduceAdd, Nat.reduceLeDiff, reduceCtorEq]
    repeat (with_reducible refine And.intro (by omega) ?_)
    refine AQ.nx rfl ?_
    simp only [go_sem, Nat.reduceAdd, Nat.reduceLeDiff, reduceCtorEq]
    repeat (first | refine xPP rfl ?_ | refine xPE rfl ?_ | refine xEP rfl ?_ | refine xEE rfl ?_ | refine AQ.done ?_ | refine AQ.skip (by kernel_rfl) rfl ?_ | refine AQ.s2b (by kernel_rfl) rfl rfl rfl rfl ?_ | refine AQ.mark (by kernel_rfl) rfl rfl rfl rfl rfl rfl rfl ?_ | refine AP.cond_true rfl rfl ?_ | refine AP.cond_false rfl rfl ?_ | (refine AP.region rfl (by kernel_rfl) ?_; simp only [go_sem, Nat.reduceAdd, Nat.reduceLeDiff, reduceCtorEq]) | (refine AP.drawQ rfl rfl (by kernel_rfl) ?_; simp only [go_sem, Nat.reduceAdd, Nat.reduceLeDiff, reduceCtorEq]) | (refine vq_id ?_; simp only [go_sem, Nat.reduceAdd, Nat.reduceLeDiff, reduceCtorEq]) | (refine ⟨by first | omega | (intros; simp_all; done) | (intros; simp_all; omega), ?_⟩; try simp only [go_sem, Nat.reduceAdd, Nat.reduceLeDiff, reduceCtorEq]))
    refine AE.ret rfl ⟨rfl, rfl, trivial⟩ ⟨?_, rfl⟩
    rw [intR_set1 a w u (by omega), intR_set1 b u _ (by omega), intR_set1 c u _ (by omega), min_if]
    simp only [List.length_set, List.length_append, List.length_cons, List.length_nil]
    rfl
end Go.Proofs.Ytfgffpkdjmeaoaa
end

section
namespace Go.Proofs.Ytfgffpkdjmeaoaa
open Go Go.AL Go.RowKit
set_option maxRecDepth 10000
set_option maxHeartbeats 4000000
def aw1 : Tr := Tr.put [98] 2 .nil
def aw2 : Tr := Tr.put [97] 1 aw1
theorem awake_spec : PFn Try.prog 10 [] (Bv true) := by
  have hu := union_ok (ids 4) (List.replicate 4 1) (ids 4) [] 3 1 0 0 3 1 3 1 (.here (by decide) (by decide)) (.here (by decide) (by decide)) (by decide) (.inr ⟨by decide, rfl, rfl⟩) (by decide) (by decide) (by decide) (by decide) (fun i => by
    rcases Nat.lt_or_ge i 4 with h | h
    · have : i = 0 ∨ i = 1 ∨ i = 2 ∨ i = 3 := by omega
      rcases this with rfl | rfl | rfl | rfl <;> decide
    · rw [List.getD_eq_getElem?_getD, List.getElem?_eq_none (by simpa using h)]; decide)
  have hf := setsFind_spec ((ids 4).set 1 (3 : Nat)) ((List.replicate 4 1).set 3 ((List.replicate 4 1).getD 3 0 + (List.replicate 4 1).getD 1 0)) ((ids 4).set 3 (min ((ids 4).getD 3 0) ((ids 4).getD 1 0))) [logRow (List.replicate 4 1) (ids 4) 3 1] 0 3 3 (.here (by decide) (by decide)) (by decide) (by decide)
  have hc := count_spec' ((ids 4).set 1 (3 : Nat)) ((List.replicate 4 1).set 3 ((List.replicate 4 1).getD 3 0 + (List.replicate 4 1).getD 1 0)) ((ids 4).set 3 (min ((ids 4).getD 3 0) ((ids 4).getD 1 0))) [logRow (List.replicate 4 1) (ids 4) 3 1] (by decide) (by decide)
  refine ACall.walk [0, 1, 2, 3, 4, 5, 6, 7, 9, 25] [1] Try.func10 rfl Try.ntmps10 (by kernel_rfl) (by rfl) rfl fun W own I0 φ0 => ?_
  repeat (first | refine xPP rfl ?_ | refine xPE rfl ?_ | refine xEP rfl ?_ | refine xEE rfl ?_ | refine AQ.done ?_ | refine AQ.skip (by kernel_rfl) rfl ?_ | refine AQ.s2b (by kernel_rfl) rfl rfl rfl rfl ?_ | refine AQ.mark (by kernel_rfl) rfl rfl rfl rfl rfl rfl rfl ?_ | refine AP.cond_true rfl rfl ?_ | refine AP.cond_false rfl rfl ?_ | (refine AP.region rfl (by kernel_rfl) ?_; simp only [go_sem, Nat.reduceAdd, Nat.reduceLeDiff, reduceCtorEq]) | (refine AP.drawQ rfl rfl (by kernel_rfl) ?_; simp only [go_sem, Nat.reduceAdd, Nat.reduceLeDiff, reduceCtorEq]) | (refine vq_id ?_; simp only [go_sem, Nat.reduceAdd, Nat.reduceLeDiff, reduceCtorEq]) | (refine ⟨by first | omega | (intros; simp_all; done) | (intros; simp_all; omega), ?_⟩; try simp only [go_sem, Nat.reduceAdd, Nat.reduceLeDiff, reduceCtorEq]))
  refine AQ.fn (by kernel_rfl) rfl rfl rfl (Put_spec .nil [98] 2 (by decide)) rfl ?_
  repeat (first | refine xPP rfl ?_ | refine xPE rfl ?_ | refine xEP rfl ?_ | refine xEE rfl ?_ | refine AQ.done ?_ | refine AQ.skip (by kernel_rfl) rfl ?_ | refine AQ.s2b (by kernel_rfl) rfl rfl rfl rfl ?_ | refine AQ.mark (by kernel_rfl) rfl rfl rfl rfl rfl rfl rfl ?_ | refine AP.cond_true rfl rfl ?_ | refine AP.cond_false rfl rfl ?_ | (refine AP.region rfl (by kernel_rfl) ?_; simp only [go_sem, Nat.reduceAdd, Nat.reduceLeDiff, reduceCtorEq]) | (refine AP.drawQ rfl rfl (by kernel_rfl) ?_; simp only [go_sem, Nat.reduceAdd, Nat.reduceLeDiff, reduceCtorEq]) | (refine vq_id ?_; simp only [go_sem, Nat.reduceAdd, Nat.reduceLeDiff, reduceCtorEq]) | (refine ⟨by first | omega | (intros; simp_all; done) | (intros; simp_all; omega), ?_⟩; try simp only [go_sem, Nat.reduceAdd, Nat.reduceLeDiff, reduceCtorEq]))
  refine AQ.fn (by kernel_rfl) rfl rfl rfl (Put_spec aw1 [97] 1 (by decide)) rfl ?_
  repeat (first | refine xPP rfl ?_ | refine xPE rfl ?_ | refine xEP rfl ?_ | refine xEE rfl ?_ | refine AQ.done ?_ | refine AQ.skip (by kernel_rfl) rfl ?_ | refine AQ.s2b (by kernel_rfl) rfl rfl rfl rfl ?_ | refine AQ.mark (by kernel_rfl) rfl rfl rfl rfl rfl rfl rfl ?_ | refine AP.cond_true rfl rfl ?_ | refine AP.cond_false rfl rfl ?_ | (refine AP.region rfl (by kernel_rfl) ?_; simp only [go_sem, Nat.reduceAdd, Nat.reduceLeDiff, reduceCtorEq]) | (refine AP.drawQ rfl rfl (by kernel_rfl) ?_; simp only [go_sem, Nat.reduceAdd, Nat.reduceLeDiff, reduceCtorEq]) | (refine vq_id ?_; simp only [go_sem, Nat.reduceAdd, Nat.reduceLeDiff, reduceCtorEq]) | (refine ⟨by first | omega | (intros; simp_all; done) | (intros; simp_all; omega), ?_⟩; try simp only [go_sem, Nat.reduceAdd, Nat.reduceLeDiff, reduceCtorEq]))
  refine AQ.fn (by kernel_rfl) rfl rfl rfl (At_in aw2 0 (by decide) (by decide)) rfl ?_
  repeat (first | refine xPP rfl ?_ | refine xPE rfl ?_ | refine xEP rfl ?_ | refine xEE rfl ?_ | refine AQ.done ?_ | refine AQ.skip (by kernel_rfl) rfl ?_ | refine AQ.s2b (by kernel_rfl) rfl rfl rfl rfl ?_ | refine AQ.mark (by kernel_rfl) rfl rfl rfl rfl rfl rfl rfl ?_ | refine AP.cond_true rfl rfl ?_ | refine AP.cond_false rfl rfl ?_ | (refine AP.region rfl (by kernel_rfl) ?_; simp only [go_sem, Nat.reduceAdd, Nat.reduceLeDiff, reduceCtorEq]) | (refine AP.drawQ rfl rfl (by kernel_rfl) ?_; simp only [go_sem, Nat.reduceAdd, Nat.reduceLeDiff, reduceCtorEq]) | (refine vq_id ?_; simp only [go_sem, Nat.reduceAdd, Nat.reduceLeDiff, reduceCtorEq]) | (refine ⟨by first | omega | (intros; simp_all; done) | (intros; simp_all; omega), ?_⟩; try simp only [go_sem, Nat.reduceAdd, Nat.reduceLeDiff, reduceCtorEq]))
  refine AQ.callv (by kernel_rfl) rfl rfl rfl (newSets_spec 4 (by omega)) fun r' H' ⟨e1, e2⟩ => ?_
  subst e1; subst e2
  simp only [go_sem, Nat.reduceAdd, Nat.reduceLeDiff, reduceCtorEq, setsH]
  repeat (first | refine xPP rfl ?_ | refine xPE rfl ?_ | refine xEP rfl ?_ | refine xEE rfl ?_ | refine AQ.done ?_ | refine AQ.skip (by kernel_rfl) rfl ?_ | refine AQ.s2b (by kernel_rfl) rfl rfl rfl rfl ?_ | refine AQ.mark (by kernel_rfl) rfl rfl rfl rfl rfl rfl rfl ?_ | refine AP.cond_true rfl rfl ?_ | refine AP.cond_false rfl rfl ?_ | (refine AP.region rfl (by kernel_rfl) ?_; simp only [go_sem, Nat.reduceAdd, Nat.reduceLeDiff, reduceCtorEq]) | (refine AP.drawQ rfl rfl (by kernel_rfl) ?_; simp only [go_sem, Nat.reduceAdd, Nat.reduceLeDiff, reduceCtorEq]) | (refine vq_id ?_; simp only [go_sem, Nat.reduceAdd, Nat.reduceLeDiff, reduceCtorEq]) | (refine ⟨by first | omega | (intros; simp_all; done) | (intros; simp_all; omega), ?_⟩; try simp only [go_sem, Nat.reduceAdd, Nat.reduceLeDiff, reduceCtorEq]))
  refine AQ.callH [(4, 5), (3, 4), (2, 3), (1, 2), (0, 1)] (by kernel_rfl) rfl rfl rfl rfl rfl rfl (by exact ⟨rfl, rfl, rfl, rfl, rfl, trivial⟩) rfl hu ?_
  rintro r' H' ⟨e1, e2⟩
  subst e1; subst e2
  refine ⟨rfl, ?_⟩
  simp only [go_sem, Nat.reduceAdd, Nat.reduceLeDiff, reduceCtorEq, setsHi]
  repeat (first | refine xPP rfl ?_ | refine xPE rfl ?_ | refine xEP rfl ?_ | refine xEE rfl ?_ | refine AQ.done ?_ | refine AQ.skip (by kernel_rfl) rfl ?_ | refine AQ.s2b (by kernel_rfl) rfl rfl rfl rfl ?_ | refine AQ.mark (by kernel_rfl) rfl rfl rfl rfl rfl rfl rfl ?_ | refine AP.cond_true rfl rfl ?_ | refine AP.cond_false rfl rfl ?_ | (refine AP.region rfl (by kernel_rfl) ?_; simp only [go_sem, Nat.reduceAdd, Nat.reduceLeDiff, reduceCtorEq]) | (refine AP.drawQ rfl rfl (by kernel_rfl) ?_; simp only [go_sem, Nat.reduceAdd, Nat.reduceLeDiff, reduceCtorEq]) | (refine vq_id ?_; simp only [go_sem, Nat.reduceAdd, Nat.reduceLeDiff, reduceCtorEq]) | (refine ⟨by first | omega | (intros; simp_all; done) | (intros; simp_all; omega), ?_⟩; try simp only [go_sem, Nat.reduceAdd, Nat.reduceLeDiff, reduceCtorEq]))
  refine AQ.rename 11 5 rfl rfl rfl ?_
  simp only [go_sem, Nat.reduceAdd, Nat.reduceLeDiff, reduceCtorEq]
  refine AQ.callH [(4, 5), (3, 4), (2, 3), (1, 2), (0, 1)] (by kernel_rfl) rfl rfl rfl rfl rfl rfl (by exact ⟨rfl, rfl, rfl, rfl, rfl, trivial⟩) rfl hf ?_
  rintro r' H' ⟨e1, e2⟩
  subst e1; subst e2
  refine ⟨rfl, ?_⟩
  simp only [go_sem, Nat.reduceAdd, Nat.reduceLeDiff, reduceCtorEq, setsH]
  repeat (first | refine xPP rfl ?_ | refine xPE rfl ?_ | refine xEP rfl ?_ | refine xEE rfl ?_ | refine AQ.done ?_ | refine AQ.skip (by kernel_rfl) rfl ?_ | refine AQ.s2b (by kernel_rfl) rfl rfl rfl rfl ?_ | refine AQ.mark (by kernel_rfl) rfl rfl rfl rfl rfl rfl rfl ?_ | refine AP.cond_true rfl rfl ?_ | refine AP.cond_false rfl rfl ?_ | (refine AP.region rfl (by kernel_rfl) ?_; simp only [go_sem, Nat.reduceAdd, Nat.reduceLeDiff, reduceCtorEq]) | (refine AP.drawQ rfl rfl (by kernel_rfl) ?_; simp only [go_sem, Nat.reduceAdd, Nat.reduceLeDiff, reduceCtorEq]) | (refine vq_id ?_; simp only [go_sem, Nat.reduceAdd, Nat.reduceLeDiff, reduceCtorEq]) | (refine ⟨by first | omega | (intros; simp_all; done) | (intros; simp_all; omega), ?_⟩; try simp only [go_sem, Nat.reduceAdd, Nat.reduceLeDiff, reduceCtorEq]))
  refine AQ.guard_yes rfl ?_
  refine AQ.fn (by kernel_rfl) rfl rfl rfl (Rank_spec aw2 [98] (by decide)) rfl ?_
  repeat (first | refine xPP rfl ?_ | refine xPE rfl ?_ | refine xEP rfl ?_ | refine xEE rfl ?_ | refine AQ.done ?_ | refine AQ.skip (by kernel_rfl) rfl ?_ | refine AQ.s2b (by kernel_rfl) rfl rfl rfl rfl ?_ | refine AQ.mark (by kernel_rfl) rfl rfl rfl rfl rfl rfl rfl ?_ | refine AP.cond_true rfl rfl ?_ | refine AP.cond_false rfl rfl ?_ | (refine AP.region rfl (by kernel_rfl) ?_; simp only [go_sem, Nat.reduceAdd, Nat.reduceLeDiff, reduceCtorEq]) | (refine AP.drawQ rfl rfl (by kernel_rfl) ?_; simp only [go_sem, Nat.reduceAdd, Nat.reduceLeDiff, reduceCtorEq]) | (refine vq_id ?_; simp only [go_sem, Nat.reduceAdd, Nat.reduceLeDiff, reduceCtorEq]) | (refine ⟨by first | omega | (intros; simp_all; done) | (intros; simp_all; omega), ?_⟩; try simp only [go_sem, Nat.reduceAdd, Nat.reduceLeDiff, reduceCtorEq]))
  refine AQ.guard_yes rfl ?_
  refine AQ.callH [(4, 5), (3, 4), (2, 3), (1, 2), (0, 1)] (by kernel_rfl) rfl rfl rfl rfl rfl rfl (by exact ⟨rfl, rfl, rfl, rfl, rfl, trivial⟩) rfl hc ?_
  rintro r' H' ⟨e1, e2⟩
  subst e1; subst e2
  refine ⟨rfl, ?_⟩
  simp only [go_sem, Nat.reduceAdd, Nat.reduceLeDiff, reduceCtorEq, setsH]
  repeat (first | refine xPP rfl ?_ | refine xPE rfl ?_ | refine xEP rfl ?_ | refine xEE rfl ?_ | refine AQ.done ?_ | refine AQ.skip (by kernel_rfl) rfl ?_ | refine AQ.s2b (by kernel_rfl) rfl rfl rfl rfl ?_ | refine AQ.mark (by kernel_rfl) rfl rfl rfl rfl rfl rfl rfl ?_ | refine AP.cond_true rfl rfl ?_ | refine AP.cond_false rfl rfl ?_ | (refine AP.region rfl (by kernel_rfl) ?_; simp only [go_sem, Nat.reduceAdd, Nat.reduceLeDiff, reduceCtorEq]) | (refine AP.drawQ rfl rfl (by kernel_rfl) ?_; simp only [go_sem, Nat.reduceAdd, Nat.reduceLeDiff, reduceCtorEq]) | (refine vq_id ?_; simp only [go_sem, Nat.reduceAdd, Nat.reduceLeDiff, reduceCtorEq]) | (refine ⟨by first | omega | (intros; simp_all; done) | (intros; simp_all; omega), ?_⟩; try simp only [go_sem, Nat.reduceAdd, Nat.reduceLeDiff, reduceCtorEq]))
  exact AE.ret0 rfl ⟨rfl, trivial⟩ rfl ⟨rfl, rfl⟩
end Go.Proofs.Ytfgffpkdjmeaoaa
end

section
namespace Go.Proofs.Ytfgffpkdjmeaoaa
open Go Go.AL
/-! The plain law of trees: order of keys, contents, balance -/
abbrev Ent := List UInt8 × Int
theorem ltS_irrefl : ∀ a : List UInt8, ltS a a = false
  | [] => rfl
  | a :: x => by have := ltS_irrefl x; simp only [ltS] at this ⊢; simp [Op.bytesLess, this]
theorem ltS_trans : ∀ {a b c : List UInt8}, ltS a b = true → ltS b c = true → ltS a c = true
  | [], [], _, h, _ => by simp [ltS, Op.bytesLess] at h
  | _ :: _, [], _, h, _ => by simp [ltS, Op.bytesLess] at h
  | [], _ :: _, [], _, h => by simp [ltS, Op.bytesLess] at h
  | _ :: _, _ :: _, [], _, h => by simp [ltS, Op.bytesLess] at h
  | [], _ :: _, _ :: _, _, _ => by simp [ltS, Op.bytesLess]
  | a :: x, b :: y, c :: z, h, h' => by
    have ih := @ltS_trans x y z
    simp only [ltS] at ih h h' ⊢
    simp only [Op.bytesLess, Bool.or_eq_true, decide_eq_true_eq, Bool.and_eq_true, beq_iff_eq] at h h' ⊢
    rcases h with h | ⟨rfl, h⟩
    · rcases h' with h' | ⟨rfl, h'⟩
      · exact .inl (UInt8.lt_trans h h')
      · exact .inl h
    · rcases h' with h' | ⟨rfl, h'⟩
      · exact .inl h'
      · exact .inr ⟨rfl, ih h h'⟩
theorem ltS_asymm {a b : List UInt8} (h : ltS a b = true) : ltS b a = false := by
  cases hb : ltS b a with
  | false => rfl
  | true => have := ltS_trans h hb; rw [ltS_irrefl] at this; cases this
theorem ltS_tri : ∀ (a b : List UInt8), ltS a b = false → ltS b a = false → a = b
  | [], [], _, _ => rfl
  | [], _ :: _, h, _ => by simp [ltS, Op.bytesLess] at h
  | _ :: _, [], _, h => by simp [ltS, Op.bytesLess] at h
  | a :: x, b :: y, h, h' => by
    have ih := ltS_tri x y
    simp only [ltS] at ih h h'
    simp only [Op.bytesLess, Bool.or_eq_false_iff, decide_eq_false_iff_not, Bool.and_eq_false_iff, beq_eq_false_iff_ne] at h h'
    have : a = b := by
      rcases Classical.em (a = b) with e | e
      · exact e
      · rcases UInt8.lt_or_lt_of_ne e with h1 | h1
        · exact absurd h1 h.1
        · exact absurd h1 h'.1
    subst this
    have h1 : Op.bytesLess x y = false := by rcases h.2 with h | h; exact absurd rfl h; exact h
    have h2 : Op.bytesLess y x = false := by rcases h'.2 with h | h; exact absurd rfl h; exact h
    rw [ih h1 h2]
theorem cmpS_lt {a b : List UInt8} : cmpS a b < 0 ↔ ltS a b = true := by
  unfold cmpS
  cases h : ltS a b <;> simp
  split <;> omega
theorem cmpS_gt {a b : List UInt8} : 0 < cmpS a b ↔ ltS b a = true := by
  unfold cmpS
  cases h : ltS a b
  · simp
    by_cases e : a = b
    · subst e; simp [h]
    · simp [e]
      cases h' : ltS b a
      · exact absurd (ltS_tri a b h h') e
      · rfl
  · simp [ltS_asymm h]
/-- the keys ascend -/
def Srt (l : List Ent) : Prop := l.Pairwise fun a b => ltS a.1 b.1 = true
theorem Srt.nil : Srt [] := List.Pairwise.nil
theorem srt_app {l r : List Ent} {e : Ent} : Srt (l ++ e :: r) ↔ Srt l ∧ Srt r ∧ (∀ x ∈ l, ltS x.1 e.1 = true) ∧ (∀ x ∈ r, ltS e.1 x.1 = true) := by
  unfold Srt
  rw [List.pairwise_append, List.pairwise_cons]
  constructor
  · rintro ⟨h1, ⟨h2, h3⟩, h4⟩
    exact ⟨h1, h3, fun x hx => h4 x hx e (by simp), h2⟩
  · rintro ⟨h1, h2, h3, h4⟩
    refine ⟨h1, ⟨h4, h2⟩, fun x hx y hy => ?_⟩
    rcases List.mem_cons.1 hy with rfl | hy
    · exact h3 x hx
    · exact ltS_trans (h3 x hx) (h4 y hy)
theorem srt_app2 {l r : List Ent} : Srt (l ++ r) ↔ Srt l ∧ Srt r ∧ (∀ x ∈ l, ∀ y ∈ r, ltS x.1 y.1 = true) := List.pairwise_append
def lower (k : List UInt8) (l : List Ent) : List Ent := l.filter fun e => ltS e.1 k
def upper (k : List UInt8) (l : List Ent) : List Ent := l.filter fun e => ltS k e.1
theorem lower_app (k : List UInt8) (l r : List Ent) : lower k (l ++ r) = lower k l ++ lower k r := List.filter_append ..
theorem upper_app (k : List UInt8) (l r : List Ent) : upper k (l ++ r) = upper k l ++ upper k r := List.filter_append ..
theorem lower_all {k : List UInt8} {l : List Ent} (h : ∀ x ∈ l, ltS x.1 k = true) : lower k l = l := List.filter_eq_self.2 h
theorem upper_all {k : List UInt8} {l : List Ent} (h : ∀ x ∈ l, ltS k x.1 = true) : upper k l = l := List.filter_eq_self.2 h
theorem lower_none {k : List UInt8} {l : List Ent} (h : ∀ x ∈ l, ltS k x.1 = true) : lower k l = [] := List.filter_eq_nil_iff.2 fun x hx => by simp [ltS_asymm (h x hx)]
theorem upper_none {k : List UInt8} {l : List Ent} (h : ∀ x ∈ l, ltS x.1 k = true) : upper k l = [] := List.filter_eq_nil_iff.2 fun x hx => by simp [ltS_asymm (h x hx)]
theorem Srt.lower {k : List UInt8} {l : List Ent} (h : Srt l) : Srt (lower k l) := List.Pairwise.filter _ h
theorem Srt.upper {k : List UInt8} {l : List Ent} (h : Srt l) : Srt (upper k l) := List.Pairwise.filter _ h
theorem mem_lower {k : List UInt8} {l : List Ent} {x : Ent} : x ∈ lower k l ↔ x ∈ l ∧ ltS x.1 k = true := List.mem_filter
theorem mem_upper {k : List UInt8} {l : List Ent} {x : Ent} : x ∈ upper k l ↔ x ∈ l ∧ ltS k x.1 = true := List.mem_filter
/-- with the parts around a key: left of the node, right of it, the node -/
theorem low_lt {k k' : List UInt8} {v : Int} {l r : List Ent} (h : Srt (l ++ (k', v) :: r)) (hk : ltS k k' = true) : lower k (l ++ (k', v) :: r) = lower k l ∧ upper k (l ++ (k', v) :: r) = upper k l ++ (k', v) :: r := by
  obtain ⟨h1, h2, h3, h4⟩ := srt_app.1 h
  have h5 : ∀ x ∈ (k', v) :: r, ltS k x.1 = true := fun x hx => by
    rcases List.mem_cons.1 hx with rfl | hx
    · exact hk
    · exact ltS_trans hk (h4 x hx)
  rw [lower_app, upper_app, lower_none h5, upper_all h5, List.append_nil]
  exact ⟨rfl, rfl⟩
theorem low_gt {k k' : List UInt8} {v : Int} {l r : List Ent} (h : Srt (l ++ (k', v) :: r)) (hk : ltS k' k = true) : lower k (l ++ (k', v) :: r) = l ++ (k', v) :: lower k r ∧ upper k (l ++ (k', v) :: r) = upper k r := by
  obtain ⟨h1, h2, h3, h4⟩ := srt_app.1 h
  have h5 : ∀ x ∈ l ++ [(k', v)], ltS x.1 k = true := fun x hx => by
    rcases List.mem_append.1 hx with hx | hx
    · exact ltS_trans (h3 x hx) hk
    · rw [List.mem_singleton.1 hx]; exact hk
  have e : l ++ (k', v) :: r = (l ++ [(k', v)]) ++ r := by simp
  rw [e, lower_app, upper_app, lower_all h5, upper_none h5]
  exact ⟨by simp, rfl⟩
theorem low_eq {k : List UInt8} {v : Int} {l r : List Ent} (h : Srt (l ++ (k, v) :: r)) : lower k (l ++ (k, v) :: r) = l ∧ upper k (l ++ (k, v) :: r) = r := by
  obtain ⟨h1, h2, h3, h4⟩ := srt_app.1 h
  rw [lower_app, upper_app, lower_all h3, upper_none h3]
  have e1 : lower k ((k, v) :: r) = [] := by
    have := lower_none h4
    unfold lower at this ⊢
    rw [List.filter_cons, this]; simp [ltS_irrefl]
  have e2 : upper k ((k, v) :: r) = r := by
    have := upper_all h4
    unfold upper at this ⊢
    rw [List.filter_cons, this]; simp [ltS_irrefl]
  rw [e1, e2]; simp
namespace Tr
theorem toList_rotL (t : Tr) : t.rotL.toList = t.toList := by
  unfold rotL; split
  · simp [toList]
  · rfl
theorem toList_rotR (t : Tr) : t.rotR.toList = t.toList := by
  unfold rotR; split
  · simp [toList]
  · rfl
theorem toList_bal (t : Tr) : t.bal.toList = t.toList := by
  cases t with
  | nil => rfl
  | node k v l r =>
    simp only [bal]
    split
    · rw [toList_rotR]; split <;> simp only [toList, toList_rotL]
    · split
      · rw [toList_rotL]; split <;> simp only [toList, toList_rotR]
      · rfl
theorem toList_put (k : List UInt8) (v : Int) : ∀ t : Tr, Srt t.toList → (t.put k v).toList = lower k t.toList ++ (k, v) :: upper k t.toList
  | .nil, _ => rfl
  | .node k' v' l r, h => by
    simp only [toList] at h
    obtain ⟨h1, h2, h3, h4⟩ := srt_app.1 h
    simp only [put]
    split
    · rename_i hc
      obtain ⟨e1, e2⟩ := low_lt h (cmpS_lt.1 hc)
      rw [toList_bal]; simp only [toList]; rw [e1, e2, toList_put k v l h1]; simp
    · split
      · rename_i hc
        obtain ⟨e1, e2⟩ := low_gt h (cmpS_gt.1 hc)
        rw [toList_bal]; simp only [toList]; rw [e1, e2, toList_put k v r h2]; simp
      · rename_i c1 c2
        have : k = k' := ltS_tri k k' (by simpa [cmpS_lt] using c1) (by simpa [cmpS_gt] using c2)
        subst this
        obtain ⟨e1, e2⟩ := low_eq h
        simp only [toList]; rw [e1, e2]
theorem toList_link (k : List UInt8) (v : Int) : ∀ (n : Nat) (l r : Tr), l.size + r.size = n → (link k v l r).toList = l.toList ++ (k, v) :: r.toList := by
  intro n
  induction n using Nat.strongRecOn with
  | _ n ih =>
    intro l r hn
    by_cases h1 : r.ht + 1 < l.ht
    · obtain ⟨kl, vl, ll, lr, rfl⟩ := Tr.of_ht (t := l) (by omega)
      have hz : (Tr.node kl vl ll lr).size = ll.size + lr.size + 1 := rfl
      rw [link_l h1, toList_bal]
      simp only [toList]
      rw [ih (lr.size + r.size) (by omega) lr r rfl]; simp
    · by_cases h2 : l.ht + 1 < r.ht
      · obtain ⟨kr, vr, rl, rr, rfl⟩ := Tr.of_ht (t := r) (by omega)
        have hz : (Tr.node kr vr rl rr).size = rl.size + rr.size + 1 := rfl
        rw [link_r h1 h2, toList_bal]
        simp only [toList]
        rw [ih (l.size + rl.size) (by omega) l rl rfl]; simp
      · rw [link_m h1 h2]; rfl
theorem toList_lnk (k : List UInt8) (v : Int) (l r : Tr) : (link k v l r).toList = l.toList ++ (k, v) :: r.toList := toList_link k v _ l r rfl
theorem toList_last : ∀ (t : Tr) (k : List UInt8) (v : Int) (a b : Tr), t.last.1 = .node k v a b → t.toList = t.last.2.toList ++ [(k, v)]
  | .nil, _, _, _, _, h => by simp [last] at h
  | .node k' v' l .nil, k, v, a, b, h => by
    simp only [last] at h ⊢
    cases h
    simp [toList]
  | .node k' v' l (.node k2 v2 l2 r2), k, v, a, b, h => by
    simp only [last] at h ⊢
    have ih := toList_last (.node k2 v2 l2 r2) k v a b h
    rw [toList_lnk, toList, ih]; simp
theorem toList_concat (l r : Tr) : (concat l r).toList = l.toList ++ r.toList := by
  unfold concat
  cases l with
  | nil => rfl
  | node k v a b =>
    obtain ⟨k', v', a', b', e⟩ := last_node (.node k v a b) (by simp only [size]; omega)
    have := toList_last _ _ _ _ _ e
    rw [e]
    simp only
    rw [toList_lnk, this]; simp
theorem toList_split (k : List UInt8) : ∀ t : Tr, Srt t.toList → (t.split k).1.toList = lower k t.toList ∧ (t.split k).2.toList = upper k t.toList
  | .nil, _ => ⟨rfl, rfl⟩
  | .node k' v' l r, h => by
    simp only [toList] at h
    obtain ⟨h1, h2, h3, h4⟩ := srt_app.1 h
    simp only [split]
    split
    · rename_i hc
      obtain ⟨e1, e2⟩ := low_lt h (cmpS_lt.1 hc)
      obtain ⟨i1, i2⟩ := toList_split k l h1
      simp only [toList, toList_lnk]; rw [e1, e2, i1, i2]; exact ⟨rfl, rfl⟩
    · split
      · rename_i hc
        obtain ⟨e1, e2⟩ := low_gt h (cmpS_gt.1 hc)
        obtain ⟨i1, i2⟩ := toList_split k r h2
        simp only [toList, toList_lnk]; rw [e1, e2, i1, i2]; exact ⟨rfl, rfl⟩
      · rename_i c1 c2
        have : k = k' := ltS_tri k k' (by simpa [cmpS_lt] using c1) (by simpa [cmpS_gt] using c2)
        subst this
        obtain ⟨e1, e2⟩ := low_eq h
        simp only [toList]; rw [e1, e2]; exact ⟨rfl, rfl⟩
theorem find_sorted (k : List UInt8) : ∀ t : Tr, Srt t.toList → (∃ v a b, t.find k = .node k v a b ∧ (k, v) ∈ t.toList ∧ t.toList = lower k t.toList ++ (k, v) :: upper k t.toList) ∨ (t.find k = .nil ∧ (∀ v, (k, v) ∉ t.toList) ∧ t.toList = lower k t.toList ++ upper k t.toList)
  | .nil, _ => .inr ⟨rfl, by simp [toList], rfl⟩
  | .node k' v' l r, h => by
    simp only [toList] at h
    obtain ⟨h1, h2, h3, h4⟩ := srt_app.1 h
    simp only [find]
    split
    · rename_i hc
      have hk := cmpS_lt.1 hc
      obtain ⟨e1, e2⟩ := low_lt h hk
      simp only [toList]; rw [e1, e2]
      rcases find_sorted k l h1 with ⟨v, a, b, f1, f2, f3⟩ | ⟨f1, f2, f3⟩
      · refine .inl ⟨v, a, b, f1, by simp [f2], ?_⟩
        conv => lhs; rw [f3]
        simp
      · refine .inr ⟨f1, fun v hv => ?_, ?_⟩
        · rcases List.mem_append.1 hv with hv | hv
          · exact f2 v hv
          · rcases List.mem_cons.1 hv with hv | hv
            · cases hv; rw [ltS_irrefl] at hk; cases hk
            · have := ltS_trans hk (h4 _ hv); rw [ltS_irrefl] at this; cases this
        · conv => lhs; rw [f3]
          simp
    · split
      · rename_i hc
        have hk := cmpS_gt.1 hc
        obtain ⟨e1, e2⟩ := low_gt h hk
        simp only [toList]; rw [e1, e2]
        rcases find_sorted k r h2 with ⟨v, a, b, f1, f2, f3⟩ | ⟨f1, f2, f3⟩
        · refine .inl ⟨v, a, b, f1, by simp [f2], ?_⟩
          conv => lhs; rw [f3]
          simp
        · refine .inr ⟨f1, fun v hv => ?_, ?_⟩
          · rcases List.mem_append.1 hv with hv | hv
            · have := ltS_trans (h3 _ hv) hk; rw [ltS_irrefl] at this; cases this
            · rcases List.mem_cons.1 hv with hv | hv
              · cases hv; rw [ltS_irrefl] at hk; cases hk
              · exact f2 v hv
          · conv => lhs; rw [f3]
            simp
      · rename_i c1 c2
        have : k = k' := ltS_tri k k' (by simpa [cmpS_lt] using c1) (by simpa [cmpS_gt] using c2)
        subst this
        obtain ⟨e1, e2⟩ := low_eq h
        simp only [toList]; rw [e1, e2]
        exact .inl ⟨v', l, r, rfl, by simp, rfl⟩
theorem rank_sorted (k : List UInt8) : ∀ t : Tr, Srt t.toList → t.rank k = (lower k t.toList).length
  | .nil, _ => rfl
  | .node k' v' l r, h => by
    simp only [toList] at h
    obtain ⟨h1, h2, h3, h4⟩ := srt_app.1 h
    simp only [rank, toList]
    split
    · rename_i hc
      rw [(low_lt h (cmpS_lt.1 hc)).1, rank_sorted k l h1]
    · split
      · rename_i hc
        rw [(low_gt h (cmpS_gt.1 hc)).1, rank_sorted k r h2]
        simp [toList_len]; omega
      · rename_i c1 c2
        have : k = k' := ltS_tri k k' (by simpa [cmpS_lt] using c1) (by simpa [cmpS_gt] using c2)
        subst this
        rw [(low_eq h).1, toList_len]
theorem at_toList : ∀ (t : Tr) (i : Nat), i < t.size → t.toList[i]? = some (t.at i)
  | .nil, i, h => by simp [size] at h
  | .node k v l r, i, h => by
    simp only [size] at h
    simp only [toList, Tr.at]
    split
    · rename_i hc
      subst hc
      rw [List.getElem?_append_right (by rw [toList_len]; omega), toList_len]; simp
    · split
      · rename_i hc
        rw [List.getElem?_append_left (by rw [toList_len]; omega)]
        exact at_toList l i (by omega)
      · rw [List.getElem?_append_right (by rw [toList_len]; omega), toList_len, show i - l.size = (i - (l.size + 1)) + 1 by omega, List.getElem?_cons_succ]
        exact at_toList r _ (by omega)
theorem toList_del (t : Tr) (k : List UInt8) (h : Srt t.toList) : (t.del k).toList = lower k t.toList ++ upper k t.toList := by
  unfold del
  rcases find_sorted k t h with ⟨v, a, b, f1, f2, f3⟩ | ⟨f1, f2, f3⟩
  · rw [f1]
    simp only
    rw [toList_concat, (toList_split k t h).1, (toList_split k t h).2]
  · rw [f1]; exact f3
end Tr
end Go.Proofs.Ytfgffpkdjmeaoaa
end

section
namespace Go.Proofs.Ytfgffpkdjmeaoaa
open Go Go.AL
/-! Balance: heights of a tree and of what is made of it -/
namespace Tr
def Bal : Tr → Prop
  | nil => True
  | node _ _ l r => Bal l ∧ Bal r ∧ ht l ≤ ht r + 1 ∧ ht r ≤ ht l + 1
theorem bal_ok (k : List UInt8) (v : Int) (l r : Tr) (hl : Bal l) (hr : Bal r) (h1 : ht l ≤ ht r + 2) (h2 : ht r ≤ ht l + 2) :
    Bal (bal (node k v l r)) ∧ max (ht l) (ht r) ≤ ht (bal (node k v l r)) ∧ ht (bal (node k v l r)) ≤ max (ht l) (ht r) + 1 ∧ (ht l ≤ ht r + 1 → ht r ≤ ht l + 1 → ht (bal (node k v l r)) = max (ht l) (ht r) + 1) := by
  by_cases hc : ht r + 1 < ht l
  · obtain ⟨kl, vl, ll, lr, rfl⟩ := Tr.of_ht (t := l) (by omega)
    have hz : ht (node kl vl ll lr) = max (ht ll) (ht lr) + 1 := rfl
    obtain ⟨b1, b2, b3, b4⟩ := hl
    by_cases hd : ht ll < ht lr
    · obtain ⟨km, vm, ml, mr, rfl⟩ := Tr.of_ht (t := lr) (by omega)
      have e : bal (node k v (node kl vl ll (node km vm ml mr)) r) = node km vm (node kl vl ll ml) (node k v mr r) := by
        rw [bal, if_pos hc, if_pos (show (node kl vl ll (node km vm ml mr)).left.ht < (node kl vl ll (node km vm ml mr)).right.ht from hd)]; rfl
      rw [e]
      obtain ⟨c1, c2, c3, c4⟩ := b2
      simp only [Bal, ht] at *
      exact ⟨⟨⟨b1, c1, by omega, by omega⟩, ⟨c2, hr, by omega, by omega⟩, by omega, by omega⟩, by omega, by omega, fun _ _ => by omega⟩
    · have e : bal (node k v (node kl vl ll lr) r) = node kl vl ll (node k v lr r) := by
        rw [bal, if_pos hc, if_neg (show ¬ (node kl vl ll lr).left.ht < (node kl vl ll lr).right.ht from hd)]; rfl
      rw [e]
      simp only [Bal, ht] at *
      exact ⟨⟨b1, ⟨b2, hr, by omega, by omega⟩, by omega, by omega⟩, by omega, by omega, fun _ _ => by omega⟩
  · by_cases hc2 : ht l + 1 < ht r
    · obtain ⟨kr, vr, rl, rr, rfl⟩ := Tr.of_ht (t := r) (by omega)
      have hz : ht (node kr vr rl rr) = max (ht rl) (ht rr) + 1 := rfl
      obtain ⟨b1, b2, b3, b4⟩ := hr
      by_cases hd : ht rr < ht rl
      · obtain ⟨km, vm, ml, mr, rfl⟩ := Tr.of_ht (t := rl) (by omega)
        have e : bal (node k v l (node kr vr (node km vm ml mr) rr)) = node km vm (node k v l ml) (node kr vr mr rr) := by
          rw [bal, if_neg hc, if_pos hc2, if_pos (show (node kr vr (node km vm ml mr) rr).right.ht < (node kr vr (node km vm ml mr) rr).left.ht from hd)]; rfl
        rw [e]
        obtain ⟨c1, c2, c3, c4⟩ := b1
        simp only [Bal, ht] at *
        exact ⟨⟨⟨hl, c1, by omega, by omega⟩, ⟨c2, b2, by omega, by omega⟩, by omega, by omega⟩, by omega, by omega, fun _ _ => by omega⟩
      · have e : bal (node k v l (node kr vr rl rr)) = node kr vr (node k v l rl) rr := by
          rw [bal, if_neg hc, if_pos hc2, if_neg (show ¬ (node kr vr rl rr).right.ht < (node kr vr rl rr).left.ht from hd)]; rfl
        rw [e]
        simp only [Bal, ht] at *
        exact ⟨⟨⟨hl, b1, by omega, by omega⟩, b2, by omega, by omega⟩, by omega, by omega, fun _ _ => by omega⟩
    · have e0 : bal (node k v l r) = node k v l r := by rw [bal, if_neg hc, if_neg hc2]
      rw [e0]
      have e : ht (node k v l r) = max (ht l) (ht r) + 1 := rfl
      rw [e]
      exact ⟨⟨hl, hr, by omega, by omega⟩, by omega, by omega, fun _ _ => rfl⟩
theorem put_ok (k : List UInt8) (v : Int) : ∀ t : Tr, Bal t → Bal (put k v t) ∧ ht t ≤ ht (put k v t) ∧ ht (put k v t) ≤ ht t + 1
  | .nil, _ => by simp [put, Bal, ht]
  | .node k' v' l r, h => by
    simp only [Bal] at h
    obtain ⟨h1, h2, h3, h4⟩ := h
    obtain ⟨l1, l2, l3⟩ := put_ok k v l h1
    obtain ⟨r1, r2, r3⟩ := put_ok k v r h2
    simp only [put]
    split
    · obtain ⟨a1, a2, a3, a4⟩ := bal_ok k' v' (put k v l) r l1 h2 (by omega) (by omega)
      refine ⟨a1, ?_, ?_⟩
      · simp only [ht]
        by_cases hc : ht (put k v l) ≤ ht r + 1
        · have := a4 hc (by omega); omega
        · omega
      · simp only [ht]; omega
    · split
      · obtain ⟨a1, a2, a3, a4⟩ := bal_ok k' v' l (put k v r) h1 r1 (by omega) (by omega)
        refine ⟨a1, ?_, ?_⟩
        · simp only [ht]
          by_cases hc : ht (put k v r) ≤ ht l + 1
          · have := a4 (by omega) hc; omega
          · omega
        · simp only [ht]; omega
      · simp only [Bal, ht]; exact ⟨⟨h1, h2, h3, h4⟩, Nat.le_refl _, Nat.le_succ _⟩
theorem link_ok (k : List UInt8) (v : Int) : ∀ (n : Nat) (l r : Tr), l.size + r.size = n → Bal l → Bal r → Bal (link k v l r) ∧ max (ht l) (ht r) ≤ ht (link k v l r) ∧ ht (link k v l r) ≤ max (ht l) (ht r) + 1 := by
  intro n
  induction n using Nat.strongRecOn with
  | _ n ih =>
    intro l r hn bl br
    by_cases h1 : r.ht + 1 < l.ht
    · obtain ⟨kl, vl, ll, lr, rfl⟩ := Tr.of_ht (t := l) (by omega)
      have hz : (Tr.node kl vl ll lr).size = ll.size + lr.size + 1 := rfl
      simp only [Bal, ht] at bl h1 ⊢
      obtain ⟨b1, b2, b3, b4⟩ := bl
      obtain ⟨i1, i2, i3⟩ := ih (lr.size + r.size) (by omega) lr r rfl b2 br
      rw [link_l (by simp only [ht]; omega)]
      obtain ⟨a1, a2, a3, a4⟩ := bal_ok kl vl ll (link k v lr r) b1 i1 (by omega) (by omega)
      refine ⟨a1, ?_, ?_⟩
      · by_cases hc : ht (link k v lr r) ≤ ht ll + 1
        · have := a4 (by omega) hc; omega
        · omega
      · omega
    · by_cases h2 : l.ht + 1 < r.ht
      · obtain ⟨kr, vr, rl, rr, rfl⟩ := Tr.of_ht (t := r) (by omega)
        have hz : (Tr.node kr vr rl rr).size = rl.size + rr.size + 1 := rfl
        simp only [Bal, ht] at br h1 h2 ⊢
        obtain ⟨b1, b2, b3, b4⟩ := br
        obtain ⟨i1, i2, i3⟩ := ih (l.size + rl.size) (by omega) l rl rfl bl b1
        rw [link_r (by simp only [ht]; omega) (by simp only [ht]; omega)]
        obtain ⟨a1, a2, a3, a4⟩ := bal_ok kr vr (link k v l rl) rr i1 b2 (by omega) (by omega)
        refine ⟨a1, ?_, ?_⟩
        · by_cases hc : ht (link k v l rl) ≤ ht rr + 1
          · have := a4 hc (by omega); omega
          · omega
        · omega
      · rw [link_m h1 h2]
        simp only [Bal, ht]
        refine ⟨⟨bl, br, ?_, ?_⟩, ?_, ?_⟩ <;> omega
theorem lnk_ok (k : List UInt8) (v : Int) (l r : Tr) (hl : Bal l) (hr : Bal r) : Bal (link k v l r) := (link_ok k v _ l r rfl hl hr).1
theorem last_ok : ∀ (t : Tr), Bal t → Bal t.last.2
  | .nil, _ => trivial
  | .node k' v' l .nil, h => h.1
  | .node k' v' l (.node k2 v2 l2 r2), h => by
    simp only [last]
    exact lnk_ok _ _ _ _ h.1 (last_ok (.node k2 v2 l2 r2) h.2.1)
theorem concat_ok (l r : Tr) (hl : Bal l) (hr : Bal r) : Bal (concat l r) := by
  unfold concat
  split
  · exact hr
  · exact lnk_ok _ _ _ _ (last_ok l hl) hr
theorem split_ok (k : List UInt8) : ∀ t : Tr, Bal t → Bal (t.split k).1 ∧ Bal (t.split k).2
  | .nil, _ => ⟨trivial, trivial⟩
  | .node k' v' l r, h => by
    obtain ⟨h1, h2, h3, h4⟩ := h
    have il := split_ok k l h1
    have ir := split_ok k r h2
    simp only [split]
    split
    · exact ⟨il.1, lnk_ok _ _ _ _ il.2 h2⟩
    · split
      · exact ⟨lnk_ok _ _ _ _ h1 ir.1, ir.2⟩
      · exact ⟨h1, h2⟩
theorem del_ok (k : List UInt8) (t : Tr) (h : Bal t) : Bal (t.del k) := by
  unfold del
  split
  · exact h
  · exact concat_ok _ _ (split_ok k t h).1 (split_ok k t h).2
theorem sq_aux {a b c h : Nat} (ha : 2 ^ (h + 1) ≤ a * a) (hb : 2 ^ h ≤ b * b) (hc : a + b ≤ c) : 2 ^ (h + 2) ≤ c * c := by
  have hab : 2 ^ h ≤ a * b := by
    rcases Nat.le_total a b with hle | hle
    · have h1 : a * a ≤ a * b := Nat.mul_le_mul_left a hle
      have h2 : 2 ^ h ≤ 2 ^ (h + 1) := Nat.pow_le_pow_right (by omega) (by omega)
      omega
    · have h1 : b * b ≤ a * b := Nat.mul_le_mul_right b hle
      omega
  have h3 : (a + b) * (a + b) ≤ c * c := Nat.mul_le_mul hc hc
  have h4 : (a + b) * (a + b) = a * a + (a * b + a * b) + b * b := by
    rw [Nat.add_mul, Nat.mul_add, Nat.mul_add, Nat.mul_comm b a]; omega
  have h5 : 2 ^ (h + 2) = 2 ^ (h + 1) + 2 ^ (h + 1) := by rw [Nat.pow_succ 2 (h + 1)]; omega
  have h6 : 2 ^ (h + 1) = 2 ^ h + 2 ^ h := by rw [Nat.pow_succ]; omega
  omega
theorem size_pow : ∀ (n : Nat) (t : Tr), t.size = n → Bal t → 2 ^ t.ht ≤ (t.size + 1) * (t.size + 1) := by
  intro n
  induction n using Nat.strongRecOn with
  | _ n ih =>
    intro t hn hb
    cases t with
    | nil => simp [ht, size]
    | node k v l r =>
      simp only [Bal] at hb
      obtain ⟨h1, h2, h3, h4⟩ := hb
      simp only [size] at hn ⊢
      simp only [ht]
      have il := ih l.size (by omega) l rfl h1
      have ir := ih r.size (by omega) r rfl h2
      rcases Nat.lt_trichotomy l.ht r.ht with hc | hc | hc
      · have e : r.ht = l.ht + 1 := by omega
        rw [e] at ir
        rw [Nat.max_eq_right (by omega), e]
        exact sq_aux ir il (by omega)
      · rw [hc] at il
        rw [hc, Nat.max_self]
        have h5 : 2 ^ (r.ht + 1) = 2 ^ r.ht + 2 ^ r.ht := by rw [Nat.pow_succ]; omega
        have h6 : (l.size + r.size + 1 + 1) * (l.size + r.size + 1 + 1) = (l.size + 1) * (l.size + 1) + ((l.size + 1) * (r.size + 1) + (l.size + 1) * (r.size + 1)) + (r.size + 1) * (r.size + 1) := by
          rw [show l.size + r.size + 1 + 1 = (l.size + 1) + (r.size + 1) by omega, Nat.add_mul (l.size + 1) (r.size + 1), Nat.mul_add (l.size + 1) (l.size + 1) (r.size + 1), Nat.mul_add (r.size + 1) (l.size + 1) (r.size + 1), Nat.mul_comm (r.size + 1) (l.size + 1)]; omega
        have h7 : 2 ^ r.ht ≤ (l.size + 1) * (r.size + 1) := by
          rcases Nat.le_total l.size r.size with hle | hle
          · exact Nat.le_trans il (Nat.mul_le_mul_left _ (by omega))
          · exact Nat.le_trans ir (Nat.mul_le_mul_right _ (by omega))
        omega
      · have e : l.ht = r.ht + 1 := by omega
        rw [e] at il
        rw [Nat.max_eq_left (by omega), e]
        exact sq_aux il ir (by omega)
end Tr
end Go.Proofs.Ytfgffpkdjmeaoaa
end

section
namespace Go.Proofs.Ytfgffpkdjmeaoaa
open Go Go.AL Go.RowKit
set_option maxRecDepth 10000
set_option maxHeartbeats 4000000
structure OpM where
  kind : Nat
  tree : Nat
  other : Nat
  key : List UInt8
  val : Int
abbrev opR (o : OpM) : List IV := [.v (.int .u8 o.kind), .v (.int .u8 o.tree), .v (.int .u8 o.other), Si o.key, Ii o.val]
abbrev opA (o : OpM) : AV := .agg [.im (.v (.int .u8 o.kind)), .im (.v (.int .u8 o.tree)), .im (.v (.int .u8 o.other)), Sv o.key, Iv o.val]
def opsR (l : List OpM) : List (List IV) := l.map opR
theorem opsR_len (l : List OpM) : (opsR l).length = l.length := by simp [opsR]
def opD : OpM := ⟨0, 0, 0, [], 0⟩
theorem opsR_get (l : List OpM) (k : Nat) (h : k < l.length) : (opsR l).getD k [] = opR (l.getD k opD) := by
  simp [opsR, List.getD_eq_getElem?_getD, h]
def bigO (o : OpM) : Bool := decide (20 < (o.key.length : Int))
def idxF (l : List OpM) (k : Nat) : Int := if k < l.length then (if bigO (l.getD k opD) then k else idxF l (k + 1)) else -1
termination_by l.length - k
theorem idxF_lt (l : List OpM) (k : Nat) (h : k < l.length) : idxF l k = if bigO (l.getD k opD) then (k : Int) else idxF l (k + 1) := by rw [idxF, if_pos h]
theorem idxF_end (l : List OpM) (k : Nat) (h : ¬ k < l.length) : idxF l k = -1 := by rw [idxF, if_neg h]
theorem idxF_any (l : List OpM) : ∀ (n k : Nat), l.length - k = n → decide (0 ≤ idxF l k) = (l.drop k).any bigO := by
  intro n
  induction n with
  | zero =>
    intro k hn
    rw [idxF, if_neg (by omega), List.drop_eq_nil_of_le (by omega)]; rfl
  | succ n ih =>
    intro k hn
    have hk : k < l.length := by omega
    rw [idxF, if_pos hk, List.drop_eq_getElem_cons hk, List.any_cons, ← ih (k + 1) (by omega)]
    have e : l.getD k opD = l[k] := by simp [List.getD_eq_getElem?_getD, hk]
    rw [e]
    cases bigO l[k] <;> simp
theorem big_spec (o : OpM) : PFn Try.prog 66 [opA o] (Bv (bigO o)) := by
  refine ACall.walk [0, 1, 2] [] Try.func66 rfl Try.ntmps66 (by kernel_rfl) (by rfl) rfl fun W own I0 φ0 => ?_
  repeat (first | refine xPP rfl ?_ | refine xPE rfl ?_ | refine xEP rfl ?_ | refine xEE rfl ?_ | refine AQ.done ?_ | refine AQ.skip (by kernel_rfl) rfl ?_ | refine AQ.s2b (by kernel_rfl) rfl rfl rfl rfl ?_ | refine AQ.mark (by kernel_rfl) rfl rfl rfl rfl rfl rfl rfl ?_ | refine AP.cond_true rfl rfl ?_ | refine AP.cond_false rfl rfl ?_ | (refine AP.region rfl (by kernel_rfl) ?_; simp only [go_sem, Nat.reduceAdd, Nat.reduceLeDiff, reduceCtorEq, BA_size]) | (refine AP.drawQ rfl rfl (by kernel_rfl) ?_; simp only [go_sem, Nat.reduceAdd, Nat.reduceLeDiff, reduceCtorEq, BA_size]) | (refine vq_id ?_; simp only [go_sem, Nat.reduceAdd, Nat.reduceLeDiff, reduceCtorEq, BA_size]) | (refine ⟨by first | omega | (intros; simp_all; done) | (intros; simp_all; omega), ?_⟩; try simp only [go_sem, Nat.reduceAdd, Nat.reduceLeDiff, reduceCtorEq, BA_size]))
  exact AE.ret0 rfl ⟨rfl, trivial⟩ rfl ⟨rfl, rfl⟩
theorem index_spec (l : List OpM) (hl : l.length ≤ 9223372036854775807) : PFn Try.prog 84 [.im (.sl 5 (opsR l)), .fn 66 [] []] (Iv (idxF l 0)) := by
  refine ACall.walk [0, 1, 4, 5, 7, 8, 9, 16] [] Try.func84 rfl Try.ntmps84 (by kernel_rfl) (by rfl) rfl fun W own I0 φ0 => ?_
  repeat (first | refine xPP rfl ?_ | refine xPE rfl ?_ | refine xEP rfl ?_ | refine xEE rfl ?_ | refine AQ.done ?_ | refine AQ.skip (by kernel_rfl) rfl ?_ | refine AQ.s2b (by kernel_rfl) rfl rfl rfl rfl ?_ | refine AQ.mark (by kernel_rfl) rfl rfl rfl rfl rfl rfl rfl ?_ | refine AP.cond_true rfl rfl ?_ | refine AP.cond_false rfl rfl ?_ | (refine AP.region rfl (by kernel_rfl) ?_; simp only [go_sem, Nat.reduceAdd, Nat.reduceLeDiff, reduceCtorEq]) | (refine AP.drawQ rfl rfl (by kernel_rfl) ?_; simp only [go_sem, Nat.reduceAdd, Nat.reduceLeDiff, reduceCtorEq]) | (refine vq_id ?_; simp only [go_sem, Nat.reduceAdd, Nat.reduceLeDiff, reduceCtorEq]) | (refine ⟨by first | omega | (intros; simp_all; done) | (intros; simp_all; omega), ?_⟩; try simp only [go_sem, Nat.reduceAdd, Nat.reduceLeDiff, reduceCtorEq]))
  refine AP.loop rfl (α := Nat) (fun k => [(0, .im (.sl 5 (opsR l))), (1, .fn 66 [] []), (7, Iv (opsR l).length), (8, Iv k)]) (fun _ => []) (fun k => k ≤ l.length ∧ idxF l 0 = idxF l k) (fun k => l.length - k) 0 ⟨by omega, rfl⟩ (by repeat (first | exact Sub.nil _ | refine Sub.cons rfl ?_)) rfl fun k ⟨hk, hi⟩ => ?_
  repeat (first | refine xPP rfl ?_ | refine xPE rfl ?_ | refine xEP rfl ?_ | refine xEE rfl ?_ | refine AQ.done ?_ | refine AQ.skip (by kernel_rfl) rfl ?_ | refine AQ.s2b (by kernel_rfl) rfl rfl rfl rfl ?_ | refine AQ.mark (by kernel_rfl) rfl rfl rfl rfl rfl rfl rfl ?_ | refine AP.cond_true rfl rfl ?_ | refine AP.cond_false rfl rfl ?_ | (refine AP.region rfl (by kernel_rfl) ?_; simp only [go_sem, Nat.reduceAdd, Nat.reduceLeDiff, reduceCtorEq, opsR_len]) | (refine AP.drawQ rfl rfl (by kernel_rfl) ?_; simp only [go_sem, Nat.reduceAdd, Nat.reduceLeDiff, reduceCtorEq, opsR_len]) | (refine vq_id ?_; simp only [go_sem, Nat.reduceAdd, Nat.reduceLeDiff, reduceCtorEq, opsR_len]) | (refine ⟨by first | omega | (intros; simp_all; done) | (intros; simp_all; omega), ?_⟩; try simp only [go_sem, Nat.reduceAdd, Nat.reduceLeDiff, reduceCtorEq, opsR_len]))
  refine AP.cond rfl rfl (fun hc => ?_) (fun hc => ?_)
  · have hk' : k < l.length := by simp at hc; omega
    have hw := wr (x := (k : Int) + 1) (by omega)
    rw [idxF_lt l k hk'] at hi
    have hg := opsR_get l k hk'
    repeat (first | refine xPP rfl ?_ | refine xPE rfl ?_ | refine xEP rfl ?_ | refine xEE rfl ?_ | refine AQ.done ?_ | refine AQ.skip (by kernel_rfl) rfl ?_ | refine AQ.s2b (by kernel_rfl) rfl rfl rfl rfl ?_ | refine AQ.mark (by kernel_rfl) rfl rfl rfl rfl rfl rfl rfl ?_ | refine AP.cond_true rfl rfl ?_ | refine AP.cond_false rfl rfl ?_ | (refine AP.region rfl (by kernel_rfl) ?_; simp only [go_sem, Nat.reduceAdd, Nat.reduceLeDiff, reduceCtorEq, hg, opsR_len]) | (refine AP.drawQ rfl rfl (by kernel_rfl) ?_; simp only [go_sem, Nat.reduceAdd, Nat.reduceLeDiff, reduceCtorEq, hg, opsR_len]) | (refine vq_id ?_; simp only [go_sem, Nat.reduceAdd, Nat.reduceLeDiff, reduceCtorEq, hg, opsR_len]) | (refine ⟨by first | omega | (intros; simp_all; done) | (intros; simp_all; omega), ?_⟩; try simp only [go_sem, Nat.reduceAdd, Nat.reduceLeDiff, reduceCtorEq, hg, opsR_len]))
    refine AQ.callI (by kernel_rfl) rfl rfl rfl (big_spec (l.getD k opD)) ?_
    repeat (first | refine xPP rfl ?_ | refine xPE rfl ?_ | refine xEP rfl ?_ | refine xEE rfl ?_ | refine AQ.done ?_ | refine AQ.skip (by kernel_rfl) rfl ?_ | refine AQ.s2b (by kernel_rfl) rfl rfl rfl rfl ?_ | refine AQ.mark (by kernel_rfl) rfl rfl rfl rfl rfl rfl rfl ?_ | refine AP.cond_true rfl rfl ?_ | refine AP.cond_false rfl rfl ?_ | (refine AP.region rfl (by kernel_rfl) ?_; simp only [go_sem, Nat.reduceAdd, Nat.reduceLeDiff, reduceCtorEq]) | (refine AP.drawQ rfl rfl (by kernel_rfl) ?_; simp only [go_sem, Nat.reduceAdd, Nat.reduceLeDiff, reduceCtorEq]) | (refine vq_id ?_; simp only [go_sem, Nat.reduceAdd, Nat.reduceLeDiff, reduceCtorEq]) | (refine ⟨by first | omega | (intros; simp_all; done) | (intros; simp_all; omega), ?_⟩; try simp only [go_sem, Nat.reduceAdd, Nat.reduceLeDiff, reduceCtorEq]))
    refine AP.cond rfl rfl (fun hb => ?_) (fun hb => ?_)
    · rw [if_pos hb] at hi
      repeat (first | refine xPP rfl ?_ | refine xPE rfl ?_ | refine xEP rfl ?_ | refine xEE rfl ?_ | refine AQ.done ?_ | refine AQ.skip (by kernel_rfl) rfl ?_ | refine AQ.s2b (by kernel_rfl) rfl rfl rfl rfl ?_ | refine AQ.mark (by kernel_rfl) rfl rfl rfl rfl rfl rfl rfl ?_ | refine AP.cond_true rfl rfl ?_ | refine AP.cond_false rfl rfl ?_ | (refine AP.region rfl (by kernel_rfl) ?_; simp only [go_sem, Nat.reduceAdd, Nat.reduceLeDiff, reduceCtorEq]) | (refine AP.drawQ rfl rfl (by kernel_rfl) ?_; simp only [go_sem, Nat.reduceAdd, Nat.reduceLeDiff, reduceCtorEq]) | (refine vq_id ?_; simp only [go_sem, Nat.reduceAdd, Nat.reduceLeDiff, reduceCtorEq]) | (refine ⟨by first | omega | (intros; simp_all; done) | (intros; simp_all; omega), ?_⟩; try simp only [go_sem, Nat.reduceAdd, Nat.reduceLeDiff, reduceCtorEq]))
      exact AE.ret rfl ⟨rfl, trivial⟩ ⟨rfl, by rw [hi]; rfl⟩
    · rw [if_neg (by rw [hb]; exact Bool.false_ne_true)] at hi
      repeat (first | refine xPP rfl ?_ | refine xPE rfl ?_ | refine xEP rfl ?_ | refine xEE rfl ?_ | refine AQ.done ?_ | refine AQ.skip (by kernel_rfl) rfl ?_ | refine AQ.s2b (by kernel_rfl) rfl rfl rfl rfl ?_ | refine AQ.mark (by kernel_rfl) rfl rfl rfl rfl rfl rfl rfl ?_ | refine AP.cond_true rfl rfl ?_ | refine AP.cond_false rfl rfl ?_ | (refine AP.region rfl (by kernel_rfl) ?_; simp only [go_sem, Nat.reduceAdd, Nat.reduceLeDiff, reduceCtorEq, hw]) | (refine AP.drawQ rfl rfl (by kernel_rfl) ?_; simp only [go_sem, Nat.reduceAdd, Nat.reduceLeDiff, reduceCtorEq, hw]) | (refine vq_id ?_; simp only [go_sem, Nat.reduceAdd, Nat.reduceLeDiff, reduceCtorEq, hw]) | (refine ⟨by first | omega | (intros; simp_all; done) | (intros; simp_all; omega), ?_⟩; try simp only [go_sem, Nat.reduceAdd, Nat.reduceLeDiff, reduceCtorEq, hw]))
      exact AE.round (k + 1) ⟨by omega, hi⟩ (by omega) (by repeat (first | exact Sub.nil _ | refine Sub.cons rfl ?_)) rfl
  · rw [idxF_end l k (by simp at hc; omega)] at hi
    repeat (first | refine xPP rfl ?_ | refine xPE rfl ?_ | refine xEP rfl ?_ | refine xEE rfl ?_ | refine AQ.done ?_ | refine AQ.skip (by kernel_rfl) rfl ?_ | refine AQ.s2b (by kernel_rfl) rfl rfl rfl rfl ?_ | refine AQ.mark (by kernel_rfl) rfl rfl rfl rfl rfl rfl rfl ?_ | refine AP.cond_true rfl rfl ?_ | refine AP.cond_false rfl rfl ?_ | (refine AP.region rfl (by kernel_rfl) ?_; simp only [go_sem, Nat.reduceAdd, Nat.reduceLeDiff, reduceCtorEq]) | (refine AP.drawQ rfl rfl (by kernel_rfl) ?_; simp only [go_sem, Nat.reduceAdd, Nat.reduceLeDiff, reduceCtorEq]) | (refine vq_id ?_; simp only [go_sem, Nat.reduceAdd, Nat.reduceLeDiff, reduceCtorEq]) | (refine ⟨by first | omega | (intros; simp_all; done) | (intros; simp_all; omega), ?_⟩; try simp only [go_sem, Nat.reduceAdd, Nat.reduceLeDiff, reduceCtorEq]))
    exact AE.ret rfl ⟨rfl, trivial⟩ ⟨rfl, by rw [hi]; rfl⟩
theorem contains_spec (l : List OpM) (hl : l.length ≤ 9223372036854775807) : PFn Try.prog 65 [.im (.sl 5 (opsR l)), .fn 66 [] []] (Bv (l.any bigO)) := by
  refine ACall.walk [0, 1, 4] [] Try.func65 rfl Try.ntmps65 (by kernel_rfl) (by rfl) rfl fun W own I0 φ0 => ?_
  repeat (first | refine xPP rfl ?_ | refine xPE rfl ?_ | refine xEP rfl ?_ | refine xEE rfl ?_ | refine AQ.done ?_ | refine AQ.skip (by kernel_rfl) rfl ?_ | refine AQ.s2b (by kernel_rfl) rfl rfl rfl rfl ?_ | refine AQ.mark (by kernel_rfl) rfl rfl rfl rfl rfl rfl rfl ?_ | refine AP.cond_true rfl rfl ?_ | refine AP.cond_false rfl rfl ?_ | (refine AP.region rfl (by kernel_rfl) ?_; simp only [go_sem, Nat.reduceAdd, Nat.reduceLeDiff, reduceCtorEq]) | (refine AP.drawQ rfl rfl (by kernel_rfl) ?_; simp only [go_sem, Nat.reduceAdd, Nat.reduceLeDiff, reduceCtorEq]) | (refine vq_id ?_; simp only [go_sem, Nat.reduceAdd, Nat.reduceLeDiff, reduceCtorEq]) | (refine ⟨by first | omega | (intros; simp_all; done) | (intros; simp_all; omega), ?_⟩; try simp only [go_sem, Nat.reduceAdd, Nat.reduceLeDiff, reduceCtorEq]))
  refine AQ.fn (by kernel_rfl) rfl rfl rfl (index_spec l hl) rfl ?_
  repeat (first | refine xPP rfl ?_ | refine xPE rfl ?_ | refine xEP rfl ?_ | refine xEE rfl ?_ | refine AQ.done ?_ | refine AQ.skip (by kernel_rfl) rfl ?_ | refine AQ.s2b (by kernel_rfl) rfl rfl rfl rfl ?_ | refine AQ.mark (by kernel_rfl) rfl rfl rfl rfl rfl rfl rfl ?_ | refine AP.cond_true rfl rfl ?_ | refine AP.cond_false rfl rfl ?_ | (refine AP.region rfl (by kernel_rfl) ?_; simp only [go_sem, Nat.reduceAdd, Nat.reduceLeDiff, reduceCtorEq]) | (refine AP.drawQ rfl rfl (by kernel_rfl) ?_; simp only [go_sem, Nat.reduceAdd, Nat.reduceLeDiff, reduceCtorEq]) | (refine vq_id ?_; simp only [go_sem, Nat.reduceAdd, Nat.reduceLeDiff, reduceCtorEq]) | (refine ⟨by first | omega | (intros; simp_all; done) | (intros; simp_all; omega), ?_⟩; try simp only [go_sem, Nat.reduceAdd, Nat.reduceLeDiff, reduceCtorEq]))
  refine AE.ret rfl ⟨rfl, trivial⟩ ⟨rfl, ?_⟩
  have := idxF_any l _ 0 rfl
  rw [List.drop_zero] at this
  rw [← this]; rfl
def fewB (l : List OpM) : Bool := decide (l.length ≤ 120) && !l.any bigO
theorem few_spec (l : List OpM) (hl : l.length ≤ 9223372036854775807) : PFn Try.prog 38 [.im (.sl 5 (opsR l))] (Bv (fewB l)) := by
  refine ACall.walk [0, 2] [] Try.func38 rfl Try.ntmps38 (by kernel_rfl) (by rfl) rfl fun W own I0 φ0 => ?_
  repeat (first | refine xPP rfl ?_ | refine xPE rfl ?_ | refine xEP rfl ?_ | refine xEE rfl ?_ | refine AQ.done ?_ | refine AQ.skip (by kernel_rfl) rfl ?_ | refine AQ.s2b (by kernel_rfl) rfl rfl rfl rfl ?_ | refine AQ.mark (by kernel_rfl) rfl rfl rfl rfl rfl rfl rfl ?_ | refine AP.cond_true rfl rfl ?_ | refine AP.cond_false rfl rfl ?_ | (refine AP.region rfl (by kernel_rfl) ?_; simp only [go_sem, Nat.reduceAdd, Nat.reduceLeDiff, reduceCtorEq, opsR_len]) | (refine AP.drawQ rfl rfl (by kernel_rfl) ?_; simp only [go_sem, Nat.reduceAdd, Nat.reduceLeDiff, reduceCtorEq, opsR_len]) | (refine vq_id ?_; simp only [go_sem, Nat.reduceAdd, Nat.reduceLeDiff, reduceCtorEq, opsR_len]) | (refine ⟨by first | omega | (intros; simp_all; done) | (intros; simp_all; omega), ?_⟩; try simp only [go_sem, Nat.reduceAdd, Nat.reduceLeDiff, reduceCtorEq, opsR_len]))
  refine AQ.fn_g (by kernel_rfl) rfl rfl (fun h => by first | (simp [gs, AV.g]; done) | (simp [gs, AV.g, constAV]; done) | (simp [gs, AV.g, constAV, bw] at h ⊢; done) | (simp [bw] at h; done) | (simp [gs, AV.g, bw] at h ⊢; simp [h]; done) | (simp [gs, AV.g, bw] at h ⊢; exact h.1) | (simp [gs, AV.g]; rfl) | (simp [gs, AV.g, bw] at h ⊢; rfl) | (simp [gs, AV.g, bw] at h ⊢; simp [h]; rfl) | (simp [gs, AV.g, bw] at h ⊢; simp_all)) rfl (fun _ => contains_spec l (hl)) rfl ?_
  simp only [go_sem, Nat.reduceAdd, Nat.reduceLeDiff, reduceCtorEq]
  repeat (first | refine xPP rfl ?_ | refine xPE rfl ?_ | refine xEP rfl ?_ | refine xEE rfl ?_ | refine AQ.done ?_ | refine AQ.skip (by kernel_rfl) rfl ?_ | refine AQ.s2b (by kernel_rfl) rfl rfl rfl rfl ?_ | refine AQ.mark (by kernel_rfl) rfl rfl rfl rfl rfl rfl rfl ?_ | refine AP.cond_true rfl rfl ?_ | refine AP.cond_false rfl rfl ?_ | (refine AP.region rfl (by kernel_rfl) ?_; simp only [go_sem, Nat.reduceAdd, Nat.reduceLeDiff, reduceCtorEq]) | (refine AP.drawQ rfl rfl (by kernel_rfl) ?_; simp only [go_sem, Nat.reduceAdd, Nat.reduceLeDiff, reduceCtorEq]) | (refine vq_id ?_; simp only [go_sem, Nat.reduceAdd, Nat.reduceLeDiff, reduceCtorEq]) | (refine ⟨by first | omega | (intros; simp_all; done) | (intros; simp_all; omega), ?_⟩; try simp only [go_sem, Nat.reduceAdd, Nat.reduceLeDiff, reduceCtorEq]))
  refine AE.ret rfl ⟨rfl, trivial⟩ ⟨rfl, ?_⟩
  simp only [tupOf, AV.st, fewB]
  congr 4
  exact decide_eq_decide.2 (by omega)
end Go.Proofs.Ytfgffpkdjmeaoaa
end

section
namespace Go.Proofs.Ytfgffpkdjmeaoaa
open Go Go.AL Go.RowKit
set_option maxRecDepth 10000
set_option maxHeartbeats 4000000
def trR (l : List Tr) : List (List IV) := l.map fun t => [t.iv]
theorem trR_len (l : List Tr) : (trR l).length = l.length := by simp [trR]
theorem trR_get (l : List Tr) (k : Nat) (h : k < l.length) : (trR l).getD k [] = [(l.getD k .nil).iv] := by
  simp [trR, List.getD_eq_getElem?_getD, h]
def stepT (l : List Tr) (o : OpM) : Tr :=
  let t := l.getD (o.tree % l.length) .nil
  let u := l.getD (o.other % l.length) .nil
  if o.kind % 8 = 0 ∨ o.kind % 8 = 1 ∨ o.kind % 8 = 2 then t.put o.key o.val
  else if o.kind % 8 = 3 then t.del o.key
  else if o.kind % 8 = 4 then (t.split o.key).1
  else if o.kind % 8 = 5 then (t.split o.key).2
  else if o.kind % 8 = 6 then (if t.apart u then Tr.concat t u else .nil)
  else t
theorem step_spec (l : List Tr) (o : OpM) (hl : 0 < l.length) (hl2 : l.length ≤ 1000000) (hs : ∀ t ∈ l, t.size ≤ 1000000) (ho : o.kind < 256 ∧ o.tree < 256 ∧ o.other < 256) :
    ACall Try.prog 39 [.os 0 1 0 l.length, opA o] [(0, .vec 82 1 (trR l))] (fun r' H' => H' = [(0, .vec 82 1 (trR l))] ∧ r' = .agg [Tv (stepT l o)]) := by
  have hi : o.tree % l.length < l.length := Nat.mod_lt _ hl
  have hj : o.other % l.length < l.length := Nat.mod_lt _ hl
  have g1 := trR_get l _ hi
  have g2 := trR_get l _ hj
  obtain ⟨t, ht⟩ : ∃ t, l.getD (o.tree % l.length) .nil = t := ⟨_, rfl⟩
  obtain ⟨u, hu⟩ : ∃ u, l.getD (o.other % l.length) .nil = u := ⟨_, rfl⟩
  have st : t.size ≤ 1000000 := by rw [← ht]; exact hs _ (by rw [List.getD_eq_getElem?_getD, List.getElem?_eq_getElem hi]; simp)
  have su : u.size ≤ 1000000 := by rw [← hu]; exact hs _ (by rw [List.getD_eq_getElem?_getD, List.getElem?_eq_getElem hj]; simp)
  rw [ht] at g1
  rw [hu] at g2
  have w1 := wr (x := (o.tree : Int)) (by omega)
  have w2 := wr (x := (o.other : Int)) (by omega)
  have m1 : (o.tree : Int).tmod (l.length : Int) = ((o.tree % l.length : Nat) : Int) := rfl
  have m2 : (o.other : Int).tmod (l.length : Int) = ((o.other % l.length : Nat) : Int) := rfl
  have m3 : (o.kind : Int).tmod (8 : Int) = ((o.kind % 8 : Nat) : Int) := rfl
  have hk := Nat.mod_lt o.kind (show 0 < 8 by omega)
  have hstep : stepT l o = (if o.kind % 8 = 0 ∨ o.kind % 8 = 1 ∨ o.kind % 8 = 2 then t.put o.key o.val
    else if o.kind % 8 = 3 then t.del o.key
    else if o.kind % 8 = 4 then (t.split o.key).1
    else if o.kind % 8 = 5 then (t.split o.key).2
    else if o.kind % 8 = 6 then (if t.apart u then Tr.concat t u else .nil)
    else t) := by unfold stepT; simp only [ht, hu]
  rw [hstep]
  generalize o.kind % 8 = q at *
  have hq : q = 0 ∨ q = 1 ∨ q = 2 ∨ q = 3 ∨ q = 4 ∨ q = 5 ∨ q = 6 ∨ q = 7 := by omega
  refine ACall.walk [0, 1, 3, 4, 5, 6, 7, 8, 28, 29, 39, 45, 48, 51] [4, 5, 6, 7, 8] Try.func39 rfl Try.ntmps39 (by kernel_rfl) (by rfl) rfl fun W own I0 φ0 => ?_
  repeat (first | refine xPP rfl ?_ | refine xPE rfl ?_ | refine xEP rfl ?_ | refine xEE rfl ?_ | refine AQ.done ?_ | refine AQ.skip (by kernel_rfl) rfl ?_ | refine AQ.s2b (by kernel_rfl) rfl rfl rfl rfl ?_ | refine AQ.mark (by kernel_rfl) rfl rfl rfl rfl rfl rfl rfl ?_ | refine AP.cond_true rfl rfl ?_ | refine AP.cond_false rfl rfl ?_ | (refine AP.region rfl (by kernel_rfl) ?_; simp only [go_sem, Nat.reduceAdd, Nat.reduceLeDiff, reduceCtorEq, w1, m1, Int.toNat_natCast, g1, trR_len]) | (refine AP.drawQ rfl rfl (by kernel_rfl) ?_; simp only [go_sem, Nat.reduceAdd, Nat.reduceLeDiff, reduceCtorEq, w1, m1, Int.toNat_natCast, g1, trR_len]) | (refine vq_id ?_; simp only [go_sem, Nat.reduceAdd, Nat.reduceLeDiff, reduceCtorEq, w1, m1, Int.toNat_natCast, g1, trR_len]) | (refine ⟨by first | omega | (intros; simp_all; done) | (intros; simp_all; omega), ?_⟩; try simp only [go_sem, Nat.reduceAdd, Nat.reduceLeDiff, reduceCtorEq, w1, m1, Int.toNat_natCast, g1, trR_len]))
  refine AQ.fn (by kernel_rfl) rfl rfl rfl (Split_spec t o.key (by omega)) rfl ?_
  repeat (first | refine xPP rfl ?_ | refine xPE rfl ?_ | refine xEP rfl ?_ | refine xEE rfl ?_ | refine AQ.done ?_ | refine AQ.skip (by kernel_rfl) rfl ?_ | refine AQ.s2b (by kernel_rfl) rfl rfl rfl rfl ?_ | refine AQ.mark (by kernel_rfl) rfl rfl rfl rfl rfl rfl rfl ?_ | refine AP.cond_true rfl rfl ?_ | refine AP.cond_false rfl rfl ?_ | (refine AP.region rfl (by kernel_rfl) ?_; simp only [go_sem, Nat.reduceAdd, Nat.reduceLeDiff, reduceCtorEq, m3]) | (refine AP.drawQ rfl rfl (by kernel_rfl) ?_; simp only [go_sem, Nat.reduceAdd, Nat.reduceLeDiff, reduceCtorEq, m3]) | (refine vq_id ?_; simp only [go_sem, Nat.reduceAdd, Nat.reduceLeDiff, reduceCtorEq, m3]) | (refine ⟨by first | omega | (intros; simp_all; done) | (intros; simp_all; omega), ?_⟩; try simp only [go_sem, Nat.reduceAdd, Nat.reduceLeDiff, reduceCtorEq, m3]))
  rcases hq with rfl | rfl | rfl | rfl | rfl | rfl | rfl | rfl
  · have f0 : (((0 : Nat) : Int) == 0) = true := rfl
    repeat (first | refine xPP rfl ?_ | refine xPE rfl ?_ | refine xEP rfl ?_ | refine xEE rfl ?_ | refine AQ.done ?_ | refine AQ.skip (by kernel_rfl) rfl ?_ | refine AQ.s2b (by kernel_rfl) rfl rfl rfl rfl ?_ | refine AQ.mark (by kernel_rfl) rfl rfl rfl rfl rfl rfl rfl ?_ | refine AP.cond_true rfl rfl ?_ | refine AP.cond_false rfl rfl ?_ | (refine AP.region rfl (by kernel_rfl) ?_; simp only [go_sem, Nat.reduceAdd, Nat.reduceLeDiff, reduceCtorEq, f0]) | (refine AP.drawQ rfl rfl (by kernel_rfl) ?_; simp only [go_sem, Nat.reduceAdd, Nat.reduceLeDiff, reduceCtorEq, f0]) | (refine vq_id ?_; simp only [go_sem, Nat.reduceAdd, Nat.reduceLeDiff, reduceCtorEq, f0]) | (refine ⟨by first | omega | (intros; simp_all; done) | (intros; simp_all; omega), ?_⟩; try simp only [go_sem, Nat.reduceAdd, Nat.reduceLeDiff, reduceCtorEq, f0]))
    refine AQ.fn (by kernel_rfl) rfl rfl rfl (Put_spec t o.key o.val (by omega)) rfl ?_
    repeat (first | refine xPP rfl ?_ | refine xPE rfl ?_ | refine xEP rfl ?_ | refine xEE rfl ?_ | refine AQ.done ?_ | refine AQ.skip (by kernel_rfl) rfl ?_ | refine AQ.s2b (by kernel_rfl) rfl rfl rfl rfl ?_ | refine AQ.mark (by kernel_rfl) rfl rfl rfl rfl rfl rfl rfl ?_ | refine AP.cond_true rfl rfl ?_ | refine AP.cond_false rfl rfl ?_ | (refine AP.region rfl (by kernel_rfl) ?_; simp only [go_sem, Nat.reduceAdd, Nat.reduceLeDiff, reduceCtorEq]) | (refine AP.drawQ rfl rfl (by kernel_rfl) ?_; simp only [go_sem, Nat.reduceAdd, Nat.reduceLeDiff, reduceCtorEq]) | (refine vq_id ?_; simp only [go_sem, Nat.reduceAdd, Nat.reduceLeDiff, reduceCtorEq]) | (refine ⟨by first | omega | (intros; simp_all; done) | (intros; simp_all; omega), ?_⟩; try simp only [go_sem, Nat.reduceAdd, Nat.reduceLeDiff, reduceCtorEq]))
    refine AE.retD [4, 3, 2, 1] rfl ⟨⟨rfl, Nat.le_of_ble_eq_true (by kernel_rfl)⟩, trivial⟩ rfl ⟨rfl, rfl⟩
  · have f0 : (((1 : Nat) : Int) == 0) = false := rfl
    have f1 : (((1 : Nat) : Int) == 1) = true := rfl
    repeat (first | refine xPP rfl ?_ | refine xPE rfl ?_ | refine xEP rfl ?_ | refine xEE rfl ?_ | refine AQ.done ?_ | refine AQ.skip (by kernel_rfl) rfl ?_ | refine AQ.s2b (by kernel_rfl) rfl rfl rfl rfl ?_ | refine AQ.mark (by kernel_rfl) rfl rfl rfl rfl rfl rfl rfl ?_ | refine AP.cond_true rfl rfl ?_ | refine AP.cond_false rfl rfl ?_ | (refine AP.region rfl (by kernel_rfl) ?_; simp only [go_sem, Nat.reduceAdd, Nat.reduceLeDiff, reduceCtorEq, f0, f1]) | (refine AP.drawQ rfl rfl (by kernel_rfl) ?_; simp only [go_sem, Nat.reduceAdd, Nat.reduceLeDiff, reduceCtorEq, f0, f1]) | (refine vq_id ?_; simp only [go_sem, Nat.reduceAdd, Nat.reduceLeDiff, reduceCtorEq, f0, f1]) | (refine ⟨by first | omega | (intros; simp_all; done) | (intros; simp_all; omega), ?_⟩; try simp only [go_sem, Nat.reduceAdd, Nat.reduceLeDiff, reduceCtorEq, f0, f1]))
    refine AQ.fn (by kernel_rfl) rfl rfl rfl (Put_spec t o.key o.val (by omega)) rfl ?_
    repeat (first | refine xPP rfl ?_ | refine xPE rfl ?_ | refine xEP rfl ?_ | refine xEE rfl ?_ | refine AQ.done ?_ | refine AQ.skip (by kernel_rfl) rfl ?_ | refine AQ.s2b (by kernel_rfl) rfl rfl rfl rfl ?_ | refine AQ.mark (by kernel_rfl) rfl rfl rfl rfl rfl rfl rfl ?_ | refine AP.cond_true rfl rfl ?_ | refine AP.cond_false rfl rfl ?_ | (refine AP.region rfl (by kernel_rfl) ?_; simp only [go_sem, Nat.reduceAdd, Nat.reduceLeDiff, reduceCtorEq]) | (refine AP.drawQ rfl rfl (by kernel_rfl) ?_; simp only [go_sem, Nat.reduceAdd, Nat.reduceLeDiff, reduceCtorEq]) | (refine vq_id ?_; simp only [go_sem, Nat.reduceAdd, Nat.reduceLeDiff, reduceCtorEq]) | (refine ⟨by first | omega | (intros; simp_all; done) | (intros; simp_all; omega), ?_⟩; try simp only [go_sem, Nat.reduceAdd, Nat.reduceLeDiff, reduceCtorEq]))
    refine AE.retD [4, 3, 2, 1] rfl ⟨⟨rfl, Nat.le_of_ble_eq_true (by kernel_rfl)⟩, trivial⟩ rfl ⟨rfl, rfl⟩
  · have f0 : (((2 : Nat) : Int) == 0) = false := rfl
    have f1 : (((2 : Nat) : Int) == 1) = false := rfl
    have f2 : (((2 : Nat) : Int) == 2) = true := rfl
    repeat (first | refine xPP rfl ?_ | refine xPE rfl ?_ | refine xEP rfl ?_ | refine xEE rfl ?_ | refine AQ.done ?_ | refine AQ.skip (by kernel_rfl) rfl ?_ | refine AQ.s2b (by kernel_rfl) rfl rfl rfl rfl ?_ | refine AQ.mark (by kernel_rfl) rfl rfl rfl rfl rfl rfl rfl ?_ | refine AP.cond_true rfl rfl ?_ | refine AP.cond_false rfl rfl ?_ | (refine AP.region rfl (by kernel_rfl) ?_; simp only [go_sem, Nat.reduceAdd, Nat.reduceLeDiff, reduceCtorEq, f0, f1, f2]) | (refine AP.drawQ rfl rfl (by kernel_rfl) ?_; simp only [go_sem, Nat.reduceAdd, Nat.reduceLeDiff, reduceCtorEq, f0, f1, f2]) | (refine vq_id ?_; simp only [go_sem, Nat.reduceAdd, Nat.reduceLeDiff, reduceCtorEq, f0, f1, f2]) | (refine ⟨by first | omega | (intros; simp_all; done) | (intros; simp_all; omega), ?_⟩; try simp only [go_sem, Nat.reduceAdd, Nat.reduceLeDiff, reduceCtorEq, f0, f1, f2]))
    refine AQ.fn (by kernel_rfl) rfl rfl rfl (Put_spec t o.key o.val (by omega)) rfl ?_
    repeat (first | refine xPP rfl ?_ | refine xPE rfl ?_ | refine xEP rfl ?_ | refine xEE rfl ?_ | refine AQ.done ?_ | refine AQ.skip (by kernel_rfl) rfl ?_ | refine AQ.s2b (by kernel_rfl) rfl rfl rfl rfl ?_ | refine AQ.mark (by kernel_rfl) rfl rfl rfl rfl rfl rfl rfl ?_ | refine AP.cond_true rfl rfl ?_ | refine AP.cond_false rfl rfl ?_ | (refine AP.region rfl (by kernel_rfl) ?_; simp only [go_sem, Nat.reduceAdd, Nat.reduceLeDiff, reduceCtorEq]) | (refine AP.drawQ rfl rfl (by kernel_rfl) ?_; simp only [go_sem, Nat.reduceAdd, Nat.reduceLeDiff, reduceCtorEq]) | (refine vq_id ?_; simp only [go_sem, Nat.reduceAdd, Nat.reduceLeDiff, reduceCtorEq]) | (refine ⟨by first | omega | (intros; simp_all; done) | (intros; simp_all; omega), ?_⟩; try simp only [go_sem, Nat.reduceAdd, Nat.reduceLeDiff, reduceCtorEq]))
    refine AE.retD [4, 3, 2, 1] rfl ⟨⟨rfl, Nat.le_of_ble_eq_true (by kernel_rfl)⟩, trivial⟩ rfl ⟨rfl, rfl⟩
  · have f0 : (((3 : Nat) : Int) == 0) = false := rfl
    have f1 : (((3 : Nat) : Int) == 1) = false := rfl
    have f2 : (((3 : Nat) : Int) == 2) = false := rfl
    have f3 : (((3 : Nat) : Int) == 3) = true := rfl
    repeat (first | refine xPP rfl ?_ | refine xPE rfl ?_ | refine xEP rfl ?_ | refine xEE rfl ?_ | refine AQ.done ?_ | refine AQ.skip (by kernel_rfl) rfl ?_ | refine AQ.s2b (by kernel_rfl) rfl rfl rfl rfl ?_ | refine AQ.mark (by kernel_rfl) rfl rfl rfl rfl rfl rfl rfl ?_ | refine AP.cond_true rfl rfl ?_ | refine AP.cond_false rfl rfl ?_ | (refine AP.region rfl (by kernel_rfl) ?_; simp only [go_sem, Nat.reduceAdd, Nat.reduceLeDiff, reduceCtorEq, f0, f1, f2, f3]) | (refine AP.drawQ rfl rfl (by kernel_rfl) ?_; simp only [go_sem, Nat.reduceAdd, Nat.reduceLeDiff, reduceCtorEq, f0, f1, f2, f3]) | (refine vq_id ?_; simp only [go_sem, Nat.reduceAdd, Nat.reduceLeDiff, reduceCtorEq, f0, f1, f2, f3]) | (refine ⟨by first | omega | (intros; simp_all; done) | (intros; simp_all; omega), ?_⟩; try simp only [go_sem, Nat.reduceAdd, Nat.reduceLeDiff, reduceCtorEq, f0, f1, f2, f3]))
    refine AQ.fn (by kernel_rfl) rfl rfl rfl (Delete_spec t o.key (by omega)) rfl ?_
    repeat (first | refine xPP rfl ?_ | refine xPE rfl ?_ | refine xEP rfl ?_ | refine xEE rfl ?_ | refine AQ.done ?_ | refine AQ.skip (by kernel_rfl) rfl ?_ | refine AQ.s2b (by kernel_rfl) rfl rfl rfl rfl ?_ | refine AQ.mark (by kernel_rfl) rfl rfl rfl rfl rfl rfl rfl ?_ | refine AP.cond_true rfl rfl ?_ | refine AP.cond_false rfl rfl ?_ | (refine AP.region rfl (by kernel_rfl) ?_; simp only [go_sem, Nat.reduceAdd, Nat.reduceLeDiff, reduceCtorEq]) | (refine AP.drawQ rfl rfl (by kernel_rfl) ?_; simp only [go_sem, Nat.reduceAdd, Nat.reduceLeDiff, reduceCtorEq]) | (refine vq_id ?_; simp only [go_sem, Nat.reduceAdd, Nat.reduceLeDiff, reduceCtorEq]) | (refine ⟨by first | omega | (intros; simp_all; done) | (intros; simp_all; omega), ?_⟩; try simp only [go_sem, Nat.reduceAdd, Nat.reduceLeDiff, reduceCtorEq]))
    refine AE.retD [4, 3, 2, 1] rfl ⟨⟨rfl, Nat.le_of_ble_eq_true (by kernel_rfl)⟩, trivial⟩ rfl ⟨rfl, rfl⟩
  · have f0 : (((4 : Nat) : Int) == 0) = false := rfl
    have f1 : (((4 : Nat) : Int) == 1) = false := rfl
    have f2 : (((4 : Nat) : Int) == 2) = false := rfl
    have f3 : (((4 : Nat) : Int) == 3) = false := rfl
    have f4 : (((4 : Nat) : Int) == 4) = true := rfl
    repeat (first | refine xPP rfl ?_ | refine xPE rfl ?_ | refine xEP rfl ?_ | refine xEE rfl ?_ | refine AQ.done ?_ | refine AQ.skip (by kernel_rfl) rfl ?_ | refine AQ.s2b (by kernel_rfl) rfl rfl rfl rfl ?_ | refine AQ.mark (by kernel_rfl) rfl rfl rfl rfl rfl rfl rfl ?_ | refine AP.cond_true rfl rfl ?_ | refine AP.cond_false rfl rfl ?_ | (refine AP.region rfl (by kernel_rfl) ?_; simp only [go_sem, Nat.reduceAdd, Nat.reduceLeDiff, reduceCtorEq, f0, f1, f2, f3, f4]) | (refine AP.drawQ rfl rfl (by kernel_rfl) ?_; simp only [go_sem, Nat.reduceAdd, Nat.reduceLeDiff, reduceCtorEq, f0, f1, f2, f3, f4]) | (refine vq_id ?_; simp only [go_sem, Nat.reduceAdd, Nat.reduceLeDiff, reduceCtorEq, f0, f1, f2, f3, f4]) | (refine ⟨by first | omega | (intros; simp_all; done) | (intros; simp_all; omega), ?_⟩; try simp only [go_sem, Nat.reduceAdd, Nat.reduceLeDiff, reduceCtorEq, f0, f1, f2, f3, f4]))
    refine AE.retD [4, 3, 2, 1] rfl ⟨⟨rfl, Nat.le_of_ble_eq_true (by kernel_rfl)⟩, trivial⟩ rfl ⟨rfl, rfl⟩
  · have f0 : (((5 : Nat) : Int) == 0) = false := rfl
    have f1 : (((5 : Nat) : Int) == 1) = false := rfl
    have f2 : (((5 : Nat) : Int) == 2) = false := rfl
    have f3 : (((5 : Nat) : Int) == 3) = false := rfl
    have f4 : (((5 : Nat) : Int) == 4) = false := rfl
    have f5 : (((5 : Nat) : Int) == 5) = true := rfl
    repeat (first | refine xPP rfl ?_ | refine xPE rfl ?_ | refine xEP rfl ?_ | refine xEE rfl ?_ | refine AQ.done ?_ | refine AQ.skip (by kernel_rfl) rfl ?_ | refine AQ.s2b (by kernel_rfl) rfl rfl rfl rfl ?_ | refine AQ.mark (by kernel_rfl) rfl rfl rfl rfl rfl rfl rfl ?_ | refine AP.cond_true rfl rfl ?_ | refine AP.cond_false rfl rfl ?_ | (refine AP.region rfl (by kernel_rfl) ?_; simp only [go_sem, Nat.reduceAdd, Nat.reduceLeDiff, reduceCtorEq, f0, f1, f2, f3, f4, f5]) | (refine AP.drawQ rfl rfl (by kernel_rfl) ?_; simp only [go_sem, Nat.reduceAdd, Nat.reduceLeDiff, reduceCtorEq, f0, f1, f2, f3, f4, f5]) | (refine vq_id ?_; simp only [go_sem, Nat.reduceAdd, Nat.reduceLeDiff, reduceCtorEq, f0, f1, f2, f3, f4, f5]) | (refine ⟨by first | omega | (intros; simp_all; done) | (intros; simp_all; omega), ?_⟩; try simp only [go_sem, Nat.reduceAdd, Nat.reduceLeDiff, reduceCtorEq, f0, f1, f2, f3, f4, f5]))
    refine AE.retD [4, 3, 2, 1] rfl ⟨⟨rfl, Nat.le_of_ble_eq_true (by kernel_rfl)⟩, trivial⟩ rfl ⟨rfl, rfl⟩
  · have f0 : (((6 : Nat) : Int) == 0) = false := rfl
    have f1 : (((6 : Nat) : Int) == 1) = false := rfl
    have f2 : (((6 : Nat) : Int) == 2) = false := rfl
    have f3 : (((6 : Nat) : Int) == 3) = false := rfl
    have f4 : (((6 : Nat) : Int) == 4) = false := rfl
    have f5 : (((6 : Nat) : Int) == 5) = false := rfl
    have f6 : (((6 : Nat) : Int) == 6) = true := rfl
    repeat (first | refine xPP rfl ?_ | refine xPE rfl ?_ | refine xEP rfl ?_ | refine xEE rfl ?_ | refine AQ.done ?_ | refine AQ.skip (by kernel_rfl) rfl ?_ | refine AQ.s2b (by kernel_rfl) rfl rfl rfl rfl ?_ | refine AQ.mark (by kernel_rfl) rfl rfl rfl rfl rfl rfl rfl ?_ | refine AP.cond_true rfl rfl ?_ | refine AP.cond_false rfl rfl ?_ | (refine AP.region rfl (by kernel_rfl) ?_; simp only [go_sem, Nat.reduceAdd, Nat.reduceLeDiff, reduceCtorEq, f0, f1, f2, f3, f4, f5, f6]) | (refine AP.drawQ rfl rfl (by kernel_rfl) ?_; simp only [go_sem, Nat.reduceAdd, Nat.reduceLeDiff, reduceCtorEq, f0, f1, f2, f3, f4, f5, f6]) | (refine vq_id ?_; simp only [go_sem, Nat.reduceAdd, Nat.reduceLeDiff, reduceCtorEq, f0, f1, f2, f3, f4, f5, f6]) | (refine ⟨by first | omega | (intros; simp_all; done) | (intros; simp_all; omega), ?_⟩; try simp only [go_sem, Nat.reduceAdd, Nat.reduceLeDiff, reduceCtorEq, f0, f1, f2, f3, f4, f5, f6]))
    refine AP.drawE 17 (Tree.node [] [0, 1, 2, 3, 4, 5, 6, 7, 8, 9] [10, 14] [Tree.node [] [11, 12, 13] [14] [Tree.node [11, 12, 13] [] [15] [Tree.node [13] [16] [] []]], Tree.node [0, 1, 2, 3, 4, 5, 6, 7, 8, 9] [] [10] [Tree.node [] [11, 12, 13] [15] [Tree.node [13] [16] [] []]]]) (by kernel_rfl) rfl (by kernel_rfl) (by kernel_rfl) ?_
    refine vd_node ?_
    simp only [go_sem, Nat.reduceAdd, Nat.reduceLeDiff, reduceCtorEq, w2, m2, Int.toNat_natCast, g2, trR_len]
    refine ⟨by omega, by omega, by omega, ?_⟩
    have hj := Join_spec t u (by omega)
    cases hap : t.apart u
    · rw [joinOf, hap, if_neg Bool.false_ne_true] at hj
      repeat' (first | with_reducible exact True.intro | with_reducible refine And.intro (by omega) ?_ | with_reducible refine And.intro ?_ ?_ | (refine AQ.nx rfl ?_; simp only [go_sem, Nat.reduceAdd, Nat.reduceLeDiff, reduceCtorEq, w2, m2, Int.toNat_natCast, g2, trR_len]) | (refine AQ.fn (by kernel_rfl) rfl rfl rfl (hj) rfl ?_; simp only [go_sem, Nat.reduceAdd, Nat.reduceLeDiff, reduceCtorEq]) | refine AQ.done ?_ | (refine AQ.go (by kernel_rfl) ?_; simp only [go_sem, Nat.reduceAdd, Nat.reduceLeDiff, reduceCtorEq, w2, m2, Int.toNat_natCast, g2, trR_len]; repeat (with_reducible refine And.intro (by omega) ?_); refine AQ.nx rfl ?_; simp only [go_sem, Nat.reduceAdd, Nat.reduceLeDiff, reduceCtorEq, w2, m2, Int.toNat_natCast, g2, trR_len]))
      all_goals repeat (first | refine xPP rfl ?_ | refine xPE rfl ?_ | refine xEP rfl ?_ | refine xEE rfl ?_ | refine AQ.done ?_ | refine AQ.skip (by kernel_rfl) rfl ?_ | refine AQ.s2b (by kernel_rfl) rfl rfl rfl rfl ?_ | refine AQ.mark (by kernel_rfl) rfl rfl rfl rfl rfl rfl rfl ?_ | refine AP.cond_true rfl rfl ?_ | refine AP.cond_false rfl rfl ?_ | (refine AP.region rfl (by kernel_rfl) ?_; simp only [go_sem, Nat.reduceAdd, Nat.reduceLeDiff, reduceCtorEq]) | (refine AP.drawQ rfl rfl (by kernel_rfl) ?_; simp only [go_sem, Nat.reduceAdd, Nat.reduceLeDiff, reduceCtorEq]) | (refine vq_id ?_; simp only [go_sem, Nat.reduceAdd, Nat.reduceLeDiff, reduceCtorEq]) | (refine ⟨by first | omega | (intros; simp_all; done) | (intros; simp_all; omega), ?_⟩; try simp only [go_sem, Nat.reduceAdd, Nat.reduceLeDiff, reduceCtorEq]))
      all_goals refine AE.retD [5, 4, 3, 2, 1] rfl ⟨⟨rfl, Nat.le_of_ble_eq_true (by kernel_rfl)⟩, trivial⟩ rfl ⟨rfl, rfl⟩
    · rw [joinOf, hap, if_pos rfl] at hj
      repeat' (first | with_reducible exact True.intro | with_reducible refine And.intro (by omega) ?_ | with_reducible refine And.intro ?_ ?_ | (refine AQ.nx rfl ?_; simp only [go_sem, Nat.reduceAdd, Nat.reduceLeDiff, reduceCtorEq, w2, m2, Int.toNat_natCast, g2, trR_len]) | (refine AQ.fn (by kernel_rfl) rfl rfl rfl (hj) rfl ?_; simp only [go_sem, Nat.reduceAdd, Nat.reduceLeDiff, reduceCtorEq]) | refine AQ.done ?_ | (refine AQ.go (by kernel_rfl) ?_; simp only [go_sem, Nat.reduceAdd, Nat.reduceLeDiff, reduceCtorEq, w2, m2, Int.toNat_natCast, g2, trR_len]; repeat (with_reducible refine And.intro (by omega) ?_); refine AQ.nx rfl ?_; simp only [go_sem, Nat.reduceAdd, Nat.reduceLeDiff, reduceCtorEq, w2, m2, Int.toNat_natCast, g2, trR_len]))
      all_goals repeat (first | refine xPP rfl ?_ | refine xPE rfl ?_ | refine xEP rfl ?_ | refine xEE rfl ?_ | refine AQ.done ?_ | refine AQ.skip (by kernel_rfl) rfl ?_ | refine AQ.s2b (by kernel_rfl) rfl rfl rfl rfl ?_ | refine AQ.mark (by kernel_rfl) rfl rfl rfl rfl rfl rfl rfl ?_ | refine AP.cond_true rfl rfl ?_ | refine AP.cond_false rfl rfl ?_ | (refine AP.region rfl (by kernel_rfl) ?_; simp only [go_sem, Nat.reduceAdd, Nat.reduceLeDiff, reduceCtorEq]) | (refine AP.drawQ rfl rfl (by kernel_rfl) ?_; simp only [go_sem, Nat.reduceAdd, Nat.reduceLeDiff, reduceCtorEq]) | (refine vq_id ?_; simp only [go_sem, Nat.reduceAdd, Nat.reduceLeDiff, reduceCtorEq]) | (refine ⟨by first | omega | (intros; simp_all; done) | (intros; simp_all; omega), ?_⟩; try simp only [go_sem, Nat.reduceAdd, Nat.reduceLeDiff, reduceCtorEq]))
      all_goals refine AE.retD [5, 4, 3, 2, 1] rfl ⟨⟨rfl, Nat.le_of_ble_eq_true (by kernel_rfl)⟩, trivial⟩ rfl ⟨rfl, rfl⟩
  · have f0 : (((7 : Nat) : Int) == 0) = false := rfl
    have f1 : (((7 : Nat) : Int) == 1) = false := rfl
    have f2 : (((7 : Nat) : Int) == 2) = false := rfl
    have f3 : (((7 : Nat) : Int) == 3) = false := rfl
    have f4 : (((7 : Nat) : Int) == 4) = false := rfl
    have f5 : (((7 : Nat) : Int) == 5) = false := rfl
    have f6 : (((7 : Nat) : Int) == 6) = false := rfl
    repeat (first | refine xPP rfl ?_ | refine xPE rfl ?_ | refine xEP rfl ?_ | refine xEE rfl ?_ | refine AQ.done ?_ | refine AQ.skip (by kernel_rfl) rfl ?_ | refine AQ.s2b (by kernel_rfl) rfl rfl rfl rfl ?_ | refine AQ.mark (by kernel_rfl) rfl rfl rfl rfl rfl rfl rfl ?_ | refine AP.cond_true rfl rfl ?_ | refine AP.cond_false rfl rfl ?_ | (refine AP.region rfl (by kernel_rfl) ?_; simp only [go_sem, Nat.reduceAdd, Nat.reduceLeDiff, reduceCtorEq, f0, f1, f2, f3, f4, f5, f6]) | (refine AP.drawQ rfl rfl (by kernel_rfl) ?_; simp only [go_sem, Nat.reduceAdd, Nat.reduceLeDiff, reduceCtorEq, f0, f1, f2, f3, f4, f5, f6]) | (refine vq_id ?_; simp only [go_sem, Nat.reduceAdd, Nat.reduceLeDiff, reduceCtorEq, f0, f1, f2, f3, f4, f5, f6]) | (refine ⟨by first | omega | (intros; simp_all; done) | (intros; simp_all; omega), ?_⟩; try simp only [go_sem, Nat.reduceAdd, Nat.reduceLeDiff, reduceCtorEq, f0, f1, f2, f3, f4, f5, f6]))
    refine AE.retD [4, 3, 2, 1] rfl ⟨⟨rfl, Nat.le_of_ble_eq_true (by kernel_rfl)⟩, trivial⟩ rfl ⟨rfl, rfl⟩
end Go.Proofs.Ytfgffpkdjmeaoaa
end

section
namespace Go.Proofs.Ytfgffpkdjmeaoaa
open Go Go.AL
/-- what holds of each tree that operations make -/
structure Good (S : List (List UInt8)) (t : Tr) : Prop where
  srt : Srt t.toList
  bal : t.Bal
  keys : ∀ e ∈ t.toList, e.1 ∈ S
theorem Good.nil (S : List (List UInt8)) : Good S .nil := ⟨Srt.nil, trivial, fun _ h => by cases h⟩
theorem nodup_len {α : Type} [DecidableEq α] : ∀ (l S : List α), l.Nodup → (∀ x ∈ l, x ∈ S) → l.length ≤ S.length
  | [], _, _, _ => Nat.zero_le _
  | x :: l, S, h, hs => by
    have hx := hs x (by simp)
    obtain ⟨h1, h2⟩ := List.nodup_cons.1 h
    have := nodup_len l (S.erase x) h2 (fun y hy => (List.mem_erase_of_ne (by rintro rfl; exact h1 hy)).2 (hs y (by simp [hy])))
    rw [List.length_erase_of_mem hx] at this
    have : 0 < S.length := List.length_pos_of_mem hx
    simp only [List.length_cons]; omega
theorem Good.size {S : List (List UInt8)} {t : Tr} (h : Good S t) : t.size ≤ S.length := by
  have hn : (t.toList.map (·.1)).Nodup := by
    refine List.pairwise_map.2 (List.Pairwise.imp ?_ h.srt)
    intro a b hab e
    rw [e, ltS_irrefl] at hab; cases hab
  have := nodup_len _ S hn (fun x hx => by obtain ⟨e, he, rfl⟩ := List.mem_map.1 hx; exact h.keys e he)
  rwa [List.length_map, Tr.toList_len] at this
theorem srt_around {k : List UInt8} {v : Int} {l : List Ent} (h : Srt l) : Srt (lower k l ++ (k, v) :: upper k l) :=
  srt_app.2 ⟨h.lower, h.upper, fun _ hx => (mem_lower.1 hx).2, fun _ hx => (mem_upper.1 hx).2⟩
theorem srt_parts {k : List UInt8} {l : List Ent} (h : Srt l) : Srt (lower k l ++ upper k l) :=
  srt_app2.2 ⟨h.lower, h.upper, fun _ hx _ hy => ltS_trans (mem_lower.1 hx).2 (mem_upper.1 hy).2⟩
theorem srt_last {l : List Ent} {i : Nat} {x : Ent} (h : Srt l) (hi : i + 1 = l.length) (hx : l[i]? = some x) : ∀ y ∈ l, y = x ∨ ltS y.1 x.1 = true := by
  intro y hy
  obtain ⟨j, hj⟩ := List.mem_iff_getElem?.1 hy
  obtain ⟨hj1, hj2⟩ := List.getElem?_eq_some_iff.1 hj
  obtain ⟨hi1, hi2⟩ := List.getElem?_eq_some_iff.1 hx
  rcases Nat.lt_or_ge j i with hc | hc
  · right
    have := List.pairwise_iff_getElem.1 h j i hj1 hi1 hc
    rwa [hj2, hi2] at this
  · left
    have : j = i := by omega
    subst this
    rw [← hj2, ← hi2]
theorem srt_first {l : List Ent} {x : Ent} (h : Srt l) (hx : l[0]? = some x) : ∀ y ∈ l, y = x ∨ ltS x.1 y.1 = true := by
  intro y hy
  cases l with
  | nil => cases hy
  | cons a r =>
    simp at hx; subst hx
    rcases List.mem_cons.1 hy with rfl | hy
    · exact .inl rfl
    · exact .inr ((List.pairwise_cons.1 h).1 y hy)
theorem srt_apart {t u : Tr} (ht : Srt t.toList) (hu : Srt u.toList) (h : t.apart u = true) : Srt (t.toList ++ u.toList) := by
  unfold Tr.apart at h
  simp only [Bool.or_eq_true, beq_iff_eq, decide_eq_true_eq] at h
  rcases h with (h | h) | h
  · have : t.toList = [] := List.eq_nil_of_length_eq_zero (by rw [Tr.toList_len]; exact h)
    rw [this]; exact hu
  · have : u.toList = [] := List.eq_nil_of_length_eq_zero (by rw [Tr.toList_len]; exact h)
    rw [this, List.append_nil]; exact ht
  · by_cases h1 : t.size = 0
    · have : t.toList = [] := List.eq_nil_of_length_eq_zero (by rw [Tr.toList_len]; exact h1)
      rw [this]; exact hu
    by_cases h2 : u.size = 0
    · have : u.toList = [] := List.eq_nil_of_length_eq_zero (by rw [Tr.toList_len]; exact h2)
      rw [this, List.append_nil]; exact ht
    refine srt_app2.2 ⟨ht, hu, fun x hx y hy => ?_⟩
    have hxy := cmpS_lt.1 h
    have a1 := srt_last ht (i := t.size - 1) (by rw [Tr.toList_len]; omega) (Tr.at_toList t _ (by omega)) x hx
    have a2 := srt_first hu (Tr.at_toList u 0 (by omega)) y hy
    rcases a1 with rfl | a1 <;> rcases a2 with rfl | a2
    · exact hxy
    · exact ltS_trans hxy a2
    · exact ltS_trans a1 hxy
    · exact ltS_trans a1 (ltS_trans hxy a2)
theorem Good.put {S : List (List UInt8)} {t : Tr} (h : Good S t) {k : List UInt8} (hk : k ∈ S) (v : Int) : Good S (t.put k v) := by
  have e := Tr.toList_put k v t h.srt
  refine ⟨by rw [e]; exact srt_around h.srt, (Tr.put_ok k v t h.bal).1, fun x hx => ?_⟩
  rw [e] at hx
  rcases List.mem_append.1 hx with hx | hx
  · exact h.keys x (mem_lower.1 hx).1
  · rcases List.mem_cons.1 hx with rfl | hx
    · exact hk
    · exact h.keys x (mem_upper.1 hx).1
theorem Good.del {S : List (List UInt8)} {t : Tr} (h : Good S t) (k : List UInt8) : Good S (t.del k) := by
  have e := Tr.toList_del t k h.srt
  refine ⟨by rw [e]; exact srt_parts h.srt, Tr.del_ok k t h.bal, fun x hx => ?_⟩
  rw [e] at hx
  rcases List.mem_append.1 hx with hx | hx
  · exact h.keys x (mem_lower.1 hx).1
  · exact h.keys x (mem_upper.1 hx).1
theorem Good.split {S : List (List UInt8)} {t : Tr} (h : Good S t) (k : List UInt8) : Good S (t.split k).1 ∧ Good S (t.split k).2 := by
  obtain ⟨e1, e2⟩ := Tr.toList_split k t h.srt
  obtain ⟨b1, b2⟩ := Tr.split_ok k t h.bal
  refine ⟨⟨by rw [e1]; exact h.srt.lower, b1, fun x hx => ?_⟩, ⟨by rw [e2]; exact h.srt.upper, b2, fun x hx => ?_⟩⟩
  · rw [e1] at hx; exact h.keys x (mem_lower.1 hx).1
  · rw [e2] at hx; exact h.keys x (mem_upper.1 hx).1
theorem Good.concat {S : List (List UInt8)} {t u : Tr} (ht : Good S t) (hu : Good S u) (h : t.apart u = true) : Good S (Tr.concat t u) := by
  have e := Tr.toList_concat t u
  refine ⟨by rw [e]; exact srt_apart ht.srt hu.srt h, Tr.concat_ok t u ht.bal hu.bal, fun x hx => ?_⟩
  rw [e] at hx
  rcases List.mem_append.1 hx with hx | hx
  · exact ht.keys x hx
  · exact hu.keys x hx
theorem getD_mem {α : Type} {l : List α} {i : Nat} {d : α} (h : i < l.length) : l.getD i d ∈ l := by
  rw [List.getD_eq_getElem?_getD, List.getElem?_eq_getElem h]; simp
theorem Good.step {S : List (List UInt8)} {l : List Tr} (hl : 0 < l.length) (h : ∀ t ∈ l, Good S t) {o : OpM} (ho : o.key ∈ S) : Good S (stepT l o) := by
  have h1 := h _ (getD_mem (d := Tr.nil) (Nat.mod_lt o.tree hl))
  have h2 := h _ (getD_mem (d := Tr.nil) (Nat.mod_lt o.other hl))
  unfold stepT
  simp only
  split
  · exact h1.put ho _
  · split
    · exact h1.del _
    · split
      · exact (h1.split _).1
      · split
        · exact (h1.split _).2
        · split
          · split
            · rename_i hap; exact Good.concat h1 h2 hap
            · exact Good.nil S
          · exact h1
/-- the trees after the first k operations -/
def treesT (ops : List OpM) : Nat → List Tr
  | 0 => [.nil]
  | k + 1 => treesT ops k ++ [stepT (treesT ops k) (ops.getD k opD)]
theorem treesT_len (ops : List OpM) : ∀ k, (treesT ops k).length = k + 1
  | 0 => rfl
  | k + 1 => by simp [treesT, treesT_len ops k]
theorem treesT_good (ops : List OpM) : ∀ k, k ≤ ops.length → ∀ t ∈ treesT ops k, Good (ops.map (·.key)) t
  | 0, _, t, h => by simp [treesT] at h; subst h; exact Good.nil _
  | k + 1, hk, t, h => by
    have ih := treesT_good ops k (by omega)
    rcases List.mem_append.1 h with h | h
    · exact ih t h
    · rw [List.mem_singleton.1 h]
      exact Good.step (by rw [treesT_len]; omega) ih (List.mem_map.2 ⟨_, getD_mem (by omega), rfl⟩)
end Go.Proofs.Ytfgffpkdjmeaoaa
end

section
namespace Go.Proofs.Ytfgffpkdjmeaoaa
open Go Go.AL Go.RowKit
set_option maxRecDepth 10000
set_option maxHeartbeats 4000000
def rankL (k : List UInt8) : List Ent → Nat
  | [] => 0
  | e :: r => if ltS e.1 k then rankL k r + 1 else 0
theorem rankL_le (k : List UInt8) : ∀ l : List Ent, rankL k l ≤ l.length
  | [] => Nat.le_refl _
  | e :: r => by have := rankL_le k r; simp only [rankL]; split <;> simp <;> omega
def entD : Ent := ([], 0)
def hasL (k : List UInt8) (l : List Ent) : Bool := decide (rankL k l < l.length) && ((l.getD (rankL k l) entD).1 == k)
def afterL (k : List UInt8) (l : List Ent) : Nat := if hasL k l then rankL k l + 1 else rankL k l
theorem afterL_le (k : List UInt8) (l : List Ent) : afterL k l ≤ l.length := by
  have := rankL_le k l
  unfold afterL hasL
  split
  · rename_i h; simp at h; omega
  · exact this
theorem entR_get (l : List Ent) (j : Nat) (h : j < l.length) : (entR l).getD j [] = [Si (l.getD j entD).1, Ii (l.getD j entD).2] := by
  simp [entR, List.getD_eq_getElem?_getD, h]
theorem entR_out (l : List Ent) (j : Nat) (h : l.length ≤ j) : (entR l).getD j [] = [] := by
  rw [List.getD_eq_getElem?_getD, List.getElem?_eq_none (by rw [entR_len]; exact h)]; rfl
theorem entR_take (l : List Ent) (n : Nat) : (entR l).take n = entR (l.take n) := by simp [entR]
theorem entR_drop (l : List Ent) (n : Nat) : (entR l).drop n = entR (l.drop n) := by simp [entR]
theorem entR_app (l m : List Ent) : entR l ++ entR m = entR (l ++ m) := by simp [entR]
theorem entR_one (k : List UInt8) (v : Int) : [[Si k, Ii v]] = entR [(k, v)] := rfl
abbrev Lv (l : List Ent) : AV := .im (.sl 2 (entR l))
theorem rank_ref (l : List Ent) (k : List UInt8) (hl : l.length ≤ 1000000) : PFn Try.prog 73 [Lv l, Sv k] (Iv (rankL k l)) := by
  refine ACall.walk [0, 1, 4, 5, 18] [] Try.func73 rfl Try.ntmps73 (by kernel_rfl) (by rfl) rfl fun W own I0 φ0 => ?_
  repeat (first | refine xPP rfl ?_ | refine xPE rfl ?_ | refine xEP rfl ?_ | refine xEE rfl ?_ | refine AQ.done ?_ | refine AQ.skip (by kernel_rfl) rfl ?_ | refine AQ.s2b (by kernel_rfl) rfl rfl rfl rfl ?_ | refine AQ.mark (by kernel_rfl) rfl rfl rfl rfl rfl rfl rfl ?_ | refine AP.cond_true rfl rfl ?_ | refine AP.cond_false rfl rfl ?_ | (refine AP.region rfl (by kernel_rfl) ?_; simp only [go_sem, Nat.reduceAdd, Nat.reduceLeDiff, reduceCtorEq]) | (refine AP.drawQ rfl rfl (by kernel_rfl) ?_; simp only [go_sem, Nat.reduceAdd, Nat.reduceLeDiff, reduceCtorEq]) | (refine vq_id ?_; simp only [go_sem, Nat.reduceAdd, Nat.reduceLeDiff, reduceCtorEq]) | (refine ⟨by first | omega | (intros; simp_all; done) | (intros; simp_all; omega), ?_⟩; try simp only [go_sem, Nat.reduceAdd, Nat.reduceLeDiff, reduceCtorEq]))
  refine AP.loop rfl (α := Nat) (fun j => [(0, Lv l), (1, Sv k), (5, Iv j)]) (fun _ => []) (fun j => j ≤ l.length ∧ rankL k l = j + rankL k (l.drop j)) (fun j => l.length - j) 0 ⟨by omega, by simp⟩ (by repeat (first | exact Sub.nil _ | refine Sub.cons rfl ?_)) rfl fun j ⟨hj, hi⟩ => ?_
  by_cases hc : j < l.length
  · have c1 : decide ((j : Int) < (l.length : Int)) = true := by simp; omega
    have hw := wr (x := (j : Int) + 1) (by omega)
    have hg := entR_get l j hc
    have hd : l.drop j = l.getD j entD :: l.drop (j + 1) := by
      rw [List.drop_eq_getElem_cons hc, List.getD_eq_getElem?_getD, List.getElem?_eq_getElem hc]; rfl
    rw [hd, rankL] at hi
    repeat (first | refine xPP rfl ?_ | refine xPE rfl ?_ | refine xEP rfl ?_ | refine xEE rfl ?_ | refine AQ.done ?_ | refine AQ.skip (by kernel_rfl) rfl ?_ | refine AQ.s2b (by kernel_rfl) rfl rfl rfl rfl ?_ | refine AQ.mark (by kernel_rfl) rfl rfl rfl rfl rfl rfl rfl ?_ | refine AP.cond_true rfl rfl ?_ | refine AP.cond_false rfl rfl ?_ | (refine AP.region rfl (by kernel_rfl) ?_; simp only [go_sem, Nat.reduceAdd, Nat.reduceLeDiff, reduceCtorEq, entR_len, c1, hg, hw]) | (refine AP.drawQ rfl rfl (by kernel_rfl) ?_; simp only [go_sem, Nat.reduceAdd, Nat.reduceLeDiff, reduceCtorEq, entR_len, c1, hg, hw]) | (refine vq_id ?_; simp only [go_sem, Nat.reduceAdd, Nat.reduceLeDiff, reduceCtorEq, entR_len, c1, hg, hw]) | (refine ⟨by first | omega | (intros; simp_all; done) | (intros; simp_all; omega), ?_⟩; try simp only [go_sem, Nat.reduceAdd, Nat.reduceLeDiff, reduceCtorEq, entR_len, c1, hg, hw]))
    refine AP.cond rfl rfl (fun h1 => ?_) (fun h1 => ?_)
    · rw [if_pos (show ltS (l.getD j entD).1 k = true from by simpa [BA_toList, ltS] using h1)] at hi
      repeat (first | refine xPP rfl ?_ | refine xPE rfl ?_ | refine xEP rfl ?_ | refine xEE rfl ?_ | refine AQ.done ?_ | refine AQ.skip (by kernel_rfl) rfl ?_ | refine AQ.s2b (by kernel_rfl) rfl rfl rfl rfl ?_ | refine AQ.mark (by kernel_rfl) rfl rfl rfl rfl rfl rfl rfl ?_ | refine AP.cond_true rfl rfl ?_ | refine AP.cond_false rfl rfl ?_ | (refine AP.region rfl (by kernel_rfl) ?_; simp only [go_sem, Nat.reduceAdd, Nat.reduceLeDiff, reduceCtorEq, hw]) | (refine AP.drawQ rfl rfl (by kernel_rfl) ?_; simp only [go_sem, Nat.reduceAdd, Nat.reduceLeDiff, reduceCtorEq, hw]) | (refine vq_id ?_; simp only [go_sem, Nat.reduceAdd, Nat.reduceLeDiff, reduceCtorEq, hw]) | (refine ⟨by first | omega | (intros; simp_all; done) | (intros; simp_all; omega), ?_⟩; try simp only [go_sem, Nat.reduceAdd, Nat.reduceLeDiff, reduceCtorEq, hw]))
      exact AE.round (j + 1) ⟨by omega, by omega⟩ (by omega) (by repeat (first | exact Sub.nil _ | refine Sub.cons rfl ?_)) rfl
    · rw [if_neg (show ¬ ltS (l.getD j entD).1 k = true from by simpa [BA_toList, ltS] using h1)] at hi
      repeat (first | refine xPP rfl ?_ | refine xPE rfl ?_ | refine xEP rfl ?_ | refine xEE rfl ?_ | refine AQ.done ?_ | refine AQ.skip (by kernel_rfl) rfl ?_ | refine AQ.s2b (by kernel_rfl) rfl rfl rfl rfl ?_ | refine AQ.mark (by kernel_rfl) rfl rfl rfl rfl rfl rfl rfl ?_ | refine AP.cond_true rfl rfl ?_ | refine AP.cond_false rfl rfl ?_ | (refine AP.region rfl (by kernel_rfl) ?_; simp only [go_sem, Nat.reduceAdd, Nat.reduceLeDiff, reduceCtorEq]) | (refine AP.drawQ rfl rfl (by kernel_rfl) ?_; simp only [go_sem, Nat.reduceAdd, Nat.reduceLeDiff, reduceCtorEq]) | (refine vq_id ?_; simp only [go_sem, Nat.reduceAdd, Nat.reduceLeDiff, reduceCtorEq]) | (refine ⟨by first | omega | (intros; simp_all; done) | (intros; simp_all; omega), ?_⟩; try simp only [go_sem, Nat.reduceAdd, Nat.reduceLeDiff, reduceCtorEq]))
      exact AE.ret rfl ⟨rfl, trivial⟩ ⟨rfl, by rw [hi]; rfl⟩
  · have c1 : decide ((j : Int) < (l.length : Int)) = false := by simp; omega
    have e : j = l.length := by omega
    rw [List.drop_eq_nil_of_le (by omega), rankL] at hi
    have hg := entR_out l j (by omega)
    repeat (first | refine xPP rfl ?_ | refine xPE rfl ?_ | refine xEP rfl ?_ | refine xEE rfl ?_ | refine AQ.done ?_ | refine AQ.skip (by kernel_rfl) rfl ?_ | refine AQ.s2b (by kernel_rfl) rfl rfl rfl rfl ?_ | refine AQ.mark (by kernel_rfl) rfl rfl rfl rfl rfl rfl rfl ?_ | refine AP.cond_true rfl rfl ?_ | refine AP.cond_false rfl rfl ?_ | (refine AP.region rfl (by kernel_rfl) ?_; simp only [go_sem, Nat.reduceAdd, Nat.reduceLeDiff, reduceCtorEq, entR_len, c1, hg, List.take_nil]) | (refine AP.drawQ rfl rfl (by kernel_rfl) ?_; simp only [go_sem, Nat.reduceAdd, Nat.reduceLeDiff, reduceCtorEq, entR_len, c1, hg, List.take_nil]) | (refine vq_id ?_; simp only [go_sem, Nat.reduceAdd, Nat.reduceLeDiff, reduceCtorEq, entR_len, c1, hg, List.take_nil]) | (refine ⟨by first | omega | (intros; simp_all; done) | (intros; simp_all; omega), ?_⟩; try simp only [go_sem, Nat.reduceAdd, Nat.reduceLeDiff, reduceCtorEq, entR_len, c1, hg, List.take_nil]))
    exact AE.ret rfl ⟨rfl, trivial⟩ ⟨rfl, by rw [hi]; rfl⟩
theorem has_ref (l : List Ent) (k : List UInt8) (hl : l.length ≤ 1000000) : PFn Try.prog 74 [Lv l, Sv k] (Bv (hasL k l)) := by
  refine ACall.walk [0, 1, 4, 5] [] Try.func74 rfl Try.ntmps74 (by kernel_rfl) (by rfl) rfl fun W own I0 φ0 => ?_
  repeat (first | refine xPP rfl ?_ | refine xPE rfl ?_ | refine xEP rfl ?_ | refine xEE rfl ?_ | refine AQ.done ?_ | refine AQ.skip (by kernel_rfl) rfl ?_ | refine AQ.s2b (by kernel_rfl) rfl rfl rfl rfl ?_ | refine AQ.mark (by kernel_rfl) rfl rfl rfl rfl rfl rfl rfl ?_ | refine AP.cond_true rfl rfl ?_ | refine AP.cond_false rfl rfl ?_ | (refine AP.region rfl (by kernel_rfl) ?_; simp only [go_sem, Nat.reduceAdd, Nat.reduceLeDiff, reduceCtorEq]) | (refine AP.drawQ rfl rfl (by kernel_rfl) ?_; simp only [go_sem, Nat.reduceAdd, Nat.reduceLeDiff, reduceCtorEq]) | (refine vq_id ?_; simp only [go_sem, Nat.reduceAdd, Nat.reduceLeDiff, reduceCtorEq]) | (refine ⟨by first | omega | (intros; simp_all; done) | (intros; simp_all; omega), ?_⟩; try simp only [go_sem, Nat.reduceAdd, Nat.reduceLeDiff, reduceCtorEq]))
  refine AQ.fn (by kernel_rfl) rfl rfl rfl (rank_ref l k hl) rfl ?_
  by_cases hc : rankL k l < l.length
  · have c1 : decide ((rankL k l : Int) < (l.length : Int)) = true := by simp; omega
    have hg := entR_get l _ hc
    repeat (first | refine xPP rfl ?_ | refine xPE rfl ?_ | refine xEP rfl ?_ | refine xEE rfl ?_ | refine AQ.done ?_ | refine AQ.skip (by kernel_rfl) rfl ?_ | refine AQ.s2b (by kernel_rfl) rfl rfl rfl rfl ?_ | refine AQ.mark (by kernel_rfl) rfl rfl rfl rfl rfl rfl rfl ?_ | refine AP.cond_true rfl rfl ?_ | refine AP.cond_false rfl rfl ?_ | (refine AP.region rfl (by kernel_rfl) ?_; simp only [go_sem, Nat.reduceAdd, Nat.reduceLeDiff, reduceCtorEq, entR_len, c1, hg]) | (refine AP.drawQ rfl rfl (by kernel_rfl) ?_; simp only [go_sem, Nat.reduceAdd, Nat.reduceLeDiff, reduceCtorEq, entR_len, c1, hg]) | (refine vq_id ?_; simp only [go_sem, Nat.reduceAdd, Nat.reduceLeDiff, reduceCtorEq, entR_len, c1, hg]) | (refine ⟨by first | omega | (intros; simp_all; done) | (intros; simp_all; omega), ?_⟩; try simp only [go_sem, Nat.reduceAdd, Nat.reduceLeDiff, reduceCtorEq, entR_len, c1, hg]))
    refine AE.ret rfl ⟨rfl, trivial⟩ ⟨rfl, ?_⟩
    unfold hasL
    rw [decide_eq_true hc]
    rfl
  · have c1 : decide ((rankL k l : Int) < (l.length : Int)) = false := by simp; omega
    have hg := entR_out l (rankL k l) (by omega)
    repeat (first | refine xPP rfl ?_ | refine xPE rfl ?_ | refine xEP rfl ?_ | refine xEE rfl ?_ | refine AQ.done ?_ | refine AQ.skip (by kernel_rfl) rfl ?_ | refine AQ.s2b (by kernel_rfl) rfl rfl rfl rfl ?_ | refine AQ.mark (by kernel_rfl) rfl rfl rfl rfl rfl rfl rfl ?_ | refine AP.cond_true rfl rfl ?_ | refine AP.cond_false rfl rfl ?_ | (refine AP.region rfl (by kernel_rfl) ?_; simp only [go_sem, Nat.reduceAdd, Nat.reduceLeDiff, reduceCtorEq, entR_len, c1, hg, List.take_nil]) | (refine AP.drawQ rfl rfl (by kernel_rfl) ?_; simp only [go_sem, Nat.reduceAdd, Nat.reduceLeDiff, reduceCtorEq, entR_len, c1, hg, List.take_nil]) | (refine vq_id ?_; simp only [go_sem, Nat.reduceAdd, Nat.reduceLeDiff, reduceCtorEq, entR_len, c1, hg, List.take_nil]) | (refine ⟨by first | omega | (intros; simp_all; done) | (intros; simp_all; omega), ?_⟩; try simp only [go_sem, Nat.reduceAdd, Nat.reduceLeDiff, reduceCtorEq, entR_len, c1, hg, List.take_nil]))
    refine AE.ret rfl ⟨rfl, trivial⟩ ⟨rfl, ?_⟩
    unfold hasL
    rw [decide_eq_false hc]
    rfl
def putL (k : List UInt8) (v : Int) (l : List Ent) : List Ent := l.take (rankL k l) ++ [(k, v)] ++ l.drop (afterL k l)
theorem put_ref (l : List Ent) (k : List UInt8) (v : Int) (hl : l.length ≤ 1000000) : PFn Try.prog 70 [Lv l, Sv k, Iv v] (Lv (putL k v l)) := by
  have h1 := rankL_le k l
  have h2 := afterL_le k l
  have hw := wr (x := (rankL k l : Int) + 1) (by omega)
  refine ACall.walk [0, 1, 2, 6, 7, 8, 25] [] Try.func70 rfl Try.ntmps70 (by kernel_rfl) (by rfl) rfl fun W own I0 φ0 => ?_
  repeat (first | refine xPP rfl ?_ | refine xPE rfl ?_ | refine xEP rfl ?_ | refine xEE rfl ?_ | refine AQ.done ?_ | refine AQ.skip (by kernel_rfl) rfl ?_ | refine AQ.s2b (by kernel_rfl) rfl rfl rfl rfl ?_ | refine AQ.mark (by kernel_rfl) rfl rfl rfl rfl rfl rfl rfl ?_ | refine AP.cond_true rfl rfl ?_ | refine AP.cond_false rfl rfl ?_ | (refine AP.region rfl (by kernel_rfl) ?_; simp only [go_sem, Nat.reduceAdd, Nat.reduceLeDiff, reduceCtorEq]) | (refine AP.drawQ rfl rfl (by kernel_rfl) ?_; simp only [go_sem, Nat.reduceAdd, Nat.reduceLeDiff, reduceCtorEq]) | (refine vq_id ?_; simp only [go_sem, Nat.reduceAdd, Nat.reduceLeDiff, reduceCtorEq]) | (refine ⟨by first | omega | (intros; simp_all; done) | (intros; simp_all; omega), ?_⟩; try simp only [go_sem, Nat.reduceAdd, Nat.reduceLeDiff, reduceCtorEq]))
  refine AQ.fn (by kernel_rfl) rfl rfl rfl (rank_ref l k hl) rfl ?_
  repeat (first | refine xPP rfl ?_ | refine xPE rfl ?_ | refine xEP rfl ?_ | refine xEE rfl ?_ | refine AQ.done ?_ | refine AQ.skip (by kernel_rfl) rfl ?_ | refine AQ.s2b (by kernel_rfl) rfl rfl rfl rfl ?_ | refine AQ.mark (by kernel_rfl) rfl rfl rfl rfl rfl rfl rfl ?_ | refine AP.cond_true rfl rfl ?_ | refine AP.cond_false rfl rfl ?_ | (refine AP.region rfl (by kernel_rfl) ?_; simp only [go_sem, Nat.reduceAdd, Nat.reduceLeDiff, reduceCtorEq, entR_len, Int.toNat_natCast, entR_take]) | (refine AP.drawQ rfl rfl (by kernel_rfl) ?_; simp only [go_sem, Nat.reduceAdd, Nat.reduceLeDiff, reduceCtorEq, entR_len, Int.toNat_natCast, entR_take]) | (refine vq_id ?_; simp only [go_sem, Nat.reduceAdd, Nat.reduceLeDiff, reduceCtorEq, entR_len, Int.toNat_natCast, entR_take]) | (refine ⟨by first | omega | (intros; simp_all; done) | (intros; simp_all; omega), ?_⟩; try simp only [go_sem, Nat.reduceAdd, Nat.reduceLeDiff, reduceCtorEq, entR_len, Int.toNat_natCast, entR_take]))
  refine AQ.append (hnb := rfl) (rows := []) (es := 1) (by kernel_rfl) rfl rfl rfl (by rfl) Try.tk88 Try.sz97 (by show Option.map _ (zro Try.prog 97) = _; rw [Try.zr97]; rfl) Try.by97 (by first | rfl | (simp only [entR_len, List.length_take, List.length_cons, List.length_nil]; done) | (simp only [entR_len, List.length_take, List.length_cons, List.length_nil]; omega)) (by simp only [entR_len, List.length_take, List.length_cons, List.length_nil]; omega) (by simp only [entR_len, List.length_take, List.length_cons, List.length_nil]; omega) ?_
  simp only [go_sem, Nat.reduceAdd, Nat.reduceLeDiff, reduceCtorEq, List.nil_append]
  repeat (first | refine xPP rfl ?_ | refine xPE rfl ?_ | refine xEP rfl ?_ | refine xEE rfl ?_ | refine AQ.done ?_ | refine AQ.skip (by kernel_rfl) rfl ?_ | refine AQ.s2b (by kernel_rfl) rfl rfl rfl rfl ?_ | refine AQ.mark (by kernel_rfl) rfl rfl rfl rfl rfl rfl rfl ?_ | refine AP.cond_true rfl rfl ?_ | refine AP.cond_false rfl rfl ?_ | (refine AP.region rfl (by kernel_rfl) ?_; simp only [go_sem, Nat.reduceAdd, Nat.reduceLeDiff, reduceCtorEq, entR_len, entR_one]) | (refine AP.drawQ rfl rfl (by kernel_rfl) ?_; simp only [go_sem, Nat.reduceAdd, Nat.reduceLeDiff, reduceCtorEq, entR_len, entR_one]) | (refine vq_id ?_; simp only [go_sem, Nat.reduceAdd, Nat.reduceLeDiff, reduceCtorEq, entR_len, entR_one]) | (refine ⟨by first | omega | (intros; simp_all; done) | (intros; simp_all; omega), ?_⟩; try simp only [go_sem, Nat.reduceAdd, Nat.reduceLeDiff, reduceCtorEq, entR_len, entR_one]))
  refine AQ.append (hnb := rfl) (rows := entR (l.take (rankL k l))) (es := 1) (by kernel_rfl) rfl rfl rfl (by rfl) Try.tk88 Try.sz97 (by show Option.map _ (zro Try.prog 97) = _; rw [Try.zr97]; rfl) Try.by97 (by first | rfl | (simp only [entR_len, List.length_take, List.length_cons, List.length_nil]; done) | (simp only [entR_len, List.length_take, List.length_cons, List.length_nil]; omega)) (by simp only [entR_len, List.length_take, List.length_cons, List.length_nil]; omega) (by simp only [entR_len, List.length_take, List.length_cons, List.length_nil]; omega) ?_
  simp only [go_sem, Nat.reduceAdd, Nat.reduceLeDiff, reduceCtorEq, entR_app]
  repeat (first | refine xPP rfl ?_ | refine xPE rfl ?_ | refine xEP rfl ?_ | refine xEE rfl ?_ | refine AQ.done ?_ | refine AQ.skip (by kernel_rfl) rfl ?_ | refine AQ.s2b (by kernel_rfl) rfl rfl rfl rfl ?_ | refine AQ.mark (by kernel_rfl) rfl rfl rfl rfl rfl rfl rfl ?_ | refine AP.cond_true rfl rfl ?_ | refine AP.cond_false rfl rfl ?_ | (refine AP.region rfl (by kernel_rfl) ?_; simp only [go_sem, Nat.reduceAdd, Nat.reduceLeDiff, reduceCtorEq]) | (refine AP.drawQ rfl rfl (by kernel_rfl) ?_; simp only [go_sem, Nat.reduceAdd, Nat.reduceLeDiff, reduceCtorEq]) | (refine vq_id ?_; simp only [go_sem, Nat.reduceAdd, Nat.reduceLeDiff, reduceCtorEq]) | (refine ⟨by first | omega | (intros; simp_all; done) | (intros; simp_all; omega), ?_⟩; try simp only [go_sem, Nat.reduceAdd, Nat.reduceLeDiff, reduceCtorEq]))
  refine AQ.fn (by kernel_rfl) rfl rfl rfl (has_ref l k hl) rfl ?_
  repeat (first | refine xPP rfl ?_ | refine xPE rfl ?_ | refine xEP rfl ?_ | refine xEE rfl ?_ | refine AQ.done ?_ | refine AQ.skip (by kernel_rfl) rfl ?_ | refine AQ.s2b (by kernel_rfl) rfl rfl rfl rfl ?_ | refine AQ.mark (by kernel_rfl) rfl rfl rfl rfl rfl rfl rfl ?_ | refine AP.cond_true rfl rfl ?_ | refine AP.cond_false rfl rfl ?_ | (refine AP.region rfl (by kernel_rfl) ?_; simp only [go_sem, Nat.reduceAdd, Nat.reduceLeDiff, reduceCtorEq]) | (refine AP.drawQ rfl rfl (by kernel_rfl) ?_; simp only [go_sem, Nat.reduceAdd, Nat.reduceLeDiff, reduceCtorEq]) | (refine vq_id ?_; simp only [go_sem, Nat.reduceAdd, Nat.reduceLeDiff, reduceCtorEq]) | (refine ⟨by first | omega | (intros; simp_all; done) | (intros; simp_all; omega), ?_⟩; try simp only [go_sem, Nat.reduceAdd, Nat.reduceLeDiff, reduceCtorEq]))
  have hw2 := wr (x := (afterL k l : Int)) (by omega)
  have hlp : (entR (putL k v l)).length = rankL k l + 1 + (l.length - afterL k l) := by simp [entR_len, putL]; omega
  have hln := List.length_take_of_le (l := l) (i := rankL k l) h1
  refine AP.cond rfl rfl (fun h3 => ?_) (fun h3 => ?_)
  · have ea : rankL k l + 1 = afterL k l := by unfold afterL; rw [if_pos h3]
    have ea' : (rankL k l : Int) + 1 = ((afterL k l : Nat) : Int) := by omega
    repeat (first | refine xPP rfl ?_ | refine xPE rfl ?_ | refine xEP rfl ?_ | refine xEE rfl ?_ | refine AQ.done ?_ | refine AQ.skip (by kernel_rfl) rfl ?_ | refine AQ.s2b (by kernel_rfl) rfl rfl rfl rfl ?_ | refine AQ.mark (by kernel_rfl) rfl rfl rfl rfl rfl rfl rfl ?_ | refine AP.cond_true rfl rfl ?_ | refine AP.cond_false rfl rfl ?_ | (refine AP.region rfl (by kernel_rfl) ?_; simp only [go_sem, Nat.reduceAdd, Nat.reduceLeDiff, reduceCtorEq, ea', hw2, Int.toNat_natCast, entR_drop, entR_len]) | (refine AP.drawQ rfl rfl (by kernel_rfl) ?_; simp only [go_sem, Nat.reduceAdd, Nat.reduceLeDiff, reduceCtorEq, ea', hw2, Int.toNat_natCast, entR_drop, entR_len]) | (refine vq_id ?_; simp only [go_sem, Nat.reduceAdd, Nat.reduceLeDiff, reduceCtorEq, ea', hw2, Int.toNat_natCast, entR_drop, entR_len]) | (refine ⟨by first | omega | (intros; simp_all; done) | (intros; simp_all; omega), ?_⟩; try simp only [go_sem, Nat.reduceAdd, Nat.reduceLeDiff, reduceCtorEq, ea', hw2, Int.toNat_natCast, entR_drop, entR_len]))
    refine AQ.append (hnb := rfl) (rows := entR (l.take (rankL k l) ++ [(k, v)])) (es := 1) (by kernel_rfl) rfl rfl rfl (by rfl) Try.tk88 Try.sz97 (by show Option.map _ (zro Try.prog 97) = _; rw [Try.zr97]; rfl) Try.by97 (by first | rfl | (simp only [entR_len, List.length_append, List.length_take, List.length_drop, hln, List.length_cons, List.length_nil]; done) | (simp only [entR_len, List.length_append, List.length_take, List.length_drop, hln, List.length_cons, List.length_nil]; omega)) (by simp only [entR_len, List.length_append, List.length_take, List.length_drop, hln, List.length_cons, List.length_nil]; omega) (by simp only [entR_len, List.length_append, List.length_take, List.length_drop, hln, List.length_cons, List.length_nil]; omega) ?_
    simp only [go_sem, Nat.reduceAdd, Nat.reduceLeDiff, reduceCtorEq, entR_app, entR_len, hln, List.length_append, List.length_drop]
    repeat (first | refine xPP rfl ?_ | refine xPE rfl ?_ | refine xEP rfl ?_ | refine xEE rfl ?_ | refine AQ.done ?_ | refine AQ.skip (by kernel_rfl) rfl ?_ | refine AQ.s2b (by kernel_rfl) rfl rfl rfl rfl ?_ | refine AQ.mark (by kernel_rfl) rfl rfl rfl rfl rfl rfl rfl ?_ | refine AP.cond_true rfl rfl ?_ | refine AP.cond_false rfl rfl ?_ | (refine AP.region rfl (by kernel_rfl) ?_; simp only [go_sem, Nat.reduceAdd, Nat.reduceLeDiff, reduceCtorEq]) | (refine AP.drawQ rfl rfl (by kernel_rfl) ?_; simp only [go_sem, Nat.reduceAdd, Nat.reduceLeDiff, reduceCtorEq]) | (refine vq_id ?_; simp only [go_sem, Nat.reduceAdd, Nat.reduceLeDiff, reduceCtorEq]) | (refine ⟨by first | omega | (intros; simp_all; done) | (intros; simp_all; omega), ?_⟩; try simp only [go_sem, Nat.reduceAdd, Nat.reduceLeDiff, reduceCtorEq]))
    refine AE.freeze 0 (el := 97) (es := 2) (rows := entR (putL k v l)) rfl (by simp only [go_sem, Nat.reduceAdd, Nat.reduceLeDiff, reduceCtorEq, hlp]; first | done | trivial | omega | (simp; done) | (simp; omega)) (by simp only [go_sem, Nat.reduceAdd, Nat.reduceLeDiff, reduceCtorEq, hlp]; first | done | trivial | omega | (simp; done) | (simp; omega)) ?_; simp only [go_sem, Nat.reduceAdd, Nat.reduceLeDiff, reduceCtorEq, hlp]
    exact AE.ret rfl ⟨rfl, trivial⟩ ⟨rfl, by rw [List.take_of_length_le (by rw [hlp]; omega)]; rfl⟩
  · have ea : rankL k l = afterL k l := by unfold afterL; rw [if_neg (by rw [h3]; exact Bool.false_ne_true)]
    have ea' : (rankL k l : Int) = ((afterL k l : Nat) : Int) := by omega
    repeat (first | refine xPP rfl ?_ | refine xPE rfl ?_ | refine xEP rfl ?_ | refine xEE rfl ?_ | refine AQ.done ?_ | refine AQ.skip (by kernel_rfl) rfl ?_ | refine AQ.s2b (by kernel_rfl) rfl rfl rfl rfl ?_ | refine AQ.mark (by kernel_rfl) rfl rfl rfl rfl rfl rfl rfl ?_ | refine AP.cond_true rfl rfl ?_ | refine AP.cond_false rfl rfl ?_ | (refine AP.region rfl (by kernel_rfl) ?_; simp only [go_sem, Nat.reduceAdd, Nat.reduceLeDiff, reduceCtorEq, ea', hw2, Int.toNat_natCast, entR_drop, entR_len]) | (refine AP.drawQ rfl rfl (by kernel_rfl) ?_; simp only [go_sem, Nat.reduceAdd, Nat.reduceLeDiff, reduceCtorEq, ea', hw2, Int.toNat_natCast, entR_drop, entR_len]) | (refine vq_id ?_; simp only [go_sem, Nat.reduceAdd, Nat.reduceLeDiff, reduceCtorEq, ea', hw2, Int.toNat_natCast, entR_drop, entR_len]) | (refine ⟨by first | omega | (intros; simp_all; done) | (intros; simp_all; omega), ?_⟩; try simp only [go_sem, Nat.reduceAdd, Nat.reduceLeDiff, reduceCtorEq, ea', hw2, Int.toNat_natCast, entR_drop, entR_len]))
    refine AQ.append (hnb := rfl) (rows := entR (l.take (rankL k l) ++ [(k, v)])) (es := 1) (by kernel_rfl) rfl rfl rfl (by rfl) Try.tk88 Try.sz97 (by show Option.map _ (zro Try.prog 97) = _; rw [Try.zr97]; rfl) Try.by97 (by first | rfl | (simp only [entR_len, List.length_append, List.length_take, List.length_drop, hln, List.length_cons, List.length_nil]; done) | (simp only [entR_len, List.length_append, List.length_take, List.length_drop, hln, List.length_cons, List.length_nil]; omega)) (by simp only [entR_len, List.length_append, List.length_take, List.length_drop, hln, List.length_cons, List.length_nil]; omega) (by simp only [entR_len, List.length_append, List.length_take, List.length_drop, hln, List.length_cons, List.length_nil]; omega) ?_
    simp only [go_sem, Nat.reduceAdd, Nat.reduceLeDiff, reduceCtorEq, entR_app, entR_len, hln, List.length_append, List.length_drop]
    repeat (first | refine xPP rfl ?_ | refine xPE rfl ?_ | refine xEP rfl ?_ | refine xEE rfl ?_ | refine AQ.done ?_ | refine AQ.skip (by kernel_rfl) rfl ?_ | refine AQ.s2b (by kernel_rfl) rfl rfl rfl rfl ?_ | refine AQ.mark (by kernel_rfl) rfl rfl rfl rfl rfl rfl rfl ?_ | refine AP.cond_true rfl rfl ?_ | refine AP.cond_false rfl rfl ?_ | (refine AP.region rfl (by kernel_rfl) ?_; simp only [go_sem, Nat.reduceAdd, Nat.reduceLeDiff, reduceCtorEq]) | (refine AP.drawQ rfl rfl (by kernel_rfl) ?_; simp only [go_sem, Nat.reduceAdd, Nat.reduceLeDiff, reduceCtorEq]) | (refine vq_id ?_; simp only [go_sem, Nat.reduceAdd, Nat.reduceLeDiff, reduceCtorEq]) | (refine ⟨by first | omega | (intros; simp_all; done) | (intros; simp_all; omega), ?_⟩; try simp only [go_sem, Nat.reduceAdd, Nat.reduceLeDiff, reduceCtorEq]))
    refine AE.freeze 0 (el := 97) (es := 2) (rows := entR (putL k v l)) rfl (by simp only [go_sem, Nat.reduceAdd, Nat.reduceLeDiff, reduceCtorEq, hlp]; first | done | trivial | omega | (simp; done) | (simp; omega)) (by simp only [go_sem, Nat.reduceAdd, Nat.reduceLeDiff, reduceCtorEq, hlp]; first | done | trivial | omega | (simp; done) | (simp; omega)) ?_; simp only [go_sem, Nat.reduceAdd, Nat.reduceLeDiff, reduceCtorEq, hlp]
    exact AE.ret rfl ⟨rfl, trivial⟩ ⟨rfl, by rw [List.take_of_length_le (by rw [hlp]; omega)]; rfl⟩
end Go.Proofs.Ytfgffpkdjmeaoaa
end

section
namespace Go.Proofs.Ytfgffpkdjmeaoaa
open Go Go.AL Go.RowKit
set_option maxRecDepth 10000
set_option maxHeartbeats 4000000
theorem take_len {l : List Ent} {n : Nat} (h : n ≤ l.length) : (l.take n).length = n := List.length_take_of_le h
theorem entT (X : List Ent) (n : Nat) (h : X.length ≤ n) : (entR X).take n = entR X := List.take_of_length_le (by rw [entR_len]; exact h)
theorem split_ref (l : List Ent) (k : List UInt8) (hl : l.length ≤ 1000000) : PFn Try.prog 69 [Lv l, Sv k] (.tup [Lv (l.take (rankL k l)), Lv (l.drop (afterL k l))]) := by
  have h1 := rankL_le k l
  have h2 := afterL_le k l
  have hw := wr (x := (rankL k l : Int) + 1) (by omega)
  have hw2 := wr (x := (afterL k l : Int)) (by omega)
  have hln := take_len h1
  have hl1 : (entR (l.take (rankL k l))).length = rankL k l := by rw [entR_len, hln]
  have hl2 : (entR (l.drop (afterL k l))).length = l.length - afterL k l := by rw [entR_len, List.length_drop]
  refine ACall.walk [0, 1, 4, 5, 6, 7, 18] [] Try.func69 rfl Try.ntmps69 (by kernel_rfl) (by rfl) rfl fun W own I0 φ0 => ?_
  repeat (first | refine xPP rfl ?_ | refine xPE rfl ?_ | refine xEP rfl ?_ | refine xEE rfl ?_ | refine AQ.done ?_ | refine AQ.skip (by kernel_rfl) rfl ?_ | refine AQ.s2b (by kernel_rfl) rfl rfl rfl rfl ?_ | refine AQ.mark (by kernel_rfl) rfl rfl rfl rfl rfl rfl rfl ?_ | refine AP.cond_true rfl rfl ?_ | refine AP.cond_false rfl rfl ?_ | (refine AP.region rfl (by kernel_rfl) ?_; simp only [go_sem, Nat.reduceAdd, Nat.reduceLeDiff, reduceCtorEq]) | (refine AP.drawQ rfl rfl (by kernel_rfl) ?_; simp only [go_sem, Nat.reduceAdd, Nat.reduceLeDiff, reduceCtorEq]) | (refine vq_id ?_; simp only [go_sem, Nat.reduceAdd, Nat.reduceLeDiff, reduceCtorEq]) | (refine ⟨by first | omega | (intros; simp_all; done) | (intros; simp_all; omega), ?_⟩; try simp only [go_sem, Nat.reduceAdd, Nat.reduceLeDiff, reduceCtorEq]))
  refine AQ.fn (by kernel_rfl) rfl rfl rfl (rank_ref l k hl) rfl ?_
  repeat (first | refine xPP rfl ?_ | refine xPE rfl ?_ | refine xEP rfl ?_ | refine xEE rfl ?_ | refine AQ.done ?_ | refine AQ.skip (by kernel_rfl) rfl ?_ | refine AQ.s2b (by kernel_rfl) rfl rfl rfl rfl ?_ | refine AQ.mark (by kernel_rfl) rfl rfl rfl rfl rfl rfl rfl ?_ | refine AP.cond_true rfl rfl ?_ | refine AP.cond_false rfl rfl ?_ | (refine AP.region rfl (by kernel_rfl) ?_; simp only [go_sem, Nat.reduceAdd, Nat.reduceLeDiff, reduceCtorEq, entR_len, Int.toNat_natCast, entR_take]) | (refine AP.drawQ rfl rfl (by kernel_rfl) ?_; simp only [go_sem, Nat.reduceAdd, Nat.reduceLeDiff, reduceCtorEq, entR_len, Int.toNat_natCast, entR_take]) | (refine vq_id ?_; simp only [go_sem, Nat.reduceAdd, Nat.reduceLeDiff, reduceCtorEq, entR_len, Int.toNat_natCast, entR_take]) | (refine ⟨by first | omega | (intros; simp_all; done) | (intros; simp_all; omega), ?_⟩; try simp only [go_sem, Nat.reduceAdd, Nat.reduceLeDiff, reduceCtorEq, entR_len, Int.toNat_natCast, entR_take]))
  refine AQ.append (hnb := rfl) (rows := []) (es := 1) (by kernel_rfl) rfl rfl rfl (by rfl) Try.tk88 Try.sz97 (by show Option.map _ (zro Try.prog 97) = _; rw [Try.zr97]; rfl) Try.by97 (by first | rfl | (simp only [entR_len, List.length_take, List.length_cons, List.length_nil]; done) | (simp only [entR_len, List.length_take, List.length_cons, List.length_nil]; omega)) (by simp only [entR_len, List.length_take, List.length_cons, List.length_nil]; omega) (by simp only [entR_len, List.length_take, List.length_cons, List.length_nil]; omega) ?_
  simp only [go_sem, Nat.reduceAdd, Nat.reduceLeDiff, reduceCtorEq, List.nil_append]
  repeat (first | refine xPP rfl ?_ | refine xPE rfl ?_ | refine xEP rfl ?_ | refine xEE rfl ?_ | refine AQ.done ?_ | refine AQ.skip (by kernel_rfl) rfl ?_ | refine AQ.s2b (by kernel_rfl) rfl rfl rfl rfl ?_ | refine AQ.mark (by kernel_rfl) rfl rfl rfl rfl rfl rfl rfl ?_ | refine AP.cond_true rfl rfl ?_ | refine AP.cond_false rfl rfl ?_ | (refine AP.region rfl (by kernel_rfl) ?_; simp only [go_sem, Nat.reduceAdd, Nat.reduceLeDiff, reduceCtorEq]) | (refine AP.drawQ rfl rfl (by kernel_rfl) ?_; simp only [go_sem, Nat.reduceAdd, Nat.reduceLeDiff, reduceCtorEq]) | (refine vq_id ?_; simp only [go_sem, Nat.reduceAdd, Nat.reduceLeDiff, reduceCtorEq]) | (refine ⟨by first | omega | (intros; simp_all; done) | (intros; simp_all; omega), ?_⟩; try simp only [go_sem, Nat.reduceAdd, Nat.reduceLeDiff, reduceCtorEq]))
  refine AQ.fn (by kernel_rfl) rfl rfl rfl (has_ref l k hl) rfl ?_
  repeat (first | refine xPP rfl ?_ | refine xPE rfl ?_ | refine xEP rfl ?_ | refine xEE rfl ?_ | refine AQ.done ?_ | refine AQ.skip (by kernel_rfl) rfl ?_ | refine AQ.s2b (by kernel_rfl) rfl rfl rfl rfl ?_ | refine AQ.mark (by kernel_rfl) rfl rfl rfl rfl rfl rfl rfl ?_ | refine AP.cond_true rfl rfl ?_ | refine AP.cond_false rfl rfl ?_ | (refine AP.region rfl (by kernel_rfl) ?_; simp only [go_sem, Nat.reduceAdd, Nat.reduceLeDiff, reduceCtorEq]) | (refine AP.drawQ rfl rfl (by kernel_rfl) ?_; simp only [go_sem, Nat.reduceAdd, Nat.reduceLeDiff, reduceCtorEq]) | (refine vq_id ?_; simp only [go_sem, Nat.reduceAdd, Nat.reduceLeDiff, reduceCtorEq]) | (refine ⟨by first | omega | (intros; simp_all; done) | (intros; simp_all; omega), ?_⟩; try simp only [go_sem, Nat.reduceAdd, Nat.reduceLeDiff, reduceCtorEq]))
  refine AP.cond rfl rfl (fun h3 => ?_) (fun h3 => ?_)
  · have ea : rankL k l + 1 = afterL k l := by unfold afterL; rw [if_pos h3]
    have ea' : (rankL k l : Int) + 1 = ((afterL k l : Nat) : Int) := by omega
    repeat (first | refine xPP rfl ?_ | refine xPE rfl ?_ | refine xEP rfl ?_ | refine xEE rfl ?_ | refine AQ.done ?_ | refine AQ.skip (by kernel_rfl) rfl ?_ | refine AQ.s2b (by kernel_rfl) rfl rfl rfl rfl ?_ | refine AQ.mark (by kernel_rfl) rfl rfl rfl rfl rfl rfl rfl ?_ | refine AP.cond_true rfl rfl ?_ | refine AP.cond_false rfl rfl ?_ | (refine AP.region rfl (by kernel_rfl) ?_; simp only [go_sem, Nat.reduceAdd, Nat.reduceLeDiff, reduceCtorEq, ea', hw2, Int.toNat_natCast, entR_drop, entR_len]) | (refine AP.drawQ rfl rfl (by kernel_rfl) ?_; simp only [go_sem, Nat.reduceAdd, Nat.reduceLeDiff, reduceCtorEq, ea', hw2, Int.toNat_natCast, entR_drop, entR_len]) | (refine vq_id ?_; simp only [go_sem, Nat.reduceAdd, Nat.reduceLeDiff, reduceCtorEq, ea', hw2, Int.toNat_natCast, entR_drop, entR_len]) | (refine ⟨by first | omega | (intros; simp_all; done) | (intros; simp_all; omega), ?_⟩; try simp only [go_sem, Nat.reduceAdd, Nat.reduceLeDiff, reduceCtorEq, ea', hw2, Int.toNat_natCast, entR_drop, entR_len]))
    refine AQ.append (hnb := rfl) (rows := []) (es := 1) (by kernel_rfl) rfl rfl rfl (by rfl) Try.tk88 Try.sz97 (by show Option.map _ (zro Try.prog 97) = _; rw [Try.zr97]; rfl) Try.by97 (by first | rfl | (simp only [entR_len, List.length_drop, List.length_cons, List.length_nil]; done) | (simp only [entR_len, List.length_drop, List.length_cons, List.length_nil]; omega)) (by simp only [entR_len, List.length_drop, List.length_cons, List.length_nil]; omega) (by simp only [entR_len, List.length_drop, List.length_cons, List.length_nil]; omega) ?_
    simp only [go_sem, Nat.reduceAdd, Nat.reduceLeDiff, reduceCtorEq, List.nil_append]
    repeat (first | refine xPP rfl ?_ | refine xPE rfl ?_ | refine xEP rfl ?_ | refine xEE rfl ?_ | refine AQ.done ?_ | refine AQ.skip (by kernel_rfl) rfl ?_ | refine AQ.s2b (by kernel_rfl) rfl rfl rfl rfl ?_ | refine AQ.mark (by kernel_rfl) rfl rfl rfl rfl rfl rfl rfl ?_ | refine AP.cond_true rfl rfl ?_ | refine AP.cond_false rfl rfl ?_ | (refine AP.region rfl (by kernel_rfl) ?_; simp only [go_sem, Nat.reduceAdd, Nat.reduceLeDiff, reduceCtorEq]) | (refine AP.drawQ rfl rfl (by kernel_rfl) ?_; simp only [go_sem, Nat.reduceAdd, Nat.reduceLeDiff, reduceCtorEq]) | (refine vq_id ?_; simp only [go_sem, Nat.reduceAdd, Nat.reduceLeDiff, reduceCtorEq]) | (refine ⟨by first | omega | (intros; simp_all; done) | (intros; simp_all; omega), ?_⟩; try simp only [go_sem, Nat.reduceAdd, Nat.reduceLeDiff, reduceCtorEq]))
    refine AE.freeze 0 (el := 97) (es := 2) (rows := entR (l.take (rankL k l))) rfl (by simp only [go_sem, Nat.reduceAdd, Nat.reduceLeDiff, reduceCtorEq, hl1, hl2]; first | done | trivial | omega | (simp; done) | (simp; omega)) (by simp only [go_sem, Nat.reduceAdd, Nat.reduceLeDiff, reduceCtorEq, hl1, hl2]; first | done | trivial | omega | (simp; done) | (simp; omega)) ?_; simp only [go_sem, Nat.reduceAdd, Nat.reduceLeDiff, reduceCtorEq, hl1, hl2]
    refine AE.freeze 1 (el := 97) (es := 2) (rows := entR (l.drop (afterL k l))) rfl (by simp only [go_sem, Nat.reduceAdd, Nat.reduceLeDiff, reduceCtorEq, hl1, hl2]; first | done | trivial | omega | (simp; done) | (simp; omega)) (by simp only [go_sem, Nat.reduceAdd, Nat.reduceLeDiff, reduceCtorEq, hl1, hl2]; first | done | trivial | omega | (simp; done) | (simp; omega)) ?_; simp only [go_sem, Nat.reduceAdd, Nat.reduceLeDiff, reduceCtorEq, hl1, hl2]
    exact AE.ret rfl ⟨rfl, rfl, trivial⟩ ⟨rfl, by rw [entT (l.take (rankL k l)) _ (by simp [hln]), entT (l.drop (afterL k l)) _ (by simp)]; rfl⟩
  · have ea : rankL k l = afterL k l := by unfold afterL; rw [if_neg (by rw [h3]; exact Bool.false_ne_true)]
    have ea' : (rankL k l : Int) = ((afterL k l : Nat) : Int) := by omega
    repeat (first | refine xPP rfl ?_ | refine xPE rfl ?_ | refine xEP rfl ?_ | refine xEE rfl ?_ | refine AQ.done ?_ | refine AQ.skip (by kernel_rfl) rfl ?_ | refine AQ.s2b (by kernel_rfl) rfl rfl rfl rfl ?_ | refine AQ.mark (by kernel_rfl) rfl rfl rfl rfl rfl rfl rfl ?_ | refine AP.cond_true rfl rfl ?_ | refine AP.cond_false rfl rfl ?_ | (refine AP.region rfl (by kernel_rfl) ?_; simp only [go_sem, Nat.reduceAdd, Nat.reduceLeDiff, reduceCtorEq, ea', hw2, Int.toNat_natCast, entR_drop, entR_len]) | (refine AP.drawQ rfl rfl (by kernel_rfl) ?_; simp only [go_sem, Nat.reduceAdd, Nat.reduceLeDiff, reduceCtorEq, ea', hw2, Int.toNat_natCast, entR_drop, entR_len]) | (refine vq_id ?_; simp only [go_sem, Nat.reduceAdd, Nat.reduceLeDiff, reduceCtorEq, ea', hw2, Int.toNat_natCast, entR_drop, entR_len]) | (refine ⟨by first | omega | (intros; simp_all; done) | (intros; simp_all; omega), ?_⟩; try simp only [go_sem, Nat.reduceAdd, Nat.reduceLeDiff, reduceCtorEq, ea', hw2, Int.toNat_natCast, entR_drop, entR_len]))
    refine AQ.append (hnb := rfl) (rows := []) (es := 1) (by kernel_rfl) rfl rfl rfl (by rfl) Try.tk88 Try.sz97 (by show Option.map _ (zro Try.prog 97) = _; rw [Try.zr97]; rfl) Try.by97 (by first | rfl | (simp only [entR_len, List.length_drop, List.length_cons, List.length_nil]; done) | (simp only [entR_len, List.length_drop, List.length_cons, List.length_nil]; omega)) (by simp only [entR_len, List.length_drop, List.length_cons, List.length_nil]; omega) (by simp only [entR_len, List.length_drop, List.length_cons, List.length_nil]; omega) ?_
    simp only [go_sem, Nat.reduceAdd, Nat.reduceLeDiff, reduceCtorEq, List.nil_append]
    repeat (first | refine xPP rfl ?_ | refine xPE rfl ?_ | refine xEP rfl ?_ | refine xEE rfl ?_ | refine AQ.done ?_ | refine AQ.skip (by kernel_rfl) rfl ?_ | refine AQ.s2b (by kernel_rfl) rfl rfl rfl rfl ?_ | refine AQ.mark (by kernel_rfl) rfl rfl rfl rfl rfl rfl rfl ?_ | refine AP.cond_true rfl rfl ?_ | refine AP.cond_false rfl rfl ?_ | (refine AP.region rfl (by kernel_rfl) ?_; simp only [go_sem, Nat.reduceAdd, Nat.reduceLeDiff, reduceCtorEq]) | (refine AP.drawQ rfl rfl (by kernel_rfl) ?_; simp only [go_sem, Nat.reduceAdd, Nat.reduceLeDiff, reduceCtorEq]) | (refine vq_id ?_; simp only [go_sem, Nat.reduceAdd, Nat.reduceLeDiff, reduceCtorEq]) | (refine ⟨by first | omega | (intros; simp_all; done) | (intros; simp_all; omega), ?_⟩; try simp only [go_sem, Nat.reduceAdd, Nat.reduceLeDiff, reduceCtorEq]))
    refine AE.freeze 0 (el := 97) (es := 2) (rows := entR (l.take (rankL k l))) rfl (by simp only [go_sem, Nat.reduceAdd, Nat.reduceLeDiff, reduceCtorEq, hl1, hl2]; first | done | trivial | omega | (simp; done) | (simp; omega)) (by simp only [go_sem, Nat.reduceAdd, Nat.reduceLeDiff, reduceCtorEq, hl1, hl2]; first | done | trivial | omega | (simp; done) | (simp; omega)) ?_; simp only [go_sem, Nat.reduceAdd, Nat.reduceLeDiff, reduceCtorEq, hl1, hl2]
    refine AE.freeze 1 (el := 97) (es := 2) (rows := entR (l.drop (afterL k l))) rfl (by simp only [go_sem, Nat.reduceAdd, Nat.reduceLeDiff, reduceCtorEq, hl1, hl2]; first | done | trivial | omega | (simp; done) | (simp; omega)) (by simp only [go_sem, Nat.reduceAdd, Nat.reduceLeDiff, reduceCtorEq, hl1, hl2]; first | done | trivial | omega | (simp; done) | (simp; omega)) ?_; simp only [go_sem, Nat.reduceAdd, Nat.reduceLeDiff, reduceCtorEq, hl1, hl2]
    exact AE.ret rfl ⟨rfl, rfl, trivial⟩ ⟨rfl, by rw [entT (l.take (rankL k l)) _ (by simp [hln]), entT (l.drop (afterL k l)) _ (by simp)]; rfl⟩
def delL (k : List UInt8) (l : List Ent) : List Ent := if hasL k l then l.take (rankL k l) ++ l.drop (rankL k l + 1) else l
theorem del_ref (l : List Ent) (k : List UInt8) (hl : l.length ≤ 1000000) : PFn Try.prog 71 [Lv l, Sv k] (Lv (delL k l)) := by
  have h1 := rankL_le k l
  have hw := wr (x := (rankL k l : Int) + 1) (by omega)
  have hln := take_len h1
  refine ACall.walk [0, 1, 4, 5, 9] [] Try.func71 rfl Try.ntmps71 (by kernel_rfl) (by rfl) rfl fun W own I0 φ0 => ?_
  repeat (first | refine xPP rfl ?_ | refine xPE rfl ?_ | refine xEP rfl ?_ | refine xEE rfl ?_ | refine AQ.done ?_ | refine AQ.skip (by kernel_rfl) rfl ?_ | refine AQ.s2b (by kernel_rfl) rfl rfl rfl rfl ?_ | refine AQ.mark (by kernel_rfl) rfl rfl rfl rfl rfl rfl rfl ?_ | refine AP.cond_true rfl rfl ?_ | refine AP.cond_false rfl rfl ?_ | (refine AP.region rfl (by kernel_rfl) ?_; simp only [go_sem, Nat.reduceAdd, Nat.reduceLeDiff, reduceCtorEq]) | (refine AP.drawQ rfl rfl (by kernel_rfl) ?_; simp only [go_sem, Nat.reduceAdd, Nat.reduceLeDiff, reduceCtorEq]) | (refine vq_id ?_; simp only [go_sem, Nat.reduceAdd, Nat.reduceLeDiff, reduceCtorEq]) | (refine ⟨by first | omega | (intros; simp_all; done) | (intros; simp_all; omega), ?_⟩; try simp only [go_sem, Nat.reduceAdd, Nat.reduceLeDiff, reduceCtorEq]))
  refine AQ.fn (by kernel_rfl) rfl rfl rfl (has_ref l k hl) rfl ?_
  repeat (first | refine xPP rfl ?_ | refine xPE rfl ?_ | refine xEP rfl ?_ | refine xEE rfl ?_ | refine AQ.done ?_ | refine AQ.skip (by kernel_rfl) rfl ?_ | refine AQ.s2b (by kernel_rfl) rfl rfl rfl rfl ?_ | refine AQ.mark (by kernel_rfl) rfl rfl rfl rfl rfl rfl rfl ?_ | refine AP.cond_true rfl rfl ?_ | refine AP.cond_false rfl rfl ?_ | (refine AP.region rfl (by kernel_rfl) ?_; simp only [go_sem, Nat.reduceAdd, Nat.reduceLeDiff, reduceCtorEq]) | (refine AP.drawQ rfl rfl (by kernel_rfl) ?_; simp only [go_sem, Nat.reduceAdd, Nat.reduceLeDiff, reduceCtorEq]) | (refine vq_id ?_; simp only [go_sem, Nat.reduceAdd, Nat.reduceLeDiff, reduceCtorEq]) | (refine ⟨by first | omega | (intros; simp_all; done) | (intros; simp_all; omega), ?_⟩; try simp only [go_sem, Nat.reduceAdd, Nat.reduceLeDiff, reduceCtorEq]))
  refine AP.cond rfl rfl (fun h3 => ?_) (fun h3 => ?_)
  · have h3' : hasL k l = false := by simpa using h3
    repeat (first | refine xPP rfl ?_ | refine xPE rfl ?_ | refine xEP rfl ?_ | refine xEE rfl ?_ | refine AQ.done ?_ | refine AQ.skip (by kernel_rfl) rfl ?_ | refine AQ.s2b (by kernel_rfl) rfl rfl rfl rfl ?_ | refine AQ.mark (by kernel_rfl) rfl rfl rfl rfl rfl rfl rfl ?_ | refine AP.cond_true rfl rfl ?_ | refine AP.cond_false rfl rfl ?_ | (refine AP.region rfl (by kernel_rfl) ?_; simp only [go_sem, Nat.reduceAdd, Nat.reduceLeDiff, reduceCtorEq]) | (refine AP.drawQ rfl rfl (by kernel_rfl) ?_; simp only [go_sem, Nat.reduceAdd, Nat.reduceLeDiff, reduceCtorEq]) | (refine vq_id ?_; simp only [go_sem, Nat.reduceAdd, Nat.reduceLeDiff, reduceCtorEq]) | (refine ⟨by first | omega | (intros; simp_all; done) | (intros; simp_all; omega), ?_⟩; try simp only [go_sem, Nat.reduceAdd, Nat.reduceLeDiff, reduceCtorEq]))
    refine AQ.append (hnb := rfl) (rows := []) (es := 1) (by kernel_rfl) rfl rfl rfl (by rfl) Try.tk88 Try.sz97 (by show Option.map _ (zro Try.prog 97) = _; rw [Try.zr97]; rfl) Try.by97 (by first | rfl | (simp only [entR_len, List.length_cons, List.length_nil]; done) | (simp only [entR_len, List.length_cons, List.length_nil]; omega)) (by simp only [entR_len, List.length_cons, List.length_nil]; omega) (by simp only [entR_len, List.length_cons, List.length_nil]; omega) ?_
    simp only [go_sem, Nat.reduceAdd, Nat.reduceLeDiff, reduceCtorEq, List.nil_append, entR_len]
    repeat (first | refine xPP rfl ?_ | refine xPE rfl ?_ | refine xEP rfl ?_ | refine xEE rfl ?_ | refine AQ.done ?_ | refine AQ.skip (by kernel_rfl) rfl ?_ | refine AQ.s2b (by kernel_rfl) rfl rfl rfl rfl ?_ | refine AQ.mark (by kernel_rfl) rfl rfl rfl rfl rfl rfl rfl ?_ | refine AP.cond_true rfl rfl ?_ | refine AP.cond_false rfl rfl ?_ | (refine AP.region rfl (by kernel_rfl) ?_; simp only [go_sem, Nat.reduceAdd, Nat.reduceLeDiff, reduceCtorEq]) | (refine AP.drawQ rfl rfl (by kernel_rfl) ?_; simp only [go_sem, Nat.reduceAdd, Nat.reduceLeDiff, reduceCtorEq]) | (refine vq_id ?_; simp only [go_sem, Nat.reduceAdd, Nat.reduceLeDiff, reduceCtorEq]) | (refine ⟨by first | omega | (intros; simp_all; done) | (intros; simp_all; omega), ?_⟩; try simp only [go_sem, Nat.reduceAdd, Nat.reduceLeDiff, reduceCtorEq]))
    refine AE.freeze 0 (el := 97) (es := 2) (rows := entR l) rfl (by simp only [go_sem, Nat.reduceAdd, Nat.reduceLeDiff, reduceCtorEq, entR_len]; first | done | trivial | omega | (simp; done) | (simp; omega)) (by simp only [go_sem, Nat.reduceAdd, Nat.reduceLeDiff, reduceCtorEq, entR_len]; first | done | trivial | omega | (simp; done) | (simp; omega)) ?_; simp only [go_sem, Nat.reduceAdd, Nat.reduceLeDiff, reduceCtorEq, entR_len]
    exact AE.ret rfl ⟨rfl, trivial⟩ ⟨rfl, by rw [entT l _ (by simp), delL, h3']; rfl⟩
  · have h3' : hasL k l = true := by simpa using h3
    have hr : rankL k l + 1 ≤ l.length := by unfold hasL at h3'; simp at h3'; omega
    have ea : (rankL k l : Int) + 1 = ((rankL k l + 1 : Nat) : Int) := by omega
    have hw3 := wr (x := ((rankL k l + 1 : Nat) : Int)) (by omega)
    have hd : delL k l = l.take (rankL k l) ++ l.drop (rankL k l + 1) := by rw [delL, h3']; rfl
    have hlp : (entR (delL k l)).length = rankL k l + (l.length - (rankL k l + 1)) := by rw [entR_len, hd, List.length_append, hln, List.length_drop]
    repeat (first | refine xPP rfl ?_ | refine xPE rfl ?_ | refine xEP rfl ?_ | refine xEE rfl ?_ | refine AQ.done ?_ | refine AQ.skip (by kernel_rfl) rfl ?_ | refine AQ.s2b (by kernel_rfl) rfl rfl rfl rfl ?_ | refine AQ.mark (by kernel_rfl) rfl rfl rfl rfl rfl rfl rfl ?_ | refine AP.cond_true rfl rfl ?_ | refine AP.cond_false rfl rfl ?_ | (refine AP.region rfl (by kernel_rfl) ?_; simp only [go_sem, Nat.reduceAdd, Nat.reduceLeDiff, reduceCtorEq]) | (refine AP.drawQ rfl rfl (by kernel_rfl) ?_; simp only [go_sem, Nat.reduceAdd, Nat.reduceLeDiff, reduceCtorEq]) | (refine vq_id ?_; simp only [go_sem, Nat.reduceAdd, Nat.reduceLeDiff, reduceCtorEq]) | (refine ⟨by first | omega | (intros; simp_all; done) | (intros; simp_all; omega), ?_⟩; try simp only [go_sem, Nat.reduceAdd, Nat.reduceLeDiff, reduceCtorEq]))
    refine AQ.fn (by kernel_rfl) rfl rfl rfl (rank_ref l k hl) rfl ?_
    repeat (first | refine xPP rfl ?_ | refine xPE rfl ?_ | refine xEP rfl ?_ | refine xEE rfl ?_ | refine AQ.done ?_ | refine AQ.skip (by kernel_rfl) rfl ?_ | refine AQ.s2b (by kernel_rfl) rfl rfl rfl rfl ?_ | refine AQ.mark (by kernel_rfl) rfl rfl rfl rfl rfl rfl rfl ?_ | refine AP.cond_true rfl rfl ?_ | refine AP.cond_false rfl rfl ?_ | (refine AP.region rfl (by kernel_rfl) ?_; simp only [go_sem, Nat.reduceAdd, Nat.reduceLeDiff, reduceCtorEq]) | (refine AP.drawQ rfl rfl (by kernel_rfl) ?_; simp only [go_sem, Nat.reduceAdd, Nat.reduceLeDiff, reduceCtorEq]) | (refine vq_id ?_; simp only [go_sem, Nat.reduceAdd, Nat.reduceLeDiff, reduceCtorEq]) | (refine ⟨by first | omega | (intros; simp_all; done) | (intros; simp_all; omega), ?_⟩; try simp only [go_sem, Nat.reduceAdd, Nat.reduceLeDiff, reduceCtorEq]))
    refine AP.drawE 11 (Tree.node [] [1, 2, 3, 5, 6, 7, 8] [0] [Tree.node [1, 2, 3, 5, 6, 7, 8] [] [4] [Tree.node [5, 6, 7, 8] [] [9] [Tree.node [] [10] [] []]]]) (by kernel_rfl) rfl (by kernel_rfl) (by kernel_rfl) ?_
    refine vd_node ?_
    simp only [go_sem, Nat.reduceAdd, Nat.reduceLeDiff, reduceCtorEq, entR_len, Int.toNat_natCast, entR_take, entR_drop, hw3, ea]
    repeat' (first | with_reducible exact True.intro | with_reducible refine And.intro (by omega) ?_ | with_reducible refine And.intro ?_ ?_ | (refine AQ.nx rfl ?_; simp only [go_sem, Nat.reduceAdd, Nat.reduceLeDiff, reduceCtorEq, entR_len, Int.toNat_natCast, entR_take, entR_drop, hw3, ea, hln, entR_app, List.nil_append, List.length_drop]) | (refine AQ.append (hnb := rfl) (rows := []) (es := 1) (by kernel_rfl) rfl rfl rfl (by rfl) Try.tk88 Try.sz97 (by show Option.map _ (zro Try.prog 97) = _; rw [Try.zr97]; rfl) Try.by97 (by first | rfl | (simp only [entR_len, List.length_take, List.length_cons, List.length_nil]; done) | (simp only [entR_len, List.length_take, List.length_cons, List.length_nil]; omega)) (by simp only [entR_len, List.length_take, List.length_cons, List.length_nil]; omega) (by simp only [entR_len, List.length_take, List.length_cons, List.length_nil]; omega) ?_; simp only [go_sem, Nat.reduceAdd, Nat.reduceLeDiff, reduceCtorEq, List.nil_append, entR_len, hln]) | (refine AQ.append (hnb := rfl) (rows := entR (l.take (rankL k l))) (es := 1) (by kernel_rfl) rfl rfl rfl (by rfl) Try.tk88 Try.sz97 (by show Option.map _ (zro Try.prog 97) = _; rw [Try.zr97]; rfl) Try.by97 (by first | rfl | (simp only [entR_len, List.length_take, List.length_drop, hln, List.length_cons, List.length_nil]; done) | (simp only [entR_len, List.length_take, List.length_drop, hln, List.length_cons, List.length_nil]; omega)) (by simp only [entR_len, List.length_take, List.length_drop, hln, List.length_cons, List.length_nil]; omega) (by simp only [entR_len, List.length_take, List.length_drop, hln, List.length_cons, List.length_nil]; omega) ?_; simp only [go_sem, Nat.reduceAdd, Nat.reduceLeDiff, reduceCtorEq, entR_app, entR_len, hln, List.length_drop]) | refine AQ.done ?_ | (refine AQ.go (by kernel_rfl) ?_; simp only [go_sem, Nat.reduceAdd, Nat.reduceLeDiff, reduceCtorEq, entR_len, Int.toNat_natCast, entR_take, entR_drop, hw3, ea, hln, entR_app, List.nil_append, List.length_drop]; repeat (with_reducible refine And.intro (by omega) ?_); refine AQ.nx rfl ?_; simp only [go_sem, Nat.reduceAdd, Nat.reduceLeDiff, reduceCtorEq, entR_len, Int.toNat_natCast, entR_take, entR_drop, hw3, ea, hln, entR_app, List.nil_append, List.length_drop]))
    all_goals repeat (first | refine xPP rfl ?_ | refine xPE rfl ?_ | refine xEP rfl ?_ | refine xEE rfl ?_ | refine AQ.done ?_ | refine AQ.skip (by kernel_rfl) rfl ?_ | refine AQ.s2b (by kernel_rfl) rfl rfl rfl rfl ?_ | refine AQ.mark (by kernel_rfl) rfl rfl rfl rfl rfl rfl rfl ?_ | refine AP.cond_true rfl rfl ?_ | refine AP.cond_false rfl rfl ?_ | (refine AP.region rfl (by kernel_rfl) ?_; simp only [go_sem, Nat.reduceAdd, Nat.reduceLeDiff, reduceCtorEq]) | (refine AP.drawQ rfl rfl (by kernel_rfl) ?_; simp only [go_sem, Nat.reduceAdd, Nat.reduceLeDiff, reduceCtorEq]) | (refine vq_id ?_; simp only [go_sem, Nat.reduceAdd, Nat.reduceLeDiff, reduceCtorEq]) | (refine ⟨by first | omega | (intros; simp_all; done) | (intros; simp_all; omega), ?_⟩; try simp only [go_sem, Nat.reduceAdd, Nat.reduceLeDiff, reduceCtorEq]))
    all_goals refine AE.freeze 0 (el := 97) (es := 2) (rows := entR (l.take (rankL k l) ++ l.drop (rankL k l + 1))) rfl (by simp only [go_sem, Nat.reduceAdd, Nat.reduceLeDiff, reduceCtorEq, entR_len, List.length_append, hln, List.length_drop]; first | done | trivial | omega | (simp; done) | (simp; omega)) (by simp only [go_sem, Nat.reduceAdd, Nat.reduceLeDiff, reduceCtorEq, entR_len, List.length_append, hln, List.length_drop]; first | done | trivial | omega | (simp; done) | (simp; omega)) ?_; simp only [go_sem, Nat.reduceAdd, Nat.reduceLeDiff, reduceCtorEq, entR_len, List.length_append, hln, List.length_drop]
    all_goals exact AE.ret rfl ⟨rfl, trivial⟩ ⟨rfl, by rw [entT _ _ (by simp [hln]), hd]; rfl⟩
end Go.Proofs.Ytfgffpkdjmeaoaa
end

section
namespace Go.Proofs.Ytfgffpkdjmeaoaa
open Go Go.AL Go.RowKit
set_option maxRecDepth 10000
set_option maxHeartbeats 4000000
def joinB (l m : List Ent) : Bool := decide (0 < l.length) && (decide (0 < m.length) && !(ltS (l.getD (l.length - 1) entD).1 (m.getD 0 entD).1))
def joinL (l m : List Ent) : List Ent := if joinB l m then [] else l ++ m
theorem join_ref (l m : List Ent) (hl : l.length ≤ 1000000) (hm : m.length ≤ 1000000) : PFn Try.prog 72 [Lv l, Lv m] (.tup [Lv (joinL l m), Bv (!joinB l m)]) := by
  have key : PFn Try.prog 72 [Lv l, Lv m] (.tup [Lv (if joinB l m then [] else l ++ m), Bv (!joinB l m)]) := by
    refine ACall.walk [0, 1, 4, 5, 27] [] Try.func72 rfl Try.ntmps72 (by kernel_rfl) (by rfl) rfl fun W own I0 φ0 => ?_
    by_cases h1 : 0 < l.length
    · have c1 : decide ((0 : Int) < (l.length : Int)) = true := by first | exact decide_eq_true (by omega) | exact decide_eq_false (by omega)
      by_cases h2 : 0 < m.length
      · have c2 : decide ((0 : Int) < (m.length : Int)) = true := by first | exact decide_eq_true (by omega) | exact decide_eq_false (by omega)
        have w1 : IntKind.i64.wrap ((l.length : Int) - 1) = ((l.length - 1 : Nat) : Int) := by rw [wr (by omega)]; omega
        have g1 := entR_get l (l.length - 1) (by omega)
        have g2 := entR_get m 0 h2
        have z : (0 : Int).toNat = 0 := rfl
        repeat (first | refine xPP rfl ?_ | refine xPE rfl ?_ | refine xEP rfl ?_ | refine xEE rfl ?_ | refine AQ.done ?_ | refine AQ.skip (by kernel_rfl) rfl ?_ | refine AQ.s2b (by kernel_rfl) rfl rfl rfl rfl ?_ | refine AQ.mark (by kernel_rfl) rfl rfl rfl rfl rfl rfl rfl ?_ | refine AP.cond_true rfl rfl ?_ | refine AP.cond_false rfl rfl ?_ | (refine AP.region rfl (by kernel_rfl) ?_; simp only [go_sem, Nat.reduceAdd, Nat.reduceLeDiff, reduceCtorEq, entR_len, c1, c2, w1, g1, g2, Int.toNat_natCast, z]) | (refine AP.drawQ rfl rfl (by kernel_rfl) ?_; simp only [go_sem, Nat.reduceAdd, Nat.reduceLeDiff, reduceCtorEq, entR_len, c1, c2, w1, g1, g2, Int.toNat_natCast, z]) | (refine vq_id ?_; simp only [go_sem, Nat.reduceAdd, Nat.reduceLeDiff, reduceCtorEq, entR_len, c1, c2, w1, g1, g2, Int.toNat_natCast, z]) | (refine ⟨by first | omega | (intros; simp_all; done) | (intros; simp_all; omega), ?_⟩; try simp only [go_sem, Nat.reduceAdd, Nat.reduceLeDiff, reduceCtorEq, entR_len, c1, c2, w1, g1, g2, Int.toNat_natCast, z]))
        refine AP.cond rfl rfl (fun h3 => ?_) (fun h3 => ?_)
        · have e : joinB l m = true := by
            unfold joinB
            rw [decide_eq_true h1, decide_eq_true h2]
            simpa [ltS, BA_toList] using h3
          repeat (first | refine xPP rfl ?_ | refine xPE rfl ?_ | refine xEP rfl ?_ | refine xEE rfl ?_ | refine AQ.done ?_ | refine AQ.skip (by kernel_rfl) rfl ?_ | refine AQ.s2b (by kernel_rfl) rfl rfl rfl rfl ?_ | refine AQ.mark (by kernel_rfl) rfl rfl rfl rfl rfl rfl rfl ?_ | refine AP.cond_true rfl rfl ?_ | refine AP.cond_false rfl rfl ?_ | (refine AP.region rfl (by kernel_rfl) ?_; simp only [go_sem, Nat.reduceAdd, Nat.reduceLeDiff, reduceCtorEq]) | (refine AP.drawQ rfl rfl (by kernel_rfl) ?_; simp only [go_sem, Nat.reduceAdd, Nat.reduceLeDiff, reduceCtorEq]) | (refine vq_id ?_; simp only [go_sem, Nat.reduceAdd, Nat.reduceLeDiff, reduceCtorEq]) | (refine ⟨by first | omega | (intros; simp_all; done) | (intros; simp_all; omega), ?_⟩; try simp only [go_sem, Nat.reduceAdd, Nat.reduceLeDiff, reduceCtorEq]))
          refine AE.nilsl 4 2 rfl ?_
          exact AE.ret rfl ⟨rfl, rfl, trivial⟩ ⟨rfl, by rw [e]; rfl⟩
        · have e : joinB l m = false := by
            unfold joinB
            rw [decide_eq_true h1, decide_eq_true h2]
            simpa [ltS, BA_toList] using h3
          repeat (first | refine xPP rfl ?_ | refine xPE rfl ?_ | refine xEP rfl ?_ | refine xEE rfl ?_ | refine AQ.done ?_ | refine AQ.skip (by kernel_rfl) rfl ?_ | refine AQ.s2b (by kernel_rfl) rfl rfl rfl rfl ?_ | refine AQ.mark (by kernel_rfl) rfl rfl rfl rfl rfl rfl rfl ?_ | refine AP.cond_true rfl rfl ?_ | refine AP.cond_false rfl rfl ?_ | (refine AP.region rfl (by kernel_rfl) ?_; simp only [go_sem, Nat.reduceAdd, Nat.reduceLeDiff, reduceCtorEq]) | (refine AP.drawQ rfl rfl (by kernel_rfl) ?_; simp only [go_sem, Nat.reduceAdd, Nat.reduceLeDiff, reduceCtorEq]) | (refine vq_id ?_; simp only [go_sem, Nat.reduceAdd, Nat.reduceLeDiff, reduceCtorEq]) | (refine ⟨by first | omega | (intros; simp_all; done) | (intros; simp_all; omega), ?_⟩; try simp only [go_sem, Nat.reduceAdd, Nat.reduceLeDiff, reduceCtorEq]))
          refine AQ.append (hnb := rfl) (rows := []) (es := 1) (by kernel_rfl) rfl rfl rfl (by rfl) Try.tk88 Try.sz97 (by show Option.map _ (zro Try.prog 97) = _; rw [Try.zr97]; rfl) Try.by97 (by first | rfl | (simp only [entR_len, List.length_cons, List.length_nil]; done) | (simp only [entR_len, List.length_cons, List.length_nil]; omega)) (by simp only [entR_len, List.length_cons, List.length_nil]; omega) (by simp only [entR_len, List.length_cons, List.length_nil]; omega) ?_
          simp only [go_sem, Nat.reduceAdd, Nat.reduceLeDiff, reduceCtorEq, List.nil_append, entR_len]
          repeat (first | refine xPP rfl ?_ | refine xPE rfl ?_ | refine xEP rfl ?_ | refine xEE rfl ?_ | refine AQ.done ?_ | refine AQ.skip (by kernel_rfl) rfl ?_ | refine AQ.s2b (by kernel_rfl) rfl rfl rfl rfl ?_ | refine AQ.mark (by kernel_rfl) rfl rfl rfl rfl rfl rfl rfl ?_ | refine AP.cond_true rfl rfl ?_ | refine AP.cond_false rfl rfl ?_ | (refine AP.region rfl (by kernel_rfl) ?_; simp only [go_sem, Nat.reduceAdd, Nat.reduceLeDiff, reduceCtorEq]) | (refine AP.drawQ rfl rfl (by kernel_rfl) ?_; simp only [go_sem, Nat.reduceAdd, Nat.reduceLeDiff, reduceCtorEq]) | (refine vq_id ?_; simp only [go_sem, Nat.reduceAdd, Nat.reduceLeDiff, reduceCtorEq]) | (refine ⟨by first | omega | (intros; simp_all; done) | (intros; simp_all; omega), ?_⟩; try simp only [go_sem, Nat.reduceAdd, Nat.reduceLeDiff, reduceCtorEq]))
          refine AQ.append (hnb := rfl) (rows := entR l) (es := 1) (by kernel_rfl) rfl rfl rfl (by rfl) Try.tk88 Try.sz97 (by show Option.map _ (zro Try.prog 97) = _; rw [Try.zr97]; rfl) Try.by97 (by first | rfl | (simp only [entR_len, List.length_cons, List.length_nil]; done) | (simp only [entR_len, List.length_cons, List.length_nil]; omega)) (by simp only [entR_len, List.length_cons, List.length_nil]; omega) (by simp only [entR_len, List.length_cons, List.length_nil]; omega) ?_
          simp only [go_sem, Nat.reduceAdd, Nat.reduceLeDiff, reduceCtorEq, entR_app, entR_len]
          repeat (first | refine xPP rfl ?_ | refine xPE rfl ?_ | refine xEP rfl ?_ | refine xEE rfl ?_ | refine AQ.done ?_ | refine AQ.skip (by kernel_rfl) rfl ?_ | refine AQ.s2b (by kernel_rfl) rfl rfl rfl rfl ?_ | refine AQ.mark (by kernel_rfl) rfl rfl rfl rfl rfl rfl rfl ?_ | refine AP.cond_true rfl rfl ?_ | refine AP.cond_false rfl rfl ?_ | (refine AP.region rfl (by kernel_rfl) ?_; simp only [go_sem, Nat.reduceAdd, Nat.reduceLeDiff, reduceCtorEq]) | (refine AP.drawQ rfl rfl (by kernel_rfl) ?_; simp only [go_sem, Nat.reduceAdd, Nat.reduceLeDiff, reduceCtorEq]) | (refine vq_id ?_; simp only [go_sem, Nat.reduceAdd, Nat.reduceLeDiff, reduceCtorEq]) | (refine ⟨by first | omega | (intros; simp_all; done) | (intros; simp_all; omega), ?_⟩; try simp only [go_sem, Nat.reduceAdd, Nat.reduceLeDiff, reduceCtorEq]))
          refine AE.freeze 0 (el := 97) (es := 2) (rows := entR (l ++ m)) rfl (by simp only [go_sem, Nat.reduceAdd, Nat.reduceLeDiff, reduceCtorEq, entR_len, List.length_append]; first | done | trivial | omega | (simp; done) | (simp; omega)) (by simp only [go_sem, Nat.reduceAdd, Nat.reduceLeDiff, reduceCtorEq, entR_len, List.length_append]; first | done | trivial | omega | (simp; done) | (simp; omega)) ?_; simp only [go_sem, Nat.reduceAdd, Nat.reduceLeDiff, reduceCtorEq, entR_len, List.length_append]
          exact AE.ret rfl ⟨rfl, rfl, trivial⟩ ⟨rfl, by rw [entT _ _ (by simp), e]; rfl⟩
      · have c2 : decide ((0 : Int) < (m.length : Int)) = false := by first | exact decide_eq_true (by omega) | exact decide_eq_false (by omega)
        have g2 := entR_out m 0 (by omega)
        have z : (0 : Int).toNat = 0 := rfl
        have w1 : IntKind.i64.wrap ((l.length : Int) - 1) = ((l.length - 1 : Nat) : Int) := by rw [wr (by omega)]; omega
        have g1 := entR_get l (l.length - 1) (by omega)
        have e : joinB l m = false := by
          unfold joinB
          rw [decide_eq_false h2]; simp
        repeat (first | refine xPP rfl ?_ | refine xPE rfl ?_ | refine xEP rfl ?_ | refine xEE rfl ?_ | refine AQ.done ?_ | refine AQ.skip (by kernel_rfl) rfl ?_ | refine AQ.s2b (by kernel_rfl) rfl rfl rfl rfl ?_ | refine AQ.mark (by kernel_rfl) rfl rfl rfl rfl rfl rfl rfl ?_ | refine AP.cond_true rfl rfl ?_ | refine AP.cond_false rfl rfl ?_ | (refine AP.region rfl (by kernel_rfl) ?_; simp only [go_sem, Nat.reduceAdd, Nat.reduceLeDiff, reduceCtorEq, entR_len, c1, c2, w1, g1, g2, Int.toNat_natCast, z, List.take_nil]) | (refine AP.drawQ rfl rfl (by kernel_rfl) ?_; simp only [go_sem, Nat.reduceAdd, Nat.reduceLeDiff, reduceCtorEq, entR_len, c1, c2, w1, g1, g2, Int.toNat_natCast, z, List.take_nil]) | (refine vq_id ?_; simp only [go_sem, Nat.reduceAdd, Nat.reduceLeDiff, reduceCtorEq, entR_len, c1, c2, w1, g1, g2, Int.toNat_natCast, z, List.take_nil]) | (refine ⟨by first | omega | (intros; simp_all; done) | (intros; simp_all; omega), ?_⟩; try simp only [go_sem, Nat.reduceAdd, Nat.reduceLeDiff, reduceCtorEq, entR_len, c1, c2, w1, g1, g2, Int.toNat_natCast, z, List.take_nil]))
        refine AQ.append (hnb := rfl) (rows := []) (es := 1) (by kernel_rfl) rfl rfl rfl (by rfl) Try.tk88 Try.sz97 (by show Option.map _ (zro Try.prog 97) = _; rw [Try.zr97]; rfl) Try.by97 (by first | rfl | (simp only [entR_len, List.length_cons, List.length_nil]; done) | (simp only [entR_len, List.length_cons, List.length_nil]; omega)) (by simp only [entR_len, List.length_cons, List.length_nil]; omega) (by simp only [entR_len, List.length_cons, List.length_nil]; omega) ?_
        simp only [go_sem, Nat.reduceAdd, Nat.reduceLeDiff, reduceCtorEq, List.nil_append, entR_len]
        repeat (first | refine xPP rfl ?_ | refine xPE rfl ?_ | refine xEP rfl ?_ | refine xEE rfl ?_ | refine AQ.done ?_ | refine AQ.skip (by kernel_rfl) rfl ?_ | refine AQ.s2b (by kernel_rfl) rfl rfl rfl rfl ?_ | refine AQ.mark (by kernel_rfl) rfl rfl rfl rfl rfl rfl rfl ?_ | refine AP.cond_true rfl rfl ?_ | refine AP.cond_false rfl rfl ?_ | (refine AP.region rfl (by kernel_rfl) ?_; simp only [go_sem, Nat.reduceAdd, Nat.reduceLeDiff, reduceCtorEq]) | (refine AP.drawQ rfl rfl (by kernel_rfl) ?_; simp only [go_sem, Nat.reduceAdd, Nat.reduceLeDiff, reduceCtorEq]) | (refine vq_id ?_; simp only [go_sem, Nat.reduceAdd, Nat.reduceLeDiff, reduceCtorEq]) | (refine ⟨by first | omega | (intros; simp_all; done) | (intros; simp_all; omega), ?_⟩; try simp only [go_sem, Nat.reduceAdd, Nat.reduceLeDiff, reduceCtorEq]))
        refine AQ.append (hnb := rfl) (rows := entR l) (es := 1) (by kernel_rfl) rfl rfl rfl (by rfl) Try.tk88 Try.sz97 (by show Option.map _ (zro Try.prog 97) = _; rw [Try.zr97]; rfl) Try.by97 (by first | rfl | (simp only [entR_len, List.length_cons, List.length_nil]; done) | (simp only [entR_len, List.length_cons, List.length_nil]; omega)) (by simp only [entR_len, List.length_cons, List.length_nil]; omega) (by simp only [entR_len, List.length_cons, List.length_nil]; omega) ?_
        simp only [go_sem, Nat.reduceAdd, Nat.reduceLeDiff, reduceCtorEq, entR_app, entR_len]
        repeat (first | refine xPP rfl ?_ | refine xPE rfl ?_ | refine xEP rfl ?_ | refine xEE rfl ?_ | refine AQ.done ?_ | refine AQ.skip (by kernel_rfl) rfl ?_ | refine AQ.s2b (by kernel_rfl) rfl rfl rfl rfl ?_ | refine AQ.mark (by kernel_rfl) rfl rfl rfl rfl rfl rfl rfl ?_ | refine AP.cond_true rfl rfl ?_ | refine AP.cond_false rfl rfl ?_ | (refine AP.region rfl (by kernel_rfl) ?_; simp only [go_sem, Nat.reduceAdd, Nat.reduceLeDiff, reduceCtorEq]) | (refine AP.drawQ rfl rfl (by kernel_rfl) ?_; simp only [go_sem, Nat.reduceAdd, Nat.reduceLeDiff, reduceCtorEq]) | (refine vq_id ?_; simp only [go_sem, Nat.reduceAdd, Nat.reduceLeDiff, reduceCtorEq]) | (refine ⟨by first | omega | (intros; simp_all; done) | (intros; simp_all; omega), ?_⟩; try simp only [go_sem, Nat.reduceAdd, Nat.reduceLeDiff, reduceCtorEq]))
        refine AE.freeze 0 (el := 97) (es := 2) (rows := entR (l ++ m)) rfl (by simp only [go_sem, Nat.reduceAdd, Nat.reduceLeDiff, reduceCtorEq, entR_len, List.length_append]; first | done | trivial | omega | (simp; done) | (simp; omega)) (by simp only [go_sem, Nat.reduceAdd, Nat.reduceLeDiff, reduceCtorEq, entR_len, List.length_append]; first | done | trivial | omega | (simp; done) | (simp; omega)) ?_; simp only [go_sem, Nat.reduceAdd, Nat.reduceLeDiff, reduceCtorEq, entR_len, List.length_append]
        exact AE.ret rfl ⟨rfl, rfl, trivial⟩ ⟨rfl, by rw [entT _ _ (by simp), e]; rfl⟩
    · have c1 : decide ((0 : Int) < (l.length : Int)) = false := by first | exact decide_eq_true (by omega) | exact decide_eq_false (by omega)
      have e : joinB l m = false := by
        unfold joinB
        rw [decide_eq_false h1]; simp
      have g1 : ∀ j, (entR l).getD j [] = [] := fun j => entR_out l j (by omega)
      have z : (0 : Int).toNat = 0 := rfl
      by_cases h2 : 0 < m.length
      · have g2 := entR_get m 0 h2
        repeat (first | refine xPP rfl ?_ | refine xPE rfl ?_ | refine xEP rfl ?_ | refine xEE rfl ?_ | refine AQ.done ?_ | refine AQ.skip (by kernel_rfl) rfl ?_ | refine AQ.s2b (by kernel_rfl) rfl rfl rfl rfl ?_ | refine AQ.mark (by kernel_rfl) rfl rfl rfl rfl rfl rfl rfl ?_ | refine AP.cond_true rfl rfl ?_ | refine AP.cond_false rfl rfl ?_ | (refine AP.region rfl (by kernel_rfl) ?_; simp only [go_sem, Nat.reduceAdd, Nat.reduceLeDiff, reduceCtorEq, entR_len, c1, g1, g2, z, List.take_nil]) | (refine AP.drawQ rfl rfl (by kernel_rfl) ?_; simp only [go_sem, Nat.reduceAdd, Nat.reduceLeDiff, reduceCtorEq, entR_len, c1, g1, g2, z, List.take_nil]) | (refine vq_id ?_; simp only [go_sem, Nat.reduceAdd, Nat.reduceLeDiff, reduceCtorEq, entR_len, c1, g1, g2, z, List.take_nil]) | (refine ⟨by first | omega | (intros; simp_all; done) | (intros; simp_all; omega), ?_⟩; try simp only [go_sem, Nat.reduceAdd, Nat.reduceLeDiff, reduceCtorEq, entR_len, c1, g1, g2, z, List.take_nil]))
        refine AQ.append (hnb := rfl) (rows := []) (es := 1) (by kernel_rfl) rfl rfl rfl (by rfl) Try.tk88 Try.sz97 (by show Option.map _ (zro Try.prog 97) = _; rw [Try.zr97]; rfl) Try.by97 (by first | rfl | (simp only [entR_len, List.length_cons, List.length_nil]; done) | (simp only [entR_len, List.length_cons, List.length_nil]; omega)) (by simp only [entR_len, List.length_cons, List.length_nil]; omega) (by simp only [entR_len, List.length_cons, List.length_nil]; omega) ?_
        simp only [go_sem, Nat.reduceAdd, Nat.reduceLeDiff, reduceCtorEq, List.nil_append, entR_len]
        repeat (first | refine xPP rfl ?_ | refine xPE rfl ?_ | refine xEP rfl ?_ | refine xEE rfl ?_ | refine AQ.done ?_ | refine AQ.skip (by kernel_rfl) rfl ?_ | refine AQ.s2b (by kernel_rfl) rfl rfl rfl rfl ?_ | refine AQ.mark (by kernel_rfl) rfl rfl rfl rfl rfl rfl rfl ?_ | refine AP.cond_true rfl rfl ?_ | refine AP.cond_false rfl rfl ?_ | (refine AP.region rfl (by kernel_rfl) ?_; simp only [go_sem, Nat.reduceAdd, Nat.reduceLeDiff, reduceCtorEq]) | (refine AP.drawQ rfl rfl (by kernel_rfl) ?_; simp only [go_sem, Nat.reduceAdd, Nat.reduceLeDiff, reduceCtorEq]) | (refine vq_id ?_; simp only [go_sem, Nat.reduceAdd, Nat.reduceLeDiff, reduceCtorEq]) | (refine ⟨by first | omega | (intros; simp_all; done) | (intros; simp_all; omega), ?_⟩; try simp only [go_sem, Nat.reduceAdd, Nat.reduceLeDiff, reduceCtorEq]))
        refine AQ.append (hnb := rfl) (rows := entR l) (es := 1) (by kernel_rfl) rfl rfl rfl (by rfl) Try.tk88 Try.sz97 (by show Option.map _ (zro Try.prog 97) = _; rw [Try.zr97]; rfl) Try.by97 (by first | rfl | (simp only [entR_len, List.length_cons, List.length_nil]; done) | (simp only [entR_len, List.length_cons, List.length_nil]; omega)) (by simp only [entR_len, List.length_cons, List.length_nil]; omega) (by simp only [entR_len, List.length_cons, List.length_nil]; omega) ?_
        simp only [go_sem, Nat.reduceAdd, Nat.reduceLeDiff, reduceCtorEq, entR_app, entR_len]
        repeat (first | refine xPP rfl ?_ | refine xPE rfl ?_ | refine xEP rfl ?_ | refine xEE rfl ?_ | refine AQ.done ?_ | refine AQ.skip (by kernel_rfl) rfl ?_ | refine AQ.s2b (by kernel_rfl) rfl rfl rfl rfl ?_ | refine AQ.mark (by kernel_rfl) rfl rfl rfl rfl rfl rfl rfl ?_ | refine AP.cond_true rfl rfl ?_ | refine AP.cond_false rfl rfl ?_ | (refine AP.region rfl (by kernel_rfl) ?_; simp only [go_sem, Nat.reduceAdd, Nat.reduceLeDiff, reduceCtorEq]) | (refine AP.drawQ rfl rfl (by kernel_rfl) ?_; simp only [go_sem, Nat.reduceAdd, Nat.reduceLeDiff, reduceCtorEq]) | (refine vq_id ?_; simp only [go_sem, Nat.reduceAdd, Nat.reduceLeDiff, reduceCtorEq]) | (refine ⟨by first | omega | (intros; simp_all; done) | (intros; simp_all; omega), ?_⟩; try simp only [go_sem, Nat.reduceAdd, Nat.reduceLeDiff, reduceCtorEq]))
        refine AE.freeze 0 (el := 97) (es := 2) (rows := entR (l ++ m)) rfl (by simp only [go_sem, Nat.reduceAdd, Nat.reduceLeDiff, reduceCtorEq, entR_len, List.length_append]; first | done | trivial | omega | (simp; done) | (simp; omega)) (by simp only [go_sem, Nat.reduceAdd, Nat.reduceLeDiff, reduceCtorEq, entR_len, List.length_append]; first | done | trivial | omega | (simp; done) | (simp; omega)) ?_; simp only [go_sem, Nat.reduceAdd, Nat.reduceLeDiff, reduceCtorEq, entR_len, List.length_append]
        exact AE.ret rfl ⟨rfl, rfl, trivial⟩ ⟨rfl, by rw [entT _ _ (by simp), e]; rfl⟩
      · have g2 := entR_out m 0 (by omega)
        repeat (first | refine xPP rfl ?_ | refine xPE rfl ?_ | refine xEP rfl ?_ | refine xEE rfl ?_ | refine AQ.done ?_ | refine AQ.skip (by kernel_rfl) rfl ?_ | refine AQ.s2b (by kernel_rfl) rfl rfl rfl rfl ?_ | refine AQ.mark (by kernel_rfl) rfl rfl rfl rfl rfl rfl rfl ?_ | refine AP.cond_true rfl rfl ?_ | refine AP.cond_false rfl rfl ?_ | (refine AP.region rfl (by kernel_rfl) ?_; simp only [go_sem, Nat.reduceAdd, Nat.reduceLeDiff, reduceCtorEq, entR_len, c1, g1, g2, z, List.take_nil]) | (refine AP.drawQ rfl rfl (by kernel_rfl) ?_; simp only [go_sem, Nat.reduceAdd, Nat.reduceLeDiff, reduceCtorEq, entR_len, c1, g1, g2, z, List.take_nil]) | (refine vq_id ?_; simp only [go_sem, Nat.reduceAdd, Nat.reduceLeDiff, reduceCtorEq, entR_len, c1, g1, g2, z, List.take_nil]) | (refine ⟨by first | omega | (intros; simp_all; done) | (intros; simp_all; omega), ?_⟩; try simp only [go_sem, Nat.reduceAdd, Nat.reduceLeDiff, reduceCtorEq, entR_len, c1, g1, g2, z, List.take_nil]))
        refine AQ.append (hnb := rfl) (rows := []) (es := 1) (by kernel_rfl) rfl rfl rfl (by rfl) Try.tk88 Try.sz97 (by show Option.map _ (zro Try.prog 97) = _; rw [Try.zr97]; rfl) Try.by97 (by first | rfl | (simp only [entR_len, List.length_cons, List.length_nil]; done) | (simp only [entR_len, List.length_cons, List.length_nil]; omega)) (by simp only [entR_len, List.length_cons, List.length_nil]; omega) (by simp only [entR_len, List.length_cons, List.length_nil]; omega) ?_
        simp only [go_sem, Nat.reduceAdd, Nat.reduceLeDiff, reduceCtorEq, List.nil_append, entR_len]
        repeat (first | refine xPP rfl ?_ | refine xPE rfl ?_ | refine xEP rfl ?_ | refine xEE rfl ?_ | refine AQ.done ?_ | refine AQ.skip (by kernel_rfl) rfl ?_ | refine AQ.s2b (by kernel_rfl) rfl rfl rfl rfl ?_ | refine AQ.mark (by kernel_rfl) rfl rfl rfl rfl rfl rfl rfl ?_ | refine AP.cond_true rfl rfl ?_ | refine AP.cond_false rfl rfl ?_ | (refine AP.region rfl (by kernel_rfl) ?_; simp only [go_sem, Nat.reduceAdd, Nat.reduceLeDiff, reduceCtorEq]) | (refine AP.drawQ rfl rfl (by kernel_rfl) ?_; simp only [go_sem, Nat.reduceAdd, Nat.reduceLeDiff, reduceCtorEq]) | (refine vq_id ?_; simp only [go_sem, Nat.reduceAdd, Nat.reduceLeDiff, reduceCtorEq]) | (refine ⟨by first | omega | (intros; simp_all; done) | (intros; simp_all; omega), ?_⟩; try simp only [go_sem, Nat.reduceAdd, Nat.reduceLeDiff, reduceCtorEq]))
        refine AQ.append (hnb := rfl) (rows := entR l) (es := 1) (by kernel_rfl) rfl rfl rfl (by rfl) Try.tk88 Try.sz97 (by show Option.map _ (zro Try.prog 97) = _; rw [Try.zr97]; rfl) Try.by97 (by first | rfl | (simp only [entR_len, List.length_cons, List.length_nil]; done) | (simp only [entR_len, List.length_cons, List.length_nil]; omega)) (by simp only [entR_len, List.length_cons, List.length_nil]; omega) (by simp only [entR_len, List.length_cons, List.length_nil]; omega) ?_
        simp only [go_sem, Nat.reduceAdd, Nat.reduceLeDiff, reduceCtorEq, entR_app, entR_len]
        repeat (first | refine xPP rfl ?_ | refine xPE rfl ?_ | refine xEP rfl ?_ | refine xEE rfl ?_ | refine AQ.done ?_ | refine AQ.skip (by kernel_rfl) rfl ?_ | refine AQ.s2b (by kernel_rfl) rfl rfl rfl rfl ?_ | refine AQ.mark (by kernel_rfl) rfl rfl rfl rfl rfl rfl rfl ?_ | refine AP.cond_true rfl rfl ?_ | refine AP.cond_false rfl rfl ?_ | (refine AP.region rfl (by kernel_rfl) ?_; simp only [go_sem, Nat.reduceAdd, Nat.reduceLeDiff, reduceCtorEq]) | (refine AP.drawQ rfl rfl (by kernel_rfl) ?_; simp only [go_sem, Nat.reduceAdd, Nat.reduceLeDiff, reduceCtorEq]) | (refine vq_id ?_; simp only [go_sem, Nat.reduceAdd, Nat.reduceLeDiff, reduceCtorEq]) | (refine ⟨by first | omega | (intros; simp_all; done) | (intros; simp_all; omega), ?_⟩; try simp only [go_sem, Nat.reduceAdd, Nat.reduceLeDiff, reduceCtorEq]))
        refine AE.freeze 0 (el := 97) (es := 2) (rows := entR (l ++ m)) rfl (by simp only [go_sem, Nat.reduceAdd, Nat.reduceLeDiff, reduceCtorEq, entR_len, List.length_append]; first | done | trivial | omega | (simp; done) | (simp; omega)) (by simp only [go_sem, Nat.reduceAdd, Nat.reduceLeDiff, reduceCtorEq, entR_len, List.length_append]; first | done | trivial | omega | (simp; done) | (simp; omega)) ?_; simp only [go_sem, Nat.reduceAdd, Nat.reduceLeDiff, reduceCtorEq, entR_len, List.length_append]
        exact AE.ret rfl ⟨rfl, rfl, trivial⟩ ⟨rfl, by rw [entT _ _ (by simp), e]; rfl⟩
  exact key
end Go.Proofs.Ytfgffpkdjmeaoaa
end

section
namespace Go.Proofs.Ytfgffpkdjmeaoaa
open Go Go.AL
/-! The reference's lists, of ascending keys -/
theorem rankL_lower (k : List UInt8) : ∀ l : List Ent, Srt l → rankL k l = (lower k l).length
  | [], _ => rfl
  | e :: r, h => by
    obtain ⟨h1, h2⟩ := List.pairwise_cons.1 h
    have ih := rankL_lower k r h2
    simp only [rankL, lower, List.filter_cons]
    cases hc : ltS e.1 k with
    | true => simp [ih, lower]
    | false =>
      simp only [Bool.false_eq_true, if_false]
      have : r.filter (fun e => ltS e.1 k) = [] := List.filter_eq_nil_iff.2 fun x hx hk => by
        have := ltS_trans (h1 x hx) hk
        rw [this] at hc; cases hc
      rw [this]; rfl
theorem parts (k : List UInt8) {l : List Ent} (h : Srt l) : (∃ v, l = lower k l ++ (k, v) :: upper k l) ∨ l = lower k l ++ upper k l := by
  induction l with
  | nil => exact .inr rfl
  | cons e r ih =>
    obtain ⟨h1, h2⟩ := List.pairwise_cons.1 h
    have ih := ih h2
    cases hc : ltS e.1 k with
    | true =>
      have e1 : lower k (e :: r) = e :: lower k r := by simp [lower, List.filter_cons, hc]
      have e2 : upper k (e :: r) = upper k r := by simp [upper, List.filter_cons, ltS_asymm hc]
      rw [e1, e2]
      rcases ih with ⟨v, ih⟩ | ih
      · exact .inl ⟨v, by rw [List.cons_append, ← ih]⟩
      · exact .inr (by rw [List.cons_append, ← ih])
    | false =>
      have hr : ∀ x ∈ r, ltS k x.1 = true := fun x hx => by
        cases hk : ltS k e.1 with
        | true => exact ltS_trans hk (h1 x hx)
        | false => rw [ltS_tri k e.1 hk hc]; exact h1 x hx
      have e1 : lower k (e :: r) = [] := by
        have := lower_none hr
        unfold lower at this ⊢
        rw [List.filter_cons, this, hc]; rfl
      cases hk : ltS k e.1 with
      | true =>
        have e2 : upper k (e :: r) = e :: r := by
          have := upper_all hr
          unfold upper at this ⊢
          rw [List.filter_cons, this, hk]; rfl
        exact .inr (by rw [e1, e2]; rfl)
      | false =>
        have e2 : upper k (e :: r) = r := by
          have := upper_all hr
          unfold upper at this ⊢
          rw [List.filter_cons, this, hk]; rfl
        have hke := ltS_tri k e.1 hk hc
        exact .inl ⟨e.2, by rw [e1, e2, hke]; rfl⟩
theorem take_app {α : Type} {l A B : List α} {n : Nat} (e : l = A ++ B) (hn : n = A.length) : l.take n = A ∧ l.drop n = B := by
  subst hn; rw [e]; simp
/-- with the key: where it lies -/
theorem at_key {k : List UInt8} {v : Int} {l : List Ent} (h : Srt l) (e : l = lower k l ++ (k, v) :: upper k l) :
    rankL k l < l.length ∧ l.getD (rankL k l) entD = (k, v) ∧ hasL k l = true ∧ l.take (rankL k l) = lower k l ∧ l.drop (afterL k l) = upper k l ∧ l.drop (rankL k l + 1) = upper k l := by
  have hr := rankL_lower k l h
  have hlen : l.length = (lower k l).length + ((upper k l).length + 1) := by conv => lhs; rw [e]; simp
  have hlt : rankL k l < l.length := by omega
  have hg : l.getD (rankL k l) entD = (k, v) := by
    rw [hr]
    conv => lhs; arg 1; rw [e]
    rw [List.getD_eq_getElem?_getD, List.getElem?_append_right (Nat.le_refl _)]; simp
  have hh : hasL k l = true := by unfold hasL; rw [hg]; simp [hlt]
  have h1 : l.take (rankL k l) = lower k l := (take_app e hr).1
  have h2 : l.drop (rankL k l + 1) = upper k l := (take_app (A := lower k l ++ [(k, v)]) (by rw [List.append_assoc]; exact e) (by rw [hr]; simp)).2
  exact ⟨hlt, hg, hh, h1, by rw [afterL, hh]; exact h2, h2⟩
theorem no_key {k : List UInt8} {l : List Ent} (h : Srt l) (e : l = lower k l ++ upper k l) : hasL k l = false ∧ l.take (rankL k l) = lower k l ∧ l.drop (afterL k l) = upper k l := by
  have hr := rankL_lower k l h
  have hh : hasL k l = false := by
    unfold hasL
    by_cases hc : rankL k l < l.length
    · have hlen : l.length = (lower k l).length + (upper k l).length := by conv => lhs; rw [e]; simp
      have hm : l.getD (rankL k l) entD ∈ upper k l := by
        have hu : 0 < (upper k l).length := by omega
        have : l.getD (rankL k l) entD = (upper k l).getD 0 entD := by
          rw [hr]; conv => lhs; arg 1; rw [e]
          rw [List.getD_eq_getElem?_getD, List.getElem?_append_right (Nat.le_refl _), Nat.sub_self, ← List.getD_eq_getElem?_getD]
        rw [this]
        exact getD_mem hu
      have := (mem_upper.1 hm).2
      rw [decide_eq_true hc, Bool.true_and, beq_eq_false_iff_ne]
      intro e
      rw [e, ltS_irrefl] at this; cases this
    · rw [decide_eq_false hc]; rfl
  refine ⟨hh, (take_app e hr).1, ?_⟩
  rw [afterL, hh]
  exact (take_app e hr).2
theorem take_rank {k : List UInt8} {l : List Ent} (h : Srt l) : l.take (rankL k l) = lower k l ∧ l.drop (afterL k l) = upper k l := by
  rcases parts k h with ⟨v, e⟩ | e
  · obtain ⟨_, _, _, h1, h2, _⟩ := at_key h e; exact ⟨h1, h2⟩
  · obtain ⟨_, h1, h2⟩ := no_key h e; exact ⟨h1, h2⟩
theorem putL_sorted {k : List UInt8} {l : List Ent} (h : Srt l) (v : Int) : putL k v l = lower k l ++ (k, v) :: upper k l := by
  obtain ⟨h1, h2⟩ := take_rank (k := k) h
  rw [putL, h1, h2]; simp
theorem delL_sorted {k : List UInt8} {l : List Ent} (h : Srt l) : delL k l = lower k l ++ upper k l := by
  rcases parts k h with ⟨v, e⟩ | e
  · obtain ⟨_, _, h1, h2, _, h3⟩ := at_key h e
    rw [delL, h1, h2, h3]; rfl
  · obtain ⟨h1, _, _⟩ := no_key h e
    rw [delL, h1]; exact e
def modelL (ls : List (List Ent)) (o : OpM) : List Ent :=
  let t := ls.getD (o.tree % ls.length) []
  let u := ls.getD (o.other % ls.length) []
  if o.kind % 8 = 0 ∨ o.kind % 8 = 1 ∨ o.kind % 8 = 2 then putL o.key o.val t
  else if o.kind % 8 = 3 then delL o.key t
  else if o.kind % 8 = 4 then t.take (rankL o.key t)
  else if o.kind % 8 = 5 then t.drop (afterL o.key t)
  else if o.kind % 8 = 6 then joinL t u
  else t
theorem apart_join (t u : Tr) : t.apart u = !joinB t.toList u.toList := by
  unfold Tr.apart joinB
  rw [Tr.toList_len, Tr.toList_len]
  by_cases h1 : t.size = 0
  · simp [h1]
  by_cases h2 : u.size = 0
  · simp [h2]
  have e1 : t.toList.getD (t.size - 1) entD = t.at (t.size - 1) := by rw [List.getD_eq_getElem?_getD, Tr.at_toList t _ (by omega)]; rfl
  have e2 : u.toList.getD 0 entD = u.at 0 := by rw [List.getD_eq_getElem?_getD, Tr.at_toList u _ (by omega)]; rfl
  rw [e1, e2, decide_eq_true (show 0 < t.size by omega), decide_eq_true (show 0 < u.size by omega), show (t.size == 0) = false by simpa using h1, show (u.size == 0) = false by simpa using h2]
  simp only [Bool.false_or, Bool.true_and, Bool.not_not]
  rw [Bool.eq_iff_iff, decide_eq_true_iff]
  exact cmpS_lt
theorem getD_map {α β : Type} (f : α → β) (l : List α) (i : Nat) (d : α) : (l.map f).getD i (f d) = f (l.getD i d) := by
  simp only [List.getD_eq_getElem?_getD, List.getElem?_map]
  cases l[i]? <;> rfl
/-- the reference's step is the step on trees -/
theorem model_step (l : List Tr) (o : OpM) (hl : ∀ t ∈ l, Srt t.toList) : modelL (l.map Tr.toList) o = (stepT l o).toList := by
  have ht : ∀ i, Srt (l.getD i Tr.nil).toList := fun i => by
    rcases Nat.lt_or_ge i l.length with h | h
    · exact hl _ (getD_mem h)
    · rw [List.getD_eq_getElem?_getD, List.getElem?_eq_none h]; exact Srt.nil
  have e : ∀ i, (l.map Tr.toList).getD i [] = (l.getD i Tr.nil).toList := fun i => getD_map Tr.toList l i Tr.nil
  unfold modelL stepT
  simp only [List.length_map, e]
  have h1 := ht (o.tree % l.length)
  have h2 := ht (o.other % l.length)
  generalize l.getD (o.tree % l.length) Tr.nil = t at *
  generalize l.getD (o.other % l.length) Tr.nil = u at *
  split
  · rw [putL_sorted h1, Tr.toList_put _ _ t h1]
  · split
    · rw [delL_sorted h1, Tr.toList_del t _ h1]
    · split
      · rw [(take_rank h1).1, (Tr.toList_split _ t h1).1]
      · split
        · rw [(take_rank h1).2, (Tr.toList_split _ t h1).2]
        · split
          · unfold joinL
            rw [apart_join]
            cases joinB t.toList u.toList
            · simp [Tr.toList_concat]
            · simp [Tr.toList]
          · rfl
end Go.Proofs.Ytfgffpkdjmeaoaa
end

section
namespace Go.Proofs.Ytfgffpkdjmeaoaa
open Go Go.AL Go.RowKit
set_option maxRecDepth 10000
set_option maxHeartbeats 4000000
def lsR (l : List (List Ent)) : List (List IV) := l.map fun x => [.sl 2 (entR x)]
theorem lsR_len (l : List (List Ent)) : (lsR l).length = l.length := by simp [lsR]
theorem lsR_get (l : List (List Ent)) (k : Nat) (h : k < l.length) : (lsR l).getD k [] = [.sl 2 (entR (l.getD k []))] := by
  simp [lsR, List.getD_eq_getElem?_getD, h]
theorem lsR_snoc (l : List (List Ent)) (t : List Ent) : lsR (l ++ [t]) = lsR l ++ [[.sl 2 (entR t)]] := by simp [lsR]
theorem model_spec (l : List (List Ent)) (o : OpM) (hl : 0 < l.length) (hl2 : l.length ≤ 1000000) (hs : ∀ t ∈ l, t.length ≤ 1000000) (ho : o.kind < 256 ∧ o.tree < 256 ∧ o.other < 256) :
    ACall Try.prog 42 [.os 0 1 0 l.length, opA o] [(0, .vec 88 1 (lsR l))] (fun r' H' => H' = [(0, .vec 88 1 (lsR l))] ∧ r' = Lv (modelL l o)) := by
  have hi : o.tree % l.length < l.length := Nat.mod_lt _ hl
  have hj : o.other % l.length < l.length := Nat.mod_lt _ hl
  have g1 := lsR_get l _ hi
  have g2 := lsR_get l _ hj
  obtain ⟨t, ht⟩ : ∃ t, l.getD (o.tree % l.length) [] = t := ⟨_, rfl⟩
  obtain ⟨u, hu⟩ : ∃ u, l.getD (o.other % l.length) [] = u := ⟨_, rfl⟩
  have st : t.length ≤ 1000000 := by rw [← ht]; exact hs _ (getD_mem hi)
  have su : u.length ≤ 1000000 := by rw [← hu]; exact hs _ (getD_mem hj)
  rw [ht] at g1
  rw [hu] at g2
  have w1 := wr (x := (o.tree : Int)) (by omega)
  have w2 := wr (x := (o.other : Int)) (by omega)
  have m1 : (o.tree : Int).tmod (l.length : Int) = ((o.tree % l.length : Nat) : Int) := rfl
  have m2 : (o.other : Int).tmod (l.length : Int) = ((o.other % l.length : Nat) : Int) := rfl
  have m3 : (o.kind : Int).tmod (8 : Int) = ((o.kind % 8 : Nat) : Int) := rfl
  have hk := Nat.mod_lt o.kind (show 0 < 8 by omega)
  have hstep : modelL l o = (if o.kind % 8 = 0 ∨ o.kind % 8 = 1 ∨ o.kind % 8 = 2 then putL o.key o.val t
    else if o.kind % 8 = 3 then delL o.key t
    else if o.kind % 8 = 4 then t.take (rankL o.key t)
    else if o.kind % 8 = 5 then t.drop (afterL o.key t)
    else if o.kind % 8 = 6 then joinL t u
    else t) := by unfold modelL; simp only [ht, hu]
  rw [hstep]
  generalize o.kind % 8 = q at *
  have hq : q = 0 ∨ q = 1 ∨ q = 2 ∨ q = 3 ∨ q = 4 ∨ q = 5 ∨ q = 6 ∨ q = 7 := by omega
  refine ACall.walk [0, 1, 3, 4, 5, 6, 7, 8, 28, 29, 39, 45, 48, 51] [] Try.func42 rfl Try.ntmps42 (by kernel_rfl) (by rfl) rfl fun W own I0 φ0 => ?_
  repeat (first | refine xPP rfl ?_ | refine xPE rfl ?_ | refine xEP rfl ?_ | refine xEE rfl ?_ | refine AQ.done ?_ | refine AQ.skip (by kernel_rfl) rfl ?_ | refine AQ.s2b (by kernel_rfl) rfl rfl rfl rfl ?_ | refine AQ.mark (by kernel_rfl) rfl rfl rfl rfl rfl rfl rfl ?_ | refine AP.cond_true rfl rfl ?_ | refine AP.cond_false rfl rfl ?_ | (refine AP.region rfl (by kernel_rfl) ?_; simp only [go_sem, Nat.reduceAdd, Nat.reduceLeDiff, reduceCtorEq, w1, m1, Int.toNat_natCast, g1, lsR_len]) | (refine AP.drawQ rfl rfl (by kernel_rfl) ?_; simp only [go_sem, Nat.reduceAdd, Nat.reduceLeDiff, reduceCtorEq, w1, m1, Int.toNat_natCast, g1, lsR_len]) | (refine vq_id ?_; simp only [go_sem, Nat.reduceAdd, Nat.reduceLeDiff, reduceCtorEq, w1, m1, Int.toNat_natCast, g1, lsR_len]) | (refine ⟨by first | omega | (intros; simp_all; done) | (intros; simp_all; omega), ?_⟩; try simp only [go_sem, Nat.reduceAdd, Nat.reduceLeDiff, reduceCtorEq, w1, m1, Int.toNat_natCast, g1, lsR_len]))
  refine AQ.fn (by kernel_rfl) rfl rfl rfl (split_ref t o.key (by omega)) rfl ?_
  repeat (first | refine xPP rfl ?_ | refine xPE rfl ?_ | refine xEP rfl ?_ | refine xEE rfl ?_ | refine AQ.done ?_ | refine AQ.skip (by kernel_rfl) rfl ?_ | refine AQ.s2b (by kernel_rfl) rfl rfl rfl rfl ?_ | refine AQ.mark (by kernel_rfl) rfl rfl rfl rfl rfl rfl rfl ?_ | refine AP.cond_true rfl rfl ?_ | refine AP.cond_false rfl rfl ?_ | (refine AP.region rfl (by kernel_rfl) ?_; simp only [go_sem, Nat.reduceAdd, Nat.reduceLeDiff, reduceCtorEq, m3]) | (refine AP.drawQ rfl rfl (by kernel_rfl) ?_; simp only [go_sem, Nat.reduceAdd, Nat.reduceLeDiff, reduceCtorEq, m3]) | (refine vq_id ?_; simp only [go_sem, Nat.reduceAdd, Nat.reduceLeDiff, reduceCtorEq, m3]) | (refine ⟨by first | omega | (intros; simp_all; done) | (intros; simp_all; omega), ?_⟩; try simp only [go_sem, Nat.reduceAdd, Nat.reduceLeDiff, reduceCtorEq, m3]))
  rcases hq with rfl | rfl | rfl | rfl | rfl | rfl | rfl | rfl
  · have f0 : (((0 : Nat) : Int) == 0) = true := rfl
    repeat (first | refine xPP rfl ?_ | refine xPE rfl ?_ | refine xEP rfl ?_ | refine xEE rfl ?_ | refine AQ.done ?_ | refine AQ.skip (by kernel_rfl) rfl ?_ | refine AQ.s2b (by kernel_rfl) rfl rfl rfl rfl ?_ | refine AQ.mark (by kernel_rfl) rfl rfl rfl rfl rfl rfl rfl ?_ | refine AP.cond_true rfl rfl ?_ | refine AP.cond_false rfl rfl ?_ | (refine AP.region rfl (by kernel_rfl) ?_; simp only [go_sem, Nat.reduceAdd, Nat.reduceLeDiff, reduceCtorEq, f0]) | (refine AP.drawQ rfl rfl (by kernel_rfl) ?_; simp only [go_sem, Nat.reduceAdd, Nat.reduceLeDiff, reduceCtorEq, f0]) | (refine vq_id ?_; simp only [go_sem, Nat.reduceAdd, Nat.reduceLeDiff, reduceCtorEq, f0]) | (refine ⟨by first | omega | (intros; simp_all; done) | (intros; simp_all; omega), ?_⟩; try simp only [go_sem, Nat.reduceAdd, Nat.reduceLeDiff, reduceCtorEq, f0]))
    refine AQ.fn (by kernel_rfl) rfl rfl rfl (put_ref t o.key o.val (by omega)) rfl ?_
    repeat (first | refine xPP rfl ?_ | refine xPE rfl ?_ | refine xEP rfl ?_ | refine xEE rfl ?_ | refine AQ.done ?_ | refine AQ.skip (by kernel_rfl) rfl ?_ | refine AQ.s2b (by kernel_rfl) rfl rfl rfl rfl ?_ | refine AQ.mark (by kernel_rfl) rfl rfl rfl rfl rfl rfl rfl ?_ | refine AP.cond_true rfl rfl ?_ | refine AP.cond_false rfl rfl ?_ | (refine AP.region rfl (by kernel_rfl) ?_; simp only [go_sem, Nat.reduceAdd, Nat.reduceLeDiff, reduceCtorEq]) | (refine AP.drawQ rfl rfl (by kernel_rfl) ?_; simp only [go_sem, Nat.reduceAdd, Nat.reduceLeDiff, reduceCtorEq]) | (refine vq_id ?_; simp only [go_sem, Nat.reduceAdd, Nat.reduceLeDiff, reduceCtorEq]) | (refine ⟨by first | omega | (intros; simp_all; done) | (intros; simp_all; omega), ?_⟩; try simp only [go_sem, Nat.reduceAdd, Nat.reduceLeDiff, reduceCtorEq]))
    exact AE.ret rfl ⟨rfl, trivial⟩ ⟨rfl, rfl⟩
  · have f0 : (((1 : Nat) : Int) == 0) = false := rfl
    have f1 : (((1 : Nat) : Int) == 1) = true := rfl
    repeat (first | refine xPP rfl ?_ | refine xPE rfl ?_ | refine xEP rfl ?_ | refine xEE rfl ?_ | refine AQ.done ?_ | refine AQ.skip (by kernel_rfl) rfl ?_ | refine AQ.s2b (by kernel_rfl) rfl rfl rfl rfl ?_ | refine AQ.mark (by kernel_rfl) rfl rfl rfl rfl rfl rfl rfl ?_ | refine AP.cond_true rfl rfl ?_ | refine AP.cond_false rfl rfl ?_ | (refine AP.region rfl (by kernel_rfl) ?_; simp only [go_sem, Nat.reduceAdd, Nat.reduceLeDiff, reduceCtorEq, f0, f1]) | (refine AP.drawQ rfl rfl (by kernel_rfl) ?_; simp only [go_sem, Nat.reduceAdd, Nat.reduceLeDiff, reduceCtorEq, f0, f1]) | (refine vq_id ?_; simp only [go_sem, Nat.reduceAdd, Nat.reduceLeDiff, reduceCtorEq, f0, f1]) | (refine ⟨by first | omega | (intros; simp_all; done) | (intros; simp_all; omega), ?_⟩; try simp only [go_sem, Nat.reduceAdd, Nat.reduceLeDiff, reduceCtorEq, f0, f1]))
    refine AQ.fn (by kernel_rfl) rfl rfl rfl (put_ref t o.key o.val (by omega)) rfl ?_
    repeat (first | refine xPP rfl ?_ | refine xPE rfl ?_ | refine xEP rfl ?_ | refine xEE rfl ?_ | refine AQ.done ?_ | refine AQ.skip (by kernel_rfl) rfl ?_ | refine AQ.s2b (by kernel_rfl) rfl rfl rfl rfl ?_ | refine AQ.mark (by kernel_rfl) rfl rfl rfl rfl rfl rfl rfl ?_ | refine AP.cond_true rfl rfl ?_ | refine AP.cond_false rfl rfl ?_ | (refine AP.region rfl (by kernel_rfl) ?_; simp only [go_sem, Nat.reduceAdd, Nat.reduceLeDiff, reduceCtorEq]) | (refine AP.drawQ rfl rfl (by kernel_rfl) ?_; simp only [go_sem, Nat.reduceAdd, Nat.reduceLeDiff, reduceCtorEq]) | (refine vq_id ?_; simp only [go_sem, Nat.reduceAdd, Nat.reduceLeDiff, reduceCtorEq]) | (refine ⟨by first | omega | (intros; simp_all; done) | (intros; simp_all; omega), ?_⟩; try simp only [go_sem, Nat.reduceAdd, Nat.reduceLeDiff, reduceCtorEq]))
    exact AE.ret rfl ⟨rfl, trivial⟩ ⟨rfl, rfl⟩
  · have f0 : (((2 : Nat) : Int) == 0) = false := rfl
    have f1 : (((2 : Nat) : Int) == 1) = false := rfl
    have f2 : (((2 : Nat) : Int) == 2) = true := rfl
    repeat (first | refine xPP rfl ?_ | refine xPE rfl ?_ | refine xEP rfl ?_ | refine xEE rfl ?_ | refine AQ.done ?_ | refine AQ.skip (by kernel_rfl) rfl ?_ | refine AQ.s2b (by kernel_rfl) rfl rfl rfl rfl ?_ | refine AQ.mark (by kernel_rfl) rfl rfl rfl rfl rfl rfl rfl ?_ | refine AP.cond_true rfl rfl ?_ | refine AP.cond_false rfl rfl ?_ | (refine AP.region rfl (by kernel_rfl) ?_; simp only [go_sem, Nat.reduceAdd, Nat.reduceLeDiff, reduceCtorEq, f0, f1, f2]) | (refine AP.drawQ rfl rfl (by kernel_rfl) ?_; simp only [go_sem, Nat.reduceAdd, Nat.reduceLeDiff, reduceCtorEq, f0, f1, f2]) | (refine vq_id ?_; simp only [go_sem, Nat.reduceAdd, Nat.reduceLeDiff, reduceCtorEq, f0, f1, f2]) | (refine ⟨by first | omega | (intros; simp_all; done) | (intros; simp_all; omega), ?_⟩; try simp only [go_sem, Nat.reduceAdd, Nat.reduceLeDiff, reduceCtorEq, f0, f1, f2]))
    refine AQ.fn (by kernel_rfl) rfl rfl rfl (put_ref t o.key o.val (by omega)) rfl ?_
    repeat (first | refine xPP rfl ?_ | refine xPE rfl ?_ | refine xEP rfl ?_ | refine xEE rfl ?_ | refine AQ.done ?_ | refine AQ.skip (by kernel_rfl) rfl ?_ | refine AQ.s2b (by kernel_rfl) rfl rfl rfl rfl ?_ | refine AQ.mark (by kernel_rfl) rfl rfl rfl rfl rfl rfl rfl ?_ | refine AP.cond_true rfl rfl ?_ | refine AP.cond_false rfl rfl ?_ | (refine AP.region rfl (by kernel_rfl) ?_; simp only [go_sem, Nat.reduceAdd, Nat.reduceLeDiff, reduceCtorEq]) | (refine AP.drawQ rfl rfl (by kernel_rfl) ?_; simp only [go_sem, Nat.reduceAdd, Nat.reduceLeDiff, reduceCtorEq]) | (refine vq_id ?_; simp only [go_sem, Nat.reduceAdd, Nat.reduceLeDiff, reduceCtorEq]) | (refine ⟨by first | omega | (intros; simp_all; done) | (intros; simp_all; omega), ?_⟩; try simp only [go_sem, Nat.reduceAdd, Nat.reduceLeDiff, reduceCtorEq]))
    exact AE.ret rfl ⟨rfl, trivial⟩ ⟨rfl, rfl⟩
  · have f0 : (((3 : Nat) : Int) == 0) = false := rfl
    have f1 : (((3 : Nat) : Int) == 1) = false := rfl
    have f2 : (((3 : Nat) : Int) == 2) = false := rfl
    have f3 : (((3 : Nat) : Int) == 3) = true := rfl
    repeat (first | refine xPP rfl ?_ | refine xPE rfl ?_ | refine xEP rfl ?_ | refine xEE rfl ?_ | refine AQ.done ?_ | refine AQ.skip (by kernel_rfl) rfl ?_ | refine AQ.s2b (by kernel_rfl) rfl rfl rfl rfl ?_ | refine AQ.mark (by kernel_rfl) rfl rfl rfl rfl rfl rfl rfl ?_ | refine AP.cond_true rfl rfl ?_ | refine AP.cond_false rfl rfl ?_ | (refine AP.region rfl (by kernel_rfl) ?_; simp only [go_sem, Nat.reduceAdd, Nat.reduceLeDiff, reduceCtorEq, f0, f1, f2, f3]) | (refine AP.drawQ rfl rfl (by kernel_rfl) ?_; simp only [go_sem, Nat.reduceAdd, Nat.reduceLeDiff, reduceCtorEq, f0, f1, f2, f3]) | (refine vq_id ?_; simp only [go_sem, Nat.reduceAdd, Nat.reduceLeDiff, reduceCtorEq, f0, f1, f2, f3]) | (refine ⟨by first | omega | (intros; simp_all; done) | (intros; simp_all; omega), ?_⟩; try simp only [go_sem, Nat.reduceAdd, Nat.reduceLeDiff, reduceCtorEq, f0, f1, f2, f3]))
    refine AQ.fn (by kernel_rfl) rfl rfl rfl (del_ref t o.key (by omega)) rfl ?_
    repeat (first | refine xPP rfl ?_ | refine xPE rfl ?_ | refine xEP rfl ?_ | refine xEE rfl ?_ | refine AQ.done ?_ | refine AQ.skip (by kernel_rfl) rfl ?_ | refine AQ.s2b (by kernel_rfl) rfl rfl rfl rfl ?_ | refine AQ.mark (by kernel_rfl) rfl rfl rfl rfl rfl rfl rfl ?_ | refine AP.cond_true rfl rfl ?_ | refine AP.cond_false rfl rfl ?_ | (refine AP.region rfl (by kernel_rfl) ?_; simp only [go_sem, Nat.reduceAdd, Nat.reduceLeDiff, reduceCtorEq]) | (refine AP.drawQ rfl rfl (by kernel_rfl) ?_; simp only [go_sem, Nat.reduceAdd, Nat.reduceLeDiff, reduceCtorEq]) | (refine vq_id ?_; simp only [go_sem, Nat.reduceAdd, Nat.reduceLeDiff, reduceCtorEq]) | (refine ⟨by first | omega | (intros; simp_all; done) | (intros; simp_all; omega), ?_⟩; try simp only [go_sem, Nat.reduceAdd, Nat.reduceLeDiff, reduceCtorEq]))
    exact AE.ret rfl ⟨rfl, trivial⟩ ⟨rfl, rfl⟩
  · have f0 : (((4 : Nat) : Int) == 0) = false := rfl
    have f1 : (((4 : Nat) : Int) == 1) = false := rfl
    have f2 : (((4 : Nat) : Int) == 2) = false := rfl
    have f3 : (((4 : Nat) : Int) == 3) = false := rfl
    have f4 : (((4 : Nat) : Int) == 4) = true := rfl
    repeat (first | refine xPP rfl ?_ | refine xPE rfl ?_ | refine xEP rfl ?_ | refine xEE rfl ?_ | refine AQ.done ?_ | refine AQ.skip (by kernel_rfl) rfl ?_ | refine AQ.s2b (by kernel_rfl) rfl rfl rfl rfl ?_ | refine AQ.mark (by kernel_rfl) rfl rfl rfl rfl rfl rfl rfl ?_ | refine AP.cond_true rfl rfl ?_ | refine AP.cond_false rfl rfl ?_ | (refine AP.region rfl (by kernel_rfl) ?_; simp only [go_sem, Nat.reduceAdd, Nat.reduceLeDiff, reduceCtorEq, f0, f1, f2, f3, f4]) | (refine AP.drawQ rfl rfl (by kernel_rfl) ?_; simp only [go_sem, Nat.reduceAdd, Nat.reduceLeDiff, reduceCtorEq, f0, f1, f2, f3, f4]) | (refine vq_id ?_; simp only [go_sem, Nat.reduceAdd, Nat.reduceLeDiff, reduceCtorEq, f0, f1, f2, f3, f4]) | (refine ⟨by first | omega | (intros; simp_all; done) | (intros; simp_all; omega), ?_⟩; try simp only [go_sem, Nat.reduceAdd, Nat.reduceLeDiff, reduceCtorEq, f0, f1, f2, f3, f4]))
    exact AE.ret rfl ⟨rfl, trivial⟩ ⟨rfl, rfl⟩
  · have f0 : (((5 : Nat) : Int) == 0) = false := rfl
    have f1 : (((5 : Nat) : Int) == 1) = false := rfl
    have f2 : (((5 : Nat) : Int) == 2) = false := rfl
    have f3 : (((5 : Nat) : Int) == 3) = false := rfl
    have f4 : (((5 : Nat) : Int) == 4) = false := rfl
    have f5 : (((5 : Nat) : Int) == 5) = true := rfl
    repeat (first | refine xPP rfl ?_ | refine xPE rfl ?_ | refine xEP rfl ?_ | refine xEE rfl ?_ | refine AQ.done ?_ | refine AQ.skip (by kernel_rfl) rfl ?_ | refine AQ.s2b (by kernel_rfl) rfl rfl rfl rfl ?_ | refine AQ.mark (by kernel_rfl) rfl rfl rfl rfl rfl rfl rfl ?_ | refine AP.cond_true rfl rfl ?_ | refine AP.cond_false rfl rfl ?_ | (refine AP.region rfl (by kernel_rfl) ?_; simp only [go_sem, Nat.reduceAdd, Nat.reduceLeDiff, reduceCtorEq, f0, f1, f2, f3, f4, f5]) | (refine AP.drawQ rfl rfl (by kernel_rfl) ?_; simp only [go_sem, Nat.reduceAdd, Nat.reduceLeDiff, reduceCtorEq, f0, f1, f2, f3, f4, f5]) | (refine vq_id ?_; simp only [go_sem, Nat.reduceAdd, Nat.reduceLeDiff, reduceCtorEq, f0, f1, f2, f3, f4, f5]) | (refine ⟨by first | omega | (intros; simp_all; done) | (intros; simp_all; omega), ?_⟩; try simp only [go_sem, Nat.reduceAdd, Nat.reduceLeDiff, reduceCtorEq, f0, f1, f2, f3, f4, f5]))
    exact AE.ret rfl ⟨rfl, trivial⟩ ⟨rfl, rfl⟩
  · have f0 : (((6 : Nat) : Int) == 0) = false := rfl
    have f1 : (((6 : Nat) : Int) == 1) = false := rfl
    have f2 : (((6 : Nat) : Int) == 2) = false := rfl
    have f3 : (((6 : Nat) : Int) == 3) = false := rfl
    have f4 : (((6 : Nat) : Int) == 4) = false := rfl
    have f5 : (((6 : Nat) : Int) == 5) = false := rfl
    have f6 : (((6 : Nat) : Int) == 6) = true := rfl
    repeat (first | refine xPP rfl ?_ | refine xPE rfl ?_ | refine xEP rfl ?_ | refine xEE rfl ?_ | refine AQ.done ?_ | refine AQ.skip (by kernel_rfl) rfl ?_ | refine AQ.s2b (by kernel_rfl) rfl rfl rfl rfl ?_ | refine AQ.mark (by kernel_rfl) rfl rfl rfl rfl rfl rfl rfl ?_ | refine AP.cond_true rfl rfl ?_ | refine AP.cond_false rfl rfl ?_ | (refine AP.region rfl (by kernel_rfl) ?_; simp only [go_sem, Nat.reduceAdd, Nat.reduceLeDiff, reduceCtorEq, f0, f1, f2, f3, f4, f5, f6, w2, m2, Int.toNat_natCast, g2, lsR_len]) | (refine AP.drawQ rfl rfl (by kernel_rfl) ?_; simp only [go_sem, Nat.reduceAdd, Nat.reduceLeDiff, reduceCtorEq, f0, f1, f2, f3, f4, f5, f6, w2, m2, Int.toNat_natCast, g2, lsR_len]) | (refine vq_id ?_; simp only [go_sem, Nat.reduceAdd, Nat.reduceLeDiff, reduceCtorEq, f0, f1, f2, f3, f4, f5, f6, w2, m2, Int.toNat_natCast, g2, lsR_len]) | (refine ⟨by first | omega | (intros; simp_all; done) | (intros; simp_all; omega), ?_⟩; try simp only [go_sem, Nat.reduceAdd, Nat.reduceLeDiff, reduceCtorEq, f0, f1, f2, f3, f4, f5, f6, w2, m2, Int.toNat_natCast, g2, lsR_len]))
    refine AQ.fn (by kernel_rfl) rfl rfl rfl (join_ref t u (by omega) (by omega)) rfl ?_
    repeat (first | refine xPP rfl ?_ | refine xPE rfl ?_ | refine xEP rfl ?_ | refine xEE rfl ?_ | refine AQ.done ?_ | refine AQ.skip (by kernel_rfl) rfl ?_ | refine AQ.s2b (by kernel_rfl) rfl rfl rfl rfl ?_ | refine AQ.mark (by kernel_rfl) rfl rfl rfl rfl rfl rfl rfl ?_ | refine AP.cond_true rfl rfl ?_ | refine AP.cond_false rfl rfl ?_ | (refine AP.region rfl (by kernel_rfl) ?_; simp only [go_sem, Nat.reduceAdd, Nat.reduceLeDiff, reduceCtorEq]) | (refine AP.drawQ rfl rfl (by kernel_rfl) ?_; simp only [go_sem, Nat.reduceAdd, Nat.reduceLeDiff, reduceCtorEq]) | (refine vq_id ?_; simp only [go_sem, Nat.reduceAdd, Nat.reduceLeDiff, reduceCtorEq]) | (refine ⟨by first | omega | (intros; simp_all; done) | (intros; simp_all; omega), ?_⟩; try simp only [go_sem, Nat.reduceAdd, Nat.reduceLeDiff, reduceCtorEq]))
    exact AE.ret rfl ⟨rfl, trivial⟩ ⟨rfl, rfl⟩
  · have f0 : (((7 : Nat) : Int) == 0) = false := rfl
    have f1 : (((7 : Nat) : Int) == 1) = false := rfl
    have f2 : (((7 : Nat) : Int) == 2) = false := rfl
    have f3 : (((7 : Nat) : Int) == 3) = false := rfl
    have f4 : (((7 : Nat) : Int) == 4) = false := rfl
    have f5 : (((7 : Nat) : Int) == 5) = false := rfl
    have f6 : (((7 : Nat) : Int) == 6) = false := rfl
    repeat (first | refine xPP rfl ?_ | refine xPE rfl ?_ | refine xEP rfl ?_ | refine xEE rfl ?_ | refine AQ.done ?_ | refine AQ.skip (by kernel_rfl) rfl ?_ | refine AQ.s2b (by kernel_rfl) rfl rfl rfl rfl ?_ | refine AQ.mark (by kernel_rfl) rfl rfl rfl rfl rfl rfl rfl ?_ | refine AP.cond_true rfl rfl ?_ | refine AP.cond_false rfl rfl ?_ | (refine AP.region rfl (by kernel_rfl) ?_; simp only [go_sem, Nat.reduceAdd, Nat.reduceLeDiff, reduceCtorEq, f0, f1, f2, f3, f4, f5, f6]) | (refine AP.drawQ rfl rfl (by kernel_rfl) ?_; simp only [go_sem, Nat.reduceAdd, Nat.reduceLeDiff, reduceCtorEq, f0, f1, f2, f3, f4, f5, f6]) | (refine vq_id ?_; simp only [go_sem, Nat.reduceAdd, Nat.reduceLeDiff, reduceCtorEq, f0, f1, f2, f3, f4, f5, f6]) | (refine ⟨by first | omega | (intros; simp_all; done) | (intros; simp_all; omega), ?_⟩; try simp only [go_sem, Nat.reduceAdd, Nat.reduceLeDiff, reduceCtorEq, f0, f1, f2, f3, f4, f5, f6]))
    exact AE.ret rfl ⟨rfl, trivial⟩ ⟨rfl, rfl⟩
theorem equal_spec (l : List Ent) (hl : l.length ≤ 1000000) : PFn Try.prog 46 [Lv l, Lv l] (Bv true) := by
  refine ACall.walk [0, 1, 4, 5, 10, 12, 13, 14, 24] [] Try.func46 rfl Try.ntmps46 (by kernel_rfl) (by rfl) rfl fun W own I0 φ0 => ?_
  repeat (first | refine xPP rfl ?_ | refine xPE rfl ?_ | refine xEP rfl ?_ | refine xEE rfl ?_ | refine AQ.done ?_ | refine AQ.skip (by kernel_rfl) rfl ?_ | refine AQ.s2b (by kernel_rfl) rfl rfl rfl rfl ?_ | refine AQ.mark (by kernel_rfl) rfl rfl rfl rfl rfl rfl rfl ?_ | refine AP.cond_true rfl rfl ?_ | refine AP.cond_false rfl rfl ?_ | (refine AP.region rfl (by kernel_rfl) ?_; simp only [go_sem, Nat.reduceAdd, Nat.reduceLeDiff, reduceCtorEq, entR_len, bne_self_eq_false]) | (refine AP.drawQ rfl rfl (by kernel_rfl) ?_; simp only [go_sem, Nat.reduceAdd, Nat.reduceLeDiff, reduceCtorEq, entR_len, bne_self_eq_false]) | (refine vq_id ?_; simp only [go_sem, Nat.reduceAdd, Nat.reduceLeDiff, reduceCtorEq, entR_len, bne_self_eq_false]) | (refine ⟨by first | omega | (intros; simp_all; done) | (intros; simp_all; omega), ?_⟩; try simp only [go_sem, Nat.reduceAdd, Nat.reduceLeDiff, reduceCtorEq, entR_len, bne_self_eq_false]))
  refine AP.loop rfl (α := Nat) (fun j => [(0, Lv l), (1, Lv l), (12, Iv l.length), (13, Iv j)]) (fun _ => []) (fun j => j ≤ l.length) (fun j => l.length - j) 0 (by omega) (by repeat (first | exact Sub.nil _ | refine Sub.cons rfl ?_)) rfl fun j hj => ?_
  have hw := wr (x := (j : Int) + 1) (by omega)
  repeat (first | refine xPP rfl ?_ | refine xPE rfl ?_ | refine xEP rfl ?_ | refine xEE rfl ?_ | refine AQ.done ?_ | refine AQ.skip (by kernel_rfl) rfl ?_ | refine AQ.s2b (by kernel_rfl) rfl rfl rfl rfl ?_ | refine AQ.mark (by kernel_rfl) rfl rfl rfl rfl rfl rfl rfl ?_ | refine AP.cond_true rfl rfl ?_ | refine AP.cond_false rfl rfl ?_ | (refine AP.region rfl (by kernel_rfl) ?_; simp only [go_sem, Nat.reduceAdd, Nat.reduceLeDiff, reduceCtorEq]) | (refine AP.drawQ rfl rfl (by kernel_rfl) ?_; simp only [go_sem, Nat.reduceAdd, Nat.reduceLeDiff, reduceCtorEq]) | (refine vq_id ?_; simp only [go_sem, Nat.reduceAdd, Nat.reduceLeDiff, reduceCtorEq]) | (refine ⟨by first | omega | (intros; simp_all; done) | (intros; simp_all; omega), ?_⟩; try simp only [go_sem, Nat.reduceAdd, Nat.reduceLeDiff, reduceCtorEq]))
  refine AP.cond rfl rfl (fun hc => ?_) (fun hc => ?_)
  · have hj' : j < l.length := by simp at hc; omega
    have hg := entR_get l j hj'
    repeat (first | refine xPP rfl ?_ | refine xPE rfl ?_ | refine xEP rfl ?_ | refine xEE rfl ?_ | refine AQ.done ?_ | refine AQ.skip (by kernel_rfl) rfl ?_ | refine AQ.s2b (by kernel_rfl) rfl rfl rfl rfl ?_ | refine AQ.mark (by kernel_rfl) rfl rfl rfl rfl rfl rfl rfl ?_ | refine AP.cond_true rfl rfl ?_ | refine AP.cond_false rfl rfl ?_ | (refine AP.region rfl (by kernel_rfl) ?_; simp only [go_sem, Nat.reduceAdd, Nat.reduceLeDiff, reduceCtorEq, hg, entR_len, beq_self_eq_true, Bool.and_self, Bool.not_true, hw]) | (refine AP.drawQ rfl rfl (by kernel_rfl) ?_; simp only [go_sem, Nat.reduceAdd, Nat.reduceLeDiff, reduceCtorEq, hg, entR_len, beq_self_eq_true, Bool.and_self, Bool.not_true, hw]) | (refine vq_id ?_; simp only [go_sem, Nat.reduceAdd, Nat.reduceLeDiff, reduceCtorEq, hg, entR_len, beq_self_eq_true, Bool.and_self, Bool.not_true, hw]) | (refine ⟨by first | omega | (intros; simp_all; done) | (intros; simp_all; omega), ?_⟩; try simp only [go_sem, Nat.reduceAdd, Nat.reduceLeDiff, reduceCtorEq, hg, entR_len, beq_self_eq_true, Bool.and_self, Bool.not_true, hw]))
    exact AE.round (j + 1) (by omega) (by omega) (by repeat (first | exact Sub.nil _ | refine Sub.cons rfl ?_)) rfl
  · repeat (first | refine xPP rfl ?_ | refine xPE rfl ?_ | refine xEP rfl ?_ | refine xEE rfl ?_ | refine AQ.done ?_ | refine AQ.skip (by kernel_rfl) rfl ?_ | refine AQ.s2b (by kernel_rfl) rfl rfl rfl rfl ?_ | refine AQ.mark (by kernel_rfl) rfl rfl rfl rfl rfl rfl rfl ?_ | refine AP.cond_true rfl rfl ?_ | refine AP.cond_false rfl rfl ?_ | (refine AP.region rfl (by kernel_rfl) ?_; simp only [go_sem, Nat.reduceAdd, Nat.reduceLeDiff, reduceCtorEq]) | (refine AP.drawQ rfl rfl (by kernel_rfl) ?_; simp only [go_sem, Nat.reduceAdd, Nat.reduceLeDiff, reduceCtorEq]) | (refine vq_id ?_; simp only [go_sem, Nat.reduceAdd, Nat.reduceLeDiff, reduceCtorEq]) | (refine ⟨by first | omega | (intros; simp_all; done) | (intros; simp_all; omega), ?_⟩; try simp only [go_sem, Nat.reduceAdd, Nat.reduceLeDiff, reduceCtorEq]))
    exact AE.ret rfl ⟨rfl, trivial⟩ ⟨rfl, rfl⟩
end Go.Proofs.Ytfgffpkdjmeaoaa
end
