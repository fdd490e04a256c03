import Derived.Test.YtlpcdpjkdodmcaaDoorW1
import Derived.Shelf.Spec.SlicesGrow
import Derived.Test.YtlpcdpjkdodmcaaDoorCards
import Derived.Test.YtlpcdpjkdodmcaaDoorTie
import Derived.Stop.LaidErr
import Derived.Lib.LaidTab
set_option linter.unusedSimpArgs false
set_option linter.unusedVariables false
set_option linter.unnecessarySimpa false
section
namespace Go.Proofs.YtlpcdpjkdodmcaaDoor
open Go Go.AL Go.RowKit
set_option maxRecDepth 10000
set_option maxHeartbeats 4000000
theorem any_spec (l : List UInt8) : PFn Tryd.prog 60 [Sv l] (Bv true) := by
  refine ACall.walk [0, 2] [] Tryd.func60 rfl Tryd.ntmps60 (by kernel_rfl) (by rfl) rfl fun W own I0 φ0 lay => ?_
  repeat (first | refine xA ?_ | refine xB ?_ | refine xC ?_ | refine xE ?_ | refine xD ?_ | refine xK ?_ | refine xS ?_ | refine xM ?_ | refine xT ?_ | refine xF ?_ | ((first | refine xR ?_ | refine xW ?_ | refine vq_id ?_); simp only [go_sem, Nat.reduceAdd, Nat.reduceLeDiff, Nat.reduceSub, Int.reduceToNat, reduceCtorEq]) | (refine ⟨by first | omega | (intros; simp_all; done) | (intros; simp_all; omega), ?_⟩; try simp only [go_sem, Nat.reduceAdd, Nat.reduceLeDiff, Nat.reduceSub, Int.reduceToNat, reduceCtorEq]))
  exact AE.ret0 rfl ⟨rfl, trivial⟩ rfl ⟨rfl, rfl⟩
theorem list_spec (l : List UInt8) (hl : l.length ≤ 1000000000) : PFn Tryd.prog 63 [Sv l] (Bv (l == [] || onlyOk l [2])) := by
  have h := isLabel_spec l (by omega)
  refine ACall.walk [0, 2] [] Tryd.func63 rfl Tryd.ntmps63 (by kernel_rfl) (by rfl) rfl fun W own I0 φ0 lay => ?_
  repeat (first | refine xA ?_ | refine xB ?_ | refine xC ?_ | refine xE ?_ | refine xD ?_ | refine xK ?_ | refine xS ?_ | refine xM ?_ | refine xT ?_ | refine xF ?_ | ((first | refine xR ?_ | refine xW ?_ | refine vq_id ?_); simp only [go_sem, Nat.reduceAdd, Nat.reduceLeDiff, Nat.reduceSub, Int.reduceToNat, reduceCtorEq]) | (refine ⟨by first | omega | (intros; simp_all; done) | (intros; simp_all; omega), ?_⟩; try simp only [go_sem, Nat.reduceAdd, Nat.reduceLeDiff, Nat.reduceSub, Int.reduceToNat, reduceCtorEq]))
  refine AQ.fn_g (by kernel_rfl) rfl rfl (fun h => by first | (simp [gs, AV.g]; done) | (simp [gs, AV.g, constAV]; done) | (simp [gs, AV.g, constAV, bw] at h ⊢; done) | (simp [gs, AV.g, constAV, bw] at h ⊢; exact h) | (simp [gs, AV.g, constAV, bw] at h ⊢; simp [h]; done) | (simp [bw] at h; done) | (simp [gs, AV.g, bw] at h ⊢; simp [h]; done) | (simp [gs, AV.g, bw] at h ⊢; exact h.1) | (simp [gs, AV.g]; rfl) | (simp [gs, AV.g, bw] at h ⊢; rfl) | (simp [gs, AV.g, bw] at h ⊢; simp [h]; rfl) | (simp [gs, AV.g, bw] at h ⊢; simp_all)) rfl (fun _ => h) rfl ?_
  repeat (first | refine xA ?_ | refine xB ?_ | refine xC ?_ | refine xE ?_ | refine xD ?_ | refine xK ?_ | refine xS ?_ | refine xM ?_ | refine xT ?_ | refine xF ?_ | ((first | refine xR ?_ | refine xW ?_ | refine vq_id ?_); simp only [go_sem, Nat.reduceAdd, Nat.reduceLeDiff, Nat.reduceSub, Int.reduceToNat, reduceCtorEq]) | (refine ⟨by first | omega | (intros; simp_all; done) | (intros; simp_all; omega), ?_⟩; try simp only [go_sem, Nat.reduceAdd, Nat.reduceLeDiff, Nat.reduceSub, Int.reduceToNat, reduceCtorEq]))
  exact AE.ret0 rfl ⟨rfl, trivial⟩ rfl ⟨rfl, by simp [tupOf, AV.st]⟩
theorem bye_spec (l : List UInt8) : PFn Tryd.prog 65 [Sv l] (Bv (l == [])) := by
  refine ACall.walk [0, 2] [] Tryd.func65 rfl Tryd.ntmps65 (by kernel_rfl) (by rfl) rfl fun W own I0 φ0 lay => ?_
  repeat (first | refine xA ?_ | refine xB ?_ | refine xC ?_ | refine xE ?_ | refine xD ?_ | refine xK ?_ | refine xS ?_ | refine xM ?_ | refine xT ?_ | refine xF ?_ | ((first | refine xR ?_ | refine xW ?_ | refine vq_id ?_); simp only [go_sem, Nat.reduceAdd, Nat.reduceLeDiff, Nat.reduceSub, Int.reduceToNat, reduceCtorEq]) | (refine ⟨by first | omega | (intros; simp_all; done) | (intros; simp_all; omega), ?_⟩; try simp only [go_sem, Nat.reduceAdd, Nat.reduceLeDiff, Nat.reduceSub, Int.reduceToNat, reduceCtorEq]))
  exact AE.ret0 rfl ⟨rfl, trivial⟩ rfl ⟨rfl, rfl⟩
theorem error_spec (k n : Int) (l : List UInt8) : PFn Tryd.prog 34 [.agg [Iv k, Iv n, Sv l]] (Iv (msgE k n l)) := by
  refine ACall.walk [0, 1, 2, 3, 4, 14, 23, 32, 37] [4] Tryd.func34 rfl Tryd.ntmps34 (by kernel_rfl) (by rfl) rfl fun W own I0 φ0 lay => ?_
  have hz : List.replicate 10 Value.nilFunc = [.nilFunc, .nilFunc, .nilFunc, .nilFunc, .nilFunc, .nilFunc, .nilFunc, .nilFunc, .nilFunc, .nilFunc] := rfl
  repeat (first | refine xA ?_ | refine xB ?_ | refine xC ?_ | refine xE ?_ | refine xD ?_ | refine xK ?_ | refine xS ?_ | refine xM ?_ | refine xT ?_ | refine xF ?_ | ((first | refine xR ?_ | refine xW ?_ | refine vq_id ?_); simp only [go_sem, Nat.reduceAdd, Nat.reduceLeDiff, Nat.reduceSub, Int.reduceToNat, reduceCtorEq, hz, List.map_cons, List.map_nil, Nat.reduceMul, List.set_cons_zero, List.set_cons_succ]) | (refine ⟨by first | omega | (intros; simp_all; done) | (intros; simp_all; omega), ?_⟩; try simp only [go_sem, Nat.reduceAdd, Nat.reduceLeDiff, Nat.reduceSub, Int.reduceToNat, reduceCtorEq, hz, List.map_cons, List.map_nil, Nat.reduceMul, List.set_cons_zero, List.set_cons_succ]))
  unfold msgE
  refine AP.cond rfl rfl (fun hc => ?_) (fun hc => ?_)
  · simp only [Bool.or_eq_true, decide_eq_true_eq] at hc
    rw [if_pos hc]
    repeat (first | refine xA ?_ | refine xB ?_ | refine xC ?_ | refine xE ?_ | refine xD ?_ | refine xK ?_ | refine xS ?_ | refine xM ?_ | refine xT ?_ | refine xF ?_ | ((first | refine xR ?_ | refine xW ?_ | refine vq_id ?_); simp only [go_sem, Nat.reduceAdd, Nat.reduceLeDiff, Nat.reduceSub, Int.reduceToNat, reduceCtorEq]) | (refine ⟨by first | omega | (intros; simp_all; done) | (intros; simp_all; omega), ?_⟩; try simp only [go_sem, Nat.reduceAdd, Nat.reduceLeDiff, Nat.reduceSub, Int.reduceToNat, reduceCtorEq]))
    exact AE.ret0 rfl ⟨rfl, trivial⟩ rfl ⟨rfl, rfl⟩
  simp only [Bool.or_eq_false_iff, decide_eq_false_iff_not] at hc
  rw [if_neg (by omega)]
  repeat (first | refine xA ?_ | refine xB ?_ | refine xC ?_ | refine xE ?_ | refine xD ?_ | refine xK ?_ | refine xS ?_ | refine xM ?_ | refine xT ?_ | refine xF ?_ | ((first | refine xR ?_ | refine xW ?_ | refine vq_id ?_); simp only [go_sem, Nat.reduceAdd, Nat.reduceLeDiff, Nat.reduceSub, Int.reduceToNat, reduceCtorEq]) | (refine ⟨by first | omega | (intros; simp_all; done) | (intros; simp_all; omega), ?_⟩; try simp only [go_sem, Nat.reduceAdd, Nat.reduceLeDiff, Nat.reduceSub, Int.reduceToNat, reduceCtorEq]))
  refine AP.cond rfl rfl (fun hc2 => ?_) (fun hc2 => ?_)
  · simp only [Bool.or_eq_true, decide_eq_true_eq] at hc2
    rw [if_pos hc2]
    repeat (first | refine xA ?_ | refine xB ?_ | refine xC ?_ | refine xE ?_ | refine xD ?_ | refine xK ?_ | refine xS ?_ | refine xM ?_ | refine xT ?_ | refine xF ?_ | ((first | refine xR ?_ | refine xW ?_ | refine vq_id ?_); simp only [go_sem, Nat.reduceAdd, Nat.reduceLeDiff, Nat.reduceSub, Int.reduceToNat, reduceCtorEq]) | (refine ⟨by first | omega | (intros; simp_all; done) | (intros; simp_all; omega), ?_⟩; try simp only [go_sem, Nat.reduceAdd, Nat.reduceLeDiff, Nat.reduceSub, Int.reduceToNat, reduceCtorEq]))
    exact AE.ret0 rfl ⟨rfl, trivial⟩ rfl ⟨rfl, rfl⟩
  simp only [Bool.or_eq_false_iff, decide_eq_false_iff_not] at hc2
  rw [if_neg (by omega)]
  repeat (first | refine xA ?_ | refine xB ?_ | refine xC ?_ | refine xE ?_ | refine xD ?_ | refine xK ?_ | refine xS ?_ | refine xM ?_ | refine xT ?_ | refine xF ?_ | ((first | refine xR ?_ | refine xW ?_ | refine vq_id ?_); simp only [go_sem, Nat.reduceAdd, Nat.reduceLeDiff, Nat.reduceSub, Int.reduceToNat, reduceCtorEq, BA_size]) | (refine ⟨by first | omega | (intros; simp_all; done) | (intros; simp_all; omega), ?_⟩; try simp only [go_sem, Nat.reduceAdd, Nat.reduceLeDiff, Nat.reduceSub, Int.reduceToNat, reduceCtorEq, BA_size]))
  refine AP.cond rfl rfl (fun hc3 => ?_) (fun hc3 => ?_)
  · simp only [decide_eq_true_eq] at hc3
    rw [if_pos (by omega)]
    repeat (first | refine xA ?_ | refine xB ?_ | refine xC ?_ | refine xE ?_ | refine xD ?_ | refine xK ?_ | refine xS ?_ | refine xM ?_ | refine xT ?_ | refine xF ?_ | ((first | refine xR ?_ | refine xW ?_ | refine vq_id ?_); simp only [go_sem, Nat.reduceAdd, Nat.reduceLeDiff, Nat.reduceSub, Int.reduceToNat, reduceCtorEq]) | (refine ⟨by first | omega | (intros; simp_all; done) | (intros; simp_all; omega), ?_⟩; try simp only [go_sem, Nat.reduceAdd, Nat.reduceLeDiff, Nat.reduceSub, Int.reduceToNat, reduceCtorEq]))
    exact AE.ret0 rfl ⟨rfl, trivial⟩ rfl ⟨rfl, rfl⟩
  simp only [decide_eq_false_iff_not] at hc3
  rw [if_neg (by omega)]
  have h1 := isSymbol_spec l (by omega)
  have h2 := any_spec l
  have h3 := isLabel_spec l (by omega)
  have h4 := list_spec l (by omega)
  have h5 := one_spec 1 2147483647 l (by omega)
  have h6 := bye_spec l
  have h7 := one_spec 1 16 l (by omega)
  have h9 := two_spec 0 2147483647 l (by omega)
  rw [num_same _ _ _ (by decide) (by decide)] at h5 h7
  rw [two_same] at h9
  have hk : k = 1 ∨ k = 2 ∨ k = 3 ∨ k = 4 ∨ k = 5 ∨ k = 6 ∨ k = 7 ∨ k = 8 ∨ k = 9 := by omega
  clear hc hc2 hc3 hz
  rcases hk with rfl | rfl | rfl | rfl | rfl | rfl | rfl | rfl | rfl
  · have e : bodyB 1 l = (onlyOk l [2, 3]) := by simp [bodyB]
    rw [e]
    generalize (onlyOk l [2, 3]) = b at h1 ⊢
    repeat (first | refine xA ?_ | refine xB ?_ | refine xC ?_ | refine xE ?_ | refine xD ?_ | refine xK ?_ | refine xS ?_ | refine xM ?_ | refine xT ?_ | refine xF ?_ | ((first | refine xR ?_ | refine xW ?_ | refine vq_id ?_); simp only [go_sem, Nat.reduceAdd, Nat.reduceLeDiff, Nat.reduceSub, Int.reduceToNat, reduceCtorEq]) | (refine ⟨by first | omega | (intros; simp_all; done) | (intros; simp_all; omega), ?_⟩; try simp only [go_sem, Nat.reduceAdd, Nat.reduceLeDiff, Nat.reduceSub, Int.reduceToNat, reduceCtorEq]))
    refine AP.drawE 9 (Tree.node [] [0, 1, 2, 3, 4, 5] [6] [Tree.node [] [7, 8] [] []]) (by kernel_rfl) rfl (by kernel_rfl) (by kernel_rfl) ?_
    refine vd_node ?_
    simp only [go_sem, Nat.reduceAdd, Nat.reduceLeDiff, Nat.reduceSub, Int.reduceToNat, reduceCtorEq]
    repeat' (first | with_reducible exact True.intro | with_reducible refine And.intro (by omega) ?_ | with_reducible refine And.intro ?_ ?_ | (refine AQ.nx rfl ?_; simp only [go_sem, Nat.reduceAdd, Nat.reduceLeDiff, Nat.reduceSub, Int.reduceToNat, reduceCtorEq, Int.reduceToNat, Int.reduceLE, Int.reduceLT]) | (refine AQ.fnL ([Sv l]) (by kernel_rfl) rfl rfl rfl (by ((try simp only [List.nil_append, List.append_nil, List.cons_append, List.map_cons, List.map_nil, AV.st, constAV]); repeat (first | with_reducible exact LentC.nil | with_reducible exact LentAs.nil | with_reducible refine LentC.cons ?_ ?_ | with_reducible refine LentAs.cons ?_ ?_ | with_reducible exact Lent.im _ | with_reducible exact LentA.im _ | with_reducible refine LentA.of ?_ | with_reducible refine LentA.agg ?_ | ((with_reducible apply Lent.osw); rfl; simp only [blkR_len, wrR_len, byteR_len, List.length_append, List.length_cons, List.length_nil]) | ((with_reducible apply Lent.ob0); rfl)))) (h1) rfl (fun _ => rfl) ?_; simp only [go_sem, Nat.reduceAdd, Nat.reduceLeDiff, Nat.reduceSub, Int.reduceToNat, reduceCtorEq]) | refine AQ.done ?_ | (refine AQ.go (by kernel_rfl) ?_; simp only [go_sem, Nat.reduceAdd, Nat.reduceLeDiff, Nat.reduceSub, Int.reduceToNat, reduceCtorEq, Int.reduceToNat, Int.reduceLE, Int.reduceLT]; repeat (with_reducible refine And.intro (by omega) ?_); refine AQ.nx rfl ?_; simp only [go_sem, Nat.reduceAdd, Nat.reduceLeDiff, Nat.reduceSub, Int.reduceToNat, reduceCtorEq, Int.reduceToNat, Int.reduceLE, Int.reduceLT]))
    all_goals cases b
    all_goals
      repeat (first | refine xA ?_ | refine xB ?_ | refine xC ?_ | refine xE ?_ | refine xD ?_ | refine xK ?_ | refine xS ?_ | refine xM ?_ | refine xT ?_ | refine xF ?_ | ((first | refine xR ?_ | refine xW ?_ | refine vq_id ?_); simp only [go_sem, Nat.reduceAdd, Nat.reduceLeDiff, Nat.reduceSub, Int.reduceToNat, reduceCtorEq, Bool.not_true, Bool.not_false]) | (refine ⟨by first | omega | (intros; simp_all; done) | (intros; simp_all; omega), ?_⟩; try simp only [go_sem, Nat.reduceAdd, Nat.reduceLeDiff, Nat.reduceSub, Int.reduceToNat, reduceCtorEq, Bool.not_true, Bool.not_false]))
      exact AE.ret0 rfl ⟨rfl, trivial⟩ rfl ⟨rfl, rfl⟩
  · have e : bodyB 2 l = (true) := by simp [bodyB]
    rw [e]
    repeat (first | refine xA ?_ | refine xB ?_ | refine xC ?_ | refine xE ?_ | refine xD ?_ | refine xK ?_ | refine xS ?_ | refine xM ?_ | refine xT ?_ | refine xF ?_ | ((first | refine xR ?_ | refine xW ?_ | refine vq_id ?_); simp only [go_sem, Nat.reduceAdd, Nat.reduceLeDiff, Nat.reduceSub, Int.reduceToNat, reduceCtorEq]) | (refine ⟨by first | omega | (intros; simp_all; done) | (intros; simp_all; omega), ?_⟩; try simp only [go_sem, Nat.reduceAdd, Nat.reduceLeDiff, Nat.reduceSub, Int.reduceToNat, reduceCtorEq]))
    refine AP.drawE 9 (Tree.node [] [0, 1, 2, 3, 4, 5] [6] [Tree.node [] [7, 8] [] []]) (by kernel_rfl) rfl (by kernel_rfl) (by kernel_rfl) ?_
    refine vd_node ?_
    simp only [go_sem, Nat.reduceAdd, Nat.reduceLeDiff, Nat.reduceSub, Int.reduceToNat, reduceCtorEq]
    repeat' (first | with_reducible exact True.intro | with_reducible refine And.intro (by omega) ?_ | with_reducible refine And.intro ?_ ?_ | (refine AQ.nx rfl ?_; simp only [go_sem, Nat.reduceAdd, Nat.reduceLeDiff, Nat.reduceSub, Int.reduceToNat, reduceCtorEq, Int.reduceToNat, Int.reduceLE, Int.reduceLT]) | (refine AQ.fnL ([Sv l]) (by kernel_rfl) rfl rfl rfl (by ((try simp only [List.nil_append, List.append_nil, List.cons_append, List.map_cons, List.map_nil, AV.st, constAV]); repeat (first | with_reducible exact LentC.nil | with_reducible exact LentAs.nil | with_reducible refine LentC.cons ?_ ?_ | with_reducible refine LentAs.cons ?_ ?_ | with_reducible exact Lent.im _ | with_reducible exact LentA.im _ | with_reducible refine LentA.of ?_ | with_reducible refine LentA.agg ?_ | ((with_reducible apply Lent.osw); rfl; simp only [blkR_len, wrR_len, byteR_len, List.length_append, List.length_cons, List.length_nil]) | ((with_reducible apply Lent.ob0); rfl)))) (h2) rfl (fun _ => rfl) ?_; simp only [go_sem, Nat.reduceAdd, Nat.reduceLeDiff, Nat.reduceSub, Int.reduceToNat, reduceCtorEq]) | refine AQ.done ?_ | (refine AQ.go (by kernel_rfl) ?_; simp only [go_sem, Nat.reduceAdd, Nat.reduceLeDiff, Nat.reduceSub, Int.reduceToNat, reduceCtorEq, Int.reduceToNat, Int.reduceLE, Int.reduceLT]; repeat (with_reducible refine And.intro (by omega) ?_); refine AQ.nx rfl ?_; simp only [go_sem, Nat.reduceAdd, Nat.reduceLeDiff, Nat.reduceSub, Int.reduceToNat, reduceCtorEq, Int.reduceToNat, Int.reduceLE, Int.reduceLT]))
    repeat (first | refine xA ?_ | refine xB ?_ | refine xC ?_ | refine xE ?_ | refine xD ?_ | refine xK ?_ | refine xS ?_ | refine xM ?_ | refine xT ?_ | refine xF ?_ | ((first | refine xR ?_ | refine xW ?_ | refine vq_id ?_); simp only [go_sem, Nat.reduceAdd, Nat.reduceLeDiff, Nat.reduceSub, Int.reduceToNat, reduceCtorEq, Bool.not_true]) | (refine ⟨by first | omega | (intros; simp_all; done) | (intros; simp_all; omega), ?_⟩; try simp only [go_sem, Nat.reduceAdd, Nat.reduceLeDiff, Nat.reduceSub, Int.reduceToNat, reduceCtorEq, Bool.not_true]))
    exact AE.ret0 rfl ⟨rfl, trivial⟩ rfl ⟨rfl, rfl⟩
  · have e : bodyB 3 l = (onlyOk l [2]) := by simp [bodyB]
    rw [e]
    generalize (onlyOk l [2]) = b at h3 ⊢
    repeat (first | refine xA ?_ | refine xB ?_ | refine xC ?_ | refine xE ?_ | refine xD ?_ | refine xK ?_ | refine xS ?_ | refine xM ?_ | refine xT ?_ | refine xF ?_ | ((first | refine xR ?_ | refine xW ?_ | refine vq_id ?_); simp only [go_sem, Nat.reduceAdd, Nat.reduceLeDiff, Nat.reduceSub, Int.reduceToNat, reduceCtorEq]) | (refine ⟨by first | omega | (intros; simp_all; done) | (intros; simp_all; omega), ?_⟩; try simp only [go_sem, Nat.reduceAdd, Nat.reduceLeDiff, Nat.reduceSub, Int.reduceToNat, reduceCtorEq]))
    refine AP.drawE 9 (Tree.node [] [0, 1, 2, 3, 4, 5] [6] [Tree.node [] [7, 8] [] []]) (by kernel_rfl) rfl (by kernel_rfl) (by kernel_rfl) ?_
    refine vd_node ?_
    simp only [go_sem, Nat.reduceAdd, Nat.reduceLeDiff, Nat.reduceSub, Int.reduceToNat, reduceCtorEq]
    repeat' (first | with_reducible exact True.intro | with_reducible refine And.intro (by omega) ?_ | with_reducible refine And.intro ?_ ?_ | (refine AQ.nx rfl ?_; simp only [go_sem, Nat.reduceAdd, Nat.reduceLeDiff, Nat.reduceSub, Int.reduceToNat, reduceCtorEq, Int.reduceToNat, Int.reduceLE, Int.reduceLT]) | (refine AQ.fnL ([Sv l]) (by kernel_rfl) rfl rfl rfl (by ((try simp only [List.nil_append, List.append_nil, List.cons_append, List.map_cons, List.map_nil, AV.st, constAV]); repeat (first | with_reducible exact LentC.nil | with_reducible exact LentAs.nil | with_reducible refine LentC.cons ?_ ?_ | with_reducible refine LentAs.cons ?_ ?_ | with_reducible exact Lent.im _ | with_reducible exact LentA.im _ | with_reducible refine LentA.of ?_ | with_reducible refine LentA.agg ?_ | ((with_reducible apply Lent.osw); rfl; simp only [blkR_len, wrR_len, byteR_len, List.length_append, List.length_cons, List.length_nil]) | ((with_reducible apply Lent.ob0); rfl)))) (h3) rfl (fun _ => rfl) ?_; simp only [go_sem, Nat.reduceAdd, Nat.reduceLeDiff, Nat.reduceSub, Int.reduceToNat, reduceCtorEq]) | refine AQ.done ?_ | (refine AQ.go (by kernel_rfl) ?_; simp only [go_sem, Nat.reduceAdd, Nat.reduceLeDiff, Nat.reduceSub, Int.reduceToNat, reduceCtorEq, Int.reduceToNat, Int.reduceLE, Int.reduceLT]; repeat (with_reducible refine And.intro (by omega) ?_); refine AQ.nx rfl ?_; simp only [go_sem, Nat.reduceAdd, Nat.reduceLeDiff, Nat.reduceSub, Int.reduceToNat, reduceCtorEq, Int.reduceToNat, Int.reduceLE, Int.reduceLT]))
    all_goals cases b
    all_goals
      repeat (first | refine xA ?_ | refine xB ?_ | refine xC ?_ | refine xE ?_ | refine xD ?_ | refine xK ?_ | refine xS ?_ | refine xM ?_ | refine xT ?_ | refine xF ?_ | ((first | refine xR ?_ | refine xW ?_ | refine vq_id ?_); simp only [go_sem, Nat.reduceAdd, Nat.reduceLeDiff, Nat.reduceSub, Int.reduceToNat, reduceCtorEq, Bool.not_true, Bool.not_false]) | (refine ⟨by first | omega | (intros; simp_all; done) | (intros; simp_all; omega), ?_⟩; try simp only [go_sem, Nat.reduceAdd, Nat.reduceLeDiff, Nat.reduceSub, Int.reduceToNat, reduceCtorEq, Bool.not_true, Bool.not_false]))
      exact AE.ret0 rfl ⟨rfl, trivial⟩ rfl ⟨rfl, rfl⟩
  · have e : bodyB 4 l = (l == [] || onlyOk l [2]) := by simp [bodyB]
    rw [e]
    generalize (l == [] || onlyOk l [2]) = b at h4 ⊢
    repeat (first | refine xA ?_ | refine xB ?_ | refine xC ?_ | refine xE ?_ | refine xD ?_ | refine xK ?_ | refine xS ?_ | refine xM ?_ | refine xT ?_ | refine xF ?_ | ((first | refine xR ?_ | refine xW ?_ | refine vq_id ?_); simp only [go_sem, Nat.reduceAdd, Nat.reduceLeDiff, Nat.reduceSub, Int.reduceToNat, reduceCtorEq]) | (refine ⟨by first | omega | (intros; simp_all; done) | (intros; simp_all; omega), ?_⟩; try simp only [go_sem, Nat.reduceAdd, Nat.reduceLeDiff, Nat.reduceSub, Int.reduceToNat, reduceCtorEq]))
    refine AP.drawE 9 (Tree.node [] [0, 1, 2, 3, 4, 5] [6] [Tree.node [] [7, 8] [] []]) (by kernel_rfl) rfl (by kernel_rfl) (by kernel_rfl) ?_
    refine vd_node ?_
    simp only [go_sem, Nat.reduceAdd, Nat.reduceLeDiff, Nat.reduceSub, Int.reduceToNat, reduceCtorEq]
    repeat' (first | with_reducible exact True.intro | with_reducible refine And.intro (by omega) ?_ | with_reducible refine And.intro ?_ ?_ | (refine AQ.nx rfl ?_; simp only [go_sem, Nat.reduceAdd, Nat.reduceLeDiff, Nat.reduceSub, Int.reduceToNat, reduceCtorEq, Int.reduceToNat, Int.reduceLE, Int.reduceLT]) | (refine AQ.fnL ([Sv l]) (by kernel_rfl) rfl rfl rfl (by ((try simp only [List.nil_append, List.append_nil, List.cons_append, List.map_cons, List.map_nil, AV.st, constAV]); repeat (first | with_reducible exact LentC.nil | with_reducible exact LentAs.nil | with_reducible refine LentC.cons ?_ ?_ | with_reducible refine LentAs.cons ?_ ?_ | with_reducible exact Lent.im _ | with_reducible exact LentA.im _ | with_reducible refine LentA.of ?_ | with_reducible refine LentA.agg ?_ | ((with_reducible apply Lent.osw); rfl; simp only [blkR_len, wrR_len, byteR_len, List.length_append, List.length_cons, List.length_nil]) | ((with_reducible apply Lent.ob0); rfl)))) (h4) rfl (fun _ => rfl) ?_; simp only [go_sem, Nat.reduceAdd, Nat.reduceLeDiff, Nat.reduceSub, Int.reduceToNat, reduceCtorEq]) | refine AQ.done ?_ | (refine AQ.go (by kernel_rfl) ?_; simp only [go_sem, Nat.reduceAdd, Nat.reduceLeDiff, Nat.reduceSub, Int.reduceToNat, reduceCtorEq, Int.reduceToNat, Int.reduceLE, Int.reduceLT]; repeat (with_reducible refine And.intro (by omega) ?_); refine AQ.nx rfl ?_; simp only [go_sem, Nat.reduceAdd, Nat.reduceLeDiff, Nat.reduceSub, Int.reduceToNat, reduceCtorEq, Int.reduceToNat, Int.reduceLE, Int.reduceLT]))
    all_goals cases b
    all_goals
      repeat (first | refine xA ?_ | refine xB ?_ | refine xC ?_ | refine xE ?_ | refine xD ?_ | refine xK ?_ | refine xS ?_ | refine xM ?_ | refine xT ?_ | refine xF ?_ | ((first | refine xR ?_ | refine xW ?_ | refine vq_id ?_); simp only [go_sem, Nat.reduceAdd, Nat.reduceLeDiff, Nat.reduceSub, Int.reduceToNat, reduceCtorEq, Bool.not_true, Bool.not_false]) | (refine ⟨by first | omega | (intros; simp_all; done) | (intros; simp_all; omega), ?_⟩; try simp only [go_sem, Nat.reduceAdd, Nat.reduceLeDiff, Nat.reduceSub, Int.reduceToNat, reduceCtorEq, Bool.not_true, Bool.not_false]))
      exact AE.ret0 rfl ⟨rfl, trivial⟩ rfl ⟨rfl, rfl⟩
  · have e : bodyB 5 l = (numR 1 2147483647 l) := by simp [bodyB]
    rw [e]
    generalize (numR 1 2147483647 l) = b at h5 ⊢
    repeat (first | refine xA ?_ | refine xB ?_ | refine xC ?_ | refine xE ?_ | refine xD ?_ | refine xK ?_ | refine xS ?_ | refine xM ?_ | refine xT ?_ | refine xF ?_ | ((first | refine xR ?_ | refine xW ?_ | refine vq_id ?_); simp only [go_sem, Nat.reduceAdd, Nat.reduceLeDiff, Nat.reduceSub, Int.reduceToNat, reduceCtorEq]) | (refine ⟨by first | omega | (intros; simp_all; done) | (intros; simp_all; omega), ?_⟩; try simp only [go_sem, Nat.reduceAdd, Nat.reduceLeDiff, Nat.reduceSub, Int.reduceToNat, reduceCtorEq]))
    refine AP.drawE 9 (Tree.node [] [0, 1, 2, 3, 4, 5] [6] [Tree.node [] [7, 8] [] []]) (by kernel_rfl) rfl (by kernel_rfl) (by kernel_rfl) ?_
    refine vd_node ?_
    simp only [go_sem, Nat.reduceAdd, Nat.reduceLeDiff, Nat.reduceSub, Int.reduceToNat, reduceCtorEq]
    repeat' (first | with_reducible exact True.intro | with_reducible refine And.intro (by omega) ?_ | with_reducible refine And.intro ?_ ?_ | (refine AQ.nx rfl ?_; simp only [go_sem, Nat.reduceAdd, Nat.reduceLeDiff, Nat.reduceSub, Int.reduceToNat, reduceCtorEq, Int.reduceToNat, Int.reduceLE, Int.reduceLT]) | (refine AQ.fnL ([.agg [Iv 1, Iv 2147483647], Sv l]) (by kernel_rfl) rfl rfl rfl (by ((try simp only [List.nil_append, List.append_nil, List.cons_append, List.map_cons, List.map_nil, AV.st, constAV]); repeat (first | with_reducible exact LentC.nil | with_reducible exact LentAs.nil | with_reducible refine LentC.cons ?_ ?_ | with_reducible refine LentAs.cons ?_ ?_ | with_reducible exact Lent.im _ | with_reducible exact LentA.im _ | with_reducible refine LentA.of ?_ | with_reducible refine LentA.agg ?_ | ((with_reducible apply Lent.osw); rfl; simp only [blkR_len, wrR_len, byteR_len, List.length_append, List.length_cons, List.length_nil]) | ((with_reducible apply Lent.ob0); rfl)))) (h5) rfl (fun _ => rfl) ?_; simp only [go_sem, Nat.reduceAdd, Nat.reduceLeDiff, Nat.reduceSub, Int.reduceToNat, reduceCtorEq]) | refine AQ.done ?_ | (refine AQ.go (by kernel_rfl) ?_; simp only [go_sem, Nat.reduceAdd, Nat.reduceLeDiff, Nat.reduceSub, Int.reduceToNat, reduceCtorEq, Int.reduceToNat, Int.reduceLE, Int.reduceLT]; repeat (with_reducible refine And.intro (by omega) ?_); refine AQ.nx rfl ?_; simp only [go_sem, Nat.reduceAdd, Nat.reduceLeDiff, Nat.reduceSub, Int.reduceToNat, reduceCtorEq, Int.reduceToNat, Int.reduceLE, Int.reduceLT]))
    all_goals cases b
    all_goals
      repeat (first | refine xA ?_ | refine xB ?_ | refine xC ?_ | refine xE ?_ | refine xD ?_ | refine xK ?_ | refine xS ?_ | refine xM ?_ | refine xT ?_ | refine xF ?_ | ((first | refine xR ?_ | refine xW ?_ | refine vq_id ?_); simp only [go_sem, Nat.reduceAdd, Nat.reduceLeDiff, Nat.reduceSub, Int.reduceToNat, reduceCtorEq, Bool.not_true, Bool.not_false]) | (refine ⟨by first | omega | (intros; simp_all; done) | (intros; simp_all; omega), ?_⟩; try simp only [go_sem, Nat.reduceAdd, Nat.reduceLeDiff, Nat.reduceSub, Int.reduceToNat, reduceCtorEq, Bool.not_true, Bool.not_false]))
      exact AE.ret0 rfl ⟨rfl, trivial⟩ rfl ⟨rfl, rfl⟩
  · have e : bodyB 6 l = (l == []) := by simp [bodyB]
    rw [e]
    generalize (l == []) = b at h6 ⊢
    repeat (first | refine xA ?_ | refine xB ?_ | refine xC ?_ | refine xE ?_ | refine xD ?_ | refine xK ?_ | refine xS ?_ | refine xM ?_ | refine xT ?_ | refine xF ?_ | ((first | refine xR ?_ | refine xW ?_ | refine vq_id ?_); simp only [go_sem, Nat.reduceAdd, Nat.reduceLeDiff, Nat.reduceSub, Int.reduceToNat, reduceCtorEq]) | (refine ⟨by first | omega | (intros; simp_all; done) | (intros; simp_all; omega), ?_⟩; try simp only [go_sem, Nat.reduceAdd, Nat.reduceLeDiff, Nat.reduceSub, Int.reduceToNat, reduceCtorEq]))
    refine AP.drawE 9 (Tree.node [] [0, 1, 2, 3, 4, 5] [6] [Tree.node [] [7, 8] [] []]) (by kernel_rfl) rfl (by kernel_rfl) (by kernel_rfl) ?_
    refine vd_node ?_
    simp only [go_sem, Nat.reduceAdd, Nat.reduceLeDiff, Nat.reduceSub, Int.reduceToNat, reduceCtorEq]
    repeat' (first | with_reducible exact True.intro | with_reducible refine And.intro (by omega) ?_ | with_reducible refine And.intro ?_ ?_ | (refine AQ.nx rfl ?_; simp only [go_sem, Nat.reduceAdd, Nat.reduceLeDiff, Nat.reduceSub, Int.reduceToNat, reduceCtorEq, Int.reduceToNat, Int.reduceLE, Int.reduceLT]) | (refine AQ.fnL ([Sv l]) (by kernel_rfl) rfl rfl rfl (by ((try simp only [List.nil_append, List.append_nil, List.cons_append, List.map_cons, List.map_nil, AV.st, constAV]); repeat (first | with_reducible exact LentC.nil | with_reducible exact LentAs.nil | with_reducible refine LentC.cons ?_ ?_ | with_reducible refine LentAs.cons ?_ ?_ | with_reducible exact Lent.im _ | with_reducible exact LentA.im _ | with_reducible refine LentA.of ?_ | with_reducible refine LentA.agg ?_ | ((with_reducible apply Lent.osw); rfl; simp only [blkR_len, wrR_len, byteR_len, List.length_append, List.length_cons, List.length_nil]) | ((with_reducible apply Lent.ob0); rfl)))) (h6) rfl (fun _ => rfl) ?_; simp only [go_sem, Nat.reduceAdd, Nat.reduceLeDiff, Nat.reduceSub, Int.reduceToNat, reduceCtorEq]) | refine AQ.done ?_ | (refine AQ.go (by kernel_rfl) ?_; simp only [go_sem, Nat.reduceAdd, Nat.reduceLeDiff, Nat.reduceSub, Int.reduceToNat, reduceCtorEq, Int.reduceToNat, Int.reduceLE, Int.reduceLT]; repeat (with_reducible refine And.intro (by omega) ?_); refine AQ.nx rfl ?_; simp only [go_sem, Nat.reduceAdd, Nat.reduceLeDiff, Nat.reduceSub, Int.reduceToNat, reduceCtorEq, Int.reduceToNat, Int.reduceLE, Int.reduceLT]))
    all_goals cases b
    all_goals
      repeat (first | refine xA ?_ | refine xB ?_ | refine xC ?_ | refine xE ?_ | refine xD ?_ | refine xK ?_ | refine xS ?_ | refine xM ?_ | refine xT ?_ | refine xF ?_ | ((first | refine xR ?_ | refine xW ?_ | refine vq_id ?_); simp only [go_sem, Nat.reduceAdd, Nat.reduceLeDiff, Nat.reduceSub, Int.reduceToNat, reduceCtorEq, Bool.not_true, Bool.not_false]) | (refine ⟨by first | omega | (intros; simp_all; done) | (intros; simp_all; omega), ?_⟩; try simp only [go_sem, Nat.reduceAdd, Nat.reduceLeDiff, Nat.reduceSub, Int.reduceToNat, reduceCtorEq, Bool.not_true, Bool.not_false]))
      exact AE.ret0 rfl ⟨rfl, trivial⟩ rfl ⟨rfl, rfl⟩
  · have e : bodyB 7 l = (numR 1 16 l) := by simp [bodyB]
    rw [e]
    generalize (numR 1 16 l) = b at h7 ⊢
    repeat (first | refine xA ?_ | refine xB ?_ | refine xC ?_ | refine xE ?_ | refine xD ?_ | refine xK ?_ | refine xS ?_ | refine xM ?_ | refine xT ?_ | refine xF ?_ | ((first | refine xR ?_ | refine xW ?_ | refine vq_id ?_); simp only [go_sem, Nat.reduceAdd, Nat.reduceLeDiff, Nat.reduceSub, Int.reduceToNat, reduceCtorEq]) | (refine ⟨by first | omega | (intros; simp_all; done) | (intros; simp_all; omega), ?_⟩; try simp only [go_sem, Nat.reduceAdd, Nat.reduceLeDiff, Nat.reduceSub, Int.reduceToNat, reduceCtorEq]))
    refine AP.drawE 9 (Tree.node [] [0, 1, 2, 3, 4, 5] [6] [Tree.node [] [7, 8] [] []]) (by kernel_rfl) rfl (by kernel_rfl) (by kernel_rfl) ?_
    refine vd_node ?_
    simp only [go_sem, Nat.reduceAdd, Nat.reduceLeDiff, Nat.reduceSub, Int.reduceToNat, reduceCtorEq]
    repeat' (first | with_reducible exact True.intro | with_reducible refine And.intro (by omega) ?_ | with_reducible refine And.intro ?_ ?_ | (refine AQ.nx rfl ?_; simp only [go_sem, Nat.reduceAdd, Nat.reduceLeDiff, Nat.reduceSub, Int.reduceToNat, reduceCtorEq, Int.reduceToNat, Int.reduceLE, Int.reduceLT]) | (refine AQ.fnL ([.agg [Iv 1, Iv 16], Sv l]) (by kernel_rfl) rfl rfl rfl (by ((try simp only [List.nil_append, List.append_nil, List.cons_append, List.map_cons, List.map_nil, AV.st, constAV]); repeat (first | with_reducible exact LentC.nil | with_reducible exact LentAs.nil | with_reducible refine LentC.cons ?_ ?_ | with_reducible refine LentAs.cons ?_ ?_ | with_reducible exact Lent.im _ | with_reducible exact LentA.im _ | with_reducible refine LentA.of ?_ | with_reducible refine LentA.agg ?_ | ((with_reducible apply Lent.osw); rfl; simp only [blkR_len, wrR_len, byteR_len, List.length_append, List.length_cons, List.length_nil]) | ((with_reducible apply Lent.ob0); rfl)))) (h7) rfl (fun _ => rfl) ?_; simp only [go_sem, Nat.reduceAdd, Nat.reduceLeDiff, Nat.reduceSub, Int.reduceToNat, reduceCtorEq]) | refine AQ.done ?_ | (refine AQ.go (by kernel_rfl) ?_; simp only [go_sem, Nat.reduceAdd, Nat.reduceLeDiff, Nat.reduceSub, Int.reduceToNat, reduceCtorEq, Int.reduceToNat, Int.reduceLE, Int.reduceLT]; repeat (with_reducible refine And.intro (by omega) ?_); refine AQ.nx rfl ?_; simp only [go_sem, Nat.reduceAdd, Nat.reduceLeDiff, Nat.reduceSub, Int.reduceToNat, reduceCtorEq, Int.reduceToNat, Int.reduceLE, Int.reduceLT]))
    all_goals cases b
    all_goals
      repeat (first | refine xA ?_ | refine xB ?_ | refine xC ?_ | refine xE ?_ | refine xD ?_ | refine xK ?_ | refine xS ?_ | refine xM ?_ | refine xT ?_ | refine xF ?_ | ((first | refine xR ?_ | refine xW ?_ | refine vq_id ?_); simp only [go_sem, Nat.reduceAdd, Nat.reduceLeDiff, Nat.reduceSub, Int.reduceToNat, reduceCtorEq, Bool.not_true, Bool.not_false]) | (refine ⟨by first | omega | (intros; simp_all; done) | (intros; simp_all; omega), ?_⟩; try simp only [go_sem, Nat.reduceAdd, Nat.reduceLeDiff, Nat.reduceSub, Int.reduceToNat, reduceCtorEq, Bool.not_true, Bool.not_false]))
      exact AE.ret0 rfl ⟨rfl, trivial⟩ rfl ⟨rfl, rfl⟩
  · have e : bodyB 8 l = (true) := by simp [bodyB]
    rw [e]
    repeat (first | refine xA ?_ | refine xB ?_ | refine xC ?_ | refine xE ?_ | refine xD ?_ | refine xK ?_ | refine xS ?_ | refine xM ?_ | refine xT ?_ | refine xF ?_ | ((first | refine xR ?_ | refine xW ?_ | refine vq_id ?_); simp only [go_sem, Nat.reduceAdd, Nat.reduceLeDiff, Nat.reduceSub, Int.reduceToNat, reduceCtorEq]) | (refine ⟨by first | omega | (intros; simp_all; done) | (intros; simp_all; omega), ?_⟩; try simp only [go_sem, Nat.reduceAdd, Nat.reduceLeDiff, Nat.reduceSub, Int.reduceToNat, reduceCtorEq]))
    refine AP.drawE 9 (Tree.node [] [0, 1, 2, 3, 4, 5] [6] [Tree.node [] [7, 8] [] []]) (by kernel_rfl) rfl (by kernel_rfl) (by kernel_rfl) ?_
    refine vd_node ?_
    simp only [go_sem, Nat.reduceAdd, Nat.reduceLeDiff, Nat.reduceSub, Int.reduceToNat, reduceCtorEq]
    repeat' (first | with_reducible exact True.intro | with_reducible refine And.intro (by omega) ?_ | with_reducible refine And.intro ?_ ?_ | (refine AQ.nx rfl ?_; simp only [go_sem, Nat.reduceAdd, Nat.reduceLeDiff, Nat.reduceSub, Int.reduceToNat, reduceCtorEq, Int.reduceToNat, Int.reduceLE, Int.reduceLT]) | (refine AQ.fnL ([Sv l]) (by kernel_rfl) rfl rfl rfl (by ((try simp only [List.nil_append, List.append_nil, List.cons_append, List.map_cons, List.map_nil, AV.st, constAV]); repeat (first | with_reducible exact LentC.nil | with_reducible exact LentAs.nil | with_reducible refine LentC.cons ?_ ?_ | with_reducible refine LentAs.cons ?_ ?_ | with_reducible exact Lent.im _ | with_reducible exact LentA.im _ | with_reducible refine LentA.of ?_ | with_reducible refine LentA.agg ?_ | ((with_reducible apply Lent.osw); rfl; simp only [blkR_len, wrR_len, byteR_len, List.length_append, List.length_cons, List.length_nil]) | ((with_reducible apply Lent.ob0); rfl)))) (h2) rfl (fun _ => rfl) ?_; simp only [go_sem, Nat.reduceAdd, Nat.reduceLeDiff, Nat.reduceSub, Int.reduceToNat, reduceCtorEq]) | refine AQ.done ?_ | (refine AQ.go (by kernel_rfl) ?_; simp only [go_sem, Nat.reduceAdd, Nat.reduceLeDiff, Nat.reduceSub, Int.reduceToNat, reduceCtorEq, Int.reduceToNat, Int.reduceLE, Int.reduceLT]; repeat (with_reducible refine And.intro (by omega) ?_); refine AQ.nx rfl ?_; simp only [go_sem, Nat.reduceAdd, Nat.reduceLeDiff, Nat.reduceSub, Int.reduceToNat, reduceCtorEq, Int.reduceToNat, Int.reduceLE, Int.reduceLT]))
    repeat (first | refine xA ?_ | refine xB ?_ | refine xC ?_ | refine xE ?_ | refine xD ?_ | refine xK ?_ | refine xS ?_ | refine xM ?_ | refine xT ?_ | refine xF ?_ | ((first | refine xR ?_ | refine xW ?_ | refine vq_id ?_); simp only [go_sem, Nat.reduceAdd, Nat.reduceLeDiff, Nat.reduceSub, Int.reduceToNat, reduceCtorEq, Bool.not_true]) | (refine ⟨by first | omega | (intros; simp_all; done) | (intros; simp_all; omega), ?_⟩; try simp only [go_sem, Nat.reduceAdd, Nat.reduceLeDiff, Nat.reduceSub, Int.reduceToNat, reduceCtorEq, Bool.not_true]))
    exact AE.ret0 rfl ⟨rfl, trivial⟩ rfl ⟨rfl, rfl⟩
  · have e : bodyB 9 l = (pairR l) := by simp [bodyB]
    rw [e]
    generalize (pairR l) = b at h9 ⊢
    repeat (first | refine xA ?_ | refine xB ?_ | refine xC ?_ | refine xE ?_ | refine xD ?_ | refine xK ?_ | refine xS ?_ | refine xM ?_ | refine xT ?_ | refine xF ?_ | ((first | refine xR ?_ | refine xW ?_ | refine vq_id ?_); simp only [go_sem, Nat.reduceAdd, Nat.reduceLeDiff, Nat.reduceSub, Int.reduceToNat, reduceCtorEq]) | (refine ⟨by first | omega | (intros; simp_all; done) | (intros; simp_all; omega), ?_⟩; try simp only [go_sem, Nat.reduceAdd, Nat.reduceLeDiff, Nat.reduceSub, Int.reduceToNat, reduceCtorEq]))
    refine AP.drawE 9 (Tree.node [] [0, 1, 2, 3, 4, 5] [6] [Tree.node [] [7, 8] [] []]) (by kernel_rfl) rfl (by kernel_rfl) (by kernel_rfl) ?_
    refine vd_node ?_
    simp only [go_sem, Nat.reduceAdd, Nat.reduceLeDiff, Nat.reduceSub, Int.reduceToNat, reduceCtorEq]
    repeat' (first | with_reducible exact True.intro | with_reducible refine And.intro (by omega) ?_ | with_reducible refine And.intro ?_ ?_ | (refine AQ.nx rfl ?_; simp only [go_sem, Nat.reduceAdd, Nat.reduceLeDiff, Nat.reduceSub, Int.reduceToNat, reduceCtorEq, Int.reduceToNat, Int.reduceLE, Int.reduceLT]) | (refine AQ.fnL ([.agg [Iv 0, Iv 2147483647], Sv l]) (by kernel_rfl) rfl rfl rfl (by ((try simp only [List.nil_append, List.append_nil, List.cons_append, List.map_cons, List.map_nil, AV.st, constAV]); repeat (first | with_reducible exact LentC.nil | with_reducible exact LentAs.nil | with_reducible refine LentC.cons ?_ ?_ | with_reducible refine LentAs.cons ?_ ?_ | with_reducible exact Lent.im _ | with_reducible exact LentA.im _ | with_reducible refine LentA.of ?_ | with_reducible refine LentA.agg ?_ | ((with_reducible apply Lent.osw); rfl; simp only [blkR_len, wrR_len, byteR_len, List.length_append, List.length_cons, List.length_nil]) | ((with_reducible apply Lent.ob0); rfl)))) (h9) rfl (fun _ => rfl) ?_; simp only [go_sem, Nat.reduceAdd, Nat.reduceLeDiff, Nat.reduceSub, Int.reduceToNat, reduceCtorEq]) | refine AQ.done ?_ | (refine AQ.go (by kernel_rfl) ?_; simp only [go_sem, Nat.reduceAdd, Nat.reduceLeDiff, Nat.reduceSub, Int.reduceToNat, reduceCtorEq, Int.reduceToNat, Int.reduceLE, Int.reduceLT]; repeat (with_reducible refine And.intro (by omega) ?_); refine AQ.nx rfl ?_; simp only [go_sem, Nat.reduceAdd, Nat.reduceLeDiff, Nat.reduceSub, Int.reduceToNat, reduceCtorEq, Int.reduceToNat, Int.reduceLE, Int.reduceLT]))
    all_goals cases b
    all_goals
      repeat (first | refine xA ?_ | refine xB ?_ | refine xC ?_ | refine xE ?_ | refine xD ?_ | refine xK ?_ | refine xS ?_ | refine xM ?_ | refine xT ?_ | refine xF ?_ | ((first | refine xR ?_ | refine xW ?_ | refine vq_id ?_); simp only [go_sem, Nat.reduceAdd, Nat.reduceLeDiff, Nat.reduceSub, Int.reduceToNat, reduceCtorEq, Bool.not_true, Bool.not_false]) | (refine ⟨by first | omega | (intros; simp_all; done) | (intros; simp_all; omega), ?_⟩; try simp only [go_sem, Nat.reduceAdd, Nat.reduceLeDiff, Nat.reduceSub, Int.reduceToNat, reduceCtorEq, Bool.not_true, Bool.not_false]))
      exact AE.ret0 rfl ⟨rfl, trivial⟩ rfl ⟨rfl, rfl⟩
end Go.Proofs.YtlpcdpjkdodmcaaDoor
end

section
namespace Go.Proofs.YtlpcdpjkdodmcaaDoor
open Go Go.AL Go.RowKit
set_option maxRecDepth 10000
set_option maxHeartbeats 4000000
def inner (k n : Nat) (l : List UInt8) : List UInt8 := UInt8.ofNat k :: (be4 n ++ l)
def frame (k n : Nat) (l : List UInt8) : List UInt8 := be4 (l.length + 9) ++ (inner k n l ++ be4 (adSum (inner k n l)))
theorem be4_len (n : Nat) : (be4 n).length = 4 := rfl
theorem adSum_lt (l : List UInt8) : adSum l < 4294967296 := by
  obtain ⟨h1, h2⟩ := ad_lt l
  unfold adSum
  omega
theorem u8k (k : Nat) : IntKind.u8.wrap (k : Int) = ((UInt8.ofNat k).toNat : Int) := u8w k
theorem msgE_ok {k n : Int} {l : List UInt8} (h : msgE k n l = 0) : 1 ≤ k ∧ k ≤ 9 ∧ 1 ≤ n ∧ n ≤ 2147483647 ∧ l.length ≤ 20000 ∧ bodyB k l = true := by
  unfold msgE at h
  split at h
  · simp at h
  split at h
  · simp at h
  split at h
  · simp at h
  split at h
  · rename_i h1 h2 h3 h4
    exact ⟨by omega, by omega, by omega, by omega, by omega, h4⟩
  · simp at h
abbrev nilS : AV := .im (.v (.slice none 0 0))
def encV (k n : Int) (l : List UInt8) : AV := if msgE k n l = 0 then .tup [.im (.sl 1 (byteR (frame k.toNat n.toNat l))), Iv 0] else .tup [nilS, Iv (msgE k n l)]
theorem encode_spec (k n : Int) (l : List UInt8) : PFn Tryd.prog 8 [.agg [Iv k, Iv n, Sv l]] (encV k n l) := by
  have hs := error_spec k n l
  unfold encV
  obtain ⟨e, he⟩ : ∃ e, msgE k n l = e := ⟨_, rfl⟩
  rw [he] at hs ⊢
  by_cases h0 : e = 0
  · subst h0
    rw [if_pos rfl]
    obtain ⟨h1, h2, h3, h4, h5, h6⟩ := msgE_ok he
    obtain ⟨K, rfl⟩ : ∃ K : Nat, k = K := ⟨k.toNat, by omega⟩
    obtain ⟨N, rfl⟩ : ∃ N : Nat, n = N := ⟨n.toNat, by omega⟩
    clear he h6
    have b1 := bytesOf_spec (l.length + 9) (by omega)
    have b2 := bytesOf_spec N (by omega)
    have w1 : IntKind.i64.wrap ((l.length : Int) + 9) = ((l.length + 9 : Nat) : Int) := wr (by omega)
    have w2 := u32w (l.length + 9) (by omega)
    have w3 := u32w N (by omega)
    have w4 := u8k K
    refine ACall.walk [0, 1, 2, 3, 4, 5, 6, 7, 8, 12] [5, 6, 8] Tryd.func8 rfl Tryd.ntmps8 (by kernel_rfl) (by rfl) rfl fun W own I0 φ0 lay => ?_
    repeat (first | refine xA ?_ | refine xB ?_ | refine xC ?_ | refine xE ?_ | refine xD ?_ | refine xK ?_ | refine xS ?_ | refine xM ?_ | refine xT ?_ | refine xF ?_ | ((first | refine xR ?_ | refine xW ?_ | refine vq_id ?_); simp only [go_sem, Nat.reduceAdd, Nat.reduceLeDiff, Nat.reduceSub, Int.reduceToNat, reduceCtorEq]) | (refine ⟨by first | omega | (intros; simp_all; done) | (intros; simp_all; omega), ?_⟩; try simp only [go_sem, Nat.reduceAdd, Nat.reduceLeDiff, Nat.reduceSub, Int.reduceToNat, reduceCtorEq]))
    refine AQ.fn (by kernel_rfl) rfl rfl rfl (hs) rfl ?_
    repeat (first | refine xA ?_ | refine xB ?_ | refine xC ?_ | refine xE ?_ | refine xD ?_ | refine xK ?_ | refine xS ?_ | refine xM ?_ | refine xT ?_ | refine xF ?_ | ((first | refine xR ?_ | refine xW ?_ | refine vq_id ?_); simp only [go_sem, Nat.reduceAdd, Nat.reduceLeDiff, Nat.reduceSub, Int.reduceToNat, reduceCtorEq]) | (refine ⟨by first | omega | (intros; simp_all; done) | (intros; simp_all; omega), ?_⟩; try simp only [go_sem, Nat.reduceAdd, Nat.reduceLeDiff, Nat.reduceSub, Int.reduceToNat, reduceCtorEq]))
    refine AP.cut (α := Unit) (fun _ => [(1, .im (.pt [Ii K, Ii N, Si l])), (5, .ob 7 0), (6, .im (.pt (A4 N)))]) (fun _ => [(7, .vec 93 1 ((A4 (l.length + 9)).map fun c => [c]))]) (fun _ => True) ?_ fun _ _ => ?_
    · skip
      refine AP.drawE 14 (Tree.node [] [0, 1, 2, 3, 4, 6, 7, 8] [5, 10, 11] [Tree.node [6, 7, 8] [] [9, 10, 11] [Tree.node [] [] [10, 11] [Tree.node [] [] [11] [Tree.node [] [] [12] [Tree.node [] [] [13] [Tree.node [] [] [] []]]], Tree.node [] [] [10] [Tree.node [] [] [12] [Tree.node [] [] [13] [Tree.node [] [] [] []]]]], Tree.node [6, 7, 8] [] [9, 11] [Tree.node [] [] [11] [Tree.node [] [] [12] [Tree.node [] [] [13] [Tree.node [] [] [] []]]], Tree.node [6, 7, 8] [] [9] [Tree.node [] [] [12] [Tree.node [] [] [13] [Tree.node [] [] [] []]]]], Tree.node [6, 7, 8] [] [9, 10] [Tree.node [] [] [10] [Tree.node [] [] [12] [Tree.node [] [] [13] [Tree.node [] [] [] []]]], Tree.node [6, 7, 8] [] [9] [Tree.node [] [] [12] [Tree.node [] [] [13] [Tree.node [] [] [] []]]]]], Tree.node [0, 1, 2, 3, 4, 6, 7, 8] [] [5, 11] [Tree.node [6, 7, 8] [] [9, 11] [Tree.node [] [] [11] [Tree.node [] [] [12] [Tree.node [] [] [13] [Tree.node [] [] [] []]]], Tree.node [6, 7, 8] [] [9] [Tree.node [] [] [12] [Tree.node [] [] [13] [Tree.node [] [] [] []]]]], Tree.node [0, 1, 2, 3, 4, 6, 7, 8] [] [5] [Tree.node [6, 7, 8] [] [9] [Tree.node [] [] [12] [Tree.node [] [] [13] [Tree.node [] [] [] []]]]]], Tree.node [0, 1, 2, 3, 4, 6, 7, 8] [] [5, 10] [Tree.node [6, 7, 8] [] [9, 10] [Tree.node [] [] [10] [Tree.node [] [] [12] [Tree.node [] [] [13] [Tree.node [] [] [] []]]], Tree.node [6, 7, 8] [] [9] [Tree.node [] [] [12] [Tree.node [] [] [13] [Tree.node [] [] [] []]]]], Tree.node [0, 1, 2, 3, 4, 6, 7, 8] [] [5] [Tree.node [6, 7, 8] [] [9] [Tree.node [] [] [12] [Tree.node [] [] [13] [Tree.node [] [] [] []]]]]]]) (by kernel_rfl) rfl (by kernel_rfl) (by kernel_rfl) ?_
      refine vd_node ?_
      simp only [go_sem, Nat.reduceAdd, Nat.reduceLeDiff, Nat.reduceSub, Int.reduceToNat, reduceCtorEq, BA_size, w1, w2, w3]
      repeat' (first | with_reducible exact True.intro | with_reducible refine And.intro (by omega) ?_ | with_reducible refine And.intro ?_ ?_ | (refine AQ.nx rfl ?_; simp only [go_sem, Nat.reduceAdd, Nat.reduceLeDiff, Nat.reduceSub, Int.reduceToNat, reduceCtorEq, BA_size, w1, w2, w3]) | (refine AQ.fn (by kernel_rfl) rfl rfl rfl (b1) rfl ?_; simp only [go_sem, Nat.reduceAdd, Nat.reduceLeDiff, Nat.reduceSub, Int.reduceToNat, reduceCtorEq]) | (refine AQ.fn (by kernel_rfl) rfl rfl rfl (b2) rfl ?_; simp only [go_sem, Nat.reduceAdd, Nat.reduceLeDiff, Nat.reduceSub, Int.reduceToNat, reduceCtorEq]) | refine AQ.done ?_ | (refine AQ.go (by kernel_rfl) ?_; simp only [go_sem, Nat.reduceAdd, Nat.reduceLeDiff, Nat.reduceSub, Int.reduceToNat, reduceCtorEq, BA_size, w1, w2, w3]; repeat (with_reducible refine And.intro (by omega) ?_); refine AQ.nx rfl ?_; simp only [go_sem, Nat.reduceAdd, Nat.reduceLeDiff, Nat.reduceSub, Int.reduceToNat, reduceCtorEq, BA_size, w1, w2, w3]))
      all_goals first
        | rfl
        | (simp only [go_sem, Nat.reduceAdd, Nat.reduceLeDiff, Nat.reduceSub, Int.reduceToNat, reduceCtorEq]; refine AE.freeze 1 (el := 93) (es := 1) (rows := (A4 N).map fun c => [c]) rfl (by simp [go_sem]) (by simp [go_sem]) ?_; simp only [go_sem, Nat.reduceAdd, Nat.reduceLeDiff, Nat.reduceSub, Int.reduceToNat, reduceCtorEq]; refine AE.rename 0 7 rfl rfl rfl ?_; simp only [go_sem, Nat.reduceAdd, Nat.reduceLeDiff, Nat.reduceSub, Int.reduceToNat, reduceCtorEq]; exact AE.meet () trivial (by repeat (first | exact Sub.nil _ | refine Sub.cons rfl ?_)) rfl)
        | (simp only [go_sem, Nat.reduceAdd, Nat.reduceLeDiff, Nat.reduceSub, Int.reduceToNat, reduceCtorEq]; refine AE.freeze 0 (el := 93) (es := 1) (rows := (A4 N).map fun c => [c]) rfl (by simp [go_sem]) (by simp [go_sem]) ?_; simp only [go_sem, Nat.reduceAdd, Nat.reduceLeDiff, Nat.reduceSub, Int.reduceToNat, reduceCtorEq]; refine AE.rename 1 7 rfl rfl rfl ?_; simp only [go_sem, Nat.reduceAdd, Nat.reduceLeDiff, Nat.reduceSub, Int.reduceToNat, reduceCtorEq]; exact AE.meet () trivial (by repeat (first | exact Sub.nil _ | refine Sub.cons rfl ?_)) rfl)
    have hr1 : ∀ m : Nat, ((A4 m).map fun c => [c]).length = 4 := fun m => rfl
    repeat (first | refine xA ?_ | refine xB ?_ | refine xC ?_ | refine xE ?_ | refine xD ?_ | refine xK ?_ | refine xS ?_ | refine xM ?_ | refine xT ?_ | refine xF ?_ | ((first | refine xR ?_ | refine xW ?_ | refine vq_id ?_); simp only [go_sem, Nat.reduceAdd, Nat.reduceLeDiff, Nat.reduceSub, Int.reduceToNat, reduceCtorEq]) | (refine ⟨by first | omega | (intros; simp_all; done) | (intros; simp_all; omega), ?_⟩; try simp only [go_sem, Nat.reduceAdd, Nat.reduceLeDiff, Nat.reduceSub, Int.reduceToNat, reduceCtorEq]))
    refine AP.drawE 7 (Tree.node [] [0, 1, 2, 3] [4] [Tree.node [0] [] [5] [Tree.node [] [6] [] []]]) (by kernel_rfl) rfl (by kernel_rfl) (by kernel_rfl) ?_
    refine vd_node ?_
    simp only [go_sem, Nat.reduceAdd, Nat.reduceLeDiff, Nat.reduceSub, Int.reduceToNat, reduceCtorEq, w4, hr1]
    repeat' (first | with_reducible exact True.intro | with_reducible refine And.intro (by omega) ?_ | with_reducible refine And.intro ?_ ?_ | (refine AQ.nx rfl ?_; simp only [go_sem, Nat.reduceAdd, Nat.reduceLeDiff, Nat.reduceSub, Int.reduceToNat, reduceCtorEq, w4, hr1]) | (refine AQ.appendG (hnb := rfl) (rows := (A4 (l.length + 9)).map fun c => [c]) (es := 0) (by kernel_rfl) rfl rfl rfl (by rfl) Tryd.tk24 Tryd.sz5 (by show Option.map _ (zro Tryd.prog 5) = _; rw [Tryd.zr5]; rfl) Tryd.by5 (by first | rfl | (simp only [hr1, List.length_append, List.length_cons, List.length_nil]; done) | (simp only [hr1, List.length_append, List.length_cons, List.length_nil]; omega)) (by simp only [hr1, List.length_append, List.length_cons, List.length_nil]; omega) (by simp only [hr1, List.length_append, List.length_cons, List.length_nil]; omega) fun el1 => ?_; simp only [go_sem, Nat.reduceAdd, Nat.reduceLeDiff, Nat.reduceSub, Int.reduceToNat, reduceCtorEq, hr1]) | refine AQ.done ?_ | (refine AQ.go (by kernel_rfl) ?_; simp only [go_sem, Nat.reduceAdd, Nat.reduceLeDiff, Nat.reduceSub, Int.reduceToNat, reduceCtorEq, w4, hr1]; repeat (with_reducible refine And.intro (by omega) ?_); refine AQ.nx rfl ?_; simp only [go_sem, Nat.reduceAdd, Nat.reduceLeDiff, Nat.reduceSub, Int.reduceToNat, reduceCtorEq, w4, hr1]))
    repeat (first | refine xA ?_ | refine xB ?_ | refine xC ?_ | refine xE ?_ | refine xD ?_ | refine xK ?_ | refine xS ?_ | refine xM ?_ | refine xT ?_ | refine xF ?_ | ((first | refine xR ?_ | refine xW ?_ | refine vq_id ?_); simp only [go_sem, Nat.reduceAdd, Nat.reduceLeDiff, Nat.reduceSub, Int.reduceToNat, reduceCtorEq]) | (refine ⟨by first | omega | (intros; simp_all; done) | (intros; simp_all; omega), ?_⟩; try simp only [go_sem, Nat.reduceAdd, Nat.reduceLeDiff, Nat.reduceSub, Int.reduceToNat, reduceCtorEq]))
    have hA : ∀ m : Nat, (A4 m).map (fun c => [c]) = byteR (be4 m) := fun m => rfl
    have hk1 : [[IV.v (Value.int .u8 ((UInt8.ofNat K).toNat : Int))]] = byteR [UInt8.ofNat K] := rfl
    have hB : ((A4 N).take 4).map (fun c => [c]) = byteR (be4 N) := rfl
    have h44 : (A4 N).length = 4 := rfl
    rw [hA, hk1, byteR_append]
    refine AP.drawE 6 (Tree.node [] [0, 1, 3, 4] [2] [Tree.node [3, 4] [] [5] [Tree.node [] [] [] []]]) (by kernel_rfl) rfl (by kernel_rfl) (by kernel_rfl) ?_
    refine vd_node ?_
    simp only [go_sem, Nat.reduceAdd, Nat.reduceLeDiff, Nat.reduceSub, Int.reduceToNat, reduceCtorEq, hB, h44]
    refine AQ.appendG (hnb := rfl) (rows := byteR (be4 (l.length + 9) ++ [UInt8.ofNat K])) (es := 0) (by kernel_rfl) rfl rfl rfl (by rfl) Tryd.tk24 Tryd.sz5 (by show Option.map _ (zro Tryd.prog 5) = _; rw [Tryd.zr5]; rfl) Tryd.by5 (by first | rfl | (simp only [byteR_len, be4_len, List.length_append, List.length_cons, List.length_nil]; done) | (simp only [byteR_len, be4_len, List.length_append, List.length_cons, List.length_nil]; omega)) (by simp only [byteR_len, be4_len, List.length_append, List.length_cons, List.length_nil]; omega) (by simp only [byteR_len, be4_len, List.length_append, List.length_cons, List.length_nil]; omega) fun el1 => ?_
    simp only [go_sem, Nat.reduceAdd, Nat.reduceLeDiff, Nat.reduceSub, Int.reduceToNat, reduceCtorEq, byteR_append, byteR_len, be4_len, List.length_append, List.length_cons, List.length_nil]
    refine AQ.nx rfl ?_
    simp only [go_sem, Nat.reduceAdd, Nat.reduceLeDiff, Nat.reduceSub, Int.reduceToNat, reduceCtorEq]
    refine AQ.appendSG (hnb := rfl) (rows := byteR (be4 (l.length + 9) ++ [UInt8.ofNat K] ++ be4 N)) (l := l) (by kernel_rfl) rfl rfl rfl (by rfl) Tryd.tk24 (by kernel_rfl) Tryd.sz5 Tryd.zr5 Tryd.by5 (by first | rfl | (simp only [byteR_len, be4_len, List.length_append, List.length_cons, List.length_nil]; done) | (simp only [byteR_len, be4_len, List.length_append, List.length_cons, List.length_nil]; omega)) (by simp only [byteR_len, be4_len, List.length_append, List.length_cons, List.length_nil]; omega) fun el1 => ?_
    simp only [go_sem, Nat.reduceAdd, Nat.reduceLeDiff, Nat.reduceSub, Int.reduceToNat, reduceCtorEq, byteR_append, byteR_len, be4_len, List.length_append, List.length_cons, List.length_nil]
    refine AQ.nx rfl ?_
    simp only [go_sem, Nat.reduceAdd, Nat.reduceLeDiff, Nat.reduceSub, Int.reduceToNat, reduceCtorEq]
    repeat (first | refine xA ?_ | refine xB ?_ | refine xC ?_ | refine xE ?_ | refine xD ?_ | refine xK ?_ | refine xS ?_ | refine xM ?_ | refine xT ?_ | refine xF ?_ | ((first | refine xR ?_ | refine xW ?_ | refine vq_id ?_); simp only [go_sem, Nat.reduceAdd, Nat.reduceLeDiff, Nat.reduceSub, Int.reduceToNat, reduceCtorEq]) | (refine ⟨by first | omega | (intros; simp_all; done) | (intros; simp_all; omega), ?_⟩; try simp only [go_sem, Nat.reduceAdd, Nat.reduceLeDiff, Nat.reduceSub, Int.reduceToNat, reduceCtorEq]))
    have hin : be4 (l.length + 9) ++ [UInt8.ofNat K] ++ be4 N ++ l = be4 (l.length + 9) ++ inner K N l := by simp [inner]
    have hil : (inner K N l).length = 5 + l.length := by simp [inner, be4_len]; omega
    have hdr : ((byteR (be4 (l.length + 9) ++ inner K N l)).drop 4).take (9 + l.length - 4) = byteR (inner K N l) := by
      rw [byteR_drop, byteR_take]
      congr 1
      rw [List.drop_append_of_le_length (by rw [be4_len]; exact Nat.le_refl _), show (be4 (l.length + 9)).drop 4 = [] from rfl, List.nil_append]
      exact List.take_of_length_le (by rw [hil]; omega)
    rw [hin]
    have hck := checksum_spec (inner K N l) (by rw [hil]; omega)
    have b3 := bytesOf_spec (adSum (inner K N l)) (adSum_lt _)
    refine AQ.fnL [.im (.sl 1 (byteR (inner K N l)))] (by kernel_rfl) rfl rfl rfl (LentAs.cons (LentA.of (by rw [← hdr]; exact Lent.os rfl (by rw [byteR_len, List.length_append, be4_len, hil]; omega))) LentAs.nil) hck rfl (fun _ => rfl) ?_
    simp only [go_sem, Nat.reduceAdd, Nat.reduceLeDiff, Nat.reduceSub, Int.reduceToNat, reduceCtorEq]
    have h4s : (A4 (adSum (inner K N l))).length = 4 := rfl
    refine AQ.fn (by kernel_rfl) rfl rfl rfl (b3) rfl ?_
    repeat (first | refine xA ?_ | refine xB ?_ | refine xC ?_ | refine xE ?_ | refine xD ?_ | refine xK ?_ | refine xS ?_ | refine xM ?_ | refine xT ?_ | refine xF ?_ | ((first | refine xR ?_ | refine xW ?_ | refine vq_id ?_); simp only [go_sem, Nat.reduceAdd, Nat.reduceLeDiff, Nat.reduceSub, Int.reduceToNat, reduceCtorEq, h4s, hr1]) | (refine ⟨by first | omega | (intros; simp_all; done) | (intros; simp_all; omega), ?_⟩; try simp only [go_sem, Nat.reduceAdd, Nat.reduceLeDiff, Nat.reduceSub, Int.reduceToNat, reduceCtorEq, h4s, hr1]))
    refine AQ.appendOG (hnb := rfl) (rows := byteR (be4 (l.length + 9) ++ inner K N l)) (rows' := byteR (be4 (adSum (inner K N l)))) (xs := byteR (be4 (adSum (inner K N l)))) (es := 0) (by kernel_rfl) rfl rfl rfl (Nat.le_refl _) rfl rfl (by rfl) Tryd.tk24 Tryd.sz5 (by show Option.map _ (zro Tryd.prog 5) = _; rw [Tryd.zr5]; rfl) Tryd.by5 (by rw [byteR_len, List.length_append, be4_len, hil]; omega) (by rw [byteR_len, byteR_len, List.length_append, be4_len, be4_len, hil]; omega) (by rw [byteR_len, byteR_len, List.length_append, be4_len, be4_len, hil]; omega) fun el1 => ?_
    repeat (first | refine xA ?_ | refine xB ?_ | refine xC ?_ | refine xE ?_ | refine xD ?_ | refine xK ?_ | refine xS ?_ | refine xM ?_ | refine xT ?_ | refine xF ?_ | ((first | refine xR ?_ | refine xW ?_ | refine vq_id ?_); simp only [go_sem, Nat.reduceAdd, Nat.reduceLeDiff, Nat.reduceSub, Int.reduceToNat, reduceCtorEq]) | (refine ⟨by first | omega | (intros; simp_all; done) | (intros; simp_all; omega), ?_⟩; try simp only [go_sem, Nat.reduceAdd, Nat.reduceLeDiff, Nat.reduceSub, Int.reduceToNat, reduceCtorEq]))
    refine AE.freeze 7 (rows := byteR (be4 (l.length + 9) ++ inner K N l) ++ byteR (be4 (adSum (inner K N l)))) rfl (by simp [go_sem]) (by simp [go_sem]) ?_
    simp only [go_sem, Nat.reduceAdd, Nat.reduceLeDiff, Nat.reduceSub, Int.reduceToNat, reduceCtorEq]
    refine AE.ret0 rfl ⟨rfl, rfl, trivial⟩ rfl ⟨rfl, ?_⟩
    simp only [tupOf, AV.st, frame, Int.toNat_natCast, byteR_append, List.drop_zero, ← List.length_append]
    rw [List.take_of_length_le (by simp [byteR_len]), List.append_assoc]
  · rw [if_neg h0]
    refine ACall.walk [0, 1, 2, 3, 4, 5, 6, 7, 8, 12] [5, 6, 8] Tryd.func8 rfl Tryd.ntmps8 (by kernel_rfl) (by rfl) rfl fun W own I0 φ0 lay => ?_
    repeat (first | refine xA ?_ | refine xB ?_ | refine xC ?_ | refine xE ?_ | refine xD ?_ | refine xK ?_ | refine xS ?_ | refine xM ?_ | refine xT ?_ | refine xF ?_ | ((first | refine xR ?_ | refine xW ?_ | refine vq_id ?_); simp only [go_sem, Nat.reduceAdd, Nat.reduceLeDiff, Nat.reduceSub, Int.reduceToNat, reduceCtorEq]) | (refine ⟨by first | omega | (intros; simp_all; done) | (intros; simp_all; omega), ?_⟩; try simp only [go_sem, Nat.reduceAdd, Nat.reduceLeDiff, Nat.reduceSub, Int.reduceToNat, reduceCtorEq]))
    refine AQ.fn (by kernel_rfl) rfl rfl rfl (hs) rfl ?_
    repeat (first | refine xA ?_ | refine xB ?_ | refine xC ?_ | refine xE ?_ | refine xD ?_ | refine xK ?_ | refine xS ?_ | refine xM ?_ | refine xT ?_ | refine xF ?_ | ((first | refine xR ?_ | refine xW ?_ | refine vq_id ?_); simp only [go_sem, Nat.reduceAdd, Nat.reduceLeDiff, Nat.reduceSub, Int.reduceToNat, reduceCtorEq]) | (refine ⟨by first | omega | (intros; simp_all; done) | (intros; simp_all; omega), ?_⟩; try simp only [go_sem, Nat.reduceAdd, Nat.reduceLeDiff, Nat.reduceSub, Int.reduceToNat, reduceCtorEq]))
    refine AP.cond rfl rfl (fun hc => ?_) (fun hc => ?_)
    · repeat (first | refine xA ?_ | refine xB ?_ | refine xC ?_ | refine xE ?_ | refine xD ?_ | refine xK ?_ | refine xS ?_ | refine xM ?_ | refine xT ?_ | refine xF ?_ | ((first | refine xR ?_ | refine xW ?_ | refine vq_id ?_); simp only [go_sem, Nat.reduceAdd, Nat.reduceLeDiff, Nat.reduceSub, Int.reduceToNat, reduceCtorEq]) | (refine ⟨by first | omega | (intros; simp_all; done) | (intros; simp_all; omega), ?_⟩; try simp only [go_sem, Nat.reduceAdd, Nat.reduceLeDiff, Nat.reduceSub, Int.reduceToNat, reduceCtorEq]))
      exact AE.ret0 rfl ⟨rfl, rfl, trivial⟩ rfl ⟨rfl, rfl⟩
    · simp at hc; exact absurd hc h0
theorem four_own (n : Nat) (hn : n < 4294967296) : ACall Tryd.prog 38 [Iv n] [] (fun r H => r = .os 0 1 0 4 ∧ H = [(0, .vec 5 1 (byteR (be4 n)))]) := by
  refine ACall.walk [0, 2] [14] Tryd.func38 rfl Tryd.ntmps38 (by kernel_rfl) (by rfl) rfl fun W own I0 φ0 lay => ?_
  have h1 := fd n (min 24 64)
  have h2 := fd n (min 16 64)
  have h3 := fd n (min 8 64)
  have w1 := u8w (n / 2 ^ min 24 64)
  have w2 := u8w (n / 2 ^ min 16 64)
  have w3 := u8w (n / 2 ^ min 8 64)
  have w4 := u8w n
  repeat (first | refine xA ?_ | refine xB ?_ | refine xC ?_ | refine xE ?_ | refine xD ?_ | refine xK ?_ | refine xS ?_ | refine xM ?_ | refine xT ?_ | refine xF ?_ | ((first | refine xR ?_ | refine xW ?_ | refine vq_id ?_); simp only [go_sem, Nat.reduceAdd, Nat.reduceLeDiff, Nat.reduceSub, Int.reduceToNat, reduceCtorEq, h1, h2, h3, w1, w2, w3, w4]) | (refine ⟨by first | omega | (intros; simp_all; done) | (intros; simp_all; omega), ?_⟩; try simp only [go_sem, Nat.reduceAdd, Nat.reduceLeDiff, Nat.reduceSub, Int.reduceToNat, reduceCtorEq, h1, h2, h3, w1, w2, w3, w4]))
  exact AE.ret rfl ⟨rfl, trivial⟩ ⟨rfl, rfl⟩
theorem encode_ref (k n : Int) (l : List UInt8) : PFn Tryd.prog 9 [.agg [Iv k, Iv n, Sv l]] (encV k n l) := by
  have hs := wrong_ref k n l
  unfold encV
  obtain ⟨e, he⟩ : ∃ e, msgE k n l = e := ⟨_, rfl⟩
  rw [he] at hs ⊢
  by_cases h0 : e = 0
  · subst h0
    rw [if_pos rfl]
    obtain ⟨h1, h2, h3, h4, h5, h6⟩ := msgE_ok he
    obtain ⟨K, rfl⟩ : ∃ K : Nat, k = K := ⟨k.toNat, by omega⟩
    obtain ⟨N, rfl⟩ : ∃ N : Nat, n = N := ⟨n.toNat, by omega⟩
    clear he h6
    have b1 := four_ref N (by omega)
    have w4 := u8k K
    refine ACall.walk [0, 1, 2, 3, 4, 5, 6, 10] [15] Tryd.func9 rfl Tryd.ntmps9 (by kernel_rfl) (by rfl) rfl fun W own I0 φ0 lay => ?_
    repeat (first | refine xA ?_ | refine xB ?_ | refine xC ?_ | refine xE ?_ | refine xD ?_ | refine xK ?_ | refine xS ?_ | refine xM ?_ | refine xT ?_ | refine xF ?_ | ((first | refine xR ?_ | refine xW ?_ | refine vq_id ?_); simp only [go_sem, Nat.reduceAdd, Nat.reduceLeDiff, Nat.reduceSub, Int.reduceToNat, reduceCtorEq]) | (refine ⟨by first | omega | (intros; simp_all; done) | (intros; simp_all; omega), ?_⟩; try simp only [go_sem, Nat.reduceAdd, Nat.reduceLeDiff, Nat.reduceSub, Int.reduceToNat, reduceCtorEq]))
    refine AQ.fn (by kernel_rfl) rfl rfl rfl (hs) rfl ?_
    repeat (first | refine xA ?_ | refine xB ?_ | refine xC ?_ | refine xE ?_ | refine xD ?_ | refine xK ?_ | refine xS ?_ | refine xM ?_ | refine xT ?_ | refine xF ?_ | ((first | refine xR ?_ | refine xW ?_ | refine vq_id ?_); simp only [go_sem, Nat.reduceAdd, Nat.reduceLeDiff, Nat.reduceSub, Int.reduceToNat, reduceCtorEq]) | (refine ⟨by first | omega | (intros; simp_all; done) | (intros; simp_all; omega), ?_⟩; try simp only [go_sem, Nat.reduceAdd, Nat.reduceLeDiff, Nat.reduceSub, Int.reduceToNat, reduceCtorEq]))
    refine AP.cut (α := Unit) (fun _ => [(1, .im (.pt [Ii K, Ii N, Si l])), (5, .os 7 1 0 5)]) (fun _ => [(7, .vec 5 1 (byteR ([UInt8.ofNat K] ++ be4 N)))]) (fun _ => True) ?_ fun _ _ => ?_
    · skip
      refine AP.drawE 9 (Tree.node [] [0, 1, 2, 4, 5] [3, 6] [Tree.node [4, 5] [] [6] [Tree.node [] [] [7] [Tree.node [] [8] [] []]], Tree.node [0, 1, 2] [] [3] [Tree.node [] [] [7] [Tree.node [] [8] [] []]]]) (by kernel_rfl) rfl (by kernel_rfl) (by kernel_rfl) ?_
      refine vd_node ?_
      simp only [go_sem, Nat.reduceAdd, Nat.reduceLeDiff, Nat.reduceSub, Int.reduceToNat, reduceCtorEq, w4]
      repeat' (first | with_reducible exact True.intro | with_reducible refine And.intro (by omega) ?_ | with_reducible refine And.intro ?_ ?_ | (refine AQ.nx rfl ?_; simp only [go_sem, Nat.reduceAdd, Nat.reduceLeDiff, Nat.reduceSub, Int.reduceToNat, reduceCtorEq, w4]) | (refine AQ.fn (by kernel_rfl) rfl rfl rfl (b1) rfl ?_; simp only [go_sem, Nat.reduceAdd, Nat.reduceLeDiff, Nat.reduceSub, Int.reduceToNat, reduceCtorEq]) | (refine AQ.append (hnb := rfl) (rows := byteR [UInt8.ofNat K]) (es := 0) (by kernel_rfl) rfl rfl rfl (by rfl) Tryd.tk24 Tryd.sz5 (by show Option.map _ (zro Tryd.prog 5) = _; rw [Tryd.zr5]; rfl) Tryd.by5 (by first | rfl | (simp only [byteR_len, be4_len, List.length_cons, List.length_nil]; done) | (simp only [byteR_len, be4_len, List.length_cons, List.length_nil]; omega)) (by simp only [byteR_len, be4_len, List.length_cons, List.length_nil]; omega) (by simp only [byteR_len, be4_len, List.length_cons, List.length_nil]; omega) ?_; simp only [go_sem, Nat.reduceAdd, Nat.reduceLeDiff, Nat.reduceSub, Int.reduceToNat, reduceCtorEq, byteR_append, byteR_len, be4_len]) | refine AQ.done ?_ | (refine AQ.go (by kernel_rfl) ?_; simp only [go_sem, Nat.reduceAdd, Nat.reduceLeDiff, Nat.reduceSub, Int.reduceToNat, reduceCtorEq, w4]; repeat (with_reducible refine And.intro (by omega) ?_); refine AQ.nx rfl ?_; simp only [go_sem, Nat.reduceAdd, Nat.reduceLeDiff, Nat.reduceSub, Int.reduceToNat, reduceCtorEq, w4]))
      all_goals (simp only [go_sem, Nat.reduceAdd, Nat.reduceLeDiff, Nat.reduceSub, Int.reduceToNat, reduceCtorEq]; refine AE.rename 0 7 rfl rfl rfl ?_; simp only [go_sem, Nat.reduceAdd, Nat.reduceLeDiff, Nat.reduceSub, Int.reduceToNat, reduceCtorEq]; exact AE.meet () trivial (by repeat (first | exact Sub.nil _ | refine Sub.cons rfl ?_)) rfl)
    have hil : (inner K N l).length = 5 + l.length := by simp [inner, be4_len]; omega
    have hin : (UInt8.ofNat K :: be4 N) ++ l = inner K N l := rfl
    have w5 : IntKind.i64.wrap (((5 + l.length : Nat) : Int) + 4) = ((l.length + 9 : Nat) : Int) := by rw [wr (by omega)]; omega
    have b2 := four_own (l.length + 9) (by omega)
    have b3 := four_ref (adSum (inner K N l)) (adSum_lt _)
    have hck := sum_ref (inner K N l) (by rw [hil]; omega)
    repeat (first | refine xA ?_ | refine xB ?_ | refine xC ?_ | refine xE ?_ | refine xD ?_ | refine xK ?_ | refine xS ?_ | refine xM ?_ | refine xT ?_ | refine xF ?_ | ((first | refine xR ?_ | refine xW ?_ | refine vq_id ?_); simp only [go_sem, Nat.reduceAdd, Nat.reduceLeDiff, Nat.reduceSub, Int.reduceToNat, reduceCtorEq]) | (refine ⟨by first | omega | (intros; simp_all; done) | (intros; simp_all; omega), ?_⟩; try simp only [go_sem, Nat.reduceAdd, Nat.reduceLeDiff, Nat.reduceSub, Int.reduceToNat, reduceCtorEq]))
    refine AQ.appendS (hnb := rfl) (l := l) (by kernel_rfl) rfl rfl rfl (by rfl) Tryd.tk24 (by kernel_rfl) Tryd.sz5 Tryd.zr5 Tryd.by5 rfl (by rw [byteR_len, List.length_cons, be4_len]; omega) ?_
    rw [byteR_append, hin, show (byteR (UInt8.ofNat K :: be4 N)).length + l.length = 5 + l.length from by rw [byteR_len]; rfl]
    repeat (first | refine xA ?_ | refine xB ?_ | refine xC ?_ | refine xE ?_ | refine xD ?_ | refine xK ?_ | refine xS ?_ | refine xM ?_ | refine xT ?_ | refine xF ?_ | ((first | refine xR ?_ | refine xW ?_ | refine vq_id ?_); simp only [go_sem, Nat.reduceAdd, Nat.reduceLeDiff, Nat.reduceSub, Int.reduceToNat, reduceCtorEq, w5]) | (refine ⟨by first | omega | (intros; simp_all; done) | (intros; simp_all; omega), ?_⟩; try simp only [go_sem, Nat.reduceAdd, Nat.reduceLeDiff, Nat.reduceSub, Int.reduceToNat, reduceCtorEq, w5]))
    refine AQ.callv (by kernel_rfl) rfl rfl rfl b2 fun r' H' ⟨e1, e2⟩ => ?_
    subst e1; subst e2
    repeat (first | refine xA ?_ | refine xB ?_ | refine xC ?_ | refine xE ?_ | refine xD ?_ | refine xK ?_ | refine xS ?_ | refine xM ?_ | refine xT ?_ | refine xF ?_ | ((first | refine xR ?_ | refine xW ?_ | refine vq_id ?_); simp only [go_sem, Nat.reduceAdd, Nat.reduceLeDiff, Nat.reduceSub, Int.reduceToNat, reduceCtorEq]) | (refine ⟨by first | omega | (intros; simp_all; done) | (intros; simp_all; omega), ?_⟩; try simp only [go_sem, Nat.reduceAdd, Nat.reduceLeDiff, Nat.reduceSub, Int.reduceToNat, reduceCtorEq]))
    refine AQ.appendO (hnb := rfl) (rows := byteR (be4 (l.length + 9))) (rows' := byteR (inner K N l)) (xs := byteR (inner K N l)) (es := 0) (by kernel_rfl) rfl rfl rfl (by rw [byteR_len, hil]; omega) (by rw [List.drop_zero]; exact List.take_of_length_le (by rw [byteR_len, hil]; exact Nat.le_refl _)) rfl (by rfl) Tryd.tk24 Tryd.sz5 (by show Option.map _ (zro Tryd.prog 5) = _; rw [Tryd.zr5]; rfl) Tryd.by5 rfl (by rw [byteR_len, byteR_len, be4_len, hil]; omega) (by rw [byteR_len, byteR_len, be4_len, hil]; omega) ?_
    repeat (first | refine xA ?_ | refine xB ?_ | refine xC ?_ | refine xE ?_ | refine xD ?_ | refine xK ?_ | refine xS ?_ | refine xM ?_ | refine xT ?_ | refine xF ?_ | ((first | refine xR ?_ | refine xW ?_ | refine vq_id ?_); simp only [go_sem, Nat.reduceAdd, Nat.reduceLeDiff, Nat.reduceSub, Int.reduceToNat, reduceCtorEq]) | (refine ⟨by first | omega | (intros; simp_all; done) | (intros; simp_all; omega), ?_⟩; try simp only [go_sem, Nat.reduceAdd, Nat.reduceLeDiff, Nat.reduceSub, Int.reduceToNat, reduceCtorEq]))
    refine AQ.fnL [.im (.sl 1 (byteR (inner K N l)))] (by kernel_rfl) rfl rfl rfl (LentAs.cons (LentA.of (Lent.osw rfl (by rw [byteR_len, hil]))) LentAs.nil) hck rfl (fun _ => rfl) ?_
    simp only [go_sem, Nat.reduceAdd, Nat.reduceLeDiff, Nat.reduceSub, Int.reduceToNat, reduceCtorEq]
    refine AQ.fn (by kernel_rfl) rfl rfl rfl (b3) rfl ?_
    simp only [go_sem, Nat.reduceAdd, Nat.reduceLeDiff, Nat.reduceSub, Int.reduceToNat, reduceCtorEq, byteR_append]
    refine AQ.append (hnb := rfl) (rows := byteR (be4 (l.length + 9) ++ inner K N l)) (es := 0) (by kernel_rfl) rfl rfl rfl (by rfl) Tryd.tk24 Tryd.sz5 (by show Option.map _ (zro Tryd.prog 5) = _; rw [Tryd.zr5]; rfl) Tryd.by5 (by rw [byteR_len, byteR_len, byteR_len, List.length_append]) (by rw [byteR_len, byteR_len, List.length_append, be4_len, be4_len, hil]; omega) (by rw [byteR_len, byteR_len, List.length_append, be4_len, be4_len, hil]; omega) ?_
    repeat (first | refine xA ?_ | refine xB ?_ | refine xC ?_ | refine xE ?_ | refine xD ?_ | refine xK ?_ | refine xS ?_ | refine xM ?_ | refine xT ?_ | refine xF ?_ | ((first | refine xR ?_ | refine xW ?_ | refine vq_id ?_); simp only [go_sem, Nat.reduceAdd, Nat.reduceLeDiff, Nat.reduceSub, Int.reduceToNat, reduceCtorEq]) | (refine ⟨by first | omega | (intros; simp_all; done) | (intros; simp_all; omega), ?_⟩; try simp only [go_sem, Nat.reduceAdd, Nat.reduceLeDiff, Nat.reduceSub, Int.reduceToNat, reduceCtorEq]))
    refine AE.freeze 8 (rows := byteR (be4 (l.length + 9) ++ inner K N l) ++ byteR (be4 (adSum (inner K N l)))) rfl (by simp [go_sem]) (by simp [go_sem]) ?_
    simp only [go_sem, Nat.reduceAdd, Nat.reduceLeDiff, Nat.reduceSub, Int.reduceToNat, reduceCtorEq]
    refine AE.ret0 rfl ⟨rfl, rfl, trivial⟩ rfl ⟨rfl, ?_⟩
    simp only [tupOf, AV.st, frame, Int.toNat_natCast, byteR_append, List.drop_zero, ← List.length_append]
    rw [List.take_of_length_le (by simp [byteR_len]), List.append_assoc]
  · rw [if_neg h0]
    refine ACall.walk [0, 1, 2, 3, 4, 5, 6, 10] [] Tryd.func9 rfl Tryd.ntmps9 (by kernel_rfl) (by rfl) rfl fun W own I0 φ0 lay => ?_
    repeat (first | refine xA ?_ | refine xB ?_ | refine xC ?_ | refine xE ?_ | refine xD ?_ | refine xK ?_ | refine xS ?_ | refine xM ?_ | refine xT ?_ | refine xF ?_ | ((first | refine xR ?_ | refine xW ?_ | refine vq_id ?_); simp only [go_sem, Nat.reduceAdd, Nat.reduceLeDiff, Nat.reduceSub, Int.reduceToNat, reduceCtorEq]) | (refine ⟨by first | omega | (intros; simp_all; done) | (intros; simp_all; omega), ?_⟩; try simp only [go_sem, Nat.reduceAdd, Nat.reduceLeDiff, Nat.reduceSub, Int.reduceToNat, reduceCtorEq]))
    refine AQ.fn (by kernel_rfl) rfl rfl rfl (hs) rfl ?_
    repeat (first | refine xA ?_ | refine xB ?_ | refine xC ?_ | refine xE ?_ | refine xD ?_ | refine xK ?_ | refine xS ?_ | refine xM ?_ | refine xT ?_ | refine xF ?_ | ((first | refine xR ?_ | refine xW ?_ | refine vq_id ?_); simp only [go_sem, Nat.reduceAdd, Nat.reduceLeDiff, Nat.reduceSub, Int.reduceToNat, reduceCtorEq]) | (refine ⟨by first | omega | (intros; simp_all; done) | (intros; simp_all; omega), ?_⟩; try simp only [go_sem, Nat.reduceAdd, Nat.reduceLeDiff, Nat.reduceSub, Int.reduceToNat, reduceCtorEq]))
    refine AP.cond rfl rfl (fun hc => ?_) (fun hc => ?_)
    · repeat (first | refine xA ?_ | refine xB ?_ | refine xC ?_ | refine xE ?_ | refine xD ?_ | refine xK ?_ | refine xS ?_ | refine xM ?_ | refine xT ?_ | refine xF ?_ | ((first | refine xR ?_ | refine xW ?_ | refine vq_id ?_); simp only [go_sem, Nat.reduceAdd, Nat.reduceLeDiff, Nat.reduceSub, Int.reduceToNat, reduceCtorEq]) | (refine ⟨by first | omega | (intros; simp_all; done) | (intros; simp_all; omega), ?_⟩; try simp only [go_sem, Nat.reduceAdd, Nat.reduceLeDiff, Nat.reduceSub, Int.reduceToNat, reduceCtorEq]))
      exact AE.ret0 rfl ⟨rfl, rfl, trivial⟩ rfl ⟨rfl, rfl⟩
    · simp at hc; exact absurd hc h0
end Go.Proofs.YtlpcdpjkdodmcaaDoor
end

section
namespace Go.Proofs.YtlpcdpjkdodmcaaDoor
open Go Go.AL Go.RowKit
set_option maxRecDepth 10000
set_option maxHeartbeats 4000000
def mid (l : List UInt8) (n : Nat) : List UInt8 := (l.take n).drop 4
def msgK (b : List UInt8) : Nat := (b.getD 0 0).toNat
def msgN (b : List UInt8) : Nat := of4 (b.drop 1)
def msgB (b : List UInt8) : List UInt8 := b.drop 5
def decV (l : List UInt8) : (Int × Int × List UInt8) × Int × Int :=
  if l.length < 4 then ((0, 0, []), 0, 0)
  else if of4 l < 9 ∨ 20009 < of4 l then ((0, 0, []), 0, 410)
  else if l.length < 4 + of4 l then ((0, 0, []), 0, 0)
  else if of4 (l.drop (of4 l)) ≠ adSum (mid l (of4 l)) then ((0, 0, []), 0, 410)
  else if msgE (msgK (mid l (of4 l))) (msgN (mid l (of4 l))) (msgB (mid l (of4 l))) ≠ 0 then ((0, 0, []), 0, msgE (msgK (mid l (of4 l))) (msgN (mid l (of4 l))) (msgB (mid l (of4 l))))
  else ((msgK (mid l (of4 l)), msgN (mid l (of4 l)), msgB (mid l (of4 l))), (of4 l + 4 : Nat), 0)
abbrev Mg (m : Int × Int × List UInt8) : List AV := [Iv m.1, Iv m.2.1, Sv m.2.2]
abbrev decA (d : (Int × Int × List UInt8) × Int × Int) : AV := .tup [.agg (Mg d.1), Iv d.2.1, Iv d.2.2]
theorem of4_lt (l : List UInt8) : of4 l < 4294967296 := by
  have h0 := (l.getD 0 0).toNat_lt; have h1 := (l.getD 1 0).toNat_lt; have h2 := (l.getD 2 0).toNat_lt; have h3 := (l.getD 3 0).toNat_lt
  unfold of4; omega
theorem getD_take {l : List UInt8} {n k : Nat} (h : k < n) : (l.take n).getD k 0 = l.getD k 0 := by
  rw [List.getD_eq_getElem?_getD, List.getD_eq_getElem?_getD, List.getElem?_take, if_pos h]
theorem of4_take (l : List UInt8) (n : Nat) (h : 4 ≤ n) : of4 (l.take n) = of4 l := by
  unfold of4
  rw [getD_take (by omega), getD_take (by omega), getD_take (by omega), getD_take (by omega)]
theorem mid_len (l : List UInt8) (n : Nat) (h : n ≤ l.length) : (mid l n).length = n - 4 := by
  unfold mid
  rw [List.length_drop, List.length_take]; omega
theorem str_back (l : List UInt8) : (⟨((byteR l).map byteRow).toArray⟩ : ByteArray) = BA l := by rw [byteR_back]; rfl
theorem decode_ref (l : List UInt8) (hl : l.length ≤ 1000000000) : PFn Tryd.prog 11 [.im (.sl 1 (byteR l))] (decA (decV l)) := by
  obtain ⟨n, hn⟩ : ∃ n, of4 l = n := ⟨_, rfl⟩
  have hlt := of4_lt l
  unfold decV
  rw [hn] at hlt ⊢
  refine ACall.walk [0, 2, 3, 4, 5, 6, 7, 8, 11, 20, 26, 37, 53] [2, 7] Tryd.func11 rfl Tryd.ntmps11 (by kernel_rfl) (by rfl) rfl fun W own I0 φ0 lay => ?_
  repeat (first | refine xA ?_ | refine xB ?_ | refine xC ?_ | refine xE ?_ | refine xD ?_ | refine xK ?_ | refine xS ?_ | refine xM ?_ | refine xT ?_ | refine xF ?_ | ((first | refine xR ?_ | refine xW ?_ | refine vq_id ?_); simp only [go_sem, Nat.reduceAdd, Nat.reduceLeDiff, Nat.reduceSub, Int.reduceToNat, reduceCtorEq, byteR_len]) | (refine ⟨by first | omega | (intros; simp_all; done) | (intros; simp_all; omega), ?_⟩; try simp only [go_sem, Nat.reduceAdd, Nat.reduceLeDiff, Nat.reduceSub, Int.reduceToNat, reduceCtorEq, byteR_len]))
  refine AP.cond rfl rfl (fun hc => ?_) (fun hc => ?_)
  · have h : l.length < 4 := by simp at hc; omega
    rw [if_pos h]
    repeat (first | refine xA ?_ | refine xB ?_ | refine xC ?_ | refine xE ?_ | refine xD ?_ | refine xK ?_ | refine xS ?_ | refine xM ?_ | refine xT ?_ | refine xF ?_ | ((first | refine xR ?_ | refine xW ?_ | refine vq_id ?_); simp only [go_sem, Nat.reduceAdd, Nat.reduceLeDiff, Nat.reduceSub, Int.reduceToNat, reduceCtorEq]) | (refine ⟨by first | omega | (intros; simp_all; done) | (intros; simp_all; omega), ?_⟩; try simp only [go_sem, Nat.reduceAdd, Nat.reduceLeDiff, Nat.reduceSub, Int.reduceToNat, reduceCtorEq]))
    exact AE.ret0 rfl ⟨⟨rfl, Nat.le_of_ble_eq_true (by kernel_rfl)⟩, rfl, rfl, trivial⟩ rfl ⟨rfl, rfl⟩
  have h1 : ¬ l.length < 4 := by simp at hc; omega
  rw [if_neg h1]
  have ho := of_ref l (by omega)
  rw [hn] at ho
  repeat (first | refine xA ?_ | refine xB ?_ | refine xC ?_ | refine xE ?_ | refine xD ?_ | refine xK ?_ | refine xS ?_ | refine xM ?_ | refine xT ?_ | refine xF ?_ | ((first | refine xR ?_ | refine xW ?_ | refine vq_id ?_); simp only [go_sem, Nat.reduceAdd, Nat.reduceLeDiff, Nat.reduceSub, Int.reduceToNat, reduceCtorEq]) | (refine ⟨by first | omega | (intros; simp_all; done) | (intros; simp_all; omega), ?_⟩; try simp only [go_sem, Nat.reduceAdd, Nat.reduceLeDiff, Nat.reduceSub, Int.reduceToNat, reduceCtorEq]))
  refine AQ.fn (by kernel_rfl) rfl rfl rfl (ho) rfl ?_
  repeat (first | refine xA ?_ | refine xB ?_ | refine xC ?_ | refine xE ?_ | refine xD ?_ | refine xK ?_ | refine xS ?_ | refine xM ?_ | refine xT ?_ | refine xF ?_ | ((first | refine xR ?_ | refine xW ?_ | refine vq_id ?_); simp only [go_sem, Nat.reduceAdd, Nat.reduceLeDiff, Nat.reduceSub, Int.reduceToNat, reduceCtorEq]) | (refine ⟨by first | omega | (intros; simp_all; done) | (intros; simp_all; omega), ?_⟩; try simp only [go_sem, Nat.reduceAdd, Nat.reduceLeDiff, Nat.reduceSub, Int.reduceToNat, reduceCtorEq]))
  refine AP.cond rfl rfl (fun hc2 => ?_) (fun hc2 => ?_)
  · have h : n < 9 ∨ 20009 < n := by simp at hc2; omega
    rw [if_pos h]
    repeat (first | refine xA ?_ | refine xB ?_ | refine xC ?_ | refine xE ?_ | refine xD ?_ | refine xK ?_ | refine xS ?_ | refine xM ?_ | refine xT ?_ | refine xF ?_ | ((first | refine xR ?_ | refine xW ?_ | refine vq_id ?_); simp only [go_sem, Nat.reduceAdd, Nat.reduceLeDiff, Nat.reduceSub, Int.reduceToNat, reduceCtorEq]) | (refine ⟨by first | omega | (intros; simp_all; done) | (intros; simp_all; omega), ?_⟩; try simp only [go_sem, Nat.reduceAdd, Nat.reduceLeDiff, Nat.reduceSub, Int.reduceToNat, reduceCtorEq]))
    exact AE.ret0 rfl ⟨⟨rfl, Nat.le_of_ble_eq_true (by kernel_rfl)⟩, rfl, rfl, trivial⟩ rfl ⟨rfl, rfl⟩
  have h2 : ¬ (n < 9 ∨ 20009 < n) := by simp at hc2; omega
  rw [if_neg h2]
  have w1 : IntKind.i64.wrap ((n : Int) + 4) = ((n + 4 : Nat) : Int) := wr (by omega)
  repeat (first | refine xA ?_ | refine xB ?_ | refine xC ?_ | refine xE ?_ | refine xD ?_ | refine xK ?_ | refine xS ?_ | refine xM ?_ | refine xT ?_ | refine xF ?_ | ((first | refine xR ?_ | refine xW ?_ | refine vq_id ?_); simp only [go_sem, Nat.reduceAdd, Nat.reduceLeDiff, Nat.reduceSub, Int.reduceToNat, reduceCtorEq, w1, byteR_len]) | (refine ⟨by first | omega | (intros; simp_all; done) | (intros; simp_all; omega), ?_⟩; try simp only [go_sem, Nat.reduceAdd, Nat.reduceLeDiff, Nat.reduceSub, Int.reduceToNat, reduceCtorEq, w1, byteR_len]))
  refine AP.cond rfl rfl (fun hc3 => ?_) (fun hc3 => ?_)
  · have h : l.length < 4 + n := by simp at hc3; omega
    rw [if_pos h]
    repeat (first | refine xA ?_ | refine xB ?_ | refine xC ?_ | refine xE ?_ | refine xD ?_ | refine xK ?_ | refine xS ?_ | refine xM ?_ | refine xT ?_ | refine xF ?_ | ((first | refine xR ?_ | refine xW ?_ | refine vq_id ?_); simp only [go_sem, Nat.reduceAdd, Nat.reduceLeDiff, Nat.reduceSub, Int.reduceToNat, reduceCtorEq]) | (refine ⟨by first | omega | (intros; simp_all; done) | (intros; simp_all; omega), ?_⟩; try simp only [go_sem, Nat.reduceAdd, Nat.reduceLeDiff, Nat.reduceSub, Int.reduceToNat, reduceCtorEq]))
    exact AE.ret0 rfl ⟨⟨rfl, Nat.le_of_ble_eq_true (by kernel_rfl)⟩, rfl, rfl, trivial⟩ rfl ⟨rfl, rfl⟩
  have h3 : ¬ l.length < 4 + n := by simp at hc3; omega
  rw [if_neg h3]
  have hm : ((byteR l).take n).drop 4 = byteR (mid l n) := by rw [byteR_take, byteR_drop]; rfl
  have hml := mid_len l n (by omega)
  obtain ⟨b, hb⟩ : ∃ b, mid l n = b := ⟨_, rfl⟩
  rw [hb] at hm hml ⊢
  have o2 := of_ref (l.drop n) (by rw [List.length_drop]; omega)
  have ck := sum_ref b (by omega)
  repeat (first | refine xA ?_ | refine xB ?_ | refine xC ?_ | refine xE ?_ | refine xD ?_ | refine xK ?_ | refine xS ?_ | refine xM ?_ | refine xT ?_ | refine xF ?_ | ((first | refine xR ?_ | refine xW ?_ | refine vq_id ?_); simp only [go_sem, Nat.reduceAdd, Nat.reduceLeDiff, Nat.reduceSub, Int.reduceToNat, reduceCtorEq, byteR_len, Int.toNat_natCast, Int.reduceToNat, hm, byteR_drop]) | (refine ⟨by first | omega | (intros; simp_all; done) | (intros; simp_all; omega), ?_⟩; try simp only [go_sem, Nat.reduceAdd, Nat.reduceLeDiff, Nat.reduceSub, Int.reduceToNat, reduceCtorEq, byteR_len, Int.toNat_natCast, Int.reduceToNat, hm, byteR_drop]))
  refine AQ.fn (by kernel_rfl) rfl rfl rfl (o2) rfl ?_
  repeat (first | refine xA ?_ | refine xB ?_ | refine xC ?_ | refine xE ?_ | refine xD ?_ | refine xK ?_ | refine xS ?_ | refine xM ?_ | refine xT ?_ | refine xF ?_ | ((first | refine xR ?_ | refine xW ?_ | refine vq_id ?_); simp only [go_sem, Nat.reduceAdd, Nat.reduceLeDiff, Nat.reduceSub, Int.reduceToNat, reduceCtorEq]) | (refine ⟨by first | omega | (intros; simp_all; done) | (intros; simp_all; omega), ?_⟩; try simp only [go_sem, Nat.reduceAdd, Nat.reduceLeDiff, Nat.reduceSub, Int.reduceToNat, reduceCtorEq]))
  refine AQ.fn (by kernel_rfl) rfl rfl rfl (ck) rfl ?_
  repeat (first | refine xA ?_ | refine xB ?_ | refine xC ?_ | refine xE ?_ | refine xD ?_ | refine xK ?_ | refine xS ?_ | refine xM ?_ | refine xT ?_ | refine xF ?_ | ((first | refine xR ?_ | refine xW ?_ | refine vq_id ?_); simp only [go_sem, Nat.reduceAdd, Nat.reduceLeDiff, Nat.reduceSub, Int.reduceToNat, reduceCtorEq]) | (refine ⟨by first | omega | (intros; simp_all; done) | (intros; simp_all; omega), ?_⟩; try simp only [go_sem, Nat.reduceAdd, Nat.reduceLeDiff, Nat.reduceSub, Int.reduceToNat, reduceCtorEq]))
  refine AP.cond rfl rfl (fun hc4 => ?_) (fun hc4 => ?_)
  · have h : of4 (l.drop n) ≠ adSum b := by simp at hc4; omega
    rw [if_pos h]
    repeat (first | refine xA ?_ | refine xB ?_ | refine xC ?_ | refine xE ?_ | refine xD ?_ | refine xK ?_ | refine xS ?_ | refine xM ?_ | refine xT ?_ | refine xF ?_ | ((first | refine xR ?_ | refine xW ?_ | refine vq_id ?_); simp only [go_sem, Nat.reduceAdd, Nat.reduceLeDiff, Nat.reduceSub, Int.reduceToNat, reduceCtorEq]) | (refine ⟨by first | omega | (intros; simp_all; done) | (intros; simp_all; omega), ?_⟩; try simp only [go_sem, Nat.reduceAdd, Nat.reduceLeDiff, Nat.reduceSub, Int.reduceToNat, reduceCtorEq]))
    exact AE.ret0 rfl ⟨⟨rfl, Nat.le_of_ble_eq_true (by kernel_rfl)⟩, rfl, rfl, trivial⟩ rfl ⟨rfl, rfl⟩
  have h4 : ¬ of4 (l.drop n) ≠ adSum b := by simp at hc4; omega
  rw [if_neg h4]
  have o3 := of_ref (b.drop 1) (by rw [List.length_drop]; omega)
  have hg := byteR_get b 0 (by omega)
  have w2 := wr (x := ((b.getD 0 0).toNat : Int)) (by have := (b.getD 0 0).toNat_lt; omega)
  have hx0 : (0 : Int) < ((byteR b).length : Int) := by rw [byteR_len]; omega
  have hby := byteR_bytes (b.drop 5)
  have hsb := str_back (b.drop 5)
  repeat (first | refine xA ?_ | refine xB ?_ | refine xC ?_ | refine xE ?_ | refine xD ?_ | refine xK ?_ | refine xS ?_ | refine xM ?_ | refine xT ?_ | refine xF ?_ | ((first | refine xR ?_ | refine xW ?_ | refine vq_id ?_); simp only [go_sem, Nat.reduceAdd, Nat.reduceLeDiff, Nat.reduceSub, Int.reduceToNat, reduceCtorEq]) | (refine ⟨by first | omega | (intros; simp_all; done) | (intros; simp_all; omega), ?_⟩; try simp only [go_sem, Nat.reduceAdd, Nat.reduceLeDiff, Nat.reduceSub, Int.reduceToNat, reduceCtorEq]))
  refine AP.cut (α := Unit) (fun _ => [(0, .im (.sl 1 (byteR l))), (2, .ob 0 0), (5, Iv n), (7, .ob 9 0)]) (fun _ => [(9, .var 30 (Mg (msgK b, msgN b, msgB b))), (0, .var 30 (Mg (0, 0, [])))]) (fun _ => True) ?_ fun _ _ => ?_
  · skip
    refine AP.drawE 13 (Tree.node [] [0, 1, 2, 3, 4, 5, 7, 8, 9] [6, 11] [Tree.node [0, 1, 2, 3, 7, 8, 9] [10] [11] [Tree.node [0, 1, 2, 3, 7, 8, 9, 10] [] [12] [Tree.node [] [] [] []]], Tree.node [0, 1, 2, 3, 4, 5, 7, 8, 9] [] [6] [Tree.node [0, 1, 2, 3, 7, 8, 9] [10] [12] [Tree.node [] [] [] []]]]) (by kernel_rfl) rfl (by kernel_rfl) (by kernel_rfl) ?_
    refine vd_node ?_
    simp only [go_sem, Nat.reduceAdd, Nat.reduceLeDiff, Nat.reduceSub, Int.reduceToNat, reduceCtorEq, byteR_drop, Int.reduceToNat, byteR_len, hg, w2, Tryd.underlying24, Option.isSome_some, byteR_back, List.map_cons, List.map_nil, List.length_cons, List.length_nil, List.take_succ_cons, List.take_zero, List.drop_zero]
    refine ⟨⟨by omega, by omega⟩, ⟨by omega, by omega⟩, ⟨by omega, by omega⟩, hby, ?_⟩
    repeat' (first | with_reducible exact True.intro | with_reducible refine And.intro (by omega) ?_ | with_reducible refine And.intro ?_ ?_ | (refine AQ.nx rfl ?_; simp only [go_sem, Nat.reduceAdd, Nat.reduceLeDiff, Nat.reduceSub, Int.reduceToNat, reduceCtorEq, byteR_drop, Int.reduceToNat, byteR_len, hg, w2, Tryd.underlying24, Option.isSome_some, byteR_back, List.map_cons, List.map_nil, List.length_cons, List.length_nil, List.take_succ_cons, List.take_zero, List.drop_zero]) | (refine AQ.fn (by kernel_rfl) rfl rfl rfl (o3) rfl ?_; simp only [go_sem, Nat.reduceAdd, Nat.reduceLeDiff, Nat.reduceSub, Int.reduceToNat, reduceCtorEq]) | refine AQ.done ?_ | (refine AQ.go (by kernel_rfl) ?_; simp only [go_sem, Nat.reduceAdd, Nat.reduceLeDiff, Nat.reduceSub, Int.reduceToNat, reduceCtorEq, byteR_drop, Int.reduceToNat, byteR_len, hg, w2, Tryd.underlying24, Option.isSome_some, byteR_back, List.map_cons, List.map_nil, List.length_cons, List.length_nil, List.take_succ_cons, List.take_zero, List.drop_zero]; repeat (with_reducible refine And.intro (by omega) ?_); refine AQ.nx rfl ?_; simp only [go_sem, Nat.reduceAdd, Nat.reduceLeDiff, Nat.reduceSub, Int.reduceToNat, reduceCtorEq, byteR_drop, Int.reduceToNat, byteR_len, hg, w2, Tryd.underlying24, Option.isSome_some, byteR_back, List.map_cons, List.map_nil, List.length_cons, List.length_nil, List.take_succ_cons, List.take_zero, List.drop_zero]))
    all_goals first
      | exact hby
      | (simp only [go_sem, Nat.reduceAdd, Nat.reduceLeDiff, Nat.reduceSub, Int.reduceToNat, reduceCtorEq]; refine AE.rename 1 9 rfl rfl rfl ?_; simp only [go_sem, Nat.reduceAdd, Nat.reduceLeDiff, Nat.reduceSub, Int.reduceToNat, reduceCtorEq]; exact AE.meet () trivial (by repeat (first | exact Sub.nil _ | refine Sub.cons rfl ?_)) rfl)
  have hwr := wrong_ref (msgK b) (msgN b) (msgB b)
  obtain ⟨e, he⟩ : ∃ e, msgE (msgK b) (msgN b) (msgB b) = e := ⟨_, rfl⟩
  rw [he] at hwr ⊢
  repeat (first | refine xA ?_ | refine xB ?_ | refine xC ?_ | refine xE ?_ | refine xD ?_ | refine xK ?_ | refine xS ?_ | refine xM ?_ | refine xT ?_ | refine xF ?_ | ((first | refine xR ?_ | refine xW ?_ | refine vq_id ?_); simp only [go_sem, Nat.reduceAdd, Nat.reduceLeDiff, Nat.reduceSub, Int.reduceToNat, reduceCtorEq]) | (refine ⟨by first | omega | (intros; simp_all; done) | (intros; simp_all; omega), ?_⟩; try simp only [go_sem, Nat.reduceAdd, Nat.reduceLeDiff, Nat.reduceSub, Int.reduceToNat, reduceCtorEq]))
  refine AQ.fn (by kernel_rfl) rfl rfl rfl (hwr) rfl ?_
  repeat (first | refine xA ?_ | refine xB ?_ | refine xC ?_ | refine xE ?_ | refine xD ?_ | refine xK ?_ | refine xS ?_ | refine xM ?_ | refine xT ?_ | refine xF ?_ | ((first | refine xR ?_ | refine xW ?_ | refine vq_id ?_); simp only [go_sem, Nat.reduceAdd, Nat.reduceLeDiff, Nat.reduceSub, Int.reduceToNat, reduceCtorEq]) | (refine ⟨by first | omega | (intros; simp_all; done) | (intros; simp_all; omega), ?_⟩; try simp only [go_sem, Nat.reduceAdd, Nat.reduceLeDiff, Nat.reduceSub, Int.reduceToNat, reduceCtorEq]))
  refine AP.cond rfl rfl (fun hc5 => ?_) (fun hc5 => ?_)
  · have h : e ≠ 0 := by simp at hc5; exact hc5
    rw [if_pos h]
    repeat (first | refine xA ?_ | refine xB ?_ | refine xC ?_ | refine xE ?_ | refine xD ?_ | refine xK ?_ | refine xS ?_ | refine xM ?_ | refine xT ?_ | refine xF ?_ | ((first | refine xR ?_ | refine xW ?_ | refine vq_id ?_); simp only [go_sem, Nat.reduceAdd, Nat.reduceLeDiff, Nat.reduceSub, Int.reduceToNat, reduceCtorEq]) | (refine ⟨by first | omega | (intros; simp_all; done) | (intros; simp_all; omega), ?_⟩; try simp only [go_sem, Nat.reduceAdd, Nat.reduceLeDiff, Nat.reduceSub, Int.reduceToNat, reduceCtorEq]))
    exact AE.ret0 rfl ⟨⟨rfl, Nat.le_of_ble_eq_true (by kernel_rfl)⟩, rfl, rfl, trivial⟩ rfl ⟨rfl, rfl⟩
  have h : ¬ e ≠ 0 := by simp at hc5; simp [hc5]
  rw [if_neg h]
  repeat (first | refine xA ?_ | refine xB ?_ | refine xC ?_ | refine xE ?_ | refine xD ?_ | refine xK ?_ | refine xS ?_ | refine xM ?_ | refine xT ?_ | refine xF ?_ | ((first | refine xR ?_ | refine xW ?_ | refine vq_id ?_); simp only [go_sem, Nat.reduceAdd, Nat.reduceLeDiff, Nat.reduceSub, Int.reduceToNat, reduceCtorEq, w1]) | (refine ⟨by first | omega | (intros; simp_all; done) | (intros; simp_all; omega), ?_⟩; try simp only [go_sem, Nat.reduceAdd, Nat.reduceLeDiff, Nat.reduceSub, Int.reduceToNat, reduceCtorEq, w1]))
  exact AE.ret0 rfl ⟨⟨rfl, Nat.le_of_ble_eq_true (by kernel_rfl)⟩, rfl, rfl, trivial⟩ rfl ⟨rfl, rfl⟩
theorem decode_spec (l : List UInt8) (hl : l.length ≤ 1000000000) : PFn Tryd.prog 10 [.im (.sl 1 (byteR l))] (decA (decV l)) := by
  obtain ⟨n, hn⟩ : ∃ n, of4 l = n := ⟨_, rfl⟩
  have hlt := of4_lt l
  unfold decV
  rw [hn] at hlt ⊢
  refine ACall.walk [0, 2, 3, 4, 5, 6, 7, 8, 9, 10, 13, 24, 30, 48, 65] [2, 9] Tryd.func10 rfl Tryd.ntmps10 (by kernel_rfl) (by rfl) rfl fun W own I0 φ0 lay => ?_
  repeat (first | refine xA ?_ | refine xB ?_ | refine xC ?_ | refine xE ?_ | refine xD ?_ | refine xK ?_ | refine xS ?_ | refine xM ?_ | refine xT ?_ | refine xF ?_ | ((first | refine xR ?_ | refine xW ?_ | refine vq_id ?_); simp only [go_sem, Nat.reduceAdd, Nat.reduceLeDiff, Nat.reduceSub, Int.reduceToNat, reduceCtorEq, byteR_len]) | (refine ⟨by first | omega | (intros; simp_all; done) | (intros; simp_all; omega), ?_⟩; try simp only [go_sem, Nat.reduceAdd, Nat.reduceLeDiff, Nat.reduceSub, Int.reduceToNat, reduceCtorEq, byteR_len]))
  refine AP.cond rfl rfl (fun hc => ?_) (fun hc => ?_)
  · have h : l.length < 4 := by simp at hc; omega
    rw [if_pos h]
    repeat (first | refine xA ?_ | refine xB ?_ | refine xC ?_ | refine xE ?_ | refine xD ?_ | refine xK ?_ | refine xS ?_ | refine xM ?_ | refine xT ?_ | refine xF ?_ | ((first | refine xR ?_ | refine xW ?_ | refine vq_id ?_); simp only [go_sem, Nat.reduceAdd, Nat.reduceLeDiff, Nat.reduceSub, Int.reduceToNat, reduceCtorEq]) | (refine ⟨by first | omega | (intros; simp_all; done) | (intros; simp_all; omega), ?_⟩; try simp only [go_sem, Nat.reduceAdd, Nat.reduceLeDiff, Nat.reduceSub, Int.reduceToNat, reduceCtorEq]))
    exact AE.ret0 rfl ⟨⟨rfl, Nat.le_of_ble_eq_true (by kernel_rfl)⟩, rfl, rfl, trivial⟩ rfl ⟨rfl, rfl⟩
  have h1 : ¬ l.length < 4 := by simp at hc; omega
  rw [if_neg h1]
  have ho := numberOf_spec (l.take 4) (by rw [List.length_take]; omega)
  rw [of4_take _ _ (by omega), hn] at ho
  have w0 := wr (x := (n : Int)) (by omega)
  repeat (first | refine xA ?_ | refine xB ?_ | refine xC ?_ | refine xE ?_ | refine xD ?_ | refine xK ?_ | refine xS ?_ | refine xM ?_ | refine xT ?_ | refine xF ?_ | ((first | refine xR ?_ | refine xW ?_ | refine vq_id ?_); simp only [go_sem, Nat.reduceAdd, Nat.reduceLeDiff, Nat.reduceSub, Int.reduceToNat, reduceCtorEq, byteR_take, byteR_len, Int.reduceToNat]) | (refine ⟨by first | omega | (intros; simp_all; done) | (intros; simp_all; omega), ?_⟩; try simp only [go_sem, Nat.reduceAdd, Nat.reduceLeDiff, Nat.reduceSub, Int.reduceToNat, reduceCtorEq, byteR_take, byteR_len, Int.reduceToNat]))
  refine AQ.fn (by kernel_rfl) rfl rfl rfl (ho) rfl ?_
  repeat (first | refine xA ?_ | refine xB ?_ | refine xC ?_ | refine xE ?_ | refine xD ?_ | refine xK ?_ | refine xS ?_ | refine xM ?_ | refine xT ?_ | refine xF ?_ | ((first | refine xR ?_ | refine xW ?_ | refine vq_id ?_); simp only [go_sem, Nat.reduceAdd, Nat.reduceLeDiff, Nat.reduceSub, Int.reduceToNat, reduceCtorEq, w0]) | (refine ⟨by first | omega | (intros; simp_all; done) | (intros; simp_all; omega), ?_⟩; try simp only [go_sem, Nat.reduceAdd, Nat.reduceLeDiff, Nat.reduceSub, Int.reduceToNat, reduceCtorEq, w0]))
  refine AP.cond rfl rfl (fun hc2 => ?_) (fun hc2 => ?_)
  · have h : n < 9 ∨ 20009 < n := by simp at hc2; omega
    rw [if_pos h]
    repeat (first | refine xA ?_ | refine xB ?_ | refine xC ?_ | refine xE ?_ | refine xD ?_ | refine xK ?_ | refine xS ?_ | refine xM ?_ | refine xT ?_ | refine xF ?_ | ((first | refine xR ?_ | refine xW ?_ | refine vq_id ?_); simp only [go_sem, Nat.reduceAdd, Nat.reduceLeDiff, Nat.reduceSub, Int.reduceToNat, reduceCtorEq]) | (refine ⟨by first | omega | (intros; simp_all; done) | (intros; simp_all; omega), ?_⟩; try simp only [go_sem, Nat.reduceAdd, Nat.reduceLeDiff, Nat.reduceSub, Int.reduceToNat, reduceCtorEq]))
    exact AE.ret0 rfl ⟨⟨rfl, Nat.le_of_ble_eq_true (by kernel_rfl)⟩, rfl, rfl, trivial⟩ rfl ⟨rfl, rfl⟩
  have h2 : ¬ (n < 9 ∨ 20009 < n) := by simp at hc2; omega
  rw [if_neg h2]
  have w1 : IntKind.i64.wrap (4 + (n : Int)) = ((4 + n : Nat) : Int) := wr (by omega)
  repeat (first | refine xA ?_ | refine xB ?_ | refine xC ?_ | refine xE ?_ | refine xD ?_ | refine xK ?_ | refine xS ?_ | refine xM ?_ | refine xT ?_ | refine xF ?_ | ((first | refine xR ?_ | refine xW ?_ | refine vq_id ?_); simp only [go_sem, Nat.reduceAdd, Nat.reduceLeDiff, Nat.reduceSub, Int.reduceToNat, reduceCtorEq, w1, byteR_len]) | (refine ⟨by first | omega | (intros; simp_all; done) | (intros; simp_all; omega), ?_⟩; try simp only [go_sem, Nat.reduceAdd, Nat.reduceLeDiff, Nat.reduceSub, Int.reduceToNat, reduceCtorEq, w1, byteR_len]))
  refine AP.cond rfl rfl (fun hc3 => ?_) (fun hc3 => ?_)
  · have h : l.length < 4 + n := by simp at hc3; omega
    rw [if_pos h]
    repeat (first | refine xA ?_ | refine xB ?_ | refine xC ?_ | refine xE ?_ | refine xD ?_ | refine xK ?_ | refine xS ?_ | refine xM ?_ | refine xT ?_ | refine xF ?_ | ((first | refine xR ?_ | refine xW ?_ | refine vq_id ?_); simp only [go_sem, Nat.reduceAdd, Nat.reduceLeDiff, Nat.reduceSub, Int.reduceToNat, reduceCtorEq]) | (refine ⟨by first | omega | (intros; simp_all; done) | (intros; simp_all; omega), ?_⟩; try simp only [go_sem, Nat.reduceAdd, Nat.reduceLeDiff, Nat.reduceSub, Int.reduceToNat, reduceCtorEq]))
    exact AE.ret0 rfl ⟨⟨rfl, Nat.le_of_ble_eq_true (by kernel_rfl)⟩, rfl, rfl, trivial⟩ rfl ⟨rfl, rfl⟩
  have h3 : ¬ l.length < 4 + n := by simp at hc3; omega
  rw [if_neg h3]
  obtain ⟨F, hF⟩ : ∃ F, (l.take (4 + n)).drop 4 = F := ⟨_, rfl⟩
  have hFl : F.length = n := by rw [← hF, List.length_drop, List.length_take]; omega
  have hm : ((byteR l).take (4 + n)).drop 4 = byteR F := by rw [byteR_take, byteR_drop, hF]
  have hml := mid_len l n (by omega)
  obtain ⟨b, hb⟩ : ∃ b, mid l n = b := ⟨_, rfl⟩
  have hFb : F.take (n - 4) = b := by
    rw [← hb, ← hF, mid, List.take_drop, List.take_take]
    congr 2; omega
  have hFs : of4 (F.drop (n - 4)) = of4 (l.drop n) := by
    rw [← hF, List.drop_drop, show 4 + (n - 4) = n by omega, List.drop_take, of4_take _ _ (by omega)]
  rw [hb] at hml ⊢
  have o2 := numberOf_spec (F.drop (n - 4)) (by rw [List.length_drop]; omega)
  rw [hFs] at o2
  have ck := checksum_spec b (by omega)
  have w2 : IntKind.i64.wrap ((n : Int) - 4) = ((n - 4 : Nat) : Int) := by rw [wr (by omega)]; omega
  repeat (first | refine xA ?_ | refine xB ?_ | refine xC ?_ | refine xE ?_ | refine xD ?_ | refine xK ?_ | refine xS ?_ | refine xM ?_ | refine xT ?_ | refine xF ?_ | ((first | refine xR ?_ | refine xW ?_ | refine vq_id ?_); simp only [go_sem, Nat.reduceAdd, Nat.reduceLeDiff, Nat.reduceSub, Int.reduceToNat, reduceCtorEq, w1, w2, byteR_len, Int.toNat_natCast, Int.reduceToNat, hF, hFl, byteR_take, byteR_drop, hFb]) | (refine ⟨by first | omega | (intros; simp_all; done) | (intros; simp_all; omega), ?_⟩; try simp only [go_sem, Nat.reduceAdd, Nat.reduceLeDiff, Nat.reduceSub, Int.reduceToNat, reduceCtorEq, w1, w2, byteR_len, Int.toNat_natCast, Int.reduceToNat, hF, hFl, byteR_take, byteR_drop, hFb]))
  refine AQ.fn (by kernel_rfl) rfl rfl rfl (o2) rfl ?_
  repeat (first | refine xA ?_ | refine xB ?_ | refine xC ?_ | refine xE ?_ | refine xD ?_ | refine xK ?_ | refine xS ?_ | refine xM ?_ | refine xT ?_ | refine xF ?_ | ((first | refine xR ?_ | refine xW ?_ | refine vq_id ?_); simp only [go_sem, Nat.reduceAdd, Nat.reduceLeDiff, Nat.reduceSub, Int.reduceToNat, reduceCtorEq]) | (refine ⟨by first | omega | (intros; simp_all; done) | (intros; simp_all; omega), ?_⟩; try simp only [go_sem, Nat.reduceAdd, Nat.reduceLeDiff, Nat.reduceSub, Int.reduceToNat, reduceCtorEq]))
  refine AQ.fn (by kernel_rfl) rfl rfl rfl (ck) rfl ?_
  repeat (first | refine xA ?_ | refine xB ?_ | refine xC ?_ | refine xE ?_ | refine xD ?_ | refine xK ?_ | refine xS ?_ | refine xM ?_ | refine xT ?_ | refine xF ?_ | ((first | refine xR ?_ | refine xW ?_ | refine vq_id ?_); simp only [go_sem, Nat.reduceAdd, Nat.reduceLeDiff, Nat.reduceSub, Int.reduceToNat, reduceCtorEq]) | (refine ⟨by first | omega | (intros; simp_all; done) | (intros; simp_all; omega), ?_⟩; try simp only [go_sem, Nat.reduceAdd, Nat.reduceLeDiff, Nat.reduceSub, Int.reduceToNat, reduceCtorEq]))
  refine AP.cond rfl rfl (fun hc4 => ?_) (fun hc4 => ?_)
  · have h : of4 (l.drop n) ≠ adSum b := by simp at hc4; omega
    rw [if_pos h]
    repeat (first | refine xA ?_ | refine xB ?_ | refine xC ?_ | refine xE ?_ | refine xD ?_ | refine xK ?_ | refine xS ?_ | refine xM ?_ | refine xT ?_ | refine xF ?_ | ((first | refine xR ?_ | refine xW ?_ | refine vq_id ?_); simp only [go_sem, Nat.reduceAdd, Nat.reduceLeDiff, Nat.reduceSub, Int.reduceToNat, reduceCtorEq]) | (refine ⟨by first | omega | (intros; simp_all; done) | (intros; simp_all; omega), ?_⟩; try simp only [go_sem, Nat.reduceAdd, Nat.reduceLeDiff, Nat.reduceSub, Int.reduceToNat, reduceCtorEq]))
    exact AE.ret0 rfl ⟨⟨rfl, Nat.le_of_ble_eq_true (by kernel_rfl)⟩, rfl, rfl, trivial⟩ rfl ⟨rfl, rfl⟩
  have h4 : ¬ of4 (l.drop n) ≠ adSum b := by simp at hc4; omega
  rw [if_neg h4]
  have e3 : of4 ((b.take 5).drop 1) = msgN b := by rw [List.drop_take, of4_take _ _ (by omega)]; rfl
  have o3 := numberOf_spec ((b.take 5).drop 1) (by rw [List.length_drop, List.length_take]; omega)
  rw [e3] at o3
  have hg := byteR_get b 0 (by omega)
  have w3 := wr (x := ((b.getD 0 0).toNat : Int)) (by have := (b.getD 0 0).toNat_lt; omega)
  have w4 := wr (x := (msgN b : Int)) (by have := of4_lt (b.drop 1); unfold msgN; omega)
  have hx0 : (0 : Int) < ((byteR b).length : Int) := by rw [byteR_len]; omega
  have hby := byteR_bytes (b.drop 5)
  repeat (first | refine xA ?_ | refine xB ?_ | refine xC ?_ | refine xE ?_ | refine xD ?_ | refine xK ?_ | refine xS ?_ | refine xM ?_ | refine xT ?_ | refine xF ?_ | ((first | refine xR ?_ | refine xW ?_ | refine vq_id ?_); simp only [go_sem, Nat.reduceAdd, Nat.reduceLeDiff, Nat.reduceSub, Int.reduceToNat, reduceCtorEq]) | (refine ⟨by first | omega | (intros; simp_all; done) | (intros; simp_all; omega), ?_⟩; try simp only [go_sem, Nat.reduceAdd, Nat.reduceLeDiff, Nat.reduceSub, Int.reduceToNat, reduceCtorEq]))
  refine AP.cut (α := Unit) (fun _ => [(0, .im (.sl 1 (byteR l))), (2, .ob 0 0), (5, Iv n), (9, .ob 9 0)]) (fun _ => [(9, .var 23 (Mg (msgK b, msgN b, msgB b))), (0, .var 23 (Mg (0, 0, [])))]) (fun _ => True) ?_ fun _ _ => ?_
  · skip
    refine AP.drawE 14 (Tree.node [] [0, 1, 2, 3, 4, 5, 8, 9, 10] [6, 12] [Tree.node [0, 1, 2, 3, 8, 9, 10] [7, 11] [12] [Tree.node [0, 1, 2, 3, 7, 8, 9, 10, 11] [] [13] [Tree.node [] [] [] []]], Tree.node [0, 1, 2, 3, 4, 5, 8, 9, 10] [] [6] [Tree.node [0, 1, 2, 3, 8, 9, 10] [7, 11] [13] [Tree.node [] [] [] []]]]) (by kernel_rfl) rfl (by kernel_rfl) (by kernel_rfl) ?_
    refine vd_node ?_
    simp only [go_sem, Nat.reduceAdd, Nat.reduceLeDiff, Nat.reduceSub, Int.reduceToNat, reduceCtorEq, byteR_take, byteR_drop, Int.reduceToNat, byteR_len, hg, w3, w4, Tryd.underlying24, Option.isSome_some, byteR_back, List.map_cons, List.map_nil, List.length_cons, List.length_nil, List.take_succ_cons, List.take_zero, List.drop_zero]
    refine ⟨⟨by omega, by omega⟩, ⟨by omega, by omega, by omega⟩, ⟨by omega, by omega⟩, hby, ?_⟩
    repeat' (first | with_reducible exact True.intro | with_reducible refine And.intro (by omega) ?_ | with_reducible refine And.intro ?_ ?_ | (refine AQ.nx rfl ?_; simp only [go_sem, Nat.reduceAdd, Nat.reduceLeDiff, Nat.reduceSub, Int.reduceToNat, reduceCtorEq, byteR_take, byteR_drop, Int.reduceToNat, byteR_len, hg, w3, w4, Tryd.underlying24, Option.isSome_some, byteR_back, List.map_cons, List.map_nil, List.length_cons, List.length_nil, List.take_succ_cons, List.take_zero, List.drop_zero]) | (refine AQ.fn (by kernel_rfl) rfl rfl rfl (o3) rfl ?_; simp only [go_sem, Nat.reduceAdd, Nat.reduceLeDiff, Nat.reduceSub, Int.reduceToNat, reduceCtorEq, w4]) | refine AQ.done ?_ | (refine AQ.go (by kernel_rfl) ?_; simp only [go_sem, Nat.reduceAdd, Nat.reduceLeDiff, Nat.reduceSub, Int.reduceToNat, reduceCtorEq, byteR_take, byteR_drop, Int.reduceToNat, byteR_len, hg, w3, w4, Tryd.underlying24, Option.isSome_some, byteR_back, List.map_cons, List.map_nil, List.length_cons, List.length_nil, List.take_succ_cons, List.take_zero, List.drop_zero]; repeat (with_reducible refine And.intro (by omega) ?_); refine AQ.nx rfl ?_; simp only [go_sem, Nat.reduceAdd, Nat.reduceLeDiff, Nat.reduceSub, Int.reduceToNat, reduceCtorEq, byteR_take, byteR_drop, Int.reduceToNat, byteR_len, hg, w3, w4, Tryd.underlying24, Option.isSome_some, byteR_back, List.map_cons, List.map_nil, List.length_cons, List.length_nil, List.take_succ_cons, List.take_zero, List.drop_zero]))
    all_goals first
      | exact hby
      | (simp only [go_sem, Nat.reduceAdd, Nat.reduceLeDiff, Nat.reduceSub, Int.reduceToNat, reduceCtorEq]; refine AE.rename 1 9 rfl rfl rfl ?_; simp only [go_sem, Nat.reduceAdd, Nat.reduceLeDiff, Nat.reduceSub, Int.reduceToNat, reduceCtorEq]; exact AE.meet () trivial (by repeat (first | exact Sub.nil _ | refine Sub.cons rfl ?_)) rfl)
  have hwr := error_spec (msgK b) (msgN b) (msgB b)
  obtain ⟨e, he⟩ : ∃ e, msgE (msgK b) (msgN b) (msgB b) = e := ⟨_, rfl⟩
  rw [he] at hwr ⊢
  repeat (first | refine xA ?_ | refine xB ?_ | refine xC ?_ | refine xE ?_ | refine xD ?_ | refine xK ?_ | refine xS ?_ | refine xM ?_ | refine xT ?_ | refine xF ?_ | ((first | refine xR ?_ | refine xW ?_ | refine vq_id ?_); simp only [go_sem, Nat.reduceAdd, Nat.reduceLeDiff, Nat.reduceSub, Int.reduceToNat, reduceCtorEq]) | (refine ⟨by first | omega | (intros; simp_all; done) | (intros; simp_all; omega), ?_⟩; try simp only [go_sem, Nat.reduceAdd, Nat.reduceLeDiff, Nat.reduceSub, Int.reduceToNat, reduceCtorEq]))
  refine AQ.fn (by kernel_rfl) rfl rfl rfl (hwr) rfl ?_
  repeat (first | refine xA ?_ | refine xB ?_ | refine xC ?_ | refine xE ?_ | refine xD ?_ | refine xK ?_ | refine xS ?_ | refine xM ?_ | refine xT ?_ | refine xF ?_ | ((first | refine xR ?_ | refine xW ?_ | refine vq_id ?_); simp only [go_sem, Nat.reduceAdd, Nat.reduceLeDiff, Nat.reduceSub, Int.reduceToNat, reduceCtorEq]) | (refine ⟨by first | omega | (intros; simp_all; done) | (intros; simp_all; omega), ?_⟩; try simp only [go_sem, Nat.reduceAdd, Nat.reduceLeDiff, Nat.reduceSub, Int.reduceToNat, reduceCtorEq]))
  refine AP.cond rfl rfl (fun hc5 => ?_) (fun hc5 => ?_)
  · have h : e ≠ 0 := by simp at hc5; exact hc5
    rw [if_pos h]
    repeat (first | refine xA ?_ | refine xB ?_ | refine xC ?_ | refine xE ?_ | refine xD ?_ | refine xK ?_ | refine xS ?_ | refine xM ?_ | refine xT ?_ | refine xF ?_ | ((first | refine xR ?_ | refine xW ?_ | refine vq_id ?_); simp only [go_sem, Nat.reduceAdd, Nat.reduceLeDiff, Nat.reduceSub, Int.reduceToNat, reduceCtorEq]) | (refine ⟨by first | omega | (intros; simp_all; done) | (intros; simp_all; omega), ?_⟩; try simp only [go_sem, Nat.reduceAdd, Nat.reduceLeDiff, Nat.reduceSub, Int.reduceToNat, reduceCtorEq]))
    exact AE.ret0 rfl ⟨⟨rfl, Nat.le_of_ble_eq_true (by kernel_rfl)⟩, rfl, rfl, trivial⟩ rfl ⟨rfl, rfl⟩
  have h : ¬ e ≠ 0 := by simp at hc5; simp [hc5]
  rw [if_neg h]
  repeat (first | refine xA ?_ | refine xB ?_ | refine xC ?_ | refine xE ?_ | refine xD ?_ | refine xK ?_ | refine xS ?_ | refine xM ?_ | refine xT ?_ | refine xF ?_ | ((first | refine xR ?_ | refine xW ?_ | refine vq_id ?_); simp only [go_sem, Nat.reduceAdd, Nat.reduceLeDiff, Nat.reduceSub, Int.reduceToNat, reduceCtorEq, w1]) | (refine ⟨by first | omega | (intros; simp_all; done) | (intros; simp_all; omega), ?_⟩; try simp only [go_sem, Nat.reduceAdd, Nat.reduceLeDiff, Nat.reduceSub, Int.reduceToNat, reduceCtorEq, w1]))
  exact AE.ret0 rfl ⟨⟨rfl, Nat.le_of_ble_eq_true (by kernel_rfl)⟩, rfl, rfl, trivial⟩ rfl ⟨rfl, by rw [Nat.add_comm n 4]; rfl⟩
end Go.Proofs.YtlpcdpjkdodmcaaDoor
end

section
namespace Go.Proofs.YtlpcdpjkdodmcaaDoor
open Go Go.AL Go.RowKit Go.Proofs Go.Shelf
set_option maxRecDepth 10000
set_option maxHeartbeats 4000000
def grow_ren : Go.Shelf.Ren := ⟨fun | 4 => 70 | n => n, fun | 22 => 24 | 25 => 5 | n => n, fun n => n⟩
theorem grow_lays : Go.Proofs.Lays8.n4 Tryd.prog grow_ren := {
  mixed := by kernel_rfl
  f4 := ⟨"slices.Grow[[]byte,byte]", rfl, Tryd.func70.trans (congrArg some (by kernel_rfl))⟩
  t0 := Tryd.underlying0
  a0 := Tryd.isAgg0
  z0 := Tryd.sizeOf0
  v0 := Tryd.zeroValue0
  t3 := Tryd.underlying3
  a3 := Tryd.isAgg3
  z3 := Tryd.sizeOf3
  v3 := Tryd.zeroValue3
  t4 := Tryd.underlying4
  a4 := Tryd.isAgg4
  z4 := Tryd.sizeOf4
  v4 := Tryd.zeroValue4
  t9 := Tryd.underlying9
  a9 := Tryd.isAgg9
  z9 := Tryd.sizeOf9
  v9 := Tryd.zeroValue9
  t20 := Tryd.underlying20
  a20 := Tryd.isAgg20
  z20 := Tryd.sizeOf20
  v20 := Tryd.zeroValue20
  t22 := Tryd.underlying24
  a22 := Tryd.isAgg24
  z22 := Tryd.sizeOf24
  v22 := Tryd.zeroValue24 }
theorem grow_spec (n : Nat) (hn : n ≤ 1000000000) : ACall Tryd.prog 70 [nilS, Iv n] [] (fun r H => r = .os 0 1 0 0 ∧ H = [(0, .vec 5 1 [])]) := by
  refine ⟨by rfl, fun w φ I vs hd hR hV => ?_⟩
  simp only [AV.dens] at hd
  obtain ⟨u, us, rfl, hu, u2, us2, rfl, hu2, rfl⟩ := hd
  simp only [AV.den, IV.den] at hu
  obtain ⟨rfl, _⟩ := hu
  rw [den_i] at hu2
  subst hu2
  have h0 := real_st hR (nid [])
  rcases Nat.eq_zero_or_pos n with rfl | hp
  · refine (Any8.slices_Grow_room grow_lays none 0 0 0 w (Nat.le_refl _) (by decide) (by decide) (Nat.le_refl _)).mono fun e w' ⟨he, hw⟩ => ?_
    subst hw
    obtain ⟨h1, _⟩ := h0.own_nil (b := 0) rfl (Nat.le_refl _) 5 1
    refine ⟨.os 0 1 0 0, _, _, I, _, ⟨rfl, rfl⟩, he, ?_, h1⟩
    simp only [AV.den]
    exact .inl ⟨by simp [upd], trivial, trivial, trivial⟩
  · obtain ⟨i0, hi0, hz0⟩ := sz_info Tryd.sz5
    obtain ⟨i1, zv, hi1, hz1, hzc⟩ := zro_info Tryd.zr5
    have hi0' := hi0
    rw [hi1] at hi0
    cases hi0
    have hb5 : i0.bytes = 1 := by
      have := Tryd.by5
      unfold by' at this
      rw [hi1] at this
      simpa using this
    refine (Any8.slices_Grow_grow grow_lays i0 zv hi1 hz1 (by omega) none 0 0 n [] w (Nat.le_refl _) (by omega) (by rw [hb5]; omega) (by omega) (by simp) (fun _ => rfl) (fun a h => by cases h)).mono fun e w' ⟨he, hw⟩ => ?_
    have hG1 : n ≤ grownCap w (0 + n) 0 5 := by have := grownCap_ge w (0 + n) 0 5; omega
    have hG2 := grownCap_le_maxLen w (0 + n) 0 5 (by unfold maxLen; omega)
    have hd : St ⟨w, ownB φ, I, φ, nid []⟩ φ I [] w.drew := h0.drew1
    subst hw
    have hG3 : (0 + n) ≤ grownCap w (0 + n) 0 5 := by omega
    obtain ⟨h1, _⟩ := hd.alloc_own (b := 0) rfl (Nat.le_refl _) (cs := ([] : List Value).toArray ++ Builtin.zeroCells zv.cells (0 + n - 0) ++ Builtin.zeroCells zv.cells (grownCap w (0 + n) 0 5 - (0 + n))) (e := 5) (o := .vec 5 1 []) (by
      simp only [Ob.at]
      refine .inr ⟨_, [], (([] : List Value).toArray ++ Builtin.zeroCells zv.cells (0 + n - 0) ++ Builtin.zeroCells zv.cells (grownCap w (0 + n) 0 5 - (0 + n))).toList, rfl, ?_, by simp [IV.denss], by simp⟩
      rw [al_new]; simp)
    refine ⟨.os 0 1 0 0, _, _, I, _, ⟨rfl, rfl⟩, he, ?_, h1⟩
    simp only [AV.den]
    refine .inr ⟨w.heap.size, grownCap w (0 + n) 0 5, by simp [upd], by simp; rfl, Nat.zero_le _, hG2, _, 5, al_new w.drew _, ?_⟩
    have hz : zv.cells.size = 1 := by rw [← Array.length_toList, hzc]; rfl
    simp only [Array.size_append, List.size_toArray, List.length_nil, size_zeroCells, hz]
    show (0 + grownCap w (0 + n) 0 5) * 1 ≤ 0 + (0 + n - 0) * 1 + (grownCap w (0 + n) 0 5 - (0 + n)) * 1
    omega
end Go.Proofs.YtlpcdpjkdodmcaaDoor
end

section
namespace Go.Proofs.YtlpcdpjkdodmcaaDoor
open Go Go.AL Go.RowKit
set_option maxRecDepth 10000
set_option maxHeartbeats 4000000
def rowsB (L : List (List UInt8)) : List (List IV) := L.map fun x => [.sl 1 (byteR x)]
theorem rowsB_len (L : List (List UInt8)) : (rowsB L).length = L.length := by simp [rowsB]
theorem rowsB_get (L : List (List UInt8)) (k : Nat) (h : k < L.length) : (rowsB L).getD k [] = [.sl 1 (byteR (L.getD k []))] := by
  rw [List.getD_eq_getElem?_getD, List.getD_eq_getElem?_getD, rowsB, List.getElem?_map, List.getElem?_eq_getElem h]; rfl
theorem flat_step (L : List (List UInt8)) (k : Nat) (h : k < L.length) : (L.take (k + 1)).flatten = (L.take k).flatten ++ L.getD k [] := by
  rw [List.take_add_one, List.getElem?_eq_getElem h, List.flatten_append, List.getD_eq_getElem?_getD, List.getElem?_eq_getElem h]; simp
theorem flat_le (L : List (List UInt8)) (k : Nat) : (L.take k).flatten.length ≤ L.flatten.length := by
  conv => rhs; rw [← List.take_append_drop k L, List.flatten_append, List.length_append]
  omega
theorem concat_spec (L : List (List UInt8)) (hL : L.length ≤ 1000000000) (hl : L.flatten.length ≤ 1000000000) : PFn Tryd.prog 42 [.im (.sl 1 (rowsB L))] (.im (.sl 1 (byteR L.flatten))) := by
  refine ACall.walk [0, 2, 3, 5, 6, 8, 9, 10, 11, 12, 20, 25, 26, 27, 28] [] Tryd.func42 rfl Tryd.ntmps42 (by kernel_rfl) (by rfl) rfl fun W own I0 φ0 lay => ?_
  repeat (first | refine xA ?_ | refine xB ?_ | refine xC ?_ | refine xE ?_ | refine xD ?_ | refine xK ?_ | refine xS ?_ | refine xM ?_ | refine xT ?_ | refine xF ?_ | ((first | refine xR ?_ | refine xW ?_ | refine vq_id ?_); simp only [go_sem, Nat.reduceAdd, Nat.reduceLeDiff, Nat.reduceSub, Int.reduceToNat, reduceCtorEq]) | (refine ⟨by first | omega | (intros; simp_all; done) | (intros; simp_all; omega), ?_⟩; try simp only [go_sem, Nat.reduceAdd, Nat.reduceLeDiff, Nat.reduceSub, Int.reduceToNat, reduceCtorEq]))
  refine AP.loop rfl (α := Nat) (fun k => [(0, .im (.sl 1 (rowsB L))), (3, Iv (L.take k).flatten.length), (9, .im (.sl 1 (rowsB L))), (10, Iv L.length), (11, Iv k)]) (fun k => []) (fun k => k ≤ L.length) (fun k => L.length - k) 0 (by simp) (by rw [← rowsB_len]; exact (by repeat (first | exact Sub.nil _ | refine Sub.cons rfl ?_))) rfl fun k hk => ?_
  have hw := wr (x := (k : Int) + 1) (by omega)
  repeat (first | refine xA ?_ | refine xB ?_ | refine xC ?_ | refine xE ?_ | refine xD ?_ | refine xK ?_ | refine xS ?_ | refine xM ?_ | refine xT ?_ | refine xF ?_ | ((first | refine xR ?_ | refine xW ?_ | refine vq_id ?_); simp only [go_sem, Nat.reduceAdd, Nat.reduceLeDiff, Nat.reduceSub, Int.reduceToNat, reduceCtorEq]) | (refine ⟨by first | omega | (intros; simp_all; done) | (intros; simp_all; omega), ?_⟩; try simp only [go_sem, Nat.reduceAdd, Nat.reduceLeDiff, Nat.reduceSub, Int.reduceToNat, reduceCtorEq]))
  refine AP.cond rfl rfl (fun hc => ?_) (fun hc => ?_)
  · have hk' : k < L.length := by simp at hc; omega
    have hg := rowsB_get L k hk'
    have hst := flat_step L k hk'
    have hle := flat_le L (k + 1)
    rw [hst, List.length_append] at hle
    have w1 : IntKind.i64.wrap (((L.take k).flatten.length : Int) + ((L.getD k []).length : Int)) = (((L.take k).flatten.length + (L.getD k []).length : Nat) : Int) := by rw [← Int.natCast_add]; exact wr (by omega)
    have hlt : decide ((((L.take k).flatten.length + (L.getD k []).length : Nat) : Int) < 0) = false := by simp; omega
    repeat (first | refine xA ?_ | refine xB ?_ | refine xC ?_ | refine xE ?_ | refine xD ?_ | refine xK ?_ | refine xS ?_ | refine xM ?_ | refine xT ?_ | refine xF ?_ | ((first | refine xR ?_ | refine xW ?_ | refine vq_id ?_); simp only [go_sem, Nat.reduceAdd, Nat.reduceLeDiff, Nat.reduceSub, Int.reduceToNat, reduceCtorEq, hw, rowsB_len, hg, byteR_len, w1, List.map_cons, List.map_nil, List.length_cons, List.length_nil, List.take_succ_cons, List.take_zero, List.drop_zero, hlt]) | (refine ⟨by first | omega | (intros; simp_all; done) | (intros; simp_all; omega), ?_⟩; try simp only [go_sem, Nat.reduceAdd, Nat.reduceLeDiff, Nat.reduceSub, Int.reduceToNat, reduceCtorEq, hw, rowsB_len, hg, byteR_len, w1, List.map_cons, List.map_nil, List.length_cons, List.length_nil, List.take_succ_cons, List.take_zero, List.drop_zero, hlt]))
    refine AE.round (k + 1) (by omega) (by omega) ?_ rfl
    rw [hst, List.length_append]
    exact (by repeat (first | exact Sub.nil _ | refine Sub.cons rfl ?_))
  have hk' : k = L.length := by simp at hc; omega
  rw [hk', List.take_length]
  have hgr := grow_spec L.flatten.length hl
  repeat (first | refine xA ?_ | refine xB ?_ | refine xC ?_ | refine xE ?_ | refine xD ?_ | refine xK ?_ | refine xS ?_ | refine xM ?_ | refine xT ?_ | refine xF ?_ | ((first | refine xR ?_ | refine xW ?_ | refine vq_id ?_); simp only [go_sem, Nat.reduceAdd, Nat.reduceLeDiff, Nat.reduceSub, Int.reduceToNat, reduceCtorEq]) | (refine ⟨by first | omega | (intros; simp_all; done) | (intros; simp_all; omega), ?_⟩; try simp only [go_sem, Nat.reduceAdd, Nat.reduceLeDiff, Nat.reduceSub, Int.reduceToNat, reduceCtorEq]))
  refine AQ.callv (by kernel_rfl) rfl rfl rfl hgr fun r' H' ⟨e1, e2⟩ => ?_
  subst e1; subst e2
  repeat (first | refine xA ?_ | refine xB ?_ | refine xC ?_ | refine xE ?_ | refine xD ?_ | refine xK ?_ | refine xS ?_ | refine xM ?_ | refine xT ?_ | refine xF ?_ | ((first | refine xR ?_ | refine xW ?_ | refine vq_id ?_); simp only [go_sem, Nat.reduceAdd, Nat.reduceLeDiff, Nat.reduceSub, Int.reduceToNat, reduceCtorEq]) | (refine ⟨by first | omega | (intros; simp_all; done) | (intros; simp_all; omega), ?_⟩; try simp only [go_sem, Nat.reduceAdd, Nat.reduceLeDiff, Nat.reduceSub, Int.reduceToNat, reduceCtorEq]))
  refine AP.loop rfl (α := Nat) (fun k => [(6, .os 0 1 0 (L.take k).flatten.length), (25, .im (.sl 1 (rowsB L))), (26, Iv L.length), (27, Iv k)]) (fun k => [(0, .vec 5 1 (byteR (L.take k).flatten))]) (fun k => k ≤ L.length) (fun k => L.length - k) 0 (by simp) (by rw [← rowsB_len]; exact (by repeat (first | exact Sub.nil _ | refine Sub.cons rfl ?_))) rfl fun k hk => ?_
  have hw := wr (x := (k : Int) + 1) (by omega)
  repeat (first | refine xA ?_ | refine xB ?_ | refine xC ?_ | refine xE ?_ | refine xD ?_ | refine xK ?_ | refine xS ?_ | refine xM ?_ | refine xT ?_ | refine xF ?_ | ((first | refine xR ?_ | refine xW ?_ | refine vq_id ?_); simp only [go_sem, Nat.reduceAdd, Nat.reduceLeDiff, Nat.reduceSub, Int.reduceToNat, reduceCtorEq]) | (refine ⟨by first | omega | (intros; simp_all; done) | (intros; simp_all; omega), ?_⟩; try simp only [go_sem, Nat.reduceAdd, Nat.reduceLeDiff, Nat.reduceSub, Int.reduceToNat, reduceCtorEq]))
  refine AP.cond rfl rfl (fun hc => ?_) (fun hc => ?_)
  · have hk' : k < L.length := by simp at hc; omega
    have hg := rowsB_get L k hk'
    have hst := flat_step L k hk'
    have hle := flat_le L (k + 1)
    rw [hst, List.length_append] at hle
    repeat (first | refine xA ?_ | refine xB ?_ | refine xC ?_ | refine xE ?_ | refine xD ?_ | refine xK ?_ | refine xS ?_ | refine xM ?_ | refine xT ?_ | refine xF ?_ | ((first | refine xR ?_ | refine xW ?_ | refine vq_id ?_); simp only [go_sem, Nat.reduceAdd, Nat.reduceLeDiff, Nat.reduceSub, Int.reduceToNat, reduceCtorEq, hw, rowsB_len, hg, byteR_len, List.map_cons, List.map_nil, List.length_cons, List.length_nil, List.take_succ_cons, List.take_zero, List.drop_zero]) | (refine ⟨by first | omega | (intros; simp_all; done) | (intros; simp_all; omega), ?_⟩; try simp only [go_sem, Nat.reduceAdd, Nat.reduceLeDiff, Nat.reduceSub, Int.reduceToNat, reduceCtorEq, hw, rowsB_len, hg, byteR_len, List.map_cons, List.map_nil, List.length_cons, List.length_nil, List.take_succ_cons, List.take_zero, List.drop_zero]))
    refine AQ.append (hnb := rfl) (rows := byteR (L.take k).flatten) (es := 0) (by kernel_rfl) rfl rfl rfl (by rfl) Tryd.tk24 Tryd.sz5 (by show Option.map _ (zro Tryd.prog 5) = _; rw [Tryd.zr5]; rfl) Tryd.by5 (by rw [byteR_len]) (by rw [byteR_len, byteR_len]; omega) (by rw [byteR_len, byteR_len]; omega) ?_
    repeat (first | refine xA ?_ | refine xB ?_ | refine xC ?_ | refine xE ?_ | refine xD ?_ | refine xK ?_ | refine xS ?_ | refine xM ?_ | refine xT ?_ | refine xF ?_ | ((first | refine xR ?_ | refine xW ?_ | refine vq_id ?_); simp only [go_sem, Nat.reduceAdd, Nat.reduceLeDiff, Nat.reduceSub, Int.reduceToNat, reduceCtorEq, hw, byteR_append, byteR_len]) | (refine ⟨by first | omega | (intros; simp_all; done) | (intros; simp_all; omega), ?_⟩; try simp only [go_sem, Nat.reduceAdd, Nat.reduceLeDiff, Nat.reduceSub, Int.reduceToNat, reduceCtorEq, hw, byteR_append, byteR_len]))
    refine AE.round (k + 1) (by omega) (by omega) ?_ ?_
    · rw [hst, List.length_append]
      exact (by repeat (first | exact Sub.nil _ | refine Sub.cons rfl ?_))
    · rw [hst]
  have hk' : k = L.length := by simp at hc; omega
  rw [hk', List.take_length]
  repeat (first | refine xA ?_ | refine xB ?_ | refine xC ?_ | refine xE ?_ | refine xD ?_ | refine xK ?_ | refine xS ?_ | refine xM ?_ | refine xT ?_ | refine xF ?_ | ((first | refine xR ?_ | refine xW ?_ | refine vq_id ?_); simp only [go_sem, Nat.reduceAdd, Nat.reduceLeDiff, Nat.reduceSub, Int.reduceToNat, reduceCtorEq]) | (refine ⟨by first | omega | (intros; simp_all; done) | (intros; simp_all; omega), ?_⟩; try simp only [go_sem, Nat.reduceAdd, Nat.reduceLeDiff, Nat.reduceSub, Int.reduceToNat, reduceCtorEq]))
  refine AE.freeze 0 (rows := byteR L.flatten) rfl (by simp [go_sem]) (by simp [go_sem, byteR_len]) ?_
  simp only [go_sem, Nat.reduceAdd, Nat.reduceLeDiff, Nat.reduceSub, Int.reduceToNat, reduceCtorEq]
  refine AE.ret0 rfl ⟨rfl, trivial⟩ rfl ⟨rfl, ?_⟩
  simp only [tupOf, AV.st, List.drop_zero]
  rw [List.take_of_length_le (by rw [byteR_len]; exact Nat.le_refl _)]
end Go.Proofs.YtlpcdpjkdodmcaaDoor
end

section
namespace Go.Proofs.YtlpcdpjkdodmcaaDoor
open Go Go.AL Go.RowKit
set_option maxRecDepth 10000
set_option maxHeartbeats 4000000
abbrev Msg := Int × Int × List UInt8
def msgR (l : List Msg) : List (List IV) := l.map fun m => [Ii m.1, Ii m.2.1, Si m.2.2]
theorem msgR_len (l : List Msg) : (msgR l).length = l.length := by simp [msgR]
theorem msgR_snoc (l : List Msg) (m : Msg) : msgR l ++ [[Ii m.1, Ii m.2.1, Si m.2.2]] = msgR (l ++ [m]) := by simp [msgR]
theorem dec_n (l : List UInt8) : ∃ n : Nat, (decV l).2.1 = n ∧ (n = 0 ∨ 13 ≤ n ∧ n ≤ l.length) := by
  unfold decV
  split
  · exact ⟨0, rfl, .inl rfl⟩
  split
  · exact ⟨0, rfl, .inl rfl⟩
  split
  · exact ⟨0, rfl, .inl rfl⟩
  split
  · exact ⟨0, rfl, .inl rfl⟩
  split
  · exact ⟨0, rfl, .inl rfl⟩
  · exact ⟨of4 l + 4, rfl, .inr ⟨by omega, by omega⟩⟩
def feed (rest : List UInt8) (acc : List Msg) : List UInt8 × List Msg × Int :=
  if (decV rest).2.2 ≠ 0 then ([], [], (decV rest).2.2)
  else if h : (decV rest).2.1.toNat = 0 ∨ rest.length = 0 then (rest, acc, 0)
  else feed (rest.drop (decV rest).2.1.toNat) (acc ++ [(decV rest).1])
termination_by rest.length
decreasing_by rw [List.length_drop]; omega
def feedA (r : List UInt8 × List Msg × Int) : AV := if r.2.2 ≠ 0 then .tup [.agg [nilS], nilS, Iv r.2.2] else .tup [.agg [.im (.sl 1 (byteR r.1))], .im (.sl 3 (msgR r.2.1)), Iv 0]
theorem feed_spec (a b : List UInt8) (hl : a.length + b.length ≤ 1000000000) : PFn Tryd.prog 12 [.agg [.im (.sl 1 (byteR a))], .im (.sl 1 (byteR b))] (feedA (feed (a ++ b) [])) := by
  have hcc := concat_spec [a, b] (by simp) (by simp; omega)
  have hfl : [a, b].flatten = a ++ b := by simp
  rw [hfl] at hcc
  refine ACall.walk [0, 1, 2, 4, 5, 6, 7, 8, 9, 10, 11, 24, 28] [4, 9] Tryd.func12 rfl Tryd.ntmps12 (by kernel_rfl) (by rfl) rfl fun W own I0 φ0 lay => ?_
  repeat (first | refine xA ?_ | refine xB ?_ | refine xC ?_ | refine xE ?_ | refine xD ?_ | refine xK ?_ | refine xS ?_ | refine xM ?_ | refine xT ?_ | refine xF ?_ | ((first | refine xR ?_ | refine xW ?_ | refine vq_id ?_); simp only [go_sem, Nat.reduceAdd, Nat.reduceLeDiff, Nat.reduceSub, Int.reduceToNat, reduceCtorEq]) | (refine ⟨by first | omega | (intros; simp_all; done) | (intros; simp_all; omega), ?_⟩; try simp only [go_sem, Nat.reduceAdd, Nat.reduceLeDiff, Nat.reduceSub, Int.reduceToNat, reduceCtorEq]))
  refine AQ.fn (by kernel_rfl) rfl rfl rfl (hcc) rfl ?_
  repeat (first | refine xA ?_ | refine xB ?_ | refine xC ?_ | refine xE ?_ | refine xD ?_ | refine xK ?_ | refine xS ?_ | refine xM ?_ | refine xT ?_ | refine xF ?_ | ((first | refine xR ?_ | refine xW ?_ | refine vq_id ?_); simp only [go_sem, Nat.reduceAdd, Nat.reduceLeDiff, Nat.reduceSub, Int.reduceToNat, reduceCtorEq]) | (refine ⟨by first | omega | (intros; simp_all; done) | (intros; simp_all; omega), ?_⟩; try simp only [go_sem, Nat.reduceAdd, Nat.reduceLeDiff, Nat.reduceSub, Int.reduceToNat, reduceCtorEq]))
  refine AP.own 8 23 3 rfl ?_
  simp only [go_sem, Nat.reduceAdd, Nat.reduceLeDiff, Nat.reduceSub, Int.reduceToNat, reduceCtorEq]
  refine AP.loop rfl (α := List UInt8 × List Msg) (fun p => [(4, .ob 0 0), (7, .im (.sl 1 (byteR p.1))), (8, .os 1 3 0 p.2.length)]) (fun p => [(1, .vec 23 3 (msgR p.2)), (0, .var 36 [nilS])]) (fun p => feed p.1 p.2 = feed (a ++ b) [] ∧ p.2.length + p.1.length ≤ 1000000000) (fun p => p.1.length) (a ++ b, []) (by simp; omega) (by repeat (first | exact Sub.nil _ | refine Sub.cons rfl ?_)) rfl fun ⟨rest, acc⟩ ⟨hf, hb⟩ => ?_
  simp only at hf hb
  have hd := decode_spec rest (by omega)
  obtain ⟨n, hn, hn2⟩ := dec_n rest
  rw [feed] at hf
  obtain ⟨⟨⟨k, N, t⟩, n', e⟩, hdv⟩ : ∃ d, decV rest = d := ⟨_, rfl⟩
  rw [hdv] at hd hn hf
  simp only at hn hf
  subst hn
  repeat (first | refine xA ?_ | refine xB ?_ | refine xC ?_ | refine xE ?_ | refine xD ?_ | refine xK ?_ | refine xS ?_ | refine xM ?_ | refine xT ?_ | refine xF ?_ | ((first | refine xR ?_ | refine xW ?_ | refine vq_id ?_); simp only [go_sem, Nat.reduceAdd, Nat.reduceLeDiff, Nat.reduceSub, Int.reduceToNat, reduceCtorEq]) | (refine ⟨by first | omega | (intros; simp_all; done) | (intros; simp_all; omega), ?_⟩; try simp only [go_sem, Nat.reduceAdd, Nat.reduceLeDiff, Nat.reduceSub, Int.reduceToNat, reduceCtorEq]))
  refine AQ.fn (by kernel_rfl) rfl rfl rfl (hd) rfl ?_
  repeat (first | refine xA ?_ | refine xB ?_ | refine xC ?_ | refine xE ?_ | refine xD ?_ | refine xK ?_ | refine xS ?_ | refine xM ?_ | refine xT ?_ | refine xF ?_ | ((first | refine xR ?_ | refine xW ?_ | refine vq_id ?_); simp only [go_sem, Nat.reduceAdd, Nat.reduceLeDiff, Nat.reduceSub, Int.reduceToNat, reduceCtorEq]) | (refine ⟨by first | omega | (intros; simp_all; done) | (intros; simp_all; omega), ?_⟩; try simp only [go_sem, Nat.reduceAdd, Nat.reduceLeDiff, Nat.reduceSub, Int.reduceToNat, reduceCtorEq]))
  refine AP.cond rfl rfl (fun hc => ?_) (fun hc => ?_)
  · have h : e ≠ 0 := by simpa using hc
    rw [if_pos h] at hf
    rw [← hf]
    repeat (first | refine xA ?_ | refine xB ?_ | refine xC ?_ | refine xE ?_ | refine xD ?_ | refine xK ?_ | refine xS ?_ | refine xM ?_ | refine xT ?_ | refine xF ?_ | ((first | refine xR ?_ | refine xW ?_ | refine vq_id ?_); simp only [go_sem, Nat.reduceAdd, Nat.reduceLeDiff, Nat.reduceSub, Int.reduceToNat, reduceCtorEq]) | (refine ⟨by first | omega | (intros; simp_all; done) | (intros; simp_all; omega), ?_⟩; try simp only [go_sem, Nat.reduceAdd, Nat.reduceLeDiff, Nat.reduceSub, Int.reduceToNat, reduceCtorEq]))
    refine AE.ret0 rfl ⟨⟨rfl, Nat.le_of_ble_eq_true (by kernel_rfl)⟩, rfl, rfl, trivial⟩ rfl ⟨rfl, ?_⟩
    rw [feedA, if_pos h]
    rfl
  have h : ¬ e ≠ 0 := by simpa using hc
  rw [if_neg h] at hf
  repeat (first | refine xA ?_ | refine xB ?_ | refine xC ?_ | refine xE ?_ | refine xD ?_ | refine xK ?_ | refine xS ?_ | refine xM ?_ | refine xT ?_ | refine xF ?_ | ((first | refine xR ?_ | refine xW ?_ | refine vq_id ?_); simp only [go_sem, Nat.reduceAdd, Nat.reduceLeDiff, Nat.reduceSub, Int.reduceToNat, reduceCtorEq]) | (refine ⟨by first | omega | (intros; simp_all; done) | (intros; simp_all; omega), ?_⟩; try simp only [go_sem, Nat.reduceAdd, Nat.reduceLeDiff, Nat.reduceSub, Int.reduceToNat, reduceCtorEq]))
  refine AP.cond rfl rfl (fun hc2 => ?_) (fun hc2 => ?_)
  · have h0 : n = 0 := by simp at hc2; omega
    subst h0
    rw [dif_pos (.inl rfl)] at hf
    rw [← hf]
    have hta : (msgR acc).take acc.length = msgR acc := List.take_of_length_le (by rw [msgR_len]; exact Nat.le_refl _)
    repeat (first | refine xA ?_ | refine xB ?_ | refine xC ?_ | refine xE ?_ | refine xD ?_ | refine xK ?_ | refine xS ?_ | refine xM ?_ | refine xT ?_ | refine xF ?_ | ((first | refine xR ?_ | refine xW ?_ | refine vq_id ?_); simp only [go_sem, Nat.reduceAdd, Nat.reduceLeDiff, Nat.reduceSub, Int.reduceToNat, reduceCtorEq]) | (refine ⟨by first | omega | (intros; simp_all; done) | (intros; simp_all; omega), ?_⟩; try simp only [go_sem, Nat.reduceAdd, Nat.reduceLeDiff, Nat.reduceSub, Int.reduceToNat, reduceCtorEq]))
    refine AE.freeze 1 (rows := msgR acc) rfl (by simp [go_sem, msgR_len]) (by simp [go_sem, msgR_len]) ?_
    simp only [go_sem, Nat.reduceAdd, Nat.reduceLeDiff, Nat.reduceSub, Int.reduceToNat, reduceCtorEq, List.drop_zero, hta]
    refine AE.ret0 rfl ⟨⟨rfl, Nat.le_of_ble_eq_true (by kernel_rfl)⟩, rfl, rfl, trivial⟩ rfl ⟨rfl, ?_⟩
    rw [feedA, if_neg (by simp)]
    rfl
  have h0 : 13 ≤ n ∧ n ≤ rest.length := by simp at hc2; omega
  rw [dif_neg (by simp only [Int.toNat_natCast]; omega), Int.toNat_natCast] at hf
  repeat (first | refine xA ?_ | refine xB ?_ | refine xC ?_ | refine xE ?_ | refine xD ?_ | refine xK ?_ | refine xS ?_ | refine xM ?_ | refine xT ?_ | refine xF ?_ | ((first | refine xR ?_ | refine xW ?_ | refine vq_id ?_); simp only [go_sem, Nat.reduceAdd, Nat.reduceLeDiff, Nat.reduceSub, Int.reduceToNat, reduceCtorEq]) | (refine ⟨by first | omega | (intros; simp_all; done) | (intros; simp_all; omega), ?_⟩; try simp only [go_sem, Nat.reduceAdd, Nat.reduceLeDiff, Nat.reduceSub, Int.reduceToNat, reduceCtorEq]))
  refine AP.drawE 8 (Tree.node [] [0, 1, 4, 5, 6] [2] [Tree.node [0, 4, 5, 6] [] [3] [Tree.node [4, 5, 6] [] [7] [Tree.node [4, 5, 6] [] [] []]]]) (by kernel_rfl) rfl (by kernel_rfl) (by kernel_rfl) ?_
  refine vd_node ?_
  simp only [go_sem, Nat.reduceAdd, Nat.reduceLeDiff, Nat.reduceSub, Int.reduceToNat, reduceCtorEq, byteR_drop, Int.toNat_natCast, byteR_len]
  refine ⟨⟨by omega, by omega⟩, ?_⟩
  repeat' (first | with_reducible exact True.intro | with_reducible refine And.intro (by omega) ?_ | with_reducible refine And.intro ?_ ?_ | (refine AQ.nx rfl ?_; simp only [go_sem, Nat.reduceAdd, Nat.reduceLeDiff, Nat.reduceSub, Int.reduceToNat, reduceCtorEq, byteR_drop, Int.toNat_natCast, byteR_len]) | (refine AQ.append (hnb := rfl) (rows := msgR acc) (es := 2) (by kernel_rfl) rfl rfl rfl (by rfl) Tryd.tk37 Tryd.sz23 (by show Option.map _ (zro Tryd.prog 23) = _; rw [Tryd.zr23]; rfl) Tryd.by23 (by rw [msgR_len]) (by rw [msgR_len]; simp only [List.length_cons, List.length_nil]; omega) (by rw [msgR_len]; simp only [List.length_cons, List.length_nil]; omega) ?_; simp only [go_sem, Nat.reduceAdd, Nat.reduceLeDiff, Nat.reduceSub, Int.reduceToNat, reduceCtorEq, msgR_len, List.length_cons, List.length_nil]) | refine AQ.done ?_ | (refine AQ.go (by kernel_rfl) ?_; simp only [go_sem, Nat.reduceAdd, Nat.reduceLeDiff, Nat.reduceSub, Int.reduceToNat, reduceCtorEq, byteR_drop, Int.toNat_natCast, byteR_len]; repeat (with_reducible refine And.intro (by omega) ?_); refine AQ.nx rfl ?_; simp only [go_sem, Nat.reduceAdd, Nat.reduceLeDiff, Nat.reduceSub, Int.reduceToNat, reduceCtorEq, byteR_drop, Int.toNat_natCast, byteR_len]))
  all_goals
    repeat (first | refine xA ?_ | refine xB ?_ | refine xC ?_ | refine xE ?_ | refine xD ?_ | refine xK ?_ | refine xS ?_ | refine xM ?_ | refine xT ?_ | refine xF ?_ | ((first | refine xR ?_ | refine xW ?_ | refine vq_id ?_); simp only [go_sem, Nat.reduceAdd, Nat.reduceLeDiff, Nat.reduceSub, Int.reduceToNat, reduceCtorEq, byteR_drop, Int.toNat_natCast, byteR_len]) | (refine ⟨by first | omega | (intros; simp_all; done) | (intros; simp_all; omega), ?_⟩; try simp only [go_sem, Nat.reduceAdd, Nat.reduceLeDiff, Nat.reduceSub, Int.reduceToNat, reduceCtorEq, byteR_drop, Int.toNat_natCast, byteR_len]))
    refine AE.forgets [2] rfl ?_
    simp only [go_sem, Nat.reduceAdd, Nat.reduceLeDiff, Nat.reduceSub, Int.reduceToNat, reduceCtorEq, byteR_drop, Int.toNat_natCast, byteR_len]
    refine AE.round (rest.drop n, acc ++ [(k, N, t)]) ⟨hf, ?_⟩ ?_ ?_ ?_
    · simp only [List.length_append, List.length_drop, List.length_cons, List.length_nil]; omega
    · simp only [List.length_drop]; omega
    · simp only [List.length_append, List.length_cons, List.length_nil]; exact (by repeat (first | exact Sub.nil _ | refine Sub.cons rfl ?_))
    · rw [← msgR_snoc]
end Go.Proofs.YtlpcdpjkdodmcaaDoor
end

section
namespace Go.Proofs.YtlpcdpjkdodmcaaDoor
open Go Go.AL Go.RowKit
set_option maxRecDepth 10000
set_option maxHeartbeats 4000000
def feedR (r : List UInt8 × List Msg × Int) : AV := if r.2.2 ≠ 0 then .tup [nilS, nilS, Iv r.2.2] else .tup [.im (.sl 1 (byteR r.1)), .im (.sl 3 (msgR r.2.1)), Iv 0]
theorem feed_ref (a b : List UInt8) (hl : a.length + b.length ≤ 1000000000) : PFn Tryd.prog 13 [.im (.sl 1 (byteR a)), .im (.sl 1 (byteR b))] (feedR (feed (a ++ b) [])) := by
  refine ACall.walk [0, 1, 4, 5, 6, 7, 8, 9, 10, 11, 25, 28] [9] Tryd.func13 rfl Tryd.ntmps13 (by kernel_rfl) (by rfl) rfl fun W own I0 φ0 lay => ?_
  repeat (first | refine xA ?_ | refine xB ?_ | refine xC ?_ | refine xE ?_ | refine xD ?_ | refine xK ?_ | refine xS ?_ | refine xM ?_ | refine xT ?_ | refine xF ?_ | ((first | refine xR ?_ | refine xW ?_ | refine vq_id ?_); simp only [go_sem, Nat.reduceAdd, Nat.reduceLeDiff, Nat.reduceSub, Int.reduceToNat, reduceCtorEq]) | (refine ⟨by first | omega | (intros; simp_all; done) | (intros; simp_all; omega), ?_⟩; try simp only [go_sem, Nat.reduceAdd, Nat.reduceLeDiff, Nat.reduceSub, Int.reduceToNat, reduceCtorEq]))
  refine AQ.append (hnb := rfl) (rows := []) (es := 0) (by kernel_rfl) rfl rfl rfl (by rfl) Tryd.tk24 Tryd.sz5 (by show Option.map _ (zro Tryd.prog 5) = _; rw [Tryd.zr5]; rfl) Tryd.by5 rfl (by simp only [byteR_len, List.length_nil]; omega) (by simp only [byteR_len, List.length_nil]; omega) ?_
  repeat (first | refine xA ?_ | refine xB ?_ | refine xC ?_ | refine xE ?_ | refine xD ?_ | refine xK ?_ | refine xS ?_ | refine xM ?_ | refine xT ?_ | refine xF ?_ | ((first | refine xR ?_ | refine xW ?_ | refine vq_id ?_); simp only [go_sem, Nat.reduceAdd, Nat.reduceLeDiff, Nat.reduceSub, Int.reduceToNat, reduceCtorEq, List.nil_append, List.length_nil, byteR_len]) | (refine ⟨by first | omega | (intros; simp_all; done) | (intros; simp_all; omega), ?_⟩; try simp only [go_sem, Nat.reduceAdd, Nat.reduceLeDiff, Nat.reduceSub, Int.reduceToNat, reduceCtorEq, List.nil_append, List.length_nil, byteR_len]))
  refine AQ.append (hnb := rfl) (rows := byteR a) (es := 0) (by kernel_rfl) rfl rfl rfl (by rfl) Tryd.tk24 Tryd.sz5 (by show Option.map _ (zro Tryd.prog 5) = _; rw [Tryd.zr5]; rfl) Tryd.by5 (by rw [byteR_len]) (by rw [byteR_len, byteR_len]; omega) (by rw [byteR_len, byteR_len]; omega) ?_
  repeat (first | refine xA ?_ | refine xB ?_ | refine xC ?_ | refine xE ?_ | refine xD ?_ | refine xK ?_ | refine xS ?_ | refine xM ?_ | refine xT ?_ | refine xF ?_ | ((first | refine xR ?_ | refine xW ?_ | refine vq_id ?_); simp only [go_sem, Nat.reduceAdd, Nat.reduceLeDiff, Nat.reduceSub, Int.reduceToNat, reduceCtorEq, byteR_append]) | (refine ⟨by first | omega | (intros; simp_all; done) | (intros; simp_all; omega), ?_⟩; try simp only [go_sem, Nat.reduceAdd, Nat.reduceLeDiff, Nat.reduceSub, Int.reduceToNat, reduceCtorEq, byteR_append]))
  have hta : (byteR (a ++ b)).take ((byteR a).length + (byteR b).length) = byteR (a ++ b) := List.take_of_length_le (by rw [byteR_len, byteR_len, byteR_len, List.length_append]; exact Nat.le_refl _)
  refine AP.freeze 0 (rows := byteR (a ++ b)) rfl (by simp [go_sem]) (by simp [go_sem, byteR_len]) ?_
  simp only [go_sem, Nat.reduceAdd, Nat.reduceLeDiff, Nat.reduceSub, Int.reduceToNat, reduceCtorEq, List.drop_zero, hta]
  refine AP.loop rfl (α := List UInt8 × List Msg) (fun p => [(7, .im (.sl 1 (byteR p.1))), (8, .os 1 3 0 p.2.length)]) (fun p => [(1, .vec 30 3 (msgR p.2))]) (fun p => feed p.1 p.2 = feed (a ++ b) [] ∧ p.2.length + p.1.length ≤ 1000000000) (fun p => p.1.length) (a ++ b, []) (by simp; omega) (by repeat (first | exact Sub.nil _ | refine Sub.cons rfl ?_)) rfl fun ⟨rest, acc⟩ ⟨hf, hb⟩ => ?_
  simp only at hf hb
  have hd := decode_ref rest (by omega)
  obtain ⟨n, hn, hn2⟩ := dec_n rest
  rw [feed] at hf
  obtain ⟨⟨⟨k, N, t⟩, n', e⟩, hdv⟩ : ∃ d, decV rest = d := ⟨_, rfl⟩
  rw [hdv] at hd hn hf
  simp only at hn hf
  subst hn
  repeat (first | refine xA ?_ | refine xB ?_ | refine xC ?_ | refine xE ?_ | refine xD ?_ | refine xK ?_ | refine xS ?_ | refine xM ?_ | refine xT ?_ | refine xF ?_ | ((first | refine xR ?_ | refine xW ?_ | refine vq_id ?_); simp only [go_sem, Nat.reduceAdd, Nat.reduceLeDiff, Nat.reduceSub, Int.reduceToNat, reduceCtorEq]) | (refine ⟨by first | omega | (intros; simp_all; done) | (intros; simp_all; omega), ?_⟩; try simp only [go_sem, Nat.reduceAdd, Nat.reduceLeDiff, Nat.reduceSub, Int.reduceToNat, reduceCtorEq]))
  refine AQ.fn (by kernel_rfl) rfl rfl rfl (hd) rfl ?_
  repeat (first | refine xA ?_ | refine xB ?_ | refine xC ?_ | refine xE ?_ | refine xD ?_ | refine xK ?_ | refine xS ?_ | refine xM ?_ | refine xT ?_ | refine xF ?_ | ((first | refine xR ?_ | refine xW ?_ | refine vq_id ?_); simp only [go_sem, Nat.reduceAdd, Nat.reduceLeDiff, Nat.reduceSub, Int.reduceToNat, reduceCtorEq]) | (refine ⟨by first | omega | (intros; simp_all; done) | (intros; simp_all; omega), ?_⟩; try simp only [go_sem, Nat.reduceAdd, Nat.reduceLeDiff, Nat.reduceSub, Int.reduceToNat, reduceCtorEq]))
  refine AP.cond rfl rfl (fun hc => ?_) (fun hc => ?_)
  · have h : e ≠ 0 := by simpa using hc
    rw [if_pos h] at hf
    rw [← hf]
    repeat (first | refine xA ?_ | refine xB ?_ | refine xC ?_ | refine xE ?_ | refine xD ?_ | refine xK ?_ | refine xS ?_ | refine xM ?_ | refine xT ?_ | refine xF ?_ | ((first | refine xR ?_ | refine xW ?_ | refine vq_id ?_); simp only [go_sem, Nat.reduceAdd, Nat.reduceLeDiff, Nat.reduceSub, Int.reduceToNat, reduceCtorEq]) | (refine ⟨by first | omega | (intros; simp_all; done) | (intros; simp_all; omega), ?_⟩; try simp only [go_sem, Nat.reduceAdd, Nat.reduceLeDiff, Nat.reduceSub, Int.reduceToNat, reduceCtorEq]))
    refine AE.ret0 rfl ⟨rfl, rfl, rfl, trivial⟩ rfl ⟨rfl, ?_⟩
    rw [feedR, if_pos h]
    rfl
  have h : ¬ e ≠ 0 := by simpa using hc
  rw [if_neg h] at hf
  repeat (first | refine xA ?_ | refine xB ?_ | refine xC ?_ | refine xE ?_ | refine xD ?_ | refine xK ?_ | refine xS ?_ | refine xM ?_ | refine xT ?_ | refine xF ?_ | ((first | refine xR ?_ | refine xW ?_ | refine vq_id ?_); simp only [go_sem, Nat.reduceAdd, Nat.reduceLeDiff, Nat.reduceSub, Int.reduceToNat, reduceCtorEq]) | (refine ⟨by first | omega | (intros; simp_all; done) | (intros; simp_all; omega), ?_⟩; try simp only [go_sem, Nat.reduceAdd, Nat.reduceLeDiff, Nat.reduceSub, Int.reduceToNat, reduceCtorEq]))
  refine AP.cond rfl rfl (fun hc2 => ?_) (fun hc2 => ?_)
  · have h0 : n = 0 := by simp at hc2; omega
    subst h0
    rw [dif_pos (.inl rfl)] at hf
    rw [← hf]
    have hta : (msgR acc).take acc.length = msgR acc := List.take_of_length_le (by rw [msgR_len]; exact Nat.le_refl _)
    repeat (first | refine xA ?_ | refine xB ?_ | refine xC ?_ | refine xE ?_ | refine xD ?_ | refine xK ?_ | refine xS ?_ | refine xM ?_ | refine xT ?_ | refine xF ?_ | ((first | refine xR ?_ | refine xW ?_ | refine vq_id ?_); simp only [go_sem, Nat.reduceAdd, Nat.reduceLeDiff, Nat.reduceSub, Int.reduceToNat, reduceCtorEq]) | (refine ⟨by first | omega | (intros; simp_all; done) | (intros; simp_all; omega), ?_⟩; try simp only [go_sem, Nat.reduceAdd, Nat.reduceLeDiff, Nat.reduceSub, Int.reduceToNat, reduceCtorEq]))
    refine AE.freeze 1 (rows := msgR acc) rfl (by simp [go_sem, msgR_len]) (by simp [go_sem, msgR_len]) ?_
    simp only [go_sem, Nat.reduceAdd, Nat.reduceLeDiff, Nat.reduceSub, Int.reduceToNat, reduceCtorEq, List.drop_zero, hta]
    refine AE.ret0 rfl ⟨rfl, rfl, rfl, trivial⟩ rfl ⟨rfl, ?_⟩
    rw [feedR, if_neg (by simp)]
    rfl
  have h0 : 13 ≤ n ∧ n ≤ rest.length := by simp at hc2; omega
  rw [dif_neg (by simp only [Int.toNat_natCast]; omega), Int.toNat_natCast] at hf
  repeat (first | refine xA ?_ | refine xB ?_ | refine xC ?_ | refine xE ?_ | refine xD ?_ | refine xK ?_ | refine xS ?_ | refine xM ?_ | refine xT ?_ | refine xF ?_ | ((first | refine xR ?_ | refine xW ?_ | refine vq_id ?_); simp only [go_sem, Nat.reduceAdd, Nat.reduceLeDiff, Nat.reduceSub, Int.reduceToNat, reduceCtorEq]) | (refine ⟨by first | omega | (intros; simp_all; done) | (intros; simp_all; omega), ?_⟩; try simp only [go_sem, Nat.reduceAdd, Nat.reduceLeDiff, Nat.reduceSub, Int.reduceToNat, reduceCtorEq]))
  refine AQ.append (hnb := rfl) (rows := msgR acc) (es := 2) (by kernel_rfl) rfl rfl rfl (by rfl) Tryd.tk40 Tryd.sz30 (by show Option.map _ (zro Tryd.prog 30) = _; rw [Tryd.zr30]; rfl) Tryd.by30 (by rw [msgR_len]) (by rw [msgR_len]; simp only [List.length_cons, List.length_nil]; omega) (by rw [msgR_len]; simp only [List.length_cons, List.length_nil]; omega) ?_
  repeat (first | refine xA ?_ | refine xB ?_ | refine xC ?_ | refine xE ?_ | refine xD ?_ | refine xK ?_ | refine xS ?_ | refine xM ?_ | refine xT ?_ | refine xF ?_ | ((first | refine xR ?_ | refine xW ?_ | refine vq_id ?_); simp only [go_sem, Nat.reduceAdd, Nat.reduceLeDiff, Nat.reduceSub, Int.reduceToNat, reduceCtorEq, msgR_len, List.length_cons, List.length_nil, byteR_drop, Int.toNat_natCast, byteR_len]) | (refine ⟨by first | omega | (intros; simp_all; done) | (intros; simp_all; omega), ?_⟩; try simp only [go_sem, Nat.reduceAdd, Nat.reduceLeDiff, Nat.reduceSub, Int.reduceToNat, reduceCtorEq, msgR_len, List.length_cons, List.length_nil, byteR_drop, Int.toNat_natCast, byteR_len]))
  refine AE.forgets [2] rfl ?_
  simp only [go_sem, Nat.reduceAdd, Nat.reduceLeDiff, Nat.reduceSub, Int.reduceToNat, reduceCtorEq, byteR_drop, Int.toNat_natCast, byteR_len]
  refine AE.round (rest.drop n, acc ++ [(k, N, t)]) ⟨hf, ?_⟩ ?_ ?_ ?_
  · simp only [List.length_append, List.length_drop, List.length_cons, List.length_nil]; omega
  · simp only [List.length_drop]; omega
  · simp only [List.length_append, List.length_cons, List.length_nil]; exact (by repeat (first | exact Sub.nil _ | refine Sub.cons rfl ?_))
  · rw [← msgR_snoc]
end Go.Proofs.YtlpcdpjkdodmcaaDoor
end

section
namespace Go.Proofs.YtlpcdpjkdodmcaaDoor
open Go Go.AL Go.RowKit
set_option maxRecDepth 10000
set_option maxHeartbeats 4000000
theorem beq_spec (a b : List UInt8) : PFn Tryd.prog 14 [.im (.sl 1 (byteR a)), .im (.sl 1 (byteR b))] (Bv (a == b)) := by
  have ha := byteR_bytes a
  have hb := byteR_bytes b
  refine ACall.walk [0, 1, 4] [] Tryd.func14 rfl Tryd.ntmps14 (by kernel_rfl) (by rfl) rfl fun W own I0 φ0 lay => ?_
  repeat (first | refine xA ?_ | refine xB ?_ | refine xC ?_ | refine xE ?_ | refine xD ?_ | refine xK ?_ | refine xS ?_ | refine xM ?_ | refine xT ?_ | refine xF ?_ | ((first | refine xR ?_ | refine xW ?_ | refine vq_id ?_); simp only [go_sem, Nat.reduceAdd, Nat.reduceLeDiff, Nat.reduceSub, Int.reduceToNat, reduceCtorEq, Tryd.underlying24, Option.isSome_some, byteR_back]))
  refine ⟨ha, hb, ?_⟩
  repeat (first | refine xA ?_ | refine xB ?_ | refine xC ?_ | refine xE ?_ | refine xD ?_ | refine xK ?_ | refine xS ?_ | refine xM ?_ | refine xT ?_ | refine xF ?_ | ((first | refine xR ?_ | refine xW ?_ | refine vq_id ?_); simp only [go_sem, Nat.reduceAdd, Nat.reduceLeDiff, Nat.reduceSub, Int.reduceToNat, reduceCtorEq]) | (refine ⟨by first | omega | (intros; simp_all; done) | (intros; simp_all; omega), ?_⟩; try simp only [go_sem, Nat.reduceAdd, Nat.reduceLeDiff, Nat.reduceSub, Int.reduceToNat, reduceCtorEq]))
  exact AE.ret0 rfl ⟨rfl, trivial⟩ rfl ⟨rfl, rfl⟩
theorem beq_nil : PFn Tryd.prog 14 [nilS, nilS] (Bv true) := by
  refine ACall.walk [0, 1, 4] [] Tryd.func14 rfl Tryd.ntmps14 (by kernel_rfl) (by rfl) rfl fun W own I0 φ0 lay => ?_
  repeat (first | refine xA ?_ | refine xB ?_ | refine xC ?_ | refine xE ?_ | refine xD ?_ | refine xK ?_ | refine xS ?_ | refine xM ?_ | refine xT ?_ | refine xF ?_ | ((first | refine xR ?_ | refine xW ?_ | refine vq_id ?_); simp only [go_sem, Nat.reduceAdd, Nat.reduceLeDiff, Nat.reduceSub, Int.reduceToNat, reduceCtorEq, Tryd.underlying24, Option.isSome_some]) | (refine ⟨by first | omega | (intros; simp_all; done) | (intros; simp_all; omega), ?_⟩; try simp only [go_sem, Nat.reduceAdd, Nat.reduceLeDiff, Nat.reduceSub, Int.reduceToNat, reduceCtorEq, Tryd.underlying24, Option.isSome_some]))
  exact AE.ret0 rfl ⟨rfl, trivial⟩ rfl ⟨rfl, rfl⟩
theorem msgR_get (l : List Msg) (k : Nat) (h : k < l.length) : ∃ m, l[k]? = some m ∧ (msgR l).getD k [] = [Ii m.1, Ii m.2.1, Si m.2.2] := by
  refine ⟨l[k], List.getElem?_eq_getElem h, ?_⟩
  rw [List.getD_eq_getElem?_getD, msgR, List.getElem?_map, List.getElem?_eq_getElem h]; rfl
theorem meq_spec (l : List Msg) (hl : l.length ≤ 1000000000) : PFn Tryd.prog 15 [.im (.sl 3 (msgR l)), .im (.sl 3 (msgR l))] (Bv true) := by
  refine ACall.walk [0, 1, 4, 5, 10, 12, 13, 14, 24] [] Tryd.func15 rfl Tryd.ntmps15 (by kernel_rfl) (by rfl) rfl fun W own I0 φ0 lay => ?_
  repeat (first | refine xA ?_ | refine xB ?_ | refine xC ?_ | refine xE ?_ | refine xD ?_ | refine xK ?_ | refine xS ?_ | refine xM ?_ | refine xT ?_ | refine xF ?_ | ((first | refine xR ?_ | refine xW ?_ | refine vq_id ?_); simp only [go_sem, Nat.reduceAdd, Nat.reduceLeDiff, Nat.reduceSub, Int.reduceToNat, reduceCtorEq, msgR_len, bne_self_eq_false]) | (refine ⟨by first | omega | (intros; simp_all; done) | (intros; simp_all; omega), ?_⟩; try simp only [go_sem, Nat.reduceAdd, Nat.reduceLeDiff, Nat.reduceSub, Int.reduceToNat, reduceCtorEq, msgR_len, bne_self_eq_false]))
  refine AP.loop rfl (α := Nat) (fun k => [(0, .im (.sl 3 (msgR l))), (1, .im (.sl 3 (msgR l))), (12, Iv l.length), (13, Iv k)]) (fun k => []) (fun k => k ≤ l.length) (fun k => l.length - k) 0 (by simp) (by repeat (first | exact Sub.nil _ | refine Sub.cons rfl ?_)) rfl fun k hk => ?_
  have hw := wr (x := (k : Int) + 1) (by omega)
  repeat (first | refine xA ?_ | refine xB ?_ | refine xC ?_ | refine xE ?_ | refine xD ?_ | refine xK ?_ | refine xS ?_ | refine xM ?_ | refine xT ?_ | refine xF ?_ | ((first | refine xR ?_ | refine xW ?_ | refine vq_id ?_); simp only [go_sem, Nat.reduceAdd, Nat.reduceLeDiff, Nat.reduceSub, Int.reduceToNat, reduceCtorEq]) | (refine ⟨by first | omega | (intros; simp_all; done) | (intros; simp_all; omega), ?_⟩; try simp only [go_sem, Nat.reduceAdd, Nat.reduceLeDiff, Nat.reduceSub, Int.reduceToNat, reduceCtorEq]))
  refine AP.cond rfl rfl (fun hc => ?_) (fun hc => ?_)
  · have hk' : k < l.length := by simp at hc; omega
    obtain ⟨⟨a, b, t⟩, hm, hg⟩ := msgR_get l k hk'
    repeat (first | refine xA ?_ | refine xB ?_ | refine xC ?_ | refine xE ?_ | refine xD ?_ | refine xK ?_ | refine xS ?_ | refine xM ?_ | refine xT ?_ | refine xF ?_ | ((first | refine xR ?_ | refine xW ?_ | refine vq_id ?_); simp only [go_sem, Nat.reduceAdd, Nat.reduceLeDiff, Nat.reduceSub, Int.reduceToNat, reduceCtorEq, msgR_len, hg, hw, Int.toNat_natCast, List.map_cons, List.map_nil, List.length_cons, List.length_nil, List.take_succ_cons, List.take_zero, List.drop_zero, beq_self_eq_true, Bool.and_self, Bool.not_true]) | (refine ⟨by first | omega | (intros; simp_all; done) | (intros; simp_all; omega), ?_⟩; try simp only [go_sem, Nat.reduceAdd, Nat.reduceLeDiff, Nat.reduceSub, Int.reduceToNat, reduceCtorEq, msgR_len, hg, hw, Int.toNat_natCast, List.map_cons, List.map_nil, List.length_cons, List.length_nil, List.take_succ_cons, List.take_zero, List.drop_zero, beq_self_eq_true, Bool.and_self, Bool.not_true]))
    exact AE.round (k + 1) (by omega) (by omega) (by repeat (first | exact Sub.nil _ | refine Sub.cons rfl ?_)) rfl
  · repeat (first | refine xA ?_ | refine xB ?_ | refine xC ?_ | refine xE ?_ | refine xD ?_ | refine xK ?_ | refine xS ?_ | refine xM ?_ | refine xT ?_ | refine xF ?_ | ((first | refine xR ?_ | refine xW ?_ | refine vq_id ?_); simp only [go_sem, Nat.reduceAdd, Nat.reduceLeDiff, Nat.reduceSub, Int.reduceToNat, reduceCtorEq]) | (refine ⟨by first | omega | (intros; simp_all; done) | (intros; simp_all; omega), ?_⟩; try simp only [go_sem, Nat.reduceAdd, Nat.reduceLeDiff, Nat.reduceSub, Int.reduceToNat, reduceCtorEq]))
    exact AE.ret0 rfl ⟨rfl, trivial⟩ rfl ⟨rfl, rfl⟩
theorem meq_nil : PFn Tryd.prog 15 [.im (.sl 3 (msgR [])), nilS] (Bv true) := by
  refine ACall.walk [0, 1, 4, 5, 10, 12, 13, 14, 24] [] Tryd.func15 rfl Tryd.ntmps15 (by kernel_rfl) (by rfl) rfl fun W own I0 φ0 lay => ?_
  repeat (first | refine xA ?_ | refine xB ?_ | refine xC ?_ | refine xE ?_ | refine xD ?_ | refine xK ?_ | refine xS ?_ | refine xM ?_ | refine xT ?_ | refine xF ?_ | ((first | refine xR ?_ | refine xW ?_ | refine vq_id ?_); simp only [go_sem, Nat.reduceAdd, Nat.reduceLeDiff, Nat.reduceSub, Int.reduceToNat, reduceCtorEq, msgR_len, List.length_nil, bne_self_eq_false, msgR, List.map_nil]) | (refine ⟨by first | omega | (intros; simp_all; done) | (intros; simp_all; omega), ?_⟩; try simp only [go_sem, Nat.reduceAdd, Nat.reduceLeDiff, Nat.reduceSub, Int.reduceToNat, reduceCtorEq, msgR_len, List.length_nil, bne_self_eq_false, msgR, List.map_nil]))
  refine AP.loop rfl (α := Unit) (fun k => [(12, Iv 0), (13, Iv 0)]) (fun k => []) (fun k => True) (fun k => 0) () trivial (by repeat (first | exact Sub.nil _ | refine Sub.cons rfl ?_)) rfl fun _ _ => ?_
  repeat (first | refine xA ?_ | refine xB ?_ | refine xC ?_ | refine xE ?_ | refine xD ?_ | refine xK ?_ | refine xS ?_ | refine xM ?_ | refine xT ?_ | refine xF ?_ | ((first | refine xR ?_ | refine xW ?_ | refine vq_id ?_); simp only [go_sem, Nat.reduceAdd, Nat.reduceLeDiff, Nat.reduceSub, Int.reduceToNat, reduceCtorEq]) | (refine ⟨by first | omega | (intros; simp_all; done) | (intros; simp_all; omega), ?_⟩; try simp only [go_sem, Nat.reduceAdd, Nat.reduceLeDiff, Nat.reduceSub, Int.reduceToNat, reduceCtorEq]))
  exact AE.ret0 rfl ⟨rfl, trivial⟩ rfl ⟨rfl, rfl⟩
theorem msgs_spec (l : List Msg) (hl : l.length ≤ 1000000000) : PFn Tryd.prog 16 [.im (.sl 3 (msgR l))] (.im (.sl 3 (msgR l))) := by
  refine ACall.walk [0, 2, 3, 5, 6, 7, 8, 9] [5] Tryd.func16 rfl Tryd.ntmps16 (by kernel_rfl) (by rfl) rfl fun W own I0 φ0 lay => ?_
  repeat (first | refine xA ?_ | refine xB ?_ | refine xC ?_ | refine xE ?_ | refine xD ?_ | refine xK ?_ | refine xS ?_ | refine xM ?_ | refine xT ?_ | refine xF ?_ | ((first | refine xR ?_ | refine xW ?_ | refine vq_id ?_); simp only [go_sem, Nat.reduceAdd, Nat.reduceLeDiff, Nat.reduceSub, Int.reduceToNat, reduceCtorEq, msgR_len]) | (refine ⟨by first | omega | (intros; simp_all; done) | (intros; simp_all; omega), ?_⟩; try simp only [go_sem, Nat.reduceAdd, Nat.reduceLeDiff, Nat.reduceSub, Int.reduceToNat, reduceCtorEq, msgR_len]))
  refine AP.own 3 30 3 rfl ?_
  simp only [go_sem, Nat.reduceAdd, Nat.reduceLeDiff, Nat.reduceSub, Int.reduceToNat, reduceCtorEq, msgR_len]
  refine AP.loop rfl (α := Nat) (fun k => [(3, .os 0 3 0 k), (6, .im (.sl 3 (msgR l))), (7, Iv l.length), (8, Iv k)]) (fun k => [(0, .vec 30 3 (msgR (l.take k)))]) (fun k => k ≤ l.length) (fun k => l.length - k) 0 (by simp) (by repeat (first | exact Sub.nil _ | refine Sub.cons rfl ?_)) rfl fun k hk => ?_
  have hw := wr (x := (k : Int) + 1) (by omega)
  repeat (first | refine xA ?_ | refine xB ?_ | refine xC ?_ | refine xE ?_ | refine xD ?_ | refine xK ?_ | refine xS ?_ | refine xM ?_ | refine xT ?_ | refine xF ?_ | ((first | refine xR ?_ | refine xW ?_ | refine vq_id ?_); simp only [go_sem, Nat.reduceAdd, Nat.reduceLeDiff, Nat.reduceSub, Int.reduceToNat, reduceCtorEq]) | (refine ⟨by first | omega | (intros; simp_all; done) | (intros; simp_all; omega), ?_⟩; try simp only [go_sem, Nat.reduceAdd, Nat.reduceLeDiff, Nat.reduceSub, Int.reduceToNat, reduceCtorEq]))
  refine AP.cond rfl rfl (fun hc => ?_) (fun hc => ?_)
  · have hk' : k < l.length := by simp at hc; omega
    obtain ⟨⟨a, b, t⟩, hm, hg⟩ := msgR_get l k hk'
    have htl : (msgR (l.take k)).length = k := by rw [msgR_len, List.length_take]; omega
    repeat (first | refine xA ?_ | refine xB ?_ | refine xC ?_ | refine xE ?_ | refine xD ?_ | refine xK ?_ | refine xS ?_ | refine xM ?_ | refine xT ?_ | refine xF ?_ | ((first | refine xR ?_ | refine xW ?_ | refine vq_id ?_); simp only [go_sem, Nat.reduceAdd, Nat.reduceLeDiff, Nat.reduceSub, Int.reduceToNat, reduceCtorEq, msgR_len, hg, hw, Int.toNat_natCast, List.map_cons, List.map_nil, List.length_cons, List.length_nil, List.take_succ_cons, List.take_zero, List.drop_zero]) | (refine ⟨by first | omega | (intros; simp_all; done) | (intros; simp_all; omega), ?_⟩; try simp only [go_sem, Nat.reduceAdd, Nat.reduceLeDiff, Nat.reduceSub, Int.reduceToNat, reduceCtorEq, msgR_len, hg, hw, Int.toNat_natCast, List.map_cons, List.map_nil, List.length_cons, List.length_nil, List.take_succ_cons, List.take_zero, List.drop_zero]))
    refine AQ.append (hnb := rfl) (rows := msgR (l.take k)) (es := 2) (by kernel_rfl) rfl rfl rfl (by rfl) Tryd.tk40 Tryd.sz30 (by show Option.map _ (zro Tryd.prog 30) = _; rw [Tryd.zr30]; rfl) Tryd.by30 htl.symm (by rw [htl]; simp only [List.length_cons, List.length_nil]; omega) (by rw [htl]; simp only [List.length_cons, List.length_nil]; omega) ?_
    repeat (first | refine xA ?_ | refine xB ?_ | refine xC ?_ | refine xE ?_ | refine xD ?_ | refine xK ?_ | refine xS ?_ | refine xM ?_ | refine xT ?_ | refine xF ?_ | ((first | refine xR ?_ | refine xW ?_ | refine vq_id ?_); simp only [go_sem, Nat.reduceAdd, Nat.reduceLeDiff, Nat.reduceSub, Int.reduceToNat, reduceCtorEq, hw, htl, List.length_cons, List.length_nil]) | (refine ⟨by first | omega | (intros; simp_all; done) | (intros; simp_all; omega), ?_⟩; try simp only [go_sem, Nat.reduceAdd, Nat.reduceLeDiff, Nat.reduceSub, Int.reduceToNat, reduceCtorEq, hw, htl, List.length_cons, List.length_nil]))
    refine AE.forgets [1] rfl ?_
    simp only [go_sem, Nat.reduceAdd, Nat.reduceLeDiff, Nat.reduceSub, Int.reduceToNat, reduceCtorEq]
    refine AE.round (k + 1) (by omega) (by omega) (by repeat (first | exact Sub.nil _ | refine Sub.cons rfl ?_)) ?_
    rw [List.take_add_one, hm, Option.toList_some, ← msgR_snoc]
  · have hk' : k = l.length := by simp at hc; omega
    have hta : (msgR l).take l.length = msgR l := List.take_of_length_le (by rw [msgR_len]; exact Nat.le_refl _)
    rw [hk', List.take_length]
    repeat (first | refine xA ?_ | refine xB ?_ | refine xC ?_ | refine xE ?_ | refine xD ?_ | refine xK ?_ | refine xS ?_ | refine xM ?_ | refine xT ?_ | refine xF ?_ | ((first | refine xR ?_ | refine xW ?_ | refine vq_id ?_); simp only [go_sem, Nat.reduceAdd, Nat.reduceLeDiff, Nat.reduceSub, Int.reduceToNat, reduceCtorEq]) | (refine ⟨by first | omega | (intros; simp_all; done) | (intros; simp_all; omega), ?_⟩; try simp only [go_sem, Nat.reduceAdd, Nat.reduceLeDiff, Nat.reduceSub, Int.reduceToNat, reduceCtorEq]))
    refine AE.freeze 0 (rows := msgR l) rfl (by simp [go_sem, msgR_len]) (by simp [go_sem, msgR_len]) ?_
    simp only [go_sem, Nat.reduceAdd, Nat.reduceLeDiff, Nat.reduceSub, Int.reduceToNat, reduceCtorEq, List.drop_zero, hta]
    exact AE.ret0 rfl ⟨rfl, trivial⟩ rfl ⟨rfl, rfl⟩
theorem msgs_nil : PFn Tryd.prog 16 [nilS] (.im (.sl 3 (msgR []))) := by
  refine ACall.walk [0, 2, 3, 5, 6, 7, 8, 9] [5] Tryd.func16 rfl Tryd.ntmps16 (by kernel_rfl) (by rfl) rfl fun W own I0 φ0 lay => ?_
  repeat (first | refine xA ?_ | refine xB ?_ | refine xC ?_ | refine xE ?_ | refine xD ?_ | refine xK ?_ | refine xS ?_ | refine xM ?_ | refine xT ?_ | refine xF ?_ | ((first | refine xR ?_ | refine xW ?_ | refine vq_id ?_); simp only [go_sem, Nat.reduceAdd, Nat.reduceLeDiff, Nat.reduceSub, Int.reduceToNat, reduceCtorEq]) | (refine ⟨by first | omega | (intros; simp_all; done) | (intros; simp_all; omega), ?_⟩; try simp only [go_sem, Nat.reduceAdd, Nat.reduceLeDiff, Nat.reduceSub, Int.reduceToNat, reduceCtorEq]))
  refine AP.own 3 30 3 rfl ?_
  simp only [go_sem, Nat.reduceAdd, Nat.reduceLeDiff, Nat.reduceSub, Int.reduceToNat, reduceCtorEq]
  refine AP.loop rfl (α := Unit) (fun k => [(3, .os 0 3 0 0), (7, Iv 0), (8, Iv 0)]) (fun k => [(0, .vec 30 3 [])]) (fun k => True) (fun k => 0) () trivial (by repeat (first | exact Sub.nil _ | refine Sub.cons rfl ?_)) rfl fun _ _ => ?_
  repeat (first | refine xA ?_ | refine xB ?_ | refine xC ?_ | refine xE ?_ | refine xD ?_ | refine xK ?_ | refine xS ?_ | refine xM ?_ | refine xT ?_ | refine xF ?_ | ((first | refine xR ?_ | refine xW ?_ | refine vq_id ?_); simp only [go_sem, Nat.reduceAdd, Nat.reduceLeDiff, Nat.reduceSub, Int.reduceToNat, reduceCtorEq]) | (refine ⟨by first | omega | (intros; simp_all; done) | (intros; simp_all; omega), ?_⟩; try simp only [go_sem, Nat.reduceAdd, Nat.reduceLeDiff, Nat.reduceSub, Int.reduceToNat, reduceCtorEq]))
  refine AE.freeze 0 (rows := []) rfl (by simp [go_sem]) (by simp [go_sem]) ?_
  simp only [go_sem, Nat.reduceAdd, Nat.reduceLeDiff, Nat.reduceSub, Int.reduceToNat, reduceCtorEq]
  exact AE.ret0 rfl ⟨rfl, trivial⟩ rfl ⟨rfl, rfl⟩
theorem awake_spec : PFn Tryd.prog 7 [] (Bv true) := by
  have he := encode_spec 6 1 []
  have e1 : encV 6 1 [] = .tup [.im (.sl 1 (byteR [0, 0, 0, 9, 6, 0, 0, 0, 1, 0, 36, 0, 8])), Iv 0] := by
    have h1 : msgE 6 1 [] = 0 := by decide
    have h2 : frame 6 1 [] = [0, 0, 0, 9, 6, 0, 0, 0, 1, 0, 36, 0, 8] := by decide
    unfold encV
    rw [if_pos h1]
    show AV.tup [.im (.sl 1 (byteR (frame 6 1 []))), Iv 0] = _
    rw [h2]
  rw [e1] at he
  have hb := beq_spec [0, 0, 0, 9, 6, 0, 0, 0, 1, 0, 36, 0, 8] [0, 0, 0, 9, 6, 0, 0, 0, 1, 0, 36, 0, 8]
  rw [beq_self_eq_true] at hb
  refine ACall.walk [0, 1, 2] [] Tryd.func7 rfl Tryd.ntmps7 (by kernel_rfl) (by rfl) rfl fun W own I0 φ0 lay => ?_
  repeat (first | refine xA ?_ | refine xB ?_ | refine xC ?_ | refine xE ?_ | refine xD ?_ | refine xK ?_ | refine xS ?_ | refine xM ?_ | refine xT ?_ | refine xF ?_ | ((first | refine xR ?_ | refine xW ?_ | refine vq_id ?_); simp only [go_sem, Nat.reduceAdd, Nat.reduceLeDiff, Nat.reduceSub, Int.reduceToNat, reduceCtorEq]) | (refine ⟨by first | omega | (intros; simp_all; done) | (intros; simp_all; omega), ?_⟩; try simp only [go_sem, Nat.reduceAdd, Nat.reduceLeDiff, Nat.reduceSub, Int.reduceToNat, reduceCtorEq]))
  refine AQ.fn (by kernel_rfl) rfl rfl rfl (he) rfl ?_
  repeat (first | refine xA ?_ | refine xB ?_ | refine xC ?_ | refine xE ?_ | refine xD ?_ | refine xK ?_ | refine xS ?_ | refine xM ?_ | refine xT ?_ | refine xF ?_ | ((first | refine xR ?_ | refine xW ?_ | refine vq_id ?_); simp only [go_sem, Nat.reduceAdd, Nat.reduceLeDiff, Nat.reduceSub, Int.reduceToNat, reduceCtorEq, beq_self_eq_true]) | (refine ⟨by first | omega | (intros; simp_all; done) | (intros; simp_all; omega), ?_⟩; try simp only [go_sem, Nat.reduceAdd, Nat.reduceLeDiff, Nat.reduceSub, Int.reduceToNat, reduceCtorEq, beq_self_eq_true]))
  refine AQ.guard_yes (by simp only [go_sem]) ?_
  refine AQ.go (by kernel_rfl) ?_
  simp only [go_sem, Nat.reduceAdd, Nat.reduceLeDiff, Nat.reduceSub, Int.reduceToNat, reduceCtorEq]
  refine AQ.fn_g (by kernel_rfl) rfl rfl (fun h => by first | (simp [gs, AV.g]; done) | (simp [gs, AV.g, constAV]; done) | (simp [gs, AV.g, constAV, bw] at h ⊢; done) | (simp [gs, AV.g, constAV, bw] at h ⊢; exact h) | (simp [gs, AV.g, constAV, bw] at h ⊢; simp [h]; done) | (simp [bw] at h; done) | (simp [gs, AV.g, bw] at h ⊢; simp [h]; done) | (simp [gs, AV.g, bw] at h ⊢; exact h.1) | (simp [gs, AV.g]; rfl) | (simp [gs, AV.g, bw] at h ⊢; rfl) | (simp [gs, AV.g, bw] at h ⊢; simp [h]; rfl) | (simp [gs, AV.g, bw] at h ⊢; simp_all)) rfl (fun _ => hb) rfl ?_
  repeat (first | refine xA ?_ | refine xB ?_ | refine xC ?_ | refine xE ?_ | refine xD ?_ | refine xK ?_ | refine xS ?_ | refine xM ?_ | refine xT ?_ | refine xF ?_ | ((first | refine xR ?_ | refine xW ?_ | refine vq_id ?_); simp only [go_sem, Nat.reduceAdd, Nat.reduceLeDiff, Nat.reduceSub, Int.reduceToNat, reduceCtorEq]) | (refine ⟨by first | omega | (intros; simp_all; done) | (intros; simp_all; omega), ?_⟩; try simp only [go_sem, Nat.reduceAdd, Nat.reduceLeDiff, Nat.reduceSub, Int.reduceToNat, reduceCtorEq]))
  exact AE.ret0 rfl ⟨rfl, trivial⟩ rfl ⟨rfl, rfl⟩
theorem feed_len : ∀ (n : Nat) (rest : List UInt8) (acc : List Msg), rest.length ≤ n → (feed rest acc).2.1.length ≤ acc.length + rest.length
  | n, rest, acc, hn => by
    rw [feed]
    split
    · simp
    · split
      · exact Nat.le_add_right _ _
      · rename_i h
        obtain ⟨k, hk, hk2⟩ := dec_n rest
        rw [hk, Int.toNat_natCast] at h ⊢
        match n, hn with
        | 0, hn => omega
        | n + 1, hn =>
          have := feed_len n (rest.drop k) (acc ++ [(decV rest).1]) (by rw [List.length_drop]; omega)
          rw [List.length_append, List.length_singleton, List.length_drop] at this
          omega
theorem frames_walk (k n : Int) (t : List UInt8) (a b : List UInt8) : PFn Tryd.prog 3 [.ar [Ii k, Ii n, Si t], .im (.sl 1 (byteR a)), .im (.sl 1 (byteR b))] (Bv true) := by
  have hhead : (decide (1500 < (a.length : Int)) || decide (1500 < (b.length : Int))) = decide (1500 < a.length ∨ 1500 < b.length) := by
    rw [Bool.eq_iff_iff]
    simp only [Bool.or_eq_true, decide_eq_true_eq]
    omega
  refine ACall.walk [0, 1, 2, 3, 6, 7, 8, 9, 10, 11, 12, 13, 14, 15, 16, 17, 18, 19, 20, 21, 22, 30] [11, 14, 17] Tryd.func3 rfl Tryd.ntmps3 (by kernel_rfl) (by rfl) rfl fun W own I0 φ0 lay => ?_
  repeat (first | refine xA ?_ | refine xB ?_ | refine xC ?_ | refine xE ?_ | refine xD ?_ | refine xK ?_ | refine xS ?_ | refine xM ?_ | refine xT ?_ | refine xF ?_ | ((first | refine xR ?_ | refine xW ?_ | refine vq_id ?_); simp only [go_sem, Nat.reduceAdd, Nat.reduceLeDiff, Nat.reduceSub, Int.reduceToNat, reduceCtorEq, byteR_len, hhead]) | (refine ⟨by first | omega | (intros; simp_all; done) | (intros; simp_all; omega), ?_⟩; try simp only [go_sem, Nat.reduceAdd, Nat.reduceLeDiff, Nat.reduceSub, Int.reduceToNat, reduceCtorEq, byteR_len, hhead]))
  refine AP.cond rfl rfl (fun hc => ?_) (fun hc => ?_)
  · repeat (first | refine xA ?_ | refine xB ?_ | refine xC ?_ | refine xE ?_ | refine xD ?_ | refine xK ?_ | refine xS ?_ | refine xM ?_ | refine xT ?_ | refine xF ?_ | ((first | refine xR ?_ | refine xW ?_ | refine vq_id ?_); simp only [go_sem, Nat.reduceAdd, Nat.reduceLeDiff, Nat.reduceSub, Int.reduceToNat, reduceCtorEq]) | (refine ⟨by first | omega | (intros; simp_all; done) | (intros; simp_all; omega), ?_⟩; try simp only [go_sem, Nat.reduceAdd, Nat.reduceLeDiff, Nat.reduceSub, Int.reduceToNat, reduceCtorEq]))
    refine AQ.fn (by kernel_rfl) rfl rfl rfl (awake_spec) rfl ?_
    repeat (first | refine xA ?_ | refine xB ?_ | refine xC ?_ | refine xE ?_ | refine xD ?_ | refine xK ?_ | refine xS ?_ | refine xM ?_ | refine xT ?_ | refine xF ?_ | ((first | refine xR ?_ | refine xW ?_ | refine vq_id ?_); simp only [go_sem, Nat.reduceAdd, Nat.reduceLeDiff, Nat.reduceSub, Int.reduceToNat, reduceCtorEq]) | (refine ⟨by first | omega | (intros; simp_all; done) | (intros; simp_all; omega), ?_⟩; try simp only [go_sem, Nat.reduceAdd, Nat.reduceLeDiff, Nat.reduceSub, Int.reduceToNat, reduceCtorEq]))
    exact AE.ret0 rfl ⟨rfl, trivial⟩ rfl ⟨rfl, rfl⟩
  have hab : a.length ≤ 1500 ∧ b.length ≤ 1500 := by simp at hc; omega
  have h1 := encode_spec k n t
  have h2 := encode_ref k n t
  have h3 := decode_spec b (by omega)
  have h4 := decode_ref b (by omega)
  have h5 := feed_spec a b (by omega)
  have h6 := feed_ref a b (by omega)
  have hfl := feed_len _ (a ++ b) [] (Nat.le_refl _)
  rw [List.length_append, List.length_nil] at hfl
  obtain ⟨⟨⟨dk, dn, dt⟩, dc, de⟩, hdv⟩ : ∃ d, decV b = d := ⟨_, rfl⟩
  obtain ⟨⟨fr, fl, fe⟩, hf⟩ : ∃ d, feed (a ++ b) [] = d := ⟨_, rfl⟩
  rw [hdv] at h3 h4
  rw [hf] at h5 h6 hfl
  simp only at hfl
  have hm1 := msgs_spec fl (by omega)
  have hm2 := meq_spec fl (by omega)
  have hb0 := beq_spec fr fr
  rw [beq_self_eq_true] at hb0
  have hE : (∃ x, encV k n t = .tup [.im (.sl 1 (byteR x)), Iv 0]) ∨ ∃ e, encV k n t = .tup [nilS, Iv e] := by
    unfold encV
    split
    · exact .inl ⟨_, rfl⟩
    · exact .inr ⟨_, rfl⟩
  have hF : (feedA (fr, fl, fe) = .tup [.agg [.im (.sl 1 (byteR fr))], .im (.sl 3 (msgR fl)), Iv 0] ∧ feedR (fr, fl, fe) = .tup [.im (.sl 1 (byteR fr)), .im (.sl 3 (msgR fl)), Iv 0]) ∨ (feedA (fr, fl, fe) = .tup [.agg [nilS], nilS, Iv fe] ∧ feedR (fr, fl, fe) = .tup [nilS, nilS, Iv fe]) := by
    unfold feedA feedR
    split
    · exact .inr ⟨rfl, rfl⟩
    · exact .inl ⟨rfl, rfl⟩
  rcases hE with ⟨x, hE⟩ | ⟨e, hE⟩
  · have hbx := beq_spec x x
    rw [beq_self_eq_true] at hbx
    rw [hE] at h1 h2
    rcases hF with ⟨hF1, hF2⟩ | ⟨hF1, hF2⟩
    · rw [hF1] at h5
      rw [hF2] at h6
      repeat (first | refine xA ?_ | refine xB ?_ | refine xC ?_ | refine xE ?_ | refine xD ?_ | refine xK ?_ | refine xS ?_ | refine xM ?_ | refine xT ?_ | refine xF ?_ | ((first | refine xR ?_ | refine xW ?_ | refine vq_id ?_); simp only [go_sem, Nat.reduceAdd, Nat.reduceLeDiff, Nat.reduceSub, Int.reduceToNat, reduceCtorEq]) | (refine ⟨by first | omega | (intros; simp_all; done) | (intros; simp_all; omega), ?_⟩; try simp only [go_sem, Nat.reduceAdd, Nat.reduceLeDiff, Nat.reduceSub, Int.reduceToNat, reduceCtorEq]))
      refine AQ.fn (by kernel_rfl) rfl rfl rfl (h1) rfl ?_
      repeat (first | refine xA ?_ | refine xB ?_ | refine xC ?_ | refine xE ?_ | refine xD ?_ | refine xK ?_ | refine xS ?_ | refine xM ?_ | refine xT ?_ | refine xF ?_ | ((first | refine xR ?_ | refine xW ?_ | refine vq_id ?_); simp only [go_sem, Nat.reduceAdd, Nat.reduceLeDiff, Nat.reduceSub, Int.reduceToNat, reduceCtorEq]) | (refine ⟨by first | omega | (intros; simp_all; done) | (intros; simp_all; omega), ?_⟩; try simp only [go_sem, Nat.reduceAdd, Nat.reduceLeDiff, Nat.reduceSub, Int.reduceToNat, reduceCtorEq]))
      refine AQ.fn (by kernel_rfl) rfl rfl rfl (h2) rfl ?_
      repeat (first | refine xA ?_ | refine xB ?_ | refine xC ?_ | refine xE ?_ | refine xD ?_ | refine xK ?_ | refine xS ?_ | refine xM ?_ | refine xT ?_ | refine xF ?_ | ((first | refine xR ?_ | refine xW ?_ | refine vq_id ?_); simp only [go_sem, Nat.reduceAdd, Nat.reduceLeDiff, Nat.reduceSub, Int.reduceToNat, reduceCtorEq]) | (refine ⟨by first | omega | (intros; simp_all; done) | (intros; simp_all; omega), ?_⟩; try simp only [go_sem, Nat.reduceAdd, Nat.reduceLeDiff, Nat.reduceSub, Int.reduceToNat, reduceCtorEq]))
      refine AQ.fn (by kernel_rfl) rfl rfl rfl (h3) rfl ?_
      repeat (first | refine xA ?_ | refine xB ?_ | refine xC ?_ | refine xE ?_ | refine xD ?_ | refine xK ?_ | refine xS ?_ | refine xM ?_ | refine xT ?_ | refine xF ?_ | ((first | refine xR ?_ | refine xW ?_ | refine vq_id ?_); simp only [go_sem, Nat.reduceAdd, Nat.reduceLeDiff, Nat.reduceSub, Int.reduceToNat, reduceCtorEq]) | (refine ⟨by first | omega | (intros; simp_all; done) | (intros; simp_all; omega), ?_⟩; try simp only [go_sem, Nat.reduceAdd, Nat.reduceLeDiff, Nat.reduceSub, Int.reduceToNat, reduceCtorEq]))
      refine AQ.fn (by kernel_rfl) rfl rfl rfl (h4) rfl ?_
      repeat (first | refine xA ?_ | refine xB ?_ | refine xC ?_ | refine xE ?_ | refine xD ?_ | refine xK ?_ | refine xS ?_ | refine xM ?_ | refine xT ?_ | refine xF ?_ | ((first | refine xR ?_ | refine xW ?_ | refine vq_id ?_); simp only [go_sem, Nat.reduceAdd, Nat.reduceLeDiff, Nat.reduceSub, Int.reduceToNat, reduceCtorEq]) | (refine ⟨by first | omega | (intros; simp_all; done) | (intros; simp_all; omega), ?_⟩; try simp only [go_sem, Nat.reduceAdd, Nat.reduceLeDiff, Nat.reduceSub, Int.reduceToNat, reduceCtorEq]))
      refine AQ.fn (by kernel_rfl) rfl rfl rfl (h5) rfl ?_
      repeat (first | refine xA ?_ | refine xB ?_ | refine xC ?_ | refine xE ?_ | refine xD ?_ | refine xK ?_ | refine xS ?_ | refine xM ?_ | refine xT ?_ | refine xF ?_ | ((first | refine xR ?_ | refine xW ?_ | refine vq_id ?_); simp only [go_sem, Nat.reduceAdd, Nat.reduceLeDiff, Nat.reduceSub, Int.reduceToNat, reduceCtorEq]) | (refine ⟨by first | omega | (intros; simp_all; done) | (intros; simp_all; omega), ?_⟩; try simp only [go_sem, Nat.reduceAdd, Nat.reduceLeDiff, Nat.reduceSub, Int.reduceToNat, reduceCtorEq]))
      refine AQ.fn (by kernel_rfl) rfl rfl rfl (h6) rfl ?_
      repeat (first | refine xA ?_ | refine xB ?_ | refine xC ?_ | refine xE ?_ | refine xD ?_ | refine xK ?_ | refine xS ?_ | refine xM ?_ | refine xT ?_ | refine xF ?_ | ((first | refine xR ?_ | refine xW ?_ | refine vq_id ?_); simp only [go_sem, Nat.reduceAdd, Nat.reduceLeDiff, Nat.reduceSub, Int.reduceToNat, reduceCtorEq]) | (refine ⟨by first | omega | (intros; simp_all; done) | (intros; simp_all; omega), ?_⟩; try simp only [go_sem, Nat.reduceAdd, Nat.reduceLeDiff, Nat.reduceSub, Int.reduceToNat, reduceCtorEq]))
      refine AQ.fn (by kernel_rfl) rfl rfl rfl (hbx) rfl ?_
      repeat (first | refine xA ?_ | refine xB ?_ | refine xC ?_ | refine xE ?_ | refine xD ?_ | refine xK ?_ | refine xS ?_ | refine xM ?_ | refine xT ?_ | refine xF ?_ | ((first | refine xR ?_ | refine xW ?_ | refine vq_id ?_); simp only [go_sem, Nat.reduceAdd, Nat.reduceLeDiff, Nat.reduceSub, Int.reduceToNat, reduceCtorEq, beq_self_eq_true, Bool.and_self]) | (refine ⟨by first | omega | (intros; simp_all; done) | (intros; simp_all; omega), ?_⟩; try simp only [go_sem, Nat.reduceAdd, Nat.reduceLeDiff, Nat.reduceSub, Int.reduceToNat, reduceCtorEq, beq_self_eq_true, Bool.and_self]))
      refine AQ.fn_g (by kernel_rfl) rfl rfl (fun h => by first | (simp [gs, AV.g]; done) | (simp [gs, AV.g, constAV]; done) | (simp [gs, AV.g, constAV, bw] at h ⊢; done) | (simp [gs, AV.g, constAV, bw] at h ⊢; exact h) | (simp [gs, AV.g, constAV, bw] at h ⊢; simp [h]; done) | (simp [bw] at h; done) | (simp [gs, AV.g, bw] at h ⊢; simp [h]; done) | (simp [gs, AV.g, bw] at h ⊢; exact h.1) | (simp [gs, AV.g]; rfl) | (simp [gs, AV.g, bw] at h ⊢; rfl) | (simp [gs, AV.g, bw] at h ⊢; simp [h]; rfl) | (simp [gs, AV.g, bw] at h ⊢; simp_all)) rfl (fun _ => hb0) rfl ?_
      repeat (first | refine xA ?_ | refine xB ?_ | refine xC ?_ | refine xE ?_ | refine xD ?_ | refine xK ?_ | refine xS ?_ | refine xM ?_ | refine xT ?_ | refine xF ?_ | ((first | refine xR ?_ | refine xW ?_ | refine vq_id ?_); simp only [go_sem, Nat.reduceAdd, Nat.reduceLeDiff, Nat.reduceSub, Int.reduceToNat, reduceCtorEq, beq_self_eq_true, Bool.and_self]) | (refine ⟨by first | omega | (intros; simp_all; done) | (intros; simp_all; omega), ?_⟩; try simp only [go_sem, Nat.reduceAdd, Nat.reduceLeDiff, Nat.reduceSub, Int.reduceToNat, reduceCtorEq, beq_self_eq_true, Bool.and_self]))
      refine AQ.fn_g (by kernel_rfl) rfl rfl (fun h => by first | (simp [gs, AV.g]; done) | (simp [gs, AV.g, constAV]; done) | (simp [gs, AV.g, constAV, bw] at h ⊢; done) | (simp [gs, AV.g, constAV, bw] at h ⊢; exact h) | (simp [gs, AV.g, constAV, bw] at h ⊢; simp [h]; done) | (simp [bw] at h; done) | (simp [gs, AV.g, bw] at h ⊢; simp [h]; done) | (simp [gs, AV.g, bw] at h ⊢; exact h.1) | (simp [gs, AV.g]; rfl) | (simp [gs, AV.g, bw] at h ⊢; rfl) | (simp [gs, AV.g, bw] at h ⊢; simp [h]; rfl) | (simp [gs, AV.g, bw] at h ⊢; simp_all)) rfl (fun _ => hm1) rfl ?_
      repeat (first | refine xA ?_ | refine xB ?_ | refine xC ?_ | refine xE ?_ | refine xD ?_ | refine xK ?_ | refine xS ?_ | refine xM ?_ | refine xT ?_ | refine xF ?_ | ((first | refine xR ?_ | refine xW ?_ | refine vq_id ?_); simp only [go_sem, Nat.reduceAdd, Nat.reduceLeDiff, Nat.reduceSub, Int.reduceToNat, reduceCtorEq, beq_self_eq_true, Bool.and_self]) | (refine ⟨by first | omega | (intros; simp_all; done) | (intros; simp_all; omega), ?_⟩; try simp only [go_sem, Nat.reduceAdd, Nat.reduceLeDiff, Nat.reduceSub, Int.reduceToNat, reduceCtorEq, beq_self_eq_true, Bool.and_self]))
      refine AQ.fn_g (by kernel_rfl) rfl rfl (fun h => by first | (simp [gs, AV.g]; done) | (simp [gs, AV.g, constAV]; done) | (simp [gs, AV.g, constAV, bw] at h ⊢; done) | (simp [gs, AV.g, constAV, bw] at h ⊢; exact h) | (simp [gs, AV.g, constAV, bw] at h ⊢; simp [h]; done) | (simp [bw] at h; done) | (simp [gs, AV.g, bw] at h ⊢; simp [h]; done) | (simp [gs, AV.g, bw] at h ⊢; exact h.1) | (simp [gs, AV.g]; rfl) | (simp [gs, AV.g, bw] at h ⊢; rfl) | (simp [gs, AV.g, bw] at h ⊢; simp [h]; rfl) | (simp [gs, AV.g, bw] at h ⊢; simp_all)) rfl (fun _ => hm2) rfl ?_
      repeat (first | refine xA ?_ | refine xB ?_ | refine xC ?_ | refine xE ?_ | refine xD ?_ | refine xK ?_ | refine xS ?_ | refine xM ?_ | refine xT ?_ | refine xF ?_ | ((first | refine xR ?_ | refine xW ?_ | refine vq_id ?_); simp only [go_sem, Nat.reduceAdd, Nat.reduceLeDiff, Nat.reduceSub, Int.reduceToNat, reduceCtorEq, beq_self_eq_true, Bool.and_self]) | (refine ⟨by first | omega | (intros; simp_all; done) | (intros; simp_all; omega), ?_⟩; try simp only [go_sem, Nat.reduceAdd, Nat.reduceLeDiff, Nat.reduceSub, Int.reduceToNat, reduceCtorEq, beq_self_eq_true, Bool.and_self]))
      refine AQ.fn_g (by kernel_rfl) rfl rfl (fun h => by first | (simp [gs, AV.g]; done) | (simp [gs, AV.g, constAV]; done) | (simp [gs, AV.g, constAV, bw] at h ⊢; done) | (simp [gs, AV.g, constAV, bw] at h ⊢; exact h) | (simp [gs, AV.g, constAV, bw] at h ⊢; simp [h]; done) | (simp [bw] at h; done) | (simp [gs, AV.g, bw] at h ⊢; simp [h]; done) | (simp [gs, AV.g, bw] at h ⊢; exact h.1) | (simp [gs, AV.g]; rfl) | (simp [gs, AV.g, bw] at h ⊢; rfl) | (simp [gs, AV.g, bw] at h ⊢; simp [h]; rfl) | (simp [gs, AV.g, bw] at h ⊢; simp_all)) rfl (fun _ => awake_spec) rfl ?_
      repeat (first | refine xA ?_ | refine xB ?_ | refine xC ?_ | refine xE ?_ | refine xD ?_ | refine xK ?_ | refine xS ?_ | refine xM ?_ | refine xT ?_ | refine xF ?_ | ((first | refine xR ?_ | refine xW ?_ | refine vq_id ?_); simp only [go_sem, Nat.reduceAdd, Nat.reduceLeDiff, Nat.reduceSub, Int.reduceToNat, reduceCtorEq, beq_self_eq_true, Bool.and_self]) | (refine ⟨by first | omega | (intros; simp_all; done) | (intros; simp_all; omega), ?_⟩; try simp only [go_sem, Nat.reduceAdd, Nat.reduceLeDiff, Nat.reduceSub, Int.reduceToNat, reduceCtorEq, beq_self_eq_true, Bool.and_self]))
      exact AE.ret0 rfl ⟨rfl, trivial⟩ rfl ⟨rfl, rfl⟩
    · rw [hF1] at h5
      rw [hF2] at h6
      repeat (first | refine xA ?_ | refine xB ?_ | refine xC ?_ | refine xE ?_ | refine xD ?_ | refine xK ?_ | refine xS ?_ | refine xM ?_ | refine xT ?_ | refine xF ?_ | ((first | refine xR ?_ | refine xW ?_ | refine vq_id ?_); simp only [go_sem, Nat.reduceAdd, Nat.reduceLeDiff, Nat.reduceSub, Int.reduceToNat, reduceCtorEq]) | (refine ⟨by first | omega | (intros; simp_all; done) | (intros; simp_all; omega), ?_⟩; try simp only [go_sem, Nat.reduceAdd, Nat.reduceLeDiff, Nat.reduceSub, Int.reduceToNat, reduceCtorEq]))
      refine AQ.fn (by kernel_rfl) rfl rfl rfl (h1) rfl ?_
      repeat (first | refine xA ?_ | refine xB ?_ | refine xC ?_ | refine xE ?_ | refine xD ?_ | refine xK ?_ | refine xS ?_ | refine xM ?_ | refine xT ?_ | refine xF ?_ | ((first | refine xR ?_ | refine xW ?_ | refine vq_id ?_); simp only [go_sem, Nat.reduceAdd, Nat.reduceLeDiff, Nat.reduceSub, Int.reduceToNat, reduceCtorEq]) | (refine ⟨by first | omega | (intros; simp_all; done) | (intros; simp_all; omega), ?_⟩; try simp only [go_sem, Nat.reduceAdd, Nat.reduceLeDiff, Nat.reduceSub, Int.reduceToNat, reduceCtorEq]))
      refine AQ.fn (by kernel_rfl) rfl rfl rfl (h2) rfl ?_
      repeat (first | refine xA ?_ | refine xB ?_ | refine xC ?_ | refine xE ?_ | refine xD ?_ | refine xK ?_ | refine xS ?_ | refine xM ?_ | refine xT ?_ | refine xF ?_ | ((first | refine xR ?_ | refine xW ?_ | refine vq_id ?_); simp only [go_sem, Nat.reduceAdd, Nat.reduceLeDiff, Nat.reduceSub, Int.reduceToNat, reduceCtorEq]) | (refine ⟨by first | omega | (intros; simp_all; done) | (intros; simp_all; omega), ?_⟩; try simp only [go_sem, Nat.reduceAdd, Nat.reduceLeDiff, Nat.reduceSub, Int.reduceToNat, reduceCtorEq]))
      refine AQ.fn (by kernel_rfl) rfl rfl rfl (h3) rfl ?_
      repeat (first | refine xA ?_ | refine xB ?_ | refine xC ?_ | refine xE ?_ | refine xD ?_ | refine xK ?_ | refine xS ?_ | refine xM ?_ | refine xT ?_ | refine xF ?_ | ((first | refine xR ?_ | refine xW ?_ | refine vq_id ?_); simp only [go_sem, Nat.reduceAdd, Nat.reduceLeDiff, Nat.reduceSub, Int.reduceToNat, reduceCtorEq]) | (refine ⟨by first | omega | (intros; simp_all; done) | (intros; simp_all; omega), ?_⟩; try simp only [go_sem, Nat.reduceAdd, Nat.reduceLeDiff, Nat.reduceSub, Int.reduceToNat, reduceCtorEq]))
      refine AQ.fn (by kernel_rfl) rfl rfl rfl (h4) rfl ?_
      repeat (first | refine xA ?_ | refine xB ?_ | refine xC ?_ | refine xE ?_ | refine xD ?_ | refine xK ?_ | refine xS ?_ | refine xM ?_ | refine xT ?_ | refine xF ?_ | ((first | refine xR ?_ | refine xW ?_ | refine vq_id ?_); simp only [go_sem, Nat.reduceAdd, Nat.reduceLeDiff, Nat.reduceSub, Int.reduceToNat, reduceCtorEq]) | (refine ⟨by first | omega | (intros; simp_all; done) | (intros; simp_all; omega), ?_⟩; try simp only [go_sem, Nat.reduceAdd, Nat.reduceLeDiff, Nat.reduceSub, Int.reduceToNat, reduceCtorEq]))
      refine AQ.fn (by kernel_rfl) rfl rfl rfl (h5) rfl ?_
      repeat (first | refine xA ?_ | refine xB ?_ | refine xC ?_ | refine xE ?_ | refine xD ?_ | refine xK ?_ | refine xS ?_ | refine xM ?_ | refine xT ?_ | refine xF ?_ | ((first | refine xR ?_ | refine xW ?_ | refine vq_id ?_); simp only [go_sem, Nat.reduceAdd, Nat.reduceLeDiff, Nat.reduceSub, Int.reduceToNat, reduceCtorEq]) | (refine ⟨by first | omega | (intros; simp_all; done) | (intros; simp_all; omega), ?_⟩; try simp only [go_sem, Nat.reduceAdd, Nat.reduceLeDiff, Nat.reduceSub, Int.reduceToNat, reduceCtorEq]))
      refine AQ.fn (by kernel_rfl) rfl rfl rfl (h6) rfl ?_
      repeat (first | refine xA ?_ | refine xB ?_ | refine xC ?_ | refine xE ?_ | refine xD ?_ | refine xK ?_ | refine xS ?_ | refine xM ?_ | refine xT ?_ | refine xF ?_ | ((first | refine xR ?_ | refine xW ?_ | refine vq_id ?_); simp only [go_sem, Nat.reduceAdd, Nat.reduceLeDiff, Nat.reduceSub, Int.reduceToNat, reduceCtorEq]) | (refine ⟨by first | omega | (intros; simp_all; done) | (intros; simp_all; omega), ?_⟩; try simp only [go_sem, Nat.reduceAdd, Nat.reduceLeDiff, Nat.reduceSub, Int.reduceToNat, reduceCtorEq]))
      refine AQ.fn (by kernel_rfl) rfl rfl rfl (hbx) rfl ?_
      repeat (first | refine xA ?_ | refine xB ?_ | refine xC ?_ | refine xE ?_ | refine xD ?_ | refine xK ?_ | refine xS ?_ | refine xM ?_ | refine xT ?_ | refine xF ?_ | ((first | refine xR ?_ | refine xW ?_ | refine vq_id ?_); simp only [go_sem, Nat.reduceAdd, Nat.reduceLeDiff, Nat.reduceSub, Int.reduceToNat, reduceCtorEq, beq_self_eq_true, Bool.and_self]) | (refine ⟨by first | omega | (intros; simp_all; done) | (intros; simp_all; omega), ?_⟩; try simp only [go_sem, Nat.reduceAdd, Nat.reduceLeDiff, Nat.reduceSub, Int.reduceToNat, reduceCtorEq, beq_self_eq_true, Bool.and_self]))
      refine AQ.fn_g (by kernel_rfl) rfl rfl (fun h => by first | (simp [gs, AV.g]; done) | (simp [gs, AV.g, constAV]; done) | (simp [gs, AV.g, constAV, bw] at h ⊢; done) | (simp [gs, AV.g, constAV, bw] at h ⊢; exact h) | (simp [gs, AV.g, constAV, bw] at h ⊢; simp [h]; done) | (simp [bw] at h; done) | (simp [gs, AV.g, bw] at h ⊢; simp [h]; done) | (simp [gs, AV.g, bw] at h ⊢; exact h.1) | (simp [gs, AV.g]; rfl) | (simp [gs, AV.g, bw] at h ⊢; rfl) | (simp [gs, AV.g, bw] at h ⊢; simp [h]; rfl) | (simp [gs, AV.g, bw] at h ⊢; simp_all)) rfl (fun _ => beq_nil) rfl ?_
      repeat (first | refine xA ?_ | refine xB ?_ | refine xC ?_ | refine xE ?_ | refine xD ?_ | refine xK ?_ | refine xS ?_ | refine xM ?_ | refine xT ?_ | refine xF ?_ | ((first | refine xR ?_ | refine xW ?_ | refine vq_id ?_); simp only [go_sem, Nat.reduceAdd, Nat.reduceLeDiff, Nat.reduceSub, Int.reduceToNat, reduceCtorEq, beq_self_eq_true, Bool.and_self]) | (refine ⟨by first | omega | (intros; simp_all; done) | (intros; simp_all; omega), ?_⟩; try simp only [go_sem, Nat.reduceAdd, Nat.reduceLeDiff, Nat.reduceSub, Int.reduceToNat, reduceCtorEq, beq_self_eq_true, Bool.and_self]))
      refine AQ.fn_g (by kernel_rfl) rfl rfl (fun h => by first | (simp [gs, AV.g]; done) | (simp [gs, AV.g, constAV]; done) | (simp [gs, AV.g, constAV, bw] at h ⊢; done) | (simp [gs, AV.g, constAV, bw] at h ⊢; exact h) | (simp [gs, AV.g, constAV, bw] at h ⊢; simp [h]; done) | (simp [bw] at h; done) | (simp [gs, AV.g, bw] at h ⊢; simp [h]; done) | (simp [gs, AV.g, bw] at h ⊢; exact h.1) | (simp [gs, AV.g]; rfl) | (simp [gs, AV.g, bw] at h ⊢; rfl) | (simp [gs, AV.g, bw] at h ⊢; simp [h]; rfl) | (simp [gs, AV.g, bw] at h ⊢; simp_all)) rfl (fun _ => msgs_nil) rfl ?_
      repeat (first | refine xA ?_ | refine xB ?_ | refine xC ?_ | refine xE ?_ | refine xD ?_ | refine xK ?_ | refine xS ?_ | refine xM ?_ | refine xT ?_ | refine xF ?_ | ((first | refine xR ?_ | refine xW ?_ | refine vq_id ?_); simp only [go_sem, Nat.reduceAdd, Nat.reduceLeDiff, Nat.reduceSub, Int.reduceToNat, reduceCtorEq, beq_self_eq_true, Bool.and_self]) | (refine ⟨by first | omega | (intros; simp_all; done) | (intros; simp_all; omega), ?_⟩; try simp only [go_sem, Nat.reduceAdd, Nat.reduceLeDiff, Nat.reduceSub, Int.reduceToNat, reduceCtorEq, beq_self_eq_true, Bool.and_self]))
      refine AQ.fn_g (by kernel_rfl) rfl rfl (fun h => by first | (simp [gs, AV.g]; done) | (simp [gs, AV.g, constAV]; done) | (simp [gs, AV.g, constAV, bw] at h ⊢; done) | (simp [gs, AV.g, constAV, bw] at h ⊢; exact h) | (simp [gs, AV.g, constAV, bw] at h ⊢; simp [h]; done) | (simp [bw] at h; done) | (simp [gs, AV.g, bw] at h ⊢; simp [h]; done) | (simp [gs, AV.g, bw] at h ⊢; exact h.1) | (simp [gs, AV.g]; rfl) | (simp [gs, AV.g, bw] at h ⊢; rfl) | (simp [gs, AV.g, bw] at h ⊢; simp [h]; rfl) | (simp [gs, AV.g, bw] at h ⊢; simp_all)) rfl (fun _ => meq_nil) rfl ?_
      repeat (first | refine xA ?_ | refine xB ?_ | refine xC ?_ | refine xE ?_ | refine xD ?_ | refine xK ?_ | refine xS ?_ | refine xM ?_ | refine xT ?_ | refine xF ?_ | ((first | refine xR ?_ | refine xW ?_ | refine vq_id ?_); simp only [go_sem, Nat.reduceAdd, Nat.reduceLeDiff, Nat.reduceSub, Int.reduceToNat, reduceCtorEq, beq_self_eq_true, Bool.and_self]) | (refine ⟨by first | omega | (intros; simp_all; done) | (intros; simp_all; omega), ?_⟩; try simp only [go_sem, Nat.reduceAdd, Nat.reduceLeDiff, Nat.reduceSub, Int.reduceToNat, reduceCtorEq, beq_self_eq_true, Bool.and_self]))
      refine AQ.fn_g (by kernel_rfl) rfl rfl (fun h => by first | (simp [gs, AV.g]; done) | (simp [gs, AV.g, constAV]; done) | (simp [gs, AV.g, constAV, bw] at h ⊢; done) | (simp [gs, AV.g, constAV, bw] at h ⊢; exact h) | (simp [gs, AV.g, constAV, bw] at h ⊢; simp [h]; done) | (simp [bw] at h; done) | (simp [gs, AV.g, bw] at h ⊢; simp [h]; done) | (simp [gs, AV.g, bw] at h ⊢; exact h.1) | (simp [gs, AV.g]; rfl) | (simp [gs, AV.g, bw] at h ⊢; rfl) | (simp [gs, AV.g, bw] at h ⊢; simp [h]; rfl) | (simp [gs, AV.g, bw] at h ⊢; simp_all)) rfl (fun _ => awake_spec) rfl ?_
      repeat (first | refine xA ?_ | refine xB ?_ | refine xC ?_ | refine xE ?_ | refine xD ?_ | refine xK ?_ | refine xS ?_ | refine xM ?_ | refine xT ?_ | refine xF ?_ | ((first | refine xR ?_ | refine xW ?_ | refine vq_id ?_); simp only [go_sem, Nat.reduceAdd, Nat.reduceLeDiff, Nat.reduceSub, Int.reduceToNat, reduceCtorEq, beq_self_eq_true, Bool.and_self]) | (refine ⟨by first | omega | (intros; simp_all; done) | (intros; simp_all; omega), ?_⟩; try simp only [go_sem, Nat.reduceAdd, Nat.reduceLeDiff, Nat.reduceSub, Int.reduceToNat, reduceCtorEq, beq_self_eq_true, Bool.and_self]))
      exact AE.ret0 rfl ⟨rfl, trivial⟩ rfl ⟨rfl, rfl⟩
  · rw [hE] at h1 h2
    rcases hF with ⟨hF1, hF2⟩ | ⟨hF1, hF2⟩
    · rw [hF1] at h5
      rw [hF2] at h6
      repeat (first | refine xA ?_ | refine xB ?_ | refine xC ?_ | refine xE ?_ | refine xD ?_ | refine xK ?_ | refine xS ?_ | refine xM ?_ | refine xT ?_ | refine xF ?_ | ((first | refine xR ?_ | refine xW ?_ | refine vq_id ?_); simp only [go_sem, Nat.reduceAdd, Nat.reduceLeDiff, Nat.reduceSub, Int.reduceToNat, reduceCtorEq]) | (refine ⟨by first | omega | (intros; simp_all; done) | (intros; simp_all; omega), ?_⟩; try simp only [go_sem, Nat.reduceAdd, Nat.reduceLeDiff, Nat.reduceSub, Int.reduceToNat, reduceCtorEq]))
      refine AQ.fn (by kernel_rfl) rfl rfl rfl (h1) rfl ?_
      repeat (first | refine xA ?_ | refine xB ?_ | refine xC ?_ | refine xE ?_ | refine xD ?_ | refine xK ?_ | refine xS ?_ | refine xM ?_ | refine xT ?_ | refine xF ?_ | ((first | refine xR ?_ | refine xW ?_ | refine vq_id ?_); simp only [go_sem, Nat.reduceAdd, Nat.reduceLeDiff, Nat.reduceSub, Int.reduceToNat, reduceCtorEq]) | (refine ⟨by first | omega | (intros; simp_all; done) | (intros; simp_all; omega), ?_⟩; try simp only [go_sem, Nat.reduceAdd, Nat.reduceLeDiff, Nat.reduceSub, Int.reduceToNat, reduceCtorEq]))
      refine AQ.fn (by kernel_rfl) rfl rfl rfl (h2) rfl ?_
      repeat (first | refine xA ?_ | refine xB ?_ | refine xC ?_ | refine xE ?_ | refine xD ?_ | refine xK ?_ | refine xS ?_ | refine xM ?_ | refine xT ?_ | refine xF ?_ | ((first | refine xR ?_ | refine xW ?_ | refine vq_id ?_); simp only [go_sem, Nat.reduceAdd, Nat.reduceLeDiff, Nat.reduceSub, Int.reduceToNat, reduceCtorEq]) | (refine ⟨by first | omega | (intros; simp_all; done) | (intros; simp_all; omega), ?_⟩; try simp only [go_sem, Nat.reduceAdd, Nat.reduceLeDiff, Nat.reduceSub, Int.reduceToNat, reduceCtorEq]))
      refine AQ.fn (by kernel_rfl) rfl rfl rfl (h3) rfl ?_
      repeat (first | refine xA ?_ | refine xB ?_ | refine xC ?_ | refine xE ?_ | refine xD ?_ | refine xK ?_ | refine xS ?_ | refine xM ?_ | refine xT ?_ | refine xF ?_ | ((first | refine xR ?_ | refine xW ?_ | refine vq_id ?_); simp only [go_sem, Nat.reduceAdd, Nat.reduceLeDiff, Nat.reduceSub, Int.reduceToNat, reduceCtorEq]) | (refine ⟨by first | omega | (intros; simp_all; done) | (intros; simp_all; omega), ?_⟩; try simp only [go_sem, Nat.reduceAdd, Nat.reduceLeDiff, Nat.reduceSub, Int.reduceToNat, reduceCtorEq]))
      refine AQ.fn (by kernel_rfl) rfl rfl rfl (h4) rfl ?_
      repeat (first | refine xA ?_ | refine xB ?_ | refine xC ?_ | refine xE ?_ | refine xD ?_ | refine xK ?_ | refine xS ?_ | refine xM ?_ | refine xT ?_ | refine xF ?_ | ((first | refine xR ?_ | refine xW ?_ | refine vq_id ?_); simp only [go_sem, Nat.reduceAdd, Nat.reduceLeDiff, Nat.reduceSub, Int.reduceToNat, reduceCtorEq]) | (refine ⟨by first | omega | (intros; simp_all; done) | (intros; simp_all; omega), ?_⟩; try simp only [go_sem, Nat.reduceAdd, Nat.reduceLeDiff, Nat.reduceSub, Int.reduceToNat, reduceCtorEq]))
      refine AQ.fn (by kernel_rfl) rfl rfl rfl (h5) rfl ?_
      repeat (first | refine xA ?_ | refine xB ?_ | refine xC ?_ | refine xE ?_ | refine xD ?_ | refine xK ?_ | refine xS ?_ | refine xM ?_ | refine xT ?_ | refine xF ?_ | ((first | refine xR ?_ | refine xW ?_ | refine vq_id ?_); simp only [go_sem, Nat.reduceAdd, Nat.reduceLeDiff, Nat.reduceSub, Int.reduceToNat, reduceCtorEq]) | (refine ⟨by first | omega | (intros; simp_all; done) | (intros; simp_all; omega), ?_⟩; try simp only [go_sem, Nat.reduceAdd, Nat.reduceLeDiff, Nat.reduceSub, Int.reduceToNat, reduceCtorEq]))
      refine AQ.fn (by kernel_rfl) rfl rfl rfl (h6) rfl ?_
      repeat (first | refine xA ?_ | refine xB ?_ | refine xC ?_ | refine xE ?_ | refine xD ?_ | refine xK ?_ | refine xS ?_ | refine xM ?_ | refine xT ?_ | refine xF ?_ | ((first | refine xR ?_ | refine xW ?_ | refine vq_id ?_); simp only [go_sem, Nat.reduceAdd, Nat.reduceLeDiff, Nat.reduceSub, Int.reduceToNat, reduceCtorEq]) | (refine ⟨by first | omega | (intros; simp_all; done) | (intros; simp_all; omega), ?_⟩; try simp only [go_sem, Nat.reduceAdd, Nat.reduceLeDiff, Nat.reduceSub, Int.reduceToNat, reduceCtorEq]))
      refine AQ.fn (by kernel_rfl) rfl rfl rfl (beq_nil) rfl ?_
      repeat (first | refine xA ?_ | refine xB ?_ | refine xC ?_ | refine xE ?_ | refine xD ?_ | refine xK ?_ | refine xS ?_ | refine xM ?_ | refine xT ?_ | refine xF ?_ | ((first | refine xR ?_ | refine xW ?_ | refine vq_id ?_); simp only [go_sem, Nat.reduceAdd, Nat.reduceLeDiff, Nat.reduceSub, Int.reduceToNat, reduceCtorEq, beq_self_eq_true, Bool.and_self]) | (refine ⟨by first | omega | (intros; simp_all; done) | (intros; simp_all; omega), ?_⟩; try simp only [go_sem, Nat.reduceAdd, Nat.reduceLeDiff, Nat.reduceSub, Int.reduceToNat, reduceCtorEq, beq_self_eq_true, Bool.and_self]))
      refine AQ.fn_g (by kernel_rfl) rfl rfl (fun h => by first | (simp [gs, AV.g]; done) | (simp [gs, AV.g, constAV]; done) | (simp [gs, AV.g, constAV, bw] at h ⊢; done) | (simp [gs, AV.g, constAV, bw] at h ⊢; exact h) | (simp [gs, AV.g, constAV, bw] at h ⊢; simp [h]; done) | (simp [bw] at h; done) | (simp [gs, AV.g, bw] at h ⊢; simp [h]; done) | (simp [gs, AV.g, bw] at h ⊢; exact h.1) | (simp [gs, AV.g]; rfl) | (simp [gs, AV.g, bw] at h ⊢; rfl) | (simp [gs, AV.g, bw] at h ⊢; simp [h]; rfl) | (simp [gs, AV.g, bw] at h ⊢; simp_all)) rfl (fun _ => hb0) rfl ?_
      repeat (first | refine xA ?_ | refine xB ?_ | refine xC ?_ | refine xE ?_ | refine xD ?_ | refine xK ?_ | refine xS ?_ | refine xM ?_ | refine xT ?_ | refine xF ?_ | ((first | refine xR ?_ | refine xW ?_ | refine vq_id ?_); simp only [go_sem, Nat.reduceAdd, Nat.reduceLeDiff, Nat.reduceSub, Int.reduceToNat, reduceCtorEq, beq_self_eq_true, Bool.and_self]) | (refine ⟨by first | omega | (intros; simp_all; done) | (intros; simp_all; omega), ?_⟩; try simp only [go_sem, Nat.reduceAdd, Nat.reduceLeDiff, Nat.reduceSub, Int.reduceToNat, reduceCtorEq, beq_self_eq_true, Bool.and_self]))
      refine AQ.fn_g (by kernel_rfl) rfl rfl (fun h => by first | (simp [gs, AV.g]; done) | (simp [gs, AV.g, constAV]; done) | (simp [gs, AV.g, constAV, bw] at h ⊢; done) | (simp [gs, AV.g, constAV, bw] at h ⊢; exact h) | (simp [gs, AV.g, constAV, bw] at h ⊢; simp [h]; done) | (simp [bw] at h; done) | (simp [gs, AV.g, bw] at h ⊢; simp [h]; done) | (simp [gs, AV.g, bw] at h ⊢; exact h.1) | (simp [gs, AV.g]; rfl) | (simp [gs, AV.g, bw] at h ⊢; rfl) | (simp [gs, AV.g, bw] at h ⊢; simp [h]; rfl) | (simp [gs, AV.g, bw] at h ⊢; simp_all)) rfl (fun _ => hm1) rfl ?_
      repeat (first | refine xA ?_ | refine xB ?_ | refine xC ?_ | refine xE ?_ | refine xD ?_ | refine xK ?_ | refine xS ?_ | refine xM ?_ | refine xT ?_ | refine xF ?_ | ((first | refine xR ?_ | refine xW ?_ | refine vq_id ?_); simp only [go_sem, Nat.reduceAdd, Nat.reduceLeDiff, Nat.reduceSub, Int.reduceToNat, reduceCtorEq, beq_self_eq_true, Bool.and_self]) | (refine ⟨by first | omega | (intros; simp_all; done) | (intros; simp_all; omega), ?_⟩; try simp only [go_sem, Nat.reduceAdd, Nat.reduceLeDiff, Nat.reduceSub, Int.reduceToNat, reduceCtorEq, beq_self_eq_true, Bool.and_self]))
      refine AQ.fn_g (by kernel_rfl) rfl rfl (fun h => by first | (simp [gs, AV.g]; done) | (simp [gs, AV.g, constAV]; done) | (simp [gs, AV.g, constAV, bw] at h ⊢; done) | (simp [gs, AV.g, constAV, bw] at h ⊢; exact h) | (simp [gs, AV.g, constAV, bw] at h ⊢; simp [h]; done) | (simp [bw] at h; done) | (simp [gs, AV.g, bw] at h ⊢; simp [h]; done) | (simp [gs, AV.g, bw] at h ⊢; exact h.1) | (simp [gs, AV.g]; rfl) | (simp [gs, AV.g, bw] at h ⊢; rfl) | (simp [gs, AV.g, bw] at h ⊢; simp [h]; rfl) | (simp [gs, AV.g, bw] at h ⊢; simp_all)) rfl (fun _ => hm2) rfl ?_
      repeat (first | refine xA ?_ | refine xB ?_ | refine xC ?_ | refine xE ?_ | refine xD ?_ | refine xK ?_ | refine xS ?_ | refine xM ?_ | refine xT ?_ | refine xF ?_ | ((first | refine xR ?_ | refine xW ?_ | refine vq_id ?_); simp only [go_sem, Nat.reduceAdd, Nat.reduceLeDiff, Nat.reduceSub, Int.reduceToNat, reduceCtorEq, beq_self_eq_true, Bool.and_self]) | (refine ⟨by first | omega | (intros; simp_all; done) | (intros; simp_all; omega), ?_⟩; try simp only [go_sem, Nat.reduceAdd, Nat.reduceLeDiff, Nat.reduceSub, Int.reduceToNat, reduceCtorEq, beq_self_eq_true, Bool.and_self]))
      refine AQ.fn_g (by kernel_rfl) rfl rfl (fun h => by first | (simp [gs, AV.g]; done) | (simp [gs, AV.g, constAV]; done) | (simp [gs, AV.g, constAV, bw] at h ⊢; done) | (simp [gs, AV.g, constAV, bw] at h ⊢; exact h) | (simp [gs, AV.g, constAV, bw] at h ⊢; simp [h]; done) | (simp [bw] at h; done) | (simp [gs, AV.g, bw] at h ⊢; simp [h]; done) | (simp [gs, AV.g, bw] at h ⊢; exact h.1) | (simp [gs, AV.g]; rfl) | (simp [gs, AV.g, bw] at h ⊢; rfl) | (simp [gs, AV.g, bw] at h ⊢; simp [h]; rfl) | (simp [gs, AV.g, bw] at h ⊢; simp_all)) rfl (fun _ => awake_spec) rfl ?_
      repeat (first | refine xA ?_ | refine xB ?_ | refine xC ?_ | refine xE ?_ | refine xD ?_ | refine xK ?_ | refine xS ?_ | refine xM ?_ | refine xT ?_ | refine xF ?_ | ((first | refine xR ?_ | refine xW ?_ | refine vq_id ?_); simp only [go_sem, Nat.reduceAdd, Nat.reduceLeDiff, Nat.reduceSub, Int.reduceToNat, reduceCtorEq, beq_self_eq_true, Bool.and_self]) | (refine ⟨by first | omega | (intros; simp_all; done) | (intros; simp_all; omega), ?_⟩; try simp only [go_sem, Nat.reduceAdd, Nat.reduceLeDiff, Nat.reduceSub, Int.reduceToNat, reduceCtorEq, beq_self_eq_true, Bool.and_self]))
      exact AE.ret0 rfl ⟨rfl, trivial⟩ rfl ⟨rfl, rfl⟩
    · rw [hF1] at h5
      rw [hF2] at h6
      repeat (first | refine xA ?_ | refine xB ?_ | refine xC ?_ | refine xE ?_ | refine xD ?_ | refine xK ?_ | refine xS ?_ | refine xM ?_ | refine xT ?_ | refine xF ?_ | ((first | refine xR ?_ | refine xW ?_ | refine vq_id ?_); simp only [go_sem, Nat.reduceAdd, Nat.reduceLeDiff, Nat.reduceSub, Int.reduceToNat, reduceCtorEq]) | (refine ⟨by first | omega | (intros; simp_all; done) | (intros; simp_all; omega), ?_⟩; try simp only [go_sem, Nat.reduceAdd, Nat.reduceLeDiff, Nat.reduceSub, Int.reduceToNat, reduceCtorEq]))
      refine AQ.fn (by kernel_rfl) rfl rfl rfl (h1) rfl ?_
      repeat (first | refine xA ?_ | refine xB ?_ | refine xC ?_ | refine xE ?_ | refine xD ?_ | refine xK ?_ | refine xS ?_ | refine xM ?_ | refine xT ?_ | refine xF ?_ | ((first | refine xR ?_ | refine xW ?_ | refine vq_id ?_); simp only [go_sem, Nat.reduceAdd, Nat.reduceLeDiff, Nat.reduceSub, Int.reduceToNat, reduceCtorEq]) | (refine ⟨by first | omega | (intros; simp_all; done) | (intros; simp_all; omega), ?_⟩; try simp only [go_sem, Nat.reduceAdd, Nat.reduceLeDiff, Nat.reduceSub, Int.reduceToNat, reduceCtorEq]))
      refine AQ.fn (by kernel_rfl) rfl rfl rfl (h2) rfl ?_
      repeat (first | refine xA ?_ | refine xB ?_ | refine xC ?_ | refine xE ?_ | refine xD ?_ | refine xK ?_ | refine xS ?_ | refine xM ?_ | refine xT ?_ | refine xF ?_ | ((first | refine xR ?_ | refine xW ?_ | refine vq_id ?_); simp only [go_sem, Nat.reduceAdd, Nat.reduceLeDiff, Nat.reduceSub, Int.reduceToNat, reduceCtorEq]) | (refine ⟨by first | omega | (intros; simp_all; done) | (intros; simp_all; omega), ?_⟩; try simp only [go_sem, Nat.reduceAdd, Nat.reduceLeDiff, Nat.reduceSub, Int.reduceToNat, reduceCtorEq]))
      refine AQ.fn (by kernel_rfl) rfl rfl rfl (h3) rfl ?_
      repeat (first | refine xA ?_ | refine xB ?_ | refine xC ?_ | refine xE ?_ | refine xD ?_ | refine xK ?_ | refine xS ?_ | refine xM ?_ | refine xT ?_ | refine xF ?_ | ((first | refine xR ?_ | refine xW ?_ | refine vq_id ?_); simp only [go_sem, Nat.reduceAdd, Nat.reduceLeDiff, Nat.reduceSub, Int.reduceToNat, reduceCtorEq]) | (refine ⟨by first | omega | (intros; simp_all; done) | (intros; simp_all; omega), ?_⟩; try simp only [go_sem, Nat.reduceAdd, Nat.reduceLeDiff, Nat.reduceSub, Int.reduceToNat, reduceCtorEq]))
      refine AQ.fn (by kernel_rfl) rfl rfl rfl (h4) rfl ?_
      repeat (first | refine xA ?_ | refine xB ?_ | refine xC ?_ | refine xE ?_ | refine xD ?_ | refine xK ?_ | refine xS ?_ | refine xM ?_ | refine xT ?_ | refine xF ?_ | ((first | refine xR ?_ | refine xW ?_ | refine vq_id ?_); simp only [go_sem, Nat.reduceAdd, Nat.reduceLeDiff, Nat.reduceSub, Int.reduceToNat, reduceCtorEq]) | (refine ⟨by first | omega | (intros; simp_all; done) | (intros; simp_all; omega), ?_⟩; try simp only [go_sem, Nat.reduceAdd, Nat.reduceLeDiff, Nat.reduceSub, Int.reduceToNat, reduceCtorEq]))
      refine AQ.fn (by kernel_rfl) rfl rfl rfl (h5) rfl ?_
      repeat (first | refine xA ?_ | refine xB ?_ | refine xC ?_ | refine xE ?_ | refine xD ?_ | refine xK ?_ | refine xS ?_ | refine xM ?_ | refine xT ?_ | refine xF ?_ | ((first | refine xR ?_ | refine xW ?_ | refine vq_id ?_); simp only [go_sem, Nat.reduceAdd, Nat.reduceLeDiff, Nat.reduceSub, Int.reduceToNat, reduceCtorEq]) | (refine ⟨by first | omega | (intros; simp_all; done) | (intros; simp_all; omega), ?_⟩; try simp only [go_sem, Nat.reduceAdd, Nat.reduceLeDiff, Nat.reduceSub, Int.reduceToNat, reduceCtorEq]))
      refine AQ.fn (by kernel_rfl) rfl rfl rfl (h6) rfl ?_
      repeat (first | refine xA ?_ | refine xB ?_ | refine xC ?_ | refine xE ?_ | refine xD ?_ | refine xK ?_ | refine xS ?_ | refine xM ?_ | refine xT ?_ | refine xF ?_ | ((first | refine xR ?_ | refine xW ?_ | refine vq_id ?_); simp only [go_sem, Nat.reduceAdd, Nat.reduceLeDiff, Nat.reduceSub, Int.reduceToNat, reduceCtorEq]) | (refine ⟨by first | omega | (intros; simp_all; done) | (intros; simp_all; omega), ?_⟩; try simp only [go_sem, Nat.reduceAdd, Nat.reduceLeDiff, Nat.reduceSub, Int.reduceToNat, reduceCtorEq]))
      refine AQ.fn (by kernel_rfl) rfl rfl rfl (beq_nil) rfl ?_
      repeat (first | refine xA ?_ | refine xB ?_ | refine xC ?_ | refine xE ?_ | refine xD ?_ | refine xK ?_ | refine xS ?_ | refine xM ?_ | refine xT ?_ | refine xF ?_ | ((first | refine xR ?_ | refine xW ?_ | refine vq_id ?_); simp only [go_sem, Nat.reduceAdd, Nat.reduceLeDiff, Nat.reduceSub, Int.reduceToNat, reduceCtorEq, beq_self_eq_true, Bool.and_self]) | (refine ⟨by first | omega | (intros; simp_all; done) | (intros; simp_all; omega), ?_⟩; try simp only [go_sem, Nat.reduceAdd, Nat.reduceLeDiff, Nat.reduceSub, Int.reduceToNat, reduceCtorEq, beq_self_eq_true, Bool.and_self]))
      refine AQ.fn_g (by kernel_rfl) rfl rfl (fun h => by first | (simp [gs, AV.g]; done) | (simp [gs, AV.g, constAV]; done) | (simp [gs, AV.g, constAV, bw] at h ⊢; done) | (simp [gs, AV.g, constAV, bw] at h ⊢; exact h) | (simp [gs, AV.g, constAV, bw] at h ⊢; simp [h]; done) | (simp [bw] at h; done) | (simp [gs, AV.g, bw] at h ⊢; simp [h]; done) | (simp [gs, AV.g, bw] at h ⊢; exact h.1) | (simp [gs, AV.g]; rfl) | (simp [gs, AV.g, bw] at h ⊢; rfl) | (simp [gs, AV.g, bw] at h ⊢; simp [h]; rfl) | (simp [gs, AV.g, bw] at h ⊢; simp_all)) rfl (fun _ => beq_nil) rfl ?_
      repeat (first | refine xA ?_ | refine xB ?_ | refine xC ?_ | refine xE ?_ | refine xD ?_ | refine xK ?_ | refine xS ?_ | refine xM ?_ | refine xT ?_ | refine xF ?_ | ((first | refine xR ?_ | refine xW ?_ | refine vq_id ?_); simp only [go_sem, Nat.reduceAdd, Nat.reduceLeDiff, Nat.reduceSub, Int.reduceToNat, reduceCtorEq, beq_self_eq_true, Bool.and_self]) | (refine ⟨by first | omega | (intros; simp_all; done) | (intros; simp_all; omega), ?_⟩; try simp only [go_sem, Nat.reduceAdd, Nat.reduceLeDiff, Nat.reduceSub, Int.reduceToNat, reduceCtorEq, beq_self_eq_true, Bool.and_self]))
      refine AQ.fn_g (by kernel_rfl) rfl rfl (fun h => by first | (simp [gs, AV.g]; done) | (simp [gs, AV.g, constAV]; done) | (simp [gs, AV.g, constAV, bw] at h ⊢; done) | (simp [gs, AV.g, constAV, bw] at h ⊢; exact h) | (simp [gs, AV.g, constAV, bw] at h ⊢; simp [h]; done) | (simp [bw] at h; done) | (simp [gs, AV.g, bw] at h ⊢; simp [h]; done) | (simp [gs, AV.g, bw] at h ⊢; exact h.1) | (simp [gs, AV.g]; rfl) | (simp [gs, AV.g, bw] at h ⊢; rfl) | (simp [gs, AV.g, bw] at h ⊢; simp [h]; rfl) | (simp [gs, AV.g, bw] at h ⊢; simp_all)) rfl (fun _ => msgs_nil) rfl ?_
      repeat (first | refine xA ?_ | refine xB ?_ | refine xC ?_ | refine xE ?_ | refine xD ?_ | refine xK ?_ | refine xS ?_ | refine xM ?_ | refine xT ?_ | refine xF ?_ | ((first | refine xR ?_ | refine xW ?_ | refine vq_id ?_); simp only [go_sem, Nat.reduceAdd, Nat.reduceLeDiff, Nat.reduceSub, Int.reduceToNat, reduceCtorEq, beq_self_eq_true, Bool.and_self]) | (refine ⟨by first | omega | (intros; simp_all; done) | (intros; simp_all; omega), ?_⟩; try simp only [go_sem, Nat.reduceAdd, Nat.reduceLeDiff, Nat.reduceSub, Int.reduceToNat, reduceCtorEq, beq_self_eq_true, Bool.and_self]))
      refine AQ.fn_g (by kernel_rfl) rfl rfl (fun h => by first | (simp [gs, AV.g]; done) | (simp [gs, AV.g, constAV]; done) | (simp [gs, AV.g, constAV, bw] at h ⊢; done) | (simp [gs, AV.g, constAV, bw] at h ⊢; exact h) | (simp [gs, AV.g, constAV, bw] at h ⊢; simp [h]; done) | (simp [bw] at h; done) | (simp [gs, AV.g, bw] at h ⊢; simp [h]; done) | (simp [gs, AV.g, bw] at h ⊢; exact h.1) | (simp [gs, AV.g]; rfl) | (simp [gs, AV.g, bw] at h ⊢; rfl) | (simp [gs, AV.g, bw] at h ⊢; simp [h]; rfl) | (simp [gs, AV.g, bw] at h ⊢; simp_all)) rfl (fun _ => meq_nil) rfl ?_
      repeat (first | refine xA ?_ | refine xB ?_ | refine xC ?_ | refine xE ?_ | refine xD ?_ | refine xK ?_ | refine xS ?_ | refine xM ?_ | refine xT ?_ | refine xF ?_ | ((first | refine xR ?_ | refine xW ?_ | refine vq_id ?_); simp only [go_sem, Nat.reduceAdd, Nat.reduceLeDiff, Nat.reduceSub, Int.reduceToNat, reduceCtorEq, beq_self_eq_true, Bool.and_self]) | (refine ⟨by first | omega | (intros; simp_all; done) | (intros; simp_all; omega), ?_⟩; try simp only [go_sem, Nat.reduceAdd, Nat.reduceLeDiff, Nat.reduceSub, Int.reduceToNat, reduceCtorEq, beq_self_eq_true, Bool.and_self]))
      refine AQ.fn_g (by kernel_rfl) rfl rfl (fun h => by first | (simp [gs, AV.g]; done) | (simp [gs, AV.g, constAV]; done) | (simp [gs, AV.g, constAV, bw] at h ⊢; done) | (simp [gs, AV.g, constAV, bw] at h ⊢; exact h) | (simp [gs, AV.g, constAV, bw] at h ⊢; simp [h]; done) | (simp [bw] at h; done) | (simp [gs, AV.g, bw] at h ⊢; simp [h]; done) | (simp [gs, AV.g, bw] at h ⊢; exact h.1) | (simp [gs, AV.g]; rfl) | (simp [gs, AV.g, bw] at h ⊢; rfl) | (simp [gs, AV.g, bw] at h ⊢; simp [h]; rfl) | (simp [gs, AV.g, bw] at h ⊢; simp_all)) rfl (fun _ => awake_spec) rfl ?_
      repeat (first | refine xA ?_ | refine xB ?_ | refine xC ?_ | refine xE ?_ | refine xD ?_ | refine xK ?_ | refine xS ?_ | refine xM ?_ | refine xT ?_ | refine xF ?_ | ((first | refine xR ?_ | refine xW ?_ | refine vq_id ?_); simp only [go_sem, Nat.reduceAdd, Nat.reduceLeDiff, Nat.reduceSub, Int.reduceToNat, reduceCtorEq, beq_self_eq_true, Bool.and_self]) | (refine ⟨by first | omega | (intros; simp_all; done) | (intros; simp_all; omega), ?_⟩; try simp only [go_sem, Nat.reduceAdd, Nat.reduceLeDiff, Nat.reduceSub, Int.reduceToNat, reduceCtorEq, beq_self_eq_true, Bool.and_self]))
      exact AE.ret0 rfl ⟨rfl, trivial⟩ rfl ⟨rfl, rfl⟩
end Go.Proofs.YtlpcdpjkdodmcaaDoor
end

section
namespace Go.Proofs.YtlpcdpjkdodmcaaDoor
open Go Go.AL Go.RowKit
set_option maxRecDepth 100000
theorem u8_nat {i : Int} (h : (Lit.int .u8 i).wf = true) : ∃ b : UInt8, i = b.toNat := by
  simp [Lit.wf, IntKind.min, IntKind.max, IntKind.bits, IntKind.signed] at h
  exact ⟨UInt8.ofNat i.toNat, by rw [UInt8.toNat_ofNat']; omega⟩
theorem bytes_of {n : Nat} {xs : List IV} (h : Typed Tryd.prog n 24 xs) : ∃ l : List UInt8, xs = [.sl 1 (byteR l)] ∧ l.length < 9223372036854775808 := by
  have hc : Tryd.prog.cellsOf 5 = 1 := by kernel_rfl
  obtain ⟨rows, m, rfl, hr, hrow⟩ := typed_slice Tryd.underlying24 h
  obtain ⟨l, rfl, _⟩ := rows_of (p := fun _ : UInt8 => True) (f := fun b => [.v (.int .u8 b.toNat)]) rows fun r hr => by
    obtain ⟨i, rfl, hi⟩ := typed_int Tryd.underlying5 (hrow r hr)
    obtain ⟨b, rfl⟩ := u8_nat hi
    exact ⟨b, rfl, trivial⟩
  refine ⟨l, by rw [hc]; rfl, ?_⟩
  rw [List.length_map] at hr
  unfold maxLen at hr
  omega
theorem msg_of {n : Nat} {xs : List IV} (h : Typed Tryd.prog n 23 xs) : ∃ m : Msg, xs = [Ii m.1, Ii m.2.1, Si m.2.2] ∧ m.2.2.length < 9223372036854775808 := by
  have hc : Tryd.prog.cellsOf 23 = 3 := by kernel_rfl
  have hc3 : Tryd.prog.cellsOf 3 = 1 := by kernel_rfl
  have hc9 : Tryd.prog.cellsOf 9 = 1 := by kernel_rfl
  obtain ⟨m', hlen, hf⟩ := typed_struct Tryd.underlying23 h
  rw [hc] at hlen
  match xs, hlen with
  | [a, b, c], _ =>
    have f0 := hf 0 _ rfl
    have f1 := hf 1 _ rfl
    have f2 := hf 2 _ rfl
    simp only [hc3, hc9, List.drop_zero, List.take_succ_cons, List.take_zero, List.drop_succ_cons] at f0 f1 f2
    obtain ⟨i0, e0, w0⟩ := typed_int Tryd.underlying3 f0
    obtain ⟨i1, e1, w1⟩ := typed_int Tryd.underlying3 f1
    obtain ⟨s, e2, hs⟩ := typed_str Tryd.underlying9 f2
    cases e0; cases e1; cases e2
    refine ⟨(i0, i1, s.data.toList), congrArg (fun x => [IV.v (Value.int .i64 i0), IV.v (Value.int .i64 i1), IV.v (Value.string x)]) (BA_of s), ?_⟩
    have e : s.size = s.data.size := rfl
    have e2 : s.data.toList.length = s.data.size := Array.length_toList
    unfold maxLen at hs
    show s.data.toList.length < _
    omega
theorem gSyn : Tryd.prog.globalNamed "strconv.ErrSyntax" = some 0 := by kernel_rfl
theorem gRng : Tryd.prog.globalNamed "strconv.ErrRange" = some 1 := by kernel_rfl
theorem gPow : Tryd.prog.globalNamed "internal/strconv.uint64pow10" = some 3 := by kernel_rfl
theorem gSynT : (Tryd.prog.globals[0]?).map (·.type) = some 131 := by kernel_rfl
theorem gRngT : (Tryd.prog.globals[1]?).map (·.type) = some 131 := by kernel_rfl
theorem gPowT : (Tryd.prog.globals[3]?).map (·.type) = some 181 := by kernel_rfl
theorem row177 (u : TypeId) (h : Tryd.prog.typeName? 3 u = some "*errors.errorString") : u = 177 :=
  typeName_ptr_named (nm := "errors.errorString") (by rw [show "*" ++ "errors.errorString" = "*errors.errorString" by decide]; kernel_rfl) (by kernel_rfl) (by decide) u (by rw [show "*" ++ "errors.errorString" = "*errors.errorString" by decide]; exact h)
theorem var_cells {P : Program} {W : World} {n : String} {g : Nat} {cs : Array Value} (hg : P.globalNamed n = some g) (h : W.var? P n = some cs) : g < W.heap.size ∧ ∃ T fz, W.heap[g]? = some (.cells cs T fz) := by
  unfold World.var? at h
  rw [hg, Option.bind_some] at h
  split at h
  · rename_i cs' T fz hh
    cases h
    refine ⟨?_, T, fz, hh⟩
    rcases Nat.lt_or_ge g W.heap.size with h' | h'
    · exact h'
    · rw [Array.getElem?_eq_none h'] at hh; cases hh
  · cases h
theorem vk_of {W : World} (h : laidMet Tryd.prog [("math/bits.deBruijn32tab", Rows.laid_math_bits_deBruijn32tab), ("math/bits.deBruijn64tab", Rows.laid_math_bits_deBruijn64tab), ("internal/strconv.uint64pow10", Rows.laid_internal_strconv_uint64pow10), ("strconv.ErrRange", Rows.laid_strconv_ErrRange), ("strconv.ErrSyntax", Rows.laid_strconv_ErrSyntax)] W) :
    VK Tryd.prog W (fun g => g < W.heap.size) := by
  have h3 := h.tail.tail
  have h4 := h3.tail
  have h5 := h4.tail
  intro x hx g hg
  simp only [laidVars, List.mem_cons, List.not_mem_nil, or_false] at hx
  rcases hx with rfl | rfl | rfl
  · obtain ⟨a, s, hv, _⟩ := laid_sentinel h5 gSyn gSynT Tryd.underlying131 row177 Tryd.underlying177 Tryd.underlying179 rfl rfl Tryd.underlying9 (by kernel_rfl) (by kernel_rfl)
    obtain ⟨h1, T, fz, h2⟩ := var_cells hg hv
    exact ⟨h1, _, h2, _, _, T, fz, rfl⟩
  · obtain ⟨a, s, hv, _⟩ := laid_sentinel h4 gRng gRngT Tryd.underlying131 row177 Tryd.underlying177 Tryd.underlying179 rfl rfl Tryd.underlying9 (by kernel_rfl) (by kernel_rfl)
    obtain ⟨h1, T, fz, h2⟩ := var_cells hg hv
    exact ⟨h1, _, h2, _, _, T, fz, rfl⟩
  · have ht : Lib.TabIs Tryd.prog W "internal/strconv.uint64pow10" .u64 Lib.pow10Tab := Lib.tabIs_of_head (rest := _) gPow gPowT Tryd.underlying181 Tryd.underlying161 (by kernel_rfl) (by kernel_rfl) h3
    obtain ⟨h1, T, fz, h2⟩ := var_cells hg ht
    exact ⟨h1, _, h2, T, fz, rfl⟩
def synS : ByteArray := { data := #[105, 110, 118, 97, 108, 105, 100, 32, 115, 121, 110, 116, 97, 120] }
def rngS : ByteArray := { data := #[118, 97, 108, 117, 101, 32, 111, 117, 116, 32, 111, 102, 32, 114, 97, 110, 103, 101] }
noncomputable def low : Nat := (World.holding Tryd.prog default ⟨#[], #[], []⟩).heap.size
def litCells (d : DataW Unit) : Array Value := match d with
  | .agg l => (l.map fun x => match x with
    | .lit (.int k z) => Value.int k z
    | _ => .nilIface).toArray
  | _ => #[]
def putCells (cs : Array Value) : Obj → Obj
  | .cells _ t frozen => .cells cs t frozen
  | o => o
noncomputable def laidWorld (os : Os) : World :=
  let w0 := World.holding Tryd.prog os ⟨#[.cells #[.string synS] 179, .cells #[.string rngS] 179], #[], []⟩
  { w0 with heap := ((((w0.heap.modify 0 (putCells #[.iface 177 (.pointer (some ⟨low, 0, none⟩))])).modify 1 (putCells #[.iface 177 (.pointer (some ⟨low + 1, 0, none⟩))])).modify 3 (putCells (litCells Rows.laid_internal_strconv_uint64pow10))).modify 4 (putCells (litCells Rows.laid_math_bits_deBruijn32tab))).modify 5 (putCells (litCells Rows.laid_math_bits_deBruijn64tab)) }
end Go.Proofs.YtlpcdpjkdodmcaaDoor
end
