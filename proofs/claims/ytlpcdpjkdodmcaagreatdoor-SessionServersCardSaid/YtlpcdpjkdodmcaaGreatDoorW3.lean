import Derived.Test.YtlpcdpjkdodmcaaGreatDoorW2
set_option linter.unusedSimpArgs false
set_option linter.unusedVariables false
set_option linter.unnecessarySimpa false
section
namespace Go.Proofs.YtlpcdpjkdodmcaaGreatDoor
open Go Go.AL Go.RowKit
set_option maxRecDepth 10000
set_option maxHeartbeats 4000000
theorem check_sref (p : Int) (nm : List UInt8) (w n : Int) (l : List Rq) (hl : l.length ≤ 1000000000) (hnm : nm.length ≤ 9223372036854775807) : PFn Tryz.prog 10 [.agg [Iv p, Sv nm, Iv w, Iv n, .im (.sl 8 (rqR l))]] (Iv (srvE p nm w n l)) := by
  refine ACall.walk [0, 1, 2, 3, 4, 5, 6, 43, 46, 90, 99, 102, 114, 151] [5] Tryz.func10 rfl Tryz.ntmps10 (by kernel_rfl) (by rfl) rfl fun W own I0 φ0 lay => ?_
  repeat (first | refine xA ?_ | refine xB ?_ | refine xC ?_ | refine xE ?_ | refine xD ?_ | refine xK ?_ | refine xS ?_ | refine xM ?_ | refine xT ?_ | refine xF ?_ | ((first | refine xR ?_ | refine xW ?_ | refine vq_id ?_); simp only [go_sem, Nat.reduceAdd, Nat.reduceLeDiff, Nat.reduceSub, Int.reduceToNat, reduceCtorEq, rqR_len]) | (refine ⟨by first | omega | (intros; simp_all; done) | (intros; simp_all; omega), ?_⟩; try simp only [go_sem, Nat.reduceAdd, Nat.reduceLeDiff, Nat.reduceSub, Int.reduceToNat, reduceCtorEq, rqR_len]))
  refine AP.cond rfl rfl (fun hh => ?_) (fun hh => ?_)
  · rw [srvE_no fun h => by
      have h1 := h.1
      unfold srvHead at h1
      simp only [Bool.or_eq_true, decide_eq_true_eq] at hh
      omega]
    repeat (first | refine xA ?_ | refine xB ?_ | refine xC ?_ | refine xE ?_ | refine xD ?_ | refine xK ?_ | refine xS ?_ | refine xM ?_ | refine xT ?_ | refine xF ?_ | ((first | refine xR ?_ | refine xW ?_ | refine vq_id ?_); simp only [go_sem, Nat.reduceAdd, Nat.reduceLeDiff, Nat.reduceSub, Int.reduceToNat, reduceCtorEq]) | (refine ⟨by first | omega | (intros; simp_all; done) | (intros; simp_all; omega), ?_⟩; try simp only [go_sem, Nat.reduceAdd, Nat.reduceLeDiff, Nat.reduceSub, Int.reduceToNat, reduceCtorEq]))
    exact AE.ret0 rfl ⟨rfl, trivial⟩ rfl ⟨rfl, rfl⟩
  have hh1 : srvHead p w n l := by
    unfold srvHead
    simp only [Bool.or_eq_false_iff, decide_eq_false_iff_not] at hh
    omega
  repeat (first | refine xA ?_ | refine xB ?_ | refine xC ?_ | refine xE ?_ | refine xD ?_ | refine xK ?_ | refine xS ?_ | refine xM ?_ | refine xT ?_ | refine xF ?_ | ((first | refine xR ?_ | refine xW ?_ | refine vq_id ?_); simp only [go_sem, Nat.reduceAdd, Nat.reduceLeDiff, Nat.reduceSub, Int.reduceToNat, reduceCtorEq]) | (refine ⟨by first | omega | (intros; simp_all; done) | (intros; simp_all; omega), ?_⟩; try simp only [go_sem, Nat.reduceAdd, Nat.reduceLeDiff, Nat.reduceSub, Int.reduceToNat, reduceCtorEq]))
  refine AP.loop rfl (α := Nat) (fun k => [(1, .im (.pt [Ii p, .v (.string (BA nm)), Ii w, Ii n, .sl 8 (rqR l)])), (3, Iv l.length), (4, Iv k)]) (fun k => []) (fun k => k ≤ l.length ∧ ∀ i, i < k → ∀ r, l[i]? = some r → rowS n l i r) (fun k => l.length - k) 0 (by simp) (by repeat (first | exact Sub.nil _ | refine Sub.cons rfl ?_)) rfl fun k ⟨hk, hrows⟩ => ?_
  have hw := wr (x := (k : Int) + 1) (by omega)
  repeat (first | refine xA ?_ | refine xB ?_ | refine xC ?_ | refine xE ?_ | refine xD ?_ | refine xK ?_ | refine xS ?_ | refine xM ?_ | refine xT ?_ | refine xF ?_ | ((first | refine xR ?_ | refine xW ?_ | refine vq_id ?_); simp only [go_sem, Nat.reduceAdd, Nat.reduceLeDiff, Nat.reduceSub, Int.reduceToNat, reduceCtorEq]) | (refine ⟨by first | omega | (intros; simp_all; done) | (intros; simp_all; omega), ?_⟩; try simp only [go_sem, Nat.reduceAdd, Nat.reduceLeDiff, Nat.reduceSub, Int.reduceToNat, reduceCtorEq]))
  refine AP.cond rfl rfl (fun hc => ?_) (fun hc => ?_)
  · have hk' : k < l.length := by simp at hc; omega
    obtain ⟨r, hm, hg⟩ := rqR_get l k hk'
    have hwl := wr (x := (l.length : Int) - 1) (by omega)
    have hrr := right_ref r
    obtain ⟨v, hv⟩ : ∃ v, rvB r = v := ⟨_, rfl⟩
    rw [hv] at hrr
    repeat (first | refine xA ?_ | refine xB ?_ | refine xC ?_ | refine xE ?_ | refine xD ?_ | refine xK ?_ | refine xS ?_ | refine xM ?_ | refine xT ?_ | refine xF ?_ | ((first | refine xR ?_ | refine xW ?_ | refine vq_id ?_); simp only [go_sem, Nat.reduceAdd, Nat.reduceLeDiff, Nat.reduceSub, Int.reduceToNat, reduceCtorEq, rqR_len, hg, hw, Int.toNat_natCast, List.map_cons, List.map_nil, List.length_cons, List.length_nil, List.take_succ_cons, List.take_zero, List.drop_succ_cons, List.drop_zero]) | (refine ⟨by first | omega | (intros; simp_all; done) | (intros; simp_all; omega), ?_⟩; try simp only [go_sem, Nat.reduceAdd, Nat.reduceLeDiff, Nat.reduceSub, Int.reduceToNat, reduceCtorEq, rqR_len, hg, hw, Int.toNat_natCast, List.map_cons, List.map_nil, List.length_cons, List.length_nil, List.take_succ_cons, List.take_zero, List.drop_succ_cons, List.drop_zero]))
    refine AP.cut (α := Bool) (fun b => [(1, .im (.pt [Ii p, .v (.string (BA nm)), Ii w, Ii n, .sl 8 (rqR l)])), (3, Iv l.length), (4, Iv k), (90, Bv b)]) (fun _ => []) (fun b => b = false ↔ rowS n l k r) ?_ fun b hb => ?_
    · cases k with
      | zero =>
        have hz : decide (0 < ((0 : Nat) : Int)) = false := rfl
        have hw0 : IntKind.i64.wrap (((0 : Nat) : Int) - 1) = -1 := by decide
        have hn1 : (-1 : Int).toNat = 0 := rfl
        cases v with
        | false =>
          skip
          refine AP.drawE 37 (Tree.node [] [0] [1] [Tree.node [] [2, 3, 4, 5, 6, 7, 8, 9, 10, 11, 12, 13, 14, 15, 16, 17, 18, 19, 20, 21, 22, 23, 24, 25, 26, 27, 28, 29, 30, 31, 32, 33, 34, 35, 36] [] []]) (by kernel_rfl) rfl (by kernel_rfl) (by kernel_rfl) ?_
          refine vd_node ?_
          simp only [go_sem, Nat.reduceAdd, Nat.reduceLeDiff, Nat.reduceSub, Int.reduceToNat, reduceCtorEq]
          repeat' (first | with_reducible exact True.intro | with_reducible refine And.intro (by omega) ?_ | with_reducible refine And.intro ?_ ?_ | (refine AQ.nx rfl ?_; simp only [go_sem, Nat.reduceAdd, Nat.reduceLeDiff, Nat.reduceSub, Int.reduceToNat, reduceCtorEq, hz, hw0, hn1, rqR_len, hwl, false_imp_iff, and_true, true_and, and_self, hg, Int.toNat_natCast, List.map_cons, List.map_nil, List.length_cons, List.length_nil, List.take_succ_cons, List.take_zero, List.drop_succ_cons, List.drop_zero]) | (refine AQ.fn (by kernel_rfl) rfl rfl rfl (hrr) rfl ?_; simp only [go_sem, Nat.reduceAdd, Nat.reduceLeDiff, Nat.reduceSub, Int.reduceToNat, reduceCtorEq]) | refine AQ.done ?_ | (refine AQ.go (by kernel_rfl) ?_; simp only [go_sem, Nat.reduceAdd, Nat.reduceLeDiff, Nat.reduceSub, Int.reduceToNat, reduceCtorEq, hz, hw0, hn1, rqR_len, hwl, false_imp_iff, and_true, true_and, and_self, hg, Int.toNat_natCast, List.map_cons, List.map_nil, List.length_cons, List.length_nil, List.take_succ_cons, List.take_zero, List.drop_succ_cons, List.drop_zero]; repeat (with_reducible refine And.intro (by omega) ?_); refine AQ.nx rfl ?_; simp only [go_sem, Nat.reduceAdd, Nat.reduceLeDiff, Nat.reduceSub, Int.reduceToNat, reduceCtorEq, hz, hw0, hn1, rqR_len, hwl, false_imp_iff, and_true, true_and, and_self, hg, Int.toNat_natCast, List.map_cons, List.map_nil, List.length_cons, List.length_nil, List.take_succ_cons, List.take_zero, List.drop_succ_cons, List.drop_zero]))
          all_goals (try (intros; simp_all; done))
          all_goals (try (intros; simp_all; omega))
          simp only [go_sem, Nat.reduceAdd, Nat.reduceLeDiff, Nat.reduceSub, Int.reduceToNat, reduceCtorEq]
          refine AE.forgets [0] rfl ?_
          simp only [go_sem, Nat.reduceAdd, Nat.reduceLeDiff, Nat.reduceSub, Int.reduceToNat, reduceCtorEq]
          exact AE.meet (true) (by simp [rowS, hv]) (by repeat (first | exact Sub.nil _ | refine Sub.cons rfl ?_)) rfl
        | true =>
          skip
          refine AP.drawE 37 (Tree.node [] [0] [1] [Tree.node [] [2, 3, 4, 5, 6, 7, 8, 9, 10, 11, 12, 13, 14, 15, 16, 17, 18, 19, 20, 21, 22, 23, 24, 25, 26, 27, 28, 29, 30, 31, 32, 33, 34, 35, 36] [] []]) (by kernel_rfl) rfl (by kernel_rfl) (by kernel_rfl) ?_
          refine vd_node ?_
          simp only [go_sem, Nat.reduceAdd, Nat.reduceLeDiff, Nat.reduceSub, Int.reduceToNat, reduceCtorEq]
          repeat' (first | with_reducible exact True.intro | with_reducible refine And.intro (by omega) ?_ | with_reducible refine And.intro ?_ ?_ | (refine AQ.nx rfl ?_; simp only [go_sem, Nat.reduceAdd, Nat.reduceLeDiff, Nat.reduceSub, Int.reduceToNat, reduceCtorEq, hz, hw0, hn1, rqR_len, hwl, false_imp_iff, and_true, true_and, and_self, hg, Int.toNat_natCast, List.map_cons, List.map_nil, List.length_cons, List.length_nil, List.take_succ_cons, List.take_zero, List.drop_succ_cons, List.drop_zero]) | (refine AQ.fn (by kernel_rfl) rfl rfl rfl (hrr) rfl ?_; simp only [go_sem, Nat.reduceAdd, Nat.reduceLeDiff, Nat.reduceSub, Int.reduceToNat, reduceCtorEq]) | refine AQ.done ?_ | (refine AQ.go (by kernel_rfl) ?_; simp only [go_sem, Nat.reduceAdd, Nat.reduceLeDiff, Nat.reduceSub, Int.reduceToNat, reduceCtorEq, hz, hw0, hn1, rqR_len, hwl, false_imp_iff, and_true, true_and, and_self, hg, Int.toNat_natCast, List.map_cons, List.map_nil, List.length_cons, List.length_nil, List.take_succ_cons, List.take_zero, List.drop_succ_cons, List.drop_zero]; repeat (with_reducible refine And.intro (by omega) ?_); refine AQ.nx rfl ?_; simp only [go_sem, Nat.reduceAdd, Nat.reduceLeDiff, Nat.reduceSub, Int.reduceToNat, reduceCtorEq, hz, hw0, hn1, rqR_len, hwl, false_imp_iff, and_true, true_and, and_self, hg, Int.toNat_natCast, List.map_cons, List.map_nil, List.length_cons, List.length_nil, List.take_succ_cons, List.take_zero, List.drop_succ_cons, List.drop_zero]))
          all_goals (try (intros; simp_all; done))
          all_goals (try (intros; simp_all; omega))
          simp only [go_sem, Nat.reduceAdd, Nat.reduceLeDiff, Nat.reduceSub, Int.reduceToNat, reduceCtorEq]
          refine AE.forgets [0] rfl ?_
          simp only [go_sem, Nat.reduceAdd, Nat.reduceLeDiff, Nat.reduceSub, Int.reduceToNat, reduceCtorEq]
          exact AE.meet (decide (n ≤ r.n) || r.k == 6 && decide (((0 : Nat) : Int) < (l.length : Int) - 1)) (by simp only [rowS, hv, Bool.or_eq_false_iff, Bool.and_eq_false_iff, decide_eq_false_iff_not, beq_eq_false_iff_ne]; exact ⟨fun h => ⟨trivial, by omega, by omega, by omega⟩, fun ⟨_, h2, h3, h4⟩ => by omega⟩) (by repeat (first | exact Sub.nil _ | refine Sub.cons rfl ?_)) rfl
      | succ j =>
        obtain ⟨r0, hm0, hg0⟩ := rqR_get l j (by omega)
        have hw0 : IntKind.i64.wrap (((j + 1 : Nat) : Int) - 1) = (j : Nat) := by rw [wr (by omega)]; omega
        have hz2 : decide (0 < ((j + 1 : Nat) : Int)) = true := by rw [decide_eq_true_eq]; omega
        cases v with
        | false =>
          skip
          refine AP.drawE 37 (Tree.node [] [0] [1] [Tree.node [] [2, 3, 4, 5, 6, 7, 8, 9, 10, 11, 12, 13, 14, 15, 16, 17, 18, 19, 20, 21, 22, 23, 24, 25, 26, 27, 28, 29, 30, 31, 32, 33, 34, 35, 36] [] []]) (by kernel_rfl) rfl (by kernel_rfl) (by kernel_rfl) ?_
          refine vd_node ?_
          simp only [go_sem, Nat.reduceAdd, Nat.reduceLeDiff, Nat.reduceSub, Int.reduceToNat, reduceCtorEq]
          repeat' (first | with_reducible exact True.intro | with_reducible refine And.intro (by omega) ?_ | with_reducible refine And.intro ?_ ?_ | (refine AQ.nx rfl ?_; simp only [go_sem, Nat.reduceAdd, Nat.reduceLeDiff, Nat.reduceSub, Int.reduceToNat, reduceCtorEq, hz2, hw0, hg0, rqR_len, hwl, false_imp_iff, and_true, true_and, and_self, hg, Int.toNat_natCast, List.map_cons, List.map_nil, List.length_cons, List.length_nil, List.take_succ_cons, List.take_zero, List.drop_succ_cons, List.drop_zero]) | (refine AQ.fn (by kernel_rfl) rfl rfl rfl (hrr) rfl ?_; simp only [go_sem, Nat.reduceAdd, Nat.reduceLeDiff, Nat.reduceSub, Int.reduceToNat, reduceCtorEq]) | refine AQ.done ?_ | (refine AQ.go (by kernel_rfl) ?_; simp only [go_sem, Nat.reduceAdd, Nat.reduceLeDiff, Nat.reduceSub, Int.reduceToNat, reduceCtorEq, hz2, hw0, hg0, rqR_len, hwl, false_imp_iff, and_true, true_and, and_self, hg, Int.toNat_natCast, List.map_cons, List.map_nil, List.length_cons, List.length_nil, List.take_succ_cons, List.take_zero, List.drop_succ_cons, List.drop_zero]; repeat (with_reducible refine And.intro (by omega) ?_); refine AQ.nx rfl ?_; simp only [go_sem, Nat.reduceAdd, Nat.reduceLeDiff, Nat.reduceSub, Int.reduceToNat, reduceCtorEq, hz2, hw0, hg0, rqR_len, hwl, false_imp_iff, and_true, true_and, and_self, hg, Int.toNat_natCast, List.map_cons, List.map_nil, List.length_cons, List.length_nil, List.take_succ_cons, List.take_zero, List.drop_succ_cons, List.drop_zero]))
          all_goals (try (intros; simp_all; done))
          all_goals (try (intros; simp_all; omega))
          simp only [go_sem, Nat.reduceAdd, Nat.reduceLeDiff, Nat.reduceSub, Int.reduceToNat, reduceCtorEq]
          refine AE.forgets [0] rfl ?_
          simp only [go_sem, Nat.reduceAdd, Nat.reduceLeDiff, Nat.reduceSub, Int.reduceToNat, reduceCtorEq]
          exact AE.meet (true) (by simp [rowS, hv]) (by repeat (first | exact Sub.nil _ | refine Sub.cons rfl ?_)) rfl
        | true =>
          skip
          refine AP.drawE 37 (Tree.node [] [0] [1] [Tree.node [] [2, 3, 4, 5, 6, 7, 8, 9, 10, 11, 12, 13, 14, 15, 16, 17, 18, 19, 20, 21, 22, 23, 24, 25, 26, 27, 28, 29, 30, 31, 32, 33, 34, 35, 36] [] []]) (by kernel_rfl) rfl (by kernel_rfl) (by kernel_rfl) ?_
          refine vd_node ?_
          simp only [go_sem, Nat.reduceAdd, Nat.reduceLeDiff, Nat.reduceSub, Int.reduceToNat, reduceCtorEq]
          repeat' (first | with_reducible exact True.intro | with_reducible refine And.intro (by omega) ?_ | with_reducible refine And.intro ?_ ?_ | (refine AQ.nx rfl ?_; simp only [go_sem, Nat.reduceAdd, Nat.reduceLeDiff, Nat.reduceSub, Int.reduceToNat, reduceCtorEq, hz2, hw0, hg0, rqR_len, hwl, false_imp_iff, and_true, true_and, and_self, hg, Int.toNat_natCast, List.map_cons, List.map_nil, List.length_cons, List.length_nil, List.take_succ_cons, List.take_zero, List.drop_succ_cons, List.drop_zero]) | (refine AQ.fn (by kernel_rfl) rfl rfl rfl (hrr) rfl ?_; simp only [go_sem, Nat.reduceAdd, Nat.reduceLeDiff, Nat.reduceSub, Int.reduceToNat, reduceCtorEq]) | refine AQ.done ?_ | (refine AQ.go (by kernel_rfl) ?_; simp only [go_sem, Nat.reduceAdd, Nat.reduceLeDiff, Nat.reduceSub, Int.reduceToNat, reduceCtorEq, hz2, hw0, hg0, rqR_len, hwl, false_imp_iff, and_true, true_and, and_self, hg, Int.toNat_natCast, List.map_cons, List.map_nil, List.length_cons, List.length_nil, List.take_succ_cons, List.take_zero, List.drop_succ_cons, List.drop_zero]; repeat (with_reducible refine And.intro (by omega) ?_); refine AQ.nx rfl ?_; simp only [go_sem, Nat.reduceAdd, Nat.reduceLeDiff, Nat.reduceSub, Int.reduceToNat, reduceCtorEq, hz2, hw0, hg0, rqR_len, hwl, false_imp_iff, and_true, true_and, and_self, hg, Int.toNat_natCast, List.map_cons, List.map_nil, List.length_cons, List.length_nil, List.take_succ_cons, List.take_zero, List.drop_succ_cons, List.drop_zero]))
          all_goals (try (intros; simp_all; done))
          all_goals (try (intros; simp_all; omega))
          simp only [go_sem, Nat.reduceAdd, Nat.reduceLeDiff, Nat.reduceSub, Int.reduceToNat, reduceCtorEq]
          refine AE.forgets [0] rfl ?_
          simp only [go_sem, Nat.reduceAdd, Nat.reduceLeDiff, Nat.reduceSub, Int.reduceToNat, reduceCtorEq]
          exact AE.meet (decide (n ≤ r.n) || decide (r.n ≤ r0.n) || r.k == 6 && decide (((j + 1 : Nat) : Int) < (l.length : Int) - 1)) (by simp only [rowS, hv, Nat.add_sub_cancel, nAt_eq hm0, Bool.or_eq_false_iff, Bool.and_eq_false_iff, decide_eq_false_iff_not, beq_eq_false_iff_ne]; exact ⟨fun h => ⟨trivial, by omega, by omega, by omega⟩, fun ⟨_, h2, h3, h4⟩ => by omega⟩) (by repeat (first | exact Sub.nil _ | refine Sub.cons rfl ?_)) rfl
    repeat (first | refine xA ?_ | refine xB ?_ | refine xC ?_ | refine xE ?_ | refine xD ?_ | refine xK ?_ | refine xS ?_ | refine xM ?_ | refine xT ?_ | refine xF ?_ | ((first | refine xR ?_ | refine xW ?_ | refine vq_id ?_); simp only [go_sem, Nat.reduceAdd, Nat.reduceLeDiff, Nat.reduceSub, Int.reduceToNat, reduceCtorEq]) | (refine ⟨by first | omega | (intros; simp_all; done) | (intros; simp_all; omega), ?_⟩; try simp only [go_sem, Nat.reduceAdd, Nat.reduceLeDiff, Nat.reduceSub, Int.reduceToNat, reduceCtorEq]))
    refine AP.cond rfl rfl (fun hb2 => ?_) (fun hb2 => ?_)
    · subst hb2
      rw [srvE_no fun h => by have := hb.2 (h.2.1 k r hm); cases this]
      repeat (first | refine xA ?_ | refine xB ?_ | refine xC ?_ | refine xE ?_ | refine xD ?_ | refine xK ?_ | refine xS ?_ | refine xM ?_ | refine xT ?_ | refine xF ?_ | ((first | refine xR ?_ | refine xW ?_ | refine vq_id ?_); simp only [go_sem, Nat.reduceAdd, Nat.reduceLeDiff, Nat.reduceSub, Int.reduceToNat, reduceCtorEq]) | (refine ⟨by first | omega | (intros; simp_all; done) | (intros; simp_all; omega), ?_⟩; try simp only [go_sem, Nat.reduceAdd, Nat.reduceLeDiff, Nat.reduceSub, Int.reduceToNat, reduceCtorEq]))
      exact AE.ret0 rfl ⟨rfl, trivial⟩ rfl ⟨rfl, rfl⟩
    subst hb2
    have hrow := hb.1 rfl
    repeat (first | refine xA ?_ | refine xB ?_ | refine xC ?_ | refine xE ?_ | refine xD ?_ | refine xK ?_ | refine xS ?_ | refine xM ?_ | refine xT ?_ | refine xF ?_ | ((first | refine xR ?_ | refine xW ?_ | refine vq_id ?_); simp only [go_sem, Nat.reduceAdd, Nat.reduceLeDiff, Nat.reduceSub, Int.reduceToNat, reduceCtorEq, hw]) | (refine ⟨by first | omega | (intros; simp_all; done) | (intros; simp_all; omega), ?_⟩; try simp only [go_sem, Nat.reduceAdd, Nat.reduceLeDiff, Nat.reduceSub, Int.reduceToNat, reduceCtorEq, hw]))
    refine AE.round (k + 1) ⟨by omega, fun i hi r' hr' => ?_⟩ (by omega) (by repeat (first | exact Sub.nil _ | refine Sub.cons rfl ?_)) rfl
    by_cases hik : i = k
    · subst hik
      rw [hm] at hr'
      cases hr'
      exact hrow
    · exact hrows i (by omega) r' hr'
  · have hke : k = l.length := by simp at hc; omega
    have hall : ∀ (i : Nat) (r : Rq), l[i]? = some r → rowS n l i r := fun i r hr => hrows i (by rw [hke]; exact (List.getElem?_eq_some_iff.1 hr).1) r hr
    first | refine xPP rfl ?_ | (refine xPE rfl ?_; refine xEP rfl ?_)
    refine AP.cut (α := Bool) (fun b => [(1, .im (.pt [Ii p, .v (.string (BA nm)), Ii w, Ii n, .sl 8 (rqR l)])), (3, Iv l.length), (99, Bv b)]) (fun _ => []) (fun b => b = false ↔ ∀ r, l[0]? = some r → r.a = false) ?_ fun b hb => ?_
    · cases l with
      | nil =>
        have hz : decide (((0 : Nat) : Int) > 0) = false := rfl
        have hz2 : decide (0 < ((0 : Nat) : Int)) = false := rfl
        repeat (first | refine xA ?_ | refine xB ?_ | refine xC ?_ | refine xE ?_ | refine xD ?_ | refine xK ?_ | refine xS ?_ | refine xM ?_ | refine xT ?_ | refine xF ?_ | ((first | refine xR ?_ | refine xW ?_ | refine vq_id ?_); simp only [go_sem, Nat.reduceAdd, Nat.reduceLeDiff, Nat.reduceSub, Int.reduceToNat, reduceCtorEq, rqR_len, List.length_nil, hz, hz2, Bool.false_and, Bool.and_false]) | (refine ⟨by first | omega | (intros; simp_all; done) | (intros; simp_all; omega), ?_⟩; try simp only [go_sem, Nat.reduceAdd, Nat.reduceLeDiff, Nat.reduceSub, Int.reduceToNat, reduceCtorEq, rqR_len, List.length_nil, hz, hz2, Bool.false_and, Bool.and_false]))
        exact AE.meet false (by simp) (by repeat (first | exact Sub.nil _ | refine Sub.cons rfl ?_)) rfl
      | cons r t =>
        have hg0 : (rqR (r :: t)).getD 0 [] = [Ii r.n, Ii r.k, Si r.b, .v (.bool r.c), .v (.bool r.a), Ii r.ak, Ii r.an, Si r.ab] := rfl
        have hz : decide (((t.length + 1 : Nat) : Int) > 0) = true := by simp
        have hz2 : decide (0 < ((t.length + 1 : Nat) : Int)) = true := by simp
        repeat (first | refine xA ?_ | refine xB ?_ | refine xC ?_ | refine xE ?_ | refine xD ?_ | refine xK ?_ | refine xS ?_ | refine xM ?_ | refine xT ?_ | refine xF ?_ | ((first | refine xR ?_ | refine xW ?_ | refine vq_id ?_); simp only [go_sem, Nat.reduceAdd, Nat.reduceLeDiff, Nat.reduceSub, Int.reduceToNat, reduceCtorEq, rqR_len, hg0, hz, hz2, Int.toNat_natCast, List.map_cons, List.map_nil, List.length_cons, List.length_nil, List.take_succ_cons, List.take_zero, List.drop_succ_cons, List.drop_zero, Bool.true_and]) | (refine ⟨by first | omega | (intros; simp_all; done) | (intros; simp_all; omega), ?_⟩; try simp only [go_sem, Nat.reduceAdd, Nat.reduceLeDiff, Nat.reduceSub, Int.reduceToNat, reduceCtorEq, rqR_len, hg0, hz, hz2, Int.toNat_natCast, List.map_cons, List.map_nil, List.length_cons, List.length_nil, List.take_succ_cons, List.take_zero, List.drop_succ_cons, List.drop_zero, Bool.true_and]))
        exact AE.meet r.a (by simp) (by repeat (first | exact Sub.nil _ | refine Sub.cons rfl ?_)) rfl
    repeat (first | refine xA ?_ | refine xB ?_ | refine xC ?_ | refine xE ?_ | refine xD ?_ | refine xK ?_ | refine xS ?_ | refine xM ?_ | refine xT ?_ | refine xF ?_ | ((first | refine xR ?_ | refine xW ?_ | refine vq_id ?_); simp only [go_sem, Nat.reduceAdd, Nat.reduceLeDiff, Nat.reduceSub, Int.reduceToNat, reduceCtorEq]) | (refine ⟨by first | omega | (intros; simp_all; done) | (intros; simp_all; omega), ?_⟩; try simp only [go_sem, Nat.reduceAdd, Nat.reduceLeDiff, Nat.reduceSub, Int.reduceToNat, reduceCtorEq]))
    refine AP.cond rfl rfl (fun hb2 => ?_) (fun hb2 => ?_)
    · subst hb2
      rw [srvE_no fun h => by have := hb.2 h.2.2.1; cases this]
      repeat (first | refine xA ?_ | refine xB ?_ | refine xC ?_ | refine xE ?_ | refine xD ?_ | refine xK ?_ | refine xS ?_ | refine xM ?_ | refine xT ?_ | refine xF ?_ | ((first | refine xR ?_ | refine xW ?_ | refine vq_id ?_); simp only [go_sem, Nat.reduceAdd, Nat.reduceLeDiff, Nat.reduceSub, Int.reduceToNat, reduceCtorEq]) | (refine ⟨by first | omega | (intros; simp_all; done) | (intros; simp_all; omega), ?_⟩; try simp only [go_sem, Nat.reduceAdd, Nat.reduceLeDiff, Nat.reduceSub, Int.reduceToNat, reduceCtorEq]))
      exact AE.ret0 rfl ⟨rfl, trivial⟩ rfl ⟨rfl, rfl⟩
    subst hb2
    have h0 := hb.1 rfl
    repeat (first | refine xA ?_ | refine xB ?_ | refine xC ?_ | refine xE ?_ | refine xD ?_ | refine xK ?_ | refine xS ?_ | refine xM ?_ | refine xT ?_ | refine xF ?_ | ((first | refine xR ?_ | refine xW ?_ | refine vq_id ?_); simp only [go_sem, Nat.reduceAdd, Nat.reduceLeDiff, Nat.reduceSub, Int.reduceToNat, reduceCtorEq]) | (refine ⟨by first | omega | (intros; simp_all; done) | (intros; simp_all; omega), ?_⟩; try simp only [go_sem, Nat.reduceAdd, Nat.reduceLeDiff, Nat.reduceSub, Int.reduceToNat, reduceCtorEq]))
    refine AP.cond rfl rfl (fun hp => ?_) (fun hp => ?_)
    · have hp' : p = 0 := by simpa using hp
      repeat (first | refine xA ?_ | refine xB ?_ | refine xC ?_ | refine xE ?_ | refine xD ?_ | refine xK ?_ | refine xS ?_ | refine xM ?_ | refine xT ?_ | refine xF ?_ | ((first | refine xR ?_ | refine xW ?_ | refine vq_id ?_); simp only [go_sem, Nat.reduceAdd, Nat.reduceLeDiff, Nat.reduceSub, Int.reduceToNat, reduceCtorEq]) | (refine ⟨by first | omega | (intros; simp_all; done) | (intros; simp_all; omega), ?_⟩; try simp only [go_sem, Nat.reduceAdd, Nat.reduceLeDiff, Nat.reduceSub, Int.reduceToNat, reduceCtorEq]))
      refine AP.cond rfl rfl (fun h2 => ?_) (fun h2 => ?_)
      · rw [srvE_no fun h => by
          have h3 := h.2.2.2
          rw [if_pos hp'] at h3
          simp only [Bool.or_eq_true, bne_iff_ne, decide_eq_true_eq] at h2
          rcases h2 with (h2 | h2) | h2
          · simp [h3.1] at h2
          · exact h2 h3.2.1
          · omega]
        repeat (first | refine xA ?_ | refine xB ?_ | refine xC ?_ | refine xE ?_ | refine xD ?_ | refine xK ?_ | refine xS ?_ | refine xM ?_ | refine xT ?_ | refine xF ?_ | ((first | refine xR ?_ | refine xW ?_ | refine vq_id ?_); simp only [go_sem, Nat.reduceAdd, Nat.reduceLeDiff, Nat.reduceSub, Int.reduceToNat, reduceCtorEq]) | (refine ⟨by first | omega | (intros; simp_all; done) | (intros; simp_all; omega), ?_⟩; try simp only [go_sem, Nat.reduceAdd, Nat.reduceLeDiff, Nat.reduceSub, Int.reduceToNat, reduceCtorEq]))
        exact AE.ret0 rfl ⟨rfl, trivial⟩ rfl ⟨rfl, rfl⟩
      · rw [srvE_yes ⟨hh1, hall, h0, by
          rw [if_pos hp']
          simp only [Bool.or_eq_false_iff, decide_eq_false_iff_not] at h2
          refine ⟨by simpa using h2.1.1, by simpa using h2.1.2, by omega⟩⟩]
        repeat (first | refine xA ?_ | refine xB ?_ | refine xC ?_ | refine xE ?_ | refine xD ?_ | refine xK ?_ | refine xS ?_ | refine xM ?_ | refine xT ?_ | refine xF ?_ | ((first | refine xR ?_ | refine xW ?_ | refine vq_id ?_); simp only [go_sem, Nat.reduceAdd, Nat.reduceLeDiff, Nat.reduceSub, Int.reduceToNat, reduceCtorEq]) | (refine ⟨by first | omega | (intros; simp_all; done) | (intros; simp_all; omega), ?_⟩; try simp only [go_sem, Nat.reduceAdd, Nat.reduceLeDiff, Nat.reduceSub, Int.reduceToNat, reduceCtorEq]))
        exact AE.ret0 rfl ⟨rfl, trivial⟩ rfl ⟨rfl, rfl⟩
    have hp' : p ≠ 0 := by simpa using hp
    have hsy := isSymbol_ref nm hnm
    obtain ⟨ok, hok⟩ : ∃ v, onlyOk nm [2, 3] = v := ⟨_, rfl⟩
    rw [hok] at hsy
    first | refine xPP rfl ?_ | (refine xPE rfl ?_; refine xEP rfl ?_)
    refine AP.cut (α := Bool) (fun b => [(1, .im (.pt [Ii p, .v (.string (BA nm)), Ii w, Ii n, .sl 8 (rqR l)])), (3, Iv l.length), (6, Bv b)]) (fun _ => []) (fun b => b = true ↔ byeL l) ?_ fun b hb => ?_
    · cases l with
      | nil =>
        have hz : decide (((0 : Nat) : Int) > 0) = false := rfl
        have hz2 : decide (0 < ((0 : Nat) : Int)) = false := rfl
        repeat (first | refine xA ?_ | refine xB ?_ | refine xC ?_ | refine xE ?_ | refine xD ?_ | refine xK ?_ | refine xS ?_ | refine xM ?_ | refine xT ?_ | refine xF ?_ | ((first | refine xR ?_ | refine xW ?_ | refine vq_id ?_); simp only [go_sem, Nat.reduceAdd, Nat.reduceLeDiff, Nat.reduceSub, Int.reduceToNat, reduceCtorEq, rqR_len, List.length_nil, hz, hz2, Bool.false_and, Bool.and_false]) | (refine ⟨by first | omega | (intros; simp_all; done) | (intros; simp_all; omega), ?_⟩; try simp only [go_sem, Nat.reduceAdd, Nat.reduceLeDiff, Nat.reduceSub, Int.reduceToNat, reduceCtorEq, rqR_len, List.length_nil, hz, hz2, Bool.false_and, Bool.and_false]))
        exact AE.meet false (by simp [byeL]) (by repeat (first | exact Sub.nil _ | refine Sub.cons rfl ?_)) rfl
      | cons r t =>
        obtain ⟨r2, hm2, hg2⟩ := rqR_get (r :: t) t.length (by simp)
        have hw00 : ((t.length + 1 : Nat) : Int) - 1 = (t.length : Nat) := by omega
        have hw0 := wr (x := ((t.length : Nat) : Int)) (by simp at hl; omega)
        have hz : decide (((t.length + 1 : Nat) : Int) > 0) = true := by simp
        have hz2 : decide (0 < ((t.length + 1 : Nat) : Int)) = true := by simp
        repeat (first | refine xA ?_ | refine xB ?_ | refine xC ?_ | refine xE ?_ | refine xD ?_ | refine xK ?_ | refine xS ?_ | refine xM ?_ | refine xT ?_ | refine xF ?_ | ((first | refine xR ?_ | refine xW ?_ | refine vq_id ?_); simp only [go_sem, Nat.reduceAdd, Nat.reduceLeDiff, Nat.reduceSub, Int.reduceToNat, reduceCtorEq, rqR_len, hg2, hz, hz2, hw0, hw00, Int.toNat_natCast, List.map_cons, List.map_nil, List.length_cons, List.length_nil, List.take_succ_cons, List.take_zero, List.drop_succ_cons, List.drop_zero, Bool.true_and]) | (refine ⟨by first | omega | (intros; simp_all; done) | (intros; simp_all; omega), ?_⟩; try simp only [go_sem, Nat.reduceAdd, Nat.reduceLeDiff, Nat.reduceSub, Int.reduceToNat, reduceCtorEq, rqR_len, hg2, hz, hz2, hw0, hw00, Int.toNat_natCast, List.map_cons, List.map_nil, List.length_cons, List.length_nil, List.take_succ_cons, List.take_zero, List.drop_succ_cons, List.drop_zero, Bool.true_and]))
        exact AE.meet (r2.k == 6) (by simp [byeL, kAt_eq hm2]) (by repeat (first | exact Sub.nil _ | refine Sub.cons rfl ?_)) rfl
    repeat (first | refine xA ?_ | refine xB ?_ | refine xC ?_ | refine xE ?_ | refine xD ?_ | refine xK ?_ | refine xS ?_ | refine xM ?_ | refine xT ?_ | refine xF ?_ | ((first | refine xR ?_ | refine xW ?_ | refine vq_id ?_); simp only [go_sem, Nat.reduceAdd, Nat.reduceLeDiff, Nat.reduceSub, Int.reduceToNat, reduceCtorEq]) | (refine ⟨by first | omega | (intros; simp_all; done) | (intros; simp_all; omega), ?_⟩; try simp only [go_sem, Nat.reduceAdd, Nat.reduceLeDiff, Nat.reduceSub, Int.reduceToNat, reduceCtorEq]))
    refine AQ.fn (by kernel_rfl) rfl rfl rfl (hsy) rfl ?_
    repeat (first | refine xA ?_ | refine xB ?_ | refine xC ?_ | refine xE ?_ | refine xD ?_ | refine xK ?_ | refine xS ?_ | refine xM ?_ | refine xT ?_ | refine xF ?_ | ((first | refine xR ?_ | refine xW ?_ | refine vq_id ?_); simp only [go_sem, Nat.reduceAdd, Nat.reduceLeDiff, Nat.reduceSub, Int.reduceToNat, reduceCtorEq]) | (refine ⟨by first | omega | (intros; simp_all; done) | (intros; simp_all; omega), ?_⟩; try simp only [go_sem, Nat.reduceAdd, Nat.reduceLeDiff, Nat.reduceSub, Int.reduceToNat, reduceCtorEq]))
    refine AP.cond rfl rfl (fun h2 => ?_) (fun h2 => ?_)
    · rw [srvE_no fun h => by
        have h3 := h.2.2.2
        rw [if_neg hp'] at h3
        obtain ⟨g1, g2, g3, g4⟩ := h3
        have e : (b != (p == 2)) = false := by rw [bne_eq_false_iff_eq, Bool.eq_iff_iff, beq_iff_eq]; exact hb.trans g3
        have e2 : (p == 3 && decide (0 < (l.length : Int))) = false := by rw [Bool.and_eq_false_iff, beq_eq_false_iff_ne, decide_eq_false_iff_not]; omega
        rw [hok] at g1
        rw [g1, e, e2] at h2
        simp at h2
        exact g2 h2]
      repeat (first | refine xA ?_ | refine xB ?_ | refine xC ?_ | refine xE ?_ | refine xD ?_ | refine xK ?_ | refine xS ?_ | refine xM ?_ | refine xT ?_ | refine xF ?_ | ((first | refine xR ?_ | refine xW ?_ | refine vq_id ?_); simp only [go_sem, Nat.reduceAdd, Nat.reduceLeDiff, Nat.reduceSub, Int.reduceToNat, reduceCtorEq]) | (refine ⟨by first | omega | (intros; simp_all; done) | (intros; simp_all; omega), ?_⟩; try simp only [go_sem, Nat.reduceAdd, Nat.reduceLeDiff, Nat.reduceSub, Int.reduceToNat, reduceCtorEq]))
      exact AE.ret0 rfl ⟨rfl, trivial⟩ rfl ⟨rfl, rfl⟩
    · rw [srvE_yes ⟨hh1, hall, h0, by
        rw [if_neg hp']
        simp only [Bool.or_eq_false_iff, Bool.not_eq_false', beq_eq_false_iff_ne, bne_eq_false_iff_eq, Bool.and_eq_false_iff, decide_eq_false_iff_not] at h2
        obtain ⟨⟨⟨a1, a2⟩, a3⟩, a4⟩ := h2
        refine ⟨by rw [hok]; exact a1, a2, ?_, by omega⟩
        show byeL l ↔ p = 2
        rw [← hb, a3, beq_iff_eq]⟩]
      repeat (first | refine xA ?_ | refine xB ?_ | refine xC ?_ | refine xE ?_ | refine xD ?_ | refine xK ?_ | refine xS ?_ | refine xM ?_ | refine xT ?_ | refine xF ?_ | ((first | refine xR ?_ | refine xW ?_ | refine vq_id ?_); simp only [go_sem, Nat.reduceAdd, Nat.reduceLeDiff, Nat.reduceSub, Int.reduceToNat, reduceCtorEq]) | (refine ⟨by first | omega | (intros; simp_all; done) | (intros; simp_all; omega), ?_⟩; try simp only [go_sem, Nat.reduceAdd, Nat.reduceLeDiff, Nat.reduceSub, Int.reduceToNat, reduceCtorEq]))
      exact AE.ret0 rfl ⟨rfl, trivial⟩ rfl ⟨rfl, rfl⟩
end Go.Proofs.YtlpcdpjkdodmcaaGreatDoor
end

section
namespace Go.Proofs.YtlpcdpjkdodmcaaGreatDoor
open Go Go.AL Go.RowKit
set_option maxRecDepth 10000
set_option maxHeartbeats 4000000
def chainT (p w n : Int) (l : List Rq) (K N : Int) (t : List UInt8) : Int :=
  if decide (2 ≤ p) = true then 14 else if (p == 0 && K != 1 || p == 1 && (decide (K < 2) || decide (6 < K))) = true then 411 else if msgE K N t ≠ 0 then msgE K N t
  else if (N != n) = true then 412 else if ((l.length : Int) == w) = true then 413 else if (n == 2147483647) = true then 8 else 0
noncomputable def takeE (p : Int) (nm : List UInt8) (w n : Int) (l : List Rq) (K N : Int) (t : List UInt8) : Int := if srvC p nm w n l = false then 13 else chainT p w n l K N t
def retT (e : Int) (v : AV) : AV := if e ≠ 0 then failS e else v
def cancelled (l : List Rq) (i : Int) : List Rq := l.set i.toNat ⟨(rAt l i).n, (rAt l i).k, (rAt l i).b, true, true, 9, (rAt l i).n, [48, 32, 48]⟩
def freeB (c : Int) (r : Rq) : Bool := r.n == c && workB r.k && !r.a
def okT (p : Int) (nm : List UInt8) (w n : Int) (l : List Rq) : AV := okS (rdy p l).1 nm w n (rdy p l).2.1 (rdy p l).2.2 0
def taken (p : Int) (nm : List UInt8) (w n : Int) (l : List Rq) (K N : Int) (t : List UInt8) : AV :=
  if K = 1 then okS 1 t w (n + 1) l [(7, N, Lib.itoa w)] 0
  else if K = 5 then
    if idxQ (freeB (atoiV t).1) (l ++ [⟨N, K, t, false, false, 0, 0, []⟩]) < 0 then okT p nm w (n + 1) (l ++ [⟨N, K, t, false, true, 8, N, [48]⟩])
    else okT p nm w (n + 1) (cancelled (l ++ [⟨N, K, t, false, true, 8, N, [49]⟩]) (idxQ (freeB (atoiV t).1) (l ++ [⟨N, K, t, false, false, 0, 0, []⟩])))
  else if K = 6 then okT 2 nm w (n + 1) (l ++ [⟨N, K, t, false, true, 8, N, []⟩])
  else okT p nm w (n + 1) (l ++ [⟨N, K, t, false, false, 0, 0, []⟩])
theorem free_spec (c : Int) (r : Rq) : PFn Tryz.prog 40 [.agg [Iv r.n, Iv r.k, Sv r.b, Bv r.c, Bv r.a, Iv r.ak, Iv r.an, Sv r.ab], .im (.pt [Ii c])] (Bv (freeB c r)) := by
  have hw := work_spec r
  obtain ⟨v, hv⟩ : ∃ v, (r.n == c) = v := ⟨_, rfl⟩
  unfold freeB
  rw [hv]
  cases v with
  | false =>
    refine ACall.walk [0, 1, 2, 3] [] Tryz.func40 rfl Tryz.ntmps40 (by kernel_rfl) (by rfl) rfl fun W own I0 φ0 lay => ?_
    repeat (first | refine xA ?_ | refine xB ?_ | refine xC ?_ | refine xE ?_ | refine xD ?_ | refine xK ?_ | refine xS ?_ | refine xM ?_ | refine xT ?_ | refine xF ?_ | ((first | refine xR ?_ | refine xW ?_ | refine vq_id ?_); simp only [go_sem, Nat.reduceAdd, Nat.reduceLeDiff, Nat.reduceSub, Int.reduceToNat, reduceCtorEq, hv]) | (refine ⟨by first | omega | (intros; simp_all; done) | (intros; simp_all; omega), ?_⟩; try simp only [go_sem, Nat.reduceAdd, Nat.reduceLeDiff, Nat.reduceSub, Int.reduceToNat, reduceCtorEq, hv]))
    exact AE.ret0 rfl ⟨rfl, trivial⟩ rfl ⟨rfl, rfl⟩
  | true =>
    refine ACall.walk [0, 1, 2, 3] [] Tryz.func40 rfl Tryz.ntmps40 (by kernel_rfl) (by rfl) rfl fun W own I0 φ0 lay => ?_
    repeat (first | refine xA ?_ | refine xB ?_ | refine xC ?_ | refine xE ?_ | refine xD ?_ | refine xK ?_ | refine xS ?_ | refine xM ?_ | refine xT ?_ | refine xF ?_ | ((first | refine xR ?_ | refine xW ?_ | refine vq_id ?_); simp only [go_sem, Nat.reduceAdd, Nat.reduceLeDiff, Nat.reduceSub, Int.reduceToNat, reduceCtorEq, hv]) | (refine ⟨by first | omega | (intros; simp_all; done) | (intros; simp_all; omega), ?_⟩; try simp only [go_sem, Nat.reduceAdd, Nat.reduceLeDiff, Nat.reduceSub, Int.reduceToNat, reduceCtorEq, hv]))
    refine AQ.guard_yes (by simp only [go_sem]) ?_
    refine AQ.fn_g (by kernel_rfl) rfl rfl (fun h => by first | (simp [gs, AV.g]; done) | (simp [gs, AV.g, constAV]; done) | (simp [gs, AV.g, constAV, bw] at h ⊢; done) | (simp [gs, AV.g, constAV, bw] at h ⊢; exact h) | (simp [gs, AV.g, constAV, bw] at h ⊢; simp [h]; done) | (simp [bw] at h; done) | (simp [gs, AV.g, bw] at h ⊢; simp [h]; done) | (simp [gs, AV.g, bw] at h ⊢; exact h.1) | (simp [gs, AV.g]; rfl) | (simp [gs, AV.g, bw] at h ⊢; rfl) | (simp [gs, AV.g, bw] at h ⊢; simp [h]; rfl) | (simp [gs, AV.g, bw] at h ⊢; simp_all)) rfl (fun _ => hw) rfl ?_
    repeat (first | refine xA ?_ | refine xB ?_ | refine xC ?_ | refine xE ?_ | refine xD ?_ | refine xK ?_ | refine xS ?_ | refine xM ?_ | refine xT ?_ | refine xF ?_ | ((first | refine xR ?_ | refine xW ?_ | refine vq_id ?_); simp only [go_sem, Nat.reduceAdd, Nat.reduceLeDiff, Nat.reduceSub, Int.reduceToNat, reduceCtorEq, hv]) | (refine ⟨by first | omega | (intros; simp_all; done) | (intros; simp_all; omega), ?_⟩; try simp only [go_sem, Nat.reduceAdd, Nat.reduceLeDiff, Nat.reduceSub, Int.reduceToNat, reduceCtorEq, hv]))
    exact AE.ret0 rfl ⟨rfl, trivial⟩ rfl ⟨rfl, rfl⟩
theorem idxQ_some {f : Rq → Bool} {l : List Rq} {j : Nat} (h : idxQ f l = j) : ∃ r, l[j]? = some r ∧ f r = true := by
  unfold idxQ at h
  split at h
  · rename_i i hi
    have e : i = j := by omega
    subst e
    obtain ⟨h1, h2, _⟩ := List.findIdx?_eq_some_iff_getElem.1 hi
    exact ⟨l[i], List.getElem?_eq_getElem h1, h2⟩
  · omega
theorem rows_can {l : List Rq} {j : Nat} {r : Rq} (hm : l[j]? = some r) (N : Int) :
    (((rqR l).set j (List.take 3 ((rqR l).getD j []) ++ [IV.v (Value.bool true)] ++ List.drop 4 ((rqR l).getD j []))).set j (List.take 4 (((rqR l).set j (List.take 3 ((rqR l).getD j []) ++ [IV.v (Value.bool true)] ++ List.drop 4 ((rqR l).getD j []))).getD j []) ++ [IV.v (Value.bool true)] ++ List.drop 5 (((rqR l).set j (List.take 3 ((rqR l).getD j []) ++ [IV.v (Value.bool true)] ++ List.drop 4 ((rqR l).getD j []))).getD j []))).set j (List.take 5 ((((rqR l).set j (List.take 3 ((rqR l).getD j []) ++ [IV.v (Value.bool true)] ++ List.drop 4 ((rqR l).getD j []))).set j (List.take 4 (((rqR l).set j (List.take 3 ((rqR l).getD j []) ++ [IV.v (Value.bool true)] ++ List.drop 4 ((rqR l).getD j []))).getD j []) ++ [IV.v (Value.bool true)] ++ List.drop 5 (((rqR l).set j (List.take 3 ((rqR l).getD j []) ++ [IV.v (Value.bool true)] ++ List.drop 4 ((rqR l).getD j []))).getD j []))).getD j []) ++ [IV.v (Value.int IntKind.i64 9), IV.v (Value.int IntKind.i64 N), IV.v (Value.string (BA [48, 32, 48]))] ++ List.drop 8 ((((rqR l).set j (List.take 3 ((rqR l).getD j []) ++ [IV.v (Value.bool true)] ++ List.drop 4 ((rqR l).getD j []))).set j (List.take 4 (((rqR l).set j (List.take 3 ((rqR l).getD j []) ++ [IV.v (Value.bool true)] ++ List.drop 4 ((rqR l).getD j []))).getD j []) ++ [IV.v (Value.bool true)] ++ List.drop 5 (((rqR l).set j (List.take 3 ((rqR l).getD j []) ++ [IV.v (Value.bool true)] ++ List.drop 4 ((rqR l).getD j []))).getD j []))).getD j []))
      = rqR (l.set j ⟨r.n, r.k, r.b, true, true, 9, N, [48, 32, 48]⟩) := by
  have hj := (List.getElem?_eq_some_iff.1 hm).1
  obtain ⟨r', hm', hg⟩ := rqR_get l j hj
  rw [hm] at hm'
  cases hm'
  have e : (rqR l).set j (List.take 3 ((rqR l).getD j []) ++ [IV.v (Value.bool true)] ++ List.drop 4 ((rqR l).getD j [])) = rqR (l.set j ⟨r.n, r.k, r.b, true, r.a, r.ak, r.an, r.ab⟩) := by
    rw [hg]; simp only [rqR, List.map_set]; rfl
  have hm2 : (l.set j ⟨r.n, r.k, r.b, true, r.a, r.ak, r.an, r.ab⟩)[j]? = some ⟨r.n, r.k, r.b, true, r.a, r.ak, r.an, r.ab⟩ := List.getElem?_set_self hj
  rw [e, show ([IV.v (Value.int IntKind.i64 9), IV.v (Value.int IntKind.i64 N), IV.v (Value.string (BA [48, 32, 48]))] : List IV) = [Ii 9, Ii N, Si [48, 32, 48]] from rfl, rows_ans hm2 9 N [48, 32, 48], List.set_set]
theorem rows_last (l : List Rq) (N K : Int) (t : List UInt8) (K' N' : Int) (t' : List UInt8) :
    ((rqR (l ++ [⟨N, K, t, false, false, 0, 0, []⟩])).set l.length (List.take 4 ((rqR (l ++ [⟨N, K, t, false, false, 0, 0, []⟩])).getD l.length []) ++ [IV.v (Value.bool true)] ++ List.drop 5 ((rqR (l ++ [⟨N, K, t, false, false, 0, 0, []⟩])).getD l.length []))).set l.length (List.take 5 (((rqR (l ++ [⟨N, K, t, false, false, 0, 0, []⟩])).set l.length (List.take 4 ((rqR (l ++ [⟨N, K, t, false, false, 0, 0, []⟩])).getD l.length []) ++ [IV.v (Value.bool true)] ++ List.drop 5 ((rqR (l ++ [⟨N, K, t, false, false, 0, 0, []⟩])).getD l.length []))).getD l.length []) ++ [Ii K', Ii N', Si t'] ++ List.drop 8 (((rqR (l ++ [⟨N, K, t, false, false, 0, 0, []⟩])).set l.length (List.take 4 ((rqR (l ++ [⟨N, K, t, false, false, 0, 0, []⟩])).getD l.length []) ++ [IV.v (Value.bool true)] ++ List.drop 5 ((rqR (l ++ [⟨N, K, t, false, false, 0, 0, []⟩])).getD l.length []))).getD l.length []))
      = rqR (l ++ [⟨N, K, t, false, true, K', N', t'⟩]) := by
  rw [rows_ans (r := ⟨N, K, t, false, false, 0, 0, []⟩) (by simp) K' N' t']
  simp
theorem take_spec (p : Int) (nm : List UInt8) (w n : Int) (l : List Rq) (hl : l.length ≤ 100000) (hnm : nm.length ≤ 9223372036854775807) (K N : Int) (t : List UInt8) :
    PFn Tryz.prog 13 [.agg [Iv p, Sv nm, Iv w, Iv n, .im (.sl 8 (rqR l))], .agg [Iv K, Iv N, Sv t]] (retT (takeE p nm w n l K N t) (taken p nm w n l K N t)) := by
  refine ACall.walk [0, 1, 2, 3, 4, 5, 6, 7, 8, 9, 10, 11, 13, 14, 23, 32, 64, 71, 82, 94, 109, 143, 144, 158, 186] [2, 4, 11] Tryz.func13 rfl Tryz.ntmps13 (by kernel_rfl) (by rfl) rfl fun W own I0 φ0 lay => ?_
  repeat (first | refine xA ?_ | refine xB ?_ | refine xC ?_ | refine xE ?_ | refine xD ?_ | refine xK ?_ | refine xS ?_ | refine xM ?_ | refine xT ?_ | refine xF ?_ | ((first | refine xR ?_ | refine xW ?_ | refine vq_id ?_); simp only [go_sem, Nat.reduceAdd, Nat.reduceLeDiff, Nat.reduceSub, Int.reduceToNat, reduceCtorEq]) | (refine ⟨by first | omega | (intros; simp_all; done) | (intros; simp_all; omega), ?_⟩; try simp only [go_sem, Nat.reduceAdd, Nat.reduceLeDiff, Nat.reduceSub, Int.reduceToNat, reduceCtorEq]))
  refine AQ.fn (by kernel_rfl) rfl rfl rfl (chk_spec p nm w n l (by omega) hnm) rfl ?_
  repeat (first | refine xA ?_ | refine xB ?_ | refine xC ?_ | refine xE ?_ | refine xD ?_ | refine xK ?_ | refine xS ?_ | refine xM ?_ | refine xT ?_ | refine xF ?_ | ((first | refine xR ?_ | refine xW ?_ | refine vq_id ?_); simp only [go_sem, Nat.reduceAdd, Nat.reduceLeDiff, Nat.reduceSub, Int.reduceToNat, reduceCtorEq]) | (refine ⟨by first | omega | (intros; simp_all; done) | (intros; simp_all; omega), ?_⟩; try simp only [go_sem, Nat.reduceAdd, Nat.reduceLeDiff, Nat.reduceSub, Int.reduceToNat, reduceCtorEq]))
  unfold srvE takeE
  refine AP.cond rfl rfl (fun h1 => ?_) (fun h1 => ?_)
  · have h1' : srvC p nm w n l = false := by
      rcases Bool.eq_false_or_eq_true (srvC p nm w n l) with h | h
      · rw [h] at h1; exact absurd h1 (by decide)
      · exact h
    rw [if_pos h1', retT, if_pos (by decide)]
    repeat (first | refine xA ?_ | refine xB ?_ | refine xC ?_ | refine xE ?_ | refine xD ?_ | refine xK ?_ | refine xS ?_ | refine xM ?_ | refine xT ?_ | refine xF ?_ | ((first | refine xR ?_ | refine xW ?_ | refine vq_id ?_); simp only [go_sem, Nat.reduceAdd, Nat.reduceLeDiff, Nat.reduceSub, Int.reduceToNat, reduceCtorEq]) | (refine ⟨by first | omega | (intros; simp_all; done) | (intros; simp_all; omega), ?_⟩; try simp only [go_sem, Nat.reduceAdd, Nat.reduceLeDiff, Nat.reduceSub, Int.reduceToNat, reduceCtorEq]))
    refine AQ.fnL ([Iv 13]) (by kernel_rfl) rfl rfl rfl (by ((try simp only [List.nil_append, List.append_nil, List.cons_append, List.map_cons, List.map_nil, AV.st, constAV]); repeat (first | with_reducible exact LentC.nil | with_reducible exact LentAs.nil | with_reducible refine LentC.cons ?_ ?_ | with_reducible refine LentAs.cons ?_ ?_ | with_reducible exact Lent.im _ | with_reducible exact LentA.im _ | with_reducible refine LentA.of ?_ | with_reducible refine LentA.agg ?_ | ((with_reducible apply Lent.osw); rfl; simp only [blkR_len, wrR_len, byteR_len, List.length_append, List.length_cons, List.length_nil]) | ((with_reducible apply Lent.ob0); rfl)))) (tfail_told 13) rfl (fun _ => rfl) ?_
    repeat (first | refine xA ?_ | refine xB ?_ | refine xC ?_ | refine xE ?_ | refine xD ?_ | refine xK ?_ | refine xS ?_ | refine xM ?_ | refine xT ?_ | refine xF ?_ | ((first | refine xR ?_ | refine xW ?_ | refine vq_id ?_); simp only [go_sem, Nat.reduceAdd, Nat.reduceLeDiff, Nat.reduceSub, Int.reduceToNat, reduceCtorEq]) | (refine ⟨by first | omega | (intros; simp_all; done) | (intros; simp_all; omega), ?_⟩; try simp only [go_sem, Nat.reduceAdd, Nat.reduceLeDiff, Nat.reduceSub, Int.reduceToNat, reduceCtorEq]))
    exact AE.retD [0, 1] rfl ⟨⟨rfl, Nat.le_of_ble_eq_true (by kernel_rfl)⟩, rfl, rfl, trivial⟩ rfl ⟨rfl, rfl⟩
  have h1' : srvC p nm w n l = true := by
    rcases Bool.eq_false_or_eq_true (srvC p nm w n l) with h | h
    · exact h
    · rw [h] at h1; exact absurd h1 (by decide)
  rw [if_neg (by rw [h1']; decide), chainT]
  repeat (first | refine xA ?_ | refine xB ?_ | refine xC ?_ | refine xE ?_ | refine xD ?_ | refine xK ?_ | refine xS ?_ | refine xM ?_ | refine xT ?_ | refine xF ?_ | ((first | refine xR ?_ | refine xW ?_ | refine vq_id ?_); simp only [go_sem, Nat.reduceAdd, Nat.reduceLeDiff, Nat.reduceSub, Int.reduceToNat, reduceCtorEq]) | (refine ⟨by first | omega | (intros; simp_all; done) | (intros; simp_all; omega), ?_⟩; try simp only [go_sem, Nat.reduceAdd, Nat.reduceLeDiff, Nat.reduceSub, Int.reduceToNat, reduceCtorEq]))
  refine AP.cond rfl rfl (fun h2 => ?_) (fun h2 => ?_)
  · rw [if_pos h2, retT, if_pos (by decide)]
    repeat (first | refine xA ?_ | refine xB ?_ | refine xC ?_ | refine xE ?_ | refine xD ?_ | refine xK ?_ | refine xS ?_ | refine xM ?_ | refine xT ?_ | refine xF ?_ | ((first | refine xR ?_ | refine xW ?_ | refine vq_id ?_); simp only [go_sem, Nat.reduceAdd, Nat.reduceLeDiff, Nat.reduceSub, Int.reduceToNat, reduceCtorEq]) | (refine ⟨by first | omega | (intros; simp_all; done) | (intros; simp_all; omega), ?_⟩; try simp only [go_sem, Nat.reduceAdd, Nat.reduceLeDiff, Nat.reduceSub, Int.reduceToNat, reduceCtorEq]))
    refine AQ.fnL ([Iv 14]) (by kernel_rfl) rfl rfl rfl (by ((try simp only [List.nil_append, List.append_nil, List.cons_append, List.map_cons, List.map_nil, AV.st, constAV]); repeat (first | with_reducible exact LentC.nil | with_reducible exact LentAs.nil | with_reducible refine LentC.cons ?_ ?_ | with_reducible refine LentAs.cons ?_ ?_ | with_reducible exact Lent.im _ | with_reducible exact LentA.im _ | with_reducible refine LentA.of ?_ | with_reducible refine LentA.agg ?_ | ((with_reducible apply Lent.osw); rfl; simp only [blkR_len, wrR_len, byteR_len, List.length_append, List.length_cons, List.length_nil]) | ((with_reducible apply Lent.ob0); rfl)))) (tfail_told 14) rfl (fun _ => rfl) ?_
    repeat (first | refine xA ?_ | refine xB ?_ | refine xC ?_ | refine xE ?_ | refine xD ?_ | refine xK ?_ | refine xS ?_ | refine xM ?_ | refine xT ?_ | refine xF ?_ | ((first | refine xR ?_ | refine xW ?_ | refine vq_id ?_); simp only [go_sem, Nat.reduceAdd, Nat.reduceLeDiff, Nat.reduceSub, Int.reduceToNat, reduceCtorEq]) | (refine ⟨by first | omega | (intros; simp_all; done) | (intros; simp_all; omega), ?_⟩; try simp only [go_sem, Nat.reduceAdd, Nat.reduceLeDiff, Nat.reduceSub, Int.reduceToNat, reduceCtorEq]))
    exact AE.retD [0, 1] rfl ⟨⟨rfl, Nat.le_of_ble_eq_true (by kernel_rfl)⟩, rfl, rfl, trivial⟩ rfl ⟨rfl, rfl⟩
  rw [if_neg (by rw [h2]; decide)]
  repeat (first | refine xA ?_ | refine xB ?_ | refine xC ?_ | refine xE ?_ | refine xD ?_ | refine xK ?_ | refine xS ?_ | refine xM ?_ | refine xT ?_ | refine xF ?_ | ((first | refine xR ?_ | refine xW ?_ | refine vq_id ?_); simp only [go_sem, Nat.reduceAdd, Nat.reduceLeDiff, Nat.reduceSub, Int.reduceToNat, reduceCtorEq, rqR_len]) | (refine ⟨by first | omega | (intros; simp_all; done) | (intros; simp_all; omega), ?_⟩; try simp only [go_sem, Nat.reduceAdd, Nat.reduceLeDiff, Nat.reduceSub, Int.reduceToNat, reduceCtorEq, rqR_len]))
  refine AP.cond rfl rfl (fun h3 => ?_) (fun h3 => ?_)
  · rw [if_pos h3, retT, if_pos (by decide)]
    repeat (first | refine xA ?_ | refine xB ?_ | refine xC ?_ | refine xE ?_ | refine xD ?_ | refine xK ?_ | refine xS ?_ | refine xM ?_ | refine xT ?_ | refine xF ?_ | ((first | refine xR ?_ | refine xW ?_ | refine vq_id ?_); simp only [go_sem, Nat.reduceAdd, Nat.reduceLeDiff, Nat.reduceSub, Int.reduceToNat, reduceCtorEq]) | (refine ⟨by first | omega | (intros; simp_all; done) | (intros; simp_all; omega), ?_⟩; try simp only [go_sem, Nat.reduceAdd, Nat.reduceLeDiff, Nat.reduceSub, Int.reduceToNat, reduceCtorEq]))
    refine AQ.fnL ([Iv 411]) (by kernel_rfl) rfl rfl rfl (by ((try simp only [List.nil_append, List.append_nil, List.cons_append, List.map_cons, List.map_nil, AV.st, constAV]); repeat (first | with_reducible exact LentC.nil | with_reducible exact LentAs.nil | with_reducible refine LentC.cons ?_ ?_ | with_reducible refine LentAs.cons ?_ ?_ | with_reducible exact Lent.im _ | with_reducible exact LentA.im _ | with_reducible refine LentA.of ?_ | with_reducible refine LentA.agg ?_ | ((with_reducible apply Lent.osw); rfl; simp only [blkR_len, wrR_len, byteR_len, List.length_append, List.length_cons, List.length_nil]) | ((with_reducible apply Lent.ob0); rfl)))) (tfail_told 411) rfl (fun _ => rfl) ?_
    repeat (first | refine xA ?_ | refine xB ?_ | refine xC ?_ | refine xE ?_ | refine xD ?_ | refine xK ?_ | refine xS ?_ | refine xM ?_ | refine xT ?_ | refine xF ?_ | ((first | refine xR ?_ | refine xW ?_ | refine vq_id ?_); simp only [go_sem, Nat.reduceAdd, Nat.reduceLeDiff, Nat.reduceSub, Int.reduceToNat, reduceCtorEq]) | (refine ⟨by first | omega | (intros; simp_all; done) | (intros; simp_all; omega), ?_⟩; try simp only [go_sem, Nat.reduceAdd, Nat.reduceLeDiff, Nat.reduceSub, Int.reduceToNat, reduceCtorEq]))
    exact AE.retD [0, 1] rfl ⟨⟨rfl, Nat.le_of_ble_eq_true (by kernel_rfl)⟩, rfl, rfl, trivial⟩ rfl ⟨rfl, rfl⟩
  rw [if_neg (by rw [h3]; decide)]
  repeat (first | refine xA ?_ | refine xB ?_ | refine xC ?_ | refine xE ?_ | refine xD ?_ | refine xK ?_ | refine xS ?_ | refine xM ?_ | refine xT ?_ | refine xF ?_ | ((first | refine xR ?_ | refine xW ?_ | refine vq_id ?_); simp only [go_sem, Nat.reduceAdd, Nat.reduceLeDiff, Nat.reduceSub, Int.reduceToNat, reduceCtorEq, rqR_len]) | (refine ⟨by first | omega | (intros; simp_all; done) | (intros; simp_all; omega), ?_⟩; try simp only [go_sem, Nat.reduceAdd, Nat.reduceLeDiff, Nat.reduceSub, Int.reduceToNat, reduceCtorEq, rqR_len]))
  refine AQ.fn (by kernel_rfl) rfl rfl rfl (error_spec K N t) rfl ?_
  repeat (first | refine xA ?_ | refine xB ?_ | refine xC ?_ | refine xE ?_ | refine xD ?_ | refine xK ?_ | refine xS ?_ | refine xM ?_ | refine xT ?_ | refine xF ?_ | ((first | refine xR ?_ | refine xW ?_ | refine vq_id ?_); simp only [go_sem, Nat.reduceAdd, Nat.reduceLeDiff, Nat.reduceSub, Int.reduceToNat, reduceCtorEq]) | (refine ⟨by first | omega | (intros; simp_all; done) | (intros; simp_all; omega), ?_⟩; try simp only [go_sem, Nat.reduceAdd, Nat.reduceLeDiff, Nat.reduceSub, Int.reduceToNat, reduceCtorEq]))
  refine AP.cond rfl rfl (fun h4 => ?_) (fun h4 => ?_)
  · have h4' : msgE K N t ≠ 0 := by simpa using h4
    rw [if_pos h4', retT, if_pos h4']
    repeat (first | refine xA ?_ | refine xB ?_ | refine xC ?_ | refine xE ?_ | refine xD ?_ | refine xK ?_ | refine xS ?_ | refine xM ?_ | refine xT ?_ | refine xF ?_ | ((first | refine xR ?_ | refine xW ?_ | refine vq_id ?_); simp only [go_sem, Nat.reduceAdd, Nat.reduceLeDiff, Nat.reduceSub, Int.reduceToNat, reduceCtorEq]) | (refine ⟨by first | omega | (intros; simp_all; done) | (intros; simp_all; omega), ?_⟩; try simp only [go_sem, Nat.reduceAdd, Nat.reduceLeDiff, Nat.reduceSub, Int.reduceToNat, reduceCtorEq]))
    refine AQ.fnL ([Iv (msgE K N t)]) (by kernel_rfl) rfl rfl rfl (by ((try simp only [List.nil_append, List.append_nil, List.cons_append, List.map_cons, List.map_nil, AV.st, constAV]); repeat (first | with_reducible exact LentC.nil | with_reducible exact LentAs.nil | with_reducible refine LentC.cons ?_ ?_ | with_reducible refine LentAs.cons ?_ ?_ | with_reducible exact Lent.im _ | with_reducible exact LentA.im _ | with_reducible refine LentA.of ?_ | with_reducible refine LentA.agg ?_ | ((with_reducible apply Lent.osw); rfl; simp only [blkR_len, wrR_len, byteR_len, List.length_append, List.length_cons, List.length_nil]) | ((with_reducible apply Lent.ob0); rfl)))) (tfail_told (msgE K N t)) rfl (fun _ => rfl) ?_
    repeat (first | refine xA ?_ | refine xB ?_ | refine xC ?_ | refine xE ?_ | refine xD ?_ | refine xK ?_ | refine xS ?_ | refine xM ?_ | refine xT ?_ | refine xF ?_ | ((first | refine xR ?_ | refine xW ?_ | refine vq_id ?_); simp only [go_sem, Nat.reduceAdd, Nat.reduceLeDiff, Nat.reduceSub, Int.reduceToNat, reduceCtorEq]) | (refine ⟨by first | omega | (intros; simp_all; done) | (intros; simp_all; omega), ?_⟩; try simp only [go_sem, Nat.reduceAdd, Nat.reduceLeDiff, Nat.reduceSub, Int.reduceToNat, reduceCtorEq]))
    exact AE.retD [0, 1] rfl ⟨⟨rfl, Nat.le_of_ble_eq_true (by kernel_rfl)⟩, rfl, rfl, trivial⟩ rfl ⟨rfl, rfl⟩
  have h4' : msgE K N t = 0 := by simpa using h4
  rw [if_neg (by rw [h4']; decide)]
  repeat (first | refine xA ?_ | refine xB ?_ | refine xC ?_ | refine xE ?_ | refine xD ?_ | refine xK ?_ | refine xS ?_ | refine xM ?_ | refine xT ?_ | refine xF ?_ | ((first | refine xR ?_ | refine xW ?_ | refine vq_id ?_); simp only [go_sem, Nat.reduceAdd, Nat.reduceLeDiff, Nat.reduceSub, Int.reduceToNat, reduceCtorEq]) | (refine ⟨by first | omega | (intros; simp_all; done) | (intros; simp_all; omega), ?_⟩; try simp only [go_sem, Nat.reduceAdd, Nat.reduceLeDiff, Nat.reduceSub, Int.reduceToNat, reduceCtorEq]))
  refine AP.cond rfl rfl (fun h5 => ?_) (fun h5 => ?_)
  · rw [if_pos h5, retT, if_pos (by decide)]
    repeat (first | refine xA ?_ | refine xB ?_ | refine xC ?_ | refine xE ?_ | refine xD ?_ | refine xK ?_ | refine xS ?_ | refine xM ?_ | refine xT ?_ | refine xF ?_ | ((first | refine xR ?_ | refine xW ?_ | refine vq_id ?_); simp only [go_sem, Nat.reduceAdd, Nat.reduceLeDiff, Nat.reduceSub, Int.reduceToNat, reduceCtorEq]) | (refine ⟨by first | omega | (intros; simp_all; done) | (intros; simp_all; omega), ?_⟩; try simp only [go_sem, Nat.reduceAdd, Nat.reduceLeDiff, Nat.reduceSub, Int.reduceToNat, reduceCtorEq]))
    refine AQ.fnL ([Iv 412]) (by kernel_rfl) rfl rfl rfl (by ((try simp only [List.nil_append, List.append_nil, List.cons_append, List.map_cons, List.map_nil, AV.st, constAV]); repeat (first | with_reducible exact LentC.nil | with_reducible exact LentAs.nil | with_reducible refine LentC.cons ?_ ?_ | with_reducible refine LentAs.cons ?_ ?_ | with_reducible exact Lent.im _ | with_reducible exact LentA.im _ | with_reducible refine LentA.of ?_ | with_reducible refine LentA.agg ?_ | ((with_reducible apply Lent.osw); rfl; simp only [blkR_len, wrR_len, byteR_len, List.length_append, List.length_cons, List.length_nil]) | ((with_reducible apply Lent.ob0); rfl)))) (tfail_told 412) rfl (fun _ => rfl) ?_
    repeat (first | refine xA ?_ | refine xB ?_ | refine xC ?_ | refine xE ?_ | refine xD ?_ | refine xK ?_ | refine xS ?_ | refine xM ?_ | refine xT ?_ | refine xF ?_ | ((first | refine xR ?_ | refine xW ?_ | refine vq_id ?_); simp only [go_sem, Nat.reduceAdd, Nat.reduceLeDiff, Nat.reduceSub, Int.reduceToNat, reduceCtorEq]) | (refine ⟨by first | omega | (intros; simp_all; done) | (intros; simp_all; omega), ?_⟩; try simp only [go_sem, Nat.reduceAdd, Nat.reduceLeDiff, Nat.reduceSub, Int.reduceToNat, reduceCtorEq]))
    exact AE.retD [0, 1] rfl ⟨⟨rfl, Nat.le_of_ble_eq_true (by kernel_rfl)⟩, rfl, rfl, trivial⟩ rfl ⟨rfl, rfl⟩
  rw [if_neg (by rw [h5]; decide)]
  repeat (first | refine xA ?_ | refine xB ?_ | refine xC ?_ | refine xE ?_ | refine xD ?_ | refine xK ?_ | refine xS ?_ | refine xM ?_ | refine xT ?_ | refine xF ?_ | ((first | refine xR ?_ | refine xW ?_ | refine vq_id ?_); simp only [go_sem, Nat.reduceAdd, Nat.reduceLeDiff, Nat.reduceSub, Int.reduceToNat, reduceCtorEq, rqR_len]) | (refine ⟨by first | omega | (intros; simp_all; done) | (intros; simp_all; omega), ?_⟩; try simp only [go_sem, Nat.reduceAdd, Nat.reduceLeDiff, Nat.reduceSub, Int.reduceToNat, reduceCtorEq, rqR_len]))
  refine AP.cond rfl rfl (fun h6 => ?_) (fun h6 => ?_)
  · rw [if_pos h6, retT, if_pos (by decide)]
    repeat (first | refine xA ?_ | refine xB ?_ | refine xC ?_ | refine xE ?_ | refine xD ?_ | refine xK ?_ | refine xS ?_ | refine xM ?_ | refine xT ?_ | refine xF ?_ | ((first | refine xR ?_ | refine xW ?_ | refine vq_id ?_); simp only [go_sem, Nat.reduceAdd, Nat.reduceLeDiff, Nat.reduceSub, Int.reduceToNat, reduceCtorEq]) | (refine ⟨by first | omega | (intros; simp_all; done) | (intros; simp_all; omega), ?_⟩; try simp only [go_sem, Nat.reduceAdd, Nat.reduceLeDiff, Nat.reduceSub, Int.reduceToNat, reduceCtorEq]))
    refine AQ.fnL ([Iv 413]) (by kernel_rfl) rfl rfl rfl (by ((try simp only [List.nil_append, List.append_nil, List.cons_append, List.map_cons, List.map_nil, AV.st, constAV]); repeat (first | with_reducible exact LentC.nil | with_reducible exact LentAs.nil | with_reducible refine LentC.cons ?_ ?_ | with_reducible refine LentAs.cons ?_ ?_ | with_reducible exact Lent.im _ | with_reducible exact LentA.im _ | with_reducible refine LentA.of ?_ | with_reducible refine LentA.agg ?_ | ((with_reducible apply Lent.osw); rfl; simp only [blkR_len, wrR_len, byteR_len, List.length_append, List.length_cons, List.length_nil]) | ((with_reducible apply Lent.ob0); rfl)))) (tfail_told 413) rfl (fun _ => rfl) ?_
    repeat (first | refine xA ?_ | refine xB ?_ | refine xC ?_ | refine xE ?_ | refine xD ?_ | refine xK ?_ | refine xS ?_ | refine xM ?_ | refine xT ?_ | refine xF ?_ | ((first | refine xR ?_ | refine xW ?_ | refine vq_id ?_); simp only [go_sem, Nat.reduceAdd, Nat.reduceLeDiff, Nat.reduceSub, Int.reduceToNat, reduceCtorEq]) | (refine ⟨by first | omega | (intros; simp_all; done) | (intros; simp_all; omega), ?_⟩; try simp only [go_sem, Nat.reduceAdd, Nat.reduceLeDiff, Nat.reduceSub, Int.reduceToNat, reduceCtorEq]))
    exact AE.retD [0, 1] rfl ⟨⟨rfl, Nat.le_of_ble_eq_true (by kernel_rfl)⟩, rfl, rfl, trivial⟩ rfl ⟨rfl, rfl⟩
  rw [if_neg (by rw [h6]; decide)]
  repeat (first | refine xA ?_ | refine xB ?_ | refine xC ?_ | refine xE ?_ | refine xD ?_ | refine xK ?_ | refine xS ?_ | refine xM ?_ | refine xT ?_ | refine xF ?_ | ((first | refine xR ?_ | refine xW ?_ | refine vq_id ?_); simp only [go_sem, Nat.reduceAdd, Nat.reduceLeDiff, Nat.reduceSub, Int.reduceToNat, reduceCtorEq, rqR_len]) | (refine ⟨by first | omega | (intros; simp_all; done) | (intros; simp_all; omega), ?_⟩; try simp only [go_sem, Nat.reduceAdd, Nat.reduceLeDiff, Nat.reduceSub, Int.reduceToNat, reduceCtorEq, rqR_len]))
  refine AP.cond rfl rfl (fun h7 => ?_) (fun h7 => ?_)
  · rw [if_pos h7, retT, if_pos (by decide)]
    repeat (first | refine xA ?_ | refine xB ?_ | refine xC ?_ | refine xE ?_ | refine xD ?_ | refine xK ?_ | refine xS ?_ | refine xM ?_ | refine xT ?_ | refine xF ?_ | ((first | refine xR ?_ | refine xW ?_ | refine vq_id ?_); simp only [go_sem, Nat.reduceAdd, Nat.reduceLeDiff, Nat.reduceSub, Int.reduceToNat, reduceCtorEq]) | (refine ⟨by first | omega | (intros; simp_all; done) | (intros; simp_all; omega), ?_⟩; try simp only [go_sem, Nat.reduceAdd, Nat.reduceLeDiff, Nat.reduceSub, Int.reduceToNat, reduceCtorEq]))
    refine AQ.fnL ([Iv 8]) (by kernel_rfl) rfl rfl rfl (by ((try simp only [List.nil_append, List.append_nil, List.cons_append, List.map_cons, List.map_nil, AV.st, constAV]); repeat (first | with_reducible exact LentC.nil | with_reducible exact LentAs.nil | with_reducible refine LentC.cons ?_ ?_ | with_reducible refine LentAs.cons ?_ ?_ | with_reducible exact Lent.im _ | with_reducible exact LentA.im _ | with_reducible refine LentA.of ?_ | with_reducible refine LentA.agg ?_ | ((with_reducible apply Lent.osw); rfl; simp only [blkR_len, wrR_len, byteR_len, List.length_append, List.length_cons, List.length_nil]) | ((with_reducible apply Lent.ob0); rfl)))) (tfail_told 8) rfl (fun _ => rfl) ?_
    repeat (first | refine xA ?_ | refine xB ?_ | refine xC ?_ | refine xE ?_ | refine xD ?_ | refine xK ?_ | refine xS ?_ | refine xM ?_ | refine xT ?_ | refine xF ?_ | ((first | refine xR ?_ | refine xW ?_ | refine vq_id ?_); simp only [go_sem, Nat.reduceAdd, Nat.reduceLeDiff, Nat.reduceSub, Int.reduceToNat, reduceCtorEq]) | (refine ⟨by first | omega | (intros; simp_all; done) | (intros; simp_all; omega), ?_⟩; try simp only [go_sem, Nat.reduceAdd, Nat.reduceLeDiff, Nat.reduceSub, Int.reduceToNat, reduceCtorEq]))
    exact AE.retD [0, 1] rfl ⟨⟨rfl, Nat.le_of_ble_eq_true (by kernel_rfl)⟩, rfl, rfl, trivial⟩ rfl ⟨rfl, rfl⟩
  rw [if_neg (by rw [h7]; decide)]
  rw [retT, if_neg (by decide)]
  have hsrv := ((srvC_iff p nm w n l).1 h1').1
  unfold srvHead at hsrv
  have hw := wr (x := n + 1) (by omega)
  repeat (first | refine xA ?_ | refine xB ?_ | refine xC ?_ | refine xE ?_ | refine xD ?_ | refine xK ?_ | refine xS ?_ | refine xM ?_ | refine xT ?_ | refine xF ?_ | ((first | refine xR ?_ | refine xW ?_ | refine vq_id ?_); simp only [go_sem, Nat.reduceAdd, Nat.reduceLeDiff, Nat.reduceSub, Int.reduceToNat, reduceCtorEq, hw]) | (refine ⟨by first | omega | (intros; simp_all; done) | (intros; simp_all; omega), ?_⟩; try simp only [go_sem, Nat.reduceAdd, Nat.reduceLeDiff, Nat.reduceSub, Int.reduceToNat, reduceCtorEq, hw]))
  refine AP.cond rfl rfl (fun h8 => ?_) (fun h8 => ?_)
  · have hK : K = 1 := by simpa using h8
    rw [taken, if_pos hK]
    have hit := itoa_spec w (by omega)
    repeat (first | refine xA ?_ | refine xB ?_ | refine xC ?_ | refine xE ?_ | refine xD ?_ | refine xK ?_ | refine xS ?_ | refine xM ?_ | refine xT ?_ | refine xF ?_ | ((first | refine xR ?_ | refine xW ?_ | refine vq_id ?_); simp only [go_sem, Nat.reduceAdd, Nat.reduceLeDiff, Nat.reduceSub, Int.reduceToNat, reduceCtorEq]) | (refine ⟨by first | omega | (intros; simp_all; done) | (intros; simp_all; omega), ?_⟩; try simp only [go_sem, Nat.reduceAdd, Nat.reduceLeDiff, Nat.reduceSub, Int.reduceToNat, reduceCtorEq]))
    refine AP.drawE 6 (Tree.node [] [0, 1, 2] [3] [Tree.node [0, 1] [4] [5] [Tree.node [] [] [] []]]) (by kernel_rfl) rfl (by kernel_rfl) (by kernel_rfl) ?_
    refine vd_node ?_
    simp only [go_sem, Nat.reduceAdd, Nat.reduceLeDiff, Nat.reduceSub, Int.reduceToNat, reduceCtorEq]
    repeat' (first | with_reducible exact True.intro | with_reducible refine And.intro (by omega) ?_ | with_reducible refine And.intro ?_ ?_ | (refine AQ.nx rfl ?_; simp only [go_sem, Nat.reduceAdd, Nat.reduceLeDiff, Nat.reduceSub, Int.reduceToNat, reduceCtorEq]) | refine AQ.skip (by kernel_rfl) rfl ?_ | refine AQ.done ?_ | (refine AQ.go (by kernel_rfl) ?_; simp only [go_sem, Nat.reduceAdd, Nat.reduceLeDiff, Nat.reduceSub, Int.reduceToNat, reduceCtorEq]; repeat (with_reducible refine And.intro (by omega) ?_); refine AQ.nx rfl ?_; simp only [go_sem, Nat.reduceAdd, Nat.reduceLeDiff, Nat.reduceSub, Int.reduceToNat, reduceCtorEq]))
    all_goals
      repeat (first | refine xA ?_ | refine xB ?_ | refine xC ?_ | refine xE ?_ | refine xD ?_ | refine xK ?_ | refine xS ?_ | refine xM ?_ | refine xT ?_ | refine xF ?_ | ((first | refine xR ?_ | refine xW ?_ | refine vq_id ?_); simp only [go_sem, Nat.reduceAdd, Nat.reduceLeDiff, Nat.reduceSub, Int.reduceToNat, reduceCtorEq]) | (refine ⟨by first | omega | (intros; simp_all; done) | (intros; simp_all; omega), ?_⟩; try simp only [go_sem, Nat.reduceAdd, Nat.reduceLeDiff, Nat.reduceSub, Int.reduceToNat, reduceCtorEq]))
    refine AP.drawE 11 (Tree.node [] [0, 1, 2, 3, 4] [5] [Tree.node [0, 1, 2] [6] [7, 8] [Tree.node [0] [] [8] [Tree.node [] [9] [10] [Tree.node [] [] [] []]], Tree.node [1, 2, 6] [] [7] [Tree.node [] [9] [10] [Tree.node [] [] [] []]]]]) (by kernel_rfl) rfl (by kernel_rfl) (by kernel_rfl) ?_
    refine vd_node ?_
    simp only [go_sem, Nat.reduceAdd, Nat.reduceLeDiff, Nat.reduceSub, Int.reduceToNat, reduceCtorEq]
    repeat' (first | with_reducible exact True.intro | with_reducible refine And.intro (by omega) ?_ | with_reducible refine And.intro ?_ ?_ | (refine AQ.nx rfl ?_; simp only [go_sem, Nat.reduceAdd, Nat.reduceLeDiff, Nat.reduceSub, Int.reduceToNat, reduceCtorEq]) | (refine AQ.fn (by kernel_rfl) rfl rfl rfl (hit) rfl ?_; simp only [go_sem, Nat.reduceAdd, Nat.reduceLeDiff, Nat.reduceSub, Int.reduceToNat, reduceCtorEq]) | refine AQ.done ?_ | (refine AQ.go (by kernel_rfl) ?_; simp only [go_sem, Nat.reduceAdd, Nat.reduceLeDiff, Nat.reduceSub, Int.reduceToNat, reduceCtorEq]; repeat (with_reducible refine And.intro (by omega) ?_); refine AQ.nx rfl ?_; simp only [go_sem, Nat.reduceAdd, Nat.reduceLeDiff, Nat.reduceSub, Int.reduceToNat, reduceCtorEq]))
    all_goals
      repeat (first | refine xA ?_ | refine xB ?_ | refine xC ?_ | refine xE ?_ | refine xD ?_ | refine xK ?_ | refine xS ?_ | refine xM ?_ | refine xT ?_ | refine xF ?_ | ((first | refine xR ?_ | refine xW ?_ | refine vq_id ?_); simp only [go_sem, Nat.reduceAdd, Nat.reduceLeDiff, Nat.reduceSub, Int.reduceToNat, reduceCtorEq]) | (refine ⟨by first | omega | (intros; simp_all; done) | (intros; simp_all; omega), ?_⟩; try simp only [go_sem, Nat.reduceAdd, Nat.reduceLeDiff, Nat.reduceSub, Int.reduceToNat, reduceCtorEq]))
      exact AE.retD [1, 0] rfl ⟨⟨rfl, Nat.le_of_ble_eq_true (by kernel_rfl)⟩, rfl, rfl, trivial⟩ rfl ⟨rfl, rfl⟩
  have hK : K ≠ 1 := by simpa using h8
  rw [taken, if_neg hK]
  repeat (first | refine xA ?_ | refine xB ?_ | refine xC ?_ | refine xE ?_ | refine xD ?_ | refine xK ?_ | refine xS ?_ | refine xM ?_ | refine xT ?_ | refine xF ?_ | ((first | refine xR ?_ | refine xW ?_ | refine vq_id ?_); simp only [go_sem, Nat.reduceAdd, Nat.reduceLeDiff, Nat.reduceSub, Int.reduceToNat, reduceCtorEq]) | (refine ⟨by first | omega | (intros; simp_all; done) | (intros; simp_all; omega), ?_⟩; try simp only [go_sem, Nat.reduceAdd, Nat.reduceLeDiff, Nat.reduceSub, Int.reduceToNat, reduceCtorEq]))
  obtain ⟨L, hL⟩ : ∃ L, L = l ++ [⟨N, K, t, false, false, 0, 0, []⟩] := ⟨_, rfl⟩
  have hLl : L.length = l.length + 1 := by rw [hL, List.length_append]; rfl
  have hrow : rqR l ++ [[Ii N, Ii K, Si t, .v (.bool false), .v (.bool false), Ii 0, Ii 0, Si []]] = rqR L := by rw [hL, rqR_snoc]; rfl
  refine AP.cut (α := Unit) (fun _ => [(2, .ob 0 0), (3, .im (.pt [Ii K, Ii N, Si t])), (4, .ob 1 0), (5, nilS), (6, Iv 0)]) (fun _ => [(2, .vec 82 8 (rqR L)), (1, .var 24 [Iv 0, Sv [], Iv 0, Iv 0, nilS]), (0, .var 24 [Iv p, Sv nm, Iv w, Iv (n + 1), .os 2 8 0 (l.length + 1)])]) (fun _ => True) ?_ fun _ _ => ?_
  · skip
    refine AP.drawE 14 (Tree.node [] [0, 1, 3, 4, 5, 6, 7, 8, 9] [2, 10] [Tree.node [3, 4, 5, 6, 7, 8, 9] [] [10] [Tree.node [] [] [11] [Tree.node [] [12] [13] [Tree.node [] [] [] []]]], Tree.node [0, 1] [] [2] [Tree.node [] [] [11] [Tree.node [] [12] [13] [Tree.node [] [] [] []]]]]) (by kernel_rfl) rfl (by kernel_rfl) (by kernel_rfl) ?_
    refine vd_node ?_
    simp only [go_sem, Nat.reduceAdd, Nat.reduceLeDiff, Nat.reduceSub, Int.reduceToNat, reduceCtorEq]
    repeat' (first | with_reducible exact True.intro | with_reducible refine And.intro (by omega) ?_ | with_reducible refine And.intro ?_ ?_ | (refine AQ.nx rfl ?_; simp only [go_sem, Nat.reduceAdd, Nat.reduceLeDiff, Nat.reduceSub, Int.reduceToNat, reduceCtorEq]) | (refine AQ.callv (by kernel_rfl) rfl rfl rfl (cloneQ_spec l (by omega)) fun r' H' ⟨e1, e2⟩ => ?_; subst e1; subst e2; simp only [go_sem, Nat.reduceAdd, Nat.reduceLeDiff, Nat.reduceSub, Int.reduceToNat, reduceCtorEq]) | (refine AQ.append (hnb := rfl) (rows := rqR l) (es := 7) (by kernel_rfl) rfl rfl rfl (by rfl) Tryz.tk22 Tryz.sz82 (by show Option.map _ (zro Tryz.prog 82) = _; rw [Tryz.zr82]; rfl) Tryz.by82 (by rw [rqR_len]) (by rw [rqR_len]; simp only [List.length_cons, List.length_nil]; omega) (by rw [rqR_len]; simp only [List.length_cons, List.length_nil]; omega) ?_; simp only [go_sem, Nat.reduceAdd, Nat.reduceLeDiff, Nat.reduceSub, Int.reduceToNat, reduceCtorEq, rqR_len, List.length_cons, List.length_nil]) | refine AQ.done ?_ | (refine AQ.go (by kernel_rfl) ?_; simp only [go_sem, Nat.reduceAdd, Nat.reduceLeDiff, Nat.reduceSub, Int.reduceToNat, reduceCtorEq]; repeat (with_reducible refine And.intro (by omega) ?_); refine AQ.nx rfl ?_; simp only [go_sem, Nat.reduceAdd, Nat.reduceLeDiff, Nat.reduceSub, Int.reduceToNat, reduceCtorEq]))
    all_goals exact AE.meet () trivial (by repeat (first | exact Sub.nil _ | refine Sub.cons rfl ?_)) (by rw [← hrow])
  have hw2 := wr (x := ((l.length + 1 : Nat) : Int) - 1) (by omega)
  have hw3 : ((l.length + 1 : Nat) : Int) - 1 = (l.length : Nat) := by omega
  have hw4 := wr (x := ((l.length : Nat) : Int)) (by omega)
  repeat (first | refine xA ?_ | refine xB ?_ | refine xC ?_ | refine xE ?_ | refine xD ?_ | refine xK ?_ | refine xS ?_ | refine xM ?_ | refine xT ?_ | refine xF ?_ | ((first | refine xR ?_ | refine xW ?_ | refine vq_id ?_); simp only [go_sem, Nat.reduceAdd, Nat.reduceLeDiff, Nat.reduceSub, Int.reduceToNat, reduceCtorEq, rqR_len, hLl, hw2, hw3, hw4, Int.toNat_natCast]) | (refine ⟨by first | omega | (intros; simp_all; done) | (intros; simp_all; omega), ?_⟩; try simp only [go_sem, Nat.reduceAdd, Nat.reduceLeDiff, Nat.reduceSub, Int.reduceToNat, reduceCtorEq, rqR_len, hLl, hw2, hw3, hw4, Int.toNat_natCast]))
  refine AP.cond rfl rfl (fun h9 => ?_) (fun h9 => ?_)
  · have hK5 : K = 5 := by simpa using h9
    rw [if_pos hK5]
    have htl : t.length ≤ 1000000000 := by
      unfold msgE at h4'
      split at h4'
      · cases h4'
      · split at h4'
        · cases h4'
        · split at h4'
          · cases h4'
          · omega
    repeat (first | refine xA ?_ | refine xB ?_ | refine xC ?_ | refine xE ?_ | refine xD ?_ | refine xK ?_ | refine xS ?_ | refine xM ?_ | refine xT ?_ | refine xF ?_ | ((first | refine xR ?_ | refine xW ?_ | refine vq_id ?_); simp only [go_sem, Nat.reduceAdd, Nat.reduceLeDiff, Nat.reduceSub, Int.reduceToNat, reduceCtorEq]) | (refine ⟨by first | omega | (intros; simp_all; done) | (intros; simp_all; omega), ?_⟩; try simp only [go_sem, Nat.reduceAdd, Nat.reduceLeDiff, Nat.reduceSub, Int.reduceToNat, reduceCtorEq]))
    refine AQ.fn (by kernel_rfl) rfl rfl rfl (number_spec 1 2147483647 t htl) rfl ?_
    repeat (first | refine xA ?_ | refine xB ?_ | refine xC ?_ | refine xE ?_ | refine xD ?_ | refine xK ?_ | refine xS ?_ | refine xM ?_ | refine xT ?_ | refine xF ?_ | ((first | refine xR ?_ | refine xW ?_ | refine vq_id ?_); simp only [go_sem, Nat.reduceAdd, Nat.reduceLeDiff, Nat.reduceSub, Int.reduceToNat, reduceCtorEq]) | (refine ⟨by first | omega | (intros; simp_all; done) | (intros; simp_all; omega), ?_⟩; try simp only [go_sem, Nat.reduceAdd, Nat.reduceLeDiff, Nat.reduceSub, Int.reduceToNat, reduceCtorEq]))
    have hix := indexQ_spec 40 (.pt [Ii (atoiV t).1]) (freeB (atoiV t).1) (free_spec _) L (by omega)
    refine AQ.callL [.im (.sl 8 (rqR L)), .fn 40 [] [.im (.pt [Ii (atoiV t).1])]] (by kernel_rfl) rfl rfl rfl (LentAs.cons (LentA.of (Lent.osw rfl (by rw [rqR_len, hLl]))) (LentAs.cons (LentA.fn LentAs.nil (LentAs.cons (LentA.of (Lent.ob0 rfl (LentC.cons (Lent.im _) LentC.nil))) LentAs.nil)) LentAs.nil)) hix fun r1 H1 ⟨e1, e2⟩ => ?_
    subst e1
    subst e2
    refine ⟨rfl, trivial, ?_⟩
    refine AQ.go (by kernel_rfl) ?_
    simp only [go_sem, Nat.reduceAdd, Nat.reduceLeDiff, Nat.reduceSub, Int.reduceToNat, reduceCtorEq]
    repeat (first | refine xA ?_ | refine xB ?_ | refine xC ?_ | refine xE ?_ | refine xD ?_ | refine xK ?_ | refine xS ?_ | refine xM ?_ | refine xT ?_ | refine xF ?_ | ((first | refine xR ?_ | refine xW ?_ | refine vq_id ?_); simp only [go_sem, Nat.reduceAdd, Nat.reduceLeDiff, Nat.reduceSub, Int.reduceToNat, reduceCtorEq]) | (refine ⟨by first | omega | (intros; simp_all; done) | (intros; simp_all; omega), ?_⟩; try simp only [go_sem, Nat.reduceAdd, Nat.reduceLeDiff, Nat.reduceSub, Int.reduceToNat, reduceCtorEq]))
    rw [← hL]
    refine AP.cond rfl rfl (fun h11 => ?_) (fun h11 => ?_)
    · rw [if_neg (by have := of_decide_eq_true h11; omega)]
      rcases idxQ_cases (freeB (atoiV t).1) L with hj | ⟨j, hj, hjl⟩
      · rw [hj] at h11; exact absurd h11 (by decide)
      rw [hj]
      repeat (first | refine xA ?_ | refine xB ?_ | refine xC ?_ | refine xE ?_ | refine xD ?_ | refine xK ?_ | refine xS ?_ | refine xM ?_ | refine xT ?_ | refine xF ?_ | ((first | refine xR ?_ | refine xW ?_ | refine vq_id ?_); simp only [go_sem, Nat.reduceAdd, Nat.reduceLeDiff, Nat.reduceSub, Int.reduceToNat, reduceCtorEq]) | (refine ⟨by first | omega | (intros; simp_all; done) | (intros; simp_all; omega), ?_⟩; try simp only [go_sem, Nat.reduceAdd, Nat.reduceLeDiff, Nat.reduceSub, Int.reduceToNat, reduceCtorEq]))
      refine AP.drawE 20 (Tree.node [] [0, 1, 2, 3, 4, 5, 6, 7, 8, 9, 10, 11, 12] [13] [Tree.node [3, 4, 5, 6, 7, 8, 9, 10] [14, 15] [16] [Tree.node [6, 7, 8, 9, 10] [17, 18] [19] [Tree.node [] [] [] []]]]) (by kernel_rfl) rfl (by kernel_rfl) (by kernel_rfl) ?_
      refine vd_node ?_
      simp only [go_sem, Nat.reduceAdd, Nat.reduceLeDiff, Nat.reduceSub, Int.reduceToNat, reduceCtorEq, rqR_len, hLl]
      refine ⟨⟨by omega, by omega⟩, ?_⟩
      repeat' (first | with_reducible exact True.intro | with_reducible refine And.intro (by omega) ?_ | with_reducible refine And.intro ?_ ?_ | (refine AQ.nx rfl ?_; simp only [go_sem, Nat.reduceAdd, Nat.reduceLeDiff, Nat.reduceSub, Int.reduceToNat, reduceCtorEq, rqR_len, hLl]) | refine AQ.skip (by kernel_rfl) rfl ?_ | refine AQ.done ?_ | (refine AQ.go (by kernel_rfl) ?_; simp only [go_sem, Nat.reduceAdd, Nat.reduceLeDiff, Nat.reduceSub, Int.reduceToNat, reduceCtorEq, rqR_len, hLl]; repeat (with_reducible refine And.intro (by omega) ?_); refine AQ.nx rfl ?_; simp only [go_sem, Nat.reduceAdd, Nat.reduceLeDiff, Nat.reduceSub, Int.reduceToNat, reduceCtorEq, rqR_len, hLl]))
      all_goals (try (simp only [List.length_set, rqR_len, hLl]; omega))
      obtain ⟨r, hm, hfr⟩ := idxQ_some hj
      have hjl2 : j < l.length := by
        rcases Nat.lt_or_ge j l.length with h | h
        · exact h
        · have hje : j = l.length := by omega
          rw [hje, hL, List.getElem?_append_right (Nat.le_refl _), Nat.sub_self] at hm
          cases hm
          rw [freeB, hK5] at hfr
          simp [workB] at hfr
      have hrn : (atoiV t).1 = r.n := by
        simp only [freeB, Bool.and_eq_true, beq_iff_eq] at hfr
        exact hfr.1.1.symm
      have hlm : l[j]? = some r := by rw [← hm, hL, List.getElem?_append_left hjl2]
      rw [rows_can hm, hrn]
      obtain ⟨L1, hL1⟩ : ∃ L1, L.set j ⟨r.n, r.k, r.b, true, true, 9, r.n, [48, 32, 48]⟩ = L1 := ⟨_, rfl⟩
      have hL1l : L1.length = l.length + 1 := by rw [← hL1, List.length_set, hLl]
      have hL1e : L1 = l.set j ⟨r.n, r.k, r.b, true, true, 9, r.n, [48, 32, 48]⟩ ++ [⟨N, K, t, false, false, 0, 0, []⟩] := by rw [← hL1, hL, List.set_append_left _ _ hjl2]
      have hm1 : L1[l.length]? = some ⟨N, K, t, false, false, 0, 0, []⟩ := by rw [hL1e, List.getElem?_append_right (by rw [List.length_set]; exact Nat.le_refl _), List.length_set, Nat.sub_self]; rfl
      have hcn : cancelled (l ++ [⟨N, K, t, false, true, 8, N, [49]⟩]) (j : Int) = L1.set l.length ⟨N, K, t, false, true, 8, N, [49]⟩ := by
        have e : rAt (l ++ [⟨N, K, t, false, true, 8, N, [49]⟩]) (j : Int) = r := by
          rw [rAt, Int.toNat_natCast, List.getD_eq_getElem?_getD, List.getElem?_append_left hjl2, hlm]; rfl
        rw [cancelled, e, Int.toNat_natCast, List.set_append_left _ _ hjl2, hL1e, List.set_append_right _ _ (by rw [List.length_set]; exact Nat.le_refl _), List.length_set, Nat.sub_self]
        rfl
      rw [hL1, hcn]
      repeat (first | refine xA ?_ | refine xB ?_ | refine xC ?_ | refine xE ?_ | refine xD ?_ | refine xK ?_ | refine xS ?_ | refine xM ?_ | refine xT ?_ | refine xF ?_ | ((first | refine xR ?_ | refine xW ?_ | refine vq_id ?_); simp only [go_sem, Nat.reduceAdd, Nat.reduceLeDiff, Nat.reduceSub, Int.reduceToNat, reduceCtorEq]) | (refine ⟨by first | omega | (intros; simp_all; done) | (intros; simp_all; omega), ?_⟩; try simp only [go_sem, Nat.reduceAdd, Nat.reduceLeDiff, Nat.reduceSub, Int.reduceToNat, reduceCtorEq]))
      refine AP.drawE 12 (Tree.node [] [0, 1, 2, 3, 4, 5, 6, 7] [8] [Tree.node [1, 2, 3, 4, 5] [9, 10] [11] [Tree.node [] [] [] []]]) (by kernel_rfl) rfl (by kernel_rfl) (by kernel_rfl) ?_
      refine vd_node ?_
      simp only [go_sem, Nat.reduceAdd, Nat.reduceLeDiff, Nat.reduceSub, Int.reduceToNat, reduceCtorEq]
      repeat' (first | with_reducible exact True.intro | with_reducible refine And.intro (by omega) ?_ | with_reducible refine And.intro ?_ ?_ | (refine AQ.nx rfl ?_; simp only [go_sem, Nat.reduceAdd, Nat.reduceLeDiff, Nat.reduceSub, Int.reduceToNat, reduceCtorEq, rqR_len]) | refine AQ.skip (by kernel_rfl) rfl ?_ | refine AQ.done ?_ | (refine AQ.go (by kernel_rfl) ?_; simp only [go_sem, Nat.reduceAdd, Nat.reduceLeDiff, Nat.reduceSub, Int.reduceToNat, reduceCtorEq, rqR_len]; repeat (with_reducible refine And.intro (by omega) ?_); refine AQ.nx rfl ?_; simp only [go_sem, Nat.reduceAdd, Nat.reduceLeDiff, Nat.reduceSub, Int.reduceToNat, reduceCtorEq, rqR_len]))
      · rw [List.length_set, rqR_len, hL1l]; omega
      rw [rows_ans hm1 8 N [49]]
      obtain ⟨L2, hL2⟩ : ∃ L2, L1.set l.length ⟨N, K, t, false, true, 8, N, [49]⟩ = L2 := ⟨_, rfl⟩
      have hLl2 : L2.length = l.length + 1 := by rw [← hL2, List.length_set, hL1l]
      have hta2 : (rqR L2).take (l.length + 1) = rqR L2 := List.take_of_length_le (by rw [rqR_len, hLl2]; exact Nat.le_refl _)
      rw [hL2]
      refine AE.freeze 2 (rows := rqR L2) rfl (by simp [go_sem, rqR_len, hLl2]) (by simp [go_sem, rqR_len, hLl2]) ?_
      simp only [go_sem, Nat.reduceAdd, Nat.reduceLeDiff, Nat.reduceSub, Int.reduceToNat, reduceCtorEq, List.drop_zero, hta2]
      repeat (first | refine xA ?_ | refine xB ?_ | refine xC ?_ | refine xE ?_ | refine xD ?_ | refine xK ?_ | refine xS ?_ | refine xM ?_ | refine xT ?_ | refine xF ?_ | ((first | refine xR ?_ | refine xW ?_ | refine vq_id ?_); simp only [go_sem, Nat.reduceAdd, Nat.reduceLeDiff, Nat.reduceSub, Int.reduceToNat, reduceCtorEq]) | (refine ⟨by first | omega | (intros; simp_all; done) | (intros; simp_all; omega), ?_⟩; try simp only [go_sem, Nat.reduceAdd, Nat.reduceLeDiff, Nat.reduceSub, Int.reduceToNat, reduceCtorEq]))
      refine AQ.fn (by kernel_rfl) rfl rfl rfl (sent_spec p nm w (n + 1) L2 (by omega)) rfl ?_
      repeat (first | refine xA ?_ | refine xB ?_ | refine xC ?_ | refine xE ?_ | refine xD ?_ | refine xK ?_ | refine xS ?_ | refine xM ?_ | refine xT ?_ | refine xF ?_ | ((first | refine xR ?_ | refine xW ?_ | refine vq_id ?_); simp only [go_sem, Nat.reduceAdd, Nat.reduceLeDiff, Nat.reduceSub, Int.reduceToNat, reduceCtorEq]) | (refine ⟨by first | omega | (intros; simp_all; done) | (intros; simp_all; omega), ?_⟩; try simp only [go_sem, Nat.reduceAdd, Nat.reduceLeDiff, Nat.reduceSub, Int.reduceToNat, reduceCtorEq]))
      exact AE.retD [3, 1, 0] rfl ⟨⟨rfl, Nat.le_of_ble_eq_true (by kernel_rfl)⟩, rfl, rfl, trivial⟩ rfl ⟨rfl, rfl⟩
    · rw [if_pos (by have := of_decide_eq_false h11; omega)]
      repeat (first | refine xA ?_ | refine xB ?_ | refine xC ?_ | refine xE ?_ | refine xD ?_ | refine xK ?_ | refine xS ?_ | refine xM ?_ | refine xT ?_ | refine xF ?_ | ((first | refine xR ?_ | refine xW ?_ | refine vq_id ?_); simp only [go_sem, Nat.reduceAdd, Nat.reduceLeDiff, Nat.reduceSub, Int.reduceToNat, reduceCtorEq]) | (refine ⟨by first | omega | (intros; simp_all; done) | (intros; simp_all; omega), ?_⟩; try simp only [go_sem, Nat.reduceAdd, Nat.reduceLeDiff, Nat.reduceSub, Int.reduceToNat, reduceCtorEq]))
      refine AP.drawE 12 (Tree.node [] [0, 1, 2, 3, 4, 5, 6, 7] [8] [Tree.node [1, 2, 3, 4, 5] [9, 10] [11] [Tree.node [] [] [] []]]) (by kernel_rfl) rfl (by kernel_rfl) (by kernel_rfl) ?_
      refine vd_node ?_
      simp only [go_sem, Nat.reduceAdd, Nat.reduceLeDiff, Nat.reduceSub, Int.reduceToNat, reduceCtorEq]
      repeat' (first | with_reducible exact True.intro | with_reducible refine And.intro (by omega) ?_ | with_reducible refine And.intro ?_ ?_ | (refine AQ.nx rfl ?_; simp only [go_sem, Nat.reduceAdd, Nat.reduceLeDiff, Nat.reduceSub, Int.reduceToNat, reduceCtorEq, rqR_len]) | refine AQ.skip (by kernel_rfl) rfl ?_ | refine AQ.done ?_ | (refine AQ.go (by kernel_rfl) ?_; simp only [go_sem, Nat.reduceAdd, Nat.reduceLeDiff, Nat.reduceSub, Int.reduceToNat, reduceCtorEq, rqR_len]; repeat (with_reducible refine And.intro (by omega) ?_); refine AQ.nx rfl ?_; simp only [go_sem, Nat.reduceAdd, Nat.reduceLeDiff, Nat.reduceSub, Int.reduceToNat, reduceCtorEq, rqR_len]))
      · rw [List.length_set, rqR_len, hLl]; omega
      have hrow2 := rows_last l N K t 8 N [48]
      rw [← hL] at hrow2
      rw [hrow2]
      obtain ⟨L2, hL2⟩ : ∃ L2, l ++ [(⟨N, K, t, false, true, 8, N, [48]⟩ : Rq)] = L2 := ⟨_, rfl⟩
      have hLl2 : L2.length = l.length + 1 := by rw [← hL2, List.length_append]; rfl
      have hta2 : (rqR L2).take (l.length + 1) = rqR L2 := List.take_of_length_le (by rw [rqR_len, hLl2]; exact Nat.le_refl _)
      rw [hL2]
      refine AE.freeze 2 (rows := rqR L2) rfl (by simp [go_sem, rqR_len, hLl2]) (by simp [go_sem, rqR_len, hLl2]) ?_
      simp only [go_sem, Nat.reduceAdd, Nat.reduceLeDiff, Nat.reduceSub, Int.reduceToNat, reduceCtorEq, List.drop_zero, hta2]
      repeat (first | refine xA ?_ | refine xB ?_ | refine xC ?_ | refine xE ?_ | refine xD ?_ | refine xK ?_ | refine xS ?_ | refine xM ?_ | refine xT ?_ | refine xF ?_ | ((first | refine xR ?_ | refine xW ?_ | refine vq_id ?_); simp only [go_sem, Nat.reduceAdd, Nat.reduceLeDiff, Nat.reduceSub, Int.reduceToNat, reduceCtorEq]) | (refine ⟨by first | omega | (intros; simp_all; done) | (intros; simp_all; omega), ?_⟩; try simp only [go_sem, Nat.reduceAdd, Nat.reduceLeDiff, Nat.reduceSub, Int.reduceToNat, reduceCtorEq]))
      refine AQ.fn (by kernel_rfl) rfl rfl rfl (sent_spec p nm w (n + 1) L2 (by omega)) rfl ?_
      repeat (first | refine xA ?_ | refine xB ?_ | refine xC ?_ | refine xE ?_ | refine xD ?_ | refine xK ?_ | refine xS ?_ | refine xM ?_ | refine xT ?_ | refine xF ?_ | ((first | refine xR ?_ | refine xW ?_ | refine vq_id ?_); simp only [go_sem, Nat.reduceAdd, Nat.reduceLeDiff, Nat.reduceSub, Int.reduceToNat, reduceCtorEq]) | (refine ⟨by first | omega | (intros; simp_all; done) | (intros; simp_all; omega), ?_⟩; try simp only [go_sem, Nat.reduceAdd, Nat.reduceLeDiff, Nat.reduceSub, Int.reduceToNat, reduceCtorEq]))
      exact AE.retD [3, 1, 0] rfl ⟨⟨rfl, Nat.le_of_ble_eq_true (by kernel_rfl)⟩, rfl, rfl, trivial⟩ rfl ⟨rfl, rfl⟩
  have hK5 : K ≠ 5 := by simpa using h9
  rw [if_neg hK5]
  repeat (first | refine xA ?_ | refine xB ?_ | refine xC ?_ | refine xE ?_ | refine xD ?_ | refine xK ?_ | refine xS ?_ | refine xM ?_ | refine xT ?_ | refine xF ?_ | ((first | refine xR ?_ | refine xW ?_ | refine vq_id ?_); simp only [go_sem, Nat.reduceAdd, Nat.reduceLeDiff, Nat.reduceSub, Int.reduceToNat, reduceCtorEq]) | (refine ⟨by first | omega | (intros; simp_all; done) | (intros; simp_all; omega), ?_⟩; try simp only [go_sem, Nat.reduceAdd, Nat.reduceLeDiff, Nat.reduceSub, Int.reduceToNat, reduceCtorEq]))
  refine AP.cond rfl rfl (fun h10 => ?_) (fun h10 => ?_)
  · have hK6 : K = 6 := by simpa using h10
    rw [if_pos hK6]
    repeat (first | refine xA ?_ | refine xB ?_ | refine xC ?_ | refine xE ?_ | refine xD ?_ | refine xK ?_ | refine xS ?_ | refine xM ?_ | refine xT ?_ | refine xF ?_ | ((first | refine xR ?_ | refine xW ?_ | refine vq_id ?_); simp only [go_sem, Nat.reduceAdd, Nat.reduceLeDiff, Nat.reduceSub, Int.reduceToNat, reduceCtorEq]) | (refine ⟨by first | omega | (intros; simp_all; done) | (intros; simp_all; omega), ?_⟩; try simp only [go_sem, Nat.reduceAdd, Nat.reduceLeDiff, Nat.reduceSub, Int.reduceToNat, reduceCtorEq]))
    refine AP.drawE 11 (Tree.node [] [0, 1, 2, 3, 4, 5, 6] [7] [Tree.node [1, 2, 3, 4] [8, 9] [10] [Tree.node [] [] [] []]]) (by kernel_rfl) rfl (by kernel_rfl) (by kernel_rfl) ?_
    refine vd_node ?_
    simp only [go_sem, Nat.reduceAdd, Nat.reduceLeDiff, Nat.reduceSub, Int.reduceToNat, reduceCtorEq]
    repeat' (first | with_reducible exact True.intro | with_reducible refine And.intro (by omega) ?_ | with_reducible refine And.intro ?_ ?_ | (refine AQ.nx rfl ?_; simp only [go_sem, Nat.reduceAdd, Nat.reduceLeDiff, Nat.reduceSub, Int.reduceToNat, reduceCtorEq, rqR_len]) | refine AQ.skip (by kernel_rfl) rfl ?_ | refine AQ.done ?_ | (refine AQ.go (by kernel_rfl) ?_; simp only [go_sem, Nat.reduceAdd, Nat.reduceLeDiff, Nat.reduceSub, Int.reduceToNat, reduceCtorEq, rqR_len]; repeat (with_reducible refine And.intro (by omega) ?_); refine AQ.nx rfl ?_; simp only [go_sem, Nat.reduceAdd, Nat.reduceLeDiff, Nat.reduceSub, Int.reduceToNat, reduceCtorEq, rqR_len]))
    · rw [List.length_set, rqR_len, hLl]; omega
    have hrow2 := rows_last l N K t 8 N []
    rw [← hL] at hrow2
    rw [hrow2]
    obtain ⟨L2, hL2⟩ : ∃ L2, l ++ [(⟨N, K, t, false, true, 8, N, []⟩ : Rq)] = L2 := ⟨_, rfl⟩
    have hLl2 : L2.length = l.length + 1 := by rw [← hL2, List.length_append]; rfl
    have hta2 : (rqR L2).take (l.length + 1) = rqR L2 := List.take_of_length_le (by rw [rqR_len, hLl2]; exact Nat.le_refl _)
    rw [hL2]
    refine AE.freeze 2 (rows := rqR L2) rfl (by simp [go_sem, rqR_len, hLl2]) (by simp [go_sem, rqR_len, hLl2]) ?_
    simp only [go_sem, Nat.reduceAdd, Nat.reduceLeDiff, Nat.reduceSub, Int.reduceToNat, reduceCtorEq, List.drop_zero, hta2]
    repeat (first | refine xA ?_ | refine xB ?_ | refine xC ?_ | refine xE ?_ | refine xD ?_ | refine xK ?_ | refine xS ?_ | refine xM ?_ | refine xT ?_ | refine xF ?_ | ((first | refine xR ?_ | refine xW ?_ | refine vq_id ?_); simp only [go_sem, Nat.reduceAdd, Nat.reduceLeDiff, Nat.reduceSub, Int.reduceToNat, reduceCtorEq]) | (refine ⟨by first | omega | (intros; simp_all; done) | (intros; simp_all; omega), ?_⟩; try simp only [go_sem, Nat.reduceAdd, Nat.reduceLeDiff, Nat.reduceSub, Int.reduceToNat, reduceCtorEq]))
    refine AQ.fn (by kernel_rfl) rfl rfl rfl (sent_spec 2 nm w (n + 1) L2 (by omega)) rfl ?_
    repeat (first | refine xA ?_ | refine xB ?_ | refine xC ?_ | refine xE ?_ | refine xD ?_ | refine xK ?_ | refine xS ?_ | refine xM ?_ | refine xT ?_ | refine xF ?_ | ((first | refine xR ?_ | refine xW ?_ | refine vq_id ?_); simp only [go_sem, Nat.reduceAdd, Nat.reduceLeDiff, Nat.reduceSub, Int.reduceToNat, reduceCtorEq]) | (refine ⟨by first | omega | (intros; simp_all; done) | (intros; simp_all; omega), ?_⟩; try simp only [go_sem, Nat.reduceAdd, Nat.reduceLeDiff, Nat.reduceSub, Int.reduceToNat, reduceCtorEq]))
    exact AE.retD [1, 0] rfl ⟨⟨rfl, Nat.le_of_ble_eq_true (by kernel_rfl)⟩, rfl, rfl, trivial⟩ rfl ⟨rfl, rfl⟩
  have hK6 : K ≠ 6 := by simpa using h10
  rw [if_neg hK6, ← hL]
  have hta : (rqR L).take (l.length + 1) = rqR L := List.take_of_length_le (by rw [rqR_len, hLl]; exact Nat.le_refl _)
  refine AP.freeze 2 (rows := rqR L) rfl (by simp [go_sem, rqR_len, hLl]) (by simp [go_sem, rqR_len, hLl]) ?_
  simp only [go_sem, Nat.reduceAdd, Nat.reduceLeDiff, Nat.reduceSub, Int.reduceToNat, reduceCtorEq, List.drop_zero, hta]
  repeat (first | refine xA ?_ | refine xB ?_ | refine xC ?_ | refine xE ?_ | refine xD ?_ | refine xK ?_ | refine xS ?_ | refine xM ?_ | refine xT ?_ | refine xF ?_ | ((first | refine xR ?_ | refine xW ?_ | refine vq_id ?_); simp only [go_sem, Nat.reduceAdd, Nat.reduceLeDiff, Nat.reduceSub, Int.reduceToNat, reduceCtorEq]) | (refine ⟨by first | omega | (intros; simp_all; done) | (intros; simp_all; omega), ?_⟩; try simp only [go_sem, Nat.reduceAdd, Nat.reduceLeDiff, Nat.reduceSub, Int.reduceToNat, reduceCtorEq]))
  refine AQ.fn (by kernel_rfl) rfl rfl rfl (sent_spec p nm w (n + 1) L (by omega)) rfl ?_
  repeat (first | refine xA ?_ | refine xB ?_ | refine xC ?_ | refine xE ?_ | refine xD ?_ | refine xK ?_ | refine xS ?_ | refine xM ?_ | refine xT ?_ | refine xF ?_ | ((first | refine xR ?_ | refine xW ?_ | refine vq_id ?_); simp only [go_sem, Nat.reduceAdd, Nat.reduceLeDiff, Nat.reduceSub, Int.reduceToNat, reduceCtorEq]) | (refine ⟨by first | omega | (intros; simp_all; done) | (intros; simp_all; omega), ?_⟩; try simp only [go_sem, Nat.reduceAdd, Nat.reduceLeDiff, Nat.reduceSub, Int.reduceToNat, reduceCtorEq]))
  exact AE.retD [1, 0] rfl ⟨⟨rfl, Nat.le_of_ble_eq_true (by kernel_rfl)⟩, rfl, rfl, trivial⟩ rfl ⟨rfl, rfl⟩
end Go.Proofs.YtlpcdpjkdodmcaaGreatDoor
end

section
namespace Go.Proofs.YtlpcdpjkdodmcaaGreatDoor
open Go Go.AL Go.RowKit
set_option maxRecDepth 10000
set_option maxHeartbeats 4000000
theorem new_ref (w : Int) : PFn Tryz.prog 8 [Iv w] (newV w) := by
  unfold newV
  cases hb : (decide (w < 1) || decide (16 < w)) with
  | true =>
    rw [if_pos rfl]
    refine PFn.told (r := .tup [.agg [Iv 0, Sv [], Iv 0, Iv 0, nilS], Iv 3]) ?_ told_n
    refine ACall.walk [0, 2, 3, 9] [2] Tryz.func8 rfl Tryz.ntmps8 (by kernel_rfl) (by rfl) rfl fun W own I0 φ0 lay => ?_
    repeat (first | refine xA ?_ | refine xB ?_ | refine xC ?_ | refine xE ?_ | refine xD ?_ | refine xK ?_ | refine xS ?_ | refine xM ?_ | refine xT ?_ | refine xF ?_ | ((first | refine xR ?_ | refine xW ?_ | refine vq_id ?_); simp only [go_sem, Nat.reduceAdd, Nat.reduceLeDiff, Nat.reduceSub, Int.reduceToNat, reduceCtorEq, hb]) | (refine ⟨by first | omega | (intros; simp_all; done) | (intros; simp_all; omega), ?_⟩; try simp only [go_sem, Nat.reduceAdd, Nat.reduceLeDiff, Nat.reduceSub, Int.reduceToNat, reduceCtorEq, hb]))
    exact AE.retD [0] rfl ⟨⟨rfl, Nat.le_of_ble_eq_true (by kernel_rfl)⟩, rfl, trivial⟩ rfl ⟨rfl, rfl⟩
  | false =>
    rw [if_neg (by decide)]
    refine PFn.told (r := .tup [.agg [Iv 0, Sv [], Iv w, Iv 1, nilS], Iv 0]) ?_ told_n
    refine ACall.walk [0, 2, 3, 9] [2] Tryz.func8 rfl Tryz.ntmps8 (by kernel_rfl) (by rfl) rfl fun W own I0 φ0 lay => ?_
    repeat (first | refine xA ?_ | refine xB ?_ | refine xC ?_ | refine xE ?_ | refine xD ?_ | refine xK ?_ | refine xS ?_ | refine xM ?_ | refine xT ?_ | refine xF ?_ | ((first | refine xR ?_ | refine xW ?_ | refine vq_id ?_); simp only [go_sem, Nat.reduceAdd, Nat.reduceLeDiff, Nat.reduceSub, Int.reduceToNat, reduceCtorEq, hb]) | (refine ⟨by first | omega | (intros; simp_all; done) | (intros; simp_all; omega), ?_⟩; try simp only [go_sem, Nat.reduceAdd, Nat.reduceLeDiff, Nat.reduceSub, Int.reduceToNat, reduceCtorEq, hb]))
    exact AE.retD [0] rfl ⟨⟨rfl, Nat.le_of_ble_eq_true (by kernel_rfl)⟩, rfl, trivial⟩ rfl ⟨rfl, rfl⟩
theorem flush_ref (p : Int) (nm : List UInt8) (w n : Int) (l : List Rq) (hl : l.length ≤ 1000000) : PFn Tryz.prog 47 [.agg [Iv p, Sv nm, Iv w, Iv n, .im (.sl 8 (rqR l))]]
    (.tup [.agg [Iv (rdy p l).1, Sv nm, Iv w, Iv n, .im (.sl 8 (rqR (rdy p l).2.1))], .im (.sl 3 (msgR (rdy p l).2.2))]) := by
  refine ACall.walk [0, 1, 2, 3, 4, 16, 30] [1, 2] Tryz.func47 rfl Tryz.ntmps47 (by kernel_rfl) (by rfl) rfl fun W own I0 φ0 lay => ?_
  repeat (first | refine xA ?_ | refine xB ?_ | refine xC ?_ | refine xE ?_ | refine xD ?_ | refine xK ?_ | refine xS ?_ | refine xM ?_ | refine xT ?_ | refine xF ?_ | ((first | refine xR ?_ | refine xW ?_ | refine vq_id ?_); simp only [go_sem, Nat.reduceAdd, Nat.reduceLeDiff, Nat.reduceSub, Int.reduceToNat, reduceCtorEq]) | (refine ⟨by first | omega | (intros; simp_all; done) | (intros; simp_all; omega), ?_⟩; try simp only [go_sem, Nat.reduceAdd, Nat.reduceLeDiff, Nat.reduceSub, Int.reduceToNat, reduceCtorEq]))
  refine AP.loop rfl (α := Int × List Rq × List Msg) (fun s => [(1, .ob 0 0), (2, .ob 1 0), (4, .os 2 3 0 s.2.2.length)]) (fun s => [(2, .vec 47 3 (msgR s.2.2)), (1, .var 34 [Iv 0, Sv [], Iv 0, Iv 0, nilS]), (0, .var 34 [Iv s.1, Sv nm, Iv w, Iv n, .im (.sl 8 (rqR s.2.1))])]) (fun s => (rdy s.1 s.2.1).1 = (rdy p l).1 ∧ (rdy s.1 s.2.1).2.1 = (rdy p l).2.1 ∧ s.2.2 ++ (rdy s.1 s.2.1).2.2 = (rdy p l).2.2 ∧ s.2.1.length + s.2.2.length ≤ 1000000) (fun s => s.2.1.length) (p, l, []) ⟨rfl, rfl, rfl, by simpa using hl⟩ (by repeat (first | exact Sub.nil _ | refine Sub.cons rfl ?_)) rfl fun ⟨p1, l1, o1⟩ ⟨h1, h2, h3, h4⟩ => ?_
  simp only at h1 h2 h3 h4
  have hfin : (rdy p1 l1).1 = p1 → (rdy p1 l1).2.1 = l1 → (rdy p1 l1).2.2 = [] → (rdy p l).1 = p1 ∧ (rdy p l).2.1 = l1 ∧ (rdy p l).2.2 = o1 := fun g1 g2 g3 => ⟨by rw [← h1, g1], by rw [← h2, g2], by rw [← h3, g3, List.append_nil]⟩
  have hta : (msgR o1).take o1.length = msgR o1 := List.take_of_length_le (by rw [msgR_len]; exact Nat.le_refl _)
  cases l1 with
  | nil =>
    obtain ⟨g1, g2, g3⟩ := hfin rfl rfl rfl
    rw [g1, g2, g3]
    repeat (first | refine xA ?_ | refine xB ?_ | refine xC ?_ | refine xE ?_ | refine xD ?_ | refine xK ?_ | refine xS ?_ | refine xM ?_ | refine xT ?_ | refine xF ?_ | ((first | refine xR ?_ | refine xW ?_ | refine vq_id ?_); simp only [go_sem, Nat.reduceAdd, Nat.reduceLeDiff, Nat.reduceSub, Int.reduceToNat, reduceCtorEq, rqR_len, List.length_nil]) | (refine ⟨by first | omega | (intros; simp_all; done) | (intros; simp_all; omega), ?_⟩; try simp only [go_sem, Nat.reduceAdd, Nat.reduceLeDiff, Nat.reduceSub, Int.reduceToNat, reduceCtorEq, rqR_len, List.length_nil]))
    refine AE.freeze 2 (rows := msgR o1) rfl (by simp [go_sem, msgR_len]) (by simp [go_sem, msgR_len]) ?_
    simp only [go_sem, Nat.reduceAdd, Nat.reduceLeDiff, Nat.reduceSub, Int.reduceToNat, reduceCtorEq, List.drop_zero, hta]
    exact AE.retD [1, 0] rfl ⟨⟨rfl, Nat.le_of_ble_eq_true (by kernel_rfl)⟩, rfl, trivial⟩ rfl ⟨rfl, rfl⟩
  | cons r tl =>
    have hg0 : (rqR (r :: tl)).getD 0 [] = [Ii r.n, Ii r.k, Si r.b, .v (.bool r.c), .v (.bool r.a), Ii r.ak, Ii r.an, Si r.ab] := rfl
    have hd1 : (rqR (r :: tl)).drop 1 = rqR tl := rfl
    have hz : decide (0 < ((tl.length + 1 : Nat) : Int)) = true := by simp
    obtain ⟨a, ha⟩ : ∃ a, r.a = a := ⟨_, rfl⟩
    cases a with
    | false =>
      have e : rdy p1 (r :: tl) = (p1, r :: tl, []) := by rw [rdy, if_neg (by rw [ha]; decide)]
      obtain ⟨g1, g2, g3⟩ := hfin (by rw [e]) (by rw [e]) (by rw [e])
      rw [g1, g2, g3]
      repeat (first | refine xA ?_ | refine xB ?_ | refine xC ?_ | refine xE ?_ | refine xD ?_ | refine xK ?_ | refine xS ?_ | refine xM ?_ | refine xT ?_ | refine xF ?_ | ((first | refine xR ?_ | refine xW ?_ | refine vq_id ?_); simp only [go_sem, Nat.reduceAdd, Nat.reduceLeDiff, Nat.reduceSub, Int.reduceToNat, reduceCtorEq, rqR_len, ha, List.length_cons, hz, hg0, List.map_cons, List.map_nil, List.length_nil, List.take_succ_cons, List.take_zero, List.drop_succ_cons, List.drop_zero]) | (refine ⟨by first | omega | (intros; simp_all; done) | (intros; simp_all; omega), ?_⟩; try simp only [go_sem, Nat.reduceAdd, Nat.reduceLeDiff, Nat.reduceSub, Int.reduceToNat, reduceCtorEq, rqR_len, ha, List.length_cons, hz, hg0, List.map_cons, List.map_nil, List.length_nil, List.take_succ_cons, List.take_zero, List.drop_succ_cons, List.drop_zero]))
      refine AE.freeze 2 (rows := msgR o1) rfl (by simp [go_sem, msgR_len]) (by simp [go_sem, msgR_len]) ?_
      simp only [go_sem, Nat.reduceAdd, Nat.reduceLeDiff, Nat.reduceSub, Int.reduceToNat, reduceCtorEq, List.drop_zero, hta]
      exact AE.retD [1, 0] rfl ⟨⟨rfl, Nat.le_of_ble_eq_true (by kernel_rfl)⟩, rfl, trivial⟩ rfl ⟨rfl, rfl⟩
    | true =>
      simp only [List.length_cons] at h4
      have e : rdy p1 (r :: tl) = ((rdy (if r.k = 6 then 3 else p1) tl).1, (rdy (if r.k = 6 then 3 else p1) tl).2.1, (r.ak, r.an, r.ab) :: (rdy (if r.k = 6 then 3 else p1) tl).2.2) := by rw [rdy, if_pos ha]
      rw [e] at h1 h2 h3
      simp only at h1 h2 h3
      repeat (first | refine xA ?_ | refine xB ?_ | refine xC ?_ | refine xE ?_ | refine xD ?_ | refine xK ?_ | refine xS ?_ | refine xM ?_ | refine xT ?_ | refine xF ?_ | ((first | refine xR ?_ | refine xW ?_ | refine vq_id ?_); simp only [go_sem, Nat.reduceAdd, Nat.reduceLeDiff, Nat.reduceSub, Int.reduceToNat, reduceCtorEq, rqR_len, ha, hd1, List.length_cons, hz, hg0, List.map_cons, List.map_nil, List.length_nil, List.take_succ_cons, List.take_zero, List.drop_succ_cons, List.drop_zero]) | (refine ⟨by first | omega | (intros; simp_all; done) | (intros; simp_all; omega), ?_⟩; try simp only [go_sem, Nat.reduceAdd, Nat.reduceLeDiff, Nat.reduceSub, Int.reduceToNat, reduceCtorEq, rqR_len, ha, hd1, List.length_cons, hz, hg0, List.map_cons, List.map_nil, List.length_nil, List.take_succ_cons, List.take_zero, List.drop_succ_cons, List.drop_zero]))
      refine AQ.append (hnb := rfl) (rows := msgR o1) (es := 2) (by kernel_rfl) rfl rfl rfl (by rfl) Tryz.tk44 Tryz.sz47 (by show Option.map _ (zro Tryz.prog 47) = _; rw [Tryz.zr47]; rfl) Tryz.by47 (by rw [msgR_len]) (by rw [msgR_len]; simp only [List.length_cons, List.length_nil]; omega) (by rw [msgR_len]; simp only [List.length_cons, List.length_nil]; omega) ?_
      have e1 : msgR o1 ++ [[Ii r.ak, Ii r.an, Si r.ab]] = msgR (o1 ++ [(r.ak, r.an, r.ab)]) := msgR_snoc o1 (r.ak, r.an, r.ab)
      have e2 : o1.length + 1 = (o1 ++ [(r.ak, r.an, r.ab)]).length := by simp
      rw [e1]
      simp only [go_sem, Nat.reduceAdd, Nat.reduceLeDiff, Nat.reduceSub, Int.reduceToNat, reduceCtorEq, msgR_len, List.length_cons, List.length_nil]
      rw [e2]
      have hlen : tl.length + (o1 ++ [(r.ak, r.an, r.ab)]).length ≤ 1000000 := by rw [← e2]; omega
      repeat (first | refine xA ?_ | refine xB ?_ | refine xC ?_ | refine xE ?_ | refine xD ?_ | refine xK ?_ | refine xS ?_ | refine xM ?_ | refine xT ?_ | refine xF ?_ | ((first | refine xR ?_ | refine xW ?_ | refine vq_id ?_); simp only [go_sem, Nat.reduceAdd, Nat.reduceLeDiff, Nat.reduceSub, Int.reduceToNat, reduceCtorEq, rqR_len, ha, hd1, List.length_cons, hz, hg0, List.map_cons, List.map_nil, List.length_nil, List.take_succ_cons, List.take_zero, List.drop_succ_cons, List.drop_zero]) | (refine ⟨by first | omega | (intros; simp_all; done) | (intros; simp_all; omega), ?_⟩; try simp only [go_sem, Nat.reduceAdd, Nat.reduceLeDiff, Nat.reduceSub, Int.reduceToNat, reduceCtorEq, rqR_len, ha, hd1, List.length_cons, hz, hg0, List.map_cons, List.map_nil, List.length_nil, List.take_succ_cons, List.take_zero, List.drop_succ_cons, List.drop_zero]))
      refine AP.cond rfl rfl (fun hk6 => ?_) (fun hk6 => ?_)
      · have hk6' : r.k = 6 := by simpa using hk6
        rw [if_pos hk6'] at h1 h2 h3
        repeat (first | refine xA ?_ | refine xB ?_ | refine xC ?_ | refine xE ?_ | refine xD ?_ | refine xK ?_ | refine xS ?_ | refine xM ?_ | refine xT ?_ | refine xF ?_ | ((first | refine xR ?_ | refine xW ?_ | refine vq_id ?_); simp only [go_sem, Nat.reduceAdd, Nat.reduceLeDiff, Nat.reduceSub, Int.reduceToNat, reduceCtorEq, rqR_len, hd1, List.length_cons]) | (refine ⟨by first | omega | (intros; simp_all; done) | (intros; simp_all; omega), ?_⟩; try simp only [go_sem, Nat.reduceAdd, Nat.reduceLeDiff, Nat.reduceSub, Int.reduceToNat, reduceCtorEq, rqR_len, hd1, List.length_cons]))
        exact AE.round (3, tl, o1 ++ [(r.ak, r.an, r.ab)]) ⟨h1, h2, by rw [← h3, List.append_assoc]; rfl, hlen⟩ (by simp only [List.length_cons]; omega) (by repeat (first | exact Sub.nil _ | refine Sub.cons rfl ?_)) rfl
      have hk6' : r.k ≠ 6 := by simpa using hk6
      rw [if_neg hk6'] at h1 h2 h3
      repeat (first | refine xA ?_ | refine xB ?_ | refine xC ?_ | refine xE ?_ | refine xD ?_ | refine xK ?_ | refine xS ?_ | refine xM ?_ | refine xT ?_ | refine xF ?_ | ((first | refine xR ?_ | refine xW ?_ | refine vq_id ?_); simp only [go_sem, Nat.reduceAdd, Nat.reduceLeDiff, Nat.reduceSub, Int.reduceToNat, reduceCtorEq, rqR_len, hd1, List.length_cons]) | (refine ⟨by first | omega | (intros; simp_all; done) | (intros; simp_all; omega), ?_⟩; try simp only [go_sem, Nat.reduceAdd, Nat.reduceLeDiff, Nat.reduceSub, Int.reduceToNat, reduceCtorEq, rqR_len, hd1, List.length_cons]))
      exact AE.round (p1, tl, o1 ++ [(r.ak, r.an, r.ab)]) ⟨h1, h2, by rw [← h3, List.append_assoc]; rfl, hlen⟩ (by simp only [List.length_cons]; omega) (by repeat (first | exact Sub.nil _ | refine Sub.cons rfl ?_)) rfl
end Go.Proofs.YtlpcdpjkdodmcaaGreatDoor
end

section
namespace Go.Proofs.YtlpcdpjkdodmcaaGreatDoor
open Go Go.AL Go.RowKit
set_option maxRecDepth 10000
set_option maxHeartbeats 4000000
theorem take_chain (p : Int) (nm : List UInt8) (w n : Int) (l : List Rq) (hh : srvHead p w n l) (K N : Int) (t : List UInt8) : PFn Tryz.prog 43 [.agg [Iv p, Sv nm, Iv w, Iv n, .im (.sl 8 (rqR l))], .agg [Iv K, Iv N, Sv t]] (Iv (chainT p w n l K N t)) := by
  unfold srvHead at hh
  have e1 : (p == 2 || p == 3) = decide (2 ≤ p) := by
    rw [Bool.eq_iff_iff]
    simp only [Bool.or_eq_true, beq_iff_eq, decide_eq_true_eq]
    omega
  have e2 : decide (w ≤ (l.length : Int)) = ((l.length : Int) == w) := by
    rw [Bool.eq_iff_iff]
    simp only [beq_iff_eq, decide_eq_true_eq]
    omega
  have he := wrong_ref K N t
  unfold chainT
  refine ACall.walk [0, 1, 2, 3, 4, 5, 6, 15, 42, 44, 50, 57] [] Tryz.func43 rfl Tryz.ntmps43 (by kernel_rfl) (by rfl) rfl fun W own I0 φ0 lay => ?_
  repeat (first | refine xA ?_ | refine xB ?_ | refine xC ?_ | refine xE ?_ | refine xD ?_ | refine xK ?_ | refine xS ?_ | refine xM ?_ | refine xT ?_ | refine xF ?_ | ((first | refine xR ?_ | refine xW ?_ | refine vq_id ?_); simp only [go_sem, Nat.reduceAdd, Nat.reduceLeDiff, Nat.reduceSub, Int.reduceToNat, reduceCtorEq, e1]) | (refine ⟨by first | omega | (intros; simp_all; done) | (intros; simp_all; omega), ?_⟩; try simp only [go_sem, Nat.reduceAdd, Nat.reduceLeDiff, Nat.reduceSub, Int.reduceToNat, reduceCtorEq, e1]))
  refine AP.cond rfl rfl (fun h2 => ?_) (fun h2 => ?_)
  · rw [if_pos h2]
    repeat (first | refine xA ?_ | refine xB ?_ | refine xC ?_ | refine xE ?_ | refine xD ?_ | refine xK ?_ | refine xS ?_ | refine xM ?_ | refine xT ?_ | refine xF ?_ | ((first | refine xR ?_ | refine xW ?_ | refine vq_id ?_); simp only [go_sem, Nat.reduceAdd, Nat.reduceLeDiff, Nat.reduceSub, Int.reduceToNat, reduceCtorEq]) | (refine ⟨by first | omega | (intros; simp_all; done) | (intros; simp_all; omega), ?_⟩; try simp only [go_sem, Nat.reduceAdd, Nat.reduceLeDiff, Nat.reduceSub, Int.reduceToNat, reduceCtorEq]))
    exact AE.ret0 rfl ⟨rfl, trivial⟩ rfl ⟨rfl, rfl⟩
  rw [if_neg (by rw [h2]; decide)]
  repeat (first | refine xA ?_ | refine xB ?_ | refine xC ?_ | refine xE ?_ | refine xD ?_ | refine xK ?_ | refine xS ?_ | refine xM ?_ | refine xT ?_ | refine xF ?_ | ((first | refine xR ?_ | refine xW ?_ | refine vq_id ?_); simp only [go_sem, Nat.reduceAdd, Nat.reduceLeDiff, Nat.reduceSub, Int.reduceToNat, reduceCtorEq]) | (refine ⟨by first | omega | (intros; simp_all; done) | (intros; simp_all; omega), ?_⟩; try simp only [go_sem, Nat.reduceAdd, Nat.reduceLeDiff, Nat.reduceSub, Int.reduceToNat, reduceCtorEq]))
  refine AP.cond rfl rfl (fun h3 => ?_) (fun h3 => ?_)
  · rw [if_pos h3]
    repeat (first | refine xA ?_ | refine xB ?_ | refine xC ?_ | refine xE ?_ | refine xD ?_ | refine xK ?_ | refine xS ?_ | refine xM ?_ | refine xT ?_ | refine xF ?_ | ((first | refine xR ?_ | refine xW ?_ | refine vq_id ?_); simp only [go_sem, Nat.reduceAdd, Nat.reduceLeDiff, Nat.reduceSub, Int.reduceToNat, reduceCtorEq]) | (refine ⟨by first | omega | (intros; simp_all; done) | (intros; simp_all; omega), ?_⟩; try simp only [go_sem, Nat.reduceAdd, Nat.reduceLeDiff, Nat.reduceSub, Int.reduceToNat, reduceCtorEq]))
    exact AE.ret0 rfl ⟨rfl, trivial⟩ rfl ⟨rfl, rfl⟩
  rw [if_neg (by rw [h3]; decide)]
  repeat (first | refine xA ?_ | refine xB ?_ | refine xC ?_ | refine xE ?_ | refine xD ?_ | refine xK ?_ | refine xS ?_ | refine xM ?_ | refine xT ?_ | refine xF ?_ | ((first | refine xR ?_ | refine xW ?_ | refine vq_id ?_); simp only [go_sem, Nat.reduceAdd, Nat.reduceLeDiff, Nat.reduceSub, Int.reduceToNat, reduceCtorEq]) | (refine ⟨by first | omega | (intros; simp_all; done) | (intros; simp_all; omega), ?_⟩; try simp only [go_sem, Nat.reduceAdd, Nat.reduceLeDiff, Nat.reduceSub, Int.reduceToNat, reduceCtorEq]))
  refine AQ.fn (by kernel_rfl) rfl rfl rfl (he) rfl ?_
  repeat (first | refine xA ?_ | refine xB ?_ | refine xC ?_ | refine xE ?_ | refine xD ?_ | refine xK ?_ | refine xS ?_ | refine xM ?_ | refine xT ?_ | refine xF ?_ | ((first | refine xR ?_ | refine xW ?_ | refine vq_id ?_); simp only [go_sem, Nat.reduceAdd, Nat.reduceLeDiff, Nat.reduceSub, Int.reduceToNat, reduceCtorEq]) | (refine ⟨by first | omega | (intros; simp_all; done) | (intros; simp_all; omega), ?_⟩; try simp only [go_sem, Nat.reduceAdd, Nat.reduceLeDiff, Nat.reduceSub, Int.reduceToNat, reduceCtorEq]))
  refine AP.cond rfl rfl (fun h4 => ?_) (fun h4 => ?_)
  · have h4' : msgE K N t ≠ 0 := by simpa using h4
    rw [if_pos h4']
    repeat (first | refine xA ?_ | refine xB ?_ | refine xC ?_ | refine xE ?_ | refine xD ?_ | refine xK ?_ | refine xS ?_ | refine xM ?_ | refine xT ?_ | refine xF ?_ | ((first | refine xR ?_ | refine xW ?_ | refine vq_id ?_); simp only [go_sem, Nat.reduceAdd, Nat.reduceLeDiff, Nat.reduceSub, Int.reduceToNat, reduceCtorEq]) | (refine ⟨by first | omega | (intros; simp_all; done) | (intros; simp_all; omega), ?_⟩; try simp only [go_sem, Nat.reduceAdd, Nat.reduceLeDiff, Nat.reduceSub, Int.reduceToNat, reduceCtorEq]))
    exact AE.ret0 rfl ⟨rfl, trivial⟩ rfl ⟨rfl, rfl⟩
  have h4' : msgE K N t = 0 := by simpa using h4
  rw [if_neg (by rw [h4']; decide)]
  repeat (first | refine xA ?_ | refine xB ?_ | refine xC ?_ | refine xE ?_ | refine xD ?_ | refine xK ?_ | refine xS ?_ | refine xM ?_ | refine xT ?_ | refine xF ?_ | ((first | refine xR ?_ | refine xW ?_ | refine vq_id ?_); simp only [go_sem, Nat.reduceAdd, Nat.reduceLeDiff, Nat.reduceSub, Int.reduceToNat, reduceCtorEq]) | (refine ⟨by first | omega | (intros; simp_all; done) | (intros; simp_all; omega), ?_⟩; try simp only [go_sem, Nat.reduceAdd, Nat.reduceLeDiff, Nat.reduceSub, Int.reduceToNat, reduceCtorEq]))
  refine AP.cond rfl rfl (fun h5 => ?_) (fun h5 => ?_)
  · rw [if_pos h5]
    repeat (first | refine xA ?_ | refine xB ?_ | refine xC ?_ | refine xE ?_ | refine xD ?_ | refine xK ?_ | refine xS ?_ | refine xM ?_ | refine xT ?_ | refine xF ?_ | ((first | refine xR ?_ | refine xW ?_ | refine vq_id ?_); simp only [go_sem, Nat.reduceAdd, Nat.reduceLeDiff, Nat.reduceSub, Int.reduceToNat, reduceCtorEq]) | (refine ⟨by first | omega | (intros; simp_all; done) | (intros; simp_all; omega), ?_⟩; try simp only [go_sem, Nat.reduceAdd, Nat.reduceLeDiff, Nat.reduceSub, Int.reduceToNat, reduceCtorEq]))
    exact AE.ret0 rfl ⟨rfl, trivial⟩ rfl ⟨rfl, rfl⟩
  rw [if_neg (by rw [h5]; decide)]
  repeat (first | refine xA ?_ | refine xB ?_ | refine xC ?_ | refine xE ?_ | refine xD ?_ | refine xK ?_ | refine xS ?_ | refine xM ?_ | refine xT ?_ | refine xF ?_ | ((first | refine xR ?_ | refine xW ?_ | refine vq_id ?_); simp only [go_sem, Nat.reduceAdd, Nat.reduceLeDiff, Nat.reduceSub, Int.reduceToNat, reduceCtorEq, rqR_len, e2]) | (refine ⟨by first | omega | (intros; simp_all; done) | (intros; simp_all; omega), ?_⟩; try simp only [go_sem, Nat.reduceAdd, Nat.reduceLeDiff, Nat.reduceSub, Int.reduceToNat, reduceCtorEq, rqR_len, e2]))
  refine AP.cond rfl rfl (fun h6 => ?_) (fun h6 => ?_)
  · rw [if_pos h6]
    repeat (first | refine xA ?_ | refine xB ?_ | refine xC ?_ | refine xE ?_ | refine xD ?_ | refine xK ?_ | refine xS ?_ | refine xM ?_ | refine xT ?_ | refine xF ?_ | ((first | refine xR ?_ | refine xW ?_ | refine vq_id ?_); simp only [go_sem, Nat.reduceAdd, Nat.reduceLeDiff, Nat.reduceSub, Int.reduceToNat, reduceCtorEq]) | (refine ⟨by first | omega | (intros; simp_all; done) | (intros; simp_all; omega), ?_⟩; try simp only [go_sem, Nat.reduceAdd, Nat.reduceLeDiff, Nat.reduceSub, Int.reduceToNat, reduceCtorEq]))
    exact AE.ret0 rfl ⟨rfl, trivial⟩ rfl ⟨rfl, rfl⟩
  rw [if_neg (by rw [h6]; decide)]
  repeat (first | refine xA ?_ | refine xB ?_ | refine xC ?_ | refine xE ?_ | refine xD ?_ | refine xK ?_ | refine xS ?_ | refine xM ?_ | refine xT ?_ | refine xF ?_ | ((first | refine xR ?_ | refine xW ?_ | refine vq_id ?_); simp only [go_sem, Nat.reduceAdd, Nat.reduceLeDiff, Nat.reduceSub, Int.reduceToNat, reduceCtorEq, rqR_len]) | (refine ⟨by first | omega | (intros; simp_all; done) | (intros; simp_all; omega), ?_⟩; try simp only [go_sem, Nat.reduceAdd, Nat.reduceLeDiff, Nat.reduceSub, Int.reduceToNat, reduceCtorEq, rqR_len]))
  refine AP.cond rfl rfl (fun h7 => ?_) (fun h7 => ?_)
  · rw [if_pos h7]
    repeat (first | refine xA ?_ | refine xB ?_ | refine xC ?_ | refine xE ?_ | refine xD ?_ | refine xK ?_ | refine xS ?_ | refine xM ?_ | refine xT ?_ | refine xF ?_ | ((first | refine xR ?_ | refine xW ?_ | refine vq_id ?_); simp only [go_sem, Nat.reduceAdd, Nat.reduceLeDiff, Nat.reduceSub, Int.reduceToNat, reduceCtorEq]) | (refine ⟨by first | omega | (intros; simp_all; done) | (intros; simp_all; omega), ?_⟩; try simp only [go_sem, Nat.reduceAdd, Nat.reduceLeDiff, Nat.reduceSub, Int.reduceToNat, reduceCtorEq]))
    exact AE.ret0 rfl ⟨rfl, trivial⟩ rfl ⟨rfl, rfl⟩
  rw [if_neg (by rw [h7]; decide)]
  repeat (first | refine xA ?_ | refine xB ?_ | refine xC ?_ | refine xE ?_ | refine xD ?_ | refine xK ?_ | refine xS ?_ | refine xM ?_ | refine xT ?_ | refine xF ?_ | ((first | refine xR ?_ | refine xW ?_ | refine vq_id ?_); simp only [go_sem, Nat.reduceAdd, Nat.reduceLeDiff, Nat.reduceSub, Int.reduceToNat, reduceCtorEq]) | (refine ⟨by first | omega | (intros; simp_all; done) | (intros; simp_all; omega), ?_⟩; try simp only [go_sem, Nat.reduceAdd, Nat.reduceLeDiff, Nat.reduceSub, Int.reduceToNat, reduceCtorEq]))
  exact AE.ret0 rfl ⟨rfl, trivial⟩ rfl ⟨rfl, rfl⟩
end Go.Proofs.YtlpcdpjkdodmcaaGreatDoor
end

section
namespace Go.Proofs.YtlpcdpjkdodmcaaGreatDoor
open Go Go.AL Go.RowKit
set_option maxRecDepth 10000
set_option maxHeartbeats 4000000
structure CSt where
  p : Int
  w : Int
  s : Int
  l : List Rq
structure SSt where
  p : Int
  nm : List UInt8
  w : Int
  n : Int
  l : List Rq
structure TSt where
  c : CSt
  s : SSt
  sent : List Msg
  ans : List Msg
end Go.Proofs.YtlpcdpjkdodmcaaGreatDoor
end

section
namespace Go.Proofs.YtlpcdpjkdodmcaaGreatDoor
open Go Go.AL Go.RowKit
set_option maxRecDepth 10000
set_option maxHeartbeats 4000000
end Go.Proofs.YtlpcdpjkdodmcaaGreatDoor
end

section
namespace Go.Proofs.YtlpcdpjkdodmcaaGreatDoor
open Go Go.AL Go.RowKit
set_option maxRecDepth 10000
structure GL (p w s : Int) (L : List Rq) : Prop where
  hp : 1 ≤ p ∧ p ≤ 3
  hw : 1 ≤ w ∧ w ≤ 16
  hs : 1 ≤ s ∧ s ≤ 2147483646
  len : (L.length : Int) ≤ w
  byes : byesB p L = true
  row : ∀ (i : Nat) (r : Rq), L[i]? = some r → rvB r = true ∧ r.n = s - L.length + 1 + i
theorem kAt_cons (r : Rq) (l : List Rq) (i : Nat) : kAt (r :: l) (i + 1) = kAt l i := by simp [kAt]
theorem byes1 {l : List Rq} : byesB 1 l = true ↔ ∀ (i : Nat) (r : Rq), l[i]? = some r → r.k ≠ 6 := by
  simp only [byesB, if_true, decide_eq_true_eq]
  constructor
  · intro h i r hr; rw [← kAt_eq hr]; exact h i (List.getElem?_eq_some_iff.1 hr).1
  · intro h i hi; rw [kAt_eq (List.getElem?_eq_getElem hi)]; exact h i _ (List.getElem?_eq_getElem hi)
theorem byes2 {l : List Rq} : byesB 2 l = true ↔ 0 < l.length ∧ kAt l (l.length - 1) = 6 ∧ ∀ i, i < l.length - 1 → kAt l i ≠ 6 := by
  simp only [byesB, if_neg (show ¬ (2 : Int) = 1 by decide), if_true, decide_eq_true_eq]
theorem byes3 {l : List Rq} : byesB 3 l = true ↔ l = [] := by
  simp only [byesB, if_neg (show ¬ (3 : Int) = 1 by decide), if_neg (show ¬ (3 : Int) = 2 by decide), decide_eq_true_eq, List.length_eq_zero_iff]
theorem GL.tail {p w s : Int} {r : Rq} {L : List Rq} (h : GL p w s (r :: L)) : GL (if r.k = 6 then 3 else p) w s L := by
  obtain ⟨hp, hw, hs, hl, hb, hr⟩ := h
  have hlen : ((L.length : Nat) : Int) ≤ w := by simp at hl; omega
  have hrow : ∀ (i : Nat) (r : Rq), L[i]? = some r → rvB r = true ∧ r.n = s - L.length + 1 + i := fun i r' h' => by
    have := hr (i + 1) r' (by simpa using h')
    refine ⟨this.1, ?_⟩
    rw [this.2]; simp; omega
  rcases (show p = 1 ∨ p = 2 ∨ p = 3 by omega) with rfl | rfl | rfl
  · have h1 := byes1.1 hb
    rw [if_neg (h1 0 r rfl)]
    exact ⟨by omega, hw, hs, hlen, byes1.2 fun i r' h' => h1 (i + 1) r' (by simpa using h'), hrow⟩
  · obtain ⟨_, h2, h3⟩ := byes2.1 hb
    simp only [List.length_cons, Nat.add_sub_cancel] at h2 h3
    cases L with
    | nil =>
      have : r.k = 6 := by simpa [kAt] using h2
      rw [if_pos this]
      exact ⟨by omega, hw, hs, hlen, byes3.2 rfl, hrow⟩
    | cons r2 L =>
      have h30 := h3 0 (by simp)
      have : r.k ≠ 6 := by simpa [kAt] using h30
      rw [if_neg this]
      refine ⟨by omega, hw, hs, hlen, byes2.2 ⟨by simp, ?_, fun i hi => ?_⟩, hrow⟩
      · simp only [List.length_cons, Nat.add_sub_cancel] at h2 ⊢
        rw [← kAt_cons r]; exact h2
      · rw [← kAt_cons r]; exact h3 (i + 1) (by simp at hi ⊢; omega)
  · have := byes3.1 hb
    cases this
theorem GL.srvP {p w s : Int} {L : List Rq} (h : GL p w s L) {nm : List UInt8} (hn : onlyOk nm [2, 3] = true) (h0 : ∀ r, L[0]? = some r → r.a = false) : srvP p nm w (s + 1) L := by
  obtain ⟨hp, hw, hs, hl, hb, hr⟩ := h
  refine ⟨⟨by omega, by omega, by omega, hl⟩, hb, fun i r hr' => ?_, ?_⟩
  · obtain ⟨h1, h2⟩ := hr i r hr'
    have hi := (List.getElem?_eq_some_iff.1 hr').1
    refine ⟨h1, by omega, fun h => h0 r (by rw [← h]; exact hr'), fun h => ?_⟩
    obtain ⟨j, rfl⟩ : ∃ j, i = j + 1 := ⟨i - 1, by omega⟩
    obtain ⟨q, hq⟩ : ∃ q, L[j]? = some q := ⟨L[j], List.getElem?_eq_getElem (by omega)⟩
    rw [Nat.add_sub_cancel, nAt_eq hq, (hr j q hq).2, h2]
    omega
  · rw [if_neg (by omega)]
    exact ⟨hn, by omega⟩
end Go.Proofs.YtlpcdpjkdodmcaaGreatDoor
end

section
namespace Go.Proofs.YtlpcdpjkdodmcaaGreatDoor
open Go Go.AL Go.RowKit
set_option maxRecDepth 10000
def tkP (p K : Int) : Int := if K = 6 then 2 else p
noncomputable def tkL (l : List Rq) (K N : Int) (t : List UInt8) : List Rq :=
  if K = 5 then
    if idxQ (freeB (atoiV t).1) (l ++ [⟨N, K, t, false, false, 0, 0, []⟩]) < 0 then l ++ [⟨N, K, t, false, true, 8, N, [48]⟩]
    else cancelled (l ++ [⟨N, K, t, false, true, 8, N, [49]⟩]) (idxQ (freeB (atoiV t).1) (l ++ [⟨N, K, t, false, false, 0, 0, []⟩]))
  else if K = 6 then l ++ [⟨N, K, t, false, true, 8, N, []⟩] else l ++ [⟨N, K, t, false, false, 0, 0, []⟩]
theorem taken_eq {p : Int} {nm : List UInt8} {w n : Int} {l : List Rq} {K N : Int} {t : List UInt8} (hK : K ≠ 1) : taken p nm w n l K N t = okT (tkP p K) nm w (n + 1) (tkL l K N t) := by
  unfold taken tkP tkL
  rw [if_neg hK]
  by_cases h5 : K = 5
  · subst h5
    rw [if_pos rfl, if_pos rfl, if_neg (show ¬ (5 : Int) = 6 by decide)]
    split <;> rfl
  · rw [if_neg h5, if_neg h5]
    by_cases h6 : K = 6
    · rw [if_pos h6, if_pos h6, if_pos h6]
    · rw [if_neg h6, if_neg h6, if_neg h6]
theorem GL.set {p w s : Int} {L : List Rq} (h : GL p w s L) {i : Nat} {r r' : Rq} (hi : L[i]? = some r) (hv : rvB r' = true) (hn : r'.n = r.n) (hk : r'.k = r.k) : GL p w s (L.set i r') := by
  obtain ⟨hp, hw, hs, hl, hb, hr⟩ := h
  have hlt := (List.getElem?_eq_some_iff.1 hi).1
  have hka : ∀ j, kAt (L.set i r') j = kAt L j := fun j => by
    by_cases hj : i = j
    · subst hj; rw [kAt_eq (List.getElem?_set_self hlt), kAt_eq hi, hk]
    · simp only [kAt, List.getElem?_set_ne hj]
  refine ⟨hp, hw, hs, by rw [List.length_set]; exact hl, ?_, fun j q hq => ?_⟩
  · rw [← hb]; simp only [byesB, hka, List.length_set]
  · rw [List.length_set]
    by_cases hj : i = j
    · subst hj
      rw [List.getElem?_set_self hlt] at hq
      cases hq
      exact ⟨hv, by rw [hn]; exact (hr i r hi).2⟩
    · rw [List.getElem?_set_ne hj] at hq
      exact hr j q hq
end Go.Proofs.YtlpcdpjkdodmcaaGreatDoor
end

section
namespace Go.Proofs.YtlpcdpjkdodmcaaGreatDoor
open Go Go.AL Go.RowKit
set_option maxRecDepth 10000
theorem cancel_facts {n : Int} {t : List UInt8} (h : msgE 5 n t = 0) : t.length ≤ 10 ∧ (∀ c ∈ t, isDig c = true) ∧ (atoiV t).1 = (digs t : Int) := by
  have hb : numR 1 2147483647 t = true := by
    unfold msgE at h
    split at h
    · cases h
    · split at h
      · cases h
      · split at h
        · cases h
        · split at h
          · rename_i hb
            simpa [bodyB] using hb
          · cases h
  unfold numR badHead at hb
  simp only [Bool.and_eq_true, Bool.not_eq_true', Bool.or_eq_false_iff, decide_eq_false_iff_not, decide_eq_true_eq, List.all_eq_true] at hb
  obtain ⟨⟨⟨⟨⟨h1, h2⟩, _⟩, h3⟩, h4⟩, h5⟩ := hb
  refine ⟨by omega, h3, ?_⟩
  rw [atoi_digs t h3 (fun e => h1 (by rw [e]; rfl)) (by omega)]
def cancR (c : Int) (r : Rq) : Rq := if freeB c r = true then ⟨r.n, r.k, r.b, true, true, 9, r.n, [48, 32, 48]⟩ else r
theorem asc_of {p : Int} {nm : List UInt8} {w n : Int} {l : List Rq} (h : srvP p nm w n l) : ∀ (d i : Nat) (r r' : Rq), l[i]? = some r → l[i + d + 1]? = some r' → r.n < r'.n := by
  intro d
  induction d with
  | zero =>
    intro i r r' h1 h2
    have := (h.2.2.1 (i + 0 + 1) r' h2).2.2.2 (by omega)
    rwa [show i + 0 + 1 - 1 = i by omega, nAt_eq h1] at this
  | succ d ih =>
    intro i r r' h1 h2
    have hlt := (List.getElem?_eq_some_iff.1 h2).1
    obtain ⟨q, hq⟩ : ∃ q, l[i + d + 1]? = some q := ⟨l[i + d + 1], List.getElem?_eq_getElem (by omega)⟩
    have h3 := ih i r q h1 hq
    have := (h.2.2.1 (i + (d + 1) + 1) r' h2).2.2.2 (by omega)
    rw [show i + (d + 1) + 1 - 1 = i + d + 1 by omega, nAt_eq hq] at this
    omega
theorem uniq_of {p : Int} {nm : List UInt8} {w n : Int} {l : List Rq} (h : srvP p nm w n l) {i j : Nat} {r r' : Rq} (h1 : l[i]? = some r) (h2 : l[j]? = some r') (e : r.n = r'.n) : i = j := by
  rcases Nat.lt_trichotomy i j with hlt | he | hlt
  · have := asc_of h (j - i - 1) i r r' h1 (by rw [show i + (j - i - 1) + 1 = j by omega]; exact h2); omega
  · exact he
  · have := asc_of h (i - j - 1) j r' r h2 (by rw [show j + (i - j - 1) + 1 = i by omega]; exact h1); omega
theorem tkL_canc {p : Int} {nm : List UInt8} {w n : Int} {l : List Rq} (h : srvP p nm w n l) (N : Int) (t : List UInt8) :
    tkL l 5 N t = l.map (cancR (atoiV t).1) ++ [⟨N, 5, t, false, true, 8, N, if l.any (freeB (atoiV t).1) = true then [49] else [48]⟩] := by
  obtain ⟨c, hc⟩ : ∃ c, (atoiV t).1 = c := ⟨_, rfl⟩
  have hx : freeB c ⟨N, 5, t, false, false, 0, 0, []⟩ = false := by simp [freeB, workB]
  rw [tkL, if_pos rfl, hc]
  by_cases hi : idxQ (freeB c) (l ++ [⟨N, 5, t, false, false, 0, 0, []⟩]) < 0
  · rw [if_pos hi]
    have hno : ∀ r ∈ l, freeB c r = false := by
      unfold idxQ at hi
      split at hi
      · omega
      · rename_i hn
        intro r hr
        have := List.findIdx?_eq_none_iff.1 hn r (List.mem_append_left _ hr)
        simpa using this
    have e1 : l.any (freeB c) = false := by
      rw [List.any_eq_false]; intro r hr; rw [hno r hr]; decide
    have e2 : l.map (cancR c) = l := by
      have : l.map (cancR c) = l.map id := List.map_congr_left fun r hr => by rw [cancR, hno r hr]; simp
      rw [this, List.map_id]
    rw [e1, e2, if_neg (by decide)]
  · rw [if_neg hi]
    rcases idxQ_cases (freeB c) (l ++ [⟨N, 5, t, false, false, 0, 0, []⟩]) with hj | ⟨j, hj, hjl⟩
    · rw [hj] at hi; exact absurd (by decide) hi
    rw [hj]
    obtain ⟨r, hr, hf⟩ := idxQ_some hj
    have hjl2 : j < l.length := by
      rcases Nat.lt_or_ge j l.length with h | h
      · exact h
      · have hje : j = l.length := by simp at hjl; omega
        rw [hje, List.getElem?_append_right (Nat.le_refl _), Nat.sub_self] at hr
        cases hr
        rw [hx] at hf; cases hf
    rw [List.getElem?_append_left hjl2] at hr
    have e1 : l.any (freeB c) = true := List.any_eq_true.2 ⟨r, List.mem_of_getElem? hr, hf⟩
    have e2 : l.map (cancR c) = l.set j ⟨r.n, r.k, r.b, true, true, 9, r.n, [48, 32, 48]⟩ := by
      refine List.ext_getElem? fun i => ?_
      rw [List.getElem?_map]
      by_cases hij : j = i
      · subst hij
        rw [hr, List.getElem?_set_self hjl2]
        simp [cancR, hf]
      · rw [List.getElem?_set_ne hij]
        cases hq : l[i]? with
        | none => rfl
        | some q =>
          have : freeB c q = false := by
            rw [← Bool.not_eq_true]
            intro hfq
            simp only [freeB, Bool.and_eq_true, beq_iff_eq] at hf hfq
            exact hij (uniq_of h hr hq (by rw [hf.1.1, hfq.1.1]))
          simp [cancR, this]
    have hra : rAt (l ++ [⟨N, 5, t, false, true, 8, N, [49]⟩]) (j : Int) = r := by
      rw [rAt, Int.toNat_natCast, List.getD_eq_getElem?_getD, List.getElem?_append_left hjl2, hr]; rfl
    rw [cancelled, hra, Int.toNat_natCast, List.set_append_left _ _ hjl2, e1, e2, if_pos rfl]
end Go.Proofs.YtlpcdpjkdodmcaaGreatDoor
end

section
namespace Go.Proofs.YtlpcdpjkdodmcaaGreatDoor
open Go Go.AL Go.RowKit
set_option maxRecDepth 10000
set_option maxHeartbeats 4000000
def mk5 (c : Int) (l : List Rq) (k : Nat) : List Rq := (l.take k).map (cancR c) ++ l.drop k
theorem mk5_len (c : Int) (l : List Rq) (k : Nat) (hk : k ≤ l.length) : (mk5 c l k).length = l.length := by
  rw [mk5, List.length_append, List.length_map, List.length_take, List.length_drop]; omega
theorem mk5_at (c : Int) (l : List Rq) (k : Nat) (hk : k < l.length) : (mk5 c l k)[k]? = l[k]? := by
  rw [mk5, List.getElem?_append_right (by rw [List.length_map, List.length_take]; omega), List.length_map, List.length_take, List.getElem?_drop]
  congr 1; omega
theorem mk5_set (c : Int) (l : List Rq) (k : Nat) {r : Rq} (hr : l[k]? = some r) : (mk5 c l k).set k (cancR c r) = mk5 c l (k + 1) := by
  have hk := (List.getElem?_eq_some_iff.1 hr).1
  have hg := (List.getElem?_eq_some_iff.1 hr).2
  have hl : ((l.take k).map (cancR c)).length = k := by rw [List.length_map, List.length_take]; omega
  rw [mk5, mk5, List.set_append_right _ _ (by omega), hl, Nat.sub_self, List.drop_eq_getElem_cons hk, List.set_cons_zero, List.take_add_one, hr]
  simp
theorem mk5_keep (c : Int) (l : List Rq) (k : Nat) {r : Rq} (hr : l[k]? = some r) (hf : freeB c r = false) : mk5 c l k = mk5 c l (k + 1) := by
  have hk := (List.getElem?_eq_some_iff.1 hr).1
  have hg := (List.getElem?_eq_some_iff.1 hr).2
  rw [mk5, mk5, List.drop_eq_getElem_cons hk, List.take_add_one, hr, hg]
  simp [cancR, hf]
theorem any_next (f : Rq → Bool) (l : List Rq) (k : Nat) {r : Rq} (hr : l[k]? = some r) : (l.take (k + 1)).any f = ((l.take k).any f || f r) := by
  rw [List.take_add_one, hr]; simp
def oneT (b : Bool) : List UInt8 := if b = true then [49] else [48]
theorem take_ref (p : Int) (nm : List UInt8) (w n : Int) (l : List Rq) (hl : l.length ≤ 100000) (hnm : nm.length ≤ 9223372036854775807) (K N : Int) (t : List UInt8) :
    PFn Tryz.prog 14 [.agg [Iv p, Sv nm, Iv w, Iv n, .im (.sl 8 (rqR l))], .agg [Iv K, Iv N, Sv t]] (retT (takeE p nm w n l K N t) (taken p nm w n l K N t)) := by
  refine ACall.walk [0, 1, 2, 3, 4, 5, 6, 7, 8, 9, 10, 11, 12, 16, 23, 36, 57, 58, 69, 92, 113] [2, 4, 9, 11] Tryz.func14 rfl Tryz.ntmps14 (by kernel_rfl) (by rfl) rfl fun W own I0 φ0 lay => ?_
  repeat (first | refine xA ?_ | refine xB ?_ | refine xC ?_ | refine xE ?_ | refine xD ?_ | refine xK ?_ | refine xS ?_ | refine xM ?_ | refine xT ?_ | refine xF ?_ | ((first | refine xR ?_ | refine xW ?_ | refine vq_id ?_); simp only [go_sem, Nat.reduceAdd, Nat.reduceLeDiff, Nat.reduceSub, Int.reduceToNat, reduceCtorEq]) | (refine ⟨by first | omega | (intros; simp_all; done) | (intros; simp_all; omega), ?_⟩; try simp only [go_sem, Nat.reduceAdd, Nat.reduceLeDiff, Nat.reduceSub, Int.reduceToNat, reduceCtorEq]))
  refine AQ.fn (by kernel_rfl) rfl rfl rfl (check_sref p nm w n l (by omega) hnm) rfl ?_
  repeat (first | refine xA ?_ | refine xB ?_ | refine xC ?_ | refine xE ?_ | refine xD ?_ | refine xK ?_ | refine xS ?_ | refine xM ?_ | refine xT ?_ | refine xF ?_ | ((first | refine xR ?_ | refine xW ?_ | refine vq_id ?_); simp only [go_sem, Nat.reduceAdd, Nat.reduceLeDiff, Nat.reduceSub, Int.reduceToNat, reduceCtorEq]) | (refine ⟨by first | omega | (intros; simp_all; done) | (intros; simp_all; omega), ?_⟩; try simp only [go_sem, Nat.reduceAdd, Nat.reduceLeDiff, Nat.reduceSub, Int.reduceToNat, reduceCtorEq]))
  unfold srvE takeE
  refine AP.cond rfl rfl (fun h1 => ?_) (fun h1 => ?_)
  · have h1' : srvC p nm w n l = false := by
      rcases Bool.eq_false_or_eq_true (srvC p nm w n l) with h | h
      · rw [h] at h1; exact absurd h1 (by decide)
      · exact h
    rw [if_pos h1', retT, if_pos (by decide), h1']
    repeat (first | refine xA ?_ | refine xB ?_ | refine xC ?_ | refine xE ?_ | refine xD ?_ | refine xK ?_ | refine xS ?_ | refine xM ?_ | refine xT ?_ | refine xF ?_ | ((first | refine xR ?_ | refine xW ?_ | refine vq_id ?_); simp only [go_sem, Nat.reduceAdd, Nat.reduceLeDiff, Nat.reduceSub, Int.reduceToNat, reduceCtorEq]) | (refine ⟨by first | omega | (intros; simp_all; done) | (intros; simp_all; omega), ?_⟩; try simp only [go_sem, Nat.reduceAdd, Nat.reduceLeDiff, Nat.reduceSub, Int.reduceToNat, reduceCtorEq]))
    refine AE.nilsl 5 3 rfl ?_
    refine AE.cellsW 1 [Iv 0, Sv [], Iv 0, Iv 0, .im (.sl 8 (rqR []))] rfl (by repeat (first | exact cellsLe.refl _ | refine cellsLe.nil ?_ | refine cellsLe.cons ?_)) ?_
    simp only [go_sem, Nat.reduceAdd, Nat.reduceLeDiff, Nat.reduceSub, Int.reduceToNat, reduceCtorEq]
    exact AE.retD [0, 1] rfl ⟨⟨rfl, Nat.le_of_ble_eq_true (by kernel_rfl)⟩, rfl, rfl, trivial⟩ rfl ⟨rfl, rfl⟩
  have h1' : srvC p nm w n l = true := by
    rcases Bool.eq_false_or_eq_true (srvC p nm w n l) with h | h
    · exact h
    · rw [h] at h1; exact absurd h1 (by decide)
  rw [if_neg (by rw [h1']; decide)]
  have hS := (srvC_iff p nm w n l).1 h1'
  have hsrv := hS.1
  have hchain := take_chain p nm w n l hsrv K N t
  obtain ⟨e, he⟩ : ∃ e, chainT p w n l K N t = e := ⟨_, rfl⟩
  rw [he] at hchain ⊢
  repeat (first | refine xA ?_ | refine xB ?_ | refine xC ?_ | refine xE ?_ | refine xD ?_ | refine xK ?_ | refine xS ?_ | refine xM ?_ | refine xT ?_ | refine xF ?_ | ((first | refine xR ?_ | refine xW ?_ | refine vq_id ?_); simp only [go_sem, Nat.reduceAdd, Nat.reduceLeDiff, Nat.reduceSub, Int.reduceToNat, reduceCtorEq]) | (refine ⟨by first | omega | (intros; simp_all; done) | (intros; simp_all; omega), ?_⟩; try simp only [go_sem, Nat.reduceAdd, Nat.reduceLeDiff, Nat.reduceSub, Int.reduceToNat, reduceCtorEq]))
  refine AQ.fn (by kernel_rfl) rfl rfl rfl (hchain) rfl ?_
  repeat (first | refine xA ?_ | refine xB ?_ | refine xC ?_ | refine xE ?_ | refine xD ?_ | refine xK ?_ | refine xS ?_ | refine xM ?_ | refine xT ?_ | refine xF ?_ | ((first | refine xR ?_ | refine xW ?_ | refine vq_id ?_); simp only [go_sem, Nat.reduceAdd, Nat.reduceLeDiff, Nat.reduceSub, Int.reduceToNat, reduceCtorEq]) | (refine ⟨by first | omega | (intros; simp_all; done) | (intros; simp_all; omega), ?_⟩; try simp only [go_sem, Nat.reduceAdd, Nat.reduceLeDiff, Nat.reduceSub, Int.reduceToNat, reduceCtorEq]))
  refine AP.cond rfl rfl (fun h2 => ?_) (fun h2 => ?_)
  · have h2' : e ≠ 0 := by simpa using h2
    rw [retT, if_pos h2']
    repeat (first | refine xA ?_ | refine xB ?_ | refine xC ?_ | refine xE ?_ | refine xD ?_ | refine xK ?_ | refine xS ?_ | refine xM ?_ | refine xT ?_ | refine xF ?_ | ((first | refine xR ?_ | refine xW ?_ | refine vq_id ?_); simp only [go_sem, Nat.reduceAdd, Nat.reduceLeDiff, Nat.reduceSub, Int.reduceToNat, reduceCtorEq]) | (refine ⟨by first | omega | (intros; simp_all; done) | (intros; simp_all; omega), ?_⟩; try simp only [go_sem, Nat.reduceAdd, Nat.reduceLeDiff, Nat.reduceSub, Int.reduceToNat, reduceCtorEq]))
    refine AE.nilsl 5 3 rfl ?_
    refine AE.cellsW 1 [Iv 0, Sv [], Iv 0, Iv 0, .im (.sl 8 (rqR []))] rfl (by repeat (first | exact cellsLe.refl _ | refine cellsLe.nil ?_ | refine cellsLe.cons ?_)) ?_
    simp only [go_sem, Nat.reduceAdd, Nat.reduceLeDiff, Nat.reduceSub, Int.reduceToNat, reduceCtorEq]
    exact AE.retD [0, 1] rfl ⟨⟨rfl, Nat.le_of_ble_eq_true (by kernel_rfl)⟩, rfl, rfl, trivial⟩ rfl ⟨rfl, rfl⟩
  have h2' : e = 0 := by simpa using h2
  rw [retT, if_neg (by rw [h2']; decide)]
  have hmsg : msgE K N t = 0 := by
    rw [h2', chainT] at he
    split at he
    · cases he
    · split at he
      · cases he
      · split at he
        · rename_i h; exact absurd he h
        · rename_i h; exact Decidable.not_not.1 h
  unfold srvHead at hsrv
  have hw := wr (x := n + 1) (by omega)
  repeat (first | refine xA ?_ | refine xB ?_ | refine xC ?_ | refine xE ?_ | refine xD ?_ | refine xK ?_ | refine xS ?_ | refine xM ?_ | refine xT ?_ | refine xF ?_ | ((first | refine xR ?_ | refine xW ?_ | refine vq_id ?_); simp only [go_sem, Nat.reduceAdd, Nat.reduceLeDiff, Nat.reduceSub, Int.reduceToNat, reduceCtorEq]) | (refine ⟨by first | omega | (intros; simp_all; done) | (intros; simp_all; omega), ?_⟩; try simp only [go_sem, Nat.reduceAdd, Nat.reduceLeDiff, Nat.reduceSub, Int.reduceToNat, reduceCtorEq]))
  refine AQ.callv (by kernel_rfl) rfl rfl rfl (copied_spec l (by omega)) fun r' H' ⟨e1, e2⟩ => ?_
  subst e1
  subst e2
  simp only [go_sem, Nat.reduceAdd, Nat.reduceLeDiff, Nat.reduceSub, Int.reduceToNat, reduceCtorEq]
  repeat (first | refine xA ?_ | refine xB ?_ | refine xC ?_ | refine xE ?_ | refine xD ?_ | refine xK ?_ | refine xS ?_ | refine xM ?_ | refine xT ?_ | refine xF ?_ | ((first | refine xR ?_ | refine xW ?_ | refine vq_id ?_); simp only [go_sem, Nat.reduceAdd, Nat.reduceLeDiff, Nat.reduceSub, Int.reduceToNat, reduceCtorEq, hw]) | (refine ⟨by first | omega | (intros; simp_all; done) | (intros; simp_all; omega), ?_⟩; try simp only [go_sem, Nat.reduceAdd, Nat.reduceLeDiff, Nat.reduceSub, Int.reduceToNat, reduceCtorEq, hw]))
  refine AP.cond rfl rfl (fun h3 => ?_) (fun h3 => ?_)
  · have hK : K = 1 := by simpa using h3
    rw [taken, if_pos hK]
    have hit := itoa_spec w (by omega)
    have hta : (rqR l).take l.length = rqR l := List.take_of_length_le (by rw [rqR_len]; exact Nat.le_refl _)
    refine AP.freeze 2 (rows := rqR l) rfl (by simp [go_sem, rqR_len]) (by simp [go_sem, rqR_len]) ?_
    simp only [go_sem, Nat.reduceAdd, Nat.reduceLeDiff, Nat.reduceSub, Int.reduceToNat, reduceCtorEq, List.drop_zero, hta]
    repeat (first | refine xA ?_ | refine xB ?_ | refine xC ?_ | refine xE ?_ | refine xD ?_ | refine xK ?_ | refine xS ?_ | refine xM ?_ | refine xT ?_ | refine xF ?_ | ((first | refine xR ?_ | refine xW ?_ | refine vq_id ?_); simp only [go_sem, Nat.reduceAdd, Nat.reduceLeDiff, Nat.reduceSub, Int.reduceToNat, reduceCtorEq]) | (refine ⟨by first | omega | (intros; simp_all; done) | (intros; simp_all; omega), ?_⟩; try simp only [go_sem, Nat.reduceAdd, Nat.reduceLeDiff, Nat.reduceSub, Int.reduceToNat, reduceCtorEq]))
    refine AP.drawE 6 (Tree.node [] [0, 1, 2] [3] [Tree.node [0, 1] [4] [5] [Tree.node [] [] [] []]]) (by kernel_rfl) rfl (by kernel_rfl) (by kernel_rfl) ?_
    refine vd_node ?_
    simp only [go_sem, Nat.reduceAdd, Nat.reduceLeDiff, Nat.reduceSub, Int.reduceToNat, reduceCtorEq]
    repeat' (first | with_reducible exact True.intro | with_reducible refine And.intro (by omega) ?_ | with_reducible refine And.intro ?_ ?_ | (refine AQ.nx rfl ?_; simp only [go_sem, Nat.reduceAdd, Nat.reduceLeDiff, Nat.reduceSub, Int.reduceToNat, reduceCtorEq]) | refine AQ.skip (by kernel_rfl) rfl ?_ | refine AQ.done ?_ | (refine AQ.go (by kernel_rfl) ?_; simp only [go_sem, Nat.reduceAdd, Nat.reduceLeDiff, Nat.reduceSub, Int.reduceToNat, reduceCtorEq]; repeat (with_reducible refine And.intro (by omega) ?_); refine AQ.nx rfl ?_; simp only [go_sem, Nat.reduceAdd, Nat.reduceLeDiff, Nat.reduceSub, Int.reduceToNat, reduceCtorEq]))
    all_goals
      repeat (first | refine xA ?_ | refine xB ?_ | refine xC ?_ | refine xE ?_ | refine xD ?_ | refine xK ?_ | refine xS ?_ | refine xM ?_ | refine xT ?_ | refine xF ?_ | ((first | refine xR ?_ | refine xW ?_ | refine vq_id ?_); simp only [go_sem, Nat.reduceAdd, Nat.reduceLeDiff, Nat.reduceSub, Int.reduceToNat, reduceCtorEq]) | (refine ⟨by first | omega | (intros; simp_all; done) | (intros; simp_all; omega), ?_⟩; try simp only [go_sem, Nat.reduceAdd, Nat.reduceLeDiff, Nat.reduceSub, Int.reduceToNat, reduceCtorEq]))
    refine AP.drawE 11 (Tree.node [] [0, 1, 2, 3, 4] [5] [Tree.node [0, 1, 2] [6] [7, 8] [Tree.node [0] [] [8] [Tree.node [] [9, 10] [] []], Tree.node [1, 2, 6] [] [7] [Tree.node [] [9, 10] [] []]]]) (by kernel_rfl) rfl (by kernel_rfl) (by kernel_rfl) ?_
    refine vd_node ?_
    simp only [go_sem, Nat.reduceAdd, Nat.reduceLeDiff, Nat.reduceSub, Int.reduceToNat, reduceCtorEq]
    repeat' (first | with_reducible exact True.intro | with_reducible refine And.intro (by omega) ?_ | with_reducible refine And.intro ?_ ?_ | (refine AQ.nx rfl ?_; simp only [go_sem, Nat.reduceAdd, Nat.reduceLeDiff, Nat.reduceSub, Int.reduceToNat, reduceCtorEq]) | (refine AQ.fn (by kernel_rfl) rfl rfl rfl (hit) rfl ?_; simp only [go_sem, Nat.reduceAdd, Nat.reduceLeDiff, Nat.reduceSub, Int.reduceToNat, reduceCtorEq]) | refine AQ.done ?_ | (refine AQ.go (by kernel_rfl) ?_; simp only [go_sem, Nat.reduceAdd, Nat.reduceLeDiff, Nat.reduceSub, Int.reduceToNat, reduceCtorEq]; repeat (with_reducible refine And.intro (by omega) ?_); refine AQ.nx rfl ?_; simp only [go_sem, Nat.reduceAdd, Nat.reduceLeDiff, Nat.reduceSub, Int.reduceToNat, reduceCtorEq]))
    all_goals
      repeat (first | refine xA ?_ | refine xB ?_ | refine xC ?_ | refine xE ?_ | refine xD ?_ | refine xK ?_ | refine xS ?_ | refine xM ?_ | refine xT ?_ | refine xF ?_ | ((first | refine xR ?_ | refine xW ?_ | refine vq_id ?_); simp only [go_sem, Nat.reduceAdd, Nat.reduceLeDiff, Nat.reduceSub, Int.reduceToNat, reduceCtorEq]) | (refine ⟨by first | omega | (intros; simp_all; done) | (intros; simp_all; omega), ?_⟩; try simp only [go_sem, Nat.reduceAdd, Nat.reduceLeDiff, Nat.reduceSub, Int.reduceToNat, reduceCtorEq]))
      exact AE.retD [1, 0] rfl ⟨⟨rfl, Nat.le_of_ble_eq_true (by kernel_rfl)⟩, rfl, rfl, trivial⟩ rfl ⟨rfl, rfl⟩
  have hK : K ≠ 1 := by simpa using h3
  rw [taken_eq hK]
  refine AP.skip rfl ?_
  refine AE.seq ?_
  refine AP.seq rfl ?_
  refine AP.region rfl (by kernel_rfl) ?_; simp only [go_sem, Nat.reduceAdd, Nat.reduceLeDiff, Nat.reduceSub, Int.reduceToNat, reduceCtorEq]
  refine AQ.done ?_
  refine AE.seq ?_
  refine AP.seq rfl ?_
  simp only [go_sem, Nat.reduceAdd, Nat.reduceLeDiff, Nat.reduceSub, Int.reduceToNat, reduceCtorEq]
  refine AP.cut (α := Int × List Rq × Rq) (fun _ => [(2, .ob 0 0), (4, .ob 1 0), (9, .ob 3 0)])
    (fun q => [(3, .var 58 [Iv q.2.2.n, Iv q.2.2.k, Sv q.2.2.b, Bv q.2.2.c, Bv q.2.2.a, Iv q.2.2.ak, Iv q.2.2.an, Sv q.2.2.ab]), (2, .vec 58 8 (rqR q.2.1)), (1, .var 34 [Iv 0, Sv [], Iv 0, Iv 0, nilS]), (0, .var 34 [Iv q.1, Sv nm, Iv w, Iv (n + 1), .os 2 8 0 l.length])])
    (fun q => q.2.1.length = l.length ∧ q.1 = tkP p K ∧ q.2.1 ++ [q.2.2] = tkL l K N t) ?_ fun ⟨p', M, r⟩ ⟨hM, hp', hL⟩ => ?_
  · refine xPP rfl ?_
    repeat (first | refine xA ?_ | refine xB ?_ | refine xC ?_ | refine xE ?_ | refine xD ?_ | refine xK ?_ | refine xS ?_ | refine xM ?_ | refine xT ?_ | refine xF ?_ | ((first | refine xR ?_ | refine xW ?_ | refine vq_id ?_); simp only [go_sem, Nat.reduceAdd, Nat.reduceLeDiff, Nat.reduceSub, Int.reduceToNat, reduceCtorEq]) | (refine ⟨by first | omega | (intros; simp_all; done) | (intros; simp_all; omega), ?_⟩; try simp only [go_sem, Nat.reduceAdd, Nat.reduceLeDiff, Nat.reduceSub, Int.reduceToNat, reduceCtorEq]))
    refine AP.cond rfl rfl (fun h4 => ?_) (fun h4 => ?_)
    · have hK5 : K = 5 := by simpa using h4
      subst hK5
      rw [tkL_canc hS]
      obtain ⟨hc1, hc2, hc3⟩ := cancel_facts hmsg
      obtain ⟨c, hcc⟩ : ∃ c, (atoiV t).1 = c := ⟨_, rfl⟩
      have hval := value_spec t hc1 hc2
      rw [← hc3, hcc] at hval
      rw [hcc]
      repeat (first | refine xA ?_ | refine xB ?_ | refine xC ?_ | refine xE ?_ | refine xD ?_ | refine xK ?_ | refine xS ?_ | refine xM ?_ | refine xT ?_ | refine xF ?_ | ((first | refine xR ?_ | refine xW ?_ | refine vq_id ?_); simp only [go_sem, Nat.reduceAdd, Nat.reduceLeDiff, Nat.reduceSub, Int.reduceToNat, reduceCtorEq]) | (refine ⟨by first | omega | (intros; simp_all; done) | (intros; simp_all; omega), ?_⟩; try simp only [go_sem, Nat.reduceAdd, Nat.reduceLeDiff, Nat.reduceSub, Int.reduceToNat, reduceCtorEq]))
      refine AP.drawE 7 (Tree.node [] [0, 1, 2, 3] [4] [Tree.node [0, 1, 2] [5] [6] [Tree.node [] [] [] []]]) (by kernel_rfl) rfl (by kernel_rfl) (by kernel_rfl) ?_
      refine vd_node ?_
      simp only [go_sem, Nat.reduceAdd, Nat.reduceLeDiff, Nat.reduceSub, Int.reduceToNat, reduceCtorEq]
      repeat' (first | with_reducible exact True.intro | with_reducible refine And.intro (by omega) ?_ | with_reducible refine And.intro ?_ ?_ | (refine AQ.nx rfl ?_; simp only [go_sem, Nat.reduceAdd, Nat.reduceLeDiff, Nat.reduceSub, Int.reduceToNat, reduceCtorEq]) | refine AQ.skip (by kernel_rfl) rfl ?_ | refine AQ.done ?_ | (refine AQ.go (by kernel_rfl) ?_; simp only [go_sem, Nat.reduceAdd, Nat.reduceLeDiff, Nat.reduceSub, Int.reduceToNat, reduceCtorEq]; repeat (with_reducible refine And.intro (by omega) ?_); refine AQ.nx rfl ?_; simp only [go_sem, Nat.reduceAdd, Nat.reduceLeDiff, Nat.reduceSub, Int.reduceToNat, reduceCtorEq]))
      all_goals
        repeat (first | refine xA ?_ | refine xB ?_ | refine xC ?_ | refine xE ?_ | refine xD ?_ | refine xK ?_ | refine xS ?_ | refine xM ?_ | refine xT ?_ | refine xF ?_ | ((first | refine xR ?_ | refine xW ?_ | refine vq_id ?_); simp only [go_sem, Nat.reduceAdd, Nat.reduceLeDiff, Nat.reduceSub, Int.reduceToNat, reduceCtorEq]) | (refine ⟨by first | omega | (intros; simp_all; done) | (intros; simp_all; omega), ?_⟩; try simp only [go_sem, Nat.reduceAdd, Nat.reduceLeDiff, Nat.reduceSub, Int.reduceToNat, reduceCtorEq]))
      refine AP.loop rfl (α := Nat) (fun k => [(2, .ob 0 0), (3, .im (.pt [Ii 5, Ii N, Si t])), (4, .ob 1 0), (9, .ob 3 0), (10, Iv k)])
        (fun k => [(3, .var 58 [Iv N, Iv 5, Sv t, Bv false, Bv true, Iv 8, Iv N, Sv (oneT ((l.take k).any (freeB c)))]), (2, .vec 58 8 (rqR (mk5 c l k))), (1, .var 34 [Iv 0, Sv [], Iv 0, Iv 0, nilS]), (0, .var 34 [Iv p, Sv nm, Iv w, Iv (n + 1), .os 2 8 0 l.length])])
        (fun k => k ≤ l.length) (fun k => l.length - k) 0 (Nat.zero_le _) (by repeat (first | exact Sub.nil _ | refine Sub.cons rfl ?_)) rfl fun k hk => ?_
      have hw5 := wr (x := (k : Int) + 1) (by omega)
      repeat (first | refine xA ?_ | refine xB ?_ | refine xC ?_ | refine xE ?_ | refine xD ?_ | refine xK ?_ | refine xS ?_ | refine xM ?_ | refine xT ?_ | refine xF ?_ | ((first | refine xR ?_ | refine xW ?_ | refine vq_id ?_); simp only [go_sem, Nat.reduceAdd, Nat.reduceLeDiff, Nat.reduceSub, Int.reduceToNat, reduceCtorEq, rqR_len, mk5_len c l k hk]) | (refine ⟨by first | omega | (intros; simp_all; done) | (intros; simp_all; omega), ?_⟩; try simp only [go_sem, Nat.reduceAdd, Nat.reduceLeDiff, Nat.reduceSub, Int.reduceToNat, reduceCtorEq, rqR_len, mk5_len c l k hk]))
      refine AP.cond rfl rfl (fun hc5 => ?_) (fun hc5 => ?_)
      · have hk' : k < l.length := by simp at hc5; omega
        have hml := mk5_len c l k hk
        obtain ⟨r, hm, hg⟩ := rqR_get (mk5 c l k) k (by omega)
        have hr : l[k]? = some r := by rw [← mk5_at c l k hk']; exact hm
        have hwk := work_ref r.k
        obtain ⟨v1, hv1⟩ : ∃ v, (r.n == c) = v := ⟨_, rfl⟩
        repeat (first | refine xA ?_ | refine xB ?_ | refine xC ?_ | refine xE ?_ | refine xD ?_ | refine xK ?_ | refine xS ?_ | refine xM ?_ | refine xT ?_ | refine xF ?_ | ((first | refine xR ?_ | refine xW ?_ | refine vq_id ?_); simp only [go_sem, Nat.reduceAdd, Nat.reduceLeDiff, Nat.reduceSub, Int.reduceToNat, reduceCtorEq, rqR_len, hml, hg, Int.toNat_natCast, List.map_cons, List.map_nil, List.length_cons, List.length_nil, List.take_succ_cons, List.take_zero, List.drop_succ_cons, List.drop_zero]) | (refine ⟨by first | omega | (intros; simp_all; done) | (intros; simp_all; omega), ?_⟩; try simp only [go_sem, Nat.reduceAdd, Nat.reduceLeDiff, Nat.reduceSub, Int.reduceToNat, reduceCtorEq, rqR_len, hml, hg, Int.toNat_natCast, List.map_cons, List.map_nil, List.length_cons, List.length_nil, List.take_succ_cons, List.take_zero, List.drop_succ_cons, List.drop_zero]))
        refine AP.cut (α := Bool) (fun b => [(2, .ob 0 0), (3, .im (.pt [Ii 5, Ii N, Si t])), (4, .ob 1 0), (9, .ob 3 0), (10, Iv k), (11, .ob 4 0), (92, Bv b)])
          (fun _ => [(4, .var 58 [Iv r.n, Iv r.k, Sv r.b, Bv r.c, Bv r.a, Iv r.ak, Iv r.an, Sv r.ab]), (3, .var 58 [Iv N, Iv 5, Sv t, Bv false, Bv true, Iv 8, Iv N, Sv (oneT ((l.take k).any (freeB c)))]), (2, .vec 58 8 (rqR (mk5 c l k))), (1, .var 34 [Iv 0, Sv [], Iv 0, Iv 0, nilS]), (0, .var 34 [Iv p, Sv nm, Iv w, Iv (n + 1), .os 2 8 0 l.length])])
          (fun b => b = freeB c r) ?_ fun b hb => ?_
        · cases v1 with
          | false =>
            skip
            refine AP.drawE 16 (Tree.node [] [0, 1, 2, 3] [4] [Tree.node [0, 1] [5, 6, 7, 8] [9] [Tree.node [] [10, 11, 12, 13, 14, 15] [] []]]) (by kernel_rfl) rfl (by kernel_rfl) (by kernel_rfl) ?_
            refine vd_node ?_
            simp only [go_sem, Nat.reduceAdd, Nat.reduceLeDiff, Nat.reduceSub, Int.reduceToNat, reduceCtorEq]
            repeat' (first | with_reducible exact True.intro | with_reducible refine And.intro (by omega) ?_ | with_reducible refine And.intro ?_ ?_ | (refine AQ.nx rfl ?_; simp only [go_sem, Nat.reduceAdd, Nat.reduceLeDiff, Nat.reduceSub, Int.reduceToNat, reduceCtorEq, hv1]) | (refine AQ.fn (by kernel_rfl) rfl rfl rfl (hval) rfl ?_; simp only [go_sem, Nat.reduceAdd, Nat.reduceLeDiff, Nat.reduceSub, Int.reduceToNat, reduceCtorEq, hv1]) | refine AQ.skip (by kernel_rfl) rfl ?_ | refine AQ.done ?_ | (refine AQ.go (by kernel_rfl) ?_; simp only [go_sem, Nat.reduceAdd, Nat.reduceLeDiff, Nat.reduceSub, Int.reduceToNat, reduceCtorEq, hv1]; repeat (with_reducible refine And.intro (by omega) ?_); refine AQ.nx rfl ?_; simp only [go_sem, Nat.reduceAdd, Nat.reduceLeDiff, Nat.reduceSub, Int.reduceToNat, reduceCtorEq, hv1]))
            all_goals exact AE.meet false (by simp [freeB, hv1]) (by repeat (first | exact Sub.nil _ | refine Sub.cons rfl ?_)) rfl
          | true =>
            obtain ⟨v2, hv2⟩ : ∃ v, workB r.k = v := ⟨_, rfl⟩
            rw [hv2] at hwk
            skip
            refine AP.drawE 16 (Tree.node [] [0, 1, 2, 3] [4] [Tree.node [0, 1] [5, 6, 7, 8] [9] [Tree.node [] [10, 11, 12, 13, 14, 15] [] []]]) (by kernel_rfl) rfl (by kernel_rfl) (by kernel_rfl) ?_
            refine vd_node ?_
            simp only [go_sem, Nat.reduceAdd, Nat.reduceLeDiff, Nat.reduceSub, Int.reduceToNat, reduceCtorEq]
            repeat' (first | with_reducible exact True.intro | with_reducible refine And.intro (by omega) ?_ | with_reducible refine And.intro ?_ ?_ | (refine AQ.nx rfl ?_; simp only [go_sem, Nat.reduceAdd, Nat.reduceLeDiff, Nat.reduceSub, Int.reduceToNat, reduceCtorEq, hv1]) | (refine AQ.fn (by kernel_rfl) rfl rfl rfl (hval) rfl ?_; simp only [go_sem, Nat.reduceAdd, Nat.reduceLeDiff, Nat.reduceSub, Int.reduceToNat, reduceCtorEq, hv1]) | (refine AQ.fn_g (by kernel_rfl) rfl rfl (fun h => by first | (simp [gs, AV.g]; done) | (simp [gs, AV.g, constAV]; done) | (simp [gs, AV.g, constAV, bw] at h ⊢; done) | (simp [gs, AV.g, constAV, bw] at h ⊢; exact h) | (simp [gs, AV.g, constAV, bw] at h ⊢; simp [h]; done) | (simp [bw] at h; done) | (simp [gs, AV.g, bw] at h ⊢; simp [h]; done) | (simp [gs, AV.g, bw] at h ⊢; exact h.1) | (simp [gs, AV.g]; rfl) | (simp [gs, AV.g, bw] at h ⊢; rfl) | (simp [gs, AV.g, bw] at h ⊢; simp [h]; rfl) | (simp [gs, AV.g, bw] at h ⊢; simp_all)) rfl (fun _ => hwk) rfl ?_; simp only [go_sem, Nat.reduceAdd, Nat.reduceLeDiff, Nat.reduceSub, Int.reduceToNat, reduceCtorEq, hv1]) | refine AQ.done ?_ | (refine AQ.go (by kernel_rfl) ?_; simp only [go_sem, Nat.reduceAdd, Nat.reduceLeDiff, Nat.reduceSub, Int.reduceToNat, reduceCtorEq, hv1]; repeat (with_reducible refine And.intro (by omega) ?_); refine AQ.nx rfl ?_; simp only [go_sem, Nat.reduceAdd, Nat.reduceLeDiff, Nat.reduceSub, Int.reduceToNat, reduceCtorEq, hv1]))
            all_goals exact AE.meet (v2 && !r.a) (by simp [freeB, hv1, hv2]) (by repeat (first | exact Sub.nil _ | refine Sub.cons rfl ?_)) rfl
        repeat (first | refine xA ?_ | refine xB ?_ | refine xC ?_ | refine xE ?_ | refine xD ?_ | refine xK ?_ | refine xS ?_ | refine xM ?_ | refine xT ?_ | refine xF ?_ | ((first | refine xR ?_ | refine xW ?_ | refine vq_id ?_); simp only [go_sem, Nat.reduceAdd, Nat.reduceLeDiff, Nat.reduceSub, Int.reduceToNat, reduceCtorEq]) | (refine ⟨by first | omega | (intros; simp_all; done) | (intros; simp_all; omega), ?_⟩; try simp only [go_sem, Nat.reduceAdd, Nat.reduceLeDiff, Nat.reduceSub, Int.reduceToNat, reduceCtorEq]))
        refine AP.cond rfl rfl (fun hb2 => ?_) (fun hb2 => ?_)
        · rw [hb2] at hb
          have hca : cancR c r = ⟨r.n, r.k, r.b, true, true, 9, r.n, [48, 32, 48]⟩ := by rw [cancR, if_pos hb.symm]
          have hnx := mk5_set c l k hr
          have han := any_next (freeB c) l k hr
          rw [← hb, Bool.or_true] at han
          rw [hca] at hnx
          repeat (first | refine xA ?_ | refine xB ?_ | refine xC ?_ | refine xE ?_ | refine xD ?_ | refine xK ?_ | refine xS ?_ | refine xM ?_ | refine xT ?_ | refine xF ?_ | ((first | refine xR ?_ | refine xW ?_ | refine vq_id ?_); simp only [go_sem, Nat.reduceAdd, Nat.reduceLeDiff, Nat.reduceSub, Int.reduceToNat, reduceCtorEq]) | (refine ⟨by first | omega | (intros; simp_all; done) | (intros; simp_all; omega), ?_⟩; try simp only [go_sem, Nat.reduceAdd, Nat.reduceLeDiff, Nat.reduceSub, Int.reduceToNat, reduceCtorEq]))
          refine AP.drawE 12 (Tree.node [] [0, 1, 2, 3, 4, 5, 6, 7] [8] [Tree.node [3, 4, 5] [9, 10] [11] [Tree.node [] [] [] []]]) (by kernel_rfl) rfl (by kernel_rfl) (by kernel_rfl) ?_
          refine vd_node ?_
          simp only [go_sem, Nat.reduceAdd, Nat.reduceLeDiff, Nat.reduceSub, Int.reduceToNat, reduceCtorEq, rqR_len, hml]
          refine ⟨⟨by omega, by omega⟩, ?_⟩
          repeat' (first | with_reducible exact True.intro | with_reducible refine And.intro (by omega) ?_ | with_reducible refine And.intro ?_ ?_ | (refine AQ.nx rfl ?_; simp only [go_sem, Nat.reduceAdd, Nat.reduceLeDiff, Nat.reduceSub, Int.reduceToNat, reduceCtorEq, rqR_len, hml]) | refine AQ.skip (by kernel_rfl) rfl ?_ | refine AQ.done ?_ | (refine AQ.go (by kernel_rfl) ?_; simp only [go_sem, Nat.reduceAdd, Nat.reduceLeDiff, Nat.reduceSub, Int.reduceToNat, reduceCtorEq, rqR_len, hml]; repeat (with_reducible refine And.intro (by omega) ?_); refine AQ.nx rfl ?_; simp only [go_sem, Nat.reduceAdd, Nat.reduceLeDiff, Nat.reduceSub, Int.reduceToNat, reduceCtorEq, rqR_len, hml]))
          all_goals (try (simp only [List.length_set, rqR_len, hml]; omega))
          repeat (first | refine xA ?_ | refine xB ?_ | refine xC ?_ | refine xE ?_ | refine xD ?_ | refine xK ?_ | refine xS ?_ | refine xM ?_ | refine xT ?_ | refine xF ?_ | ((first | refine xR ?_ | refine xW ?_ | refine vq_id ?_); simp only [go_sem, Nat.reduceAdd, Nat.reduceLeDiff, Nat.reduceSub, Int.reduceToNat, reduceCtorEq, rqR_len, hml, List.length_set, hw5]) | (refine ⟨by first | omega | (intros; simp_all; done) | (intros; simp_all; omega), ?_⟩; try simp only [go_sem, Nat.reduceAdd, Nat.reduceLeDiff, Nat.reduceSub, Int.reduceToNat, reduceCtorEq, rqR_len, hml, List.length_set, hw5]))
          rw [rows_can hm r.n, hnx]
          refine AE.forgets [4] rfl ?_
          simp only [go_sem, Nat.reduceAdd, Nat.reduceLeDiff, Nat.reduceSub, Int.reduceToNat, reduceCtorEq]
          exact AE.round (k + 1) (by omega) (by omega) (by repeat (first | exact Sub.nil _ | refine Sub.cons rfl ?_)) (by rw [han]; rfl)
        · rw [hb2] at hb
          have hnx := mk5_keep c l k hr hb.symm
          have han := any_next (freeB c) l k hr
          rw [← hb, Bool.or_false] at han
          repeat (first | refine xA ?_ | refine xB ?_ | refine xC ?_ | refine xE ?_ | refine xD ?_ | refine xK ?_ | refine xS ?_ | refine xM ?_ | refine xT ?_ | refine xF ?_ | ((first | refine xR ?_ | refine xW ?_ | refine vq_id ?_); simp only [go_sem, Nat.reduceAdd, Nat.reduceLeDiff, Nat.reduceSub, Int.reduceToNat, reduceCtorEq, hw5]) | (refine ⟨by first | omega | (intros; simp_all; done) | (intros; simp_all; omega), ?_⟩; try simp only [go_sem, Nat.reduceAdd, Nat.reduceLeDiff, Nat.reduceSub, Int.reduceToNat, reduceCtorEq, hw5]))
          refine AE.forgets [4] rfl ?_
          simp only [go_sem, Nat.reduceAdd, Nat.reduceLeDiff, Nat.reduceSub, Int.reduceToNat, reduceCtorEq]
          exact AE.round (k + 1) (by omega) (by omega) (by repeat (first | exact Sub.nil _ | refine Sub.cons rfl ?_)) (by rw [← hnx, han])
      · have hke : k = l.length := by simp at hc5; omega
        have hmk : mk5 c l k = l.map (cancR c) := by rw [mk5, hke, List.take_length, List.drop_length, List.append_nil]
        have hak : (l.take k).any (freeB c) = l.any (freeB c) := by rw [hke, List.take_length]
        rw [hmk, hak]
        repeat (first | refine xA ?_ | refine xB ?_ | refine xC ?_ | refine xE ?_ | refine xD ?_ | refine xK ?_ | refine xS ?_ | refine xM ?_ | refine xT ?_ | refine xF ?_ | ((first | refine xR ?_ | refine xW ?_ | refine vq_id ?_); simp only [go_sem, Nat.reduceAdd, Nat.reduceLeDiff, Nat.reduceSub, Int.reduceToNat, reduceCtorEq]) | (refine ⟨by first | omega | (intros; simp_all; done) | (intros; simp_all; omega), ?_⟩; try simp only [go_sem, Nat.reduceAdd, Nat.reduceLeDiff, Nat.reduceSub, Int.reduceToNat, reduceCtorEq]))
        exact AE.meet (p, l.map (cancR c), ⟨N, 5, t, false, true, 8, N, oneT (l.any (freeB c))⟩) ⟨by rw [List.length_map], rfl, rfl⟩ (by repeat (first | exact Sub.nil _ | refine Sub.cons rfl ?_)) rfl
    have hK5 : K ≠ 5 := by simpa using h4
    repeat (first | refine xA ?_ | refine xB ?_ | refine xC ?_ | refine xE ?_ | refine xD ?_ | refine xK ?_ | refine xS ?_ | refine xM ?_ | refine xT ?_ | refine xF ?_ | ((first | refine xR ?_ | refine xW ?_ | refine vq_id ?_); simp only [go_sem, Nat.reduceAdd, Nat.reduceLeDiff, Nat.reduceSub, Int.reduceToNat, reduceCtorEq]) | (refine ⟨by first | omega | (intros; simp_all; done) | (intros; simp_all; omega), ?_⟩; try simp only [go_sem, Nat.reduceAdd, Nat.reduceLeDiff, Nat.reduceSub, Int.reduceToNat, reduceCtorEq]))
    refine AP.cond rfl rfl (fun h5 => ?_) (fun h5 => ?_)
    · have hK6 : K = 6 := by simpa using h5
      subst hK6
      repeat (first | refine xA ?_ | refine xB ?_ | refine xC ?_ | refine xE ?_ | refine xD ?_ | refine xK ?_ | refine xS ?_ | refine xM ?_ | refine xT ?_ | refine xF ?_ | ((first | refine xR ?_ | refine xW ?_ | refine vq_id ?_); simp only [go_sem, Nat.reduceAdd, Nat.reduceLeDiff, Nat.reduceSub, Int.reduceToNat, reduceCtorEq]) | (refine ⟨by first | omega | (intros; simp_all; done) | (intros; simp_all; omega), ?_⟩; try simp only [go_sem, Nat.reduceAdd, Nat.reduceLeDiff, Nat.reduceSub, Int.reduceToNat, reduceCtorEq]))
      refine AP.drawE 7 (Tree.node [] [0, 1, 2, 3] [4] [Tree.node [0, 1, 2] [5] [6] [Tree.node [] [] [] []]]) (by kernel_rfl) rfl (by kernel_rfl) (by kernel_rfl) ?_
      refine vd_node ?_
      simp only [go_sem, Nat.reduceAdd, Nat.reduceLeDiff, Nat.reduceSub, Int.reduceToNat, reduceCtorEq]
      repeat' (first | with_reducible exact True.intro | with_reducible refine And.intro (by omega) ?_ | with_reducible refine And.intro ?_ ?_ | (refine AQ.nx rfl ?_; simp only [go_sem, Nat.reduceAdd, Nat.reduceLeDiff, Nat.reduceSub, Int.reduceToNat, reduceCtorEq]) | refine AQ.skip (by kernel_rfl) rfl ?_ | refine AQ.done ?_ | (refine AQ.go (by kernel_rfl) ?_; simp only [go_sem, Nat.reduceAdd, Nat.reduceLeDiff, Nat.reduceSub, Int.reduceToNat, reduceCtorEq]; repeat (with_reducible refine And.intro (by omega) ?_); refine AQ.nx rfl ?_; simp only [go_sem, Nat.reduceAdd, Nat.reduceLeDiff, Nat.reduceSub, Int.reduceToNat, reduceCtorEq]))
      all_goals
        repeat (first | refine xA ?_ | refine xB ?_ | refine xC ?_ | refine xE ?_ | refine xD ?_ | refine xK ?_ | refine xS ?_ | refine xM ?_ | refine xT ?_ | refine xF ?_ | ((first | refine xR ?_ | refine xW ?_ | refine vq_id ?_); simp only [go_sem, Nat.reduceAdd, Nat.reduceLeDiff, Nat.reduceSub, Int.reduceToNat, reduceCtorEq]) | (refine ⟨by first | omega | (intros; simp_all; done) | (intros; simp_all; omega), ?_⟩; try simp only [go_sem, Nat.reduceAdd, Nat.reduceLeDiff, Nat.reduceSub, Int.reduceToNat, reduceCtorEq]))
        exact AE.meet (2, l, ⟨N, 6, t, false, true, 8, N, []⟩) ⟨rfl, rfl, by rw [tkL, if_neg (by decide), if_pos rfl]⟩ (by repeat (first | exact Sub.nil _ | refine Sub.cons rfl ?_)) rfl
    have hK6 : K ≠ 6 := by simpa using h5
    repeat (first | refine xA ?_ | refine xB ?_ | refine xC ?_ | refine xE ?_ | refine xD ?_ | refine xK ?_ | refine xS ?_ | refine xM ?_ | refine xT ?_ | refine xF ?_ | ((first | refine xR ?_ | refine xW ?_ | refine vq_id ?_); simp only [go_sem, Nat.reduceAdd, Nat.reduceLeDiff, Nat.reduceSub, Int.reduceToNat, reduceCtorEq]) | (refine ⟨by first | omega | (intros; simp_all; done) | (intros; simp_all; omega), ?_⟩; try simp only [go_sem, Nat.reduceAdd, Nat.reduceLeDiff, Nat.reduceSub, Int.reduceToNat, reduceCtorEq]))
    exact AE.meet (p, l, ⟨N, K, t, false, false, 0, 0, []⟩) ⟨rfl, by rw [tkP, if_neg hK6], by rw [tkL, if_neg hK5, if_neg hK6]⟩ (by repeat (first | exact Sub.nil _ | refine Sub.cons rfl ?_)) rfl
  simp only at hM hp' hL
  repeat (first | refine xA ?_ | refine xB ?_ | refine xC ?_ | refine xE ?_ | refine xD ?_ | refine xK ?_ | refine xS ?_ | refine xM ?_ | refine xT ?_ | refine xF ?_ | ((first | refine xR ?_ | refine xW ?_ | refine vq_id ?_); simp only [go_sem, Nat.reduceAdd, Nat.reduceLeDiff, Nat.reduceSub, Int.reduceToNat, reduceCtorEq]) | (refine ⟨by first | omega | (intros; simp_all; done) | (intros; simp_all; omega), ?_⟩; try simp only [go_sem, Nat.reduceAdd, Nat.reduceLeDiff, Nat.reduceSub, Int.reduceToNat, reduceCtorEq]))
  refine AQ.kill 2 ?_
  simp only [go_sem, Nat.reduceAdd, Nat.reduceLeDiff, Nat.reduceSub, Int.reduceToNat, reduceCtorEq]
  refine AQ.append (hnb := rfl) (rows := rqR M) (es := 7) (by kernel_rfl) rfl rfl rfl (by rfl) Tryz.tk32 Tryz.sz58 (by show Option.map _ (zro Tryz.prog 58) = _; rw [Tryz.zr58]; rfl) Tryz.by58 (by rw [rqR_len, hM]) (by rw [rqR_len]; simp only [List.length_cons, List.length_nil]; omega) (by rw [rqR_len]; simp only [List.length_cons, List.length_nil]; omega) ?_
  have e1 : rqR M ++ [[Ii r.n, Ii r.k, Si r.b, .v (.bool r.c), .v (.bool r.a), Ii r.ak, Ii r.an, Si r.ab]] = rqR (tkL l K N t) := by rw [← hL, rqR_snoc]; rfl
  rw [e1]
  obtain ⟨L, hLL⟩ : ∃ L, tkL l K N t = L := ⟨_, rfl⟩
  have hLl : L.length = l.length + 1 := by rw [← hLL, ← hL, List.length_append, hM]; rfl
  rw [hLL, hp']
  simp only [go_sem, Nat.reduceAdd, Nat.reduceLeDiff, Nat.reduceSub, Int.reduceToNat, reduceCtorEq, rqR_len, hM, List.length_cons, List.length_nil]
  repeat (first | refine xA ?_ | refine xB ?_ | refine xC ?_ | refine xE ?_ | refine xD ?_ | refine xK ?_ | refine xS ?_ | refine xM ?_ | refine xT ?_ | refine xF ?_ | ((first | refine xR ?_ | refine xW ?_ | refine vq_id ?_); simp only [go_sem, Nat.reduceAdd, Nat.reduceLeDiff, Nat.reduceSub, Int.reduceToNat, reduceCtorEq]) | (refine ⟨by first | omega | (intros; simp_all; done) | (intros; simp_all; omega), ?_⟩; try simp only [go_sem, Nat.reduceAdd, Nat.reduceLeDiff, Nat.reduceSub, Int.reduceToNat, reduceCtorEq]))
  have hta : (rqR L).take (l.length + 1) = rqR L := List.take_of_length_le (by rw [rqR_len, hLl]; exact Nat.le_refl _)
  refine AQ.freeze 2 (rows := rqR L) rfl (by simp [go_sem, rqR_len, hLl]) (by simp [go_sem, rqR_len, hLl]) ?_
  simp only [go_sem, Nat.reduceAdd, Nat.reduceLeDiff, Nat.reduceSub, Int.reduceToNat, reduceCtorEq, List.drop_zero, hta]
  refine AQ.fn (by kernel_rfl) rfl rfl rfl (flush_ref (tkP p K) nm w (n + 1) L (by omega)) rfl ?_
  repeat (first | refine xA ?_ | refine xB ?_ | refine xC ?_ | refine xE ?_ | refine xD ?_ | refine xK ?_ | refine xS ?_ | refine xM ?_ | refine xT ?_ | refine xF ?_ | ((first | refine xR ?_ | refine xW ?_ | refine vq_id ?_); simp only [go_sem, Nat.reduceAdd, Nat.reduceLeDiff, Nat.reduceSub, Int.reduceToNat, reduceCtorEq]) | (refine ⟨by first | omega | (intros; simp_all; done) | (intros; simp_all; omega), ?_⟩; try simp only [go_sem, Nat.reduceAdd, Nat.reduceLeDiff, Nat.reduceSub, Int.reduceToNat, reduceCtorEq]))
  exact AE.retD [3, 1, 0] rfl ⟨⟨rfl, Nat.le_of_ble_eq_true (by kernel_rfl)⟩, rfl, rfl, trivial⟩ rfl ⟨rfl, rfl⟩
end Go.Proofs.YtlpcdpjkdodmcaaGreatDoor
end

section
namespace Go.Proofs.YtlpcdpjkdodmcaaGreatDoor
open Go Go.AL Go.RowKit
set_option maxRecDepth 10000
set_option maxHeartbeats 4000000
theorem idx_snoc {p : Int} {nm : List UInt8} {w n : Int} {l : List Rq} (h : srvP p nm w n l) (id : Int) {k : Nat} {r : Rq} (hr : l[k]? = some r) :
    idxQ (mineB id) (l.take (k + 1)) = if mineB id r = true then (k : Int) else idxQ (mineB id) (l.take k) := by
  have hk := (List.getElem?_eq_some_iff.1 hr).1
  have hl : (l.take k).length = k := by rw [List.length_take]; omega
  have hget : (l.take (k + 1))[k]? = some r := by rw [List.getElem?_take_of_lt (by omega)]; exact hr
  have hlow : ∀ j, j < k → (l.take (k + 1))[j]? = (l.take k)[j]? := fun j hj => by rw [List.getElem?_take_of_lt (by omega), List.getElem?_take_of_lt hj]
  split
  · rename_i hm
    refine idxQ_at hget hm fun j hj q hq => ?_
    rw [← Bool.not_eq_true]
    intro hq2
    have hqj : l[j]? = some q := by rw [List.getElem?_take_of_lt (by omega)] at hq; exact hq
    simp only [mineB, Bool.and_eq_true, beq_iff_eq] at hm hq2
    have := uniq_of h hqj hr (by rw [hq2.1, hm.1])
    omega
  · rename_i hm
    rcases idxQ_cases (mineB id) (l.take k) with hj | ⟨j, hj, hjl⟩
    · rw [hj]
      refine idxQ_no fun i hi q hq => ?_
      rw [List.length_take] at hi
      rcases Nat.lt_or_ge i k with hlt | hge
      · rw [hlow i hlt] at hq
        unfold idxQ at hj
        split at hj
        · omega
        · rename_i hno
          exact by simpa using List.findIdx?_eq_none_iff.1 hno q (List.mem_of_getElem? hq)
      · have : i = k := by omega
        subst this
        rw [hget] at hq
        cases hq
        simpa using hm
    · rw [hj]
      obtain ⟨q, hq, hf⟩ := idxQ_some hj
      rw [hl] at hjl
      refine idxQ_at (by rw [hlow j hjl]; exact hq) hf fun i hi q' hq' => ?_
      rw [hlow i (by omega)] at hq'
      unfold idxQ at hj
      split at hj
      · rename_i j' hj'
        have e : j' = j := by omega
        subst e
        obtain ⟨_, _, h3⟩ := List.findIdx?_eq_some_iff_getElem.1 hj'
        have h4 := h3 i hi
        have e2 := (List.getElem?_eq_some_iff.1 hq').2
        rw [← e2]
        simpa using h4
      · omega
theorem answer_ref (p : Int) (nm : List UInt8) (w n : Int) (l : List Rq) (hl : l.length ≤ 1000000) (hnm : nm.length ≤ 9223372036854775807) (id K N : Int) (t : List UInt8) :
    PFn Tryz.prog 18 [.agg [Iv p, Sv nm, Iv w, Iv n, .im (.sl 8 (rqR l))], Iv id, .agg [Iv K, Iv N, Sv t]] (ansV p nm w n l id K N t) := by
  refine ACall.walk [0, 1, 2, 3, 5, 6, 7, 8, 9, 10, 11, 12, 13, 17, 24, 43, 46, 52, 60, 71, 81, 86] [3, 6] Tryz.func18 rfl Tryz.ntmps18 (by kernel_rfl) (by rfl) rfl fun W own I0 φ0 lay => ?_
  repeat (first | refine xA ?_ | refine xB ?_ | refine xC ?_ | refine xE ?_ | refine xD ?_ | refine xK ?_ | refine xS ?_ | refine xM ?_ | refine xT ?_ | refine xF ?_ | ((first | refine xR ?_ | refine xW ?_ | refine vq_id ?_); simp only [go_sem, Nat.reduceAdd, Nat.reduceLeDiff, Nat.reduceSub, Int.reduceToNat, reduceCtorEq]) | (refine ⟨by first | omega | (intros; simp_all; done) | (intros; simp_all; omega), ?_⟩; try simp only [go_sem, Nat.reduceAdd, Nat.reduceLeDiff, Nat.reduceSub, Int.reduceToNat, reduceCtorEq]))
  refine AQ.fn (by kernel_rfl) rfl rfl rfl (check_sref p nm w n l (by omega) hnm) rfl ?_
  repeat (first | refine xA ?_ | refine xB ?_ | refine xC ?_ | refine xE ?_ | refine xD ?_ | refine xK ?_ | refine xS ?_ | refine xM ?_ | refine xT ?_ | refine xF ?_ | ((first | refine xR ?_ | refine xW ?_ | refine vq_id ?_); simp only [go_sem, Nat.reduceAdd, Nat.reduceLeDiff, Nat.reduceSub, Int.reduceToNat, reduceCtorEq]) | (refine ⟨by first | omega | (intros; simp_all; done) | (intros; simp_all; omega), ?_⟩; try simp only [go_sem, Nat.reduceAdd, Nat.reduceLeDiff, Nat.reduceSub, Int.reduceToNat, reduceCtorEq]))
  unfold srvE ansV
  refine AP.cond rfl rfl (fun h1 => ?_) (fun h1 => ?_)
  · have h1' : srvC p nm w n l = false := by
      rcases Bool.eq_false_or_eq_true (srvC p nm w n l) with h | h
      · rw [h] at h1; exact absurd h1 (by decide)
      · exact h
    rw [if_pos h1', h1']
    repeat (first | refine xA ?_ | refine xB ?_ | refine xC ?_ | refine xE ?_ | refine xD ?_ | refine xK ?_ | refine xS ?_ | refine xM ?_ | refine xT ?_ | refine xF ?_ | ((first | refine xR ?_ | refine xW ?_ | refine vq_id ?_); simp only [go_sem, Nat.reduceAdd, Nat.reduceLeDiff, Nat.reduceSub, Int.reduceToNat, reduceCtorEq]) | (refine ⟨by first | omega | (intros; simp_all; done) | (intros; simp_all; omega), ?_⟩; try simp only [go_sem, Nat.reduceAdd, Nat.reduceLeDiff, Nat.reduceSub, Int.reduceToNat, reduceCtorEq]))
    refine AE.nilsl 7 3 rfl ?_
    refine AE.cellsW 1 [Iv 0, Sv [], Iv 0, Iv 0, .im (.sl 8 (rqR []))] rfl (by repeat (first | exact cellsLe.refl _ | refine cellsLe.nil ?_ | refine cellsLe.cons ?_)) ?_
    simp only [go_sem, Nat.reduceAdd, Nat.reduceLeDiff, Nat.reduceSub, Int.reduceToNat, reduceCtorEq]
    exact AE.retD [0, 1] rfl ⟨⟨rfl, Nat.le_of_ble_eq_true (by kernel_rfl)⟩, rfl, rfl, trivial⟩ rfl ⟨rfl, rfl⟩
  have h1' : srvC p nm w n l = true := by
    rcases Bool.eq_false_or_eq_true (srvC p nm w n l) with h | h
    · exact h
    · rw [h] at h1; exact absurd h1 (by decide)
  rw [if_neg (by rw [h1']; decide)]
  have hS := (srvC_iff p nm w n l).1 h1'
  repeat (first | refine xA ?_ | refine xB ?_ | refine xC ?_ | refine xE ?_ | refine xD ?_ | refine xK ?_ | refine xS ?_ | refine xM ?_ | refine xT ?_ | refine xF ?_ | ((first | refine xR ?_ | refine xW ?_ | refine vq_id ?_); simp only [go_sem, Nat.reduceAdd, Nat.reduceLeDiff, Nat.reduceSub, Int.reduceToNat, reduceCtorEq]) | (refine ⟨by first | omega | (intros; simp_all; done) | (intros; simp_all; omega), ?_⟩; try simp only [go_sem, Nat.reduceAdd, Nat.reduceLeDiff, Nat.reduceSub, Int.reduceToNat, reduceCtorEq]))
  refine AP.loop rfl (α := Nat) (fun k => [(1, Iv id), (3, .ob 0 0), (5, .im (.pt [Ii K, Ii N, Si t])), (6, .ob 1 0), (7, nilS), (8, Iv 0), (10, Iv (idxQ (mineB id) (l.take k))), (11, Iv k)])
    (fun k => [(1, .var 34 [Iv 0, Sv [], Iv 0, Iv 0, nilS]), (0, .var 34 [Iv p, Sv nm, Iv w, Iv n, .im (.sl 8 (rqR l))])]) (fun k => k ≤ l.length) (fun k => l.length - k) 0 (Nat.zero_le _) (by repeat (first | exact Sub.nil _ | refine Sub.cons rfl ?_)) rfl fun k hk => ?_
  have hw := wr (x := (k : Int) + 1) (by omega)
  repeat (first | refine xA ?_ | refine xB ?_ | refine xC ?_ | refine xE ?_ | refine xD ?_ | refine xK ?_ | refine xS ?_ | refine xM ?_ | refine xT ?_ | refine xF ?_ | ((first | refine xR ?_ | refine xW ?_ | refine vq_id ?_); simp only [go_sem, Nat.reduceAdd, Nat.reduceLeDiff, Nat.reduceSub, Int.reduceToNat, reduceCtorEq, rqR_len]) | (refine ⟨by first | omega | (intros; simp_all; done) | (intros; simp_all; omega), ?_⟩; try simp only [go_sem, Nat.reduceAdd, Nat.reduceLeDiff, Nat.reduceSub, Int.reduceToNat, reduceCtorEq, rqR_len]))
  refine AP.cond rfl rfl (fun hc => ?_) (fun hc => ?_)
  · have hk' : k < l.length := by simp at hc; omega
    obtain ⟨r, hm, hg⟩ := rqR_get l k hk'
    have hnx := idx_snoc hS id hm
    have hwk := work_ref r.k
    obtain ⟨v1, hv1⟩ : ∃ v, (r.n == id) = v := ⟨_, rfl⟩
    cases v1 with
    | false =>
      rw [if_neg (by simp [mineB, hv1])] at hnx
      repeat (first | refine xA ?_ | refine xB ?_ | refine xC ?_ | refine xE ?_ | refine xD ?_ | refine xK ?_ | refine xS ?_ | refine xM ?_ | refine xT ?_ | refine xF ?_ | ((first | refine xR ?_ | refine xW ?_ | refine vq_id ?_); simp only [go_sem, Nat.reduceAdd, Nat.reduceLeDiff, Nat.reduceSub, Int.reduceToNat, reduceCtorEq, rqR_len, hg, hv1, hw, Int.toNat_natCast, List.map_cons, List.map_nil, List.length_cons, List.length_nil, List.take_succ_cons, List.take_zero, List.drop_succ_cons, List.drop_zero]) | (refine ⟨by first | omega | (intros; simp_all; done) | (intros; simp_all; omega), ?_⟩; try simp only [go_sem, Nat.reduceAdd, Nat.reduceLeDiff, Nat.reduceSub, Int.reduceToNat, reduceCtorEq, rqR_len, hg, hv1, hw, Int.toNat_natCast, List.map_cons, List.map_nil, List.length_cons, List.length_nil, List.take_succ_cons, List.take_zero, List.drop_succ_cons, List.drop_zero]))
      exact AE.round (k + 1) (by omega) (by omega) (by rw [hnx]; exact (by repeat (first | exact Sub.nil _ | refine Sub.cons rfl ?_))) rfl
    | true =>
      repeat (first | refine xA ?_ | refine xB ?_ | refine xC ?_ | refine xE ?_ | refine xD ?_ | refine xK ?_ | refine xS ?_ | refine xM ?_ | refine xT ?_ | refine xF ?_ | ((first | refine xR ?_ | refine xW ?_ | refine vq_id ?_); simp only [go_sem, Nat.reduceAdd, Nat.reduceLeDiff, Nat.reduceSub, Int.reduceToNat, reduceCtorEq, rqR_len, hg, hv1, hw, Int.toNat_natCast, List.map_cons, List.map_nil, List.length_cons, List.length_nil, List.take_succ_cons, List.take_zero, List.drop_succ_cons, List.drop_zero]) | (refine ⟨by first | omega | (intros; simp_all; done) | (intros; simp_all; omega), ?_⟩; try simp only [go_sem, Nat.reduceAdd, Nat.reduceLeDiff, Nat.reduceSub, Int.reduceToNat, reduceCtorEq, rqR_len, hg, hv1, hw, Int.toNat_natCast, List.map_cons, List.map_nil, List.length_cons, List.length_nil, List.take_succ_cons, List.take_zero, List.drop_succ_cons, List.drop_zero]))
      obtain ⟨v2, hv2⟩ : ∃ v, workB r.k = v := ⟨_, rfl⟩
      rw [hv2] at hwk
      refine AQ.guard_yes (by simp only [go_sem]) ?_
      refine AQ.fn_g (by kernel_rfl) rfl rfl (fun h => by first | (simp [gs, AV.g]; done) | (simp [gs, AV.g, constAV]; done) | (simp [gs, AV.g, constAV, bw] at h ⊢; done) | (simp [gs, AV.g, constAV, bw] at h ⊢; exact h) | (simp [gs, AV.g, constAV, bw] at h ⊢; simp [h]; done) | (simp [bw] at h; done) | (simp [gs, AV.g, bw] at h ⊢; simp [h]; done) | (simp [gs, AV.g, bw] at h ⊢; exact h.1) | (simp [gs, AV.g]; rfl) | (simp [gs, AV.g, bw] at h ⊢; rfl) | (simp [gs, AV.g, bw] at h ⊢; simp [h]; rfl) | (simp [gs, AV.g, bw] at h ⊢; simp_all)) rfl (fun _ => hwk) rfl ?_
      cases v2 with
      | true =>
        rw [if_pos (by simp [mineB, hv1, hv2])] at hnx
        repeat (first | refine xA ?_ | refine xB ?_ | refine xC ?_ | refine xE ?_ | refine xD ?_ | refine xK ?_ | refine xS ?_ | refine xM ?_ | refine xT ?_ | refine xF ?_ | ((first | refine xR ?_ | refine xW ?_ | refine vq_id ?_); simp only [go_sem, Nat.reduceAdd, Nat.reduceLeDiff, Nat.reduceSub, Int.reduceToNat, reduceCtorEq, hw]) | (refine ⟨by first | omega | (intros; simp_all; done) | (intros; simp_all; omega), ?_⟩; try simp only [go_sem, Nat.reduceAdd, Nat.reduceLeDiff, Nat.reduceSub, Int.reduceToNat, reduceCtorEq, hw]))
        exact AE.round (k + 1) (by omega) (by omega) (by rw [hnx]; exact (by repeat (first | exact Sub.nil _ | refine Sub.cons rfl ?_))) rfl
      | false =>
        rw [if_neg (by simp [mineB, hv2])] at hnx
        repeat (first | refine xA ?_ | refine xB ?_ | refine xC ?_ | refine xE ?_ | refine xD ?_ | refine xK ?_ | refine xS ?_ | refine xM ?_ | refine xT ?_ | refine xF ?_ | ((first | refine xR ?_ | refine xW ?_ | refine vq_id ?_); simp only [go_sem, Nat.reduceAdd, Nat.reduceLeDiff, Nat.reduceSub, Int.reduceToNat, reduceCtorEq, hw]) | (refine ⟨by first | omega | (intros; simp_all; done) | (intros; simp_all; omega), ?_⟩; try simp only [go_sem, Nat.reduceAdd, Nat.reduceLeDiff, Nat.reduceSub, Int.reduceToNat, reduceCtorEq, hw]))
        exact AE.round (k + 1) (by omega) (by omega) (by rw [hnx]; exact (by repeat (first | exact Sub.nil _ | refine Sub.cons rfl ?_))) rfl
  · have hke : k = l.length := by simp at hc; omega
    rw [hke, List.take_length]
    repeat (first | refine xA ?_ | refine xB ?_ | refine xC ?_ | refine xE ?_ | refine xD ?_ | refine xK ?_ | refine xS ?_ | refine xM ?_ | refine xT ?_ | refine xF ?_ | ((first | refine xR ?_ | refine xW ?_ | refine vq_id ?_); simp only [go_sem, Nat.reduceAdd, Nat.reduceLeDiff, Nat.reduceSub, Int.reduceToNat, reduceCtorEq]) | (refine ⟨by first | omega | (intros; simp_all; done) | (intros; simp_all; omega), ?_⟩; try simp only [go_sem, Nat.reduceAdd, Nat.reduceLeDiff, Nat.reduceSub, Int.reduceToNat, reduceCtorEq]))
    refine AP.cond rfl rfl (fun h2 => ?_) (fun h2 => ?_)
    · rw [if_pos (by simpa using h2)]
      repeat (first | refine xA ?_ | refine xB ?_ | refine xC ?_ | refine xE ?_ | refine xD ?_ | refine xK ?_ | refine xS ?_ | refine xM ?_ | refine xT ?_ | refine xF ?_ | ((first | refine xR ?_ | refine xW ?_ | refine vq_id ?_); simp only [go_sem, Nat.reduceAdd, Nat.reduceLeDiff, Nat.reduceSub, Int.reduceToNat, reduceCtorEq]) | (refine ⟨by first | omega | (intros; simp_all; done) | (intros; simp_all; omega), ?_⟩; try simp only [go_sem, Nat.reduceAdd, Nat.reduceLeDiff, Nat.reduceSub, Int.reduceToNat, reduceCtorEq]))
      refine AE.nilsl 7 3 rfl ?_
      refine AE.cellsW 1 [Iv 0, Sv [], Iv 0, Iv 0, .im (.sl 8 (rqR []))] rfl (by repeat (first | exact cellsLe.refl _ | refine cellsLe.nil ?_ | refine cellsLe.cons ?_)) ?_
      simp only [go_sem, Nat.reduceAdd, Nat.reduceLeDiff, Nat.reduceSub, Int.reduceToNat, reduceCtorEq]
      exact AE.retD [0, 1] rfl ⟨⟨rfl, Nat.le_of_ble_eq_true (by kernel_rfl)⟩, rfl, rfl, trivial⟩ rfl ⟨rfl, rfl⟩
    rw [if_neg (by simpa using h2)]
    rcases idxQ_cases (mineB id) l with hj | ⟨j, hj, hjl⟩
    · rw [hj] at h2; exact absurd h2 (by decide)
    obtain ⟨r, hm, hg⟩ := rqR_get l j hjl
    have hr : rAt l (j : Int) = r := by rw [rAt, Int.toNat_natCast, List.getD_eq_getElem?_getD, hm]; rfl
    have hta : (rqR l).take l.length = rqR l := List.take_of_length_le (by rw [rqR_len]; exact Nat.le_refl _)
    unfold answered
    rw [hj, hr]
    repeat (first | refine xA ?_ | refine xB ?_ | refine xC ?_ | refine xE ?_ | refine xD ?_ | refine xK ?_ | refine xS ?_ | refine xM ?_ | refine xT ?_ | refine xF ?_ | ((first | refine xR ?_ | refine xW ?_ | refine vq_id ?_); simp only [go_sem, Nat.reduceAdd, Nat.reduceLeDiff, Nat.reduceSub, Int.reduceToNat, reduceCtorEq]) | (refine ⟨by first | omega | (intros; simp_all; done) | (intros; simp_all; omega), ?_⟩; try simp only [go_sem, Nat.reduceAdd, Nat.reduceLeDiff, Nat.reduceSub, Int.reduceToNat, reduceCtorEq]))
    refine AQ.callv (by kernel_rfl) rfl rfl rfl (copied_spec l (by omega)) fun r' H' ⟨e1, e2⟩ => ?_
    subst e1
    subst e2
    simp only [go_sem, Nat.reduceAdd, Nat.reduceLeDiff, Nat.reduceSub, Int.reduceToNat, reduceCtorEq]
    repeat (first | refine xA ?_ | refine xB ?_ | refine xC ?_ | refine xE ?_ | refine xD ?_ | refine xK ?_ | refine xS ?_ | refine xM ?_ | refine xT ?_ | refine xF ?_ | ((first | refine xR ?_ | refine xW ?_ | refine vq_id ?_); simp only [go_sem, Nat.reduceAdd, Nat.reduceLeDiff, Nat.reduceSub, Int.reduceToNat, reduceCtorEq, rqR_len, hg, List.map_cons, List.map_nil, List.length_cons, List.length_nil, List.take_succ_cons, List.take_zero, List.drop_succ_cons, List.drop_zero, Int.toNat_natCast]) | (refine ⟨by first | omega | (intros; simp_all; done) | (intros; simp_all; omega), ?_⟩; try simp only [go_sem, Nat.reduceAdd, Nat.reduceLeDiff, Nat.reduceSub, Int.reduceToNat, reduceCtorEq, rqR_len, hg, List.map_cons, List.map_nil, List.length_cons, List.length_nil, List.take_succ_cons, List.take_zero, List.drop_succ_cons, List.drop_zero, Int.toNat_natCast]))
    refine AP.cond rfl rfl (fun h3 => ?_) (fun h3 => ?_)
    · rw [if_pos h3]
      refine AP.freeze 2 (rows := rqR l) rfl (by simp [go_sem, rqR_len]) (by simp [go_sem, rqR_len]) ?_
      simp only [go_sem, Nat.reduceAdd, Nat.reduceLeDiff, Nat.reduceSub, Int.reduceToNat, reduceCtorEq, List.drop_zero, hta]
      repeat (first | refine xA ?_ | refine xB ?_ | refine xC ?_ | refine xE ?_ | refine xD ?_ | refine xK ?_ | refine xS ?_ | refine xM ?_ | refine xT ?_ | refine xF ?_ | ((first | refine xR ?_ | refine xW ?_ | refine vq_id ?_); simp only [go_sem, Nat.reduceAdd, Nat.reduceLeDiff, Nat.reduceSub, Int.reduceToNat, reduceCtorEq]) | (refine ⟨by first | omega | (intros; simp_all; done) | (intros; simp_all; omega), ?_⟩; try simp only [go_sem, Nat.reduceAdd, Nat.reduceLeDiff, Nat.reduceSub, Int.reduceToNat, reduceCtorEq]))
      refine AE.nilsl 7 3 rfl ?_
      exact AE.retD [0, 1] rfl ⟨⟨rfl, Nat.le_of_ble_eq_true (by kernel_rfl)⟩, rfl, rfl, trivial⟩ rfl ⟨rfl, rfl⟩
    rw [if_neg (by rw [h3]; decide)]
    repeat (first | refine xA ?_ | refine xB ?_ | refine xC ?_ | refine xE ?_ | refine xD ?_ | refine xK ?_ | refine xS ?_ | refine xM ?_ | refine xT ?_ | refine xF ?_ | ((first | refine xR ?_ | refine xW ?_ | refine vq_id ?_); simp only [go_sem, Nat.reduceAdd, Nat.reduceLeDiff, Nat.reduceSub, Int.reduceToNat, reduceCtorEq, rqR_len, hg, List.map_cons, List.map_nil, List.length_cons, List.length_nil, List.take_succ_cons, List.take_zero, List.drop_succ_cons, List.drop_zero, Int.toNat_natCast]) | (refine ⟨by first | omega | (intros; simp_all; done) | (intros; simp_all; omega), ?_⟩; try simp only [go_sem, Nat.reduceAdd, Nat.reduceLeDiff, Nat.reduceSub, Int.reduceToNat, reduceCtorEq, rqR_len, hg, List.map_cons, List.map_nil, List.length_cons, List.length_nil, List.take_succ_cons, List.take_zero, List.drop_succ_cons, List.drop_zero, Int.toNat_natCast]))
    refine AP.cond rfl rfl (fun h4 => ?_) (fun h4 => ?_)
    · rw [if_pos h4]
      repeat (first | refine xA ?_ | refine xB ?_ | refine xC ?_ | refine xE ?_ | refine xD ?_ | refine xK ?_ | refine xS ?_ | refine xM ?_ | refine xT ?_ | refine xF ?_ | ((first | refine xR ?_ | refine xW ?_ | refine vq_id ?_); simp only [go_sem, Nat.reduceAdd, Nat.reduceLeDiff, Nat.reduceSub, Int.reduceToNat, reduceCtorEq]) | (refine ⟨by first | omega | (intros; simp_all; done) | (intros; simp_all; omega), ?_⟩; try simp only [go_sem, Nat.reduceAdd, Nat.reduceLeDiff, Nat.reduceSub, Int.reduceToNat, reduceCtorEq]))
      refine AE.nilsl 7 3 rfl ?_
      refine AE.cellsW 1 [Iv 0, Sv [], Iv 0, Iv 0, .im (.sl 8 (rqR []))] rfl (by repeat (first | exact cellsLe.refl _ | refine cellsLe.nil ?_ | refine cellsLe.cons ?_)) ?_
      simp only [go_sem, Nat.reduceAdd, Nat.reduceLeDiff, Nat.reduceSub, Int.reduceToNat, reduceCtorEq]
      exact AE.retD [0, 1, 2] rfl ⟨⟨rfl, Nat.le_of_ble_eq_true (by kernel_rfl)⟩, rfl, rfl, trivial⟩ rfl ⟨rfl, rfl⟩
    rw [if_neg (by rw [h4]; decide)]
    repeat (first | refine xA ?_ | refine xB ?_ | refine xC ?_ | refine xE ?_ | refine xD ?_ | refine xK ?_ | refine xS ?_ | refine xM ?_ | refine xT ?_ | refine xF ?_ | ((first | refine xR ?_ | refine xW ?_ | refine vq_id ?_); simp only [go_sem, Nat.reduceAdd, Nat.reduceLeDiff, Nat.reduceSub, Int.reduceToNat, reduceCtorEq]) | (refine ⟨by first | omega | (intros; simp_all; done) | (intros; simp_all; omega), ?_⟩; try simp only [go_sem, Nat.reduceAdd, Nat.reduceLeDiff, Nat.reduceSub, Int.reduceToNat, reduceCtorEq]))
    refine AQ.fn (by kernel_rfl) rfl rfl rfl (wrong_ref K N t) rfl ?_
    repeat (first | refine xA ?_ | refine xB ?_ | refine xC ?_ | refine xE ?_ | refine xD ?_ | refine xK ?_ | refine xS ?_ | refine xM ?_ | refine xT ?_ | refine xF ?_ | ((first | refine xR ?_ | refine xW ?_ | refine vq_id ?_); simp only [go_sem, Nat.reduceAdd, Nat.reduceLeDiff, Nat.reduceSub, Int.reduceToNat, reduceCtorEq]) | (refine ⟨by first | omega | (intros; simp_all; done) | (intros; simp_all; omega), ?_⟩; try simp only [go_sem, Nat.reduceAdd, Nat.reduceLeDiff, Nat.reduceSub, Int.reduceToNat, reduceCtorEq]))
    refine AP.cond rfl rfl (fun h5 => ?_) (fun h5 => ?_)
    · have h5' : msgE K N t ≠ 0 := by simpa using h5
      rw [if_pos h5']
      repeat (first | refine xA ?_ | refine xB ?_ | refine xC ?_ | refine xE ?_ | refine xD ?_ | refine xK ?_ | refine xS ?_ | refine xM ?_ | refine xT ?_ | refine xF ?_ | ((first | refine xR ?_ | refine xW ?_ | refine vq_id ?_); simp only [go_sem, Nat.reduceAdd, Nat.reduceLeDiff, Nat.reduceSub, Int.reduceToNat, reduceCtorEq]) | (refine ⟨by first | omega | (intros; simp_all; done) | (intros; simp_all; omega), ?_⟩; try simp only [go_sem, Nat.reduceAdd, Nat.reduceLeDiff, Nat.reduceSub, Int.reduceToNat, reduceCtorEq]))
      refine AE.nilsl 7 3 rfl ?_
      refine AE.cellsW 1 [Iv 0, Sv [], Iv 0, Iv 0, .im (.sl 8 (rqR []))] rfl (by repeat (first | exact cellsLe.refl _ | refine cellsLe.nil ?_ | refine cellsLe.cons ?_)) ?_
      simp only [go_sem, Nat.reduceAdd, Nat.reduceLeDiff, Nat.reduceSub, Int.reduceToNat, reduceCtorEq]
      exact AE.retD [0, 1, 2] rfl ⟨⟨rfl, Nat.le_of_ble_eq_true (by kernel_rfl)⟩, rfl, rfl, trivial⟩ rfl ⟨rfl, rfl⟩
    have h5' : msgE K N t = 0 := by simpa using h5
    rw [if_neg (by rw [h5']; decide)]
    repeat (first | refine xA ?_ | refine xB ?_ | refine xC ?_ | refine xE ?_ | refine xD ?_ | refine xK ?_ | refine xS ?_ | refine xM ?_ | refine xT ?_ | refine xF ?_ | ((first | refine xR ?_ | refine xW ?_ | refine vq_id ?_); simp only [go_sem, Nat.reduceAdd, Nat.reduceLeDiff, Nat.reduceSub, Int.reduceToNat, reduceCtorEq]) | (refine ⟨by first | omega | (intros; simp_all; done) | (intros; simp_all; omega), ?_⟩; try simp only [go_sem, Nat.reduceAdd, Nat.reduceLeDiff, Nat.reduceSub, Int.reduceToNat, reduceCtorEq]))
    refine AP.cond rfl rfl (fun h6 => ?_) (fun h6 => ?_)
    · rw [if_pos h6]
      repeat (first | refine xA ?_ | refine xB ?_ | refine xC ?_ | refine xE ?_ | refine xD ?_ | refine xK ?_ | refine xS ?_ | refine xM ?_ | refine xT ?_ | refine xF ?_ | ((first | refine xR ?_ | refine xW ?_ | refine vq_id ?_); simp only [go_sem, Nat.reduceAdd, Nat.reduceLeDiff, Nat.reduceSub, Int.reduceToNat, reduceCtorEq]) | (refine ⟨by first | omega | (intros; simp_all; done) | (intros; simp_all; omega), ?_⟩; try simp only [go_sem, Nat.reduceAdd, Nat.reduceLeDiff, Nat.reduceSub, Int.reduceToNat, reduceCtorEq]))
      refine AE.nilsl 7 3 rfl ?_
      refine AE.cellsW 1 [Iv 0, Sv [], Iv 0, Iv 0, .im (.sl 8 (rqR []))] rfl (by repeat (first | exact cellsLe.refl _ | refine cellsLe.nil ?_ | refine cellsLe.cons ?_)) ?_
      simp only [go_sem, Nat.reduceAdd, Nat.reduceLeDiff, Nat.reduceSub, Int.reduceToNat, reduceCtorEq]
      exact AE.retD [0, 1, 2] rfl ⟨⟨rfl, Nat.le_of_ble_eq_true (by kernel_rfl)⟩, rfl, rfl, trivial⟩ rfl ⟨rfl, rfl⟩
    rw [if_neg (by rw [h6]; decide)]
    repeat (first | refine xA ?_ | refine xB ?_ | refine xC ?_ | refine xE ?_ | refine xD ?_ | refine xK ?_ | refine xS ?_ | refine xM ?_ | refine xT ?_ | refine xF ?_ | ((first | refine xR ?_ | refine xW ?_ | refine vq_id ?_); simp only [go_sem, Nat.reduceAdd, Nat.reduceLeDiff, Nat.reduceSub, Int.reduceToNat, reduceCtorEq]) | (refine ⟨by first | omega | (intros; simp_all; done) | (intros; simp_all; omega), ?_⟩; try simp only [go_sem, Nat.reduceAdd, Nat.reduceLeDiff, Nat.reduceSub, Int.reduceToNat, reduceCtorEq]))
    refine AP.cond rfl rfl (fun h7 => ?_) (fun h7 => ?_)
    · rw [if_pos h7]
      repeat (first | refine xA ?_ | refine xB ?_ | refine xC ?_ | refine xE ?_ | refine xD ?_ | refine xK ?_ | refine xS ?_ | refine xM ?_ | refine xT ?_ | refine xF ?_ | ((first | refine xR ?_ | refine xW ?_ | refine vq_id ?_); simp only [go_sem, Nat.reduceAdd, Nat.reduceLeDiff, Nat.reduceSub, Int.reduceToNat, reduceCtorEq]) | (refine ⟨by first | omega | (intros; simp_all; done) | (intros; simp_all; omega), ?_⟩; try simp only [go_sem, Nat.reduceAdd, Nat.reduceLeDiff, Nat.reduceSub, Int.reduceToNat, reduceCtorEq]))
      refine AE.nilsl 7 3 rfl ?_
      refine AE.cellsW 1 [Iv 0, Sv [], Iv 0, Iv 0, .im (.sl 8 (rqR []))] rfl (by repeat (first | exact cellsLe.refl _ | refine cellsLe.nil ?_ | refine cellsLe.cons ?_)) ?_
      simp only [go_sem, Nat.reduceAdd, Nat.reduceLeDiff, Nat.reduceSub, Int.reduceToNat, reduceCtorEq]
      exact AE.retD [0, 1, 2] rfl ⟨⟨rfl, Nat.le_of_ble_eq_true (by kernel_rfl)⟩, rfl, rfl, trivial⟩ rfl ⟨rfl, rfl⟩
    rw [if_neg (by rw [h7]; decide)]
    repeat (first | refine xA ?_ | refine xB ?_ | refine xC ?_ | refine xE ?_ | refine xD ?_ | refine xK ?_ | refine xS ?_ | refine xM ?_ | refine xT ?_ | refine xF ?_ | ((first | refine xR ?_ | refine xW ?_ | refine vq_id ?_); simp only [go_sem, Nat.reduceAdd, Nat.reduceLeDiff, Nat.reduceSub, Int.reduceToNat, reduceCtorEq]) | (refine ⟨by first | omega | (intros; simp_all; done) | (intros; simp_all; omega), ?_⟩; try simp only [go_sem, Nat.reduceAdd, Nat.reduceLeDiff, Nat.reduceSub, Int.reduceToNat, reduceCtorEq]))
    refine AP.drawE 13 (Tree.node [] [0, 1, 2, 3, 4, 5, 6, 7, 8] [9] [Tree.node [3, 4, 5, 6] [10, 11] [12] [Tree.node [] [] [] []]]) (by kernel_rfl) rfl (by kernel_rfl) (by kernel_rfl) ?_
    refine vd_node ?_
    simp only [go_sem, Nat.reduceAdd, Nat.reduceLeDiff, Nat.reduceSub, Int.reduceToNat, reduceCtorEq, rqR_len]
    refine ⟨by omega, ?_⟩
    repeat' (first | with_reducible exact True.intro | with_reducible refine And.intro (by omega) ?_ | with_reducible refine And.intro ?_ ?_ | (refine AQ.nx rfl ?_; simp only [go_sem, Nat.reduceAdd, Nat.reduceLeDiff, Nat.reduceSub, Int.reduceToNat, reduceCtorEq, rqR_len]) | refine AQ.skip (by kernel_rfl) rfl ?_ | refine AQ.done ?_ | (refine AQ.go (by kernel_rfl) ?_; simp only [go_sem, Nat.reduceAdd, Nat.reduceLeDiff, Nat.reduceSub, Int.reduceToNat, reduceCtorEq, rqR_len]; repeat (with_reducible refine And.intro (by omega) ?_); refine AQ.nx rfl ?_; simp only [go_sem, Nat.reduceAdd, Nat.reduceLeDiff, Nat.reduceSub, Int.reduceToNat, reduceCtorEq, rqR_len]))
    all_goals (try (simp only [List.length_set, rqR_len]; omega))
    have hrow := rows_ans hm K N t
    have hln : (rqR (l.set j ⟨r.n, r.k, r.b, r.c, true, K, N, t⟩)).length = l.length := by rw [rqR_len, List.length_set]
    have hta2 : (rqR (l.set j ⟨r.n, r.k, r.b, r.c, true, K, N, t⟩)).take l.length = rqR (l.set j ⟨r.n, r.k, r.b, r.c, true, K, N, t⟩) := List.take_of_length_le (by rw [hln]; exact Nat.le_refl _)
    rw [hrow]
    obtain ⟨L, hL⟩ : ∃ L, l.set j ⟨r.n, r.k, r.b, r.c, true, K, N, t⟩ = L := ⟨_, rfl⟩
    have hLl : L.length ≤ 1000000 := by rw [← hL, List.length_set]; exact hl
    rw [hL] at hln hta2 ⊢
    refine AE.freeze 2 (rows := rqR L) rfl (by simp [go_sem, hln]) (by simp [go_sem, hln]) ?_
    simp only [go_sem, Nat.reduceAdd, Nat.reduceLeDiff, Nat.reduceSub, Int.reduceToNat, reduceCtorEq, List.drop_zero, hta2]
    repeat (first | refine xA ?_ | refine xB ?_ | refine xC ?_ | refine xE ?_ | refine xD ?_ | refine xK ?_ | refine xS ?_ | refine xM ?_ | refine xT ?_ | refine xF ?_ | ((first | refine xR ?_ | refine xW ?_ | refine vq_id ?_); simp only [go_sem, Nat.reduceAdd, Nat.reduceLeDiff, Nat.reduceSub, Int.reduceToNat, reduceCtorEq]) | (refine ⟨by first | omega | (intros; simp_all; done) | (intros; simp_all; omega), ?_⟩; try simp only [go_sem, Nat.reduceAdd, Nat.reduceLeDiff, Nat.reduceSub, Int.reduceToNat, reduceCtorEq]))
    refine AQ.fn (by kernel_rfl) rfl rfl rfl (flush_ref p nm w n L hLl) rfl ?_
    repeat (first | refine xA ?_ | refine xB ?_ | refine xC ?_ | refine xE ?_ | refine xD ?_ | refine xK ?_ | refine xS ?_ | refine xM ?_ | refine xT ?_ | refine xF ?_ | ((first | refine xR ?_ | refine xW ?_ | refine vq_id ?_); simp only [go_sem, Nat.reduceAdd, Nat.reduceLeDiff, Nat.reduceSub, Int.reduceToNat, reduceCtorEq]) | (refine ⟨by first | omega | (intros; simp_all; done) | (intros; simp_all; omega), ?_⟩; try simp only [go_sem, Nat.reduceAdd, Nat.reduceLeDiff, Nat.reduceSub, Int.reduceToNat, reduceCtorEq]))
    exact AE.retD [1, 0] rfl ⟨⟨rfl, Nat.le_of_ble_eq_true (by kernel_rfl)⟩, rfl, rfl, trivial⟩ rfl ⟨rfl, rfl⟩
end Go.Proofs.YtlpcdpjkdodmcaaGreatDoor
end

section
namespace Go.Proofs.YtlpcdpjkdodmcaaGreatDoor
open Go Go.AL Go.RowKit
set_option maxRecDepth 10000
set_option maxHeartbeats 4000000
theorem openQ_next {l : List Rq} {k : Nat} {r : Rq} (hr : l[k]? = some r) : openQ (l.take (k + 1)) = bif r.a then openQ (l.take k) else openQ (l.take k) ++ [r] := by
  rw [List.take_add_one, hr]
  cases h : r.a <;> simp [openQ, h]
theorem pending_ref (p : Int) (nm : List UInt8) (w n : Int) (l : List Rq) (hl : l.length ≤ 1000000) (hnm : nm.length ≤ 9223372036854775807) : PFn Tryz.prog 20 [.agg [Iv p, Sv nm, Iv w, Iv n, .im (.sl 8 (rqR l))]] (pendV p nm w n l) := by
  refine ACall.walk [0, 1, 2, 3, 4, 5, 6, 10, 17, 26] [] Tryz.func20 rfl Tryz.ntmps20 (by kernel_rfl) (by rfl) rfl fun W own I0 φ0 lay => ?_
  repeat (first | refine xA ?_ | refine xB ?_ | refine xC ?_ | refine xE ?_ | refine xD ?_ | refine xK ?_ | refine xS ?_ | refine xM ?_ | refine xT ?_ | refine xF ?_ | ((first | refine xR ?_ | refine xW ?_ | refine vq_id ?_); simp only [go_sem, Nat.reduceAdd, Nat.reduceLeDiff, Nat.reduceSub, Int.reduceToNat, reduceCtorEq]) | (refine ⟨by first | omega | (intros; simp_all; done) | (intros; simp_all; omega), ?_⟩; try simp only [go_sem, Nat.reduceAdd, Nat.reduceLeDiff, Nat.reduceSub, Int.reduceToNat, reduceCtorEq]))
  refine AQ.fn (by kernel_rfl) rfl rfl rfl (check_sref p nm w n l (by omega) hnm) rfl ?_
  repeat (first | refine xA ?_ | refine xB ?_ | refine xC ?_ | refine xE ?_ | refine xD ?_ | refine xK ?_ | refine xS ?_ | refine xM ?_ | refine xT ?_ | refine xF ?_ | ((first | refine xR ?_ | refine xW ?_ | refine vq_id ?_); simp only [go_sem, Nat.reduceAdd, Nat.reduceLeDiff, Nat.reduceSub, Int.reduceToNat, reduceCtorEq]) | (refine ⟨by first | omega | (intros; simp_all; done) | (intros; simp_all; omega), ?_⟩; try simp only [go_sem, Nat.reduceAdd, Nat.reduceLeDiff, Nat.reduceSub, Int.reduceToNat, reduceCtorEq]))
  unfold srvE pendV
  refine AP.cond rfl rfl (fun h1 => ?_) (fun h1 => ?_)
  · have h1' : srvC p nm w n l = false := by
      rcases Bool.eq_false_or_eq_true (srvC p nm w n l) with h | h
      · rw [h] at h1; exact absurd h1 (by decide)
      · exact h
    rw [if_pos h1', h1']
    repeat (first | refine xA ?_ | refine xB ?_ | refine xC ?_ | refine xE ?_ | refine xD ?_ | refine xK ?_ | refine xS ?_ | refine xM ?_ | refine xT ?_ | refine xF ?_ | ((first | refine xR ?_ | refine xW ?_ | refine vq_id ?_); simp only [go_sem, Nat.reduceAdd, Nat.reduceLeDiff, Nat.reduceSub, Int.reduceToNat, reduceCtorEq]) | (refine ⟨by first | omega | (intros; simp_all; done) | (intros; simp_all; omega), ?_⟩; try simp only [go_sem, Nat.reduceAdd, Nat.reduceLeDiff, Nat.reduceSub, Int.reduceToNat, reduceCtorEq]))
    refine AE.nilsl 2 8 rfl ?_
    exact AE.ret0 rfl ⟨rfl, rfl, trivial⟩ rfl ⟨rfl, rfl⟩
  have h1' : srvC p nm w n l = true := by
    rcases Bool.eq_false_or_eq_true (srvC p nm w n l) with h | h
    · exact h
    · rw [h] at h1; exact absurd h1 (by decide)
  rw [if_neg (by rw [h1']; decide)]
  repeat (first | refine xA ?_ | refine xB ?_ | refine xC ?_ | refine xE ?_ | refine xD ?_ | refine xK ?_ | refine xS ?_ | refine xM ?_ | refine xT ?_ | refine xF ?_ | ((first | refine xR ?_ | refine xW ?_ | refine vq_id ?_); simp only [go_sem, Nat.reduceAdd, Nat.reduceLeDiff, Nat.reduceSub, Int.reduceToNat, reduceCtorEq]) | (refine ⟨by first | omega | (intros; simp_all; done) | (intros; simp_all; omega), ?_⟩; try simp only [go_sem, Nat.reduceAdd, Nat.reduceLeDiff, Nat.reduceSub, Int.reduceToNat, reduceCtorEq]))
  refine AP.loop rfl (α := Nat) (fun k => [(1, .im (.pt [Ii p, .v (.string (BA nm)), Ii w, Ii n, .sl 8 (rqR l)])), (5, .os 0 8 0 (openQ (l.take k)).length), (6, Iv k)]) (fun k => [(0, .vec 58 8 (rqR (openQ (l.take k))))]) (fun k => k ≤ l.length) (fun k => l.length - k) 0 (Nat.zero_le _) (by repeat (first | exact Sub.nil _ | refine Sub.cons rfl ?_)) rfl fun k hk => ?_
  have hw := wr (x := (k : Int) + 1) (by omega)
  repeat (first | refine xA ?_ | refine xB ?_ | refine xC ?_ | refine xE ?_ | refine xD ?_ | refine xK ?_ | refine xS ?_ | refine xM ?_ | refine xT ?_ | refine xF ?_ | ((first | refine xR ?_ | refine xW ?_ | refine vq_id ?_); simp only [go_sem, Nat.reduceAdd, Nat.reduceLeDiff, Nat.reduceSub, Int.reduceToNat, reduceCtorEq, rqR_len]) | (refine ⟨by first | omega | (intros; simp_all; done) | (intros; simp_all; omega), ?_⟩; try simp only [go_sem, Nat.reduceAdd, Nat.reduceLeDiff, Nat.reduceSub, Int.reduceToNat, reduceCtorEq, rqR_len]))
  refine AP.cond rfl rfl (fun hc => ?_) (fun hc => ?_)
  · have hk' : k < l.length := by simp at hc; omega
    obtain ⟨r, hm, hg⟩ := rqR_get l k hk'
    have hnx := openQ_next hm
    have hle : (openQ (l.take k)).length ≤ k := by
      have := List.length_filter_le (fun r : Rq => !r.a) (l.take k)
      rw [List.length_take] at this
      show (List.filter _ _).length ≤ k
      omega
    obtain ⟨a, ha⟩ : ∃ a, r.a = a := ⟨_, rfl⟩
    rw [ha] at hnx
    cases a with
    | true =>
      repeat (first | refine xA ?_ | refine xB ?_ | refine xC ?_ | refine xE ?_ | refine xD ?_ | refine xK ?_ | refine xS ?_ | refine xM ?_ | refine xT ?_ | refine xF ?_ | ((first | refine xR ?_ | refine xW ?_ | refine vq_id ?_); simp only [go_sem, Nat.reduceAdd, Nat.reduceLeDiff, Nat.reduceSub, Int.reduceToNat, reduceCtorEq, rqR_len, hg, ha, hw, Int.toNat_natCast, List.map_cons, List.map_nil, List.length_cons, List.length_nil, List.take_succ_cons, List.take_zero, List.drop_succ_cons, List.drop_zero]) | (refine ⟨by first | omega | (intros; simp_all; done) | (intros; simp_all; omega), ?_⟩; try simp only [go_sem, Nat.reduceAdd, Nat.reduceLeDiff, Nat.reduceSub, Int.reduceToNat, reduceCtorEq, rqR_len, hg, ha, hw, Int.toNat_natCast, List.map_cons, List.map_nil, List.length_cons, List.length_nil, List.take_succ_cons, List.take_zero, List.drop_succ_cons, List.drop_zero]))
      exact AE.round (k + 1) (by omega) (by omega) (by rw [hnx]; exact (by repeat (first | exact Sub.nil _ | refine Sub.cons rfl ?_))) (by rw [hnx]; rfl)
    | false =>
      obtain ⟨M, hM⟩ : ∃ M, openQ (l.take k) = M := ⟨_, rfl⟩
      rw [hM] at hnx hle ⊢
      repeat (first | refine xA ?_ | refine xB ?_ | refine xC ?_ | refine xE ?_ | refine xD ?_ | refine xK ?_ | refine xS ?_ | refine xM ?_ | refine xT ?_ | refine xF ?_ | ((first | refine xR ?_ | refine xW ?_ | refine vq_id ?_); simp only [go_sem, Nat.reduceAdd, Nat.reduceLeDiff, Nat.reduceSub, Int.reduceToNat, reduceCtorEq, rqR_len, hg, ha, hw, Int.toNat_natCast, List.map_cons, List.map_nil, List.length_cons, List.length_nil, List.take_succ_cons, List.take_zero, List.drop_succ_cons, List.drop_zero]) | (refine ⟨by first | omega | (intros; simp_all; done) | (intros; simp_all; omega), ?_⟩; try simp only [go_sem, Nat.reduceAdd, Nat.reduceLeDiff, Nat.reduceSub, Int.reduceToNat, reduceCtorEq, rqR_len, hg, ha, hw, Int.toNat_natCast, List.map_cons, List.map_nil, List.length_cons, List.length_nil, List.take_succ_cons, List.take_zero, List.drop_succ_cons, List.drop_zero]))
      refine AQ.append (hnb := rfl) (rows := rqR M) (es := 7) (by kernel_rfl) rfl rfl rfl (by rfl) Tryz.tk32 Tryz.sz58 (by show Option.map _ (zro Tryz.prog 58) = _; rw [Tryz.zr58]; rfl) Tryz.by58 (by rw [rqR_len]) (by rw [rqR_len]; simp only [List.length_cons, List.length_nil]; omega) (by rw [rqR_len]; simp only [List.length_cons, List.length_nil]; omega) ?_
      have e1 : rqR M ++ [[Ii r.n, Ii r.k, Si r.b, .v (.bool r.c), .v (.bool false), Ii r.ak, Ii r.an, Si r.ab]] = rqR (M ++ [r]) := by rw [rqR_snoc, rqC, ha]
      have e2 : M.length + 1 = (M ++ [r]).length := by simp
      rw [e1]
      simp only [go_sem, Nat.reduceAdd, Nat.reduceLeDiff, Nat.reduceSub, Int.reduceToNat, reduceCtorEq, rqR_len, List.length_cons, List.length_nil]
      rw [e2]
      repeat (first | refine xA ?_ | refine xB ?_ | refine xC ?_ | refine xE ?_ | refine xD ?_ | refine xK ?_ | refine xS ?_ | refine xM ?_ | refine xT ?_ | refine xF ?_ | ((first | refine xR ?_ | refine xW ?_ | refine vq_id ?_); simp only [go_sem, Nat.reduceAdd, Nat.reduceLeDiff, Nat.reduceSub, Int.reduceToNat, reduceCtorEq, hw]) | (refine ⟨by first | omega | (intros; simp_all; done) | (intros; simp_all; omega), ?_⟩; try simp only [go_sem, Nat.reduceAdd, Nat.reduceLeDiff, Nat.reduceSub, Int.reduceToNat, reduceCtorEq, hw]))
      exact AE.round (k + 1) (by omega) (by omega) (by rw [hnx]; exact (by repeat (first | exact Sub.nil _ | refine Sub.cons rfl ?_))) (by rw [hnx]; rfl)
  · have hke : k = l.length := by simp at hc; omega
    have hta : (rqR (openQ l)).take (openQ l).length = rqR (openQ l) := List.take_of_length_le (by rw [rqR_len]; exact Nat.le_refl _)
    rw [hke, List.take_length]
    repeat (first | refine xA ?_ | refine xB ?_ | refine xC ?_ | refine xE ?_ | refine xD ?_ | refine xK ?_ | refine xS ?_ | refine xM ?_ | refine xT ?_ | refine xF ?_ | ((first | refine xR ?_ | refine xW ?_ | refine vq_id ?_); simp only [go_sem, Nat.reduceAdd, Nat.reduceLeDiff, Nat.reduceSub, Int.reduceToNat, reduceCtorEq]) | (refine ⟨by first | omega | (intros; simp_all; done) | (intros; simp_all; omega), ?_⟩; try simp only [go_sem, Nat.reduceAdd, Nat.reduceLeDiff, Nat.reduceSub, Int.reduceToNat, reduceCtorEq]))
    refine AE.freeze 0 (rows := rqR (openQ l)) rfl (by simp [go_sem, rqR_len]) (by simp [go_sem, rqR_len]) ?_
    simp only [go_sem, Nat.reduceAdd, Nat.reduceLeDiff, Nat.reduceSub, Int.reduceToNat, reduceCtorEq, List.drop_zero, hta]
    exact AE.ret0 rfl ⟨rfl, rfl, trivial⟩ rfl ⟨rfl, rfl⟩
theorem server_spec (p : Int) (nm : List UInt8) (w n : Int) (l : List Rq) (hl : l.length ≤ 1000000000) : PFn Tryz.prog 11 [.agg [Iv p, Sv nm, Iv w, Iv n, .im (.sl 8 (rqR l))]] (.agg [Iv p, Sv nm, Iv w, Iv n, .im (.sl 8 (rqR l))]) := by
  refine ACall.walk [0, 1, 2] [2] Tryz.func11 rfl Tryz.ntmps11 (by kernel_rfl) (by rfl) rfl fun W own I0 φ0 lay => ?_
  repeat (first | refine xA ?_ | refine xB ?_ | refine xC ?_ | refine xE ?_ | refine xD ?_ | refine xK ?_ | refine xS ?_ | refine xM ?_ | refine xT ?_ | refine xF ?_ | ((first | refine xR ?_ | refine xW ?_ | refine vq_id ?_); simp only [go_sem, Nat.reduceAdd, Nat.reduceLeDiff, Nat.reduceSub, Int.reduceToNat, reduceCtorEq]) | (refine ⟨by first | omega | (intros; simp_all; done) | (intros; simp_all; omega), ?_⟩; try simp only [go_sem, Nat.reduceAdd, Nat.reduceLeDiff, Nat.reduceSub, Int.reduceToNat, reduceCtorEq]))
  refine AP.drawE 13 (Tree.node [] [0, 1, 2, 3, 4, 5, 6, 7, 8, 9] [10] [Tree.node [0, 1, 2, 3, 4, 5, 6, 7] [11] [12] [Tree.node [] [] [] []]]) (by kernel_rfl) rfl (by kernel_rfl) (by kernel_rfl) ?_
  refine vd_node ?_
  simp only [go_sem, Nat.reduceAdd, Nat.reduceLeDiff, Nat.reduceSub, Int.reduceToNat, reduceCtorEq]
  repeat' (first | with_reducible exact True.intro | with_reducible refine And.intro (by omega) ?_ | with_reducible refine And.intro ?_ ?_ | (refine AQ.nx rfl ?_; simp only [go_sem, Nat.reduceAdd, Nat.reduceLeDiff, Nat.reduceSub, Int.reduceToNat, reduceCtorEq]) | (refine AQ.fn (by kernel_rfl) rfl rfl rfl (requests_spec l hl) rfl ?_; simp only [go_sem, Nat.reduceAdd, Nat.reduceLeDiff, Nat.reduceSub, Int.reduceToNat, reduceCtorEq]) | refine AQ.done ?_ | (refine AQ.go (by kernel_rfl) ?_; simp only [go_sem, Nat.reduceAdd, Nat.reduceLeDiff, Nat.reduceSub, Int.reduceToNat, reduceCtorEq]; repeat (with_reducible refine And.intro (by omega) ?_); refine AQ.nx rfl ?_; simp only [go_sem, Nat.reduceAdd, Nat.reduceLeDiff, Nat.reduceSub, Int.reduceToNat, reduceCtorEq]))
  all_goals
    repeat (first | refine xA ?_ | refine xB ?_ | refine xC ?_ | refine xE ?_ | refine xD ?_ | refine xK ?_ | refine xS ?_ | refine xM ?_ | refine xT ?_ | refine xF ?_ | ((first | refine xR ?_ | refine xW ?_ | refine vq_id ?_); simp only [go_sem, Nat.reduceAdd, Nat.reduceLeDiff, Nat.reduceSub, Int.reduceToNat, reduceCtorEq]) | (refine ⟨by first | omega | (intros; simp_all; done) | (intros; simp_all; omega), ?_⟩; try simp only [go_sem, Nat.reduceAdd, Nat.reduceLeDiff, Nat.reduceSub, Int.reduceToNat, reduceCtorEq]))
    exact AE.retD [0] rfl ⟨⟨rfl, Nat.le_of_ble_eq_true (by kernel_rfl)⟩, trivial⟩ rfl ⟨rfl, rfl⟩
theorem sameServer_spec (p : Int) (nm : List UInt8) (w n : Int) (l : List Rq) (hl : l.length ≤ 1000000000) : PFn Tryz.prog 12 [.agg [Iv p, Sv nm, Iv w, Iv n, .im (.sl 8 (rqR l))], .agg [Iv p, Sv nm, Iv w, Iv n, .im (.sl 8 (rqR l))]] (Bv true) := by
  refine ACall.walk [0, 1, 2, 3, 4] [] Tryz.func12 rfl Tryz.ntmps12 (by kernel_rfl) (by rfl) rfl fun W own I0 φ0 lay => ?_
  repeat (first | refine xA ?_ | refine xB ?_ | refine xC ?_ | refine xE ?_ | refine xD ?_ | refine xK ?_ | refine xS ?_ | refine xM ?_ | refine xT ?_ | refine xF ?_ | ((first | refine xR ?_ | refine xW ?_ | refine vq_id ?_); simp only [go_sem, Nat.reduceAdd, Nat.reduceLeDiff, Nat.reduceSub, Int.reduceToNat, reduceCtorEq, beq_self_eq_true, Bool.and_self]) | (refine ⟨by first | omega | (intros; simp_all; done) | (intros; simp_all; omega), ?_⟩; try simp only [go_sem, Nat.reduceAdd, Nat.reduceLeDiff, Nat.reduceSub, Int.reduceToNat, reduceCtorEq, beq_self_eq_true, Bool.and_self]))
  refine AQ.guard_yes (by simp only [go_sem]) ?_
  refine AQ.fn (by kernel_rfl) rfl rfl rfl (rqeq_spec l hl) rfl ?_
  repeat (first | refine xA ?_ | refine xB ?_ | refine xC ?_ | refine xE ?_ | refine xD ?_ | refine xK ?_ | refine xS ?_ | refine xM ?_ | refine xT ?_ | refine xF ?_ | ((first | refine xR ?_ | refine xW ?_ | refine vq_id ?_); simp only [go_sem, Nat.reduceAdd, Nat.reduceLeDiff, Nat.reduceSub, Int.reduceToNat, reduceCtorEq, beq_self_eq_true, Bool.and_self]) | (refine ⟨by first | omega | (intros; simp_all; done) | (intros; simp_all; omega), ?_⟩; try simp only [go_sem, Nat.reduceAdd, Nat.reduceLeDiff, Nat.reduceSub, Int.reduceToNat, reduceCtorEq, beq_self_eq_true, Bool.and_self]))
  exact AE.ret0 rfl ⟨rfl, trivial⟩ rfl ⟨rfl, rfl⟩
theorem few_spec (l : List Rq) (hl : l.length < 9223372036854775808) : PFn Tryz.prog 5 [.im (.sl 8 (rqR l))] (Bv (decide ((l.length : Int) ≤ 40))) := by
  refine ACall.walk [0, 2] [] Tryz.func5 rfl Tryz.ntmps5 (by kernel_rfl) (by rfl) rfl fun W own I0 φ0 lay => ?_
  repeat (first | refine xA ?_ | refine xB ?_ | refine xC ?_ | refine xE ?_ | refine xD ?_ | refine xK ?_ | refine xS ?_ | refine xM ?_ | refine xT ?_ | refine xF ?_ | ((first | refine xR ?_ | refine xW ?_ | refine vq_id ?_); simp only [go_sem, Nat.reduceAdd, Nat.reduceLeDiff, Nat.reduceSub, Int.reduceToNat, reduceCtorEq, rqR_len]) | (refine ⟨by first | omega | (intros; simp_all; done) | (intros; simp_all; omega), ?_⟩; try simp only [go_sem, Nat.reduceAdd, Nat.reduceLeDiff, Nat.reduceSub, Int.reduceToNat, reduceCtorEq, rqR_len]))
  exact AE.ret0 rfl ⟨rfl, trivial⟩ rfl ⟨rfl, rfl⟩
end Go.Proofs.YtlpcdpjkdodmcaaGreatDoor
end

section
namespace Go.Proofs.YtlpcdpjkdodmcaaGreatDoor
open Go Go.AL Go.RowKit
set_option maxRecDepth 10000
set_option maxHeartbeats 4000000
theorem newV_form (w : Int) : ∃ (p : Int) (nm : List UInt8) (w1 n : Int) (l : List Rq) (e : Int), newV w = .tup [.agg [Iv p, Sv nm, Iv w1, Iv n, .im (.sl 8 (rqR l))], Iv e] ∧ l.length ≤ 0 := by
  unfold newV
  split
  · exact ⟨_, _, _, _, [], _, rfl, Nat.le_refl _⟩
  · exact ⟨_, _, _, _, [], _, rfl, Nat.le_refl _⟩
theorem okT_form (p : Int) (nm : List UInt8) (w n : Int) (l : List Rq) : okT p nm w n l = okS (rdy p l).1 nm w n (rdy p l).2.1 (rdy p l).2.2 0 := rfl
theorem take_form (p : Int) (nm : List UInt8) (w n : Int) (l : List Rq) (hl : l.length ≤ 1000) (K N : Int) (t : List UInt8) :
    ∃ (p1 : Int) (nm1 : List UInt8) (w1 n1 : Int) (l1 : List Rq) (outs : List Msg) (e : Int), retT (takeE p nm w n l K N t) (taken p nm w n l K N t) = okS p1 nm1 w1 n1 l1 outs e ∧ l1.length ≤ 2000 ∧ outs.length ≤ 2000 := by
  unfold retT
  split
  · exact ⟨_, _, _, _, [], [], _, rfl, Nat.zero_le _, Nat.zero_le _⟩
  · by_cases hK : K = 1
    · rw [taken, if_pos hK]
      exact ⟨_, _, _, _, l, _, _, rfl, by omega, by show 1 ≤ 2000; decide⟩
    · rw [taken_eq hK, okT_form]
      have hlen : (tkL l K N t).length = l.length + 1 := by
        unfold tkL
        split
        · split
          · simp
          · rw [cancelled, List.length_set]; simp
        · split <;> simp
      have := rdy_len (tkP p K) (tkL l K N t)
      exact ⟨_, _, _, _, _, _, _, rfl, by omega, by omega⟩
theorem ans_form (p : Int) (nm : List UInt8) (w n : Int) (l : List Rq) (hl : l.length ≤ 1000) (id K N : Int) (t : List UInt8) :
    ∃ (p1 : Int) (nm1 : List UInt8) (w1 n1 : Int) (l1 : List Rq) (outs : List Msg) (e : Int), ansV p nm w n l id K N t = okS p1 nm1 w1 n1 l1 outs e ∧ l1.length ≤ 2000 ∧ outs.length ≤ 2000 := by
  unfold ansV
  split
  · exact ⟨_, _, _, _, [], [], _, rfl, Nat.zero_le _, Nat.zero_le _⟩
  split
  · exact ⟨_, _, _, _, [], [], _, rfl, Nat.zero_le _, Nat.zero_le _⟩
  split
  · exact ⟨_, _, _, _, l, [], _, rfl, by omega, Nat.zero_le _⟩
  split
  · exact ⟨_, _, _, _, [], [], _, rfl, Nat.zero_le _, Nat.zero_le _⟩
  split
  · exact ⟨_, _, _, _, [], [], _, rfl, Nat.zero_le _, Nat.zero_le _⟩
  split
  · exact ⟨_, _, _, _, [], [], _, rfl, Nat.zero_le _, Nat.zero_le _⟩
  split
  · exact ⟨_, _, _, _, [], [], _, rfl, Nat.zero_le _, Nat.zero_le _⟩
  have hlen : (answered l (idxQ (mineB id) l) K N t).length = l.length := by rw [answered, List.length_set]
  have := rdy_len p (answered l (idxQ (mineB id) l) K N t)
  refine ⟨_, _, _, _, _, _, _, rfl, ?_, ?_⟩ <;> omega
theorem pend_form (p : Int) (nm : List UInt8) (w n : Int) (l : List Rq) (hl : l.length ≤ 1000) : ∃ (l1 : List Rq) (e : Int), pendV p nm w n l = .tup [.im (.sl 8 (rqR l1)), Iv e] ∧ l1.length ≤ 2000 := by
  unfold pendV
  split
  · exact ⟨[], _, rfl, Nat.zero_le _⟩
  · have := List.length_filter_le (fun r : Rq => !r.a) l
    exact ⟨openQ l, _, rfl, by show (List.filter _ _).length ≤ _; omega⟩
end Go.Proofs.YtlpcdpjkdodmcaaGreatDoor
end

section
namespace Go.Proofs.YtlpcdpjkdodmcaaGreatDoor
open Go Go.AL Go.RowKit
set_option maxRecDepth 10000
set_option maxHeartbeats 4000000
theorem servers_walk (p : Int) (nm : List UInt8) (w n : Int) (l : List Rq) (hl : l.length < 9223372036854775808) (hnm : nm.length ≤ 9223372036854775807) (K N : Int) (t : List UInt8) (num : Int) :
    PFn Tryz.prog 3 [.ar [Ii p, Si nm, Ii w, Ii n, .sl 8 (rqR l)], .ar [Ii K, Ii N, Si t], Iv num] (Bv true) := by
  have hfew := few_spec l hl
  refine ACall.walk [0, 1, 2, 3, 4, 6, 7, 8, 9, 10, 11, 12, 13, 14, 15, 16, 20, 49, 81, 115] [7, 9, 11, 13] Tryz.func3 rfl Tryz.ntmps3 (by kernel_rfl) (by rfl) rfl fun W own I0 φ0 lay => ?_
  repeat (first | refine xA ?_ | refine xB ?_ | refine xC ?_ | refine xE ?_ | refine xD ?_ | refine xK ?_ | refine xS ?_ | refine xM ?_ | refine xT ?_ | refine xF ?_ | ((first | refine xR ?_ | refine xW ?_ | refine vq_id ?_); simp only [go_sem, Nat.reduceAdd, Nat.reduceLeDiff, Nat.reduceSub, Int.reduceToNat, reduceCtorEq]) | (refine ⟨by first | omega | (intros; simp_all; done) | (intros; simp_all; omega), ?_⟩; try simp only [go_sem, Nat.reduceAdd, Nat.reduceLeDiff, Nat.reduceSub, Int.reduceToNat, reduceCtorEq]))
  refine AQ.fn (by kernel_rfl) rfl rfl rfl (hfew) rfl ?_
  repeat (first | refine xA ?_ | refine xB ?_ | refine xC ?_ | refine xE ?_ | refine xD ?_ | refine xK ?_ | refine xS ?_ | refine xM ?_ | refine xT ?_ | refine xF ?_ | ((first | refine xR ?_ | refine xW ?_ | refine vq_id ?_); simp only [go_sem, Nat.reduceAdd, Nat.reduceLeDiff, Nat.reduceSub, Int.reduceToNat, reduceCtorEq]) | (refine ⟨by first | omega | (intros; simp_all; done) | (intros; simp_all; omega), ?_⟩; try simp only [go_sem, Nat.reduceAdd, Nat.reduceLeDiff, Nat.reduceSub, Int.reduceToNat, reduceCtorEq]))
  refine AP.cond rfl rfl (fun hc => ?_) (fun hc => ?_)
  · repeat (first | refine xA ?_ | refine xB ?_ | refine xC ?_ | refine xE ?_ | refine xD ?_ | refine xK ?_ | refine xS ?_ | refine xM ?_ | refine xT ?_ | refine xF ?_ | ((first | refine xR ?_ | refine xW ?_ | refine vq_id ?_); simp only [go_sem, Nat.reduceAdd, Nat.reduceLeDiff, Nat.reduceSub, Int.reduceToNat, reduceCtorEq]) | (refine ⟨by first | omega | (intros; simp_all; done) | (intros; simp_all; omega), ?_⟩; try simp only [go_sem, Nat.reduceAdd, Nat.reduceLeDiff, Nat.reduceSub, Int.reduceToNat, reduceCtorEq]))
    refine AQ.fn (by kernel_rfl) rfl rfl rfl (awake_spec) rfl ?_
    repeat (first | refine xA ?_ | refine xB ?_ | refine xC ?_ | refine xE ?_ | refine xD ?_ | refine xK ?_ | refine xS ?_ | refine xM ?_ | refine xT ?_ | refine xF ?_ | ((first | refine xR ?_ | refine xW ?_ | refine vq_id ?_); simp only [go_sem, Nat.reduceAdd, Nat.reduceLeDiff, Nat.reduceSub, Int.reduceToNat, reduceCtorEq]) | (refine ⟨by first | omega | (intros; simp_all; done) | (intros; simp_all; omega), ?_⟩; try simp only [go_sem, Nat.reduceAdd, Nat.reduceLeDiff, Nat.reduceSub, Int.reduceToNat, reduceCtorEq]))
    exact AE.ret0 rfl ⟨rfl, trivial⟩ rfl ⟨rfl, rfl⟩
  have hl40 : l.length ≤ 40 := by simp at hc; omega
  have hck := chk_spec p nm w n l (by omega) hnm
  have hcr := check_sref p nm w n l (by omega) hnm
  have hsv := server_spec p nm w n l (by omega)
  have hn1 := new_spec num
  have hn2 := new_ref num
  obtain ⟨p1, nm1, w1, n1, l1, e1, hv, hl1⟩ := newV_form num
  rw [hv] at hn1 hn2
  have hs1 := server_spec p1 nm1 w1 n1 l1 (by omega)
  have hq1 := sameServer_spec p1 nm1 w1 n1 l1 (by omega)
  have ht1 := take_spec p nm w n l (by omega) hnm K N t
  have ht2 := take_ref p nm w n l (by omega) hnm K N t
  obtain ⟨p2, nm2, w2, n2, l2, o2, e2, hv2, hl2, ho2⟩ := take_form p nm w n l (by omega) K N t
  rw [hv2, okS] at ht1 ht2
  have hs2 := server_spec p2 nm2 w2 n2 l2 (by omega)
  have hq2 := sameServer_spec p2 nm2 w2 n2 l2 (by omega)
  have hm2 := msgs_spec o2 (by omega)
  have hme2 := meq_spec o2 (by omega)
  have ha1 := answer_spec p nm w n l (by omega) hnm num K N t
  have ha2 := answer_ref p nm w n l (by omega) hnm num K N t
  obtain ⟨p3, nm3, w3, n3, l3, o3, e3, hv3, hl3, ho3⟩ := ans_form p nm w n l (by omega) num K N t
  rw [hv3, okS] at ha1 ha2
  have hs3 := server_spec p3 nm3 w3 n3 l3 (by omega)
  have hq3 := sameServer_spec p3 nm3 w3 n3 l3 (by omega)
  have hm3 := msgs_spec o3 (by omega)
  have hme3 := meq_spec o3 (by omega)
  have hp1 := pend_spec p nm w n l (by omega) hnm
  have hp2 := pending_ref p nm w n l (by omega) hnm
  obtain ⟨l4, e4, hv4, hl4⟩ := pend_form p nm w n l (by omega)
  rw [hv4] at hp1 hp2
  have hr4 := requests_spec l4 (by omega)
  have hre4 := rqeq_spec l4 (by omega)
  obtain ⟨ec, hec⟩ : ∃ e, srvE p nm w n l = e := ⟨_, rfl⟩
  rw [hec] at hck hcr
  repeat (first | refine xA ?_ | refine xB ?_ | refine xC ?_ | refine xE ?_ | refine xD ?_ | refine xK ?_ | refine xS ?_ | refine xM ?_ | refine xT ?_ | refine xF ?_ | ((first | refine xR ?_ | refine xW ?_ | refine vq_id ?_); simp only [go_sem, Nat.reduceAdd, Nat.reduceLeDiff, Nat.reduceSub, Int.reduceToNat, reduceCtorEq]) | (refine ⟨by first | omega | (intros; simp_all; done) | (intros; simp_all; omega), ?_⟩; try simp only [go_sem, Nat.reduceAdd, Nat.reduceLeDiff, Nat.reduceSub, Int.reduceToNat, reduceCtorEq]))
  refine AQ.fn (by kernel_rfl) rfl rfl rfl (hn1) rfl ?_
  repeat (first | refine xA ?_ | refine xB ?_ | refine xC ?_ | refine xE ?_ | refine xD ?_ | refine xK ?_ | refine xS ?_ | refine xM ?_ | refine xT ?_ | refine xF ?_ | ((first | refine xR ?_ | refine xW ?_ | refine vq_id ?_); simp only [go_sem, Nat.reduceAdd, Nat.reduceLeDiff, Nat.reduceSub, Int.reduceToNat, reduceCtorEq]) | (refine ⟨by first | omega | (intros; simp_all; done) | (intros; simp_all; omega), ?_⟩; try simp only [go_sem, Nat.reduceAdd, Nat.reduceLeDiff, Nat.reduceSub, Int.reduceToNat, reduceCtorEq]))
  refine AQ.fn (by kernel_rfl) rfl rfl rfl (hn2) rfl ?_
  repeat (first | refine xA ?_ | refine xB ?_ | refine xC ?_ | refine xE ?_ | refine xD ?_ | refine xK ?_ | refine xS ?_ | refine xM ?_ | refine xT ?_ | refine xF ?_ | ((first | refine xR ?_ | refine xW ?_ | refine vq_id ?_); simp only [go_sem, Nat.reduceAdd, Nat.reduceLeDiff, Nat.reduceSub, Int.reduceToNat, reduceCtorEq]) | (refine ⟨by first | omega | (intros; simp_all; done) | (intros; simp_all; omega), ?_⟩; try simp only [go_sem, Nat.reduceAdd, Nat.reduceLeDiff, Nat.reduceSub, Int.reduceToNat, reduceCtorEq]))
  refine AP.drawE 18 (Tree.node [] [0, 2] [1] [Tree.node [2] [] [3] [Tree.node [] [] [4] [Tree.node [] [5, 6, 7, 9] [8] [Tree.node [9] [] [10] [Tree.node [] [11, 12, 13, 14, 15, 16, 17] [] []]]]]]) (by kernel_rfl) rfl (by kernel_rfl) (by kernel_rfl) ?_
  refine vd_node ?_
  simp only [go_sem, Nat.reduceAdd, Nat.reduceLeDiff, Nat.reduceSub, Int.reduceToNat, reduceCtorEq]
  repeat' (first | with_reducible exact True.intro | with_reducible refine And.intro (by omega) ?_ | with_reducible refine And.intro ?_ ?_ | (refine AQ.nx rfl ?_; simp only [go_sem, Nat.reduceAdd, Nat.reduceLeDiff, Nat.reduceSub, Int.reduceToNat, reduceCtorEq, bne_self_eq_false, Bool.not_true, Bool.not_false, Bool.or_self]) | (refine AQ.fn (by kernel_rfl) rfl rfl rfl (hck) rfl ?_; simp only [go_sem, Nat.reduceAdd, Nat.reduceLeDiff, Nat.reduceSub, Int.reduceToNat, reduceCtorEq]) | (refine AQ.fn (by kernel_rfl) rfl rfl rfl (hsv) rfl ?_; simp only [go_sem, Nat.reduceAdd, Nat.reduceLeDiff, Nat.reduceSub, Int.reduceToNat, reduceCtorEq]) | (refine AQ.fn (by kernel_rfl) rfl rfl rfl (hcr) rfl ?_; simp only [go_sem, Nat.reduceAdd, Nat.reduceLeDiff, Nat.reduceSub, Int.reduceToNat, reduceCtorEq, bne_self_eq_false, Bool.not_true, Bool.not_false, Bool.or_self]) | (refine AQ.fn_g (by kernel_rfl) rfl rfl (fun h => by first | (simp [gs, AV.g]; done) | (simp [gs, AV.g, constAV]; done) | (simp [gs, AV.g, constAV, bw] at h ⊢; done) | (simp [gs, AV.g, constAV, bw] at h ⊢; exact h) | (simp [gs, AV.g, constAV, bw] at h ⊢; simp [h]; done) | (simp [bw] at h; done) | (simp [gs, AV.g, bw] at h ⊢; simp [h]; done) | (simp [gs, AV.g, bw] at h ⊢; exact h.1) | (simp [gs, AV.g]; rfl) | (simp [gs, AV.g, bw] at h ⊢; rfl) | (simp [gs, AV.g, bw] at h ⊢; simp [h]; rfl) | (simp [gs, AV.g, bw] at h ⊢; simp_all)) rfl (fun _ => hs1) rfl ?_; simp only [go_sem, Nat.reduceAdd, Nat.reduceLeDiff, Nat.reduceSub, Int.reduceToNat, reduceCtorEq]) | (refine AQ.fn_g (by kernel_rfl) rfl rfl (fun h => by first | (simp [gs, AV.g]; done) | (simp [gs, AV.g, constAV]; done) | (simp [gs, AV.g, constAV, bw] at h ⊢; done) | (simp [gs, AV.g, constAV, bw] at h ⊢; exact h) | (simp [gs, AV.g, constAV, bw] at h ⊢; simp [h]; done) | (simp [bw] at h; done) | (simp [gs, AV.g, bw] at h ⊢; simp [h]; done) | (simp [gs, AV.g, bw] at h ⊢; exact h.1) | (simp [gs, AV.g]; rfl) | (simp [gs, AV.g, bw] at h ⊢; rfl) | (simp [gs, AV.g, bw] at h ⊢; simp [h]; rfl) | (simp [gs, AV.g, bw] at h ⊢; simp_all)) rfl (fun _ => hq1) rfl ?_; simp only [go_sem, Nat.reduceAdd, Nat.reduceLeDiff, Nat.reduceSub, Int.reduceToNat, reduceCtorEq, bne_self_eq_false, Bool.not_true, Bool.not_false, Bool.or_self]) | refine AQ.done ?_ | (refine AQ.go (by kernel_rfl) ?_; simp only [go_sem, Nat.reduceAdd, Nat.reduceLeDiff, Nat.reduceSub, Int.reduceToNat, reduceCtorEq, bne_self_eq_false, Bool.not_true, Bool.not_false, Bool.or_self]; repeat (with_reducible refine And.intro (by omega) ?_); refine AQ.nx rfl ?_; simp only [go_sem, Nat.reduceAdd, Nat.reduceLeDiff, Nat.reduceSub, Int.reduceToNat, reduceCtorEq, bne_self_eq_false, Bool.not_true, Bool.not_false, Bool.or_self]))
  repeat (first | refine xA ?_ | refine xB ?_ | refine xC ?_ | refine xE ?_ | refine xD ?_ | refine xK ?_ | refine xS ?_ | refine xM ?_ | refine xT ?_ | refine xF ?_ | ((first | refine xR ?_ | refine xW ?_ | refine vq_id ?_); simp only [go_sem, Nat.reduceAdd, Nat.reduceLeDiff, Nat.reduceSub, Int.reduceToNat, reduceCtorEq]) | (refine ⟨by first | omega | (intros; simp_all; done) | (intros; simp_all; omega), ?_⟩; try simp only [go_sem, Nat.reduceAdd, Nat.reduceLeDiff, Nat.reduceSub, Int.reduceToNat, reduceCtorEq]))
  refine AQ.fn (by kernel_rfl) rfl rfl rfl (ht1) rfl ?_
  repeat (first | refine xA ?_ | refine xB ?_ | refine xC ?_ | refine xE ?_ | refine xD ?_ | refine xK ?_ | refine xS ?_ | refine xM ?_ | refine xT ?_ | refine xF ?_ | ((first | refine xR ?_ | refine xW ?_ | refine vq_id ?_); simp only [go_sem, Nat.reduceAdd, Nat.reduceLeDiff, Nat.reduceSub, Int.reduceToNat, reduceCtorEq]) | (refine ⟨by first | omega | (intros; simp_all; done) | (intros; simp_all; omega), ?_⟩; try simp only [go_sem, Nat.reduceAdd, Nat.reduceLeDiff, Nat.reduceSub, Int.reduceToNat, reduceCtorEq]))
  refine AP.cut (α := Unit) (fun _ => [(2, Iv num), (3, .im (.pt [Ii p, .v (.string (BA nm)), Ii w, Ii n, .sl 8 (rqR l)])), (4, .im (.pt [Ii K, Ii N, Si t])), (8, Iv e2), (10, Iv e2), (11, .ob 2 0), (12, .im (.sl 3 (msgR o2))), (13, .ob 3 0), (14, .im (.sl 3 (msgR o2)))])
    (fun _ => [(3, .var 34 [Iv p2, Sv nm2, Iv w2, Iv n2, .im (.sl 8 (rqR l2))]), (2, .var 24 [Iv p2, Sv nm2, Iv w2, Iv n2, .im (.sl 8 (rqR l2))])]) (fun _ => True) ?_ fun _ _ => ?_
  · skip
    refine AP.drawE 12 (Tree.node [] [0, 2] [1, 8] [Tree.node [2] [] [3, 8] [Tree.node [] [4, 5, 6, 7] [8] [Tree.node [4, 5, 6, 7] [] [9] [Tree.node [6, 7] [10, 11] [] []]], Tree.node [2] [] [3] [Tree.node [] [4, 5, 6, 7] [9] [Tree.node [6, 7] [10, 11] [] []]]], Tree.node [0, 2] [] [1] [Tree.node [2] [] [3] [Tree.node [] [4, 5, 6, 7] [9] [Tree.node [6, 7] [10, 11] [] []]]]]) (by kernel_rfl) rfl (by kernel_rfl) (by kernel_rfl) ?_
    refine vd_node ?_
    simp only [go_sem, Nat.reduceAdd, Nat.reduceLeDiff, Nat.reduceSub, Int.reduceToNat, reduceCtorEq]
    repeat' (first | with_reducible exact True.intro | with_reducible refine And.intro (by omega) ?_ | with_reducible refine And.intro ?_ ?_ | (refine AQ.nx rfl ?_; simp only [go_sem, Nat.reduceAdd, Nat.reduceLeDiff, Nat.reduceSub, Int.reduceToNat, reduceCtorEq]) | (refine AQ.fn (by kernel_rfl) rfl rfl rfl (hsv) rfl ?_; simp only [go_sem, Nat.reduceAdd, Nat.reduceLeDiff, Nat.reduceSub, Int.reduceToNat, reduceCtorEq]) | (refine AQ.fn (by kernel_rfl) rfl rfl rfl (ht2) rfl ?_; simp only [go_sem, Nat.reduceAdd, Nat.reduceLeDiff, Nat.reduceSub, Int.reduceToNat, reduceCtorEq]) | refine AQ.done ?_ | (refine AQ.go (by kernel_rfl) ?_; simp only [go_sem, Nat.reduceAdd, Nat.reduceLeDiff, Nat.reduceSub, Int.reduceToNat, reduceCtorEq]; repeat (with_reducible refine And.intro (by omega) ?_); refine AQ.nx rfl ?_; simp only [go_sem, Nat.reduceAdd, Nat.reduceLeDiff, Nat.reduceSub, Int.reduceToNat, reduceCtorEq]))
    all_goals
      simp only [go_sem, Nat.reduceAdd, Nat.reduceLeDiff, Nat.reduceSub, Int.reduceToNat, reduceCtorEq]
      refine AE.forgets [0, 1] rfl ?_
      simp only [go_sem, Nat.reduceAdd, Nat.reduceLeDiff, Nat.reduceSub, Int.reduceToNat, reduceCtorEq]
      exact AE.meet () trivial (by repeat (first | exact Sub.nil _ | refine Sub.cons rfl ?_)) rfl
  repeat (first | refine xA ?_ | refine xB ?_ | refine xC ?_ | refine xE ?_ | refine xD ?_ | refine xK ?_ | refine xS ?_ | refine xM ?_ | refine xT ?_ | refine xF ?_ | ((first | refine xR ?_ | refine xW ?_ | refine vq_id ?_); simp only [go_sem, Nat.reduceAdd, Nat.reduceLeDiff, Nat.reduceSub, Int.reduceToNat, reduceCtorEq]) | (refine ⟨by first | omega | (intros; simp_all; done) | (intros; simp_all; omega), ?_⟩; try simp only [go_sem, Nat.reduceAdd, Nat.reduceLeDiff, Nat.reduceSub, Int.reduceToNat, reduceCtorEq]))
  refine AP.drawE 17 (Tree.node [] [0, 2] [1] [Tree.node [2] [] [3] [Tree.node [] [4, 5, 6, 8] [7] [Tree.node [8] [] [9] [Tree.node [] [10, 11, 12, 13, 14, 15, 16] [] []]]]]) (by kernel_rfl) rfl (by kernel_rfl) (by kernel_rfl) ?_
  refine vd_node ?_
  simp only [go_sem, Nat.reduceAdd, Nat.reduceLeDiff, Nat.reduceSub, Int.reduceToNat, reduceCtorEq]
  repeat' (first | with_reducible exact True.intro | with_reducible refine And.intro (by omega) ?_ | with_reducible refine And.intro ?_ ?_ | (refine AQ.nx rfl ?_; simp only [go_sem, Nat.reduceAdd, Nat.reduceLeDiff, Nat.reduceSub, Int.reduceToNat, reduceCtorEq, bne_self_eq_false, Bool.not_true, Bool.not_false, Bool.or_self]) | (refine AQ.fn (by kernel_rfl) rfl rfl rfl (hs2) rfl ?_; simp only [go_sem, Nat.reduceAdd, Nat.reduceLeDiff, Nat.reduceSub, Int.reduceToNat, reduceCtorEq]) | (refine AQ.fn (by kernel_rfl) rfl rfl rfl (hq2) rfl ?_; simp only [go_sem, Nat.reduceAdd, Nat.reduceLeDiff, Nat.reduceSub, Int.reduceToNat, reduceCtorEq, bne_self_eq_false, Bool.not_true, Bool.not_false, Bool.or_self]) | (refine AQ.fn_g (by kernel_rfl) rfl rfl (fun h => by first | (simp [gs, AV.g]; done) | (simp [gs, AV.g, constAV]; done) | (simp [gs, AV.g, constAV, bw] at h ⊢; done) | (simp [gs, AV.g, constAV, bw] at h ⊢; exact h) | (simp [gs, AV.g, constAV, bw] at h ⊢; simp [h]; done) | (simp [bw] at h; done) | (simp [gs, AV.g, bw] at h ⊢; simp [h]; done) | (simp [gs, AV.g, bw] at h ⊢; exact h.1) | (simp [gs, AV.g]; rfl) | (simp [gs, AV.g, bw] at h ⊢; rfl) | (simp [gs, AV.g, bw] at h ⊢; simp [h]; rfl) | (simp [gs, AV.g, bw] at h ⊢; simp_all)) rfl (fun _ => hm2) rfl ?_; simp only [go_sem, Nat.reduceAdd, Nat.reduceLeDiff, Nat.reduceSub, Int.reduceToNat, reduceCtorEq]) | (refine AQ.fn_g (by kernel_rfl) rfl rfl (fun h => by first | (simp [gs, AV.g]; done) | (simp [gs, AV.g, constAV]; done) | (simp [gs, AV.g, constAV, bw] at h ⊢; done) | (simp [gs, AV.g, constAV, bw] at h ⊢; exact h) | (simp [gs, AV.g, constAV, bw] at h ⊢; simp [h]; done) | (simp [bw] at h; done) | (simp [gs, AV.g, bw] at h ⊢; simp [h]; done) | (simp [gs, AV.g, bw] at h ⊢; exact h.1) | (simp [gs, AV.g]; rfl) | (simp [gs, AV.g, bw] at h ⊢; rfl) | (simp [gs, AV.g, bw] at h ⊢; simp [h]; rfl) | (simp [gs, AV.g, bw] at h ⊢; simp_all)) rfl (fun _ => hme2) rfl ?_; simp only [go_sem, Nat.reduceAdd, Nat.reduceLeDiff, Nat.reduceSub, Int.reduceToNat, reduceCtorEq, bne_self_eq_false, Bool.not_true, Bool.not_false, Bool.or_self]) | refine AQ.done ?_ | (refine AQ.go (by kernel_rfl) ?_; simp only [go_sem, Nat.reduceAdd, Nat.reduceLeDiff, Nat.reduceSub, Int.reduceToNat, reduceCtorEq, bne_self_eq_false, Bool.not_true, Bool.not_false, Bool.or_self]; repeat (with_reducible refine And.intro (by omega) ?_); refine AQ.nx rfl ?_; simp only [go_sem, Nat.reduceAdd, Nat.reduceLeDiff, Nat.reduceSub, Int.reduceToNat, reduceCtorEq, bne_self_eq_false, Bool.not_true, Bool.not_false, Bool.or_self]))
  repeat (first | refine xA ?_ | refine xB ?_ | refine xC ?_ | refine xE ?_ | refine xD ?_ | refine xK ?_ | refine xS ?_ | refine xM ?_ | refine xT ?_ | refine xF ?_ | ((first | refine xR ?_ | refine xW ?_ | refine vq_id ?_); simp only [go_sem, Nat.reduceAdd, Nat.reduceLeDiff, Nat.reduceSub, Int.reduceToNat, reduceCtorEq]) | (refine ⟨by first | omega | (intros; simp_all; done) | (intros; simp_all; omega), ?_⟩; try simp only [go_sem, Nat.reduceAdd, Nat.reduceLeDiff, Nat.reduceSub, Int.reduceToNat, reduceCtorEq]))
  refine AQ.fn (by kernel_rfl) rfl rfl rfl (ha1) rfl ?_
  repeat (first | refine xA ?_ | refine xB ?_ | refine xC ?_ | refine xE ?_ | refine xD ?_ | refine xK ?_ | refine xS ?_ | refine xM ?_ | refine xT ?_ | refine xF ?_ | ((first | refine xR ?_ | refine xW ?_ | refine vq_id ?_); simp only [go_sem, Nat.reduceAdd, Nat.reduceLeDiff, Nat.reduceSub, Int.reduceToNat, reduceCtorEq]) | (refine ⟨by first | omega | (intros; simp_all; done) | (intros; simp_all; omega), ?_⟩; try simp only [go_sem, Nat.reduceAdd, Nat.reduceLeDiff, Nat.reduceSub, Int.reduceToNat, reduceCtorEq]))
  refine AP.cut (α := Unit) (fun _ => [(3, .im (.pt [Ii p, .v (.string (BA nm)), Ii w, Ii n, .sl 8 (rqR l)])), (8, Iv e3), (10, Iv e3), (11, .ob 2 0), (12, .im (.sl 3 (msgR o3))), (13, .ob 3 0), (14, .im (.sl 3 (msgR o3)))])
    (fun _ => [(3, .var 34 [Iv p3, Sv nm3, Iv w3, Iv n3, .im (.sl 8 (rqR l3))]), (2, .var 24 [Iv p3, Sv nm3, Iv w3, Iv n3, .im (.sl 8 (rqR l3))])]) (fun _ => True) ?_ fun _ _ => ?_
  · skip
    refine AP.drawE 12 (Tree.node [] [0, 2, 3] [1] [Tree.node [2, 3] [] [4] [Tree.node [] [5, 6, 7, 8] [9] [Tree.node [7, 8] [10, 11] [] []]]]) (by kernel_rfl) rfl (by kernel_rfl) (by kernel_rfl) ?_
    refine vd_node ?_
    simp only [go_sem, Nat.reduceAdd, Nat.reduceLeDiff, Nat.reduceSub, Int.reduceToNat, reduceCtorEq]
    repeat' (first | with_reducible exact True.intro | with_reducible refine And.intro (by omega) ?_ | with_reducible refine And.intro ?_ ?_ | (refine AQ.nx rfl ?_; simp only [go_sem, Nat.reduceAdd, Nat.reduceLeDiff, Nat.reduceSub, Int.reduceToNat, reduceCtorEq]) | (refine AQ.fn (by kernel_rfl) rfl rfl rfl (hsv) rfl ?_; simp only [go_sem, Nat.reduceAdd, Nat.reduceLeDiff, Nat.reduceSub, Int.reduceToNat, reduceCtorEq]) | (refine AQ.fn (by kernel_rfl) rfl rfl rfl (ha2) rfl ?_; simp only [go_sem, Nat.reduceAdd, Nat.reduceLeDiff, Nat.reduceSub, Int.reduceToNat, reduceCtorEq]) | refine AQ.done ?_ | (refine AQ.go (by kernel_rfl) ?_; simp only [go_sem, Nat.reduceAdd, Nat.reduceLeDiff, Nat.reduceSub, Int.reduceToNat, reduceCtorEq]; repeat (with_reducible refine And.intro (by omega) ?_); refine AQ.nx rfl ?_; simp only [go_sem, Nat.reduceAdd, Nat.reduceLeDiff, Nat.reduceSub, Int.reduceToNat, reduceCtorEq]))
    all_goals
      simp only [go_sem, Nat.reduceAdd, Nat.reduceLeDiff, Nat.reduceSub, Int.reduceToNat, reduceCtorEq]
      exact AE.meet () trivial (by repeat (first | exact Sub.nil _ | refine Sub.cons rfl ?_)) rfl
  repeat (first | refine xA ?_ | refine xB ?_ | refine xC ?_ | refine xE ?_ | refine xD ?_ | refine xK ?_ | refine xS ?_ | refine xM ?_ | refine xT ?_ | refine xF ?_ | ((first | refine xR ?_ | refine xW ?_ | refine vq_id ?_); simp only [go_sem, Nat.reduceAdd, Nat.reduceLeDiff, Nat.reduceSub, Int.reduceToNat, reduceCtorEq]) | (refine ⟨by first | omega | (intros; simp_all; done) | (intros; simp_all; omega), ?_⟩; try simp only [go_sem, Nat.reduceAdd, Nat.reduceLeDiff, Nat.reduceSub, Int.reduceToNat, reduceCtorEq]))
  refine AP.drawE 17 (Tree.node [] [0, 2] [1] [Tree.node [2] [] [3] [Tree.node [] [4, 5, 6, 8] [7] [Tree.node [8] [] [9] [Tree.node [] [10, 11, 12, 13, 14, 15, 16] [] []]]]]) (by kernel_rfl) rfl (by kernel_rfl) (by kernel_rfl) ?_
  refine vd_node ?_
  simp only [go_sem, Nat.reduceAdd, Nat.reduceLeDiff, Nat.reduceSub, Int.reduceToNat, reduceCtorEq]
  repeat' (first | with_reducible exact True.intro | with_reducible refine And.intro (by omega) ?_ | with_reducible refine And.intro ?_ ?_ | (refine AQ.nx rfl ?_; simp only [go_sem, Nat.reduceAdd, Nat.reduceLeDiff, Nat.reduceSub, Int.reduceToNat, reduceCtorEq, bne_self_eq_false, Bool.not_true, Bool.not_false, Bool.or_self]) | (refine AQ.fn (by kernel_rfl) rfl rfl rfl (hs3) rfl ?_; simp only [go_sem, Nat.reduceAdd, Nat.reduceLeDiff, Nat.reduceSub, Int.reduceToNat, reduceCtorEq]) | (refine AQ.fn (by kernel_rfl) rfl rfl rfl (hq3) rfl ?_; simp only [go_sem, Nat.reduceAdd, Nat.reduceLeDiff, Nat.reduceSub, Int.reduceToNat, reduceCtorEq, bne_self_eq_false, Bool.not_true, Bool.not_false, Bool.or_self]) | (refine AQ.fn_g (by kernel_rfl) rfl rfl (fun h => by first | (simp [gs, AV.g]; done) | (simp [gs, AV.g, constAV]; done) | (simp [gs, AV.g, constAV, bw] at h ⊢; done) | (simp [gs, AV.g, constAV, bw] at h ⊢; exact h) | (simp [gs, AV.g, constAV, bw] at h ⊢; simp [h]; done) | (simp [bw] at h; done) | (simp [gs, AV.g, bw] at h ⊢; simp [h]; done) | (simp [gs, AV.g, bw] at h ⊢; exact h.1) | (simp [gs, AV.g]; rfl) | (simp [gs, AV.g, bw] at h ⊢; rfl) | (simp [gs, AV.g, bw] at h ⊢; simp [h]; rfl) | (simp [gs, AV.g, bw] at h ⊢; simp_all)) rfl (fun _ => hm3) rfl ?_; simp only [go_sem, Nat.reduceAdd, Nat.reduceLeDiff, Nat.reduceSub, Int.reduceToNat, reduceCtorEq]) | (refine AQ.fn_g (by kernel_rfl) rfl rfl (fun h => by first | (simp [gs, AV.g]; done) | (simp [gs, AV.g, constAV]; done) | (simp [gs, AV.g, constAV, bw] at h ⊢; done) | (simp [gs, AV.g, constAV, bw] at h ⊢; exact h) | (simp [gs, AV.g, constAV, bw] at h ⊢; simp [h]; done) | (simp [bw] at h; done) | (simp [gs, AV.g, bw] at h ⊢; simp [h]; done) | (simp [gs, AV.g, bw] at h ⊢; exact h.1) | (simp [gs, AV.g]; rfl) | (simp [gs, AV.g, bw] at h ⊢; rfl) | (simp [gs, AV.g, bw] at h ⊢; simp [h]; rfl) | (simp [gs, AV.g, bw] at h ⊢; simp_all)) rfl (fun _ => hme3) rfl ?_; simp only [go_sem, Nat.reduceAdd, Nat.reduceLeDiff, Nat.reduceSub, Int.reduceToNat, reduceCtorEq, bne_self_eq_false, Bool.not_true, Bool.not_false, Bool.or_self]) | refine AQ.done ?_ | (refine AQ.go (by kernel_rfl) ?_; simp only [go_sem, Nat.reduceAdd, Nat.reduceLeDiff, Nat.reduceSub, Int.reduceToNat, reduceCtorEq, bne_self_eq_false, Bool.not_true, Bool.not_false, Bool.or_self]; repeat (with_reducible refine And.intro (by omega) ?_); refine AQ.nx rfl ?_; simp only [go_sem, Nat.reduceAdd, Nat.reduceLeDiff, Nat.reduceSub, Int.reduceToNat, reduceCtorEq, bne_self_eq_false, Bool.not_true, Bool.not_false, Bool.or_self]))
  repeat (first | refine xA ?_ | refine xB ?_ | refine xC ?_ | refine xE ?_ | refine xD ?_ | refine xK ?_ | refine xS ?_ | refine xM ?_ | refine xT ?_ | refine xF ?_ | ((first | refine xR ?_ | refine xW ?_ | refine vq_id ?_); simp only [go_sem, Nat.reduceAdd, Nat.reduceLeDiff, Nat.reduceSub, Int.reduceToNat, reduceCtorEq]) | (refine ⟨by first | omega | (intros; simp_all; done) | (intros; simp_all; omega), ?_⟩; try simp only [go_sem, Nat.reduceAdd, Nat.reduceLeDiff, Nat.reduceSub, Int.reduceToNat, reduceCtorEq]))
  refine AQ.fn (by kernel_rfl) rfl rfl rfl (hp1) rfl ?_
  repeat (first | refine xA ?_ | refine xB ?_ | refine xC ?_ | refine xE ?_ | refine xD ?_ | refine xK ?_ | refine xS ?_ | refine xM ?_ | refine xT ?_ | refine xF ?_ | ((first | refine xR ?_ | refine xW ?_ | refine vq_id ?_); simp only [go_sem, Nat.reduceAdd, Nat.reduceLeDiff, Nat.reduceSub, Int.reduceToNat, reduceCtorEq]) | (refine ⟨by first | omega | (intros; simp_all; done) | (intros; simp_all; omega), ?_⟩; try simp only [go_sem, Nat.reduceAdd, Nat.reduceLeDiff, Nat.reduceSub, Int.reduceToNat, reduceCtorEq]))
  refine AQ.fn (by kernel_rfl) rfl rfl rfl (hsv) rfl ?_
  repeat (first | refine xA ?_ | refine xB ?_ | refine xC ?_ | refine xE ?_ | refine xD ?_ | refine xK ?_ | refine xS ?_ | refine xM ?_ | refine xT ?_ | refine xF ?_ | ((first | refine xR ?_ | refine xW ?_ | refine vq_id ?_); simp only [go_sem, Nat.reduceAdd, Nat.reduceLeDiff, Nat.reduceSub, Int.reduceToNat, reduceCtorEq]) | (refine ⟨by first | omega | (intros; simp_all; done) | (intros; simp_all; omega), ?_⟩; try simp only [go_sem, Nat.reduceAdd, Nat.reduceLeDiff, Nat.reduceSub, Int.reduceToNat, reduceCtorEq]))
  refine AQ.fn (by kernel_rfl) rfl rfl rfl (hp2) rfl ?_
  repeat (first | refine xA ?_ | refine xB ?_ | refine xC ?_ | refine xE ?_ | refine xD ?_ | refine xK ?_ | refine xS ?_ | refine xM ?_ | refine xT ?_ | refine xF ?_ | ((first | refine xR ?_ | refine xW ?_ | refine vq_id ?_); simp only [go_sem, Nat.reduceAdd, Nat.reduceLeDiff, Nat.reduceSub, Int.reduceToNat, reduceCtorEq]) | (refine ⟨by first | omega | (intros; simp_all; done) | (intros; simp_all; omega), ?_⟩; try simp only [go_sem, Nat.reduceAdd, Nat.reduceLeDiff, Nat.reduceSub, Int.reduceToNat, reduceCtorEq]))
  refine AQ.fn (by kernel_rfl) rfl rfl rfl (hr4) rfl ?_
  repeat (first | refine xA ?_ | refine xB ?_ | refine xC ?_ | refine xE ?_ | refine xD ?_ | refine xK ?_ | refine xS ?_ | refine xM ?_ | refine xT ?_ | refine xF ?_ | ((first | refine xR ?_ | refine xW ?_ | refine vq_id ?_); simp only [go_sem, Nat.reduceAdd, Nat.reduceLeDiff, Nat.reduceSub, Int.reduceToNat, reduceCtorEq]) | (refine ⟨by first | omega | (intros; simp_all; done) | (intros; simp_all; omega), ?_⟩; try simp only [go_sem, Nat.reduceAdd, Nat.reduceLeDiff, Nat.reduceSub, Int.reduceToNat, reduceCtorEq]))
  refine AQ.fn (by kernel_rfl) rfl rfl rfl (hre4) rfl ?_
  repeat (first | refine xA ?_ | refine xB ?_ | refine xC ?_ | refine xE ?_ | refine xD ?_ | refine xK ?_ | refine xS ?_ | refine xM ?_ | refine xT ?_ | refine xF ?_ | ((first | refine xR ?_ | refine xW ?_ | refine vq_id ?_); simp only [go_sem, Nat.reduceAdd, Nat.reduceLeDiff, Nat.reduceSub, Int.reduceToNat, reduceCtorEq, bne_self_eq_false, Bool.not_true, Bool.not_false, Bool.or_self, beq_self_eq_true, Bool.and_self]) | (refine ⟨by first | omega | (intros; simp_all; done) | (intros; simp_all; omega), ?_⟩; try simp only [go_sem, Nat.reduceAdd, Nat.reduceLeDiff, Nat.reduceSub, Int.reduceToNat, reduceCtorEq, bne_self_eq_false, Bool.not_true, Bool.not_false, Bool.or_self, beq_self_eq_true, Bool.and_self]))
  refine AQ.guard_yes (by simp only [go_sem]) ?_
  refine AQ.fn (by kernel_rfl) rfl rfl rfl (awake_spec) rfl ?_
  repeat (first | refine xA ?_ | refine xB ?_ | refine xC ?_ | refine xE ?_ | refine xD ?_ | refine xK ?_ | refine xS ?_ | refine xM ?_ | refine xT ?_ | refine xF ?_ | ((first | refine xR ?_ | refine xW ?_ | refine vq_id ?_); simp only [go_sem, Nat.reduceAdd, Nat.reduceLeDiff, Nat.reduceSub, Int.reduceToNat, reduceCtorEq, bne_self_eq_false, Bool.not_true, Bool.not_false, Bool.or_self, beq_self_eq_true, Bool.and_self]) | (refine ⟨by first | omega | (intros; simp_all; done) | (intros; simp_all; omega), ?_⟩; try simp only [go_sem, Nat.reduceAdd, Nat.reduceLeDiff, Nat.reduceSub, Int.reduceToNat, reduceCtorEq, bne_self_eq_false, Bool.not_true, Bool.not_false, Bool.or_self, beq_self_eq_true, Bool.and_self]))
  exact AE.retD [3, 2] rfl ⟨rfl, trivial⟩ rfl ⟨rfl, rfl⟩
end Go.Proofs.YtlpcdpjkdodmcaaGreatDoor
end

section
namespace Go.Proofs.YtlpcdpjkdodmcaaGreatDoor
open Go Go.AL Go.RowKit
set_option maxRecDepth 100000
theorem str_len {n : Nat} {xs : List IV} (h : Typed Tryz.prog n 9 xs) : ∃ l : List UInt8, xs = [Si l] ∧ l.length ≤ 9223372036854775807 := by
  obtain ⟨s, rfl, hs⟩ := typed_str Tryz.underlying9 h
  refine ⟨s.data.toList, congrArg (fun x => [IV.v (Value.string x)]) (BA_of s), ?_⟩
  have e : s.size = s.data.size := rfl
  have e2 : s.data.toList.length = s.data.size := Array.length_toList
  unfold maxLen at hs
  omega
theorem session_of {n : Nat} {xs : List IV} (h : Typed Tryz.prog n 24 xs) : ∃ p, ∃ nm : List UInt8, ∃ w k, ∃ l : List Rq, xs = [Ii p, Si nm, Ii w, Ii k, .sl 8 (rqR l)] ∧ l.length < 9223372036854775808 ∧ nm.length ≤ 9223372036854775807 := by
  have hc : Tryz.prog.cellsOf 24 = 5 := by kernel_rfl
  have hc3 : Tryz.prog.cellsOf 3 = 1 := by kernel_rfl
  have hc9 : Tryz.prog.cellsOf 9 = 1 := by kernel_rfl
  have hc22 : Tryz.prog.cellsOf 22 = 1 := by kernel_rfl
  obtain ⟨m', hlen, hf⟩ := typed_struct Tryz.underlying24 h
  rw [hc] at hlen
  match xs, hlen with
  | [a, b, c, d, e], _ =>
    have f0 := hf 0 _ rfl
    have f1 := hf 1 _ rfl
    have f2 := hf 2 _ rfl
    have f3 := hf 3 _ rfl
    have f4 := hf 4 _ rfl
    simp only [hc3, hc9, hc22, List.drop_zero, List.take_succ_cons, List.take_zero, List.drop_succ_cons] at f0 f1 f2 f3 f4
    obtain ⟨i0, e0, w0⟩ := typed_int Tryz.underlying3 f0
    obtain ⟨nm, e1, hnm⟩ := str_len f1
    obtain ⟨i2, e2, w2⟩ := typed_int Tryz.underlying3 f2
    obtain ⟨i3, e3, w3⟩ := typed_int Tryz.underlying3 f3
    obtain ⟨l, e4, hl⟩ := rqs_of f4
    cases e0; cases e1; cases e2; cases e3; cases e4
    exact ⟨i0, nm, i2, i3, l, rfl, hl, hnm⟩
end Go.Proofs.YtlpcdpjkdodmcaaGreatDoor
end
