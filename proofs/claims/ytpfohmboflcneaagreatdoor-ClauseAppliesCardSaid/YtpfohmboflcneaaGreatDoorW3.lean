import Derived.Test.YtpfohmboflcneaaGreatDoorW2
import Derived.Test.YtpfohmboflcneaaGreatDoorCards
import Derived.Test.YtpfohmboflcneaaGreatDoorTie
import Derived.Stop.LaidErr
import Derived.Lib.LaidTab
set_option linter.unusedSimpArgs false
set_option linter.unusedVariables false
set_option linter.unnecessarySimpa false
section
namespace Go.Proofs.YtpfohmboflcneaaGreatDoor
open Go Go.AL Go.RowKit
set_option maxRecDepth 10000
set_option maxHeartbeats 4000000
theorem rterm_walk (s : List UInt8) (hs : s.length ≤ 1000000) (f i : Nat) (hi : i ≤ s.length)
    (hl : ∀ i', i < i' → i' ≤ s.length → ACallX Tryz.prog 158 [.ob 0 0] (rdH s i') (RA s f i') (XA s f i')) :
    ACallX Tryz.prog 159 [.ob 0 0] (rdH s i) (RT s (f + 1) i) (XT s (f + 1) i) := by
  refine ACallX.told (R := fun r H' => ∃ t j, pT s (f + 1) i = some (t, j) ∧ (r = tmV t ∨ t.xs = [] ∧ r = .agg [Sv t.nm, Iv t.ix, nilV]) ∧ H' = rdH s j) ?_ (fun r H' ⟨t, j, h1, h2, h3⟩ => ⟨_, ⟨t, j, h1, rfl, h3⟩, by
    rcases h2 with rfl | ⟨hx, rfl⟩
    · exact AVle.refl _
    · rw [tmV, hx, tmR]; exact (by repeat' (first | with_reducible exact AVle.refl _ | with_reducible exact IVle.refl _ | exact IVle.nil _ | with_reducible exact cellsLe.refl _ | with_reducible exact rowLe.refl _ | with_reducible exact rowsLe.refl _ | refine cellsLe.cons2 ?_ ?_ | refine AVle.agg ?_ | refine AVle.im ?_ | refine IVle.sl ?_ | refine rowsLe.cons ?_ ?_ | refine rowLe.cons ?_ ?_))⟩)
  have hT := pT_succ s f i
  have he := eat_spec s [63] i hi hs (by simp)
  refine ACallX.walk [0, 2, 3, 4, 5, 6, 7, 10, 54, 89] [2] Tryz.func159 rfl Tryz.ntmps159 (by kernel_rfl) (by rfl) rfl fun W own I0 φ0 lay => ?_
  refine gO ?_
  refine AQ.callH [(0, 0)] (by kernel_rfl) rfl rfl rfl rfl rfl rfl (by exact ⟨rfl, trivial⟩) rfl (he) ?_; rintro r H1 ⟨rfl, rfl⟩; refine ⟨rfl, ?_⟩; refine sH ?_
  refine gO ?_
  refine AP.cond rfl rfl (fun h => ?_) (fun h => ?_)
  · have h : atB s i [63] = false := by simpa using h
    rw [h, if_neg (by decide)] at hT
    rw [h, if_neg (by decide)]
    have hn := name_spec s i hi hs
    refine gO ?_
    refine AQ.callHX [(0, 0)] (by kernel_rfl) rfl rfl rfl rfl rfl rfl (by exact ⟨rfl, trivial⟩) rfl (hn) ?_ ?_
    · rintro r H' ⟨hp, rfl, rfl⟩
      rw [if_pos hp] at hT
      refine ⟨rfl, ?_⟩; refine sH ?_
      exact AEX.out [1] rfl rfl ⟨hT, rfl, rfl⟩
    · rintro r H' ⟨hp, rfl, rfl⟩
      rw [if_neg hp] at hT
      have hnl := nmN_le true (s.drop i)
      rw [List.length_drop] at hnl
      have hli := hl (i + nmN true (s.drop i)) (by omega) (by omega)
      refine ⟨rfl, ?_⟩; refine sH ?_
      refine AQ.go (by kernel_rfl) ?_
      refine sI ?_
      refine gO ?_
      refine AQ.callHX [(0, 0)] (by kernel_rfl) rfl rfl rfl rfl rfl rfl (by exact ⟨rfl, trivial⟩) rfl (hli) ?_ ?_
      · rintro r H' ⟨hp, rfl, rfl⟩
        rw [hp] at hT
        refine ⟨rfl, ?_⟩; refine sH ?_
        exact AEX.out [1] rfl rfl ⟨hT, rfl, rfl⟩
      · rintro r H' ⟨l, k, hp, rfl, rfl⟩
        rw [hp] at hT
        refine ⟨rfl, ?_⟩; refine sH ?_
        refine AQ.go (by kernel_rfl) ?_
        refine sI ?_
        refine gO ?_
        exact AE.retD [1] rfl ⟨⟨rfl, Nat.le_of_ble_eq_true (by kernel_rfl)⟩, trivial⟩ rfl ⟨_, k, hT, .inl rfl, rfl⟩
  · have h : atB s i [63] = true := by simpa using h
    have hle := atB_le h hi
    simp only [List.length_cons, List.length_nil] at hle
    rw [if_pos h] at hT
    rw [if_pos h]
    refine gO ?_
    refine AP.loop rfl (α := Nat) (fun k => [(0, .ob 0 0), (2, .ob 1 0), (4, Iv (i + 1 : Nat))]) (fun k => (1, .var 71 [Sv [], Iv 0, nilV]) :: rdH s (i + 1 + k)) (fun k => i + 1 + k ≤ s.length ∧ dgN (s.drop (i + 1)) = k + dgN (s.drop (i + 1 + k))) (fun k => s.length - (i + 1 + k)) 0 ⟨by omega, by simp⟩ (sU) rfl fun k ⟨hk, hm⟩ => ?_
    by_cases hlt : i + 1 + k < s.length
    · have hw := wr (x := ((i + 1 + k : Nat) : Int) + 1) (by omega)
      have hd : decide (((i + 1 + k : Nat) : Int) < (s.length : Int)) = true := decide_eq_true (by omega)
      rw [dgN_drop hlt] at hm
      refine gE @hd ?_
      refine AP.cond rfl rfl (fun h5 => ?_) (fun h5 => ?_)
      · have h5 : isDig (s.getD (i + 1 + k) 0) = true := by
          rw [isDig]; simp only [Bool.and_eq_true, decide_eq_true_eq] at h5 ⊢; omega
        rw [if_pos h5] at hm
        refine gE @hw ?_
        refine AE.round (k + 1) ⟨by omega, by rw [hm]; simp only [Nat.add_assoc]⟩ (by omega) (sU) rfl
      · have h5 : isDig (s.getD (i + 1 + k) 0) = false := by
          rw [isDig, ← Bool.not_eq_true]; intro hc; rw [← Bool.not_eq_true] at h5; apply h5
          simp only [Bool.and_eq_true, decide_eq_true_eq] at hc ⊢; omega
        rw [if_neg (by rw [h5]; decide)] at hm
        refine gO ?_
        have hm0 : dgN (s.drop (i + 1)) = k := hm
        have ek : i + 1 + k - (i + 1) = k := Nat.add_sub_cancel_left ..
        have hdg := dgN_dig (s.drop (i + 1))
        rw [hm0] at hdg
        have hV : pV s (i + 1) = _ := pV.eq_def s (i + 1)
        rw [hm0] at hV
        rw [ek]
        have hdl : ((s.drop (i + 1)).take k).length ≤ 1000000 := by rw [List.length_take, List.length_drop]; omega
        obtain ⟨d, hde⟩ : ∃ d, (s.drop (i + 1)).take k = d := ⟨_, rfl⟩
        rw [hde] at hdg hV hdl ⊢
        obtain ⟨hn1, hn2⟩ := nrB_ok hdg
        have hat := atoi_spec d (by omega)
        have hbd := atoiV_bounds d
        rw [nrB] at hn1
        obtain ⟨⟨n, ok⟩, hq⟩ : ∃ q, atoiV d = q := ⟨_, rfl⟩
        rw [hq] at hat hbd hn1 hn2
        simp only at hat hbd hn1 hn2
        have hit := itoa_spec n hbd
        cases ok with
        | false =>
          have hno : numOk d = false := by rw [← hn1]; rfl
          rw [hno, if_neg (by decide)] at hV
          refine AQ.fn (by kernel_rfl) rfl rfl rfl (hat) rfl ?_
          refine sI ?_
          repeat (first | refine xA ?_ | refine xB ?_ | refine xC ?_ | refine xE ?_ | refine xD ?_ | refine xK ?_ | refine xS ?_ | refine xM ?_ | refine xT ?_ | refine xF ?_ | ((first | refine xR ?_ | refine xW ?_ | refine vq_id ?_); simp only [go_sem, Nat.reduceAdd, Nat.reduceLeDiff, Nat.reduceSub, Int.reduceToNat, reduceCtorEq, erV]) | (refine ⟨by first | omega | (intros; simp_all; done) | (intros; simp_all; omega), ?_⟩; try simp only [go_sem, Nat.reduceAdd, Nat.reduceLeDiff, Nat.reduceSub, Int.reduceToNat, reduceCtorEq, erV]))
          refine xI ?_; refine sI ?_
          refine gO ?_
          refine AQ.cellsW 0 _ rfl (le_tops _ _) ?_
          refine sI ?_
          refine AQ.panic rfl ?_
          exact AEX.out [1] rfl rfl ⟨by rw [hT, hV], rfl, rfl⟩
        | true =>
          refine AQ.fn (by kernel_rfl) rfl rfl rfl (hat) rfl ?_
          refine sI ?_
          repeat (first | refine xA ?_ | refine xB ?_ | refine xC ?_ | refine xE ?_ | refine xD ?_ | refine xK ?_ | refine xS ?_ | refine xM ?_ | refine xT ?_ | refine xF ?_ | ((first | refine xR ?_ | refine xW ?_ | refine vq_id ?_); simp only [go_sem, Nat.reduceAdd, Nat.reduceLeDiff, Nat.reduceSub, Int.reduceToNat, reduceCtorEq, erV]) | (refine ⟨by first | omega | (intros; simp_all; done) | (intros; simp_all; omega), ?_⟩; try simp only [go_sem, Nat.reduceAdd, Nat.reduceLeDiff, Nat.reduceSub, Int.reduceToNat, reduceCtorEq, erV]))
          refine AQ.fn_g (by kernel_rfl) rfl rfl (fun h => by first | (simp [gs, AV.g]; done) | (simp [gs, AV.g, constAV]; done) | (simp [gs, AV.g, constAV, bw] at h ⊢; done) | (simp [gs, AV.g, constAV, bw] at h ⊢; exact h) | (simp [gs, AV.g, constAV, bw] at h ⊢; simp [h]; done) | (simp [bw] at h; done) | (simp [gs, AV.g, bw] at h ⊢; simp [h]; done) | (simp [gs, AV.g, bw] at h ⊢; exact h.1) | (simp [gs, AV.g]; rfl) | (simp [gs, AV.g, bw] at h ⊢; rfl) | (simp [gs, AV.g, bw] at h ⊢; simp [h]; rfl) | (simp [gs, AV.g, bw] at h ⊢; simp_all)) rfl (fun _ => hit) rfl ?_
          refine sI ?_
          refine gO ?_
          refine AP.cond rfl rfl (fun h6 => ?_) (fun h6 => ?_)
          · have hno : numOk d = false := by
              rw [← hn1]
              by_cases h7 : 9 < d.length
              · rw [decide_eq_true h7]; rfl
              · rw [decide_eq_false h7]
                have h8 : ¬ Lib.itoa n = d := fun e => by rw [e] at h6; simp at h6; omega
                rw [show (Lib.itoa n == d) = false by simpa using h8]; rfl
            rw [hno, if_neg (by decide)] at hV
            refine gO ?_
            refine xI ?_; refine sI ?_
            refine gO ?_
            refine AQ.cellsW 0 _ rfl (le_tops _ _) ?_
            refine sI ?_
            refine AQ.panic rfl ?_
            exact AEX.out [1] rfl rfl ⟨by rw [hT, hV], rfl, rfl⟩
          · have hyes : numOk d = true := by
              rw [← hn1]
              have h7 : ¬ 9 < d.length ∧ Lib.itoa n = d := by simp at h6; exact ⟨by omega, h6.2⟩
              rw [decide_eq_false h7.1, h7.2]; simp
            have hnn := hn2 hyes
            rw [hyes, if_pos rfl] at hV
            subst hnn
            refine gO ?_
            exact AE.retD [1] rfl ⟨⟨rfl, Nat.le_of_ble_eq_true (by kernel_rfl)⟩, trivial⟩ rfl ⟨_, _, by rw [hT, hV], .inr ⟨rfl, rfl⟩, rfl⟩
    · have hd : decide (((i + 1 + k : Nat) : Int) < (s.length : Int)) = false := decide_eq_false (by omega)
      have hm : dgN (s.drop (i + 1)) = k := by rw [hm, List.drop_eq_nil_of_le (by omega), dgN]; rfl
      refine gE @hd ?_
      have hm0 : dgN (s.drop (i + 1)) = k := hm
      have ek : i + 1 + k - (i + 1) = k := Nat.add_sub_cancel_left ..
      have hdg := dgN_dig (s.drop (i + 1))
      rw [hm0] at hdg
      have hV : pV s (i + 1) = _ := pV.eq_def s (i + 1)
      rw [hm0] at hV
      rw [ek]
      have hdl : ((s.drop (i + 1)).take k).length ≤ 1000000 := by rw [List.length_take, List.length_drop]; omega
      obtain ⟨d, hde⟩ : ∃ d, (s.drop (i + 1)).take k = d := ⟨_, rfl⟩
      rw [hde] at hdg hV hdl ⊢
      obtain ⟨hn1, hn2⟩ := nrB_ok hdg
      have hat := atoi_spec d (by omega)
      have hbd := atoiV_bounds d
      rw [nrB] at hn1
      obtain ⟨⟨n, ok⟩, hq⟩ : ∃ q, atoiV d = q := ⟨_, rfl⟩
      rw [hq] at hat hbd hn1 hn2
      simp only at hat hbd hn1 hn2
      have hit := itoa_spec n hbd
      cases ok with
      | false =>
        have hno : numOk d = false := by rw [← hn1]; rfl
        rw [hno, if_neg (by decide)] at hV
        refine AQ.fn (by kernel_rfl) rfl rfl rfl (hat) rfl ?_
        refine sI ?_
        repeat (first | refine xA ?_ | refine xB ?_ | refine xC ?_ | refine xE ?_ | refine xD ?_ | refine xK ?_ | refine xS ?_ | refine xM ?_ | refine xT ?_ | refine xF ?_ | ((first | refine xR ?_ | refine xW ?_ | refine vq_id ?_); simp only [go_sem, Nat.reduceAdd, Nat.reduceLeDiff, Nat.reduceSub, Int.reduceToNat, reduceCtorEq, erV]) | (refine ⟨by first | omega | (intros; simp_all; done) | (intros; simp_all; omega), ?_⟩; try simp only [go_sem, Nat.reduceAdd, Nat.reduceLeDiff, Nat.reduceSub, Int.reduceToNat, reduceCtorEq, erV]))
        refine xI ?_; refine sI ?_
        refine gO ?_
        refine AQ.cellsW 0 _ rfl (le_tops _ _) ?_
        refine sI ?_
        refine AQ.panic rfl ?_
        exact AEX.out [1] rfl rfl ⟨by rw [hT, hV], rfl, rfl⟩
      | true =>
        refine AQ.fn (by kernel_rfl) rfl rfl rfl (hat) rfl ?_
        refine sI ?_
        repeat (first | refine xA ?_ | refine xB ?_ | refine xC ?_ | refine xE ?_ | refine xD ?_ | refine xK ?_ | refine xS ?_ | refine xM ?_ | refine xT ?_ | refine xF ?_ | ((first | refine xR ?_ | refine xW ?_ | refine vq_id ?_); simp only [go_sem, Nat.reduceAdd, Nat.reduceLeDiff, Nat.reduceSub, Int.reduceToNat, reduceCtorEq, erV]) | (refine ⟨by first | omega | (intros; simp_all; done) | (intros; simp_all; omega), ?_⟩; try simp only [go_sem, Nat.reduceAdd, Nat.reduceLeDiff, Nat.reduceSub, Int.reduceToNat, reduceCtorEq, erV]))
        refine AQ.fn_g (by kernel_rfl) rfl rfl (fun h => by first | (simp [gs, AV.g]; done) | (simp [gs, AV.g, constAV]; done) | (simp [gs, AV.g, constAV, bw] at h ⊢; done) | (simp [gs, AV.g, constAV, bw] at h ⊢; exact h) | (simp [gs, AV.g, constAV, bw] at h ⊢; simp [h]; done) | (simp [bw] at h; done) | (simp [gs, AV.g, bw] at h ⊢; simp [h]; done) | (simp [gs, AV.g, bw] at h ⊢; exact h.1) | (simp [gs, AV.g]; rfl) | (simp [gs, AV.g, bw] at h ⊢; rfl) | (simp [gs, AV.g, bw] at h ⊢; simp [h]; rfl) | (simp [gs, AV.g, bw] at h ⊢; simp_all)) rfl (fun _ => hit) rfl ?_
        refine sI ?_
        refine gO ?_
        refine AP.cond rfl rfl (fun h6 => ?_) (fun h6 => ?_)
        · have hno : numOk d = false := by
            rw [← hn1]
            by_cases h7 : 9 < d.length
            · rw [decide_eq_true h7]; rfl
            · rw [decide_eq_false h7]
              have h8 : ¬ Lib.itoa n = d := fun e => by rw [e] at h6; simp at h6; omega
              rw [show (Lib.itoa n == d) = false by simpa using h8]; rfl
          rw [hno, if_neg (by decide)] at hV
          refine gO ?_
          refine xI ?_; refine sI ?_
          refine gO ?_
          refine AQ.cellsW 0 _ rfl (le_tops _ _) ?_
          refine sI ?_
          refine AQ.panic rfl ?_
          exact AEX.out [1] rfl rfl ⟨by rw [hT, hV], rfl, rfl⟩
        · have hyes : numOk d = true := by
            rw [← hn1]
            have h7 : ¬ 9 < d.length ∧ Lib.itoa n = d := by simp at h6; exact ⟨by omega, h6.2⟩
            rw [decide_eq_false h7.1, h7.2]; simp
          have hnn := hn2 hyes
          rw [hyes, if_pos rfl] at hV
          subst hnn
          refine gO ?_
          exact AE.retD [1] rfl ⟨⟨rfl, Nat.le_of_ble_eq_true (by kernel_rfl)⟩, trivial⟩ rfl ⟨_, _, by rw [hT, hV], .inr ⟨rfl, rfl⟩, rfl⟩
end Go.Proofs.YtpfohmboflcneaaGreatDoor
end

section
namespace Go.Proofs.YtpfohmboflcneaaGreatDoor
open Go Go.AL Go.RowKit
set_option maxRecDepth 10000
set_option maxHeartbeats 4000000
theorem rterm_spec (s : List UInt8) (hs : s.length ≤ 1000000) : ∀ (f i : Nat), i ≤ s.length → s.length < f + i → ACallX Tryz.prog 159 [.ob 0 0] (rdH s i) (RT s f i) (XT s f i)
  | 0, i, hi, hf => by omega
  | f + 1, i, hi, hf => rterm_walk s hs f i hi fun i' h1 h2 => rlist_walk s hs f i' h2 (by omega) fun f' i'' h3 h4 h5 => rterm_spec s hs f' i'' h4 h5
termination_by f => f
decreasing_by omega
theorem rlist_spec (s : List UInt8) (hs : s.length ≤ 1000000) (f i : Nat) (hi : i ≤ s.length) (hf : s.length < f + i) : ACallX Tryz.prog 158 [.ob 0 0] (rdH s i) (RA s f i) (XA s f i) :=
  rlist_walk s hs f i hi hf fun f' i' _ h4 h5 => rterm_spec s hs f' i' h4 h5
def RL (s : List UInt8) (i : Nat) (r : AV) (H' : Heap) : Prop := ∃ l j, pL s i = some (l, j) ∧ r = ltV l ∧ H' = rdH s j
def XL (s : List UInt8) (i : Nat) (r : AV) (H' : Heap) : Prop := pL s i = none ∧ r = misV ∧ H' = rdT
theorem rlit_spec (s : List UInt8) (hs : s.length ≤ 1000000) (i : Nat) (hi : i ≤ s.length) : ACallX Tryz.prog 82 [.ob 0 0] (rdH s i) (RL s i) (XL s i) := by
  have hL : pL s i = _ := pL.eq_def s i
  have he := eat_spec s [126] i hi hs (by simp)
  refine ACallX.walk [0, 2, 3, 4, 6, 8, 19, 20, 21, 22, 28, 39] [2, 4, 6] Tryz.func82 rfl Tryz.ntmps82 (by kernel_rfl) (by rfl) rfl fun W own I0 φ0 lay => ?_
  refine gO ?_
  refine AQ.callH [(0, 0)] (by kernel_rfl) rfl rfl rfl rfl rfl rfl (by exact ⟨rfl, trivial⟩) rfl (he) ?_; rintro r H1 ⟨rfl, rfl⟩; refine ⟨rfl, ?_⟩; refine sH ?_
  refine gO ?_
  refine AP.cond rfl rfl (fun h => ?_) (fun h => ?_)
  · have h : atB s i [126] = true := by simpa using h
    have hle := atB_le h hi
    simp only [List.length_cons, List.length_nil] at hle
    rw [if_pos h] at hL
    rw [if_pos h]
    have hn := name_spec s (i + 1) (by omega) hs
    refine gO ?_
    refine AQ.callHX [(0, 0)] (by kernel_rfl) rfl rfl rfl rfl rfl rfl (by exact ⟨rfl, trivial⟩) rfl (hn) ?_ ?_
    · rintro r H' ⟨hp, rfl, rfl⟩
      rw [if_pos hp] at hL
      refine ⟨rfl, ?_⟩; refine sH ?_
      exact AEX.out [1] rfl rfl ⟨hL, rfl, rfl⟩
    · rintro r H' ⟨hp, rfl, rfl⟩
      rw [if_neg hp] at hL
      have hnl := nmN_le true (s.drop (i + 1))
      rw [List.length_drop] at hnl
      have hli := rlist_spec s hs (s.length + 1) (i + 1 + nmN true (s.drop (i + 1))) (by omega) (by omega)
      refine ⟨rfl, ?_⟩; refine sH ?_
      refine AQ.go (by kernel_rfl) ?_
      refine sI ?_
      refine gO ?_
      refine AQ.callHX [(0, 0)] (by kernel_rfl) rfl rfl rfl rfl rfl rfl (by exact ⟨rfl, trivial⟩) rfl (hli) ?_ ?_
      · rintro r H' ⟨hp, rfl, rfl⟩
        rw [hp] at hL
        refine ⟨rfl, ?_⟩; refine sH ?_
        exact AEX.out [1] rfl rfl ⟨hL, rfl, rfl⟩
      · rintro r H' ⟨l, k, hp, rfl, rfl⟩
        rw [hp] at hL
        refine ⟨rfl, ?_⟩; refine sH ?_
        refine AQ.go (by kernel_rfl) ?_
        refine sI ?_
        refine gO ?_
        exact AE.retD [1] rfl ⟨⟨rfl, Nat.le_of_ble_eq_true (by kernel_rfl)⟩, trivial⟩ rfl ⟨_, k, hL, rfl, rfl⟩
  · have h : atB s i [126] = false := by simpa using h
    rw [h, if_neg (by decide)] at hL
    rw [h, if_neg (by decide)]
    have ht := rterm_spec s hs (s.length + 1) i hi (by omega)
    refine gO ?_
    refine AQ.callHX [(0, 0)] (by kernel_rfl) rfl rfl rfl rfl rfl rfl (by exact ⟨rfl, trivial⟩) rfl (ht) ?_ ?_
    · rintro r H' ⟨hp, rfl, rfl⟩
      rw [hp] at hL
      refine ⟨rfl, ?_⟩; refine sH ?_
      exact AEX.out [1] rfl rfl ⟨hL, rfl, rfl⟩
    · rintro r H' ⟨t, j, hp, rfl, rfl⟩
      have hpx := pT_tx hp
      rw [hp] at hL
      simp only at hL
      refine ⟨rfl, ?_⟩; refine sH ?_
      refine AQ.go (by kernel_rfl) ?_
      refine sI ?_
      refine gO ?_
      have hr0 : ([[IV.v (Value.string (BA [32, 61, 32])), IV.v (Value.bool false)], [IV.v (Value.string (BA [32, 33, 61, 32])), IV.v (Value.bool true)]] : List (List IV)).getD 0 [] = [Si [32, 61, 32], Bi false] := rfl
      have hr1 : ([[IV.v (Value.string (BA [32, 61, 32])), IV.v (Value.bool false)], [IV.v (Value.string (BA [32, 33, 61, 32])), IV.v (Value.bool true)]] : List (List IV)).getD 1 [] = [Si [32, 33, 61, 32], Bi true] := rfl
      refine AP.loop rfl (α := Nat) (fun k => [(0, .ob 0 0), (2, .ob 1 0), (4, .ob 2 0), (19, .im (.sl 2 [[.v (.string (BA [32, 61, 32])), .v (.bool false)], [.v (.string (BA [32, 33, 61, 32])), .v (.bool true)]])), (20, Iv 2), (21, Iv k)]) (fun _ => (2, .var 71 [Sv t.nm, Iv t.ix, .im (.sl 3 (tmR t.xs))]) :: (1, .var 119 [Bv false, Sv [], nilV]) :: rdH s j) (fun k => k ≤ 2 ∧ (0 < k → atB s j [32, 61, 32] = false) ∧ (1 < k → atB s j [32, 33, 61, 32] = false)) (fun k => 2 - k) 0 ⟨by omega, by omega, by omega⟩ (sU) rfl fun k ⟨hk, k1, k2⟩ => ?_
      obtain rfl | rfl | rfl : k = 0 ∨ k = 1 ∨ k = 2 := by omega
      · have he := eat_spec s [32, 61, 32] j hpx.2.2 hs (by simp)
        refine gE (an @hr0 (an @List.length_cons.{0} @List.length_nil.{0})) ?_
        refine AQ.fix 3 rfl rfl ?_
        refine sI ?_
        refine AQ.callH [(0, 0)] (by kernel_rfl) rfl rfl rfl rfl rfl rfl (by exact ⟨rfl, trivial⟩) rfl (he) ?_; rintro r H1 ⟨rfl, rfl⟩; refine ⟨rfl, ?_⟩; refine sH ?_
        refine gO ?_
        refine AP.cond rfl rfl (fun h1 => ?_) (fun h1 => ?_)
        · have h1 : atB s j [32, 61, 32] = true := by simpa using h1
          have hle := atB_le h1 hpx.2.2
          simp only [List.length_cons, List.length_nil] at hle
          rw [if_pos h1] at hL
          rw [if_pos h1]
          have it := rterm_spec s hs (s.length + 1) (j + 3) (by omega) (by omega)
          refine gO ?_
          refine AP.drawE 8 (Tree.node [] [0, 1, 2, 3] [4] [Tree.node [0, 1, 2] [] [5] [Tree.node [0, 1] [6] [7] [Tree.node [] [] [] []]]]) (by kernel_rfl) rfl (by kernel_rfl) (by kernel_rfl) ?_
          refine vd_node ?_
          refine sI ?_
          refine AQ.callHX [(0, 0)] (by kernel_rfl) rfl rfl rfl rfl rfl rfl (by exact ⟨rfl, trivial⟩) rfl (it) ?_ ?_
          · rintro r H' ⟨hp2, rfl, rfl⟩
            rw [hp2] at hL
            refine ⟨rfl, ?_⟩; refine sH ?_
            exact AEX.outR [2, 1] rfl rfl rfl ⟨hL, rfl, rfl⟩
          · rintro r H' ⟨u, k, hp2, rfl, rfl⟩
            rw [hp2] at hL
            refine ⟨rfl, ?_⟩; refine sH ?_
            refine AQ.nx rfl ?_
            refine sI ?_
            refine AQ.go (by kernel_rfl) ?_
            refine sI ?_
            refine AQ.nx rfl ?_
            refine sI ?_
            refine AQ.go (by kernel_rfl) ?_
            refine sI ?_
            refine AQ.nx rfl ?_
            refine sI ?_
            refine AQ.done ?_
            refine gO ?_
            exact AE.retD [2, 1] rfl ⟨⟨rfl, Nat.le_of_ble_eq_true (by kernel_rfl)⟩, trivial⟩ rfl ⟨_, k, hL, by simp only [ltV, tmR, tmC_eq]; rfl, rfl⟩
        · have h1 : atB s j [32, 61, 32] = false := by simpa using h1
          rw [h1, if_neg (by decide)]
          refine gO ?_
          exact AE.round 1 ⟨by omega, by omega⟩ (by omega) (sU) rfl
      · have he := eat_spec s [32, 33, 61, 32] j hpx.2.2 hs (by simp)
        refine gE (an @hr1 (an @List.length_cons.{0} @List.length_nil.{0})) ?_
        refine AQ.fix 3 rfl rfl ?_
        refine sI ?_
        refine AQ.callH [(0, 0)] (by kernel_rfl) rfl rfl rfl rfl rfl rfl (by exact ⟨rfl, trivial⟩) rfl (he) ?_; rintro r H1 ⟨rfl, rfl⟩; refine ⟨rfl, ?_⟩; refine sH ?_
        refine gO ?_
        refine AP.cond rfl rfl (fun h1 => ?_) (fun h1 => ?_)
        · have h1 : atB s j [32, 33, 61, 32] = true := by simpa using h1
          have hle := atB_le h1 hpx.2.2
          simp only [List.length_cons, List.length_nil] at hle
          rw [if_neg (by rw [k1 (by omega)]; decide), if_pos h1] at hL
          rw [if_pos h1]
          have it := rterm_spec s hs (s.length + 1) (j + 4) (by omega) (by omega)
          refine gO ?_
          refine AP.drawE 8 (Tree.node [] [0, 1, 2, 3] [4] [Tree.node [0, 1, 2] [] [5] [Tree.node [0, 1] [6] [7] [Tree.node [] [] [] []]]]) (by kernel_rfl) rfl (by kernel_rfl) (by kernel_rfl) ?_
          refine vd_node ?_
          refine sI ?_
          refine AQ.callHX [(0, 0)] (by kernel_rfl) rfl rfl rfl rfl rfl rfl (by exact ⟨rfl, trivial⟩) rfl (it) ?_ ?_
          · rintro r H' ⟨hp2, rfl, rfl⟩
            rw [hp2] at hL
            refine ⟨rfl, ?_⟩; refine sH ?_
            exact AEX.outR [2, 1] rfl rfl rfl ⟨hL, rfl, rfl⟩
          · rintro r H' ⟨u, k, hp2, rfl, rfl⟩
            rw [hp2] at hL
            refine ⟨rfl, ?_⟩; refine sH ?_
            refine AQ.nx rfl ?_
            refine sI ?_
            refine AQ.go (by kernel_rfl) ?_
            refine sI ?_
            refine AQ.nx rfl ?_
            refine sI ?_
            refine AQ.go (by kernel_rfl) ?_
            refine sI ?_
            refine AQ.nx rfl ?_
            refine sI ?_
            refine AQ.done ?_
            refine gO ?_
            exact AE.retD [2, 1] rfl ⟨⟨rfl, Nat.le_of_ble_eq_true (by kernel_rfl)⟩, trivial⟩ rfl ⟨_, k, hL, by simp only [ltV, tmR, tmC_eq]; rfl, rfl⟩
        · have h1 : atB s j [32, 33, 61, 32] = false := by simpa using h1
          rw [h1, if_neg (by decide)]
          refine gO ?_
          exact AE.round 2 ⟨by omega, fun _ => k1 (by omega)⟩ (by omega) (sU) rfl
      · rw [if_neg (by rw [k1 (by omega)]; decide), if_neg (by rw [k2 (by omega)]; decide)] at hL
        refine gO ?_
        refine AP.cond rfl rfl (fun h3 => ?_) (fun h3 => ?_)
        · rw [if_pos (by simpa using h3)] at hL
          refine gO ?_; refine xI ?_; refine sI ?_; refine gO ?_; refine AQ.cellsW 0 _ rfl (le_tops _ _) ?_; refine sI ?_; refine AQ.panic rfl ?_
          exact AEX.out [2, 1] rfl rfl ⟨hL, rfl, rfl⟩
        · rw [if_neg (by simpa using h3)] at hL
          refine gO ?_
          exact AE.retD [2, 1] rfl ⟨⟨rfl, Nat.le_of_ble_eq_true (by kernel_rfl)⟩, trivial⟩ rfl ⟨_, j, hL, rfl, rfl⟩
end Go.Proofs.YtpfohmboflcneaaGreatDoor
end

section
namespace Go.Proofs.YtpfohmboflcneaaGreatDoor
open Go Go.AL Go.RowKit
set_option maxRecDepth 10000
set_option maxHeartbeats 4000000
abbrev paH (a : AV) (e : Int) : Heap := [(1, .var 30 [Iv e]), (0, .var 27 [a])]
theorem parse1_im (x : IV) (e : Int) : ADef Tryz.prog 81 [.ob 0 0, .ob 1 0] (paH (.im x) e) none (fun H' => H' = paH (.im x) e) := by
  refine ADef.walk [0, 1, 2, 3, 4, 7, 14] [3] Tryz.func81 rfl Tryz.ntmps81 ⟨rfl, rfl, rfl⟩ ⟨rfl, rfl, rfl⟩ rfl (by kernel_rfl) (by rfl) rfl fun W own I0 φ0 lay => ?_
  simp only [go_sem, Nat.reduceAdd, Nat.reduceLeDiff, Nat.reduceSub, Int.reduceToNat, reduceCtorEq, recAV]
  refine gO ?_
  exact AE.retQ [] (.inr rfl) rfl rfl trivial rfl rfl
theorem parse1_some (e : Int) : ADef Tryz.prog 81 [.ob 0 0, .ob 1 0] (paH .top e) (some misV) (fun H' => H' = paH (.im (.sl 3 [])) 2) := by
  refine ADef.walk [0, 1, 2, 3, 4, 7, 14] [3] Tryz.func81 rfl Tryz.ntmps81 ⟨rfl, rfl, rfl⟩ ⟨rfl, rfl, rfl⟩ rfl (by kernel_rfl) (by rfl) rfl fun W own I0 φ0 lay => ?_
  simp only [go_sem, Nat.reduceAdd, Nat.reduceLeDiff, Nat.reduceSub, Int.reduceToNat, reduceCtorEq, recAV]
  refine gO ?_
  refine AQ.assertYes (by kernel_rfl) rfl rfl ?_; refine sI ?_
  refine gO ?_
  refine AE.cellsW 0 [.im (.sl 3 [])] rfl (cellsLe.nil (cellsLe.refl _)) ?_
  refine sI ?_
  exact AE.retQ [2] (.inr rfl) rfl rfl trivial rfl rfl
def aftS (s : List UInt8) (g j : Nat) : Option (List Lt) := if atB s j [32, 124, 32] then pS s g (j + 3) else if j < s.length then none else some []
def preS (a : List Lt) : Option (List Lt) → Option (List Lt)
  | none => none
  | some l => some (a ++ l)
theorem pS_succ (s : List UInt8) (f i : Nat) : pS s (f + 1) i = match pL s i with
    | none => none
    | some (l, j) => preS [l] (aftS s f j) := by
  rw [pS]
  cases pL s i with
  | none => rfl
  | some x =>
    obtain ⟨l, j⟩ := x
    simp only [aftS]
    split
    · cases pS s f (j + 3) <;> rfl
    · split <;> rfl
def paE (s : List UInt8) : Int := if 40000 < s.length then 15 else match pC s with
  | none => 2
  | some c => ckC 4 9 2 3 c
def paR (s : List UInt8) : List Lt := if 40000 < s.length then [] else match pC s with
  | none => []
  | some c => if ckC 4 9 2 3 c ≠ 0 then [] else c
theorem AEX.cellsW {C : Cx} {r : AV} {K : List PK} {E : Env} {H : Heap} (b : Nat) (cs' : List AV) {s : Sh} {cs : List AV} (hl : lk H b = some (.var s cs)) (hc : cellsLe cs cs') (h : AEX C r K E (hset H b (.var s cs'))) : AEX C r K E H := by
  unfold AEX at h ⊢
  exact fun φ I a w v hs hd => h _ _ _ _ _ ⟨hs.dfr, hs.siz, hs.env, hs.st.cellsW hl hc⟩ hd
theorem le_top1 (a : AV) : cellsLe [a] [.top] := fun w φ I us h => by
  simp only [AV.dens, AV.den] at h ⊢
  obtain ⟨u1, us1, rfl, _, rfl⟩ := h
  exact ⟨_, _, rfl, trivial, rfl⟩
theorem parse_walk (s : List UInt8) (hs : s.length ≤ 1000000) (hcl : ∀ c, pC s = some c → clL c) : ACallX Tryz.prog 19 [Sv s] [] (fun r H' => H' = [] ∧ r = .tup [clV (paR s), Iv (paE s)]) (fun _ _ => False) := by
  have hE : paE s = _ := paE.eq_def s
  have hR : paR s = _ := paR.eq_def s
  refine ACallX.walkD [0, 2, 3, 4, 5, 8, 10, 11, 19, 31, 35] [2, 3, 4, 14, 17] Tryz.func19 rfl Tryz.ntmps19 (by kernel_rfl) (by rfl) rfl fun W own I0 φ0 lay => ?_
  refine gO ?_
  refine AP.cond rfl rfl (fun h => ?_) (fun h => ?_)
  · rw [if_pos (by simp at h; omega)] at hE hR
    refine gO ?_
    refine AE.cellsW 0 [.im (.sl 3 [])] rfl (cellsLe.nil (cellsLe.refl _)) ?_
    refine sI ?_
    exact AE.leaveN (.inl rfl) rfl <| LV.retD [1, 0] rfl ⟨⟨rfl, Nat.le_of_ble_eq_true (by kernel_rfl)⟩, ⟨rfl, Nat.le_of_ble_eq_true (by kernel_rfl)⟩, trivial⟩ rfl ⟨rfl, by rw [hE, hR]; rfl⟩
  rw [if_neg (by simp at h; omega)] at hE hR
  refine gO ?_
  refine AP.cond rfl rfl (fun h1 => ?_) (fun h1 => ?_)
  · have h1 : s = [91, 93] := by simpa using h1
    have hC : pC s = some [] := by rw [pC, if_pos h1]
    rw [hC] at hE hR
    have e0 : ckC 4 9 2 3 [] = 0 := by decide
    simp only [e0] at hE hR
    refine gO ?_
    refine AE.cellsW 0 [.im (.sl 3 [])] rfl (cellsLe.nil (cellsLe.refl _)) ?_
    refine sI ?_
    exact AE.leaveN (.inl rfl) rfl <| LV.retD [1, 0] rfl ⟨⟨rfl, Nat.le_of_ble_eq_true (by kernel_rfl)⟩, ⟨rfl, Nat.le_of_ble_eq_true (by kernel_rfl)⟩, trivial⟩ rfl ⟨rfl, by rw [hE, hR]; rfl⟩
  · have h1 : ¬ s = [91, 93] := by simpa using h1
    have hC : pC s = pS s (s.length + 1) 0 := by rw [pC, if_neg h1]
    rw [pS_succ] at hC
    refine sI ?_
    refine xA ?_
    refine AP.regionD rfl rfl ?_
    refine AQ.go1 (by kernel_rfl) rfl rfl ?_ ?_
    · simp only [go_sem]
      done
    refine sI ?_
    refine AQ.defer rfl rfl rfl fun u => ?_
    refine sI ?_
    refine gO ?_
    refine AQ.callHX [(0, 2)] (by kernel_rfl) rfl rfl rfl rfl rfl rfl (by exact ⟨rfl, trivial⟩) rfl (rlit_spec s hs 0 (by omega)) ?_ ?_
    · rintro r H' ⟨hp, rfl, rfl⟩
      rw [hp] at hC
      rw [hC] at hE hR
      simp only at hE hR
      refine ⟨rfl, ?_⟩; refine sH ?_
      refine AEX.cellsW 0 _ rfl (le_top1 _) ?_
      refine sI ?_
      refine AEX.leaveD [(1, 1), (0, 0)] (K' := [_]) (t := 11) (Hc := paH .top 0) rfl rfl rfl rfl rfl (by exact ⟨rfl, rfl, trivial⟩) rfl (parse1_some _) rfl ?_ rfl
      rintro H1 rfl
      refine ⟨rfl, ?_⟩
      refine sH ?_
      exact LV.retD [2, 1, 0] rfl ⟨⟨rfl, Nat.le_of_ble_eq_true (by kernel_rfl)⟩, ⟨rfl, Nat.le_of_ble_eq_true (by kernel_rfl)⟩, trivial⟩ rfl ⟨rfl, by rw [hE, hR]; rfl⟩
    · rintro r H' ⟨x, j, hp, rfl, rfl⟩
      rw [hp] at hC
      simp only at hC
      refine ⟨rfl, ?_⟩; refine sH ?_
      refine AQ.go (by kernel_rfl) ?_
      refine sI ?_
      refine gO ?_
      have hjx := pL_tx hp
      have hC0 : pC s = preS [x] (aftS s s.length j) := hC
      refine AP.loop rfl (α := List Lt × Nat × Nat) (fun z => [(0, Sv s), (2, .ob 0 0), (3, .ob 1 0), (4, .ob 2 0), (11, .wr (.exact u) (.fn 81 [] [.ob 0 0, .ob 1 0]))]) (fun z => [(3, .vec 119 3 (ltR z.1)), (2, .var 135 [Sv s, Iv z.2.1]), (1, .var 30 [Iv 0]), (0, .var 27 [.os 3 3 0 z.1.length])]) (fun z => z.1.length ≤ z.2.1 ∧ z.2.1 ≤ s.length ∧ s.length < z.2.2 + z.2.1 ∧ pC s = preS z.1 (aftS s z.2.2 z.2.1)) (fun z => s.length - z.2.1) ([x], j, s.length) ⟨by simp only [List.length_singleton]; omega, by simp only; omega, by simp only; omega, hC0⟩ (sU) rfl fun ⟨a, j, g⟩ ⟨z1, z2, z3, z4⟩ => ?_
      simp only at z1 z2 z3 z4 ⊢
      clear hC hC0 hjx hp
      have he := eat_spec s [32, 124, 32] j z2 hs (by simp)
      rw [aftS] at z4
      refine gO ?_
      refine AQ.callH [(0, 2)] (by kernel_rfl) rfl rfl rfl rfl rfl rfl (by exact ⟨rfl, trivial⟩) rfl he ?_
      rintro r H1 ⟨rfl, rfl⟩
      refine ⟨rfl, ?_⟩
      refine sH ?_
      refine gO ?_
      refine AP.cond rfl rfl (fun h2 => ?_) (fun h2 => ?_)
      · have h2 : atB s j [32, 124, 32] = true := by simpa using h2
        have hle := atB_le h2 z2
        simp only [List.length_cons, List.length_nil] at hle
        obtain ⟨g, rfl⟩ : ∃ q, g = q + 1 := ⟨g - 1, by omega⟩
        rw [if_pos h2, pS_succ] at z4
        rw [if_pos h2]
        refine gO ?_
        refine AP.drawE 6 (Tree.node [] [0, 1] [2] [Tree.node [0] [] [3] [Tree.node [0] [] [4] [Tree.node [] [] [5] [Tree.node [] [] [] []]]]]) (by kernel_rfl) rfl (by kernel_rfl) (by kernel_rfl) ?_
        refine vd_node ?_
        refine sI ?_
        refine AQ.callHX [(0, 2)] (by kernel_rfl) rfl rfl rfl rfl rfl rfl (by exact ⟨rfl, trivial⟩) rfl (rlit_spec s hs (j + 3) (by omega)) ?_ ?_
        · rintro r H' ⟨hp, rfl, rfl⟩
          rw [hp] at z4
          rw [z4] at hE hR
          simp only [preS] at hE hR
          refine ⟨rfl, ?_⟩; refine sH ?_
          refine AEX.draw [2, 3, 11] rfl (by kernel_rfl) ?_
          refine sI ?_
          refine AEX.cellsW 0 _ rfl (le_top1 _) ?_
          refine sI ?_
          refine AEX.leaveD [(1, 1), (0, 0)] (K' := [_, _, _, _]) (t := 11) (Hc := paH .top 0) rfl rfl rfl rfl rfl (by exact ⟨rfl, rfl, trivial⟩) rfl (parse1_some _) rfl ?_ rfl
          rintro H1 rfl
          refine ⟨rfl, ?_⟩
          refine sH ?_
          exact LV.retD [3, 2, 1, 0] rfl ⟨⟨rfl, Nat.le_of_ble_eq_true (by kernel_rfl)⟩, ⟨rfl, Nat.le_of_ble_eq_true (by kernel_rfl)⟩, trivial⟩ rfl ⟨rfl, by rw [hE, hR]; rfl⟩
        · rintro r H' ⟨y, k, hp, rfl, rfl⟩
          rw [hp] at z4
          simp only at z4
          have hjx := pL_tx hp
          refine ⟨rfl, ?_⟩; refine sH ?_
          refine AQ.nx rfl ?_
          refine sI ?_
          refine AQ.go (by kernel_rfl) ?_
          refine sI ?_
          refine AQ.nx rfl ?_
          refine sI ?_
          refine AQ.kill 3 ?_
          refine sI ?_
          refine AQ.append (hnb := rfl) (rows := ltR a) (es := 2) (by kernel_rfl) rfl rfl rfl (by rfl) Tryz.tk27 Tryz.sz119 (by show Option.map _ (zro Tryz.prog 119) = _; rw [Tryz.zr119]; rfl) Tryz.by119 (by first | rfl | (simp only [ltR_len, List.length_cons, List.length_nil]; done) | (simp only [ltR_len, List.length_cons, List.length_nil]; omega)) (by simp only [ltR_len, List.length_cons, List.length_nil]; omega) (by simp only [ltR_len, List.length_cons, List.length_nil]; omega) ?_
          refine sI ?_
          refine AQ.nx rfl ?_
          refine sI ?_
          refine AQ.go (by kernel_rfl) ?_
          refine sI ?_
          refine AQ.nx rfl ?_
          refine sI ?_
          refine AQ.done ?_
          refine gO ?_
          refine AE.round (a ++ [y], k, g) ⟨by simp only [List.length_append, List.length_singleton]; omega, by simp only; omega, by simp only; omega, ?_⟩ (by simp only; omega) (sU) ?_
          · simp only
            rw [z4]
            cases aftS s g k with
            | none => rfl
            | some q => simp [preS]
          · simp only [ltR_add, List.length_append, List.length_singleton, ltR_len]
      · have h2 : ¬ atB s j [32, 124, 32] = true := by simpa using h2
        rw [if_neg h2] at z4
        rw [if_neg h2]
        refine gO ?_
        refine AP.cond rfl rfl (fun h3 => ?_) (fun h3 => ?_)
        · rw [if_pos (by simp at h3; omega)] at z4
          rw [z4] at hE hR
          simp only [preS] at hE hR
          refine gO ?_
          refine AE.cellsW 0 [.im (.sl 3 [])] rfl (cellsLe.nil (cellsLe.refl _)) ?_
          refine sI ?_
          refine AE.leaveD [(1, 1), (0, 0)] (t := 11) (Hc := paH (.im (.sl 3 [])) 2) (.inl rfl) rfl rfl rfl rfl rfl (by exact ⟨rfl, rfl, trivial⟩) rfl (parse1_im _ _) ?_
          rintro H1 rfl
          refine ⟨rfl, ?_⟩
          refine sH ?_
          exact LV.retD [3, 2, 1, 0] rfl ⟨⟨rfl, Nat.le_of_ble_eq_true (by kernel_rfl)⟩, ⟨rfl, Nat.le_of_ble_eq_true (by kernel_rfl)⟩, trivial⟩ rfl ⟨rfl, by rw [hE, hR]; rfl⟩
        · rw [if_neg (by simp at h3; omega)] at z4
          rw [z4] at hE hR
          simp only [preS, List.append_nil] at hE hR z4
          have hca := hcl a z4
          refine gO ?_
          refine AQ.freeze 3 (el := 119) (es := 3) (rows := ltR a) rfl (by simp only [go_sem, Nat.reduceAdd, Nat.reduceLeDiff, Nat.reduceSub, Int.reduceToNat, reduceCtorEq, ltR_len]; first | done | trivial | omega | (simp; done) | (simp; omega)) (by simp only [go_sem, Nat.reduceAdd, Nat.reduceLeDiff, Nat.reduceSub, Int.reduceToNat, reduceCtorEq, ltR_len]; first | done | trivial | omega | (simp; done) | (simp; omega)) ?_; simp only [go_sem, Nat.reduceAdd, Nat.reduceLeDiff, Nat.reduceSub, Int.reduceToNat, reduceCtorEq, ltR_len]
          rw [List.take_of_length_le (by rw [ltR_len]; exact Nat.le_refl _)]
          refine AQ.fn (by kernel_rfl) rfl rfl rfl (check_spec a hca) rfl ?_
          refine sI ?_
          refine gO ?_
          refine AP.cond rfl rfl (fun h4 => ?_) (fun h4 => ?_)
          · have h4 : ckC 4 9 2 3 a ≠ 0 := by simpa using h4
            rw [if_pos h4] at hR
            refine gO ?_
            refine AE.cellsW 0 [.im (.sl 3 [])] rfl (cellsLe.nil (cellsLe.refl _)) ?_
            refine sI ?_
            refine AE.leaveD [(1, 1), (0, 0)] (t := 11) (Hc := paH (.im (.sl 3 [])) (ckC 4 9 2 3 a)) (.inl rfl) rfl rfl rfl rfl rfl (by exact ⟨rfl, rfl, trivial⟩) rfl (parse1_im _ _) ?_
            rintro H1 rfl
            refine ⟨rfl, ?_⟩
            refine sH ?_
            exact LV.retD [2, 1, 0] rfl ⟨⟨rfl, Nat.le_of_ble_eq_true (by kernel_rfl)⟩, ⟨rfl, Nat.le_of_ble_eq_true (by kernel_rfl)⟩, trivial⟩ rfl ⟨rfl, by rw [hE, hR]; rfl⟩
          · have h4 : ¬ ckC 4 9 2 3 a ≠ 0 := by simpa using h4
            have h5 : ckC 4 9 2 3 a = 0 := by simpa using h4
            rw [if_neg h4] at hR
            refine gO ?_
            refine AE.leaveD [(1, 1), (0, 0)] (t := 11) (Hc := paH (.im (.sl 3 (ltR a))) 0) (.inl rfl) rfl rfl rfl rfl rfl (by exact ⟨rfl, rfl, trivial⟩) rfl (parse1_im _ _) ?_
            rintro H1 rfl
            refine ⟨rfl, ?_⟩
            refine sH ?_
            exact LV.retD [2, 1, 0] rfl ⟨⟨rfl, Nat.le_of_ble_eq_true (by kernel_rfl)⟩, ⟨rfl, Nat.le_of_ble_eq_true (by kernel_rfl)⟩, trivial⟩ rfl ⟨rfl, by rw [hE, hR, h5]; rfl⟩
end Go.Proofs.YtpfohmboflcneaaGreatDoor
end

section
namespace Go.Proofs.YtpfohmboflcneaaGreatDoor
open Go Go.AL Go.RowKit
set_option maxRecDepth 10000
set_option maxHeartbeats 4000000
theorem take_le {l : List UInt8} {n i : Nat} {s : List UInt8} (h : l = s.drop i) (hs : s.length ≤ 1000000) : (l.take n).length ≤ 1000000000 := by
  rw [List.length_take, h, List.length_drop]; omega
theorem pTR_L (s : List UInt8) (hs : s.length ≤ 1000000) : ∀ f, (∀ i t j, pT s f i = some (t, j) → tmL t) ∧ (∀ i l j, pR s f i = some (l, j) → tmsL l ∧ l.length + i ≤ j)
  | 0 => ⟨fun i t j h => (by rw [pT] at h; cases h), fun i l j h => (by rw [pR] at h; cases h)⟩
  | f + 1 => by
    obtain ⟨ih1, ih2⟩ := pTR_L s hs f
    refine ⟨fun i t j h => ?_, fun i l j h => ?_⟩
    · rw [pT] at h
      split at h
      · rw [pV] at h
        split at h
        · cases h; rw [tmL, tmsL]; simp
        · cases h
      · split at h
        · cases h
        · split at h
          · cases hq : pT s f (i + nmN true (s.drop i) + 1) with
            | none => rw [hq] at h; cases h
            | some x =>
              obtain ⟨t1, j1⟩ := x
              rw [hq] at h
              simp only at h
              cases hr : pR s f j1 with
              | none => rw [hr] at h; cases h
              | some y =>
                obtain ⟨l1, k1⟩ := y
                rw [hr] at h
                cases h
                have h1 := ih1 _ _ _ hq
                have h2 := ih2 _ _ _ hr
                have h3 := pR_tx hr
                rw [tmL, tmsL]
                exact ⟨take_le rfl hs, by simp only [List.length_cons]; omega, h1, h2.1⟩
          · cases h
            rw [tmL, tmsL]
            exact ⟨take_le rfl hs, by simp, trivial⟩
    · rw [pR] at h
      split at h
      · cases hq : pT s f (i + 2) with
        | none => rw [hq] at h; cases h
        | some x =>
          obtain ⟨t1, j1⟩ := x
          rw [hq] at h
          simp only at h
          cases hr : pR s f j1 with
          | none => rw [hr] at h; cases h
          | some y =>
            obtain ⟨l1, k1⟩ := y
            rw [hr] at h
            cases h
            have h1 := ih1 _ _ _ hq
            have h2 := ih2 _ _ _ hr
            have h3 := pT_tx hq
            rw [tmsL]
            exact ⟨⟨h1, h2.1⟩, by simp only [List.length_cons]; omega⟩
      · split at h
        · cases h; rw [tmsL]; simp
        · cases h
theorem pA_L {s : List UInt8} (hs : s.length ≤ 1000000) {f i j : Nat} {l : List Tm} (h : pA s f i = some (l, j)) : tmsL l ∧ l.length ≤ 1000000000 := by
  rw [pA] at h
  split at h
  · cases hq : pT s f (i + 1) with
    | none => rw [hq] at h; cases h
    | some x =>
      obtain ⟨t1, j1⟩ := x
      rw [hq] at h
      simp only at h
      cases hr : pR s f j1 with
      | none => rw [hr] at h; cases h
      | some y =>
        obtain ⟨l1, k1⟩ := y
        rw [hr] at h
        cases h
        have h1 := (pTR_L s hs f).1 _ _ _ hq
        have h2 := (pTR_L s hs f).2 _ _ _ hr
        have h3 := pR_tx hr
        rw [tmsL]
        exact ⟨⟨h1, h2.1⟩, by simp only [List.length_cons]; omega⟩
  · cases h; rw [tmsL]; simp
theorem pL_L {s : List UInt8} (hs : s.length ≤ 1000000) {i j : Nat} {x : Lt} (h : pL s i = some (x, j)) : ltL x := by
  rw [pL] at h
  split at h
  · split at h
    · cases h
    · cases hq : pA s (s.length + 1) (i + 1 + nmN true (s.drop (i + 1))) with
      | none => rw [hq] at h; cases h
      | some y =>
        obtain ⟨l1, k1⟩ := y
        rw [hq] at h
        cases h
        have := pA_L hs hq
        exact ⟨take_le rfl hs, this.2, this.1⟩
  · cases hq : pT s (s.length + 1) i with
    | none => rw [hq] at h; cases h
    | some y =>
      obtain ⟨t1, k1⟩ := y
      rw [hq] at h
      simp only at h
      have h1 := (pTR_L s hs _).1 _ _ _ hq
      split at h
      · cases hr : pT s (s.length + 1) (k1 + 3) with
        | none => rw [hr] at h; cases h
        | some z =>
          obtain ⟨t2, k2⟩ := z
          rw [hr] at h
          cases h
          have h2 := (pTR_L s hs _).1 _ _ _ hr
          exact ⟨by simp, by simp, by rw [tmsL, tmsL, tmsL]; exact ⟨h1, h2, trivial⟩⟩
      · split at h
        · cases hr : pT s (s.length + 1) (k1 + 4) with
          | none => rw [hr] at h; cases h
          | some z =>
            obtain ⟨t2, k2⟩ := z
            rw [hr] at h
            cases h
            have h2 := (pTR_L s hs _).1 _ _ _ hr
            exact ⟨by simp, by simp, by rw [tmsL, tmsL, tmsL]; exact ⟨h1, h2, trivial⟩⟩
        · split at h
          · cases h
          · cases h
            have := tmL_eq.1 h1
            exact ⟨this.1, this.2.1, this.2.2⟩
theorem pS_L {s : List UInt8} (hs : s.length ≤ 1000000) : ∀ (f i : Nat) (c : List Lt), pS s f i = some c → c.length ≤ f ∧ ∀ l ∈ c, ltL l
  | 0, i, c, h => by rw [pS] at h; cases h
  | f + 1, i, c, h => by
    rw [pS] at h
    cases hq : pL s i with
    | none => rw [hq] at h; cases h
    | some y =>
      obtain ⟨x, j⟩ := y
      rw [hq] at h
      simp only at h
      have h1 := pL_L hs hq
      split at h
      · cases hr : pS s f (j + 3) with
        | none => rw [hr] at h; cases h
        | some r =>
          rw [hr] at h
          cases h
          obtain ⟨h2, h3⟩ := pS_L hs f _ _ hr
          refine ⟨by simp only [List.length_cons]; omega, fun l hl => ?_⟩
          rcases List.mem_cons.1 hl with rfl | hl
          · exact h1
          · exact h3 l hl
      · split at h
        · cases h
        · cases h
          refine ⟨by simp, fun l hl => ?_⟩
          rw [List.mem_singleton] at hl
          subst hl; exact h1
theorem pC_L {s : List UInt8} (hs : s.length ≤ 1000000) {c : List Lt} (h : pC s = some c) : clL c := by
  rw [pC] at h
  split at h
  · cases h; exact ⟨by simp, fun l hl => by cases hl⟩
  · obtain ⟨h1, h2⟩ := pS_L hs _ _ _ h
    exact ⟨by omega, h2⟩
theorem paR_L {s : List UInt8} (hs : s.length ≤ 1000000) : clL (paR s) := by
  have h0 : clL ([] : List Lt) := ⟨by simp, fun l hl => by cases hl⟩
  rw [paR]
  split
  · exact h0
  · cases hq : pC s with
    | none => exact h0
    | some c =>
      simp only
      split
      · exact h0
      · exact pC_L hs hq
theorem parse_spec (s : List UInt8) (hs : s.length ≤ 1000000) : PFn Tryz.prog 19 [Sv s] (.tup [clV (paR s), Iv (paE s)]) :=
  (parse_walk s hs fun c h => pC_L hs h).toA fun _ _ h => h
def nmR (c : List Lt) : List Lt := if ckC 4 9 2 3 c ≠ 0 then [] else nrC c
theorem normal_spec (N : Nat) (hsort : ∀ l : List Lt, l.length ≤ N → ACall Tryz.prog 90 [.os 0 4 0 l.length, .fn 91 [] []] (soH l) (fun r H' => r = .tup [] ∧ H' = soH (srtA [] l))) (c : List Lt) (hN : c.length ≤ N) (hs : clL c) : PFn Tryz.prog 22 [clV c] (.tup [clV (nmR c), Iv (ckC 4 9 2 3 c)]) := by
  by_cases hck : ckC 4 9 2 3 c = 0
  · rw [nmR, if_neg (by simpa using hck), hck]
    exact normal_walk N hsort c hN hs hck
  · have hR : nmR c = [] := by rw [nmR, if_pos hck]
    refine ACall.orNil ?_
    refine ACall.walk [0, 2, 3, 4, 5, 6, 7, 8, 10, 11, 15, 17, 18, 19, 20, 29, 44, 45, 46, 47] [7, 10, 11] Tryz.func22 rfl Tryz.ntmps22 (by kernel_rfl) (by rfl) rfl fun W own I0 φ0 lay => ?_
    refine gO ?_
    refine AQ.fn (by kernel_rfl) rfl rfl rfl (check_spec c hs) rfl ?_
    refine sI ?_
    refine gO ?_
    refine AP.cond rfl rfl (fun h => ?_) (fun h => ?_)
    · refine gO ?_
      exact AE.ret0 rfl ⟨rfl, rfl, trivial⟩ rfl ⟨rfl, .inr ⟨hR, rfl⟩⟩
    · exact absurd (by simpa using h) hck
end Go.Proofs.YtpfohmboflcneaaGreatDoor
end

section
namespace Go.Proofs.YtpfohmboflcneaaGreatDoor
open Go Go.AL Go.RowKit
set_option maxRecDepth 10000
set_option maxHeartbeats 4000000
def exS : List UInt8 := [80, 40, 63, 53, 41, 32, 124, 32, 126, 81, 40, 63, 51, 41, 32, 124, 32, 80, 40, 63, 53, 41]
def exC : List Lt := [⟨false, [80], [.mk [] 5 []]⟩, ⟨true, [81], [.mk [] 3 []]⟩, ⟨false, [80], [.mk [] 5 []]⟩]
def exN : List Lt := [⟨false, [80], [.mk [] 0 []]⟩, ⟨true, [81], [.mk [] 1 []]⟩]
def exT : List UInt8 := [80, 40, 63, 48, 41, 32, 124, 32, 126, 81, 40, 63, 49, 41]
theorem ex_p : pC exS = some exC := by kernel_rfl
theorem ex_c : ckC 4 9 2 3 exC = 0 := by kernel_rfl
theorem ex_n : nrC exC = exN := by kernel_rfl
theorem ex_cn : ckC 4 9 2 3 exN = 0 := by kernel_rfl
theorem dec1 {n : Nat} (h : n < 10) : Lib.itoa n = [UInt8.ofNat (48 + n)] := by
  rw [Lib.itoa, if_neg (by omega), Int.toNat_natCast, Lib.decDigits, dif_pos h]
theorem ex_t : txC false exN = exT := by
  have h0 : Lib.itoa 0 = [48] := dec1 (n := 0) (by decide)
  have h1 : Lib.itoa 1 = [49] := dec1 (n := 1) (by decide)
  simp only [exN, txC, txL, txS, txA, txT, txR, h0, h1]
  rfl
theorem ex_o : cmT (.mk [102] 0 [.mk [] 0 []]) (.mk [] 0 []) = (1, 0) := by kernel_rfl
theorem awake_spec : PFn Tryz.prog 12 [] (Bv true) := by
  have hS : exS.length ≤ 40000 := by decide
  have hp := parse_spec exS (by decide)
  have hpR : paR exS = exC := by rw [paR, if_neg (by omega), ex_p]; simp only [ex_c]; rfl
  have hpE : paE exS = 0 := by rw [paE, if_neg (by omega), ex_p]; exact ex_c
  rw [hpR, hpE] at hp
  have hcl : clL exC := by have := paR_L (s := exS) (by decide); rw [hpR] at this; exact this
  have hn := normal_spec 20 sort_small exC (by decide) hcl
  have hnR : nmR exC = exN := by rw [nmR, ex_c, if_neg (by decide), ex_n]
  rw [hnR, ex_c] at hn
  have hcn : clL exN := ⟨by decide, fun l hl => by
    simp only [exN, List.mem_cons, List.not_mem_nil, or_false] at hl
    rcases hl with rfl | rfl <;> exact ⟨by decide, by decide, by simp [tmsL, tmL]⟩⟩
  have ht := text_spec exN hcn
  have htS : tcS exN = exT := by rw [tcS, ex_cn, if_neg (by decide), ex_t, if_neg (by decide)]
  have htE : tcE exN = 0 := by rw [tcE, ex_cn, if_neg (by decide), ex_t, if_neg (by decide)]
  rw [htS, htE] at ht
  have ho0 := Compare_spec (.mk [102] 0 [.mk [] 0 []]) (.mk [] 0 []) (by simp [tmL, tmsL]) (by simp [tmL, tmsL])
  rw [ex_o] at ho0
  have ho1 : PFn Tryz.prog 37 [.agg [Sv [102], Iv 0, .im (.sl 3 [[Si [], Ii 0, .sl 3 []]])], .agg [Sv [], Iv 0, .im (.sl 3 [])]] (.tup [Iv 1, Iv 0]) := ho0
  have ho := ho1.argLe (xs := [.agg [Sv [102], Iv 0, .im (.sl 3 [[Si [], Ii 0, .v (.slice none 0 0)]])], .agg [Sv [], Iv 0, nilV]]) (by repeat' (first | with_reducible exact AVle.refl _ | with_reducible exact IVle.refl _ | exact IVle.nil _ | with_reducible exact cellsLe.refl _ | with_reducible exact rowLe.refl _ | with_reducible exact rowsLe.refl _ | refine cellsLe.cons2 ?_ ?_ | refine AVle.agg ?_ | refine AVle.im ?_ | refine IVle.sl ?_ | refine rowsLe.cons ?_ ?_ | refine rowLe.cons ?_ ?_))
  have hp' : PFn Tryz.prog 19 [Sv [80, 40, 63, 53, 41, 32, 124, 32, 126, 81, 40, 63, 51, 41, 32, 124, 32, 80, 40, 63, 53, 41]] (.tup [clV exC, Iv 0]) := hp
  have ht' : PFn Tryz.prog 17 [clV exN] (.tup [Sv [80, 40, 63, 48, 41, 32, 124, 32, 126, 81, 40, 63, 49, 41], Iv 0]) := ht
  refine ACall.walk [0, 1, 2, 3, 4, 5, 6, 7, 8] [] Tryz.func12 rfl Tryz.ntmps12 (by kernel_rfl) (by rfl) rfl fun W own I0 φ0 lay => ?_
  refine gO ?_
  refine AQ.fn (by kernel_rfl) rfl rfl rfl (hp') rfl ?_
  refine sI ?_
  refine gO ?_
  refine AQ.fn (by kernel_rfl) rfl rfl rfl (hn) rfl ?_
  refine sI ?_
  refine gO ?_
  refine AQ.fn (by kernel_rfl) rfl rfl rfl (ht') rfl ?_
  refine sI ?_
  refine gO ?_
  refine AQ.fn (by kernel_rfl) rfl rfl rfl (ho) rfl ?_
  refine sI ?_
  refine gO ?_
  exact AE.ret0 rfl ⟨rfl, trivial⟩ rfl ⟨rfl, rfl⟩
end Go.Proofs.YtpfohmboflcneaaGreatDoor
end

section
namespace Go.Proofs.YtpfohmboflcneaaGreatDoor
open Go Go.AL Go.RowKit
set_option maxRecDepth 10000
set_option maxHeartbeats 4000000
def ltS (l : Lt) : Prop := l.pd.length ≤ 9223372036854775807 ∧ l.xs.length ≤ 9223372036854775807 ∧ tmsS l.xs
def clS (c : List Lt) : Prop := c.length ≤ 9223372036854775807 ∧ ∀ l ∈ c, ltS l
theorem clS_get {c : List Lt} {k : Nat} {l : Lt} (h : clS c) (hk : c[k]? = some l) : ltS l := h.2 l (List.mem_of_getElem? hk)
theorem size_specS (t : Tm) (m : Int) (hs : tmS t) (hm : 0 ≤ m ∧ m ≤ 1000000000) : PFn Tryz.prog 70 [tmV t, Iv m] (Iv (szT t m)) := by
  have hs0 := tmS_eq.1 hs
  refine ACall.walk [0, 1, 2, 4, 5, 7, 9, 10, 11, 12, 17] [7] Tryz.func70 rfl Tryz.ntmps70 (by kernel_rfl) (by rfl) rfl fun W own I0 φ0 lay => ?_
  refine gE @tmR_len ?_
  refine AP.loop rfl (α := Nat) (fun k => [(1, Iv m), (5, Iv (szTs (t.xs.take k) m 1)), (9, .im (.sl 3 (tmR t.xs))), (10, Iv t.xs.length), (11, Iv k)]) (fun _ => []) (fun k => k ≤ t.xs.length) (fun k => t.xs.length - k) 0 (by omega) (by rw [List.take_zero, szTs]; exact (sU)) rfl fun k hk => ?_
  have hx := hs0.2.1
  have hb := szTs_is (t.xs.take k) m 1 hm.1 (by omega) (by omega)
  rcases Nat.eq_or_lt_of_le hk with hke | hlt
  · subst hke
    rw [List.take_length] at hb ⊢
    refine gO ?_
    refine cF ?_
    refine gO ?_
    exact AE.ret0 rfl ⟨rfl, trivial⟩ rfl ⟨rfl, by rw [szT_eq]; rfl⟩
  · obtain ⟨u, hu, hrow⟩ := tmR_get t.xs k hlt
    have hw := wr (x := (k : Int) + 1) (by omega)
    have hsn := szTs_snoc hu m 1
    refine gO ?_
    refine cT ?_
    refine gE @hrow ?_
    refine ⟨by rw [tmR_len]; omega, ?_⟩
    refine gO ?_
    refine AP.cond rfl rfl (fun h1 => ?_) (fun h1 => ?_)
    · have h1 : m < szTs (t.xs.take k) m 1 := by simpa using h1
      refine gO ?_
      refine AE.retD [0] rfl ⟨rfl, trivial⟩ rfl ⟨rfl, by rw [szT_eq, szTs_rest k m 1 h1]; rfl⟩
    · have h1 : ¬ m < szTs (t.xs.take k) m 1 := by simpa using h1
      rw [if_neg h1] at hsn
      generalize hn : szTs (t.xs.take k) m 1 = n at *
      have ha := szT_is u (m - n) (by omega)
      have hw1 := wr (x := m - n) (by omega)
      have hw2 := wr (x := n + szT u (m - n)) (by omega)
      refine gE @hw1 ?_
      refine AQ.fn (by kernel_rfl) rfl rfl rfl (size_specS u (m - n) (tmsS_get hs0.2.2 hu) (by omega)) rfl ?_
      refine sI ?_
      refine gE (an @hw @hw2) ?_
      refine AE.forgets [0] rfl ?_
      refine sI ?_
      exact AE.round (k + 1) (by omega) (by omega) (by rw [hsn]; exact (sU)) rfl
termination_by SizeOf.sizeOf t
decreasing_by exact tm_mem hu
theorem nodes_specS (c : List Lt) (m : Int) (hs : clS c) (hm : 0 ≤ m ∧ m ≤ 1000000000) : PFn Tryz.prog 14 [clV c, Iv m] (Iv (ndN c m)) := by
  have hcl := hs.1
  refine ACall.walk [0, 1, 4, 5, 7, 9, 12, 13, 14, 15, 19, 20, 21, 22, 27] [7, 9] Tryz.func14 rfl Tryz.ntmps14 (by kernel_rfl) (by rfl) rfl fun W own I0 φ0 lay => ?_
  refine gE @ltR_len ?_
  refine AP.loop rfl (α := Nat) (fun k => [(1, Iv m), (5, Iv (szTs ((c.take k).flatMap (·.xs)) m c.length)), (12, clV c), (13, Iv c.length), (14, Iv k)]) (fun _ => []) (fun k => k ≤ c.length) (fun k => c.length - k) 0 (by omega) (by rw [List.take_zero, List.flatMap_nil, szTs]; exact (sU)) rfl fun k hk => ?_
  rcases Nat.eq_or_lt_of_le hk with hke | hlt
  · subst hke
    rw [List.take_length]
    refine gO ?_
    refine cF ?_
    refine gO ?_
    exact AE.ret0 rfl ⟨rfl, trivial⟩ rfl ⟨rfl, rfl⟩
  · obtain ⟨u, hu, hrow⟩ := ltR_get c k hlt
    have hw := wr (x := (k : Int) + 1) (by omega)
    have hul := clS_get hs hu
    have hul2 := hul.2.1
    have hb0 := szTs_bnd ((c.take k).flatMap (·.xs)) m c.length hm.1 (by omega)
    have hfs := flat_snoc hu
    have hfr := fun j => flat_rest (j := j) hu m c.length
    obtain ⟨n0, hn0⟩ : ∃ n0, szTs ((c.take k).flatMap (·.xs)) m c.length = n0 := ⟨_, rfl⟩
    rw [hn0] at hb0 hfr ⊢
    refine gO ?_
    refine cT ?_
    refine gE @hrow ?_
    refine ⟨by rw [ltR_len]; omega, ?_⟩
    refine gE @tmR_len ?_
    refine AP.loop rfl (α := Nat) (fun j => [(1, Iv m), (5, Iv (szTs (u.xs.take j) m n0)), (12, clV c), (13, Iv c.length), (14, Iv k), (19, .im (.sl 3 (tmR u.xs))), (20, Iv u.xs.length), (21, Iv j)]) (fun _ => [(0, .var 61 [Bv u.ng, Sv u.pd, .im (.sl 3 (tmR u.xs))])]) (fun j => j ≤ u.xs.length) (fun j => u.xs.length - j) 0 (by omega) (by rw [List.take_zero, szTs]; exact (sU)) rfl fun j hj => ?_
    have hb := szTs_bnd (u.xs.take j) m n0 hm.1 (by omega)
    rcases Nat.eq_or_lt_of_le hj with hje | hjlt
    · subst hje
      rw [List.take_length] at hb ⊢
      refine gO ?_
      refine cF ?_
      refine gE @hw ?_
      refine AE.forgets [0] rfl ?_
      refine sI ?_
      refine AE.round (k + 1) (by omega) (by omega) (by rw [hfs, szTs_append, hn0]; exact (sU)) rfl
    · obtain ⟨v, hv, hrow2⟩ := tmR_get u.xs j hjlt
      have hw2 := wr (x := (j : Int) + 1) (by omega)
      have hsn := szTs_snoc hv m n0
      refine gO ?_
      refine cT ?_
      refine gE @hrow2 ?_
      refine ⟨by rw [tmR_len]; omega, ?_⟩
      refine gO ?_
      refine AP.cond rfl rfl (fun h1 => ?_) (fun h1 => ?_)
      · have h1 : m < szTs (u.xs.take j) m n0 := by simpa using h1
        refine gO ?_
        refine AE.retD [1, 0] rfl ⟨rfl, trivial⟩ rfl ⟨rfl, by rw [ndN, hfr j h1]; rfl⟩
      · have h1 : ¬ m < szTs (u.xs.take j) m n0 := by simpa using h1
        rw [if_neg h1] at hsn
        clear hfr
        generalize hn : szTs (u.xs.take j) m n0 = n at *
        have ha := szT_is v (m - n) (by omega)
        have hw3 := wr (x := m - n) (by omega)
        have hw4 := wr (x := n + szT v (m - n)) (by omega)
        refine gE @hw3 ?_
        refine AQ.fn (by kernel_rfl) rfl rfl rfl (size_specS v (m - n) (tmsS_get hul.2.2 hv) (by omega)) rfl ?_
        refine sI ?_
        refine gE (an @hw2 @hw4) ?_
        refine AE.forgets [1] rfl ?_
        refine sI ?_
        exact AE.round (j + 1) (by omega) (by omega) (by rw [hsn]; exact (sU)) rfl
theorem ixT_specS (l : List Tm) (hl : l.length ≤ 9223372036854775807) (h : ∀ (k : Nat) (t : Tm), l[k]? = some t → ACall Tryz.prog 67 [tmV t, .ob 0 0] lgH (fun r H' => H' = lgH ∧ r = Bv (lgT t))) :
    ACall Tryz.prog 146 [.im (.sl 3 (tmR l)), .fn 67 [] [.ob 0 0]] lgH (fun r H' => H' = lgH ∧ r = Iv (ixF lgT l 0)) := by
  refine ACall.walk [0, 1, 4, 5, 7, 8, 9, 16] [] Tryz.func146 rfl Tryz.ntmps146 (by kernel_rfl) (by rfl) rfl fun W own I0 φ0 lay => ?_
  refine gE @tmR_len ?_
  refine AP.loop rfl (α := Nat) (fun k => [(0, .im (.sl 3 (tmR l))), (1, .fn 67 [] [.ob 0 0]), (7, Iv l.length), (8, Iv k)]) (fun _ => lgH) (fun k => k ≤ l.length ∧ ixF lgT l 0 = ixF lgT (l.drop k) k) (fun k => l.length - k) 0 ⟨by omega, rfl⟩ (sU) rfl fun k ⟨hk, hm⟩ => ?_
  rcases Nat.eq_or_lt_of_le hk with hke | hlt
  · refine gO ?_
    refine cF ?_
    refine gO ?_
    exact AE.ret rfl ⟨rfl, trivial⟩ ⟨rfl, by rw [hm, hke, List.drop_length, ixF]; rfl⟩
  · obtain ⟨u, hu, hrow⟩ := tmR_get l k hlt
    have hw := wr (x := (k : Int) + 1) (by omega)
    have hdr := ixF_drop lgT hu
    refine gO ?_
    refine cT ?_
    refine gE @hrow ?_
    refine ⟨by rw [tmR_len]; omega, ?_⟩
    refine gO ?_
    refine AQ.callI (by kernel_rfl) rfl rfl rfl (h k u hu) ?_
    refine sI ?_
    refine gO ?_
    refine AP.cond rfl rfl (fun h1 => ?_) (fun h1 => ?_)
    · refine gO ?_
      exact AE.ret rfl ⟨rfl, trivial⟩ ⟨rfl, by rw [hm, hdr, if_pos (by simpa using h1)]; rfl⟩
    · refine gE @hw ?_
      exact AE.round (k + 1) ⟨by omega, by rw [hm, hdr, if_neg (by simpa using h1)]⟩ (by omega) (sU) rfl
theorem anyT_specS (l : List Tm) (hl : l.length ≤ 9223372036854775807) (h : ∀ (k : Nat) (t : Tm), l[k]? = some t → ACall Tryz.prog 67 [tmV t, .ob 0 0] lgH (fun r H' => H' = lgH ∧ r = Bv (lgT t))) :
    ACall Tryz.prog 68 [.im (.sl 3 (tmR l)), .fn 67 [] [.ob 0 0]] lgH (fun r H' => H' = lgH ∧ r = Bv (l.any lgT)) := by
  refine ACall.walk [0, 1, 4] [] Tryz.func68 rfl Tryz.ntmps68 (by kernel_rfl) (by rfl) rfl fun W own I0 φ0 lay => ?_
  refine gO ?_
  refine AQ.callI (by kernel_rfl) rfl rfl rfl (ixT_specS l hl h) ?_
  refine sI ?_
  refine gO ?_
  exact AE.ret rfl ⟨rfl, trivial⟩ ⟨rfl, by rw [← ixF_any lgT l 0]; rfl⟩
theorem long_specS (t : Tm) (hs : tmS t) : ACall Tryz.prog 67 [tmV t, .ob 0 0] lgH (fun r H' => H' = lgH ∧ r = Bv (lgT t)) := by
  have hs0 := tmS_eq.1 hs
  have ha := anyT_specS t.xs hs0.2.1 fun k u hu => long_specS u (tmsS_get hs0.2.2 hu)
  refine ACall.walk [0, 1, 2, 3] [] Tryz.func67 rfl Tryz.ntmps67 (by kernel_rfl) (by rfl) rfl fun W own I0 φ0 lay => ?_
  refine gO ?_
  refine AQ.callI_g (by kernel_rfl) rfl rfl rfl (fun h => by first | (simp [gs, AV.g]; done) | (simp [gs, AV.g, constAV]; done) | (simp [gs, AV.g, constAV, bw] at h ⊢; done) | (simp [gs, AV.g, constAV, bw] at h ⊢; exact h) | (simp [gs, AV.g, constAV, bw] at h ⊢; simp [h]; done) | (simp [bw] at h; done) | (simp [gs, AV.g, bw] at h ⊢; simp [h]; done) | (simp [gs, AV.g, bw] at h ⊢; exact h.1) | (simp [gs, AV.g]; rfl) | (simp [gs, AV.g, bw] at h ⊢; rfl) | (simp [gs, AV.g, bw] at h ⊢; simp [h]; rfl) | (simp [gs, AV.g, bw] at h ⊢; simp_all)) (fun _ => ha) ?_
  refine sI ?_
  refine gO ?_
  exact AE.ret rfl ⟨rfl, trivial⟩ ⟨rfl, by rw [lgT_eq, show decide (100 < t.nm.length) = decide ((100 : Int) < t.nm.length) from by rw [decide_eq_decide]; omega]; rfl⟩
termination_by SizeOf.sizeOf t
decreasing_by exact tm_mem hu
theorem longL_specS (l : Lt) (hs : ltS l) : ACall Tryz.prog 69 [ltV l, .ob 0 0] lgH (fun r H' => H' = lgH ∧ r = Bv (lgL l)) := by
  have ha := anyT_specS l.xs hs.2.1 fun k u hu => long_specS u (tmsS_get hs.2.2 hu)
  refine ACall.walk [0, 1, 2, 3] [] Tryz.func69 rfl Tryz.ntmps69 (by kernel_rfl) (by rfl) rfl fun W own I0 φ0 lay => ?_
  refine gO ?_
  refine AQ.callI_g (by kernel_rfl) rfl rfl rfl (fun h => by first | (simp [gs, AV.g]; done) | (simp [gs, AV.g, constAV]; done) | (simp [gs, AV.g, constAV, bw] at h ⊢; done) | (simp [gs, AV.g, constAV, bw] at h ⊢; exact h) | (simp [gs, AV.g, constAV, bw] at h ⊢; simp [h]; done) | (simp [bw] at h; done) | (simp [gs, AV.g, bw] at h ⊢; simp [h]; done) | (simp [gs, AV.g, bw] at h ⊢; exact h.1) | (simp [gs, AV.g]; rfl) | (simp [gs, AV.g, bw] at h ⊢; rfl) | (simp [gs, AV.g, bw] at h ⊢; simp [h]; rfl) | (simp [gs, AV.g, bw] at h ⊢; simp_all)) (fun _ => ha) ?_
  refine sI ?_
  refine gO ?_
  exact AE.ret rfl ⟨rfl, trivial⟩ ⟨rfl, by rw [lgL, show decide (100 < l.pd.length) = decide ((100 : Int) < l.pd.length) from by rw [decide_eq_decide]; omega]; rfl⟩
theorem ixL_specS (l : List Lt) (hl : l.length ≤ 9223372036854775807) (h : ∀ (k : Nat) (t : Lt), l[k]? = some t → ACall Tryz.prog 69 [ltV t, .ob 0 0] lgH (fun r H' => H' = lgH ∧ r = Bv (lgL t))) :
    ACall Tryz.prog 118 [.im (.sl 3 (ltR l)), .fn 69 [] [.ob 0 0]] lgH (fun r H' => H' = lgH ∧ r = Iv (ixF lgL l 0)) := by
  refine ACall.walk [0, 1, 4, 5, 7, 8, 9, 16] [] Tryz.func118 rfl Tryz.ntmps118 (by kernel_rfl) (by rfl) rfl fun W own I0 φ0 lay => ?_
  refine gE @ltR_len ?_
  refine AP.loop rfl (α := Nat) (fun k => [(0, .im (.sl 3 (ltR l))), (1, .fn 69 [] [.ob 0 0]), (7, Iv l.length), (8, Iv k)]) (fun _ => lgH) (fun k => k ≤ l.length ∧ ixF lgL l 0 = ixF lgL (l.drop k) k) (fun k => l.length - k) 0 ⟨by omega, rfl⟩ (sU) rfl fun k ⟨hk, hm⟩ => ?_
  rcases Nat.eq_or_lt_of_le hk with hke | hlt
  · refine gO ?_
    refine cF ?_
    refine gO ?_
    exact AE.ret rfl ⟨rfl, trivial⟩ ⟨rfl, by rw [hm, hke, List.drop_length, ixF]; rfl⟩
  · obtain ⟨u, hu, hrow⟩ := ltR_get l k hlt
    have hw := wr (x := (k : Int) + 1) (by omega)
    have hdr := ixF_drop lgL hu
    refine gO ?_
    refine cT ?_
    refine gE @hrow ?_
    refine ⟨by rw [ltR_len]; omega, ?_⟩
    refine gO ?_
    refine AQ.callI (by kernel_rfl) rfl rfl rfl (h k u hu) ?_
    refine sI ?_
    refine gO ?_
    refine AP.cond rfl rfl (fun h1 => ?_) (fun h1 => ?_)
    · refine gO ?_
      exact AE.ret rfl ⟨rfl, trivial⟩ ⟨rfl, by rw [hm, hdr, if_pos (by simpa using h1)]; rfl⟩
    · refine gE @hw ?_
      exact AE.round (k + 1) ⟨by omega, by rw [hm, hdr, if_neg (by simpa using h1)]⟩ (by omega) (sU) rfl
theorem anyL_specS (l : List Lt) (hl : l.length ≤ 9223372036854775807) (h : ∀ (k : Nat) (t : Lt), l[k]? = some t → ACall Tryz.prog 69 [ltV t, .ob 0 0] lgH (fun r H' => H' = lgH ∧ r = Bv (lgL t))) :
    ACall Tryz.prog 46 [.im (.sl 3 (ltR l)), .fn 69 [] [.ob 0 0]] lgH (fun r H' => H' = lgH ∧ r = Bv (l.any lgL)) := by
  refine ACall.walk [0, 1, 4] [] Tryz.func46 rfl Tryz.ntmps46 (by kernel_rfl) (by rfl) rfl fun W own I0 φ0 lay => ?_
  refine gO ?_
  refine AQ.callI (by kernel_rfl) rfl rfl rfl (ixL_specS l hl h) ?_
  refine sI ?_
  refine gO ?_
  exact AE.ret rfl ⟨rfl, trivial⟩ ⟨rfl, by rw [← ixF_any lgL l 0]; rfl⟩
theorem named_specS (c : List Lt) (hs : clS c) : PFn Tryz.prog 11 [clV c] (Bv (!c.any lgL)) := by
  have ha := anyL_specS c hs.1 fun k u hu => longL_specS u (clS_get hs hu)
  refine ACall.walk [0, 2, 3] [3] Tryz.func11 rfl Tryz.ntmps11 (by kernel_rfl) (by rfl) rfl fun W own I0 φ0 lay => ?_
  refine gO ?_
  refine AQ.callI (by kernel_rfl) rfl rfl rfl (ha) ?_
  refine sI ?_
  refine gO ?_
  exact AE.retD [0] rfl ⟨rfl, trivial⟩ rfl ⟨rfl, rfl⟩
theorem small_specS (c : List Lt) (m : Int) (hs : clS c) (hm : 0 ≤ m ∧ m ≤ 1000000000) : PFn Tryz.prog 29 [clV c, Iv m] (Bv (decide (ndN c m ≤ m) && !c.any lgL)) := by
  refine ACall.walk [0, 1, 4] [] Tryz.func29 rfl Tryz.ntmps29 (by kernel_rfl) (by rfl) rfl fun W own I0 φ0 lay => ?_
  refine gO ?_
  refine AQ.fn (by kernel_rfl) rfl rfl rfl (nodes_specS c m hs hm) rfl ?_
  refine sI ?_
  refine gO ?_
  refine AQ.fn_g (by kernel_rfl) rfl rfl (fun h => by first | (simp [gs, AV.g]; done) | (simp [gs, AV.g, constAV]; done) | (simp [gs, AV.g, constAV, bw] at h ⊢; done) | (simp [gs, AV.g, constAV, bw] at h ⊢; exact h) | (simp [gs, AV.g, constAV, bw] at h ⊢; simp [h]; done) | (simp [bw] at h; done) | (simp [gs, AV.g, bw] at h ⊢; simp [h]; done) | (simp [gs, AV.g, bw] at h ⊢; exact h.1) | (simp [gs, AV.g]; rfl) | (simp [gs, AV.g, bw] at h ⊢; rfl) | (simp [gs, AV.g, bw] at h ⊢; simp [h]; rfl) | (simp [gs, AV.g, bw] at h ⊢; simp_all)) rfl (fun _ => named_specS c hs) rfl ?_
  refine sI ?_
  refine gO ?_
  exact AE.ret0 rfl ⟨rfl, trivial⟩ rfl ⟨rfl, rfl⟩
end Go.Proofs.YtpfohmboflcneaaGreatDoor
end

section
namespace Go.Proofs.YtpfohmboflcneaaGreatDoor
open Go Go.AL Go.RowKit
set_option maxRecDepth 10000
set_option maxHeartbeats 4000000
def smB (c : List Lt) (m : Int) : Bool := decide (ndN c m ≤ m) && !c.any lgL
mutual
theorem lgT_L : ∀ t : Tm, lgT t = false → wT t ≤ 1000000 → tmL t
  | .mk n i xs, h, hw => by
    rw [lgT, Bool.or_eq_false_iff, decide_eq_false_iff_not] at h
    rw [wT] at hw
    have := wTs_le xs
    rw [tmL]
    exact ⟨by omega, by omega, lgTs_L xs h.2 (by omega)⟩
theorem lgTs_L : ∀ l : List Tm, lgTs l = false → wTs l ≤ 1000000 → tmsL l
  | [], _, _ => by rw [tmsL]; trivial
  | t :: l, h, hw => by
    rw [lgTs, Bool.or_eq_false_iff] at h
    rw [wTs] at hw
    rw [tmsL]
    exact ⟨lgT_L t h.1 (by omega), lgTs_L l h.2 (by omega)⟩
end
theorem smB_L {c : List Lt} {m : Int} (hm : 0 ≤ m ∧ m ≤ 1000000) (h : smB c m = true) : clL c ∧ (ndC c : Int) ≤ m := by
  rw [smB, Bool.and_eq_true, decide_eq_true_iff, Bool.not_eq_true'] at h
  obtain ⟨_, h2⟩ := ndN_is c m hm.1
  have hn : (ndC c : Int) ≤ m := Int.not_lt.1 fun hc => by have := h2 hc; omega
  have hf := ndC_flat c
  refine ⟨⟨by omega, fun l hl => ?_⟩, hn⟩
  have h3 : lgL l = false := by
    have := h.2
    rw [List.any_eq_false] at this
    simpa using this l hl
  rw [lgL, Bool.or_eq_false_iff, decide_eq_false_iff_not] at h3
  have h4 := ndC_mem c l hl
  rw [ndL] at h4
  have h5 := wTs_le l.xs
  exact ⟨by omega, by omega, lgTs_L l.xs (by rw [lgTs_any]; exact h3.2) (by omega)⟩
mutual
theorem unR_L {l : Bd} (hl : ∀ b ∈ l, tmL b.2) : ∀ t : Tm, tmL t → tmL (unR l t)
  | .mk n i xs, h => by
    rw [unR]
    split
    · rw [lkB_I]
      cases hq : lkI l i with
      | none => exact h
      | some x => exact hl _ (lkI_mem hq)
    · rw [tmL] at h ⊢
      exact ⟨h.1, by rw [unRs_map, List.length_map]; exact h.2.1, unRs_L hl xs h.2.2⟩
theorem unRs_L {l : Bd} (hl : ∀ b ∈ l, tmL b.2) : ∀ k : List Tm, tmsL k → tmsL (unRs l k)
  | [], _ => by rw [unRs, tmsL]; trivial
  | t :: k, h => by
    rw [tmsL] at h
    rw [unRs, tmsL]
    exact ⟨unR_L hl t h.1, unRs_L hl k h.2⟩
end
theorem apO_L {c : List Lt} {l : Bd} (hc : clL c) (hl : bdL l) : clL (apO c l) := by
  refine ⟨by rw [apO, List.length_map]; exact hc.1, fun x hx => ?_⟩
  rw [apO] at hx
  obtain ⟨y, hy, rfl⟩ := List.mem_map.1 hx
  have h := hc.2 y hy
  exact ⟨h.1, by rw [unL]; simp only; rw [unRs_map, List.length_map]; exact h.2.1, unRs_L hl.2 _ h.2.2⟩
theorem clL_nil : clL ([] : List Lt) := ⟨by simp, fun l hl => by cases hl⟩
theorem ayR_L {c : List Lt} {l : Bd} (hc : clL c) (hl : bdL l) : clL (ayR c l) := by
  rw [ayR]
  split
  · exact clL_nil
  · split
    · exact clL_nil
    · rw [apR]
      split
      · exact apO_L hc hl
      · exact clL_nil
def bdS (l : Bd) : Prop := l.length ≤ 9223372036854775807 ∧ ∀ b ∈ l, tmS b.2
theorem lawBd_spec (l : Bd) (hs : bdL l) : PFn Tryz.prog 33 [bdV l] (bdV l) := by
  have hl := hs.1
  refine ACall.walk [0, 2, 3, 5, 6, 7, 8, 9] [5] Tryz.func33 rfl Tryz.ntmps33 (by kernel_rfl) (by rfl) rfl fun W own I0 φ0 lay => ?_
  refine gE @bdR_len ?_
  refine AP.own 3 98 4 rfl ?_
  refine sI ?_
  refine AP.loop rfl (α := Nat) (fun k => [(3, .os 0 4 0 k), (6, bdV l), (7, Iv l.length), (8, Iv k)]) (fun k => [(0, .vec 98 4 (bdR (l.take k)))]) (fun k => k ≤ l.length) (fun k => l.length - k) 0 (by omega) (sU) rfl fun k hk => ?_
  rcases Nat.eq_or_lt_of_le hk with hke | hlt
  · subst hke
    rw [List.take_length]
    refine gO ?_
    refine cF ?_
    refine gO ?_
    refine AE.freeze 0 (el := 98) (es := 4) (rows := bdR l) rfl (by simp only [go_sem, Nat.reduceAdd, Nat.reduceLeDiff, Nat.reduceSub, Int.reduceToNat, reduceCtorEq, bdR_len]; first | done | trivial | omega | (simp; done) | (simp; omega)) (by simp only [go_sem, Nat.reduceAdd, Nat.reduceLeDiff, Nat.reduceSub, Int.reduceToNat, reduceCtorEq, bdR_len]; first | done | trivial | omega | (simp; done) | (simp; omega)) ?_; simp only [go_sem, Nat.reduceAdd, Nat.reduceLeDiff, Nat.reduceSub, Int.reduceToNat, reduceCtorEq, bdR_len]
    rw [List.take_of_length_le (by rw [bdR_len]; exact Nat.le_refl _)]
    exact AE.ret0 rfl ⟨rfl, trivial⟩ rfl ⟨rfl, rfl⟩
  · obtain ⟨u, hu, hrow⟩ := bdR_get l k hlt
    have hw := wr (x := (k : Int) + 1) (by omega)
    have htk := take_len (l := l) (k := k) (by omega)
    have hsn : bdR (l.take (k + 1)) = bdR (l.take k) ++ [bdRow u] := by rw [take_snoc hu, bdR, List.map_append]; rfl
    have hcv := conv_spec u.2 (hs.2 u (List.mem_of_getElem? hu))
    refine gO ?_
    refine cT ?_
    refine gE (an @hrow @bdR_len) ?_
    refine AP.fix 1 rfl rfl ?_
    refine sI ?_
    refine AP.drawE 9 (Tree.node [] [0, 1, 2, 3, 4] [5] [Tree.node [0, 1, 2] [6] [7] [Tree.node [0] [] [8] [Tree.node [] [] [] []]]]) (by kernel_rfl) rfl (by kernel_rfl) (by kernel_rfl) ?_
    refine vd_node ?_
    refine sI ?_
    refine AQ.fn (by kernel_rfl) rfl rfl rfl (hcv) rfl ?_
    refine sI ?_
    refine AQ.nx rfl ?_
    refine sI ?_
    refine AQ.go (by kernel_rfl) ?_
    refine sI ?_
    refine AQ.nx rfl ?_
    refine sI ?_
    refine AQ.append (hnb := rfl) (rows := bdR (l.take k)) (es := 3) (by kernel_rfl) rfl rfl rfl (by rfl) Tryz.tk64 Tryz.sz98 (by show Option.map _ (zro Tryz.prog 98) = _; rw [Tryz.zr98]; rfl) Tryz.by98 (by first | rfl | (simp only [bdR_len, htk, List.length_cons, List.length_nil]; done) | (simp only [bdR_len, htk, List.length_cons, List.length_nil]; omega)) (by simp only [bdR_len, htk, List.length_cons, List.length_nil]; omega) (by simp only [bdR_len, htk, List.length_cons, List.length_nil]; omega) ?_
    refine sI ?_
    refine AQ.nx rfl ?_
    refine sI ?_
    refine AQ.done ?_
    refine gE @hw ?_
    refine AE.round (k + 1) (by omega) (by omega) (by simp only [bdR_len, htk]; exact (sU)) ?_
    rw [hsn]
theorem app1_spec (b : Int × Tm) (hs : tmS b.2) : PFn Tryz.prog 31 [.agg [Iv b.1, Sv b.2.nm, Iv b.2.ix, .im (.sl 3 (tmR b.2.xs))]] (Bv (!smB (sgC b.2) 200)) := by
  have hsm := small_specS (sgC b.2) 200 ⟨by simp [sgC], fun l hl => by
    rw [sgC, List.mem_singleton] at hl
    subst hl
    exact ⟨by simp, by simp, by rw [tmsS, tmsS]; exact ⟨hs, trivial⟩⟩⟩ (by omega)
  have e : clV (sgC b.2) = .im (.sl 3 [[Bi false, Si [80], .sl 3 [[Si b.2.nm, Ii b.2.ix, .sl 3 (tmR b.2.xs)]]]]) := by
    rw [clV, ltR, sgC, List.map_cons, List.map_nil, ltRow]
    simp only [tmR, tmC_eq]
  rw [e] at hsm
  refine ACall.walk [0, 1, 2] [] Tryz.func31 rfl Tryz.ntmps31 (by kernel_rfl) (by rfl) rfl fun W own I0 φ0 lay => ?_
  refine gO ?_
  refine AQ.fn (by kernel_rfl) rfl rfl rfl (hsm) rfl ?_
  refine sI ?_
  refine gO ?_
  exact AE.ret0 rfl ⟨rfl, trivial⟩ rfl ⟨rfl, rfl⟩
theorem ixB_spec (l : Bd) (hs : bdS l) : PFn Tryz.prog 103 [bdV l, .fn 31 [] []] (Iv (ixF (fun b : Int × Tm => !smB (sgC b.2) 200) l 0)) := by
  have hl := hs.1
  refine ACall.walk [0, 1, 4, 5, 7, 8, 9, 16] [] Tryz.func103 rfl Tryz.ntmps103 (by kernel_rfl) (by rfl) rfl fun W own I0 φ0 lay => ?_
  refine gE @bdR_len ?_
  refine AP.loop rfl (α := Nat) (fun k => [(0, bdV l), (1, .fn 31 [] []), (7, Iv l.length), (8, Iv k)]) (fun _ => []) (fun k => k ≤ l.length ∧ ixF (fun b : Int × Tm => !smB (sgC b.2) 200) l 0 = ixF (fun b : Int × Tm => !smB (sgC b.2) 200) (l.drop k) k) (fun k => l.length - k) 0 ⟨by omega, rfl⟩ (sU) rfl fun k ⟨hk, hm⟩ => ?_
  rcases Nat.eq_or_lt_of_le hk with hke | hlt
  · refine gO ?_
    refine cF ?_
    refine gO ?_
    exact AE.ret0 rfl ⟨rfl, trivial⟩ rfl ⟨rfl, by rw [hm, hke, List.drop_length, ixF]; rfl⟩
  · obtain ⟨u, hu, hrow⟩ := bdR_get l k hlt
    have hw := wr (x := (k : Int) + 1) (by omega)
    have hdr := ixF_drop (fun b : Int × Tm => !smB (sgC b.2) 200) hu
    refine gO ?_
    refine cT ?_
    refine gE @hrow ?_
    refine ⟨by rw [bdR_len]; omega, ?_⟩
    refine gO ?_
    refine AQ.callF [] (by kernel_rfl) rfl rfl rfl rfl rfl rfl (fun k => by exact trivial) (fun k => rfl) (fun k => rfl) (app1_spec u (hs.2 u (List.mem_of_getElem? hu))) ?_
    refine sI ?_
    refine gO ?_
    refine AP.cond rfl rfl (fun h1 => ?_) (fun h1 => ?_)
    · refine gO ?_
      exact AE.ret0 rfl ⟨rfl, trivial⟩ rfl ⟨rfl, by rw [hm, hdr, if_pos (by simpa using h1)]; rfl⟩
    · refine gE @hw ?_
      exact AE.round (k + 1) ⟨by omega, by rw [hm, hdr, if_neg (by simpa using h1)]⟩ (by omega) (sU) rfl
theorem anyB_spec (l : Bd) (hs : bdS l) : PFn Tryz.prog 30 [bdV l, .fn 31 [] []] (Bv (l.any fun b => !smB (sgC b.2) 200)) := by
  refine ACall.walk [0, 1, 4] [] Tryz.func30 rfl Tryz.ntmps30 (by kernel_rfl) (by rfl) rfl fun W own I0 φ0 lay => ?_
  refine gO ?_
  refine AQ.fn (by kernel_rfl) rfl rfl rfl (ixB_spec l hs) rfl ?_
  refine sI ?_
  refine gO ?_
  exact AE.ret0 rfl ⟨rfl, trivial⟩ rfl ⟨rfl, by rw [← ixF_any (fun b : Int × Tm => !smB (sgC b.2) 200) l 0]; rfl⟩
theorem all2_self : ∀ c : List Lt, all2 sameL c c = true := fun c => (all2_same c c).2 rfl
theorem applies_walk (c : List Lt) (l : Bd) (hc : clS c) (hl : bdS l) : PFn Tryz.prog 4 [clV c, bdV l] (Bv true) := by
  refine ACall.walk [0, 1, 4, 5, 6, 7, 8, 20] [] Tryz.func4 rfl Tryz.ntmps4 (by kernel_rfl) (by rfl) rfl fun W own I0 φ0 lay => ?_
  refine gO ?_
  refine AQ.fn (by kernel_rfl) rfl rfl rfl (small_specS c 60 hc (by omega)) rfl ?_
  refine sI ?_
  refine gE @bdR_len ?_
  refine AQ.fn_g (by kernel_rfl) rfl rfl (fun h => by first | (simp [gs, AV.g]; done) | (simp [gs, AV.g, constAV]; done) | (simp [gs, AV.g, constAV, bw] at h ⊢; done) | (simp [gs, AV.g, constAV, bw] at h ⊢; exact h) | (simp [gs, AV.g, constAV, bw] at h ⊢; simp [h]; done) | (simp [bw] at h; done) | (simp [gs, AV.g, bw] at h ⊢; simp [h]; done) | (simp [gs, AV.g, bw] at h ⊢; exact h.1) | (simp [gs, AV.g]; rfl) | (simp [gs, AV.g, bw] at h ⊢; rfl) | (simp [gs, AV.g, bw] at h ⊢; simp [h]; rfl) | (simp [gs, AV.g, bw] at h ⊢; simp_all)) rfl (fun _ => anyB_spec l hl) rfl ?_
  refine sI ?_
  refine gO ?_
  refine AP.cond rfl rfl (fun h => ?_) (fun h => ?_)
  · refine gO ?_
    refine AQ.fn (by kernel_rfl) rfl rfl rfl (awake_spec) rfl ?_
    refine sI ?_
    refine gO ?_
    exact AE.ret0 rfl ⟨rfl, trivial⟩ rfl ⟨rfl, rfl⟩
  · have h1 : smB c 60 = true ∧ l.length ≤ 12 ∧ l.any (fun b => !smB (sgC b.2) 200) = false := by
      rw [Bool.or_eq_false_iff, Bool.or_eq_false_iff, Bool.not_eq_false', decide_eq_false_iff_not, bdR_len] at h
      exact ⟨h.1.1, by have := h.1.2; omega, h.2⟩
    obtain ⟨hcL, hcn⟩ := smB_L (by omega) h1.1
    have hlL : bdL l := ⟨by have := h1.2.1; omega, fun b hb => by
      have h2 := h1.2.2
      rw [List.any_eq_false] at h2
      have h3 := (smB_L (c := sgC b.2) (m := 200) (by omega) (by simpa using h2 b hb)).1.2 ⟨false, [80], [b.2]⟩ (by rw [sgC]; exact List.mem_singleton.2 rfl)
      have h4 := h3.2.2
      rw [tmsL] at h4
      exact h4.1⟩
    have hoL := apO_L hcL hlL
    have hrL := ayR_L hcL hlL
    have hsa := same_spec (ayR c l) (ayR c l) hrL
    rw [all2_self] at hsa
    have hR := applyR_spec c l hcL hlL hoL
    have hP := apply_spec c l hcL hlL
    clear h
    generalize ayR c l = o at *
    generalize ayE c l = e at *
    refine gO ?_
    refine AQ.fn (by kernel_rfl) rfl rfl rfl (clause_spec c hcL) rfl ?_
    refine sI ?_
    refine gO ?_
    refine AQ.fn (by kernel_rfl) rfl rfl rfl (lawBd_spec l hlL) rfl ?_
    refine sI ?_
    refine gO ?_
    refine AQ.fn (by kernel_rfl) rfl rfl rfl (hP) rfl ?_
    refine sI ?_
    refine gO ?_
    refine AQ.fn (by kernel_rfl) rfl rfl rfl (hR) rfl ?_
    refine sI ?_
    refine gO ?_
    refine AQ.fn (by kernel_rfl) rfl rfl rfl (hsa) rfl ?_
    refine sI ?_
    refine gO ?_
    have hee : (e == e) = true := by simp
    refine gE @hee ?_
    refine AQ.fn_g (by kernel_rfl) rfl rfl (fun h => by first | (simp [gs, AV.g]; done) | (simp [gs, AV.g, constAV]; done) | (simp [gs, AV.g, constAV, bw] at h ⊢; done) | (simp [gs, AV.g, constAV, bw] at h ⊢; exact h) | (simp [gs, AV.g, constAV, bw] at h ⊢; simp [h]; done) | (simp [bw] at h; done) | (simp [gs, AV.g, bw] at h ⊢; simp [h]; done) | (simp [gs, AV.g, bw] at h ⊢; exact h.1) | (simp [gs, AV.g]; rfl) | (simp [gs, AV.g, bw] at h ⊢; rfl) | (simp [gs, AV.g, bw] at h ⊢; simp [h]; rfl) | (simp [gs, AV.g, bw] at h ⊢; simp_all)) rfl (fun _ => awake_spec) rfl ?_
    refine sI ?_
    refine gO ?_
    exact AE.ret0 rfl ⟨rfl, trivial⟩ rfl ⟨rfl, by simp [tupOf]; rfl⟩
end Go.Proofs.YtpfohmboflcneaaGreatDoor
end

section
namespace Go.Proofs.YtpfohmboflcneaaGreatDoor
open Go Go.AL Go.RowKit
set_option maxRecDepth 100000
theorem typed_slice2 {P : Program} {n : Nat} {t e : TypeId} {xs : List IV} (ht : P.underlying t = some (.slice e)) (h : Typed P n t xs) : ∃ rows m, n = m + 1 ∧ xs = [.sl (P.cellsOf e) rows] ∧ rows.length ≤ maxLen ∧ ∀ r ∈ rows, Typed P m e r := by
  cases n with
  | zero => exact h.elim
  | succ n =>
    simp only [Typed, ht] at h
    obtain ⟨rows, h1, h2, h3⟩ := h
    exact ⟨rows, n, rfl, h1, h2, h3⟩
theorem typed_struct2 {P : Program} {n : Nat} {t : TypeId} {fs : Array Field} {xs : List IV} (ht : P.underlying t = some (.struct fs)) (h : Typed P n t xs) :
    ∃ m, n = m + 1 ∧ xs.length = P.cellsOf t ∧ ∀ (i : Nat) (f : Field), fs.toList[i]? = some f → Typed P m f.type ((xs.drop f.offset).take (P.cellsOf f.type)) := by
  cases n with
  | zero => exact h.elim
  | succ n =>
    simp only [Typed, ht] at h
    exact ⟨n, rfl, h⟩
theorem str_of {n : Nat} {xs : List IV} (h : Typed Tryz.prog n 9 xs) : ∃ l : List UInt8, xs = [Si l] ∧ l.length ≤ 9223372036854775807 := by
  obtain ⟨s, rfl, hs⟩ := typed_str Tryz.underlying9 h
  refine ⟨s.data.toList, congrArg (fun x => [IV.v (Value.string x)]) (BA_of s), ?_⟩
  have e : s.size = s.data.size := rfl
  have e2 : s.data.toList.length = s.data.size := Array.length_toList
  unfold maxLen at hs
  omega
theorem tmsS_of : ∀ {l : List Tm}, (∀ t ∈ l, tmS t) → tmsS l
  | [], _ => by rw [tmsS]; trivial
  | t :: l, h => by rw [tmsS]; exact ⟨h t (List.mem_cons_self ..), tmsS_of fun u hu => h u (List.mem_cons_of_mem _ hu)⟩
theorem tm_of : ∀ (n : Nat) {xs : List IV}, Typed Tryz.prog n 57 xs → ∃ t : Tm, xs = tmC t ∧ tmS t := by
  intro n
  induction n using Nat.strongRecOn with
  | _ n ih =>
  intro xs h
  have hc : Tryz.prog.cellsOf 57 = 3 := by kernel_rfl
  have hc9 : Tryz.prog.cellsOf 9 = 1 := by kernel_rfl
  have hc3 : Tryz.prog.cellsOf 3 = 1 := by kernel_rfl
  have hc55 : Tryz.prog.cellsOf 55 = 1 := by kernel_rfl
  obtain ⟨m, rfl, hlen, hf⟩ := typed_struct2 Tryz.underlying57 h
  rw [hc] at hlen
  match xs, hlen with
  | [a, b, c], _ =>
    have f0 := hf 0 _ rfl
    have f1 := hf 1 _ rfl
    have f2 := hf 2 _ rfl
    simp only [hc9, hc3, hc55, List.drop_zero, List.take_succ_cons, List.take_zero, List.drop_succ_cons] at f0 f1 f2
    obtain ⟨nm, e0, l0⟩ := str_of f0
    obtain ⟨ix, e1, _⟩ := typed_int Tryz.underlying3 f1
    obtain ⟨rows, m', rfl, e2, hl, hrow⟩ := typed_slice2 Tryz.underlying55 f2
    obtain ⟨l, rfl, hp⟩ := rows_of (p := tmS) (f := tmC) rows fun r hr => ih m' (by omega) (hrow r hr)
    cases e0; cases e1; cases e2
    rw [List.length_map] at hl
    unfold maxLen at hl
    exact ⟨.mk nm ix l, by rw [tmC, tmR_map, hc], by rw [tmS]; exact ⟨l0, by omega, tmsS_of hp⟩⟩
theorem tms_of (n : Nat) {xs : List IV} (h : Typed Tryz.prog n 55 xs) : ∃ l : List Tm, xs = [.sl 3 (tmR l)] ∧ l.length ≤ 9223372036854775807 ∧ tmsS l := by
  have hc : Tryz.prog.cellsOf 57 = 3 := by kernel_rfl
  obtain ⟨rows, m', rfl, rfl, hl, hrow⟩ := typed_slice2 Tryz.underlying55 h
  obtain ⟨l, rfl, hp⟩ := rows_of (p := tmS) (f := tmC) rows fun r hr => tm_of m' (hrow r hr)
  rw [List.length_map] at hl
  unfold maxLen at hl
  exact ⟨l, by rw [tmR_map, hc], by omega, tmsS_of hp⟩
theorem lt_of (n : Nat) {xs : List IV} (h : Typed Tryz.prog n 61 xs) : ∃ l : Lt, xs = ltRow l ∧ ltS l := by
  have hc : Tryz.prog.cellsOf 61 = 3 := by kernel_rfl
  have hc9 : Tryz.prog.cellsOf 9 = 1 := by kernel_rfl
  have hc4 : Tryz.prog.cellsOf 4 = 1 := by kernel_rfl
  have hc55 : Tryz.prog.cellsOf 55 = 1 := by kernel_rfl
  obtain ⟨m, rfl, hlen, hf⟩ := typed_struct2 Tryz.underlying61 h
  rw [hc] at hlen
  match xs, hlen with
  | [a, b, c], _ =>
    have f0 := hf 0 _ rfl
    have f1 := hf 1 _ rfl
    have f2 := hf 2 _ rfl
    simp only [hc9, hc4, hc55, List.drop_zero, List.take_succ_cons, List.take_zero, List.drop_succ_cons] at f0 f1 f2
    obtain ⟨ng, e0⟩ := typed_bool Tryz.underlying4 f0
    obtain ⟨pd, e1, l1⟩ := str_of f1
    obtain ⟨l, e2, l2, l3⟩ := tms_of m f2
    cases e0; cases e1; cases e2
    exact ⟨⟨ng, pd, l⟩, rfl, l1, l2, l3⟩
theorem cl_of (n : Nat) {xs : List IV} (h : Typed Tryz.prog n 23 xs) : ∃ c : List Lt, xs = [.sl 3 (ltR c)] ∧ clS c := by
  have hc : Tryz.prog.cellsOf 61 = 3 := by kernel_rfl
  obtain ⟨rows, m', rfl, rfl, hl, hrow⟩ := typed_slice2 Tryz.underlying23 h
  obtain ⟨l, rfl, hp⟩ := rows_of (p := ltS) (f := ltRow) rows fun r hr => lt_of m' (hrow r hr)
  rw [List.length_map] at hl
  unfold maxLen at hl
  exact ⟨l, by rw [ltR, hc], by omega, hp⟩
theorem bd_of (n : Nat) {xs : List IV} (h : Typed Tryz.prog n 59 xs) : ∃ b : Int × Tm, xs = bdRow b ∧ tmS b.2 := by
  have hc : Tryz.prog.cellsOf 59 = 4 := by kernel_rfl
  have hc3 : Tryz.prog.cellsOf 3 = 1 := by kernel_rfl
  have hc57 : Tryz.prog.cellsOf 57 = 3 := by kernel_rfl
  obtain ⟨m, rfl, hlen, hf⟩ := typed_struct2 Tryz.underlying59 h
  rw [hc] at hlen
  match xs, hlen with
  | [a, b, c, d], _ =>
    have f0 := hf 0 _ rfl
    have f1 := hf 1 _ rfl
    simp only [hc3, hc57, List.drop_zero, List.take_succ_cons, List.take_zero, List.drop_succ_cons] at f0 f1
    obtain ⟨v, e0, _⟩ := typed_int Tryz.underlying3 f0
    obtain ⟨t, e1, l1⟩ := tm_of m f1
    rw [tmC_eq] at e1
    cases e0; cases e1
    exact ⟨(v, t), rfl, l1⟩
theorem bds_of (n : Nat) {xs : List IV} (h : Typed Tryz.prog n 52 xs) : ∃ l : Bd, xs = [.sl 4 (bdR l)] ∧ bdS l := by
  have hc : Tryz.prog.cellsOf 59 = 4 := by kernel_rfl
  obtain ⟨rows, m', rfl, rfl, hl, hrow⟩ := typed_slice2 Tryz.underlying52 h
  obtain ⟨l, rfl, hp⟩ := rows_of (p := fun b : Int × Tm => tmS b.2) (f := bdRow) rows fun r hr => bd_of m' (hrow r hr)
  rw [List.length_map] at hl
  unfold maxLen at hl
  exact ⟨l, by rw [bdR, hc], by omega, hp⟩
theorem gSyn : Tryz.prog.globalNamed "strconv.ErrSyntax" = some 1 := by kernel_rfl
theorem gRng : Tryz.prog.globalNamed "strconv.ErrRange" = some 2 := by kernel_rfl
theorem gPow : Tryz.prog.globalNamed "internal/strconv.uint64pow10" = some 3 := by kernel_rfl
theorem gSynT : (Tryz.prog.globals[1]?).map (·.type) = some 236 := by kernel_rfl
theorem gRngT : (Tryz.prog.globals[2]?).map (·.type) = some 236 := by kernel_rfl
theorem gPowT : (Tryz.prog.globals[3]?).map (·.type) = some 350 := by kernel_rfl
theorem row346 (u : TypeId) (h : Tryz.prog.typeName? 3 u = some "*errors.errorString") : u = 346 :=
  typeName_ptr_named (nm := "errors.errorString") (by rw [show "*" ++ "errors.errorString" = "*errors.errorString" by decide]; kernel_rfl) (by kernel_rfl) (by decide) u (by rw [show "*" ++ "errors.errorString" = "*errors.errorString" by decide]; exact h)
theorem var_cells {P : Program} {W : World} {n : String} {g : Nat} {cs : Array Value} (hg : P.globalNamed n = some g) (h : W.var? P n = some cs) : g < W.heap.size ∧ ∃ T fz, W.heap[g]? = some (.cells cs T fz) := by
  unfold World.var? at h
  rw [hg, Option.bind_some] at h
  split at h
  · rename_i cs' T fz hh
    cases h
    refine ⟨?_, T, fz, hh⟩
    rcases Nat.lt_or_ge g W.heap.size with h' | h'
    · exact h'
    · rw [Array.getElem?_eq_none h'] at hh; cases hh
  · cases h
theorem vk_of {W : World} (h : laidMet Tryz.prog [("math/bits.deBruijn32tab", Rows.laid_math_bits_deBruijn32tab), ("math/bits.deBruijn64tab", Rows.laid_math_bits_deBruijn64tab), ("internal/strconv.uint64pow10", Rows.laid_internal_strconv_uint64pow10), ("strconv.ErrRange", Rows.laid_strconv_ErrRange), ("strconv.ErrSyntax", Rows.laid_strconv_ErrSyntax)] W) :
    VK Tryz.prog W (fun g => g < W.heap.size) := by
  have h3 := h.tail.tail
  have h4 := h3.tail
  have h5 := h4.tail
  intro x hx g hg
  simp only [laidVars, List.mem_cons, List.not_mem_nil, or_false] at hx
  rcases hx with rfl | rfl | rfl
  · obtain ⟨a, s, hv, _⟩ := laid_sentinel h5 gSyn gSynT Tryz.underlying236 row346 Tryz.underlying346 Tryz.underlying348 rfl rfl Tryz.underlying9 (by kernel_rfl) (by kernel_rfl)
    obtain ⟨h1, T, fz, h2⟩ := var_cells hg hv
    exact ⟨h1, _, h2, _, _, T, fz, rfl⟩
  · obtain ⟨a, s, hv, _⟩ := laid_sentinel h4 gRng gRngT Tryz.underlying236 row346 Tryz.underlying346 Tryz.underlying348 rfl rfl Tryz.underlying9 (by kernel_rfl) (by kernel_rfl)
    obtain ⟨h1, T, fz, h2⟩ := var_cells hg hv
    exact ⟨h1, _, h2, _, _, T, fz, rfl⟩
  · have ht : Lib.TabIs Tryz.prog W "internal/strconv.uint64pow10" .u64 Lib.pow10Tab := Lib.tabIs_of_head (rest := _) gPow gPowT Tryz.underlying350 Tryz.underlying314 (by kernel_rfl) (by kernel_rfl) h3
    obtain ⟨h1, T, fz, h2⟩ := var_cells hg ht
    exact ⟨h1, _, h2, T, fz, rfl⟩
def synS : ByteArray := { data := #[105, 110, 118, 97, 108, 105, 100, 32, 115, 121, 110, 116, 97, 120] }
def rngS : ByteArray := { data := #[118, 97, 108, 117, 101, 32, 111, 117, 116, 32, 111, 102, 32, 114, 97, 110, 103, 101] }
noncomputable def low : Nat := (World.holding Tryz.prog default ⟨#[], #[], []⟩).heap.size
def litCells (d : DataW Unit) : Array Value := match d with
  | .agg l => (l.map fun x => match x with
    | .lit (.int k z) => Value.int k z
    | _ => .nilIface).toArray
  | _ => #[]
def putCells (cs : Array Value) : Obj → Obj
  | .cells _ t frozen => .cells cs t frozen
  | o => o
noncomputable def laidWorld (os : Os) : World :=
  let w0 := World.holding Tryz.prog os ⟨#[.cells #[.string synS] 348, .cells #[.string rngS] 348], #[], []⟩
  { w0 with heap := ((((w0.heap.modify 1 (putCells #[.iface 346 (.pointer (some ⟨low, 0, none⟩))])).modify 2 (putCells #[.iface 346 (.pointer (some ⟨low + 1, 0, none⟩))])).modify 3 (putCells (litCells Rows.laid_internal_strconv_uint64pow10))).modify 4 (putCells (litCells Rows.laid_math_bits_deBruijn32tab))).modify 5 (putCells (litCells Rows.laid_math_bits_deBruijn64tab)) }
end Go.Proofs.YtpfohmboflcneaaGreatDoor
end
