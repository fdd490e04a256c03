import Derived.Test.YtoafanbfminhcaaW3
set_option linter.unusedSimpArgs false
set_option linter.unusedVariables false
set_option linter.unnecessarySimpa false
section
namespace Go.Proofs.Ytoafanbfminhcaa
open Go Go.AL Go.RowKit
set_option maxRecDepth 10000
set_option maxHeartbeats 4000000
theorem apCellsW {C : Cx} {K : List PK} {E : Env} {H : Heap} {p : List Nat} (b : Nat) (cs' : List AV) {s : Sh} {cs : List AV} (hl : lk H b = some (.var s cs)) (hc : cellsLe cs cs') (h : AP C p K E (hset H b (.var s cs'))) : AP C p K E H := by
  unfold AP at h ⊢
  exact fun φ I a w hs => h _ _ _ _ ⟨hs.dfr, hs.siz, hs.env, hs.st.cellsW hl hc⟩
abbrev Opt2 := Option (Nat × Sc)
def oA (o : Opt2) : Int := match o with | none => -1 | some (h, _) => h
def oU (o : Opt2) : Nat := match o with | none => 0 | some (_, c) => c.used
def oL (o : Opt2) : Nat := match o with | none => 0 | some (_, c) => c.last
def oR (o : Opt2) : List Bs := match o with | none => [] | some (_, c) => c.recs
def stB (S : List Bs) : Nat → Bst
  | 0 => (0, none)
  | k + 1 => bsN k (stB S k) (scanS (arX S k)) (nF (S.getD (k * (S.length / 2)) []))
def opR (d : Dk) (S : List Bs) (o : Opt2) : AV := match o with
  | none => .tup [nilR, Iv 400]
  | some (h, c) => .tup [Jn.rv ⟨d.B, d.W, h, c.recs, c.used, c.first, c.last, maxN S + 1⟩, Iv 0]
theorem openR_ok (d : Dk) (hd : d.Ok) : PFn Try.prog 40 [d.v] (opR d d.syncD.B (stB d.syncD.B 2).2) := by
  have hsz : d.Sz := ⟨by have := (okN_even hd.n).2.2; omega, by have := hd.w; omega⟩
  obtain ⟨e1, e2, e3⟩ := okN_even hd.n
  have hS32 := sync_32 d hd
  have hsl := sync_blen hd
  have hsy : d.syncD.B = d.synB := by rw [sync_eq, Dk.syncR, if_pos ((d.chk_ok).2 hd)]
  have hck := checkR_spec d hsz
  rw [(d.chk_ok).2 hd] at hck
  have hcp := copyR_spec d hsz
  have hch := fun area ha => chainR_spec d area hd ha
  have hgt := fun j hj => getR_spec d j hj hsz
  have hget : ∀ j, j < d.B.length → lastW (j : Int) d.W (d.B.getD j []) = d.syncD.B.getD j [] := fun j hj => by
    rw [hsy]
    simp [Dk.synB, List.getD_eq_getElem?_getD, hj]
  obtain ⟨S, hS⟩ : ∃ S, d.syncD.B = S := ⟨_, rfl⟩
  rw [hS] at hS32 hsl hget ⊢
  simp only [hS] at hch
  refine ACall.walk [0, 1, 2, 3, 4, 5, 6, 7, 8, 9, 10, 11, 12, 13, 17, 25, 51, 63, 69] [1, 2, 5] Try.func40 rfl Try.ntmps40 (by kernel_rfl) (by rfl) rfl fun W own I0 φ0 => ?_
  repeat (first | refine xA ?_ | refine xB ?_ | refine xC ?_ | refine xE ?_ | refine xD ?_ | refine xK ?_ | refine xS ?_ | refine xM ?_ | refine xT ?_ | refine xF ?_ | ((first | refine xR ?_ | refine xW ?_ | refine vq_id ?_); simp only [go_sem, Nat.reduceAdd, Nat.reduceLeDiff, Nat.reduceSub, Int.reduceToNat, reduceCtorEq]) | (refine ⟨by first | omega | (intros; simp_all; done) | (intros; simp_all; omega), ?_⟩; try simp only [go_sem, Nat.reduceAdd, Nat.reduceLeDiff, Nat.reduceSub, Int.reduceToNat, reduceCtorEq]))
  refine AQ.fn (by kernel_rfl) rfl rfl rfl (hck) rfl ?_
  repeat (first | refine xA ?_ | refine xB ?_ | refine xC ?_ | refine xE ?_ | refine xD ?_ | refine xK ?_ | refine xS ?_ | refine xM ?_ | refine xT ?_ | refine xF ?_ | ((first | refine xR ?_ | refine xW ?_ | refine vq_id ?_); simp only [go_sem, Nat.reduceAdd, Nat.reduceLeDiff, Nat.reduceSub, Int.reduceToNat, reduceCtorEq]) | (refine ⟨by first | omega | (intros; simp_all; done) | (intros; simp_all; omega), ?_⟩; try simp only [go_sem, Nat.reduceAdd, Nat.reduceLeDiff, Nat.reduceSub, Int.reduceToNat, reduceCtorEq]))
  refine AQ.fn (by kernel_rfl) rfl rfl rfl (hcp) rfl ?_
  repeat (first | refine xA ?_ | refine xB ?_ | refine xC ?_ | refine xE ?_ | refine xD ?_ | refine xK ?_ | refine xS ?_ | refine xM ?_ | refine xT ?_ | refine xF ?_ | ((first | refine xR ?_ | refine xW ?_ | refine vq_id ?_); simp only [go_sem, Nat.reduceAdd, Nat.reduceLeDiff, Nat.reduceSub, Int.reduceToNat, reduceCtorEq]) | (refine ⟨by first | omega | (intros; simp_all; done) | (intros; simp_all; omega), ?_⟩; try simp only [go_sem, Nat.reduceAdd, Nat.reduceLeDiff, Nat.reduceSub, Int.reduceToNat, reduceCtorEq]))
  simp only [go_sem, Nat.reduceAdd, Nat.reduceLeDiff, Nat.reduceSub, Int.reduceToNat, reduceCtorEq]
  refine apCellsW 2 [.im (.sl 1 (blkR d.B)), .im (.sl 2 (wrR d.W)), Iv (-1), Iv 0, Uv 0, Uv 1, .im (.sl 1 [])] rfl (cellsLe.cons (cellsLe.cons (cellsLe.cons (cellsLe.cons (cellsLe.cons (cellsLe.cons (cellsLe.nil (cellsLe.refl _)))))))) ?_
  simp only [go_sem, Nat.reduceAdd, Nat.reduceLeDiff, Nat.reduceSub, Int.reduceToNat, reduceCtorEq]
  obtain ⟨n, hn⟩ : ∃ n, S.length / 2 = n := ⟨_, rfl⟩
  refine AP.loop rfl (α := Nat) (fun k => [(1, .ob 0 0), (2, .ob 1 0), (3, Iv 0), (5, .ob 2 0), (6, Uv (stB S k).1), (7, Iv k)]) (fun k => [(2, .var 73 [.im (.sl 1 (blkR d.B)), .im (.sl 2 (wrR d.W)), Iv (oA (stB S k).2), Iv (oU (stB S k).2), Uv (oL (stB S k).2), Uv 1, .im (.sl 1 (blkR (oR (stB S k).2)))]), (1, .var 73 [.im (.v (.slice none 0 0)), .im (.v (.slice none 0 0)), Iv 0, Iv 0, Uv 0, Uv 0, .im (.v (.slice none 0 0))]), (0, .var 48 [.im (.sl 1 (blkR d.B)), .im (.sl 2 (wrR d.W))])]) (fun k => k ≤ 2) (fun k => 2 - k) 0 (by omega) (by repeat (first | exact Sub.nil _ | refine Sub.cons rfl ?_)) rfl fun k hk => ?_
  repeat (first | refine xA ?_ | refine xB ?_ | refine xC ?_ | refine xE ?_ | refine xD ?_ | refine xK ?_ | refine xS ?_ | refine xM ?_ | refine xT ?_ | refine xF ?_ | ((first | refine xR ?_ | refine xW ?_ | refine vq_id ?_); simp only [go_sem, Nat.reduceAdd, Nat.reduceLeDiff, Nat.reduceSub, Int.reduceToNat, reduceCtorEq]) | (refine ⟨by first | omega | (intros; simp_all; done) | (intros; simp_all; omega), ?_⟩; try simp only [go_sem, Nat.reduceAdd, Nat.reduceLeDiff, Nat.reduceSub, Int.reduceToNat, reduceCtorEq]))
  refine AP.cond rfl rfl (fun hc => ?_) (fun hc => ?_)
  · have hk' : k < 2 := by simp at hc; omega
    have hkk := hch k (by omega)
    have hkd : k * d.B.length = 2 * (k * (d.B.length / 2)) := by
      rcases (show k = 0 ∨ k = 1 by omega) with h | h <;> subst h <;> omega
    have hj : k * (d.B.length / 2) < d.B.length := by
      rcases (show k = 0 ∨ k = 1 by omega) with h | h <;> subst h <;> omega
    have hg := hgt _ hj
    rw [hget _ hj] at hg
    have hst : stB S (k + 1) = bsN k (stB S k) (scanS (arX S k)) (nF (S.getD (k * (d.B.length / 2)) [])) := by rw [stB, hsl]
    obtain ⟨s, hs⟩ : ∃ s, S.getD (k * (d.B.length / 2)) [] = s := ⟨_, rfl⟩
    have hsm : s ∈ S := by rw [← hs, List.getD_eq_getElem?_getD, List.getElem?_eq_getElem (by omega)]; exact List.getElem_mem (by omega)
    rw [hs] at hg hst
    have h32 := hS32 s hsm
    have hn1 : PFn Try.prog 71 [Sv s] (Uv (nF s)) := numberR_spec s (by omega) (by omega)
    have m1 : (k : Int) * (d.B.length : Int) = ((k * d.B.length : Nat) : Int) := by rw [Int.natCast_mul]
    have wm := wr (x := ((k * d.B.length : Nat) : Int)) (by omega)
    have m2 : ((k * d.B.length : Nat) : Int).tdiv 2 = ((k * (d.B.length / 2) : Nat) : Int) := by
      rw [show ((k * (d.B.length / 2) : Nat) : Int) = (((k * d.B.length) / 2 : Nat) : Int) by omega]; rfl
    have wm2 := wr (x := ((k * (d.B.length / 2) : Nat) : Int)) (by omega)
    have wk := wr (x := (k : Int) + 1) (by omega)
    obtain ⟨c, hcc⟩ : ∃ c, scanS (arX S k) = c := ⟨_, rfl⟩
    rw [hcc] at hkk hst
    obtain ⟨⟨bb, o⟩, hbo⟩ : ∃ q, stB S k = q := ⟨_, rfl⟩
    rw [hbo] at hst
    simp only [hbo]
    obtain ⟨q, hq⟩ : ∃ q, k * d.B.length = q := ⟨_, rfl⟩
    obtain ⟨jj, hjj⟩ : ∃ q, k * (d.B.length / 2) = q := ⟨_, rfl⟩
    rw [hq] at m1 wm m2
    rw [hjj] at m2 wm2 hg
    clear hkd hq hjj hj hs e1
    repeat (first | refine xA ?_ | refine xB ?_ | refine xC ?_ | refine xE ?_ | refine xD ?_ | refine xK ?_ | refine xS ?_ | refine xM ?_ | refine xT ?_ | refine xF ?_ | ((first | refine xR ?_ | refine xW ?_ | refine vq_id ?_); simp only [go_sem, Nat.reduceAdd, Nat.reduceLeDiff, Nat.reduceSub, Int.reduceToNat, reduceCtorEq]) | (refine ⟨by first | omega | (intros; simp_all; done) | (intros; simp_all; omega), ?_⟩; try simp only [go_sem, Nat.reduceAdd, Nat.reduceLeDiff, Nat.reduceSub, Int.reduceToNat, reduceCtorEq]))
    refine AQ.fn (by kernel_rfl) rfl rfl rfl (hkk) rfl ?_
    repeat (first | refine xA ?_ | refine xB ?_ | refine xC ?_ | refine xE ?_ | refine xD ?_ | refine xK ?_ | refine xS ?_ | refine xM ?_ | refine xT ?_ | refine xF ?_ | ((first | refine xR ?_ | refine xW ?_ | refine vq_id ?_); simp only [go_sem, Nat.reduceAdd, Nat.reduceLeDiff, Nat.reduceSub, Int.reduceToNat, reduceCtorEq, blkR_len, m1, wm, m2, wm2]) | (refine ⟨by first | omega | (intros; simp_all; done) | (intros; simp_all; omega), ?_⟩; try simp only [go_sem, Nat.reduceAdd, Nat.reduceLeDiff, Nat.reduceSub, Int.reduceToNat, reduceCtorEq, blkR_len, m1, wm, m2, wm2]))
    refine AQ.fn (by kernel_rfl) rfl rfl rfl (hg) rfl ?_
    simp only [go_sem, Nat.reduceAdd, Nat.reduceLeDiff, Nat.reduceSub, Int.reduceToNat, reduceCtorEq]
    refine AQ.fn (by kernel_rfl) rfl rfl rfl (hn1) rfl ?_
    repeat (first | refine xA ?_ | refine xB ?_ | refine xC ?_ | refine xE ?_ | refine xD ?_ | refine xK ?_ | refine xS ?_ | refine xM ?_ | refine xT ?_ | refine xF ?_ | ((first | refine xR ?_ | refine xW ?_ | refine vq_id ?_); simp only [go_sem, Nat.reduceAdd, Nat.reduceLeDiff, Nat.reduceSub, Int.reduceToNat, reduceCtorEq, blkR_len]) | (refine ⟨by first | omega | (intros; simp_all; done) | (intros; simp_all; omega), ?_⟩; try simp only [go_sem, Nat.reduceAdd, Nat.reduceLeDiff, Nat.reduceSub, Int.reduceToNat, reduceCtorEq, blkR_len]))
    by_cases hx : c.recs ≠ [] ∧ bb < nF s
    · have hst2 : stB S (k + 1) = (nF s, some (k, c)) := by rw [hst, bsN, if_pos hx]
      have x1 : decide ((0 : Int) < (c.recs.length : Int)) = true := by have := List.length_pos_iff.2 hx.1; simp only [decide_eq_true_eq]; omega
      have x2 : decide ((bb : Int) < (nF s : Int)) = true := by simp only [decide_eq_true_eq]; omega
      simp only [go_sem, Nat.reduceAdd, Nat.reduceLeDiff, Nat.reduceSub, Int.reduceToNat, reduceCtorEq, x1, x2]
      repeat (first | refine xA ?_ | refine xB ?_ | refine xC ?_ | refine xE ?_ | refine xD ?_ | refine xK ?_ | refine xS ?_ | refine xM ?_ | refine xT ?_ | refine xF ?_ | ((first | refine xR ?_ | refine xW ?_ | refine vq_id ?_); simp only [go_sem, Nat.reduceAdd, Nat.reduceLeDiff, Nat.reduceSub, Int.reduceToNat, reduceCtorEq, wk]) | (refine ⟨by first | omega | (intros; simp_all; done) | (intros; simp_all; omega), ?_⟩; try simp only [go_sem, Nat.reduceAdd, Nat.reduceLeDiff, Nat.reduceSub, Int.reduceToNat, reduceCtorEq, wk]))
      simp only [go_sem, Nat.reduceAdd, Nat.reduceLeDiff, Nat.reduceSub, Int.reduceToNat, reduceCtorEq]
      exact AE.round (k + 1) (by omega) (by omega) (by simp only [hst2]; exact (by repeat (first | exact Sub.nil _ | refine Sub.cons rfl ?_))) (by simp only [hst2]; rfl)
    · have hst2 : stB S (k + 1) = (bb, o) := by rw [hst, bsN, if_neg hx]
      have x1 : (decide ((0 : Int) < (c.recs.length : Int)) && decide ((bb : Int) < (nF s : Int))) = false := by
        simp only [Bool.and_eq_false_iff, decide_eq_false_iff_not]
        by_cases hr : c.recs = []
        · left; rw [hr]; simp
        · right; intro hlt; exact hx ⟨hr, by omega⟩
      simp only [go_sem, Nat.reduceAdd, Nat.reduceLeDiff, Nat.reduceSub, Int.reduceToNat, reduceCtorEq, x1]
      repeat (first | refine xA ?_ | refine xB ?_ | refine xC ?_ | refine xE ?_ | refine xD ?_ | refine xK ?_ | refine xS ?_ | refine xM ?_ | refine xT ?_ | refine xF ?_ | ((first | refine xR ?_ | refine xW ?_ | refine vq_id ?_); simp only [go_sem, Nat.reduceAdd, Nat.reduceLeDiff, Nat.reduceSub, Int.reduceToNat, reduceCtorEq, wk]) | (refine ⟨by first | omega | (intros; simp_all; done) | (intros; simp_all; omega), ?_⟩; try simp only [go_sem, Nat.reduceAdd, Nat.reduceLeDiff, Nat.reduceSub, Int.reduceToNat, reduceCtorEq, wk]))
      simp only [go_sem, Nat.reduceAdd, Nat.reduceLeDiff, Nat.reduceSub, Int.reduceToNat, reduceCtorEq]
      exact AE.round (k + 1) (by omega) (by omega) (by simp only [hst2]; exact (by repeat (first | exact Sub.nil _ | refine Sub.cons rfl ?_))) (by simp only [hst2])
  · have hk' : k = 2 := by simp at hc; omega
    subst hk'
    obtain ⟨⟨bb, o⟩, hbo⟩ : ∃ q, stB S 2 = q := ⟨_, rfl⟩
    simp only [hbo]
    clear hch e1
    cases o with
    | none =>
      have xo : oA none = -1 := rfl
      simp only [go_sem, Nat.reduceAdd, Nat.reduceLeDiff, Nat.reduceSub, Int.reduceToNat, reduceCtorEq, xo]
      repeat (first | refine xA ?_ | refine xB ?_ | refine xC ?_ | refine xE ?_ | refine xD ?_ | refine xK ?_ | refine xS ?_ | refine xM ?_ | refine xT ?_ | refine xF ?_ | ((first | refine xR ?_ | refine xW ?_ | refine vq_id ?_); simp only [go_sem, Nat.reduceAdd, Nat.reduceLeDiff, Nat.reduceSub, Int.reduceToNat, reduceCtorEq, xo, Int.reduceLT]) | (refine ⟨by first | omega | (intros; simp_all; done) | (intros; simp_all; omega), ?_⟩; try simp only [go_sem, Nat.reduceAdd, Nat.reduceLeDiff, Nat.reduceSub, Int.reduceToNat, reduceCtorEq, xo, Int.reduceLT]))
      refine AE.cellsW 1 [.im (.sl 1 []), .im (.sl 2 []), Iv 0, Iv 0, Uv 0, Uv 0, .im (.sl 1 [])] rfl (cellsLe.nil (cellsLe.nil (cellsLe.cons (cellsLe.cons (cellsLe.cons (cellsLe.cons (cellsLe.nil (cellsLe.refl _)))))))) ?_
      simp only [go_sem, Nat.reduceAdd, Nat.reduceLeDiff, Nat.reduceSub, Int.reduceToNat, reduceCtorEq]
      exact AE.ret0 rfl ⟨⟨rfl, Nat.le_of_ble_eq_true (by kernel_rfl)⟩, rfl, trivial⟩ rfl ⟨rfl, rfl⟩
    | some hc' =>
      obtain ⟨h, c⟩ := hc'
      have xo : oA (some (h, c)) = (h : Int) := rfl
      have xu : oU (some (h, c)) = c.used := rfl
      have xl : oL (some (h, c)) = c.last := rfl
      have xr : oR (some (h, c)) = c.recs := rfl
      have xd : decide ((h : Int) < 0) = false := by simp only [decide_eq_false_iff_not]; omega
      simp only [xo, xu, xl, xr]
      simp only [go_sem, Nat.reduceAdd, Nat.reduceLeDiff, Nat.reduceSub, Int.reduceToNat, reduceCtorEq]
      repeat (first | refine xA ?_ | refine xB ?_ | refine xC ?_ | refine xE ?_ | refine xD ?_ | refine xK ?_ | refine xS ?_ | refine xM ?_ | refine xT ?_ | refine xF ?_ | ((first | refine xR ?_ | refine xW ?_ | refine vq_id ?_); simp only [go_sem, Nat.reduceAdd, Nat.reduceLeDiff, Nat.reduceSub, Int.reduceToNat, reduceCtorEq, xd, blkR_len]) | (refine ⟨by first | omega | (intros; simp_all; done) | (intros; simp_all; omega), ?_⟩; try simp only [go_sem, Nat.reduceAdd, Nat.reduceLeDiff, Nat.reduceSub, Int.reduceToNat, reduceCtorEq, xd, blkR_len]))
      refine AP.loop rfl (α := Nat) (fun i => [(1, .ob 0 0), (2, .ob 1 0), (3, Iv 0), (5, .ob 2 0), (12, Iv i)]) (fun i => [(2, .var 73 [.im (.sl 1 (blkR d.B)), .im (.sl 2 (wrR d.W)), Iv h, Iv c.used, Uv c.last, Uv ((S.take i).foldl mx3 0 + 1 : Nat), .im (.sl 1 (blkR c.recs))]), (1, .var 73 [.im (.v (.slice none 0 0)), .im (.v (.slice none 0 0)), Iv 0, Iv 0, Uv 0, Uv 0, .im (.v (.slice none 0 0))]), (0, .var 48 [.im (.sl 1 (blkR d.B)), .im (.sl 2 (wrR d.W))])]) (fun i => i ≤ d.B.length ∧ (S.take i).foldl mx3 0 < 4294967296) (fun i => d.B.length - i) 0 ⟨by omega, by simp⟩ (by repeat (first | exact Sub.nil _ | refine Sub.cons rfl ?_)) rfl fun i ⟨hi, hm⟩ => ?_
      repeat (first | refine xA ?_ | refine xB ?_ | refine xC ?_ | refine xE ?_ | refine xD ?_ | refine xK ?_ | refine xS ?_ | refine xM ?_ | refine xT ?_ | refine xF ?_ | ((first | refine xR ?_ | refine xW ?_ | refine vq_id ?_); simp only [go_sem, Nat.reduceAdd, Nat.reduceLeDiff, Nat.reduceSub, Int.reduceToNat, reduceCtorEq, blkR_len]) | (refine ⟨by first | omega | (intros; simp_all; done) | (intros; simp_all; omega), ?_⟩; try simp only [go_sem, Nat.reduceAdd, Nat.reduceLeDiff, Nat.reduceSub, Int.reduceToNat, reduceCtorEq, blkR_len]))
      refine AP.cond rfl rfl (fun hc2 => ?_) (fun hc2 => ?_)
      · have hi' : i < d.B.length := by simp at hc2; omega
        have hg := hgt i hi'
        rw [hget i hi'] at hg
        obtain ⟨s, hs⟩ : ∃ s, S.getD i [] = s := ⟨_, rfl⟩
        have hsm : s ∈ S := by rw [← hs, List.getD_eq_getElem?_getD, List.getElem?_eq_getElem (by omega)]; exact List.getElem_mem (by omega)
        rw [hs] at hg
        have h32 := hS32 s hsm
        have hn1 := numberR_spec s (by omega) (by omega)
        have hn2 := numberR_spec (s.drop 16) (by simp; omega) (by simp; omega)
        have hmx : (S.take (i + 1)).foldl mx3 0 = mx3 ((S.take i).foldl mx3 0) s := by
          have hil : i < S.length := by omega
          have : S[i] = s := by rw [← hs, List.getD_eq_getElem?_getD, List.getElem?_eq_getElem hil]; rfl
          rw [List.take_add_one, List.getElem?_eq_getElem hil, List.foldl_append, this]; rfl
        obtain ⟨m, hmm⟩ : ∃ m, (S.take i).foldl mx3 0 = m := ⟨_, rfl⟩
        have hm3 := mx3_lt m s (by omega)
        have hm2 : mx3 m s = max (max m (n4 (s.take 4))) (n4 ((s.drop 16).take 4)) := rfl
        have hl1 := n4_lt (s.take 4)
        have hl2 := n4_lt ((s.drop 16).take 4)
        rw [hmm] at hmx hm ⊢
        rw [hm2] at hmx hm3
        obtain ⟨n1, hn1'⟩ : ∃ m, n4 (s.take 4) = m := ⟨_, rfl⟩
        obtain ⟨n2, hn2'⟩ : ∃ m, n4 ((s.drop 16).take 4) = m := ⟨_, rfl⟩
        rw [hn1'] at hmx hn1 hm3 hl1
        rw [hn2'] at hmx hn2 hm3 hl2
        have c1 : (n1 : Int) + 1 = ((n1 + 1 : Nat) : Int) := by omega
        have c2 : (n2 : Int) + 1 = ((n2 + 1 : Nat) : Int) := by omega
        have w1 := wru (x := ((n1 + 1 : Nat) : Int)) (by omega)
        have w2 := wru (x := ((n2 + 1 : Nat) : Int)) (by omega)
        have wi := wr (x := (i : Int) + 1) (by omega)
        have hmx2 : max (max (m + 1) (n1 + 1)) (n2 + 1) = max (max m n1) n2 + 1 := by omega
        have ht16 : List.take (32 - 16) (List.drop 16 s) = List.drop 16 s := take_all' _ _ (by simp; omega)
        have ht16' : List.take 16 (List.drop 16 s) = List.drop 16 s := take_all' _ _ (by simp; omega)
        clear hs hget hgt hsm
        repeat (first | refine xA ?_ | refine xB ?_ | refine xC ?_ | refine xE ?_ | refine xD ?_ | refine xK ?_ | refine xS ?_ | refine xM ?_ | refine xT ?_ | refine xF ?_ | ((first | refine xR ?_ | refine xW ?_ | refine vq_id ?_); simp only [go_sem, Nat.reduceAdd, Nat.reduceLeDiff, Nat.reduceSub, Int.reduceToNat, reduceCtorEq]) | (refine ⟨by first | omega | (intros; simp_all; done) | (intros; simp_all; omega), ?_⟩; try simp only [go_sem, Nat.reduceAdd, Nat.reduceLeDiff, Nat.reduceSub, Int.reduceToNat, reduceCtorEq]))
        refine AQ.fn (by kernel_rfl) rfl rfl rfl (hg) rfl ?_
        repeat (first | refine xA ?_ | refine xB ?_ | refine xC ?_ | refine xE ?_ | refine xD ?_ | refine xK ?_ | refine xS ?_ | refine xM ?_ | refine xT ?_ | refine xF ?_ | ((first | refine xR ?_ | refine xW ?_ | refine vq_id ?_); simp only [go_sem, Nat.reduceAdd, Nat.reduceLeDiff, Nat.reduceSub, Int.reduceToNat, reduceCtorEq]) | (refine ⟨by first | omega | (intros; simp_all; done) | (intros; simp_all; omega), ?_⟩; try simp only [go_sem, Nat.reduceAdd, Nat.reduceLeDiff, Nat.reduceSub, Int.reduceToNat, reduceCtorEq]))
        refine AP.drawE 12 (Tree.node [] [0, 1, 2, 5, 6] [3] [Tree.node [0, 1, 5, 6] [4] [7] [Tree.node [0, 1, 4] [8] [9] [Tree.node [] [10] [11] [Tree.node [] [] [] []]]]]) (by kernel_rfl) rfl (by kernel_rfl) (by kernel_rfl) ?_
        refine vd_node ?_
        simp only [go_sem, Nat.reduceAdd, Nat.reduceLeDiff, Nat.reduceSub, Int.reduceToNat, reduceCtorEq, BA_size, BA_extract, h32, ht16, ht16']
        repeat (with_reducible refine And.intro (by omega) ?_)
        refine AQ.fn (by kernel_rfl) rfl rfl rfl (hn1) rfl ?_
        simp only [go_sem, Nat.reduceAdd, Nat.reduceLeDiff, Nat.reduceSub, Int.reduceToNat, reduceCtorEq, c1, w1]
        refine AQ.nx rfl ?_
        simp only [go_sem, Nat.reduceAdd, Nat.reduceLeDiff, Nat.reduceSub, Int.reduceToNat, reduceCtorEq, c1, w1, BA_size, BA_extract, h32, ht16, ht16']
        repeat (with_reducible refine And.intro (by omega) ?_)
        refine AQ.fn (by kernel_rfl) rfl rfl rfl (hn2) rfl ?_
        simp only [go_sem, Nat.reduceAdd, Nat.reduceLeDiff, Nat.reduceSub, Int.reduceToNat, reduceCtorEq, c2, w2]
        refine AQ.nx rfl ?_
        simp only [go_sem, Nat.reduceAdd, Nat.reduceLeDiff, Nat.reduceSub, Int.reduceToNat, reduceCtorEq, c1, w1, c2, w2, BA_size, BA_extract, h32, ht16, ht16']
        repeat (with_reducible refine And.intro (by omega) ?_)
        refine AQ.max3 (by kernel_rfl) rfl rfl rfl ?_
        simp only [go_sem, Nat.reduceAdd, Nat.reduceLeDiff, Nat.reduceSub, Int.reduceToNat, reduceCtorEq, hmx2]
        refine AQ.nx rfl ?_
        simp only [go_sem, Nat.reduceAdd, Nat.reduceLeDiff, Nat.reduceSub, Int.reduceToNat, reduceCtorEq, c1, w1, c2, w2, BA_size, BA_extract, h32, ht16, ht16']
        repeat (with_reducible refine And.intro (by omega) ?_)
        refine AQ.go (by kernel_rfl) ?_
        simp only [go_sem, Nat.reduceAdd, Nat.reduceLeDiff, Nat.reduceSub, Int.reduceToNat, reduceCtorEq]
        refine AQ.nx rfl ?_
        simp only [go_sem, Nat.reduceAdd, Nat.reduceLeDiff, Nat.reduceSub, Int.reduceToNat, reduceCtorEq, c1, w1, c2, w2, BA_size, BA_extract, h32, ht16, ht16']
        repeat (with_reducible refine And.intro (by omega) ?_)
        refine AQ.done ?_
        repeat (first | refine xA ?_ | refine xB ?_ | refine xC ?_ | refine xE ?_ | refine xD ?_ | refine xK ?_ | refine xS ?_ | refine xM ?_ | refine xT ?_ | refine xF ?_ | ((first | refine xR ?_ | refine xW ?_ | refine vq_id ?_); simp only [go_sem, Nat.reduceAdd, Nat.reduceLeDiff, Nat.reduceSub, Int.reduceToNat, reduceCtorEq, wi]) | (refine ⟨by first | omega | (intros; simp_all; done) | (intros; simp_all; omega), ?_⟩; try simp only [go_sem, Nat.reduceAdd, Nat.reduceLeDiff, Nat.reduceSub, Int.reduceToNat, reduceCtorEq, wi]))
        exact AE.round (i + 1) ⟨by omega, by rw [hmx]; exact hm3⟩ (by omega) (by repeat (first | exact Sub.nil _ | refine Sub.cons rfl ?_)) (by rw [hmx])
      · have hi' : i = d.B.length := by simp at hc2; omega
        have htk : S.take i = S := List.take_of_length_le (by omega)
        rw [htk]
        repeat (first | refine xA ?_ | refine xB ?_ | refine xC ?_ | refine xE ?_ | refine xD ?_ | refine xK ?_ | refine xS ?_ | refine xM ?_ | refine xT ?_ | refine xF ?_ | ((first | refine xR ?_ | refine xW ?_ | refine vq_id ?_); simp only [go_sem, Nat.reduceAdd, Nat.reduceLeDiff, Nat.reduceSub, Int.reduceToNat, reduceCtorEq]) | (refine ⟨by first | omega | (intros; simp_all; done) | (intros; simp_all; omega), ?_⟩; try simp only [go_sem, Nat.reduceAdd, Nat.reduceLeDiff, Nat.reduceSub, Int.reduceToNat, reduceCtorEq]))
        exact AE.ret0 rfl ⟨⟨rfl, Nat.le_of_ble_eq_true (by kernel_rfl)⟩, rfl, trivial⟩ rfl ⟨rfl, rfl⟩
end Go.Proofs.Ytoafanbfminhcaa
end

section
namespace Go.Proofs.Ytoafanbfminhcaa
open Go Go.AL Go.RowKit
set_option maxRecDepth 10000
set_option maxHeartbeats 4000000
def Jn.wrd (x : Jn) (area frm link : Nat) (s : Bs) (i : Nat) : Ws := Ws.run (x.B.length / 2) area s ⟨x.W, x.next, frm, link⟩ i
theorem partAt_slice (s : Bs) (i : Nat) : List.take (min (i * 19 + 19) s.length - i * 19) (List.drop (i * 19) s) = partAt s i := by
  rw [partAt, Nat.mul_comm 19 i]
  rcases Nat.le_total (i * 19 + 19) s.length with h | h
  · rw [Nat.min_eq_left h, Nat.add_sub_cancel_left]
  · rw [Nat.min_eq_right h, List.take_of_length_le (by rw [List.length_drop]; exact Nat.le_refl _), List.take_of_length_le (by rw [List.length_drop]; omega)]
theorem written_spec (x : Jn) (area frm link : Nat) (s : Bs) (hx : x.Sz) (hs : s.length ≤ 10000) (ha : area ≤ 1) (hf : frm ≤ 2000) (hl : link ≤ 4294967296) (hn : x.next + nparts s ≤ 4294967296) :
    PFn Try.prog 74 [x.rv, Iv area, Iv frm, Uv link, Sv s] (Jn.rv { x with W := (x.wrd area frm link s (nparts s)).W, last := (x.wrd area frm link s (nparts s)).link, next := (x.wrd area frm link s (nparts s)).next }) := by
  have hnp := nparts_le s hs
  have hpos := nparts_pos s
  have hfacts := Ws.run_facts (x.B.length / 2) area s ⟨x.W, x.next, frm, link⟩
  simp only at hfacts
  have hco := copyR_own x.D ⟨by have := hx.b; simp only; omega, by have := hx.w; simp only; omega⟩
  have hpr := partsR_spec s (by omega)
  have hxw := hx.w
  have hxb := hx.b
  unfold Jn.wrd
  have hstep : ∀ i, Ws.run (x.B.length / 2) area s ⟨x.W, x.next, frm, link⟩ (i + 1) = (Ws.run (x.B.length / 2) area s ⟨x.W, x.next, frm, link⟩ i).step (x.B.length / 2) area (partAt s i) (partLast s i) := fun i => rfl
  obtain ⟨G, hG⟩ : ∃ G, Ws.run (x.B.length / 2) area s ⟨x.W, x.next, frm, link⟩ = G := ⟨_, rfl⟩
  have hG0 : G 0 = ⟨x.W, x.next, frm, link⟩ := by rw [← hG]; rfl
  rw [hG] at hfacts hstep ⊢
  have hdv : (x.B.length : Int).tdiv 2 = ((x.B.length / 2 : Nat) : Int) := rfl
  obtain ⟨k, hk⟩ : ∃ k, x.B.length / 2 = k := ⟨_, rfl⟩
  rw [hk] at hstep hdv
  have w1 := wr (x := (k : Int)) (by omega)
  have hmul : (area : Int) * (k : Int) = ((area * k : Nat) : Int) := by rw [Int.natCast_mul]
  have hak : area * k ≤ 2000 := by rcases (show area = 0 ∨ area = 1 by omega) with h | h <;> subst h <;> omega
  have w2 := wr (x := ((area * k : Nat) : Int)) (by omega)
  refine ACall.walk [0, 1, 2, 3, 4, 5, 10, 11, 12, 13, 14, 28] [5, 10] Try.func74 rfl Try.ntmps74 (by kernel_rfl) (by rfl) rfl fun W own I0 φ0 => ?_
  repeat (first | refine xA ?_ | refine xB ?_ | refine xC ?_ | refine xE ?_ | refine xD ?_ | refine xK ?_ | refine xS ?_ | refine xM ?_ | refine xT ?_ | refine xF ?_ | ((first | refine xR ?_ | refine xW ?_ | refine vq_id ?_); simp only [go_sem, Nat.reduceAdd, Nat.reduceLeDiff, Nat.reduceSub, Int.reduceToNat, reduceCtorEq, blkR_len, hdv, w1]) | (refine ⟨by first | omega | (intros; simp_all; done) | (intros; simp_all; omega), ?_⟩; try simp only [go_sem, Nat.reduceAdd, Nat.reduceLeDiff, Nat.reduceSub, Int.reduceToNat, reduceCtorEq, blkR_len, hdv, w1]))
  refine AQ.callv (by kernel_rfl) rfl rfl rfl hco fun r' H' ⟨e1, e2⟩ => ?_
  subst e1; subst e2
  simp only [go_sem, Nat.reduceAdd, Nat.reduceLeDiff, Nat.reduceSub, Int.reduceToNat, reduceCtorEq]
  repeat (first | refine xA ?_ | refine xB ?_ | refine xC ?_ | refine xE ?_ | refine xD ?_ | refine xK ?_ | refine xS ?_ | refine xM ?_ | refine xT ?_ | refine xF ?_ | ((first | refine xR ?_ | refine xW ?_ | refine vq_id ?_); simp only [go_sem, Nat.reduceAdd, Nat.reduceLeDiff, Nat.reduceSub, Int.reduceToNat, reduceCtorEq]) | (refine ⟨by first | omega | (intros; simp_all; done) | (intros; simp_all; omega), ?_⟩; try simp only [go_sem, Nat.reduceAdd, Nat.reduceLeDiff, Nat.reduceSub, Int.reduceToNat, reduceCtorEq]))

  refine AQ.fn (by kernel_rfl) rfl rfl rfl (hpr) rfl ?_
  repeat (first | refine xA ?_ | refine xB ?_ | refine xC ?_ | refine xE ?_ | refine xD ?_ | refine xK ?_ | refine xS ?_ | refine xM ?_ | refine xT ?_ | refine xF ?_ | ((first | refine xR ?_ | refine xW ?_ | refine vq_id ?_); simp only [go_sem, Nat.reduceAdd, Nat.reduceLeDiff, Nat.reduceSub, Int.reduceToNat, reduceCtorEq]) | (refine ⟨by first | omega | (intros; simp_all; done) | (intros; simp_all; omega), ?_⟩; try simp only [go_sem, Nat.reduceAdd, Nat.reduceLeDiff, Nat.reduceSub, Int.reduceToNat, reduceCtorEq]))
  simp only [go_sem, Nat.reduceAdd, Nat.reduceLeDiff, Nat.reduceSub, Int.reduceToNat, reduceCtorEq]
  refine AP.freeze 3 (el := 9) (es := 1) (rows := blkR x.B) rfl (by simp only [go_sem, Nat.reduceAdd, Nat.reduceLeDiff, Nat.reduceSub, Int.reduceToNat, reduceCtorEq, blkR_len]; first | done | trivial | omega | (simp; done) | (simp; omega)) (by simp only [go_sem, Nat.reduceAdd, Nat.reduceLeDiff, Nat.reduceSub, Int.reduceToNat, reduceCtorEq, blkR_len]; first | done | trivial | omega | (simp; done) | (simp; omega)) ?_; simp only [go_sem, Nat.reduceAdd, Nat.reduceLeDiff, Nat.reduceSub, Int.reduceToNat, reduceCtorEq, blkR_len]
  rw [take_all' (blkR x.B) _ (Nat.le_of_eq (blkR_len _))]
  obtain ⟨n, hnn⟩ : ∃ n, nparts s = n := ⟨_, rfl⟩
  have hpl : ∀ i, partLast s i = decide (i + 1 = n) := fun i => by rw [partLast, hnn]
  have hlen : ∀ i, i < n → i * 19 ≤ s.length := fun i hi => by
    have : i < max 1 ((s.length + 18) / 19) := by rw [← hnn] at hi; exact hi
    omega
  rw [hnn] at hnp hpos hn ⊢
  refine AP.loop rfl (α := Nat) (fun i => [(1, Iv area), (2, Iv frm), (3, Uv (G i).link), (4, Sv s), (5, .ob 0 0), (10, .ob 1 0), (11, Iv k), (12, Iv n), (13, Iv i)]) (fun i => [(4, .vec 101 2 (wrR (G i).W)), (1, .var 73 [.im (.v (.slice none 0 0)), .im (.v (.slice none 0 0)), Iv 0, Iv 0, Uv 0, Uv 0, .im (.v (.slice none 0 0))]), (0, .var 73 [.im (.sl 1 (blkR x.B)), .os 4 2 0 (G i).W.length, Iv x.half, Iv x.used, Uv x.last, Uv (G i).next, .im (.sl 1 (blkR x.recs))])]) (fun i => i ≤ n) (fun i => n - i) 0 (by omega) (by simp only [hG0]; exact (by repeat (first | exact Sub.nil _ | refine Sub.cons rfl ?_))) (by simp only [hG0]; rfl) fun i hi => ?_
  obtain ⟨f1, f2, f3, f4⟩ := hfacts i
  have hst := hstep i
  obtain ⟨⟨W', nx, fr, lk⟩, hg⟩ : ∃ g, G i = g := ⟨_, rfl⟩
  rw [hg] at f1 f2 f3 f4 hst
  simp only at f1 f2 f3 f4
  simp only [hg]
  repeat (first | refine xA ?_ | refine xB ?_ | refine xC ?_ | refine xE ?_ | refine xD ?_ | refine xK ?_ | refine xS ?_ | refine xM ?_ | refine xT ?_ | refine xF ?_ | ((first | refine xR ?_ | refine xW ?_ | refine vq_id ?_); simp only [go_sem, Nat.reduceAdd, Nat.reduceLeDiff, Nat.reduceSub, Int.reduceToNat, reduceCtorEq]) | (refine ⟨by first | omega | (intros; simp_all; done) | (intros; simp_all; omega), ?_⟩; try simp only [go_sem, Nat.reduceAdd, Nat.reduceLeDiff, Nat.reduceSub, Int.reduceToNat, reduceCtorEq]))
  refine AP.cond rfl rfl (fun hc => ?_) (fun hc => ?_)
  · have hi' : i < n := by simp at hc; omega
    have hl1 := hlen i hi'
    have hps := partAt_slice s i
    have hpt := partAt_len s i
    have hlast := hpl i
    have hbk := blockR_spec nx lk (partLast s i) (partAt s i) (by omega) (by omega) hpt
    obtain ⟨pt, hptt⟩ : ∃ p, partAt s i = p := ⟨_, rfl⟩
    rw [hptt] at hps hpt hbk hst
    obtain ⟨ls, hls⟩ : ∃ p, partLast s i = p := ⟨_, rfl⟩
    rw [hls] at hlast hbk hst
    obtain ⟨bl, hbl⟩ : ∃ p, blockP nx lk ls pt = p := ⟨_, rfl⟩
    have hst2 : G (i + 1) = ⟨W' ++ [(((area * k + fr : Nat) : Int), bl)], nx + 1, fr + 1, nx⟩ := by rw [hst, Ws.step, hbl]
    rw [hbl] at hbk
    have m1 : (i : Int) * 19 = ((i * 19 : Nat) : Int) := by omega
    obtain ⟨q, hq⟩ : ∃ q, i * 19 = q := ⟨_, rfl⟩
    rw [hq] at hl1 hps m1
    have v1 := wr (x := (q : Int)) (by omega)
    have v2 := wr (x := (q : Int) + 19) (by omega)
    have hmin : (if (s.length : Int) < (q : Int) + 19 then (s.length : Int) else (q : Int) + 19) = ((min (q + 19) s.length : Nat) : Int) := by split <;> omega
    obtain ⟨u, hu⟩ : ∃ u, min (q + 19) s.length = u := ⟨_, rfl⟩
    have hu2 : q ≤ u ∧ u ≤ s.length := by omega
    rw [hu] at hmin hps
    have v3 := wr (x := ((area * k : Nat) : Int) + (frm : Int)) (by omega)
    have v4 := wr (x := ((area * k + fr : Nat) : Int)) (by omega)
    have v5 := wr (x := (n : Int) - 1) (by omega)
    have c4 : ((area * k : Nat) : Int) + (frm : Int) + (i : Int) = ((area * k + fr : Nat) : Int) := by omega
    have hlq : ((i : Int) == (n : Int) - 1) = ls := by
      rw [hlast]
      by_cases e : i + 1 = n
      · rw [decide_eq_true e]; simp only [beq_iff_eq]; omega
      · rw [decide_eq_false e]; simp only [beq_eq_false_iff_ne, ne_eq]; omega
    have vi := wr (x := (i : Int) + 1) (by omega)
    have vn := wru (x := (nx : Int) + 1) (by omega)
    have hap : wrR W' ++ [[Ii ((area * k + fr : Nat) : Int), Si bl]] = wrR (W' ++ [(((area * k + fr : Nat) : Int), bl)]) := by simp [wrR]
    clear hq hu hbl hptt hls hstep hfacts hG hg hnn hpl hlen hst
    repeat (first | refine xA ?_ | refine xB ?_ | refine xC ?_ | refine xE ?_ | refine xD ?_ | refine xK ?_ | refine xS ?_ | refine xM ?_ | refine xT ?_ | refine xF ?_ | ((first | refine xR ?_ | refine xW ?_ | refine vq_id ?_); simp only [go_sem, Nat.reduceAdd, Nat.reduceLeDiff, Nat.reduceSub, Int.reduceToNat, reduceCtorEq, m1, v1, v2, BA_size, hmin, BA_extract, hps]) | (refine ⟨by first | omega | (intros; simp_all; done) | (intros; simp_all; omega), ?_⟩; try simp only [go_sem, Nat.reduceAdd, Nat.reduceLeDiff, Nat.reduceSub, Int.reduceToNat, reduceCtorEq, m1, v1, v2, BA_size, hmin, BA_extract, hps]))
    refine AP.drawE 25 (Tree.node [] [0, 1, 2, 3, 4, 5, 6, 7, 8, 9, 10, 11, 12, 13, 14, 15, 16, 17] [18] [Tree.node [0, 1, 2, 3, 4, 5, 6, 7, 8, 9] [19] [20] [Tree.node [0, 1, 2] [] [21] [Tree.node [] [22, 23] [24] [Tree.node [] [] [] []]]]]) (by kernel_rfl) rfl (by kernel_rfl) (by kernel_rfl) ?_
    refine vd_node ?_
    simp only [go_sem, Nat.reduceAdd, Nat.reduceLeDiff, Nat.reduceSub, Int.reduceToNat, reduceCtorEq, hmul, w2, v3, v4, c4, v5, hlq]
    refine AQ.fn (by kernel_rfl) rfl rfl rfl (hbk) rfl ?_
    simp only [go_sem, Nat.reduceAdd, Nat.reduceLeDiff, Nat.reduceSub, Int.reduceToNat, reduceCtorEq]
    refine AQ.nx rfl ?_
    simp only [go_sem, Nat.reduceAdd, Nat.reduceLeDiff, Nat.reduceSub, Int.reduceToNat, reduceCtorEq, hmul, w2, v3, v4, c4, v5, hlq]
    refine AQ.go (by kernel_rfl) ?_
    simp only [go_sem, Nat.reduceAdd, Nat.reduceLeDiff, Nat.reduceSub, Int.reduceToNat, reduceCtorEq]
    refine AQ.nx rfl ?_
    simp only [go_sem, Nat.reduceAdd, Nat.reduceLeDiff, Nat.reduceSub, Int.reduceToNat, reduceCtorEq, hmul, w2, v3, v4, c4, v5, hlq]
    refine AQ.kill 4 ?_
    simp only [go_sem, Nat.reduceAdd, Nat.reduceLeDiff, Nat.reduceSub, Int.reduceToNat, reduceCtorEq]
    refine AQ.append (hnb := rfl) (rows := wrR W') (es := 1) (by kernel_rfl) rfl rfl rfl (by rfl) Try.tk46 Try.sz101 (by show Option.map _ (zro Try.prog 101) = _; rw [Try.zr101]; rfl) Try.by101 (by first | rfl | (simp only [wrR_len, List.length_cons, List.length_nil]; done) | (simp only [wrR_len, List.length_cons, List.length_nil]; omega)) (by simp only [wrR_len, List.length_cons, List.length_nil]; omega) (by simp only [wrR_len, List.length_cons, List.length_nil]; omega) ?_
    simp only [go_sem, Nat.reduceAdd, Nat.reduceLeDiff, Nat.reduceSub, Int.reduceToNat, reduceCtorEq]
    refine AQ.nx rfl ?_
    simp only [go_sem, Nat.reduceAdd, Nat.reduceLeDiff, Nat.reduceSub, Int.reduceToNat, reduceCtorEq, hmul, w2, v3, v4, c4, v5, hlq]
    refine AQ.go (by kernel_rfl) ?_
    simp only [go_sem, Nat.reduceAdd, Nat.reduceLeDiff, Nat.reduceSub, Int.reduceToNat, reduceCtorEq]
    refine AQ.nx rfl ?_
    simp only [go_sem, Nat.reduceAdd, Nat.reduceLeDiff, Nat.reduceSub, Int.reduceToNat, reduceCtorEq, hmul, w2, v3, v4, c4, v5, hlq]
    refine AQ.done ?_
    repeat (first | refine xA ?_ | refine xB ?_ | refine xC ?_ | refine xE ?_ | refine xD ?_ | refine xK ?_ | refine xS ?_ | refine xM ?_ | refine xT ?_ | refine xF ?_ | ((first | refine xR ?_ | refine xW ?_ | refine vq_id ?_); simp only [go_sem, Nat.reduceAdd, Nat.reduceLeDiff, Nat.reduceSub, Int.reduceToNat, reduceCtorEq, vn, vi]) | (refine ⟨by first | omega | (intros; simp_all; done) | (intros; simp_all; omega), ?_⟩; try simp only [go_sem, Nat.reduceAdd, Nat.reduceLeDiff, Nat.reduceSub, Int.reduceToNat, reduceCtorEq, vn, vi]))
    rw [hap, wrR_len]
    simp only [go_sem, Nat.reduceAdd, Nat.reduceLeDiff, Nat.reduceSub, Int.reduceToNat, reduceCtorEq]
    exact AE.round (i + 1) (by omega) (by omega) (by simp only [hst2]; exact (by repeat (first | exact Sub.nil _ | refine Sub.cons rfl ?_))) (by simp only [hst2, List.length_append, List.length_cons, List.length_nil]; rfl)
  · have hi' : i = n := by simp at hc; omega
    have hgn : G n = ⟨W', nx, fr, lk⟩ := hi' ▸ hg
    simp only [hgn]
    repeat (first | refine xA ?_ | refine xB ?_ | refine xC ?_ | refine xE ?_ | refine xD ?_ | refine xK ?_ | refine xS ?_ | refine xM ?_ | refine xT ?_ | refine xF ?_ | ((first | refine xR ?_ | refine xW ?_ | refine vq_id ?_); simp only [go_sem, Nat.reduceAdd, Nat.reduceLeDiff, Nat.reduceSub, Int.reduceToNat, reduceCtorEq]) | (refine ⟨by first | omega | (intros; simp_all; done) | (intros; simp_all; omega), ?_⟩; try simp only [go_sem, Nat.reduceAdd, Nat.reduceLeDiff, Nat.reduceSub, Int.reduceToNat, reduceCtorEq]))
    refine AE.freeze 4 (el := 101) (es := 2) (rows := wrR W') rfl (by simp only [go_sem, Nat.reduceAdd, Nat.reduceLeDiff, Nat.reduceSub, Int.reduceToNat, reduceCtorEq, wrR_len]; first | done | trivial | omega | (simp; done) | (simp; omega)) (by simp only [go_sem, Nat.reduceAdd, Nat.reduceLeDiff, Nat.reduceSub, Int.reduceToNat, reduceCtorEq, wrR_len]; first | done | trivial | omega | (simp; done) | (simp; omega)) ?_; simp only [go_sem, Nat.reduceAdd, Nat.reduceLeDiff, Nat.reduceSub, Int.reduceToNat, reduceCtorEq, wrR_len]
    rw [take_all' (wrR W') _ (Nat.le_of_eq (wrR_len _))]
    exact AE.ret0 rfl ⟨⟨rfl, Nat.le_of_ble_eq_true (by kernel_rfl)⟩, trivial⟩ rfl ⟨rfl, rfl⟩
theorem jn_wrote (x : Jn) (half frm link : Nat) (s : Bs) : ({ { x with W := (x.wrd half frm link s (nparts s)).W, last := (x.wrd half frm link s (nparts s)).link, next := (x.wrd half frm link s (nparts s)).next } with recs := x.recs ++ [s], used := frm + nparts s } : Jn) = x.wrote half frm link s := by
  have h := (Ws.run_facts (x.B.length / 2) half s ⟨x.W, x.next, frm, link⟩ (nparts s)).1
  unfold Jn.wrote Jn.wrd
  simp only at h ⊢
  rw [h]
theorem appendR_ok (x : Jn) (half : Nat) (s : Bs) (hx : x.Sz) (hh : x.half = (half : Int)) (h : x.appE s = 0) : PFn Try.prog 42 [x.rv, Sv s] (.tup [Jn.rv (x.wrote half x.used x.last s), Iv 0]) := by
  have hh1 : half ≤ 1 := by have := hx.h; omega
  have hxb := hx.b
  have hxu := hx.u
  have hxw := hx.w
  have hxn := hx.n
  have hxl := hx.l
  have hxr := hx.r
  unfold Jn.appE at h
  split at h
  · cases h
  rename_i hs
  split at h
  · cases h
  rename_i hc
  have hnp := nparts_le s (by omega)
  have hpos := nparts_pos s
  have hpr := partsR_spec s (by omega)
  have hrm := roomR_spec x (by omega) hxu
  have hwr := written_spec x half x.used x.last s hx (by omega) hh1 (by omega) (by omega) (by omega)
  rw [← jn_wrote]
  obtain ⟨G, hG⟩ : ∃ G, x.wrd half x.used x.last s (nparts s) = G := ⟨_, rfl⟩
  rw [hG] at hwr ⊢
  obtain ⟨B, W', half', recs, used, first, last, next⟩ := x
  simp only at hxb hxu hxw hxn hxl hxr hc hh
  obtain ⟨n, hn⟩ : ∃ n, nparts s = n := ⟨_, rfl⟩
  rw [hn] at hc hnp hpos hpr ⊢
  have w1 := wru (x := (n : Int)) (by omega)
  have w2 := wru (x := (next : Int) + (n : Int)) (by omega)
  have w3 := wru (x := (next : Int) + (n : Int) - 1) (by omega)
  have w4 := wr (x := (W'.length : Int) + (n : Int)) (by omega)
  have w5 := wr (x := (used : Int) + (n : Int)) (by omega)
  have d1 : decide (((B.length / 2 - used : Nat) : Int) < (n : Int)) = false := by simp only [decide_eq_false_iff_not]; omega
  have d2 : decide ((4294967295 : Int) < (next : Int) + (n : Int) - 1) = false := by simp only [decide_eq_false_iff_not]; omega
  have d3 : decide ((10000 : Int) < (W'.length : Int) + (n : Int)) = false := by simp only [decide_eq_false_iff_not]; omega
  have d0 : decide ((10000 : Int) < (s.length : Int)) = false := by simp only [decide_eq_false_iff_not]; omega
  subst hh
  refine ACall.walk [0, 1, 2, 4, 5, 6, 9, 34] [2, 4] Try.func42 rfl Try.ntmps42 (by kernel_rfl) (by rfl) rfl fun W own I0 φ0 => ?_
  repeat (first | refine xA ?_ | refine xB ?_ | refine xC ?_ | refine xE ?_ | refine xD ?_ | refine xK ?_ | refine xS ?_ | refine xM ?_ | refine xT ?_ | refine xF ?_ | ((first | refine xR ?_ | refine xW ?_ | refine vq_id ?_); simp only [go_sem, Nat.reduceAdd, Nat.reduceLeDiff, Nat.reduceSub, Int.reduceToNat, reduceCtorEq, BA_size, d0]) | (refine ⟨by first | omega | (intros; simp_all; done) | (intros; simp_all; omega), ?_⟩; try simp only [go_sem, Nat.reduceAdd, Nat.reduceLeDiff, Nat.reduceSub, Int.reduceToNat, reduceCtorEq, BA_size, d0]))
  refine AQ.fn (by kernel_rfl) rfl rfl rfl (hpr) rfl ?_
  repeat (first | refine xA ?_ | refine xB ?_ | refine xC ?_ | refine xE ?_ | refine xD ?_ | refine xK ?_ | refine xS ?_ | refine xM ?_ | refine xT ?_ | refine xF ?_ | ((first | refine xR ?_ | refine xW ?_ | refine vq_id ?_); simp only [go_sem, Nat.reduceAdd, Nat.reduceLeDiff, Nat.reduceSub, Int.reduceToNat, reduceCtorEq]) | (refine ⟨by first | omega | (intros; simp_all; done) | (intros; simp_all; omega), ?_⟩; try simp only [go_sem, Nat.reduceAdd, Nat.reduceLeDiff, Nat.reduceSub, Int.reduceToNat, reduceCtorEq]))
  refine AQ.fn (by kernel_rfl) rfl rfl rfl (hrm) rfl ?_
  repeat (first | refine xA ?_ | refine xB ?_ | refine xC ?_ | refine xE ?_ | refine xD ?_ | refine xK ?_ | refine xS ?_ | refine xM ?_ | refine xT ?_ | refine xF ?_ | ((first | refine xR ?_ | refine xW ?_ | refine vq_id ?_); simp only [go_sem, Nat.reduceAdd, Nat.reduceLeDiff, Nat.reduceSub, Int.reduceToNat, reduceCtorEq, d1, w1, w2, w3, d2, wrR_len, w4, d3]) | (refine ⟨by first | omega | (intros; simp_all; done) | (intros; simp_all; omega), ?_⟩; try simp only [go_sem, Nat.reduceAdd, Nat.reduceLeDiff, Nat.reduceSub, Int.reduceToNat, reduceCtorEq, d1, w1, w2, w3, d2, wrR_len, w4, d3]))
  refine AQ.fn (by kernel_rfl) rfl rfl rfl (hwr) rfl ?_
  repeat (first | refine xA ?_ | refine xB ?_ | refine xC ?_ | refine xE ?_ | refine xD ?_ | refine xK ?_ | refine xS ?_ | refine xM ?_ | refine xT ?_ | refine xF ?_ | ((first | refine xR ?_ | refine xW ?_ | refine vq_id ?_); simp only [go_sem, Nat.reduceAdd, Nat.reduceLeDiff, Nat.reduceSub, Int.reduceToNat, reduceCtorEq, w5]) | (refine ⟨by first | omega | (intros; simp_all; done) | (intros; simp_all; omega), ?_⟩; try simp only [go_sem, Nat.reduceAdd, Nat.reduceLeDiff, Nat.reduceSub, Int.reduceToNat, reduceCtorEq, w5]))
  refine AQ.append (hnb := rfl) (rows := []) (es := 0) (by kernel_rfl) rfl rfl rfl (by rfl) Try.tk25 Try.sz9 (by show Option.map _ (zro Try.prog 9) = _; rw [Try.zr9]; rfl) Try.by9 (by first | rfl | (simp only [blkR_len, List.length_cons, List.length_nil]; done) | (simp only [blkR_len, List.length_cons, List.length_nil]; omega)) (by simp only [blkR_len, List.length_cons, List.length_nil]; omega) (by simp only [blkR_len, List.length_cons, List.length_nil]; omega) ?_
  simp only [go_sem, Nat.reduceAdd, Nat.reduceLeDiff, Nat.reduceSub, Int.reduceToNat, reduceCtorEq, List.nil_append, blkR_len]
  repeat (first | refine xA ?_ | refine xB ?_ | refine xC ?_ | refine xE ?_ | refine xD ?_ | refine xK ?_ | refine xS ?_ | refine xM ?_ | refine xT ?_ | refine xF ?_ | ((first | refine xR ?_ | refine xW ?_ | refine vq_id ?_); simp only [go_sem, Nat.reduceAdd, Nat.reduceLeDiff, Nat.reduceSub, Int.reduceToNat, reduceCtorEq]) | (refine ⟨by first | omega | (intros; simp_all; done) | (intros; simp_all; omega), ?_⟩; try simp only [go_sem, Nat.reduceAdd, Nat.reduceLeDiff, Nat.reduceSub, Int.reduceToNat, reduceCtorEq]))
  refine AQ.append (hnb := rfl) (rows := blkR recs) (es := 0) (by kernel_rfl) rfl rfl rfl (by rfl) Try.tk25 Try.sz9 (by show Option.map _ (zro Try.prog 9) = _; rw [Try.zr9]; rfl) Try.by9 (by first | rfl | (simp only [blkR_len, List.length_cons, List.length_nil]; done) | (simp only [blkR_len, List.length_cons, List.length_nil]; omega)) (by simp only [blkR_len, List.length_cons, List.length_nil]; omega) (by simp only [blkR_len, List.length_cons, List.length_nil]; omega) ?_
  simp only [go_sem, Nat.reduceAdd, Nat.reduceLeDiff, Nat.reduceSub, Int.reduceToNat, reduceCtorEq, blkR_len]
  have hb4 : blkR recs ++ [[Si s]] = blkR (recs ++ [s]) := by simp [blkR]
  have hl4 : (blkR (recs ++ [s])).length = recs.length + 1 := by rw [blkR_len]; simp
  rw [hb4]
  repeat (first | refine xA ?_ | refine xB ?_ | refine xC ?_ | refine xE ?_ | refine xD ?_ | refine xK ?_ | refine xS ?_ | refine xM ?_ | refine xT ?_ | refine xF ?_ | ((first | refine xR ?_ | refine xW ?_ | refine vq_id ?_); simp only [go_sem, Nat.reduceAdd, Nat.reduceLeDiff, Nat.reduceSub, Int.reduceToNat, reduceCtorEq]) | (refine ⟨by first | omega | (intros; simp_all; done) | (intros; simp_all; omega), ?_⟩; try simp only [go_sem, Nat.reduceAdd, Nat.reduceLeDiff, Nat.reduceSub, Int.reduceToNat, reduceCtorEq]))
  refine AE.freeze 2 (el := 9) (es := 1) (rows := blkR (recs ++ [s])) rfl (by simp only [go_sem, Nat.reduceAdd, Nat.reduceLeDiff, Nat.reduceSub, Int.reduceToNat, reduceCtorEq, hl4]; first | done | trivial | omega | (simp; done) | (simp; omega)) (by simp only [go_sem, Nat.reduceAdd, Nat.reduceLeDiff, Nat.reduceSub, Int.reduceToNat, reduceCtorEq, hl4]; first | done | trivial | omega | (simp; done) | (simp; omega)) ?_; simp only [go_sem, Nat.reduceAdd, Nat.reduceLeDiff, Nat.reduceSub, Int.reduceToNat, reduceCtorEq, hl4]
  rw [take_all' (blkR (recs ++ [s])) _ (Nat.le_of_eq hl4)]
  exact AE.ret0 rfl ⟨⟨rfl, Nat.le_of_ble_eq_true (by kernel_rfl)⟩, rfl, trivial⟩ rfl ⟨rfl, rfl⟩
theorem appendR_full (x : Jn) (half : Nat) (s : Bs) (hx : x.Sz) (hh : x.half = (half : Int)) (h : x.appE s = 8) : PFn Try.prog 42 [x.rv, Sv s] (.tup [x.rv, Iv 8]) := by
  have hh1 : half ≤ 1 := by have := hx.h; omega
  have hxb := hx.b
  have hxu := hx.u
  have hxw := hx.w
  have hxn := hx.n
  have hxl := hx.l
  have hxr := hx.r
  unfold Jn.appE at h
  split at h
  · cases h
  rename_i hs
  split at h
  rename_i hc
  case isFalse => cases h
  have hnp := nparts_le s (by omega)
  have hpos := nparts_pos s
  have hpr := partsR_spec s (by omega)
  have hrm := roomR_spec x (by omega) hxu
  obtain ⟨B, W', half', recs, used, first, last, next⟩ := x
  simp only at hxb hxu hxw hxn hxl hxr hc hh
  obtain ⟨n, hn⟩ : ∃ n, nparts s = n := ⟨_, rfl⟩
  rw [hn] at hc hnp hpos hpr
  have w1 := wru (x := (n : Int)) (by omega)
  have w2 := wru (x := (next : Int) + (n : Int)) (by omega)
  have w3 := wru (x := (next : Int) + (n : Int) - 1) (by omega)
  have w4 := wr (x := (W'.length : Int) + (n : Int)) (by omega)
  have w5 := wr (x := (used : Int) + (n : Int)) (by omega)
  have d1 : (decide (((B.length / 2 - used : Nat) : Int) < (n : Int)) || decide ((4294967295 : Int) < (next : Int) + (n : Int) - 1) || decide ((10000 : Int) < (W'.length : Int) + (n : Int))) = true := by
    simp only [Bool.or_eq_true, decide_eq_true_eq]; omega
  have d0 : decide ((10000 : Int) < (s.length : Int)) = false := by simp only [decide_eq_false_iff_not]; omega
  subst hh
  refine ACall.walk [0, 1, 2, 4, 5, 6, 9, 34] [2, 4] Try.func42 rfl Try.ntmps42 (by kernel_rfl) (by rfl) rfl fun W own I0 φ0 => ?_
  repeat (first | refine xA ?_ | refine xB ?_ | refine xC ?_ | refine xE ?_ | refine xD ?_ | refine xK ?_ | refine xS ?_ | refine xM ?_ | refine xT ?_ | refine xF ?_ | ((first | refine xR ?_ | refine xW ?_ | refine vq_id ?_); simp only [go_sem, Nat.reduceAdd, Nat.reduceLeDiff, Nat.reduceSub, Int.reduceToNat, reduceCtorEq, BA_size, d0]) | (refine ⟨by first | omega | (intros; simp_all; done) | (intros; simp_all; omega), ?_⟩; try simp only [go_sem, Nat.reduceAdd, Nat.reduceLeDiff, Nat.reduceSub, Int.reduceToNat, reduceCtorEq, BA_size, d0]))
  refine AQ.fn (by kernel_rfl) rfl rfl rfl (hpr) rfl ?_
  repeat (first | refine xA ?_ | refine xB ?_ | refine xC ?_ | refine xE ?_ | refine xD ?_ | refine xK ?_ | refine xS ?_ | refine xM ?_ | refine xT ?_ | refine xF ?_ | ((first | refine xR ?_ | refine xW ?_ | refine vq_id ?_); simp only [go_sem, Nat.reduceAdd, Nat.reduceLeDiff, Nat.reduceSub, Int.reduceToNat, reduceCtorEq]) | (refine ⟨by first | omega | (intros; simp_all; done) | (intros; simp_all; omega), ?_⟩; try simp only [go_sem, Nat.reduceAdd, Nat.reduceLeDiff, Nat.reduceSub, Int.reduceToNat, reduceCtorEq]))
  refine AQ.fn (by kernel_rfl) rfl rfl rfl (hrm) rfl ?_
  repeat (first | refine xA ?_ | refine xB ?_ | refine xC ?_ | refine xE ?_ | refine xD ?_ | refine xK ?_ | refine xS ?_ | refine xM ?_ | refine xT ?_ | refine xF ?_ | ((first | refine xR ?_ | refine xW ?_ | refine vq_id ?_); simp only [go_sem, Nat.reduceAdd, Nat.reduceLeDiff, Nat.reduceSub, Int.reduceToNat, reduceCtorEq, w1, w2, w3, wrR_len, w4, d1]) | (refine ⟨by first | omega | (intros; simp_all; done) | (intros; simp_all; omega), ?_⟩; try simp only [go_sem, Nat.reduceAdd, Nat.reduceLeDiff, Nat.reduceSub, Int.reduceToNat, reduceCtorEq, w1, w2, w3, wrR_len, w4, d1]))
  exact AE.ret0 rfl ⟨⟨rfl, Nat.le_of_ble_eq_true (by kernel_rfl)⟩, rfl, trivial⟩ rfl ⟨rfl, rfl⟩
theorem appendR_long (x : Jn) (s : Bs) (h : 10000 < s.length) : PFn Try.prog 42 [x.rv, Sv s] (.tup [x.rv, Iv 4]) := by
  have d0 : decide ((10000 : Int) < (s.length : Int)) = true := by simp only [decide_eq_true_eq]; omega
  refine ACall.walk [0, 1, 2, 4, 5, 6, 9, 34] [2, 4] Try.func42 rfl Try.ntmps42 (by kernel_rfl) (by rfl) rfl fun W own I0 φ0 => ?_
  repeat (first | refine xA ?_ | refine xB ?_ | refine xC ?_ | refine xE ?_ | refine xD ?_ | refine xK ?_ | refine xS ?_ | refine xM ?_ | refine xT ?_ | refine xF ?_ | ((first | refine xR ?_ | refine xW ?_ | refine vq_id ?_); simp only [go_sem, Nat.reduceAdd, Nat.reduceLeDiff, Nat.reduceSub, Int.reduceToNat, reduceCtorEq, BA_size, d0]) | (refine ⟨by first | omega | (intros; simp_all; done) | (intros; simp_all; omega), ?_⟩; try simp only [go_sem, Nat.reduceAdd, Nat.reduceLeDiff, Nat.reduceSub, Int.reduceToNat, reduceCtorEq, BA_size, d0]))
  exact AE.ret0 rfl ⟨⟨rfl, Nat.le_of_ble_eq_true (by kernel_rfl)⟩, rfl, trivial⟩ rfl ⟨rfl, rfl⟩
theorem compactR_long (x : Jn) (s : Bs) (h : 10000 < s.length) : PFn Try.prog 43 [x.rv, Sv s] (.tup [x.rv, Iv 4]) := by
  have d0 : decide ((10000 : Int) < (s.length : Int)) = true := by simp only [decide_eq_true_eq]; omega
  refine ACall.walk [0, 1, 2, 4, 5, 6, 9, 28] [2, 4] Try.func43 rfl Try.ntmps43 (by kernel_rfl) (by rfl) rfl fun W own I0 φ0 => ?_
  repeat (first | refine xA ?_ | refine xB ?_ | refine xC ?_ | refine xE ?_ | refine xD ?_ | refine xK ?_ | refine xS ?_ | refine xM ?_ | refine xT ?_ | refine xF ?_ | ((first | refine xR ?_ | refine xW ?_ | refine vq_id ?_); simp only [go_sem, Nat.reduceAdd, Nat.reduceLeDiff, Nat.reduceSub, Int.reduceToNat, reduceCtorEq, BA_size, d0]) | (refine ⟨by first | omega | (intros; simp_all; done) | (intros; simp_all; omega), ?_⟩; try simp only [go_sem, Nat.reduceAdd, Nat.reduceLeDiff, Nat.reduceSub, Int.reduceToNat, reduceCtorEq, BA_size, d0]))
  exact AE.ret0 rfl ⟨⟨rfl, Nat.le_of_ble_eq_true (by kernel_rfl)⟩, rfl, trivial⟩ rfl ⟨rfl, rfl⟩
theorem commitR_spec (x : Jn) (hx : x.Sz) (hd : x.D.Ok) : PFn Try.prog 44 [x.rv] x.synced.rv := by
  have hs := synced_spec x.D ⟨by have := hx.b; simp only; omega, by have := hx.w; simp only; omega⟩
  have hsy : x.D.synB = x.D.syncD.B := by rw [sync_eq, Dk.syncR, if_pos ((x.D.chk_ok).2 hd)]
  rw [hsy] at hs
  unfold Jn.synced
  obtain ⟨S, hS⟩ : ∃ S, x.D.syncD.B = S := ⟨_, rfl⟩
  rw [hS] at hs ⊢
  refine ACall.walk [0, 1, 2] [1, 2] Try.func44 rfl Try.ntmps44 (by kernel_rfl) (by rfl) rfl fun W own I0 φ0 => ?_
  repeat (first | refine xA ?_ | refine xB ?_ | refine xC ?_ | refine xE ?_ | refine xD ?_ | refine xK ?_ | refine xS ?_ | refine xM ?_ | refine xT ?_ | refine xF ?_ | ((first | refine xR ?_ | refine xW ?_ | refine vq_id ?_); simp only [go_sem, Nat.reduceAdd, Nat.reduceLeDiff, Nat.reduceSub, Int.reduceToNat, reduceCtorEq]) | (refine ⟨by first | omega | (intros; simp_all; done) | (intros; simp_all; omega), ?_⟩; try simp only [go_sem, Nat.reduceAdd, Nat.reduceLeDiff, Nat.reduceSub, Int.reduceToNat, reduceCtorEq]))
  refine AQ.fn (by kernel_rfl) rfl rfl rfl (hs) rfl ?_
  repeat (first | refine xA ?_ | refine xB ?_ | refine xC ?_ | refine xE ?_ | refine xD ?_ | refine xK ?_ | refine xS ?_ | refine xM ?_ | refine xT ?_ | refine xF ?_ | ((first | refine xR ?_ | refine xW ?_ | refine vq_id ?_); simp only [go_sem, Nat.reduceAdd, Nat.reduceLeDiff, Nat.reduceSub, Int.reduceToNat, reduceCtorEq]) | (refine ⟨by first | omega | (intros; simp_all; done) | (intros; simp_all; omega), ?_⟩; try simp only [go_sem, Nat.reduceAdd, Nat.reduceLeDiff, Nat.reduceSub, Int.reduceToNat, reduceCtorEq]))
  exact AE.ret0 rfl ⟨⟨rfl, Nat.le_of_ble_eq_true (by kernel_rfl)⟩, trivial⟩ rfl ⟨rfl, rfl⟩
theorem compactR_ok (x : Jn) (half : Nat) (s : Bs) (hx : x.Sz) (hd : x.D.Ok) (hh : 1 - x.half = (half : Int)) (h : x.compE s = 0) : PFn Try.prog 43 [x.rv, Sv s] (.tup [Jn.rv (x.comp0.wrote half 0 0 s), Iv 0]) := by
  have hh1 : half ≤ 1 := by have := hx.h; omega
  have hxb := hx.b
  have hxn := hx.n
  have hxh := hx.h
  have hcm := commitR_spec x hx hd
  have hsl := sync_blen hd
  unfold Jn.compE at h
  split at h
  · cases h
  rename_i hs
  split at h
  · cases h
  rename_i hc
  have hnp := nparts_le s (by omega)
  have hpos := nparts_pos s
  have hpr := partsR_spec s (by omega)
  have hsz2 : ({ x.synced with half := (half : Int) } : Jn).Sz := by
    have hb2 : x.synced.B.length = x.B.length := hsl
    exact ⟨by simp only; omega, by simp only; omega, by simp only; rw [hb2]; exact hx.u, hx.f, hx.l, hx.n, hx.n1, by simp [Jn.synced], hx.r⟩
  have hwr := written_spec { x.synced with half := (half : Int) } half 0 0 s hsz2 (by omega) hh1 (by omega) (by omega) (by show x.next + nparts s ≤ _; omega)
  have hw0 : Jn.wrd { x.synced with half := (half : Int) } half 0 0 s (nparts s) = x.comp0.wrd half 0 0 s (nparts s) := rfl
  rw [hw0] at hwr
  rw [← jn_wrote]
  obtain ⟨G, hG⟩ : ∃ G, x.comp0.wrd half 0 0 s (nparts s) = G := ⟨_, rfl⟩
  rw [hG] at hwr ⊢
  unfold Jn.comp0
  rw [hh]
  have hB2 : x.synced.B = x.D.syncD.B := rfl
  unfold Jn.synced at hcm
  obtain ⟨S, hS⟩ : ∃ S, x.D.syncD.B = S := ⟨_, rfl⟩
  rw [hS] at hcm
  rw [hS] at hB2 ⊢
  unfold Jn.synced at hwr hB2
  simp only [hS] at hwr
  obtain ⟨B, W', half', recs, used, first, last, next⟩ := x
  simp only at hxb hxn hxh hc hh
  obtain ⟨n, hn⟩ : ∃ n, nparts s = n := ⟨_, rfl⟩
  rw [hn] at hc hnp hpos hpr ⊢
  simp only [Nat.zero_add]
  have hdv : (B.length : Int).tdiv 2 = ((B.length / 2 : Nat) : Int) := rfl
  have w0 := wr (x := ((B.length / 2 : Nat) : Int)) (by omega)
  have w1 := wru (x := (n : Int)) (by omega)
  have w2 := wru (x := (next : Int) + (n : Int)) (by omega)
  have w3 := wru (x := (next : Int) + (n : Int) - 1) (by omega)
  have w6 := wr (x := (1 : Int) - half') (by omega)
  have w7 := wr (x := (half : Int)) (by omega)
  have d1 : decide (((B.length / 2 : Nat) : Int) < (n : Int)) = false := by simp only [decide_eq_false_iff_not]; omega
  have d2 : decide ((4294967295 : Int) < (next : Int) + (n : Int) - 1) = false := by simp only [decide_eq_false_iff_not]; omega
  have d0 : decide ((10000 : Int) < (s.length : Int)) = false := by simp only [decide_eq_false_iff_not]; omega
  refine ACall.walk [0, 1, 2, 4, 5, 6, 9, 28] [2, 4] Try.func43 rfl Try.ntmps43 (by kernel_rfl) (by rfl) rfl fun W own I0 φ0 => ?_
  repeat (first | refine xA ?_ | refine xB ?_ | refine xC ?_ | refine xE ?_ | refine xD ?_ | refine xK ?_ | refine xS ?_ | refine xM ?_ | refine xT ?_ | refine xF ?_ | ((first | refine xR ?_ | refine xW ?_ | refine vq_id ?_); simp only [go_sem, Nat.reduceAdd, Nat.reduceLeDiff, Nat.reduceSub, Int.reduceToNat, reduceCtorEq, BA_size, d0]) | (refine ⟨by first | omega | (intros; simp_all; done) | (intros; simp_all; omega), ?_⟩; try simp only [go_sem, Nat.reduceAdd, Nat.reduceLeDiff, Nat.reduceSub, Int.reduceToNat, reduceCtorEq, BA_size, d0]))
  refine AQ.fn (by kernel_rfl) rfl rfl rfl (hpr) rfl ?_
  repeat (first | refine xA ?_ | refine xB ?_ | refine xC ?_ | refine xE ?_ | refine xD ?_ | refine xK ?_ | refine xS ?_ | refine xM ?_ | refine xT ?_ | refine xF ?_ | ((first | refine xR ?_ | refine xW ?_ | refine vq_id ?_); simp only [go_sem, Nat.reduceAdd, Nat.reduceLeDiff, Nat.reduceSub, Int.reduceToNat, reduceCtorEq, blkR_len, hdv, w0, w1, w2, w3, d1, d2]) | (refine ⟨by first | omega | (intros; simp_all; done) | (intros; simp_all; omega), ?_⟩; try simp only [go_sem, Nat.reduceAdd, Nat.reduceLeDiff, Nat.reduceSub, Int.reduceToNat, reduceCtorEq, blkR_len, hdv, w0, w1, w2, w3, d1, d2]))
  refine AQ.fn (by kernel_rfl) rfl rfl rfl (hcm) rfl ?_
  repeat (first | refine xA ?_ | refine xB ?_ | refine xC ?_ | refine xE ?_ | refine xD ?_ | refine xK ?_ | refine xS ?_ | refine xM ?_ | refine xT ?_ | refine xF ?_ | ((first | refine xR ?_ | refine xW ?_ | refine vq_id ?_); simp only [go_sem, Nat.reduceAdd, Nat.reduceLeDiff, Nat.reduceSub, Int.reduceToNat, reduceCtorEq, w6, hh, w7]) | (refine ⟨by first | omega | (intros; simp_all; done) | (intros; simp_all; omega), ?_⟩; try simp only [go_sem, Nat.reduceAdd, Nat.reduceLeDiff, Nat.reduceSub, Int.reduceToNat, reduceCtorEq, w6, hh, w7]))
  refine AQ.fn (by kernel_rfl) rfl rfl rfl (hwr) rfl ?_
  repeat (first | refine xA ?_ | refine xB ?_ | refine xC ?_ | refine xE ?_ | refine xD ?_ | refine xK ?_ | refine xS ?_ | refine xM ?_ | refine xT ?_ | refine xF ?_ | ((first | refine xR ?_ | refine xW ?_ | refine vq_id ?_); simp only [go_sem, Nat.reduceAdd, Nat.reduceLeDiff, Nat.reduceSub, Int.reduceToNat, reduceCtorEq]) | (refine ⟨by first | omega | (intros; simp_all; done) | (intros; simp_all; omega), ?_⟩; try simp only [go_sem, Nat.reduceAdd, Nat.reduceLeDiff, Nat.reduceSub, Int.reduceToNat, reduceCtorEq]))
  exact AE.ret0 rfl ⟨⟨rfl, Nat.le_of_ble_eq_true (by kernel_rfl)⟩, rfl, trivial⟩ rfl ⟨rfl, rfl⟩
theorem compactR_full (x : Jn) (half : Nat) (s : Bs) (hx : x.Sz) (hd : x.D.Ok) (hh : 1 - x.half = (half : Int)) (h : x.compE s = 8) : PFn Try.prog 43 [x.rv, Sv s] (.tup [x.rv, Iv 8]) := by
  have hh1 : half ≤ 1 := by have := hx.h; omega
  have hxb := hx.b
  have hxn := hx.n
  have hxh := hx.h
  have hcm := commitR_spec x hx hd
  have hsl := sync_blen hd
  unfold Jn.compE at h
  split at h
  · cases h
  rename_i hs
  split at h
  rename_i hc
  case isFalse => cases h
  have hnp := nparts_le s (by omega)
  have hpos := nparts_pos s
  have hpr := partsR_spec s (by omega)
  unfold Jn.synced at hcm
  obtain ⟨S, hS⟩ : ∃ S, x.D.syncD.B = S := ⟨_, rfl⟩
  rw [hS] at hcm
  obtain ⟨B, W', half', recs, used, first, last, next⟩ := x
  simp only at hxb hxn hxh hc hh
  obtain ⟨n, hn⟩ : ∃ n, nparts s = n := ⟨_, rfl⟩
  rw [hn] at hc hnp hpos hpr
  have hdv : (B.length : Int).tdiv 2 = ((B.length / 2 : Nat) : Int) := rfl
  have w0 := wr (x := ((B.length / 2 : Nat) : Int)) (by omega)
  have w1 := wru (x := (n : Int)) (by omega)
  have w2 := wru (x := (next : Int) + (n : Int)) (by omega)
  have w3 := wru (x := (next : Int) + (n : Int) - 1) (by omega)
  have w6 := wr (x := (1 : Int) - half') (by omega)
  have w7 := wr (x := (half : Int)) (by omega)
  have d1 : (decide (((B.length / 2 : Nat) : Int) < (n : Int)) || decide ((4294967295 : Int) < (next : Int) + (n : Int) - 1)) = true := by
    simp only [Bool.or_eq_true, decide_eq_true_eq]; omega
  have d0 : decide ((10000 : Int) < (s.length : Int)) = false := by simp only [decide_eq_false_iff_not]; omega
  refine ACall.walk [0, 1, 2, 4, 5, 6, 9, 28] [2, 4] Try.func43 rfl Try.ntmps43 (by kernel_rfl) (by rfl) rfl fun W own I0 φ0 => ?_
  repeat (first | refine xA ?_ | refine xB ?_ | refine xC ?_ | refine xE ?_ | refine xD ?_ | refine xK ?_ | refine xS ?_ | refine xM ?_ | refine xT ?_ | refine xF ?_ | ((first | refine xR ?_ | refine xW ?_ | refine vq_id ?_); simp only [go_sem, Nat.reduceAdd, Nat.reduceLeDiff, Nat.reduceSub, Int.reduceToNat, reduceCtorEq, BA_size, d0]) | (refine ⟨by first | omega | (intros; simp_all; done) | (intros; simp_all; omega), ?_⟩; try simp only [go_sem, Nat.reduceAdd, Nat.reduceLeDiff, Nat.reduceSub, Int.reduceToNat, reduceCtorEq, BA_size, d0]))
  refine AQ.fn (by kernel_rfl) rfl rfl rfl (hpr) rfl ?_
  repeat (first | refine xA ?_ | refine xB ?_ | refine xC ?_ | refine xE ?_ | refine xD ?_ | refine xK ?_ | refine xS ?_ | refine xM ?_ | refine xT ?_ | refine xF ?_ | ((first | refine xR ?_ | refine xW ?_ | refine vq_id ?_); simp only [go_sem, Nat.reduceAdd, Nat.reduceLeDiff, Nat.reduceSub, Int.reduceToNat, reduceCtorEq, blkR_len, hdv, w0, w1, w2, w3, d1]) | (refine ⟨by first | omega | (intros; simp_all; done) | (intros; simp_all; omega), ?_⟩; try simp only [go_sem, Nat.reduceAdd, Nat.reduceLeDiff, Nat.reduceSub, Int.reduceToNat, reduceCtorEq, blkR_len, hdv, w0, w1, w2, w3, d1]))
  exact AE.ret0 rfl ⟨⟨rfl, Nat.le_of_ble_eq_true (by kernel_rfl)⟩, rfl, trivial⟩ rfl ⟨rfl, rfl⟩
end Go.Proofs.Ytoafanbfminhcaa
end

section
namespace Go.Proofs.Ytoafanbfminhcaa
open Go Go.AL Go.RowKit
set_option maxRecDepth 10000
set_option maxHeartbeats 4000000
abbrev B8 (n : Int) : AV := .im (.v (.int .u8 n))
def shortL (l : List Ac) : Bool := decide ((l.length : Int) ≤ 40) && !l.any longA
theorem longA_not {l : List Ac} (h : shortL l = true) : l.length ≤ 40 ∧ ∀ a ∈ l, (a.t.length ≤ 300 ∨ (10000 < a.t.length ∧ a.t.length ≤ 10100)) ∧ a.f.length ≤ 100 := by
  simp only [shortL, Bool.and_eq_true, decide_eq_true_eq, Bool.not_eq_true', List.any_eq_false] at h
  refine ⟨by omega, fun a ha => ?_⟩
  have := h.2 a ha
  simp only [longA, Bool.or_eq_true, Bool.and_eq_true, decide_eq_true_eq] at this
  omega
theorem open_sel (d : Dk) (hd : d.Sz) (hok : d.Ok) {c : Sc} {h : Nat} (hs : Sel (arA d.syncD.B) (arB d.syncD.B) c h) {x : Jn} (hx : openJ d c h = x) : ACall Try.prog 12 [d.v] [] (fun r H' => H' = x.H 1 2 ∧ r = .tup [.ob 0 0, Iv 0]) :=
  (open_walk d hd hok).mono fun r H' hr => by
    have := hr.2 c h hs
    rw [hx] at this; exact this
end Go.Proofs.Ytoafanbfminhcaa
end

section
namespace Go.Proofs.Ytoafanbfminhcaa
open Go Go.AL Go.RowKit
set_option maxRecDepth 100000
theorem ints_of {n : Nat} {xs : List IV} (h : Typed Try.prog n 36 xs) : ∃ l : List Int, xs = [.sl 1 (intR l)] ∧ l.length < 9223372036854775808 := by
  have hc : Try.prog.cellsOf 3 = 1 := by kernel_rfl
  obtain ⟨rows, m, rfl, hr, hrow⟩ := typed_slice Try.underlying36 h
  obtain ⟨l, rfl, _⟩ := rows_of (p := fun _ : Int => True) (f := fun i => [Ii i]) rows fun r hr => by
    obtain ⟨i, rfl, _⟩ := typed_int Try.underlying3 (hrow r hr)
    exact ⟨i, rfl, trivial⟩
  refine ⟨l, by rw [hc]; rfl, ?_⟩
  rw [List.length_map] at hr
  unfold maxLen at hr
  omega
end Go.Proofs.Ytoafanbfminhcaa
end

section
namespace Go.Proofs.Ytoafanbfminhcaa
open Go Go.AL Go.RowKit
set_option maxRecDepth 100000
theorem u8_nat {i : Int} (h : (Lit.int .u8 i).wf = true) : ∃ n : Nat, i = n ∧ n < 256 := by
  simp [Lit.wf, IntKind.min, IntKind.max, IntKind.bits, IntKind.signed] at h
  exact ⟨i.toNat, by omega, by omega⟩
theorem acts_of {n : Nat} {xs : List IV} (h : Typed Try.prog n 22 xs) : ∃ l : List Ac, xs = [.sl 3 (acR l)] ∧ l.length < 9223372036854775808 ∧ ∀ a ∈ l, a.k < 256 := by
  have hc : Try.prog.cellsOf 38 = 3 := by kernel_rfl
  have hc5 : Try.prog.cellsOf 5 = 1 := by kernel_rfl
  have hc9 : Try.prog.cellsOf 9 = 1 := by kernel_rfl
  have hc36 : Try.prog.cellsOf 36 = 1 := by kernel_rfl
  obtain ⟨rows, m, rfl, hr, hrow⟩ := typed_slice Try.underlying22 h
  obtain ⟨l, rfl, hl⟩ := rows_of (p := fun a : Ac => a.k < 256) (f := Ac.r) rows fun r hr => by
    obtain ⟨m', hlen, hf⟩ := typed_struct Try.underlying38 (hrow r hr)
    rw [hc] at hlen
    match r, hlen with
    | [a, b, c], _ =>
      have f0 := hf 0 _ rfl
      have f1 := hf 1 _ rfl
      have f2 := hf 2 _ rfl
      simp only [hc5, hc9, hc36, List.drop_zero, List.take_succ_cons, List.take_zero, List.drop_succ_cons] at f0 f1 f2
      obtain ⟨i0, e0, w0⟩ := typed_int Try.underlying5 f0
      obtain ⟨s, e1, _⟩ := typed_str Try.underlying9 f1
      obtain ⟨F, e2, _⟩ := ints_of f2
      obtain ⟨n0, rfl, b0⟩ := u8_nat w0
      cases e0; cases e1; cases e2
      exact ⟨⟨n0, s.data.toList, F⟩, congrArg (fun x => [IV.v (Value.int .u8 n0), IV.v (Value.string x), IV.sl 1 (intR F)]) (BA_of s), b0⟩
  refine ⟨l, by rw [hc]; rfl, ?_, hl⟩
  rw [List.length_map] at hr
  unfold maxLen at hr
  omega
end Go.Proofs.Ytoafanbfminhcaa
end

section
namespace Go.Proofs.Ytoafanbfminhcaa
open Go Go.AL Go.RowKit
set_option maxRecDepth 10000
set_option maxHeartbeats 4000000
end Go.Proofs.Ytoafanbfminhcaa
end

section
namespace Go.Proofs.Ytoafanbfminhcaa
open Go Go.AL Go.RowKit
set_option maxRecDepth 10000
set_option maxHeartbeats 4000000
theorem recs_cons {x : Jn} (h : x.recs ≠ []) : ∃ s r, x.recs = s :: r := by
  cases hh : x.recs with
  | nil => exact absurd hh h
  | cons s r => exact ⟨s, r, rfl⟩
end Go.Proofs.Ytoafanbfminhcaa
end

section
namespace Go.Proofs.Ytoafanbfminhcaa
open Go Go.AL Go.RowKit
set_option maxRecDepth 100000
end Go.Proofs.Ytoafanbfminhcaa
end

section
namespace Go.Proofs.Ytoafanbfminhcaa
open Go Go.AL Go.RowKit
set_option maxRecDepth 10000
set_option maxHeartbeats 4000000
end Go.Proofs.Ytoafanbfminhcaa
end

section
namespace Go.Proofs.Ytoafanbfminhcaa
open Go Go.AL Go.RowKit
set_option maxRecDepth 10000
set_option maxHeartbeats 4000000
end Go.Proofs.Ytoafanbfminhcaa
end

section
namespace Go.Proofs.Ytoafanbfminhcaa
open Go Go.AL Go.RowKit
set_option maxRecDepth 10000
set_option maxHeartbeats 4000000
theorem alike_spec (x : Jn) (hx : x.Sz) (hne : x.recs ≠ []) : PFn Try.prog 41 [.im (.pt x.ic), x.rv] (Bv true) := by
  obtain ⟨s, l, hrec⟩ := recs_cons hne
  have hxb := hx.b
  have hxw := hx.w
  have hxr := hx.r
  have hl := congrArg List.length hrec
  rw [List.length_cons] at hl
  have hro := records_own x s l hrec (by omega)
  have heq := eqStrs l l (by omega) (by omega)
  rw [decide_eq_true rfl] at heq
  have hrm := room_spec x (by omega) hx.u
  have hrr := roomR_spec x (by omega) hx.u
  have hdk := disk_own x ⟨by simp only; omega, by simp only; omega⟩
  have hsd := same_self x.D x.D ⟨by simp only; omega, by simp only; omega⟩ rfl
  have x1 : decide ((0 : Int) < (x.recs.length : Int)) = true := by simp only [decide_eq_true_eq]; omega
  have x2 : (blkR x.recs).getD 0 [] = [Si s] := by rw [hrec]; rfl
  have x3 : List.drop 1 (blkR x.recs) = blkR l := by rw [hrec]; rfl
  refine ACall.walk [0, 1, 3, 4, 5, 6] [] Try.func41 rfl Try.ntmps41 (by kernel_rfl) (by rfl) rfl fun W own I0 φ0 => ?_
  repeat (first | refine xA ?_ | refine xB ?_ | refine xC ?_ | refine xE ?_ | refine xD ?_ | refine xK ?_ | refine xS ?_ | refine xM ?_ | refine xT ?_ | refine xF ?_ | ((first | refine xR ?_ | refine xW ?_ | refine vq_id ?_); simp only [go_sem, Nat.reduceAdd, Nat.reduceLeDiff, Nat.reduceSub, Int.reduceToNat, reduceCtorEq]) | (refine ⟨by first | omega | (intros; simp_all; done) | (intros; simp_all; omega), ?_⟩; try simp only [go_sem, Nat.reduceAdd, Nat.reduceLeDiff, Nat.reduceSub, Int.reduceToNat, reduceCtorEq]))
  refine AQ.callv (by kernel_rfl) rfl rfl rfl hro fun r' H' ⟨e1, e2⟩ => ?_
  subst e1; subst e2
  simp only [go_sem, Nat.reduceAdd, Nat.reduceLeDiff, Nat.reduceSub, Int.reduceToNat, reduceCtorEq]
  repeat (first | refine xA ?_ | refine xB ?_ | refine xC ?_ | refine xE ?_ | refine xD ?_ | refine xK ?_ | refine xS ?_ | refine xM ?_ | refine xT ?_ | refine xF ?_ | ((first | refine xR ?_ | refine xW ?_ | refine vq_id ?_); simp only [go_sem, Nat.reduceAdd, Nat.reduceLeDiff, Nat.reduceSub, Int.reduceToNat, reduceCtorEq]) | (refine ⟨by first | omega | (intros; simp_all; done) | (intros; simp_all; omega), ?_⟩; try simp only [go_sem, Nat.reduceAdd, Nat.reduceLeDiff, Nat.reduceSub, Int.reduceToNat, reduceCtorEq]))
  refine AP.drawE 34 (Tree.node [] [0, 1, 2, 3, 4, 5, 6, 7, 8, 9, 10, 11, 12, 13, 14, 15, 16] [17] [Tree.node [] [18, 19, 20, 22] [21] [Tree.node [22] [] [23] [Tree.node [] [24, 25, 26, 27, 29, 30] [28] [Tree.node [29, 30] [] [31] [Tree.node [] [32, 33] [] []]]]]]) (by kernel_rfl) rfl (by kernel_rfl) (by kernel_rfl) ?_
  refine vd_node ?_
  simp only [go_sem, Nat.reduceAdd, Nat.reduceLeDiff, Nat.reduceSub, Int.reduceToNat, reduceCtorEq, x1, x2, x3, blkR_len, BA_toList, beq_self_eq_true]
  repeat (with_reducible refine And.intro (by omega) ?_)
  refine AQ.guard_yes (by simp only [go_sem]) ?_
  refine AQ.fnL ([.im (.sl 1 (blkR l)), .im (.sl 1 (blkR l))]) (by kernel_rfl) rfl rfl rfl (by ((try simp only [List.nil_append, List.append_nil, List.map_cons, List.map_nil, AV.st, constAV]); repeat (first | with_reducible exact LentC.nil | with_reducible exact LentAs.nil | with_reducible refine LentC.cons ?_ ?_ | with_reducible refine LentAs.cons ?_ ?_ | with_reducible exact Lent.im _ | with_reducible exact LentA.im _ | with_reducible refine LentA.of ?_ | with_reducible refine LentA.agg ?_ | ((with_reducible apply Lent.osw); rfl; simp only [blkR_len, wrR_len, byteR_len, List.length_append, List.length_cons, List.length_nil]) | ((with_reducible apply Lent.ob0); rfl)))) (heq) rfl (fun _ => rfl) ?_
  simp only [go_sem, Nat.reduceAdd, Nat.reduceLeDiff, Nat.reduceSub, Int.reduceToNat, reduceCtorEq]
  refine AQ.nx rfl ?_
  simp only [go_sem, Nat.reduceAdd, Nat.reduceLeDiff, Nat.reduceSub, Int.reduceToNat, reduceCtorEq, x1, x2, x3, blkR_len, BA_toList, beq_self_eq_true]
  repeat (with_reducible refine And.intro (by omega) ?_)
  refine AQ.guard_yes (by simp only [go_sem]) ?_
  refine AQ.fn (by kernel_rfl) rfl rfl rfl (hrm) rfl ?_
  simp only [go_sem, Nat.reduceAdd, Nat.reduceLeDiff, Nat.reduceSub, Int.reduceToNat, reduceCtorEq]
  refine AQ.nx rfl ?_
  simp only [go_sem, Nat.reduceAdd, Nat.reduceLeDiff, Nat.reduceSub, Int.reduceToNat, reduceCtorEq, beq_self_eq_true]
  refine AQ.guard_yes (by simp only [go_sem]) ?_
  refine AQ.fn (by kernel_rfl) rfl rfl rfl (hrr) rfl ?_
  simp only [go_sem, Nat.reduceAdd, Nat.reduceLeDiff, Nat.reduceSub, Int.reduceToNat, reduceCtorEq, beq_self_eq_true]
  refine AQ.nx rfl ?_
  simp only [go_sem, Nat.reduceAdd, Nat.reduceLeDiff, Nat.reduceSub, Int.reduceToNat, reduceCtorEq, beq_self_eq_true]
  refine AQ.guard_yes (by simp only [go_sem]) ?_
  refine AQ.callv (by kernel_rfl) rfl rfl rfl hdk fun r' H' ⟨e1, e2⟩ => ?_
  subst e1; subst e2
  simp only [go_sem, Nat.reduceAdd, Nat.reduceLeDiff, Nat.reduceSub, Int.reduceToNat, reduceCtorEq]
  refine AQ.nx rfl ?_
  simp only [go_sem, Nat.reduceAdd, Nat.reduceLeDiff, Nat.reduceSub, Int.reduceToNat, reduceCtorEq]
  refine AQ.guard_yes (by simp only [go_sem]) ?_
  refine AQ.fnL ([x.D.v, x.D.v]) (by kernel_rfl) rfl rfl rfl (by ((try simp only [List.nil_append, List.append_nil, List.map_cons, List.map_nil, AV.st, constAV]); repeat (first | with_reducible exact LentC.nil | with_reducible exact LentAs.nil | with_reducible refine LentC.cons ?_ ?_ | with_reducible refine LentAs.cons ?_ ?_ | with_reducible exact Lent.im _ | with_reducible exact LentA.im _ | with_reducible refine LentA.of ?_ | with_reducible refine LentA.agg ?_ | ((with_reducible apply Lent.osw); rfl; simp only [blkR_len, wrR_len, byteR_len, List.length_append, List.length_cons, List.length_nil]) | ((with_reducible apply Lent.ob0); rfl)))) (hsd) rfl (fun _ => rfl) ?_
  simp only [go_sem, Nat.reduceAdd, Nat.reduceLeDiff, Nat.reduceSub, Int.reduceToNat, reduceCtorEq]
  refine AQ.nx rfl ?_
  simp only [go_sem, Nat.reduceAdd, Nat.reduceLeDiff, Nat.reduceSub, Int.reduceToNat, reduceCtorEq]
  refine AQ.done ?_
  repeat (first | refine xA ?_ | refine xB ?_ | refine xC ?_ | refine xE ?_ | refine xD ?_ | refine xK ?_ | refine xS ?_ | refine xM ?_ | refine xT ?_ | refine xF ?_ | ((first | refine xR ?_ | refine xW ?_ | refine vq_id ?_); simp only [go_sem, Nat.reduceAdd, Nat.reduceLeDiff, Nat.reduceSub, Int.reduceToNat, reduceCtorEq]) | (refine ⟨by first | omega | (intros; simp_all; done) | (intros; simp_all; omega), ?_⟩; try simp only [go_sem, Nat.reduceAdd, Nat.reduceLeDiff, Nat.reduceSub, Int.reduceToNat, reduceCtorEq]))
  exact AE.ret0 rfl ⟨rfl, trivial⟩ rfl ⟨rfl, rfl⟩
end Go.Proofs.Ytoafanbfminhcaa
end

section
namespace Go.Proofs.Ytoafanbfminhcaa
open Go Go.AL Go.RowKit
set_option maxRecDepth 10000
set_option maxHeartbeats 4000000
theorem stB_bst {S : List Bs} (h : S.length % 2 = 0) : stB S 2 = bst (arA S) (arB S) (nF (S.getD 0 [])) (nF (S.getD (S.length / 2) [])) := by
  have e0 : arX S 0 = S.take (S.length / 2) := by rw [arX, Nat.zero_mul, List.drop_zero]
  have e1 : arX S 1 = S.drop (S.length / 2) := area_drop h
  rw [stB, stB, stB, e0, e1, Nat.zero_mul, Nat.one_mul]; rfl
theorem stB_sel {S : List Bs} (h : S.length % 2 = 0) {c : Sc} {k : Nat} (hs : Sel (arA S) (arB S) c k) : (stB S 2).2 = some (k, c) := by
  rw [stB_bst h]
  refine bst_sel hs (fun hr => ?_) (fun hr => ?_)
  · obtain ⟨s, r, e, h1, h2⟩ := scan_first hr
    have : S.getD 0 [] = s := by
      have := congrArg (fun l => l.getD 0 []) e
      simp only [List.getD_eq_getElem?_getD, List.getElem?_take] at this ⊢
      split at this
      · simpa using this
      · rename_i hn
        have hl := congrArg List.length e
        rw [List.length_take, List.length_cons] at hl
        omega
    rw [this]
    exact ⟨h1, h2⟩
  · obtain ⟨s, r, e, h1, h2⟩ := scan_first hr
    have : S.getD (S.length / 2) [] = s := by
      have := congrArg (fun l => l.getD 0 []) e
      simp only [List.getD_eq_getElem?_getD, List.getElem?_drop, Nat.add_zero] at this ⊢
      simpa using this
    rw [this]
    exact ⟨h1, h2⟩
theorem openR_sel (d : Dk) (hd : d.Ok) {c : Sc} {h : Nat} (hs : Sel (arA d.syncD.B) (arB d.syncD.B) c h) {x : Jn} (hx : openJ d c h = x) : PFn Try.prog 40 [d.v] (.tup [x.rv, Iv 0]) := by
  have h1 := openR_ok d hd
  have hl := sync_blen hd
  obtain ⟨e1, _, _⟩ := okN_even hd.n
  rw [stB_sel (by omega) hs] at h1
  rw [← hx]
  exact h1
end Go.Proofs.Ytoafanbfminhcaa
end

section
namespace Go.Proofs.Ytoafanbfminhcaa
open Go Go.AL Go.RowKit
set_option maxRecDepth 100000
end Go.Proofs.Ytoafanbfminhcaa
end

section
namespace Go.Proofs.Ytoafanbfminhcaa
open Go Go.AL Go.RowKit
set_option maxRecDepth 10000
set_option maxHeartbeats 4000000
theorem runs_few (b : Nat) (l : List Ac) (hl : l.length < 9223372036854775808) (h : (!shortL l || decide (60 < (b : Int))) = true) : PFn Try.prog 8 [B8 b, .im (.sl 3 (acR l))] (Bv true) := by
  have hs := short_spec l hl
  rw [show (decide ((l.length : Int) ≤ 40) && !l.any longA) = shortL l from rfl] at hs
  refine ACall.walk [0, 1, 4, 5, 6, 7, 8, 9, 10, 12, 13, 14, 15, 16, 17, 18, 19, 26, 48, 50, 67, 68, 69, 70, 71, 76, 88, 94, 107, 117, 154] [5, 7, 10, 12, 15, 16] Try.func8 rfl Try.ntmps8 (by kernel_rfl) (by rfl) rfl fun W own I0 φ0 => ?_
  repeat (first | refine xA ?_ | refine xB ?_ | refine xC ?_ | refine xE ?_ | refine xD ?_ | refine xK ?_ | refine xS ?_ | refine xM ?_ | refine xT ?_ | refine xF ?_ | ((first | refine xR ?_ | refine xW ?_ | refine vq_id ?_); simp only [go_sem, Nat.reduceAdd, Nat.reduceLeDiff, Nat.reduceSub, Int.reduceToNat, reduceCtorEq]))
  refine AQ.fn (by kernel_rfl) rfl rfl rfl (hs) rfl ?_
  repeat (first | refine xA ?_ | refine xB ?_ | refine xC ?_ | refine xE ?_ | refine xD ?_ | refine xK ?_ | refine xS ?_ | refine xM ?_ | refine xT ?_ | refine xF ?_ | ((first | refine xR ?_ | refine xW ?_ | refine vq_id ?_); simp only [go_sem, Nat.reduceAdd, Nat.reduceLeDiff, Nat.reduceSub, Int.reduceToNat, reduceCtorEq, h]))
  refine AQ.fn (by kernel_rfl) rfl rfl rfl (awake_spec) rfl ?_
  repeat (first | refine xA ?_ | refine xB ?_ | refine xC ?_ | refine xE ?_ | refine xD ?_ | refine xK ?_ | refine xS ?_ | refine xM ?_ | refine xT ?_ | refine xF ?_ | ((first | refine xR ?_ | refine xW ?_ | refine vq_id ?_); simp only [go_sem, Nat.reduceAdd, Nat.reduceLeDiff, Nat.reduceSub, Int.reduceToNat, reduceCtorEq]))
  exact AE.ret0 rfl ⟨rfl, trivial⟩ rfl ⟨rfl, rfl⟩
theorem runs_bad (b : Nat) (l : List Ac) (hl : shortL l = true) (hb : b ≤ 60) (hp : permI (b : Int) = false) : PFn Try.prog 8 [B8 b, .im (.sl 3 (acR l))] (Bv true) := by
  obtain ⟨hl40, hlA⟩ := longA_not hl
  have hs := short_spec l (by omega)
  rw [show (decide ((l.length : Int) ≤ 40) && !l.any longA) = shortL l from rfl, hl] at hs
  have hg : decide (60 < (b : Int)) = false := by simp only [decide_eq_false_iff_not]; omega
  have hw := wr (x := (b : Int)) (by omega)
  have hsm := same_self nilD nilD ⟨by simp, by simp⟩ rfl
  refine ACall.walk [0, 1, 4, 5, 6, 7, 8, 9, 10, 12, 13, 14, 15, 16, 17, 18, 19, 26, 48, 50, 67, 68, 69, 70, 71, 76, 88, 94, 107, 117, 154] [5, 7, 10, 12, 15, 16] Try.func8 rfl Try.ntmps8 (by kernel_rfl) (by rfl) rfl fun W own I0 φ0 => ?_
  repeat (first | refine xA ?_ | refine xB ?_ | refine xC ?_ | refine xE ?_ | refine xD ?_ | refine xK ?_ | refine xS ?_ | refine xM ?_ | refine xT ?_ | refine xF ?_ | ((first | refine xR ?_ | refine xW ?_ | refine vq_id ?_); simp only [go_sem, Nat.reduceAdd, Nat.reduceLeDiff, Nat.reduceSub, Int.reduceToNat, reduceCtorEq]))
  refine AQ.fn (by kernel_rfl) rfl rfl rfl (hs) rfl ?_
  repeat (first | refine xA ?_ | refine xB ?_ | refine xC ?_ | refine xE ?_ | refine xD ?_ | refine xK ?_ | refine xS ?_ | refine xM ?_ | refine xT ?_ | refine xF ?_ | ((first | refine xR ?_ | refine xW ?_ | refine vq_id ?_); simp only [go_sem, Nat.reduceAdd, Nat.reduceLeDiff, Nat.reduceSub, Int.reduceToNat, reduceCtorEq, hg, hw]))
  refine AQ.fn (by kernel_rfl) rfl rfl rfl (format_bad _ hp) rfl ?_
  repeat (first | refine xA ?_ | refine xB ?_ | refine xC ?_ | refine xE ?_ | refine xD ?_ | refine xK ?_ | refine xS ?_ | refine xM ?_ | refine xT ?_ | refine xF ?_ | ((first | refine xR ?_ | refine xW ?_ | refine vq_id ?_); simp only [go_sem, Nat.reduceAdd, Nat.reduceLeDiff, Nat.reduceSub, Int.reduceToNat, reduceCtorEq, hw]))
  refine AQ.fn (by kernel_rfl) rfl rfl rfl (formatR_bad _ hp) rfl ?_
  repeat (first | refine xA ?_ | refine xB ?_ | refine xC ?_ | refine xE ?_ | refine xD ?_ | refine xK ?_ | refine xS ?_ | refine xM ?_ | refine xT ?_ | refine xF ?_ | ((first | refine xR ?_ | refine xW ?_ | refine vq_id ?_); simp only [go_sem, Nat.reduceAdd, Nat.reduceLeDiff, Nat.reduceSub, Int.reduceToNat, reduceCtorEq, bne_self_eq_false]))
  refine AQ.guard_yes (by simp only [go_sem]) ?_
  refine AQ.fn (by kernel_rfl) rfl rfl rfl (hsm) rfl ?_
  repeat (first | refine xA ?_ | refine xB ?_ | refine xC ?_ | refine xE ?_ | refine xD ?_ | refine xK ?_ | refine xS ?_ | refine xM ?_ | refine xT ?_ | refine xF ?_ | ((first | refine xR ?_ | refine xW ?_ | refine vq_id ?_); simp only [go_sem, Nat.reduceAdd, Nat.reduceLeDiff, Nat.reduceSub, Int.reduceToNat, reduceCtorEq, Int.reduceBNe]))
  refine AQ.fn (by kernel_rfl) rfl rfl rfl (awake_spec) rfl ?_
  repeat (first | refine xA ?_ | refine xB ?_ | refine xC ?_ | refine xE ?_ | refine xD ?_ | refine xK ?_ | refine xS ?_ | refine xM ?_ | refine xT ?_ | refine xF ?_ | ((first | refine xR ?_ | refine xW ?_ | refine vq_id ?_); simp only [go_sem, Nat.reduceAdd, Nat.reduceLeDiff, Nat.reduceSub, Int.reduceToNat, reduceCtorEq]))
  exact AE.ret0 rfl ⟨rfl, trivial⟩ rfl ⟨rfl, rfl⟩
abbrev rH (x : Jn) (d : Dk) : Heap := [(12, .vec 9 1 (blkR x.recs)), (11, .vec 97 2 (wrR x.W)), (10, .var 93 (x.cs 11 12)), (2, .var 73 [.im (.sl 1 (blkR x.B)), .im (.sl 2 (wrR x.W)), Iv x.half, Iv x.used, Uv x.last, Uv x.next, .im (.sl 1 (blkR x.recs))]), (1, .var 48 [.im (.sl 1 (blkR d.B)), .im (.sl 2 (wrR d.W))]), (0, .var 28 [.im (.sl 1 (blkR d.B)), .im (.sl 2 (wrR d.W))])]
theorem runs_go (m : Nat) (l : List Ac) (h1 : 2 ≤ m) (h2 : m ≤ 30) (hl : shortL l = true) : PFn Try.prog 8 [B8 (2 * m : Nat), .im (.sl 3 (acR l))] (Bv true) := by
  obtain ⟨hl40, hlA⟩ := longA_not hl
  have hs := short_spec l (by omega)
  rw [show (decide ((l.length : Int) ≤ 40) && !l.any longA) = shortL l from rfl, hl] at hs
  have hg : decide (60 < ((2 * m : Nat) : Int)) = false := by simp only [decide_eq_false_iff_not]; omega
  have hw := wr (x := ((2 * m : Nat) : Int)) (by omega)
  have hok : okN (2 * m) = true := by unfold okN; simp; omega
  have hf := format_ok (2 * m) hok
  have hfr := formatR_ok (2 * m) hok
  obtain ⟨_, c0, hsel, hop⟩ := KI.init m h1 (by omega)
  have hRI := RI.init m h1 (by omega)
  have hsz := hRI.sz
  have hdsz : (x0 (2 * m)).D.Sz := ⟨by have := hsz.1.b; simp only; omega, by simp [x0]⟩
  have hopen := open_sel (x0 (2 * m)).D hdsz hsz.2.1 hsel hop
  have hopenR := openR_sel (x0 (2 * m)).D hsz.2.1 hsel hop
  have hsm := same_self (x0 (2 * m)).D (x0 (2 * m)).D hdsz rfl
  rw [show (⟨fmtS (2 * m), []⟩ : Dk) = (x0 (2 * m)).D from rfl] at hf hfr
  obtain ⟨X, hX⟩ : ∃ X, x0 (2 * m) = X := ⟨_, rfl⟩
  rw [hX] at hf hfr hopen hopenR hRI hsm
  obtain ⟨n, hn⟩ : ∃ n, 2 * m = n := ⟨_, rfl⟩
  rw [hn] at hg hw hf hfr ⊢
  refine ACall.walk [0, 1, 4, 5, 6, 7, 8, 9, 10, 12, 13, 14, 15, 16, 17, 18, 19, 26, 48, 50, 67, 68, 69, 70, 71, 76, 88, 94, 107, 117, 154] [5, 7, 10, 12, 15, 16] Try.func8 rfl Try.ntmps8 (by kernel_rfl) (by rfl) rfl fun W own I0 φ0 => ?_
  repeat (first | refine xA ?_ | refine xB ?_ | refine xC ?_ | refine xE ?_ | refine xD ?_ | refine xK ?_ | refine xS ?_ | refine xM ?_ | refine xT ?_ | refine xF ?_ | ((first | refine xR ?_ | refine xW ?_ | refine vq_id ?_); simp only [go_sem, Nat.reduceAdd, Nat.reduceLeDiff, Nat.reduceSub, Int.reduceToNat, reduceCtorEq]))
  refine AQ.fn (by kernel_rfl) rfl rfl rfl (hs) rfl ?_
  repeat (first | refine xA ?_ | refine xB ?_ | refine xC ?_ | refine xE ?_ | refine xD ?_ | refine xK ?_ | refine xS ?_ | refine xM ?_ | refine xT ?_ | refine xF ?_ | ((first | refine xR ?_ | refine xW ?_ | refine vq_id ?_); simp only [go_sem, Nat.reduceAdd, Nat.reduceLeDiff, Nat.reduceSub, Int.reduceToNat, reduceCtorEq, hg, hw]))
  refine AQ.fn (by kernel_rfl) rfl rfl rfl (hf) rfl ?_
  repeat (first | refine xA ?_ | refine xB ?_ | refine xC ?_ | refine xE ?_ | refine xD ?_ | refine xK ?_ | refine xS ?_ | refine xM ?_ | refine xT ?_ | refine xF ?_ | ((first | refine xR ?_ | refine xW ?_ | refine vq_id ?_); simp only [go_sem, Nat.reduceAdd, Nat.reduceLeDiff, Nat.reduceSub, Int.reduceToNat, reduceCtorEq, hw]))
  refine AQ.fn (by kernel_rfl) rfl rfl rfl (hfr) rfl ?_
  repeat (first | refine xA ?_ | refine xB ?_ | refine xC ?_ | refine xE ?_ | refine xD ?_ | refine xK ?_ | refine xS ?_ | refine xM ?_ | refine xT ?_ | refine xF ?_ | ((first | refine xR ?_ | refine xW ?_ | refine vq_id ?_); simp only [go_sem, Nat.reduceAdd, Nat.reduceLeDiff, Nat.reduceSub, Int.reduceToNat, reduceCtorEq, bne_self_eq_false]))
  refine AQ.guard_yes (by simp only [go_sem]) ?_
  refine AQ.fn (by kernel_rfl) rfl rfl rfl (hsm) rfl ?_
  repeat (first | refine xA ?_ | refine xB ?_ | refine xC ?_ | refine xE ?_ | refine xD ?_ | refine xK ?_ | refine xS ?_ | refine xM ?_ | refine xT ?_ | refine xF ?_ | ((first | refine xR ?_ | refine xW ?_ | refine vq_id ?_); simp only [go_sem, Nat.reduceAdd, Nat.reduceLeDiff, Nat.reduceSub, Int.reduceToNat, reduceCtorEq, Int.reduceBNe]))
  refine AQ.callv (by kernel_rfl) rfl rfl rfl hopen fun r' H' ⟨e1, e2⟩ => ?_
  subst e1; subst e2
  simp only [go_sem, Nat.reduceAdd, Nat.reduceLeDiff, Nat.reduceSub, Int.reduceToNat, reduceCtorEq, Jn.H]
  repeat (first | refine xA ?_ | refine xB ?_ | refine xC ?_ | refine xE ?_ | refine xD ?_ | refine xK ?_ | refine xS ?_ | refine xM ?_ | refine xT ?_ | refine xF ?_ | ((first | refine xR ?_ | refine xW ?_ | refine vq_id ?_); simp only [go_sem, Nat.reduceAdd, Nat.reduceLeDiff, Nat.reduceSub, Int.reduceToNat, reduceCtorEq]))
  refine AQ.fn (by kernel_rfl) rfl rfl rfl (hopenR) rfl ?_
  repeat (first | refine xA ?_ | refine xB ?_ | refine xC ?_ | refine xE ?_ | refine xD ?_ | refine xK ?_ | refine xS ?_ | refine xM ?_ | refine xT ?_ | refine xF ?_ | ((first | refine xR ?_ | refine xW ?_ | refine vq_id ?_); simp only [go_sem, Nat.reduceAdd, Nat.reduceLeDiff, Nat.reduceSub, Int.reduceToNat, reduceCtorEq, Int.reduceBNe]))
  refine AP.rename 2 10 rfl rfl rfl ?_; simp only [go_sem, Nat.reduceAdd, Nat.reduceLeDiff, Nat.reduceSub, Int.reduceToNat, reduceCtorEq]; refine AP.rename 3 11 rfl rfl rfl ?_; simp only [go_sem, Nat.reduceAdd, Nat.reduceLeDiff, Nat.reduceSub, Int.reduceToNat, reduceCtorEq]; refine AP.rename 4 12 rfl rfl rfl ?_; simp only [go_sem, Nat.reduceAdd, Nat.reduceLeDiff, Nat.reduceSub, Int.reduceToNat, reduceCtorEq]; refine AP.rename 5 2 rfl rfl rfl ?_; simp only [go_sem, Nat.reduceAdd, Nat.reduceLeDiff, Nat.reduceSub, Int.reduceToNat, reduceCtorEq]
  refine AP.order [12, 11, 10, 2, 1, 0] rfl ?_
  simp only [go_sem, Nat.reduceAdd, Nat.reduceLeDiff, Nat.reduceSub, Int.reduceToNat, reduceCtorEq]
  refine AP.loop rfl (α := Nat × Jn) (fun p => [(4, Bv false), (5, .ob 0 0), (7, .ob 1 0), (9, .ob 10 0), (10, .ob 2 0), (68, .im (.sl 3 (acR l))), (69, Iv l.length), (70, Iv p.1)]) (fun p => rH p.2 X.D) (fun p => p.1 ≤ l.length ∧ RI p.2) (fun p => l.length - p.1) (0, X) ⟨by omega, hRI⟩ (by rw [acR_len]; exact (by repeat (first | exact Sub.nil _ | refine Sub.cons rfl ?_))) rfl fun ⟨i, x⟩ ⟨hi, hk⟩ => ?_
  simp only at hi hk
  obtain ⟨hxs, hxok, hxne, hxl, hxh⟩ := hk.sz
  obtain ⟨half, hhalf⟩ : ∃ half : Nat, x.half = (half : Int) := by
    rcases hxh with h | h
    · exact ⟨0, h⟩
    · exact ⟨1, h⟩
  obtain ⟨h', hh'⟩ : ∃ h' : Nat, 1 - x.half = (h' : Int) := by
    rcases hxh with h | h
    · exact ⟨1, by omega⟩
    · exact ⟨0, by omega⟩
  repeat (first | refine xA ?_ | refine xB ?_ | refine xC ?_ | refine xE ?_ | refine xD ?_ | refine xK ?_ | refine xS ?_ | refine xM ?_ | refine xT ?_ | refine xF ?_ | ((first | refine xR ?_ | refine xW ?_ | refine vq_id ?_); simp only [go_sem, Nat.reduceAdd, Nat.reduceLeDiff, Nat.reduceSub, Int.reduceToNat, reduceCtorEq]))
  refine AP.cond rfl rfl (fun hc => ?_) (fun hc => ?_)
  · have hi' : i < l.length := by simp at hc; omega
    have hwi := wr (x := (i : Int) + 1) (by omega)
    have hge := acR_get l i hi'
    have hA := hlA (l.getD i ⟨0, [], []⟩) (by rw [List.getD_eq_getElem?_getD, List.getElem?_eq_getElem hi']; exact List.getElem_mem hi')
    obtain ⟨a, ha⟩ : ∃ a, l.getD i ⟨0, [], []⟩ = a := ⟨_, rfl⟩
    rw [ha] at hge hA
    have e8 : ∀ j : Nat, (a.k % 8 = j → ((a.k : Int).tmod 8 == (j : Int)) = true) ∧ (a.k % 8 ≠ j → ((a.k : Int).tmod 8 == (j : Int)) = false) := fun j => by
      rw [Int.tmod_eq_emod_of_nonneg (by omega)]
      refine ⟨fun h => ?_, fun h => ?_⟩
      · simp only [beq_iff_eq]; omega
      · simp only [beq_eq_false_iff_ne, ne_eq]; omega
    repeat (first | refine xA ?_ | refine xB ?_ | refine xE ?_ | refine xD ?_ | refine xK ?_ | refine xS ?_ | refine xM ?_ | refine xT ?_ | refine xF ?_ | ((first | refine xR ?_ | refine xW ?_ | refine vq_id ?_); simp only [go_sem, Nat.reduceAdd, Nat.reduceLeDiff, Nat.reduceSub, Int.reduceToNat, reduceCtorEq, hge, acR_len]) | (refine ⟨by first | omega | (intros; simp_all; done) | (intros; simp_all; omega), ?_⟩; try simp only [go_sem, Nat.reduceAdd, Nat.reduceLeDiff, Nat.reduceSub, Int.reduceToNat, reduceCtorEq, hge, acR_len]))
    refine xC ?_
    repeat (first | refine xA ?_ | refine xB ?_ | refine xE ?_ | refine xD ?_ | refine xK ?_ | refine xS ?_ | refine xM ?_ | refine xT ?_ | refine xF ?_ | ((first | refine xR ?_ | refine xW ?_ | refine vq_id ?_); simp only [go_sem, Nat.reduceAdd, Nat.reduceLeDiff, Nat.reduceSub, Int.reduceToNat, reduceCtorEq, hge, acR_len]) | (refine ⟨by first | omega | (intros; simp_all; done) | (intros; simp_all; omega), ?_⟩; try simp only [go_sem, Nat.reduceAdd, Nat.reduceLeDiff, Nat.reduceSub, Int.reduceToNat, reduceCtorEq, hge, acR_len]))
    refine xC ?_
    repeat (first | refine xA ?_ | refine xB ?_ | refine xE ?_ | refine xD ?_ | refine xK ?_ | refine xS ?_ | refine xM ?_ | refine xT ?_ | refine xF ?_ | ((first | refine xR ?_ | refine xW ?_ | refine vq_id ?_); simp only [go_sem, Nat.reduceAdd, Nat.reduceLeDiff, Nat.reduceSub, Int.reduceToNat, reduceCtorEq, hge, acR_len]) | (refine ⟨by first | omega | (intros; simp_all; done) | (intros; simp_all; omega), ?_⟩; try simp only [go_sem, Nat.reduceAdd, Nat.reduceLeDiff, Nat.reduceSub, Int.reduceToNat, reduceCtorEq, hge, acR_len]))
    refine AE.seq ?_
    refine AP.cut (α := Jn × Int) (fun p => [(4, Bv false), (5, .ob 0 0), (7, .ob 1 0), (9, .ob 10 0), (10, .ob 2 0), (13, Iv p.2), (14, Iv p.2), (68, .im (.sl 3 (acR l))), (69, Iv l.length), (70, Iv i)]) (fun p => rH p.1 X.D) (fun p => RI p.1 ∧ p.2 ≠ 400) ?_ fun ⟨y, ey⟩ ⟨hky, hey⟩ => ?_
    · by_cases h3 : a.k % 8 = 3
      · have g3 : ((a.k : Int).tmod 8 == 3) = true := (e8 3).1 h3
        have hcR := commitR_spec x hxs hxok
        have hco := commit_ok x hxs hxok
        have hck := hk.commit
        obtain ⟨y, hy⟩ : ∃ y, x.synced = y := ⟨_, rfl⟩
        rw [hy] at hcR hco hck
        simp only [go_sem, Nat.reduceAdd, Nat.reduceLeDiff, Nat.reduceSub, Int.reduceToNat, reduceCtorEq, rH, Jn.cs]
        repeat (first | refine xA ?_ | refine xB ?_ | refine xC ?_ | refine xE ?_ | refine xD ?_ | refine xK ?_ | refine xS ?_ | refine xM ?_ | refine xT ?_ | refine xF ?_ | ((first | refine xR ?_ | refine xW ?_ | refine vq_id ?_); simp only [go_sem, Nat.reduceAdd, Nat.reduceLeDiff, Nat.reduceSub, Int.reduceToNat, reduceCtorEq, g3]))
        refine AQ.callH [(2, 12), (1, 11), (0, 10)] (by kernel_rfl) rfl rfl rfl rfl rfl rfl (by exact ⟨rfl, rfl, rfl, trivial⟩) rfl hco ?_
        rintro r H1 ⟨rfl, rfl⟩
        refine ⟨rfl, ?_⟩
        simp only [go_sem, Nat.reduceAdd, Nat.reduceLeDiff, Nat.reduceSub, Int.reduceToNat, reduceCtorEq, Jn.H, Jn.cs]
        repeat (first | refine xA ?_ | refine xB ?_ | refine xC ?_ | refine xE ?_ | refine xD ?_ | refine xK ?_ | refine xS ?_ | refine xM ?_ | refine xT ?_ | refine xF ?_ | ((first | refine xR ?_ | refine xW ?_ | refine vq_id ?_); simp only [go_sem, Nat.reduceAdd, Nat.reduceLeDiff, Nat.reduceSub, Int.reduceToNat, reduceCtorEq]))
        refine AQ.fn (by kernel_rfl) rfl rfl rfl (hcR) rfl ?_
        repeat (first | refine xA ?_ | refine xB ?_ | refine xC ?_ | refine xE ?_ | refine xD ?_ | refine xK ?_ | refine xS ?_ | refine xM ?_ | refine xT ?_ | refine xF ?_ | ((first | refine xR ?_ | refine xW ?_ | refine vq_id ?_); simp only [go_sem, Nat.reduceAdd, Nat.reduceLeDiff, Nat.reduceSub, Int.reduceToNat, reduceCtorEq]))
        refine AE.forgets [13] rfl ?_
        simp only [go_sem, Nat.reduceAdd, Nat.reduceLeDiff, Nat.reduceSub, Int.reduceToNat, reduceCtorEq]
        refine AE.rename 17 11 rfl rfl rfl ?_; simp only [go_sem, Nat.reduceAdd, Nat.reduceLeDiff, Nat.reduceSub, Int.reduceToNat, reduceCtorEq]
        refine AE.order [12, 11, 10, 2, 1, 0] rfl ?_
        simp only [go_sem, Nat.reduceAdd, Nat.reduceLeDiff, Nat.reduceSub, Int.reduceToNat, reduceCtorEq]
        exact AE.meet (y, 0) ⟨hck, by simp⟩ (by repeat (first | exact Sub.nil _ | refine Sub.cons rfl ?_)) rfl
      · have g3 : ((a.k : Int).tmod 8 == 3) = false := (e8 3).2 h3
        by_cases h4 : a.k % 8 = 4
        · have g4 : ((a.k : Int).tmod 8 == 4) = true := (e8 4).1 h4
          rcases hA.1 with hsh | ⟨hlo, hlo2⟩
          · obtain ⟨e, he⟩ : ∃ e, x.compE a.t = e := ⟨_, rfl⟩
            have he08 : e = 0 ∨ e = 8 := by
              rw [← he, Jn.compE, if_neg (by omega)]
              split <;> simp
            rcases he08 with rfl | rfl
            · have hok := compact_ok x h' a.t hxs hxok hh' he
              have hokR := compactR_ok x h' a.t hxs hxok hh' he
              have hky := hk.compact a.t he h' hh'
              obtain ⟨y, hy⟩ : ∃ y, x.comp0.wrote h' 0 0 a.t = y := ⟨_, rfl⟩
              rw [hy] at hok hokR hky
              simp only [go_sem, Nat.reduceAdd, Nat.reduceLeDiff, Nat.reduceSub, Int.reduceToNat, reduceCtorEq, rH, Jn.cs]
              repeat (first | refine xA ?_ | refine xB ?_ | refine xC ?_ | refine xE ?_ | refine xD ?_ | refine xK ?_ | refine xS ?_ | refine xM ?_ | refine xT ?_ | refine xF ?_ | ((first | refine xR ?_ | refine xW ?_ | refine vq_id ?_); simp only [go_sem, Nat.reduceAdd, Nat.reduceLeDiff, Nat.reduceSub, Int.reduceToNat, reduceCtorEq, g3, g4]))
              refine AQ.callH [(2, 12), (1, 11), (0, 10)] (by kernel_rfl) rfl rfl rfl rfl rfl rfl (by exact ⟨rfl, rfl, rfl, trivial⟩) rfl (hok) ?_
              rintro r H1 ⟨rfl, rfl⟩
              refine ⟨rfl, ?_⟩
              simp only [go_sem, Nat.reduceAdd, Nat.reduceLeDiff, Nat.reduceSub, Int.reduceToNat, reduceCtorEq, Jn.H, Jn.cs]
              repeat (first | refine xA ?_ | refine xB ?_ | refine xC ?_ | refine xE ?_ | refine xD ?_ | refine xK ?_ | refine xS ?_ | refine xM ?_ | refine xT ?_ | refine xF ?_ | ((first | refine xR ?_ | refine xW ?_ | refine vq_id ?_); simp only [go_sem, Nat.reduceAdd, Nat.reduceLeDiff, Nat.reduceSub, Int.reduceToNat, reduceCtorEq]))
              refine AQ.fn (by kernel_rfl) rfl rfl rfl (hokR) rfl ?_
              repeat (first | refine xA ?_ | refine xB ?_ | refine xC ?_ | refine xE ?_ | refine xD ?_ | refine xK ?_ | refine xS ?_ | refine xM ?_ | refine xT ?_ | refine xF ?_ | ((first | refine xR ?_ | refine xW ?_ | refine vq_id ?_); simp only [go_sem, Nat.reduceAdd, Nat.reduceLeDiff, Nat.reduceSub, Int.reduceToNat, reduceCtorEq]))
              refine AE.forgets [13] rfl ?_
              simp only [go_sem, Nat.reduceAdd, Nat.reduceLeDiff, Nat.reduceSub, Int.reduceToNat, reduceCtorEq]
              refine AE.rename 17 11 rfl rfl rfl ?_; simp only [go_sem, Nat.reduceAdd, Nat.reduceLeDiff, Nat.reduceSub, Int.reduceToNat, reduceCtorEq]; refine AE.rename 18 12 rfl rfl rfl ?_; simp only [go_sem, Nat.reduceAdd, Nat.reduceLeDiff, Nat.reduceSub, Int.reduceToNat, reduceCtorEq]
              refine AE.order [12, 11, 10, 2, 1, 0] rfl ?_
              simp only [go_sem, Nat.reduceAdd, Nat.reduceLeDiff, Nat.reduceSub, Int.reduceToNat, reduceCtorEq]
              exact AE.meet (y, 0) ⟨hky, by simp⟩ (by repeat (first | exact Sub.nil _ | refine Sub.cons rfl ?_)) rfl
            · skip
              simp only [go_sem, Nat.reduceAdd, Nat.reduceLeDiff, Nat.reduceSub, Int.reduceToNat, reduceCtorEq, rH, Jn.cs]
              repeat (first | refine xA ?_ | refine xB ?_ | refine xC ?_ | refine xE ?_ | refine xD ?_ | refine xK ?_ | refine xS ?_ | refine xM ?_ | refine xT ?_ | refine xF ?_ | ((first | refine xR ?_ | refine xW ?_ | refine vq_id ?_); simp only [go_sem, Nat.reduceAdd, Nat.reduceLeDiff, Nat.reduceSub, Int.reduceToNat, reduceCtorEq, g3, g4]))
              refine AQ.callH [(2, 12), (1, 11), (0, 10)] (by kernel_rfl) rfl rfl rfl rfl rfl rfl (by exact ⟨rfl, rfl, rfl, trivial⟩) rfl (compact_full x a.t hxs he) ?_
              rintro r H1 ⟨rfl, rfl⟩
              refine ⟨rfl, ?_⟩
              simp only [go_sem, Nat.reduceAdd, Nat.reduceLeDiff, Nat.reduceSub, Int.reduceToNat, reduceCtorEq, Jn.H, Jn.cs]
              repeat (first | refine xA ?_ | refine xB ?_ | refine xC ?_ | refine xE ?_ | refine xD ?_ | refine xK ?_ | refine xS ?_ | refine xM ?_ | refine xT ?_ | refine xF ?_ | ((first | refine xR ?_ | refine xW ?_ | refine vq_id ?_); simp only [go_sem, Nat.reduceAdd, Nat.reduceLeDiff, Nat.reduceSub, Int.reduceToNat, reduceCtorEq]))
              refine AQ.fn (by kernel_rfl) rfl rfl rfl (compactR_full x h' a.t hxs hxok hh' he) rfl ?_
              repeat (first | refine xA ?_ | refine xB ?_ | refine xC ?_ | refine xE ?_ | refine xD ?_ | refine xK ?_ | refine xS ?_ | refine xM ?_ | refine xT ?_ | refine xF ?_ | ((first | refine xR ?_ | refine xW ?_ | refine vq_id ?_); simp only [go_sem, Nat.reduceAdd, Nat.reduceLeDiff, Nat.reduceSub, Int.reduceToNat, reduceCtorEq]))
              refine AE.forgets [13] rfl ?_
              simp only [go_sem, Nat.reduceAdd, Nat.reduceLeDiff, Nat.reduceSub, Int.reduceToNat, reduceCtorEq]
              refine AE.order [12, 11, 10, 2, 1, 0] rfl ?_
              simp only [go_sem, Nat.reduceAdd, Nat.reduceLeDiff, Nat.reduceSub, Int.reduceToNat, reduceCtorEq]
              exact AE.meet (x, 8) ⟨hk, by simp⟩ (by repeat (first | exact Sub.nil _ | refine Sub.cons rfl ?_)) rfl
          · skip
            simp only [go_sem, Nat.reduceAdd, Nat.reduceLeDiff, Nat.reduceSub, Int.reduceToNat, reduceCtorEq, rH, Jn.cs]
            repeat (first | refine xA ?_ | refine xB ?_ | refine xC ?_ | refine xE ?_ | refine xD ?_ | refine xK ?_ | refine xS ?_ | refine xM ?_ | refine xT ?_ | refine xF ?_ | ((first | refine xR ?_ | refine xW ?_ | refine vq_id ?_); simp only [go_sem, Nat.reduceAdd, Nat.reduceLeDiff, Nat.reduceSub, Int.reduceToNat, reduceCtorEq, g3, g4]))
            refine AQ.callH [(2, 12), (1, 11), (0, 10)] (by kernel_rfl) rfl rfl rfl rfl rfl rfl (by exact ⟨rfl, rfl, rfl, trivial⟩) rfl (compact_long x a.t hxs hlo (by omega)) ?_
            rintro r H1 ⟨rfl, rfl⟩
            refine ⟨rfl, ?_⟩
            simp only [go_sem, Nat.reduceAdd, Nat.reduceLeDiff, Nat.reduceSub, Int.reduceToNat, reduceCtorEq, Jn.H, Jn.cs]
            repeat (first | refine xA ?_ | refine xB ?_ | refine xC ?_ | refine xE ?_ | refine xD ?_ | refine xK ?_ | refine xS ?_ | refine xM ?_ | refine xT ?_ | refine xF ?_ | ((first | refine xR ?_ | refine xW ?_ | refine vq_id ?_); simp only [go_sem, Nat.reduceAdd, Nat.reduceLeDiff, Nat.reduceSub, Int.reduceToNat, reduceCtorEq]))
            refine AQ.fn (by kernel_rfl) rfl rfl rfl (compactR_long x a.t hlo) rfl ?_
            repeat (first | refine xA ?_ | refine xB ?_ | refine xC ?_ | refine xE ?_ | refine xD ?_ | refine xK ?_ | refine xS ?_ | refine xM ?_ | refine xT ?_ | refine xF ?_ | ((first | refine xR ?_ | refine xW ?_ | refine vq_id ?_); simp only [go_sem, Nat.reduceAdd, Nat.reduceLeDiff, Nat.reduceSub, Int.reduceToNat, reduceCtorEq]))
            refine AE.forgets [13] rfl ?_
            simp only [go_sem, Nat.reduceAdd, Nat.reduceLeDiff, Nat.reduceSub, Int.reduceToNat, reduceCtorEq]
            refine AE.order [12, 11, 10, 2, 1, 0] rfl ?_
            simp only [go_sem, Nat.reduceAdd, Nat.reduceLeDiff, Nat.reduceSub, Int.reduceToNat, reduceCtorEq]
            exact AE.meet (x, 4) ⟨hk, by simp⟩ (by repeat (first | exact Sub.nil _ | refine Sub.cons rfl ?_)) rfl
        · have g4 : ((a.k : Int).tmod 8 == 4) = false := (e8 4).2 h4
          by_cases h56 : a.k % 8 = 5 ∨ a.k % 8 = 6
          · have g56 : ((a.k : Int).tmod 8 == 5) = true ∨ (((a.k : Int).tmod 8 == 5) = false ∧ ((a.k : Int).tmod 8 == 6) = true) := by
              rcases h56 with h | h
              · exact .inl ((e8 5).1 h)
              · exact .inr ⟨(e8 5).2 (by omega), (e8 6).1 h⟩
            have hdk := disk_own x ⟨by have := hxs.b; simp only; omega, by have := hxs.w; simp only; omega⟩
            have hcr := crash_spec x.D a.f ⟨by have := hxs.b; simp only; omega, by have := hxs.w; simp only; omega⟩ (by omega)
            have hcrR := crashR_spec x.D a.f ⟨by have := hxs.b; simp only; omega, by have := hxs.w; simp only; omega⟩ (by omega)
            have tb := take_all' (blkR x.B) _ (Nat.le_of_eq (blkR_len _))
            have tw := take_all' (wrR x.W) _ (Nat.le_of_eq (wrR_len _))
            rcases g56 with g5 | ⟨g5, g6⟩
            · simp only [go_sem, Nat.reduceAdd, Nat.reduceLeDiff, Nat.reduceSub, Int.reduceToNat, reduceCtorEq, rH, Jn.cs]
              repeat (first | refine xA ?_ | refine xB ?_ | refine xC ?_ | refine xE ?_ | refine xD ?_ | refine xK ?_ | refine xS ?_ | refine xM ?_ | refine xT ?_ | refine xF ?_ | ((first | refine xR ?_ | refine xW ?_ | refine vq_id ?_); simp only [go_sem, Nat.reduceAdd, Nat.reduceLeDiff, Nat.reduceSub, Int.reduceToNat, reduceCtorEq, g3, g4, g5]))
              refine AP.cut (α := Unit) (fun _ => [(4, Bv false), (5, .ob 0 0), (7, .ob 1 0), (9, .ob 10 0), (10, .ob 2 0), (12, .ob 13 0), (13, Iv 0), (14, Iv 0), (15, .ob 40 0), (16, .ob 41 0), (68, .im (.sl 3 (acR l))), (69, Iv l.length), (70, Iv i)]) (fun _ => (41, .var 48 [.im (.sl 1 (blkR x.B)), .im (.sl 2 (wrR x.W))]) :: (40, .var 28 [.im (.sl 1 (blkR x.B)), .im (.sl 2 (wrR x.W))]) :: (13, .var 38 [.im (.v (.int .u8 a.k)), Sv a.t, Fv a.f]) :: rH x X.D) (fun _ => True) ?_ fun _ _ => ?_
              · skip
                refine AP.drawE 8 (Tree.node [] [0, 2, 3] [1, 4, 5] [Tree.node [2, 3] [] [4, 5] [Tree.node [2, 3] [] [5] [Tree.node [2, 3] [] [6] [Tree.node [2, 3] [] [7] [Tree.node [] [] [] []]]], Tree.node [2, 3] [] [4] [Tree.node [2, 3] [] [6] [Tree.node [2, 3] [] [7] [Tree.node [] [] [] []]]]], Tree.node [0, 2, 3] [] [1, 5] [Tree.node [2, 3] [] [5] [Tree.node [2, 3] [] [6] [Tree.node [2, 3] [] [7] [Tree.node [] [] [] []]]], Tree.node [0, 2, 3] [] [1] [Tree.node [2, 3] [] [6] [Tree.node [2, 3] [] [7] [Tree.node [] [] [] []]]]], Tree.node [0, 2, 3] [] [1, 4] [Tree.node [2, 3] [] [4] [Tree.node [2, 3] [] [6] [Tree.node [2, 3] [] [7] [Tree.node [] [] [] []]]], Tree.node [0, 2, 3] [] [1] [Tree.node [2, 3] [] [6] [Tree.node [2, 3] [] [7] [Tree.node [] [] [] []]]]]]) (by kernel_rfl) rfl (by kernel_rfl) (by kernel_rfl) ?_
                refine vd_node ?_
                simp only [go_sem, Nat.reduceAdd, Nat.reduceLeDiff, Nat.reduceSub, Int.reduceToNat, reduceCtorEq]
                repeat' (first | with_reducible exact True.intro | with_reducible refine And.intro (by omega) ?_ | with_reducible refine And.intro ?_ ?_ | omega | (refine AQ.callL ([.im (.pt x.ic)]) (by kernel_rfl) rfl rfl rfl (by ((try simp only [List.nil_append, List.append_nil, List.map_cons, List.map_nil, AV.st, constAV]); repeat (first | with_reducible exact LentC.nil | with_reducible exact LentAs.nil | with_reducible refine LentC.cons ?_ ?_ | with_reducible refine LentAs.cons ?_ ?_ | with_reducible exact Lent.im _ | with_reducible exact LentA.im _ | with_reducible refine LentA.of ?_ | with_reducible refine LentA.agg ?_ | ((with_reducible apply Lent.osw); rfl; simp only [blkR_len, wrR_len, byteR_len, List.length_append, List.length_cons, List.length_nil]) | ((with_reducible apply Lent.ob0); rfl)))) (hdk) fun r1 H1 ⟨e1, e2⟩ => ?_; subst e1; subst e2; refine ⟨rfl, ⟨blkR_plain _, wrR_plain _, trivial⟩, ?_⟩; simp only [go_sem, Nat.reduceAdd, Nat.reduceLeDiff, Nat.reduceSub, Int.reduceToNat, reduceCtorEq]) | (refine AQ.nx rfl ?_; first | (refine And.intro ?_ ?_ <;> (try simp only [go_sem, Nat.reduceAdd, Nat.reduceLeDiff, Nat.reduceSub, Int.reduceToNat, reduceCtorEq])) | simp only [go_sem, Nat.reduceAdd, Nat.reduceLeDiff, Nat.reduceSub, Int.reduceToNat, reduceCtorEq]) | refine AQ.done ?_ | (refine AQ.go (by kernel_rfl) ?_; simp only [go_sem, Nat.reduceAdd, Nat.reduceLeDiff, Nat.reduceSub, Int.reduceToNat, reduceCtorEq]; (refine AQ.nx rfl ?_; first | (refine And.intro ?_ ?_ <;> (try simp only [go_sem, Nat.reduceAdd, Nat.reduceLeDiff, Nat.reduceSub, Int.reduceToNat, reduceCtorEq])) | simp only [go_sem, Nat.reduceAdd, Nat.reduceLeDiff, Nat.reduceSub, Int.reduceToNat, reduceCtorEq])))
                all_goals simp only [go_sem, Nat.reduceAdd, Nat.reduceLeDiff, Nat.reduceSub, Int.reduceToNat, reduceCtorEq]
                · refine AE.freeze 15 (el := 9) (es := 1) (rows := blkR x.B) rfl (by simp [go_sem, blkR_len]) (by simp [go_sem, blkR_len]) ?_
                  refine AE.freeze 16 (el := 97) (es := 2) (rows := wrR x.W) rfl (by simp [go_sem, wrR_len]) (by simp [go_sem, wrR_len]) ?_
                  simp only [go_sem, Nat.reduceAdd, Nat.reduceLeDiff, Nat.reduceSub, Int.reduceToNat, reduceCtorEq, tb, tw]
                  refine AE.rename 17 40 rfl rfl rfl ?_
                  refine AE.rename 18 41 rfl rfl rfl ?_
                  refine AE.order [41, 40, 13, 12, 11, 10, 2, 1, 0] rfl ?_
                  simp only [go_sem, Nat.reduceAdd, Nat.reduceLeDiff, Nat.reduceSub, Int.reduceToNat, reduceCtorEq]
                  exact AE.meet () trivial (by repeat (first | exact Sub.nil _ | refine Sub.cons rfl ?_)) rfl
                · refine AE.freeze 15 (el := 9) (es := 1) (rows := blkR x.B) rfl (by simp [go_sem, blkR_len]) (by simp [go_sem, blkR_len]) ?_
                  refine AE.freeze 16 (el := 97) (es := 2) (rows := wrR x.W) rfl (by simp [go_sem, wrR_len]) (by simp [go_sem, wrR_len]) ?_
                  simp only [go_sem, Nat.reduceAdd, Nat.reduceLeDiff, Nat.reduceSub, Int.reduceToNat, reduceCtorEq, tb, tw]
                  refine AE.rename 18 40 rfl rfl rfl ?_
                  refine AE.rename 17 41 rfl rfl rfl ?_
                  refine AE.order [41, 40, 13, 12, 11, 10, 2, 1, 0] rfl ?_
                  simp only [go_sem, Nat.reduceAdd, Nat.reduceLeDiff, Nat.reduceSub, Int.reduceToNat, reduceCtorEq]
                  exact AE.meet () trivial (by repeat (first | exact Sub.nil _ | refine Sub.cons rfl ?_)) rfl
                · refine AE.freeze 16 (el := 9) (es := 1) (rows := blkR x.B) rfl (by simp [go_sem, blkR_len]) (by simp [go_sem, blkR_len]) ?_
                  refine AE.freeze 17 (el := 97) (es := 2) (rows := wrR x.W) rfl (by simp [go_sem, wrR_len]) (by simp [go_sem, wrR_len]) ?_
                  simp only [go_sem, Nat.reduceAdd, Nat.reduceLeDiff, Nat.reduceSub, Int.reduceToNat, reduceCtorEq, tb, tw]
                  refine AE.rename 14 40 rfl rfl rfl ?_
                  refine AE.rename 18 41 rfl rfl rfl ?_
                  refine AE.order [41, 40, 13, 12, 11, 10, 2, 1, 0] rfl ?_
                  simp only [go_sem, Nat.reduceAdd, Nat.reduceLeDiff, Nat.reduceSub, Int.reduceToNat, reduceCtorEq]
                  exact AE.meet () trivial (by repeat (first | exact Sub.nil _ | refine Sub.cons rfl ?_)) rfl
                · refine AE.freeze 17 (el := 9) (es := 1) (rows := blkR x.B) rfl (by simp [go_sem, blkR_len]) (by simp [go_sem, blkR_len]) ?_
                  refine AE.freeze 18 (el := 97) (es := 2) (rows := wrR x.W) rfl (by simp [go_sem, wrR_len]) (by simp [go_sem, wrR_len]) ?_
                  simp only [go_sem, Nat.reduceAdd, Nat.reduceLeDiff, Nat.reduceSub, Int.reduceToNat, reduceCtorEq, tb, tw]
                  refine AE.rename 14 40 rfl rfl rfl ?_
                  refine AE.rename 15 41 rfl rfl rfl ?_
                  refine AE.order [41, 40, 13, 12, 11, 10, 2, 1, 0] rfl ?_
                  simp only [go_sem, Nat.reduceAdd, Nat.reduceLeDiff, Nat.reduceSub, Int.reduceToNat, reduceCtorEq]
                  exact AE.meet () trivial (by repeat (first | exact Sub.nil _ | refine Sub.cons rfl ?_)) rfl
                · refine AE.freeze 16 (el := 9) (es := 1) (rows := blkR x.B) rfl (by simp [go_sem, blkR_len]) (by simp [go_sem, blkR_len]) ?_
                  refine AE.freeze 17 (el := 97) (es := 2) (rows := wrR x.W) rfl (by simp [go_sem, wrR_len]) (by simp [go_sem, wrR_len]) ?_
                  simp only [go_sem, Nat.reduceAdd, Nat.reduceLeDiff, Nat.reduceSub, Int.reduceToNat, reduceCtorEq, tb, tw]
                  refine AE.rename 18 40 rfl rfl rfl ?_
                  refine AE.rename 14 41 rfl rfl rfl ?_
                  refine AE.order [41, 40, 13, 12, 11, 10, 2, 1, 0] rfl ?_
                  simp only [go_sem, Nat.reduceAdd, Nat.reduceLeDiff, Nat.reduceSub, Int.reduceToNat, reduceCtorEq]
                  exact AE.meet () trivial (by repeat (first | exact Sub.nil _ | refine Sub.cons rfl ?_)) rfl
                · refine AE.freeze 17 (el := 9) (es := 1) (rows := blkR x.B) rfl (by simp [go_sem, blkR_len]) (by simp [go_sem, blkR_len]) ?_
                  refine AE.freeze 18 (el := 97) (es := 2) (rows := wrR x.W) rfl (by simp [go_sem, wrR_len]) (by simp [go_sem, wrR_len]) ?_
                  simp only [go_sem, Nat.reduceAdd, Nat.reduceLeDiff, Nat.reduceSub, Int.reduceToNat, reduceCtorEq, tb, tw]
                  refine AE.rename 15 40 rfl rfl rfl ?_
                  refine AE.rename 14 41 rfl rfl rfl ?_
                  refine AE.order [41, 40, 13, 12, 11, 10, 2, 1, 0] rfl ?_
                  simp only [go_sem, Nat.reduceAdd, Nat.reduceLeDiff, Nat.reduceSub, Int.reduceToNat, reduceCtorEq]
                  exact AE.meet () trivial (by repeat (first | exact Sub.nil _ | refine Sub.cons rfl ?_)) rfl
              · obtain ⟨c, h, hok2, hsel2, hri2⟩ := hk.crash a.f
                have hxD : x.D.Sz := ⟨by have := hxs.b; simp only; omega, by have := hxs.w; simp only; omega⟩
                have hop2 := open_sel (x.D.crashD a.f) (crashD_sz _ _ hxD) hok2 hsel2 rfl
                have hopR2 := openR_sel (x.D.crashD a.f) hok2 hsel2 rfl
                obtain ⟨z, hz⟩ : ∃ z, openJ (x.D.crashD a.f) c h = z := ⟨_, rfl⟩
                rw [hz] at hop2 hopR2 hri2
                simp only [go_sem, Nat.reduceAdd, Nat.reduceLeDiff, Nat.reduceSub, Int.reduceToNat, reduceCtorEq, rH, Jn.cs]
                repeat (first | refine xA ?_ | refine xB ?_ | refine xC ?_ | refine xE ?_ | refine xD ?_ | refine xK ?_ | refine xS ?_ | refine xM ?_ | refine xT ?_ | refine xF ?_ | ((first | refine xR ?_ | refine xW ?_ | refine vq_id ?_); simp only [go_sem, Nat.reduceAdd, Nat.reduceLeDiff, Nat.reduceSub, Int.reduceToNat, reduceCtorEq, g5]) | (refine ⟨by first | omega | (intros; simp_all; done) | (intros; simp_all; omega), ?_⟩; try simp only [go_sem, Nat.reduceAdd, Nat.reduceLeDiff, Nat.reduceSub, Int.reduceToNat, reduceCtorEq, g5]))
                refine AQ.fn (by kernel_rfl) rfl rfl rfl (hcr) rfl ?_
                repeat (first | refine xA ?_ | refine xB ?_ | refine xC ?_ | refine xE ?_ | refine xD ?_ | refine xK ?_ | refine xS ?_ | refine xM ?_ | refine xT ?_ | refine xF ?_ | ((first | refine xR ?_ | refine xW ?_ | refine vq_id ?_); simp only [go_sem, Nat.reduceAdd, Nat.reduceLeDiff, Nat.reduceSub, Int.reduceToNat, reduceCtorEq]))
                refine AQ.fn (by kernel_rfl) rfl rfl rfl (hcrR) rfl ?_
                repeat (first | refine xA ?_ | refine xB ?_ | refine xC ?_ | refine xE ?_ | refine xD ?_ | refine xK ?_ | refine xS ?_ | refine xM ?_ | refine xT ?_ | refine xF ?_ | ((first | refine xR ?_ | refine xW ?_ | refine vq_id ?_); simp only [go_sem, Nat.reduceAdd, Nat.reduceLeDiff, Nat.reduceSub, Int.reduceToNat, reduceCtorEq]))
                refine AQ.callv (by kernel_rfl) rfl rfl rfl hop2 fun r' H' ⟨e1, e2⟩ => ?_
                subst e1; subst e2
                simp only [go_sem, Nat.reduceAdd, Nat.reduceLeDiff, Nat.reduceSub, Int.reduceToNat, reduceCtorEq, Jn.H]
                repeat (first | refine xA ?_ | refine xB ?_ | refine xC ?_ | refine xE ?_ | refine xD ?_ | refine xK ?_ | refine xS ?_ | refine xM ?_ | refine xT ?_ | refine xF ?_ | ((first | refine xR ?_ | refine xW ?_ | refine vq_id ?_); simp only [go_sem, Nat.reduceAdd, Nat.reduceLeDiff, Nat.reduceSub, Int.reduceToNat, reduceCtorEq]))
                refine AQ.fn (by kernel_rfl) rfl rfl rfl (hopR2) rfl ?_
                repeat (first | refine xA ?_ | refine xB ?_ | refine xC ?_ | refine xE ?_ | refine xD ?_ | refine xK ?_ | refine xS ?_ | refine xM ?_ | refine xT ?_ | refine xF ?_ | ((first | refine xR ?_ | refine xW ?_ | refine vq_id ?_); simp only [go_sem, Nat.reduceAdd, Nat.reduceLeDiff, Nat.reduceSub, Int.reduceToNat, reduceCtorEq]))
                refine AE.forgets [10, 11, 12, 13, 40, 41] rfl ?_
                simp only [go_sem, Nat.reduceAdd, Nat.reduceLeDiff, Nat.reduceSub, Int.reduceToNat, reduceCtorEq]
                refine AE.rename 42 10 rfl rfl rfl ?_; simp only [go_sem, Nat.reduceAdd, Nat.reduceLeDiff, Nat.reduceSub, Int.reduceToNat, reduceCtorEq]; refine AE.rename 43 11 rfl rfl rfl ?_; simp only [go_sem, Nat.reduceAdd, Nat.reduceLeDiff, Nat.reduceSub, Int.reduceToNat, reduceCtorEq]; refine AE.rename 44 12 rfl rfl rfl ?_; simp only [go_sem, Nat.reduceAdd, Nat.reduceLeDiff, Nat.reduceSub, Int.reduceToNat, reduceCtorEq]
                refine AE.order [12, 11, 10, 2, 1, 0] rfl ?_
                simp only [go_sem, Nat.reduceAdd, Nat.reduceLeDiff, Nat.reduceSub, Int.reduceToNat, reduceCtorEq]
                exact AE.meet (z, 0) ⟨hri2, by simp⟩ (by repeat (first | exact Sub.nil _ | refine Sub.cons rfl ?_)) rfl
            · simp only [go_sem, Nat.reduceAdd, Nat.reduceLeDiff, Nat.reduceSub, Int.reduceToNat, reduceCtorEq, rH, Jn.cs]
              repeat (first | refine xA ?_ | refine xB ?_ | refine xC ?_ | refine xE ?_ | refine xD ?_ | refine xK ?_ | refine xS ?_ | refine xM ?_ | refine xT ?_ | refine xF ?_ | ((first | refine xR ?_ | refine xW ?_ | refine vq_id ?_); simp only [go_sem, Nat.reduceAdd, Nat.reduceLeDiff, Nat.reduceSub, Int.reduceToNat, reduceCtorEq, g3, g4, g5, g6]))
              refine AP.cut (α := Unit) (fun _ => [(4, Bv false), (5, .ob 0 0), (7, .ob 1 0), (9, .ob 10 0), (10, .ob 2 0), (12, .ob 13 0), (13, Iv 0), (14, Iv 0), (15, .ob 40 0), (16, .ob 41 0), (68, .im (.sl 3 (acR l))), (69, Iv l.length), (70, Iv i)]) (fun _ => (41, .var 48 [.im (.sl 1 (blkR x.B)), .im (.sl 2 (wrR x.W))]) :: (40, .var 28 [.im (.sl 1 (blkR x.B)), .im (.sl 2 (wrR x.W))]) :: (13, .var 38 [.im (.v (.int .u8 a.k)), Sv a.t, Fv a.f]) :: rH x X.D) (fun _ => True) ?_ fun _ _ => ?_
              · skip
                refine AP.drawE 8 (Tree.node [] [0, 2, 3] [1, 4, 5] [Tree.node [2, 3] [] [4, 5] [Tree.node [2, 3] [] [5] [Tree.node [2, 3] [] [6] [Tree.node [2, 3] [] [7] [Tree.node [] [] [] []]]], Tree.node [2, 3] [] [4] [Tree.node [2, 3] [] [6] [Tree.node [2, 3] [] [7] [Tree.node [] [] [] []]]]], Tree.node [0, 2, 3] [] [1, 5] [Tree.node [2, 3] [] [5] [Tree.node [2, 3] [] [6] [Tree.node [2, 3] [] [7] [Tree.node [] [] [] []]]], Tree.node [0, 2, 3] [] [1] [Tree.node [2, 3] [] [6] [Tree.node [2, 3] [] [7] [Tree.node [] [] [] []]]]], Tree.node [0, 2, 3] [] [1, 4] [Tree.node [2, 3] [] [4] [Tree.node [2, 3] [] [6] [Tree.node [2, 3] [] [7] [Tree.node [] [] [] []]]], Tree.node [0, 2, 3] [] [1] [Tree.node [2, 3] [] [6] [Tree.node [2, 3] [] [7] [Tree.node [] [] [] []]]]]]) (by kernel_rfl) rfl (by kernel_rfl) (by kernel_rfl) ?_
                refine vd_node ?_
                simp only [go_sem, Nat.reduceAdd, Nat.reduceLeDiff, Nat.reduceSub, Int.reduceToNat, reduceCtorEq]
                repeat' (first | with_reducible exact True.intro | with_reducible refine And.intro (by omega) ?_ | with_reducible refine And.intro ?_ ?_ | omega | (refine AQ.callL ([.im (.pt x.ic)]) (by kernel_rfl) rfl rfl rfl (by ((try simp only [List.nil_append, List.append_nil, List.map_cons, List.map_nil, AV.st, constAV]); repeat (first | with_reducible exact LentC.nil | with_reducible exact LentAs.nil | with_reducible refine LentC.cons ?_ ?_ | with_reducible refine LentAs.cons ?_ ?_ | with_reducible exact Lent.im _ | with_reducible exact LentA.im _ | with_reducible refine LentA.of ?_ | with_reducible refine LentA.agg ?_ | ((with_reducible apply Lent.osw); rfl; simp only [blkR_len, wrR_len, byteR_len, List.length_append, List.length_cons, List.length_nil]) | ((with_reducible apply Lent.ob0); rfl)))) (hdk) fun r1 H1 ⟨e1, e2⟩ => ?_; subst e1; subst e2; refine ⟨rfl, ⟨blkR_plain _, wrR_plain _, trivial⟩, ?_⟩; simp only [go_sem, Nat.reduceAdd, Nat.reduceLeDiff, Nat.reduceSub, Int.reduceToNat, reduceCtorEq]) | (refine AQ.nx rfl ?_; first | (refine And.intro ?_ ?_ <;> (try simp only [go_sem, Nat.reduceAdd, Nat.reduceLeDiff, Nat.reduceSub, Int.reduceToNat, reduceCtorEq])) | simp only [go_sem, Nat.reduceAdd, Nat.reduceLeDiff, Nat.reduceSub, Int.reduceToNat, reduceCtorEq]) | refine AQ.done ?_ | (refine AQ.go (by kernel_rfl) ?_; simp only [go_sem, Nat.reduceAdd, Nat.reduceLeDiff, Nat.reduceSub, Int.reduceToNat, reduceCtorEq]; (refine AQ.nx rfl ?_; first | (refine And.intro ?_ ?_ <;> (try simp only [go_sem, Nat.reduceAdd, Nat.reduceLeDiff, Nat.reduceSub, Int.reduceToNat, reduceCtorEq])) | simp only [go_sem, Nat.reduceAdd, Nat.reduceLeDiff, Nat.reduceSub, Int.reduceToNat, reduceCtorEq])))
                all_goals simp only [go_sem, Nat.reduceAdd, Nat.reduceLeDiff, Nat.reduceSub, Int.reduceToNat, reduceCtorEq]
                · refine AE.freeze 15 (el := 9) (es := 1) (rows := blkR x.B) rfl (by simp [go_sem, blkR_len]) (by simp [go_sem, blkR_len]) ?_
                  refine AE.freeze 16 (el := 97) (es := 2) (rows := wrR x.W) rfl (by simp [go_sem, wrR_len]) (by simp [go_sem, wrR_len]) ?_
                  simp only [go_sem, Nat.reduceAdd, Nat.reduceLeDiff, Nat.reduceSub, Int.reduceToNat, reduceCtorEq, tb, tw]
                  refine AE.rename 17 40 rfl rfl rfl ?_
                  refine AE.rename 18 41 rfl rfl rfl ?_
                  refine AE.order [41, 40, 13, 12, 11, 10, 2, 1, 0] rfl ?_
                  simp only [go_sem, Nat.reduceAdd, Nat.reduceLeDiff, Nat.reduceSub, Int.reduceToNat, reduceCtorEq]
                  exact AE.meet () trivial (by repeat (first | exact Sub.nil _ | refine Sub.cons rfl ?_)) rfl
                · refine AE.freeze 15 (el := 9) (es := 1) (rows := blkR x.B) rfl (by simp [go_sem, blkR_len]) (by simp [go_sem, blkR_len]) ?_
                  refine AE.freeze 16 (el := 97) (es := 2) (rows := wrR x.W) rfl (by simp [go_sem, wrR_len]) (by simp [go_sem, wrR_len]) ?_
                  simp only [go_sem, Nat.reduceAdd, Nat.reduceLeDiff, Nat.reduceSub, Int.reduceToNat, reduceCtorEq, tb, tw]
                  refine AE.rename 18 40 rfl rfl rfl ?_
                  refine AE.rename 17 41 rfl rfl rfl ?_
                  refine AE.order [41, 40, 13, 12, 11, 10, 2, 1, 0] rfl ?_
                  simp only [go_sem, Nat.reduceAdd, Nat.reduceLeDiff, Nat.reduceSub, Int.reduceToNat, reduceCtorEq]
                  exact AE.meet () trivial (by repeat (first | exact Sub.nil _ | refine Sub.cons rfl ?_)) rfl
                · refine AE.freeze 16 (el := 9) (es := 1) (rows := blkR x.B) rfl (by simp [go_sem, blkR_len]) (by simp [go_sem, blkR_len]) ?_
                  refine AE.freeze 17 (el := 97) (es := 2) (rows := wrR x.W) rfl (by simp [go_sem, wrR_len]) (by simp [go_sem, wrR_len]) ?_
                  simp only [go_sem, Nat.reduceAdd, Nat.reduceLeDiff, Nat.reduceSub, Int.reduceToNat, reduceCtorEq, tb, tw]
                  refine AE.rename 14 40 rfl rfl rfl ?_
                  refine AE.rename 18 41 rfl rfl rfl ?_
                  refine AE.order [41, 40, 13, 12, 11, 10, 2, 1, 0] rfl ?_
                  simp only [go_sem, Nat.reduceAdd, Nat.reduceLeDiff, Nat.reduceSub, Int.reduceToNat, reduceCtorEq]
                  exact AE.meet () trivial (by repeat (first | exact Sub.nil _ | refine Sub.cons rfl ?_)) rfl
                · refine AE.freeze 17 (el := 9) (es := 1) (rows := blkR x.B) rfl (by simp [go_sem, blkR_len]) (by simp [go_sem, blkR_len]) ?_
                  refine AE.freeze 18 (el := 97) (es := 2) (rows := wrR x.W) rfl (by simp [go_sem, wrR_len]) (by simp [go_sem, wrR_len]) ?_
                  simp only [go_sem, Nat.reduceAdd, Nat.reduceLeDiff, Nat.reduceSub, Int.reduceToNat, reduceCtorEq, tb, tw]
                  refine AE.rename 14 40 rfl rfl rfl ?_
                  refine AE.rename 15 41 rfl rfl rfl ?_
                  refine AE.order [41, 40, 13, 12, 11, 10, 2, 1, 0] rfl ?_
                  simp only [go_sem, Nat.reduceAdd, Nat.reduceLeDiff, Nat.reduceSub, Int.reduceToNat, reduceCtorEq]
                  exact AE.meet () trivial (by repeat (first | exact Sub.nil _ | refine Sub.cons rfl ?_)) rfl
                · refine AE.freeze 16 (el := 9) (es := 1) (rows := blkR x.B) rfl (by simp [go_sem, blkR_len]) (by simp [go_sem, blkR_len]) ?_
                  refine AE.freeze 17 (el := 97) (es := 2) (rows := wrR x.W) rfl (by simp [go_sem, wrR_len]) (by simp [go_sem, wrR_len]) ?_
                  simp only [go_sem, Nat.reduceAdd, Nat.reduceLeDiff, Nat.reduceSub, Int.reduceToNat, reduceCtorEq, tb, tw]
                  refine AE.rename 18 40 rfl rfl rfl ?_
                  refine AE.rename 14 41 rfl rfl rfl ?_
                  refine AE.order [41, 40, 13, 12, 11, 10, 2, 1, 0] rfl ?_
                  simp only [go_sem, Nat.reduceAdd, Nat.reduceLeDiff, Nat.reduceSub, Int.reduceToNat, reduceCtorEq]
                  exact AE.meet () trivial (by repeat (first | exact Sub.nil _ | refine Sub.cons rfl ?_)) rfl
                · refine AE.freeze 17 (el := 9) (es := 1) (rows := blkR x.B) rfl (by simp [go_sem, blkR_len]) (by simp [go_sem, blkR_len]) ?_
                  refine AE.freeze 18 (el := 97) (es := 2) (rows := wrR x.W) rfl (by simp [go_sem, wrR_len]) (by simp [go_sem, wrR_len]) ?_
                  simp only [go_sem, Nat.reduceAdd, Nat.reduceLeDiff, Nat.reduceSub, Int.reduceToNat, reduceCtorEq, tb, tw]
                  refine AE.rename 15 40 rfl rfl rfl ?_
                  refine AE.rename 14 41 rfl rfl rfl ?_
                  refine AE.order [41, 40, 13, 12, 11, 10, 2, 1, 0] rfl ?_
                  simp only [go_sem, Nat.reduceAdd, Nat.reduceLeDiff, Nat.reduceSub, Int.reduceToNat, reduceCtorEq]
                  exact AE.meet () trivial (by repeat (first | exact Sub.nil _ | refine Sub.cons rfl ?_)) rfl
              · obtain ⟨c, h, hsel2, hz⟩ := hk.same
                have hxD : x.D.Sz := ⟨by have := hxs.b; simp only; omega, by have := hxs.w; simp only; omega⟩
                have hop2 := open_sel x.D hxD hxok hsel2 hz
                have hopR2 := openR_sel x.D hxok hsel2 hz
                simp only [go_sem, Nat.reduceAdd, Nat.reduceLeDiff, Nat.reduceSub, Int.reduceToNat, reduceCtorEq, rH, Jn.cs]
                repeat (first | refine xA ?_ | refine xB ?_ | refine xC ?_ | refine xE ?_ | refine xD ?_ | refine xK ?_ | refine xS ?_ | refine xM ?_ | refine xT ?_ | refine xF ?_ | ((first | refine xR ?_ | refine xW ?_ | refine vq_id ?_); simp only [go_sem, Nat.reduceAdd, Nat.reduceLeDiff, Nat.reduceSub, Int.reduceToNat, reduceCtorEq, g5]) | (refine ⟨by first | omega | (intros; simp_all; done) | (intros; simp_all; omega), ?_⟩; try simp only [go_sem, Nat.reduceAdd, Nat.reduceLeDiff, Nat.reduceSub, Int.reduceToNat, reduceCtorEq, g5]))
                refine AQ.callv (by kernel_rfl) rfl rfl rfl hop2 fun r' H' ⟨e1, e2⟩ => ?_
                subst e1; subst e2
                simp only [go_sem, Nat.reduceAdd, Nat.reduceLeDiff, Nat.reduceSub, Int.reduceToNat, reduceCtorEq, Jn.H]
                repeat (first | refine xA ?_ | refine xB ?_ | refine xC ?_ | refine xE ?_ | refine xD ?_ | refine xK ?_ | refine xS ?_ | refine xM ?_ | refine xT ?_ | refine xF ?_ | ((first | refine xR ?_ | refine xW ?_ | refine vq_id ?_); simp only [go_sem, Nat.reduceAdd, Nat.reduceLeDiff, Nat.reduceSub, Int.reduceToNat, reduceCtorEq]))
                refine AQ.fn (by kernel_rfl) rfl rfl rfl (hopR2) rfl ?_
                repeat (first | refine xA ?_ | refine xB ?_ | refine xC ?_ | refine xE ?_ | refine xD ?_ | refine xK ?_ | refine xS ?_ | refine xM ?_ | refine xT ?_ | refine xF ?_ | ((first | refine xR ?_ | refine xW ?_ | refine vq_id ?_); simp only [go_sem, Nat.reduceAdd, Nat.reduceLeDiff, Nat.reduceSub, Int.reduceToNat, reduceCtorEq]))
                refine AE.forgets [10, 11, 12, 13, 40, 41] rfl ?_
                simp only [go_sem, Nat.reduceAdd, Nat.reduceLeDiff, Nat.reduceSub, Int.reduceToNat, reduceCtorEq]
                refine AE.rename 42 10 rfl rfl rfl ?_; simp only [go_sem, Nat.reduceAdd, Nat.reduceLeDiff, Nat.reduceSub, Int.reduceToNat, reduceCtorEq]; refine AE.rename 43 11 rfl rfl rfl ?_; simp only [go_sem, Nat.reduceAdd, Nat.reduceLeDiff, Nat.reduceSub, Int.reduceToNat, reduceCtorEq]; refine AE.rename 44 12 rfl rfl rfl ?_; simp only [go_sem, Nat.reduceAdd, Nat.reduceLeDiff, Nat.reduceSub, Int.reduceToNat, reduceCtorEq]
                refine AE.order [12, 11, 10, 2, 1, 0] rfl ?_
                simp only [go_sem, Nat.reduceAdd, Nat.reduceLeDiff, Nat.reduceSub, Int.reduceToNat, reduceCtorEq]
                exact AE.meet (x, 0) ⟨hk, by simp⟩ (by repeat (first | exact Sub.nil _ | refine Sub.cons rfl ?_)) rfl
          · have g5 : ((a.k : Int).tmod 8 == 5) = false := (e8 5).2 (fun h => h56 (.inl h))
            have g6 : ((a.k : Int).tmod 8 == 6) = false := (e8 6).2 (fun h => h56 (.inr h))
            rcases hA.1 with hsh | ⟨hlo, hlo2⟩
            · obtain ⟨e, he⟩ : ∃ e, x.appE a.t = e := ⟨_, rfl⟩
              have he08 : e = 0 ∨ e = 8 := by
                rw [← he, Jn.appE, if_neg (by omega)]
                split <;> simp
              rcases he08 with rfl | rfl
              · have hok := append_ok x half a.t hxs hhalf he
                have hokR := appendR_ok x half a.t hxs hhalf he
                have hky := hk.append a.t he half hhalf
                obtain ⟨y, hy⟩ : ∃ y, x.wrote half x.used x.last a.t = y := ⟨_, rfl⟩
                rw [hy] at hok hokR hky
                simp only [go_sem, Nat.reduceAdd, Nat.reduceLeDiff, Nat.reduceSub, Int.reduceToNat, reduceCtorEq, rH, Jn.cs]
                repeat (first | refine xA ?_ | refine xB ?_ | refine xC ?_ | refine xE ?_ | refine xD ?_ | refine xK ?_ | refine xS ?_ | refine xM ?_ | refine xT ?_ | refine xF ?_ | ((first | refine xR ?_ | refine xW ?_ | refine vq_id ?_); simp only [go_sem, Nat.reduceAdd, Nat.reduceLeDiff, Nat.reduceSub, Int.reduceToNat, reduceCtorEq, g3, g4, g5, g6]))
                refine AQ.callH [(2, 12), (1, 11), (0, 10)] (by kernel_rfl) rfl rfl rfl rfl rfl rfl (by exact ⟨rfl, rfl, rfl, trivial⟩) rfl (hok) ?_
                rintro r H1 ⟨rfl, rfl⟩
                refine ⟨rfl, ?_⟩
                simp only [go_sem, Nat.reduceAdd, Nat.reduceLeDiff, Nat.reduceSub, Int.reduceToNat, reduceCtorEq, Jn.H, Jn.cs]
                repeat (first | refine xA ?_ | refine xB ?_ | refine xC ?_ | refine xE ?_ | refine xD ?_ | refine xK ?_ | refine xS ?_ | refine xM ?_ | refine xT ?_ | refine xF ?_ | ((first | refine xR ?_ | refine xW ?_ | refine vq_id ?_); simp only [go_sem, Nat.reduceAdd, Nat.reduceLeDiff, Nat.reduceSub, Int.reduceToNat, reduceCtorEq]))
                refine AQ.fn (by kernel_rfl) rfl rfl rfl (hokR) rfl ?_
                repeat (first | refine xA ?_ | refine xB ?_ | refine xC ?_ | refine xE ?_ | refine xD ?_ | refine xK ?_ | refine xS ?_ | refine xM ?_ | refine xT ?_ | refine xF ?_ | ((first | refine xR ?_ | refine xW ?_ | refine vq_id ?_); simp only [go_sem, Nat.reduceAdd, Nat.reduceLeDiff, Nat.reduceSub, Int.reduceToNat, reduceCtorEq]))
                refine AE.forgets [13] rfl ?_
                simp only [go_sem, Nat.reduceAdd, Nat.reduceLeDiff, Nat.reduceSub, Int.reduceToNat, reduceCtorEq]
                refine AE.rename 17 11 rfl rfl rfl ?_; simp only [go_sem, Nat.reduceAdd, Nat.reduceLeDiff, Nat.reduceSub, Int.reduceToNat, reduceCtorEq]; refine AE.rename 18 12 rfl rfl rfl ?_; simp only [go_sem, Nat.reduceAdd, Nat.reduceLeDiff, Nat.reduceSub, Int.reduceToNat, reduceCtorEq]
                refine AE.order [12, 11, 10, 2, 1, 0] rfl ?_
                simp only [go_sem, Nat.reduceAdd, Nat.reduceLeDiff, Nat.reduceSub, Int.reduceToNat, reduceCtorEq]
                exact AE.meet (y, 0) ⟨hky, by simp⟩ (by repeat (first | exact Sub.nil _ | refine Sub.cons rfl ?_)) rfl
              · skip
                simp only [go_sem, Nat.reduceAdd, Nat.reduceLeDiff, Nat.reduceSub, Int.reduceToNat, reduceCtorEq, rH, Jn.cs]
                repeat (first | refine xA ?_ | refine xB ?_ | refine xC ?_ | refine xE ?_ | refine xD ?_ | refine xK ?_ | refine xS ?_ | refine xM ?_ | refine xT ?_ | refine xF ?_ | ((first | refine xR ?_ | refine xW ?_ | refine vq_id ?_); simp only [go_sem, Nat.reduceAdd, Nat.reduceLeDiff, Nat.reduceSub, Int.reduceToNat, reduceCtorEq, g3, g4, g5, g6]))
                refine AQ.callH [(2, 12), (1, 11), (0, 10)] (by kernel_rfl) rfl rfl rfl rfl rfl rfl (by exact ⟨rfl, rfl, rfl, trivial⟩) rfl (append_full x half a.t hxs hhalf he) ?_
                rintro r H1 ⟨rfl, rfl⟩
                refine ⟨rfl, ?_⟩
                simp only [go_sem, Nat.reduceAdd, Nat.reduceLeDiff, Nat.reduceSub, Int.reduceToNat, reduceCtorEq, Jn.H, Jn.cs]
                repeat (first | refine xA ?_ | refine xB ?_ | refine xC ?_ | refine xE ?_ | refine xD ?_ | refine xK ?_ | refine xS ?_ | refine xM ?_ | refine xT ?_ | refine xF ?_ | ((first | refine xR ?_ | refine xW ?_ | refine vq_id ?_); simp only [go_sem, Nat.reduceAdd, Nat.reduceLeDiff, Nat.reduceSub, Int.reduceToNat, reduceCtorEq]))
                refine AQ.fn (by kernel_rfl) rfl rfl rfl (appendR_full x half a.t hxs hhalf he) rfl ?_
                repeat (first | refine xA ?_ | refine xB ?_ | refine xC ?_ | refine xE ?_ | refine xD ?_ | refine xK ?_ | refine xS ?_ | refine xM ?_ | refine xT ?_ | refine xF ?_ | ((first | refine xR ?_ | refine xW ?_ | refine vq_id ?_); simp only [go_sem, Nat.reduceAdd, Nat.reduceLeDiff, Nat.reduceSub, Int.reduceToNat, reduceCtorEq]))
                refine AE.forgets [13] rfl ?_
                simp only [go_sem, Nat.reduceAdd, Nat.reduceLeDiff, Nat.reduceSub, Int.reduceToNat, reduceCtorEq]
                refine AE.order [12, 11, 10, 2, 1, 0] rfl ?_
                simp only [go_sem, Nat.reduceAdd, Nat.reduceLeDiff, Nat.reduceSub, Int.reduceToNat, reduceCtorEq]
                exact AE.meet (x, 8) ⟨hk, by simp⟩ (by repeat (first | exact Sub.nil _ | refine Sub.cons rfl ?_)) rfl
            · skip
              simp only [go_sem, Nat.reduceAdd, Nat.reduceLeDiff, Nat.reduceSub, Int.reduceToNat, reduceCtorEq, rH, Jn.cs]
              repeat (first | refine xA ?_ | refine xB ?_ | refine xC ?_ | refine xE ?_ | refine xD ?_ | refine xK ?_ | refine xS ?_ | refine xM ?_ | refine xT ?_ | refine xF ?_ | ((first | refine xR ?_ | refine xW ?_ | refine vq_id ?_); simp only [go_sem, Nat.reduceAdd, Nat.reduceLeDiff, Nat.reduceSub, Int.reduceToNat, reduceCtorEq, g3, g4, g5, g6]))
              refine AQ.callH [(2, 12), (1, 11), (0, 10)] (by kernel_rfl) rfl rfl rfl rfl rfl rfl (by exact ⟨rfl, rfl, rfl, trivial⟩) rfl (append_long x a.t hxs hlo (by omega)) ?_
              rintro r H1 ⟨rfl, rfl⟩
              refine ⟨rfl, ?_⟩
              simp only [go_sem, Nat.reduceAdd, Nat.reduceLeDiff, Nat.reduceSub, Int.reduceToNat, reduceCtorEq, Jn.H, Jn.cs]
              repeat (first | refine xA ?_ | refine xB ?_ | refine xC ?_ | refine xE ?_ | refine xD ?_ | refine xK ?_ | refine xS ?_ | refine xM ?_ | refine xT ?_ | refine xF ?_ | ((first | refine xR ?_ | refine xW ?_ | refine vq_id ?_); simp only [go_sem, Nat.reduceAdd, Nat.reduceLeDiff, Nat.reduceSub, Int.reduceToNat, reduceCtorEq]))
              refine AQ.fn (by kernel_rfl) rfl rfl rfl (appendR_long x a.t hlo) rfl ?_
              repeat (first | refine xA ?_ | refine xB ?_ | refine xC ?_ | refine xE ?_ | refine xD ?_ | refine xK ?_ | refine xS ?_ | refine xM ?_ | refine xT ?_ | refine xF ?_ | ((first | refine xR ?_ | refine xW ?_ | refine vq_id ?_); simp only [go_sem, Nat.reduceAdd, Nat.reduceLeDiff, Nat.reduceSub, Int.reduceToNat, reduceCtorEq]))
              refine AE.forgets [13] rfl ?_
              simp only [go_sem, Nat.reduceAdd, Nat.reduceLeDiff, Nat.reduceSub, Int.reduceToNat, reduceCtorEq]
              refine AE.order [12, 11, 10, 2, 1, 0] rfl ?_
              simp only [go_sem, Nat.reduceAdd, Nat.reduceLeDiff, Nat.reduceSub, Int.reduceToNat, reduceCtorEq]
              exact AE.meet (x, 4) ⟨hk, by simp⟩ (by repeat (first | exact Sub.nil _ | refine Sub.cons rfl ?_)) rfl
    · simp only at hky hey
      obtain ⟨hys, hyok, hyne, hyl, hyh⟩ := hky.sz
      have hal := alike_spec y hys hyne
      have he4 : (ey == 400) = false := by simpa using hey
      simp only [go_sem, Nat.reduceAdd, Nat.reduceLeDiff, Nat.reduceSub, Int.reduceToNat, reduceCtorEq, rH, Jn.cs]
      repeat (first | refine xA ?_ | refine xB ?_ | refine xC ?_ | refine xE ?_ | refine xD ?_ | refine xK ?_ | refine xS ?_ | refine xM ?_ | refine xT ?_ | refine xF ?_ | ((first | refine xR ?_ | refine xW ?_ | refine vq_id ?_); simp only [go_sem, Nat.reduceAdd, Nat.reduceLeDiff, Nat.reduceSub, Int.reduceToNat, reduceCtorEq, bne_self_eq_false, he4]))
      refine AQ.guard_yes (by simp only [go_sem]) ?_
      refine AQ.fnL ([.im (.pt y.ic), y.rv]) (by kernel_rfl) rfl rfl rfl (by ((try simp only [List.nil_append, List.append_nil, List.map_cons, List.map_nil, AV.st, constAV]); repeat (first | with_reducible exact LentC.nil | with_reducible exact LentAs.nil | with_reducible refine LentC.cons ?_ ?_ | with_reducible refine LentAs.cons ?_ ?_ | with_reducible exact Lent.im _ | with_reducible exact LentA.im _ | with_reducible refine LentA.of ?_ | with_reducible refine LentA.agg ?_ | ((with_reducible apply Lent.osw); rfl; simp only [blkR_len, wrR_len, byteR_len, List.length_append, List.length_cons, List.length_nil]) | ((with_reducible apply Lent.ob0); rfl)))) (hal) rfl (fun _ => rfl) ?_
      simp only [go_sem, Nat.reduceAdd, Nat.reduceLeDiff, Nat.reduceSub, Int.reduceToNat, reduceCtorEq]
      repeat (first | refine xA ?_ | refine xB ?_ | refine xC ?_ | refine xE ?_ | refine xD ?_ | refine xK ?_ | refine xS ?_ | refine xM ?_ | refine xT ?_ | refine xF ?_ | ((first | refine xR ?_ | refine xW ?_ | refine vq_id ?_); simp only [go_sem, Nat.reduceAdd, Nat.reduceLeDiff, Nat.reduceSub, Int.reduceToNat, reduceCtorEq, hwi]))
      exact AE.round (i + 1, y) ⟨by simp only; omega, hky⟩ (by simp only; omega) (by repeat (first | exact Sub.nil _ | refine Sub.cons rfl ?_)) rfl
  · repeat (first | refine xA ?_ | refine xB ?_ | refine xC ?_ | refine xE ?_ | refine xD ?_ | refine xK ?_ | refine xS ?_ | refine xM ?_ | refine xT ?_ | refine xF ?_ | ((first | refine xR ?_ | refine xW ?_ | refine vq_id ?_); simp only [go_sem, Nat.reduceAdd, Nat.reduceLeDiff, Nat.reduceSub, Int.reduceToNat, reduceCtorEq]))
    refine AQ.fn (by kernel_rfl) rfl rfl rfl (records_nil) rfl ?_
    repeat (first | refine xA ?_ | refine xB ?_ | refine xC ?_ | refine xE ?_ | refine xD ?_ | refine xK ?_ | refine xS ?_ | refine xM ?_ | refine xT ?_ | refine xF ?_ | ((first | refine xR ?_ | refine xW ?_ | refine vq_id ?_); simp only [go_sem, Nat.reduceAdd, Nat.reduceLeDiff, Nat.reduceSub, Int.reduceToNat, reduceCtorEq]))
    refine AQ.fn (by kernel_rfl) rfl rfl rfl (append_nil []) rfl ?_
    repeat (first | refine xA ?_ | refine xB ?_ | refine xC ?_ | refine xE ?_ | refine xD ?_ | refine xK ?_ | refine xS ?_ | refine xM ?_ | refine xT ?_ | refine xF ?_ | ((first | refine xR ?_ | refine xW ?_ | refine vq_id ?_); simp only [go_sem, Nat.reduceAdd, Nat.reduceLeDiff, Nat.reduceSub, Int.reduceToNat, reduceCtorEq, beq_self_eq_true]))
    refine AQ.guard_yes (by simp only [go_sem]) ?_
    refine AQ.fn (by kernel_rfl) rfl rfl rfl (commit_nil) rfl ?_
    repeat (first | refine xA ?_ | refine xB ?_ | refine xC ?_ | refine xE ?_ | refine xD ?_ | refine xK ?_ | refine xS ?_ | refine xM ?_ | refine xT ?_ | refine xF ?_ | ((first | refine xR ?_ | refine xW ?_ | refine vq_id ?_); simp only [go_sem, Nat.reduceAdd, Nat.reduceLeDiff, Nat.reduceSub, Int.reduceToNat, reduceCtorEq, beq_self_eq_true]))
    refine AQ.guard_yes (by simp only [go_sem]) ?_
    refine AQ.fn (by kernel_rfl) rfl rfl rfl (compact_nil []) rfl ?_
    repeat (first | refine xA ?_ | refine xB ?_ | refine xC ?_ | refine xE ?_ | refine xD ?_ | refine xK ?_ | refine xS ?_ | refine xM ?_ | refine xT ?_ | refine xF ?_ | ((first | refine xR ?_ | refine xW ?_ | refine vq_id ?_); simp only [go_sem, Nat.reduceAdd, Nat.reduceLeDiff, Nat.reduceSub, Int.reduceToNat, reduceCtorEq, beq_self_eq_true]))
    refine AQ.guard_yes (by simp only [go_sem]) ?_
    refine AQ.fn (by kernel_rfl) rfl rfl rfl (room_nil) rfl ?_
    repeat (first | refine xA ?_ | refine xB ?_ | refine xC ?_ | refine xE ?_ | refine xD ?_ | refine xK ?_ | refine xS ?_ | refine xM ?_ | refine xT ?_ | refine xF ?_ | ((first | refine xR ?_ | refine xW ?_ | refine vq_id ?_); simp only [go_sem, Nat.reduceAdd, Nat.reduceLeDiff, Nat.reduceSub, Int.reduceToNat, reduceCtorEq, beq_self_eq_true]))
    refine AQ.guard_yes (by simp only [go_sem]) ?_
    refine AQ.fn (by kernel_rfl) rfl rfl rfl (disk_nil) rfl ?_
    have hn : (((blkR []).length : Int) == 0) = true := rfl
    repeat (first | refine xA ?_ | refine xB ?_ | refine xC ?_ | refine xE ?_ | refine xD ?_ | refine xK ?_ | refine xS ?_ | refine xM ?_ | refine xT ?_ | refine xF ?_ | ((first | refine xR ?_ | refine xW ?_ | refine vq_id ?_); simp only [go_sem, Nat.reduceAdd, Nat.reduceLeDiff, Nat.reduceSub, Int.reduceToNat, reduceCtorEq, hn]))
    refine AQ.guard_yes (by simp only [go_sem]) ?_
    refine AQ.fn (by kernel_rfl) rfl rfl rfl (awake_spec) rfl ?_
    repeat (first | refine xA ?_ | refine xB ?_ | refine xC ?_ | refine xE ?_ | refine xD ?_ | refine xK ?_ | refine xS ?_ | refine xM ?_ | refine xT ?_ | refine xF ?_ | ((first | refine xR ?_ | refine xW ?_ | refine vq_id ?_); simp only [go_sem, Nat.reduceAdd, Nat.reduceLeDiff, Nat.reduceSub, Int.reduceToNat, reduceCtorEq]))
    exact AE.ret0 rfl ⟨rfl, trivial⟩ rfl ⟨rfl, rfl⟩
end Go.Proofs.Ytoafanbfminhcaa
end

section
namespace Go.Proofs.Ytoafanbfminhcaa
open Go Go.AL Go.RowKit
set_option maxRecDepth 100000
theorem runs_walk (b : Nat) (l : List Ac) (_ : b < 256) (hl : l.length < 9223372036854775808) : PFn Try.prog 8 [B8 b, .im (.sl 3 (acR l))] (Bv true) := by
  cases h : (!shortL l || decide (60 < (b : Int))) with
  | true => exact runs_few b l hl h
  | false =>
    simp only [Bool.or_eq_false_iff, Bool.not_eq_false', decide_eq_false_iff_not] at h
    obtain ⟨h1, h2⟩ := h
    cases hp : permI (b : Int) with
    | false => exact runs_bad b l h1 (by omega) hp
    | true =>
      rw [permI_nat] at hp
      obtain ⟨m, rfl, h3⟩ : ∃ m, b = 2 * m ∧ 2 ≤ m := by
        unfold okN at hp
        simp at hp
        exact ⟨b / 2, by omega, by omega⟩
      exact runs_go m l h3 (by omega) h1
end Go.Proofs.Ytoafanbfminhcaa
end
