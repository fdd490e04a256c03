import Derived.Test.YtoafanbfminhcaaW2
set_option linter.unusedSimpArgs false
set_option linter.unusedVariables false
set_option linter.unnecessarySimpa false
section
namespace Go.Proofs.Ytoafanbfminhcaa
open Go Go.AL Go.RowKit
set_option maxRecDepth 10000
set_option maxHeartbeats 4000000
def long100B (s : Bs) : Bool := decide (100 < (s.length : Int))
def cgB (b : Nat) (A : List Bs) (s : Bs) (Z : List Bs) (F : List Int) : Bool := decide (60 < (b : Int)) || decide ((b : Int) < 4) || (b : Int).tmod 2 == 1 || decide (20 < (A.length : Int)) || decide (20 < (Z.length : Int)) || decide (100 < (F.length : Int)) || long100B s || A.any long100B || Z.any long100B
theorem compacts_few (b : Nat) (A : List Bs) (s : Bs) (Z : List Bs) (F : List Int) (cm : Bool) (hA : A.length < 9223372036854775808) (hZ : Z.length < 9223372036854775808) (h : cgB b A s Z F = true) :
    PFn Try.prog 5 [B8 b, .im (.sl 1 (blkR A)), Sv s, .im (.sl 1 (blkR Z)), Fv F, Bv cm] (Bv true) := by
  have h1 := long100 s
  have h2 := anyStr 35 long100B (fun s => long100 s) A hA
  have h3 := anyStr 35 long100B (fun s => long100 s) Z hZ
  have h4 : PFn Try.prog 35 [Sv s] (Bv (long100B s)) := h1
  unfold cgB at h
  cases hP : (decide (60 < (b : Int)) || decide ((b : Int) < 4) || (b : Int).tmod 2 == 1 || decide (20 < (A.length : Int)) || decide (20 < (Z.length : Int)) || decide (100 < (F.length : Int))) with
  | true =>
    refine ACall.walk [0, 1, 2, 3, 4, 5, 12, 13, 14, 15, 16, 17, 19, 20, 22, 23, 24, 65, 83, 84, 85, 86, 87, 99, 107, 110, 111, 112, 113, 131, 145] [14] Try.func5 rfl Try.ntmps5 (by kernel_rfl) (by rfl) rfl fun W own I0 φ0 => ?_
    repeat (first | refine xA ?_ | refine xB ?_ | refine xC ?_ | refine xE ?_ | refine xD ?_ | refine xK ?_ | refine xS ?_ | refine xM ?_ | refine xT ?_ | refine xF ?_ | ((first | refine xR ?_ | refine xW ?_ | refine vq_id ?_); simp only [go_sem, Nat.reduceAdd, Nat.reduceLeDiff, Nat.reduceSub, Int.reduceToNat, reduceCtorEq, blkR_len, intR_len, hP]) | (refine ⟨by first | omega | (intros; simp_all; done) | (intros; simp_all; omega), ?_⟩; try simp only [go_sem, Nat.reduceAdd, Nat.reduceLeDiff, Nat.reduceSub, Int.reduceToNat, reduceCtorEq, blkR_len, intR_len, hP]))
    refine AQ.fn (by kernel_rfl) rfl rfl rfl (awake_spec) rfl ?_
    repeat (first | refine xA ?_ | refine xB ?_ | refine xC ?_ | refine xE ?_ | refine xD ?_ | refine xK ?_ | refine xS ?_ | refine xM ?_ | refine xT ?_ | refine xF ?_ | ((first | refine xR ?_ | refine xW ?_ | refine vq_id ?_); simp only [go_sem, Nat.reduceAdd, Nat.reduceLeDiff, Nat.reduceSub, Int.reduceToNat, reduceCtorEq]) | (refine ⟨by first | omega | (intros; simp_all; done) | (intros; simp_all; omega), ?_⟩; try simp only [go_sem, Nat.reduceAdd, Nat.reduceLeDiff, Nat.reduceSub, Int.reduceToNat, reduceCtorEq]))
    exact AE.ret0 rfl ⟨rfl, trivial⟩ rfl ⟨rfl, rfl⟩
  | false =>
    rw [hP, Bool.false_or] at h
    refine ACall.walk [0, 1, 2, 3, 4, 5, 12, 13, 14, 15, 16, 17, 19, 20, 22, 23, 24, 65, 83, 84, 85, 86, 87, 99, 107, 110, 111, 112, 113, 131, 145] [14] Try.func5 rfl Try.ntmps5 (by kernel_rfl) (by rfl) rfl fun W own I0 φ0 => ?_
    repeat (first | refine xA ?_ | refine xB ?_ | refine xC ?_ | refine xE ?_ | refine xD ?_ | refine xK ?_ | refine xS ?_ | refine xM ?_ | refine xT ?_ | refine xF ?_ | ((first | refine xR ?_ | refine xW ?_ | refine vq_id ?_); simp only [go_sem, Nat.reduceAdd, Nat.reduceLeDiff, Nat.reduceSub, Int.reduceToNat, reduceCtorEq, blkR_len, intR_len, hP]) | (refine ⟨by first | omega | (intros; simp_all; done) | (intros; simp_all; omega), ?_⟩; try simp only [go_sem, Nat.reduceAdd, Nat.reduceLeDiff, Nat.reduceSub, Int.reduceToNat, reduceCtorEq, blkR_len, intR_len, hP]))
    refine AQ.strip ?_
    simp only [go_sem, Nat.reduceAdd, Nat.reduceLeDiff, Nat.reduceSub, Int.reduceToNat, reduceCtorEq]
    refine AQ.guard_yes (by simp only [go_sem]) ?_
    refine AQ.callI (by kernel_rfl) rfl rfl rfl (h4) ?_
    simp only [go_sem, Nat.reduceAdd, Nat.reduceLeDiff, Nat.reduceSub, Int.reduceToNat, reduceCtorEq]
    repeat (first | refine xA ?_ | refine xB ?_ | refine xC ?_ | refine xE ?_ | refine xD ?_ | refine xK ?_ | refine xS ?_ | refine xM ?_ | refine xT ?_ | refine xF ?_ | ((first | refine xR ?_ | refine xW ?_ | refine vq_id ?_); simp only [go_sem, Nat.reduceAdd, Nat.reduceLeDiff, Nat.reduceSub, Int.reduceToNat, reduceCtorEq]) | (refine ⟨by first | omega | (intros; simp_all; done) | (intros; simp_all; omega), ?_⟩; try simp only [go_sem, Nat.reduceAdd, Nat.reduceLeDiff, Nat.reduceSub, Int.reduceToNat, reduceCtorEq]))
    refine AQ.fn_g (by kernel_rfl) rfl rfl (fun h => by first | (simp [gs, AV.g]; done) | (simp [gs, AV.g, constAV]; done) | (simp [gs, AV.g, constAV, bw] at h ⊢; done) | (simp [bw] at h; done) | (simp [gs, AV.g, bw] at h ⊢; simp [h]; done) | (simp [gs, AV.g, bw] at h ⊢; exact h.1) | (simp [gs, AV.g]; rfl) | (simp [gs, AV.g, bw] at h ⊢; rfl) | (simp [gs, AV.g, bw] at h ⊢; simp [h]; rfl) | (simp [gs, AV.g, bw] at h ⊢; simp_all)) rfl (fun _ => h2) rfl ?_
    repeat (first | refine xA ?_ | refine xB ?_ | refine xC ?_ | refine xE ?_ | refine xD ?_ | refine xK ?_ | refine xS ?_ | refine xM ?_ | refine xT ?_ | refine xF ?_ | ((first | refine xR ?_ | refine xW ?_ | refine vq_id ?_); simp only [go_sem, Nat.reduceAdd, Nat.reduceLeDiff, Nat.reduceSub, Int.reduceToNat, reduceCtorEq]) | (refine ⟨by first | omega | (intros; simp_all; done) | (intros; simp_all; omega), ?_⟩; try simp only [go_sem, Nat.reduceAdd, Nat.reduceLeDiff, Nat.reduceSub, Int.reduceToNat, reduceCtorEq]))
    refine AQ.fn_g (by kernel_rfl) rfl rfl (fun h => by first | (simp [gs, AV.g]; done) | (simp [gs, AV.g, constAV]; done) | (simp [gs, AV.g, constAV, bw] at h ⊢; done) | (simp [bw] at h; done) | (simp [gs, AV.g, bw] at h ⊢; simp [h]; done) | (simp [gs, AV.g, bw] at h ⊢; exact h.1) | (simp [gs, AV.g]; rfl) | (simp [gs, AV.g, bw] at h ⊢; rfl) | (simp [gs, AV.g, bw] at h ⊢; simp [h]; rfl) | (simp [gs, AV.g, bw] at h ⊢; simp_all)) rfl (fun _ => h3) rfl ?_
    repeat (first | refine xA ?_ | refine xB ?_ | refine xC ?_ | refine xE ?_ | refine xD ?_ | refine xK ?_ | refine xS ?_ | refine xM ?_ | refine xT ?_ | refine xF ?_ | ((first | refine xR ?_ | refine xW ?_ | refine vq_id ?_); simp only [go_sem, Nat.reduceAdd, Nat.reduceLeDiff, Nat.reduceSub, Int.reduceToNat, reduceCtorEq, h]) | (refine ⟨by first | omega | (intros; simp_all; done) | (intros; simp_all; omega), ?_⟩; try simp only [go_sem, Nat.reduceAdd, Nat.reduceLeDiff, Nat.reduceSub, Int.reduceToNat, reduceCtorEq, h]))
    refine AQ.fn (by kernel_rfl) rfl rfl rfl (awake_spec) rfl ?_
    repeat (first | refine xA ?_ | refine xB ?_ | refine xC ?_ | refine xE ?_ | refine xD ?_ | refine xK ?_ | refine xS ?_ | refine xM ?_ | refine xT ?_ | refine xF ?_ | ((first | refine xR ?_ | refine xW ?_ | refine vq_id ?_); simp only [go_sem, Nat.reduceAdd, Nat.reduceLeDiff, Nat.reduceSub, Int.reduceToNat, reduceCtorEq]) | (refine ⟨by first | omega | (intros; simp_all; done) | (intros; simp_all; omega), ?_⟩; try simp only [go_sem, Nat.reduceAdd, Nat.reduceLeDiff, Nat.reduceSub, Int.reduceToNat, reduceCtorEq]))
    exact AE.ret0 rfl ⟨rfl, trivial⟩ rfl ⟨rfl, rfl⟩
end Go.Proofs.Ytoafanbfminhcaa
end

section
namespace Go.Proofs.Ytoafanbfminhcaa
open Go Go.AL Go.RowKit
set_option maxRecDepth 10000
set_option maxHeartbeats 4000000
theorem cg_false {b : Nat} {A : List Bs} {s : Bs} {Z : List Bs} {F : List Int} (h : cgB b A s Z F = false) : (∃ m, b = 2 * m ∧ 2 ≤ m ∧ m ≤ 30) ∧ A.length ≤ 20 ∧ Z.length ≤ 20 ∧ F.length ≤ 100 ∧ s.length ≤ 100 ∧ (∀ x ∈ A, x.length ≤ 100) ∧ ∀ x ∈ Z, x.length ≤ 100 := by
  simp only [cgB, Bool.or_eq_false_iff, decide_eq_false_iff_not, beq_eq_false_iff_ne, ne_eq, long100B, List.any_eq_false, decide_eq_true_eq] at h
  obtain ⟨⟨⟨⟨⟨⟨⟨⟨h1, h2⟩, h3⟩, h4⟩, h5⟩, h6⟩, h7⟩, h8⟩, h9⟩ := h
  rw [Int.tmod_eq_emod_of_nonneg (by omega)] at h3
  exact ⟨⟨b / 2, by omega, by omega, by omega⟩, by omega, by omega, by omega, by omega, fun x hx => by have := h8 x hx; omega, fun x hx => by have := h9 x hx; omega⟩
theorem recs_cons {x : Jn} (h : x.recs ≠ []) : ∃ s r, x.recs = s :: r := by
  cases hh : x.recs with
  | nil => exact absurd hh h
  | cons s r => exact ⟨s, r, rfl⟩
abbrev cH (x : Jn) (d : Dk) : Heap := [(12, .vec 9 1 (blkR x.recs)), (11, .vec 97 2 (wrR x.W)), (10, .var 93 (x.cs 11 12)), (0, .var 28 [.im (.sl 1 (blkR d.B)), .im (.sl 2 (wrR d.W))])]
theorem compacts_go (m : Nat) (A : List Bs) (s : Bs) (Z : List Bs) (F : List Int) (cm : Bool) (h1 : 2 ≤ m) (h2 : m ≤ 30) (hg : cgB (2 * m) A s Z F = false) :
    PFn Try.prog 5 [B8 (2 * m : Nat), .im (.sl 1 (blkR A)), Sv s, .im (.sl 1 (blkR Z)), Fv F, Bv cm] (Bv true) := by
  obtain ⟨_, hA20, hZ20, hF100, hs100, hAl, hZl⟩ := cg_false hg
  have k4 : PFn Try.prog 35 [Sv s] (Bv (long100B s)) := long100 s
  have k2 := anyStr 35 long100B (fun s => long100 s) A (by omega)
  have k3 := anyStr 35 long100B (fun s => long100 s) Z (by omega)
  unfold cgB at hg
  have hP : (decide (60 < ((2 * m : Nat) : Int)) || decide (((2 * m : Nat) : Int) < 4) || ((2 * m : Nat) : Int).tmod 2 == 1 || decide (20 < (A.length : Int)) || decide (20 < (Z.length : Int)) || decide (100 < (F.length : Int))) = false := by
    simp only [Bool.or_eq_false_iff] at hg ⊢
    exact hg.1.1.1
  rw [hP, Bool.false_or] at hg
  have hw := wr (x := ((2 * m : Nat) : Int)) (by omega)
  have hok : okN (2 * m) = true := by unfold okN; simp; omega
  have hf := format_ok (2 * m) hok
  obtain ⟨hKI, c0, hsel, hop⟩ := KI.init m h1 (by omega)
  have hsz := hKI.sz
  have hopen := open_sel (x0 (2 * m)).D ⟨by have := hsz.1.b; simp only; omega, by simp [x0]⟩ hsz.2.1 hsel hop
  rw [show (⟨fmtS (2 * m), []⟩ : Dk) = (x0 (2 * m)).D from rfl] at hf
  obtain ⟨X, hX⟩ : ∃ X, x0 (2 * m) = X := ⟨_, rfl⟩
  rw [hX] at hf hopen hKI
  obtain ⟨n, hn⟩ : ∃ n, 2 * m = n := ⟨_, rfl⟩
  rw [hn] at hP hw hf ⊢
  refine ACall.walk [0, 1, 2, 3, 4, 5, 12, 13, 14, 15, 16, 17, 19, 20, 22, 23, 24, 65, 83, 84, 85, 86, 87, 99, 107, 110, 111, 112, 113, 131, 145] [14] Try.func5 rfl Try.ntmps5 (by kernel_rfl) (by rfl) rfl fun W own I0 φ0 => ?_
  repeat (first | refine xA ?_ | refine xB ?_ | refine xC ?_ | refine xE ?_ | refine xD ?_ | refine xK ?_ | refine xS ?_ | refine xM ?_ | refine xT ?_ | refine xF ?_ | ((first | refine xR ?_ | refine xW ?_ | refine vq_id ?_); simp only [go_sem, Nat.reduceAdd, Nat.reduceLeDiff, Nat.reduceSub, Int.reduceToNat, reduceCtorEq, blkR_len, intR_len, hP]) | (refine ⟨by first | omega | (intros; simp_all; done) | (intros; simp_all; omega), ?_⟩; try simp only [go_sem, Nat.reduceAdd, Nat.reduceLeDiff, Nat.reduceSub, Int.reduceToNat, reduceCtorEq, blkR_len, intR_len, hP]))
  refine AQ.strip ?_
  simp only [go_sem, Nat.reduceAdd, Nat.reduceLeDiff, Nat.reduceSub, Int.reduceToNat, reduceCtorEq]
  refine AQ.guard_yes (by simp only [go_sem]) ?_
  refine AQ.callI (by kernel_rfl) rfl rfl rfl (k4) ?_
  simp only [go_sem, Nat.reduceAdd, Nat.reduceLeDiff, Nat.reduceSub, Int.reduceToNat, reduceCtorEq]
  repeat (first | refine xA ?_ | refine xB ?_ | refine xC ?_ | refine xE ?_ | refine xD ?_ | refine xK ?_ | refine xS ?_ | refine xM ?_ | refine xT ?_ | refine xF ?_ | ((first | refine xR ?_ | refine xW ?_ | refine vq_id ?_); simp only [go_sem, Nat.reduceAdd, Nat.reduceLeDiff, Nat.reduceSub, Int.reduceToNat, reduceCtorEq]) | (refine ⟨by first | omega | (intros; simp_all; done) | (intros; simp_all; omega), ?_⟩; try simp only [go_sem, Nat.reduceAdd, Nat.reduceLeDiff, Nat.reduceSub, Int.reduceToNat, reduceCtorEq]))
  refine AQ.fn_g (by kernel_rfl) rfl rfl (fun h => by first | (simp [gs, AV.g]; done) | (simp [gs, AV.g, constAV]; done) | (simp [gs, AV.g, constAV, bw] at h ⊢; done) | (simp [bw] at h; done) | (simp [gs, AV.g, bw] at h ⊢; simp [h]; done) | (simp [gs, AV.g, bw] at h ⊢; exact h.1) | (simp [gs, AV.g]; rfl) | (simp [gs, AV.g, bw] at h ⊢; rfl) | (simp [gs, AV.g, bw] at h ⊢; simp [h]; rfl) | (simp [gs, AV.g, bw] at h ⊢; simp_all)) rfl (fun _ => k2) rfl ?_
  repeat (first | refine xA ?_ | refine xB ?_ | refine xC ?_ | refine xE ?_ | refine xD ?_ | refine xK ?_ | refine xS ?_ | refine xM ?_ | refine xT ?_ | refine xF ?_ | ((first | refine xR ?_ | refine xW ?_ | refine vq_id ?_); simp only [go_sem, Nat.reduceAdd, Nat.reduceLeDiff, Nat.reduceSub, Int.reduceToNat, reduceCtorEq]) | (refine ⟨by first | omega | (intros; simp_all; done) | (intros; simp_all; omega), ?_⟩; try simp only [go_sem, Nat.reduceAdd, Nat.reduceLeDiff, Nat.reduceSub, Int.reduceToNat, reduceCtorEq]))
  refine AQ.fn_g (by kernel_rfl) rfl rfl (fun h => by first | (simp [gs, AV.g]; done) | (simp [gs, AV.g, constAV]; done) | (simp [gs, AV.g, constAV, bw] at h ⊢; done) | (simp [bw] at h; done) | (simp [gs, AV.g, bw] at h ⊢; simp [h]; done) | (simp [gs, AV.g, bw] at h ⊢; exact h.1) | (simp [gs, AV.g]; rfl) | (simp [gs, AV.g, bw] at h ⊢; rfl) | (simp [gs, AV.g, bw] at h ⊢; simp [h]; rfl) | (simp [gs, AV.g, bw] at h ⊢; simp_all)) rfl (fun _ => k3) rfl ?_
  repeat (first | refine xA ?_ | refine xB ?_ | refine xC ?_ | refine xE ?_ | refine xD ?_ | refine xK ?_ | refine xS ?_ | refine xM ?_ | refine xT ?_ | refine xF ?_ | ((first | refine xR ?_ | refine xW ?_ | refine vq_id ?_); simp only [go_sem, Nat.reduceAdd, Nat.reduceLeDiff, Nat.reduceSub, Int.reduceToNat, reduceCtorEq, hg, hw]) | (refine ⟨by first | omega | (intros; simp_all; done) | (intros; simp_all; omega), ?_⟩; try simp only [go_sem, Nat.reduceAdd, Nat.reduceLeDiff, Nat.reduceSub, Int.reduceToNat, reduceCtorEq, hg, hw]))
  refine AQ.fn (by kernel_rfl) rfl rfl rfl (hf) rfl ?_
  repeat (first | refine xA ?_ | refine xB ?_ | refine xC ?_ | refine xE ?_ | refine xD ?_ | refine xK ?_ | refine xS ?_ | refine xM ?_ | refine xT ?_ | refine xF ?_ | ((first | refine xR ?_ | refine xW ?_ | refine vq_id ?_); simp only [go_sem, Nat.reduceAdd, Nat.reduceLeDiff, Nat.reduceSub, Int.reduceToNat, reduceCtorEq, Int.reduceBNe]) | (refine ⟨by first | omega | (intros; simp_all; done) | (intros; simp_all; omega), ?_⟩; try simp only [go_sem, Nat.reduceAdd, Nat.reduceLeDiff, Nat.reduceSub, Int.reduceToNat, reduceCtorEq, Int.reduceBNe]))
  refine AQ.callv (by kernel_rfl) rfl rfl rfl hopen fun r' H' ⟨e1, e2⟩ => ?_
  subst e1; subst e2
  simp only [go_sem, Nat.reduceAdd, Nat.reduceLeDiff, Nat.reduceSub, Int.reduceToNat, reduceCtorEq, Jn.H]
  repeat (first | refine xA ?_ | refine xB ?_ | refine xC ?_ | refine xE ?_ | refine xD ?_ | refine xK ?_ | refine xS ?_ | refine xM ?_ | refine xT ?_ | refine xF ?_ | ((first | refine xR ?_ | refine xW ?_ | refine vq_id ?_); simp only [go_sem, Nat.reduceAdd, Nat.reduceLeDiff, Nat.reduceSub, Int.reduceToNat, reduceCtorEq, Int.reduceBNe]) | (refine ⟨by first | omega | (intros; simp_all; done) | (intros; simp_all; omega), ?_⟩; try simp only [go_sem, Nat.reduceAdd, Nat.reduceLeDiff, Nat.reduceSub, Int.reduceToNat, reduceCtorEq, Int.reduceBNe]))
  refine AP.rename 1 10 rfl rfl rfl ?_; simp only [go_sem, Nat.reduceAdd, Nat.reduceLeDiff, Nat.reduceSub, Int.reduceToNat, reduceCtorEq]; refine AP.rename 2 11 rfl rfl rfl ?_; simp only [go_sem, Nat.reduceAdd, Nat.reduceLeDiff, Nat.reduceSub, Int.reduceToNat, reduceCtorEq]; refine AP.rename 3 12 rfl rfl rfl ?_; simp only [go_sem, Nat.reduceAdd, Nat.reduceLeDiff, Nat.reduceSub, Int.reduceToNat, reduceCtorEq]
  refine AP.order [12, 11, 10, 0] rfl ?_
  simp only [go_sem, Nat.reduceAdd, Nat.reduceLeDiff, Nat.reduceSub, Int.reduceToNat, reduceCtorEq]
  refine AP.loop rfl (α := Nat × Jn) (fun p => [(1, .im (.sl 1 (blkR A))), (2, Sv s), (3, .im (.sl 1 (blkR Z))), (4, Fv F), (5, Bv cm), (12, Bv false), (14, .ob 0 0), (16, .ob 10 0), (84, .im (.sl 1 (blkR A))), (85, Iv A.length), (86, Iv p.1)]) (fun p => cH p.2 X.D) (fun p => p.1 ≤ A.length ∧ KI p.2 [[]]) (fun p => A.length - p.1) (0, X) ⟨by omega, hKI⟩ (by rw [blkR_len]; exact (by repeat (first | exact Sub.nil _ | refine Sub.cons rfl ?_))) rfl fun ⟨i, x⟩ ⟨hi, hk⟩ => ?_
  simp only at hi hk
  obtain ⟨hxs, hxok, hxne, hxl, _, hxh⟩ := hk.sz
  obtain ⟨s0, rest, hrec⟩ := recs_cons hxne
  have hl0 := congrArg List.length hrec
  rw [List.length_cons] at hl0
  obtain ⟨half, hhalf⟩ : ∃ half : Nat, x.half = (half : Int) := by
    rcases hxh with h | h
    · exact ⟨0, h⟩
    · exact ⟨1, h⟩
  repeat (first | refine xA ?_ | refine xB ?_ | refine xC ?_ | refine xE ?_ | refine xD ?_ | refine xK ?_ | refine xS ?_ | refine xM ?_ | refine xT ?_ | refine xF ?_ | ((first | refine xR ?_ | refine xW ?_ | refine vq_id ?_); simp only [go_sem, Nat.reduceAdd, Nat.reduceLeDiff, Nat.reduceSub, Int.reduceToNat, reduceCtorEq]) | (refine ⟨by first | omega | (intros; simp_all; done) | (intros; simp_all; omega), ?_⟩; try simp only [go_sem, Nat.reduceAdd, Nat.reduceLeDiff, Nat.reduceSub, Int.reduceToNat, reduceCtorEq]))
  refine AP.cond rfl rfl (fun hc => ?_) (fun hc => ?_)
  · have hi' : i < A.length := by simp at hc; omega
    have hwi := wr (x := (i : Int) + 1) (by omega)
    have hge := blkR_get A i hi'
    have ha100 := hAl (A.getD i []) (by rw [List.getD_eq_getElem?_getD, List.getElem?_eq_getElem hi']; exact List.getElem_mem hi')
    obtain ⟨a, ha⟩ : ∃ a, A.getD i [] = a := ⟨_, rfl⟩
    rw [ha] at hge ha100
    repeat (first | refine xA ?_ | refine xB ?_ | refine xC ?_ | refine xE ?_ | refine xD ?_ | refine xK ?_ | refine xS ?_ | refine xM ?_ | refine xT ?_ | refine xF ?_ | ((first | refine xR ?_ | refine xW ?_ | refine vq_id ?_); simp only [go_sem, Nat.reduceAdd, Nat.reduceLeDiff, Nat.reduceSub, Int.reduceToNat, reduceCtorEq, hge, blkR_len]) | (refine ⟨by first | omega | (intros; simp_all; done) | (intros; simp_all; omega), ?_⟩; try simp only [go_sem, Nat.reduceAdd, Nat.reduceLeDiff, Nat.reduceSub, Int.reduceToNat, reduceCtorEq, hge, blkR_len]))
    obtain ⟨e, he⟩ : ∃ e, x.appE a = e := ⟨_, rfl⟩
    have he08 : e = 0 ∨ e = 8 := by
      rw [← he, Jn.appE, if_neg (by omega)]
      split <;> simp
    rcases he08 with rfl | rfl
    · refine AQ.callH [(2, 12), (1, 11), (0, 10)] (by kernel_rfl) rfl rfl rfl rfl rfl rfl (by exact ⟨rfl, rfl, rfl, trivial⟩) rfl (append_ok x half a hxs hhalf he) ?_
      rintro r H1 ⟨rfl, rfl⟩
      refine ⟨rfl, ?_⟩
      have hk3 := hk.append a he half hhalf
      have hw2 := wrote_recs x half x.used x.last a
      obtain ⟨y, hy⟩ : ∃ y, x.wrote half x.used x.last a = y := ⟨_, rfl⟩
      rw [hy] at hk3 hw2 ⊢
      simp only [go_sem, Nat.reduceAdd, Nat.reduceLeDiff, Nat.reduceSub, Int.reduceToNat, reduceCtorEq, Jn.H, Jn.cs, cH]
      repeat (first | refine xA ?_ | refine xB ?_ | refine xC ?_ | refine xE ?_ | refine xD ?_ | refine xK ?_ | refine xS ?_ | refine xM ?_ | refine xT ?_ | refine xF ?_ | ((first | refine xR ?_ | refine xW ?_ | refine vq_id ?_); simp only [go_sem, Nat.reduceAdd, Nat.reduceLeDiff, Nat.reduceSub, Int.reduceToNat, reduceCtorEq, hwi]) | (refine ⟨by first | omega | (intros; simp_all; done) | (intros; simp_all; omega), ?_⟩; try simp only [go_sem, Nat.reduceAdd, Nat.reduceLeDiff, Nat.reduceSub, Int.reduceToNat, reduceCtorEq, hwi]))
      refine AE.rename 16 11 rfl rfl rfl ?_; simp only [go_sem, Nat.reduceAdd, Nat.reduceLeDiff, Nat.reduceSub, Int.reduceToNat, reduceCtorEq]; refine AE.rename 17 12 rfl rfl rfl ?_; simp only [go_sem, Nat.reduceAdd, Nat.reduceLeDiff, Nat.reduceSub, Int.reduceToNat, reduceCtorEq]
      refine AE.order [12, 11, 10, 0] rfl ?_
      simp only [go_sem, Nat.reduceAdd, Nat.reduceLeDiff, Nat.reduceSub, Int.reduceToNat, reduceCtorEq]
      exact AE.round (i + 1, y) ⟨by simp only; omega, hk3⟩ (by simp only; omega) (by repeat (first | exact Sub.nil _ | refine Sub.cons rfl ?_)) rfl
    · refine AQ.callH [(2, 12), (1, 11), (0, 10)] (by kernel_rfl) rfl rfl rfl rfl rfl rfl (by exact ⟨rfl, rfl, rfl, trivial⟩) rfl (append_full x half a hxs hhalf he) ?_
      rintro r H1 ⟨rfl, rfl⟩
      refine ⟨rfl, ?_⟩
      simp only [go_sem, Nat.reduceAdd, Nat.reduceLeDiff, Nat.reduceSub, Int.reduceToNat, reduceCtorEq, Jn.H, Jn.cs, cH]
      repeat (first | refine xA ?_ | refine xB ?_ | refine xC ?_ | refine xE ?_ | refine xD ?_ | refine xK ?_ | refine xS ?_ | refine xM ?_ | refine xT ?_ | refine xF ?_ | ((first | refine xR ?_ | refine xW ?_ | refine vq_id ?_); simp only [go_sem, Nat.reduceAdd, Nat.reduceLeDiff, Nat.reduceSub, Int.reduceToNat, reduceCtorEq, hwi]) | (refine ⟨by first | omega | (intros; simp_all; done) | (intros; simp_all; omega), ?_⟩; try simp only [go_sem, Nat.reduceAdd, Nat.reduceLeDiff, Nat.reduceSub, Int.reduceToNat, reduceCtorEq, hwi]))
      exact AE.round (i + 1, x) ⟨by simp only; omega, hk⟩ (by simp only; omega) (by repeat (first | exact Sub.nil _ | refine Sub.cons rfl ?_)) rfl
  · have hal := all_own x s0 rest hrec (by omega)
    simp only [go_sem, Nat.reduceAdd, Nat.reduceLeDiff, Nat.reduceSub, Int.reduceToNat, reduceCtorEq, cH, Jn.cs]
    repeat (first | refine xA ?_ | refine xB ?_ | refine xC ?_ | refine xE ?_ | refine xD ?_ | refine xK ?_ | refine xS ?_ | refine xM ?_ | refine xT ?_ | refine xF ?_ | ((first | refine xR ?_ | refine xW ?_ | refine vq_id ?_); simp only [go_sem, Nat.reduceAdd, Nat.reduceLeDiff, Nat.reduceSub, Int.reduceToNat, reduceCtorEq]) | (refine ⟨by first | omega | (intros; simp_all; done) | (intros; simp_all; omega), ?_⟩; try simp only [go_sem, Nat.reduceAdd, Nat.reduceLeDiff, Nat.reduceSub, Int.reduceToNat, reduceCtorEq]))
    refine AQ.callL ([.im (.pt x.ic)]) (by kernel_rfl) rfl rfl rfl (by ((try simp only [List.nil_append, List.append_nil, List.map_cons, List.map_nil, AV.st, constAV]); repeat (first | with_reducible exact LentC.nil | with_reducible exact LentAs.nil | with_reducible refine LentC.cons ?_ ?_ | with_reducible refine LentAs.cons ?_ ?_ | with_reducible exact Lent.im _ | with_reducible exact LentA.im _ | with_reducible refine LentA.of ?_ | with_reducible refine LentA.agg ?_ | ((with_reducible apply Lent.osw); rfl; simp only [blkR_len, wrR_len, byteR_len, List.length_append, List.length_cons, List.length_nil]) | ((with_reducible apply Lent.ob0); rfl)))) (hal) fun r1 H1 ⟨e1, e2⟩ => ?_; subst e1; subst e2; refine ⟨rfl, ⟨blkR_plain _, trivial⟩, ?_⟩
    simp only [go_sem, Nat.reduceAdd, Nat.reduceLeDiff, Nat.reduceSub, Int.reduceToNat, reduceCtorEq]
    refine AQ.go (by kernel_rfl) ?_
    simp only [go_sem, Nat.reduceAdd, Nat.reduceLeDiff, Nat.reduceSub, Int.reduceToNat, reduceCtorEq]
    repeat (first | refine xA ?_ | refine xB ?_ | refine xC ?_ | refine xE ?_ | refine xD ?_ | refine xK ?_ | refine xS ?_ | refine xM ?_ | refine xT ?_ | refine xF ?_ | ((first | refine xR ?_ | refine xW ?_ | refine vq_id ?_); simp only [go_sem, Nat.reduceAdd, Nat.reduceLeDiff, Nat.reduceSub, Int.reduceToNat, reduceCtorEq]) | (refine ⟨by first | omega | (intros; simp_all; done) | (intros; simp_all; omega), ?_⟩; try simp only [go_sem, Nat.reduceAdd, Nat.reduceLeDiff, Nat.reduceSub, Int.reduceToNat, reduceCtorEq]))
    refine AQ.freeze 14 (el := 9) (es := 1) (rows := blkR x.recs) rfl (by simp only [go_sem, Nat.reduceAdd, Nat.reduceLeDiff, Nat.reduceSub, Int.reduceToNat, reduceCtorEq, blkR_len]; first | done | trivial | omega | (simp; done) | (simp; omega)) (by simp only [go_sem, Nat.reduceAdd, Nat.reduceLeDiff, Nat.reduceSub, Int.reduceToNat, reduceCtorEq, blkR_len]; first | done | trivial | omega | (simp; done) | (simp; omega)) ?_; simp only [go_sem, Nat.reduceAdd, Nat.reduceLeDiff, Nat.reduceSub, Int.reduceToNat, reduceCtorEq, blkR_len]
    rw [take_all' (blkR x.recs) _ (Nat.le_of_eq (blkR_len _))]
    obtain ⟨e, he⟩ : ∃ e, x.compE s = e := ⟨_, rfl⟩
    have he08 : e = 0 ∨ e = 8 := by
      rw [← he, Jn.compE, if_neg (by omega)]
      split <;> simp
    rcases he08 with rfl | rfl
    · obtain ⟨h', hh'⟩ : ∃ h' : Nat, 1 - x.half = (h' : Int) := by
        rcases hxh with h | h
        · exact ⟨1, by omega⟩
        · exact ⟨0, by omega⟩
      have hci := hk.compact s he h' hh'
      have hcr := comp_recs x h' s
      refine AQ.callH [(2, 12), (1, 11), (0, 10)] (by kernel_rfl) rfl rfl rfl rfl rfl rfl (by exact ⟨rfl, rfl, rfl, trivial⟩) rfl (compact_ok x h' s hxs hxok hh' he) ?_
      rintro r H1 ⟨rfl, rfl⟩
      refine ⟨rfl, ?_⟩
      obtain ⟨w, hw0⟩ : ∃ y, x.comp0.wrote h' 0 0 s = y := ⟨_, rfl⟩
      rw [hw0] at hci hcr ⊢
      simp only [go_sem, Nat.reduceAdd, Nat.reduceLeDiff, Nat.reduceSub, Int.reduceToNat, reduceCtorEq, Jn.H, Jn.cs, cH]
      repeat (first | refine xA ?_ | refine xB ?_ | refine xE ?_ | refine xD ?_ | refine xK ?_ | refine xS ?_ | refine xM ?_ | refine xT ?_ | refine xF ?_ | ((first | refine xR ?_ | refine xW ?_ | refine vq_id ?_); simp only [go_sem, Nat.reduceAdd, Nat.reduceLeDiff, Nat.reduceSub, Int.reduceToNat, reduceCtorEq, Int.reduceBNe]) | (refine ⟨by first | omega | (intros; simp_all; done) | (intros; simp_all; omega), ?_⟩; try simp only [go_sem, Nat.reduceAdd, Nat.reduceLeDiff, Nat.reduceSub, Int.reduceToNat, reduceCtorEq, Int.reduceBNe]))
      refine xC ?_
      repeat (first | refine xA ?_ | refine xB ?_ | refine xE ?_ | refine xD ?_ | refine xK ?_ | refine xS ?_ | refine xM ?_ | refine xT ?_ | refine xF ?_ | ((first | refine xR ?_ | refine xW ?_ | refine vq_id ?_); simp only [go_sem, Nat.reduceAdd, Nat.reduceLeDiff, Nat.reduceSub, Int.reduceToNat, reduceCtorEq, Int.reduceBNe]) | (refine ⟨by first | omega | (intros; simp_all; done) | (intros; simp_all; omega), ?_⟩; try simp only [go_sem, Nat.reduceAdd, Nat.reduceLeDiff, Nat.reduceSub, Int.reduceToNat, reduceCtorEq, Int.reduceBNe]))
      refine AE.seq ?_
      refine AP.cut (α := Jn) (fun y => [(2, Sv s), (3, .im (.sl 1 (blkR Z))), (4, Fv F), (5, Bv cm), (12, Bv false), (14, .ob 0 0), (16, .ob 10 0), (20, .im (.sl 1 (blkR x.recs)))]) (fun y => cH y X.D) (fun y => CI y x.recs cm ∧ y.recs = [s]) ?_ fun y ⟨hy, hyr⟩ => ?_
      · refine AP.rename 16 11 rfl rfl rfl ?_; simp only [go_sem, Nat.reduceAdd, Nat.reduceLeDiff, Nat.reduceSub, Int.reduceToNat, reduceCtorEq]; refine AP.rename 17 12 rfl rfl rfl ?_; simp only [go_sem, Nat.reduceAdd, Nat.reduceLeDiff, Nat.reduceSub, Int.reduceToNat, reduceCtorEq]
        refine AP.order [12, 11, 10, 0] rfl ?_
        simp only [go_sem, Nat.reduceAdd, Nat.reduceLeDiff, Nat.reduceSub, Int.reduceToNat, reduceCtorEq]
        cases cm with
        | false =>
          repeat (first | refine xA ?_ | refine xB ?_ | refine xC ?_ | refine xE ?_ | refine xD ?_ | refine xK ?_ | refine xS ?_ | refine xM ?_ | refine xT ?_ | refine xF ?_ | ((first | refine xR ?_ | refine xW ?_ | refine vq_id ?_); simp only [go_sem, Nat.reduceAdd, Nat.reduceLeDiff, Nat.reduceSub, Int.reduceToNat, reduceCtorEq]) | (refine ⟨by first | omega | (intros; simp_all; done) | (intros; simp_all; omega), ?_⟩; try simp only [go_sem, Nat.reduceAdd, Nat.reduceLeDiff, Nat.reduceSub, Int.reduceToNat, reduceCtorEq]))
          exact AE.meet w ⟨hci, hcr⟩ (by repeat (first | exact Sub.nil _ | refine Sub.cons rfl ?_)) rfl
        | true =>
          repeat (first | refine xA ?_ | refine xB ?_ | refine xC ?_ | refine xE ?_ | refine xD ?_ | refine xK ?_ | refine xS ?_ | refine xM ?_ | refine xT ?_ | refine xF ?_ | ((first | refine xR ?_ | refine xW ?_ | refine vq_id ?_); simp only [go_sem, Nat.reduceAdd, Nat.reduceLeDiff, Nat.reduceSub, Int.reduceToNat, reduceCtorEq]) | (refine ⟨by first | omega | (intros; simp_all; done) | (intros; simp_all; omega), ?_⟩; try simp only [go_sem, Nat.reduceAdd, Nat.reduceLeDiff, Nat.reduceSub, Int.reduceToNat, reduceCtorEq]))
          refine AQ.callH [(2, 12), (1, 11), (0, 10)] (by kernel_rfl) rfl rfl rfl rfl rfl rfl (by exact ⟨rfl, rfl, rfl, trivial⟩) rfl (commit_ok w hci.sz.1 hci.sz.2.1) ?_
          rintro r H1 ⟨rfl, rfl⟩
          refine ⟨rfl, ?_⟩
          simp only [go_sem, Nat.reduceAdd, Nat.reduceLeDiff, Nat.reduceSub, Int.reduceToNat, reduceCtorEq, Jn.H, Jn.cs]
          repeat (first | refine xA ?_ | refine xB ?_ | refine xC ?_ | refine xE ?_ | refine xD ?_ | refine xK ?_ | refine xS ?_ | refine xM ?_ | refine xT ?_ | refine xF ?_ | ((first | refine xR ?_ | refine xW ?_ | refine vq_id ?_); simp only [go_sem, Nat.reduceAdd, Nat.reduceLeDiff, Nat.reduceSub, Int.reduceToNat, reduceCtorEq]) | (refine ⟨by first | omega | (intros; simp_all; done) | (intros; simp_all; omega), ?_⟩; try simp only [go_sem, Nat.reduceAdd, Nat.reduceLeDiff, Nat.reduceSub, Int.reduceToNat, reduceCtorEq]))
          refine AE.rename 16 11 rfl rfl rfl ?_; simp only [go_sem, Nat.reduceAdd, Nat.reduceLeDiff, Nat.reduceSub, Int.reduceToNat, reduceCtorEq]
          refine AE.order [12, 11, 10, 0] rfl ?_
          simp only [go_sem, Nat.reduceAdd, Nat.reduceLeDiff, Nat.reduceSub, Int.reduceToNat, reduceCtorEq]
          exact AE.meet w.synced ⟨hci.commit, hcr⟩ (by repeat (first | exact Sub.nil _ | refine Sub.cons rfl ?_)) rfl
      · obtain ⟨bf, hbf⟩ : ∃ b, x.recs = b := ⟨_, rfl⟩
        rw [hbf] at hy hxl
        simp only [hbf]
        repeat (first | refine xA ?_ | refine xB ?_ | refine xC ?_ | refine xE ?_ | refine xD ?_ | refine xK ?_ | refine xS ?_ | refine xM ?_ | refine xT ?_ | refine xF ?_ | ((first | refine xR ?_ | refine xW ?_ | refine vq_id ?_); simp only [go_sem, Nat.reduceAdd, Nat.reduceLeDiff, Nat.reduceSub, Int.reduceToNat, reduceCtorEq]) | (refine ⟨by first | omega | (intros; simp_all; done) | (intros; simp_all; omega), ?_⟩; try simp only [go_sem, Nat.reduceAdd, Nat.reduceLeDiff, Nat.reduceSub, Int.reduceToNat, reduceCtorEq]))
        refine AP.loop rfl (α := Nat × Jn) (fun p => [(2, Sv s), (3, .im (.sl 1 (blkR Z))), (4, Fv F), (5, Bv cm), (12, Bv false), (14, .ob 0 0), (16, .ob 10 0), (20, .im (.sl 1 (blkR bf))), (110, .im (.sl 1 (blkR Z))), (111, Iv Z.length), (112, Iv p.1)]) (fun p => cH p.2 X.D) (fun p => p.1 ≤ Z.length ∧ CI p.2 bf cm ∧ ∃ r, p.2.recs = s :: r) (fun p => Z.length - p.1) (0, y) ⟨by omega, hy, [], hyr⟩ (by rw [blkR_len]; exact (by repeat (first | exact Sub.nil _ | refine Sub.cons rfl ?_))) rfl fun ⟨i, x⟩ ⟨hi, hk, rest, hrec⟩ => ?_
        simp only at hi hk hrec
        obtain ⟨hxs, hxok, hxne, hxl2, hxh⟩ := hk.sz
        have hl0 := congrArg List.length hrec
        rw [List.length_cons] at hl0
        obtain ⟨half, hhalf⟩ : ∃ half : Nat, x.half = (half : Int) := by
          rcases hxh with h | h
          · exact ⟨0, h⟩
          · exact ⟨1, h⟩
        repeat (first | refine xA ?_ | refine xB ?_ | refine xC ?_ | refine xE ?_ | refine xD ?_ | refine xK ?_ | refine xS ?_ | refine xM ?_ | refine xT ?_ | refine xF ?_ | ((first | refine xR ?_ | refine xW ?_ | refine vq_id ?_); simp only [go_sem, Nat.reduceAdd, Nat.reduceLeDiff, Nat.reduceSub, Int.reduceToNat, reduceCtorEq]) | (refine ⟨by first | omega | (intros; simp_all; done) | (intros; simp_all; omega), ?_⟩; try simp only [go_sem, Nat.reduceAdd, Nat.reduceLeDiff, Nat.reduceSub, Int.reduceToNat, reduceCtorEq]))
        refine AP.cond rfl rfl (fun hc2 => ?_) (fun hc2 => ?_)
        · have hi' : i < Z.length := by simp at hc2; omega
          have hwi := wr (x := (i : Int) + 1) (by omega)
          have hge := blkR_get Z i hi'
          have ha100 := hZl (Z.getD i []) (by rw [List.getD_eq_getElem?_getD, List.getElem?_eq_getElem hi']; exact List.getElem_mem hi')
          obtain ⟨a, ha⟩ : ∃ a, Z.getD i [] = a := ⟨_, rfl⟩
          rw [ha] at hge ha100
          repeat (first | refine xA ?_ | refine xB ?_ | refine xC ?_ | refine xE ?_ | refine xD ?_ | refine xK ?_ | refine xS ?_ | refine xM ?_ | refine xT ?_ | refine xF ?_ | ((first | refine xR ?_ | refine xW ?_ | refine vq_id ?_); simp only [go_sem, Nat.reduceAdd, Nat.reduceLeDiff, Nat.reduceSub, Int.reduceToNat, reduceCtorEq, hge, blkR_len]) | (refine ⟨by first | omega | (intros; simp_all; done) | (intros; simp_all; omega), ?_⟩; try simp only [go_sem, Nat.reduceAdd, Nat.reduceLeDiff, Nat.reduceSub, Int.reduceToNat, reduceCtorEq, hge, blkR_len]))
          obtain ⟨e, he⟩ : ∃ e, x.appE a = e := ⟨_, rfl⟩
          have he08 : e = 0 ∨ e = 8 := by
            rw [← he, Jn.appE, if_neg (by omega)]
            split <;> simp
          rcases he08 with rfl | rfl
          · refine AQ.callH [(2, 12), (1, 11), (0, 10)] (by kernel_rfl) rfl rfl rfl rfl rfl rfl (by exact ⟨rfl, rfl, rfl, trivial⟩) rfl (append_ok x half a hxs hhalf he) ?_
            rintro r H1 ⟨rfl, rfl⟩
            refine ⟨rfl, ?_⟩
            have hk3 := hk.append a he half hhalf
            have hw2 := wrote_recs x half x.used x.last a
            obtain ⟨y, hy⟩ : ∃ y, x.wrote half x.used x.last a = y := ⟨_, rfl⟩
            rw [hy] at hk3 hw2 ⊢
            simp only [go_sem, Nat.reduceAdd, Nat.reduceLeDiff, Nat.reduceSub, Int.reduceToNat, reduceCtorEq, Jn.H, Jn.cs, cH]
            repeat (first | refine xA ?_ | refine xB ?_ | refine xC ?_ | refine xE ?_ | refine xD ?_ | refine xK ?_ | refine xS ?_ | refine xM ?_ | refine xT ?_ | refine xF ?_ | ((first | refine xR ?_ | refine xW ?_ | refine vq_id ?_); simp only [go_sem, Nat.reduceAdd, Nat.reduceLeDiff, Nat.reduceSub, Int.reduceToNat, reduceCtorEq, hwi]) | (refine ⟨by first | omega | (intros; simp_all; done) | (intros; simp_all; omega), ?_⟩; try simp only [go_sem, Nat.reduceAdd, Nat.reduceLeDiff, Nat.reduceSub, Int.reduceToNat, reduceCtorEq, hwi]))
            refine AE.rename 16 11 rfl rfl rfl ?_; simp only [go_sem, Nat.reduceAdd, Nat.reduceLeDiff, Nat.reduceSub, Int.reduceToNat, reduceCtorEq]; refine AE.rename 17 12 rfl rfl rfl ?_; simp only [go_sem, Nat.reduceAdd, Nat.reduceLeDiff, Nat.reduceSub, Int.reduceToNat, reduceCtorEq]
            refine AE.order [12, 11, 10, 0] rfl ?_
            simp only [go_sem, Nat.reduceAdd, Nat.reduceLeDiff, Nat.reduceSub, Int.reduceToNat, reduceCtorEq]
            exact AE.round (i + 1, y) ⟨by simp only; omega, hk3, rest ++ [a], by rw [hw2, hrec]; rfl⟩ (by simp only; omega) (by repeat (first | exact Sub.nil _ | refine Sub.cons rfl ?_)) rfl
          · refine AQ.callH [(2, 12), (1, 11), (0, 10)] (by kernel_rfl) rfl rfl rfl rfl rfl rfl (by exact ⟨rfl, rfl, rfl, trivial⟩) rfl (append_full x half a hxs hhalf he) ?_
            rintro r H1 ⟨rfl, rfl⟩
            refine ⟨rfl, ?_⟩
            simp only [go_sem, Nat.reduceAdd, Nat.reduceLeDiff, Nat.reduceSub, Int.reduceToNat, reduceCtorEq, Jn.H, Jn.cs, cH]
            repeat (first | refine xA ?_ | refine xB ?_ | refine xC ?_ | refine xE ?_ | refine xD ?_ | refine xK ?_ | refine xS ?_ | refine xM ?_ | refine xT ?_ | refine xF ?_ | ((first | refine xR ?_ | refine xW ?_ | refine vq_id ?_); simp only [go_sem, Nat.reduceAdd, Nat.reduceLeDiff, Nat.reduceSub, Int.reduceToNat, reduceCtorEq, hwi]) | (refine ⟨by first | omega | (intros; simp_all; done) | (intros; simp_all; omega), ?_⟩; try simp only [go_sem, Nat.reduceAdd, Nat.reduceLeDiff, Nat.reduceSub, Int.reduceToNat, reduceCtorEq, hwi]))
            exact AE.round (i + 1, x) ⟨by simp only; omega, hk, rest, hrec⟩ (by simp only; omega) (by repeat (first | exact Sub.nil _ | refine Sub.cons rfl ?_)) rfl
        · have hal2 := all_own x s rest hrec (by omega)
          simp only [go_sem, Nat.reduceAdd, Nat.reduceLeDiff, Nat.reduceSub, Int.reduceToNat, reduceCtorEq, cH, Jn.cs]
          repeat (first | refine xA ?_ | refine xB ?_ | refine xC ?_ | refine xE ?_ | refine xD ?_ | refine xK ?_ | refine xS ?_ | refine xM ?_ | refine xT ?_ | refine xF ?_ | ((first | refine xR ?_ | refine xW ?_ | refine vq_id ?_); simp only [go_sem, Nat.reduceAdd, Nat.reduceLeDiff, Nat.reduceSub, Int.reduceToNat, reduceCtorEq]) | (refine ⟨by first | omega | (intros; simp_all; done) | (intros; simp_all; omega), ?_⟩; try simp only [go_sem, Nat.reduceAdd, Nat.reduceLeDiff, Nat.reduceSub, Int.reduceToNat, reduceCtorEq]))
          refine AQ.callL ([.im (.pt x.ic)]) (by kernel_rfl) rfl rfl rfl (by ((try simp only [List.nil_append, List.append_nil, List.map_cons, List.map_nil, AV.st, constAV]); repeat (first | with_reducible exact LentC.nil | with_reducible exact LentAs.nil | with_reducible refine LentC.cons ?_ ?_ | with_reducible refine LentAs.cons ?_ ?_ | with_reducible exact Lent.im _ | with_reducible exact LentA.im _ | with_reducible refine LentA.of ?_ | with_reducible refine LentA.agg ?_ | ((with_reducible apply Lent.osw); rfl; simp only [blkR_len, wrR_len, byteR_len, List.length_append, List.length_cons, List.length_nil]) | ((with_reducible apply Lent.ob0); rfl)))) (hal2) fun r1 H1 ⟨e1, e2⟩ => ?_; subst e1; subst e2; refine ⟨rfl, ⟨blkR_plain _, trivial⟩, ?_⟩
          simp only [go_sem, Nat.reduceAdd, Nat.reduceLeDiff, Nat.reduceSub, Int.reduceToNat, reduceCtorEq]
          refine AQ.go (by kernel_rfl) ?_
          simp only [go_sem, Nat.reduceAdd, Nat.reduceLeDiff, Nat.reduceSub, Int.reduceToNat, reduceCtorEq]
          refine AQ.done ?_
          simp only [go_sem, Nat.reduceAdd, Nat.reduceLeDiff, Nat.reduceSub, Int.reduceToNat, reduceCtorEq]
          refine AE.freeze 14 (el := 9) (es := 1) (rows := blkR x.recs) rfl (by simp only [go_sem, Nat.reduceAdd, Nat.reduceLeDiff, Nat.reduceSub, Int.reduceToNat, reduceCtorEq, blkR_len]; first | done | trivial | omega | (simp; done) | (simp; omega)) (by simp only [go_sem, Nat.reduceAdd, Nat.reduceLeDiff, Nat.reduceSub, Int.reduceToNat, reduceCtorEq, blkR_len]; first | done | trivial | omega | (simp; done) | (simp; omega)) ?_; simp only [go_sem, Nat.reduceAdd, Nat.reduceLeDiff, Nat.reduceSub, Int.reduceToNat, reduceCtorEq, blkR_len]
          rw [take_all' (blkR x.recs) _ (Nat.le_of_eq (blkR_len _))]
          have q1 : ((x.recs.length : Int) == 0) = false := by simp only [beq_eq_false_iff_ne, ne_eq]; omega
          have q2 : (blkR x.recs).getD 0 [] = [Si s] := by rw [hrec]; rfl
          have hcr := crash_spec x.D F ⟨by have := hxs.b; simp only; omega, by have := hxs.w; simp only; omega⟩ (by omega)
          have hdk := disk_own x ⟨by have := hxs.b; simp only; omega, by have := hxs.w; simp only; omega⟩
          obtain ⟨c, hh, g1, g2, g3, g4, g5⟩ := hk.crash F
          obtain ⟨z, hz⟩ : ∃ z, openJ (x.D.crashD F) c hh = z := ⟨_, rfl⟩
          rw [hz] at g3 g4 g5
          obtain ⟨d, hd⟩ : ∃ d, x.D.crashD F = d := ⟨_, rfl⟩
          rw [hd] at hcr g1 g2 hz
          obtain ⟨s5, rest5, hrec5⟩ := recs_cons g4
          have hl5 := congrArg List.length hrec5
          rw [List.length_cons] at hl5
          have hzl := g3.r
          have hal5 := all_own z s5 rest5 hrec5 (by omega)
          have hdb : d.B.length ≤ 2000 := (okN_le g1.n).2.1
          have hop5 := open_sel d ⟨by omega, by have := g1.w; omega⟩ g1 g2 hz
          have hbg := begins_spec x.recs z.recs (by omega) (by omega)
          have hbe := eqStrs z.recs bf (by omega) (by omega)
          obtain ⟨b1, hb1⟩ : ∃ b1, (decide (z.recs.length ≤ x.recs.length) && decide (x.recs.take z.recs.length = z.recs)) = b1 := ⟨_, rfl⟩
          rw [hb1] at hbg
          repeat (first | refine xA ?_ | refine xB ?_ | refine xC ?_ | refine xE ?_ | refine xD ?_ | refine xK ?_ | refine xS ?_ | refine xM ?_ | refine xT ?_ | refine xF ?_ | ((first | refine xR ?_ | refine xW ?_ | refine vq_id ?_); simp only [go_sem, Nat.reduceAdd, Nat.reduceLeDiff, Nat.reduceSub, Int.reduceToNat, reduceCtorEq, q1, q2, blkR_len, BA_toList, beq_self_eq_true]) | (refine ⟨by first | omega | (intros; simp_all; done) | (intros; simp_all; omega), ?_⟩; try simp only [go_sem, Nat.reduceAdd, Nat.reduceLeDiff, Nat.reduceSub, Int.reduceToNat, reduceCtorEq, q1, q2, blkR_len, BA_toList, beq_self_eq_true]))
          refine AQ.callL ([.im (.pt x.ic)]) (by kernel_rfl) rfl rfl rfl (by ((try simp only [List.nil_append, List.append_nil, List.map_cons, List.map_nil, AV.st, constAV]); repeat (first | with_reducible exact LentC.nil | with_reducible exact LentAs.nil | with_reducible refine LentC.cons ?_ ?_ | with_reducible refine LentAs.cons ?_ ?_ | with_reducible exact Lent.im _ | with_reducible exact LentA.im _ | with_reducible refine LentA.of ?_ | with_reducible refine LentA.agg ?_ | ((with_reducible apply Lent.osw); rfl; simp only [blkR_len, wrR_len, byteR_len, List.length_append, List.length_cons, List.length_nil]) | ((with_reducible apply Lent.ob0); rfl)))) (hdk) fun r1 H1 ⟨e1, e2⟩ => ?_; subst e1; subst e2; refine ⟨rfl, ⟨blkR_plain _, wrR_plain _, trivial⟩, ?_⟩
          simp only [go_sem, Nat.reduceAdd, Nat.reduceLeDiff, Nat.reduceSub, Int.reduceToNat, reduceCtorEq]
          refine AQ.go (by kernel_rfl) ?_
          simp only [go_sem, Nat.reduceAdd, Nat.reduceLeDiff, Nat.reduceSub, Int.reduceToNat, reduceCtorEq]
          refine AQ.freeze 14 (el := 9) (es := 1) (rows := blkR x.B) rfl (by simp only [go_sem, Nat.reduceAdd, Nat.reduceLeDiff, Nat.reduceSub, Int.reduceToNat, reduceCtorEq, blkR_len]; first | done | trivial | omega | (simp; done) | (simp; omega)) (by simp only [go_sem, Nat.reduceAdd, Nat.reduceLeDiff, Nat.reduceSub, Int.reduceToNat, reduceCtorEq, blkR_len]; first | done | trivial | omega | (simp; done) | (simp; omega)) ?_; simp only [go_sem, Nat.reduceAdd, Nat.reduceLeDiff, Nat.reduceSub, Int.reduceToNat, reduceCtorEq, blkR_len]
          refine AQ.freeze 15 (el := 97) (es := 2) (rows := wrR x.W) rfl (by simp only [go_sem, Nat.reduceAdd, Nat.reduceLeDiff, Nat.reduceSub, Int.reduceToNat, reduceCtorEq, wrR_len]; first | done | trivial | omega | (simp; done) | (simp; omega)) (by simp only [go_sem, Nat.reduceAdd, Nat.reduceLeDiff, Nat.reduceSub, Int.reduceToNat, reduceCtorEq, wrR_len]; first | done | trivial | omega | (simp; done) | (simp; omega)) ?_; simp only [go_sem, Nat.reduceAdd, Nat.reduceLeDiff, Nat.reduceSub, Int.reduceToNat, reduceCtorEq, wrR_len]
          rw [take_all' (blkR x.B) _ (Nat.le_of_eq (blkR_len _)), take_all' (wrR x.W) _ (Nat.le_of_eq (wrR_len _))]
          refine AQ.fn (by kernel_rfl) rfl rfl rfl (hcr) rfl ?_
          simp only [go_sem, Nat.reduceAdd, Nat.reduceLeDiff, Nat.reduceSub, Int.reduceToNat, reduceCtorEq]
          repeat (first | refine xA ?_ | refine xB ?_ | refine xC ?_ | refine xE ?_ | refine xD ?_ | refine xK ?_ | refine xS ?_ | refine xM ?_ | refine xT ?_ | refine xF ?_ | ((first | refine xR ?_ | refine xW ?_ | refine vq_id ?_); simp only [go_sem, Nat.reduceAdd, Nat.reduceLeDiff, Nat.reduceSub, Int.reduceToNat, reduceCtorEq]) | (refine ⟨by first | omega | (intros; simp_all; done) | (intros; simp_all; omega), ?_⟩; try simp only [go_sem, Nat.reduceAdd, Nat.reduceLeDiff, Nat.reduceSub, Int.reduceToNat, reduceCtorEq]))
          refine AQ.callv (by kernel_rfl) rfl rfl rfl hop5 fun r' H' ⟨e1, e2⟩ => ?_
          subst e1; subst e2
          simp only [go_sem, Nat.reduceAdd, Nat.reduceLeDiff, Nat.reduceSub, Int.reduceToNat, reduceCtorEq, Jn.H]
          repeat (first | refine xA ?_ | refine xB ?_ | refine xC ?_ | refine xE ?_ | refine xD ?_ | refine xK ?_ | refine xS ?_ | refine xM ?_ | refine xT ?_ | refine xF ?_ | ((first | refine xR ?_ | refine xW ?_ | refine vq_id ?_); simp only [go_sem, Nat.reduceAdd, Nat.reduceLeDiff, Nat.reduceSub, Int.reduceToNat, reduceCtorEq, Int.reduceBNe]) | (refine ⟨by first | omega | (intros; simp_all; done) | (intros; simp_all; omega), ?_⟩; try simp only [go_sem, Nat.reduceAdd, Nat.reduceLeDiff, Nat.reduceSub, Int.reduceToNat, reduceCtorEq, Int.reduceBNe]))
          refine AQ.callL ([.im (.pt z.ic)]) (by kernel_rfl) rfl rfl rfl (by ((try simp only [List.nil_append, List.append_nil, List.map_cons, List.map_nil, AV.st, constAV]); repeat (first | with_reducible exact LentC.nil | with_reducible exact LentAs.nil | with_reducible refine LentC.cons ?_ ?_ | with_reducible refine LentAs.cons ?_ ?_ | with_reducible exact Lent.im _ | with_reducible exact LentA.im _ | with_reducible refine LentA.of ?_ | with_reducible refine LentA.agg ?_ | ((with_reducible apply Lent.osw); rfl; simp only [blkR_len, wrR_len, byteR_len, List.length_append, List.length_cons, List.length_nil]) | ((with_reducible apply Lent.ob0); rfl)))) (hal5) fun r1 H1 ⟨e1, e2⟩ => ?_; subst e1; subst e2; refine ⟨rfl, ⟨blkR_plain _, trivial⟩, ?_⟩
          simp only [go_sem, Nat.reduceAdd, Nat.reduceLeDiff, Nat.reduceSub, Int.reduceToNat, reduceCtorEq]
          refine AQ.go (by kernel_rfl) ?_
          simp only [go_sem, Nat.reduceAdd, Nat.reduceLeDiff, Nat.reduceSub, Int.reduceToNat, reduceCtorEq]
          refine AQ.done ?_
          simp only [go_sem, Nat.reduceAdd, Nat.reduceLeDiff, Nat.reduceSub, Int.reduceToNat, reduceCtorEq]
          refine AE.freeze 17 (el := 9) (es := 1) (rows := blkR z.recs) rfl (by simp only [go_sem, Nat.reduceAdd, Nat.reduceLeDiff, Nat.reduceSub, Int.reduceToNat, reduceCtorEq, blkR_len]; first | done | trivial | omega | (simp; done) | (simp; omega)) (by simp only [go_sem, Nat.reduceAdd, Nat.reduceLeDiff, Nat.reduceSub, Int.reduceToNat, reduceCtorEq, blkR_len]; first | done | trivial | omega | (simp; done) | (simp; omega)) ?_; simp only [go_sem, Nat.reduceAdd, Nat.reduceLeDiff, Nat.reduceSub, Int.reduceToNat, reduceCtorEq, blkR_len]
          rw [take_all' (blkR z.recs) _ (Nat.le_of_eq (blkR_len _))]
          cases b1 with
          | true =>
            repeat (first | refine xA ?_ | refine xB ?_ | refine xC ?_ | refine xE ?_ | refine xD ?_ | refine xK ?_ | refine xS ?_ | refine xM ?_ | refine xT ?_ | refine xF ?_ | ((first | refine xR ?_ | refine xW ?_ | refine vq_id ?_); simp only [go_sem, Nat.reduceAdd, Nat.reduceLeDiff, Nat.reduceSub, Int.reduceToNat, reduceCtorEq]) | (refine ⟨by first | omega | (intros; simp_all; done) | (intros; simp_all; omega), ?_⟩; try simp only [go_sem, Nat.reduceAdd, Nat.reduceLeDiff, Nat.reduceSub, Int.reduceToNat, reduceCtorEq]))
            refine AQ.fn (by kernel_rfl) rfl rfl rfl (hbg) rfl ?_
            cases cm
            all_goals
              repeat (first | refine xA ?_ | refine xB ?_ | refine xC ?_ | refine xE ?_ | refine xD ?_ | refine xK ?_ | refine xS ?_ | refine xM ?_ | refine xT ?_ | refine xF ?_ | ((first | refine xR ?_ | refine xW ?_ | refine vq_id ?_); simp only [go_sem, Nat.reduceAdd, Nat.reduceLeDiff, Nat.reduceSub, Int.reduceToNat, reduceCtorEq]) | (refine ⟨by first | omega | (intros; simp_all; done) | (intros; simp_all; omega), ?_⟩; try simp only [go_sem, Nat.reduceAdd, Nat.reduceLeDiff, Nat.reduceSub, Int.reduceToNat, reduceCtorEq]))
              refine AQ.guard_yes (by simp only [go_sem]) ?_
              refine AQ.fn (by kernel_rfl) rfl rfl rfl (awake_spec) rfl ?_
              repeat (first | refine xA ?_ | refine xB ?_ | refine xC ?_ | refine xE ?_ | refine xD ?_ | refine xK ?_ | refine xS ?_ | refine xM ?_ | refine xT ?_ | refine xF ?_ | ((first | refine xR ?_ | refine xW ?_ | refine vq_id ?_); simp only [go_sem, Nat.reduceAdd, Nat.reduceLeDiff, Nat.reduceSub, Int.reduceToNat, reduceCtorEq]) | (refine ⟨by first | omega | (intros; simp_all; done) | (intros; simp_all; omega), ?_⟩; try simp only [go_sem, Nat.reduceAdd, Nat.reduceLeDiff, Nat.reduceSub, Int.reduceToNat, reduceCtorEq]))
              exact AE.ret0 rfl ⟨rfl, trivial⟩ rfl ⟨rfl, rfl⟩
          | false =>
            have hcase : cm = false ∧ z.recs = bf := by
              rcases g5 with g5 | g5
              · exfalso
                rw [decide_eq_true g5.1, decide_eq_true g5.2] at hb1
                cases hb1
              · exact g5
            obtain ⟨hcm, hzb⟩ := hcase
            rw [decide_eq_true hzb] at hbe
            subst hcm
            repeat (first | refine xA ?_ | refine xB ?_ | refine xC ?_ | refine xE ?_ | refine xD ?_ | refine xK ?_ | refine xS ?_ | refine xM ?_ | refine xT ?_ | refine xF ?_ | ((first | refine xR ?_ | refine xW ?_ | refine vq_id ?_); simp only [go_sem, Nat.reduceAdd, Nat.reduceLeDiff, Nat.reduceSub, Int.reduceToNat, reduceCtorEq]) | (refine ⟨by first | omega | (intros; simp_all; done) | (intros; simp_all; omega), ?_⟩; try simp only [go_sem, Nat.reduceAdd, Nat.reduceLeDiff, Nat.reduceSub, Int.reduceToNat, reduceCtorEq]))
            refine AQ.fn (by kernel_rfl) rfl rfl rfl (hbg) rfl ?_
            repeat (first | refine xA ?_ | refine xB ?_ | refine xC ?_ | refine xE ?_ | refine xD ?_ | refine xK ?_ | refine xS ?_ | refine xM ?_ | refine xT ?_ | refine xF ?_ | ((first | refine xR ?_ | refine xW ?_ | refine vq_id ?_); simp only [go_sem, Nat.reduceAdd, Nat.reduceLeDiff, Nat.reduceSub, Int.reduceToNat, reduceCtorEq]) | (refine ⟨by first | omega | (intros; simp_all; done) | (intros; simp_all; omega), ?_⟩; try simp only [go_sem, Nat.reduceAdd, Nat.reduceLeDiff, Nat.reduceSub, Int.reduceToNat, reduceCtorEq]))
            refine AQ.strip ?_
            simp only [go_sem, Nat.reduceAdd, Nat.reduceLeDiff, Nat.reduceSub, Int.reduceToNat, reduceCtorEq]
            refine AQ.guard_yes (by simp only [go_sem]) ?_
            refine AQ.fn (by kernel_rfl) rfl rfl rfl (hbe) rfl ?_
            repeat (first | refine xA ?_ | refine xB ?_ | refine xC ?_ | refine xE ?_ | refine xD ?_ | refine xK ?_ | refine xS ?_ | refine xM ?_ | refine xT ?_ | refine xF ?_ | ((first | refine xR ?_ | refine xW ?_ | refine vq_id ?_); simp only [go_sem, Nat.reduceAdd, Nat.reduceLeDiff, Nat.reduceSub, Int.reduceToNat, reduceCtorEq]) | (refine ⟨by first | omega | (intros; simp_all; done) | (intros; simp_all; omega), ?_⟩; try simp only [go_sem, Nat.reduceAdd, Nat.reduceLeDiff, Nat.reduceSub, Int.reduceToNat, reduceCtorEq]))
            refine AQ.guard_yes (by simp only [go_sem]) ?_
            refine AQ.fn (by kernel_rfl) rfl rfl rfl (awake_spec) rfl ?_
            repeat (first | refine xA ?_ | refine xB ?_ | refine xC ?_ | refine xE ?_ | refine xD ?_ | refine xK ?_ | refine xS ?_ | refine xM ?_ | refine xT ?_ | refine xF ?_ | ((first | refine xR ?_ | refine xW ?_ | refine vq_id ?_); simp only [go_sem, Nat.reduceAdd, Nat.reduceLeDiff, Nat.reduceSub, Int.reduceToNat, reduceCtorEq]) | (refine ⟨by first | omega | (intros; simp_all; done) | (intros; simp_all; omega), ?_⟩; try simp only [go_sem, Nat.reduceAdd, Nat.reduceLeDiff, Nat.reduceSub, Int.reduceToNat, reduceCtorEq]))
            exact AE.ret0 rfl ⟨rfl, trivial⟩ rfl ⟨rfl, rfl⟩
    · have heq := eqStrs x.recs x.recs (by omega) (by omega)
      rw [decide_eq_true rfl] at heq
      refine AQ.callH [(2, 12), (1, 11), (0, 10)] (by kernel_rfl) rfl rfl rfl rfl rfl rfl (by exact ⟨rfl, rfl, rfl, trivial⟩) rfl (compact_full x s hxs he) ?_
      rintro r H1 ⟨rfl, rfl⟩
      refine ⟨rfl, ?_⟩
      simp only [go_sem, Nat.reduceAdd, Nat.reduceLeDiff, Nat.reduceSub, Int.reduceToNat, reduceCtorEq, Jn.H, Jn.cs, cH]
      repeat (first | refine xA ?_ | refine xB ?_ | refine xC ?_ | refine xE ?_ | refine xD ?_ | refine xK ?_ | refine xS ?_ | refine xM ?_ | refine xT ?_ | refine xF ?_ | ((first | refine xR ?_ | refine xW ?_ | refine vq_id ?_); simp only [go_sem, Nat.reduceAdd, Nat.reduceLeDiff, Nat.reduceSub, Int.reduceToNat, reduceCtorEq, Int.reduceBNe]) | (refine ⟨by first | omega | (intros; simp_all; done) | (intros; simp_all; omega), ?_⟩; try simp only [go_sem, Nat.reduceAdd, Nat.reduceLeDiff, Nat.reduceSub, Int.reduceToNat, reduceCtorEq, Int.reduceBNe]))
      refine AQ.callL ([.im (.pt x.ic)]) (by kernel_rfl) rfl rfl rfl (by ((try simp only [List.nil_append, List.append_nil, List.map_cons, List.map_nil, AV.st, constAV]); repeat (first | with_reducible exact LentC.nil | with_reducible exact LentAs.nil | with_reducible refine LentC.cons ?_ ?_ | with_reducible refine LentAs.cons ?_ ?_ | with_reducible exact Lent.im _ | with_reducible exact LentA.im _ | with_reducible refine LentA.of ?_ | with_reducible refine LentA.agg ?_ | ((with_reducible apply Lent.osw); rfl; simp only [blkR_len, wrR_len, byteR_len, List.length_append, List.length_cons, List.length_nil]) | ((with_reducible apply Lent.ob0); rfl)))) (hal) fun r1 H1 ⟨e1, e2⟩ => ?_; subst e1; subst e2; refine ⟨rfl, ⟨blkR_plain _, trivial⟩, ?_⟩
      simp only [go_sem, Nat.reduceAdd, Nat.reduceLeDiff, Nat.reduceSub, Int.reduceToNat, reduceCtorEq]
      refine AQ.go (by kernel_rfl) ?_
      simp only [go_sem, Nat.reduceAdd, Nat.reduceLeDiff, Nat.reduceSub, Int.reduceToNat, reduceCtorEq]
      refine AQ.fnL ([.im (.sl 1 (blkR x.recs)), .im (.sl 1 (blkR x.recs))]) (by kernel_rfl) rfl rfl rfl (by ((try simp only [List.nil_append, List.append_nil, List.map_cons, List.map_nil, AV.st, constAV]); repeat (first | with_reducible exact LentC.nil | with_reducible exact LentAs.nil | with_reducible refine LentC.cons ?_ ?_ | with_reducible refine LentAs.cons ?_ ?_ | with_reducible exact Lent.im _ | with_reducible exact LentA.im _ | with_reducible refine LentA.of ?_ | with_reducible refine LentA.agg ?_ | ((with_reducible apply Lent.osw); rfl; simp only [blkR_len, wrR_len, byteR_len, List.length_append, List.length_cons, List.length_nil]) | ((with_reducible apply Lent.ob0); rfl)))) (heq) rfl (fun _ => rfl) ?_
      simp only [go_sem, Nat.reduceAdd, Nat.reduceLeDiff, Nat.reduceSub, Int.reduceToNat, reduceCtorEq]
      repeat (first | refine xA ?_ | refine xB ?_ | refine xC ?_ | refine xE ?_ | refine xD ?_ | refine xK ?_ | refine xS ?_ | refine xM ?_ | refine xT ?_ | refine xF ?_ | ((first | refine xR ?_ | refine xW ?_ | refine vq_id ?_); simp only [go_sem, Nat.reduceAdd, Nat.reduceLeDiff, Nat.reduceSub, Int.reduceToNat, reduceCtorEq]) | (refine ⟨by first | omega | (intros; simp_all; done) | (intros; simp_all; omega), ?_⟩; try simp only [go_sem, Nat.reduceAdd, Nat.reduceLeDiff, Nat.reduceSub, Int.reduceToNat, reduceCtorEq]))
      refine AQ.guard_yes (by simp only [go_sem]) ?_
      refine AQ.fn (by kernel_rfl) rfl rfl rfl (awake_spec) rfl ?_
      repeat (first | refine xA ?_ | refine xB ?_ | refine xC ?_ | refine xE ?_ | refine xD ?_ | refine xK ?_ | refine xS ?_ | refine xM ?_ | refine xT ?_ | refine xF ?_ | ((first | refine xR ?_ | refine xW ?_ | refine vq_id ?_); simp only [go_sem, Nat.reduceAdd, Nat.reduceLeDiff, Nat.reduceSub, Int.reduceToNat, reduceCtorEq]) | (refine ⟨by first | omega | (intros; simp_all; done) | (intros; simp_all; omega), ?_⟩; try simp only [go_sem, Nat.reduceAdd, Nat.reduceLeDiff, Nat.reduceSub, Int.reduceToNat, reduceCtorEq]))
      exact AE.ret0 rfl ⟨rfl, trivial⟩ rfl ⟨rfl, rfl⟩
end Go.Proofs.Ytoafanbfminhcaa
end

section
namespace Go.Proofs.Ytoafanbfminhcaa
open Go Go.AL Go.RowKit
set_option maxRecDepth 100000
theorem compacts_walk (b : Nat) (A : List Bs) (s : Bs) (Z : List Bs) (F : List Int) (cm : Bool) (hA : A.length < 9223372036854775808) (hZ : Z.length < 9223372036854775808) :
    PFn Try.prog 5 [B8 b, .im (.sl 1 (blkR A)), Sv s, .im (.sl 1 (blkR Z)), Fv F, Bv cm] (Bv true) := by
  cases h : cgB b A s Z F with
  | true => exact compacts_few b A s Z F cm hA hZ h
  | false =>
    obtain ⟨⟨m, rfl, h1, h2⟩, _⟩ := cg_false h
    exact compacts_go m A s Z F cm h1 h2 h
end Go.Proofs.Ytoafanbfminhcaa
end
