import Derived.Test.YteacpafhmgdbkaaGreatDoorW2
set_option linter.unusedSimpArgs false
set_option linter.unusedVariables false
set_option linter.unnecessarySimpa false
section
namespace Go.Proofs.YteacpafhmgdbkaaGreatDoor
open Go Go.AL Go.RowKit
set_option maxRecDepth 10000
set_option maxHeartbeats 4000000
abbrev fgH (l : List Nm) : Heap := (6, .var 220 [.fn 147 [] [.ob 5 0, .ob 6 0]]) :: (5, .var 144 [.fn 94 [] [.ob 0 0]]) :: frH 4 l
theorem leavesF_spec (F : Fm) (l : List Nm) (hl : l.length + szF F ≤ 1000000) (hs : fmS F) : ACall Tryz.prog 83 [fmV F, .fn 94 [] [.ob 0 0]] (frH 1 l) (fun r H' => r = .tup [] ∧ H' = frH 4 (l ++ lvF F)) := by
  have hs0 := fmS_eq.1 hs
  have hz := szF_eq F
  have he := lvF_eq F
  refine ACall.walk [0, 1, 2, 3, 4, 6, 8, 11, 12, 13, 14, 22, 23, 24, 25] [3, 4, 6, 8] Tryz.func83 rfl Tryz.ntmps83 (by kernel_rfl) (by rfl) rfl fun W own I0 φ0 lay => ?_
  refine AP.rename 1 4 rfl rfl rfl ?_; refine sI ?_
  refine gE @tmR_len ?_
  refine AP.loop rfl (α := Nat × List Nm) (fun q => [(2, .im (fmP F)), (3, .ob 5 0), (4, .ob 6 0), (11, .im (.sl 3 (tmR F.ts))), (12, Iv F.ts.length), (13, Iv q.1)]) (fun q => fgH q.2) (fun q => q.1 ≤ F.ts.length ∧ q.2.length + szTs (F.ts.drop q.1) + szFs F.ps ≤ 1000000 ∧ l ++ lvTs F.ts = q.2 ++ lvTs (F.ts.drop q.1)) (fun q => F.ts.length - q.1) (0, l) ⟨by omega, by simp only [List.drop_zero]; omega, by simp⟩ (sU) rfl fun q ⟨hk, hn, hm⟩ => ?_
  obtain ⟨k, m⟩ := q
  simp only at hk hm hn ⊢
  rcases Nat.eq_or_lt_of_le hk with hke | hlt
  · rw [hke, List.drop_length, lvTs, List.append_nil] at hm
    rw [hke, List.drop_length, szTs] at hn
    have he2 : l ++ lvF F = m ++ lvFs F.ps := by rw [he, ← List.append_assoc, hm]
    rw [he2]
    clear he he2 hm
    refine gO ?_
    refine cF ?_
    refine gE @fmR_len ?_
    refine AP.loop rfl (α := Nat × List Nm) (fun q => [(2, .im (fmP F)), (3, .ob 5 0), (22, .im (.sl 4 (fmR F.ps))), (23, Iv F.ps.length), (24, Iv q.1)]) (fun q => fgH q.2) (fun q => q.1 ≤ F.ps.length ∧ q.2.length + szFs (F.ps.drop q.1) ≤ 1000000 ∧ m ++ lvFs F.ps = q.2 ++ lvFs (F.ps.drop q.1)) (fun q => F.ps.length - q.1) (0, m) ⟨by omega, by simp only [List.drop_zero]; omega, by simp⟩ (sU) rfl fun q ⟨hk, hn, hm⟩ => ?_
    obtain ⟨k, m2⟩ := q
    simp only at hk hm hn ⊢
    rcases Nat.eq_or_lt_of_le hk with hke | hlt
    · rw [hke, List.drop_length, lvFs, List.append_nil] at hm
      refine gO ?_
      refine cF ?_
      refine gO ?_
      exact AE.fallD [6, 5] rfl trivial rfl ⟨rfl, by rw [hm]; rfl⟩
    · obtain ⟨u, hu, hrow⟩ := fmR_get F.ps k hlt
      obtain ⟨h1, e1⟩ := List.getElem?_eq_some_iff.1 hu
      rw [List.drop_eq_getElem_cons h1, e1, lvFs] at hm
      rw [List.drop_eq_getElem_cons h1, e1, szFs] at hn
      have hlu := lvF_len u
      have hw := wr (x := (k : Int) + 1) (by omega)
      have ih := leavesF_spec u m2 (by omega) (fmsS_get hs0.2.2.2.2 hu)
      clear e1 h1
      refine gO ?_
      refine cT ?_
      refine gE (an @hrow @fmR_len) ?_
      refine AQ.callH [(0, 0), (1, 4)] (by kernel_rfl) rfl rfl rfl rfl rfl rfl (by exact ⟨rfl, rfl, trivial⟩) rfl ih ?_
      rintro r H' ⟨rfl, rfl⟩
      refine ⟨rfl, ?_⟩
      refine sH ?_
      refine AQ.rename 12 4 rfl rfl rfl ?_; refine sI ?_
      refine gE @hw ?_
      refine AE.forgets [7] rfl ?_
      refine sI ?_
      refine AE.order [6, 5, 0, 4] rfl ?_
      exact AE.round (k + 1, m2 ++ lvF u) ⟨by simp only; omega, by simp only [List.length_append]; omega, by simp only; rw [hm, List.append_assoc]⟩ (by simp only; omega) (sU) rfl
  · obtain ⟨u, hu, hrow⟩ := tmR_get F.ts k hlt
    obtain ⟨h1, e1⟩ := List.getElem?_eq_some_iff.1 hu
    rw [List.drop_eq_getElem_cons h1, e1, lvTs] at hm
    rw [List.drop_eq_getElem_cons h1, e1, szTs] at hn
    have hlu := lvT_len u
    have hw := wr (x := (k : Int) + 1) (by omega)
    have ih := leavesF1_spec u m (by omega) (tmsS_get hs0.2.2.1 hu)
    clear e1 h1
    refine gO ?_
    refine cT ?_
    refine gE (an @hrow @tmR_len) ?_
    refine AQ.callH [(3, 6), (2, 5), (0, 0), (1, 4)] (by kernel_rfl) rfl rfl rfl rfl rfl rfl (by exact ⟨rfl, rfl, rfl, rfl, trivial⟩) rfl ih ?_
    rintro r H' ⟨rfl, rfl⟩
    refine ⟨rfl, ?_⟩
    refine sH ?_
    simp only [show (Nat.beq 5 4 || Nat.beq 6 4) = false from rfl]
    refine AQ.rename 12 4 rfl rfl rfl ?_; refine sI ?_
    refine gE @hw ?_
    refine AE.forgets [7] rfl ?_
    refine sI ?_
    refine AE.order [6, 5, 0, 4] rfl ?_
    exact AE.round (k + 1, m ++ lvT u) ⟨by simp only; omega, by simp only [List.length_append]; omega, by simp only; rw [hm, List.append_assoc]⟩ (by simp only; omega) (sU) rfl
termination_by SizeOf.sizeOf F
decreasing_by exact fm_mem hu
theorem Free_spec (F : Fm) (hs : fmS F) (hz : szF F ≤ 100000) : PFn Tryz.prog 38 [fmV F] (.im (.sl 1 (stR (freeL F)))) := by
  have hlv := leavesF_spec F [] (by simp; omega) hs
  rw [List.nil_append] at hlv
  have hlen := lvF_len F
  have hso := sort_spec (lvF F) (by omega)
  have hco := compact_spec (srtS (lvF F)) (by rw [srtS_len]; omega)
  rw [srtS_len] at hco
  have hcl := cmpS_len (lvF F)
  rw [free_cmp]
  generalize hcm : cmpS (lvF F) = cm at *
  have hcm2 : Lib.compact (srtS (lvF F)) = cm := hcm
  rw [hcm2] at hco
  generalize lvF F = lv at *
  refine ACall.walk [0, 1, 2, 3] [3] Tryz.func38 rfl Tryz.ntmps38 (by kernel_rfl) (by rfl) rfl fun W own I0 φ0 lay => ?_
  refine gO ?_
  refine AQ.ownCell 0 0 9 1 rfl rfl ?_
  refine sI ?_
  refine gO ?_
  refine AQ.callH [(0, 0), (1, 1)] (by kernel_rfl) rfl rfl rfl rfl rfl rfl (by exact ⟨rfl, rfl, trivial⟩) rfl hlv ?_
  rintro r H' ⟨rfl, rfl⟩
  refine ⟨rfl, ?_⟩
  refine sH ?_
  refine gO ?_
  refine AQ.callH [(0, 6)] (by kernel_rfl) rfl rfl rfl rfl rfl rfl (by exact ⟨rfl, trivial⟩) rfl hso ?_
  rintro r H' ⟨rfl, rfl⟩
  refine ⟨rfl, ?_⟩
  refine sH ?_
  refine gO ?_
  refine AQ.callH [(0, 6)] (by kernel_rfl) rfl rfl rfl rfl rfl rfl (by exact ⟨rfl, trivial⟩) rfl hco ?_
  rintro r H' ⟨rfl, rfl⟩
  refine ⟨rfl, ?_⟩
  refine sH ?_
  refine AQ.trunc 6 cm.length rfl ?_
  refine sI ?_
  rw [show (strR (cm ++ List.replicate (lv.length - cm.length) [])).take cm.length = stR cm by rw [strR, List.map_append, List.take_left' (by simp)]; rfl]
  refine gO ?_
  refine sI ?_
  refine AE.forgets [0] rfl ?_
  refine sI ?_
  refine AE.freeze 6 (el := 9) (es := 1) (rows := stR cm) rfl (by simp only [go_sem, Nat.reduceAdd, Nat.reduceLeDiff, Nat.reduceSub, Int.reduceToNat, reduceCtorEq, stR_len]; first | done | trivial | omega | (simp; done) | (simp; omega)) (by simp only [go_sem, Nat.reduceAdd, Nat.reduceLeDiff, Nat.reduceSub, Int.reduceToNat, reduceCtorEq, stR_len]; first | done | trivial | omega | (simp; done) | (simp; omega)) ?_; simp only [go_sem, Nat.reduceAdd, Nat.reduceLeDiff, Nat.reduceSub, Int.reduceToNat, reduceCtorEq, stR_len]
  rw [stT cm cm.length (Nat.le_refl _)]
  exact AE.ret0 rfl ⟨rfl, trivial⟩ rfl ⟨rfl, rfl⟩
end Go.Proofs.YteacpafhmgdbkaaGreatDoor
end

section
namespace Go.Proofs.YteacpafhmgdbkaaGreatDoor
open Go Go.AL Go.RowKit
set_option maxRecDepth 10000
set_option maxHeartbeats 4000000
end Go.Proofs.YteacpafhmgdbkaaGreatDoor
end

section
namespace Go.Proofs.YteacpafhmgdbkaaGreatDoor
open Go Go.AL Go.RowKit
set_option maxRecDepth 10000
set_option maxHeartbeats 4000000
end Go.Proofs.YteacpafhmgdbkaaGreatDoor
end

section
namespace Go.Proofs.YteacpafhmgdbkaaGreatDoor
open Go Go.AL Go.RowKit
set_option maxRecDepth 10000
set_option maxHeartbeats 4000000
def fin (p : List Int) (f : Fm) : Rs := chk (unF f 0 == 0) p 15 (.ok f)
end Go.Proofs.YteacpafhmgdbkaaGreatDoor
end

section
namespace Go.Proofs.YteacpafhmgdbkaaGreatDoor
open Go Go.AL Go.RowKit
set_option maxRecDepth 10000
set_option maxHeartbeats 4000000
end Go.Proofs.YteacpafhmgdbkaaGreatDoor
end

section
namespace Go.Proofs.YteacpafhmgdbkaaGreatDoor
open Go Go.AL Go.RowKit
set_option maxRecDepth 10000
set_option maxHeartbeats 4000000
end Go.Proofs.YteacpafhmgdbkaaGreatDoor
end

section
namespace Go.Proofs.YteacpafhmgdbkaaGreatDoor
open Go Go.AL Go.RowKit
set_option maxRecDepth 10000
set_option maxHeartbeats 4000000
end Go.Proofs.YteacpafhmgdbkaaGreatDoor
end

section
namespace Go.Proofs.YteacpafhmgdbkaaGreatDoor
open Go Go.AL Go.RowKit
set_option maxRecDepth 10000
set_option maxHeartbeats 4000000
end Go.Proofs.YteacpafhmgdbkaaGreatDoor
end

section
namespace Go.Proofs.YteacpafhmgdbkaaGreatDoor
open Go Go.AL Go.RowKit
set_option maxRecDepth 10000
set_option maxHeartbeats 4000000
theorem ocFs_append (nm : Nm) : ∀ a b : List Fm, ocFs nm (a ++ b) = (ocFs nm a || ocFs nm b)
  | [], b => by rw [List.nil_append, ocFs, Bool.false_or]
  | x :: a, b => by rw [List.cons_append, ocFs, ocFs, ocFs_append nm a b, Bool.or_assoc]
end Go.Proofs.YteacpafhmgdbkaaGreatDoor
end

section
namespace Go.Proofs.YteacpafhmgdbkaaGreatDoor
open Go Go.AL Go.RowKit
set_option maxRecDepth 10000
set_option maxHeartbeats 4000000
end Go.Proofs.YteacpafhmgdbkaaGreatDoor
end

section
namespace Go.Proofs.YteacpafhmgdbkaaGreatDoor
open Go Go.AL Go.RowKit
set_option maxRecDepth 10000
set_option maxHeartbeats 4000000
def smallB (l : List Fm) : Bool := (bFs l 0 400).1
theorem small1_walk (u : Fm) (m : Int) (hu : fmS u) (hm : -1000000 ≤ m ∧ m ≤ 1000000) : ACall Tryz.prog 63 [fmV u, .ob 1 0] (BH m) (fun r H' => r = Bv (!(bF u 0 m).1) ∧ H' = BH (bF u 0 m).2) := by
  have ih := bform_spec u 0 m hu (by omega) hm
  refine ACall.walk [0, 1, 2, 3] [] Tryz.func63 rfl Tryz.ntmps63 (by kernel_rfl) (by rfl) rfl fun W own I0 φ0 lay => ?_
  refine gO ?_
  refine AQ.callH [(0, 0)] (by kernel_rfl) rfl rfl rfl rfl rfl rfl (by exact ⟨rfl, trivial⟩) rfl ih ?_
  rintro r H' ⟨rfl, rfl⟩
  refine ⟨rfl, ?_⟩
  refine sG @BH.eq_1 ?_
  refine gO ?_
  exact AE.ret rfl ⟨rfl, trivial⟩ ⟨rfl, rfl⟩
theorem small_spec (l : List Fm) (hl : l.length ≤ 9223372036854775807) (hs : fmsS l) : PFn Tryz.prog 22 [.im (.sl 4 (fmR l))] (Bv (smallB l)) := by
  have hc := containsF_walk 63 [] (fun t m => (!(bF t 0 m).1, (bF t 0 m).2)) l 400 hl (fun m => 0 ≤ m ∧ m ≤ 1000000) (by omega) (fun k t m ht hm h => bF_bnd t 0 m hm.1 hm.2 (by simpa using h)) (fun k t m ht hm => small1_walk t m (fmsS_get hs ht) (by omega))
  have hr := bFs_run 0 l 400
  have hb : smallB l = !(runS (fun t m => (!(bF t 0 m).1, (bF t 0 m).2)) l 400).1 := by rw [smallB, hr]
  rw [hb]
  generalize runS (fun t m => (!(bF t 0 m).1, (bF t 0 m).2)) l 400 = q at *
  refine ACall.walk [0, 2, 3] [3, 5] Tryz.func22 rfl Tryz.ntmps22 (by kernel_rfl) (by rfl) rfl fun W own I0 φ0 lay => ?_
  refine gO ?_
  refine AQ.callH [(1, 1), (0, 0)] (by kernel_rfl) rfl rfl rfl rfl rfl rfl (by exact ⟨rfl, rfl, trivial⟩) rfl hc ?_
  rintro r H' ⟨rfl, rfl⟩
  refine ⟨rfl, ?_⟩
  refine sG @BH.eq_1 ?_
  refine gO ?_
  exact AE.retD [1, 0] rfl ⟨rfl, trivial⟩ rfl ⟨rfl, rfl⟩
theorem small_sz {l : List Fm} (h : smallB l = true) : szFs l ≤ 400 := by
  have := bFs_sz l 0 400 (by omega) h
  omega
end Go.Proofs.YteacpafhmgdbkaaGreatDoor
end

section
namespace Go.Proofs.YteacpafhmgdbkaaGreatDoor
open Go Go.AL Go.RowKit
set_option maxRecDepth 10000
set_option maxHeartbeats 4000000
end Go.Proofs.YteacpafhmgdbkaaGreatDoor
end

section
namespace Go.Proofs.YteacpafhmgdbkaaGreatDoor
open Go Go.AL Go.RowKit
set_option maxRecDepth 10000
set_option maxHeartbeats 4000000
def nzE : Rs → Prop
  | .ok _ => True
  | .bad _ e => e ≠ 0
theorem nzE.chk {b : Bool} {p : List Int} {e : Int} {r : Rs} (he : b = false → e ≠ 0) (hr : nzE r) : nzE (chk b p e r) := by
  cases b
  · exact he rfl
  · exact hr
theorem nzE.bind {r : Rs} {k : Fm → Rs} (hr : nzE r) (hk : ∀ g, nzE (k g)) : nzE (r.bind k) := by
  cases r
  · exact hk _
  · exact hr
theorem ruleK_nz {th ax : List Fm} {r ix : Int} {nm : List UInt8} {t : Tm} {f : Fm} {K : List KF} {p : List Int} (hK : ∀ i fu, nzE (kidK K ax p i fu)) : nzE (ruleK th ax r ix nm t f K p) := by
  unfold ruleK
  by_cases h1 : r = 1
  · rw [if_pos h1]; exact nzE.chk (fun _ => by decide) (trivial)
  rw [if_neg h1]
  by_cases h2 : r = 2
  · rw [if_pos h2]; exact nzE.chk (fun _ => by decide) (trivial)
  rw [if_neg h2]
  by_cases h3 : r = 3
  · rw [if_pos h3]; exact (hK _ _).bind fun _ => trivial
  rw [if_neg h3]
  by_cases h4 : r = 4
  · rw [if_pos h4]; exact (hK _ _).bind fun _ => (hK _ _).bind fun _ => nzE.chk (fun _ => by decide) (trivial)
  rw [if_neg h4]
  by_cases h5 : r = 5
  · rw [if_pos h5]; exact (hK _ _).bind fun _ => (hK _ _).bind fun _ => trivial
  rw [if_neg h5]
  by_cases h6 : r = 6
  · rw [if_pos h6]; exact (hK _ _).bind fun _ => nzE.chk (fun _ => by decide) (trivial)
  rw [if_neg h6]
  by_cases h7 : r = 7
  · rw [if_pos h7]; exact (hK _ _).bind fun _ => nzE.chk (fun _ => by decide) (trivial)
  rw [if_neg h7]
  by_cases h8 : r = 8
  · rw [if_pos h8]; exact (hK _ _).bind fun _ => trivial
  rw [if_neg h8]
  by_cases h9 : r = 9
  · rw [if_pos h9]; exact (hK _ _).bind fun _ => trivial
  rw [if_neg h9]
  by_cases h10 : r = 10
  · rw [if_pos h10]; exact (hK _ _).bind fun _ => nzE.chk (fun _ => by decide) ((hK _ _).bind fun _ => (hK _ _).bind fun _ => nzE.chk (fun _ => by decide) (trivial))
  rw [if_neg h10]
  by_cases h11 : r = 11
  · rw [if_pos h11]; exact (hK _ _).bind fun _ => nzE.chk (fun _ => by decide) (trivial)
  rw [if_neg h11]
  by_cases h12 : r = 12
  · rw [if_pos h12]; exact (hK _ _).bind fun _ => nzE.chk (fun _ => by decide) (trivial)
  rw [if_neg h12]
  by_cases h13 : r = 13
  · rw [if_pos h13]; exact (hK _ _).bind fun _ => nzE.chk (fun _ => by decide) (trivial)
  rw [if_neg h13]
  by_cases h14 : r = 14
  · rw [if_pos h14]; exact (hK _ _).bind fun _ => nzE.chk (fun _ => by decide) (trivial)
  rw [if_neg h14]
  by_cases h15 : r = 15
  · rw [if_pos h15]; exact (hK _ _).bind fun _ => nzE.chk (fun _ => by decide) (trivial)
  rw [if_neg h15]
  by_cases h16 : r = 16
  · rw [if_pos h16]; exact (hK _ _).bind fun _ => nzE.chk (fun _ => by decide) (nzE.chk (fun _ => by decide) ((hK _ _).bind fun _ => nzE.chk (fun _ => by decide) (trivial)))
  rw [if_neg h16]
  by_cases h17 : r = 17
  · rw [if_pos h17]; exact trivial
  rw [if_neg h17]
  exact (hK _ _).bind fun _ => (hK _ _).bind fun _ => nzE.chk (fun _ => by decide) (trivial)
theorem ccF_nz (th ax : List Fm) (d : Dv) (p : List Int) : nzE (ccF th d ax p) := by
  rw [ccF_eq, stepK]
  refine nzE.chk (fun _ => by decide) (nzE.chk (fun h => by simpa using h) (nzE.bind (ruleK_nz fun i fu => ?_) fun g => nzE.chk (fun _ => by decide) trivial))
  by_cases hi : i < d.ks.length
  · have hk := List.getElem?_eq_getElem hi
    rw [kidK_get hk]
    exact ccF_nz th (ax ++ fu) d.ks[i] (p ++ [(i : Int)])
  · rw [kidK, List.getD_eq_getElem?_getD, List.getElem?_eq_none (by rw [ccFs_len]; omega)]
    show (1 : Int) ≠ 0
    decide
termination_by SizeOf.sizeOf d
decreasing_by exact dv_mem hk
end Go.Proofs.YteacpafhmgdbkaaGreatDoor
end

section
namespace Go.Proofs.YteacpafhmgdbkaaGreatDoor
open Go Go.AL Go.RowKit
set_option maxRecDepth 10000
set_option maxHeartbeats 4000000
theorem ruleK_weak {m : Fm} (hm : ∀ nm, ocF nm m = false) {th ax : List Fm} {r ix : Int} {nm : List UInt8} {t : Tm} {f : Fm} {K K' : List KF} {p : List Int} {g : Fm}
    (hK : ∀ i fu g, kidK K ax p i fu = .ok g → kidK K' (m :: ax) p i fu = .ok g) (h : ruleK th ax r ix nm t f K p = .ok g) : ruleK (th ++ [m]) (m :: ax) r ix nm t f K' p = .ok g := by
  have hoc : ocFs nm ((th ++ [m]) ++ (m :: ax)) = ocFs nm (th ++ ax) := by
    rw [ocFs_append, ocFs_append, ocFs_append, ocFs, ocFs, ocFs, hm]; simp
  have hoc2 : ∀ z, ocFs nm ((th ++ [m]) ++ (m :: ax) ++ [z]) = ocFs nm (th ++ ax ++ [z]) := fun z => by rw [ocFs_append, hoc, ← ocFs_append]
  have one : ∀ {i fu} {k : Fm → Rs}, (kidK K ax p i fu).bind k = .ok g → ∃ a, k a = .ok g ∧ kidK K' (m :: ax) p i fu = .ok a := fun {i fu k} h => by
    obtain ⟨a, h1, h2⟩ := bind_ok h
    exact ⟨a, h2, hK _ _ _ h1⟩
  unfold ruleK at h ⊢
  by_cases h1 : r = 1
  · rw [if_pos h1] at h ⊢
    obtain ⟨hb, h⟩ := chk_ok h
    simp only [Bool.and_eq_true, decide_eq_true_eq] at hb
    rw [chk_t (by simp only [Bool.and_eq_true, decide_eq_true_eq, List.length_cons]; omega)]
    rw [← h]
    obtain ⟨j, hj⟩ : ∃ j, ((ax.length : Int) - 1 - ix).toNat = j := ⟨_, rfl⟩
    rw [show (((m :: ax).length : Int) - 1 - ix).toNat = j + 1 by rw [List.length_cons]; omega, hj]
    rfl
  rw [if_neg h1] at h ⊢
  by_cases h2 : r = 2
  · rw [if_pos h2] at h ⊢
    obtain ⟨hb, h⟩ := chk_ok h
    simp only [Bool.and_eq_true, decide_eq_true_eq] at hb
    rw [chk_t (by simp only [Bool.and_eq_true, decide_eq_true_eq, List.length_append, List.length_singleton]; omega)]
    rw [← h, List.getD_eq_getElem?_getD, List.getD_eq_getElem?_getD, List.getElem?_append_left (by omega)]
  rw [if_neg h2] at h ⊢
  by_cases h3 : r = 3
  · rw [if_pos h3] at h ⊢
    obtain ⟨a, h, e⟩ := one h
    rw [e]; exact h
  rw [if_neg h3] at h ⊢
  by_cases h4 : r = 4
  · rw [if_pos h4] at h ⊢
    obtain ⟨a, h, e⟩ := one h
    obtain ⟨b, h, e2⟩ := one h
    rw [e, e2]; exact h
  rw [if_neg h4] at h ⊢
  by_cases h5 : r = 5
  · rw [if_pos h5] at h ⊢
    obtain ⟨a, h, e⟩ := one h
    obtain ⟨b, h, e2⟩ := one h
    rw [e, e2]; exact h
  rw [if_neg h5] at h ⊢
  by_cases h6 : r = 6
  · rw [if_pos h6] at h ⊢
    obtain ⟨a, h, e⟩ := one h
    rw [e]; exact h
  rw [if_neg h6] at h ⊢
  by_cases h7 : r = 7
  · rw [if_pos h7] at h ⊢
    obtain ⟨a, h, e⟩ := one h
    rw [e]; exact h
  rw [if_neg h7] at h ⊢
  by_cases h8 : r = 8
  · rw [if_pos h8] at h ⊢
    obtain ⟨a, h, e⟩ := one h
    rw [e]; exact h
  rw [if_neg h8] at h ⊢
  by_cases h9 : r = 9
  · rw [if_pos h9] at h ⊢
    obtain ⟨a, h, e⟩ := one h
    rw [e]; exact h
  rw [if_neg h9] at h ⊢
  by_cases h10 : r = 10
  · rw [if_pos h10] at h ⊢
    obtain ⟨a, h, e⟩ := one h
    obtain ⟨hb, h⟩ := chk_ok h
    obtain ⟨b, h, e2⟩ := one h
    obtain ⟨c, h, e3⟩ := one h
    rw [e, Rs.bind, chk_t hb, e2, e3]; exact h
  rw [if_neg h10] at h ⊢
  by_cases h11 : r = 11
  · rw [if_pos h11] at h ⊢
    obtain ⟨a, h, e⟩ := one h
    rw [e]; exact h
  rw [if_neg h11] at h ⊢
  by_cases h12 : r = 12
  · rw [if_pos h12] at h ⊢
    obtain ⟨a, h, e⟩ := one h
    rw [e]; exact h
  rw [if_neg h12] at h ⊢
  by_cases h13 : r = 13
  · rw [if_pos h13] at h ⊢
    obtain ⟨a, h, e⟩ := one h
    rw [e, Rs.bind, hoc]; exact h
  rw [if_neg h13] at h ⊢
  by_cases h14 : r = 14
  · rw [if_pos h14] at h ⊢
    obtain ⟨a, h, e⟩ := one h
    rw [e]; exact h
  rw [if_neg h14] at h ⊢
  by_cases h15 : r = 15
  · rw [if_pos h15] at h ⊢
    obtain ⟨a, h, e⟩ := one h
    rw [e]; exact h
  rw [if_neg h15] at h ⊢
  by_cases h16 : r = 16
  · rw [if_pos h16] at h ⊢
    obtain ⟨a, h, e⟩ := one h
    obtain ⟨hb, h⟩ := chk_ok h
    obtain ⟨hb2, h⟩ := chk_ok h
    obtain ⟨b, h, e2⟩ := one h
    rw [e, Rs.bind, chk_t hb, hoc2, chk_t hb2, e2]; exact h
  rw [if_neg h16] at h ⊢
  by_cases h17 : r = 17
  · rw [if_pos h17] at h ⊢; exact h
  rw [if_neg h17] at h ⊢
  obtain ⟨a, h, e⟩ := one h
  obtain ⟨b, h, e2⟩ := one h
  rw [e, e2]; exact h
theorem ccF_weak {m : Fm} (hm : ∀ nm, ocF nm m = false) (th ax : List Fm) (d : Dv) (p : List Int) {g : Fm} (h : ccF th d ax p = .ok g) : ccF (th ++ [m]) d (m :: ax) p = .ok g := by
  rw [ccF_eq, stepK] at h ⊢
  obtain ⟨hb1, h⟩ := chk_ok h
  obtain ⟨hb2, h⟩ := chk_ok h
  obtain ⟨a, h1, h⟩ := bind_ok h
  rw [ccFs_len] at hb1 ⊢
  rw [chk_t hb1, chk_t hb2, ruleK_weak hm (fun i fu g hg => ?_) h1]
  · exact h
  · by_cases hi : i < d.ks.length
    · have hk := List.getElem?_eq_getElem hi
      rw [kidK_get hk] at hg ⊢
      exact ccF_weak hm th (ax ++ fu) d.ks[i] (p ++ [(i : Int)]) hg
    · rw [kidK, List.getD_eq_getElem?_getD, List.getElem?_eq_none (by rw [ccFs_len]; omega)] at hg
      cases hg
termination_by SizeOf.sizeOf d
decreasing_by exact dv_mem hk
theorem ckC_weak {m : Fm} (hm : ∀ nm, ocF nm m = false) (hw : unF m 0 = 0) {th ax : List Fm} {d : Dv} {g : Fm} (h : ckC th ax d = .ok g) : ckC (th ++ [m]) (m :: ax) d = .ok g := by
  unfold ckC at h ⊢
  have hsplit : ∀ a b : List Fm, wellFs (a ++ b) = if wellFs a = 0 then wellFs b else wellFs a := fun a b => by
    induction a with
    | nil => rw [List.nil_append, wellFs, if_pos rfl]
    | cons f a ih =>
      rw [List.cons_append, wellFs, wellFs, ih]
      by_cases h : unF f 0 = 0
      · rw [if_pos h, if_pos h]
      · rw [if_neg h, if_neg h, if_neg h]
  split at h
  · rename_i hwf
    rw [hsplit] at hwf
    have h1 : wellFs th = 0 ∧ wellFs ax = 0 := by
      by_cases h0 : wellFs th = 0
      · rw [if_pos h0] at hwf; exact ⟨h0, hwf⟩
      · rw [if_neg h0] at hwf; exact absurd hwf h0
    have h2 : wellFs ((th ++ [m]) ++ (m :: ax)) = 0 := by
      rw [hsplit, hsplit, if_pos h1.1, wellFs, if_pos hw, wellFs, if_pos rfl, wellFs, if_pos hw, h1.2]
    rw [if_pos h2]
    split at h
    · cases h
    · rename_i hbg
      rw [if_neg hbg]
      exact ccF_weak hm th ax d [] h
  · cases h
end Go.Proofs.YteacpafhmgdbkaaGreatDoor
end

section
namespace Go.Proofs.YteacpafhmgdbkaaGreatDoor
open Go Go.AL Go.RowKit
set_option maxRecDepth 10000
set_option maxHeartbeats 4000000
theorem cloneF_spec (l : List Fm) (hl : l.length ≤ 1000000) : ACall Tryz.prog 39 [.im (.sl 4 (fmR l))] [] (fun r H => r = .os 0 4 0 l.length ∧ H = [(0, .vec 27 4 (fmR l))]) := by
  rcases l with _ | ⟨q, l⟩
  · refine ACall.walk [0, 2, 4] [] Tryz.func39 rfl Tryz.ntmps39 (by kernel_rfl) (by rfl) rfl fun W own I0 φ0 lay => ?_
    refine xPP rfl ?_
    refine AP.region rfl (by kernel_rfl) ?_; refine sI ?_
    refine AQ.done ?_
    refine xEP rfl ?_
    refine AP.regionN 1 rfl (by kernel_rfl) ?_; refine sI ?_
    refine AQ.isnil (by kernel_rfl) rfl Tryz.tk22 fun b => ?_
    refine sI ?_
    refine gO ?_
    refine AP.cond rfl rfl (fun hb => ?_) (fun hb => ?_)
    · refine gO ?_
      refine AE.own 2 27 4 rfl ?_
      refine sI ?_
      exact AE.ret rfl ⟨rfl, trivial⟩ ⟨by simp [tupOf, AV.st], rfl⟩
    · refine gO ?_
      refine AQ.append (hnb := rfl) (rows := []) (es := 3) (by kernel_rfl) rfl rfl rfl (by rfl) Tryz.tk22 Tryz.sz27 (by show Option.map _ (zro Tryz.prog 27) = _; rw [Tryz.zr27]; rfl) Tryz.by27 rfl (by simp only [fmR_len, List.length_nil]; omega) (by simp only [fmR_len, List.length_nil]; omega) ?_
      refine gE (an @List.nil_append.{0} (an @List.length_nil.{0} @fmR_len)) ?_
      exact AE.ret rfl ⟨rfl, trivial⟩ ⟨by simp [tupOf, AV.st], rfl⟩
  · have hne : fmR (q :: l) ≠ [] := by simp [fmR]
    have hlen : (q :: l).length = (fmR (q :: l)).length := (fmR_len _).symm
    generalize hr : fmR (q :: l) = rows at *
    rw [hlen] at hl ⊢
    refine ACall.walk [0, 2, 4] [] Tryz.func39 rfl Tryz.ntmps39 (by kernel_rfl) (by rfl) rfl fun W own I0 φ0 lay => ?_
    repeat (first | refine xA ?_ | refine xB ?_ | refine xC ?_ | refine xE ?_ | refine xD ?_ | refine xK ?_ | refine xS ?_ | refine xM ?_ | refine xT ?_ | refine xF ?_ | ((first | refine xR ?_ | refine xW ?_ | refine vq_id ?_); simp only [go_sem, Nat.reduceAdd, Nat.reduceLeDiff, Nat.reduceSub, Int.reduceToNat, reduceCtorEq]))
    refine ⟨hne, ?_⟩
    refine gO ?_
    refine AQ.append (hnb := rfl) (rows := []) (es := 3) (by kernel_rfl) rfl rfl rfl (by rfl) Tryz.tk22 Tryz.sz27 (by show Option.map _ (zro Tryz.prog 27) = _; rw [Tryz.zr27]; rfl) Tryz.by27 rfl (by simp only [List.length_nil]; omega) (by simp only [List.length_nil]; omega) ?_
    refine gE (an @List.nil_append.{0} @List.length_nil.{0}) ?_
    exact AE.ret rfl ⟨rfl, trivial⟩ ⟨by simp [tupOf, AV.st], rfl⟩
end Go.Proofs.YteacpafhmgdbkaaGreatDoor
end

section
namespace Go.Proofs.YteacpafhmgdbkaaGreatDoor
open Go Go.AL Go.RowKit
set_option maxRecDepth 10000
set_option maxHeartbeats 100000000
theorem weakens_walk (th ax : List Fm) (d : Dv) (m : Fm) (h1 : th.length ≤ 10000000) (h2 : ax.length ≤ 10000000) (hth : fmsS th) (hax : fmsS ax) (hd : dvS d) (hm : fmS m) :
    PFn Tryz.prog 7 [.im (.sl 4 (fmR th)), .im (.sl 4 (fmR ax)), dvV d, fmV m] (Bv true) := by
  have hfew := few_spec th ax d (by omega) (fmsS_append hth hax) hd
  have hsm := small_spec [m] (by simp) (by rw [fmsS, fmsS]; exact ⟨hm, trivial⟩)
  rw [fmR_one] at hsm
  have hwl := well_at m hm
  obtain ⟨b, hb⟩ : ∃ b, fewB (th ++ ax) d = b := ⟨_, rfl⟩
  obtain ⟨c, hc⟩ : ∃ c, smallB [m] = c := ⟨_, rfl⟩
  rw [hb] at hfew
  rw [hc] at hsm
  cases b with
  | false =>
    refine ACall.walk [0, 1, 2, 3, 6, 7, 8, 9, 11, 12, 14, 36, 47] [9, 12, 56] Tryz.func7 rfl Tryz.ntmps7 (by kernel_rfl) (by rfl) rfl fun W own I0 φ0 lay => ?_
    refine gO ?_
    refine AQ.fn (by kernel_rfl) rfl rfl rfl (hfew) rfl ?_
    refine gO ?_
    refine AQ.fn (by kernel_rfl) rfl rfl rfl (awake_spec) rfl ?_
    refine gO ?_
    exact AE.ret0 rfl ⟨rfl, trivial⟩ rfl ⟨rfl, rfl⟩
  | true =>
  cases c with
  | false =>
    refine ACall.walk [0, 1, 2, 3, 6, 7, 8, 9, 11, 12, 14, 36, 47] [9, 12, 56] Tryz.func7 rfl Tryz.ntmps7 (by kernel_rfl) (by rfl) rfl fun W own I0 φ0 lay => ?_
    refine gO ?_
    refine AQ.fn (by kernel_rfl) rfl rfl rfl (hfew) rfl ?_
    refine gO ?_
    refine AQ.guard_yes (by simp only [go_sem]) ?_
    dsimp only
    refine AQ.optT ?_
    refine AQ.go (by kernel_rfl) ?_
    refine sI ?_
    refine AQ.guard_yes (by simp only [go_sem]) ?_
    refine AQ.fn (by kernel_rfl) rfl rfl rfl (hsm) rfl ?_
    refine gO ?_
    refine AQ.fn (by kernel_rfl) rfl rfl rfl (awake_spec) rfl ?_
    refine gO ?_
    exact AE.ret0 rfl ⟨rfl, trivial⟩ rfl ⟨rfl, rfl⟩
  | true =>
  have zm := small_sz hc
  rw [szFs, szFs] at zm
  have hfr := Free_spec m hm (by omega)
  obtain ⟨F, hF⟩ : ∃ F, freeL m = F := ⟨_, rfl⟩
  rw [hF] at hfr
  by_cases hu : unF m 0 = 0
  rotate_left
  · have hub : (unF m 0 != 0) = true := by simpa using hu
    generalize unF m 0 = u at *
    refine ACall.walk [0, 1, 2, 3, 6, 7, 8, 9, 11, 12, 14, 36, 47] [9, 12, 56] Tryz.func7 rfl Tryz.ntmps7 (by kernel_rfl) (by rfl) rfl fun W own I0 φ0 lay => ?_
    refine gO ?_
    refine AQ.fn (by kernel_rfl) rfl rfl rfl (hfew) rfl ?_
    refine gO ?_
    refine AQ.guard_yes (by simp only [go_sem]) ?_
    dsimp only
    refine AQ.optT ?_
    refine AQ.go (by kernel_rfl) ?_
    refine sI ?_
    refine AQ.guard_yes (by simp only [go_sem]) ?_
    refine AQ.fn (by kernel_rfl) rfl rfl rfl (hsm) rfl ?_
    refine gO ?_
    refine AQ.guard_yes (by simp only [go_sem]) ?_
    refine AQ.fn (by kernel_rfl) rfl rfl rfl (hwl) rfl ?_
    simp only [go_sem, Nat.reduceAdd, Nat.reduceLeDiff, Nat.reduceSub, Int.reduceToNat, reduceCtorEq, hub]
    refine gO ?_
    refine AQ.fn (by kernel_rfl) rfl rfl rfl (awake_spec) rfl ?_
    refine gO ?_
    exact AE.ret0 rfl ⟨rfl, trivial⟩ rfl ⟨rfl, rfl⟩
  have hu0 := hu
  rw [hu0] at hwl
  cases F with
  | cons q F =>
    have hg : decide (0 < ((stR (q :: F)).length : Int)) = true := by rw [stR_len]; simp
    generalize stR (q :: F) = R at *
    refine ACall.walk [0, 1, 2, 3, 6, 7, 8, 9, 11, 12, 14, 36, 47] [9, 12, 56] Tryz.func7 rfl Tryz.ntmps7 (by kernel_rfl) (by rfl) rfl fun W own I0 φ0 lay => ?_
    refine gO ?_
    refine AQ.fn (by kernel_rfl) rfl rfl rfl (hfew) rfl ?_
    refine gO ?_
    refine AQ.guard_yes (by simp only [go_sem]) ?_
    dsimp only
    refine AQ.optT ?_
    refine AQ.go (by kernel_rfl) ?_
    refine sI ?_
    refine AQ.guard_yes (by simp only [go_sem]) ?_
    refine AQ.fn (by kernel_rfl) rfl rfl rfl (hsm) rfl ?_
    refine gO ?_
    refine AQ.guard_yes (by simp only [go_sem]) ?_
    refine AQ.fn (by kernel_rfl) rfl rfl rfl (hwl) rfl ?_
    repeat (first | refine xA ?_ | refine xB ?_ | refine xC ?_ | refine xE ?_ | refine xD ?_ | refine xK ?_ | refine xS ?_ | refine xM ?_ | refine xT ?_ | refine xF ?_ | ((first | refine xR ?_ | refine xW ?_ | refine vq_id ?_); simp only [go_sem, Nat.reduceAdd, Nat.reduceLeDiff, Nat.reduceSub, Int.reduceToNat, reduceCtorEq, Int.reduceBNe]) | (refine ⟨by first | omega | (intros; simp_all; done) | (intros; simp_all; omega), ?_⟩; try simp only [go_sem, Nat.reduceAdd, Nat.reduceLeDiff, Nat.reduceSub, Int.reduceToNat, reduceCtorEq, Int.reduceBNe]))
    refine AQ.guard_yes (by simp only [go_sem]) ?_
    refine AQ.fn (by kernel_rfl) rfl rfl rfl (hfr) rfl ?_
    refine gO ?_
    simp only [go_sem, Nat.reduceAdd, Nat.reduceLeDiff, Nat.reduceSub, Int.reduceToNat, reduceCtorEq, hg]
    refine gO ?_
    refine AQ.fn (by kernel_rfl) rfl rfl rfl (awake_spec) rfl ?_
    refine gO ?_
    exact AE.ret0 rfl ⟨rfl, trivial⟩ rfl ⟨rfl, rfl⟩
  | nil =>
  have hoc : ∀ nm, ocF nm m = false := fun nm => by rw [← has_free, hF]; rfl
  have hg : decide (0 < ((stR []).length : Int)) = false := by rw [stR_len]; simp
  obtain ⟨z1, z2, z3⟩ := few_sz hb
  rw [szFs_app] at z1
  have zd := szD_to d
  have l1 := szFs_len th
  have l2 := szFs_len ax
  have hck := (check_walk th ax d hd hth hax (by omega) (by omega) (fun _ => by omega)).toA fun _ _ h => h
  have hms : fmsS [m] := by rw [fmsS, fmsS]; exact ⟨hm, trivial⟩
  have hck2 := (check_walk (th ++ [m]) (m :: ax) d hd (fmsS_append hth hms) (fmsS_append hms hax) (by rw [List.length_append, List.length_singleton]; omega) (by rw [List.length_cons]; omega) (fun _ => by omega)).toA fun _ _ h => h
  obtain ⟨q, hq⟩ : ∃ q, ckC th ax d = q := ⟨_, rfl⟩
  rw [hq] at hck
  have hck : PFn Tryz.prog 13 [.im (.sl 4 (fmR th)), .im (.sl 4 (fmR ax)), dvV d] (rsV q) := hck.mono fun r H' ⟨a, b⟩ => ⟨b, a⟩
  cases q with
  | bad p e =>
    have hne : (e != 0) = true := by
      have : ¬ e = 0 := by
        intro he
        unfold ckC at hq
        split at hq
        · split at hq
          · cases hq; omega
          · have := ccF_nz th ax d []
            rw [hq] at this
            exact this he
        · rename_i hw
          cases hq
          exact hw he
      simpa using this
    rw [rsV] at hck
    refine ACall.walk [0, 1, 2, 3, 6, 7, 8, 9, 11, 12, 14, 36, 47] [9, 12, 56] Tryz.func7 rfl Tryz.ntmps7 (by kernel_rfl) (by rfl) rfl fun W own I0 φ0 lay => ?_
    refine gO ?_
    refine AQ.fn (by kernel_rfl) rfl rfl rfl (hfew) rfl ?_
    refine gO ?_
    refine AQ.guard_yes (by simp only [go_sem]) ?_
    dsimp only
    refine AQ.optT ?_
    refine AQ.go (by kernel_rfl) ?_
    refine sI ?_
    refine AQ.guard_yes (by simp only [go_sem]) ?_
    refine AQ.fn (by kernel_rfl) rfl rfl rfl (hsm) rfl ?_
    refine gO ?_
    refine AQ.guard_yes (by simp only [go_sem]) ?_
    refine AQ.fn (by kernel_rfl) rfl rfl rfl (hwl) rfl ?_
    repeat (first | refine xA ?_ | refine xB ?_ | refine xC ?_ | refine xE ?_ | refine xD ?_ | refine xK ?_ | refine xS ?_ | refine xM ?_ | refine xT ?_ | refine xF ?_ | ((first | refine xR ?_ | refine xW ?_ | refine vq_id ?_); simp only [go_sem, Nat.reduceAdd, Nat.reduceLeDiff, Nat.reduceSub, Int.reduceToNat, reduceCtorEq, Int.reduceBNe]) | (refine ⟨by first | omega | (intros; simp_all; done) | (intros; simp_all; omega), ?_⟩; try simp only [go_sem, Nat.reduceAdd, Nat.reduceLeDiff, Nat.reduceSub, Int.reduceToNat, reduceCtorEq, Int.reduceBNe]))
    refine AQ.guard_yes (by simp only [go_sem]) ?_
    refine AQ.fn (by kernel_rfl) rfl rfl rfl (hfr) rfl ?_
    refine gO ?_
    simp only [go_sem, Nat.reduceAdd, Nat.reduceLeDiff, Nat.reduceSub, Int.reduceToNat, reduceCtorEq, hg]
    refine gO ?_
    refine AQ.fn (by kernel_rfl) rfl rfl rfl (hck) rfl ?_
    refine gO ?_
    simp only [go_sem, Nat.reduceAdd, Nat.reduceLeDiff, Nat.reduceSub, Int.reduceToNat, reduceCtorEq, hne]
    refine gO ?_
    refine AQ.fn (by kernel_rfl) rfl rfl rfl (awake_spec) rfl ?_
    refine gO ?_
    exact AE.retD [0] rfl ⟨rfl, trivial⟩ rfl ⟨rfl, rfl⟩
  | ok f =>
    have hw2 := ckC_weak hoc hu hq
    have hfw : unF f 0 = 0 := by
      unfold ckC at hq
      split at hq
      · split at hq
        · cases hq
        · exact ccF_well hq
      · cases hq
    rw [hw2] at hck2
    have hck2 : PFn Tryz.prog 13 [.im (.sl 4 (fmR (th ++ [m]))), .im (.sl 4 (fmR (m :: ax))), dvV d] (rsV (.ok f)) := hck2.mono fun r H' ⟨a, b⟩ => ⟨b, a⟩
    rw [fmR_append, fmR_one, show m :: ax = [m] ++ ax from rfl, fmR_append, fmR_one] at hck2
    rw [rsV] at hck hck2
    have s3 := same_spec f f (un_S hfw)
    rw [eqF_refl] at s3
    have hcl := cloneF_spec th (by omega)
    have ht1 := fmR_len th
    have ht2 := fmR_len ax
    have hk1 : List.take (th.length + 1) (fmR th ++ [fmRow m]) = fmR th ++ [fmRow m] := List.take_of_length_le (by rw [List.length_append, ht1]; simp)
    have hk2 : List.take (1 + ax.length) ([fmRow m] ++ fmR ax) = [fmRow m] ++ fmR ax := List.take_of_length_le (by rw [List.length_append, ht2]; simp)
    have hk3 : List.take (1 + ax.length) (fmRow m :: fmR ax) = fmRow m :: fmR ax := List.take_of_length_le (by rw [List.length_cons, ht2]; omega)
    have lt1 : th.length ≤ 100000 := by omega
    have lt2 : ax.length ≤ 100000 := by omega
    clear hq hw2 zd z1 z2 z3 l1 l2 hoc hF hu hu0 hfw
    refine ACall.walk [0, 1, 2, 3, 6, 7, 8, 9, 11, 12, 14, 36, 47] [9, 12, 56] Tryz.func7 rfl Tryz.ntmps7 (by kernel_rfl) (by rfl) rfl fun W own I0 φ0 lay => ?_
    refine gO ?_
    refine AQ.fn (by kernel_rfl) rfl rfl rfl (hfew) rfl ?_
    refine gO ?_
    refine AQ.guard_yes (by simp only [go_sem]) ?_
    dsimp only
    refine AQ.optT ?_
    refine AQ.go (by kernel_rfl) ?_
    refine sI ?_
    refine AQ.guard_yes (by simp only [go_sem]) ?_
    refine AQ.fn (by kernel_rfl) rfl rfl rfl (hsm) rfl ?_
    refine gO ?_
    refine AQ.guard_yes (by simp only [go_sem]) ?_
    refine AQ.fn (by kernel_rfl) rfl rfl rfl (hwl) rfl ?_
    repeat (first | refine xA ?_ | refine xB ?_ | refine xC ?_ | refine xE ?_ | refine xD ?_ | refine xK ?_ | refine xS ?_ | refine xM ?_ | refine xT ?_ | refine xF ?_ | ((first | refine xR ?_ | refine xW ?_ | refine vq_id ?_); simp only [go_sem, Nat.reduceAdd, Nat.reduceLeDiff, Nat.reduceSub, Int.reduceToNat, reduceCtorEq, Int.reduceBNe]) | (refine ⟨by first | omega | (intros; simp_all; done) | (intros; simp_all; omega), ?_⟩; try simp only [go_sem, Nat.reduceAdd, Nat.reduceLeDiff, Nat.reduceSub, Int.reduceToNat, reduceCtorEq, Int.reduceBNe]))
    refine AQ.guard_yes (by simp only [go_sem]) ?_
    refine AQ.fn (by kernel_rfl) rfl rfl rfl (hfr) rfl ?_
    refine gO ?_
    simp only [go_sem, Nat.reduceAdd, Nat.reduceLeDiff, Nat.reduceSub, Int.reduceToNat, reduceCtorEq, hg]
    refine gO ?_
    refine AQ.fn (by kernel_rfl) rfl rfl rfl (hck) rfl ?_
    refine gO ?_
    refine AP.cut (α := Unit) (fun _ => [(8, Bv false), (9, .ob 0 0), (12, .ob 1 0), (14, Iv 0)]) (fun _ => [(1, .var 27 [Iv f.k, Sv f.nm, .im (.sl 3 (tmR f.ts)), .im (.sl 4 (fmR f.ps))]), (0, .var 27 [Iv f.k, Sv f.nm, .im (.sl 3 (tmR f.ts)), .im (.sl 4 (fmR f.ps))])]) (fun _ => True) ?_ fun _ _ => ?_
    · skip
      refine AP.drawE 19 (Tree.node [] [0, 2, 5, 7, 9] [1, 3, 6, 15] [Tree.node [2, 5, 7, 9] [] [3, 6, 15] [Tree.node [5, 7, 9] [] [4, 6, 15] [Tree.node [5, 7, 9] [] [6, 15] [Tree.node [7, 9] [] [8, 15] [Tree.node [9] [] [10, 15] [Tree.node [] [11, 12, 13, 14] [15] [Tree.node [11, 12, 13, 14] [] [16] [Tree.node [13, 14] [17, 18] [] []]], Tree.node [9] [] [10] [Tree.node [] [11, 12, 13, 14] [16] [Tree.node [13, 14] [17, 18] [] []]]], Tree.node [7, 9] [] [8] [Tree.node [9] [] [10] [Tree.node [] [11, 12, 13, 14] [16] [Tree.node [13, 14] [17, 18] [] []]]]], Tree.node [5, 7, 9] [] [6] [Tree.node [7, 9] [] [8] [Tree.node [9] [] [10] [Tree.node [] [11, 12, 13, 14] [16] [Tree.node [13, 14] [17, 18] [] []]]]]], Tree.node [7, 9] [] [4, 15] [Tree.node [7, 9] [] [8, 15] [Tree.node [9] [] [10, 15] [Tree.node [] [11, 12, 13, 14] [15] [Tree.node [11, 12, 13, 14] [] [16] [Tree.node [13, 14] [17, 18] [] []]], Tree.node [9] [] [10] [Tree.node [] [11, 12, 13, 14] [16] [Tree.node [13, 14] [17, 18] [] []]]], Tree.node [7, 9] [] [8] [Tree.node [9] [] [10] [Tree.node [] [11, 12, 13, 14] [16] [Tree.node [13, 14] [17, 18] [] []]]]], Tree.node [7, 9] [] [4] [Tree.node [7, 9] [] [8] [Tree.node [9] [] [10] [Tree.node [] [11, 12, 13, 14] [16] [Tree.node [13, 14] [17, 18] [] []]]]]], Tree.node [5, 7, 9] [] [4, 6] [Tree.node [5, 7, 9] [] [6] [Tree.node [7, 9] [] [8] [Tree.node [9] [] [10] [Tree.node [] [11, 12, 13, 14] [16] [Tree.node [13, 14] [17, 18] [] []]]]], Tree.node [7, 9] [] [4] [Tree.node [7, 9] [] [8] [Tree.node [9] [] [10] [Tree.node [] [11, 12, 13, 14] [16] [Tree.node [13, 14] [17, 18] [] []]]]]]], Tree.node [2, 7, 9] [] [3, 15] [Tree.node [7, 9] [] [4, 15] [Tree.node [7, 9] [] [8, 15] [Tree.node [9] [] [10, 15] [Tree.node [] [11, 12, 13, 14] [15] [Tree.node [11, 12, 13, 14] [] [16] [Tree.node [13, 14] [17, 18] [] []]], Tree.node [9] [] [10] [Tree.node [] [11, 12, 13, 14] [16] [Tree.node [13, 14] [17, 18] [] []]]], Tree.node [7, 9] [] [8] [Tree.node [9] [] [10] [Tree.node [] [11, 12, 13, 14] [16] [Tree.node [13, 14] [17, 18] [] []]]]], Tree.node [7, 9] [] [4] [Tree.node [7, 9] [] [8] [Tree.node [9] [] [10] [Tree.node [] [11, 12, 13, 14] [16] [Tree.node [13, 14] [17, 18] [] []]]]]], Tree.node [2, 7, 9] [] [3] [Tree.node [7, 9] [] [4] [Tree.node [7, 9] [] [8] [Tree.node [9] [] [10] [Tree.node [] [11, 12, 13, 14] [16] [Tree.node [13, 14] [17, 18] [] []]]]]]], Tree.node [2, 5, 7, 9] [] [3, 6] [Tree.node [5, 7, 9] [] [4, 6] [Tree.node [5, 7, 9] [] [6] [Tree.node [7, 9] [] [8] [Tree.node [9] [] [10] [Tree.node [] [11, 12, 13, 14] [16] [Tree.node [13, 14] [17, 18] [] []]]]], Tree.node [7, 9] [] [4] [Tree.node [7, 9] [] [8] [Tree.node [9] [] [10] [Tree.node [] [11, 12, 13, 14] [16] [Tree.node [13, 14] [17, 18] [] []]]]]], Tree.node [2, 7, 9] [] [3] [Tree.node [7, 9] [] [4] [Tree.node [7, 9] [] [8] [Tree.node [9] [] [10] [Tree.node [] [11, 12, 13, 14] [16] [Tree.node [13, 14] [17, 18] [] []]]]]]]], Tree.node [0, 5, 7, 9] [] [1, 6, 15] [Tree.node [5, 7, 9] [] [4, 6, 15] [Tree.node [5, 7, 9] [] [6, 15] [Tree.node [7, 9] [] [8, 15] [Tree.node [9] [] [10, 15] [Tree.node [] [11, 12, 13, 14] [15] [Tree.node [11, 12, 13, 14] [] [16] [Tree.node [13, 14] [17, 18] [] []]], Tree.node [9] [] [10] [Tree.node [] [11, 12, 13, 14] [16] [Tree.node [13, 14] [17, 18] [] []]]], Tree.node [7, 9] [] [8] [Tree.node [9] [] [10] [Tree.node [] [11, 12, 13, 14] [16] [Tree.node [13, 14] [17, 18] [] []]]]], Tree.node [5, 7, 9] [] [6] [Tree.node [7, 9] [] [8] [Tree.node [9] [] [10] [Tree.node [] [11, 12, 13, 14] [16] [Tree.node [13, 14] [17, 18] [] []]]]]], Tree.node [7, 9] [] [4, 15] [Tree.node [7, 9] [] [8, 15] [Tree.node [9] [] [10, 15] [Tree.node [] [11, 12, 13, 14] [15] [Tree.node [11, 12, 13, 14] [] [16] [Tree.node [13, 14] [17, 18] [] []]], Tree.node [9] [] [10] [Tree.node [] [11, 12, 13, 14] [16] [Tree.node [13, 14] [17, 18] [] []]]], Tree.node [7, 9] [] [8] [Tree.node [9] [] [10] [Tree.node [] [11, 12, 13, 14] [16] [Tree.node [13, 14] [17, 18] [] []]]]], Tree.node [7, 9] [] [4] [Tree.node [7, 9] [] [8] [Tree.node [9] [] [10] [Tree.node [] [11, 12, 13, 14] [16] [Tree.node [13, 14] [17, 18] [] []]]]]], Tree.node [5, 7, 9] [] [4, 6] [Tree.node [5, 7, 9] [] [6] [Tree.node [7, 9] [] [8] [Tree.node [9] [] [10] [Tree.node [] [11, 12, 13, 14] [16] [Tree.node [13, 14] [17, 18] [] []]]]], Tree.node [7, 9] [] [4] [Tree.node [7, 9] [] [8] [Tree.node [9] [] [10] [Tree.node [] [11, 12, 13, 14] [16] [Tree.node [13, 14] [17, 18] [] []]]]]]], Tree.node [0, 7, 9] [] [1, 15] [Tree.node [7, 9] [] [4, 15] [Tree.node [7, 9] [] [8, 15] [Tree.node [9] [] [10, 15] [Tree.node [] [11, 12, 13, 14] [15] [Tree.node [11, 12, 13, 14] [] [16] [Tree.node [13, 14] [17, 18] [] []]], Tree.node [9] [] [10] [Tree.node [] [11, 12, 13, 14] [16] [Tree.node [13, 14] [17, 18] [] []]]], Tree.node [7, 9] [] [8] [Tree.node [9] [] [10] [Tree.node [] [11, 12, 13, 14] [16] [Tree.node [13, 14] [17, 18] [] []]]]], Tree.node [7, 9] [] [4] [Tree.node [7, 9] [] [8] [Tree.node [9] [] [10] [Tree.node [] [11, 12, 13, 14] [16] [Tree.node [13, 14] [17, 18] [] []]]]]], Tree.node [0, 7, 9] [] [1] [Tree.node [7, 9] [] [4] [Tree.node [7, 9] [] [8] [Tree.node [9] [] [10] [Tree.node [] [11, 12, 13, 14] [16] [Tree.node [13, 14] [17, 18] [] []]]]]]], Tree.node [0, 5, 7, 9] [] [1, 6] [Tree.node [5, 7, 9] [] [4, 6] [Tree.node [5, 7, 9] [] [6] [Tree.node [7, 9] [] [8] [Tree.node [9] [] [10] [Tree.node [] [11, 12, 13, 14] [16] [Tree.node [13, 14] [17, 18] [] []]]]], Tree.node [7, 9] [] [4] [Tree.node [7, 9] [] [8] [Tree.node [9] [] [10] [Tree.node [] [11, 12, 13, 14] [16] [Tree.node [13, 14] [17, 18] [] []]]]]], Tree.node [0, 7, 9] [] [1] [Tree.node [7, 9] [] [4] [Tree.node [7, 9] [] [8] [Tree.node [9] [] [10] [Tree.node [] [11, 12, 13, 14] [16] [Tree.node [13, 14] [17, 18] [] []]]]]]]], Tree.node [0, 2, 7, 9] [] [1, 3, 15] [Tree.node [2, 7, 9] [] [3, 15] [Tree.node [7, 9] [] [4, 15] [Tree.node [7, 9] [] [8, 15] [Tree.node [9] [] [10, 15] [Tree.node [] [11, 12, 13, 14] [15] [Tree.node [11, 12, 13, 14] [] [16] [Tree.node [13, 14] [17, 18] [] []]], Tree.node [9] [] [10] [Tree.node [] [11, 12, 13, 14] [16] [Tree.node [13, 14] [17, 18] [] []]]], Tree.node [7, 9] [] [8] [Tree.node [9] [] [10] [Tree.node [] [11, 12, 13, 14] [16] [Tree.node [13, 14] [17, 18] [] []]]]], Tree.node [7, 9] [] [4] [Tree.node [7, 9] [] [8] [Tree.node [9] [] [10] [Tree.node [] [11, 12, 13, 14] [16] [Tree.node [13, 14] [17, 18] [] []]]]]], Tree.node [2, 7, 9] [] [3] [Tree.node [7, 9] [] [4] [Tree.node [7, 9] [] [8] [Tree.node [9] [] [10] [Tree.node [] [11, 12, 13, 14] [16] [Tree.node [13, 14] [17, 18] [] []]]]]]], Tree.node [0, 7, 9] [] [1, 15] [Tree.node [7, 9] [] [4, 15] [Tree.node [7, 9] [] [8, 15] [Tree.node [9] [] [10, 15] [Tree.node [] [11, 12, 13, 14] [15] [Tree.node [11, 12, 13, 14] [] [16] [Tree.node [13, 14] [17, 18] [] []]], Tree.node [9] [] [10] [Tree.node [] [11, 12, 13, 14] [16] [Tree.node [13, 14] [17, 18] [] []]]], Tree.node [7, 9] [] [8] [Tree.node [9] [] [10] [Tree.node [] [11, 12, 13, 14] [16] [Tree.node [13, 14] [17, 18] [] []]]]], Tree.node [7, 9] [] [4] [Tree.node [7, 9] [] [8] [Tree.node [9] [] [10] [Tree.node [] [11, 12, 13, 14] [16] [Tree.node [13, 14] [17, 18] [] []]]]]], Tree.node [0, 7, 9] [] [1] [Tree.node [7, 9] [] [4] [Tree.node [7, 9] [] [8] [Tree.node [9] [] [10] [Tree.node [] [11, 12, 13, 14] [16] [Tree.node [13, 14] [17, 18] [] []]]]]]], Tree.node [0, 2, 7, 9] [] [1, 3] [Tree.node [2, 7, 9] [] [3] [Tree.node [7, 9] [] [4] [Tree.node [7, 9] [] [8] [Tree.node [9] [] [10] [Tree.node [] [11, 12, 13, 14] [16] [Tree.node [13, 14] [17, 18] [] []]]]]], Tree.node [0, 7, 9] [] [1] [Tree.node [7, 9] [] [4] [Tree.node [7, 9] [] [8] [Tree.node [9] [] [10] [Tree.node [] [11, 12, 13, 14] [16] [Tree.node [13, 14] [17, 18] [] []]]]]]]], Tree.node [0, 2, 5, 7, 9] [] [1, 3, 6] [Tree.node [2, 5, 7, 9] [] [3, 6] [Tree.node [5, 7, 9] [] [4, 6] [Tree.node [5, 7, 9] [] [6] [Tree.node [7, 9] [] [8] [Tree.node [9] [] [10] [Tree.node [] [11, 12, 13, 14] [16] [Tree.node [13, 14] [17, 18] [] []]]]], Tree.node [7, 9] [] [4] [Tree.node [7, 9] [] [8] [Tree.node [9] [] [10] [Tree.node [] [11, 12, 13, 14] [16] [Tree.node [13, 14] [17, 18] [] []]]]]], Tree.node [2, 7, 9] [] [3] [Tree.node [7, 9] [] [4] [Tree.node [7, 9] [] [8] [Tree.node [9] [] [10] [Tree.node [] [11, 12, 13, 14] [16] [Tree.node [13, 14] [17, 18] [] []]]]]]], Tree.node [0, 5, 7, 9] [] [1, 6] [Tree.node [5, 7, 9] [] [4, 6] [Tree.node [5, 7, 9] [] [6] [Tree.node [7, 9] [] [8] [Tree.node [9] [] [10] [Tree.node [] [11, 12, 13, 14] [16] [Tree.node [13, 14] [17, 18] [] []]]]], Tree.node [7, 9] [] [4] [Tree.node [7, 9] [] [8] [Tree.node [9] [] [10] [Tree.node [] [11, 12, 13, 14] [16] [Tree.node [13, 14] [17, 18] [] []]]]]], Tree.node [0, 7, 9] [] [1] [Tree.node [7, 9] [] [4] [Tree.node [7, 9] [] [8] [Tree.node [9] [] [10] [Tree.node [] [11, 12, 13, 14] [16] [Tree.node [13, 14] [17, 18] [] []]]]]]], Tree.node [0, 2, 7, 9] [] [1, 3] [Tree.node [2, 7, 9] [] [3] [Tree.node [7, 9] [] [4] [Tree.node [7, 9] [] [8] [Tree.node [9] [] [10] [Tree.node [] [11, 12, 13, 14] [16] [Tree.node [13, 14] [17, 18] [] []]]]]], Tree.node [0, 7, 9] [] [1] [Tree.node [7, 9] [] [4] [Tree.node [7, 9] [] [8] [Tree.node [9] [] [10] [Tree.node [] [11, 12, 13, 14] [16] [Tree.node [13, 14] [17, 18] [] []]]]]]]]]) (by kernel_rfl) rfl (by kernel_rfl) (by kernel_rfl) ?_
      refine vd_node ?_
      refine sI ?_
      repeat' (first | with_reducible exact True.intro | with_reducible refine And.intro (by omega) ?_ | with_reducible refine And.intro ?_ ?_)
      all_goals refine AQ.weak (E' := [(59, dvV d), (57, .im (.sl 4 (fmR ax))), (55, fmV m), (52, fmV m), (50, .im (.sl 4 (fmR th))), (0, .im (.sl 4 (fmR th))), (1, .im (.sl 4 (fmR ax))), (6, .im (dvP d)), (7, .im (.pt [Ii m.k, Si m.nm, .sl 3 (tmR m.ts), .sl 4 (fmR m.ps)])), (8, Bv false), (9, .ob 0 0)]) ?_ (sU)
      all_goals repeat' (first | with_reducible exact True.intro | with_reducible refine And.intro (by omega) ?_ | with_reducible refine And.intro ?_ ?_ | (refine AQ.nx rfl ?_; refine sI ?_) | ((with_reducible show AQ _ _ _ ({ dst := _, op := Op.call { callee := Callee.value (Operand.func 39), args := _, argTypes := _ }, type := _, pos := _, after := _, guard := _ } :: _) _ _ _); refine AQ.callH [] (by kernel_rfl) rfl rfl rfl rfl rfl rfl (by exact trivial) rfl hcl ?_; rintro r H' ⟨rfl, rfl⟩; refine ⟨rfl, ?_⟩; refine sH ?_) | ((with_reducible show AQ _ _ _ ({ dst := _, op := Op.call { callee := Callee.value (Operand.func 13), args := _, argTypes := _ }, type := _, pos := _, after := _, guard := _ } :: _) _ _ _); refine AQ.fn (by kernel_rfl) rfl rfl rfl (hck2) rfl ?_; refine sI ?_) | (refine AQ.append (hnb := rfl) (rows := fmR th) (es := 3) (by kernel_rfl) rfl rfl rfl (by rfl) Tryz.tk22 Tryz.sz27 (by show Option.map _ (zro Tryz.prog 27) = _; rw [Tryz.zr27]; rfl) Tryz.by27 (by first | rfl | (simp only [ht1, List.length_cons, List.length_nil]; done) | (simp only [ht1, List.length_cons, List.length_nil]; omega)) (by simp only [ht1, List.length_cons, List.length_nil]; omega) (by simp only [ht1, List.length_cons, List.length_nil]; omega) ?_; refine sI ?_; first | refine AQ.freeze 1 (el := 27) (es := 4) (rows := fmR th ++ [fmRow m]) rfl (by simp only [go_sem, Nat.reduceAdd, Nat.reduceLeDiff, Nat.reduceSub, Int.reduceToNat, reduceCtorEq, List.length_append, ht1, hk1]; first | done | trivial | omega | (simp; done) | (simp; omega)) (by simp only [go_sem, Nat.reduceAdd, Nat.reduceLeDiff, Nat.reduceSub, Int.reduceToNat, reduceCtorEq, List.length_append, ht1, hk1]; first | done | trivial | omega | (simp; done) | (simp; omega)) ?_; simp only [go_sem, Nat.reduceAdd, Nat.reduceLeDiff, Nat.reduceSub, Int.reduceToNat, reduceCtorEq, List.length_append, ht1, hk1] | refine AQ.freeze 2 (el := 27) (es := 4) (rows := fmR th ++ [fmRow m]) rfl (by simp only [go_sem, Nat.reduceAdd, Nat.reduceLeDiff, Nat.reduceSub, Int.reduceToNat, reduceCtorEq, List.length_append, ht1, hk1]; first | done | trivial | omega | (simp; done) | (simp; omega)) (by simp only [go_sem, Nat.reduceAdd, Nat.reduceLeDiff, Nat.reduceSub, Int.reduceToNat, reduceCtorEq, List.length_append, ht1, hk1]; first | done | trivial | omega | (simp; done) | (simp; omega)) ?_; simp only [go_sem, Nat.reduceAdd, Nat.reduceLeDiff, Nat.reduceSub, Int.reduceToNat, reduceCtorEq, List.length_append, ht1, hk1] | refine AQ.freeze 3 (el := 27) (es := 4) (rows := fmR th ++ [fmRow m]) rfl (by simp only [go_sem, Nat.reduceAdd, Nat.reduceLeDiff, Nat.reduceSub, Int.reduceToNat, reduceCtorEq, List.length_append, ht1, hk1]; first | done | trivial | omega | (simp; done) | (simp; omega)) (by simp only [go_sem, Nat.reduceAdd, Nat.reduceLeDiff, Nat.reduceSub, Int.reduceToNat, reduceCtorEq, List.length_append, ht1, hk1]; first | done | trivial | omega | (simp; done) | (simp; omega)) ?_; simp only [go_sem, Nat.reduceAdd, Nat.reduceLeDiff, Nat.reduceSub, Int.reduceToNat, reduceCtorEq, List.length_append, ht1, hk1]) | (refine AQ.append (hnb := rfl) (rows := [fmRow m]) (es := 3) (by kernel_rfl) rfl rfl rfl (by rfl) Tryz.tk22 Tryz.sz27 (by show Option.map _ (zro Tryz.prog 27) = _; rw [Tryz.zr27]; rfl) Tryz.by27 (by first | rfl | (simp only [ht2, List.length_cons, List.length_nil]; done) | (simp only [ht2, List.length_cons, List.length_nil]; omega)) (by simp only [ht2, List.length_cons, List.length_nil]; omega) (by simp only [ht2, List.length_cons, List.length_nil]; omega) ?_; refine sI ?_; first | refine AQ.freeze 1 (el := 27) (es := 4) (rows := [fmRow m] ++ fmR ax) rfl (by simp only [go_sem, Nat.reduceAdd, Nat.reduceLeDiff, Nat.reduceSub, Int.reduceToNat, reduceCtorEq, ht2, hk2, hk3, List.length_append, List.length_cons, List.length_nil]; first | done | trivial | omega | (simp; done) | (simp; omega)) (by simp only [go_sem, Nat.reduceAdd, Nat.reduceLeDiff, Nat.reduceSub, Int.reduceToNat, reduceCtorEq, ht2, hk2, hk3, List.length_append, List.length_cons, List.length_nil]; first | done | trivial | omega | (simp; done) | (simp; omega)) ?_; simp only [go_sem, Nat.reduceAdd, Nat.reduceLeDiff, Nat.reduceSub, Int.reduceToNat, reduceCtorEq, ht2, hk2, hk3, List.length_append, List.length_cons, List.length_nil] | refine AQ.freeze 2 (el := 27) (es := 4) (rows := [fmRow m] ++ fmR ax) rfl (by simp only [go_sem, Nat.reduceAdd, Nat.reduceLeDiff, Nat.reduceSub, Int.reduceToNat, reduceCtorEq, ht2, hk2, hk3, List.length_append, List.length_cons, List.length_nil]; first | done | trivial | omega | (simp; done) | (simp; omega)) (by simp only [go_sem, Nat.reduceAdd, Nat.reduceLeDiff, Nat.reduceSub, Int.reduceToNat, reduceCtorEq, ht2, hk2, hk3, List.length_append, List.length_cons, List.length_nil]; first | done | trivial | omega | (simp; done) | (simp; omega)) ?_; simp only [go_sem, Nat.reduceAdd, Nat.reduceLeDiff, Nat.reduceSub, Int.reduceToNat, reduceCtorEq, ht2, hk2, hk3, List.length_append, List.length_cons, List.length_nil] | refine AQ.freeze 3 (el := 27) (es := 4) (rows := [fmRow m] ++ fmR ax) rfl (by simp only [go_sem, Nat.reduceAdd, Nat.reduceLeDiff, Nat.reduceSub, Int.reduceToNat, reduceCtorEq, ht2, hk2, hk3, List.length_append, List.length_cons, List.length_nil]; first | done | trivial | omega | (simp; done) | (simp; omega)) (by simp only [go_sem, Nat.reduceAdd, Nat.reduceLeDiff, Nat.reduceSub, Int.reduceToNat, reduceCtorEq, ht2, hk2, hk3, List.length_append, List.length_cons, List.length_nil]; first | done | trivial | omega | (simp; done) | (simp; omega)) ?_; simp only [go_sem, Nat.reduceAdd, Nat.reduceLeDiff, Nat.reduceSub, Int.reduceToNat, reduceCtorEq, ht2, hk2, hk3, List.length_append, List.length_cons, List.length_nil]) | refine AQ.done ?_ | (refine AQ.go (by kernel_rfl) ?_; refine sI ?_; repeat (with_reducible refine And.intro (by omega) ?_); refine AQ.nx rfl ?_; refine sI ?_))
      all_goals first | exact AE.meet () trivial (sU) rfl | (refine AE.rename 2 1 rfl rfl rfl ?_; refine sI ?_; exact AE.meet () trivial (sU) rfl) | (refine AE.rename 3 1 rfl rfl rfl ?_; refine sI ?_; exact AE.meet () trivial (sU) rfl)
    refine gE @beq_self_eq_true.{0} ?_
    refine AQ.guard_yes (by simp only [go_sem]) ?_
    refine AQ.fn (by kernel_rfl) rfl rfl rfl (s3) rfl ?_
    refine gO ?_
    refine AQ.guard_yes (by simp only [go_sem]) ?_
    refine AQ.fn (by kernel_rfl) rfl rfl rfl (awake_spec) rfl ?_
    refine gO ?_
    exact AE.retD [1, 0] rfl ⟨rfl, trivial⟩ rfl ⟨rfl, rfl⟩
end Go.Proofs.YteacpafhmgdbkaaGreatDoor
end
