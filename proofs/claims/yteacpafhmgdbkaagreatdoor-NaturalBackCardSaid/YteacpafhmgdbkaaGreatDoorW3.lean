import Derived.Test.YteacpafhmgdbkaaGreatDoorW2
import Derived.Shelf.Strings.Search3
import Derived.Shelf.Strings.Count
import Derived.Shelf.Strings.Split
import Derived.Sort.Walk0
import Derived.Lib.SlicesCompact
import Derived.Shelf.Sort.Plain
import Derived.Shelf.Slices.CompactS
import Derived.Shelf.Slices.In.SortNone
set_option linter.unusedSimpArgs false
set_option linter.unusedVariables false
set_option linter.unnecessarySimpa false
section
namespace Go.Proofs.YteacpafhmgdbkaaGreatDoor
open Go Go.AL Go.RowKit
set_option maxRecDepth 10000
set_option maxHeartbeats 4000000
theorem mkT_some {ns : List Nm} {s : Nm} {k : Nat} (h : bkN ns s ns.length = some k) : mkT ns s [] = .mk [] (ns.length - 1 - k : Nat) [] := by rw [mkT, if_pos rfl, h]
theorem mkT_none {ns : List Nm} {s : Nm} (h : bkN ns s ns.length = none) : mkT ns s [] = .mk s 0 [] := by rw [mkT, if_pos rfl, h]
theorem mkT_args {ns : List Nm} {s : Nm} {l : List Tm} (h : l ≠ []) : mkT ns s l = .mk s 0 l := by rw [mkT, if_neg h]
theorem rterm_spec (L : List Tok) (e : Int) (ns : List Nm) (hL : tkOk L) (hn : ns.length ≤ 1000000) : ∀ (f i : Nat), i ≤ L.length → 2 * (L.length - i) + 1 ≤ f →
    ACallX Tryz.prog 163 [.ob 0 0] (rdH 1 L e i ns) (RdR tmV (pT L ns f i) L e ns 1) (RdX (pT L ns f i) L e) := by
  intro f
  induction f using Nat.strongRecOn with
  | _ f ih =>
    intro i hi hf
    obtain ⟨f, rfl⟩ : ∃ g, f = g + 1 := ⟨f - 1, by omega⟩
    have hl := hL.1
    have hnm := name_spec L e i ns (by omega) hL
    rw [pT_succ]
    have hpl := fun hlt : i < L.length => list_walk L e ns hL hn f (i + 1) (by omega) (by omega) fun f' i' h1 h2 h3 h4 => ih f' (by omega) i' h3 h4
    refine ACallX.walk [0, 1, 2, 3, 4, 5, 6, 12, 20, 21, 22, 25] [1, 2, 3] Tryz.func163 rfl Tryz.ntmps163 (by kernel_rfl) (by rfl) rfl fun W own I0 φ0 lay => ?_
    refine gO ?_
    refine AQ.callHX [(0, 0), (1, 1)] (by kernel_rfl) rfl rfl rfl rfl rfl rfl (by exact ⟨rfl, rfl, trivial⟩) rfl hnm ?_ ?_
    · rintro r H' ⟨h, rfl, rfl⟩
      refine ⟨rfl, ?_⟩; refine sH ?_
      exact AEX.out [2, 3] rfl rfl ⟨i, by rw [if_pos h], rfl, rfl⟩
    rintro r H' ⟨h, rfl, rfl⟩
    have hnf : ¬ isNm (tkS L i) = false := by rw [h]; simp
    have hlt : i < L.length := isNm_in hnf
    have hpl := hpl hlt
    have hbk := backward_spec L e
    rw [if_neg hnf]
    refine ⟨rfl, ?_⟩; refine sH ?_
    refine AQ.go (by kernel_rfl) ?_
    refine sI ?_
    refine gO ?_
    refine AQ.callHX [(0, 0), (1, 1)] (by kernel_rfl) rfl rfl rfl rfl rfl rfl (by exact ⟨rfl, rfl, trivial⟩) rfl hpl ?_ ?_
    · rintro r H' ⟨j, hj, rfl, rfl⟩
      refine ⟨rfl, ?_⟩; refine sH ?_
      exact AEX.out [4, 3, 2] rfl rfl ⟨j, by rw [hj], rfl, rfl⟩
    rintro r H' ⟨l, j, hj, rfl, rfl⟩
    rw [hj]
    simp only
    by_cases hl0 : l = []
    · subst hl0
      have elv : lsV [] = nilV := by rw [lsV, if_pos rfl]
      rw [elv]
      refine ⟨rfl, ?_⟩; refine sH ?_
      refine AQ.go (by kernel_rfl) ?_
      refine sI ?_
      refine gO ?_
      refine AQ.callH [(4, 4), (3, 3), (2, 2), (0, 0), (1, 1)] (by kernel_rfl) rfl rfl rfl rfl rfl rfl (by exact ⟨rfl, rfl, rfl, rfl, rfl, trivial⟩) rfl (backward_spec L e j ns (tkS L i)) ?_
      rintro r H' ⟨rfl, rfl⟩
      refine ⟨rfl, ?_⟩
      refine sH ?_
      refine AQ.rename 10 5 rfl rfl rfl ?_; refine sI ?_
      refine gO ?_
      refine AP.rangeB 6 0 6 bkEL (R := fun q => bkR q L e j ns (tkS L i)) rfl rfl (by kernel_rfl) (sU) rfl rfl (fun q => bk_walk q L e j ns (tkS L i) hn) (fun q r H' hR => ?_)
      rcases hR with ⟨hb, rfl⟩ | ⟨k, hb, rfl⟩
      · refine ⟨lowSame.of _ _ _ rfl, .ready, _, rfl, rfl, ?_⟩
        refine sI ?_
        refine gO ?_
        refine AQ.fn (by kernel_rfl) rfl rfl rfl (paramT_spec (tkS L i)) rfl ?_
        refine gO ?_
        rw [mkT_none hb]
        refine AE.cellsW 3 [Sv (tkS L i), Iv 0, .im (.sl 3 [])] rfl (cellsLe.cons (cellsLe.cons (cellsLe.nil (cellsLe.refl _)))) ?_
        refine sI ?_
        exact AE.retD [5, 4, 3, 2] rfl ⟨⟨rfl, Nat.le_of_ble_eq_true (by kernel_rfl)⟩, trivial⟩ rfl ⟨_, j, rfl, rfl, rfl⟩
      · refine ⟨lowSame.of _ _ _ rfl, .done .ret, _, rfl, rfl, ?_⟩
        refine sI ?_
        refine gO ?_
        rw [mkT_some hb]
        refine AE.cellsW 3 [Sv [], Iv (ns.length - 1 - k : Nat), .im (.sl 3 [])] rfl (cellsLe.cons (cellsLe.cons (cellsLe.nil (cellsLe.refl _)))) ?_
        refine sI ?_
        exact AE.retD [5, 4, 3, 2] rfl ⟨⟨rfl, Nat.le_of_ble_eq_true (by kernel_rfl)⟩, trivial⟩ rfl ⟨_, j, rfl, rfl, rfl⟩
    · have elv : lsV l = .im (.sl 3 (tmR l)) := by rw [lsV, if_neg hl0]
      rw [elv, mkT_args hl0]
      refine ⟨rfl, ?_⟩; refine sH ?_
      refine AQ.go (by kernel_rfl) ?_
      refine sI ?_
      refine gO ?_
      refine ⟨by intro e; apply hl0; have := congrArg List.length e; rw [tmR_len] at this; exact List.eq_nil_of_length_eq_zero this, ?_⟩
      refine gO ?_
      exact AE.retD [4, 3, 2] rfl ⟨⟨rfl, Nat.le_of_ble_eq_true (by kernel_rfl)⟩, trivial⟩ rfl ⟨_, j, rfl, rfl, rfl⟩
end Go.Proofs.YteacpafhmgdbkaaGreatDoor
end

section
namespace Go.Proofs.YteacpafhmgdbkaaGreatDoor
open Go Go.AL Go.RowKit
set_option maxRecDepth 10000
set_option maxHeartbeats 4000000
end Go.Proofs.YteacpafhmgdbkaaGreatDoor
end

section
namespace Go.Proofs.YteacpafhmgdbkaaGreatDoor
open Go Go.AL Go.RowKit
set_option maxRecDepth 10000
set_option maxHeartbeats 4000000
end Go.Proofs.YteacpafhmgdbkaaGreatDoor
end

section
namespace Go.Proofs.YteacpafhmgdbkaaGreatDoor
open Go Go.AL Go.RowKit
set_option maxRecDepth 10000
set_option maxHeartbeats 4000000
end Go.Proofs.YteacpafhmgdbkaaGreatDoor
end

section
namespace Go.Proofs.YteacpafhmgdbkaaGreatDoor
open Go Go.AL Go.RowKit
set_option maxRecDepth 10000
set_option maxHeartbeats 4000000
end Go.Proofs.YteacpafhmgdbkaaGreatDoor
end

section
namespace Go.Proofs.YteacpafhmgdbkaaGreatDoor
open Go Go.AL Go.RowKit
set_option maxRecDepth 10000
set_option maxHeartbeats 4000000
end Go.Proofs.YteacpafhmgdbkaaGreatDoor
end

section
namespace Go.Proofs.YteacpafhmgdbkaaGreatDoor
open Go Go.AL Go.RowKit
set_option maxRecDepth 10000
set_option maxHeartbeats 4000000
theorem has_addK (s : Nm) (tk : List Nm) (n : Nm) : hasS s (addK tk n) = (hasS s tk || n == s) := by
  have h2 : ∀ l : List Nm, hasS s (l ++ [n]) = (hasS s l || n == s) := fun l => by simp [hasS]
  unfold addK
  split
  · rename_i h
    by_cases hn : n = s
    · subst hn
      have : hasS n tk = true := by simpa using h
      rw [this]; rfl
    · have : (n == s) = false := by simpa using hn
      rw [this, Bool.or_false]
  · exact h2 tk
mutual
theorem has_tkT (s : Nm) : ∀ (t : Tm) (tk : List Nm), hasS s (tkT t tk) = (hasS s tk || ocT s t)
  | .mk n i xs, tk => by
    rw [tkT, has_tkTs s xs, ocT]
    cases hc : (!(n == []) && (xs.length : Int) == 0) with
    | true => rw [if_pos rfl, has_addK, Bool.true_and, Bool.or_assoc]
    | false => rw [if_neg (by simp), Bool.false_and, Bool.false_or]
theorem has_tkTs (s : Nm) : ∀ (l : List Tm) (tk : List Nm), hasS s (tkTs l tk) = (hasS s tk || ocTs s l)
  | [], tk => by rw [tkTs, ocTs, Bool.or_false]
  | t :: l, tk => by rw [tkTs, has_tkTs s l, has_tkT s t, ocTs, Bool.or_assoc]
end
mutual
theorem has_tkF (s : Nm) : ∀ (f : Fm) (tk : List Nm), hasS s (tkF f tk) = (hasS s tk || ocF s f)
  | .mk k n ts ps, tk => by rw [tkF, has_tkFs s ps, has_tkTs s ts, ocF, Bool.or_assoc]
theorem has_tkFs (s : Nm) : ∀ (l : List Fm) (tk : List Nm), hasS s (tkFs l tk) = (hasS s tk || ocFs s l)
  | [], tk => by rw [tkFs, ocFs, Bool.or_false]
  | t :: l, tk => by rw [tkFs, has_tkFs s l, has_tkF s t, ocFs, Bool.or_assoc]
end
end Go.Proofs.YteacpafhmgdbkaaGreatDoor
end

section
namespace Go.Proofs.YteacpafhmgdbkaaGreatDoor
open Go Go.AL Go.RowKit
set_option maxRecDepth 10000
set_option maxHeartbeats 4000000
mutual
def fmX (g : Nm → Nm) (tk ns : List Nm) : Fm → List Nm
  | .mk k nm ts ps => if k = 1 then nm :: lsW (ns.map g) ts else sgn k :: (tmsW (ns.map g) ts ++ (if k = 7 ∨ k = 8 then g (vN (vnum tk ns)) :: fmsX g tk (ns ++ [vN (vnum tk ns)]) ps else fmsX g tk ns ps))
def fmsX (g : Nm → Nm) (tk ns : List Nm) : List Fm → List Nm
  | [] => []
  | f :: l => fmX g tk ns f ++ fmsX g tk ns l
end
mutual
theorem fmX_id (tk : List Nm) : ∀ (f : Fm) (ns : List Nm), fmX id tk ns f = fmW tk ns f
  | .mk k nm ts ps, ns => by rw [fmX, fmW, List.map_id, fmsX_id tk ps, fmsX_id tk ps]; rfl
theorem fmsX_id (tk : List Nm) : ∀ (l : List Fm) (ns : List Nm), fmsX id tk ns l = fmsW tk ns l
  | [], ns => by rw [fmsX, fmsW]
  | f :: l, ns => by rw [fmsX, fmsW, fmX_id tk f, fmsX_id tk l]
end
def At (L : List Tok) (i : Nat) (ws : List Nm) : Prop := ∀ j, j < ws.length → tkS L (i + j) = ws.getD j []
theorem At.app {L : List Tok} {i : Nat} {a b : List Nm} (h : At L i (a ++ b)) : At L i a ∧ At L (i + a.length) b := by
  refine ⟨fun j hj => ?_, fun j hj => ?_⟩
  · rw [h j (by rw [List.length_append]; omega), List.getD_eq_getElem?_getD, List.getD_eq_getElem?_getD, List.getElem?_append_left hj]
  · rw [Nat.add_assoc, h (a.length + j) (by rw [List.length_append]; omega), List.getD_eq_getElem?_getD, List.getD_eq_getElem?_getD, List.getElem?_append_right (by omega), Nat.add_sub_cancel_left]
theorem At.cons {L : List Tok} {i : Nat} {a : Nm} {b : List Nm} (h : At L i (a :: b)) : tkS L i = a ∧ At L (i + 1) b := by
  refine ⟨h 0 (by simp), fun j hj => ?_⟩
  have := h (j + 1) (by simp; omega)
  rw [Nat.add_assoc, Nat.add_comm 1 j, this]; rfl
def noB (s : Nm) : Prop := s ≠ [36, 40] ∧ s ≠ [36, 41]
theorem isNm_noB {s : Nm} (h : isNm s = true) : noB s := ⟨fun e => by rw [e] at h; revert h; decide, fun e => by rw [e] at h; revert h; decide⟩
theorem isNm_sgK {s : Nm} (h : isNm s = true) : sgK s = 1 := by
  unfold sgK
  repeat (rw [if_neg (fun e => by rw [e] at h; revert h; decide)])
theorem isNm_ne {s : Nm} (h : isNm s = true) : s ≠ [] := fun e => by rw [e] at h; revert h; decide
theorem shp_mk (k : Int) (nm : Nm) (ts : List Tm) (ps : List Fm) : shp (.mk k nm ts ps) = (if k ≠ 1 ∧ nm ≠ [] then false
  else if k = 1 then isNm nm && (ps.length : Int) == 0
  else if k = 2 then (ts.length : Int) == 2 && (ps.length : Int) == 0
  else if k = 3 then (ts.length : Int) == 0 && (ps.length : Int) == 0
  else if k = 4 ∨ k = 5 ∨ k = 6 then (ts.length : Int) == 0 && (ps.length : Int) == 2
  else if k = 7 ∨ k = 8 then (ts.length : Int) == 0 && (ps.length : Int) == 1
  else false) := rfl
theorem shp_one {nm : Nm} {ts : List Tm} {ps : List Fm} (h : shp (.mk 1 nm ts ps) = true) : isNm nm = true ∧ ps = [] := by
  rw [shp_mk, if_neg (show ¬ ((1 : Int) ≠ 1 ∧ nm ≠ []) from fun h => h.1 rfl), if_pos rfl] at h
  simp only [Bool.and_eq_true] at h
  exact ⟨h.1, List.eq_nil_of_length_eq_zero (by have := h.2; simp at this; rw [this]; rfl)⟩
theorem sgn_cases {k : Int} (h : 2 ≤ k ∧ k ≤ 8) : k = 2 ∨ k = 3 ∨ k = 4 ∨ k = 5 ∨ k = 6 ∨ k = 7 ∨ k = 8 := by omega
theorem sgK_sgn {k : Int} (h : 2 ≤ k ∧ k ≤ 8) : sgK (sgn k) = k := by
  rcases sgn_cases h with h | h | h | h | h | h | h <;> subst h <;> rfl
theorem sgn_noB {k : Int} (h : 2 ≤ k ∧ k ≤ 8) : noB (sgn k) := by
  rcases sgn_cases h with h | h | h | h | h | h | h <;> subst h <;> exact ⟨by decide, by decide⟩
theorem bkN_none {ns : List Nm} {s : Nm} (h : s ∉ ns) : ∀ k, k ≤ ns.length → bkN ns s k = none
  | 0, _ => rfl
  | k + 1, hk => by
    rw [bkN, if_neg, bkN_none h k (by omega)]
    intro e
    apply h
    rw [← e, List.getD_eq_getElem?_getD, List.getElem?_eq_getElem (show k < ns.length by omega)]
    exact List.getElem_mem _
theorem bkN_some {ns : List Nm} {j : Nat} (hnd : ns.Nodup) (hj : j < ns.length) : ∀ k, k ≤ ns.length → j < k → bkN ns (ns.getD j []) k = some j
  | 0, _, h => by omega
  | k + 1, hk, h => by
    rw [bkN]
    by_cases e : k = j
    · subst e; rw [if_pos rfl]
    · rw [if_neg, bkN_some hnd hj k (by omega) (by omega)]
      intro e2
      rw [List.getD_eq_getElem?_getD, List.getD_eq_getElem?_getD, List.getElem?_eq_getElem (show k < ns.length by omega), List.getElem?_eq_getElem hj] at e2
      exact e ((List.getElem_inj hnd).1 e2)
theorem tmW_hd {ms : List Nm} (hm : ∀ m ∈ ms, isNm m = true) {t : Tm} (h : wT t ms.length = 0) : ∃ w r, tmW ms t = w :: r ∧ isNm w = true := by
  have h0 := wT_nm h
  rw [tmW_eq]
  split
  · rename_i hn
    have := h0.2.1 hn
    have hlt : ((ms.length : Int) - 1 - t.ix).toNat < ms.length := by omega
    refine ⟨_, _, rfl, hm _ ?_⟩
    rw [List.getD_eq_getElem?_getD, List.getElem?_eq_getElem hlt]
    exact List.getElem_mem _
  · rename_i hn
    exact ⟨_, _, rfl, (h0.2.2 hn).2.1⟩
mutual
theorem pT_ok {L : List Tok} {ms : List Nm} (hm : ∀ m ∈ ms, isNm m = true) (hnd : ms.Nodup) : ∀ (t : Tm) (f i : Nat), wT t ms.length = 0 → (∀ m ∈ ms, ocT m t = false) → At L i (tmW ms t) → 2 * (tmW ms t).length ≤ f → tkS L (i + (tmW ms t).length) ≠ [36, 40] →
    pT L ms f i = .ok t (i + (tmW ms t).length)
  | .mk nm ix xs, 0, i, hw, ho, ha, hf, hb => by have := tmW_ge ms (.mk nm ix xs); omega
  | .mk nm ix xs, f + 1, i, hw, ho, ha, hf, hb => by
    have h0 := wT_nm hw
    simp only [Tm.nm, Tm.ix, Tm.xs] at h0
    rw [pT]
    by_cases hn : nm = []
    · obtain ⟨hx, h1, h2⟩ := h0.2.1 hn
      have e : tmW ms (.mk nm ix xs) = [ms.getD ((ms.length : Int) - 1 - ix).toNat []] := by rw [tmW, if_pos hn]
      have hlt : ((ms.length : Int) - 1 - ix).toNat < ms.length := by omega
      rw [e] at ha hb ⊢
      have hs := ha.cons.1
      have hmem : ms.getD ((ms.length : Int) - 1 - ix).toNat [] ∈ ms := by
        rw [List.getD_eq_getElem?_getD, List.getElem?_eq_getElem hlt]
        exact List.getElem_mem _
      simp only [List.length_cons, List.length_nil] at hb ⊢
      rw [hs, if_neg (by rw [hm _ hmem]; simp), if_neg hb, mkT, if_pos rfl, bkN_some hnd hlt _ (Nat.le_refl _) hlt]
      simp only
      rw [hn, hx]
      congr 2
      omega
    · obtain ⟨h1, h2, h3⟩ := h0.2.2 hn
      have e : tmW ms (.mk nm ix xs) = nm :: (if xs.length = 0 then [] else [36, 40] :: (tmsW ms xs ++ [[36, 41]])) := by rw [tmW, if_neg hn]
      rw [e] at ha hf hb ⊢
      have hs := ha.cons.1
      rw [hs, if_neg (by rw [h2]; simp)]
      by_cases hx : xs.length = 0
      · rw [if_pos hx] at hb ⊢
        have hx0 := List.eq_nil_of_length_eq_zero hx
        simp only [List.length_cons, List.length_nil] at hb ⊢
        rw [if_neg hb, mkT, if_pos rfl, bkN_none ?_ _ (Nat.le_refl _)]
        · simp only
          rw [h1, hx0]
        · intro hc
          have := ho nm hc
          rw [ocT, hx0] at this
          have hne : (nm == []) = false := by simpa using hn
          rw [hne] at this
          simp at this
      · rw [if_neg hx] at ha hf hb ⊢
        obtain ⟨ho1, ha2⟩ := ha.cons.2.cons
        simp only [List.length_cons, List.length_append, List.length_nil] at hf ⊢
        rw [if_pos ho1, pTs_ok hm hnd xs f true (i + 2) h3 (fun m hmm => by
          have := ho m hmm
          rw [ocT] at this
          exact (Bool.or_eq_false_iff.1 this).2) (by exact ha2) (by omega) (fun _ => fun e => hx (by rw [e]; rfl))]
        have hxn : ¬ xs = [] := fun e => hx (by rw [e]; rfl)
        simp only
        rw [mkT, if_neg hxn, h1]
        congr 1
        omega
theorem pTs_ok {L : List Tok} {ms : List Nm} (hm : ∀ m ∈ ms, isNm m = true) (hnd : ms.Nodup) : ∀ (l : List Tm) (f : Nat) (b : Bool) (i : Nat), wTs l ms.length = 0 → (∀ m ∈ ms, ocTs m l = false) → At L i (tmsW ms l ++ [[36, 41]]) → 2 * (tmsW ms l).length + 1 ≤ f → (b = true → l ≠ []) →
    pTs L ms f b i = .ok l (i + (tmsW ms l).length + 1)
  | l, 0, b, i, hw, ho, ha, hf, hb => by omega
  | [], f + 1, b, i, hw, ho, ha, hf, hb => by
    have hb : b = false := by
      cases b with
      | false => rfl
      | true => exact absurd rfl (hb rfl)
    rw [pTs, if_pos ⟨hb, ha.cons.1⟩]
    rfl
  | t :: l, f + 1, b, i, hw, ho, ha, hf, hb => by
    obtain ⟨w1, w2⟩ := wTs_cons hw
    have ho1 : ∀ m ∈ ms, ocT m t = false := fun m hmm => by
      have := ho m hmm
      rw [ocTs] at this
      exact (Bool.or_eq_false_iff.1 this).1
    have ho2 : ∀ m ∈ ms, ocTs m l = false := fun m hmm => by
      have := ho m hmm
      rw [ocTs] at this
      exact (Bool.or_eq_false_iff.1 this).2
    have e : tmsW ms (t :: l) = tmW ms t ++ tmsW ms l := by rw [tmsW]
    rw [e] at ha hf ⊢
    rw [List.append_assoc] at ha
    rw [List.length_append] at hf ⊢
    obtain ⟨a1, a2⟩ := ha.app
    have hge := tmW_ge ms t
    obtain ⟨w, r, hwr, hwn⟩ := tmW_hd hm w1
    have hnx : tkS L (i + (tmW ms t).length) ≠ [36, 40] := by
      cases l with
      | nil => have := a2.cons.1; rw [this]; decide
      | cons u l =>
        obtain ⟨w, r, hwr, hwn⟩ := tmW_hd hm (wTs_cons w2).1
        rw [tmsW, hwr] at a2
        have := a2.cons.1
        rw [this]; exact (isNm_noB hwn).1
    rw [pTs, if_neg (fun hc => by
      have h1 : tkS L i = w := by rw [hwr] at a1; exact a1.cons.1
      rw [h1] at hc
      exact (isNm_noB hwn).2 hc.2)]
    rw [pT_ok hm hnd t f i w1 ho1 a1 (by omega) hnx]
    simp only
    rw [pTs_ok hm hnd l f false (i + (tmW ms t).length) w2 ho2 a2 (by omega) (fun h => by cases h)]
    simp only
    congr 1
    omega
end
theorem pL_ok {L : List Tok} {ms : List Nm} (hm : ∀ m ∈ ms, isNm m = true) (hnd : ms.Nodup) (l : List Tm) (f i : Nat) (hw : wTs l ms.length = 0) (ho : ∀ m ∈ ms, ocTs m l = false) (ha : At L i (lsW ms l)) (hf : 2 * (lsW ms l).length ≤ f + 1) (hb : tkS L (i + (lsW ms l).length) ≠ [36, 40]) :
    pL L ms f i = .ok l (i + (lsW ms l).length) := by
  rw [pL]
  unfold lsW at ha hf hb ⊢
  by_cases hx : l.length = 0
  · rw [if_pos hx] at hb ⊢
    rw [if_neg (by simpa using hb), List.eq_nil_of_length_eq_zero hx]; rfl
  · rw [if_neg hx] at ha hf hb ⊢
    obtain ⟨h1, h2⟩ := ha.cons
    simp only [List.length_cons, List.length_append, List.length_nil] at hf ⊢
    rw [if_pos h1, pTs_ok hm hnd l f true (i + 1) hw ho h2 (by omega) (fun _ e => hx (by rw [e]; rfl))]
    congr 1
    omega
mutual
/-- the variables of a formula's binders -/
def bvF (tk ns : List Nm) : Fm → List Nm
  | .mk k _ _ ps => if k = 7 ∨ k = 8 then vN (vnum tk ns) :: bvFs tk (ns ++ [vN (vnum tk ns)]) ps else bvFs tk ns ps
def bvFs (tk ns : List Nm) : List Fm → List Nm
  | [] => []
  | f :: l => bvF tk ns f ++ bvFs tk ns l
end
theorem fmX_hd {g : Nm → Nm} {tk ns : List Nm} {f : Fm} {b : Int} (hw : wF f b = 0) : ∃ w r, fmX g tk ns f = w :: r ∧ noB w := by
  obtain ⟨hsh, hwt, hwp⟩ := wF_parts hw
  have hk := shp_k hsh
  cases f with
  | mk k nm ts ps =>
    rw [fmX]
    split
    · rename_i h1
      subst h1
      exact ⟨_, _, rfl, isNm_noB (shp_one hsh).1⟩
    · rename_i h1
      simp only [Fm.k] at hk
      exact ⟨_, _, rfl, sgn_noB (by omega)⟩
theorem fmX_ge (g : Nm → Nm) (tk ns : List Nm) (f : Fm) : 1 ≤ (fmX g tk ns f).length := by
  cases f with
  | mk k nm ts ps =>
    rw [fmX]
    split <;> simp
theorem frV_vnum (tk ns : List Nm) : frV tk ns (vnum tk ns) = true := by
  obtain ⟨n, hn, hf⟩ := frV_ex tk ns
  clear hn
  have : ∃ m, frV tk ns m = true ∧ ∀ j, j < m → frV tk ns j = false := by
    induction n using Nat.strongRecOn with
    | _ n ih =>
      rcases Classical.em (∀ j, j < n → frV tk ns j = false) with h | h
      · exact ⟨n, hf, h⟩
      · obtain ⟨j, hj⟩ := Classical.not_forall.1 h
        obtain ⟨h1, h2⟩ := Classical.not_imp.1 hj
        exact ih j h1 (by simpa using h2)
  obtain ⟨m, h1, h2⟩ := this
  rw [vnum_eq h1 h2]; exact h1
theorem vN_fresh (tk ns : List Nm) : vN (vnum tk ns) ∉ tk ∧ vN (vnum tk ns) ∉ ns := by
  have := frV_vnum tk ns
  unfold frV at this
  simp only [Bool.and_eq_true, Bool.not_eq_true'] at this
  exact ⟨fun h => by rw [hasS_mem.2 h] at this; simp at this, fun h => by rw [hasS_mem.2 h] at this; simp at this⟩
mutual
theorem pF_ok {L : List Tok} {g : Nm → Nm} {tk : List Nm} (hinj : ∀ a b, g a = g b → a = b) :
    ∀ (F : Fm) (ns : List Nm) (f i : Nat), ns.Nodup → (∀ m ∈ ns, isNm (g m) = true) → wF F ns.length = 0 → (∀ m ∈ ns, ocF (g m) F = false) → (∀ v ∈ bvF tk ns F, isNm (g v) = true ∧ ocF (g v) F = false) →
      At L i (fmX g tk ns F) → 2 * (fmX g tk ns F).length ≤ f → tkS L (i + (fmX g tk ns F).length) ≠ [36, 40] → pF L f (ns.map g) i = .ok F (i + (fmX g tk ns F).length)
  | F, ns, 0, i, hnd, hm, hw, ho, hv, ha, hf, hb => by have := fmX_ge g tk ns F; omega
  | .mk k nm ts ps, ns, f + 1, i, hnd, hm, hw, ho, hv, ha, hf, hb => by
    obtain ⟨hsh, hwt, hwp⟩ := wF_parts hw
    have hk := shp_k hsh
    simp only [Fm.k, Fm.ts, Fm.ps] at hk hwt hwp
    have hm2 : ∀ m ∈ ns.map g, isNm m = true := fun m hmm => by
      obtain ⟨a, ha, rfl⟩ := List.mem_map.1 hmm
      exact hm a ha
    have hnd2 : (ns.map g).Nodup := by
      rw [List.nodup_iff_pairwise_ne] at hnd ⊢
      exact List.pairwise_map.2 (hnd.imp fun h e => h (hinj _ _ e))
    have hln : (ns.map g).length = ns.length := List.length_map ..
    have hot : ∀ m ∈ ns.map g, ocTs m ts = false := fun m hmm => by
      obtain ⟨a, ha, rfl⟩ := List.mem_map.1 hmm
      have := ho a ha
      rw [ocF] at this
      exact (Bool.or_eq_false_iff.1 this).1
    have hop : ∀ m ∈ ns, ocFs (g m) ps = false := fun m hmm => by
      have := ho m hmm
      rw [ocF] at this
      exact (Bool.or_eq_false_iff.1 this).2
    have hvp : ∀ v ∈ bvF tk ns (.mk k nm ts ps), isNm (g v) = true ∧ ocFs (g v) ps = false := fun v hvv => by
      have := hv v hvv
      rw [ocF] at this
      exact ⟨this.1, (Bool.or_eq_false_iff.1 this.2).2⟩
    rw [bvF] at hvp
    rw [pF]
    by_cases h1 : k = 1
    · have e : fmX g tk ns (.mk k nm ts ps) = nm :: lsW (ns.map g) ts := by rw [fmX, if_pos h1]
      rw [e] at ha hf hb ⊢
      obtain ⟨hs, ha2⟩ := ha.cons
      subst h1
      obtain ⟨hnmk, hps⟩ := shp_one hsh
      simp only [List.length_cons] at hf hb ⊢
      rw [hs, if_pos (isNm_sgK hnmk), if_neg (by rw [hnmk]; simp), pL_ok hm2 hnd2 ts f (i + 1) (by rw [hln]; exact hwt) hot ha2 (by omega) (by rw [show i + 1 + (lsW (ns.map g) ts).length = i + ((lsW (ns.map g) ts).length + 1) by omega]; exact hb)]
      simp only
      rw [hps]
      congr 1
      omega
    · have hk2 : 2 ≤ k ∧ k ≤ 8 := by omega
      have e : fmX g tk ns (.mk k nm ts ps) = sgn k :: (tmsW (ns.map g) ts ++ (if k = 7 ∨ k = 8 then g (vN (vnum tk ns)) :: fmsX g tk (ns ++ [vN (vnum tk ns)]) ps else fmsX g tk ns ps)) := by rw [fmX, if_neg h1]
      rw [e] at ha hf hb ⊢
      obtain ⟨hs, ha2⟩ := ha.cons
      obtain ⟨at1, at2⟩ := ha2.app
      have hnm : nm = [] := Classical.byContradiction fun hc => by
        rw [shp_mk, if_pos (show k ≠ 1 ∧ nm ≠ [] from ⟨h1, hc⟩)] at hsh
        cases hsh
      have hns : ¬ (k ≠ 1 ∧ nm ≠ []) := fun h => h.2 hnm
      rw [shp_mk, if_neg hns, if_neg h1] at hsh
      have hsk := sgK_sgn hk2
      rw [hs, hsk, if_neg h1]
      rw [List.length_cons, List.length_append] at hf hb ⊢
      by_cases h2 : k = 2
      · rw [if_pos h2] at hsh ⊢
        rw [if_neg (show ¬ (k = 7 ∨ k = 8) by omega)] at at2 hf hb ⊢
        simp only [Bool.and_eq_true] at hsh
        have hps : ps = [] := List.eq_nil_of_length_eq_zero (by have := hsh.2; simp at this; rw [this]; rfl)
        have htl : ts.length = 2 := by have := hsh.1; simp at this; omega
        match ts, htl, hwt, hot, at1, at2, hf, hb with
        | [a, b], _, hwt, hot, at1, at2, hf, hb =>
          rw [hps] at hf hb ⊢
          have ea : tmsW (ns.map g) [a, b] = tmW (ns.map g) a ++ tmW (ns.map g) b := by rw [tmsW, tmsW, tmsW, List.append_nil]
          rw [ea] at at1 hf hb ⊢
          have ep : fmsX g tk ns [] = [] := by rw [fmsX]
          rw [ep] at hf hb ⊢
          rw [List.length_append] at hf hb ⊢
          simp only [List.length_nil, Nat.add_zero] at hf hb ⊢
          obtain ⟨b1, b2⟩ := at1.app
          obtain ⟨wa, wb⟩ := wTs_cons hwt
          have wb := (wTs_cons wb).1
          have oa : ∀ m ∈ ns.map g, ocT m a = false := fun m hmm => by
            have := hot m hmm
            rw [ocTs] at this
            exact (Bool.or_eq_false_iff.1 this).1
          have ob : ∀ m ∈ ns.map g, ocT m b = false := fun m hmm => by
            have := hot m hmm
            rw [ocTs, ocTs] at this
            exact (Bool.or_eq_false_iff.1 (Bool.or_eq_false_iff.1 this).2).1
          have hga := tmW_ge (ns.map g) a
          have hgb := tmW_ge (ns.map g) b
          obtain ⟨w, r, hwr, hwn⟩ := tmW_hd hm2 (t := b) (by rw [hln]; exact wb)
          rw [pT_ok hm2 hnd2 a f (i + 1) (by rw [hln]; exact wa) oa b1 (by omega) (by
            rw [hwr] at b2
            rw [b2.cons.1]; exact (isNm_noB hwn).1)]
          simp only
          rw [pT_ok hm2 hnd2 b f _ (by rw [hln]; exact wb) ob b2 (by omega) (by
            rw [show i + 1 + (tmW (ns.map g) a).length + (tmW (ns.map g) b).length = i + ((tmW (ns.map g) a).length + (tmW (ns.map g) b).length + 1) by omega]; exact hb)]
          simp only
          rw [h2, hnm]
          congr 1
          omega
      · rw [if_neg h2] at hsh ⊢
        by_cases h3 : k = 3
        · rw [if_pos h3] at hsh ⊢
          rw [if_neg (show ¬ (k = 7 ∨ k = 8) by omega)] at at2 hf hb ⊢
          simp only [Bool.and_eq_true] at hsh
          have hps : ps = [] := List.eq_nil_of_length_eq_zero (by have := hsh.2; simp at this; rw [this]; rfl)
          have hts : ts = [] := List.eq_nil_of_length_eq_zero (by have := hsh.1; simp at this; rw [this]; rfl)
          rw [hps, hts, h3, hnm]
          rw [tmsW, fmsX]
          rfl
        · rw [if_neg h3] at hsh ⊢
          by_cases h4 : k = 4 ∨ k = 5 ∨ k = 6
          · rw [if_pos h4] at hsh
            rw [if_neg (show ¬ (k = 7 ∨ k = 8) by omega)] at at2 hf hb ⊢
            rw [if_neg (show ¬ (k = 7 ∨ k = 8) by omega)]
            simp only [Bool.and_eq_true] at hsh
            have hts : ts = [] := List.eq_nil_of_length_eq_zero (by have := hsh.1; simp at this; rw [this]; rfl)
            have hpl : ps.length = 2 := by have := hsh.2; simp at this; omega
            have hbd : bnd (.mk k nm ts ps) = 0 := by unfold bnd; rw [if_neg (by simp only [Fm.k]; omega)]
            rw [hbd, Int.add_zero] at hwp
            rw [hts] at at2 hf hb ⊢
            rw [tmsW] at at2 hf hb ⊢
            simp only [List.length_nil, Nat.add_zero, Nat.zero_add] at at2 hf hb ⊢
            rw [if_neg (show ¬ (k = 7 ∨ k = 8) by omega)] at hvp
            match ps, hpl, hwp, hop, hvp, at2, hf, hb with
            | [p, q], _, hwp, hop, hvp, at2, hf, hb =>
              have ep : fmsX g tk ns [p, q] = fmX g tk ns p ++ fmX g tk ns q := by rw [fmsX, fmsX, fmsX, List.append_nil]
              rw [ep] at at2 hf hb ⊢
              rw [List.length_append] at hf hb ⊢
              obtain ⟨b1, b2⟩ := at2.app
              obtain ⟨wp, wq⟩ := wFs_cons hwp
              have wq := (wFs_cons wq).1
              have op : ∀ m ∈ ns, ocF (g m) p = false := fun m hmm => by
                have := hop m hmm
                rw [ocFs] at this
                exact (Bool.or_eq_false_iff.1 this).1
              have oq : ∀ m ∈ ns, ocF (g m) q = false := fun m hmm => by
                have := hop m hmm
                rw [ocFs, ocFs] at this
                exact (Bool.or_eq_false_iff.1 (Bool.or_eq_false_iff.1 this).2).1
              rw [bvFs, bvFs, bvFs, List.append_nil] at hvp
              have vp : ∀ v ∈ bvF tk ns p, isNm (g v) = true ∧ ocF (g v) p = false := fun v hvv => by
                have := hvp v (List.mem_append_left _ hvv)
                rw [ocFs] at this
                exact ⟨this.1, (Bool.or_eq_false_iff.1 this.2).1⟩
              have vq : ∀ v ∈ bvF tk ns q, isNm (g v) = true ∧ ocF (g v) q = false := fun v hvv => by
                have := hvp v (List.mem_append_right _ hvv)
                rw [ocFs, ocFs] at this
                exact ⟨this.1, (Bool.or_eq_false_iff.1 (Bool.or_eq_false_iff.1 this.2).2).1⟩
              have hga := fmX_ge g tk ns p
              have hgb := fmX_ge g tk ns q
              obtain ⟨w, r, hwr, hwn⟩ := fmX_hd (g := g) (tk := tk) (ns := ns) wq
              rw [pF_ok hinj p ns f (i + 1) hnd hm wp op vp b1 (by omega) (by
                rw [hwr] at b2
                rw [b2.cons.1]; exact hwn.1)]
              simp only
              rw [pF_ok hinj q ns f _ hnd hm wq oq vq b2 (by omega) (by
                rw [show i + 1 + (fmX g tk ns p).length + (fmX g tk ns q).length = i + ((fmX g tk ns p).length + (fmX g tk ns q).length + 1) by omega]; exact hb)]
              simp only
              rw [hnm]
              congr 1
              omega
          · have h7 : k = 7 ∨ k = 8 := by omega
            rw [if_neg h4, if_pos h7] at hsh
            rw [if_pos h7] at at2 hf hb ⊢
            rw [if_pos h7]
            simp only [Bool.and_eq_true] at hsh
            have hts : ts = [] := List.eq_nil_of_length_eq_zero (by have := hsh.1; simp at this; rw [this]; rfl)
            have hpl : ps.length = 1 := by have := hsh.2; simp at this; omega
            have hbd : bnd (.mk k nm ts ps) = 1 := by unfold bnd; rw [if_pos (by simp only [Fm.k]; exact h7)]
            rw [hbd] at hwp
            rw [hts] at at2 hf hb ⊢
            rw [tmsW] at at2 hf hb ⊢
            simp only [List.length_nil, Nat.add_zero, Nat.zero_add, List.length_cons] at at2 hf hb ⊢
            rw [if_pos h7] at hvp
            have hfr := vN_fresh tk ns
            obtain ⟨v, hv0⟩ : ∃ v, vN (vnum tk ns) = v := ⟨_, rfl⟩
            rw [hv0] at at2 hf hb hfr hvp ⊢
            obtain ⟨hvn, hvl⟩ := hvp v (List.mem_cons_self ..)
            obtain ⟨c1, c2⟩ := at2.cons
            rw [c1, hvn, if_neg (by simp)]
            match ps, hpl, hwp, hop, hvp, c2, hf, hb, hvl with
            | [p], _, hwp, hop, hvp, c2, hf, hb, hvl =>
              have ep : fmsX g tk (ns ++ [v]) [p] = fmX g tk (ns ++ [v]) p := by rw [fmsX, fmsX, List.append_nil]
              rw [ep] at c2 hf hb ⊢
              rw [bvFs, bvFs, List.append_nil] at hvp
              have wp := (wFs_cons hwp).1
              have hmap : ns.map g ++ [g v] = (ns ++ [v]).map g := by simp
              have hlen2 : (ns ++ [v]).length = ns.length + 1 := by simp
              rw [hmap, pF_ok hinj p (ns ++ [v]) f (i + 2) (by
                rw [List.nodup_append]
                exact ⟨hnd, by simp, fun a ha b hb => by
                  have : b = v := by simpa using hb
                  subst this
                  exact fun e => hfr.2 (e ▸ ha)⟩) (fun m hmm => by
                rcases List.mem_append.1 hmm with hmm | hmm
                · exact hm m hmm
                · have : m = v := by simpa using hmm
                  rw [this]; exact hvn) (by rw [hlen2]; exact wp) (fun m hmm => by
                rcases List.mem_append.1 hmm with hmm | hmm
                · have := hop m hmm
                  rw [ocFs] at this
                  exact (Bool.or_eq_false_iff.1 this).1
                · have : m = v := by simpa using hmm
                  rw [this]
                  rw [ocFs] at hvl
                  exact (Bool.or_eq_false_iff.1 hvl).1) (fun v hvv => by
                have := hvp v (List.mem_cons_of_mem _ hvv)
                rw [ocFs] at this
                exact ⟨this.1, (Bool.or_eq_false_iff.1 this.2).1⟩) c2 (by omega) (by
                rw [show i + 2 + (fmX g tk (ns ++ [v]) p).length = i + ((fmX g tk (ns ++ [v]) p).length + 1 + 1) by omega]; exact hb)]
              simp only
              rw [hnm]
              congr 1
              omega
end
end Go.Proofs.YteacpafhmgdbkaaGreatDoor
end

section
namespace Go.Proofs.YteacpafhmgdbkaaGreatDoor
open Go Go.AL Go.RowKit
set_option maxRecDepth 10000
set_option maxHeartbeats 4000000
end Go.Proofs.YteacpafhmgdbkaaGreatDoor
end

section
namespace Go.Proofs.YteacpafhmgdbkaaGreatDoor
open Go Go.AL Go.RowKit
set_option maxRecDepth 10000
set_option maxHeartbeats 4000000
end Go.Proofs.YteacpafhmgdbkaaGreatDoor
end

section
namespace Go.Proofs.YteacpafhmgdbkaaGreatDoor
open Go Go.AL Go.RowKit
set_option maxRecDepth 10000
set_option maxHeartbeats 4000000
theorem sgK_idx (s : Nm) : idxS s (sgnL.drop 2) 0 + 2 = sgK s := by
  unfold sgK
  simp only [sgnL, List.drop_succ_cons, List.drop_zero, idxS]
  by_cases h2 : s = [36, 61]; · subst h2; rfl
  by_cases h3 : s = [36, 70]; · subst h3; rfl
  by_cases h4 : s = [36, 62]; · subst h4; rfl
  by_cases h5 : s = [36, 38]; · subst h5; rfl
  by_cases h6 : s = [36, 124]; · subst h6; rfl
  by_cases h7 : s = [36, 65]; · subst h7; rfl
  by_cases h8 : s = [36, 69]; · subst h8; rfl
  rw [if_neg h2, if_neg h3, if_neg h4, if_neg h5, if_neg h6, if_neg h7, if_neg h8]
  rw [if_neg (by simpa using h2), if_neg (by simpa using h3), if_neg (by simpa using h4), if_neg (by simpa using h5), if_neg (by simpa using h6), if_neg (by simpa using h7), if_neg (by simpa using h8)]
  rfl
theorem form_walk (L : List Tok) (e : Int) (ns : List Nm) (hL : tkOk L) (hn : ns.length ≤ 900000) (f i : Nat) (hi : i ≤ L.length) (hf : 2 * (L.length - i) + 1 ≤ f + 1)
    (ih : ∀ (ns' : List Nm) i', ns'.length ≤ ns.length + 1 → i < i' → i' ≤ L.length → 2 * (L.length - i') + 1 ≤ f → ACallX Tryz.prog 89 [.ob 0 0] (rdH 1 L e i' ns') (RdR fmV (pF L f ns' i') L e ns' 2) (RdX (pF L f ns' i') L e)) :
    ACallX Tryz.prog 89 [.ob 0 0] (rdH 1 L e i ns) (RdR fmV (pF L (f + 1) ns i) L e ns 2) (RdX (pF L (f + 1) ns i) L e) := by
  have hl := hL.1
  have hpk := peek_spec L e i ns (by omega) hL
  have hs := hL.get i
  have hix := indexS_spec (sgnL.drop 2) (tkS L i) (by decide)
  have hsk : IntKind.i64.wrap (idxS (tkS L i) (sgnL.drop 2) 0 + 2) = sgK (tkS L i) := by
    have := idxS_bnd (tkS L i) (sgnL.drop 2) 0 (by omega)
    have h7 : (sgnL.drop 2).length = 7 := rfl
    rw [wr (by omega)]; exact sgK_idx _
  refine ACallX.walk [0, 2, 3, 4, 5, 6, 14, 30, 31, 44, 59] [2, 3, 6, 35, 50] Tryz.func89 rfl Tryz.ntmps89 (by kernel_rfl) (by rfl) rfl fun W own I0 φ0 lay => ?_
  refine AP.rename 1 2 rfl rfl rfl ?_; refine sI ?_
  refine gO ?_
  refine AQ.fn (by kernel_rfl) rfl rfl rfl (signs_spec) rfl ?_
  refine gO ?_
  refine ⟨⟨rfl, rfl⟩, ?_⟩
  refine xD ?_
  refine xC ?_
  refine AP.cut (α := Unit) (fun _ => [(0, .ob 0 0), (2, .ob 3 0), (4, Iv (sgK (tkS L i)))]) (fun _ => [(3, .var 27 [Iv 0, Sv [], nilV, nilV])] ++ rdH 2 L e i ns) (fun _ => True) ?_ fun _ _ => ?_
  · skip
    refine AP.drawE 6 (Tree.node [] [0, 1] [2] [Tree.node [0] [] [3] [Tree.node [] [4, 5] [] []]]) (by kernel_rfl) rfl (by kernel_rfl) (by kernel_rfl) ?_
    refine vd_node ?_
    refine sI ?_
    refine ⟨by decide, ?_⟩
    refine AQ.callH [(0, 0), (1, 2)] (by kernel_rfl) rfl rfl rfl rfl rfl rfl (by exact ⟨rfl, rfl, trivial⟩) rfl hpk ?_
    rintro r H' ⟨rfl, rfl⟩
    refine ⟨rfl, ?_⟩
    refine sH ?_
    refine AQ.nx rfl ?_
    refine sI ?_
    refine ⟨by decide, ?_⟩
    refine AQ.fnL (r := Iv (idxS (tkS L i) (sgnL.drop 2) 0)) [.im (.sl 1 (stR (sgnL.drop 2))), Sv (tkS L i)] (by kernel_rfl) rfl rfl rfl (LentAs.cons (LentA.of (Lent.os (rows := stR sgnL) (i := 2) (n := 7) rfl (by decide))) (LentAs.cons (LentA.im _) LentAs.nil)) hix rfl (fun _ => rfl) ?_
    refine sI ?_
    refine AQ.nx rfl ?_
    refine sE @hsk ?_
    refine AQ.done ?_
    refine sI ?_
    refine AE.forgets [4] rfl ?_
    refine sI ?_
    exact AE.meet () trivial (sU) rfl
  rw [pF]
  obtain ⟨k, hk⟩ : ∃ k, sgK (tkS L i) = k := ⟨_, rfl⟩
  rw [hk]
  have hkb : 1 ≤ k ∧ k ≤ 8 := by rw [← hk]; unfold sgK; repeat' split <;> omega
  clear hix hsk
  refine gO ?_
  refine AP.cond rfl rfl (fun h1 => ?_) (fun h1 => ?_)
  · have h1 : k = 1 := by simp only [decide_eq_true_eq] at h1; omega
    rw [if_pos h1]
    have hnm := name_spec L e i ns (by omega) hL
    refine gO ?_
    refine AQ.callHX [(0, 0), (1, 2)] (by kernel_rfl) rfl rfl rfl rfl rfl rfl (by exact ⟨rfl, rfl, trivial⟩) rfl hnm ?_ ?_
    · rintro r H' ⟨h, rfl, rfl⟩
      refine ⟨rfl, ?_⟩; refine sH ?_
      exact AEX.out [3] rfl rfl ⟨i, by rw [if_pos h], rfl, rfl⟩
    rintro r H' ⟨h, rfl, rfl⟩
    have hnf : ¬ isNm (tkS L i) = false := by rw [h]; simp
    have hlt : i < L.length := isNm_in hnf
    have hls := list_walk L e ns hL (by omega) f (i + 1) (by omega) (by omega) fun f' i' h1 h2 h3 h4 => rterm_spec L e ns hL (by omega) f' i' h3 h4
    rw [if_neg hnf]
    refine ⟨rfl, ?_⟩; refine sH ?_
    refine AQ.go (by kernel_rfl) ?_
    refine sI ?_
    refine gO ?_
    refine AQ.callHX [(0, 0), (1, 2)] (by kernel_rfl) rfl rfl rfl rfl rfl rfl (by exact ⟨rfl, rfl, trivial⟩) rfl hls ?_ ?_
    · rintro r H' ⟨j, hj, rfl, rfl⟩
      refine ⟨rfl, ?_⟩; refine sH ?_
      exact AEX.out [3] rfl rfl ⟨j, by rw [hj], rfl, rfl⟩
    rintro r H' ⟨l, j, hj, rfl, rfl⟩
    rw [hj]
    simp only
    by_cases hl0 : l = []
    · subst hl0
      have elv : lsV [] = nilV := by rw [lsV, if_pos rfl]
      rw [elv]
      refine ⟨rfl, ?_⟩; refine sH ?_
      refine AQ.go (by kernel_rfl) ?_
      refine sI ?_
      refine gO ?_
      refine AE.cellsW 3 [Iv 1, Sv (tkS L i), .im (.sl 3 []), .im (.sl 4 [])] rfl (cellsLe.cons (cellsLe.cons (cellsLe.nil (cellsLe.nil (cellsLe.refl _))))) ?_
      refine sI ?_
      exact AE.retD [3] rfl ⟨⟨rfl, Nat.le_of_ble_eq_true (by kernel_rfl)⟩, trivial⟩ rfl ⟨_, j, rfl, rfl, rfl⟩
    · have elv : lsV l = .im (.sl 3 (tmR l)) := by rw [lsV, if_neg hl0]
      rw [elv]
      refine ⟨rfl, ?_⟩; refine sH ?_
      refine AQ.go (by kernel_rfl) ?_
      refine sI ?_
      refine gO ?_
      refine AE.cellsW 3 [Iv 1, Sv (tkS L i), .im (.sl 3 (tmR l)), .im (.sl 4 [])] rfl (cellsLe.cons (cellsLe.cons (cellsLe.cons (cellsLe.nil (cellsLe.refl _))))) ?_
      refine sI ?_
      exact AE.retD [3] rfl ⟨⟨rfl, Nat.le_of_ble_eq_true (by kernel_rfl)⟩, trivial⟩ rfl ⟨_, j, rfl, rfl, rfl⟩
  · have h1 : ¬ k = 1 := by simp only [decide_eq_false_iff_not] at h1; omega
    have hlt : i < L.length := sgK_in (by rw [hk]; exact h1)
    have hw := wr (x := (i : Int) + 1) (by omega)
    have hz : fmV (.mk 3 [] [] []) = .agg [Iv 3, Sv [], .im (.sl 3 []), .im (.sl 4 [])] := rfl
    rw [if_neg h1]
    rcases sgn_cases (k := k) (by omega) with h | h
    · subst h
      rw [if_pos rfl]
      have ht1 := rterm_spec L e ns hL (by omega) f (i + 1) (by omega) (by omega)
      refine gE @hw ?_
      refine AQ.callHX [(0, 0), (1, 2)] (by kernel_rfl) rfl rfl rfl rfl rfl rfl (by exact ⟨rfl, rfl, trivial⟩) rfl ht1 ?_ ?_
      · rintro r H' ⟨j, hj, rfl, rfl⟩
        refine ⟨rfl, ?_⟩; refine sH ?_
        exact AEX.out [4, 3] rfl rfl ⟨j, by rw [hj], rfl, rfl⟩
      rintro r H' ⟨u, j, hj, rfl, rfl⟩
      have hgt := pT_gt (L := L) (ns := ns) (f := f) (show i + 1 ≤ L.length by omega)
      rw [hj] at hgt
      have ht2 := rterm_spec L e ns hL (by omega) f j hgt.2 (by have := hgt.1; omega)
      rw [hj]
      simp only
      refine ⟨rfl, ?_⟩; refine sH ?_
      refine AQ.go (by kernel_rfl) ?_
      refine sI ?_
      refine gO ?_
      refine AP.drawE 8 (Tree.node [] [0, 1, 2] [3] [Tree.node [0, 1] [] [4] [Tree.node [0, 1] [] [5] [Tree.node [] [6] [7] [Tree.node [] [] [] []]]]]) (by kernel_rfl) rfl (by kernel_rfl) (by kernel_rfl) ?_
      refine vd_node ?_
      refine sI ?_
      refine AQ.callHX [(0, 0), (1, 2)] (by kernel_rfl) rfl rfl rfl rfl rfl rfl (by exact ⟨rfl, rfl, trivial⟩) rfl ht2 ?_ ?_
      · rintro r H' ⟨j', hj', rfl, rfl⟩
        refine ⟨rfl, ?_⟩; refine sH ?_
        exact AEX.outR [4, 5, 3] rfl rfl rfl ⟨j', by rw [hj'], rfl, rfl⟩
      rintro r H' ⟨v, j', hj', rfl, rfl⟩
      rw [hj']
      simp only
      refine ⟨rfl, ?_⟩; refine sH ?_
      refine AQ.go (by kernel_rfl) ?_
      refine sI ?_
      refine AQ.nx rfl ?_
      refine sI ?_
      refine AQ.go (by kernel_rfl) ?_
      refine sI ?_
      refine AQ.nx rfl ?_
      refine sI ?_
      refine AQ.kill 5 ?_
      refine sI ?_
      refine AQ.append (hnb := rfl) (rows := [[Si u.nm, Ii u.ix, .sl 3 (tmR u.xs)]]) (es := 2) (by kernel_rfl) rfl rfl rfl (by rfl) Tryz.tk23 Tryz.sz25 (by show Option.map _ (zro Tryz.prog 25) = _; rw [Tryz.zr25]; rfl) Tryz.by25 (by first | rfl | (simp only [List.length_cons, List.length_nil]; done) | (simp only [List.length_cons, List.length_nil]; omega)) (by simp only [List.length_cons, List.length_nil]; omega) (by simp only [List.length_cons, List.length_nil]; omega) ?_
      refine sE @tmR_len ?_
      refine AQ.nx rfl ?_
      refine sI ?_
      refine AQ.go (by kernel_rfl) ?_
      refine sI ?_
      refine AQ.nx rfl ?_
      refine sI ?_
      refine AQ.done ?_
      refine sI ?_
      have e2 : [[Si u.nm, Ii u.ix, IV.sl 3 (tmR u.xs)], [IV.v (Value.string (BA v.nm)), IV.v (Value.int .i64 v.ix), IV.sl 3 (tmR v.xs)]] = tmR [u, v] := by rw [tmR, tmR, tmR, tmC_eq u, tmC_eq v]
      rw [e2]
      refine AE.freeze 5 (el := 25) (es := 3) (rows := tmR [u, v]) rfl (by simp only [go_sem, Nat.reduceAdd, Nat.reduceLeDiff, Nat.reduceSub, Int.reduceToNat, reduceCtorEq, tmR_len]; first | done | trivial | omega | (simp; done) | (simp; omega)) (by simp only [go_sem, Nat.reduceAdd, Nat.reduceLeDiff, Nat.reduceSub, Int.reduceToNat, reduceCtorEq, tmR_len]; first | done | trivial | omega | (simp; done) | (simp; omega)) ?_; simp only [go_sem, Nat.reduceAdd, Nat.reduceLeDiff, Nat.reduceSub, Int.reduceToNat, reduceCtorEq, tmR_len]
      rw [show List.take 2 (tmR [u, v]) = tmR [u, v] from List.take_of_length_le (by rw [tmR_len]; exact Nat.le_refl _)]
      refine gO ?_
      refine AE.cellsW 3 [Iv 2, Sv [], .im (.sl 3 (tmR [u, v])), .im (.sl 4 (fmR []))] rfl (cellsLe.cons (cellsLe.cons (cellsLe.cons (cellsLe.nil (cellsLe.refl _))))) ?_
      refine sI ?_
      exact AE.retD [4, 3] rfl ⟨⟨rfl, Nat.le_of_ble_eq_true (by kernel_rfl)⟩, trivial⟩ rfl ⟨_, j', rfl, rfl, rfl⟩
    rw [if_neg (show ¬ k = 2 by omega)]
    rcases h with h | h
    · subst h
      rw [if_pos rfl]
      refine gE @hw ?_
      refine AE.cellsW 3 [Iv 3, Sv [], .im (.sl 3 (tmR [])), .im (.sl 4 (fmR []))] rfl (cellsLe.cons (cellsLe.cons (cellsLe.nil (cellsLe.nil (cellsLe.refl _))))) ?_
      refine sI ?_
      exact AE.retD [4, 3] rfl ⟨⟨rfl, Nat.le_of_ble_eq_true (by kernel_rfl)⟩, trivial⟩ rfl ⟨_, (i + 1), rfl, rfl, rfl⟩
    rw [if_neg (show ¬ k = 3 by omega)]
    rcases (show (k = 4 ∨ k = 5 ∨ k = 6) ∨ (k = 7 ∨ k = 8) by omega) with h | h
    · rw [if_neg (show ¬ (k = 7 ∨ k = 8) by omega)]
      have hf1 := ih ns (i + 1) (by omega) (by omega) (by omega) (by omega)
      have hgt := pF_gt (f := f) (ns := ns) (show i + 1 ≤ L.length by omega)
      have hf2 := fun j (h : PR.gt L.length (i + 1) (PR.ok (α := Fm) fm0 j)) => ih ns j (by omega) (by have := h.1; omega) h.2 (by have := h.1; omega)
      rcases h with h | h | h <;> subst h
      all_goals
        refine gE @hw ?_
        refine AQ.callHX [(0, 0), (1, 2)] (by kernel_rfl) rfl rfl rfl rfl rfl rfl (by exact ⟨rfl, rfl, trivial⟩) rfl hf1 ?_ ?_
        · rintro r H' ⟨j, hj, rfl, rfl⟩
          refine ⟨rfl, ?_⟩; refine sH ?_
          exact AEX.out [4, 3] rfl rfl ⟨j, by rw [hj], rfl, rfl⟩
        rintro r H' ⟨u, j, hj, rfl, rfl⟩
        rw [hj] at hgt
        have hf3 := hf2 j hgt
        rw [hj]
        simp only
        refine ⟨rfl, ?_⟩; refine sH ?_
        refine AQ.go (by kernel_rfl) ?_
        refine sI ?_
        refine AQ.rename 7 2 rfl rfl rfl ?_; refine sI ?_
        refine gO ?_
        refine AP.drawE 8 (Tree.node [] [0, 1, 2] [3] [Tree.node [0, 1] [] [4] [Tree.node [0, 1] [] [5] [Tree.node [] [6] [7] [Tree.node [] [] [] []]]]]) (by kernel_rfl) rfl (by kernel_rfl) (by kernel_rfl) ?_
        refine vd_node ?_
        refine sI ?_
        refine AQ.callHX [(0, 0), (1, 2)] (by kernel_rfl) rfl rfl rfl rfl rfl rfl (by exact ⟨rfl, rfl, trivial⟩) rfl hf3 ?_ ?_
        · rintro r H' ⟨j', hj', rfl, rfl⟩
          refine ⟨rfl, ?_⟩; refine sH ?_
          exact AEX.outR [4, 8, 3] rfl rfl rfl ⟨j', by rw [hj'], rfl, rfl⟩
        rintro r H' ⟨v, j', hj', rfl, rfl⟩
        rw [hj']
        simp only
        refine ⟨rfl, ?_⟩; refine sH ?_
        refine AQ.go (by kernel_rfl) ?_
        refine sI ?_
        refine AQ.nx rfl ?_
        refine sI ?_
        refine AQ.go (by kernel_rfl) ?_
        refine sI ?_
        refine AQ.nx rfl ?_
        refine sI ?_
        refine AQ.rename 11 2 rfl rfl rfl ?_; refine sI ?_
        refine AQ.kill 8 ?_
        refine sI ?_
        refine AQ.append (hnb := rfl) (rows := [[Ii u.k, Si u.nm, .sl 3 (tmR u.ts), .sl 4 (fmR u.ps)]]) (es := 3) (by kernel_rfl) rfl rfl rfl (by rfl) Tryz.tk22 Tryz.sz27 (by show Option.map _ (zro Tryz.prog 27) = _; rw [Tryz.zr27]; rfl) Tryz.by27 (by first | rfl | (simp only [List.length_cons, List.length_nil]; done) | (simp only [List.length_cons, List.length_nil]; omega)) (by simp only [List.length_cons, List.length_nil]; omega) (by simp only [List.length_cons, List.length_nil]; omega) ?_
        refine sI ?_
        refine AQ.nx rfl ?_
        refine sI ?_
        refine AQ.go (by kernel_rfl) ?_
        refine sI ?_
        refine AQ.nx rfl ?_
        refine sI ?_
        refine AQ.done ?_
        refine sI ?_
        have e2 : [[Ii u.k, Si u.nm, IV.sl 3 (tmR u.ts), IV.sl 4 (fmR u.ps)], [IV.v (Value.int .i64 v.k), IV.v (Value.string (BA v.nm)), IV.sl 3 (tmR v.ts), IV.sl 4 (fmR v.ps)]] = fmR [u, v] := by rw [fmR, fmR, fmR, fmC_eq u, fmC_eq v]
        rw [e2]
        refine AE.freeze 8 (el := 27) (es := 4) (rows := fmR [u, v]) rfl (by simp only [go_sem, Nat.reduceAdd, Nat.reduceLeDiff, Nat.reduceSub, Int.reduceToNat, reduceCtorEq, fmR_len]; first | done | trivial | omega | (simp; done) | (simp; omega)) (by simp only [go_sem, Nat.reduceAdd, Nat.reduceLeDiff, Nat.reduceSub, Int.reduceToNat, reduceCtorEq, fmR_len]; first | done | trivial | omega | (simp; done) | (simp; omega)) ?_; simp only [go_sem, Nat.reduceAdd, Nat.reduceLeDiff, Nat.reduceSub, Int.reduceToNat, reduceCtorEq, fmR_len]
        rw [show List.take 2 (fmR [u, v]) = fmR [u, v] from List.take_of_length_le (by rw [fmR_len]; exact Nat.le_refl _)]
        refine gO ?_
        refine AE.order [0, 2, 3, 4] rfl ?_
        simp only [go_sem, Nat.reduceAdd, Nat.reduceLeDiff, Nat.reduceSub, Int.reduceToNat, reduceCtorEq, reorder]
        refine AE.cellsW 3 [_, _, .im (.sl 3 []), .im (.sl 4 (fmR [u, v]))] rfl (cellsLe.cons (cellsLe.cons (cellsLe.nil (cellsLe.cons (cellsLe.refl _))))) ?_
        refine sI ?_
        exact AE.retD [4, 3] rfl ⟨⟨rfl, Nat.le_of_ble_eq_true (by kernel_rfl)⟩, trivial⟩ rfl ⟨_, j', rfl, rfl, rfl⟩
    · have hnm := name_spec L e (i + 1) ns (by omega) hL
      have hsl := hL.get (i + 1)
      have hf1 := fun hlt2 : i + 1 < L.length => ih (ns ++ [tkS L (i + 1)]) (i + 2) (by simp) (by omega) (by omega) (by omega)
      obtain ⟨s, hs1⟩ : ∃ s, tkS L (i + 1) = s := ⟨_, rfl⟩
      have hin : ¬ isNm s = false → i + 1 < L.length := fun h => isNm_in (by rw [hs1]; exact h)
      rw [hs1] at hnm hsl hf1 ⊢
      have hls : (ns ++ [s]).length = ns.length + 1 := by simp
      have w1 : IntKind.i64.wrap (((ns ++ [s]).length : Int) - 1) = (ns.length : Int) := by rw [hls, wr (by omega)]; omega
      rcases h with h | h <;> subst h
      all_goals
        rw [if_pos (by decide)]
        refine gE @hw ?_
        refine AP.drawE 12 (Tree.node [] [0, 1, 2, 3, 4, 5] [6] [Tree.node [0, 1, 2, 3, 4] [] [7] [Tree.node [0, 1, 2, 3, 4] [] [8] [Tree.node [0] [9, 10] [11] [Tree.node [] [] [] []]]]]) (by kernel_rfl) rfl (by kernel_rfl) (by kernel_rfl) ?_
        refine vd_node ?_
        refine sI ?_
        refine AQ.callHX [(0, 0), (1, 2)] (by kernel_rfl) rfl rfl rfl rfl rfl rfl (by exact ⟨rfl, rfl, trivial⟩) rfl hnm ?_ ?_
        · rintro r H' ⟨h, rfl, rfl⟩
          refine ⟨rfl, ?_⟩; refine sH ?_
          exact AEX.outR [4, 3] rfl rfl rfl ⟨i + 1, by rw [if_pos h], rfl, rfl⟩
        rintro r H' ⟨h, rfl, rfl⟩
        have hnf : ¬ isNm s = false := by rw [h]; simp
        have hf1 := hf1 (hin hnf)
        rw [if_neg hnf]
        refine ⟨rfl, ?_⟩; refine sH ?_
        refine AQ.go (by kernel_rfl) ?_
        refine sI ?_
        refine AQ.nx rfl ?_
        refine sI ?_
        refine AQ.go (by kernel_rfl) ?_
        refine sI ?_
        refine AQ.nx rfl ?_
        refine sI ?_
        refine AQ.kill 2 ?_
        refine sI ?_
        refine AQ.append (hnb := rfl) (rows := stR ns) (es := 0) (by kernel_rfl) rfl rfl rfl (by rfl) Tryz.tk67 Tryz.sz9 (by show Option.map _ (zro Tryz.prog 9) = _; rw [Tryz.zr9]; rfl) Tryz.by9 (by first | rfl | (simp only [stR_len, List.length_cons, List.length_nil]; done) | (simp only [stR_len, List.length_cons, List.length_nil]; omega)) (by simp only [stR_len, List.length_cons, List.length_nil]; omega) (by simp only [stR_len, List.length_cons, List.length_nil]; omega) ?_
        refine sE @stR_len ?_
        rw [stR_snc, ← hls]
        refine AQ.nx rfl ?_
        refine sI ?_
        refine AQ.go (by kernel_rfl) ?_
        refine sI ?_
        refine AQ.nx rfl ?_
        refine sI ?_
        refine AQ.done ?_
        refine sI ?_
        refine gO ?_
        refine AQ.callHX [(0, 0), (1, 2)] (by kernel_rfl) rfl rfl rfl rfl rfl rfl (by exact ⟨rfl, rfl, trivial⟩) rfl hf1 ?_ ?_
        · rintro r H' ⟨j, hj, rfl, rfl⟩
          refine ⟨rfl, ?_⟩; refine sH ?_
          exact AEX.out [4, 3] rfl rfl ⟨j, by rw [hj], rfl, rfl⟩
        rintro r H' ⟨u, j, hj, rfl, rfl⟩
        rw [hj]
        simp only
        refine ⟨rfl, ?_⟩; refine sH ?_
        refine AQ.go (by kernel_rfl) ?_
        refine sI ?_
        refine gO ?_
        refine AP.drawE 15 (Tree.node [] [0, 1, 2, 3, 4, 5, 6, 7, 8, 9, 10, 11, 12, 13] [14] [Tree.node [] [] [] []]) (by kernel_rfl) rfl (by kernel_rfl) (by kernel_rfl) ?_
        refine vd_node ?_
        refine sE @w1 ?_
        refine ⟨⟨by omega, by omega⟩, ?_⟩
        refine AQ.go (by kernel_rfl) ?_
        refine sI ?_
        refine AQ.nx rfl ?_
        refine sI ?_
        refine AQ.done ?_
        refine sI ?_
        refine AE.trunc 7 ns.length rfl ?_
        refine sI ?_
        rw [show (stR (ns ++ [s])).take ns.length = stR ns by rw [stR_take]; simp]
        refine AE.rename 7 2 rfl rfl rfl ?_; refine sI ?_
        have e2 : [[IV.v (Value.int .i64 u.k), IV.v (Value.string (BA u.nm)), IV.sl 3 (tmR u.ts), IV.sl 4 (fmR u.ps)]] = fmR [u] := by rw [fmR, fmR, fmC_eq u]
        rw [e2]
        refine gO ?_
        refine AE.order [0, 2, 3, 4] rfl ?_
        simp only [go_sem, Nat.reduceAdd, Nat.reduceLeDiff, Nat.reduceSub, Int.reduceToNat, reduceCtorEq, reorder]
        refine AE.cellsW 3 [_, _, .im (.sl 3 []), .im (.sl 4 (fmR [u]))] rfl (cellsLe.cons (cellsLe.cons (cellsLe.nil (cellsLe.cons (cellsLe.refl _))))) ?_
        refine sI ?_
        exact AE.retD [4, 3] rfl ⟨⟨rfl, Nat.le_of_ble_eq_true (by kernel_rfl)⟩, trivial⟩ rfl ⟨_, j, rfl, rfl, rfl⟩
end Go.Proofs.YteacpafhmgdbkaaGreatDoor
end

section
namespace Go.Proofs.YteacpafhmgdbkaaGreatDoor
open Go Go.AL Go.RowKit
set_option maxRecDepth 10000
set_option maxHeartbeats 4000000
theorem mkT_S {ns : List Nm} {s : Nm} {l : List Tm} (hs : s.length ≤ 100000) (hl : l.length ≤ 1000000) (h : tmsS l) : szT (mkT ns s l) ≤ 1 + szTs l ∧ tmS (mkT ns s l) := by
  have h1 : szT (.mk s 0 l) ≤ 1 + szTs l ∧ tmS (.mk s 0 l) := by
    rw [szT, tmS]; exact ⟨Nat.le_refl _, by omega, by omega, h⟩
  unfold mkT
  split
  · rename_i e
    subst e
    split
    · rw [szT, tmS, szTs]; exact ⟨Nat.le_refl _, by simp, by simp, by rw [tmsS]; trivial⟩
    · exact h1
  · exact h1
theorem pTs_S {L : List Tok} (hL : tkOk L) (ns : List Nm) : ∀ f, (∀ i t j, pT L ns f i = .ok t j → i ≤ L.length → szT t + i ≤ j ∧ tmS t) ∧ (∀ b i l j, pTs L ns f b i = .ok l j → i ≤ L.length → szTs l + i + 1 ≤ j ∧ tmsS l)
  | 0 => ⟨fun i t j h => (by rw [pT] at h; cases h), fun b i l j h => (by rw [pTs] at h; cases h)⟩
  | f + 1 => by
    obtain ⟨h1, h2⟩ := pTs_S hL ns f
    refine ⟨fun i t j h hi => ?_, fun b i l j h hi => ?_⟩
    · rw [pT] at h
      split at h
      · cases h
      · rename_i hn
        have hlt := isNm_in hn
        have hs := hL.get i
        split at h
        · rename_i ho
          have hlt2 : i + 1 < L.length := tkS_in (by rw [ho]; simp)
          have hgt := pTs_gt (L := L) (ns := ns) (f := f) (b := true) (show i + 2 ≤ L.length by omega)
          cases hq : pTs L ns f true (i + 2) with
          | bad k => rw [hq] at h; cases h
          | ok l k =>
            rw [hq] at h hgt
            cases h
            obtain ⟨a1, a2⟩ := h2 true (i + 2) l _ hq (by omega)
            have hlen := szTs_len l
            have hl := hL.1
            have := hgt.2
            obtain ⟨b1, b2⟩ := mkT_S (ns := ns) hs (by omega) a2
            exact ⟨by omega, b2⟩
        · cases h
          obtain ⟨b1, b2⟩ := mkT_S (ns := ns) (l := []) hs (by simp) (by rw [tmsS]; trivial)
          rw [szTs] at b1
          exact ⟨by omega, b2⟩
    · rw [pTs] at h
      split at h
      · cases h
        rw [szTs, tmsS]; exact ⟨by omega, trivial⟩
      · have hgt := pT_gt (L := L) (ns := ns) (f := f) hi
        cases hq : pT L ns f i with
        | bad k => rw [hq] at h; cases h
        | ok t k =>
          rw [hq] at h hgt
          simp only at h
          cases hq2 : pTs L ns f false k with
          | bad k2 => rw [hq2] at h; cases h
          | ok l2 k2 =>
            rw [hq2] at h
            cases h
            obtain ⟨a1, a2⟩ := h1 i t k hq hi
            obtain ⟨b1, b2⟩ := h2 false k l2 j hq2 hgt.2
            rw [szTs, tmsS]
            exact ⟨by omega, a2, b2⟩
theorem pL_S {L : List Tok} (hL : tkOk L) {ns : List Nm} {f i : Nat} {l : List Tm} {j : Nat} (h : pL L ns f i = .ok l j) (hi : i ≤ L.length) : szTs l + i ≤ j ∧ tmsS l := by
  rw [pL] at h
  split at h
  · rename_i ho
    have hlt : i < L.length := tkS_in (by rw [ho]; simp)
    obtain ⟨a, b⟩ := (pTs_S hL ns f).2 true (i + 1) l j h (by omega)
    exact ⟨by omega, b⟩
  · cases h
    rw [szTs, tmsS]; exact ⟨by omega, trivial⟩
theorem pF_S {L : List Tok} (hL : tkOk L) : ∀ (f : Nat) (ns : List Nm) (i : Nat) (F : Fm) (j : Nat), pF L f ns i = .ok F j → i ≤ L.length → szF F + i ≤ j ∧ fmS F
  | 0, ns, i, F, j, h, _ => by rw [pF] at h; cases h
  | f + 1, ns, i, F, j, h, hi => by
    have hl := hL.1
    rw [pF] at h
    split at h
    · split at h
      · cases h
      · rename_i hn
        have hlt := isNm_in hn
        have hs := hL.get i
        have hgt := pL_ge (L := L) (ns := ns) (f := f) (show i + 1 ≤ L.length by omega)
        cases hq : pL L ns f (i + 1) with
        | bad k => rw [hq] at h; cases h
        | ok l k =>
          rw [hq] at h hgt
          cases h
          obtain ⟨a, b⟩ := pL_S hL hq (by omega)
          have := szTs_len l
          have := hgt.2
          rw [szF, szFs, fmS, fmsS]
          exact ⟨by omega, by omega, by omega, b, by simp, trivial⟩
    · rename_i hk
      have hlt := sgK_in hk
      split at h
      · have hgt := pT_gt (L := L) (ns := ns) (f := f) (show i + 1 ≤ L.length by omega)
        cases hq : pT L ns f (i + 1) with
        | bad k => rw [hq] at h; cases h
        | ok a k =>
          rw [hq] at h hgt
          simp only at h
          cases hq2 : pT L ns f k with
          | bad k2 => rw [hq2] at h; cases h
          | ok b k2 =>
            rw [hq2] at h
            cases h
            obtain ⟨a1, a2⟩ := (pTs_S hL ns f).1 (i + 1) a k hq (by omega)
            obtain ⟨b1, b2⟩ := (pTs_S hL ns f).1 k b j hq2 hgt.2
            rw [szF, szFs, szTs, szTs, szTs, fmS, fmsS, tmsS, tmsS, tmsS]
            exact ⟨by omega, by simp, by simp, ⟨a2, b2, trivial⟩, by simp, trivial⟩
      · split at h
        · cases h
          rw [szF, szFs, szTs, fmS, fmsS, tmsS]
          exact ⟨by omega, by simp, by simp, trivial, by simp, trivial⟩
        · split at h
          · split at h
            · cases h
            · rename_i hn
              have hlt2 := isNm_in hn
              cases hq : pF L f (ns ++ [tkS L (i + 1)]) (i + 2) with
              | bad k => rw [hq] at h; cases h
              | ok p k =>
                rw [hq] at h
                cases h
                obtain ⟨a1, a2⟩ := pF_S hL f _ _ _ _ hq (by omega)
                rw [szF, szFs, szFs, szTs, fmS, fmsS, fmsS, tmsS]
                exact ⟨by omega, by simp, by simp, trivial, by simp, a2, trivial⟩
          · have hgt := pF_gt (L := L) (f := f) (ns := ns) (show i + 1 ≤ L.length by omega)
            cases hq : pF L f ns (i + 1) with
            | bad k => rw [hq] at h; cases h
            | ok a k =>
              rw [hq] at h hgt
              simp only at h
              cases hq2 : pF L f ns k with
              | bad k2 => rw [hq2] at h; cases h
              | ok b k2 =>
                rw [hq2] at h
                cases h
                obtain ⟨a1, a2⟩ := pF_S hL f _ _ _ _ hq (by omega)
                obtain ⟨b1, b2⟩ := pF_S hL f _ _ _ _ hq2 hgt.2
                rw [szF, szFs, szFs, szFs, szTs, fmS, fmsS, fmsS, fmsS, tmsS]
                exact ⟨by omega, by simp, by simp, trivial, by simp, a2, b2, trivial⟩
end Go.Proofs.YteacpafhmgdbkaaGreatDoor
end

section
namespace Go.Proofs.YteacpafhmgdbkaaGreatDoor
open Go Go.AL Go.RowKit
set_option maxRecDepth 10000
set_option maxHeartbeats 4000000
theorem rform_spec (L : List Tok) (e : Int) (hL : tkOk L) : ∀ (f i : Nat) (ns : List Nm), i ≤ L.length → ns.length + (L.length - i) ≤ 800000 → 2 * (L.length - i) + 1 ≤ f →
    ACallX Tryz.prog 89 [.ob 0 0] (rdH 1 L e i ns) (RdR fmV (pF L f ns i) L e ns 2) (RdX (pF L f ns i) L e)
  | 0, i, ns, _, _, hf => by omega
  | f + 1, i, ns, hi, hn, hf => form_walk L e ns hL (by omega) f i hi hf fun ns' i' h1 h2 h3 h4 => rform_spec L e hL f i' ns' h3 (by omega) h4
abbrev paH (a : List AV) (b e : Int) : Heap := [(2, .var 34 [Iv e]), (1, .var 3 [Iv b]), (0, .var 27 a)]
theorem parse1_none (a : List AV) (b e : Int) : ADef Tryz.prog 88 [.ob 0 0, .ob 1 0, .ob 2 0] (paH a b e) none (fun H' => H' = paH a b e) := by
  refine ADef.walk [0, 1, 2, 3, 4, 5, 8, 15] [4] Tryz.func88 rfl Tryz.ntmps88 ⟨rfl, rfl, rfl⟩ ⟨rfl, rfl, rfl⟩ rfl (by kernel_rfl) (by rfl) rfl fun W own I0 φ0 lay => ?_
  simp only [go_sem, Nat.reduceAdd, Nat.reduceLeDiff, Nat.reduceSub, Int.reduceToNat, reduceCtorEq, recAV]
  refine gO ?_
  exact AE.retQ [] (.inr rfl) rfl rfl trivial rfl rfl
theorem parse1_some (c1 c2 c3 c4 : AV) (x b e0 : Int) : ADef Tryz.prog 88 [.ob 0 0, .ob 1 0, .ob 2 0] (paH [c1, c2, c3, c4] b e0) (some (misV x)) (fun H' => H' = paH fF x 2) := by
  refine ADef.walk [0, 1, 2, 3, 4, 5, 8, 15] [4] Tryz.func88 rfl Tryz.ntmps88 ⟨rfl, rfl, rfl⟩ ⟨rfl, rfl, rfl⟩ rfl (by kernel_rfl) (by rfl) rfl fun W own I0 φ0 lay => ?_
  simp only [go_sem, Nat.reduceAdd, Nat.reduceLeDiff, Nat.reduceSub, Int.reduceToNat, reduceCtorEq, recAV]
  refine gO ?_
  refine AQ.assertYes (by kernel_rfl) rfl rfl ?_; refine sI ?_
  refine gO ?_
  refine AP.drawE 6 (Tree.node [] [0, 1, 2] [3] [Tree.node [1, 2] [] [4] [Tree.node [] [] [5] [Tree.node [] [] [] []]]]) (by kernel_rfl) rfl (by kernel_rfl) (by kernel_rfl) ?_
  refine vd_node ?_
  simp only [go_sem, Nat.reduceAdd, Nat.reduceLeDiff, Nat.reduceSub, Int.reduceToNat, reduceCtorEq, paH]
  repeat' (first | with_reducible exact True.intro | with_reducible refine And.intro (by omega) ?_ | with_reducible refine And.intro ?_ ?_ | (refine AQ.nx rfl ?_; refine sI ?_) | (fail) | refine AQ.done ?_ | (refine AQ.go (by kernel_rfl) ?_; refine sI ?_; repeat (with_reducible refine And.intro (by omega) ?_); refine AQ.nx rfl ?_; refine sI ?_))
  all_goals
    refine gO ?_
    refine AE.cellsW 0 fF rfl (cellsLe.cons (cellsLe.cons (cellsLe.nil (cellsLe.nil (cellsLe.refl _))))) ?_
    refine sI ?_
    exact AE.retQ [3] (.inr rfl) rfl rfl trivial rfl rfl
def paV (q : Fm × Int × Int) : AV := .tup [fmV q.1, Iv q.2.1, Iv q.2.2]
theorem scanT_ok (t : List UInt8) (ht : t.length ≤ 40000) (htl : (toks t 0).length ≤ 8000) : tkOk (scanT t) ∧ (scanT t).length ≤ 8000 := by
  have hlen : ∀ (l : List UInt8) (o : Nat), ∀ x ∈ toks l o, x.1.length ≤ l.length := by
    intro l
    induction l with
    | nil => intro o x hx; simp [toks] at hx
    | cons b l ih =>
      intro o x hx
      rw [toks] at hx
      split at hx
      · have := ih _ x hx; simp only [List.length_cons]; omega
      · have h2 : ∀ x ∈ toks l (o + 1), x.1.length ≤ l.length := fun x hx => ih (o + 1) x hx
        revert hx h2
        generalize toks l (o + 1) = r
        intro hx h2
        cases l with
        | nil => simp [push] at hx; rw [hx]; simp
        | cons c l =>
          cases r with
          | nil =>
            have e : push b o (c :: l) [] = if sp c then [([b], o)] else [] := rfl
            rw [e] at hx
            split at hx
            · have : x = ([b], o) := by simpa using hx
              rw [this]; simp
            · cases hx
          | cons y r =>
            have e : push b o (c :: l) (y :: r) = if sp c then ([b], o) :: y :: r else (b :: y.1, o) :: r := rfl
            rw [e] at hx
            have hy := h2 y (List.mem_cons_self ..)
            by_cases hs : sp c = true
            · rw [if_pos hs] at hx
              rcases List.mem_cons.1 hx with hx | hx
              · rw [hx]; simp
              · have := h2 x hx; simp only [List.length_cons] at this ⊢; omega
            · rw [if_neg hs] at hx
              rcases List.mem_cons.1 hx with hx | hx
              · rw [hx]; simp only [List.length_cons] at hy ⊢; omega
              · have := h2 x (List.mem_cons_of_mem _ hx); simp only [List.length_cons] at this ⊢; omega
  unfold scanT
  split
  · exact ⟨⟨by simp, fun x hx => by cases hx⟩, by simp⟩
  · split
    · exact ⟨⟨by omega, fun x hx => by have := hlen t 0 x hx; omega⟩, htl⟩
    · exact ⟨⟨by simp, fun x hx => by cases hx⟩, by simp⟩
theorem parse_walk (t : List UInt8) (ht : t.length ≤ 40000) (htl : (toks t 0).length ≤ 8000) : ACallX Tryz.prog 35 [Sv t] [] (fun r H' => r = paV (paF t) ∧ H' = []) (fun _ _ => False) := by
  obtain ⟨hok, hlen⟩ := scanT_ok t ht htl
  have hb4 : (Nat.beq 0 4 || (Nat.beq 1 4 || Nat.beq 2 4)) = false := rfl
  have hsc := scan1 t ht htl
  obtain ⟨q, hq⟩ : ∃ q, paF t = q := ⟨_, rfl⟩
  rw [hq]
  unfold paF at hq
  have hfm := rform_spec (scanT t) t.length hok (2 * (scanT t).length + 1) 0 [] (by omega) (by simp; omega) (by omega)
  generalize scanT t = L at *
  generalize scanA t = A at *
  generalize scanE t = E at *
  refine ACallX.walkD [0, 2, 3, 4, 5, 6, 7, 15, 19, 33, 39] [2, 3, 4, 24] Tryz.func35 rfl Tryz.ntmps35 (by kernel_rfl) (by rfl) rfl fun W own I0 φ0 lay => ?_
  refine gO ?_
  refine AQ.fn (by kernel_rfl) rfl rfl rfl (hsc) rfl ?_
  refine gO ?_
  refine AP.cond rfl rfl (fun h => ?_) (fun h => ?_)
  · have h : E ≠ 0 := by simpa using h
    rw [if_pos h] at hq
    subst hq
    refine gO ?_
    refine AP.drawE 6 (Tree.node [] [0, 1, 2] [3] [Tree.node [1, 2] [] [4] [Tree.node [2] [] [5] [Tree.node [] [] [] []]]]) (by kernel_rfl) rfl (by kernel_rfl) (by kernel_rfl) ?_
    refine vd_node ?_
    refine sI ?_
    repeat' (first | with_reducible exact True.intro | with_reducible refine And.intro (by omega) ?_ | with_reducible refine And.intro ?_ ?_ | (refine AQ.nx rfl ?_; refine sI ?_) | (fail) | refine AQ.done ?_ | (refine AQ.go (by kernel_rfl) ?_; refine sI ?_; repeat (with_reducible refine And.intro (by omega) ?_); refine AQ.nx rfl ?_; refine sI ?_))
    all_goals
      refine gO ?_
      refine AE.cellsW 0 fF rfl (cellsLe.cons (cellsLe.cons (cellsLe.nil (cellsLe.nil (cellsLe.refl _))))) ?_
      refine sI ?_
      exact AE.leaveN (.inl rfl) rfl <| LV.retD [2, 1, 0] rfl ⟨⟨rfl, Nat.le_of_ble_eq_true (by kernel_rfl)⟩, ⟨rfl, Nat.le_of_ble_eq_true (by kernel_rfl)⟩, ⟨rfl, Nat.le_of_ble_eq_true (by kernel_rfl)⟩, trivial⟩ rfl ⟨rfl, rfl⟩
  · have h : ¬ E ≠ 0 := by simpa using h
    rw [if_neg h] at hq
    refine sI ?_
    refine xA ?_
    refine AP.regionD rfl rfl ?_
    refine AQ.go1 (by kernel_rfl) rfl rfl ?_ ?_
    · simp only [go_sem]
      done
    refine sI ?_
    refine AQ.defer rfl rfl rfl fun u => ?_
    refine sI ?_
    refine gO ?_
    refine AQ.ownCell 3 3 9 1 rfl rfl ?_
    refine sI ?_
    refine AQ.callHX [(0, 3), (1, 4)] (by kernel_rfl) rfl rfl rfl rfl rfl rfl (by exact ⟨rfl, rfl, trivial⟩) rfl hfm ?_ ?_
    · rintro r H' ⟨j, hj, rfl, rfl⟩
      rw [hj] at hq
      refine ⟨rfl, ?_⟩
      refine sG @hb4 ?_
      refine AEX.leaveD [(2, 2), (1, 1), (0, 0)] (K' := [_]) (t := 19) (Hc := paH [Iv 0, Sv [], nilV, nilV] A E) rfl rfl rfl rfl rfl (by exact ⟨rfl, rfl, rfl, trivial⟩) rfl (parse1_some _ _ _ _ _ _ _) rfl ?_ rfl
      rintro H1 rfl
      refine ⟨rfl, ?_⟩
      refine sH ?_
      subst hq
      exact LV.retD [3, 2, 1, 0] rfl ⟨⟨rfl, Nat.le_of_ble_eq_true (by kernel_rfl)⟩, ⟨rfl, Nat.le_of_ble_eq_true (by kernel_rfl)⟩, ⟨rfl, Nat.le_of_ble_eq_true (by kernel_rfl)⟩, trivial⟩ rfl ⟨by simp only [paV, offA]; split <;> rfl, rfl⟩
    · rintro r H' ⟨g, j, hj, rfl, rfl⟩
      rw [hj] at hq
      simp only at hq
      refine ⟨rfl, ?_⟩
      refine sG @hb4 ?_
      refine AQ.go (by kernel_rfl) ?_
      refine sI ?_
      have hgt := pF_gt (L := L) (f := 2 * L.length + 1) (ns := []) (show 0 ≤ L.length by omega)
      rw [hj] at hgt
      have hrf := rfail_spec L t.length j [] (by have := hgt.2; omega) hok
      refine AQ.rename 7 4 rfl rfl rfl ?_; refine sI ?_
      refine gE @tokRows_len ?_
      refine AP.cond rfl rfl (fun h2 => ?_) (fun h2 => ?_)
      · have h2 : j < L.length := by simp only [decide_eq_true_eq] at h2; omega
        rw [if_pos h2] at hq
        refine gO ?_
        refine AQ.callHX [(0, 3), (1, 4)] (by kernel_rfl) rfl rfl rfl rfl rfl rfl (by exact ⟨rfl, rfl, trivial⟩) rfl hrf ?_ ?_
        · rintro r H' ⟨rfl, rfl⟩
          refine ⟨rfl, ?_⟩; refine sH ?_
          refine AEX.leaveD [(2, 2), (1, 1), (0, 0)] (K' := [_]) (t := 19) (Hc := paH [Iv g.k, Sv g.nm, .im (.sl 3 (tmR g.ts)), .im (.sl 4 (fmR g.ps))] A E) rfl rfl rfl rfl rfl (by exact ⟨rfl, rfl, rfl, trivial⟩) rfl (parse1_some _ _ _ _ _ _ _) rfl ?_ rfl
          rintro H1 rfl
          refine ⟨rfl, ?_⟩
          refine sH ?_
          subst hq
          exact LV.retD [3, 2, 1, 0] rfl ⟨⟨rfl, Nat.le_of_ble_eq_true (by kernel_rfl)⟩, ⟨rfl, Nat.le_of_ble_eq_true (by kernel_rfl)⟩, ⟨rfl, Nat.le_of_ble_eq_true (by kernel_rfl)⟩, trivial⟩ rfl ⟨by simp only [paV, offA]; rw [if_pos h2]; rfl, rfl⟩
        · rintro r H' hc
          exact hc.elim
      · have h2 : ¬ j < L.length := by simp only [decide_eq_false_iff_not] at h2; omega
        rw [if_neg h2] at hq
        obtain ⟨_, hgS⟩ := pF_S hok _ _ _ _ _ hj (by omega)
        refine gO ?_
        refine AQ.fn (by kernel_rfl) rfl rfl rfl (well_at g hgS) rfl ?_
        refine gO ?_
        refine AP.cond rfl rfl (fun h3 => ?_) (fun h3 => ?_)
        · have h3 : ¬ unF g 0 = 0 := by simpa using h3
          rw [if_neg h3] at hq
          subst hq
          refine gO ?_
          refine AE.cellsW 0 fF rfl (cellsLe.cons (cellsLe.cons (cellsLe.nil (cellsLe.nil (cellsLe.refl _))))) ?_
          refine sI ?_
          refine AE.leaveD [(2, 2), (1, 1), (0, 0)] (t := 19) (Hc := paH fF 0 (unF g 0)) (.inl rfl) rfl rfl rfl rfl rfl (by exact ⟨rfl, rfl, rfl, trivial⟩) rfl (parse1_none _ _ _) ?_
          rintro H1 rfl
          refine ⟨rfl, ?_⟩
          refine sH ?_
          exact LV.retD [3, 4, 2, 1, 0] rfl ⟨⟨rfl, Nat.le_of_ble_eq_true (by kernel_rfl)⟩, ⟨rfl, Nat.le_of_ble_eq_true (by kernel_rfl)⟩, ⟨rfl, Nat.le_of_ble_eq_true (by kernel_rfl)⟩, trivial⟩ rfl ⟨rfl, rfl⟩
        · have h3 : unF g 0 = 0 := by simpa using h3
          rw [if_pos h3] at hq
          subst hq
          refine gO ?_
          refine AE.leaveD [(2, 2), (1, 1), (0, 0)] (t := 19) (Hc := paH [Iv g.k, Sv g.nm, .im (.sl 3 (tmR g.ts)), .im (.sl 4 (fmR g.ps))] 0 0) (.inl rfl) rfl rfl rfl rfl rfl (by exact ⟨rfl, rfl, rfl, trivial⟩) rfl (parse1_none _ _ _) ?_
          rintro H1 rfl
          refine ⟨rfl, ?_⟩
          refine sH ?_
          exact LV.retD [3, 4, 2, 1, 0] rfl ⟨⟨rfl, Nat.le_of_ble_eq_true (by kernel_rfl)⟩, ⟨rfl, Nat.le_of_ble_eq_true (by kernel_rfl)⟩, ⟨rfl, Nat.le_of_ble_eq_true (by kernel_rfl)⟩, trivial⟩ rfl ⟨rfl, rfl⟩
end Go.Proofs.YteacpafhmgdbkaaGreatDoor
end

section
namespace Go.Proofs.YteacpafhmgdbkaaGreatDoor
open Go Go.AL Go.RowKit
set_option maxRecDepth 10000
set_option maxHeartbeats 4000000
end Go.Proofs.YteacpafhmgdbkaaGreatDoor
end

section
namespace Go.Proofs.YteacpafhmgdbkaaGreatDoor
open Go Go.AL Go.RowKit
set_option maxRecDepth 10000
set_option maxHeartbeats 4000000
end Go.Proofs.YteacpafhmgdbkaaGreatDoor
end

section
namespace Go.Proofs.YteacpafhmgdbkaaGreatDoor
open Go Go.AL Go.RowKit
set_option maxRecDepth 10000
set_option maxHeartbeats 4000000
end Go.Proofs.YteacpafhmgdbkaaGreatDoor
end

section
namespace Go.Proofs.YteacpafhmgdbkaaGreatDoor
open Go Go.AL Go.RowKit
set_option maxRecDepth 10000
set_option maxHeartbeats 4000000
end Go.Proofs.YteacpafhmgdbkaaGreatDoor
end

section
namespace Go.Proofs.YteacpafhmgdbkaaGreatDoor
open Go Go.AL Go.RowKit
set_option maxRecDepth 10000
set_option maxHeartbeats 4000000
def fin (p : List Int) (f : Fm) : Rs := chk (unF f 0 == 0) p 15 (.ok f)
end Go.Proofs.YteacpafhmgdbkaaGreatDoor
end

section
namespace Go.Proofs.YteacpafhmgdbkaaGreatDoor
open Go Go.AL Go.RowKit
set_option maxRecDepth 10000
set_option maxHeartbeats 4000000
end Go.Proofs.YteacpafhmgdbkaaGreatDoor
end

section
namespace Go.Proofs.YteacpafhmgdbkaaGreatDoor
open Go Go.AL Go.RowKit
set_option maxRecDepth 10000
set_option maxHeartbeats 4000000
end Go.Proofs.YteacpafhmgdbkaaGreatDoor
end

section
namespace Go.Proofs.YteacpafhmgdbkaaGreatDoor
open Go Go.AL Go.RowKit
set_option maxRecDepth 10000
set_option maxHeartbeats 4000000
end Go.Proofs.YteacpafhmgdbkaaGreatDoor
end

section
namespace Go.Proofs.YteacpafhmgdbkaaGreatDoor
open Go Go.AL Go.RowKit
set_option maxRecDepth 10000
set_option maxHeartbeats 4000000
end Go.Proofs.YteacpafhmgdbkaaGreatDoor
end

section
namespace Go.Proofs.YteacpafhmgdbkaaGreatDoor
open Go Go.AL Go.RowKit
set_option maxRecDepth 10000
set_option maxHeartbeats 4000000
end Go.Proofs.YteacpafhmgdbkaaGreatDoor
end

section
namespace Go.Proofs.YteacpafhmgdbkaaGreatDoor
open Go Go.AL Go.RowKit
set_option maxRecDepth 10000
set_option maxHeartbeats 4000000
end Go.Proofs.YteacpafhmgdbkaaGreatDoor
end

section
namespace Go.Proofs.YteacpafhmgdbkaaGreatDoor
open Go Go.AL Go.RowKit
set_option maxRecDepth 10000
set_option maxHeartbeats 4000000
def smallB (l : List Fm) : Bool := (bFs l 0 400).1
theorem small1_walk (u : Fm) (m : Int) (hu : fmS u) (hm : -1000000 ≤ m ∧ m ≤ 1000000) : ACall Tryz.prog 63 [fmV u, .ob 1 0] (BH m) (fun r H' => r = Bv (!(bF u 0 m).1) ∧ H' = BH (bF u 0 m).2) := by
  have ih := bform_spec u 0 m hu (by omega) hm
  refine ACall.walk [0, 1, 2, 3] [] Tryz.func63 rfl Tryz.ntmps63 (by kernel_rfl) (by rfl) rfl fun W own I0 φ0 lay => ?_
  refine gO ?_
  refine AQ.callH [(0, 0)] (by kernel_rfl) rfl rfl rfl rfl rfl rfl (by exact ⟨rfl, trivial⟩) rfl ih ?_
  rintro r H' ⟨rfl, rfl⟩
  refine ⟨rfl, ?_⟩
  refine sG @BH.eq_1 ?_
  refine gO ?_
  exact AE.ret rfl ⟨rfl, trivial⟩ ⟨rfl, rfl⟩
theorem small_spec (l : List Fm) (hl : l.length ≤ 9223372036854775807) (hs : fmsS l) : PFn Tryz.prog 22 [.im (.sl 4 (fmR l))] (Bv (smallB l)) := by
  have hc := containsF_walk 63 [] (fun t m => (!(bF t 0 m).1, (bF t 0 m).2)) l 400 hl (fun m => 0 ≤ m ∧ m ≤ 1000000) (by omega) (fun k t m ht hm h => bF_bnd t 0 m hm.1 hm.2 (by simpa using h)) (fun k t m ht hm => small1_walk t m (fmsS_get hs ht) (by omega))
  have hr := bFs_run 0 l 400
  have hb : smallB l = !(runS (fun t m => (!(bF t 0 m).1, (bF t 0 m).2)) l 400).1 := by rw [smallB, hr]
  rw [hb]
  generalize runS (fun t m => (!(bF t 0 m).1, (bF t 0 m).2)) l 400 = q at *
  refine ACall.walk [0, 2, 3] [3, 5] Tryz.func22 rfl Tryz.ntmps22 (by kernel_rfl) (by rfl) rfl fun W own I0 φ0 lay => ?_
  refine gO ?_
  refine AQ.callH [(1, 1), (0, 0)] (by kernel_rfl) rfl rfl rfl rfl rfl rfl (by exact ⟨rfl, rfl, trivial⟩) rfl hc ?_
  rintro r H' ⟨rfl, rfl⟩
  refine ⟨rfl, ?_⟩
  refine sG @BH.eq_1 ?_
  refine gO ?_
  exact AE.retD [1, 0] rfl ⟨rfl, trivial⟩ rfl ⟨rfl, rfl⟩
theorem small_sz {l : List Fm} (h : smallB l = true) : szFs l ≤ 400 := by
  have := bFs_sz l 0 400 (by omega) h
  omega
end Go.Proofs.YteacpafhmgdbkaaGreatDoor
end

section
namespace Go.Proofs.YteacpafhmgdbkaaGreatDoor
open Go Go.AL Go.RowKit
set_option maxRecDepth 10000
set_option maxHeartbeats 4000000
mutual
theorem eqT_refl : ∀ t : Tm, eqT t t = true
  | .mk n i xs => by
    rw [eqT]
    have h : eqTs xs (Tm.mk n i xs).xs = true := eqTs_refl xs
    rw [h]; simp [Tm.nm, Tm.ix]
theorem eqTs_refl : ∀ l : List Tm, eqTs l l = true
  | [] => by rw [eqTs]
  | t :: l => by rw [eqTs, eqT_refl t, eqTs_refl l]; rfl
end
theorem all2_refl : ∀ l : List Tm, all2 eqT l l = true
  | [] => rfl
  | t :: l => by rw [all2, eqT_refl t, all2_refl l]; rfl
mutual
theorem eqF_refl : ∀ t : Fm, eqF t t = true
  | .mk k n ts ps => by
    rw [eqF]
    have h : eqFs ps (Fm.mk k n ts ps).ps = true := eqFs_refl ps
    have h2 : all2 eqT ts (Fm.mk k n ts ps).ts = true := all2_refl ts
    rw [h, h2]; simp [Fm.nm, Fm.k]
theorem eqFs_refl : ∀ l : List Fm, eqFs l l = true
  | [] => by rw [eqFs]
  | t :: l => by rw [eqFs, eqF_refl t, eqFs_refl l]; rfl
end
end Go.Proofs.YteacpafhmgdbkaaGreatDoor
end

section
namespace Go.Proofs.YteacpafhmgdbkaaGreatDoor
open Go Go.AL Go.RowKit
set_option maxRecDepth 10000
set_option maxHeartbeats 4000000
theorem parse_spec (t : List UInt8) (ht : t.length ≤ 40000) (htl : (toks t 0).length ≤ 8000) : PFn Tryz.prog 35 [Sv t] (paV (paF t)) := by
  have h := (parse_walk t ht htl).toA fun _ _ h => h
  exact ⟨h.1, fun w φ I vs h1 h2 h3 => (h.2 w φ I vs h1 h2 h3).mono fun e w' ⟨r, H', φ', I', v, ⟨h4, h5⟩, h6⟩ => ⟨r, H', φ', I', v, ⟨h5, h4⟩, h6⟩⟩
end Go.Proofs.YteacpafhmgdbkaaGreatDoor
end

section
namespace Go.Proofs
open Go.Shelf
def Tryz.lays143_ren : Go.Shelf.Ren := ⟨fun | 143 => 182 | 219 => 238 | 217 => 256 | 225 => 257 | 224 => 258 | 267 => 259 | 266 => 268 | 314 => 269 | n => n, fun | 9 => 9 | 3 => 3 | 4 => 4 | 5 => 5 | 46 => 244 | 146 => 307 | 51 => 276 | n => n, fun | 1 => 0 | n => n⟩
theorem Tryz.lays143 : Go.Proofs.Lays.n143 Tryz.prog Tryz.lays143_ren := {
  mixed := by kernel_rfl
  f143 := Tryz.func182.trans (congrArg some (by kernel_rfl))
  f217 := Tryz.func256.trans (congrArg some (by kernel_rfl))
  f219 := Tryz.func238.trans (congrArg some (by kernel_rfl))
  f224 := Tryz.func258.trans (congrArg some (by kernel_rfl))
  f225 := Tryz.func257.trans (congrArg some (by kernel_rfl))
  f266 := Tryz.func268.trans (congrArg some (by kernel_rfl))
  f267 := Tryz.func259.trans (congrArg some (by kernel_rfl))
  f314 := Tryz.func269.trans (congrArg some (by kernel_rfl))
  t3 := Tryz.underlying3
  a3 := Tryz.isAgg3
  z3 := Tryz.sizeOf3
  v3 := Tryz.zeroValue3
  t4 := Tryz.underlying4
  a4 := Tryz.isAgg4
  z4 := Tryz.sizeOf4
  v4 := Tryz.zeroValue4
  t5 := Tryz.underlying5
  a5 := Tryz.isAgg5
  z5 := Tryz.sizeOf5
  v5 := Tryz.zeroValue5
  t9 := Tryz.underlying9
  a9 := Tryz.isAgg9
  z9 := Tryz.sizeOf9
  v9 := Tryz.zeroValue9
  t46 := Tryz.underlying244
  a46 := Tryz.isAgg244
  z46 := Tryz.sizeOf244
  v46 := Tryz.zeroValue244
  t51 := Tryz.underlying276
  a51 := Tryz.isAgg276
  z51 := Tryz.sizeOf276
  v51 := Tryz.zeroValue276
  t146 := Tryz.underlying307
  a146 := Tryz.isAgg307
  z146 := Tryz.sizeOf307
  v146 := Tryz.zeroValue307
  g1 := by kernel_rfl }
open Go.RowKit Go.Lib in
theorem Tryz.strings_Index_one (s : ByteArray) (c : UInt8) (w : World) :
    Calls Tryz.prog 182 #[.string s, .string ⟨#[c]⟩] w fun e w' => e = .returned (.int .i64 (Lib.indexByte s.data.toList c)) ∧ w' = w := Any.strings_Index_one Tryz.lays143 s c w
def Tryz.lays138_ren : Go.Shelf.Ren := ⟨fun | 138 => 181 | 195 => 235 | 218 => 237 | 143 => 182 | 219 => 238 | 217 => 256 | 225 => 257 | 224 => 258 | 267 => 259 | 266 => 268 | 314 => 269 | n => n, fun | 9 => 9 | 3 => 3 | 4 => 4 | 5 => 5 | 0 => 0 | 46 => 244 | 146 => 307 | 51 => 276 | n => n, fun | 1 => 0 | n => n⟩
theorem Tryz.lays138 : Go.Proofs.Lays.n138 Tryz.prog Tryz.lays138_ren := {
  mixed := by kernel_rfl
  f138 := Tryz.func181.trans (congrArg some (by kernel_rfl))
  f143 := Tryz.func182.trans (congrArg some (by kernel_rfl))
  f195 := Tryz.func235.trans (congrArg some (by kernel_rfl))
  f217 := Tryz.func256.trans (congrArg some (by kernel_rfl))
  f218 := Tryz.func237.trans (congrArg some (by kernel_rfl))
  f219 := Tryz.func238.trans (congrArg some (by kernel_rfl))
  f224 := Tryz.func258.trans (congrArg some (by kernel_rfl))
  f225 := Tryz.func257.trans (congrArg some (by kernel_rfl))
  f266 := Tryz.func268.trans (congrArg some (by kernel_rfl))
  f267 := Tryz.func259.trans (congrArg some (by kernel_rfl))
  f314 := Tryz.func269.trans (congrArg some (by kernel_rfl))
  t0 := Tryz.underlying0
  a0 := Tryz.isAgg0
  z0 := Tryz.sizeOf0
  v0 := Tryz.zeroValue0
  t3 := Tryz.underlying3
  a3 := Tryz.isAgg3
  z3 := Tryz.sizeOf3
  v3 := Tryz.zeroValue3
  t4 := Tryz.underlying4
  a4 := Tryz.isAgg4
  z4 := Tryz.sizeOf4
  v4 := Tryz.zeroValue4
  t5 := Tryz.underlying5
  a5 := Tryz.isAgg5
  z5 := Tryz.sizeOf5
  v5 := Tryz.zeroValue5
  t9 := Tryz.underlying9
  a9 := Tryz.isAgg9
  z9 := Tryz.sizeOf9
  v9 := Tryz.zeroValue9
  t46 := Tryz.underlying244
  a46 := Tryz.isAgg244
  z46 := Tryz.sizeOf244
  v46 := Tryz.zeroValue244
  t51 := Tryz.underlying276
  a51 := Tryz.isAgg276
  z51 := Tryz.sizeOf276
  v51 := Tryz.zeroValue276
  t146 := Tryz.underlying307
  a146 := Tryz.isAgg307
  z146 := Tryz.sizeOf307
  v146 := Tryz.zeroValue307
  g1 := by kernel_rfl }
open Go.RowKit Go.Lib in
theorem Tryz.strings_Count_one (s : ByteArray) (c : UInt8) (w : World) :
    Calls Tryz.prog 181 #[.string s, .string ⟨#[c]⟩] w fun e w' => e = .returned (.int .i64 (Lib.countByte s.data.toList c)) ∧ w' = w := Any.strings_Count_one Tryz.lays138 s c w
def Tryz.lays221_ren : Go.Shelf.Ren := ⟨fun | 221 => 106 | 268 => 180 | 138 => 181 | 143 => 182 | 195 => 235 | 197 => 236 | 218 => 237 | 219 => 238 | 260 => 255 | 217 => 256 | 225 => 257 | 224 => 258 | 267 => 259 | 266 => 268 | 314 => 269 | n => n, fun | 9 => 9 | 3 => 3 | 31 => 67 | 4 => 4 | 0 => 0 | 105 => 282 | 21 => 21 | 5 => 5 | 46 => 244 | 119 => 227 | 139 => 306 | 138 => 305 | 146 => 307 | 51 => 276 | n => n, fun | 1 => 0 | 3 => 1 | 4 => 2 | n => n⟩
theorem Tryz.lays221 : Go.Proofs.Lays.n221 Tryz.prog Tryz.lays221_ren := {
  mixed := by kernel_rfl
  f138 := Tryz.func181.trans (congrArg some (by kernel_rfl))
  f143 := Tryz.func182.trans (congrArg some (by kernel_rfl))
  f195 := Tryz.func235.trans (congrArg some (by kernel_rfl))
  f197 := Tryz.func236.trans (congrArg some (by kernel_rfl))
  f217 := Tryz.func256.trans (congrArg some (by kernel_rfl))
  f218 := Tryz.func237.trans (congrArg some (by kernel_rfl))
  f219 := Tryz.func238.trans (congrArg some (by kernel_rfl))
  f221 := Tryz.func106.trans (congrArg some (by kernel_rfl))
  f224 := Tryz.func258.trans (congrArg some (by kernel_rfl))
  f225 := Tryz.func257.trans (congrArg some (by kernel_rfl))
  f260 := Tryz.func255.trans (congrArg some (by kernel_rfl))
  f266 := Tryz.func268.trans (congrArg some (by kernel_rfl))
  f267 := Tryz.func259.trans (congrArg some (by kernel_rfl))
  f268 := Tryz.func180.trans (congrArg some (by kernel_rfl))
  f314 := Tryz.func269.trans (congrArg some (by kernel_rfl))
  t0 := Tryz.underlying0
  a0 := Tryz.isAgg0
  z0 := Tryz.sizeOf0
  v0 := Tryz.zeroValue0
  t3 := Tryz.underlying3
  a3 := Tryz.isAgg3
  z3 := Tryz.sizeOf3
  v3 := Tryz.zeroValue3
  t4 := Tryz.underlying4
  a4 := Tryz.isAgg4
  z4 := Tryz.sizeOf4
  v4 := Tryz.zeroValue4
  t5 := Tryz.underlying5
  a5 := Tryz.isAgg5
  z5 := Tryz.sizeOf5
  v5 := Tryz.zeroValue5
  t9 := Tryz.underlying9
  a9 := Tryz.isAgg9
  z9 := Tryz.sizeOf9
  v9 := Tryz.zeroValue9
  t21 := Tryz.underlying21
  a21 := Tryz.isAgg21
  z21 := Tryz.sizeOf21
  v21 := Tryz.zeroValue21
  t31 := Tryz.underlying67
  a31 := Tryz.isAgg67
  z31 := Tryz.sizeOf67
  v31 := Tryz.zeroValue67
  t46 := Tryz.underlying244
  a46 := Tryz.isAgg244
  z46 := Tryz.sizeOf244
  v46 := Tryz.zeroValue244
  t51 := Tryz.underlying276
  a51 := Tryz.isAgg276
  z51 := Tryz.sizeOf276
  v51 := Tryz.zeroValue276
  t105 := Tryz.underlying282
  a105 := Tryz.isAgg282
  z105 := Tryz.sizeOf282
  v105 := Tryz.zeroValue282
  t119 := Tryz.underlying227
  a119 := Tryz.isAgg227
  z119 := Tryz.sizeOf227
  t138 := Tryz.underlying305
  a138 := Tryz.isAgg305
  z138 := Tryz.sizeOf305
  v138 := Tryz.zeroValue305
  t139 := Tryz.underlying306
  a139 := Tryz.isAgg306
  z139 := Tryz.sizeOf306
  v139 := Tryz.zeroValue306
  t146 := Tryz.underlying307
  a146 := Tryz.isAgg307
  z146 := Tryz.sizeOf307
  v146 := Tryz.zeroValue307
  g1 := by kernel_rfl
  g3 := by kernel_rfl
  g4 := by kernel_rfl }
end Go.Proofs
namespace Go.Proofs.YteacpafhmgdbkaaGreatDoor
open Go Go.AL Go.RowKit Go.Shelf Go.Proofs
set_option maxRecDepth 10000
set_option maxHeartbeats 4000000
theorem index_hit {l : List UInt8} : ∀ {x : List UInt8}, 32 ∉ x → Lib.index (x ++ 32 :: l) [32] = x.length
  | [], _ => by rw [List.nil_append, Lib.index, if_pos (by simp [List.isPrefixOf])]; rfl
  | b :: x, h => by
    have hb : ¬ (32 : UInt8) = b := fun e => h (e ▸ List.mem_cons_self ..)
    have ih := index_hit (l := l) (x := x) fun hc => h (List.mem_cons_of_mem _ hc)
    have e1 : ((32 : UInt8) == b) = false := beq_eq_false_iff_ne.2 hb
    rw [List.cons_append, Lib.index, if_neg (by simp [List.isPrefixOf, e1]), ih, if_neg (by simp), List.length_cons]
    omega
theorem index_no : ∀ {x : List UInt8}, 32 ∉ x → Lib.index x [32] = -1
  | [], _ => by rw [Lib.index]; rfl
  | b :: x, h => by
    have hb : ¬ (32 : UInt8) = b := fun e => h (e ▸ List.mem_cons_self ..)
    have ih := index_no (x := x) fun hc => h (List.mem_cons_of_mem _ hc)
    have e1 : ((32 : UInt8) == b) = false := beq_eq_false_iff_ne.2 hb
    rw [Lib.index, if_neg (by simp [List.isPrefixOf, e1]), ih]; rfl
theorem split_tail : ∀ (r : List Nm) (x : Nm) (k : Nat), r.length ≤ k → 32 ∉ x → (∀ w ∈ r, 32 ∉ w) → Lib.splitK [32] 0 k (x ++ Lib.joinTail [32] r) = x :: r
  | [], x, k, _, hx, _ => by
    have e : x ++ Lib.joinTail [32] [] = x := by simp [Lib.joinTail]
    rw [e]
    cases k with
    | zero => rfl
    | succ k => rw [Lib.splitK, index_no hx]; rfl
  | y :: r, x, k, hk, hx, hr => by
    obtain ⟨k, rfl⟩ : ∃ j, k = j + 1 := ⟨k - 1, by simp at hk; omega⟩
    have e : x ++ Lib.joinTail [32] (y :: r) = x ++ 32 :: (y ++ Lib.joinTail [32] r) := by simp [Lib.joinTail]
    rw [e, Lib.splitK, index_hit hx, if_neg (by simp), Int.toNat_natCast, Nat.add_zero]
    have e2 : (x ++ 32 :: (y ++ Lib.joinTail [32] r)).drop (x.length + ([32] : List UInt8).length) = y ++ Lib.joinTail [32] r := by
      rw [show x.length + [(32 : UInt8)].length = x.length + 1 from rfl, List.drop_append]; simp
    rw [List.take_left, e2, split_tail r y k (by simpa using hk) (hr y (List.mem_cons_self ..)) fun w hw => hr w (List.mem_cons_of_mem _ hw)]
theorem count_tail : ∀ (r : List Nm), (∀ w ∈ r, 32 ∉ w) → (Lib.joinTail [32] r).count 32 = r.length
  | [], _ => by simp [Lib.joinTail]
  | y :: r, h => by
    have e : Lib.joinTail [32] (y :: r) = 32 :: (y ++ Lib.joinTail [32] r) := by simp [Lib.joinTail]
    rw [e, List.count_cons, List.count_append, count_tail r fun w hw => h w (List.mem_cons_of_mem _ hw), List.count_eq_zero.2 (h y (List.mem_cons_self ..))]
    simp
theorem count_join {x : Nm} {r : List Nm} (hx : 32 ∉ x) (h : ∀ w ∈ r, 32 ∉ w) : Lib.count (joinB (x :: r)) [32] = r.length := by
  rw [Lib.count_one, joinB, Lib.join_cons, List.count_append, count_tail r h, List.count_eq_zero.2 hx]; omega
theorem split_words {ws : List Nm} (h0 : ws ≠ []) (h : ∀ w ∈ ws, 32 ∉ w) : Lib.splitK [32] 0 (Lib.count (joinB ws) [32]) (joinB ws) = ws ∧ Lib.count (joinB ws) [32] + 1 = ws.length := by
  cases ws with
  | nil => exact absurd rfl h0
  | cons x r =>
    have hx := h x (List.mem_cons_self ..)
    have hr := fun w hw => h w (List.mem_cons_of_mem _ hw)
    have hc := count_join hx hr
    refine ⟨?_, by rw [hc]; rfl⟩
    rw [hc, joinB, Lib.join_cons, split_tail r x _ (Nat.le_refl _) hx hr]
theorem denss_str {w : World} {I : Nat → Prop} : ∀ ws : List Nm, IV.denss w I (stR ws) (ws.map fun s => [Value.string (BA s)])
  | [] => by simp [stR, IV.denss]
  | s :: ws => by
    have := denss_str (w := w) (I := I) ws
    simp only [stR, List.map_cons, IV.denss] at this ⊢
    exact ⟨_, _, rfl, by simp only [IV.dens, IV.den]; exact ⟨_, _, rfl, ⟨rfl, rfl⟩, rfl⟩, this⟩
theorem BA_map {L : List ByteArray} {ws : List Nm} (h : L.map (·.data.toList) = ws) : L = ws.map BA := by
  subst h
  rw [List.map_map]
  conv => lhs; rw [← List.map_id L]
  apply List.map_congr_left
  intro b _
  exact BA_of b
theorem strs_flat : ∀ ws : List Nm, (ws.map BA).map Value.string = (ws.map fun s => [Value.string (BA s)]).flatten
  | [] => rfl
  | s :: ws => by simp only [List.map_cons, List.flatten_cons, strs_flat ws]; rfl
theorem strs_flen : ∀ ws : List Nm, ((ws.map fun s => [Value.string (BA s)]).flatten).length = ws.length
  | [] => rfl
  | s :: ws => by rw [List.map_cons, List.flatten_cons, List.length_append, strs_flen ws]; simp; omega
theorem genSplit_spec (ws : List Nm) (h0 : ws ≠ []) (h : ∀ w ∈ ws, 32 ∉ w) (hl : (joinB ws).length ≤ 1000000) : ACall Tryz.prog 106 [Sv (joinB ws), Sv [32], Iv 0, Iv (-1)] [] (fun r H' => r = .os 0 1 0 ws.length ∧ H' = [(0, .vec 9 1 (stR ws))]) := by
  refine ⟨by rfl, fun w φ I vs hd hR hV => ?_⟩
  simp only [AV.dens, AV.den, IV.den] at hd
  obtain ⟨u1, us1, rfl, ⟨rfl, _⟩, u2, us2, rfl, ⟨rfl, _⟩, u3, us3, rfl, ⟨rfl, _⟩, u4, us4, rfl, ⟨rfl, _⟩, rfl⟩ := hd
  obtain ⟨hsp, hct⟩ := split_words h0 h
  have hsz : (BA (joinB ws)).size = (joinB ws).length := BA_size _
  have hBl : (BA [32]).data.toList = [32] := by simp [BA]
  have hBs : (BA (joinB ws)).data.toList = joinB ws := by simp [BA]
  have hcB : Lib.countB (BA (joinB ws)) (BA [32]) = Lib.count (joinB ws) [32] := by show Lib.count _ _ = _; rw [hBl, hBs]
  have hcle : Lib.count (joinB ws) [32] ≤ (joinB ws).length := by rw [Lib.count_one]; exact List.count_le_length
  have hsB : (Lib.splitB (BA [32]) 0 (Lib.count (joinB ws) [32]) (BA (joinB ws))).map (·.data.toList) = ws := by rw [Lib.splitB_data, hBl, hBs, hsp]
  have hsB2 : Lib.splitB (BA [32]) 0 (Lib.count (joinB ws) [32]) (BA (joinB ws)) = ws.map BA := BA_map hsB
  have c := Any.strings_genSplit_core Tryz.lays221 (by kernel_rfl) (BA (joinB ws)) (BA [32]) 0 (-1) ws.length w (by rw [hsz]; omega) (by show 1 ≤ 1; exact Nat.le_refl _) (Nat.zero_le _)
    (fun x c hx => (Tryz.strings_Index_one x 32 _).mono fun e w' ⟨h1, h2⟩ => ⟨by rw [h1]; show Ending.returned (Value.int .i64 (Lib.indexByte x.data.toList 32)) = Ending.returned (Value.int .i64 (Lib.index x.data.toList (BA [32]).data.toList)); rw [hBl, Lib.index_one], h2⟩)
    ((Tryz.strings_Count_one (BA (joinB ws)) 32 w).mono fun e w' ⟨h1, h2⟩ => ⟨by rw [h1, hcB, hBs, Lib.count_one]; rfl, h2⟩)
    (by decide) (by decide) (by rw [if_pos (by decide), hcB, hsz]; omega)
  have hN : ws.length - 1 = Lib.count (joinB ws) [32] := by omega
  rw [hN, hsB2] at c
  refine Calls.mono c ?_
  rintro e w' ⟨he, rfl⟩
  have hcell : Lib.cellsOf (ws.map BA) ws.length = ((ws.map fun s => [Value.string (BA s)]).flatten).toArray := by
    have := Lib.cellsOf_full (ws.map BA)
    rw [List.length_map] at this
    rw [this, strs_flat]
  rw [hcell]
  obtain ⟨h1, h2⟩ := (real_st hR (nid [])).alloc_own (b := 0) rfl (Nat.zero_le _) (cs := ((ws.map fun s => [Value.string (BA s)]).flatten).toArray) (e := 9) (o := .vec 9 1 (stR ws)) (by
    simp only [Ob.at]
    exact .inr ⟨_, ws.map fun s => [Value.string (BA s)], [], rfl, by rw [List.append_nil]; exact al_new w _, denss_str ws, fun v hv => by obtain ⟨s, _, rfl⟩ := List.mem_map.1 hv; rfl⟩)
  refine ⟨_, _, _, _, _, ⟨rfl, rfl⟩, he, ?_, h1⟩
  have hfl := strs_flen ws
  have hwl : ws.length ≤ 2000000 := by omega
  simp only [AV.den, List.length_map]
  refine .inr ⟨w.heap.size, ws.length, by simp [upd], by simp, Nat.le_refl _, by unfold maxLen; omega, _, 9, al_new w _, by rw [List.size_toArray, hfl]; omega⟩
theorem split_spec (ws : List Nm) (h0 : ws ≠ []) (h : ∀ w ∈ ws, 32 ∉ w) (hl : (joinB ws).length ≤ 1000000) : ACall Tryz.prog 48 [Sv (joinB ws), Sv [32]] [] (fun r H' => r = .os 0 1 0 ws.length ∧ H' = [(0, .vec 9 1 (stR ws))]) := by
  have hg := genSplit_spec ws h0 h hl
  generalize joinB ws = s at *
  refine ACall.walk [0, 1, 4] [] Tryz.func48 rfl Tryz.ntmps48 (by kernel_rfl) (by rfl) rfl fun W own I0 φ0 lay => ?_
  refine gO ?_
  refine AQ.callv (by kernel_rfl) rfl rfl rfl hg ?_
  rintro r H' ⟨rfl, rfl⟩
  refine sI ?_
  refine gO ?_
  exact AE.ret rfl ⟨rfl, trivial⟩ ⟨rfl, rfl⟩
end Go.Proofs.YteacpafhmgdbkaaGreatDoor
end

section
namespace Go.Proofs.YteacpafhmgdbkaaGreatDoor
open Go Go.AL Go.RowKit
set_option maxRecDepth 10000
set_option maxHeartbeats 4000000
def gw (w : Nm) : Bool := !(w == []) && w.all fun b => !(cls b.toNat == 0) && !(sp b)
theorem gw_ne {w : Nm} (h : gw w = true) : w ≠ [] := by
  unfold gw at h
  simp only [Bool.and_eq_true] at h
  simpa using h.1
theorem gw_sp {w : Nm} (h : gw w = true) : ∀ b ∈ w, sp b = false := fun b hb => by
  unfold gw at h
  simp only [Bool.and_eq_true, List.all_eq_true, Bool.not_eq_true'] at h
  exact (h.2 b hb).2
theorem gw_ok {w : Nm} (h : gw w = true) : okT w = true := by
  unfold gw at h
  unfold okT
  simp only [Bool.and_eq_true, List.all_eq_true] at h ⊢
  exact fun b hb => (h.2 b hb).1
theorem tail_sp {r : List Nm} : ∀ c l', Lib.joinTail [32] r = c :: l' → sp c = true := fun c l' h => by
  cases r with
  | nil => simp [Lib.joinTail] at h
  | cons y r =>
    simp only [Lib.joinTail, List.map_cons, List.flatten_cons, List.cons_append, List.nil_append] at h
    injection h with h _
    subst h; decide
theorem toks_tail : ∀ (r : List Nm) (o : Nat), (∀ w ∈ r, gw w = true) → (toks (Lib.joinTail [32] r) o).map Prod.fst = r
  | [], o, _ => by simp [Lib.joinTail, toks]
  | y :: r, o, h => by
    have hy := h y (List.mem_cons_self ..)
    have e : Lib.joinTail [32] (y :: r) = 32 :: (y ++ Lib.joinTail [32] r) := by simp [Lib.joinTail]
    rw [e, toks_sp (by decide), toks_word y _ _ (gw_ne hy) (gw_sp hy) tail_sp, List.map_cons, toks_tail r _ fun w hw => h w (List.mem_cons_of_mem _ hw)]
theorem toks_join (ws : List Nm) (h : ∀ w ∈ ws, gw w = true) : (toks (joinB ws) 0).map Prod.fst = ws := by
  cases ws with
  | nil => simp [joinB, Lib.join_nil, toks]
  | cons y r =>
    have hy := h y (List.mem_cons_self ..)
    rw [joinB, Lib.join_cons, toks_word y _ _ (gw_ne hy) (gw_sp hy) tail_sp, List.map_cons, toks_tail r _ fun w hw => h w (List.mem_cons_of_mem _ hw)]
theorem okT_append (a b : List UInt8) : okT (a ++ b) = (okT a && okT b) := by simp [okT]
theorem ok_tail : ∀ (r : List Nm), (∀ w ∈ r, gw w = true) → okT (Lib.joinTail [32] r) = true
  | [], _ => by simp [Lib.joinTail, okT]
  | y :: r, h => by
    have hy := h y (List.mem_cons_self ..)
    have e : Lib.joinTail [32] (y :: r) = [32] ++ (y ++ Lib.joinTail [32] r) := by simp [Lib.joinTail]
    rw [e, okT_append, okT_append, gw_ok hy, ok_tail r fun w hw => h w (List.mem_cons_of_mem _ hw)]; decide
theorem ok_join (ws : List Nm) (h : ∀ w ∈ ws, gw w = true) : okT (joinB ws) = true := by
  cases ws with
  | nil => simp [joinB, Lib.join_nil, okT]
  | cons y r =>
    have hy := h y (List.mem_cons_self ..)
    rw [joinB, Lib.join_cons, okT_append, gw_ok hy, ok_tail r fun w hw => h w (List.mem_cons_of_mem _ hw)]; rfl
def byW (ws : List Nm) : Nat := (ws.map fun w => w.length + 1).sum
theorem byW_app (a b : List Nm) : byW (a ++ b) = byW a + byW b := by simp [byW]
theorem byW_cons (a : Nm) (b : List Nm) : byW (a :: b) = a.length + 1 + byW b := by simp [byW]
theorem byW_nil : byW [] = 0 := rfl
theorem tail_len : ∀ r : List Nm, (Lib.joinTail [32] r).length = byW r
  | [] => by simp [Lib.joinTail, byW]
  | y :: r => by
    have e : Lib.joinTail [32] (y :: r) = 32 :: (y ++ Lib.joinTail [32] r) := by simp [Lib.joinTail]
    rw [e, List.length_cons, List.length_append, tail_len r, byW_cons]; omega
theorem join_by (ws : List Nm) : (joinB ws).length ≤ byW ws := by
  cases ws with
  | nil => simp [joinB, Lib.join_nil]
  | cons y r => rw [joinB, Lib.join_cons, List.length_append, tail_len, byW_cons]; omega
mutual
theorem tmW_by {ms : List Nm} (hm : okW 60 ms) (b : Int) : ∀ t : Tm, wT t b = 0 → byW (tmW ms t) ≤ 67 * szT t
  | .mk nm ix xs, h => by
    have h0 := wT_nm h
    simp only [Tm.nm, Tm.xs] at h0
    rw [tmW, szT]
    split
    · have := hm.get ((ms.length : Int) - 1 - ix).toNat
      rw [byW_cons, byW_nil]; omega
    · rename_i hnm
      have := tmsW_by hm b xs (h0.2.2 hnm).2.2
      split
      · rw [byW_cons, byW_nil]; omega
      · rw [byW_cons, byW_cons, byW_app, byW_cons, byW_nil]
        simp only [List.length_cons, List.length_nil]
        omega
theorem tmsW_by {ms : List Nm} (hm : okW 60 ms) (b : Int) : ∀ l : List Tm, wTs l b = 0 → byW (tmsW ms l) ≤ 67 * szTs l
  | [], h => by rw [tmsW, szTs, byW_nil]; omega
  | t :: l, h => by
    have h1 := tmW_by hm b t (wTs_cons h).1
    have h2 := tmsW_by hm b l (wTs_cons h).2
    rw [tmsW, szTs, byW_app]; omega
end
mutual
theorem fmX_by {g : Nm → Nm} {tk : List Nm} : ∀ (F : Fm) (ns : List Nm) (b : Int), wF F b = 0 → okW 60 (ns.map g) → (∀ v ∈ bvF tk ns F, isNm (g v) = true) → byW (fmX g tk ns F) ≤ 67 * szF F
  | .mk k nm ts ps, ns, b, h, hn, hv => by
    obtain ⟨hsh, hwt, hwp⟩ := wF_parts h
    simp only [Fm.ts, Fm.ps] at hwt hwp
    have h1 := tmsW_by hn b ts hwt
    rw [fmX, szF]
    rw [bvF] at hv
    split
    · rename_i hk
      subst hk
      have := (isNm_len (shp_one hsh).1).1
      rw [byW_cons]
      unfold lsW
      split
      · rw [byW_nil]; omega
      · rw [byW_cons, byW_app, byW_cons, byW_nil]
        simp only [List.length_cons, List.length_nil]
        omega
    · have hsg := sgn_len k
      rw [byW_cons, byW_app]
      by_cases h7 : k = 7 ∨ k = 8
      · rw [if_pos h7] at hv ⊢
        have hvn := hv _ (List.mem_cons_self ..)
        have hl := (isNm_len hvn).1
        have := fmsX_by ps (ns ++ [vN (vnum tk ns)]) _ hwp (by rw [List.map_append]; exact hn.app (okW.cons hl okW.nil)) fun v hvv => hv v (List.mem_cons_of_mem _ hvv)
        rw [byW_cons]; omega
      · rw [if_neg h7] at hv ⊢
        have := fmsX_by ps ns _ hwp hn hv
        omega
theorem fmsX_by {g : Nm → Nm} {tk : List Nm} : ∀ (l : List Fm) (ns : List Nm) (b : Int), wFs l b = 0 → okW 60 (ns.map g) → (∀ v ∈ bvFs tk ns l, isNm (g v) = true) → byW (fmsX g tk ns l) ≤ 67 * szFs l
  | [], ns, b, _, _, _ => by rw [fmsX, szFs, byW_nil]; omega
  | f :: l, ns, b, h, hn, hv => by
    rw [bvFs] at hv
    have h1 := fmX_by f ns b (wFs_cons h).1 hn fun v hvv => hv v (List.mem_append_left _ hvv)
    have h2 := fmsX_by l ns b (wFs_cons h).2 hn fun v hvv => hv v (List.mem_append_right _ hvv)
    rw [fmsX, szFs, byW_app]; omega
end
theorem isNm_gw {s : Nm} (h : isNm s = true) : gw s = true := by
  have h1 := isNm_ne h
  unfold isNm onlyOk at h
  simp only [Bool.and_eq_true, List.all_eq_true, decide_eq_true_eq] at h
  unfold gw
  simp only [Bool.and_eq_true, List.all_eq_true, Bool.not_eq_true']
  refine ⟨by simpa using h1, fun b hb => ?_⟩
  have := h.2 b hb
  simp only [List.mem_cons, List.not_mem_nil, or_false] at this
  unfold sp
  rcases this with this | this <;> rw [this] <;> exact ⟨rfl, rfl⟩
def gws (ws : List Nm) : Prop := ∀ w ∈ ws, gw w = true
theorem gws.nil : gws [] := fun _ h => by cases h
theorem gws.cons {x : Nm} {l : List Nm} (h1 : gw x = true) (h2 : gws l) : gws (x :: l) := fun w h => by
  rcases List.mem_cons.1 h with h | h
  · exact h ▸ h1
  · exact h2 w h
theorem gws.app {l m : List Nm} (h1 : gws l) (h2 : gws m) : gws (l ++ m) := fun w h => by
  rcases List.mem_append.1 h with h | h
  · exact h1 w h
  · exact h2 w h
mutual
theorem tmW_gw {ms : List Nm} (hm : ∀ m ∈ ms, isNm m = true) : ∀ t : Tm, wT t ms.length = 0 → gws (tmW ms t)
  | .mk nm ix xs, h => by
    have h0 := wT_nm h
    simp only [Tm.nm, Tm.ix, Tm.xs] at h0
    rw [tmW]
    split
    · rename_i hn
      have := h0.2.1 hn
      have hlt : ((ms.length : Int) - 1 - ix).toNat < ms.length := by omega
      refine gws.cons (isNm_gw (hm _ ?_)) gws.nil
      rw [List.getD_eq_getElem?_getD, List.getElem?_eq_getElem hlt]
      exact List.getElem_mem _
    · rename_i hnm
      have h1 := h0.2.2 hnm
      refine gws.cons (isNm_gw h1.2.1) ?_
      split
      · exact gws.nil
      · exact gws.cons (by decide) ((tmsW_gw hm xs h1.2.2).app (gws.cons (by decide) gws.nil))
theorem tmsW_gw {ms : List Nm} (hm : ∀ m ∈ ms, isNm m = true) : ∀ l : List Tm, wTs l ms.length = 0 → gws (tmsW ms l)
  | [], h => by rw [tmsW]; exact gws.nil
  | t :: l, h => by rw [tmsW]; exact (tmW_gw hm t (wTs_cons h).1).app (tmsW_gw hm l (wTs_cons h).2)
end
theorem sgn_gw {k : Int} (h : 2 ≤ k ∧ k ≤ 8) : gw (sgn k) = true := by
  rcases sgn_cases h with h | h | h | h | h | h | h <;> subst h <;> decide
mutual
theorem fmX_gw {g : Nm → Nm} {tk : List Nm} : ∀ (F : Fm) (ns : List Nm), wF F ns.length = 0 → (∀ m ∈ ns, isNm (g m) = true) → (∀ v ∈ bvF tk ns F, isNm (g v) = true) → gws (fmX g tk ns F)
  | .mk k nm ts ps, ns, h, hn, hv => by
    obtain ⟨hsh, hwt, hwp⟩ := wF_parts h
    have hk := shp_k hsh
    simp only [Fm.k, Fm.ts, Fm.ps] at hk hwt hwp
    have hm2 : ∀ m ∈ ns.map g, isNm m = true := fun m hmm => by
      obtain ⟨a, ha, rfl⟩ := List.mem_map.1 hmm
      exact hn a ha
    have h1 := tmsW_gw hm2 ts (by rw [List.length_map]; exact hwt)
    rw [fmX]
    rw [bvF] at hv
    split
    · rename_i hk
      subst hk
      refine gws.cons (isNm_gw (shp_one hsh).1) ?_
      unfold lsW
      split
      · exact gws.nil
      · exact gws.cons (by decide) (h1.app (gws.cons (by decide) gws.nil))
    · refine gws.cons (sgn_gw (by omega)) (h1.app ?_)
      by_cases h7 : k = 7 ∨ k = 8
      · have hbd : bnd (.mk k nm ts ps) = 1 := by unfold bnd; rw [if_pos (by simp only [Fm.k]; exact h7)]
        rw [hbd] at hwp
        rw [if_pos h7] at hv ⊢
        have hvn := hv _ (List.mem_cons_self ..)
        refine gws.cons (isNm_gw hvn) (fmsX_gw ps _ (by rw [List.length_append]; exact hwp) (fun m hmm => ?_) fun v hvv => hv v (List.mem_cons_of_mem _ hvv))
        rcases List.mem_append.1 hmm with hmm | hmm
        · exact hn m hmm
        · have : m = vN (vnum tk ns) := by simpa using hmm
          rw [this]; exact hvn
      · have hbd : bnd (.mk k nm ts ps) = 0 := by unfold bnd; rw [if_neg (by simp only [Fm.k]; exact h7)]
        rw [hbd, Int.add_zero] at hwp
        rw [if_neg h7] at hv ⊢
        exact fmsX_gw ps ns hwp hn hv
theorem fmsX_gw {g : Nm → Nm} {tk : List Nm} : ∀ (l : List Fm) (ns : List Nm), wFs l ns.length = 0 → (∀ m ∈ ns, isNm (g m) = true) → (∀ v ∈ bvFs tk ns l, isNm (g v) = true) → gws (fmsX g tk ns l)
  | [], ns, _, _, _ => by rw [fmsX]; exact gws.nil
  | f :: l, ns, h, hn, hv => by
    rw [bvFs] at hv
    rw [fmsX]
    exact (fmX_gw f ns (wFs_cons h).1 hn fun v hvv => hv v (List.mem_append_left _ hvv)).app (fmsX_gw l ns (wFs_cons h).2 hn fun v hvv => hv v (List.mem_append_right _ hvv))
end
mutual
theorem fmX_len (g : Nm → Nm) (tk : List Nm) : ∀ (f : Fm) (ns : List Nm), (fmX g tk ns f).length ≤ 3 * szF f
  | .mk k nm ts ps, ns => by
    rw [fmX, szF]
    have h1 := lsW_len (ns.map g) ts
    have h2 := tmsW_len (ns.map g) ts
    split
    · rw [List.length_cons]; omega
    · rw [List.length_cons, List.length_append]
      split
      · have := fmsX_len g tk ps (ns ++ [vN (vnum tk ns)])
        rw [List.length_cons]; omega
      · have := fmsX_len g tk ps ns
        omega
theorem fmsX_len (g : Nm → Nm) (tk : List Nm) : ∀ (l : List Fm) (ns : List Nm), (fmsX g tk ns l).length ≤ 3 * szFs l
  | [], ns => by simp [fmsX]
  | f :: l, ns => by
    rw [fmsX, szFs, List.length_append]
    have := fmX_len g tk f ns
    have := fmsX_len g tk l ns
    omega
end
theorem pa_text {g : Nm → Nm} {tk : List Nm} (hinj : ∀ a b, g a = g b → a = b) (F : Fm) (hu : unF F 0 = 0) (hz : szF F ≤ 400) (hv : ∀ v ∈ bvF tk [] F, isNm (g v) = true ∧ ocF (g v) F = false) :
    (joinB (fmX g tk [] F)).length ≤ 40000 ∧ (toks (joinB (fmX g tk [] F)) 0).length ≤ 8000 ∧ paF (joinB (fmX g tk [] F)) = (F, 0, 0) := by
  have hf := un_fit hu
  have hgw := fmX_gw (g := g) (tk := tk) F [] hf.2.2 (fun _ h => by cases h) fun v h => (hv v h).1
  have hby := fmX_by (g := g) (tk := tk) F [] 0 hf.2.2 okW.nil fun v h => (hv v h).1
  have hlen := fmX_len g tk F []
  have hge := fmX_ge g tk [] F
  have hok := ok_join _ hgw
  have htk := toks_join _ hgw
  have hjl := join_by (fmX g tk [] F)
  have hpf := fun L ha => pF_ok (L := L) hinj F [] (2 * L.length + 1) 0 List.nodup_nil (fun _ h => by cases h) hf.2.2 (fun _ h => by cases h) hv ha
  generalize fmX g tk [] F = ws at *
  have hL : (toks (joinB ws) 0).length = ws.length := by rw [← List.length_map (f := Prod.fst), htk]
  refine ⟨by omega, by omega, ?_⟩
  have e1 : scanE (joinB ws) = 0 := by unfold scanE; rw [if_neg (by omega), if_pos hok]
  have e2 : scanT (joinB ws) = toks (joinB ws) 0 := by unfold scanT; rw [if_neg (by omega), if_pos hok]
  unfold paF
  rw [if_neg (by rw [e1]; simp), e2]
  have htS : ∀ j, tkS (toks (joinB ws) 0) j = ws.getD j [] := fun j => by
    have : ws.getD j [] = ((toks (joinB ws) 0).map Prod.fst).getD j [] := by rw [htk]
    rw [tkS, this, List.getD_eq_getElem?_getD, List.getD_eq_getElem?_getD, List.getElem?_map]
    cases (toks (joinB ws) 0)[j]? <;> rfl
  have := hpf (toks (joinB ws) 0) (fun j hj => by rw [Nat.zero_add, htS]) (by rw [hL]; omega) (by rw [Nat.zero_add, tkS_out (by omega)]; decide)
  rw [List.map_nil] at this
  rw [this]
  simp only
  rw [if_neg (by omega), if_pos hu]
end Go.Proofs.YteacpafhmgdbkaaGreatDoor
end

section
namespace Go.Proofs.YteacpafhmgdbkaaGreatDoor
open Go Go.AL Go.RowKit
set_option maxRecDepth 10000
set_option maxHeartbeats 4000000
theorem dec_digit : ∀ n : Nat, ∀ b ∈ Lib.decDigits n, cls b.toNat = 2 := by
  intro n
  induction n using Nat.strongRecOn with
  | _ n ih =>
    have hd : ∀ d, d < 10 → cls (UInt8.ofNat (48 + d)).toNat = 2 := fun d hd => by
      rcases (show d = 0 ∨ d = 1 ∨ d = 2 ∨ d = 3 ∨ d = 4 ∨ d = 5 ∨ d = 6 ∨ d = 7 ∨ d = 8 ∨ d = 9 by omega) with h | h | h | h | h | h | h | h | h | h <;> subst h <;> decide
    rw [Lib.decDigits]
    split
    · rename_i h
      intro b hb
      have : b = UInt8.ofNat (48 + n) := by simpa using hb
      rw [this]; exact hd n h
    · intro b hb
      rcases List.mem_append.1 hb with hb | hb
      · exact ih (n / 10) (by omega) b hb
      · have : b = UInt8.ofNat (48 + n % 10) := by simpa using hb
        rw [this]; exact hd _ (by omega)
theorem dec_short : ∀ (k n : Nat), n < 10 ^ (k + 1) → (Lib.decDigits n).length ≤ k + 1
  | 0, n, h => by rw [Lib.decDigits, dif_pos (by simpa using h)]; simp
  | k + 1, n, h => by
    rw [Lib.decDigits]
    split
    · simp
    · rw [List.length_append]
      have := dec_short k (n / 10) (by rw [Nat.pow_succ] at h; omega)
      simp only [List.length_cons, List.length_nil]
      omega
theorem vN_nm {n : Nat} (h : n < 100000) : isNm (vN n) = true := by
  have h1 := dec_short 4 n (by simpa using h)
  have h2 := dec_digit n
  unfold isNm onlyOk vN
  rw [Lib.itoa_nonneg]
  simp only [Bool.and_eq_true, List.all_eq_true, decide_eq_true_eq]
  refine ⟨⟨rfl, by simp only [List.length_cons]; omega⟩, fun b hb => ?_⟩
  rcases List.mem_cons.1 hb with hb | hb
  · subst hb; decide
  · rw [h2 b hb]; decide
theorem nm_tail {v tail : Nm} (h1 : isNm v = true) (h2 : isNm (118 :: tail) = true) (h3 : (v ++ tail).length ≤ 60) : isNm (v ++ tail) = true := by
  unfold isNm onlyOk at *
  simp only [Bool.and_eq_true, List.all_eq_true, decide_eq_true_eq] at *
  refine ⟨⟨?_, h3⟩, fun b hb => ?_⟩
  · have := h1.1.1
    cases v with
    | nil => simp at this
    | cons a v => rfl
  · rcases List.mem_append.1 hb with hb | hb
    · exact h1.2 b hb
    · exact h2.2 b (List.mem_cons_of_mem _ hb)
theorem vnum_le (tk ns : List Nm) : vnum tk ns ≤ tk.length + ns.length := by
  rcases Nat.lt_or_ge (tk.length + ns.length) (vnum tk ns) with h | h
  · obtain ⟨m, hm, hf⟩ := frV_ex tk ns
    have : ∃ m, m ≤ tk.length + ns.length ∧ frV tk ns m = true ∧ ∀ j, j < m → frV tk ns j = false := by
      clear h
      induction m using Nat.strongRecOn with
      | _ n ih =>
        rcases Classical.em (∀ j, j < n → frV tk ns j = false) with h | h
        · exact ⟨n, hm, hf, h⟩
        · obtain ⟨j, hj⟩ := Classical.not_forall.1 h
          obtain ⟨h1, h2⟩ := Classical.not_imp.1 hj
          exact ih j h1 (by omega) (by simpa using h2)
    obtain ⟨m, h1, h2, h3⟩ := this
    rw [vnum_eq h2 h3] at h
    omega
  · exact h
mutual
theorem bvF_vN (tk : List Nm) : ∀ (F : Fm) (ns : List Nm), ∀ v ∈ bvF tk ns F, v ∉ tk ∧ ∃ n, v = vN n ∧ n ≤ tk.length + ns.length + szF F
  | .mk k nm ts ps, ns, v, hv => by
    rw [szF]
    rw [bvF] at hv
    split at hv
    · rcases List.mem_cons.1 hv with hv | hv
      · exact ⟨hv ▸ (vN_fresh tk ns).1, _, hv, by have := vnum_le tk ns; omega⟩
      · obtain ⟨h1, n, h2, h3⟩ := bvFs_vN tk ps _ v hv
        rw [List.length_append, List.length_singleton] at h3
        exact ⟨h1, n, h2, by omega⟩
    · obtain ⟨h1, n, h2, h3⟩ := bvFs_vN tk ps _ v hv
      exact ⟨h1, n, h2, by omega⟩
theorem bvFs_vN (tk : List Nm) : ∀ (l : List Fm) (ns : List Nm), ∀ v ∈ bvFs tk ns l, v ∉ tk ∧ ∃ n, v = vN n ∧ n ≤ tk.length + ns.length + szFs l
  | [], ns, v, hv => by rw [bvFs] at hv; cases hv
  | f :: l, ns, v, hv => by
    rw [szFs]
    rw [bvFs] at hv
    rcases List.mem_append.1 hv with hv | hv
    · obtain ⟨h1, n, h2, h3⟩ := bvF_vN tk f _ v hv
      exact ⟨h1, n, h2, by omega⟩
    · obtain ⟨h1, n, h2, h3⟩ := bvFs_vN tk l _ v hv
      exact ⟨h1, n, h2, by omega⟩
end
theorem oc_tk {F : Fm} {s : Nm} (h : s ∉ tkF F []) : ocF s F = false := by
  have := has_tkF s F []
  cases ho : ocF s F with
  | false => rfl
  | true =>
    rw [ho, Bool.or_true] at this
    exact absurd (hasS_mem.1 this) h
theorem pa_wd (F : Fm) (hu : unF F 0 = 0) (hz : szF F ≤ 400) : (joinB (wdF F)).length ≤ 40000 ∧ (toks (joinB (wdF F)) 0).length ≤ 8000 ∧ paF (joinB (wdF F)) = (F, 0, 0) := by
  have := pa_text (g := id) (tk := tkF F []) (fun _ _ h => h) F hu hz fun v hv => by
    obtain ⟨h1, n, h2, h3⟩ := bvF_vN (tkF F []) F [] v hv
    have htl := tkF_len F []
    simp only [List.length_nil] at h3 htl
    exact ⟨by show isNm v = true; rw [h2]; exact vN_nm (by omega), oc_tk h1⟩
  rw [fmX_id] at this
  exact this
def isQ (w : Nm) : Bool := w == [36, 65] || w == [36, 69]
def afA : Bool → List Nm → List Nm
  | _, [] => []
  | b, w :: r => (if b = true then [w] else []) ++ afA (isQ w) r
theorem isNm_isQ {s : Nm} (h : isNm s = true) : isQ s = false := by
  cases hc : isQ s with
  | false => rfl
  | true =>
    unfold isQ at hc
    simp only [Bool.or_eq_true, beq_iff_eq] at hc
    rcases hc with hc | hc <;> rw [hc] at h <;> revert h <;> decide
theorem afA_skip {w : Nm} {r : List Nm} (h : isQ w = false) : afA false (w :: r) = afA false r := by rw [afA, h]; rfl
mutual
theorem afA_tm {ms : List Nm} (hm : ∀ m ∈ ms, isNm m = true) (r : List Nm) : ∀ t : Tm, wT t ms.length = 0 → afA false (tmW ms t ++ r) = afA false r
  | .mk nm ix xs, h => by
    have h0 := wT_nm h
    simp only [Tm.nm, Tm.ix, Tm.xs] at h0
    rw [tmW]
    split
    · rename_i hn
      have := h0.2.1 hn
      have hlt : ((ms.length : Int) - 1 - ix).toNat < ms.length := by omega
      refine afA_skip (isNm_isQ (hm _ ?_))
      rw [List.getD_eq_getElem?_getD, List.getElem?_eq_getElem hlt]
      exact List.getElem_mem _
    · rename_i hnm
      have h1 := h0.2.2 hnm
      rw [List.cons_append, afA_skip (isNm_isQ h1.2.1)]
      split
      · rfl
      · rw [List.cons_append, afA_skip (by decide), List.append_assoc, afA_tms hm _ xs h1.2.2]
        exact afA_skip (by decide)
theorem afA_tms {ms : List Nm} (hm : ∀ m ∈ ms, isNm m = true) (r : List Nm) : ∀ l : List Tm, wTs l ms.length = 0 → afA false (tmsW ms l ++ r) = afA false r
  | [], h => by rw [tmsW]; rfl
  | t :: l, h => by rw [tmsW, List.append_assoc, afA_tm hm _ t (wTs_cons h).1, afA_tms hm r l (wTs_cons h).2]
end
theorem isQ_sgn {k : Int} (h : 2 ≤ k ∧ k ≤ 8) : isQ (sgn k) = decide (k = 7 ∨ k = 8) := by
  rcases sgn_cases h with h | h | h | h | h | h | h <;> subst h <;> rfl
mutual
theorem afA_fm {tk : List Nm} (r : List Nm) : ∀ (F : Fm) (ns : List Nm), wF F ns.length = 0 → (∀ m ∈ ns, isNm m = true) → (∀ v ∈ bvF tk ns F, isNm v = true) → afA false (fmX id tk ns F ++ r) = bvF tk ns F ++ afA false r
  | .mk k nm ts ps, ns, h, hn, hv => by
    obtain ⟨hsh, hwt, hwp⟩ := wF_parts h
    have hk := shp_k hsh
    simp only [Fm.k, Fm.ts, Fm.ps] at hk hwt hwp
    have hps : k = 1 → bvF tk ns (.mk k nm ts ps) = [] := fun e => by
      subst e
      rw [(shp_one hsh).2, bvF, if_neg (by omega), bvFs]
    rw [fmX, List.map_id]
    by_cases h1 : k = 1
    · rw [if_pos h1, hps h1]
      subst h1
      rw [List.cons_append, afA_skip (isNm_isQ (shp_one hsh).1)]
      unfold lsW
      split
      · rfl
      · rw [List.cons_append, afA_skip (by decide), List.append_assoc, afA_tms hn _ ts hwt]
        exact afA_skip (by decide)
    · rw [if_neg h1, List.cons_append, List.append_assoc]
      rw [bvF] at hv ⊢
      have hq := isQ_sgn (k := k) (by omega)
      by_cases h7 : k = 7 ∨ k = 8
      · have hbd : bnd (.mk k nm ts ps) = 1 := by unfold bnd; rw [if_pos (by simp only [Fm.k]; exact h7)]
        rw [hbd] at hwp
        rw [if_pos h7] at hv ⊢
        rw [if_pos h7]
        have hts : ts = [] := by
          have hns : ¬ (k ≠ 1 ∧ nm ≠ []) := fun hc => by rw [shp_mk, if_pos hc] at hsh; cases hsh
          · rw [shp_mk, if_neg hns, if_neg h1, if_neg (by omega), if_neg (by omega), if_neg (by omega), if_pos h7] at hsh
            simp only [Bool.and_eq_true] at hsh
            exact List.eq_nil_of_length_eq_zero (by have := hsh.1; simp at this; rw [this]; rfl)
        rw [hts, tmsW, List.nil_append, List.cons_append]
        have hvn := hv _ (List.mem_cons_self ..)
        rw [afA, if_neg (by simp), List.nil_append, hq, decide_eq_true h7, afA, if_pos rfl]
        show [vN (vnum tk ns)] ++ afA (isQ (vN (vnum tk ns))) _ = _
        rw [isNm_isQ hvn, afA_fms r ps _ (by rw [List.length_append]; exact hwp) (fun m hmm => ?_) fun v hvv => hv v (List.mem_cons_of_mem _ hvv)]
        · rfl
        · rcases List.mem_append.1 hmm with hmm | hmm
          · exact hn m hmm
          · have : m = vN (vnum tk ns) := by simpa using hmm
            rw [this]; exact hvn
      · have hbd : bnd (.mk k nm ts ps) = 0 := by unfold bnd; rw [if_neg (by simp only [Fm.k]; exact h7)]
        rw [hbd, Int.add_zero] at hwp
        rw [if_neg h7] at hv ⊢
        rw [if_neg h7, afA_skip (by rw [hq]; exact decide_eq_false h7), afA_tms hn _ ts hwt, afA_fms r ps ns hwp hn hv]
theorem afA_fms {tk : List Nm} (r : List Nm) : ∀ (l : List Fm) (ns : List Nm), wFs l ns.length = 0 → (∀ m ∈ ns, isNm m = true) → (∀ v ∈ bvFs tk ns l, isNm v = true) → afA false (fmsX id tk ns l ++ r) = bvFs tk ns l ++ afA false r
  | [], ns, _, _, _ => by rw [fmsX, bvFs]; rfl
  | f :: l, ns, h, hn, hv => by
    rw [bvFs] at hv ⊢
    rw [fmsX, List.append_assoc, List.append_assoc, afA_fm _ f ns (wFs_cons h).1 hn fun v hvv => hv v (List.mem_append_left _ hvv), afA_fms r l ns (wFs_cons h).2 hn fun v hvv => hv v (List.mem_append_right _ hvv)]
end
mutual
def fnT : Tm → List Nm
  | .mk n _ xs => if xs.length = 0 then [] else n :: fnTs xs
def fnTs : List Tm → List Nm
  | [] => []
  | t :: l => fnT t ++ fnTs l
end
mutual
def hdF : Fm → List Nm
  | .mk _ n ts ps => n :: (fnTs ts ++ hdFs ps)
def hdFs : List Fm → List Nm
  | [] => []
  | f :: l => hdF f ++ hdFs l
end
def renW (B : List Nm) (tail : Nm) (w : Nm) : Nm := if w ∈ B then w ++ tail else w
theorem renW_no {B : List Nm} {tail w : Nm} (h : w ∉ B) : renW B tail w = w := by rw [renW, if_neg h]
theorem not_mem_nm {B : List Nm} (hB : ∀ v ∈ B, isNm v = true) {w : Nm} (h : isNm w = false) : w ∉ B := fun hc => by rw [hB w hc] at h; cases h
mutual
theorem ren_tm {B ms : List Nm} {tail : Nm} (hB : ∀ v ∈ B, isNm v = true) (hm : ∀ m ∈ ms, m ∈ B) : ∀ t : Tm, wT t ms.length = 0 → (∀ v ∈ B, ocT v t = false) → (∀ h ∈ fnT t, h ∉ B) → (tmW ms t).map (renW B tail) = tmW (ms.map (· ++ tail)) t
  | .mk nm ix xs, h, ho, hf => by
    have h0 := wT_nm h
    simp only [Tm.nm, Tm.ix, Tm.xs] at h0
    rw [tmW, tmW]
    by_cases hn : nm = []
    · rw [if_pos hn, if_pos hn]
      have := h0.2.1 hn
      have hlt : ((ms.length : Int) - 1 - ix).toNat < ms.length := by omega
      have hmem : ms.getD ((ms.length : Int) - 1 - ix).toNat [] ∈ B := by
        rw [List.getD_eq_getElem?_getD, List.getElem?_eq_getElem hlt]
        exact hm _ (List.getElem_mem _)
      rw [List.map_cons, List.map_nil, renW, if_pos hmem, List.length_map]
      rw [List.getD_eq_getElem?_getD, List.getD_eq_getElem?_getD, List.getElem?_map, List.getElem?_eq_getElem hlt]; rfl
    · rw [if_neg hn, if_neg hn]
      have h1 := h0.2.2 hn
      by_cases hx : xs.length = 0
      · rw [if_pos hx, if_pos hx, List.map_cons, List.map_nil, renW_no]
        intro hc
        have := ho nm hc
        rw [ocT] at this
        have hne : (nm == []) = false := by simpa using hn
        rw [hne, hx] at this
        simp at this
      · rw [if_neg hx, if_neg hx]
        rw [fnT, if_neg hx] at hf
        simp only [List.map_cons, List.map_append, List.map_nil]
        rw [renW_no (hf nm (List.mem_cons_self ..)), renW_no (not_mem_nm hB (by decide)), renW_no (not_mem_nm hB (by decide)), ren_tms hB hm xs h1.2.2 (fun v hv => by
          have := ho v hv
          rw [ocT] at this
          exact (Bool.or_eq_false_iff.1 this).2) fun h hh => hf h (List.mem_cons_of_mem _ hh)]
theorem ren_tms {B ms : List Nm} {tail : Nm} (hB : ∀ v ∈ B, isNm v = true) (hm : ∀ m ∈ ms, m ∈ B) : ∀ l : List Tm, wTs l ms.length = 0 → (∀ v ∈ B, ocTs v l = false) → (∀ h ∈ fnTs l, h ∉ B) → (tmsW ms l).map (renW B tail) = tmsW (ms.map (· ++ tail)) l
  | [], h, ho, hf => by rw [tmsW, tmsW]; rfl
  | t :: l, h, ho, hf => by
    rw [fnTs] at hf
    rw [tmsW, tmsW, List.map_append, ren_tm hB hm t (wTs_cons h).1 (fun v hv => by
      have := ho v hv
      rw [ocTs] at this
      exact (Bool.or_eq_false_iff.1 this).1) (fun h hh => hf h (List.mem_append_left _ hh)), ren_tms hB hm l (wTs_cons h).2 (fun v hv => by
      have := ho v hv
      rw [ocTs] at this
      exact (Bool.or_eq_false_iff.1 this).2) fun h hh => hf h (List.mem_append_right _ hh)]
end
theorem sgn_noNm {k : Int} (h : 2 ≤ k ∧ k ≤ 8) : isNm (sgn k) = false := by
  rcases sgn_cases h with h | h | h | h | h | h | h <;> subst h <;> decide
mutual
theorem ren_fm {B tk : List Nm} {tail : Nm} (hB : ∀ v ∈ B, isNm v = true) : ∀ (F : Fm) (ns : List Nm), wF F ns.length = 0 → (∀ m ∈ ns, m ∈ B) → (∀ v ∈ bvF tk ns F, v ∈ B) → (∀ v ∈ B, ocF v F = false) → (∀ h ∈ hdF F, h ∉ B) → (fmX id tk ns F).map (renW B tail) = fmX (· ++ tail) tk ns F
  | .mk k nm ts ps, ns, h, hn, hv, ho, hf => by
    obtain ⟨hsh, hwt, hwp⟩ := wF_parts h
    have hk := shp_k hsh
    simp only [Fm.k, Fm.ts, Fm.ps] at hk hwt hwp
    rw [hdF] at hf
    have hnm := hf nm (List.mem_cons_self ..)
    have hft : ∀ h ∈ fnTs ts, h ∉ B := fun h hh => hf h (List.mem_cons_of_mem _ (List.mem_append_left _ hh))
    have hfp : ∀ h ∈ hdFs ps, h ∉ B := fun h hh => hf h (List.mem_cons_of_mem _ (List.mem_append_right _ hh))
    have hot : ∀ v ∈ B, ocTs v ts = false := fun v hvv => by
      have := ho v hvv
      rw [ocF] at this
      exact (Bool.or_eq_false_iff.1 this).1
    have hop : ∀ v ∈ B, ocFs v ps = false := fun v hvv => by
      have := ho v hvv
      rw [ocF] at this
      exact (Bool.or_eq_false_iff.1 this).2
    have ht := ren_tms (tail := tail) hB hn ts hwt hot hft
    rw [fmX, fmX, List.map_id]
    by_cases h1 : k = 1
    · rw [if_pos h1, if_pos h1, List.map_cons, renW_no hnm]
      unfold lsW
      by_cases hx : ts.length = 0
      · rw [if_pos hx, if_pos hx]; rfl
      · rw [if_neg hx, if_neg hx]
        simp only [List.map_cons, List.map_append, List.map_nil]
        rw [ht, renW_no (not_mem_nm hB (by decide)), renW_no (not_mem_nm hB (by decide))]
    · rw [if_neg h1, if_neg h1, List.map_cons, List.map_append, ht, renW_no (not_mem_nm hB (sgn_noNm (by omega)))]
      rw [bvF] at hv
      by_cases h7 : k = 7 ∨ k = 8
      · have hbd : bnd (.mk k nm ts ps) = 1 := by unfold bnd; rw [if_pos (by simp only [Fm.k]; exact h7)]
        rw [hbd] at hwp
        rw [if_pos h7] at hv ⊢
        rw [if_pos h7]
        have hvn := hv _ (List.mem_cons_self ..)
        rw [List.map_cons, ren_fms hB ps _ (by rw [List.length_append]; exact hwp) (fun m hmm => ?_) (fun v hvv => hv v (List.mem_cons_of_mem _ hvv)) hop hfp]
        · have e : renW B tail (id (vN (vnum tk ns))) = vN (vnum tk ns) ++ tail := by show renW B tail (vN (vnum tk ns)) = _; rw [renW, if_pos hvn]
          rw [e]
        · rcases List.mem_append.1 hmm with hmm | hmm
          · exact hn m hmm
          · have : m = vN (vnum tk ns) := by simpa using hmm
            rw [this]; exact hvn
      · have hbd : bnd (.mk k nm ts ps) = 0 := by unfold bnd; rw [if_neg (by simp only [Fm.k]; exact h7)]
        rw [hbd, Int.add_zero] at hwp
        rw [if_neg h7] at hv ⊢
        rw [if_neg h7, ren_fms hB ps ns hwp hn hv hop hfp]
theorem ren_fms {B tk : List Nm} {tail : Nm} (hB : ∀ v ∈ B, isNm v = true) : ∀ (l : List Fm) (ns : List Nm), wFs l ns.length = 0 → (∀ m ∈ ns, m ∈ B) → (∀ v ∈ bvFs tk ns l, v ∈ B) → (∀ v ∈ B, ocFs v l = false) → (∀ h ∈ hdFs l, h ∉ B) → (fmsX id tk ns l).map (renW B tail) = fmsX (· ++ tail) tk ns l
  | [], ns, _, _, _, _, _ => by rw [fmsX, fmsX]; rfl
  | f :: l, ns, h, hn, hv, ho, hf => by
    rw [hdFs] at hf
    rw [bvFs] at hv
    rw [fmsX, fmsX, List.map_append, ren_fm hB f ns (wFs_cons h).1 hn (fun v hvv => hv v (List.mem_append_left _ hvv)) (fun v hvv => by
      have := ho v hvv
      rw [ocFs] at this
      exact (Bool.or_eq_false_iff.1 this).1) (fun h hh => hf h (List.mem_append_left _ hh)), ren_fms hB l ns (wFs_cons h).2 hn (fun v hvv => hv v (List.mem_append_right _ hvv)) (fun v hvv => by
      have := ho v hvv
      rw [ocFs] at this
      exact (Bool.or_eq_false_iff.1 this).2) (fun h hh => hf h (List.mem_append_right _ hh))]
end
theorem bd_words (F : Fm) (hu : unF F 0 = 0) (hz : szF F ≤ 400) : afA false (wdF F) = bvF (tkF F []) [] F ∧ ∀ v ∈ bvF (tkF F []) [] F, isNm v = true ∧ ocF v F = false := by
  have hf := un_fit hu
  have hv : ∀ v ∈ bvF (tkF F []) [] F, isNm v = true ∧ ocF v F = false := fun v hv => by
    obtain ⟨h1, n, h2, h3⟩ := bvF_vN (tkF F []) F [] v hv
    have htl := tkF_len F []
    simp only [List.length_nil] at h3 htl
    exact ⟨by rw [h2]; exact vN_nm (by omega), oc_tk h1⟩
  refine ⟨?_, hv⟩
  have := afA_fm (tk := tkF F []) [] F [] hf.2.2 (fun _ h => by cases h) fun v h => (hv v h).1
  rw [fmX_id, List.append_nil] at this
  rw [wdF, this]
  simp [afA]
theorem pa_ren (F : Fm) (tail : Nm) (B : List Nm) (hu : unF F 0 = 0) (hz : szF F ≤ 400) (hB : ∀ v, v ∈ B ↔ v ∈ afA false (wdF F)) (ht : isNm (118 :: tail) = true) (hl : ∀ v ∈ B, (v ++ tail).length ≤ 60) (hfr : ∀ v ∈ B, ocF (v ++ tail) F = false) (hh : ∀ h ∈ hdF F, h ∉ B) :
    (joinB ((wdF F).map (renW B tail))).length ≤ 40000 ∧ (toks (joinB ((wdF F).map (renW B tail))) 0).length ≤ 8000 ∧ paF (joinB ((wdF F).map (renW B tail))) = (F, 0, 0) := by
  have hf := un_fit hu
  obtain ⟨h1, h2⟩ := bd_words F hu hz
  rw [h1] at hB
  have hBv : ∀ v ∈ B, isNm v = true := fun v hv => (h2 v ((hB v).1 hv)).1
  have := ren_fm (tk := tkF F []) (tail := tail) hBv F [] hf.2.2 (fun _ h => by cases h) (fun v hv => (hB v).2 hv) (fun v hv => (h2 v ((hB v).1 hv)).2) hh
  rw [fmX_id] at this
  rw [wdF, this]
  exact pa_text (fun a b h => List.append_cancel_right h) F hu hz fun v hv => by
    have hvb := (hB v).2 hv
    exact ⟨nm_tail (hBv v hvb) ht (hl v hvb), hfr v hvb⟩
end Go.Proofs.YteacpafhmgdbkaaGreatDoor
end

section
namespace Go.Proofs.YteacpafhmgdbkaaGreatDoor
open Go Go.AL Go.RowKit
set_option maxRecDepth 10000
set_option maxHeartbeats 4000000
theorem fnTs_snc {t : Tm} : ∀ {l : List Tm} {k : Nat}, l[k]? = some t → fnTs (l.take (k + 1)) = fnTs (l.take k) ++ fnT t
  | [], k, h => by simp at h
  | u :: l, 0, h => by simp at h; subst h; simp [fnTs]
  | u :: l, k + 1, h => by
    simp at h
    rw [List.take_succ_cons, List.take_succ_cons, fnTs, fnTs, fnTs_snc h, List.append_assoc]
theorem hdFs_snc {t : Fm} : ∀ {l : List Fm} {k : Nat}, l[k]? = some t → hdFs (l.take (k + 1)) = hdFs (l.take k) ++ hdF t
  | [], k, h => by simp at h
  | u :: l, 0, h => by simp at h; subst h; simp [hdFs]
  | u :: l, k + 1, h => by
    simp at h
    rw [List.take_succ_cons, List.take_succ_cons, hdFs, hdFs, hdFs_snc h, List.append_assoc]
mutual
theorem fnT_len : ∀ t : Tm, (fnT t).length ≤ szT t
  | .mk n i xs => by
    have := fnTs_len xs
    rw [fnT, szT]
    split
    · simp
    · rw [List.length_cons]; omega
theorem fnTs_len : ∀ l : List Tm, (fnTs l).length ≤ szTs l
  | [] => by simp [fnTs]
  | t :: l => by
    have := fnT_len t
    have := fnTs_len l
    rw [fnTs, szTs, List.length_append]; omega
end
mutual
theorem hdF_len : ∀ t : Fm, (hdF t).length ≤ szF t
  | .mk k n ts ps => by
    have := fnTs_len ts
    have := hdFs_len ps
    rw [hdF, szF, List.length_cons, List.length_append]; omega
theorem hdFs_len : ∀ l : List Fm, (hdFs l).length ≤ szFs l
  | [] => by simp [hdFs]
  | t :: l => by
    have := hdF_len t
    have := hdFs_len l
    rw [hdFs, szFs, List.length_append]; omega
end
theorem fnTs_take (l : List Tm) (k : Nat) : (fnTs (l.take k)).length ≤ szTs l := by
  induction l generalizing k with
  | nil => simp [fnTs]
  | cons t l ih =>
    cases k with
    | zero => simp [fnTs]
    | succ k =>
      have := ih k
      have := fnT_len t
      rw [List.take_succ_cons, fnTs, szTs, List.length_append]; omega
theorem hdFs_take (l : List Fm) (k : Nat) : (hdFs (l.take k)).length ≤ szFs l := by
  induction l generalizing k with
  | nil => simp [hdFs]
  | cons t l ih =>
    cases k with
    | zero => simp [hdFs]
    | succ k =>
      have := ih k
      have := hdF_len t
      rw [List.take_succ_cons, hdFs, szFs, List.length_append]; omega
theorem functions_spec : ∀ (n : Nat) (t : Tm), szT t ≤ n → szT t ≤ 1000000 → PFn Tryz.prog 108 [tmV t] (.im (.sl 1 (stR (fnT t))))
  | 0, t, h, _ => by have := szT_eq t; omega
  | n + 1, .mk nm ix xs, hn, hz => by
    rw [szT] at hn hz
    have hxl := szTs_len xs
    have hfe : fnT (.mk nm ix xs) = if xs.length = 0 then [] else nm :: fnTs xs := by rw [fnT]
    rw [hfe]
    clear hfe
    show PFn Tryz.prog 108 [.agg [Sv nm, Iv ix, .im (.sl 3 (tmR xs))]] _
    refine ACall.walk [0, 1, 2, 3, 5, 9, 14, 15, 16, 17] [5, 12] Tryz.func108 rfl Tryz.ntmps108 (by kernel_rfl) (by rfl) rfl fun W own I0 φ0 lay => ?_
    refine gE @tmR_len ?_
    refine AP.cond rfl rfl (fun h => ?_) (fun h => ?_)
    · have h : xs.length = 0 := by simp only [beq_iff_eq] at h; omega
      rw [if_pos h]
      refine gO ?_
      refine AE.nilsl 2 1 rfl ?_
      exact AE.ret rfl ⟨rfl, trivial⟩ ⟨rfl, rfl⟩
    · have h : ¬ xs.length = 0 := by simp only [beq_eq_false_iff_ne] at h; omega
      rw [if_neg h]
      refine gE @tmR_len ?_
      refine AP.loop rfl (α := Nat) (fun k => [(3, .os 0 1 0 (nm :: fnTs (xs.take k)).length), (14, .im (.sl 3 (tmR xs))), (15, Iv xs.length), (16, Iv k)]) (fun k => [(0, .vec 9 1 (stR (nm :: fnTs (xs.take k))))]) (fun k => k ≤ xs.length) (fun k => xs.length - k) 0 (by omega) (sU) rfl fun k hk => ?_
      have hfl := fnTs_take xs k
      rcases Nat.eq_or_lt_of_le hk with hke | hlt
      · rw [hke, List.take_length]
        generalize nm :: fnTs xs = l at *
        refine gO ?_
        refine cF ?_
        refine gO ?_
        refine AE.freeze 0 (el := 9) (es := 1) (rows := stR l) rfl (by simp only [go_sem, Nat.reduceAdd, Nat.reduceLeDiff, Nat.reduceSub, Int.reduceToNat, reduceCtorEq, stR_len]; first | done | trivial | omega | (simp; done) | (simp; omega)) (by simp only [go_sem, Nat.reduceAdd, Nat.reduceLeDiff, Nat.reduceSub, Int.reduceToNat, reduceCtorEq, stR_len]; first | done | trivial | omega | (simp; done) | (simp; omega)) ?_; simp only [go_sem, Nat.reduceAdd, Nat.reduceLeDiff, Nat.reduceSub, Int.reduceToNat, reduceCtorEq, stR_len]
        rw [List.take_of_length_le (by rw [stR_len]; exact Nat.le_refl _)]
        exact AE.ret rfl ⟨rfl, trivial⟩ ⟨rfl, rfl⟩
      · obtain ⟨u, hu, hrow⟩ := tmR_get xs k hlt
        have hz := szTs_get hu
        have ih := functions_spec n u (by omega) (by omega)
        have hw := wr (x := (k : Int) + 1) (by omega)
        have hfu := fnT_len u
        refine gO ?_
        refine cT ?_
        refine gE (an @hrow @tmR_len) ?_
        refine AQ.fn (by kernel_rfl) rfl rfl rfl (ih) rfl ?_
        refine gO ?_
        refine AQ.append (hnb := rfl) (rows := stR (nm :: fnTs (xs.take k))) (es := 0) (by kernel_rfl) rfl rfl rfl (by rfl) Tryz.tk67 Tryz.sz9 (by show Option.map _ (zro Tryz.prog 9) = _; rw [Tryz.zr9]; rfl) Tryz.by9 (by first | rfl | (simp only [stR_len, List.length_cons, List.length_nil]; done) | (simp only [stR_len, List.length_cons, List.length_nil]; omega)) (by simp only [stR_len, List.length_cons, List.length_nil]; omega) (by simp only [stR_len, List.length_cons, List.length_nil]; omega) ?_
        refine sE @stR_len ?_
        refine gE @hw ?_
        have e1 : stR (nm :: fnTs (xs.take k)) ++ stR (fnT u) = stR (nm :: fnTs (xs.take (k + 1))) := by rw [fnTs_snc hu]; simp [stR]
        rw [e1]
        refine AE.forgets [1] rfl ?_
        refine sI ?_
        exact AE.round (k + 1) (by omega) (by omega) (by rw [fnTs_snc hu, List.length_append, Nat.add_right_comm]; exact (sU)) rfl
theorem heads_spec : ∀ (n : Nat) (f : Fm), szF f ≤ n → szF f ≤ 1000000 → PFn Tryz.prog 51 [fmV f] (.im (.sl 1 (stR (hdF f))))
  | 0, f, h, _ => by have := szF_eq f; omega
  | n + 1, .mk kd nm ts ps, hn, hz => by
    rw [szF] at hn hz
    have htl := szTs_len ts
    have hpl := szFs_len ps
    have hfe : hdF (.mk kd nm ts ps) = nm :: (fnTs ts ++ hdFs ps) := by rw [hdF]
    rw [hfe]
    clear hfe
    show PFn Tryz.prog 51 [.agg [Iv kd, Sv nm, .im (.sl 3 (tmR ts)), .im (.sl 4 (fmR ps))]] _
    refine ACall.walk [0, 1, 2, 3, 5, 7, 12, 13, 14, 15, 24, 25, 26, 27] [5, 7, 10] Tryz.func51 rfl Tryz.ntmps51 (by kernel_rfl) (by rfl) rfl fun W own I0 φ0 lay => ?_
    refine gE @tmR_len ?_
    refine AP.loop rfl (α := Nat) (fun k => [(1, .im (.pt [Ii kd, Si nm, .sl 3 (tmR ts), .sl 4 (fmR ps)])), (3, .os 0 1 0 (nm :: fnTs (ts.take k)).length), (12, .im (.sl 3 (tmR ts))), (13, Iv ts.length), (14, Iv k)]) (fun k => [(0, .vec 9 1 (stR (nm :: fnTs (ts.take k))))]) (fun k => k ≤ ts.length) (fun k => ts.length - k) 0 (by omega) (sU) rfl fun k hk => ?_
    have hfl := fnTs_take ts k
    rcases Nat.eq_or_lt_of_le hk with hke | hlt
    · rw [hke, List.take_length]
      have hfl2 := fnTs_len ts
      refine gE @fmR_len ?_
      refine cF ?_
      refine gE @fmR_len ?_
      refine AP.loop rfl (α := Nat) (fun k => [(3, .os 0 1 0 (nm :: (fnTs ts ++ hdFs (ps.take k))).length), (24, .im (.sl 4 (fmR ps))), (25, Iv ps.length), (26, Iv k)]) (fun k => [(0, .vec 9 1 (stR (nm :: (fnTs ts ++ hdFs (ps.take k)))))]) (fun k => k ≤ ps.length) (fun k => ps.length - k) 0 (by omega) (by rw [List.take_zero, hdFs, List.append_nil]; exact (sU)) (by rw [List.take_zero, hdFs, List.append_nil]) fun k hk => ?_
      have hhl := hdFs_take ps k
      rcases Nat.eq_or_lt_of_le hk with hke | hlt
      · rw [hke, List.take_length]
        generalize nm :: (fnTs ts ++ hdFs ps) = l at *
        refine gO ?_
        refine cF ?_
        refine gO ?_
        refine AE.freeze 0 (el := 9) (es := 1) (rows := stR l) rfl (by simp only [go_sem, Nat.reduceAdd, Nat.reduceLeDiff, Nat.reduceSub, Int.reduceToNat, reduceCtorEq, stR_len]; first | done | trivial | omega | (simp; done) | (simp; omega)) (by simp only [go_sem, Nat.reduceAdd, Nat.reduceLeDiff, Nat.reduceSub, Int.reduceToNat, reduceCtorEq, stR_len]; first | done | trivial | omega | (simp; done) | (simp; omega)) ?_; simp only [go_sem, Nat.reduceAdd, Nat.reduceLeDiff, Nat.reduceSub, Int.reduceToNat, reduceCtorEq, stR_len]
        rw [List.take_of_length_le (by rw [stR_len]; exact Nat.le_refl _)]
        exact AE.ret rfl ⟨rfl, trivial⟩ ⟨rfl, rfl⟩
      · obtain ⟨u, hu, hrow⟩ := fmR_get ps k hlt
        have hz := szFs_get hu
        have ih := heads_spec n u (by omega) (by omega)
        have hw := wr (x := (k : Int) + 1) (by omega)
        have hfu := hdF_len u
        have hll : (nm :: (fnTs ts ++ hdFs (ps.take k))).length = 1 + (fnTs ts).length + (hdFs (ps.take k)).length := by rw [List.length_cons, List.length_append]; omega
        have hsn := hdFs_snc hu
        generalize hdFs (ps.take k) = hk1 at *
        refine gO ?_
        refine cT ?_
        refine gE (an @hrow @fmR_len) ?_
        refine AQ.fn (by kernel_rfl) rfl rfl rfl (ih) rfl ?_
        refine gO ?_
        refine AQ.append (hnb := rfl) (rows := stR (nm :: (fnTs ts ++ hk1))) (es := 0) (by kernel_rfl) rfl rfl rfl (by rfl) Tryz.tk67 Tryz.sz9 (by show Option.map _ (zro Tryz.prog 9) = _; rw [Tryz.zr9]; rfl) Tryz.by9 (by first | rfl | (simp only [stR_len, List.length_append, List.length_cons, List.length_nil]; done) | (simp only [stR_len, List.length_append, List.length_cons, List.length_nil]; omega)) (by simp only [stR_len, List.length_append, List.length_cons, List.length_nil]; omega) (by simp only [stR_len, List.length_append, List.length_cons, List.length_nil]; omega) ?_
        refine sE @stR_len ?_
        refine gE @hw ?_
        have e1 : stR (nm :: (fnTs ts ++ hk1)) ++ stR (hdF u) = stR (nm :: (fnTs ts ++ hdFs (ps.take (k + 1)))) := by rw [hsn]; simp [stR]
        rw [e1]
        refine AE.forgets [1] rfl ?_
        refine sI ?_
        exact AE.round (k + 1) (by omega) (by omega) (by rw [hsn, ← List.append_assoc, show (fnTs ts ++ hk1 ++ hdF u).length + 1 = (fnTs ts ++ hk1).length + 1 + (hdF u).length by rw [List.length_append]; omega]; exact (sU)) rfl
    · obtain ⟨u, hu, hrow⟩ := tmR_get ts k hlt
      have hz := szTs_get hu
      have ih := functions_spec (szT u) u (Nat.le_refl _) (by omega)
      have hw := wr (x := (k : Int) + 1) (by omega)
      have hfu := fnT_len u
      have hsn := fnTs_snc hu
      generalize fnTs (ts.take k) = hk1 at *
      refine gO ?_
      refine cT ?_
      refine gE (an @hrow @tmR_len) ?_
      refine AQ.fn (by kernel_rfl) rfl rfl rfl (ih) rfl ?_
      refine gO ?_
      refine AQ.append (hnb := rfl) (rows := stR (nm :: hk1)) (es := 0) (by kernel_rfl) rfl rfl rfl (by rfl) Tryz.tk67 Tryz.sz9 (by show Option.map _ (zro Tryz.prog 9) = _; rw [Tryz.zr9]; rfl) Tryz.by9 (by first | rfl | (simp only [stR_len, List.length_cons, List.length_nil]; done) | (simp only [stR_len, List.length_cons, List.length_nil]; omega)) (by simp only [stR_len, List.length_cons, List.length_nil]; omega) (by simp only [stR_len, List.length_cons, List.length_nil]; omega) ?_
      refine sE @stR_len ?_
      refine gE @hw ?_
      have e1 : stR (nm :: hk1) ++ stR (fnT u) = stR (nm :: fnTs (ts.take (k + 1))) := by rw [hsn]; simp [stR]
      rw [e1]
      refine AE.forgets [1] rfl ?_
      refine sI ?_
      exact AE.round (k + 1) (by omega) (by omega) (by rw [hsn, List.length_append, Nat.add_right_comm]; exact (sU)) rfl
end Go.Proofs.YteacpafhmgdbkaaGreatDoor
end

section
namespace Go.Proofs.YteacpafhmgdbkaaGreatDoor
open Go Go.AL Go.RowKit
set_option maxRecDepth 10000
set_option maxHeartbeats 4000000
def bdW (ws : List Nm) : Nat → List Nm
  | 0 => []
  | k + 1 => if decide (0 < k) && isQ (ws.getD (k - 1) []) then addK (bdW ws k) (ws.getD k []) else bdW ws k
theorem bdW_nodup (ws : List Nm) : ∀ k, (bdW ws k).Nodup
  | 0 => List.nodup_nil
  | k + 1 => by
    rw [bdW]
    split
    · exact addK_nodup (bdW_nodup ws k) _
    · exact bdW_nodup ws k
theorem bdW_len (ws : List Nm) : ∀ k, (bdW ws k).length ≤ k
  | 0 => by simp [bdW]
  | k + 1 => by
    have := bdW_len ws k
    rw [bdW]
    split
    · have := addK_len (bdW ws k) (ws.getD k []); omega
    · omega
theorem addK_mem {tk : List Nm} {s v : Nm} : v ∈ addK tk s ↔ v ∈ tk ∨ v = s := by
  unfold addK
  split
  · rename_i h
    constructor
    · exact .inl
    · rintro (h1 | h1)
      · exact h1
      · subst h1; exact hasS_mem.1 (by simpa using h)
  · simp
theorem bdW_mem (ws : List Nm) (v : Nm) : ∀ k, v ∈ bdW ws k ↔ ∃ j, j < k ∧ 0 < j ∧ isQ (ws.getD (j - 1) []) = true ∧ ws.getD j [] = v
  | 0 => by simp [bdW]
  | k + 1 => by
    have ih := bdW_mem ws v k
    rw [bdW]
    split
    · rename_i h
      simp only [Bool.and_eq_true, decide_eq_true_eq] at h
      rw [addK_mem, ih]
      constructor
      · rintro (⟨j, h1, h2, h3, h4⟩ | rfl)
        · exact ⟨j, by omega, h2, h3, h4⟩
        · exact ⟨k, by omega, h.1, h.2, rfl⟩
      · rintro ⟨j, h1, h2, h3, h4⟩
        rcases Nat.eq_or_lt_of_le (show j ≤ k by omega) with e | e
        · subst e; exact .inr h4.symm
        · exact .inl ⟨j, e, h2, h3, h4⟩
    · rename_i h
      rw [ih]
      constructor
      · rintro ⟨j, h1, h2, h3, h4⟩
        exact ⟨j, by omega, h2, h3, h4⟩
      · rintro ⟨j, h1, h2, h3, h4⟩
        rcases Nat.eq_or_lt_of_le (show j ≤ k by omega) with e | e
        · subst e; exact absurd (by simp only [Bool.and_eq_true, decide_eq_true_eq]; exact ⟨h2, h3⟩) h
        · exact ⟨j, e, h2, h3, h4⟩
theorem afA_mem (v : Nm) : ∀ (ws : List Nm) (b : Bool), v ∈ afA b ws ↔ ∃ j, j < ws.length ∧ ((j = 0 ∧ b = true) ∨ (0 < j ∧ isQ (ws.getD (j - 1) []) = true)) ∧ ws.getD j [] = v
  | [], b => by simp [afA]
  | w :: r, b => by
    have ih := afA_mem v r (isQ w)
    rw [afA, List.mem_append, ih]
    constructor
    · rintro (h | ⟨j, h1, h2, h3⟩)
      · cases b with
        | false => simp at h
        | true =>
          have : v = w := by simpa using h
          exact ⟨0, by simp, .inl ⟨rfl, rfl⟩, by rw [this]; rfl⟩
      · refine ⟨j + 1, by simp; omega, .inr ⟨by omega, ?_⟩, by rw [← h3]; rfl⟩
        rcases h2 with ⟨h4, h5⟩ | ⟨h4, h5⟩
        · subst h4; exact h5
        · obtain ⟨i, rfl⟩ : ∃ i, j = i + 1 := ⟨j - 1, by omega⟩
          exact h5
    · rintro ⟨j, h1, h2, h3⟩
      cases j with
      | zero =>
        rcases h2 with ⟨_, h5⟩ | ⟨h4, _⟩
        · subst h5
          left
          have : w = v := h3
          rw [this]; simp
        · omega
      | succ j =>
        right
        refine ⟨j, by simpa using h1, ?_, h3⟩
        rcases h2 with ⟨h4, _⟩ | ⟨_, h5⟩
        · omega
        · cases j with
          | zero => exact .inl ⟨rfl, h5⟩
          | succ i => exact .inr ⟨by omega, h5⟩
theorem bdW_afA (ws : List Nm) (v : Nm) : v ∈ bdW ws ws.length ↔ v ∈ afA false ws := by
  rw [bdW_mem, afA_mem]
  constructor
  · rintro ⟨j, h1, h2, h3, h4⟩; exact ⟨j, h1, .inr ⟨h2, h3⟩, h4⟩
  · rintro ⟨j, h1, h2 | ⟨h2, h3⟩, h4⟩
    · exact absurd h2.2 (by simp)
    · exact ⟨j, h1, h2, h3, h4⟩
def renU (B : List Nm) (tail : Nm) (ws : List Nm) (k : Nat) : List Nm := (ws.take k).map (renW B tail) ++ ws.drop k
theorem renU_zero (B : List Nm) (tail : Nm) (ws : List Nm) : renU B tail ws 0 = ws := by simp [renU]
theorem renU_all (B : List Nm) (tail : Nm) (ws : List Nm) : renU B tail ws ws.length = ws.map (renW B tail) := by simp [renU]
theorem renU_len (B : List Nm) (tail : Nm) (ws : List Nm) (k : Nat) : (renU B tail ws k).length = ws.length := by simp [renU]; omega
theorem renU_get (B : List Nm) (tail : Nm) (ws : List Nm) (k : Nat) (h : k < ws.length) : (renU B tail ws k).getD k [] = ws.getD k [] := by
  have hl : ((ws.take k).map (renW B tail)).length = k := by rw [List.length_map, List.length_take]; omega
  rw [List.getD_eq_getElem?_getD, List.getD_eq_getElem?_getD, renU, List.getElem?_append_right (by omega), hl, Nat.sub_self, List.getElem?_drop, Nat.add_zero]
theorem renU_succ (B : List Nm) (tail : Nm) (ws : List Nm) (k : Nat) (h : k < ws.length) : renU B tail ws (k + 1) = (renU B tail ws k).set k (renW B tail (ws.getD k [])) := by
  have hl : ((ws.take k).map (renW B tail)).length = k := by rw [List.length_map, List.length_take]; omega
  rw [renU, renU, List.take_add_one, List.getElem?_eq_getElem h, List.map_append, List.set_append_right _ _ (by omega), hl, Nat.sub_self, List.drop_eq_getElem_cons h, List.set_cons_zero]
  rw [List.getD_eq_getElem?_getD, List.getElem?_eq_getElem h]
  simp
theorem renU_same (B : List Nm) (tail : Nm) (ws : List Nm) (k : Nat) (h : k < ws.length) (hn : ws.getD k [] ∉ B) : renU B tail ws (k + 1) = renU B tail ws k := by
  rw [renU_succ B tail ws k h, renW, if_neg hn, ← renU_get B tail ws k h]
  have hl : k < (renU B tail ws k).length := by rw [renU_len]; exact h
  rw [List.getD_eq_getElem?_getD, List.getElem?_eq_getElem hl]
  exact List.set_getElem_self hl
def unseen (bs seen : List Nat) : Nat := (bs.filter fun n => !(seen.contains n)).length
theorem unseen_lt {bs seen : List Nat} {n : Nat} (h1 : n ∈ bs) (h2 : n ∉ seen) : unseen bs (seen ++ [n]) < unseen bs seen := by
  unfold unseen
  have key : ∀ l : List Nat, (l.filter fun m => !((seen ++ [n]).contains m)).length ≤ (l.filter fun m => !(seen.contains m)).length ∧ (n ∈ l → (l.filter fun m => !((seen ++ [n]).contains m)).length < (l.filter fun m => !(seen.contains m)).length) := by
    intro l
    induction l with
    | nil => exact ⟨Nat.le_refl _, fun h => by cases h⟩
    | cons m l ih =>
      by_cases hm : m ∈ seen
      · have e1 : (seen ++ [n]).contains m = true := by simp [hm]
        have e2 : seen.contains m = true := by simpa using hm
        have hmn : n ≠ m := fun e => h2 (e ▸ hm)
        rw [List.filter_cons, List.filter_cons, e1, e2]
        simp only [Bool.not_true, Bool.false_eq_true, if_false]
        exact ⟨ih.1, fun h => ih.2 ((List.mem_cons.1 h).resolve_left hmn)⟩
      · have e2 : seen.contains m = false := by simpa using hm
        by_cases hmn : m = n
        · subst hmn
          have e1 : (seen ++ [m]).contains m = true := by simp
          rw [List.filter_cons, List.filter_cons, e1, e2]
          simp only [Bool.not_true, Bool.not_false, Bool.false_eq_true, if_false, if_true, List.length_cons]
          exact ⟨by omega, fun _ => by omega⟩
        · have e1 : (seen ++ [n]).contains m = false := by simp [hm, hmn]
          rw [List.filter_cons, List.filter_cons, e1, e2]
          simp only [Bool.not_false, if_true, List.length_cons]
          exact ⟨by omega, fun h => by have := ih.2 ((List.mem_cons.1 h).resolve_left fun e => hmn e.symm); omega⟩
  exact (key bs).2 h1
end Go.Proofs.YteacpafhmgdbkaaGreatDoor
end

section
namespace Go.Proofs.YteacpafhmgdbkaaGreatDoor
open Go Go.AL Go.RowKit
set_option maxRecDepth 10000
set_option maxHeartbeats 4000000
abbrev bmH (B : List Nm) : Heap := [(1, .var 96 [.mp 0]), (0, .var (.map (keysS B)) (valsT B))]
theorem back1_spec (B : List Nm) (tail w : Nm) (hnd : B.Nodup) (hl : w.length + tail.length ≤ 1000000000) : ACall Tryz.prog 50 [Sv w, .ob 1 0, .im (.pt [Si tail])] (bmH B) (fun r H' => r = Bv (hasS (w ++ tail) B) ∧ H' = bmH B) := by
  refine ACall.walk [0, 1, 2, 4] [] Tryz.func50 rfl Tryz.ntmps50 (by kernel_rfl) (by rfl) rfl fun W own I0 φ0 lay => ?_
  refine gO ?_
  generalize w ++ tail = v at *
  cases ht : hasS v B with
  | true =>
    obtain ⟨j, hj⟩ := List.mem_iff_getElem?.1 (hasS_mem.1 ht)
    have hkj : (keysS B)[j]? = some (.string (BA v)) := by rw [keysS, List.getElem?_map, hj]; rfl
    have huq : ∀ i, (keysS B)[i]? = some (.string (BA v)) → i = j := fun i hi => keysS_uniq hnd hj hi
    have hvj : (valsT B)[j]? = some (Bv true) := by rw [valsT, List.getElem?_map, hj]; rfl
    refine AQ.lookF j (by kernel_rfl) rfl rfl rfl Tryz.underlying96 Tryz.underlying9 (keysS_ok B) trivial (List.mem_of_getElem? hkj) huq hvj ?_
    refine sI ?_
    refine gO ?_
    exact AE.ret rfl ⟨rfl, trivial⟩ ⟨rfl, rfl⟩
  | false =>
    refine AQ.lookN (by kernel_rfl) rfl rfl rfl Tryz.underlying96 Tryz.underlying9 (keysS_ok B) trivial (keysS_not ht) rfl rfl ?_
    refine sI ?_
    refine gO ?_
    exact AE.ret rfl ⟨rfl, trivial⟩ ⟨rfl, rfl⟩
abbrev bwH (ws B : List Nm) : Heap := (2, .vec 9 1 (stR ws)) :: bmH B
theorem indexB_walk (ws B : List Nm) (tail : Nm) (hnd : B.Nodup) (hl : ws.length ≤ 1000000) (hw : ∀ w ∈ ws, w.length + tail.length ≤ 1000000000) :
    ACall Tryz.prog 107 [.os 2 1 0 ws.length, .fn 50 [] [.ob 1 0, .im (.pt [Si tail])]] (bwH ws B) (fun r H' => ∃ i : Int, r = Iv i ∧ decide (0 ≤ i) = ws.any (fun w => hasS (w ++ tail) B) ∧ H' = bwH ws B) := by
  refine ACall.walk [0, 1, 4, 5, 7, 8, 9, 16] [] Tryz.func107 rfl Tryz.ntmps107 (by kernel_rfl) (by rfl) rfl fun W own I0 φ0 lay => ?_
  refine gO ?_
  refine AP.loop rfl (α := Nat) (fun k => [(0, .os 2 1 0 ws.length), (1, .fn 50 [] [.ob 1 0, .im (.pt [Si tail])]), (7, Iv ws.length), (8, Iv k)]) (fun _ => bwH ws B) (fun k => k ≤ ws.length ∧ ws.any (fun w => hasS (w ++ tail) B) = (ws.drop k).any (fun w => hasS (w ++ tail) B)) (fun k => ws.length - k) 0 ⟨by omega, rfl⟩ (sU) rfl fun k ⟨hk, hm⟩ => ?_
  rcases Nat.eq_or_lt_of_le hk with hke | hlt
  · refine gO ?_
    refine cF ?_
    refine gO ?_
    refine AE.ret rfl ⟨rfl, trivial⟩ ⟨-1, rfl, ?_, rfl⟩
    rw [hm, hke, List.drop_length]; rfl
  · have hrow := stR_get ws k hlt
    have hwr := wr (x := (k : Int) + 1) (by omega)
    have hmem : ws.getD k [] ∈ ws := by rw [List.getD_eq_getElem?_getD, List.getElem?_eq_getElem hlt]; exact List.getElem_mem _
    have hb := back1_spec B tail (ws.getD k []) hnd (hw _ hmem)
    have hd : (ws.drop k).any (fun w => hasS (w ++ tail) B) = (hasS (ws.getD k [] ++ tail) B || (ws.drop (k + 1)).any (fun w => hasS (w ++ tail) B)) := by
      rw [List.drop_eq_getElem_cons hlt, List.any_cons, List.getD_eq_getElem?_getD, List.getElem?_eq_getElem hlt]; rfl
    rw [hd] at hm
    generalize ws.getD k [] = w at *
    refine gO ?_
    refine cT ?_
    refine gE (an @hrow @stR_len) ?_
    refine AQ.callH [(1, 1), (0, 0)] (by kernel_rfl) rfl rfl rfl rfl rfl rfl (by refine ⟨rfl, ?_, trivial⟩; rw [rnO, rns_valsT]; rfl) rfl hb ?_
    rintro r H' ⟨rfl, rfl⟩
    refine ⟨rfl, ?_⟩
    refine sH ?_
    refine gO ?_
    refine AP.cond rfl rfl (fun h1 => ?_) (fun h1 => ?_)
    · refine gO ?_
      refine AE.ret rfl ⟨rfl, trivial⟩ ⟨k, rfl, ?_, rfl⟩
      rw [hm, h1]; simp
    · rw [h1, Bool.false_or] at hm
      refine gE @hwr ?_
      exact AE.round (k + 1) ⟨by omega, hm⟩ (by omega) (sU) rfl
theorem containsB_spec (ws B : List Nm) (tail : Nm) (hnd : B.Nodup) (hl : ws.length ≤ 1000000) (hw : ∀ w ∈ ws, w.length + tail.length ≤ 1000000000) :
    ACall Tryz.prog 49 [.os 2 1 0 ws.length, .fn 50 [] [.ob 1 0, .im (.pt [Si tail])]] (bwH ws B) (fun r H' => r = Bv (ws.any (fun w => hasS (w ++ tail) B)) ∧ H' = bwH ws B) := by
  refine ACall.walk [0, 1, 4] [] Tryz.func49 rfl Tryz.ntmps49 (by kernel_rfl) (by rfl) rfl fun W own I0 φ0 lay => ?_
  refine gO ?_
  refine AQ.callH [(2, 2), (1, 1), (0, 0)] (by kernel_rfl) rfl rfl rfl rfl rfl rfl (by refine ⟨rfl, rfl, ?_, trivial⟩; rw [rnO, rns_valsT]; rfl) rfl (indexB_walk ws B tail hnd hl hw) ?_
  rintro r H' ⟨i, rfl, hi, rfl⟩
  refine ⟨rfl, ?_⟩
  refine sH ?_
  refine gO ?_
  refine AE.ret rfl ⟨rfl, trivial⟩ ⟨?_, rfl⟩
  rw [← hi]; rfl
end Go.Proofs.YteacpafhmgdbkaaGreatDoor
end

section
namespace Go.Proofs.YteacpafhmgdbkaaGreatDoor
open Go Go.AL Go.RowKit
set_option maxRecDepth 10000
set_option maxHeartbeats 4000000
theorem nm_irr (a : Nm) : ¬ a < a := List.lt_irrefl a
theorem nm_tr {a b c : Nm} (h : a < b) (h2 : b < c) : a < c := List.lt_trans h h2
theorem nm_le {a b : Nm} (h : ¬ b < a) : a ≤ b := h
theorem nm_le_tr {a b c : Nm} (h : a ≤ b) (h2 : b ≤ c) : a ≤ c := List.le_trans h h2
theorem nm_tot (a b : Nm) : a ≤ b ∨ b ≤ a := List.le_total a b
theorem nm_lt {a b : Nm} (h : a ≤ b) (hne : a ≠ b) : a < b := by
  exact Std.lt_of_le_of_ne h hne
theorem nm_le_lt {a b c : Nm} (h : a ≤ b) (h2 : b < c) : a < c := by
  exact Std.lt_of_le_of_lt h h2
theorem ltS_eq (a b : Nm) : ltS a b = decide (a < b) := Go.Proofs.bytesLess_eq a b
def asc (l : List Nm) : Prop := l.Pairwise fun a b => a < b
def insN (s : Nm) : List Nm → List Nm
  | [] => [s]
  | x :: r => if x < s then x :: insN s r else if x = s then x :: r else s :: x :: r
theorem putS_ins (s : Nm) : ∀ l : List Nm, putS l s = insN s l
  | [] => by simp [putS, atS, rkS, insN]
  | x :: r => by
    have ih := putS_ins s r
    rw [insN]
    by_cases h : x < s
    · rw [if_pos h, ← ih]
      have e : rkS s (x :: r) = rkS s r + 1 := by rw [rkS, ltS_eq, decide_eq_true h, if_pos rfl]
      have e2 : atS s (x :: r) = atS s r := by rw [atS, atS, e]; simp
      rw [putS, putS, e2, e]
      split <;> simp
    · rw [if_neg h]
      have e : rkS s (x :: r) = 0 := by rw [rkS, ltS_eq, decide_eq_false h, if_neg (by simp)]
      have e2 : atS s (x :: r) = (x == s) := by rw [atS, e]; simp
      rw [putS, e2, e]
      by_cases hx : x = s
      · subst hx; simp
      · simp [hx]
theorem ins_mem (s t : Nm) : ∀ l : List Nm, t ∈ insN s l ↔ t = s ∨ t ∈ l
  | [] => by simp [insN]
  | x :: r => by
    rw [insN]
    split
    · rw [List.mem_cons, ins_mem s t r, List.mem_cons]
      constructor
      · rintro (h | h | h)
        · exact .inr (.inl h)
        · exact .inl h
        · exact .inr (.inr h)
      · rintro (h | h | h)
        · exact .inr (.inl h)
        · exact .inl h
        · exact .inr (.inr h)
    · split
      · rename_i h
        subst h
        rw [List.mem_cons]
        constructor
        · intro h; exact .inr h
        · rintro (h | h)
          · exact .inl h
          · exact h
      · rw [List.mem_cons]
theorem ins_asc (s : Nm) : ∀ l : List Nm, asc l → asc (insN s l)
  | [], _ => by simp [insN, asc]
  | x :: r, h => by
    have h := List.pairwise_cons.1 h
    rw [insN]
    split
    · rename_i hx
      refine List.pairwise_cons.2 ⟨fun y hy => ?_, ins_asc s r h.2⟩
      rcases (ins_mem s y r).1 hy with rfl | hy
      · exact hx
      · exact h.1 y hy
    · split
      · exact List.pairwise_cons.2 h
      · rename_i h1 h2
        have hsx : s < x := nm_lt (nm_le h1) (fun e => h2 e.symm)
        refine List.pairwise_cons.2 ⟨fun y hy => ?_, List.pairwise_cons.2 h⟩
        rcases List.mem_cons.1 hy with rfl | hy
        · exact hsx
        · exact nm_tr hsx (h.1 y hy)
theorem asc_uniq : ∀ (l m : List Nm), asc l → asc m → (∀ s, s ∈ l ↔ s ∈ m) → l = m
  | [], [], _, _, _ => rfl
  | [], y :: m, _, _, h => by have := (h y).2 (List.mem_cons_self ..); cases this
  | x :: l, [], _, _, h => by have := (h x).1 (List.mem_cons_self ..); cases this
  | x :: l, y :: m, hl, hm, h => by
    have hl := List.pairwise_cons.1 hl
    have hm := List.pairwise_cons.1 hm
    have hxy : x = y := by
      rcases List.mem_cons.1 ((h x).1 (List.mem_cons_self ..)) with e | hx
      · exact e
      · rcases List.mem_cons.1 ((h y).2 (List.mem_cons_self ..)) with e | hy
        · exact e.symm
        · exact absurd (nm_tr (hl.1 y hy) (hm.1 x hx)) (nm_irr x)
    subst hxy
    rw [asc_uniq l m hl.2 hm.2 fun s => ?_]
    constructor
    · intro hs
      rcases List.mem_cons.1 ((h s).1 (List.mem_cons_of_mem _ hs)) with e | h2
      · subst e; exact absurd (hl.1 _ hs) (nm_irr _)
      · exact h2
    · intro hs
      rcases List.mem_cons.1 ((h s).2 (List.mem_cons_of_mem _ hs)) with e | h2
      · subst e; exact absurd (hm.1 _ hs) (nm_irr _)
      · exact h2
theorem cmp_up (d : Array Nm) (hs : ∀ i j, i ≤ j → j < d.size → d[i]! ≤ d[j]!) : ∀ m, m ≤ d.size → asc (Lib.compactUpTo d m) ∧ (∀ x, x ∈ Lib.compactUpTo d m ↔ ∃ j, j < m ∧ d[j]! = x)
  | 0, _ => ⟨by simp [Lib.compactUpTo, asc], by simp [Lib.compactUpTo]⟩
  | m + 1, hm => by
    obtain ⟨h1, h2⟩ := cmp_up d hs m (by omega)
    rw [Lib.compactUpTo_succ]
    cases hk : Lib.keeps d m with
    | true =>
      rw [if_pos rfl]
      have hk : m = 0 ∨ d[m]! ≠ d[m - 1]! := by simpa [Lib.keeps] using hk
      refine ⟨List.pairwise_append.2 ⟨h1, by simp, fun a ha b hb => ?_⟩, fun x => ?_⟩
      · simp at hb
        subst hb
        obtain ⟨j, hj, rfl⟩ := (h2 a).1 ha
        have hk : d[m]! ≠ d[m - 1]! := hk.resolve_left (by omega)
        exact nm_le_lt (hs j (m - 1) (by omega) (by omega)) (nm_lt (hs (m - 1) m (by omega) (by omega)) fun e => hk e.symm)
      · rw [List.mem_append, h2]
        constructor
        · rintro (⟨j, hj, e⟩ | h)
          · exact ⟨j, by omega, e⟩
          · simp at h; exact ⟨m, by omega, h.symm⟩
        · rintro ⟨j, hj, e⟩
          rcases Nat.lt_or_ge j m with h | h
          · exact .inl ⟨j, h, e⟩
          · have : j = m := by omega
            subst this
            exact .inr (by simp [e])
    | false =>
      rw [if_neg (by simp), List.append_nil]
      have hk : ¬ (m = 0 ∨ d[m]! ≠ d[m - 1]!) := by simpa [Lib.keeps] using hk
      refine ⟨h1, fun x => ?_⟩
      rw [h2]
      constructor
      · rintro ⟨j, hj, e⟩; exact ⟨j, by omega, e⟩
      · rintro ⟨j, hj, e⟩
        rcases Nat.lt_or_ge j m with h | h
        · exact ⟨j, h, e⟩
        · have hj : j = m := by omega
          subst hj
          refine ⟨j - 1, by omega, ?_⟩
          rw [← e]
          exact (Classical.byContradiction fun hc => hk (.inr hc)).symm
def srtS (l : List Nm) : List Nm := l.mergeSort fun x y => decide (x ≤ y)
theorem srtS_len (l : List Nm) : (srtS l).length = l.length := List.length_mergeSort l
theorem srtS_mem (l : List Nm) (x : Nm) : x ∈ srtS l ↔ x ∈ l := by rw [srtS]; exact List.mem_mergeSort
theorem srtS_pw (l : List Nm) : (srtS l).Pairwise fun x y => x ≤ y := by
  have := List.pairwise_mergeSort (le := fun x y : Nm => decide (x ≤ y)) (fun a b c h1 h2 => by simp at *; exact nm_le_tr h1 h2) (fun a b => by simp; exact nm_tot a b) l
  exact this.imp fun h => by simpa using h
def cmpS (l : List Nm) : List Nm := Lib.compact (srtS l)
theorem cmpS_ok (l : List Nm) : asc (cmpS l) ∧ ∀ x, x ∈ cmpS l ↔ x ∈ l := by
  have hp := srtS_pw l
  have h := cmp_up (srtS l).toArray (fun i j hij hj => by
    have hj : j < (srtS l).length := by simpa using hj
    rw [getElem!_pos _ i (by simp; omega), getElem!_pos _ j (by simpa using hj)]
    rcases Nat.eq_or_lt_of_le hij with e | hlt
    · subst e; exact Std.le_refl _
    · exact List.pairwise_iff_getElem.1 hp i j (by omega) hj hlt) (srtS l).length (by simp)
  refine ⟨h.1, fun x => (h.2 x).trans ?_⟩
  rw [← srtS_mem]
  constructor
  · rintro ⟨j, hj, e⟩
    rw [getElem!_pos _ j (by simpa using hj)] at e
    rw [← e]
    simp
  · intro hx
    obtain ⟨j, hj, e⟩ := List.getElem_of_mem hx
    exact ⟨j, hj, by rw [getElem!_pos _ j (by simpa using hj)]; simpa using e⟩
theorem cmpS_len (l : List Nm) : (cmpS l).length ≤ l.length := by
  rw [← srtS_len l, cmpS, Lib.compact, Lib.compactUpTo, List.length_map]
  exact Nat.le_trans (List.length_filter_le _ _) (by simp)
end Go.Proofs.YteacpafhmgdbkaaGreatDoor
end

section
namespace Go.Proofs.YteacpafhmgdbkaaGreatDoor
open Go Go.AL Go.RowKit
set_option maxRecDepth 10000
set_option maxHeartbeats 4000000
mutual
def lvT : Tm → List Nm
  | .mk n _ xs => (if !(n == []) && (xs.length : Int) == 0 then [n] else []) ++ lvTs xs
def lvTs : List Tm → List Nm
  | [] => []
  | t :: l => lvT t ++ lvTs l
end
mutual
def lvF : Fm → List Nm
  | .mk _ _ ts ps => lvTs ts ++ lvFs ps
def lvFs : List Fm → List Nm
  | [] => []
  | t :: l => lvF t ++ lvFs l
end
theorem lvT_eq (t : Tm) : lvT t = (if !(t.nm == []) && (t.xs.length : Int) == 0 then [t.nm] else []) ++ lvTs t.xs := by cases t; rw [lvT]; rfl
theorem lvF_eq (f : Fm) : lvF f = lvTs f.ts ++ lvFs f.ps := by cases f; rw [lvF]; rfl
theorem hasS_append (s : Nm) (a b : List Nm) : hasS s (a ++ b) = (hasS s a || hasS s b) := by rw [hasS, List.any_append]; rfl
mutual
theorem has_lvT (s : Nm) : ∀ t : Tm, hasS s (lvT t) = ocT s t
  | .mk n i xs => by
    rw [lvT, ocT, hasS_append, has_lvTs s xs]
    cases h : !(n == []) && (xs.length : Int) == 0 with
    | true => rw [if_pos rfl]; simp [hasS]
    | false => rw [if_neg (by simp)]; simp [hasS]
theorem has_lvTs (s : Nm) : ∀ l : List Tm, hasS s (lvTs l) = ocTs s l
  | [] => by rw [lvTs, ocTs]; rfl
  | t :: l => by rw [lvTs, ocTs, hasS_append, has_lvT s t, has_lvTs s l]
end
mutual
theorem has_lvF (s : Nm) : ∀ t : Fm, hasS s (lvF t) = ocF s t
  | .mk _ _ ts ps => by rw [lvF, ocF, hasS_append, has_lvTs s ts, has_lvFs s ps]
theorem has_lvFs (s : Nm) : ∀ l : List Fm, hasS s (lvFs l) = ocFs s l
  | [] => by rw [lvFs, ocFs]; rfl
  | t :: l => by rw [lvFs, ocFs, hasS_append, has_lvF s t, has_lvFs s l]
end
mutual
theorem lvT_len : ∀ t : Tm, (lvT t).length ≤ szT t
  | .mk n i xs => by
    have := lvTs_len xs
    rw [lvT, szT, List.length_append]
    split <;> simp <;> omega
theorem lvTs_len : ∀ l : List Tm, (lvTs l).length ≤ szTs l
  | [] => by simp [lvTs]
  | t :: l => by
    have := lvT_len t
    have := lvTs_len l
    rw [lvTs, szTs, List.length_append]; omega
end
mutual
theorem lvF_len : ∀ t : Fm, (lvF t).length ≤ szF t
  | .mk _ _ ts ps => by
    have := lvTs_len ts
    have := lvFs_len ps
    rw [lvF, szF, List.length_append]; omega
theorem lvFs_len : ∀ l : List Fm, (lvFs l).length ≤ szFs l
  | [] => by simp [lvFs]
  | t :: l => by
    have := lvF_len t
    have := lvFs_len l
    rw [lvFs, szFs, List.length_append]; omega
end
mutual
theorem frT_asc : ∀ (t : Tm) {o : List Nm}, asc o → asc (frT t o)
  | .mk n i xs, o, h => by
    rw [frT]
    split
    · rw [putS_ins]; exact ins_asc n o h
    · exact frTs_asc xs h
theorem frTs_asc : ∀ (l : List Tm) {o : List Nm}, asc o → asc (frTs l o)
  | [], o, h => by rw [frTs]; exact h
  | t :: l, o, h => by rw [frTs]; exact frTs_asc l (frT_asc t h)
end
mutual
theorem frF_asc : ∀ (t : Fm) {o : List Nm}, asc o → asc (frF t o)
  | .mk _ _ ts ps, o, h => by rw [frF]; exact frFs_asc ps (frTs_asc ts h)
theorem frFs_asc : ∀ (l : List Fm) {o : List Nm}, asc o → asc (frFs l o)
  | [], o, h => by rw [frFs]; exact h
  | t :: l, o, h => by rw [frFs]; exact frFs_asc l (frF_asc t h)
end
theorem has_mem {s : Nm} {l : List Nm} : hasS s l = true ↔ s ∈ l := by
  unfold hasS
  rw [List.any_eq_true]
  constructor
  · rintro ⟨x, hx, e⟩
    have : x = s := by simpa using e
    exact this ▸ hx
  · intro h; exact ⟨s, h, by simp⟩
theorem free_cmp (F : Fm) : freeL F = cmpS (lvF F) := by
  refine asc_uniq _ _ (frF_asc F (by simp [asc])) (cmpS_ok _).1 fun s => ?_
  rw [(cmpS_ok _).2, ← has_mem, ← has_mem, has_free, has_lvF]
end Go.Proofs.YteacpafhmgdbkaaGreatDoor
end

section
namespace Go.Proofs
open Go.Shelf
def Tryz.lays190_ren : Go.Shelf.Ren := ⟨fun | 190 => 95 | 125 => 175 | 258 => 174 | 128 => 230 | 129 => 231 | 302 => 221 | 303 => 222 | 304 => 223 | 305 => 224 | 306 => 225 | 307 => 226 | 308 => 227 | 309 => 228 | 310 => 229 | 333 => 249 | 329 => 250 | 330 => 251 | 334 => 252 | 335 => 253 | 336 => 254 | 344 => 267 | n => n, fun | 31 => 67 | 9 => 9 | 3 => 3 | 46 => 244 | 0 => 0 | 51 => 276 | 53 => 278 | 4 => 4 | 183 => 268 | 182 => 267 | 131 => 273 | 5 => 5 | 218 => 292 | 222 => 296 | 228 => 302 | 229 => 50 | n => n, fun | n => n⟩
theorem Tryz.lays190 : Go.Proofs.Lays.n190 Tryz.prog Tryz.lays190_ren := {
  mixed := by kernel_rfl
  f125 := Tryz.func175.trans (congrArg some (by kernel_rfl))
  f128 := Tryz.func230.trans (congrArg some (by kernel_rfl))
  f129 := Tryz.func231.trans (congrArg some (by kernel_rfl))
  f190 := Tryz.func95.trans (congrArg some (by kernel_rfl))
  f258 := Tryz.func174.trans (congrArg some (by kernel_rfl))
  f302 := Tryz.func221.trans (congrArg some (by kernel_rfl))
  f303 := Tryz.func222.trans (congrArg some (by kernel_rfl))
  f304 := Tryz.func223.trans (congrArg some (by kernel_rfl))
  f305 := Tryz.func224.trans (congrArg some (by kernel_rfl))
  f306 := Tryz.func225.trans (congrArg some (by kernel_rfl))
  f307 := Tryz.func226.trans (congrArg some (by kernel_rfl))
  f308 := Tryz.func227.trans (congrArg some (by kernel_rfl))
  f309 := Tryz.func228.trans (congrArg some (by kernel_rfl))
  f310 := Tryz.func229.trans (congrArg some (by kernel_rfl))
  f329 := Tryz.func250.trans (congrArg some (by kernel_rfl))
  f330 := Tryz.func251.trans (congrArg some (by kernel_rfl))
  f333 := Tryz.func249.trans (congrArg some (by kernel_rfl))
  f334 := Tryz.func252.trans (congrArg some (by kernel_rfl))
  f335 := Tryz.func253.trans (congrArg some (by kernel_rfl))
  f336 := Tryz.func254.trans (congrArg some (by kernel_rfl))
  f344 := Tryz.func267.trans (congrArg some (by kernel_rfl))
  t0 := Tryz.underlying0
  a0 := Tryz.isAgg0
  z0 := Tryz.sizeOf0
  v0 := Tryz.zeroValue0
  t3 := Tryz.underlying3
  a3 := Tryz.isAgg3
  z3 := Tryz.sizeOf3
  v3 := Tryz.zeroValue3
  t4 := Tryz.underlying4
  a4 := Tryz.isAgg4
  z4 := Tryz.sizeOf4
  v4 := Tryz.zeroValue4
  t5 := Tryz.underlying5
  a5 := Tryz.isAgg5
  z5 := Tryz.sizeOf5
  v5 := Tryz.zeroValue5
  t9 := Tryz.underlying9
  a9 := Tryz.isAgg9
  z9 := Tryz.sizeOf9
  v9 := Tryz.zeroValue9
  t31 := Tryz.underlying67
  a31 := Tryz.isAgg67
  z31 := Tryz.sizeOf67
  v31 := Tryz.zeroValue67
  t46 := Tryz.underlying244
  a46 := Tryz.isAgg244
  z46 := Tryz.sizeOf244
  v46 := Tryz.zeroValue244
  t51 := Tryz.underlying276
  a51 := Tryz.isAgg276
  z51 := Tryz.sizeOf276
  v51 := Tryz.zeroValue276
  t53 := Tryz.underlying278
  a53 := Tryz.isAgg278
  z53 := Tryz.sizeOf278
  v53 := Tryz.zeroValue278
  t131 := Tryz.underlying273
  a131 := Tryz.isAgg273
  z131 := Tryz.sizeOf273
  v131 := Tryz.zeroValue273
  t182 := Tryz.underlying267
  a182 := Tryz.isAgg267
  z182 := Tryz.sizeOf267
  v182 := Tryz.zeroValue267
  t183 := Tryz.underlying268
  a183 := Tryz.isAgg268
  z183 := Tryz.sizeOf268
  v183 := Tryz.zeroValue268
  t218 := Tryz.underlying292
  a218 := Tryz.isAgg292
  z218 := Tryz.sizeOf292
  v218 := Tryz.zeroValue292
  t222 := Tryz.underlying296
  a222 := Tryz.isAgg296
  z222 := Tryz.sizeOf296
  v222 := Tryz.zeroValue296
  t228 := Tryz.underlying302
  a228 := Tryz.isAgg302
  z228 := Tryz.sizeOf302
  v228 := Tryz.zeroValue302
  t229 := Tryz.underlying50
  a229 := Tryz.isAgg50
  z229 := Tryz.sizeOf50
  v229 := Tryz.zeroValue50 }
open Go.Sort Go.RowKit in
theorem Tryz.slices_Sort_string (blk off cap : Nat) (ss : List (List UInt8)) (w : World) (hH : Holds encStr w blk off ss.toArray) (hblk : blk < w.heap.size) (hsz : ss.length < 4611686018427387904) :
    Calls Tryz.prog 95 #[.slice (some ⟨blk, off, none⟩) ss.length cap] w fun e w' =>
      e = .returned (.tuple #[]) ∧ ∃ n os, w' = grow (putRow encStr (Sort.ahead w n) blk off (ss.mergeSort fun x y => decide (x ≤ y)).toArray) os := Any.slices_Sort_string Tryz.lays190 blk off cap ss w hH hblk hsz
def Tryz.lays194_ren : Go.Shelf.Ren := ⟨fun | 194 => 96 | n => n, fun | 31 => 67 | 9 => 9 | 3 => 3 | 4 => 4 | 0 => 0 | n => n, fun | n => n⟩
theorem Tryz.lays194 : Go.Proofs.Lays.n194 Tryz.prog Tryz.lays194_ren := {
  mixed := by kernel_rfl
  f194 := Tryz.func96.trans (congrArg some (by kernel_rfl))
  t0 := Tryz.underlying0
  a0 := Tryz.isAgg0
  z0 := Tryz.sizeOf0
  v0 := Tryz.zeroValue0
  t3 := Tryz.underlying3
  a3 := Tryz.isAgg3
  z3 := Tryz.sizeOf3
  v3 := Tryz.zeroValue3
  t4 := Tryz.underlying4
  a4 := Tryz.isAgg4
  z4 := Tryz.sizeOf4
  v4 := Tryz.zeroValue4
  t9 := Tryz.underlying9
  a9 := Tryz.isAgg9
  z9 := Tryz.sizeOf9
  v9 := Tryz.zeroValue9
  t31 := Tryz.underlying67
  a31 := Tryz.isAgg67
  z31 := Tryz.sizeOf67
  v31 := Tryz.zeroValue67 }
open Go.RowKit Go.Lib Go.Sort in
theorem Tryz.slices_Compact_string (blk off cap : Nat) (zs : List (List UInt8)) (w : World) (hH : Holds encStr w blk off zs.toArray) (hsz : zs.length ≤ 9223372036854775807) (hcap : zs.length ≤ cap) :
    Calls Tryz.prog 96 #[.slice (some ⟨blk, off, none⟩) zs.length cap] w fun e w' => e = .returned (.slice (some ⟨blk, off, none⟩) (Lib.compact zs).length cap) ∧ ∃ q, w' = putRow encStr (Sort.ahead w q) blk off (Lib.compact zs ++ List.replicate (zs.length - (Lib.compact zs).length) []).toArray := Any.slices_Compact_string Tryz.lays194 blk off cap zs w hH hsz hcap
open Go.RowKit Go.Lib Go.Sort in
theorem Tryz.slices_Compact_string_empty (a : Option Addr) (cap : Nat) (w : World) :
    Calls Tryz.prog 96 #[.slice a 0 cap] w fun e w' => e = .returned (.slice a 0 cap) ∧ w' = w := Any.slices_Compact_string_empty Tryz.lays194 a cap w
open Go.RowKit Go.Sort in
theorem Tryz.slices_Sort_string_none (p : Option Addr) (cap : Nat) (w : World) :
    Calls Tryz.prog 95 #[.slice p 0 cap] w fun e w' => e = .returned (.tuple #[]) ∧ w' = w := Any.slices_Sort_string_none Tryz.lays190 p cap w
end Go.Proofs
namespace Go.Proofs.YteacpafhmgdbkaaGreatDoor
open Go Go.AL Go.RowKit Go.Shelf Go.Sort Go.Proofs
set_option maxRecDepth 10000
set_option maxHeartbeats 4000000
theorem row_holds {w : World} {φ : Phi} {I : Nat → Prop} {el : TypeId} {l : List Nm} (hR : Real w φ I [(0, .vec el 1 (strR l))]) {g : Nat} (hg : φ 0 = some (some g)) : Sort.Holds encStr w g 0 l.toArray ∧ g < w.heap.size := by
  have hat := hR.own 0 _ (some g) rfl hg
  simp only [Ob.at] at hat
  rcases hat with ⟨h1, _⟩ | ⟨g', vss, rest, e, hh, hd, _⟩
  · cases h1
  cases e
  have hfl := strR_flat l vss hd
  rw [hfl] at hh
  refine ⟨fun j hj => ?_, (hR.off 0 g hg).2⟩
  have hj : j < l.length := by simpa using hj
  rw [Nat.zero_add]
  constructor
  · rw [World.cell?, hh]
    show (l.map encStr ++ rest).toArray[j]? = _
    rw [List.getElem?_toArray, List.getElem?_append_left (by simpa using hj), List.getElem?_map, List.getElem?_eq_getElem hj]
    simp [hj]
  · simp [World.frozen?, hh]
theorem sort_spec (l : List Nm) (hl : l.length < 4611686018427387904) : ACall Tryz.prog 95 [.os 0 1 0 l.length] [(0, .vec 9 1 (strR l))] (fun r H' => r = .tup [] ∧ H' = [(0, .vec 9 1 (strR (srtS l)))]) := by
  refine ⟨by rfl, fun w φ I vs hd hR hV => ?_⟩
  simp only [AV.dens, AV.den] at hd
  obtain ⟨u, us, rfl, h, rfl⟩ := hd
  rcases h with ⟨hφ, _, hn, rfl⟩ | ⟨g, c, hφ, rfl, _⟩
  · have hl0 := List.eq_nil_of_length_eq_zero hn
    subst hl0
    refine (Tryz.slices_Sort_string_none none 0 w).mono fun e w' ⟨he, hw⟩ => ?_
    subst hw
    exact ⟨.tup [], _, φ, I, _, ⟨rfl, rfl⟩, he, ⟨[], rfl, rfl⟩, by rw [show srtS [] = [] by simp [srtS]]; exact real_st hR _⟩
  · obtain ⟨hH, hlt⟩ := row_holds hR hφ
    rw [Nat.zero_mul]
    refine (Tryz.slices_Sort_string g 0 c l w hH hlt hl).mono fun e w' ⟨he, n, os, hw⟩ => ?_
    subst hw
    exact ⟨.tup [], _, φ, I, _, ⟨rfl, rfl⟩, he, ⟨[], rfl, rfl⟩, St.putRow hR hφ (srtS_len l) n os⟩
theorem compact_spec (l : List Nm) (hl : l.length ≤ 9223372036854775807) : ACall Tryz.prog 96 [.os 0 1 0 l.length] [(0, .vec 9 1 (strR l))] (fun r H' => r = .os 0 1 0 (Lib.compact l).length ∧ H' = [(0, .vec 9 1 (strR (Lib.compact l ++ List.replicate (l.length - (Lib.compact l).length) [])))]) := by
  have hle : (Lib.compact l).length ≤ l.length := by
    rw [Lib.compact, Lib.compactUpTo, List.length_map]
    exact Nat.le_trans (List.length_filter_le _ _) (by simp)
  refine ⟨by rfl, fun w φ I vs hd hR hV => ?_⟩
  simp only [AV.dens, AV.den] at hd
  obtain ⟨u, us, rfl, h, rfl⟩ := hd
  rcases h with ⟨hφ, _, hn, rfl⟩ | ⟨g, c, hφ, rfl, hnc, hcm, hsh⟩
  · have hl0 := List.eq_nil_of_length_eq_zero hn
    subst hl0
    refine (Tryz.slices_Compact_string_empty none 0 w).mono fun e w' ⟨he, hw⟩ => ?_
    subst hw
    refine ⟨.os 0 1 0 0, _, φ, I, _, ⟨by simp [Lib.compact, Lib.compactUpTo], rfl⟩, he, .inl ⟨hφ, rfl, rfl, rfl⟩, ?_⟩
    have : Lib.compact ([] : List Nm) ++ List.replicate (([] : List Nm).length - (Lib.compact ([] : List Nm)).length) [] = [] := by simp [Lib.compact, Lib.compactUpTo]
    rw [this]
    exact real_st hR _
  · obtain ⟨hH, hlt⟩ := row_holds hR hφ
    rw [Nat.zero_mul]
    refine (Tryz.slices_Compact_string g 0 c l w hH hl hnc).mono fun e w' ⟨he, q, hw⟩ => ?_
    have hm : (Lib.compact l ++ List.replicate (l.length - (Lib.compact l).length) []).length = l.length := by rw [List.length_append, List.length_replicate]; omega
    have hst := St.putRow hR hφ hm q #[]
    rw [grow_empty, ← hw] at hst
    refine ⟨.os 0 1 0 (Lib.compact l).length, _, φ, I, _, ⟨rfl, rfl⟩, he, .inr ⟨g, c, hφ, by rw [Nat.zero_mul], by omega, hcm, ?_⟩, hst⟩
    obtain ⟨c0, e0, h0, h1⟩ := hsh
    obtain ⟨c1, fz, h2, h3⟩ := hst.ext.form g c0 e0 (0, 0) h0
    have hat := hst.real.own 0 _ (some g) rfl hφ
    simp only [Ob.at] at hat
    rcases hat with ⟨hx, _⟩ | ⟨g', vss, rest, e, hh, _⟩
    · cases hx
    cases e
    rw [hh] at h2
    cases h2
    exact ⟨_, _, hh, by rw [h3]; exact h1⟩
end Go.Proofs.YteacpafhmgdbkaaGreatDoor
end

section
namespace Go.Proofs.YteacpafhmgdbkaaGreatDoor
open Go Go.AL Go.RowKit
set_option maxRecDepth 10000
set_option maxHeartbeats 4000000
theorem stR_snc2 (l : List Nm) (s : Nm) : stR l ++ [[IV.v (Value.string (BA s))]] = stR (l ++ [s]) := by simp [stR]
abbrev frH (ri : Nat) (l : List Nm) : Heap := [(0, .var 67 [.os ri 1 0 l.length]), (ri, .vec 9 1 (stR l))]
abbrev flH (ri : Nat) (l : List Nm) : Heap := (3, .var 220 [.fn 147 [] [.ob 2 0, .ob 3 0]]) :: (2, .var 144 [.fn 94 [] [.ob 0 0]]) :: frH ri l
theorem free1_spec (l : List Nm) (s : Nm) (hl : l.length ≤ 1000000) : ACall Tryz.prog 94 [Sv s, .ob 0 0] (frH 1 l) (fun r H' => r = .tup [] ∧ H' = frH 2 (l ++ [s])) := by
  refine ACall.walk [0, 1] [] Tryz.func94 rfl Tryz.ntmps94 (by kernel_rfl) (by rfl) rfl fun W own I0 φ0 lay => ?_
  refine AP.rename 1 2 rfl rfl rfl ?_; refine sI ?_
  refine gO ?_
  refine AQ.kill 2 ?_
  refine sI ?_
  refine AQ.append (hnb := rfl) (rows := stR (l)) (es := 0) (by kernel_rfl) rfl rfl rfl (by rfl) Tryz.tk67 Tryz.sz9 (by show Option.map _ (zro Tryz.prog 9) = _; rw [Tryz.zr9]; rfl) Tryz.by9 (by rw [stR_len]) (by simp only [stR_len, List.length_cons, List.length_nil]; omega) (by simp only [stR_len, List.length_cons, List.length_nil]; omega) ?_
  refine sE @stR_len ?_
  refine gO ?_
  rw [stR_snc2, show l.length + 1 = (l ++ [s]).length by simp]
  exact AE.fall rfl trivial ⟨rfl, rfl⟩
theorem leavesF1_spec (t : Tm) (l : List Nm) (hl : l.length + szT t ≤ 1000000) (hs : tmS t) : ACall Tryz.prog 147 [tmV t, .ob 2 0, .ob 3 0] (flH 1 l) (fun r H' => r = .tup [] ∧ H' = flH 4 (l ++ lvT t)) := by
  have hs0 := tmS_eq.1 hs
  have hz := szT_eq t
  refine ACall.walk [0, 1, 2, 3, 5, 14, 20, 21, 22, 23] [5] Tryz.func147 rfl Tryz.ntmps147 (by kernel_rfl) (by rfl) rfl fun W own I0 φ0 lay => ?_
  refine AP.rename 1 4 rfl rfl rfl ?_; refine sI ?_
  refine gE @tmR_len ?_
  obtain ⟨c, hcd⟩ : ∃ c, (!(t.nm == []) && (t.xs.length : Int) == 0) = c := ⟨_, rfl⟩
  have he := lvT_eq t
  rw [hcd] at he
  refine AP.cut (α := Unit) (fun _ => [(1, .ob 2 0), (2, .ob 3 0), (3, .im (tmP t))]) (fun _ => flH 4 (l ++ if c then [t.nm] else [])) (fun _ => True) ?_ fun _ _ => ?_
  · refine AP.cond rfl rfl (fun h => ?_) (fun h => ?_)
    · rw [hcd] at h
      subst h
      refine gO ?_
      refine AQ.callH [(0, 0), (1, 4)] (by kernel_rfl) rfl rfl rfl rfl rfl rfl (by exact ⟨rfl, rfl, trivial⟩) rfl (free1_spec l t.nm (by omega)) ?_
      rintro r H' ⟨rfl, rfl⟩
      refine ⟨rfl, ?_⟩
      refine sH ?_
      refine AQ.rename 7 4 rfl rfl rfl ?_; refine sI ?_
      refine gO ?_
      refine AE.order [3, 2, 0, 4] rfl ?_
      exact AE.meet () trivial (sU) rfl
    · rw [hcd] at h
      subst h
      rw [if_neg (by simp), List.append_nil]
      refine gO ?_
      exact AE.meet () trivial (sU) rfl
  · have hm0 : (l ++ if c then [t.nm] else []).length ≤ l.length + 1 := by split <;> simp
    obtain ⟨l1, hl1⟩ : ∃ x, (l ++ if c then [t.nm] else []) = x := ⟨_, rfl⟩
    have he1 : l ++ lvT t = l1 ++ lvTs t.xs := by rw [he, ← List.append_assoc, hl1]
    rw [hl1] at hm0 ⊢
    rw [he1]
    clear hl1 he he1 hcd
    refine gE @tmR_len ?_
    refine AP.loop rfl (α := Nat × List Nm) (fun q => [(1, .ob 2 0), (2, .ob 3 0), (20, .im (.sl 3 (tmR t.xs))), (21, Iv t.xs.length), (22, Iv q.1)]) (fun q => flH 4 q.2) (fun q => q.1 ≤ t.xs.length ∧ q.2.length + szTs (t.xs.drop q.1) ≤ 1000000 ∧ l1 ++ lvTs t.xs = q.2 ++ lvTs (t.xs.drop q.1)) (fun q => t.xs.length - q.1) (0, l1) ⟨by omega, by simp only [List.drop_zero]; omega, by simp⟩ (sU) rfl fun q ⟨hk, hn, hm⟩ => ?_
    obtain ⟨k, m⟩ := q
    simp only at hk hm hn ⊢
    rcases Nat.eq_or_lt_of_le hk with hke | hlt
    · rw [hke, List.drop_length, lvTs, List.append_nil] at hm
      refine gO ?_
      refine cF ?_
      refine gO ?_
      exact AE.fall rfl trivial ⟨rfl, by rw [hm]⟩
    · obtain ⟨u, hu, hrow⟩ := tmR_get t.xs k hlt
      obtain ⟨h1, e1⟩ := List.getElem?_eq_some_iff.1 hu
      rw [List.drop_eq_getElem_cons h1, e1, lvTs] at hm
      rw [List.drop_eq_getElem_cons h1, e1, szTs] at hn
      have hlu := lvT_len u
      have hw := wr (x := (k : Int) + 1) (by omega)
      have ih := leavesF1_spec u m (by omega) (tmsS_get hs0.2.2 hu)
      clear e1 h1
      refine gO ?_
      refine cT ?_
      refine gE (an @hrow @tmR_len) ?_
      refine AQ.callH [(3, 3), (2, 2), (0, 0), (1, 4)] (by kernel_rfl) rfl rfl rfl rfl rfl rfl (by exact ⟨rfl, rfl, rfl, rfl, trivial⟩) rfl ih ?_
      rintro r H' ⟨rfl, rfl⟩
      refine ⟨rfl, ?_⟩
      refine sH ?_
      simp only [show (Nat.beq 2 4 || Nat.beq 3 4) = false from rfl]
      refine AQ.rename 10 4 rfl rfl rfl ?_; refine sI ?_
      refine gE @hw ?_
      refine AE.forgets [5] rfl ?_
      refine sI ?_
      refine AE.order [3, 2, 0, 4] rfl ?_
      exact AE.round (k + 1, m ++ lvT u) ⟨by simp only; omega, by simp only [List.length_append]; omega, by simp only; rw [hm, List.append_assoc]⟩ (by simp only; omega) (sU) rfl
termination_by SizeOf.sizeOf t
decreasing_by exact tm_mem hu
end Go.Proofs.YteacpafhmgdbkaaGreatDoor
end

section
namespace Go.Proofs.YteacpafhmgdbkaaGreatDoor
open Go Go.AL Go.RowKit
set_option maxRecDepth 10000
set_option maxHeartbeats 4000000
abbrev fgH (l : List Nm) : Heap := (6, .var 220 [.fn 147 [] [.ob 5 0, .ob 6 0]]) :: (5, .var 144 [.fn 94 [] [.ob 0 0]]) :: frH 4 l
theorem leavesF_spec (F : Fm) (l : List Nm) (hl : l.length + szF F ≤ 1000000) (hs : fmS F) : ACall Tryz.prog 83 [fmV F, .fn 94 [] [.ob 0 0]] (frH 1 l) (fun r H' => r = .tup [] ∧ H' = frH 4 (l ++ lvF F)) := by
  have hs0 := fmS_eq.1 hs
  have hz := szF_eq F
  have he := lvF_eq F
  refine ACall.walk [0, 1, 2, 3, 4, 6, 8, 11, 12, 13, 14, 22, 23, 24, 25] [3, 4, 6, 8] Tryz.func83 rfl Tryz.ntmps83 (by kernel_rfl) (by rfl) rfl fun W own I0 φ0 lay => ?_
  refine AP.rename 1 4 rfl rfl rfl ?_; refine sI ?_
  refine gE @tmR_len ?_
  refine AP.loop rfl (α := Nat × List Nm) (fun q => [(2, .im (fmP F)), (3, .ob 5 0), (4, .ob 6 0), (11, .im (.sl 3 (tmR F.ts))), (12, Iv F.ts.length), (13, Iv q.1)]) (fun q => fgH q.2) (fun q => q.1 ≤ F.ts.length ∧ q.2.length + szTs (F.ts.drop q.1) + szFs F.ps ≤ 1000000 ∧ l ++ lvTs F.ts = q.2 ++ lvTs (F.ts.drop q.1)) (fun q => F.ts.length - q.1) (0, l) ⟨by omega, by simp only [List.drop_zero]; omega, by simp⟩ (sU) rfl fun q ⟨hk, hn, hm⟩ => ?_
  obtain ⟨k, m⟩ := q
  simp only at hk hm hn ⊢
  rcases Nat.eq_or_lt_of_le hk with hke | hlt
  · rw [hke, List.drop_length, lvTs, List.append_nil] at hm
    rw [hke, List.drop_length, szTs] at hn
    have he2 : l ++ lvF F = m ++ lvFs F.ps := by rw [he, ← List.append_assoc, hm]
    rw [he2]
    clear he he2 hm
    refine gO ?_
    refine cF ?_
    refine gE @fmR_len ?_
    refine AP.loop rfl (α := Nat × List Nm) (fun q => [(2, .im (fmP F)), (3, .ob 5 0), (22, .im (.sl 4 (fmR F.ps))), (23, Iv F.ps.length), (24, Iv q.1)]) (fun q => fgH q.2) (fun q => q.1 ≤ F.ps.length ∧ q.2.length + szFs (F.ps.drop q.1) ≤ 1000000 ∧ m ++ lvFs F.ps = q.2 ++ lvFs (F.ps.drop q.1)) (fun q => F.ps.length - q.1) (0, m) ⟨by omega, by simp only [List.drop_zero]; omega, by simp⟩ (sU) rfl fun q ⟨hk, hn, hm⟩ => ?_
    obtain ⟨k, m2⟩ := q
    simp only at hk hm hn ⊢
    rcases Nat.eq_or_lt_of_le hk with hke | hlt
    · rw [hke, List.drop_length, lvFs, List.append_nil] at hm
      refine gO ?_
      refine cF ?_
      refine gO ?_
      exact AE.fallD [6, 5] rfl trivial rfl ⟨rfl, by rw [hm]; rfl⟩
    · obtain ⟨u, hu, hrow⟩ := fmR_get F.ps k hlt
      obtain ⟨h1, e1⟩ := List.getElem?_eq_some_iff.1 hu
      rw [List.drop_eq_getElem_cons h1, e1, lvFs] at hm
      rw [List.drop_eq_getElem_cons h1, e1, szFs] at hn
      have hlu := lvF_len u
      have hw := wr (x := (k : Int) + 1) (by omega)
      have ih := leavesF_spec u m2 (by omega) (fmsS_get hs0.2.2.2.2 hu)
      clear e1 h1
      refine gO ?_
      refine cT ?_
      refine gE (an @hrow @fmR_len) ?_
      refine AQ.callH [(0, 0), (1, 4)] (by kernel_rfl) rfl rfl rfl rfl rfl rfl (by exact ⟨rfl, rfl, trivial⟩) rfl ih ?_
      rintro r H' ⟨rfl, rfl⟩
      refine ⟨rfl, ?_⟩
      refine sH ?_
      refine AQ.rename 12 4 rfl rfl rfl ?_; refine sI ?_
      refine gE @hw ?_
      refine AE.forgets [7] rfl ?_
      refine sI ?_
      refine AE.order [6, 5, 0, 4] rfl ?_
      exact AE.round (k + 1, m2 ++ lvF u) ⟨by simp only; omega, by simp only [List.length_append]; omega, by simp only; rw [hm, List.append_assoc]⟩ (by simp only; omega) (sU) rfl
  · obtain ⟨u, hu, hrow⟩ := tmR_get F.ts k hlt
    obtain ⟨h1, e1⟩ := List.getElem?_eq_some_iff.1 hu
    rw [List.drop_eq_getElem_cons h1, e1, lvTs] at hm
    rw [List.drop_eq_getElem_cons h1, e1, szTs] at hn
    have hlu := lvT_len u
    have hw := wr (x := (k : Int) + 1) (by omega)
    have ih := leavesF1_spec u m (by omega) (tmsS_get hs0.2.2.1 hu)
    clear e1 h1
    refine gO ?_
    refine cT ?_
    refine gE (an @hrow @tmR_len) ?_
    refine AQ.callH [(3, 6), (2, 5), (0, 0), (1, 4)] (by kernel_rfl) rfl rfl rfl rfl rfl rfl (by exact ⟨rfl, rfl, rfl, rfl, trivial⟩) rfl ih ?_
    rintro r H' ⟨rfl, rfl⟩
    refine ⟨rfl, ?_⟩
    refine sH ?_
    simp only [show (Nat.beq 5 4 || Nat.beq 6 4) = false from rfl]
    refine AQ.rename 12 4 rfl rfl rfl ?_; refine sI ?_
    refine gE @hw ?_
    refine AE.forgets [7] rfl ?_
    refine sI ?_
    refine AE.order [6, 5, 0, 4] rfl ?_
    exact AE.round (k + 1, m ++ lvT u) ⟨by simp only; omega, by simp only [List.length_append]; omega, by simp only; rw [hm, List.append_assoc]⟩ (by simp only; omega) (sU) rfl
termination_by SizeOf.sizeOf F
decreasing_by exact fm_mem hu
theorem Free_spec (F : Fm) (hs : fmS F) (hz : szF F ≤ 100000) : PFn Tryz.prog 38 [fmV F] (.im (.sl 1 (stR (freeL F)))) := by
  have hlv := leavesF_spec F [] (by simp; omega) hs
  rw [List.nil_append] at hlv
  have hlen := lvF_len F
  have hso := sort_spec (lvF F) (by omega)
  have hco := compact_spec (srtS (lvF F)) (by rw [srtS_len]; omega)
  rw [srtS_len] at hco
  have hcl := cmpS_len (lvF F)
  rw [free_cmp]
  generalize hcm : cmpS (lvF F) = cm at *
  have hcm2 : Lib.compact (srtS (lvF F)) = cm := hcm
  rw [hcm2] at hco
  generalize lvF F = lv at *
  refine ACall.walk [0, 1, 2, 3] [3] Tryz.func38 rfl Tryz.ntmps38 (by kernel_rfl) (by rfl) rfl fun W own I0 φ0 lay => ?_
  refine gO ?_
  refine AQ.ownCell 0 0 9 1 rfl rfl ?_
  refine sI ?_
  refine gO ?_
  refine AQ.callH [(0, 0), (1, 1)] (by kernel_rfl) rfl rfl rfl rfl rfl rfl (by exact ⟨rfl, rfl, trivial⟩) rfl hlv ?_
  rintro r H' ⟨rfl, rfl⟩
  refine ⟨rfl, ?_⟩
  refine sH ?_
  refine gO ?_
  refine AQ.callH [(0, 6)] (by kernel_rfl) rfl rfl rfl rfl rfl rfl (by exact ⟨rfl, trivial⟩) rfl hso ?_
  rintro r H' ⟨rfl, rfl⟩
  refine ⟨rfl, ?_⟩
  refine sH ?_
  refine gO ?_
  refine AQ.callH [(0, 6)] (by kernel_rfl) rfl rfl rfl rfl rfl rfl (by exact ⟨rfl, trivial⟩) rfl hco ?_
  rintro r H' ⟨rfl, rfl⟩
  refine ⟨rfl, ?_⟩
  refine sH ?_
  refine AQ.trunc 6 cm.length rfl ?_
  refine sI ?_
  rw [show (strR (cm ++ List.replicate (lv.length - cm.length) [])).take cm.length = stR cm by rw [strR, List.map_append, List.take_left' (by simp)]; rfl]
  refine gO ?_
  refine sI ?_
  refine AE.forgets [0] rfl ?_
  refine sI ?_
  refine AE.freeze 6 (el := 9) (es := 1) (rows := stR cm) rfl (by simp only [go_sem, Nat.reduceAdd, Nat.reduceLeDiff, Nat.reduceSub, Int.reduceToNat, reduceCtorEq, stR_len]; first | done | trivial | omega | (simp; done) | (simp; omega)) (by simp only [go_sem, Nat.reduceAdd, Nat.reduceLeDiff, Nat.reduceSub, Int.reduceToNat, reduceCtorEq, stR_len]; first | done | trivial | omega | (simp; done) | (simp; omega)) ?_; simp only [go_sem, Nat.reduceAdd, Nat.reduceLeDiff, Nat.reduceSub, Int.reduceToNat, reduceCtorEq, stR_len]
  rw [stT cm cm.length (Nat.le_refl _)]
  exact AE.ret0 rfl ⟨rfl, trivial⟩ rfl ⟨rfl, rfl⟩
end Go.Proofs.YteacpafhmgdbkaaGreatDoor
end

section
namespace Go.Proofs.YteacpafhmgdbkaaGreatDoor
open Go Go.AL Go.RowKit
set_option maxRecDepth 10000
set_option maxHeartbeats 4000000
theorem byW_mem {w : Nm} : ∀ {l : List Nm}, w ∈ l → w.length + 1 ≤ byW l
  | y :: l, h => by
    rw [byW_cons]
    rcases List.mem_cons.1 h with h | h
    · subst h; omega
    · have := byW_mem h; omega
theorem join_mem {w : Nm} {l : List Nm} (h : w ∈ l) : w.length ≤ (joinB l).length := by
  cases l with
  | nil => cases h
  | cons y r =>
    rw [joinB, Lib.join_cons, List.length_append, tail_len]
    rcases List.mem_cons.1 h with h | h
    · subst h; omega
    · have := byW_mem h; omega
theorem back_walk (f : Fm) (tail : Nm) (hf : fmS f) (ht : tail.length ≤ 9223372036854775807) : PFn Tryz.prog 10 [fmV f, Sv tail] (Bv true) := by
  have hsm0 := small_spec [f] (by simp) (by rw [fmsS, fmsS]; exact ⟨hf, trivial⟩)
  have hsm : PFn Tryz.prog 22 [.im (.sl 4 [[Ii f.k, Si f.nm, .sl 3 (tmR f.ts), .sl 4 (fmR f.ps)]])] (Bv (smallB [f])) := by
    rw [fmR, fmR, fmC_eq] at hsm0; exact hsm0
  obtain ⟨b, hb⟩ : ∃ b, smallB [f] = b := ⟨_, rfl⟩
  rw [hb] at hsm
  clear hsm0
  by_cases hc : b = true ∧ tail.length ≤ 20
  · obtain ⟨rfl, htl⟩ := hc
    have z := small_sz hb
    rw [szFs, szFs] at z
    have hd : decide ((20 : Int) < tail.length) = false := by simp; omega
    have tx := text_spec f hf
    have hzz : szF f ≤ 400 := by omega
    clear hb z
    by_cases hu : unF f 0 = 0
    · obtain ⟨p1, p2, p3⟩ := pa_wd f hu hzz
      obtain ⟨hbd, hbv⟩ := bd_words f hu hzz
      have hq : txF f = (joinB (wdF f), 0) := by unfold txF; rw [if_pos hu, if_neg (by omega)]
      rw [hq] at tx
      have hwl : (wdF f).length ≤ 1200 := by have := fmW_len (tkF f []) f []; rw [wdF]; omega
      have hw0 : wdF f ≠ [] := fun e => by have := fmW_ge (tkF f []) [] f; rw [wdF] at e; rw [e] at this; simp at this
      have hgw : gws (wdF f) := by
        have h1 := fmX_gw (g := id) (tk := tkF f []) f [] (un_fit hu).2.2 (fun _ h => by cases h) fun v h => (hbv v h).1
        rw [fmX_id] at h1
        exact h1
      have hsp : ∀ w ∈ wdF f, 32 ∉ w := fun w hw hc => by have := gw_sp (hgw w hw) 32 hc; revert this; decide
      have hpa := parse_spec (joinB (wdF f)) p1 p2
      rw [p3] at hpa
      have hsame := same_spec f f hf
      rw [eqF_refl] at hsame
      have hspl := split_spec (wdF f) hw0 hsp (by omega)
      have hjl : (joinB (wdF f)).length ≤ 40000 := p1
      obtain ⟨ws, hws⟩ : ∃ ws, wdF f = ws := ⟨_, rfl⟩
      simp only [hws] at tx hpa hspl hjl hwl hw0 hgw hsp
      have hwsl : ∀ w ∈ ws, w.length ≤ 40000 := fun w hw => by have := join_mem hw; omega
      clear p1 p2 p3 hq
      generalize joinB ws = s at *
      simp only [paV] at hpa
      refine ACall.walk [0, 1, 2, 3, 4, 5, 6, 7, 9, 10, 11, 12, 13, 14, 15, 17, 18, 19, 20, 22, 31, 39, 58, 62, 63, 64, 65, 86, 98, 103, 105, 119, 122, 123, 124, 125, 130, 133, 134, 135, 136, 142] [7, 11, 20] Tryz.func10 rfl Tryz.ntmps10 (by kernel_rfl) (by rfl) rfl fun W own I0 φ0 lay => ?_
      refine gO ?_
      refine AQ.fn (by kernel_rfl) rfl rfl rfl (hsm) rfl ?_
      refine gE @hd ?_
      refine AQ.fn (by kernel_rfl) rfl rfl rfl (tx) rfl ?_
      refine gO ?_
      refine AQ.fn (by kernel_rfl) rfl rfl rfl (hpa) rfl ?_
      refine gO ?_
      refine AQ.guard_yes (by rfl) ?_
      refine AQ.fn (by kernel_rfl) rfl rfl rfl (hsame) rfl ?_
      refine gO ?_
      refine AQ.callv (by kernel_rfl) rfl rfl rfl hspl ?_
      rintro r H' ⟨rfl, rfl⟩
      refine sI ?_
      refine gO ?_
      refine AQ.mmake (by kernel_rfl) ?_
      refine sI ?_
      refine gO ?_
      refine AP.loop rfl (α := Nat) (fun k => [(2, .im (fmP f)), (3, .im (.pt [Si tail])), (10, .os 1 1 0 ws.length), (11, .ob 3 0), (62, .os 1 1 0 ws.length), (63, Iv ws.length), (64, Iv k)]) (fun k => [(3, .var 96 [.mp 2]), (2, .var (.map (keysS (bdW ws k))) (valsT (bdW ws k))), (1, .vec 9 1 (stR ws)), (0, .var 27 [Iv f.k, Sv f.nm, .im (.sl 3 (tmR f.ts)), .im (.sl 4 (fmR f.ps))])]) (fun k => k ≤ ws.length) (fun k => ws.length - k) 0 (by omega) (sU) rfl fun k hk => ?_
      rcases Nat.eq_or_lt_of_le hk with hke | hlt
      · subst hke
        have hnd := bdW_nodup ws ws.length
        have hBa : ∀ v, v ∈ bdW ws ws.length ↔ v ∈ afA false ws := bdW_afA ws
        have hBl := bdW_len ws ws.length
        generalize bdW ws ws.length = B at *
        have hcb := containsB_spec ws B tail hnd (by omega) (fun w hw => by have := hwsl w hw; omega)
        have hsy := isSymbol_spec (118 :: tail) (by simp; omega)
        refine gO ?_
        refine cF ?_
        refine gO ?_
        refine AQ.callH [(2, 1), (1, 3), (0, 2)] (by kernel_rfl) rfl rfl rfl rfl rfl rfl (by refine ⟨rfl, rfl, ?_, trivial⟩; rw [rnO, rns_valsT]; rfl) rfl hcb ?_
        rintro r H' ⟨rfl, rfl⟩
        refine ⟨rfl, ?_⟩
        refine sH ?_
        clear hcb
        generalize (ws.any fun w => hasS (w ++ tail) B) = an
        refine ⟨fun h => ⟨h, by omega⟩, ?_⟩
        cases an with
        | true =>
          refine gO ?_
          refine AQ.fn (by kernel_rfl) rfl rfl rfl (awake_spec) rfl ?_
          refine gO ?_
          exact AE.retD [3, 2, 1, 0] rfl ⟨rfl, trivial⟩ (by simp only [go_sem, Nat.reduceAdd, Nat.reduceLeDiff, Nat.reduceSub, Int.reduceToNat, reduceCtorEq, dropOk, noMen, AV.mens, AV.men, mens_valsT, Bool.or_false]; first | done | rfl) ⟨rfl, rfl⟩
        | false =>
          refine AQ.guard_yes (by simp only [go_sem]) ?_
          refine AQ.strip ?_
          refine sI ?_
          refine AQ.fn (by kernel_rfl) rfl rfl rfl (hsy) rfl ?_
          refine gO ?_
          refine AP.cond rfl rfl (fun h5 => ?_) (fun h5 => ?_)
          · refine gO ?_
            refine AQ.fn (by kernel_rfl) rfl rfl rfl (awake_spec) rfl ?_
            refine gO ?_
            exact AE.retD [3, 2, 1, 0] rfl ⟨rfl, trivial⟩ (by simp only [go_sem, Nat.reduceAdd, Nat.reduceLeDiff, Nat.reduceSub, Int.reduceToNat, reduceCtorEq, dropOk, noMen, AV.mens, AV.men, mens_valsT, Bool.or_false]; first | done | rfl) ⟨rfl, rfl⟩
          · have h5 : isNm (118 :: tail) = true := by unfold isNm; simpa using h5
            clear hsy
            have hfr := Free_spec f hf (by omega)
            have hfo : ∀ s, hasS s (freeL f) = ocF s f := fun s => has_free s f
            have hfl : (freeL f).length ≤ 1000000 := by have := frF_len f []; rw [freeL]; simp only [List.length_nil] at this; omega
            generalize freeL f = fr at *
            refine gO ?_
            refine AQ.fn (by kernel_rfl) rfl rfl rfl (hfr) rfl ?_
            refine gO ?_
            refine AQ.mrange (by kernel_rfl) rfl rfl Tryz.underlying96 fun bs clock hst => ?_
            have hcl : (valsT B).length = bs.length := by rw [← hst.len]; simp [valsT, keysS]
            have hone : ∀ k ∈ keysS B, k.oneCell' = true := fun k hk => by obtain ⟨v, _, rfl⟩ := List.mem_map.1 hk; rfl
            refine sI ?_
            refine gO ?_
            refine AP.loop rfl (α := List Nat) (fun _ => [(2, .im (fmP f)), (3, .im (.pt [Si tail])), (10, .os 1 1 0 ws.length), (11, .ob 3 0), (14, .im (.sl 1 (stR fr))), (103, .ob 4 0)]) (fun seen => [(4, .var (.raw (iterO clock seen clock)) [.mp 2]), (3, .var 96 [.mp 2]), (2, .var (.raw (mapO (keysS B) bs clock)) (valsT B)), (1, .vec 9 1 (stR ws)), (0, .var 27 [Iv f.k, Sv f.nm, .im (.sl 3 (tmR f.ts)), .im (.sl 4 (fmR f.ps))])])
              (fun seen => ∀ (j n : Nat) (v : Nm), bs[j]? = some n → n ∈ seen → B[j]? = some v → hasS (v ++ tail) fr = false ∧ (v ++ tail).length ≤ 60) (fun seen => unseen bs seen) [] (fun _ _ _ _ h _ => by cases h) (sU) rfl fun seen hseen => ?_
            refine gO ?_
            refine AQ.mnext (by kernel_rfl) rfl rfl rfl hst rfl rfl hone hcl (fun hall => ?_) (fun j n key y hbn hns hkey hy => ?_)
            · have hgd : ∀ v ∈ B, hasS (v ++ tail) fr = false ∧ (v ++ tail).length ≤ 60 := fun v hv => by
                obtain ⟨j, hj⟩ := List.mem_iff_getElem?.1 hv
                have hjl : j < bs.length := by have := (List.getElem?_eq_some_iff.1 hj).1; rw [← hst.len, keysS, List.length_map]; exact this
                exact hseen j bs[j] v (List.getElem?_eq_getElem hjl) (hall _ (List.getElem_mem _)) hj
              have hhs := heads_spec (szF f) f (Nat.le_refl _) (by omega)
              have hhl := hdF_len f
              have hpr := fun hh => pa_ren f tail B hu hzz (by rw [hws]; exact hBa) h5 (fun v hv => (hgd v hv).2) (fun v hv => by rw [← hfo]; exact (hgd v hv).1) hh
              rw [hws] at hpr
              generalize hdF f = hd at *
              clear hfr
              refine sI ?_
              refine gO ?_
              refine AQ.mback 2 rfl hst hcl ?_
              refine sI ?_
              refine AQ.fn (by kernel_rfl) rfl rfl rfl (hhs) rfl ?_
              refine gE @stR_len ?_
              refine AP.loop rfl (α := Nat) (fun k => [(2, .im (fmP f)), (3, .im (.pt [Si tail])), (10, .os 1 1 0 ws.length), (11, .ob 3 0), (122, .im (.sl 1 (stR hd))), (123, Iv hd.length), (124, Iv k)]) (fun _ => [(4, .var (.raw (iterO clock seen clock)) [.mp 2]), (3, .var 96 [.mp 2]), (2, .var (.map (keysS B)) (valsT B)), (1, .vec 9 1 (stR ws)), (0, .var 27 [Iv f.k, Sv f.nm, .im (.sl 3 (tmR f.ts)), .im (.sl 4 (fmR f.ps))])]) (fun k => k ≤ hd.length ∧ ∀ h ∈ hd.take k, h ∉ B) (fun k => hd.length - k) 0 ⟨by omega, fun h hh => by cases hh⟩ (sU) rfl fun k ⟨hk, hh⟩ => ?_
              rcases Nat.eq_or_lt_of_le hk with hke | hlt
              · rw [hke, List.take_length] at hh
                obtain ⟨r1, r2, r3⟩ := hpr hh
                clear hpr
                refine gO ?_
                refine cF ?_
                refine gO ?_
                refine AP.loop rfl (α := Nat) (fun k => [(2, .im (fmP f)), (3, .im (.pt [Si tail])), (10, .os 1 1 0 ws.length), (11, .ob 3 0), (133, .os 1 1 0 ws.length), (134, Iv ws.length), (135, Iv k)]) (fun k => [(4, .var (.raw (iterO clock seen clock)) [.mp 2]), (3, .var 96 [.mp 2]), (2, .var (.map (keysS B)) (valsT B)), (1, .vec 9 1 (stR (renU B tail ws k))), (0, .var 27 [Iv f.k, Sv f.nm, .im (.sl 3 (tmR f.ts)), .im (.sl 4 (fmR f.ps))])]) (fun k => k ≤ ws.length) (fun k => ws.length - k) 0 (by omega) (sU) (by rw [renU_zero]; rfl) fun k hk => ?_
                rcases Nat.eq_or_lt_of_le hk with hke | hlt
                · subst hke
                  rw [renU_all]
                  have hml : (ws.map (renW B tail)).length = ws.length := List.length_map ..
                  have hjn := join_spec (ws.map (renW B tail)) (by omega) (by omega)
                  have hp2 := parse_spec _ r1 r2
                  rw [r3] at hp2
                  simp only [paV] at hp2
                  generalize ws.map (renW B tail) = us at *
                  generalize joinB us = s2 at *
                  refine gO ?_
                  refine cF ?_
                  refine gO ?_
                  refine AQ.fnL (r := Sv s2) [.im (.sl 1 (stR us)), Sv [32]] (by kernel_rfl) rfl rfl rfl (LentAs.cons (LentA.of (Lent.osw rfl (by rw [stR_len, hml]))) (LentAs.cons (LentA.im _) LentAs.nil)) hjn rfl (fun _ => rfl) ?_
                  refine sI ?_
                  refine AQ.fn (by kernel_rfl) rfl rfl rfl (hp2) rfl ?_
                  refine gO ?_
                  refine AQ.guard_yes (by rfl) ?_
                  refine AQ.fn (by kernel_rfl) rfl rfl rfl (hsame) rfl ?_
                  refine gO ?_
                  refine AQ.guard_yes (by rfl) ?_
                  refine AQ.fn (by kernel_rfl) rfl rfl rfl (awake_spec) rfl ?_
                  refine gO ?_
                  exact AE.retD [5, 4, 3, 2, 1, 0] rfl ⟨rfl, trivial⟩ (by simp only [go_sem, Nat.reduceAdd, Nat.reduceLeDiff, Nat.reduceSub, Int.reduceToNat, reduceCtorEq, dropOk, noMen, AV.mens, AV.men, mens_valsT, Bool.or_false]; first | done | rfl) ⟨rfl, rfl⟩
                · have hul := renU_len B tail ws k
                  have hrow := stR_get (renU B tail ws k) k (by omega)
                  have hug := renU_get B tail ws k hlt
                  have hus := renU_succ B tail ws k hlt
                  have huk := renU_same B tail ws k hlt
                  have hwk := wr (x := (k : Int) + 1) (by omega)
                  have hvm : ws.getD k [] ∈ ws := by rw [List.getD_eq_getElem?_getD, List.getElem?_eq_getElem hlt]; exact List.getElem_mem _
                  have hvl := hwsl _ hvm
                  rw [hug] at hrow
                  generalize ws.getD k [] = v at *
                  have hst1 : ∀ x : Nm, (stR (renU B tail ws k)).set k [Si x] = stR ((renU B tail ws k).set k x) := fun x => by simp [stR, List.map_set]
                  have hul2 : (stR (renU B tail ws k)).length = ws.length := by rw [stR_len]; exact hul
                  refine gO ?_
                  refine cT ?_
                  refine gE (an @hrow @hul2) ?_
                  cases hv : hasS v B with
                  | true =>
                    obtain ⟨j, hj⟩ := List.mem_iff_getElem?.1 (hasS_mem.1 hv)
                    have hkj : (keysS B)[j]? = some (.string (BA v)) := by rw [keysS, List.getElem?_map, hj]; rfl
                    have huq : ∀ i, (keysS B)[i]? = some (.string (BA v)) → i = j := fun i hi => keysS_uniq hnd hj hi
                    have hvj : (valsT B)[j]? = some (Bv true) := by rw [valsT, List.getElem?_map, hj]; rfl
                    refine AQ.lookF j (by kernel_rfl) rfl rfl rfl Tryz.underlying96 Tryz.underlying9 (keysS_ok B) trivial (List.mem_of_getElem? hkj) huq hvj ?_
                    refine sI ?_
                    refine gO ?_
                    refine AP.drawE 8 (Tree.node [] [0, 1, 2, 3, 4, 5, 6] [7] [Tree.node [] [] [] []]) (by kernel_rfl) rfl (by kernel_rfl) (by kernel_rfl) ?_
                    refine vd_node ?_
                    refine sE (an @hrow @hul2) ?_
                    refine ⟨by omega, by omega, by omega, by omega, ?_⟩
                    refine AQ.go (by kernel_rfl) ?_
                    refine sE @hst1 ?_
                    refine ⟨by omega, ?_⟩
                    refine AQ.nx rfl ?_
                    refine sI ?_
                    have e3 : (stR (renU B tail ws k)).set k (IV.v (Value.string (BA (v ++ tail))) :: List.drop 1 ((stR (renU B tail ws k)).getD k [])) = stR ((renU B tail ws k).set k (v ++ tail)) := by rw [hrow]; exact hst1 _
                    rw [e3]
                    refine AQ.done ?_
                    refine sI ?_
                    refine gE @hwk ?_
                    exact AE.round (k + 1) (by omega) (by omega) (sU) (by rw [hus, renW, if_pos (hasS_mem.1 hv)])
                  | false =>
                    refine AQ.lookN (by kernel_rfl) rfl rfl rfl Tryz.underlying96 Tryz.underlying9 (keysS_ok B) trivial (keysS_not hv) rfl rfl ?_
                    refine sI ?_
                    refine gE @hwk ?_
                    exact AE.round (k + 1) (by omega) (by omega) (sU) (by rw [huk fun hc => by rw [hasS_mem.2 hc] at hv; cases hv])
              · have hrow := stR_get hd k hlt
                have hwk := wr (x := (k : Int) + 1) (by omega)
                have htk : hd.take (k + 1) = hd.take k ++ [hd.getD k []] := by rw [List.take_add_one, List.getElem?_eq_getElem hlt, List.getD_eq_getElem?_getD, List.getElem?_eq_getElem hlt]; rfl
                clear hpr
                generalize hd.getD k [] = v at *
                refine gO ?_
                refine cT ?_
                refine gE (an @hrow @stR_len) ?_
                cases hv : hasS v B with
                | true =>
                  obtain ⟨j, hj⟩ := List.mem_iff_getElem?.1 (hasS_mem.1 hv)
                  have hkj : (keysS B)[j]? = some (.string (BA v)) := by rw [keysS, List.getElem?_map, hj]; rfl
                  have huq : ∀ i, (keysS B)[i]? = some (.string (BA v)) → i = j := fun i hi => keysS_uniq hnd hj hi
                  have hvj : (valsT B)[j]? = some (Bv true) := by rw [valsT, List.getElem?_map, hj]; rfl
                  refine AQ.lookF j (by kernel_rfl) rfl rfl rfl Tryz.underlying96 Tryz.underlying9 (keysS_ok B) trivial (List.mem_of_getElem? hkj) huq hvj ?_
                  refine sI ?_
                  refine gO ?_
                  refine AQ.fn (by kernel_rfl) rfl rfl rfl (awake_spec) rfl ?_
                  refine gO ?_
                  exact AE.retD [4, 3, 2, 1, 0] rfl ⟨rfl, trivial⟩ (by simp only [go_sem, Nat.reduceAdd, Nat.reduceLeDiff, Nat.reduceSub, Int.reduceToNat, reduceCtorEq, dropOk, noMen, AV.mens, AV.men, mens_valsT, Bool.or_false]; first | done | rfl) ⟨rfl, rfl⟩
                | false =>
                  refine AQ.lookN (by kernel_rfl) rfl rfl rfl Tryz.underlying96 Tryz.underlying9 (keysS_ok B) trivial (keysS_not hv) rfl rfl ?_
                  refine sI ?_
                  refine gE @hwk ?_
                  exact AE.round (k + 1) ⟨by omega, fun h hh2 => by
                    rw [htk] at hh2
                    rcases List.mem_append.1 hh2 with hh2 | hh2
                    · exact hh h hh2
                    · have : h = v := by simpa using hh2
                      rw [this]
                      intro hc
                      rw [hasS_mem.2 hc] at hv; cases hv⟩ (by omega) (sU) rfl
            · obtain ⟨v, hv, rfl⟩ : ∃ v, B[j]? = some v ∧ key = .string (BA v) := by
                rw [keysS, List.getElem?_map] at hkey
                cases hx : B[j]? with
                | none => rw [hx] at hkey; cases hkey
                | some v => rw [hx] at hkey; exact ⟨v, rfl, by injection hkey with h; exact h.symm⟩
              obtain rfl : y = Bv true := by
                rw [valsT, List.getElem?_map, hv] at hy
                injection hy with h; exact h.symm
              have hvl : v.length ≤ 60 := by
                have h1 := (hBa v).1 (List.mem_of_getElem? hv)
                rw [← hws, hbd] at h1
                exact (isNm_len (hbv v h1).1).1
              have hcs := containsS_spec fr (v ++ tail) (by omega)
              refine sI ?_
              refine gO ?_
              refine AQ.mentry (by kernel_rfl) rfl rfl rfl hst hone hcl hbn hkey hy ?_
              refine sI ?_
              refine gO ?_
              refine AQ.fn (by kernel_rfl) rfl rfl rfl (hcs) rfl ?_
              refine gO ?_
              refine AP.cond rfl rfl (fun h6 => ?_) (fun h6 => ?_)
              · refine gO ?_
                refine AQ.fn (by kernel_rfl) rfl rfl rfl (awake_spec) rfl ?_
                refine gO ?_
                exact AE.retD [4, 3, 2, 1, 0] rfl ⟨rfl, trivial⟩ (by simp only [go_sem, Nat.reduceAdd, Nat.reduceLeDiff, Nat.reduceSub, Int.reduceToNat, reduceCtorEq, dropOk, noMen, AV.mens, AV.men, mens_valsT, Bool.or_false]; first | done | rfl) ⟨rfl, rfl⟩
              · simp only [Bool.or_eq_false_iff, decide_eq_false_iff_not] at h6
                refine gO ?_
                refine AE.round (seen ++ [n]) (fun j' n' v' h7 h8 h9 => ?_) (unseen_lt (List.mem_of_getElem? hbn) hns) (sU) rfl
                rcases List.mem_append.1 h8 with h8 | h8
                · exact hseen j' n' v' h7 h8 h9
                · have e1 : n' = n := by simpa using h8
                  subst e1
                  have e2 : j' = j := by
                    obtain ⟨a1, b1⟩ := List.getElem?_eq_some_iff.1 h7
                    obtain ⟨a2, b2⟩ := List.getElem?_eq_some_iff.1 hbn
                    exact (List.getElem_inj hst.nd).1 (b1.trans b2.symm)
                  subst e2
                  rw [hv] at h9
                  cases h9
                  exact ⟨h6.1, by have := h6.2; simp only [List.length_append] at this ⊢; omega⟩
      · have hrow := stR_get ws k hlt
        have hwk := wr (x := (k : Int) + 1) (by omega)
        have hbs : bdW ws (k + 1) = if decide (0 < k) && isQ (ws.getD (k - 1) []) then addK (bdW ws k) (ws.getD k []) else bdW ws k := by rw [bdW]
        have hnd := bdW_nodup ws k
        cases k with
        | zero =>
          rw [show (decide (0 < 0) && isQ (ws.getD (0 - 1) [])) = false from rfl, if_neg (by simp)] at hbs
          refine gO ?_
          refine cT ?_
          refine xA ?_
          refine xR ?_
          refine sE (an @hrow @stR_len) ?_
          refine ⟨by omega, by omega, ?_⟩
          refine xD ?_
          refine xC ?_
          refine AP.regionS [(3, .top), (4, .top), (5, .top), (6, .top), (7, .top), (8, .top), (9, .top), (10, .top), (11, .top), (12, .top), (13, .top), (14, .top), (15, .top), (16, Bv false)] rfl (by kernel_rfl) ?_
          refine sI ?_
          refine gO ?_
          refine gE @hwk ?_
          exact AE.round (0 + 1) (by omega) (by omega) (sU) (by rw [hbs])
        | succ m =>
          have hrow2 := stR_get ws m (by omega)
          have hd0 : decide (0 < ((m + 1 : Nat) : Int)) = true := by simp
          have ek : (((m + 1 : Nat) : Int) - 1) = (m : Int) := by omega
          have wm := wr (x := (m : Int)) (by omega)
          rw [show decide (0 < m + 1) = true by simp, Bool.true_and, Nat.add_sub_cancel] at hbs
          generalize ws.getD (m + 1) [] = v at *
          generalize ws.getD m [] = v0 at *
          refine gO ?_
          refine cT ?_
          repeat (first | refine xA ?_ | refine xB ?_ | refine xC ?_ | refine xE ?_ | refine xD ?_ | refine xK ?_ | refine xS ?_ | refine xM ?_ | refine xT ?_ | refine xF ?_ | ((first | refine xR ?_ | refine xW ?_ | refine vq_id ?_); simp only [go_sem, Nat.reduceAdd, Nat.reduceLeDiff, Nat.reduceSub, Int.reduceToNat, reduceCtorEq, hrow, hrow2, stR_len, hd0, ek, wm, Int.toNat_natCast]) | (refine ⟨by first | omega | (intros; simp_all; done) | (intros; simp_all; omega), ?_⟩; try simp only [go_sem, Nat.reduceAdd, Nat.reduceLeDiff, Nat.reduceSub, Int.reduceToNat, reduceCtorEq, hrow, hrow2, stR_len, hd0, ek, wm, Int.toNat_natCast]))
          refine AP.cond rfl rfl (fun h => ?_) (fun h => ?_)
          · have h : isQ v0 = true := h
            rw [if_pos h] at hbs
            generalize bdW ws (m + 1) = B at *
            refine gO ?_
            cases hv : hasS v B with
            | true =>
              obtain ⟨j, hj⟩ := List.mem_iff_getElem?.1 (hasS_mem.1 hv)
              have hkj : (keysS B)[j]? = some (.string (BA v)) := by rw [keysS, List.getElem?_map, hj]; rfl
              have huq : ∀ i, (keysS B)[i]? = some (.string (BA v)) → i = j := fun i hi => keysS_uniq hnd hj hi
              refine AQ.msetF j (by kernel_rfl) rfl rfl rfl rfl Tryz.underlying96 Tryz.underlying9 (keysS_ok B) trivial (List.mem_of_getElem? hkj) huq ?_
              refine sI ?_
              have e : (valsT B).set j (Bv true) = valsT B := by
                obtain ⟨h1, _⟩ := List.getElem?_eq_some_iff.1 hj
                have h2 : j < (valsT B).length := by rw [valsT, List.length_map]; exact h1
                have h3 : (valsT B)[j] = Bv true := by simp [valsT]
                rw [← h3]; exact List.set_getElem_self h2
              rw [e]
              refine gE @hwk ?_
              exact AE.round (m + 1 + 1) (by omega) (by omega) (sU) (by rw [hbs]; unfold addK; rw [hv]; rfl)
            | false =>
              refine AQ.msetN (by kernel_rfl) rfl rfl rfl rfl Tryz.underlying96 Tryz.underlying9 (keysS_ok B) trivial (keysS_not hv) ?_
              refine sI ?_
              rw [← keysS_add, ← valsT_add]
              refine gE @hwk ?_
              exact AE.round (m + 1 + 1) (by omega) (by omega) (sU) (by rw [hbs]; unfold addK; rw [hv]; rfl)
          · have h : isQ v0 = false := h
            rw [if_neg (by rw [h]; simp)] at hbs
            refine gE @hwk ?_
            exact AE.round (m + 1 + 1) (by omega) (by omega) (sU) (by rw [hbs])
    · have hq : txF f = ([], unF f 0) := by unfold txF; rw [if_neg hu]
      rw [hq] at tx
      have hne : (unF f 0 != 0) = true := bne_iff_ne.2 hu
      simp only at tx
      generalize unF f 0 = e at *
      refine ACall.walk [0, 1, 2, 3, 4, 5, 6, 7, 9, 10, 11, 12, 13, 14, 15, 17, 18, 19, 20, 22, 31, 39, 58, 62, 63, 64, 65, 86, 98, 103, 105, 119, 122, 123, 124, 125, 130, 133, 134, 135, 136, 142] [7, 11, 20] Tryz.func10 rfl Tryz.ntmps10 (by kernel_rfl) (by rfl) rfl fun W own I0 φ0 lay => ?_
      refine gO ?_
      refine AQ.fn (by kernel_rfl) rfl rfl rfl (hsm) rfl ?_
      refine gE @hd ?_
      refine AQ.fn (by kernel_rfl) rfl rfl rfl (tx) rfl ?_
      refine gO ?_
      refine AP.cond rfl rfl (fun h5 => ?_) (fun h5 => ?_)
      · refine gO ?_
        refine AQ.guard_yes (by rfl) ?_
        refine AQ.fn (by kernel_rfl) rfl rfl rfl (awake_spec) rfl ?_
        refine gO ?_
        exact AE.ret0 rfl ⟨rfl, trivial⟩ rfl ⟨rfl, rfl⟩
      · rw [hne] at h5
        cases h5
  · have hd : (!b || decide ((20 : Int) < tail.length)) = true := by
      cases b with
      | false => rfl
      | true => simp at hc ⊢; omega
    refine ACall.walk [0, 1, 2, 3, 4, 5, 6, 7, 9, 10, 11, 12, 13, 14, 15, 17, 18, 19, 20, 22, 31, 39, 58, 62, 63, 64, 65, 86, 98, 103, 105, 119, 122, 123, 124, 125, 130, 133, 134, 135, 136, 142] [7, 11, 20] Tryz.func10 rfl Tryz.ntmps10 (by kernel_rfl) (by rfl) rfl fun W own I0 φ0 lay => ?_
    refine gO ?_
    refine AQ.fn (by kernel_rfl) rfl rfl rfl (hsm) rfl ?_
    refine gO ?_
    refine AP.cond rfl rfl (fun h5 => ?_) (fun h5 => ?_)
    · refine gO ?_
      refine AQ.fn (by kernel_rfl) rfl rfl rfl (awake_spec) rfl ?_
      refine gO ?_
      exact AE.ret0 rfl ⟨rfl, trivial⟩ rfl ⟨rfl, rfl⟩
    · rw [hd] at h5
      cases h5
end Go.Proofs.YteacpafhmgdbkaaGreatDoor
end

section
namespace Go.Proofs.YteacpafhmgdbkaaGreatDoor
open Go Go.AL Go.RowKit
set_option maxRecDepth 100000
theorem vk_of5 {W : World} (h : laidMet Tryz.prog [("math/bits.deBruijn32tab", Rows.laid_math_bits_deBruijn32tab), ("math/bits.deBruijn64tab", Rows.laid_math_bits_deBruijn64tab), ("internal/strconv.uint64pow10", Rows.laid_internal_strconv_uint64pow10), ("unicode/utf8.acceptRanges", Rows.laid_unicode_utf8_acceptRanges), ("unicode/utf8.first", Rows.laid_unicode_utf8_first)] W) :
    VK Tryz.prog W (fun g => g < W.heap.size) := by
  have h3 := h.tail.tail
  intro x hx g hg
  simp only [laidVars, List.mem_cons, List.not_mem_nil, or_false] at hx
  rcases hx with rfl | rfl | rfl
  · rw [gSyn] at hg; cases hg
  · rw [gRng] at hg; cases hg
  · have ht : Lib.TabIs Tryz.prog W "internal/strconv.uint64pow10" .u64 Lib.pow10Tab := Lib.tabIs_of_head (rest := _) gPow gPowT Tryz.underlying310 Tryz.underlying278 (by kernel_rfl) (by kernel_rfl) h3
    obtain ⟨h1, T, fz, h2⟩ := var_cells hg ht
    exact ⟨h1, _, h2, T, fz, rfl⟩
def rangeCells (d : DataW Unit) : Array Value := match d with
  | .agg l => (l.flatMap fun x => (litCells x).toList).toArray
  | _ => #[]
noncomputable def laidWorld5 (os : Os) : World :=
  let w0 := World.holding Tryz.prog os ⟨#[], #[], []⟩
  { w0 with heap := ((((w0.heap.modify 3 (putCells (litCells Rows.laid_internal_strconv_uint64pow10))).modify 4 (putCells (litCells Rows.laid_math_bits_deBruijn32tab))).modify 5 (putCells (litCells Rows.laid_math_bits_deBruijn64tab))).modify 2 (putCells (rangeCells Rows.laid_unicode_utf8_acceptRanges))).modify 1 (putCells (litCells Rows.laid_unicode_utf8_first)) }
end Go.Proofs.YteacpafhmgdbkaaGreatDoor
end
