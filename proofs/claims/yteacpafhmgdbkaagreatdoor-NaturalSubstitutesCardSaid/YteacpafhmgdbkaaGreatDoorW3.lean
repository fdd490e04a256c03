import Derived.Test.YteacpafhmgdbkaaGreatDoorW2
set_option linter.unusedSimpArgs false
set_option linter.unusedVariables false
set_option linter.unnecessarySimpa false
section
namespace Go.Proofs.YteacpafhmgdbkaaGreatDoor
open Go Go.AL Go.RowKit
set_option maxRecDepth 10000
set_option maxHeartbeats 4000000
def szd (g : Fm) : Fm × Int := if unF g 0 = 0 then (g, 0) else (fm0, 15)
abbrev feV (q : Fm × Int) : AV := .tup [fmV q.1, Iv q.2]
theorem szd_spec (f : Fm) (hs : fmS f) : PFn Tryz.prog 68 [fmV f] (feV (szd f)) := by
  have h := sized_spec f hs
  unfold szd
  by_cases hu : unF f 0 = 0
  · rw [if_pos hu, if_pos hu] at h; rw [if_pos hu]; exact h
  · rw [if_neg hu, if_neg hu] at h; rw [if_neg hu]; exact h
def insE (f : Fm) (t : Tm) : Int := fstE [unF f 0, clT t, if decide (0 < bnd f) then 0 else 1]
def insF (f : Fm) (t : Tm) : Fm × Int := if insE f t = 0 then szd (opn t (part f 0)) else (fm0, insE f t)
def absE (k : Int) (f : Fm) (nm : Nm) : Int := fstE [if (k == 7 || k == 8) then 0 else 1, unF f 0, if isNm nm then 0 else 2]
def absF (k : Int) (f : Fm) (nm : Nm) : Fm × Int := if absE k f nm = 0 then szd (conn k [abst nm f]) else (fm0, absE k f nm)
def rplE (f : Fm) (nm : Nm) (t : Tm) : Int := fstE [unF f 0, clT t, if isNm nm then 0 else 2]
def rplF (f : Fm) (nm : Nm) (t : Tm) : Fm × Int := if rplE f nm t = 0 then szd (opn t (abst nm f)) else (fm0, rplE f nm t)
theorem insE_ok {f : Fm} {t : Tm} (h : insE f t = 0) : unF f 0 = 0 ∧ clT t = 0 ∧ ∃ x, f.ps = [x] ∧ unF x 1 = 0 := by
  unfold insE at h
  rw [fstE] at h
  by_cases h1 : unF f 0 = 0
  · rw [if_pos h1, fstE] at h
    by_cases h2 : clT t = 0
    · rw [if_pos h2, fstE] at h
      by_cases h3 : 0 < bnd f
      · refine ⟨h1, h2, un_quant h1 ?_⟩
        unfold bnd at h3
        split at h3
        · assumption
        · omega
      · rw [decide_eq_false h3] at h; simp at h
    · rw [if_neg h2] at h; exact absurd h h2
  · rw [if_neg h1] at h; exact absurd h h1
theorem absE_ok {k : Int} {f : Fm} {nm : Nm} (h : absE k f nm = 0) : (k = 7 ∨ k = 8) ∧ unF f 0 = 0 ∧ isNm nm = true := by
  unfold absE at h
  rw [fstE] at h
  cases hk : (k == 7 || k == 8) with
  | false => rw [hk] at h; simp at h
  | true =>
    rw [hk, if_pos (by rfl), fstE] at h
    by_cases h1 : unF f 0 = 0
    · rw [if_pos h1, fstE] at h
      refine ⟨by simpa using hk, h1, ?_⟩
      cases hn : isNm nm with
      | true => rfl
      | false => rw [hn] at h; simp at h
    · rw [if_neg h1] at h; exact absurd h h1
theorem rplE_ok {f : Fm} {nm : Nm} {t : Tm} (h : rplE f nm t = 0) : unF f 0 = 0 ∧ clT t = 0 ∧ isNm nm = true := by
  unfold rplE at h
  rw [fstE] at h
  by_cases h1 : unF f 0 = 0
  · rw [if_pos h1, fstE] at h
    by_cases h2 : clT t = 0
    · rw [if_pos h2, fstE] at h
      refine ⟨h1, h2, ?_⟩
      cases hn : isNm nm with
      | true => rfl
      | false => rw [hn] at h; simp at h
    · rw [if_neg h2] at h; exact absurd h h2
  · rw [if_neg h1] at h; exact absurd h h1
theorem rows3 (a b c : Int) : [[Ii a], [Ii b], [Ii c]] = rowsI .i64 [a, b, c] := rfl
theorem instance_walk (f : Fm) (t : Tm) (hf : fmS f) (ht : tmS t) : PFn Tryz.prog 23 [fmV f, tmV t] (feV (insF f t)) := by
  have h1 := well_at f hf
  have h2 := closed_spec t ht
  have h3 := binds_spec f
  have h4 := wrong_spec (decide (0 < bnd f)) 1
  have h5 := first_spec [unF f 0, clT t, if decide (0 < bnd f) then 0 else 1] (by simp)
  rw [← rows3] at h5
  obtain ⟨q, hq⟩ : ∃ q, insF f t = q := ⟨_, rfl⟩
  rw [hq]
  have he : fstE [unF f 0, clT t, if decide (0 < bnd f) then 0 else 1] = insE f t := rfl
  rw [he] at h5
  refine ACall.walk [0, 1, 2, 3, 4, 5, 6, 18] [4] Tryz.func23 rfl Tryz.ntmps23 (by kernel_rfl) (by rfl) rfl fun W own I0 φ0 lay => ?_
  refine gO ?_
  refine AP.cut (α := Unit) (fun _ => [(2, .im (fmP f)), (3, .im (tmP t)), (4, .ob 0 0), (5, Iv 0), (6, Iv (insE f t))]) (fun _ => [(0, .var 27 zF)]) (fun _ => True) ?_ fun _ _ => ?_
  · skip
    refine AP.drawE 11 (Tree.node [] [0, 2, 4] [1] [Tree.node [2, 4] [] [3] [Tree.node [4] [] [5] [Tree.node [] [6] [7] [Tree.node [] [] [8] [Tree.node [] [] [9] [Tree.node [] [10] [] []]]]]]]) (by kernel_rfl) rfl (by kernel_rfl) (by kernel_rfl) ?_
    refine vd_node ?_
    refine sI ?_
    repeat' (first | with_reducible exact True.intro | with_reducible refine And.intro (by omega) ?_ | with_reducible refine And.intro ?_ ?_ | (refine AQ.nx rfl ?_; refine sI ?_) | ((with_reducible show AQ _ _ _ ({ dst := _, op := Op.call { callee := Callee.value (Operand.func 37), args := _, argTypes := _ }, type := _, pos := _, after := _, guard := _ } :: _) _ _ _); refine AQ.fn (by kernel_rfl) rfl rfl rfl (h1) rfl ?_; refine sI ?_) | ((with_reducible show AQ _ _ _ ({ dst := _, op := Op.call { callee := Callee.value (Operand.func 65), args := _, argTypes := _ }, type := _, pos := _, after := _, guard := _ } :: _) _ _ _); refine AQ.fn (by kernel_rfl) rfl rfl rfl (h2) rfl ?_; refine sI ?_) | ((with_reducible show AQ _ _ _ ({ dst := _, op := Op.call { callee := Callee.value (Operand.func 67), args := _, argTypes := _ }, type := _, pos := _, after := _, guard := _ } :: _) _ _ _); refine AQ.fn (by kernel_rfl) rfl rfl rfl (h3) rfl ?_; refine sI ?_) | ((with_reducible show AQ _ _ _ ({ dst := _, op := Op.call { callee := Callee.value (Operand.func 66), args := _, argTypes := _ }, type := _, pos := _, after := _, guard := _ } :: _) _ _ _); refine AQ.fn (by kernel_rfl) rfl rfl rfl (h4) rfl ?_; refine sI ?_) | ((with_reducible show AQ _ _ _ ({ dst := _, op := Op.call { callee := Callee.value (Operand.func 64), args := _, argTypes := _ }, type := _, pos := _, after := _, guard := _ } :: _) _ _ _); refine AQ.fn (by kernel_rfl) rfl rfl rfl (h5) rfl ?_; refine sI ?_) | refine AQ.done ?_ | (refine AQ.go (by kernel_rfl) ?_; refine sI ?_; repeat (with_reducible refine And.intro (by omega) ?_); refine AQ.nx rfl ?_; refine sI ?_))
    all_goals exact AE.meet () trivial (sU) rfl
  unfold insF at hq
  refine gO ?_
  refine AP.cond rfl rfl (fun h => ?_) (fun h => ?_)
  · have h : ¬ insE f t = 0 := by simpa using h
    rw [if_neg h] at hq
    subst hq
    refine gO ?_
    refine AE.cellsW 0 fF rfl (cellsLe.cons (cellsLe.cons (cellsLe.nil (cellsLe.nil (cellsLe.refl _))))) ?_
    refine sI ?_
    exact AE.retD [0] rfl ⟨⟨rfl, Nat.le_of_ble_eq_true (by kernel_rfl)⟩, rfl, trivial⟩ rfl ⟨rfl, rfl⟩
  · have h : insE f t = 0 := by simpa using h
    rw [if_pos h] at hq
    obtain ⟨hu, hc, x, hp, hx⟩ := insE_ok h
    have hxf := un_fit hx
    obtain ⟨m, hm⟩ := un_ms hx
    have ho := opened_spec x t 1 0 m hm (by omega) (by omega) (tmL_sz t (by have := cl_fit hc; omega))
    have hz := szd_spec (opn t x) (opn_S ht (un_S hx))
    rw [show part f 0 = x by rw [part, hp]; rfl] at hq
    rw [hq] at hz
    have hr1 : fmR f.ps = [fmRow x] := by rw [hp, fmR_one]
    have hg0 : (fmR f.ps).getD 0 [] = fmRow x := by rw [hr1]; rfl
    have hl0 : (fmR f.ps).length = 1 := by rw [hr1]; rfl
    have ho : PFn Tryz.prog 69 [fmV x, tmV t] (fmV (opn t x)) := ho
    generalize opn t x = o at *
    refine gO ?_
    refine AP.drawE 11 (Tree.node [] [0, 1, 2, 3, 4] [5] [Tree.node [] [] [6] [Tree.node [] [7, 8] [9] [Tree.node [] [10] [] []]]]) (by kernel_rfl) rfl (by kernel_rfl) (by kernel_rfl) ?_
    refine vd_node ?_
    refine sE (an @hg0 @hl0) ?_
    refine And.intro (by omega) ?_
    repeat' (first | with_reducible exact True.intro | with_reducible refine And.intro (by omega) ?_ | with_reducible refine And.intro ?_ ?_ | (refine AQ.nx rfl ?_; refine sE (an @hg0 @hl0) ?_) | ((with_reducible show AQ _ _ _ ({ dst := _, op := Op.call { callee := Callee.value (Operand.func 69), args := _, argTypes := _ }, type := _, pos := _, after := _, guard := _ } :: _) _ _ _); refine AQ.fn (by kernel_rfl) rfl rfl rfl (ho) rfl ?_; refine sI ?_) | ((with_reducible show AQ _ _ _ ({ dst := _, op := Op.call { callee := Callee.value (Operand.func 68), args := _, argTypes := _ }, type := _, pos := _, after := _, guard := _ } :: _) _ _ _); refine AQ.fn (by kernel_rfl) rfl rfl rfl (hz) rfl ?_; refine sI ?_) | refine AQ.done ?_ | (refine AQ.go (by kernel_rfl) ?_; refine sE (an @hg0 @hl0) ?_; repeat (with_reducible refine And.intro (by omega) ?_); refine AQ.nx rfl ?_; refine sE (an @hg0 @hl0) ?_))
    all_goals refine gO ?_
    all_goals exact AE.retD [0] rfl ⟨⟨rfl, Nat.le_of_ble_eq_true (by kernel_rfl)⟩, rfl, trivial⟩ rfl ⟨rfl, rfl⟩
theorem abstract_walk (k : Int) (f : Fm) (nm : Nm) (hf : fmS f) (hn : nm.length ≤ 9223372036854775807) : PFn Tryz.prog 26 [Iv k, fmV f, Sv nm] (feV (absF k f nm)) := by
  have h1 := well_at f hf
  have h2 := isName_spec nm hn
  have h3 := wrong_spec (k == 7 || k == 8) 1
  have h4 := wrong_spec (isNm nm) 2
  have h5 := first_spec [if (k == 7 || k == 8) then 0 else 1, unF f 0, if isNm nm then 0 else 2] (by simp)
  rw [← rows3] at h5
  obtain ⟨q, hq⟩ : ∃ q, absF k f nm = q := ⟨_, rfl⟩
  rw [hq]
  have he : fstE [if (k == 7 || k == 8) then 0 else 1, unF f 0, if isNm nm then 0 else 2] = absE k f nm := rfl
  rw [he] at h5
  refine ACall.walk [0, 1, 2, 4, 6, 7, 8, 24] [6] Tryz.func26 rfl Tryz.ntmps26 (by kernel_rfl) (by rfl) rfl fun W own I0 φ0 lay => ?_
  refine gO ?_
  refine AP.cut (α := Unit) (fun _ => [(0, Iv k), (2, Sv nm), (4, .im (fmP f)), (6, .ob 0 0), (7, Iv 0), (8, Iv (absE k f nm))]) (fun _ => [(0, .var 27 zF)]) (fun _ => True) ?_ fun _ _ => ?_
  · skip
    refine AP.drawE 15 (Tree.node [] [0, 1, 2, 3, 4, 5, 7, 9] [6] [Tree.node [7, 9] [] [8] [Tree.node [9] [] [10] [Tree.node [] [] [11] [Tree.node [] [] [12] [Tree.node [] [] [13] [Tree.node [] [14] [] []]]]]]]) (by kernel_rfl) rfl (by kernel_rfl) (by kernel_rfl) ?_
    refine vd_node ?_
    refine sI ?_
    repeat' (first | with_reducible exact True.intro | with_reducible refine And.intro (by omega) ?_ | with_reducible refine And.intro ?_ ?_ | (refine AQ.nx rfl ?_; refine sI ?_) | ((with_reducible show AQ _ _ _ ({ dst := _, op := Op.call { callee := Callee.value (Operand.func 37), args := _, argTypes := _ }, type := _, pos := _, after := _, guard := _ } :: _) _ _ _); refine AQ.fn (by kernel_rfl) rfl rfl rfl (h1) rfl ?_; refine sI ?_) | ((with_reducible show AQ _ _ _ ({ dst := _, op := Op.call { callee := Callee.value (Operand.func 73), args := _, argTypes := _ }, type := _, pos := _, after := _, guard := _ } :: _) _ _ _); refine AQ.fn (by kernel_rfl) rfl rfl rfl (h2) rfl ?_; refine sI ?_) | ((with_reducible show AQ _ _ _ ({ dst := _, op := Op.call { callee := Callee.value (Operand.func 66), args := _, argTypes := _ }, type := _, pos := _, after := _, guard := _ } :: _) _ _ _); refine AQ.fn (by kernel_rfl) rfl rfl rfl (h3) rfl ?_; refine sI ?_) | ((with_reducible show AQ _ _ _ ({ dst := _, op := Op.call { callee := Callee.value (Operand.func 66), args := _, argTypes := _ }, type := _, pos := _, after := _, guard := _ } :: _) _ _ _); refine AQ.fn (by kernel_rfl) rfl rfl rfl (h4) rfl ?_; refine sI ?_) | ((with_reducible show AQ _ _ _ ({ dst := _, op := Op.call { callee := Callee.value (Operand.func 64), args := _, argTypes := _ }, type := _, pos := _, after := _, guard := _ } :: _) _ _ _); refine AQ.fn (by kernel_rfl) rfl rfl rfl (h5) rfl ?_; refine sI ?_) | refine AQ.done ?_ | (refine AQ.go (by kernel_rfl) ?_; refine sI ?_; repeat (with_reducible refine And.intro (by omega) ?_); refine AQ.nx rfl ?_; refine sI ?_))
    all_goals exact AE.meet () trivial (sU) rfl
  unfold absF at hq
  refine gO ?_
  refine AP.cond rfl rfl (fun h => ?_) (fun h => ?_)
  · have h : ¬ absE k f nm = 0 := by simpa using h
    rw [if_neg h] at hq
    subst hq
    refine gO ?_
    refine AE.cellsW 0 fF rfl (cellsLe.cons (cellsLe.cons (cellsLe.nil (cellsLe.nil (cellsLe.refl _))))) ?_
    refine sI ?_
    exact AE.retD [0] rfl ⟨⟨rfl, Nat.le_of_ble_eq_true (by kernel_rfl)⟩, rfl, trivial⟩ rfl ⟨rfl, rfl⟩
  · have h : absE k f nm = 0 := by simpa using h
    rw [if_pos h] at hq
    obtain ⟨hk, hu, hnm⟩ := absE_ok h
    obtain ⟨m, hm⟩ := un_ms hu
    have ho := abstracted_spec f nm 1 0 m hm (by omega) (by omega)
    have hcn := connect_spec k [abst nm f]
    have hz := szd_spec (conn k [abst nm f]) (conn_S (fmsS_one (abst_S hf)) (by simp))
    rw [hq] at hz
    have ho : PFn Tryz.prog 75 [fmV f, Sv nm] (fmV (abst nm f)) := ho
    rw [fmR_one] at hcn
    generalize abst nm f = o at *
    refine gO ?_
    refine AQ.fn (by kernel_rfl) rfl rfl rfl (ho) rfl ?_
    refine gO ?_
    refine AQ.fn (by kernel_rfl) rfl rfl rfl (hcn) rfl ?_
    refine gO ?_
    refine AQ.fn (by kernel_rfl) rfl rfl rfl (hz) rfl ?_
    refine gO ?_
    exact AE.retD [0] rfl ⟨⟨rfl, Nat.le_of_ble_eq_true (by kernel_rfl)⟩, rfl, trivial⟩ rfl ⟨rfl, rfl⟩
theorem replaced_walk (f : Fm) (nm : Nm) (t : Tm) (hf : fmS f) (hn : nm.length ≤ 9223372036854775807) (ht : tmS t) : PFn Tryz.prog 28 [fmV f, Sv nm, tmV t] (feV (rplF f nm t)) := by
  have h1 := well_at f hf
  have h2 := closed_spec t ht
  have h3 := isName_spec nm hn
  have h4 := wrong_spec (isNm nm) 2
  have h5 := first_spec [unF f 0, clT t, if isNm nm then 0 else 2] (by simp)
  rw [← rows3] at h5
  obtain ⟨q, hq⟩ : ∃ q, rplF f nm t = q := ⟨_, rfl⟩
  rw [hq]
  have he : fstE [unF f 0, clT t, if isNm nm then 0 else 2] = rplE f nm t := rfl
  rw [he] at h5
  refine ACall.walk [0, 1, 2, 3, 5, 6, 7, 8, 19] [6] Tryz.func28 rfl Tryz.ntmps28 (by kernel_rfl) (by rfl) rfl fun W own I0 φ0 lay => ?_
  refine gO ?_
  refine AP.cut (α := Unit) (fun _ => [(1, Sv nm), (3, .im (fmP f)), (5, .im (tmP t)), (6, .ob 0 0), (7, Iv 0), (8, Iv (rplE f nm t))]) (fun _ => [(0, .var 27 zF)]) (fun _ => True) ?_ fun _ _ => ?_
  · skip
    refine AP.drawE 10 (Tree.node [] [0, 2, 4] [1] [Tree.node [2, 4] [] [3] [Tree.node [4] [] [5] [Tree.node [] [] [6] [Tree.node [] [] [7] [Tree.node [] [] [8] [Tree.node [] [9] [] []]]]]]]) (by kernel_rfl) rfl (by kernel_rfl) (by kernel_rfl) ?_
    refine vd_node ?_
    refine sI ?_
    repeat' (first | with_reducible exact True.intro | with_reducible refine And.intro (by omega) ?_ | with_reducible refine And.intro ?_ ?_ | (refine AQ.nx rfl ?_; refine sI ?_) | ((with_reducible show AQ _ _ _ ({ dst := _, op := Op.call { callee := Callee.value (Operand.func 37), args := _, argTypes := _ }, type := _, pos := _, after := _, guard := _ } :: _) _ _ _); refine AQ.fn (by kernel_rfl) rfl rfl rfl (h1) rfl ?_; refine sI ?_) | ((with_reducible show AQ _ _ _ ({ dst := _, op := Op.call { callee := Callee.value (Operand.func 65), args := _, argTypes := _ }, type := _, pos := _, after := _, guard := _ } :: _) _ _ _); refine AQ.fn (by kernel_rfl) rfl rfl rfl (h2) rfl ?_; refine sI ?_) | ((with_reducible show AQ _ _ _ ({ dst := _, op := Op.call { callee := Callee.value (Operand.func 73), args := _, argTypes := _ }, type := _, pos := _, after := _, guard := _ } :: _) _ _ _); refine AQ.fn (by kernel_rfl) rfl rfl rfl (h3) rfl ?_; refine sI ?_) | ((with_reducible show AQ _ _ _ ({ dst := _, op := Op.call { callee := Callee.value (Operand.func 66), args := _, argTypes := _ }, type := _, pos := _, after := _, guard := _ } :: _) _ _ _); refine AQ.fn (by kernel_rfl) rfl rfl rfl (h4) rfl ?_; refine sI ?_) | ((with_reducible show AQ _ _ _ ({ dst := _, op := Op.call { callee := Callee.value (Operand.func 64), args := _, argTypes := _ }, type := _, pos := _, after := _, guard := _ } :: _) _ _ _); refine AQ.fn (by kernel_rfl) rfl rfl rfl (h5) rfl ?_; refine sI ?_) | refine AQ.done ?_ | (refine AQ.go (by kernel_rfl) ?_; refine sI ?_; repeat (with_reducible refine And.intro (by omega) ?_); refine AQ.nx rfl ?_; refine sI ?_))
    all_goals exact AE.meet () trivial (sU) rfl
  unfold rplF at hq
  refine gO ?_
  refine AP.cond rfl rfl (fun h => ?_) (fun h => ?_)
  · have h : ¬ rplE f nm t = 0 := by simpa using h
    rw [if_neg h] at hq
    subst hq
    refine gO ?_
    refine AE.cellsW 0 fF rfl (cellsLe.cons (cellsLe.cons (cellsLe.nil (cellsLe.nil (cellsLe.refl _))))) ?_
    refine sI ?_
    exact AE.retD [0] rfl ⟨⟨rfl, Nat.le_of_ble_eq_true (by kernel_rfl)⟩, rfl, trivial⟩ rfl ⟨rfl, rfl⟩
  · have h : rplE f nm t = 0 := by simpa using h
    rw [if_pos h] at hq
    obtain ⟨hu, hc, hnm⟩ := rplE_ok h
    have huf := un_fit hu
    obtain ⟨m, hm⟩ := un_ms hu
    have ha := abstracted_spec f nm 1 0 m hm (by omega) (by omega)
    have ha : PFn Tryz.prog 75 [fmV f, Sv nm] (fmV (abst nm f)) := ha
    obtain ⟨m2, hm2⟩ := fitF_of_sz (f := abst nm f) (by have := abst_sz (nm := nm) (f := f); omega) (by have := abst_dp nm f; omega)
    have ho := opened_spec (abst nm f) t 1 0 m2 hm2 (by omega) (by omega) (tmL_sz t (by have := cl_fit hc; omega))
    have ho : PFn Tryz.prog 69 [fmV (abst nm f), tmV t] (fmV (opn t (abst nm f))) := ho
    have hz := szd_spec (opn t (abst nm f)) (opn_S ht (abst_S hf))
    rw [hq] at hz
    generalize opn t (abst nm f) = o at *
    generalize abst nm f = o2 at *
    refine gO ?_
    refine AP.drawE 10 (Tree.node [] [0, 1, 3] [2] [Tree.node [3] [] [4] [Tree.node [] [] [5] [Tree.node [] [6, 7] [8] [Tree.node [] [9] [] []]]]]) (by kernel_rfl) rfl (by kernel_rfl) (by kernel_rfl) ?_
    refine vd_node ?_
    refine sI ?_
    repeat' (first | with_reducible exact True.intro | with_reducible refine And.intro (by omega) ?_ | with_reducible refine And.intro ?_ ?_ | (refine AQ.nx rfl ?_; refine sI ?_) | ((with_reducible show AQ _ _ _ ({ dst := _, op := Op.call { callee := Callee.value (Operand.func 75), args := _, argTypes := _ }, type := _, pos := _, after := _, guard := _ } :: _) _ _ _); refine AQ.fn (by kernel_rfl) rfl rfl rfl (ha) rfl ?_; refine sI ?_) | ((with_reducible show AQ _ _ _ ({ dst := _, op := Op.call { callee := Callee.value (Operand.func 69), args := _, argTypes := _ }, type := _, pos := _, after := _, guard := _ } :: _) _ _ _); refine AQ.fn (by kernel_rfl) rfl rfl rfl (ho) rfl ?_; refine sI ?_) | ((with_reducible show AQ _ _ _ ({ dst := _, op := Op.call { callee := Callee.value (Operand.func 68), args := _, argTypes := _ }, type := _, pos := _, after := _, guard := _ } :: _) _ _ _); refine AQ.fn (by kernel_rfl) rfl rfl rfl (hz) rfl ?_; refine sI ?_) | refine AQ.done ?_ | (refine AQ.go (by kernel_rfl) ?_; refine sI ?_; repeat (with_reducible refine And.intro (by omega) ?_); refine AQ.nx rfl ?_; refine sI ?_))
    all_goals refine gO ?_
    all_goals exact AE.retD [0] rfl ⟨⟨rfl, Nat.le_of_ble_eq_true (by kernel_rfl)⟩, rfl, trivial⟩ rfl ⟨rfl, rfl⟩
end Go.Proofs.YteacpafhmgdbkaaGreatDoor
end

section
namespace Go.Proofs.YteacpafhmgdbkaaGreatDoor
open Go Go.AL Go.RowKit
set_option maxRecDepth 10000
set_option maxHeartbeats 4000000
def fin (p : List Int) (f : Fm) : Rs := chk (unF f 0 == 0) p 15 (.ok f)
end Go.Proofs.YteacpafhmgdbkaaGreatDoor
end

section
namespace Go.Proofs.YteacpafhmgdbkaaGreatDoor
open Go Go.AL Go.RowKit
set_option maxRecDepth 10000
set_option maxHeartbeats 4000000
end Go.Proofs.YteacpafhmgdbkaaGreatDoor
end

section
namespace Go.Proofs.YteacpafhmgdbkaaGreatDoor
open Go Go.AL Go.RowKit
set_option maxRecDepth 10000
set_option maxHeartbeats 4000000
end Go.Proofs.YteacpafhmgdbkaaGreatDoor
end

section
namespace Go.Proofs.YteacpafhmgdbkaaGreatDoor
open Go Go.AL Go.RowKit
set_option maxRecDepth 10000
set_option maxHeartbeats 4000000
end Go.Proofs.YteacpafhmgdbkaaGreatDoor
end

section
namespace Go.Proofs.YteacpafhmgdbkaaGreatDoor
open Go Go.AL Go.RowKit
set_option maxRecDepth 10000
set_option maxHeartbeats 4000000
end Go.Proofs.YteacpafhmgdbkaaGreatDoor
end

section
namespace Go.Proofs.YteacpafhmgdbkaaGreatDoor
open Go Go.AL Go.RowKit
set_option maxRecDepth 10000
set_option maxHeartbeats 4000000
end Go.Proofs.YteacpafhmgdbkaaGreatDoor
end

section
namespace Go.Proofs.YteacpafhmgdbkaaGreatDoor
open Go Go.AL Go.RowKit
set_option maxRecDepth 10000
set_option maxHeartbeats 4000000
end Go.Proofs.YteacpafhmgdbkaaGreatDoor
end

section
namespace Go.Proofs.YteacpafhmgdbkaaGreatDoor
open Go Go.AL Go.RowKit
set_option maxRecDepth 10000
set_option maxHeartbeats 4000000
def smallB (l : List Fm) : Bool := (bFs l 0 400).1
theorem small1_walk (u : Fm) (m : Int) (hu : fmS u) (hm : -1000000 ≤ m ∧ m ≤ 1000000) : ACall Tryz.prog 63 [fmV u, .ob 1 0] (BH m) (fun r H' => r = Bv (!(bF u 0 m).1) ∧ H' = BH (bF u 0 m).2) := by
  have ih := bform_spec u 0 m hu (by omega) hm
  refine ACall.walk [0, 1, 2, 3] [] Tryz.func63 rfl Tryz.ntmps63 (by kernel_rfl) (by rfl) rfl fun W own I0 φ0 lay => ?_
  refine gO ?_
  refine AQ.callH [(0, 0)] (by kernel_rfl) rfl rfl rfl rfl rfl rfl (by exact ⟨rfl, trivial⟩) rfl ih ?_
  rintro r H' ⟨rfl, rfl⟩
  refine ⟨rfl, ?_⟩
  refine sG @BH.eq_1 ?_
  refine gO ?_
  exact AE.ret rfl ⟨rfl, trivial⟩ ⟨rfl, rfl⟩
theorem small_spec (l : List Fm) (hl : l.length ≤ 9223372036854775807) (hs : fmsS l) : PFn Tryz.prog 22 [.im (.sl 4 (fmR l))] (Bv (smallB l)) := by
  have hc := containsF_walk 63 [] (fun t m => (!(bF t 0 m).1, (bF t 0 m).2)) l 400 hl (fun m => 0 ≤ m ∧ m ≤ 1000000) (by omega) (fun k t m ht hm h => bF_bnd t 0 m hm.1 hm.2 (by simpa using h)) (fun k t m ht hm => small1_walk t m (fmsS_get hs ht) (by omega))
  have hr := bFs_run 0 l 400
  have hb : smallB l = !(runS (fun t m => (!(bF t 0 m).1, (bF t 0 m).2)) l 400).1 := by rw [smallB, hr]
  rw [hb]
  generalize runS (fun t m => (!(bF t 0 m).1, (bF t 0 m).2)) l 400 = q at *
  refine ACall.walk [0, 2, 3] [3, 5] Tryz.func22 rfl Tryz.ntmps22 (by kernel_rfl) (by rfl) rfl fun W own I0 φ0 lay => ?_
  refine gO ?_
  refine AQ.callH [(1, 1), (0, 0)] (by kernel_rfl) rfl rfl rfl rfl rfl rfl (by exact ⟨rfl, rfl, trivial⟩) rfl hc ?_
  rintro r H' ⟨rfl, rfl⟩
  refine ⟨rfl, ?_⟩
  refine sG @BH.eq_1 ?_
  refine gO ?_
  exact AE.retD [1, 0] rfl ⟨rfl, trivial⟩ rfl ⟨rfl, rfl⟩
theorem small_sz {l : List Fm} (h : smallB l = true) : szFs l ≤ 400 := by
  have := bFs_sz l 0 400 (by omega) h
  omega
end Go.Proofs.YteacpafhmgdbkaaGreatDoor
end

section
namespace Go.Proofs.YteacpafhmgdbkaaGreatDoor
open Go Go.AL Go.RowKit
set_option maxRecDepth 10000
set_option maxHeartbeats 4000000
end Go.Proofs.YteacpafhmgdbkaaGreatDoor
end

section
namespace Go.Proofs.YteacpafhmgdbkaaGreatDoor
open Go Go.AL Go.RowKit
set_option maxRecDepth 10000
set_option maxHeartbeats 4000000
def nzE : Rs → Prop
  | .ok _ => True
  | .bad _ e => e ≠ 0
theorem nzE.chk {b : Bool} {p : List Int} {e : Int} {r : Rs} (he : b = false → e ≠ 0) (hr : nzE r) : nzE (chk b p e r) := by
  cases b
  · exact he rfl
  · exact hr
theorem nzE.bind {r : Rs} {k : Fm → Rs} (hr : nzE r) (hk : ∀ g, nzE (k g)) : nzE (r.bind k) := by
  cases r
  · exact hk _
  · exact hr
end Go.Proofs.YteacpafhmgdbkaaGreatDoor
end

section
namespace Go.Proofs.YteacpafhmgdbkaaGreatDoor
open Go Go.AL Go.RowKit
set_option maxRecDepth 10000
set_option maxHeartbeats 4000000
end Go.Proofs.YteacpafhmgdbkaaGreatDoor
end

section
namespace Go.Proofs.YteacpafhmgdbkaaGreatDoor
open Go Go.AL Go.RowKit
set_option maxRecDepth 10000
set_option maxHeartbeats 4000000
end Go.Proofs.YteacpafhmgdbkaaGreatDoor
end

section
namespace Go.Proofs.YteacpafhmgdbkaaGreatDoor
open Go Go.AL Go.RowKit
set_option maxRecDepth 10000
set_option maxHeartbeats 100000000
end Go.Proofs.YteacpafhmgdbkaaGreatDoor
end

section
namespace Go.Proofs.YteacpafhmgdbkaaGreatDoor
open Go Go.AL Go.RowKit
set_option maxRecDepth 10000
set_option maxHeartbeats 4000000
abbrev cR (nm : Nm) (t : Tm) : Ch := ⟨false, false, nm, t⟩
theorem chT_R (nm : Nm) (t : Tm) (n : Nm) (i : Int) (xs : List Tm) (d : Int) : chT (cR nm t) (.mk n i xs) d = if n = nm ∧ xs = [] ∧ n ≠ [] then t else .mk n i (chTs (cR nm t) xs d) := by
  rw [chT_eq]
  have e1 : cA (cR nm t) (.mk n i xs) d = false := by simp [cA]
  have e2 : cB (cR nm t) (.mk n i xs) = false := by simp [cB]
  simp only [e1, e2, Bool.false_eq_true, if_false]
  have e3 : cC (cR nm t) (.mk n i xs) = true ↔ (n = nm ∧ xs = [] ∧ n ≠ []) := by
    simp only [cC, Tm.nm, Tm.xs, Bool.not_false, Bool.true_and, Bool.and_eq_true, beq_iff_eq, Bool.not_eq_true', beq_eq_false_iff_ne, ne_eq, Int.natCast_eq_zero, List.length_eq_zero_iff]
    exact ⟨fun ⟨⟨a, b⟩, c⟩ => ⟨a, b, c⟩, fun ⟨a, b, c⟩ => ⟨⟨a, b⟩, c⟩⟩
  by_cases h : n = nm ∧ xs = [] ∧ n ≠ []
  · rw [if_pos (e3.2 h), if_pos h]
  · rw [if_neg (fun hc => h (e3.1 hc)), if_neg h]; rfl
theorem chTs_nil (c : Ch) (l : List Tm) (d : Int) : chTs c l d = [] ↔ l = [] := by rw [chTs_map, List.map_eq_nil_iff]
mutual
theorem chT_self (nm : Nm) (d : Int) : ∀ (x : Tm) (b : Int), wT x b = 0 → chT (cR nm (.mk nm 0 [])) x d = x
  | .mk n i xs, b, h => by
    have h0 := wT_nm h
    simp only [Tm.nm, Tm.xs, Tm.ix] at h0
    rw [chT_R]
    by_cases hc : n = nm ∧ xs = [] ∧ n ≠ []
    · rw [if_pos hc]
      obtain ⟨rfl, rfl, hn⟩ := hc
      rw [(h0.2.2 hn).1]
    · rw [if_neg hc]
      by_cases hn : n = []
      · rw [(h0.2.1 hn).1, chTs]
      · rw [chTs_self nm d xs b (h0.2.2 hn).2.2]
theorem chTs_self (nm : Nm) (d : Int) : ∀ (l : List Tm) (b : Int), wTs l b = 0 → chTs (cR nm (.mk nm 0 [])) l d = l
  | [], _, _ => by rw [chTs]
  | x :: l, b, h => by
    obtain ⟨h1, h2⟩ := wTs_cons h
    rw [chTs, chT_self nm d x b h1, chTs_self nm d l b h2]
end
mutual
theorem chF_self (nm : Nm) : ∀ (F : Fm) (d b : Int), wF F b = 0 → chF (cR nm (.mk nm 0 [])) F d = F
  | .mk k n ts ps, d, b, h => by
    obtain ⟨_, h1, h2⟩ := wF_parts h
    simp only [Fm.ts, Fm.ps] at h1 h2
    rw [chF, ← chTs_map, chTs_self nm d ts b h1, chFs_self nm ps _ _ h2]
theorem chFs_self (nm : Nm) : ∀ (l : List Fm) (d b : Int), wFs l b = 0 → chFs (cR nm (.mk nm 0 [])) l d = l
  | [], _, _, _ => by rw [chFs]
  | x :: l, d, b, h => by
    obtain ⟨h1, h2⟩ := wFs_cons h
    rw [chFs, chF_self nm x d b h1, chFs_self nm l d b h2]
end
theorem ocT_cons (nm n : Nm) (i : Int) (xs : List Tm) : ocT nm (.mk n i xs) = false ↔ (¬ (n = nm ∧ xs = [] ∧ n ≠ [])) ∧ ocTs nm xs = false := by
  rw [ocT, Bool.or_eq_false_iff]
  refine and_congr ?_ Iff.rfl
  rw [← Bool.not_eq_true]
  refine not_congr ?_
  simp only [Bool.and_eq_true, beq_iff_eq, Bool.not_eq_true', beq_eq_false_iff_ne, ne_eq, Int.natCast_eq_zero, List.length_eq_zero_iff]
  exact ⟨fun ⟨⟨a, b⟩, c⟩ => ⟨c, b, a⟩, fun ⟨a, b, c⟩ => ⟨⟨c, b⟩, a⟩⟩
mutual
theorem chT_none (nm : Nm) (t : Tm) (d : Int) : ∀ x : Tm, ocT nm x = false → chT (cR nm t) x d = x
  | .mk n i xs, h => by
    obtain ⟨h1, h2⟩ := (ocT_cons nm n i xs).1 h
    rw [chT_R, if_neg h1, chTs_none nm t d xs h2]
theorem chTs_none (nm : Nm) (t : Tm) (d : Int) : ∀ l : List Tm, ocTs nm l = false → chTs (cR nm t) l d = l
  | [], _ => by rw [chTs]
  | x :: l, h => by
    rw [ocTs, Bool.or_eq_false_iff] at h
    rw [chTs, chT_none nm t d x h.1, chTs_none nm t d l h.2]
end
mutual
theorem chT_swap {a b : Nm} (hab : a ≠ b) {s t : Tm} (hs : ocT b s = false) (ht : ocT a t = false) (d e : Int) : ∀ x : Tm, chT (cR b t) (chT (cR a s) x d) e = chT (cR a s) (chT (cR b t) x e) d
  | .mk n i xs => by
    rw [chT_R a, chT_R b]
    by_cases h1 : n = a ∧ xs = [] ∧ n ≠ []
    · have h2 : ¬ (n = b ∧ xs = [] ∧ n ≠ []) := fun h => hab (h1.1.symm.trans h.1)
      obtain ⟨rfl, rfl, hn⟩ := h1
      rw [if_pos ⟨rfl, rfl, hn⟩, if_neg h2, chT_none b t e s hs, chTs, chT_R, if_pos ⟨rfl, rfl, hn⟩]
    · rw [if_neg h1]
      by_cases h2 : n = b ∧ xs = [] ∧ n ≠ []
      · obtain ⟨rfl, rfl, hn⟩ := h2
        rw [if_pos ⟨rfl, rfl, hn⟩, chTs, chT_R, if_pos ⟨rfl, rfl, hn⟩, chT_none a s d t ht]
      · rw [if_neg h2, chT_R, chT_R, if_neg (fun h => h2 ⟨h.1, (chTs_nil _ _ _).1 h.2.1, h.2.2⟩), if_neg (fun h => h1 ⟨h.1, (chTs_nil _ _ _).1 h.2.1, h.2.2⟩), chTs_swap hab hs ht d e xs]
theorem chTs_swap {a b : Nm} (hab : a ≠ b) {s t : Tm} (hs : ocT b s = false) (ht : ocT a t = false) (d e : Int) : ∀ l : List Tm, chTs (cR b t) (chTs (cR a s) l d) e = chTs (cR a s) (chTs (cR b t) l e) d
  | [] => by simp only [chTs]
  | x :: l => by simp only [chTs]; rw [chT_swap hab hs ht d e x, chTs_swap hab hs ht d e l]
end
mutual
theorem chF_swap {a b : Nm} (hab : a ≠ b) {s t : Tm} (hs : ocT b s = false) (ht : ocT a t = false) : ∀ (F : Fm) (d e : Int), chF (cR b t) (chF (cR a s) F d) e = chF (cR a s) (chF (cR b t) F e) d
  | .mk k n ts ps, d, e => by
    have e1 : ∀ (c : Ch) (y : Int), chF c (.mk k n ts ps) y = .mk k n (chTs c ts y) (chFs c ps (y + bnd (.mk k n ts ps))) := fun c y => by rw [chF, ← chTs_map]
    have e2 : ∀ (c : Ch) (ts' : List Tm) (ps' : List Fm) (y : Int), chF c (.mk k n ts' ps') y = .mk k n (chTs c ts' y) (chFs c ps' (y + bnd (.mk k n ts ps))) := fun c ts' ps' y => by rw [chF, ← chTs_map]; rfl
    rw [e1, e1, e2, e2, chTs_swap hab hs ht d e ts, chFs_swap hab hs ht ps _ _]
theorem chFs_swap {a b : Nm} (hab : a ≠ b) {s t : Tm} (hs : ocT b s = false) (ht : ocT a t = false) : ∀ (l : List Fm) (d e : Int), chFs (cR b t) (chFs (cR a s) l d) e = chFs (cR a s) (chFs (cR b t) l e) d
  | [], _, _ => by simp only [chFs]
  | x :: l, d, e => by simp only [chFs]; rw [chF_swap hab hs ht x d e, chFs_swap hab hs ht l d e]
end
mutual
theorem abT_oc (nm : Nm) (d : Int) : ∀ x : Tm, ocT nm (mapT (fun u => leafA nm u d) x) = false
  | .mk n i xs => by
    by_cases hx : xs.length = 0
    · rw [mapT_leaf _ (.mk n i xs) hx, leafA]
      by_cases hn : (Tm.mk n i xs).nm = nm
      · rw [if_pos hn, ocT_cons]; exact ⟨fun h => h.2.2 rfl, by rw [ocTs]⟩
      · rw [if_neg hn, leafC, ocT_cons]; exact ⟨fun h => hn h.1, by rw [ocTs]⟩
    · rw [mapT_node _ (.mk n i xs) hx, ocT_cons]
      refine ⟨fun h => hx ?_, abTs_oc nm d xs⟩
      have := List.map_eq_nil_iff.1 h.2.1
      simp only [Tm.xs] at this
      rw [this]; rfl
theorem abTs_oc (nm : Nm) (d : Int) : ∀ l : List Tm, ocTs nm (l.map (mapT fun u => leafA nm u d)) = false
  | [] => by rw [List.map_nil, ocTs]
  | x :: l => by rw [List.map_cons, ocTs, abT_oc nm d x, abTs_oc nm d l]; rfl
end
mutual
theorem abF_oc (nm : Nm) : ∀ (F : Fm) (d : Int), ocF nm (mapF (leafA nm) F d) = false
  | .mk k n ts ps, d => by rw [mapF, ocF, abTs_oc nm d ts, abFs_oc nm ps _]; rfl
theorem abFs_oc (nm : Nm) : ∀ (l : List Fm) (d : Int), ocFs nm (mapFs (leafA nm) l d) = false
  | [], d => by rw [mapFs, ocFs]
  | x :: l, d => by rw [mapFs, ocFs, abF_oc nm x d, abFs_oc nm l d]; rfl
end
theorem abst_oc (nm : Nm) (F : Fm) : ocF nm (abst nm F) = false := abF_oc nm F 0
end Go.Proofs.YteacpafhmgdbkaaGreatDoor
end

section
namespace Go.Proofs.YteacpafhmgdbkaaGreatDoor
open Go Go.AL Go.RowKit
set_option maxRecDepth 10000
set_option maxHeartbeats 4000000
theorem isNm_ne {nm : Nm} (h : isNm nm = true) : nm ≠ [] := fun hc => by
  subst hc
  revert h
  decide
abbrev pmT (nm : Nm) : Tm := .mk nm 0 []
theorem cl_pm {nm : Nm} (h : isNm nm = true) : clT (pmT nm) = 0 := by
  refine cl_of (by simp [szT, szTs]) (by simp [dpT, dpTs]) ?_
  rw [wT, if_neg (isNm_ne h), if_neg (by simp [h]), wTs]
theorem pm_S (nm : Nm) (h : nm.length ≤ 9223372036854775807) : tmS (pmT nm) := by
  rw [tmS, tmsS]
  simp [h]
theorem szd_zero {g : Fm} (h : (szd g).2 = 0) : unF g 0 = 0 ∧ szd g = (g, 0) := by
  unfold szd at h ⊢
  by_cases hu : unF g 0 = 0
  · rw [if_pos hu]; exact ⟨hu, rfl⟩
  · rw [if_neg hu] at h; cases h
theorem szd_un {g : Fm} (h : unF g 0 = 0) : szd g = (g, 0) := by rw [szd, if_pos h]
theorem rpl_val {f : Fm} {nm : Nm} {t : Tm} (h : rplE f nm t = 0) : rplF f nm t = szd (chF (cR nm t) f 0) := by
  obtain ⟨hu, hc, hn⟩ := rplE_ok h
  rw [rplF, if_pos h, chF_repl nm (isNm_ne hn) t f hu]
theorem rplE_of {f : Fm} {nm : Nm} {t : Tm} (hu : unF f 0 = 0) (hc : clT t = 0) (hn : isNm nm = true) : rplE f nm t = 0 := by
  rw [rplE, hu, hc, hn]; rfl
theorem rpl_ok {f : Fm} {nm : Nm} {t : Tm} (h : (rplF f nm t).2 = 0) : rplE f nm t = 0 ∧ unF (chF (cR nm t) f 0) 0 = 0 ∧ rplF f nm t = (chF (cR nm t) f 0, 0) := by
  by_cases he : rplE f nm t = 0
  · rw [rpl_val he] at h ⊢
    obtain ⟨h1, h2⟩ := szd_zero h
    exact ⟨he, h1, h2⟩
  · rw [rplF, if_neg he] at h; exact absurd h he
theorem rpl_self {f : Fm} {nm : Nm} (hu : unF f 0 = 0) (hn : isNm nm = true) : rplF f nm (pmT nm) = (f, 0) := by
  rw [rpl_val (rplE_of hu (cl_pm hn) hn), chF_self nm f 0 0 (un_fit hu).2.2, szd_un hu]
theorem rpl_swap {f : Fm} {a b : Nm} {s t : Tm} (hab : a ≠ b) (hs : ocT b s = false) (ht : ocT a t = false) (h1 : (rplF f a s).2 = 0) (h2 : (rplF f b t).2 = 0) : rplF (rplF f a s).1 b t = rplF (rplF f b t).1 a s := by
  obtain ⟨e1, u1, v1⟩ := rpl_ok h1
  obtain ⟨e2, u2, v2⟩ := rpl_ok h2
  obtain ⟨_, c1, n1⟩ := rplE_ok e1
  obtain ⟨_, c2, n2⟩ := rplE_ok e2
  rw [v1, v2, rpl_val (rplE_of u1 c2 n2), rpl_val (rplE_of u2 c1 n1), chF_swap hab hs ht f 0 0]
theorem ins_abs {f : Fm} {a : Nm} (h : (absF 7 f a).2 = 0) : insF (absF 7 f a).1 (pmT a) = (f, 0) ∧ ocF a (absF 7 f a).1 = false := by
  by_cases he : absE 7 f a = 0
  · obtain ⟨_, hu, hn⟩ := absE_ok he
    rw [absF, if_pos he] at h ⊢
    obtain ⟨h1, h2⟩ := szd_zero h
    rw [h2]
    have hin : insE (conn 7 [abst a f]) (pmT a) = 0 := by
      rw [insE, h1, cl_pm hn]; rfl
    refine ⟨?_, ?_⟩
    · rw [insF, if_pos hin]
      show szd (opn (pmT a) (abst a f)) = _
      rw [← chF_repl a (isNm_ne hn) _ f hu, chF_self a f 0 0 (un_fit hu).2.2, szd_un hu]
    · rw [ocF_eq]
      show (ocTs a [] || ocFs a [abst a f]) = false
      rw [ocTs, ocFs, abst_oc, ocFs]; rfl
  · rw [absF, if_neg he] at h; exact absurd h he
end Go.Proofs.YteacpafhmgdbkaaGreatDoor
end

section
namespace Go.Proofs.YteacpafhmgdbkaaGreatDoor
open Go Go.AL Go.RowKit
set_option maxRecDepth 10000
set_option maxHeartbeats 4000000
theorem szd_ok (g : Fm) : fmS (szd g).1 ∧ szF (szd g).1 ≤ 4000 := by
  unfold szd
  by_cases h : unF g 0 = 0
  · rw [if_pos h]; exact ⟨un_S h, (un_fit h).1⟩
  · rw [if_neg h]; exact ⟨fm0_S, by rw [szF, szTs, szFs]; omega⟩
theorem fm0_ok (e : Int) : fmS ((fm0, e) : Fm × Int).1 ∧ szF ((fm0, e) : Fm × Int).1 ≤ 4000 := ⟨fm0_S, by rw [szF, szTs, szFs]; omega⟩
theorem absF_ok (k : Int) (f : Fm) (nm : Nm) : fmS (absF k f nm).1 ∧ szF (absF k f nm).1 ≤ 4000 := by
  unfold absF
  split
  · exact szd_ok _
  · exact fm0_ok _
theorem rplF_ok (f : Fm) (nm : Nm) (t : Tm) : fmS (rplF f nm t).1 ∧ szF (rplF f nm t).1 ≤ 4000 := by
  unfold rplF
  split
  · exact szd_ok _
  · exact fm0_ok _
end Go.Proofs.YteacpafhmgdbkaaGreatDoor
end

section
namespace Go.Proofs.YteacpafhmgdbkaaGreatDoor
open Go Go.AL Go.RowKit
set_option maxRecDepth 10000
set_option maxHeartbeats 8000000
theorem free_len (f : Fm) (h : szF f ≤ 100000) : (freeL f).length ≤ 1000000 := by
  rw [free_cmp]; have := cmpS_len (lvF f); have := lvF_len f; omega
theorem subs1_spec (x : Tm) (a b : Nm) (hx : tmS x) (hz : szT x ≤ 50000) : PFn Tryz.prog 43 [tmV x, .im (.pt [Si a]), .im (.pt [Si b])] (Bv (ocT a x || ocT b x)) := by
  have hS : fmS (.mk 1 [112] [x] []) := by rw [fmS, tmsS, tmsS, fmsS]; exact ⟨by simp, by simp, ⟨hx, trivial⟩, by simp, trivial⟩
  have hsz : szF (.mk 1 [112] [x] []) ≤ 100000 := by simp only [szF, szTs, szFs]; omega
  have hfr0 := Free_spec (.mk 1 [112] [x] []) hS hsz
  have hoc : ∀ nm, hasS nm (freeL (.mk 1 [112] [x] [])) = ocT nm x := fun nm => by
    rw [has_free, ocF, ocTs, ocTs, ocFs]; simp
  have hln := free_len _ hsz
  have e : fmV (.mk 1 [112] [x] []) = .agg [Iv 1, Sv [112], .im (.sl 3 [tmRow x]), .im (.sl 4 [])] := by
    show AV.agg [Iv 1, Sv [112], .im (.sl 3 (tmR [x])), .im (.sl 4 (fmR []))] = _
    rw [tmR_one, fmR]
  rw [e] at hfr0
  have hfr := hfr0.argLe (xs := [.agg [Iv 1, Sv [112], .im (.sl 3 [tmRow x]), nilV]]) (by repeat' (first | with_reducible exact AVle.refl _ | with_reducible exact IVle.refl _ | exact IVle.nil _ | with_reducible exact cellsLe.refl _ | with_reducible exact rowLe.refl _ | with_reducible exact rowsLe.refl _ | refine cellsLe.cons2 ?_ ?_ | refine AVle.agg ?_ | refine AVle.im ?_ | refine IVle.sl ?_ | refine rowsLe.cons ?_ ?_ | refine rowLe.cons ?_ ?_))
  have hca := containsS_spec (freeL (.mk 1 [112] [x] [])) a (by omega)
  have hcb := containsS_spec (freeL (.mk 1 [112] [x] [])) b (by omega)
  rw [hoc] at hca hcb
  clear hoc hln e hfr0
  generalize freeL (.mk 1 [112] [x] []) = F at *
  generalize ocT b x = q at *
  cases hp : ocT a x with
  | true =>
    rw [hp] at hca
    refine ACall.walk [0, 1, 2, 3, 4, 5] [] Tryz.func43 rfl Tryz.ntmps43 (by kernel_rfl) (by rfl) rfl fun W own I0 φ0 lay => ?_
    refine gO ?_
    refine AQ.fn (by kernel_rfl) rfl rfl rfl (hfr) rfl ?_
    refine gO ?_
    refine AQ.fn (by kernel_rfl) rfl rfl rfl (hca) rfl ?_
    refine gO ?_
    exact AE.ret0 rfl ⟨rfl, trivial⟩ rfl ⟨rfl, rfl⟩
  | false =>
    rw [hp] at hca
    refine ACall.walk [0, 1, 2, 3, 4, 5] [] Tryz.func43 rfl Tryz.ntmps43 (by kernel_rfl) (by rfl) rfl fun W own I0 φ0 lay => ?_
    refine gO ?_
    refine AQ.fn (by kernel_rfl) rfl rfl rfl (hfr) rfl ?_
    refine gO ?_
    refine AQ.fn (by kernel_rfl) rfl rfl rfl (hca) rfl ?_
    refine gO ?_
    refine AQ.guard_yes (by simp only [go_sem]) ?_
    refine AQ.fn (by kernel_rfl) rfl rfl rfl (hcb) rfl ?_
    refine gO ?_
    exact AE.ret0 rfl ⟨rfl, trivial⟩ rfl ⟨rfl, rfl⟩
end Go.Proofs.YteacpafhmgdbkaaGreatDoor
end

section
namespace Go.Proofs.YteacpafhmgdbkaaGreatDoor
open Go Go.AL Go.RowKit
set_option maxRecDepth 10000
set_option maxHeartbeats 8000000
theorem substitutes_walk (f : Fm) (a b : Nm) (s t : Tm) (hf : fmS f) (ha : a.length ≤ 9223372036854775807) (hb : b.length ≤ 9223372036854775807) (hs : tmS s) (ht : tmS t) :
    PFn Tryz.prog 8 [fmV f, Sv a, Sv b, tmV s, tmV t] (Bv true) := by
  have hS : fmsS [f, .mk 0 [] [s, t] []] := by
    rw [fmsS, fmsS, fmsS, fmS, tmsS, tmsS, tmsS, fmsS]
    exact ⟨hf, ⟨by simp, by simp, ⟨hs, ht, trivial⟩, by simp, trivial⟩, trivial⟩
  have hsm0 := small_spec [f, .mk 0 [] [s, t] []] (by simp) hS
  have e : fmR [f, .mk 0 [] [s, t] []] = [fmRow f, [Ii 0, Si [], .sl 3 [tmRow s, tmRow t], .sl 4 []]] := by
    rw [fmR_two]
    show [fmRow f, [Ii 0, Si [], .sl 3 (tmR [s, t]), .sl 4 (fmR [])]] = _
    rw [tmR_two, fmR]
  rw [e] at hsm0
  have hsm := hsm0.argLe (xs := [.im (.sl 4 [fmRow f, [Ii 0, Si [], .sl 3 [tmRow s, tmRow t], .v (.slice none 0 0)]])]) (by repeat' (first | with_reducible exact AVle.refl _ | with_reducible exact IVle.refl _ | exact IVle.nil _ | with_reducible exact cellsLe.refl _ | with_reducible exact rowLe.refl _ | with_reducible exact rowsLe.refl _ | refine cellsLe.cons2 ?_ ?_ | refine AVle.agg ?_ | refine AVle.im ?_ | refine IVle.sl ?_ | refine rowsLe.cons ?_ ?_ | refine rowLe.cons ?_ ?_))
  have hwl := well_at f hf
  have hna : PFn Tryz.prog 41 [Sv a] (Bv (isNm a)) := isSymbol_spec a ha
  have hnb : PFn Tryz.prog 41 [Sv b] (Bv (isNm b)) := isSymbol_spec b hb
  obtain ⟨c, hc⟩ : ∃ c, smallB [f, .mk 0 [] [s, t] []] = c := ⟨_, rfl⟩
  rw [hc] at hsm
  clear hsm0 e
  cases c with
  | false =>
    refine ACall.walk [0, 1, 2, 3, 4, 5, 6, 7, 8, 9, 10, 11, 12, 13, 14, 15, 16, 17, 18, 19, 20, 53, 62, 83, 99, 113, 134] [11, 13, 15, 18, 19] Tryz.func8 rfl Tryz.ntmps8 (by kernel_rfl) (by rfl) rfl fun W own I0 φ0 lay => ?_
    refine gO ?_
    refine AQ.fn (by kernel_rfl) rfl rfl rfl (hsm) rfl ?_
    refine gO ?_
    refine AQ.fn (by kernel_rfl) rfl rfl rfl (awake_spec) rfl ?_
    refine gO ?_
    exact AE.ret0 rfl ⟨rfl, trivial⟩ rfl ⟨rfl, rfl⟩
  | true =>
  rcases Nat.lt_or_ge 60 a.length with hla | hla
  · have hga : decide (60 < (a.length : Int)) = true := by simp; omega
    refine ACall.walk [0, 1, 2, 3, 4, 5, 6, 7, 8, 9, 10, 11, 12, 13, 14, 15, 16, 17, 18, 19, 20, 53, 62, 83, 99, 113, 134] [11, 13, 15, 18, 19] Tryz.func8 rfl Tryz.ntmps8 (by kernel_rfl) (by rfl) rfl fun W own I0 φ0 lay => ?_
    refine gO ?_
    refine AQ.fn (by kernel_rfl) rfl rfl rfl (hsm) rfl ?_
    refine gO ?_
    simp only [go_sem, Nat.reduceAdd, Nat.reduceLeDiff, Nat.reduceSub, Int.reduceToNat, reduceCtorEq, hga]
    refine gO ?_
    refine AQ.fn (by kernel_rfl) rfl rfl rfl (awake_spec) rfl ?_
    refine gO ?_
    exact AE.ret0 rfl ⟨rfl, trivial⟩ rfl ⟨rfl, rfl⟩
  have hga : decide (60 < (a.length : Int)) = false := by simp; omega
  rcases Nat.lt_or_ge 60 b.length with hlb | hlb
  · have hgb : decide (60 < (b.length : Int)) = true := by simp; omega
    refine ACall.walk [0, 1, 2, 3, 4, 5, 6, 7, 8, 9, 10, 11, 12, 13, 14, 15, 16, 17, 18, 19, 20, 53, 62, 83, 99, 113, 134] [11, 13, 15, 18, 19] Tryz.func8 rfl Tryz.ntmps8 (by kernel_rfl) (by rfl) rfl fun W own I0 φ0 lay => ?_
    refine gO ?_
    refine AQ.fn (by kernel_rfl) rfl rfl rfl (hsm) rfl ?_
    refine gO ?_
    simp only [go_sem, Nat.reduceAdd, Nat.reduceLeDiff, Nat.reduceSub, Int.reduceToNat, reduceCtorEq, hga, hgb]
    refine gO ?_
    refine AQ.fn (by kernel_rfl) rfl rfl rfl (awake_spec) rfl ?_
    refine gO ?_
    exact AE.ret0 rfl ⟨rfl, trivial⟩ rfl ⟨rfl, rfl⟩
  have hgb : decide (60 < (b.length : Int)) = false := by simp; omega
  by_cases hu : unF f 0 = 0
  rotate_left
  · have hub : (unF f 0 != 0) = true := by simpa using hu
    generalize unF f 0 = u at *
    refine ACall.walk [0, 1, 2, 3, 4, 5, 6, 7, 8, 9, 10, 11, 12, 13, 14, 15, 16, 17, 18, 19, 20, 53, 62, 83, 99, 113, 134] [11, 13, 15, 18, 19] Tryz.func8 rfl Tryz.ntmps8 (by kernel_rfl) (by rfl) rfl fun W own I0 φ0 lay => ?_
    refine gO ?_
    refine AQ.fn (by kernel_rfl) rfl rfl rfl (hsm) rfl ?_
    refine gO ?_
    simp only [go_sem, Nat.reduceAdd, Nat.reduceLeDiff, Nat.reduceSub, Int.reduceToNat, reduceCtorEq, hga, hgb]
    refine gO ?_
    refine AQ.guard_yes (by simp only [go_sem]) ?_
    refine AQ.fn (by kernel_rfl) rfl rfl rfl (hwl) rfl ?_
    simp only [go_sem, Nat.reduceAdd, Nat.reduceLeDiff, Nat.reduceSub, Int.reduceToNat, reduceCtorEq, hub]
    refine gO ?_
    refine AQ.fn (by kernel_rfl) rfl rfl rfl (awake_spec) rfl ?_
    refine gO ?_
    exact AE.ret0 rfl ⟨rfl, trivial⟩ rfl ⟨rfl, rfl⟩
  have hu0 := hu
  rw [hu0] at hwl
  cases hpa : isNm a with
  | false =>
    rw [hpa] at hna
    refine ACall.walk [0, 1, 2, 3, 4, 5, 6, 7, 8, 9, 10, 11, 12, 13, 14, 15, 16, 17, 18, 19, 20, 53, 62, 83, 99, 113, 134] [11, 13, 15, 18, 19] Tryz.func8 rfl Tryz.ntmps8 (by kernel_rfl) (by rfl) rfl fun W own I0 φ0 lay => ?_
    refine gO ?_
    refine AQ.fn (by kernel_rfl) rfl rfl rfl (hsm) rfl ?_
    refine gO ?_
    simp only [go_sem, Nat.reduceAdd, Nat.reduceLeDiff, Nat.reduceSub, Int.reduceToNat, reduceCtorEq, hga, hgb]
    refine gO ?_
    refine AQ.guard_yes (by simp only [go_sem]) ?_
    refine AQ.fn (by kernel_rfl) rfl rfl rfl (hwl) rfl ?_
    repeat (first | refine xA ?_ | refine xB ?_ | refine xC ?_ | refine xE ?_ | refine xD ?_ | refine xK ?_ | refine xS ?_ | refine xM ?_ | refine xT ?_ | refine xF ?_ | ((first | refine xR ?_ | refine xW ?_ | refine vq_id ?_); simp only [go_sem, Nat.reduceAdd, Nat.reduceLeDiff, Nat.reduceSub, Int.reduceToNat, reduceCtorEq, Int.reduceBNe]) | (refine ⟨by first | omega | (intros; simp_all; done) | (intros; simp_all; omega), ?_⟩; try simp only [go_sem, Nat.reduceAdd, Nat.reduceLeDiff, Nat.reduceSub, Int.reduceToNat, reduceCtorEq, Int.reduceBNe]))
    refine AQ.guard_yes (by simp only [go_sem]) ?_
    refine AQ.fn (by kernel_rfl) rfl rfl rfl (hna) rfl ?_
    refine gO ?_
    refine AQ.fn (by kernel_rfl) rfl rfl rfl (awake_spec) rfl ?_
    refine gO ?_
    exact AE.ret0 rfl ⟨rfl, trivial⟩ rfl ⟨rfl, rfl⟩
  | true =>
  cases hpb : isNm b with
  | false =>
    rw [hpa] at hna
    rw [hpb] at hnb
    refine ACall.walk [0, 1, 2, 3, 4, 5, 6, 7, 8, 9, 10, 11, 12, 13, 14, 15, 16, 17, 18, 19, 20, 53, 62, 83, 99, 113, 134] [11, 13, 15, 18, 19] Tryz.func8 rfl Tryz.ntmps8 (by kernel_rfl) (by rfl) rfl fun W own I0 φ0 lay => ?_
    refine gO ?_
    refine AQ.fn (by kernel_rfl) rfl rfl rfl (hsm) rfl ?_
    refine gO ?_
    simp only [go_sem, Nat.reduceAdd, Nat.reduceLeDiff, Nat.reduceSub, Int.reduceToNat, reduceCtorEq, hga, hgb]
    refine gO ?_
    refine AQ.guard_yes (by simp only [go_sem]) ?_
    refine AQ.fn (by kernel_rfl) rfl rfl rfl (hwl) rfl ?_
    repeat (first | refine xA ?_ | refine xB ?_ | refine xC ?_ | refine xE ?_ | refine xD ?_ | refine xK ?_ | refine xS ?_ | refine xM ?_ | refine xT ?_ | refine xF ?_ | ((first | refine xR ?_ | refine xW ?_ | refine vq_id ?_); simp only [go_sem, Nat.reduceAdd, Nat.reduceLeDiff, Nat.reduceSub, Int.reduceToNat, reduceCtorEq, Int.reduceBNe]) | (refine ⟨by first | omega | (intros; simp_all; done) | (intros; simp_all; omega), ?_⟩; try simp only [go_sem, Nat.reduceAdd, Nat.reduceLeDiff, Nat.reduceSub, Int.reduceToNat, reduceCtorEq, Int.reduceBNe]))
    refine AQ.guard_yes (by simp only [go_sem]) ?_
    refine AQ.fn (by kernel_rfl) rfl rfl rfl (hna) rfl ?_
    refine gO ?_
    refine AQ.guard_yes (by simp only [go_sem]) ?_
    refine AQ.fn (by kernel_rfl) rfl rfl rfl (hnb) rfl ?_
    refine gO ?_
    refine AQ.fn (by kernel_rfl) rfl rfl rfl (awake_spec) rfl ?_
    refine gO ?_
    exact AE.ret0 rfl ⟨rfl, trivial⟩ rfl ⟨rfl, rfl⟩
  | true =>
    rw [hpa] at hna
    rw [hpb] at hnb
    have hz := small_sz hc
    simp only [szFs, szF, szTs] at hz
    have habs := abstract_walk 7 f a hf ha
    have hgo := absF_ok 7 f a
    have hins := instance_walk (absF 7 f a).1 (pmT a) hgo.1 (pm_S a ha)
    have hia := fun h => ins_abs (f := f) (a := a) h
    obtain ⟨g, e1, hq⟩ : ∃ g e, absF 7 f a = (g, e) := ⟨_, _, rfl⟩
    rw [hq] at habs hgo hins hia
    have hgS : fmS g := hgo.1
    have hgz : szF g ≤ 4000 := hgo.2
    have hfg := Free_spec g hgS (by omega)
    have hln := free_len g (by omega)
    have hcg := containsS_spec (freeL g) a (by omega)
    rw [has_free] at hcg
    have s1 := same_spec f f hf
    rw [eqF_refl] at s1
    have hsf := replaced_walk f a (pmT a) hf ha (pm_S a ha)
    rw [rpl_self hu hpa] at hsf
    have epm : tmV (pmT a) = .agg [Sv a, Iv 0, .im (.sl 3 [])] := by
      show AV.agg [Sv a, Iv 0, .im (.sl 3 (tmR []))] = _
      rw [tmR]
    rw [epm] at hins hsf
    have hins := hins.argLe (xs := [fmV g, .agg [Sv a, Iv 0, nilV]]) (by repeat' (first | with_reducible exact AVle.refl _ | with_reducible exact IVle.refl _ | exact IVle.nil _ | with_reducible exact cellsLe.refl _ | with_reducible exact rowLe.refl _ | with_reducible exact rowsLe.refl _ | refine cellsLe.cons2 ?_ ?_ | refine AVle.agg ?_ | refine AVle.im ?_ | refine IVle.sl ?_ | refine rowsLe.cons ?_ ?_ | refine rowLe.cons ?_ ?_))
    have hsf := hsf.argLe (xs := [fmV f, Sv a, .agg [Sv a, Iv 0, nilV]]) (by repeat' (first | with_reducible exact AVle.refl _ | with_reducible exact IVle.refl _ | exact IVle.nil _ | with_reducible exact cellsLe.refl _ | with_reducible exact rowLe.refl _ | with_reducible exact rowsLe.refl _ | refine cellsLe.cons2 ?_ ?_ | refine AVle.agg ?_ | refine AVle.im ?_ | refine IVle.sl ?_ | refine rowsLe.cons ?_ ?_ | refine rowLe.cons ?_ ?_))
    have hc1 := subs1_spec s a b hs (by omega)
    have hc2 := subs1_spec t a b ht (by omega)
    have r1 := replaced_walk f a s hf ha hs
    have r2 := replaced_walk f b t hf hb ht
    have o1 := rplF_ok f a s
    have o2 := rplF_ok f b t
    have r3 := replaced_walk (rplF f a s).1 b t o1.1 hb ht
    have r4 := replaced_walk (rplF f b t).1 a s o2.1 ha hs
    have o3 := rplF_ok (rplF f a s).1 b t
    have hsw := fun hab h3 h4 h1 h2 => rpl_swap (f := f) (a := a) (b := b) (s := s) (t := t) hab h3 h4 h1 h2
    obtain ⟨g1, x1, hq1⟩ : ∃ g e, rplF f a s = (g, e) := ⟨_, _, rfl⟩
    obtain ⟨g2, x2, hq2⟩ : ∃ g e, rplF f b t = (g, e) := ⟨_, _, rfl⟩
    rw [hq1] at r1 r3 o1 o3 hsw
    rw [hq2] at r2 r4 o2 hsw
    simp only at *
    obtain ⟨g3, x3, hq3⟩ : ∃ g e, rplF g1 b t = (g, e) := ⟨_, _, rfl⟩
    obtain ⟨g4, x4, hq4⟩ : ∃ g e, rplF g2 a s = (g, e) := ⟨_, _, rfl⟩
    rw [hq3] at r3 o3 hsw
    rw [hq4] at r4 hsw
    have s3 := same_spec g3 g3 o3.1
    rw [eqF_refl] at s3
    obtain ⟨v1, hv1⟩ : ∃ v, (ocT a s || ocT b s) = v := ⟨_, rfl⟩
    obtain ⟨v2, hv2⟩ : ∃ v, (ocT a t || ocT b t) = v := ⟨_, rfl⟩
    rw [hv1] at hc1
    rw [hv2] at hc2
    clear hq hq1 hq2 hq3 hq4 hz epm
    refine ACall.walk [0, 1, 2, 3, 4, 5, 6, 7, 8, 9, 10, 11, 12, 13, 14, 15, 16, 17, 18, 19, 20, 53, 62, 83, 99, 113, 134] [11, 13, 15, 18, 19] Tryz.func8 rfl Tryz.ntmps8 (by kernel_rfl) (by rfl) rfl fun W own I0 φ0 lay => ?_
    refine gO ?_
    refine AQ.fn (by kernel_rfl) rfl rfl rfl (hsm) rfl ?_
    refine gO ?_
    simp only [go_sem, Nat.reduceAdd, Nat.reduceLeDiff, Nat.reduceSub, Int.reduceToNat, reduceCtorEq, hga, hgb]
    refine gO ?_
    refine AQ.guard_yes (by simp only [go_sem]) ?_
    refine AQ.fn (by kernel_rfl) rfl rfl rfl (hwl) rfl ?_
    repeat (first | refine xA ?_ | refine xB ?_ | refine xC ?_ | refine xE ?_ | refine xD ?_ | refine xK ?_ | refine xS ?_ | refine xM ?_ | refine xT ?_ | refine xF ?_ | ((first | refine xR ?_ | refine xW ?_ | refine vq_id ?_); simp only [go_sem, Nat.reduceAdd, Nat.reduceLeDiff, Nat.reduceSub, Int.reduceToNat, reduceCtorEq, Int.reduceBNe]) | (refine ⟨by first | omega | (intros; simp_all; done) | (intros; simp_all; omega), ?_⟩; try simp only [go_sem, Nat.reduceAdd, Nat.reduceLeDiff, Nat.reduceSub, Int.reduceToNat, reduceCtorEq, Int.reduceBNe]))
    refine AQ.guard_yes (by simp only [go_sem]) ?_
    refine AQ.fn (by kernel_rfl) rfl rfl rfl (hna) rfl ?_
    refine gO ?_
    refine AQ.guard_yes (by simp only [go_sem]) ?_
    refine AQ.fn (by kernel_rfl) rfl rfl rfl (hnb) rfl ?_
    refine gO ?_
    refine AQ.fn (by kernel_rfl) rfl rfl rfl (habs) rfl ?_
    refine gO ?_
    refine AP.cut (α := Unit) (fun _ => [(5, .im (.pt [Ii f.k, Si f.nm, .sl 3 (tmR f.ts), .sl 4 (fmR f.ps)])), (6, .im (.pt [Si a])), (7, .im (.pt [Si b])), (8, .im (.pt [Si s.nm, Ii s.ix, .sl 3 (tmR s.xs)])), (9, .im (.pt [Si t.nm, Ii t.ix, .sl 3 (tmR t.xs)])), (10, Bv false)]) (fun _ => []) (fun _ => True) ?_ fun _ _ => ?_
    · refine AP.cond rfl rfl (fun h => ?_) (fun h => ?_)
      · obtain ⟨i1, i2⟩ := hia (by simpa using h)
        rw [i1] at hins
        rw [i2] at hcg
        clear hia i1 i2 hsw r1 r2 r3 r4 hc1 hc2 o1 o2 o3 s3 hsm hwl hna hnb hsf habs
        generalize freeL g = F at *
        refine gO ?_
        refine AQ.fn (by kernel_rfl) rfl rfl rfl (hins) rfl ?_
        refine gO ?_
        refine AP.drawE 14 (Tree.node [] [0, 1, 2, 3, 4] [5] [Tree.node [] [6, 7, 8, 9, 11] [10] [Tree.node [11] [] [12] [Tree.node [] [13] [] []]]]) (by kernel_rfl) rfl (by kernel_rfl) (by kernel_rfl) ?_
        refine vd_node ?_
        simp only [go_sem, Nat.reduceAdd, Nat.reduceLeDiff, Nat.reduceSub, Int.reduceToNat, reduceCtorEq, Int.reduceBNe, Bool.not_false, Bool.not_true]
        refine AQ.guard_yes (by simp only [go_sem]) ?_
        refine AQ.fn (by kernel_rfl) rfl rfl rfl (s1) rfl ?_
        refine sI ?_
        refine AQ.nx rfl ?_
        simp only [go_sem, Nat.reduceAdd, Nat.reduceLeDiff, Nat.reduceSub, Int.reduceToNat, reduceCtorEq, Int.reduceBNe, Bool.not_false, Bool.not_true]
        refine AQ.guard_yes (by simp only [go_sem]) ?_
        refine AQ.fn (by kernel_rfl) rfl rfl rfl (hfg) rfl ?_
        refine sI ?_
        refine AQ.nx rfl ?_
        simp only [go_sem, Nat.reduceAdd, Nat.reduceLeDiff, Nat.reduceSub, Int.reduceToNat, reduceCtorEq, Int.reduceBNe, Bool.not_false, Bool.not_true]
        refine AQ.guard_yes (by simp only [go_sem]) ?_
        refine AQ.fn (by kernel_rfl) rfl rfl rfl (hcg) rfl ?_
        refine sI ?_
        refine AQ.nx rfl ?_
        refine sI ?_
        refine AQ.done ?_
        refine gO ?_
        refine AE.forgets [1, 0] rfl ?_
        refine sI ?_
        exact AE.meet () trivial (sU) rfl
      · refine gO ?_
        refine AE.forgets [0] rfl ?_
        refine sI ?_
        exact AE.meet () trivial (sU) rfl
    refine gO ?_
    refine AQ.fn (by kernel_rfl) rfl rfl rfl (hsf) rfl ?_
    repeat (first | refine xA ?_ | refine xB ?_ | refine xC ?_ | refine xE ?_ | refine xD ?_ | refine xK ?_ | refine xS ?_ | refine xM ?_ | refine xT ?_ | refine xF ?_ | ((first | refine xR ?_ | refine xW ?_ | refine vq_id ?_); simp only [go_sem, Nat.reduceAdd, Nat.reduceLeDiff, Nat.reduceSub, Int.reduceToNat, reduceCtorEq, Int.reduceBNe]) | (refine ⟨by first | omega | (intros; simp_all; done) | (intros; simp_all; omega), ?_⟩; try simp only [go_sem, Nat.reduceAdd, Nat.reduceLeDiff, Nat.reduceSub, Int.reduceToNat, reduceCtorEq, Int.reduceBNe]))
    refine AQ.guard_yes (by simp only [go_sem]) ?_
    refine AQ.fn (by kernel_rfl) rfl rfl rfl (s1) rfl ?_
    refine gO ?_
    cases hab : a == b with
    | true =>
      refine gO ?_
      refine AQ.fn (by kernel_rfl) rfl rfl rfl (awake_spec) rfl ?_
      refine gO ?_
      exact AE.retD [0] rfl ⟨rfl, trivial⟩ rfl ⟨rfl, rfl⟩
    | false =>
      simp only [go_sem, Nat.reduceAdd, Nat.reduceLeDiff, Nat.reduceSub, Int.reduceToNat, reduceCtorEq, Bool.not_false]
      refine AQ.guard_yes (by simp only [go_sem]) ?_
      refine AQ.opt 105 rfl ?_
      refine AQ.callF [] (by kernel_rfl) rfl rfl rfl rfl rfl rfl (fun k => by exact trivial) (fun k => rfl) (fun k => rfl) (hc1) ?_
      cases v1 with
      | true =>
        refine gO ?_
        refine AQ.fn (by kernel_rfl) rfl rfl rfl (awake_spec) rfl ?_
        refine gO ?_
        exact AE.retD [0] rfl ⟨rfl, trivial⟩ rfl ⟨rfl, rfl⟩
      | false =>
        repeat (first | refine xA ?_ | refine xB ?_ | refine xC ?_ | refine xE ?_ | refine xD ?_ | refine xK ?_ | refine xS ?_ | refine xM ?_ | refine xT ?_ | refine xF ?_ | ((first | refine xR ?_ | refine xW ?_ | refine vq_id ?_); simp only [go_sem, Nat.reduceAdd, Nat.reduceLeDiff, Nat.reduceSub, Int.reduceToNat, reduceCtorEq, Bool.not_false]) | (refine ⟨by first | omega | (intros; simp_all; done) | (intros; simp_all; omega), ?_⟩; try simp only [go_sem, Nat.reduceAdd, Nat.reduceLeDiff, Nat.reduceSub, Int.reduceToNat, reduceCtorEq, Bool.not_false]))
        refine AQ.guard_yes (by simp only [go_sem]) ?_
        refine AQ.opt 110 rfl ?_
        refine AQ.callF [] (by kernel_rfl) rfl rfl rfl rfl rfl rfl (fun k => by exact trivial) (fun k => rfl) (fun k => rfl) (hc2) ?_
        cases v2 with
        | true =>
          refine gO ?_
          refine AQ.fn (by kernel_rfl) rfl rfl rfl (awake_spec) rfl ?_
          refine gO ?_
          exact AE.retD [0] rfl ⟨rfl, trivial⟩ rfl ⟨rfl, rfl⟩
        | false =>
          have hab : a ≠ b := by simpa using hab
          rw [Bool.or_eq_false_iff] at hv1 hv2
          have hsw := hsw hab hv1.2 hv2.1
          refine gO ?_
          refine AQ.fn (by kernel_rfl) rfl rfl rfl (r1) rfl ?_
          refine gO ?_
          refine AQ.fn (by kernel_rfl) rfl rfl rfl (r2) rfl ?_
          refine gO ?_
          refine AP.cond rfl rfl (fun h => ?_) (fun h => ?_)
          · refine gO ?_
            refine AQ.fn (by kernel_rfl) rfl rfl rfl (awake_spec) rfl ?_
            refine gO ?_
            exact AE.retD [2, 1, 0] rfl ⟨rfl, trivial⟩ rfl ⟨rfl, rfl⟩
          · have h : x1 = 0 ∧ x2 = 0 := by simpa using h
            obtain ⟨rfl, rfl⟩ := h
            have hsw := hsw rfl rfl
            cases hsw
            refine gO ?_
            refine AQ.fn (by kernel_rfl) rfl rfl rfl (r3) rfl ?_
            refine gO ?_
            refine AQ.fn (by kernel_rfl) rfl rfl rfl (r4) rfl ?_
            refine gE @beq_self_eq_true.{0} ?_
            refine AQ.guard_yes (by simp only [go_sem]) ?_
            refine AQ.fn (by kernel_rfl) rfl rfl rfl (s3) rfl ?_
            refine gO ?_
            refine AQ.guard_yes (by simp only [go_sem]) ?_
            refine AQ.fn (by kernel_rfl) rfl rfl rfl (awake_spec) rfl ?_
            refine gO ?_
            exact AE.retD [2, 1, 0] rfl ⟨rfl, trivial⟩ rfl ⟨rfl, rfl⟩
end Go.Proofs.YteacpafhmgdbkaaGreatDoor
end
