import Derived.Test.YteacpafhmgdbkaaGreatDoorW1
import Derived.Shelf.LaysM
import Derived.Shelf.Strconv.Itoa3
import Derived.Shelf.Strings.OnBuilder
set_option linter.unusedSimpArgs false
set_option linter.unusedVariables false
set_option linter.unnecessarySimpa false
section
namespace Go.Proofs.YteacpafhmgdbkaaGreatDoor
open Go Go.AL Go.RowKit
set_option maxRecDepth 10000
set_option maxHeartbeats 4000000
theorem ocFs_take {nm : List UInt8} {l : List Fm} {k : Nat} {t : Fm} (h : l[k]? = some t) (ht : ocF nm t = true) : ocFs nm l = true := by
  induction l generalizing k with
  | nil => simp at h
  | cons u l ih =>
    rw [ocFs]
    cases k with
    | zero => simp at h; subst h; rw [ht, Bool.true_or]
    | succ k => simp at h; rw [ih h, Bool.or_true]
theorem fresh_spec (th ax ot : List Fm) (d : Dv) (p : List Int) (nm : List UInt8) (hl : th.length ≤ 1000000 ∧ ax.length ≤ 1000000 ∧ ot.length ≤ 10) (hs : fmsS (th ++ ax ++ ot)) :
    ACallX Tryz.prog 245 [.im (plP th ax d p), Sv nm, .im (.sl 4 (fmR ot))] [] (fun r H' => ocFs nm (th ++ ax ++ ot) = false ∧ r = .tup [] ∧ H' = []) (fun r H' => ocFs nm (th ++ ax ++ ot) = true ∧ r = fault p 272 ∧ H' = []) := by
  have hcc := concat_spec [th, ax, ot] (by simp) (by simp; omega)
  have hfl : [th, ax, ot].flatten = th ++ ax ++ ot := by simp
  rw [hfl] at hcc
  have hln : (th ++ ax ++ ot).length ≤ 1000000000 := by rw [List.length_append, List.length_append]; omega
  generalize th ++ ax ++ ot = l at *
  refine ACallX.walk [0, 1, 2, 7, 18, 19, 20, 21] [7] Tryz.func245 rfl Tryz.ntmps245 (by kernel_rfl) (by rfl) rfl fun W own I0 φ0 lay => ?_
  refine gO ?_
  refine AP.drawE 13 (Tree.node [] [0, 1, 2, 3, 4, 5, 6, 7, 8, 12] [9] [Tree.node [12] [] [10] [Tree.node [12] [11] [] []]]) (by kernel_rfl) rfl (by kernel_rfl) (by kernel_rfl) ?_
  refine vd_node ?_
  refine sI ?_
  repeat' (first | with_reducible exact True.intro | with_reducible refine And.intro (by omega) ?_ | with_reducible refine And.intro ?_ ?_ | (refine AQ.nx rfl ?_; refine sE @fmR_len ?_) | (refine AQ.fn (by kernel_rfl) rfl rfl rfl (hcc) rfl ?_; refine sE @fmR_len ?_) | refine AQ.done ?_ | (refine AQ.go (by kernel_rfl) ?_; refine sE @fmR_len ?_; repeat (with_reducible refine And.intro (by omega) ?_); refine AQ.nx rfl ?_; refine sE @fmR_len ?_))
  refine gE @fmR_len ?_
  refine AP.loop rfl (α := Nat) (fun k => [(0, .im (plP th ax d p)), (1, Sv nm), (18, .im (.sl 4 (fmR l))), (19, Iv l.length), (20, Iv k)]) (fun _ => []) (fun k => k ≤ l.length ∧ ocFs nm l = ocFs nm (l.drop k)) (fun k => l.length - k) 0 ⟨by omega, rfl⟩ (sU) rfl fun k ⟨hk, hm⟩ => ?_
  rcases Nat.eq_or_lt_of_le hk with hke | hlt
  · rw [hke, List.drop_length, ocFs] at hm
    refine gO ?_
    refine cF ?_
    refine gO ?_
    exact AE.fall rfl trivial ⟨hm, rfl, rfl⟩
  · obtain ⟨u, hu, hrow⟩ := fmR_get l k hlt
    rw [ocFs_drop nm l k u hu] at hm
    have hw := wr (x := (k : Int) + 1) (by omega)
    refine gO ?_
    refine cT ?_
    refine gE @hrow ?_
    refine ⟨by rw [fmR_len]; omega, ?_⟩
    refine gO ?_
    refine AQ.fn (by kernel_rfl) rfl rfl rfl (occurs_spec u nm (fmsS_get hs hu)) rfl ?_
    refine gO ?_
    refine AQ.callHX [] (by kernel_rfl) rfl rfl rfl rfl rfl rfl (by exact trivial) rfl (must_spec _ _ _ p _ _) ?_ ?_
    · rintro r H' ⟨hc, rfl, rfl⟩
      refine ⟨rfl, ?_⟩; refine sH ?_
      exact AEX.out [0] rfl rfl ⟨ocFs_take hu (by simpa using fun h => hc (.inl h)), rfl, rfl⟩
    · rintro r H' ⟨hc, rfl, rfl⟩
      refine ⟨rfl, ?_⟩; refine sH ?_
      have hc : ocF nm u = false := by simpa using hc.resolve_right (by decide)
      rw [hc, Bool.false_or] at hm
      refine gE @hw ?_
      refine AE.forgets [0] rfl ?_
      refine sI ?_
      exact AE.round (k + 1) ⟨by omega, hm⟩ (by omega) (sU) rfl
theorem fresh0_spec (th ax : List Fm) (d : Dv) (p : List Int) (nm : List UInt8) (hl : th.length ≤ 1000000 ∧ ax.length ≤ 1000000) (hs : fmsS (th ++ ax)) :
    ACallX Tryz.prog 245 [.im (plP th ax d p), Sv nm, nilV] [] (fun r H' => ocFs nm (th ++ ax) = false ∧ r = .tup [] ∧ H' = []) (fun r H' => ocFs nm (th ++ ax) = true ∧ r = fault p 272 ∧ H' = []) := by
  have h := fresh_spec th ax [] d p nm ⟨hl.1, hl.2, by simp⟩ (by rw [List.append_nil]; exact hs)
  rw [List.append_nil] at h
  refine ACallX.argW h fun w φ I vs hd => ?_
  simp only [AV.dens] at hd ⊢
  obtain ⟨u1, us1, e1, h1, u2, us2, e2, h2, u3, us3, e3, h3, e4⟩ := hd
  exact ⟨u1, us1, e1, h1, u2, us2, e2, h2, u3, us3, e3, nil_told 4 w φ I u3 h3, e4⟩
end Go.Proofs.YteacpafhmgdbkaaGreatDoor
end

section
namespace Go.Proofs.YteacpafhmgdbkaaGreatDoor
open Go Go.AL Go.RowKit
set_option maxRecDepth 10000
set_option maxHeartbeats 4000000
theorem opened_at (f : Fm) (t : Tm) {b : Int} (hf : unF f b = 0) (ht : clT t = 0) : PFn Tryz.prog 69 [fmV f, tmV t] (fmV (opn t f)) := by
  obtain ⟨m, hm⟩ := un_ms hf
  exact opened_spec f t 1 0 m hm (by omega) (by omega) (cl_L ht)
theorem abst_at (f : Fm) (nm : List UInt8) {b : Int} (hf : unF f b = 0) : PFn Tryz.prog 75 [fmV f, Sv nm] (fmV (abst nm f)) := by
  obtain ⟨m, hm⟩ := un_ms hf
  exact abstracted_spec f nm 1 0 m hm (by omega) (by omega)
theorem allIn_spec (th ax : List Fm) (d : Dv) (p : List Int) (K : KH th ax d p) (hn : d.ks.length = 1) :
    ACallX Tryz.prog 205 [.im (plP th ax d p)] [] (RQ ((kidK (ccFs th d.ks) ax p 0 []).bind fun g => chk (!ocFs d.nm (th ++ ax)) p 272 (.ok (conn 7 [abst d.nm g])))) (XQ ((kidK (ccFs th d.ks) ax p 0 []).bind fun g => chk (!ocFs d.nm (th ++ ax)) p 272 (.ok (conn 7 [abst d.nm g])))) := by
  refine ACallX.walk [0, 2, 3] [2, 3] Tryz.func205 rfl Tryz.ntmps205 (by kernel_rfl) (by rfl) rfl fun W own I0 φ0 lay => ?_
  refine gO ?_
  refine AQ.callHX [] (by kernel_rfl) rfl rfl rfl rfl rfl rfl (by exact trivial) rfl (K.k0 0 0 rfl (by omega) (by omega)) ?_ ?_
  · rintro r H' ⟨p', e', h1, rfl, rfl⟩
    refine ⟨rfl, ?_⟩; refine sH ?_
    exact AEX.out [0] rfl rfl ⟨p', e', by rw [h1]; rfl, rfl, rfl⟩
  rintro r H' ⟨g, hq, rfl, rfl⟩
  refine ⟨rfl, ?_⟩; refine sH ?_
  refine AQ.go (by kernel_rfl) ?_
  refine gO ?_
  refine AQ.callHX [] (by kernel_rfl) rfl rfl rfl rfl rfl rfl (by exact trivial) rfl (fresh0_spec th ax d p d.nm ⟨K.tl, K.al⟩ (fmsS_append K.tS K.aS)) ?_ ?_
  · rintro r H' ⟨hc, rfl, rfl⟩
    refine ⟨rfl, ?_⟩; refine sH ?_
    exact AEX.out [1, 0] rfl rfl ⟨p, 272, by rw [hq, Rs.bind, hc]; rfl, rfl, rfl⟩
  rintro r H' ⟨hc, rfl, rfl⟩
  refine ⟨rfl, ?_⟩; refine sH ?_
  have hu := kidK_well (by omega) hq
  refine gO ?_
  refine AP.drawE 12 (Tree.node [] [0, 1, 2, 3, 4, 5, 6, 7] [8] [Tree.node [] [] [9] [Tree.node [] [] [10] [Tree.node [] [] [11] [Tree.node [] [] [] []]]]]) (by kernel_rfl) rfl (by kernel_rfl) (by kernel_rfl) ?_
  refine vd_node ?_
  refine sI ?_
  repeat' (first | with_reducible exact True.intro | with_reducible refine And.intro (by omega) ?_ | with_reducible refine And.intro ?_ ?_ | (refine AQ.nx rfl ?_; refine sI ?_) | (refine AQ.fn (by kernel_rfl) rfl rfl rfl (abst_at g d.nm hu) rfl ?_; refine sI ?_) | (refine AQ.fn (by kernel_rfl) rfl rfl rfl (conn1_spec 7 (abst d.nm g)) rfl ?_; refine sI ?_) | refine AQ.done ?_ | (refine AQ.go (by kernel_rfl) ?_; refine sI ?_; repeat (with_reducible refine And.intro (by omega) ?_); refine AQ.nx rfl ?_; refine sI ?_))
  refine gO ?_
  exact AE.retD [1, 0] rfl ⟨⟨rfl, Nat.le_of_ble_eq_true (by kernel_rfl)⟩, trivial⟩ rfl ⟨conn 7 [abst d.nm g], by rw [hq, Rs.bind, hc]; rfl, rfl, rfl⟩
theorem allOut_spec (th ax : List Fm) (d : Dv) (p : List Int) (K : KH th ax d p) (hn : d.ks.length = 1) (ht : clT d.t = 0) :
    ACallX Tryz.prog 206 [.im (plP th ax d p)] [] (RQ ((kidK (ccFs th d.ks) ax p 0 []).bind fun g => chk (g.k == 7) p 271 (.ok (opn d.t (part g 0))))) (XQ ((kidK (ccFs th d.ks) ax p 0 []).bind fun g => chk (g.k == 7) p 271 (.ok (opn d.t (part g 0))))) := by
  refine ACallX.walk [0, 2, 3] [2, 3] Tryz.func206 rfl Tryz.ntmps206 (by kernel_rfl) (by rfl) rfl fun W own I0 φ0 lay => ?_
  refine gO ?_
  refine AQ.callHX [] (by kernel_rfl) rfl rfl rfl rfl rfl rfl (by exact trivial) rfl (K.k0 0 0 rfl (by omega) (by omega)) ?_ ?_
  · rintro r H' ⟨p', e', h1, rfl, rfl⟩
    refine ⟨rfl, ?_⟩; refine sH ?_
    exact AEX.out [0] rfl rfl ⟨p', e', by rw [h1]; rfl, rfl, rfl⟩
  rintro r H' ⟨g, hq, rfl, rfl⟩
  refine ⟨rfl, ?_⟩; refine sH ?_
  refine AQ.go (by kernel_rfl) ?_
  refine gO ?_
  refine AQ.callHX [] (by kernel_rfl) rfl rfl rfl rfl rfl rfl (by exact trivial) rfl (must_spec _ _ _ p _ _) ?_ ?_
  · rintro r H' ⟨hc, rfl, rfl⟩
    refine ⟨rfl, ?_⟩; refine sH ?_
    exact AEX.out [1, 0] rfl rfl ⟨p, 271, by rw [hq, Rs.bind, chk_f (fun h => hc (.inl h))], rfl, rfl⟩
  rintro r H' ⟨hc, rfl, rfl⟩
  refine ⟨rfl, ?_⟩; refine sH ?_
  have hc : (g.k == 7) = true := hc.resolve_right (by decide)
  obtain ⟨x, hp, hx⟩ := un_quant (kidK_well (by omega) hq) (.inl (by simpa using hc))
  have hr : fmR g.ps = [fmRow x] := by rw [hp, fmR_one]
  have hp0 : part g 0 = x := by rw [part, hp]; rfl
  rw [hr]
  refine gO ?_
  refine AP.drawE 13 (Tree.node [] [0, 1, 2, 3, 4, 5, 6, 7, 8, 9, 10] [11] [Tree.node [] [] [12] [Tree.node [] [] [] []]]) (by kernel_rfl) rfl (by kernel_rfl) (by kernel_rfl) ?_
  refine vd_node ?_
  refine sE @List.getD_cons_zero.{0} ?_
  repeat' (first | with_reducible exact True.intro | with_reducible refine And.intro (by omega) ?_ | with_reducible refine And.intro ?_ ?_ | (refine AQ.nx rfl ?_; refine sE @List.getD_cons_zero.{0} ?_) | (refine AQ.fn (by kernel_rfl) rfl rfl rfl (opened_at x d.t hx ht) rfl ?_; refine sI ?_) | refine AQ.done ?_ | (refine AQ.go (by kernel_rfl) ?_; refine sE @List.getD_cons_zero.{0} ?_; repeat (with_reducible refine And.intro (by omega) ?_); refine AQ.nx rfl ?_; refine sE @List.getD_cons_zero.{0} ?_))
  refine gO ?_
  exact AE.retD [1, 0] rfl ⟨⟨rfl, Nat.le_of_ble_eq_true (by kernel_rfl)⟩, trivial⟩ rfl ⟨opn d.t x, by rw [hq, Rs.bind, chk_t hc, hp0], rfl, rfl⟩
abbrev tmRow (t : Tm) : List IV := [Si t.nm, Ii t.ix, .sl 3 (tmR t.xs)]
theorem tmR_two (t u : Tm) : tmR [t, u] = [tmRow t, tmRow u] := by rw [tmR, tmR, tmR, tmC_eq, tmC_eq]
theorem reflexive_spec (th ax : List Fm) (d : Dv) (p : List Int) (q : Rs) (hq : q = .ok (.mk 2 [] [d.t, d.t] [])) :
    ACallX Tryz.prog 209 [.im (plP th ax d p)] [] (RQ q) (XQ q) := by
  refine ACallX.walk [0, 2] [2] Tryz.func209 rfl Tryz.ntmps209 (by kernel_rfl) (by rfl) rfl fun W own I0 φ0 lay => ?_
  refine gO ?_
  refine AP.drawE 17 (Tree.node [] [0, 1, 2, 3, 4, 5, 6, 7, 8, 9, 10, 11, 12, 13] [14] [Tree.node [] [15] [16] [Tree.node [] [] [] []]]) (by kernel_rfl) rfl (by kernel_rfl) (by kernel_rfl) ?_
  refine vd_node ?_
  refine sI ?_
  repeat' (first | with_reducible exact True.intro | with_reducible refine And.intro (by omega) ?_ | with_reducible refine And.intro ?_ ?_ | (refine AQ.nx rfl ?_; refine sI ?_) | (fail) | refine AQ.done ?_ | (refine AQ.go (by kernel_rfl) ?_; refine sI ?_; repeat (with_reducible refine And.intro (by omega) ?_); refine AQ.nx rfl ?_; refine sI ?_))
  refine gO ?_
  refine AE.cellsW 0 [Iv 2, Sv [], .im (.sl 3 [tmRow d.t, tmRow d.t]), .im (.sl 4 [])] rfl (cellsLe.cons (cellsLe.cons (cellsLe.cons (cellsLe.nil (cellsLe.refl _))))) ?_
  refine sI ?_
  refine AE.retD [0] rfl ⟨⟨rfl, Nat.le_of_ble_eq_true (by kernel_rfl)⟩, trivial⟩ rfl ⟨.mk 2 [] [d.t, d.t] [], hq, ?_, rfl⟩
  show _ = AV.agg [Iv 2, Sv [], .im (.sl 3 (tmR [d.t, d.t])), .im (.sl 4 [])]
  rw [tmR_two]; rfl
end Go.Proofs.YteacpafhmgdbkaaGreatDoor
end

section
namespace Go.Proofs.YteacpafhmgdbkaaGreatDoor
open Go Go.AL Go.RowKit
set_option maxRecDepth 10000
set_option maxHeartbeats 4000000
theorem someIn_spec (th ax : List Fm) (d : Dv) (p : List Int) (K : KH th ax d p) (hn : d.ks.length = 1) (hf : unF d.f 0 = 0) (ht : clT d.t = 0) :
    ACallX Tryz.prog 207 [.im (plP th ax d p)] [] (RQ ((kidK (ccFs th d.ks) ax p 0 []).bind fun g => chk (d.f.k == 8 && eqF g (opn d.t (part d.f 0))) p 271 (.ok d.f))) (XQ ((kidK (ccFs th d.ks) ax p 0 []).bind fun g => chk (d.f.k == 8 && eqF g (opn d.t (part d.f 0))) p 271 (.ok d.f))) := by
  refine ACallX.walk [0, 2, 3] [2, 3] Tryz.func207 rfl Tryz.ntmps207 (by kernel_rfl) (by rfl) rfl fun W own I0 φ0 lay => ?_
  refine gO ?_
  refine AQ.callHX [] (by kernel_rfl) rfl rfl rfl rfl rfl rfl (by exact trivial) rfl (K.k0 0 0 rfl (by omega) (by omega)) ?_ ?_
  · rintro r H' ⟨p', e', h1, rfl, rfl⟩
    refine ⟨rfl, ?_⟩; refine sH ?_
    exact AEX.out [0] rfl rfl ⟨p', e', by rw [h1]; rfl, rfl, rfl⟩
  rintro r H' ⟨g, hq, rfl, rfl⟩
  refine ⟨rfl, ?_⟩; refine sH ?_
  refine AQ.go (by kernel_rfl) ?_
  refine gO ?_
  have hu := kidK_well (by omega) hq
  by_cases hk : d.f.k = 8
  · obtain ⟨x, hp, hx⟩ := un_quant hf (.inr hk)
    have hb : (d.f.k == 8) = true := by rw [hk]; rfl
    have hr : fmR d.f.ps = [fmRow x] := by rw [hp, fmR_one]
    have hp0 : part d.f 0 = x := by rw [part, hp]; rfl
    have hg0 : (fmR d.f.ps).getD 0 [] = fmRow x := by rw [hr]; rfl
    have hl0 : (fmR d.f.ps).length = 1 := by rw [hr]; rfl
    rw [hp0]
    refine AP.drawE 33 (Tree.node [] [0, 1, 2, 3, 4, 5, 6, 7, 8, 9, 10, 11, 12, 13, 14, 15, 16, 17, 18, 19, 20, 21, 22, 23, 24, 25, 26, 27, 28] [29] [Tree.node [0, 11] [] [30] [Tree.node [0] [31] [32] [Tree.node [] [] [] []]]]) (by kernel_rfl) rfl (by kernel_rfl) (by kernel_rfl) ?_
    refine vd_node ?_
    refine sE (an @hb (an @hg0 @hl0)) ?_
    refine ⟨by omega, ?_⟩
    refine AQ.guard_yes (by simp only [go_sem]) ?_
    refine AQ.fn (by kernel_rfl) rfl rfl rfl (opened_at x d.t hx ht) rfl ?_
    refine sI ?_
    refine AQ.nx rfl ?_
    refine sI ?_
    refine AQ.guard_yes (by simp only [go_sem]) ?_
    refine AQ.fn (by kernel_rfl) rfl rfl rfl (same_spec g (opn d.t x) (un_S hu)) rfl ?_
    refine sI ?_
    refine AQ.nx rfl ?_
    refine sI ?_
    refine AQ.callHX [] (by kernel_rfl) rfl rfl rfl rfl rfl rfl (by exact trivial) rfl (must_spec _ _ _ p _ _) ?_ ?_
    · rintro r H' ⟨hc, rfl, rfl⟩
      refine ⟨rfl, ?_⟩; refine sH ?_
      exact AEX.outR [1, 0] rfl rfl rfl ⟨p, 271, by rw [hq, Rs.bind, chk_f]; exact fun h => hc (.inl h), rfl, rfl⟩
    rintro r H' ⟨hc, rfl, rfl⟩
    refine ⟨rfl, ?_⟩; refine sH ?_
    have hc2 : eqF g (opn d.t x) = true := by simpa using hc
    refine AQ.nx rfl ?_
    refine sI ?_
    refine AQ.done ?_
    refine gO ?_
    exact AE.retD [1, 0] rfl ⟨⟨rfl, Nat.le_of_ble_eq_true (by kernel_rfl)⟩, trivial⟩ rfl ⟨d.f, by rw [hq, Rs.bind, chk_t (by exact hc2)], rfl, rfl⟩
  · have hb : (d.f.k == 8) = false := by simp [hk]
    refine AP.drawE 33 (Tree.node [] [0, 1, 2, 3, 4, 5, 6, 7, 8, 9, 10, 11, 12, 13, 14, 15, 16, 17, 18, 19, 20, 21, 22, 23, 24, 25, 26, 27, 28] [29] [Tree.node [0, 11] [] [30] [Tree.node [0] [31] [32] [Tree.node [] [] [] []]]]) (by kernel_rfl) rfl (by kernel_rfl) (by kernel_rfl) ?_
    refine vd_node ?_
    refine sI ?_
    rw [hb]
    refine And.intro (fun h => by cases h) (And.intro (fun h => by cases h) ?_)
    refine AQ.skip (by kernel_rfl) rfl ?_
    refine sI ?_
    refine AQ.nx rfl ?_
    refine sI ?_
    refine AQ.skip (by kernel_rfl) rfl ?_
    refine sI ?_
    refine AQ.nx rfl ?_
    refine sI ?_
    refine AQ.callHX [] (by kernel_rfl) rfl rfl rfl rfl rfl rfl (by exact trivial) rfl (must_spec _ _ _ p _ _) ?_ ?_
    · rintro r H' ⟨hc, rfl, rfl⟩
      refine ⟨rfl, ?_⟩; refine sH ?_
      exact AEX.outR [1, 0] rfl rfl rfl ⟨p, 271, by rw [hq, Rs.bind, chk_f]; exact fun h => hc (.inl h), rfl, rfl⟩
    rintro r H' ⟨hc, rfl, rfl⟩
    simp at hc
end Go.Proofs.YteacpafhmgdbkaaGreatDoor
end

section
namespace Go.Proofs.YteacpafhmgdbkaaGreatDoor
open Go Go.AL Go.RowKit
set_option maxRecDepth 10000
set_option maxHeartbeats 4000000
theorem replace_spec (th ax : List Fm) (d : Dv) (p : List Int) (K : KH th ax d p) (hn : d.ks.length = 2) (hf : unF d.f 1 = 0) :
    ACallX Tryz.prog 210 [.im (plP th ax d p)] [] (RQ ((kidK (ccFs th d.ks) ax p 0 []).bind fun g => (kidK (ccFs th d.ks) ax p 1 []).bind fun a => chk (g.k == 2 && eqF a (opn (side g 0) d.f)) p 271 (.ok (opn (side g 1) d.f)))) (XQ ((kidK (ccFs th d.ks) ax p 0 []).bind fun g => (kidK (ccFs th d.ks) ax p 1 []).bind fun a => chk (g.k == 2 && eqF a (opn (side g 0) d.f)) p 271 (.ok (opn (side g 1) d.f)))) := by
  refine ACallX.walk [0, 2, 3, 4] [2, 3, 4] Tryz.func210 rfl Tryz.ntmps210 (by kernel_rfl) (by rfl) rfl fun W own I0 φ0 lay => ?_
  refine gO ?_
  refine AQ.callHX [] (by kernel_rfl) rfl rfl rfl rfl rfl rfl (by exact trivial) rfl (K.k0 0 0 rfl (by omega) (by omega)) ?_ ?_
  · rintro r H' ⟨p', e', h1, rfl, rfl⟩
    refine ⟨rfl, ?_⟩; refine sH ?_
    exact AEX.out [0] rfl rfl ⟨p', e', by rw [h1]; rfl, rfl, rfl⟩
  rintro r H' ⟨g, hq, rfl, rfl⟩
  refine ⟨rfl, ?_⟩; refine sH ?_
  refine AQ.go (by kernel_rfl) ?_
  refine gO ?_
  refine AQ.callHX [] (by kernel_rfl) rfl rfl rfl rfl rfl rfl (by exact trivial) rfl (K.k0 1 1 rfl (by omega) (by omega)) ?_ ?_
  · rintro r H' ⟨p', e', h1, rfl, rfl⟩
    refine ⟨rfl, ?_⟩; refine sH ?_
    exact AEX.out [0] rfl rfl ⟨p', e', by rw [hq, Rs.bind, h1]; rfl, rfl, rfl⟩
  rintro r H' ⟨a, hq2, rfl, rfl⟩
  refine ⟨rfl, ?_⟩; refine sH ?_
  refine AQ.go (by kernel_rfl) ?_
  refine gO ?_
  have ha := kidK_well (by omega) hq2
  by_cases hk : g.k = 2
  · obtain ⟨x, y, hp, hx, hy⟩ := un_eq (kidK_well (by omega) hq) hk
    have hb : (g.k == 2) = true := by rw [hk]; rfl
    have hr : tmR g.ts = [tmRow x, tmRow y] := by rw [hp, tmR_two]
    have hp0 : side g 0 = x := by rw [side, hp]; rfl
    have hp1 : side g 1 = y := by rw [side, hp]; rfl
    rw [hr]
    refine AP.drawE 21 (Tree.node [] [0, 1, 2, 3, 4, 5, 6, 7, 8, 9, 10, 11, 12, 13, 14, 15, 16] [17] [Tree.node [0, 5] [] [18] [Tree.node [0] [19] [20] [Tree.node [] [] [] []]]]) (by kernel_rfl) rfl (by kernel_rfl) (by kernel_rfl) ?_
    refine vd_node ?_
    refine sE (an @hb @List.getD_cons_zero.{0}) ?_
    refine ⟨by omega, ?_⟩
    refine AQ.guard_yes (by simp only [go_sem]) ?_
    refine AQ.fn (by kernel_rfl) rfl rfl rfl (opened_at d.f x hf hx) rfl ?_
    refine sI ?_
    refine AQ.nx rfl ?_
    refine sI ?_
    refine AQ.guard_yes (by simp only [go_sem]) ?_
    refine AQ.fn (by kernel_rfl) rfl rfl rfl (same_spec a (opn x d.f) (un_S ha)) rfl ?_
    refine sI ?_
    refine AQ.nx rfl ?_
    refine sI ?_
    refine AQ.callHX [] (by kernel_rfl) rfl rfl rfl rfl rfl rfl (by exact trivial) rfl (must_spec _ _ _ p _ _) ?_ ?_
    · rintro r H' ⟨hc, rfl, rfl⟩
      refine ⟨rfl, ?_⟩; refine sH ?_
      exact AEX.outR [2, 1, 0] rfl rfl rfl ⟨p, 271, by rw [hq, Rs.bind, hq2, Rs.bind, chk_f]; rw [hb, hp0]; exact fun h => hc (.inl h), rfl, rfl⟩
    rintro r H' ⟨hc, rfl, rfl⟩
    refine ⟨rfl, ?_⟩; refine sH ?_
    have hc2 : eqF a (opn x d.f) = true := by simpa using hc
    refine AQ.nx rfl ?_
    refine sI ?_
    refine AQ.done ?_
    refine gO ?_
    refine AP.drawE 13 (Tree.node [] [0, 1, 2, 3, 4, 5, 6, 7, 8, 9, 10] [11] [Tree.node [] [] [12] [Tree.node [] [] [] []]]) (by kernel_rfl) rfl (by kernel_rfl) (by kernel_rfl) ?_
    refine vd_node ?_
    refine sE (an @List.getD_cons_succ.{0} @List.getD_cons_zero.{0}) ?_
    refine ⟨by omega, ?_⟩
    refine AQ.fn (by kernel_rfl) rfl rfl rfl (opened_at d.f y hf hy) rfl ?_
    refine sI ?_
    refine AQ.nx rfl ?_
    refine sI ?_
    refine AQ.go (by kernel_rfl) ?_
    refine sI ?_
    refine AQ.nx rfl ?_
    refine sI ?_
    refine AQ.done ?_
    refine gO ?_
    exact AE.retD [2, 1, 0] rfl ⟨⟨rfl, Nat.le_of_ble_eq_true (by kernel_rfl)⟩, trivial⟩ rfl ⟨opn y d.f, by rw [hq, Rs.bind, hq2, Rs.bind, chk_t (by rw [hb, hp0]; exact hc2), hp1], rfl, rfl⟩
  · have hb : (g.k == 2) = false := by simp [hk]
    refine AP.drawE 21 (Tree.node [] [0, 1, 2, 3, 4, 5, 6, 7, 8, 9, 10, 11, 12, 13, 14, 15, 16] [17] [Tree.node [0, 5] [] [18] [Tree.node [0] [19] [20] [Tree.node [] [] [] []]]]) (by kernel_rfl) rfl (by kernel_rfl) (by kernel_rfl) ?_
    refine vd_node ?_
    refine sI ?_
    rw [hb]
    refine And.intro (fun h => by cases h) (And.intro (fun h => by cases h) ?_)
    refine AQ.skip (by kernel_rfl) rfl ?_
    refine sI ?_
    refine AQ.nx rfl ?_
    refine sI ?_
    refine AQ.skip (by kernel_rfl) rfl ?_
    refine sI ?_
    refine AQ.nx rfl ?_
    refine sI ?_
    refine AQ.callHX [] (by kernel_rfl) rfl rfl rfl rfl rfl rfl (by exact trivial) rfl (must_spec _ _ _ p _ _) ?_ ?_
    · rintro r H' ⟨hc, rfl, rfl⟩
      refine ⟨rfl, ?_⟩; refine sH ?_
      exact AEX.outR [2, 1, 0] rfl rfl rfl ⟨p, 271, by rw [hq, Rs.bind, hq2, Rs.bind, chk_f]; rw [hb]; exact fun h => hc (.inl h), rfl, rfl⟩
    rintro r H' ⟨hc, rfl, rfl⟩
    simp at hc
end Go.Proofs.YteacpafhmgdbkaaGreatDoor
end

section
namespace Go.Proofs.YteacpafhmgdbkaaGreatDoor
open Go Go.AL Go.RowKit
set_option maxRecDepth 10000
set_option maxHeartbeats 4000000
theorem someOut_spec (th ax : List Fm) (d : Dv) (p : List Int) (K : KH th ax d p) (hn : d.ks.length = 2) :
    ACallX Tryz.prog 208 [.im (plP th ax d p)] [] (RQ ((kidK (ccFs th d.ks) ax p 0 []).bind fun g => chk (g.k == 8) p 271 (chk (!ocFs d.nm (th ++ ax ++ [g])) p 272 ((kidK (ccFs th d.ks) ax p 1 [opn (.mk d.nm 0 []) (part g 0)]).bind fun c => chk (!ocF d.nm c) p 272 (.ok c))))) (XQ ((kidK (ccFs th d.ks) ax p 0 []).bind fun g => chk (g.k == 8) p 271 (chk (!ocFs d.nm (th ++ ax ++ [g])) p 272 ((kidK (ccFs th d.ks) ax p 1 [opn (.mk d.nm 0 []) (part g 0)]).bind fun c => chk (!ocF d.nm c) p 272 (.ok c))))) := by
  have hS := dvS_eq.1 K.S
  refine ACallX.walk [0, 2, 3, 4] [2, 3, 4] Tryz.func208 rfl Tryz.ntmps208 (by kernel_rfl) (by rfl) rfl fun W own I0 φ0 lay => ?_
  refine gO ?_
  refine AQ.callHX [] (by kernel_rfl) rfl rfl rfl rfl rfl rfl (by exact trivial) rfl (K.k0 0 0 rfl (by omega) (by omega)) ?_ ?_
  · rintro r H' ⟨p', e', h1, rfl, rfl⟩
    refine ⟨rfl, ?_⟩; refine sH ?_
    exact AEX.out [0] rfl rfl ⟨p', e', by rw [h1]; rfl, rfl, rfl⟩
  rintro r H' ⟨g, hq, rfl, rfl⟩
  refine ⟨rfl, ?_⟩; refine sH ?_
  refine AQ.go (by kernel_rfl) ?_
  refine gO ?_
  refine AQ.callHX [] (by kernel_rfl) rfl rfl rfl rfl rfl rfl (by exact trivial) rfl (must_spec _ _ _ p _ _) ?_ ?_
  · rintro r H' ⟨hc, rfl, rfl⟩
    refine ⟨rfl, ?_⟩; refine sH ?_
    exact AEX.out [1, 0] rfl rfl ⟨p, 271, by rw [hq, Rs.bind, chk_f (fun h => hc (.inl h))], rfl, rfl⟩
  rintro r H' ⟨hc, rfl, rfl⟩
  refine ⟨rfl, ?_⟩; refine sH ?_
  have hc : (g.k == 8) = true := hc.resolve_right (by decide)
  have hg := kidK_well (by omega) hq
  obtain ⟨x, hp, hx⟩ := un_quant hg (.inr (by simpa using hc))
  have hr : fmR g.ps = [fmRow x] := by rw [hp, fmR_one]
  have hp0 : part g 0 = x := by rw [part, hp]; rfl
  have hfr := fresh_spec th ax [g] d p d.nm ⟨K.tl, K.al, by simp⟩ (fmsS_append (fmsS_append K.tS K.aS) (fmsS_one (un_S hg)))
  rw [fmR_one] at hfr
  refine gO ?_
  refine AP.drawE 11 (Tree.node [] [0, 1, 2, 3, 4, 5, 6, 7, 8] [9] [Tree.node [0, 1, 2, 3, 4, 5, 6, 7] [] [10] [Tree.node [] [] [] []]]) (by kernel_rfl) rfl (by kernel_rfl) (by kernel_rfl) ?_
  refine vd_node ?_
  refine sI ?_
  refine AQ.go (by kernel_rfl) ?_
  refine sI ?_
  refine AQ.nx rfl ?_
  refine sI ?_
  refine AQ.callHX [] (by kernel_rfl) rfl rfl rfl rfl rfl rfl (by exact trivial) rfl (hfr) ?_ ?_
  · rintro r H' ⟨hc3, rfl, rfl⟩
    refine ⟨rfl, ?_⟩; refine sH ?_
    exact AEX.outR [1, 0] rfl rfl rfl ⟨p, 272, by rw [hq, Rs.bind, chk_t hc, hc3]; rfl, rfl, rfl⟩
  rintro r H' ⟨hc3, rfl, rfl⟩
  refine ⟨rfl, ?_⟩; refine sH ?_
  refine AQ.nx rfl ?_
  refine sI ?_
  refine AQ.done ?_
  have hos : PFn Tryz.prog 69 [fmV x, tmV (.mk d.nm 0 [])] (fmV (opn (.mk d.nm 0 []) x)) := by
    obtain ⟨m, hm⟩ := un_ms hx
    exact opened_spec x (.mk d.nm 0 []) 1 0 m hm (by omega) (by omega) (by rw [tmL, tmsL]; exact ⟨by simp, trivial⟩)
  have hxs : fmS (opn (.mk d.nm 0 []) x) := opn_S (by rw [tmS, tmsS]; exact ⟨hS.1.1, by simp, trivial⟩) (un_S hx)
  have hk1 := K.one 1 1 (opn (.mk d.nm 0 []) x) rfl (by omega) (by omega) hxs
  rw [hr]
  refine gO ?_
  obtain ⟨o, ho⟩ : ∃ o, opn (.mk d.nm 0 []) x = o := ⟨_, rfl⟩
  rw [ho] at hos hk1
  refine AP.cut (α := Fm) (fun c => [(0, .im (plP th ax d p)), (2, .ob 0 0), (4, .ob 2 0)]) (fun c => [(2, .var 27 [Iv c.k, Sv c.nm, .im (.sl 3 (tmR c.ts)), .im (.sl 4 (fmR c.ps))]), (1, .var 27 [Iv g.k, Sv g.nm, .im (.sl 3 (tmR g.ts)), .im (.sl 4 [fmRow x])]), (0, .var 27 [Iv 0, Sv [], .im (.v (.slice none 0 0)), .im (.v (.slice none 0 0))])]) (fun c => kidK (ccFs th d.ks) ax p 1 [o] = .ok c) ?_ fun c hq2 => ?_
  · skip
    refine AP.drawE 18 (Tree.node [] [0, 1, 2, 3, 4, 5, 6, 7, 8, 9, 10, 11] [12, 16] [Tree.node [0, 1, 2, 3, 4] [] [13, 16] [Tree.node [0] [] [14, 16] [Tree.node [0] [] [15, 16] [Tree.node [] [] [16] [Tree.node [] [] [17] [Tree.node [] [] [] []]], Tree.node [0] [] [15] [Tree.node [] [] [17] [Tree.node [] [] [] []]]], Tree.node [0] [] [14] [Tree.node [0] [] [15] [Tree.node [] [] [17] [Tree.node [] [] [] []]]]], Tree.node [0, 1, 2, 3, 4] [] [13] [Tree.node [0] [] [14] [Tree.node [0] [] [15] [Tree.node [] [] [17] [Tree.node [] [] [] []]]]]], Tree.node [0, 1, 2, 3, 4, 5, 6, 7, 8, 9, 10, 11] [] [12] [Tree.node [0, 1, 2, 3, 4] [] [13] [Tree.node [0] [] [14] [Tree.node [0] [] [15] [Tree.node [] [] [17] [Tree.node [] [] [] []]]]]]]) (by kernel_rfl) rfl (by kernel_rfl) (by kernel_rfl) ?_
    refine vd_node ?_
    refine sE @List.getD_cons_zero.{0} ?_
    repeat' (first | with_reducible exact True.intro | with_reducible refine And.intro (by omega) ?_ | with_reducible refine And.intro ?_ ?_ | (refine AQ.nx rfl ?_; refine sE @List.getD_cons_zero.{0} ?_) | ((with_reducible show AQ _ _ _ ({ dst := _, op := Op.call { callee := Callee.value (Operand.func 219), args := _, argTypes := _ }, type := _, pos := _, after := _, guard := _ } :: _) _ _ _); refine AQ.fn (by kernel_rfl) rfl rfl rfl (parameter_spec d.nm) rfl ?_; refine sI ?_) | ((with_reducible show AQ _ _ _ ({ dst := _, op := Op.call { callee := Callee.value (Operand.func 69), args := _, argTypes := _ }, type := _, pos := _, after := _, guard := _ } :: _) _ _ _); refine AQ.fn (by kernel_rfl) rfl rfl rfl (hos) rfl ?_; refine sI ?_) | ((with_reducible show AQ _ _ _ ({ dst := _, op := Op.call { callee := Callee.value (Operand.func 242), args := _, argTypes := _ }, type := _, pos := _, after := _, guard := _ } :: _) _ _ _); refine AQ.callHX [] (by kernel_rfl) rfl rfl rfl rfl rfl rfl (by exact trivial) rfl (hk1) ?_ ?_; (rintro r H' ⟨p', e', h1, rfl, rfl⟩; refine ⟨rfl, ?_⟩; refine sH ?_; first | exact AEX.outR [1, 0] rfl rfl rfl ⟨p', e', by rw [hq, Rs.bind, chk_t hc, hc3, hp0, ho, h1]; rfl, rfl, rfl⟩ | exact AEX.outR [2, 1, 0] rfl rfl rfl ⟨p', e', by rw [hq, Rs.bind, chk_t hc, hc3, hp0, ho, h1]; rfl, rfl, rfl⟩); rintro r H' ⟨c, hq2, rfl, rfl⟩; refine ⟨rfl, ?_⟩; refine sH ?_) | refine AQ.done ?_ | (refine AQ.go (by kernel_rfl) ?_; refine sE @List.getD_cons_zero.{0} ?_; repeat (with_reducible refine And.intro (by omega) ?_); refine AQ.nx rfl ?_; refine sE @List.getD_cons_zero.{0} ?_))
    all_goals exact AE.meet c hq2 (sU) rfl
  have hcw := kidK_well (by omega) hq2
  refine gO ?_
  refine AP.drawE 12 (Tree.node [] [0, 1, 2, 3, 4, 5, 6, 7, 8] [9] [Tree.node [0] [10] [11] [Tree.node [] [] [] []]]) (by kernel_rfl) rfl (by kernel_rfl) (by kernel_rfl) ?_
  refine vd_node ?_
  refine sI ?_
  refine AQ.fn (by kernel_rfl) rfl rfl rfl (occurs_spec c d.nm (un_S hcw)) rfl ?_
  refine sI ?_
  refine AQ.nx rfl ?_
  refine sI ?_
  refine AQ.callHX [] (by kernel_rfl) rfl rfl rfl rfl rfl rfl (by exact trivial) rfl (must_spec _ _ _ p _ _) ?_ ?_
  · rintro r H' ⟨hc4, rfl, rfl⟩
    refine ⟨rfl, ?_⟩; refine sH ?_
    exact AEX.outR [2, 1, 0] rfl rfl rfl ⟨p, 272, by rw [hq, Rs.bind, chk_t hc, hc3, chk_t (show (!false) = true from rfl), hp0, ho, hq2, Rs.bind]; exact chk_f (fun h => hc4 (.inl h)), rfl, rfl⟩
  rintro r H' ⟨hc4, rfl, rfl⟩
  refine ⟨rfl, ?_⟩; refine sH ?_
  have hc4 : (!ocF d.nm c) = true := hc4.resolve_right (by decide)
  refine AQ.nx rfl ?_
  refine sI ?_
  refine AQ.done ?_
  refine gO ?_
  exact AE.retD [2, 1, 0] rfl ⟨⟨rfl, Nat.le_of_ble_eq_true (by kernel_rfl)⟩, trivial⟩ rfl ⟨c, by rw [hq, Rs.bind, chk_t hc, hc3, chk_t (show (!false) = true from rfl), hp0, ho, hq2, Rs.bind]; exact chk_t hc4, rfl, rfl⟩
end Go.Proofs.YteacpafhmgdbkaaGreatDoor
end

section
namespace Go.Proofs.YteacpafhmgdbkaaGreatDoor
open Go Go.AL Go.RowKit
set_option maxRecDepth 10000
set_option maxHeartbeats 40000000
theorem orOut_spec (th ax : List Fm) (d : Dv) (p : List Int) (K : KH th ax d p) (hn : d.ks.length = 3) :
    ACallX Tryz.prog 202 [.im (plP th ax d p)] [] (RQ ((kidK (ccFs th d.ks) ax p 0 []).bind fun g => chk (g.k == 6) p 271 ((kidK (ccFs th d.ks) ax p 1 [part g 0]).bind fun a => (kidK (ccFs th d.ks) ax p 2 [part g 1]).bind fun b => chk (eqF a b) p 271 (.ok a)))) (XQ ((kidK (ccFs th d.ks) ax p 0 []).bind fun g => chk (g.k == 6) p 271 ((kidK (ccFs th d.ks) ax p 1 [part g 0]).bind fun a => (kidK (ccFs th d.ks) ax p 2 [part g 1]).bind fun b => chk (eqF a b) p 271 (.ok a)))) := by
  refine ACallX.walk [0, 2, 3, 4, 5] [2, 3, 4, 5] Tryz.func202 rfl Tryz.ntmps202 (by kernel_rfl) (by rfl) rfl fun W own I0 φ0 lay => ?_
  refine gO ?_
  refine AQ.callHX [] (by kernel_rfl) rfl rfl rfl rfl rfl rfl (by exact trivial) rfl (K.k0 0 0 rfl (by omega) (by omega)) ?_ ?_
  · rintro r H' ⟨p', e', h1, rfl, rfl⟩
    refine ⟨rfl, ?_⟩; refine sH ?_
    exact AEX.out [0] rfl rfl ⟨p', e', by rw [h1]; rfl, rfl, rfl⟩
  rintro r H' ⟨g, hq, rfl, rfl⟩
  refine ⟨rfl, ?_⟩; refine sH ?_
  refine AQ.go (by kernel_rfl) ?_
  refine gO ?_
  refine AQ.callHX [] (by kernel_rfl) rfl rfl rfl rfl rfl rfl (by exact trivial) rfl (must_spec _ _ _ p _ _) ?_ ?_
  · rintro r H' ⟨hc, rfl, rfl⟩
    refine ⟨rfl, ?_⟩; refine sH ?_
    exact AEX.out [1, 0] rfl rfl ⟨p, 271, by rw [hq, Rs.bind, chk_f (fun h => hc (.inl h))], rfl, rfl⟩
  rintro r H' ⟨hc, rfl, rfl⟩
  refine ⟨rfl, ?_⟩; refine sH ?_
  have hc : (g.k == 6) = true := hc.resolve_right (by decide)
  obtain ⟨x, y, hp, hx, hy⟩ := un_two (kidK_well (by omega) hq) (.inr (.inr (by simpa using hc)))
  have hr : fmR g.ps = [fmRow x, fmRow y] := by rw [hp, fmR_two]
  have hp0 : part g 0 = x := by rw [part, hp]; rfl
  have hp1 : part g 1 = y := by rw [part, hp]; rfl
  rw [hr]
  refine gO ?_
  have hk1 := K.one 1 1 x rfl (by omega) (by omega) (un_S hx)
  have hk2 := K.one 2 2 y rfl (by omega) (by omega) (un_S hy)
  refine AP.cut (α := Bool × Fm × Fm) (fun q => [(0, .im (plP th ax d p)), (2, .ob 0 0), (4, .ob (bif q.1 then 3 else 2) 0), (5, .ob (bif q.1 then 2 else 3) 0)]) (fun q => [(3, .var 27 (bif q.1 then [Iv q.2.1.k, Sv q.2.1.nm, .im (.sl 3 (tmR q.2.1.ts)), .im (.sl 4 (fmR q.2.1.ps))] else [Iv q.2.2.k, Sv q.2.2.nm, .im (.sl 3 (tmR q.2.2.ts)), .im (.sl 4 (fmR q.2.2.ps))])), (2, .var 27 (bif q.1 then [Iv q.2.2.k, Sv q.2.2.nm, .im (.sl 3 (tmR q.2.2.ts)), .im (.sl 4 (fmR q.2.2.ps))] else [Iv q.2.1.k, Sv q.2.1.nm, .im (.sl 3 (tmR q.2.1.ts)), .im (.sl 4 (fmR q.2.1.ps))])), (1, .var 27 [Iv g.k, Sv g.nm, .im (.sl 3 (tmR g.ts)), .im (.sl 4 [fmRow x, fmRow y])]), (0, .var 27 [Iv 0, Sv [], .im (.v (.slice none 0 0)), .im (.v (.slice none 0 0))])]) (fun q => kidK (ccFs th d.ks) ax p 1 [x] = .ok q.2.1 ∧ kidK (ccFs th d.ks) ax p 2 [y] = .ok q.2.2) ?_ fun q hqq => ?_
  · skip
    refine AP.drawE 18 (Tree.node [] [0, 1, 2, 3, 4, 7, 8, 9, 10, 11] [5, 12, 14, 15] [Tree.node [0, 7, 8, 9, 10, 11] [] [6, 12, 14, 15] [Tree.node [7, 8, 9, 10, 11] [] [12, 14, 15] [Tree.node [7] [] [13, 14, 15] [Tree.node [] [] [14, 15] [Tree.node [] [] [15] [Tree.node [] [] [16] [Tree.node [] [] [17] [Tree.node [] [] [] []]]], Tree.node [] [] [14] [Tree.node [] [] [16] [Tree.node [] [] [17] [Tree.node [] [] [] []]]]], Tree.node [7] [] [13, 15] [Tree.node [] [] [15] [Tree.node [] [] [16] [Tree.node [] [] [17] [Tree.node [] [] [] []]]], Tree.node [7] [] [13] [Tree.node [] [] [16] [Tree.node [] [] [17] [Tree.node [] [] [] []]]]], Tree.node [7] [] [13, 14] [Tree.node [] [] [14] [Tree.node [] [] [16] [Tree.node [] [] [17] [Tree.node [] [] [] []]]], Tree.node [7] [] [13] [Tree.node [] [] [16] [Tree.node [] [] [17] [Tree.node [] [] [] []]]]]], Tree.node [7, 8, 9, 10, 11] [] [12, 15] [Tree.node [7] [] [13, 15] [Tree.node [] [] [15] [Tree.node [] [] [16] [Tree.node [] [] [17] [Tree.node [] [] [] []]]], Tree.node [7] [] [13] [Tree.node [] [] [16] [Tree.node [] [] [17] [Tree.node [] [] [] []]]]], Tree.node [7, 8, 9, 10, 11] [] [12] [Tree.node [7] [] [13] [Tree.node [] [] [16] [Tree.node [] [] [17] [Tree.node [] [] [] []]]]]], Tree.node [7, 8, 9, 10, 11] [] [12, 14] [Tree.node [7] [] [13, 14] [Tree.node [] [] [14] [Tree.node [] [] [16] [Tree.node [] [] [17] [Tree.node [] [] [] []]]], Tree.node [7] [] [13] [Tree.node [] [] [16] [Tree.node [] [] [17] [Tree.node [] [] [] []]]]], Tree.node [7, 8, 9, 10, 11] [] [12] [Tree.node [7] [] [13] [Tree.node [] [] [16] [Tree.node [] [] [17] [Tree.node [] [] [] []]]]]]], Tree.node [0, 7] [] [6, 14, 15] [Tree.node [7] [] [13, 14, 15] [Tree.node [] [] [14, 15] [Tree.node [] [] [15] [Tree.node [] [] [16] [Tree.node [] [] [17] [Tree.node [] [] [] []]]], Tree.node [] [] [14] [Tree.node [] [] [16] [Tree.node [] [] [17] [Tree.node [] [] [] []]]]], Tree.node [7] [] [13, 15] [Tree.node [] [] [15] [Tree.node [] [] [16] [Tree.node [] [] [17] [Tree.node [] [] [] []]]], Tree.node [7] [] [13] [Tree.node [] [] [16] [Tree.node [] [] [17] [Tree.node [] [] [] []]]]], Tree.node [7] [] [13, 14] [Tree.node [] [] [14] [Tree.node [] [] [16] [Tree.node [] [] [17] [Tree.node [] [] [] []]]], Tree.node [7] [] [13] [Tree.node [] [] [16] [Tree.node [] [] [17] [Tree.node [] [] [] []]]]]], Tree.node [0, 7] [] [6, 15] [Tree.node [7] [] [13, 15] [Tree.node [] [] [15] [Tree.node [] [] [16] [Tree.node [] [] [17] [Tree.node [] [] [] []]]], Tree.node [7] [] [13] [Tree.node [] [] [16] [Tree.node [] [] [17] [Tree.node [] [] [] []]]]], Tree.node [0, 7] [] [6] [Tree.node [7] [] [13] [Tree.node [] [] [16] [Tree.node [] [] [17] [Tree.node [] [] [] []]]]]], Tree.node [0, 7] [] [6, 14] [Tree.node [7] [] [13, 14] [Tree.node [] [] [14] [Tree.node [] [] [16] [Tree.node [] [] [17] [Tree.node [] [] [] []]]], Tree.node [7] [] [13] [Tree.node [] [] [16] [Tree.node [] [] [17] [Tree.node [] [] [] []]]]], Tree.node [0, 7] [] [6] [Tree.node [7] [] [13] [Tree.node [] [] [16] [Tree.node [] [] [17] [Tree.node [] [] [] []]]]]]], Tree.node [0, 7, 8, 9, 10, 11] [] [6, 12, 15] [Tree.node [7, 8, 9, 10, 11] [] [12, 15] [Tree.node [7] [] [13, 15] [Tree.node [] [] [15] [Tree.node [] [] [16] [Tree.node [] [] [17] [Tree.node [] [] [] []]]], Tree.node [7] [] [13] [Tree.node [] [] [16] [Tree.node [] [] [17] [Tree.node [] [] [] []]]]], Tree.node [7, 8, 9, 10, 11] [] [12] [Tree.node [7] [] [13] [Tree.node [] [] [16] [Tree.node [] [] [17] [Tree.node [] [] [] []]]]]], Tree.node [0, 7] [] [6, 15] [Tree.node [7] [] [13, 15] [Tree.node [] [] [15] [Tree.node [] [] [16] [Tree.node [] [] [17] [Tree.node [] [] [] []]]], Tree.node [7] [] [13] [Tree.node [] [] [16] [Tree.node [] [] [17] [Tree.node [] [] [] []]]]], Tree.node [0, 7] [] [6] [Tree.node [7] [] [13] [Tree.node [] [] [16] [Tree.node [] [] [17] [Tree.node [] [] [] []]]]]], Tree.node [0, 7, 8, 9, 10, 11] [] [6, 12] [Tree.node [7, 8, 9, 10, 11] [] [12] [Tree.node [7] [] [13] [Tree.node [] [] [16] [Tree.node [] [] [17] [Tree.node [] [] [] []]]]], Tree.node [0, 7] [] [6] [Tree.node [7] [] [13] [Tree.node [] [] [16] [Tree.node [] [] [17] [Tree.node [] [] [] []]]]]]], Tree.node [0, 7, 8, 9, 10, 11] [] [6, 12, 14] [Tree.node [7, 8, 9, 10, 11] [] [12, 14] [Tree.node [7] [] [13, 14] [Tree.node [] [] [14] [Tree.node [] [] [16] [Tree.node [] [] [17] [Tree.node [] [] [] []]]], Tree.node [7] [] [13] [Tree.node [] [] [16] [Tree.node [] [] [17] [Tree.node [] [] [] []]]]], Tree.node [7, 8, 9, 10, 11] [] [12] [Tree.node [7] [] [13] [Tree.node [] [] [16] [Tree.node [] [] [17] [Tree.node [] [] [] []]]]]], Tree.node [0, 7] [] [6, 14] [Tree.node [7] [] [13, 14] [Tree.node [] [] [14] [Tree.node [] [] [16] [Tree.node [] [] [17] [Tree.node [] [] [] []]]], Tree.node [7] [] [13] [Tree.node [] [] [16] [Tree.node [] [] [17] [Tree.node [] [] [] []]]]], Tree.node [0, 7] [] [6] [Tree.node [7] [] [13] [Tree.node [] [] [16] [Tree.node [] [] [17] [Tree.node [] [] [] []]]]]], Tree.node [0, 7, 8, 9, 10, 11] [] [6, 12] [Tree.node [7, 8, 9, 10, 11] [] [12] [Tree.node [7] [] [13] [Tree.node [] [] [16] [Tree.node [] [] [17] [Tree.node [] [] [] []]]]], Tree.node [0, 7] [] [6] [Tree.node [7] [] [13] [Tree.node [] [] [16] [Tree.node [] [] [17] [Tree.node [] [] [] []]]]]]]], Tree.node [0, 1, 2, 3, 4, 7] [] [5, 14, 15] [Tree.node [0, 7] [] [6, 14, 15] [Tree.node [7] [] [13, 14, 15] [Tree.node [] [] [14, 15] [Tree.node [] [] [15] [Tree.node [] [] [16] [Tree.node [] [] [17] [Tree.node [] [] [] []]]], Tree.node [] [] [14] [Tree.node [] [] [16] [Tree.node [] [] [17] [Tree.node [] [] [] []]]]], Tree.node [7] [] [13, 15] [Tree.node [] [] [15] [Tree.node [] [] [16] [Tree.node [] [] [17] [Tree.node [] [] [] []]]], Tree.node [7] [] [13] [Tree.node [] [] [16] [Tree.node [] [] [17] [Tree.node [] [] [] []]]]], Tree.node [7] [] [13, 14] [Tree.node [] [] [14] [Tree.node [] [] [16] [Tree.node [] [] [17] [Tree.node [] [] [] []]]], Tree.node [7] [] [13] [Tree.node [] [] [16] [Tree.node [] [] [17] [Tree.node [] [] [] []]]]]], Tree.node [0, 7] [] [6, 15] [Tree.node [7] [] [13, 15] [Tree.node [] [] [15] [Tree.node [] [] [16] [Tree.node [] [] [17] [Tree.node [] [] [] []]]], Tree.node [7] [] [13] [Tree.node [] [] [16] [Tree.node [] [] [17] [Tree.node [] [] [] []]]]], Tree.node [0, 7] [] [6] [Tree.node [7] [] [13] [Tree.node [] [] [16] [Tree.node [] [] [17] [Tree.node [] [] [] []]]]]], Tree.node [0, 7] [] [6, 14] [Tree.node [7] [] [13, 14] [Tree.node [] [] [14] [Tree.node [] [] [16] [Tree.node [] [] [17] [Tree.node [] [] [] []]]], Tree.node [7] [] [13] [Tree.node [] [] [16] [Tree.node [] [] [17] [Tree.node [] [] [] []]]]], Tree.node [0, 7] [] [6] [Tree.node [7] [] [13] [Tree.node [] [] [16] [Tree.node [] [] [17] [Tree.node [] [] [] []]]]]]], Tree.node [0, 1, 2, 3, 4, 7] [] [5, 15] [Tree.node [0, 7] [] [6, 15] [Tree.node [7] [] [13, 15] [Tree.node [] [] [15] [Tree.node [] [] [16] [Tree.node [] [] [17] [Tree.node [] [] [] []]]], Tree.node [7] [] [13] [Tree.node [] [] [16] [Tree.node [] [] [17] [Tree.node [] [] [] []]]]], Tree.node [0, 7] [] [6] [Tree.node [7] [] [13] [Tree.node [] [] [16] [Tree.node [] [] [17] [Tree.node [] [] [] []]]]]], Tree.node [0, 1, 2, 3, 4, 7] [] [5] [Tree.node [0, 7] [] [6] [Tree.node [7] [] [13] [Tree.node [] [] [16] [Tree.node [] [] [17] [Tree.node [] [] [] []]]]]]], Tree.node [0, 1, 2, 3, 4, 7] [] [5, 14] [Tree.node [0, 7] [] [6, 14] [Tree.node [7] [] [13, 14] [Tree.node [] [] [14] [Tree.node [] [] [16] [Tree.node [] [] [17] [Tree.node [] [] [] []]]], Tree.node [7] [] [13] [Tree.node [] [] [16] [Tree.node [] [] [17] [Tree.node [] [] [] []]]]], Tree.node [0, 7] [] [6] [Tree.node [7] [] [13] [Tree.node [] [] [16] [Tree.node [] [] [17] [Tree.node [] [] [] []]]]]], Tree.node [0, 1, 2, 3, 4, 7] [] [5] [Tree.node [0, 7] [] [6] [Tree.node [7] [] [13] [Tree.node [] [] [16] [Tree.node [] [] [17] [Tree.node [] [] [] []]]]]]]], Tree.node [0, 1, 2, 3, 4, 7, 8, 9, 10, 11] [] [5, 12, 15] [Tree.node [0, 7, 8, 9, 10, 11] [] [6, 12, 15] [Tree.node [7, 8, 9, 10, 11] [] [12, 15] [Tree.node [7] [] [13, 15] [Tree.node [] [] [15] [Tree.node [] [] [16] [Tree.node [] [] [17] [Tree.node [] [] [] []]]], Tree.node [7] [] [13] [Tree.node [] [] [16] [Tree.node [] [] [17] [Tree.node [] [] [] []]]]], Tree.node [7, 8, 9, 10, 11] [] [12] [Tree.node [7] [] [13] [Tree.node [] [] [16] [Tree.node [] [] [17] [Tree.node [] [] [] []]]]]], Tree.node [0, 7] [] [6, 15] [Tree.node [7] [] [13, 15] [Tree.node [] [] [15] [Tree.node [] [] [16] [Tree.node [] [] [17] [Tree.node [] [] [] []]]], Tree.node [7] [] [13] [Tree.node [] [] [16] [Tree.node [] [] [17] [Tree.node [] [] [] []]]]], Tree.node [0, 7] [] [6] [Tree.node [7] [] [13] [Tree.node [] [] [16] [Tree.node [] [] [17] [Tree.node [] [] [] []]]]]], Tree.node [0, 7, 8, 9, 10, 11] [] [6, 12] [Tree.node [7, 8, 9, 10, 11] [] [12] [Tree.node [7] [] [13] [Tree.node [] [] [16] [Tree.node [] [] [17] [Tree.node [] [] [] []]]]], Tree.node [0, 7] [] [6] [Tree.node [7] [] [13] [Tree.node [] [] [16] [Tree.node [] [] [17] [Tree.node [] [] [] []]]]]]], Tree.node [0, 1, 2, 3, 4, 7] [] [5, 15] [Tree.node [0, 7] [] [6, 15] [Tree.node [7] [] [13, 15] [Tree.node [] [] [15] [Tree.node [] [] [16] [Tree.node [] [] [17] [Tree.node [] [] [] []]]], Tree.node [7] [] [13] [Tree.node [] [] [16] [Tree.node [] [] [17] [Tree.node [] [] [] []]]]], Tree.node [0, 7] [] [6] [Tree.node [7] [] [13] [Tree.node [] [] [16] [Tree.node [] [] [17] [Tree.node [] [] [] []]]]]], Tree.node [0, 1, 2, 3, 4, 7] [] [5] [Tree.node [0, 7] [] [6] [Tree.node [7] [] [13] [Tree.node [] [] [16] [Tree.node [] [] [17] [Tree.node [] [] [] []]]]]]], Tree.node [0, 1, 2, 3, 4, 7, 8, 9, 10, 11] [] [5, 12] [Tree.node [0, 7, 8, 9, 10, 11] [] [6, 12] [Tree.node [7, 8, 9, 10, 11] [] [12] [Tree.node [7] [] [13] [Tree.node [] [] [16] [Tree.node [] [] [17] [Tree.node [] [] [] []]]]], Tree.node [0, 7] [] [6] [Tree.node [7] [] [13] [Tree.node [] [] [16] [Tree.node [] [] [17] [Tree.node [] [] [] []]]]]], Tree.node [0, 1, 2, 3, 4, 7] [] [5] [Tree.node [0, 7] [] [6] [Tree.node [7] [] [13] [Tree.node [] [] [16] [Tree.node [] [] [17] [Tree.node [] [] [] []]]]]]]], Tree.node [0, 1, 2, 3, 4, 7, 8, 9, 10, 11] [] [5, 12, 14] [Tree.node [0, 7, 8, 9, 10, 11] [] [6, 12, 14] [Tree.node [7, 8, 9, 10, 11] [] [12, 14] [Tree.node [7] [] [13, 14] [Tree.node [] [] [14] [Tree.node [] [] [16] [Tree.node [] [] [17] [Tree.node [] [] [] []]]], Tree.node [7] [] [13] [Tree.node [] [] [16] [Tree.node [] [] [17] [Tree.node [] [] [] []]]]], Tree.node [7, 8, 9, 10, 11] [] [12] [Tree.node [7] [] [13] [Tree.node [] [] [16] [Tree.node [] [] [17] [Tree.node [] [] [] []]]]]], Tree.node [0, 7] [] [6, 14] [Tree.node [7] [] [13, 14] [Tree.node [] [] [14] [Tree.node [] [] [16] [Tree.node [] [] [17] [Tree.node [] [] [] []]]], Tree.node [7] [] [13] [Tree.node [] [] [16] [Tree.node [] [] [17] [Tree.node [] [] [] []]]]], Tree.node [0, 7] [] [6] [Tree.node [7] [] [13] [Tree.node [] [] [16] [Tree.node [] [] [17] [Tree.node [] [] [] []]]]]], Tree.node [0, 7, 8, 9, 10, 11] [] [6, 12] [Tree.node [7, 8, 9, 10, 11] [] [12] [Tree.node [7] [] [13] [Tree.node [] [] [16] [Tree.node [] [] [17] [Tree.node [] [] [] []]]]], Tree.node [0, 7] [] [6] [Tree.node [7] [] [13] [Tree.node [] [] [16] [Tree.node [] [] [17] [Tree.node [] [] [] []]]]]]], Tree.node [0, 1, 2, 3, 4, 7] [] [5, 14] [Tree.node [0, 7] [] [6, 14] [Tree.node [7] [] [13, 14] [Tree.node [] [] [14] [Tree.node [] [] [16] [Tree.node [] [] [17] [Tree.node [] [] [] []]]], Tree.node [7] [] [13] [Tree.node [] [] [16] [Tree.node [] [] [17] [Tree.node [] [] [] []]]]], Tree.node [0, 7] [] [6] [Tree.node [7] [] [13] [Tree.node [] [] [16] [Tree.node [] [] [17] [Tree.node [] [] [] []]]]]], Tree.node [0, 1, 2, 3, 4, 7] [] [5] [Tree.node [0, 7] [] [6] [Tree.node [7] [] [13] [Tree.node [] [] [16] [Tree.node [] [] [17] [Tree.node [] [] [] []]]]]]], Tree.node [0, 1, 2, 3, 4, 7, 8, 9, 10, 11] [] [5, 12] [Tree.node [0, 7, 8, 9, 10, 11] [] [6, 12] [Tree.node [7, 8, 9, 10, 11] [] [12] [Tree.node [7] [] [13] [Tree.node [] [] [16] [Tree.node [] [] [17] [Tree.node [] [] [] []]]]], Tree.node [0, 7] [] [6] [Tree.node [7] [] [13] [Tree.node [] [] [16] [Tree.node [] [] [17] [Tree.node [] [] [] []]]]]], Tree.node [0, 1, 2, 3, 4, 7] [] [5] [Tree.node [0, 7] [] [6] [Tree.node [7] [] [13] [Tree.node [] [] [16] [Tree.node [] [] [17] [Tree.node [] [] [] []]]]]]]]]) (by kernel_rfl) rfl (by kernel_rfl) (by kernel_rfl) ?_
    refine vd_node ?_
    refine sE (an @List.getD_cons_succ.{0} @List.getD_cons_zero.{0}) ?_
    repeat' (first | with_reducible exact True.intro | with_reducible refine And.intro (by omega) ?_ | with_reducible refine And.intro ?_ ?_ | (refine AQ.nx rfl ?_; refine sE (an @List.getD_cons_succ.{0} @List.getD_cons_zero.{0}) ?_) | (refine AQ.callHX [] (by kernel_rfl) rfl rfl rfl rfl rfl rfl (by exact trivial) rfl (hk1) ?_ ?_; (rintro r H' ⟨p', e', h1, rfl, rfl⟩; refine ⟨rfl, ?_⟩; refine sH ?_; first | exact AEX.outR [1, 0] rfl rfl rfl ⟨p', e', by rw [hq, Rs.bind, chk_t hc, hp0, h1]; rfl, rfl, rfl⟩ | exact AEX.outR [2, 1, 0] rfl rfl rfl ⟨p', e', by rw [hq, Rs.bind, chk_t hc, hp0, h1]; rfl, rfl, rfl⟩ | exact AEX.outR [3, 2, 1, 0] rfl rfl rfl ⟨p', e', by rw [hq, Rs.bind, chk_t hc, hp0, h1]; rfl, rfl, rfl⟩); rintro r H' ⟨a, hq2, rfl, rfl⟩; refine ⟨rfl, ?_⟩; refine sH ?_) | (refine AQ.callHX [] (by kernel_rfl) rfl rfl rfl rfl rfl rfl (by exact trivial) rfl (hk2) ?_ ?_; (rintro r H' ⟨p', e', h1, rfl, rfl⟩; refine ⟨rfl, ?_⟩; refine sH ?_; first | exact AEX.outR [1, 0] rfl rfl rfl ⟨p', e', by rw [hq, Rs.bind, chk_t hc, hp0, hp1, hq2, Rs.bind, h1]; rfl, rfl, rfl⟩ | exact AEX.outR [2, 1, 0] rfl rfl rfl ⟨p', e', by rw [hq, Rs.bind, chk_t hc, hp0, hp1, hq2, Rs.bind, h1]; rfl, rfl, rfl⟩ | exact AEX.outR [3, 2, 1, 0] rfl rfl rfl ⟨p', e', by rw [hq, Rs.bind, chk_t hc, hp0, hp1, hq2, Rs.bind, h1]; rfl, rfl, rfl⟩); rintro r H' ⟨b, hq3, rfl, rfl⟩; refine ⟨rfl, ?_⟩; refine sH ?_) | refine AQ.done ?_ | (refine AQ.go (by kernel_rfl) ?_; refine sE (an @List.getD_cons_succ.{0} @List.getD_cons_zero.{0}) ?_; repeat (with_reducible refine And.intro (by omega) ?_); refine AQ.nx rfl ?_; refine sE (an @List.getD_cons_succ.{0} @List.getD_cons_zero.{0}) ?_))
    all_goals first | exact AE.meet (true, a, b) ⟨hq2, hq3⟩ (sU) rfl | exact AE.meet (false, a, b) ⟨hq2, hq3⟩ (sU) rfl
  obtain ⟨c, a, b⟩ := q
  obtain ⟨hq2, hq3⟩ := hqq
  simp only at hq2 hq3
  have ha := kidK_well (by omega) hq2
  have hsm := same_spec a b (un_S ha)
  cases c
  all_goals
    simp only [go_sem, Nat.reduceAdd, Nat.reduceLeDiff, Nat.reduceSub, Int.reduceToNat, reduceCtorEq, cond_true, cond_false]
    refine gO ?_
    refine AQ.fn (by kernel_rfl) rfl rfl rfl (hsm) rfl ?_
    refine gO ?_
    refine AQ.callHX [] (by kernel_rfl) rfl rfl rfl rfl rfl rfl (by exact trivial) rfl (must_spec _ _ _ p _ _) ?_ ?_
    · rintro r H' ⟨hc3, rfl, rfl⟩
      refine ⟨rfl, ?_⟩; refine sH ?_
      exact AEX.out [3, 2, 1, 0] rfl rfl ⟨p, 271, by rw [hq, Rs.bind, chk_t hc, hp0, hp1, hq2, Rs.bind, hq3, Rs.bind, chk_f (fun h => hc3 (.inl h))], rfl, rfl⟩
    rintro r H' ⟨hc3, rfl, rfl⟩
    refine ⟨rfl, ?_⟩; refine sH ?_
    have hc3 : eqF a b = true := hc3.resolve_right (by decide)
    refine gO ?_
    exact AE.retD [3, 2, 1, 0] rfl ⟨⟨rfl, Nat.le_of_ble_eq_true (by kernel_rfl)⟩, trivial⟩ rfl ⟨a, by rw [hq, Rs.bind, chk_t hc, hp0, hp1, hq2, Rs.bind, hq3, Rs.bind, chk_t hc3], rfl, rfl⟩
end Go.Proofs.YteacpafhmgdbkaaGreatDoor
end

section
namespace Go.Proofs.YteacpafhmgdbkaaGreatDoor
open Go Go.AL Go.RowKit
set_option maxRecDepth 10000
set_option maxHeartbeats 4000000
def ruleRow (k : Int) (a b c e : Bool) (f : Nat) : List AV := [Iv k, Bv a, Bv b, Bv c, Bv e, .fn f [] []]
def ruleRows : List AV :=
  [Iv 0, Bv false, Bv false, Bv false, Bv false, .im (.v .nilFunc)] ++ ruleRow 0 false false false false 193 ++ ruleRow 0 false false false false 194 ++ ruleRow 1 true false false false 195 ++ ruleRow 2 false false false false 196 ++
  ruleRow 2 false false false false 197 ++ ruleRow 1 false false false false 198 ++ ruleRow 1 false false false false 199 ++ ruleRow 1 true false false false 200 ++ ruleRow 1 true false false false 201 ++ ruleRow 3 false false false false 202 ++
  ruleRow 1 true false false false 203 ++ ruleRow 1 true false false false 204 ++ ruleRow 1 false false false true 205 ++ ruleRow 1 false false true false 206 ++ ruleRow 1 true false true false 207 ++ ruleRow 2 false false false true 208 ++ ruleRow 0 false false true false 209 ++ ruleRow 2 false true false false 210
theorem rules_spec : PFn Tryz.prog 121 [] (.agg ruleRows) := by
  refine ACall.walk [0] [0] Tryz.func121 rfl Tryz.ntmps121 (by kernel_rfl) (by rfl) rfl fun W own I0 φ0 lay => ?_
  refine gO ?_
  exact AE.retD [0] rfl ⟨⟨rfl, Nat.le_of_ble_eq_true (by kernel_rfl)⟩, trivial⟩ rfl ⟨rfl, by kernel_rfl⟩
end Go.Proofs.YteacpafhmgdbkaaGreatDoor
end

section
namespace Go.Proofs.YteacpafhmgdbkaaGreatDoor
open Go Go.AL Go.RowKit
set_option maxRecDepth 10000
set_option maxHeartbeats 4000000
theorem kidK_ok {th ax fu : List Fm} {ks : List Dv} {i : Nat} {p : List Int} {g : Fm} (h : kidK (ccFs th ks) ax p i fu = .ok g) : unF g 0 = 0 := by
  by_cases hi : i < ks.length
  · exact kidK_well hi h
  · rw [kidK, List.getD_eq_getElem?_getD, List.getElem?_eq_none (by rw [ccFs_len]; omega)] at h
    cases h
theorem fmsS_at {l : List Fm} (h : fmsS l) (k : Nat) : fmS (l.getD k (.mk 0 [] [] [])) := by
  rw [List.getD_eq_getElem?_getD]
  cases hk : l[k]? with
  | none => rw [Option.getD_none, fmS, tmsS, fmsS]; exact ⟨by simp, by simp, trivial, by simp, trivial⟩
  | some t => exact fmsS_get h hk
theorem tmsS_at {l : List Tm} (h : tmsS l) (k : Nat) : tmS (l.getD k (.mk [] 0 [])) := by
  rw [List.getD_eq_getElem?_getD]
  cases hk : l[k]? with
  | none => rw [Option.getD_none, tmS, tmsS]; exact ⟨by simp, by simp, trivial⟩
  | some t => exact tmsS_get h hk
theorem part_S {f : Fm} (h : fmS f) (k : Nat) : fmS (part f k) := fmsS_at (fmS_eq.1 h).2.2.2.2 k
theorem side_S {f : Fm} (h : fmS f) (k : Nat) : tmS (side f k) := tmsS_at (fmS_eq.1 h).2.2.1 k
theorem ruleK_S {th ax : List Fm} {r ix : Int} {nm : List UInt8} {t : Tm} {f : Fm} {K : List KF} {p : List Int} {g : Fm} (hth : fmsS th) (hax : fmsS ax) (ht : tmS t) (hf : fmS f) (hK : ∀ i fu g, kidK K ax p i fu = .ok g → fmS g) (h : ruleK th ax r ix nm t f K p = .ok g) : fmS g := by
  unfold ruleK at h
  by_cases h1 : r = 1
  · rw [if_pos h1] at h; obtain ⟨_, h⟩ := chk_ok h; cases h; exact fmsS_at hax _
  rw [if_neg h1] at h
  by_cases h2 : r = 2
  · rw [if_pos h2] at h; obtain ⟨_, h⟩ := chk_ok h; cases h; exact fmsS_at hth _
  rw [if_neg h2] at h
  by_cases h3 : r = 3
  · rw [if_pos h3] at h; obtain ⟨a, g1, h⟩ := bind_ok h; cases h; exact conn_S (fmsS_two hf (hK _ _ _ g1)) (by simp)
  rw [if_neg h3] at h
  by_cases h4 : r = 4
  · rw [if_pos h4] at h; obtain ⟨a, g1, h⟩ := bind_ok h; obtain ⟨b, g2, h⟩ := bind_ok h; obtain ⟨_, h⟩ := chk_ok h; cases h; exact part_S (hK _ _ _ g1) 1
  rw [if_neg h4] at h
  by_cases h5 : r = 5
  · rw [if_pos h5] at h; obtain ⟨a, g1, h⟩ := bind_ok h; obtain ⟨b, g2, h⟩ := bind_ok h; cases h; exact conn_S (fmsS_two (hK _ _ _ g1) (hK _ _ _ g2)) (by simp)
  rw [if_neg h5] at h
  by_cases h6 : r = 6
  · rw [if_pos h6] at h; obtain ⟨a, g1, h⟩ := bind_ok h; obtain ⟨_, h⟩ := chk_ok h; cases h; exact part_S (hK _ _ _ g1) 0
  rw [if_neg h6] at h
  by_cases h7 : r = 7
  · rw [if_pos h7] at h; obtain ⟨a, g1, h⟩ := bind_ok h; obtain ⟨_, h⟩ := chk_ok h; cases h; exact part_S (hK _ _ _ g1) 1
  rw [if_neg h7] at h
  by_cases h8 : r = 8
  · rw [if_pos h8] at h; obtain ⟨a, g1, h⟩ := bind_ok h; cases h; exact conn_S (fmsS_two (hK _ _ _ g1) hf) (by simp)
  rw [if_neg h8] at h
  by_cases h9 : r = 9
  · rw [if_pos h9] at h; obtain ⟨a, g1, h⟩ := bind_ok h; cases h; exact conn_S (fmsS_two hf (hK _ _ _ g1)) (by simp)
  rw [if_neg h9] at h
  by_cases h10 : r = 10
  · rw [if_pos h10] at h; obtain ⟨a, g1, h⟩ := bind_ok h; obtain ⟨_, h⟩ := chk_ok h; obtain ⟨b, g2, h⟩ := bind_ok h; obtain ⟨c, g3, h⟩ := bind_ok h; obtain ⟨_, h⟩ := chk_ok h; cases h; exact hK _ _ _ g2
  rw [if_neg h10] at h
  by_cases h11 : r = 11
  · rw [if_pos h11] at h; obtain ⟨a, g1, h⟩ := bind_ok h; obtain ⟨_, h⟩ := chk_ok h; cases h; exact hf
  rw [if_neg h11] at h
  by_cases h12 : r = 12
  · rw [if_pos h12] at h; obtain ⟨a, g1, h⟩ := bind_ok h; obtain ⟨_, h⟩ := chk_ok h; cases h; exact hf
  rw [if_neg h12] at h
  by_cases h13 : r = 13
  · rw [if_pos h13] at h; obtain ⟨a, g1, h⟩ := bind_ok h; obtain ⟨_, h⟩ := chk_ok h; cases h; exact conn_S (fmsS_one (abst_S (hK _ _ _ g1))) (by simp)
  rw [if_neg h13] at h
  by_cases h14 : r = 14
  · rw [if_pos h14] at h; obtain ⟨a, g1, h⟩ := bind_ok h; obtain ⟨_, h⟩ := chk_ok h; cases h; exact opn_S ht (part_S (hK _ _ _ g1) 0)
  rw [if_neg h14] at h
  by_cases h15 : r = 15
  · rw [if_pos h15] at h; obtain ⟨a, g1, h⟩ := bind_ok h; obtain ⟨_, h⟩ := chk_ok h; cases h; exact hf
  rw [if_neg h15] at h
  by_cases h16 : r = 16
  · rw [if_pos h16] at h; obtain ⟨a, g1, h⟩ := bind_ok h; obtain ⟨_, h⟩ := chk_ok h; obtain ⟨_, h⟩ := chk_ok h; obtain ⟨c, g3, h⟩ := bind_ok h; obtain ⟨_, h⟩ := chk_ok h; cases h; exact hK _ _ _ g3
  rw [if_neg h16] at h
  by_cases h17 : r = 17
  · rw [if_pos h17] at h; cases h; rw [fmS, tmsS, tmsS, tmsS, fmsS]; exact ⟨by simp, by simp, ⟨ht, ht, trivial⟩, by simp, trivial⟩
  rw [if_neg h17] at h
  obtain ⟨a, g1, h⟩ := bind_ok h; obtain ⟨b, g2, h⟩ := bind_ok h; obtain ⟨_, h⟩ := chk_ok h; cases h; exact opn_S (side_S (hK _ _ _ g1) 1) hf
def fE (a b c e : Bool) (nm : List UInt8) (t : Tm) (f : Fm) : Int := fstE [if a then unF f 0 else 0, if b then unF f 1 else 0, if c then clT t else 0, if e then (if isNm nm then 0 else 2) else 0]
end Go.Proofs.YteacpafhmgdbkaaGreatDoor
end

section
namespace Go.Proofs.YteacpafhmgdbkaaGreatDoor
open Go Go.AL Go.RowKit
set_option maxRecDepth 10000
set_option maxHeartbeats 4000000
abbrev ruleQ (th ax : List Fm) (d : Dv) (p : List Int) : Rs := ruleK th ax d.r d.ix d.nm d.t d.f (ccFs th d.ks) p
structure RuleAt (th ax : List Fm) (d : Dv) (p : List Int) (k : Int) (a b c e : Bool) (fn : Nat) : Prop where
  hk : k = kidN d.r
  hf : fieldE d.r d.nm d.t d.f = fE a b c e d.nm d.t d.f
  sp : (d.ks.length : Int) = k → fE a b c e d.nm d.t d.f = 0 → ACallX Tryz.prog fn [.im (plP th ax d p)] [] (RQ (ruleQ th ax d p)) (XQ (ruleQ th ax d p))
theorem zf (x : Int) : (if x = 0 then (0 : Int) else x) = x := by split <;> simp_all
theorem rule_at (th ax : List Fm) (d : Dv) (p : List Int) (K : KH th ax d p) (h1 : 1 ≤ d.r) (h2 : d.r ≤ 18) : ∃ k a b c e fn, (ruleRows.drop (d.r.toNat * 6)).take 6 = ruleRow k a b c e fn ∧ RuleAt th ax d p k a b c e fn := by
  have hr : d.r = 1 ∨ d.r = 2 ∨ d.r = 3 ∨ d.r = 4 ∨ d.r = 5 ∨ d.r = 6 ∨ d.r = 7 ∨ d.r = 8 ∨ d.r = 9 ∨ d.r = 10 ∨ d.r = 11 ∨ d.r = 12 ∨ d.r = 13 ∨ d.r = 14 ∨ d.r = 15 ∨ d.r = 16 ∨ d.r = 17 ∨ d.r = 18 := by omega
  have hz := zf (unF d.f 0)
  have hz1 := zf (unF d.f 1)
  have hz2 := zf (clT d.t)
  have hz3 := zf (if isNm d.nm = true then 0 else 2)
  rcases hr with hr | hr | hr | hr | hr | hr | hr | hr | hr | hr | hr | hr | hr | hr | hr | hr | hr | hr
  · refine ⟨0, false, false, false, false, 193, by rw [hr]; rfl, ⟨by rw [hr]; rfl, by rw [hr]; simp [fieldE, fE, fstE, hz, hz1, hz2, hz3], fun hn hf => ?_⟩⟩
    have e0 : fE false false false false d.nm d.t d.f = fieldE 1 d.nm d.t d.f := by simp [fieldE, fE, fstE, hz, hz1, hz2, hz3]
    rw [e0] at hf
    unfold ruleQ
    rw [hr]
    exact assume_spec th ax d p K
  · refine ⟨0, false, false, false, false, 194, by rw [hr]; rfl, ⟨by rw [hr]; rfl, by rw [hr]; simp [fieldE, fE, fstE, hz, hz1, hz2, hz3], fun hn hf => ?_⟩⟩
    have e0 : fE false false false false d.nm d.t d.f = fieldE 2 d.nm d.t d.f := by simp [fieldE, fE, fstE, hz, hz1, hz2, hz3]
    rw [e0] at hf
    unfold ruleQ
    rw [hr]
    exact axiom_spec th ax d p K
  · refine ⟨1, true, false, false, false, 195, by rw [hr]; rfl, ⟨by rw [hr]; rfl, by rw [hr]; simp [fieldE, fE, fstE, hz, hz1, hz2, hz3], fun hn hf => ?_⟩⟩
    have e0 : fE true false false false d.nm d.t d.f = fieldE 3 d.nm d.t d.f := by simp [fieldE, fE, fstE, hz, hz1, hz2, hz3]
    rw [e0] at hf
    unfold ruleQ
    rw [hr]
    exact impliesIn_spec th ax d p K (by omega) (un_S hf)
  · refine ⟨2, false, false, false, false, 196, by rw [hr]; rfl, ⟨by rw [hr]; rfl, by rw [hr]; simp [fieldE, fE, fstE, hz, hz1, hz2, hz3], fun hn hf => ?_⟩⟩
    have e0 : fE false false false false d.nm d.t d.f = fieldE 4 d.nm d.t d.f := by simp [fieldE, fE, fstE, hz, hz1, hz2, hz3]
    rw [e0] at hf
    unfold ruleQ
    rw [hr]
    exact impliesOut_spec th ax d p K (by omega)
  · refine ⟨2, false, false, false, false, 197, by rw [hr]; rfl, ⟨by rw [hr]; rfl, by rw [hr]; simp [fieldE, fE, fstE, hz, hz1, hz2, hz3], fun hn hf => ?_⟩⟩
    have e0 : fE false false false false d.nm d.t d.f = fieldE 5 d.nm d.t d.f := by simp [fieldE, fE, fstE, hz, hz1, hz2, hz3]
    rw [e0] at hf
    unfold ruleQ
    rw [hr]
    exact andIn_spec th ax d p K (by omega)
  · refine ⟨1, false, false, false, false, 198, by rw [hr]; rfl, ⟨by rw [hr]; rfl, by rw [hr]; simp [fieldE, fE, fstE, hz, hz1, hz2, hz3], fun hn hf => ?_⟩⟩
    have e0 : fE false false false false d.nm d.t d.f = fieldE 6 d.nm d.t d.f := by simp [fieldE, fE, fstE, hz, hz1, hz2, hz3]
    rw [e0] at hf
    unfold ruleQ
    rw [hr]
    exact andFirst_spec th ax d p K (by omega)
  · refine ⟨1, false, false, false, false, 199, by rw [hr]; rfl, ⟨by rw [hr]; rfl, by rw [hr]; simp [fieldE, fE, fstE, hz, hz1, hz2, hz3], fun hn hf => ?_⟩⟩
    have e0 : fE false false false false d.nm d.t d.f = fieldE 7 d.nm d.t d.f := by simp [fieldE, fE, fstE, hz, hz1, hz2, hz3]
    rw [e0] at hf
    unfold ruleQ
    rw [hr]
    exact andSecond_spec th ax d p K (by omega)
  · refine ⟨1, true, false, false, false, 200, by rw [hr]; rfl, ⟨by rw [hr]; rfl, by rw [hr]; simp [fieldE, fE, fstE, hz, hz1, hz2, hz3], fun hn hf => ?_⟩⟩
    have e0 : fE true false false false d.nm d.t d.f = fieldE 8 d.nm d.t d.f := by simp [fieldE, fE, fstE, hz, hz1, hz2, hz3]
    rw [e0] at hf
    unfold ruleQ
    rw [hr]
    exact orFirst_spec th ax d p K (by omega)
  · refine ⟨1, true, false, false, false, 201, by rw [hr]; rfl, ⟨by rw [hr]; rfl, by rw [hr]; simp [fieldE, fE, fstE, hz, hz1, hz2, hz3], fun hn hf => ?_⟩⟩
    have e0 : fE true false false false d.nm d.t d.f = fieldE 9 d.nm d.t d.f := by simp [fieldE, fE, fstE, hz, hz1, hz2, hz3]
    rw [e0] at hf
    unfold ruleQ
    rw [hr]
    exact orSecond_spec th ax d p K (by omega)
  · refine ⟨3, false, false, false, false, 202, by rw [hr]; rfl, ⟨by rw [hr]; rfl, by rw [hr]; simp [fieldE, fE, fstE, hz, hz1, hz2, hz3], fun hn hf => ?_⟩⟩
    have e0 : fE false false false false d.nm d.t d.f = fieldE 10 d.nm d.t d.f := by simp [fieldE, fE, fstE, hz, hz1, hz2, hz3]
    rw [e0] at hf
    unfold ruleQ
    rw [hr]
    exact orOut_spec th ax d p K (by omega)
  · refine ⟨1, true, false, false, false, 203, by rw [hr]; rfl, ⟨by rw [hr]; rfl, by rw [hr]; simp [fieldE, fE, fstE, hz, hz1, hz2, hz3], fun hn hf => ?_⟩⟩
    have e0 : fE true false false false d.nm d.t d.f = fieldE 11 d.nm d.t d.f := by simp [fieldE, fE, fstE, hz, hz1, hz2, hz3]
    rw [e0] at hf
    unfold ruleQ
    rw [hr]
    exact falseOut_spec th ax d p K (by omega)
  · refine ⟨1, true, false, false, false, 204, by rw [hr]; rfl, ⟨by rw [hr]; rfl, by rw [hr]; simp [fieldE, fE, fstE, hz, hz1, hz2, hz3], fun hn hf => ?_⟩⟩
    have e0 : fE true false false false d.nm d.t d.f = fieldE 12 d.nm d.t d.f := by simp [fieldE, fE, fstE, hz, hz1, hz2, hz3]
    rw [e0] at hf
    unfold ruleQ
    rw [hr]
    exact classic_spec th ax d p K (by omega) (un_S hf)
  · refine ⟨1, false, false, false, true, 205, by rw [hr]; rfl, ⟨by rw [hr]; rfl, by rw [hr]; simp [fieldE, fE, fstE, hz, hz1, hz2, hz3], fun hn hf => ?_⟩⟩
    have e0 : fE false false false true d.nm d.t d.f = fieldE 13 d.nm d.t d.f := by simp [fieldE, fE, fstE, hz, hz1, hz2, hz3]
    rw [e0] at hf
    unfold ruleQ
    rw [hr]
    exact allIn_spec th ax d p K (by omega)
  · refine ⟨1, false, false, true, false, 206, by rw [hr]; rfl, ⟨by rw [hr]; rfl, by rw [hr]; simp [fieldE, fE, fstE, hz, hz1, hz2, hz3], fun hn hf => ?_⟩⟩
    have e0 : fE false false true false d.nm d.t d.f = fieldE 14 d.nm d.t d.f := by simp [fieldE, fE, fstE, hz, hz1, hz2, hz3]
    rw [e0] at hf
    unfold ruleQ
    rw [hr]
    exact allOut_spec th ax d p K (by omega) (hf)
  · refine ⟨1, true, false, true, false, 207, by rw [hr]; rfl, ⟨by rw [hr]; rfl, by rw [hr]; simp [fieldE, fE, fstE, hz, hz1, hz2, hz3], fun hn hf => ?_⟩⟩
    have e0 : fE true false true false d.nm d.t d.f = fieldE 15 d.nm d.t d.f := by simp [fieldE, fE, fstE, hz, hz1, hz2, hz3]
    rw [e0] at hf
    unfold ruleQ
    rw [hr]
    have hf : (if unF d.f 0 = 0 then clT d.t else unF d.f 0) = 0 := hf
    have hf1 : unF d.f 0 = 0 := by
      split at hf
      · assumption
      · exact hf
    rw [if_pos hf1] at hf
    exact someIn_spec th ax d p K (by omega) hf1 hf
  · refine ⟨2, false, false, false, true, 208, by rw [hr]; rfl, ⟨by rw [hr]; rfl, by rw [hr]; simp [fieldE, fE, fstE, hz, hz1, hz2, hz3], fun hn hf => ?_⟩⟩
    have e0 : fE false false false true d.nm d.t d.f = fieldE 16 d.nm d.t d.f := by simp [fieldE, fE, fstE, hz, hz1, hz2, hz3]
    rw [e0] at hf
    unfold ruleQ
    rw [hr]
    exact someOut_spec th ax d p K (by omega)
  · refine ⟨0, false, false, true, false, 209, by rw [hr]; rfl, ⟨by rw [hr]; rfl, by rw [hr]; simp [fieldE, fE, fstE, hz, hz1, hz2, hz3], fun hn hf => ?_⟩⟩
    have e0 : fE false false true false d.nm d.t d.f = fieldE 17 d.nm d.t d.f := by simp [fieldE, fE, fstE, hz, hz1, hz2, hz3]
    rw [e0] at hf
    unfold ruleQ
    rw [hr]
    exact reflexive_spec th ax d p _ rfl
  · refine ⟨2, false, true, false, false, 210, by rw [hr]; rfl, ⟨by rw [hr]; rfl, by rw [hr]; simp [fieldE, fE, fstE, hz, hz1, hz2, hz3], fun hn hf => ?_⟩⟩
    have e0 : fE false true false false d.nm d.t d.f = fieldE 18 d.nm d.t d.f := by simp [fieldE, fE, fstE, hz, hz1, hz2, hz3]
    rw [e0] at hf
    unfold ruleQ
    rw [hr]
    exact replace_spec th ax d p K (by omega) (hf)
end Go.Proofs.YteacpafhmgdbkaaGreatDoor
end

section
namespace Go.Proofs.YteacpafhmgdbkaaGreatDoor
open Go Go.AL Go.RowKit
set_option maxRecDepth 10000
set_option maxHeartbeats 4000000
theorem kidN_out {r : Int} (h : ¬ (1 ≤ r ∧ r ≤ 18)) : kidN r = -1 := by
  unfold kidN
  rw [if_neg (by omega), if_neg (by omega), if_neg (by omega), if_neg (by omega)]
abbrev zF : List AV := [Iv 0, Sv [], .im (.v (.slice none 0 0)), .im (.v (.slice none 0 0))]
theorem conc_step (th ax : List Fm) (d : Dv) (p : List Int) (K : KH th ax d p) : ACallX Tryz.prog 59 [.im (plP th ax d p)] [] (RQ (ccF th d ax p)) (XQ (ccF th d ax p)) := by
  rw [ccF_eq, stepK, ccFs_len]
  have hS := dvS_eq.1 K.S
  refine ACallX.walk [0, 2, 3, 4, 48, 60, 72, 84] [2, 3, 4] Tryz.func59 rfl Tryz.ntmps59 (by kernel_rfl) (by rfl) rfl fun W own I0 φ0 lay => ?_
  refine gO ?_
  refine AQ.callHX [] (by kernel_rfl) rfl rfl rfl rfl rfl rfl (by exact trivial) rfl (must_spec _ _ _ p _ _) ?_ ?_
  · rintro r H' ⟨hc, rfl, rfl⟩
    refine ⟨rfl, ?_⟩; refine sH ?_
    refine AEX.out [0] rfl rfl ⟨p, 270, ?_, rfl, rfl⟩
    rw [chk_f]
    rw [kidN_out fun h => hc (.inl (by simpa using h))]
    simp
  rintro r H' ⟨hc, rfl, rfl⟩
  refine ⟨rfl, ?_⟩; refine sH ?_
  have hc : 1 ≤ d.r ∧ d.r ≤ 18 := by simpa using hc.resolve_right (by decide)
  obtain ⟨k, a, b, c, e, fn, hrow, RA⟩ := rule_at th ax d p K hc.1 hc.2
  refine gO ?_
  refine AP.cut (α := Unit) (fun _ => [(0, .im (plP th ax d p)), (2, .ob 0 0), (3, .ob 1 0)]) (fun _ => [(1, .var 195 (ruleRow k a b c e fn)), (0, .var 27 zF)]) (fun _ => True) ?_ fun _ _ => ?_
  · skip
    refine AP.drawE 11 (Tree.node [] [1, 2, 3, 4, 5, 6, 7] [0, 9] [Tree.node [1, 2, 3, 4, 5, 6, 7] [] [8, 9] [Tree.node [] [] [9] [Tree.node [] [] [10] [Tree.node [] [] [] []]], Tree.node [1, 2, 3, 4, 5, 6, 7] [] [8] [Tree.node [] [] [10] [Tree.node [] [] [] []]]], Tree.node [1, 2, 3, 4, 5, 6, 7] [] [0] [Tree.node [1, 2, 3, 4, 5, 6, 7] [] [8] [Tree.node [] [] [10] [Tree.node [] [] [] []]]]]) (by kernel_rfl) rfl (by kernel_rfl) (by kernel_rfl) ?_
    refine vd_node ?_
    refine sI ?_
    repeat' (first | with_reducible exact True.intro | with_reducible refine And.intro (by omega) ?_ | with_reducible refine And.intro ?_ ?_ | (refine AQ.nx rfl ?_; simp only [go_sem, Nat.reduceAdd, Nat.reduceLeDiff, Nat.reduceSub, Int.reduceToNat, reduceCtorEq, ruleRow]) | ((with_reducible show AQ _ _ _ ({ dst := _, op := Op.call { callee := Callee.value (Operand.func 121), args := _, argTypes := _ }, type := _, pos := _, after := _, guard := _ } :: _) _ _ _); refine AQ.fn (by kernel_rfl) rfl rfl rfl (rules_spec) rfl ?_; refine sI ?_) | (refine AQ.indexG (by kernel_rfl) rfl rfl Tryz.tk196 Tryz.tk195 Tryz.sz195 (by omega) hrow ?_; refine sI ?_) | refine AQ.done ?_ | (refine AQ.go (by kernel_rfl) ?_; simp only [go_sem, Nat.reduceAdd, Nat.reduceLeDiff, Nat.reduceSub, Int.reduceToNat, reduceCtorEq, ruleRow]; repeat (with_reducible refine And.intro (by omega) ?_); refine AQ.nx rfl ?_; simp only [go_sem, Nat.reduceAdd, Nat.reduceLeDiff, Nat.reduceSub, Int.reduceToNat, reduceCtorEq, ruleRow]))
    all_goals exact AE.meet () trivial (sU) rfl
  simp only [go_sem, Nat.reduceAdd, Nat.reduceLeDiff, Nat.reduceSub, Int.reduceToNat, reduceCtorEq, ruleRow]
  refine gO ?_
  refine AP.drawE 13 (Tree.node [] [0, 1, 2, 3, 4, 5, 6, 7, 8, 9, 10, 11] [12] [Tree.node [] [] [] []]) (by kernel_rfl) rfl (by kernel_rfl) (by kernel_rfl) ?_
  refine vd_node ?_
  refine sE @dvR_len ?_
  repeat' (first | with_reducible exact True.intro | with_reducible refine And.intro (by omega) ?_ | with_reducible refine And.intro ?_ ?_ | (refine AQ.nx rfl ?_; refine sE @dvR_len ?_) | (refine AQ.callHX [] (by kernel_rfl) rfl rfl rfl rfl rfl rfl (by exact trivial) rfl (must_spec _ _ _ p _ _) ?_ ?_; (rintro r H' ⟨hc, rfl, rfl⟩; refine ⟨rfl, ?_⟩; refine sH ?_; exact AEX.outR [1, 0] rfl rfl rfl ⟨p, 270, by rw [chk_f]; rw [← RA.hk]; exact fun h => hc (.inl (beq_iff_eq.2 (beq_iff_eq.1 h).symm)), rfl, rfl⟩); rintro r H' ⟨hn, rfl, rfl⟩; refine ⟨rfl, ?_⟩; refine sH ?_) | refine AQ.done ?_ | (refine AQ.go (by kernel_rfl) ?_; refine sE @dvR_len ?_; repeat (with_reducible refine And.intro (by omega) ?_); refine AQ.nx rfl ?_; refine sE @dvR_len ?_))
  have hn : (d.ks.length : Int) = k := by simpa using hn.resolve_right (by decide)
  have hg : (kidN d.r == (d.ks.length : Int)) = true := by rw [← RA.hk, hn]; simp
  rw [chk_t hg, RA.hf]
  refine gO ?_
  refine AP.cut (α := Unit) (fun _ => [(0, .im (plP th ax d p)), (2, .ob 0 0), (3, .ob 1 0)]) (fun _ => [(1, .var 195 (ruleRow k a b c e fn)), (0, .var 27 zF)]) (fun _ => (if a then unF d.f 0 else 0) = 0) ?_ fun _ h1 => ?_
  · refine AP.cond rfl rfl (fun h => ?_) (fun h => ?_)
    · refine gO ?_
      refine AQ.fn (by kernel_rfl) rfl rfl rfl (well_at d.f hS.2.2.1) rfl ?_
      refine gO ?_
      refine AQ.callHX [] (by kernel_rfl) rfl rfl rfl rfl rfl rfl (by exact trivial) rfl (fail_spec _ _ _ p _) ?_ ?_
      · rintro r H' ⟨hc, rfl, rfl⟩
        refine ⟨rfl, ?_⟩; refine sH ?_
        refine AEX.out [1, 0] rfl rfl ⟨p, unF d.f 0, ?_, rfl, rfl⟩
        have : fE a b c e d.nm d.t d.f = unF d.f 0 := by rw [fE, fstE, if_pos h, if_neg hc]
        rw [this, chk_f (by simpa using hc)]
      rintro r H' ⟨hc, rfl, rfl⟩
      refine ⟨rfl, ?_⟩; refine sH ?_
      refine gO ?_
      exact AE.meet () (by rw [if_pos h]; exact hc) (sU) rfl
    · refine gO ?_
      exact AE.meet () (by rw [h]; rfl) (sU) rfl
  simp only [go_sem, Nat.reduceAdd, Nat.reduceLeDiff, Nat.reduceSub, Int.reduceToNat, reduceCtorEq, ruleRow]
  refine gO ?_
  refine AP.cut (α := Unit) (fun _ => [(0, .im (plP th ax d p)), (2, .ob 0 0), (3, .ob 1 0)]) (fun _ => [(1, .var 195 (ruleRow k a b c e fn)), (0, .var 27 zF)]) (fun _ => (if b then unF d.f 1 else 0) = 0) ?_ fun _ h2 => ?_
  · refine AP.cond rfl rfl (fun h => ?_) (fun h => ?_)
    · refine gO ?_
      refine AQ.fn (by kernel_rfl) rfl rfl rfl (under_spec d.f 1 hS.2.2.1 (by omega)) rfl ?_
      refine gO ?_
      refine AQ.callHX [] (by kernel_rfl) rfl rfl rfl rfl rfl rfl (by exact trivial) rfl (fail_spec _ _ _ p _) ?_ ?_
      · rintro r H' ⟨hc, rfl, rfl⟩
        refine ⟨rfl, ?_⟩; refine sH ?_
        refine AEX.out [1, 0] rfl rfl ⟨p, unF d.f 1, ?_, rfl, rfl⟩
        have : fE a b c e d.nm d.t d.f = unF d.f 1 := by rw [fE, fstE, if_pos h1, fstE, if_pos h, if_neg hc]
        rw [this, chk_f (by simpa using hc)]
      rintro r H' ⟨hc, rfl, rfl⟩
      refine ⟨rfl, ?_⟩; refine sH ?_
      refine gO ?_
      exact AE.meet () (by rw [if_pos h]; exact hc) (sU) rfl
    · refine gO ?_
      exact AE.meet () (by rw [h]; rfl) (sU) rfl
  simp only [go_sem, Nat.reduceAdd, Nat.reduceLeDiff, Nat.reduceSub, Int.reduceToNat, reduceCtorEq, ruleRow]
  refine gO ?_
  refine AP.cut (α := Unit) (fun _ => [(0, .im (plP th ax d p)), (2, .ob 0 0), (3, .ob 1 0)]) (fun _ => [(1, .var 195 (ruleRow k a b c e fn)), (0, .var 27 zF)]) (fun _ => (if c then clT d.t else 0) = 0) ?_ fun _ h3 => ?_
  · refine AP.cond rfl rfl (fun h => ?_) (fun h => ?_)
    · refine gO ?_
      refine AQ.fn (by kernel_rfl) rfl rfl rfl (closed_spec d.t hS.2.1) rfl ?_
      refine gO ?_
      refine AQ.callHX [] (by kernel_rfl) rfl rfl rfl rfl rfl rfl (by exact trivial) rfl (fail_spec _ _ _ p _) ?_ ?_
      · rintro r H' ⟨hc, rfl, rfl⟩
        refine ⟨rfl, ?_⟩; refine sH ?_
        refine AEX.out [1, 0] rfl rfl ⟨p, clT d.t, ?_, rfl, rfl⟩
        have : fE a b c e d.nm d.t d.f = clT d.t := by rw [fE, fstE, if_pos h1, fstE, if_pos h2, fstE, if_pos h, if_neg hc]
        rw [this, chk_f (by simpa using hc)]
      rintro r H' ⟨hc, rfl, rfl⟩
      refine ⟨rfl, ?_⟩; refine sH ?_
      refine gO ?_
      exact AE.meet () (by rw [if_pos h]; exact hc) (sU) rfl
    · refine gO ?_
      exact AE.meet () (by rw [h]; rfl) (sU) rfl
  simp only [go_sem, Nat.reduceAdd, Nat.reduceLeDiff, Nat.reduceSub, Int.reduceToNat, reduceCtorEq, ruleRow]
  refine gO ?_
  refine AP.cut (α := Unit) (fun _ => [(0, .im (plP th ax d p)), (2, .ob 0 0), (3, .ob 1 0)]) (fun _ => [(1, .var 195 (ruleRow k a b c e fn)), (0, .var 27 zF)]) (fun _ => (if e then (if isNm d.nm then 0 else 2) else (0 : Int)) = 0) ?_ fun _ h4 => ?_
  · refine AP.cond rfl rfl (fun h => ?_) (fun h => ?_)
    · refine gO ?_
      refine AQ.fn (by kernel_rfl) rfl rfl rfl (isName_spec d.nm hS.1.1) rfl ?_
      refine gO ?_
      refine AQ.callHX [] (by kernel_rfl) rfl rfl rfl rfl rfl rfl (by exact trivial) rfl (must_spec _ _ _ p _ _) ?_ ?_
      · rintro r H' ⟨hc, rfl, rfl⟩
        refine ⟨rfl, ?_⟩; refine sH ?_
        refine AEX.out [1, 0] rfl rfl ⟨p, 2, ?_, rfl, rfl⟩
        have hq : ¬ isNm d.nm = true := fun h => hc (.inl h)
        have : fE a b c e d.nm d.t d.f = 2 := by rw [fE, fstE, if_pos h1, fstE, if_pos h2, fstE, if_pos h3, fstE, if_pos h, if_neg hq]; rfl
        rw [this]; rfl
      rintro r H' ⟨hc, rfl, rfl⟩
      refine ⟨rfl, ?_⟩; refine sH ?_
      refine gO ?_
      have hq : isNm d.nm = true := hc.resolve_right (by decide)
      exact AE.meet () (by rw [if_pos h, if_pos hq]) (sU) rfl
    · refine gO ?_
      exact AE.meet () (by rw [h]; rfl) (sU) rfl
  have hfe : fE a b c e d.nm d.t d.f = 0 := by rw [fE, fstE, if_pos h1, fstE, if_pos h2, fstE, if_pos h3, fstE, if_pos h4, fstE]
  have hsp := RA.sp hn hfe
  unfold ruleQ at hsp
  rw [hfe, chk_t (show ((0 : Int) == 0) = true from rfl)]
  simp only [go_sem, Nat.reduceAdd, Nat.reduceLeDiff, Nat.reduceSub, Int.reduceToNat, reduceCtorEq, ruleRow]
  refine gO ?_
  refine AQ.callHX [] (by kernel_rfl) rfl rfl rfl rfl rfl rfl (by exact trivial) rfl (hsp) ?_ ?_
  · rintro r H' ⟨p', e', hq, rfl, rfl⟩
    refine ⟨rfl, ?_⟩; refine sH ?_
    exact AEX.out [1, 0] rfl rfl ⟨p', e', by rw [hq]; rfl, rfl, rfl⟩
  rintro r H' ⟨g, hq, rfl, rfl⟩
  refine ⟨rfl, ?_⟩; refine sH ?_
  have hgS : fmS g := ruleK_S K.tS K.aS hS.2.1 hS.2.2.1 (fun i fu g h => un_S (kidK_ok h)) hq
  refine AQ.go (by kernel_rfl) ?_
  refine gO ?_
  refine AQ.fn (by kernel_rfl) rfl rfl rfl (well_at g hgS) rfl ?_
  refine gO ?_
  refine AQ.callHX [] (by kernel_rfl) rfl rfl rfl rfl rfl rfl (by exact trivial) rfl (must_spec _ _ _ p _ _) ?_ ?_
  · rintro r H' ⟨hc, rfl, rfl⟩
    refine ⟨rfl, ?_⟩; refine sH ?_
    exact AEX.out [2, 1, 0] rfl rfl ⟨p, 15, by rw [hq, Rs.bind, chk_f (fun h => hc (.inl h))], rfl, rfl⟩
  rintro r H' ⟨hc, rfl, rfl⟩
  refine ⟨rfl, ?_⟩; refine sH ?_
  have hc : (unF g 0 == 0) = true := hc.resolve_right (by decide)
  refine gO ?_
  exact AE.retD [2, 1, 0] rfl ⟨⟨rfl, Nat.le_of_ble_eq_true (by kernel_rfl)⟩, trivial⟩ rfl ⟨g, by rw [hq, Rs.bind, chk_t hc], rfl, rfl⟩
end Go.Proofs.YteacpafhmgdbkaaGreatDoor
end

section
namespace Go.Proofs.YteacpafhmgdbkaaGreatDoor
open Go Go.AL Go.RowKit
set_option maxRecDepth 10000
set_option maxHeartbeats 4000000
mutual
def szD : Dv → Nat
  | .mk _ _ _ _ _ ks => 1 + szDs ks
def szDs : List Dv → Nat
  | [] => 0
  | d :: l => szD d + szDs l
end
theorem szD_eq (d : Dv) : szD d = 1 + szDs d.ks := by cases d; rw [szD]; rfl
theorem szDs_get : ∀ {l : List Dv} {k : Nat} {t : Dv}, l[k]? = some t → szD t ≤ szDs l
  | [], k, t, h => by simp at h
  | u :: l, 0, t, h => by simp at h; subst h; rw [szDs]; omega
  | u :: l, k + 1, t, h => by simp at h; have := szDs_get h; rw [szDs]; omega
theorem conc_spec (th ax : List Fm) (d : Dv) (p : List Int) (hS : dvS d) (hth : fmsS th) (hax : fmsS ax) (h1 : th.length ≤ 1000000) (h2 : ax.length + szD d ≤ 1000000) (h3 : p.length + szD d ≤ 1000000) :
    ACallX Tryz.prog 59 [.im (plP th ax d p)] [] (RQ (ccF th d ax p)) (XQ (ccF th d ax p)) := by
  have hS0 := dvS_eq.1 hS
  have hz := szD_eq d
  refine conc_step th ax d p ⟨hS, hth, hax, h1, by omega, fun i j hj hi hl => ?_, fun i j fu hj hi hl hfu hfS => ?_⟩
  · subst hj
    have hk := List.getElem?_eq_getElem hi
    have hsz := szDs_get hk
    rw [kidK_get hk]
    have ih := conc_spec th (ax ++ []) d.ks[i] (p ++ [(i : Int)]) (dvsS_get hS0.2.2.2.2 hk) hth (by rw [List.append_nil]; exact hax) h1 (by rw [List.append_nil]; omega) (by rw [List.length_append, List.length_singleton]; omega)
    exact kid0_spec th ax p d d.ks[i] i _ hk hl (by omega) (by omega) ih
  · subst hj
    have hk := List.getElem?_eq_getElem hi
    have hsz := szDs_get hk
    rw [kidK_get hk]
    have ih := conc_spec th (ax ++ fu) d.ks[i] (p ++ [(i : Int)]) (dvsS_get hS0.2.2.2.2 hk) hth (fmsS_append hax hfS) h1 (by rw [List.length_append]; omega) (by rw [List.length_append, List.length_singleton]; omega)
    exact kid_spec th ax fu p d d.ks[i] i _ hk hl (by omega) (by omega) (by omega) ih
termination_by SizeOf.sizeOf d
decreasing_by all_goals exact dv_mem hk
end Go.Proofs.YteacpafhmgdbkaaGreatDoor
end

section
namespace Go.Proofs.YteacpafhmgdbkaaGreatDoor
open Go Go.AL Go.RowKit
set_option maxRecDepth 10000
set_option maxHeartbeats 4000000
mutual
def bgD : Dv → Int → Int → Bool × Int
  | .mk _ _ _ _ _ ks, d, n => if 8000 < n + 1 ∨ 1000 < d then (true, n + 1) else bgDs ks (d + 1) (n + 1)
def bgDs : List Dv → Int → Int → Bool × Int
  | [], _, n => (false, n)
  | t :: l, d, n => if (bgD t d n).1 = true then (true, (bgD t d n).2) else bgDs l d (bgD t d n).2
end
theorem bgD_eq (t : Dv) (d n : Int) : bgD t d n = if 8000 < n + 1 ∨ 1000 < d then (true, n + 1) else bgDs t.ks (d + 1) (n + 1) := by cases t; rw [bgD]; rfl
theorem bgDs_drop (l : List Dv) (k : Nat) (t : Dv) (d n : Int) (h : l[k]? = some t) : bgDs (l.drop k) d n = if (bgD t d n).1 = true then (true, (bgD t d n).2) else bgDs (l.drop (k + 1)) d (bgD t d n).2 := by
  obtain ⟨h1, e1⟩ := List.getElem?_eq_some_iff.1 h
  rw [List.drop_eq_getElem_cons h1, e1, bgDs]
mutual
theorem bgD_bnd : ∀ (t : Dv) (d n : Int), n ≤ 8000 → (bgD t d n).1 = false → n ≤ (bgD t d n).2 ∧ (bgD t d n).2 ≤ 8000
  | .mk _ _ _ _ _ ks, d, n, hn, h => by
    rw [bgD] at h ⊢
    split at h
    · cases h
    · rename_i hc
      rw [if_neg hc]
      have := bgDs_bnd ks (d + 1) (n + 1) (by omega) h
      omega
theorem bgDs_bnd : ∀ (l : List Dv) (d n : Int), n ≤ 8000 → (bgDs l d n).1 = false → n ≤ (bgDs l d n).2 ∧ (bgDs l d n).2 ≤ 8000
  | [], d, n, hn, h => by rw [bgDs]; simp only; omega
  | t :: l, d, n, hn, h => by
    rw [bgDs] at h ⊢
    split at h
    · cases h
    · rename_i hc
      rw [if_neg hc]
      have h1 := bgD_bnd t d n hn (by simpa using hc)
      have h2 := bgDs_bnd l d _ h1.2 h
      omega
end
abbrev lgH (n : Int) : Heap := [(1, .var 189 [.fn 117 [] [.ob 0 0, .ob 1 0]]), (0, .var 3 [Iv n])]
theorem large1_spec (t : Dv) (d n : Int) (hs : dvS t) (hn : 0 ≤ n ∧ n ≤ 8000) (hd : 0 ≤ d ∧ d ≤ 2000) : ACall Tryz.prog 117 [.im (dvP t), Iv d, .ob 0 0, .ob 1 0] (lgH n) (fun r H' => r = Bv (bgD t d n).1 ∧ H' = lgH (bgD t d n).2) := by
  have hs0 := dvS_eq.1 hs
  have hw := wr (x := n + 1) (by omega)
  have hwd := wr (x := d + 1) (by omega)
  have he := bgD_eq t d n
  refine ACall.walk [0, 1, 2, 3, 6, 7, 15, 20, 21, 22, 33] [] Tryz.func117 rfl Tryz.ntmps117 (by kernel_rfl) (by rfl) rfl fun W own I0 φ0 lay => ?_
  refine gE (an @hw @dvR_len) ?_
  refine AP.cond rfl rfl (fun h => ?_) (fun h => ?_)
  · rw [if_pos (by simpa using h)] at he
    refine gO ?_
    exact AE.ret rfl ⟨rfl, trivial⟩ ⟨by rw [he]; rfl, by rw [he]; rfl⟩
  · rw [if_neg (by simpa using h)] at he
    have h : ¬ (8000 < n + 1 ∨ 1000 < d) := by simpa using h
    refine gE @dvR_len ?_
    refine AP.loop rfl (α := Nat × Int) (fun q => [(0, .im (dvP t)), (1, Iv d), (2, .ob 0 0), (3, .ob 1 0), (20, Iv t.ks.length), (21, Iv q.1)]) (fun q => lgH q.2) (fun q => q.1 ≤ t.ks.length ∧ (0 ≤ q.2 ∧ q.2 ≤ 8000) ∧ bgD t d n = bgDs (t.ks.drop q.1) (d + 1) q.2) (fun q => t.ks.length - q.1) (0, n + 1) ⟨by omega, by simp only; omega, he⟩ (sU) rfl fun q ⟨hk, hp, hm⟩ => ?_
    obtain ⟨k, m⟩ := q
    simp only at hk hp hm ⊢
    refine sE @lgH.eq_1 ?_
    rcases Nat.eq_or_lt_of_le hk with hke | hlt
    · rw [hke, List.drop_length, bgDs] at hm
      refine gO ?_
      refine cF ?_
      refine gO ?_
      exact AE.ret rfl ⟨rfl, trivial⟩ ⟨by rw [hm]; rfl, by rw [hm]; try rfl⟩
    · obtain ⟨u, hu, hrow⟩ := dvR_get t.ks k hlt
      rw [bgDs_drop t.ks k u (d + 1) m hu] at hm
      have hwk := wr (x := (k : Int) + 1) (by omega)
      refine gO ?_
      refine cT ?_
      refine gO ?_
      refine AP.drawE 10 (Tree.node [] [0, 1, 2, 3, 4, 5, 6, 7, 8] [9] [Tree.node [] [] [] []]) (by kernel_rfl) rfl (by kernel_rfl) (by kernel_rfl) ?_
      refine vd_node ?_
      refine sE (an @hrow (an @hwd @dvR_len)) ?_
      refine ⟨by omega, ?_⟩
      refine AQ.callH [(1, 1), (0, 0)] (by kernel_rfl) rfl rfl rfl rfl rfl rfl (by exact ⟨rfl, rfl, trivial⟩) rfl (large1_spec u (d + 1) m (dvsS_get hs0.2.2.2.2 hu) (by omega) (by omega)) ?_
      rintro r H' ⟨rfl, rfl⟩
      refine ⟨rfl, ?_⟩
      refine sG @lgH.eq_1 ?_
      refine AQ.nx rfl ?_
      refine sI ?_
      refine AQ.done ?_
      refine gO ?_
      refine AP.cond rfl rfl (fun h2 => ?_) (fun h2 => ?_)
      · rw [if_pos h2] at hm
        refine gO ?_
        exact AE.ret rfl ⟨rfl, trivial⟩ ⟨by rw [hm]; rfl, by rw [hm]; try rfl⟩
      · have h2 : ¬ (bgD u (d + 1) m).1 = true := by simpa using h2
        rw [if_neg h2] at hm
        have hb := bgD_bnd u (d + 1) m hp.2 (by simpa using h2)
        refine gE @hwk ?_
        exact AE.round (k + 1, (bgD u (d + 1) m).2) ⟨by simp only; omega, by simp only; omega, hm⟩ (by simp only; omega) (sU) rfl
termination_by SizeOf.sizeOf t
decreasing_by exact dv_mem hu
theorem large_spec (t : Dv) (hs : dvS t) : PFn Tryz.prog 55 [.im (dvP t)] (Bv (bgD t 1 0).1) := by
  refine ACall.walk [0, 2, 3, 4] [3, 4] Tryz.func55 rfl Tryz.ntmps55 (by kernel_rfl) (by rfl) rfl fun W own I0 φ0 lay => ?_
  refine gO ?_
  refine AQ.callH [(1, 1), (0, 0)] (by kernel_rfl) rfl rfl rfl rfl rfl rfl (by exact ⟨rfl, rfl, trivial⟩) rfl (large1_spec t 1 0 hs (by omega) (by omega)) ?_
  rintro r H' ⟨rfl, rfl⟩
  refine ⟨rfl, ?_⟩
  refine sG @lgH.eq_1 ?_
  refine gO ?_
  exact AE.retD [1, 0] rfl ⟨rfl, trivial⟩ rfl ⟨rfl, rfl⟩
end Go.Proofs.YteacpafhmgdbkaaGreatDoor
end

section
namespace Go.Proofs.YteacpafhmgdbkaaGreatDoor
open Go Go.AL Go.RowKit
set_option maxRecDepth 10000
set_option maxHeartbeats 4000000
theorem cloneI_spec (p : List Int) (hl : p.length ≤ 1000000) : PFn Tryz.prog 57 [.im (.sl 1 (rowsI .i64 p))] (.im (.sl 1 (rowsI .i64 p))) := by
  rcases p with _ | ⟨q, l⟩
  · refine ACall.walk [0, 2, 4] [] Tryz.func57 rfl Tryz.ntmps57 (by kernel_rfl) (by rfl) rfl fun W own I0 φ0 lay => ?_
    refine xPP rfl ?_
    refine AP.region rfl (by kernel_rfl) ?_; refine sI ?_
    refine AQ.done ?_
    refine xEP rfl ?_
    refine AP.regionN 1 rfl (by kernel_rfl) ?_; refine sI ?_
    refine AQ.isnil (by kernel_rfl) rfl Tryz.tk33 fun b => ?_
    refine sI ?_
    refine gO ?_
    refine AP.cond rfl rfl (fun hb => ?_) (fun hb => ?_)
    · refine gO ?_
      refine AE.own 2 3 1 rfl ?_
      refine sI ?_
      refine AE.freeze 0 (el := 3) (es := 1) (rows := []) rfl (by simp [go_sem]) (by simp [go_sem]) ?_
      refine sI ?_
      exact AE.ret0 rfl ⟨rfl, trivial⟩ rfl ⟨rfl, rfl⟩
    · refine gO ?_
      refine AQ.append (hnb := rfl) (rows := []) (es := 0) (by kernel_rfl) rfl rfl rfl (by rfl) Tryz.tk33 Tryz.sz3 (by show Option.map _ (zro Tryz.prog 3) = _; rw [Tryz.zr3]; rfl) Tryz.by3 rfl (by simp only [rowsI_len, List.length_nil]; omega) (by simp only [rowsI_len, List.length_nil]; omega) ?_
      refine gE (an @List.nil_append.{0} (an @List.length_nil.{0} @rowsI_len)) ?_
      refine AE.freeze 0 (el := 3) (es := 1) (rows := []) rfl (by simp [go_sem]) (by simp [go_sem]) ?_
      refine sI ?_
      exact AE.ret0 rfl ⟨rfl, trivial⟩ rfl ⟨rfl, rfl⟩
  · have hne : rowsI .i64 (q :: l) ≠ [] := by simp [rowsI]
    have hlen : (q :: l).length = (rowsI .i64 (q :: l)).length := (rowsI_len _ _).symm
    generalize hr : rowsI .i64 (q :: l) = rows at *
    rw [hlen] at hl
    refine ACall.walk [0, 2, 4] [] Tryz.func57 rfl Tryz.ntmps57 (by kernel_rfl) (by rfl) rfl fun W own I0 φ0 lay => ?_
    repeat (first | refine xA ?_ | refine xB ?_ | refine xC ?_ | refine xE ?_ | refine xD ?_ | refine xK ?_ | refine xS ?_ | refine xM ?_ | refine xT ?_ | refine xF ?_ | ((first | refine xR ?_ | refine xW ?_ | refine vq_id ?_); simp only [go_sem, Nat.reduceAdd, Nat.reduceLeDiff, Nat.reduceSub, Int.reduceToNat, reduceCtorEq]))
    refine ⟨hne, ?_⟩
    refine gO ?_
    refine AQ.append (hnb := rfl) (rows := []) (es := 0) (by kernel_rfl) rfl rfl rfl (by rfl) Tryz.tk33 Tryz.sz3 (by show Option.map _ (zro Tryz.prog 3) = _; rw [Tryz.zr3]; rfl) Tryz.by3 rfl (by simp only [List.length_nil]; omega) (by simp only [List.length_nil]; omega) ?_
    refine gE (an @List.nil_append.{0} @List.length_nil.{0}) ?_
    refine AE.freeze 0 (el := 3) (es := 1) (rows := rows) rfl (by simp [go_sem]) (by simp [go_sem]) ?_
    refine sI ?_
    refine AE.ret0 rfl ⟨rfl, trivial⟩ rfl ⟨rfl, ?_⟩
    simp only [tupOf, AV.st, List.drop_zero]
    rw [List.take_of_length_le (by omega)]
end Go.Proofs.YteacpafhmgdbkaaGreatDoor
end

section
namespace Go.Proofs.YteacpafhmgdbkaaGreatDoor
open Go Go.AL Go.RowKit
set_option maxRecDepth 10000
set_option maxHeartbeats 4000000
def shortP (m : Nat) : Rs → Prop
  | .ok _ => True
  | .bad p _ => p.length ≤ m
theorem shortP.chk {m : Nat} {b : Bool} {p : List Int} {e : Int} {r : Rs} (hp : p.length ≤ m) (hr : shortP m r) : shortP m (chk b p e r) := by
  cases b
  · exact hp
  · exact hr
theorem shortP.bind {m : Nat} {r : Rs} {k : Fm → Rs} (hr : shortP m r) (hk : ∀ g, shortP m (k g)) : shortP m (r.bind k) := by
  cases r
  · exact hk _
  · exact hr
theorem ruleK_short {th ax : List Fm} {r ix : Int} {nm : List UInt8} {t : Tm} {f : Fm} {K : List KF} {p : List Int} {m : Nat} (hp : p.length ≤ m) (hK : ∀ i fu, shortP m (kidK K ax p i fu)) : shortP m (ruleK th ax r ix nm t f K p) := by
  unfold ruleK
  by_cases h1 : r = 1
  · rw [if_pos h1]; exact shortP.chk hp (trivial)
  rw [if_neg h1]
  by_cases h2 : r = 2
  · rw [if_pos h2]; exact shortP.chk hp (trivial)
  rw [if_neg h2]
  by_cases h3 : r = 3
  · rw [if_pos h3]; exact (hK _ _).bind fun _ => trivial
  rw [if_neg h3]
  by_cases h4 : r = 4
  · rw [if_pos h4]; exact (hK _ _).bind fun _ => (hK _ _).bind fun _ => shortP.chk hp (trivial)
  rw [if_neg h4]
  by_cases h5 : r = 5
  · rw [if_pos h5]; exact (hK _ _).bind fun _ => (hK _ _).bind fun _ => trivial
  rw [if_neg h5]
  by_cases h6 : r = 6
  · rw [if_pos h6]; exact (hK _ _).bind fun _ => shortP.chk hp (trivial)
  rw [if_neg h6]
  by_cases h7 : r = 7
  · rw [if_pos h7]; exact (hK _ _).bind fun _ => shortP.chk hp (trivial)
  rw [if_neg h7]
  by_cases h8 : r = 8
  · rw [if_pos h8]; exact (hK _ _).bind fun _ => trivial
  rw [if_neg h8]
  by_cases h9 : r = 9
  · rw [if_pos h9]; exact (hK _ _).bind fun _ => trivial
  rw [if_neg h9]
  by_cases h10 : r = 10
  · rw [if_pos h10]; exact (hK _ _).bind fun _ => shortP.chk hp ((hK _ _).bind fun _ => (hK _ _).bind fun _ => shortP.chk hp (trivial))
  rw [if_neg h10]
  by_cases h11 : r = 11
  · rw [if_pos h11]; exact (hK _ _).bind fun _ => shortP.chk hp (trivial)
  rw [if_neg h11]
  by_cases h12 : r = 12
  · rw [if_pos h12]; exact (hK _ _).bind fun _ => shortP.chk hp (trivial)
  rw [if_neg h12]
  by_cases h13 : r = 13
  · rw [if_pos h13]; exact (hK _ _).bind fun _ => shortP.chk hp (trivial)
  rw [if_neg h13]
  by_cases h14 : r = 14
  · rw [if_pos h14]; exact (hK _ _).bind fun _ => shortP.chk hp (trivial)
  rw [if_neg h14]
  by_cases h15 : r = 15
  · rw [if_pos h15]; exact (hK _ _).bind fun _ => shortP.chk hp (trivial)
  rw [if_neg h15]
  by_cases h16 : r = 16
  · rw [if_pos h16]; exact (hK _ _).bind fun _ => shortP.chk hp (shortP.chk hp ((hK _ _).bind fun _ => shortP.chk hp (trivial)))
  rw [if_neg h16]
  by_cases h17 : r = 17
  · rw [if_pos h17]; exact trivial
  rw [if_neg h17]
  exact (hK _ _).bind fun _ => (hK _ _).bind fun _ => shortP.chk hp (trivial)
theorem ccF_short (th ax : List Fm) (d : Dv) (p : List Int) (m : Nat) (h : p.length + szD d ≤ m) : shortP m (ccF th d ax p) := by
  rw [ccF_eq, stepK]
  have hz := szD_eq d
  refine shortP.chk (by omega) (shortP.chk (by omega) (shortP.bind (ruleK_short (by omega) fun i fu => ?_) fun g => shortP.chk (by omega) trivial))
  by_cases hi : i < d.ks.length
  · have hk := List.getElem?_eq_getElem hi
    have hsz := szDs_get hk
    rw [kidK_get hk]
    exact ccF_short th (ax ++ fu) d.ks[i] (p ++ [(i : Int)]) m (by rw [List.length_append, List.length_singleton]; omega)
  · rw [kidK, List.getD_eq_getElem?_getD, List.getElem?_eq_none (by rw [ccFs_len]; omega)]
    exact Nat.zero_le _
termination_by SizeOf.sizeOf d
decreasing_by exact dv_mem hk
end Go.Proofs.YteacpafhmgdbkaaGreatDoor
end

section
namespace Go.Proofs.YteacpafhmgdbkaaGreatDoor
open Go Go.AL Go.RowKit
set_option maxRecDepth 10000
set_option maxHeartbeats 4000000
abbrev fF : List AV := [Iv 0, Sv [], .im (.sl 3 []), .im (.sl 4 [])]
abbrev ckH (a b : List AV) (e : Int) : Heap := [(2, .var 34 [Iv e]), (1, .var 33 b), (0, .var 27 a)]
theorem check1_none (a b : List AV) (e : Int) : ADef Tryz.prog 56 [.ob 0 0, .ob 1 0, .ob 2 0] (ckH a b e) none (fun H' => H' = ckH a b e) := by
  refine ADef.walk [0, 1, 2, 3, 4, 5, 8, 15] [4] Tryz.func56 rfl Tryz.ntmps56 ⟨rfl, rfl, rfl⟩ ⟨rfl, rfl, rfl⟩ rfl (by kernel_rfl) (by rfl) rfl fun W own I0 φ0 lay => ?_
  simp only [go_sem, Nat.reduceAdd, Nat.reduceLeDiff, Nat.reduceSub, Int.reduceToNat, reduceCtorEq, recAV]
  refine gO ?_
  exact AE.retQ [] (.inr rfl) rfl rfl trivial rfl rfl
theorem check1_some (p : List Int) (e e0 : Int) (hp : p.length ≤ 1000000) : ADef Tryz.prog 56 [.ob 0 0, .ob 1 0, .ob 2 0] (ckH zF [nilV] e0) (some (fault p e)) (fun H' => H' = ckH fF [.im (.sl 1 (rowsI .i64 p))] e) := by
  refine ADef.walk [0, 1, 2, 3, 4, 5, 8, 15] [4] Tryz.func56 rfl Tryz.ntmps56 ⟨rfl, rfl, rfl⟩ ⟨rfl, rfl, rfl⟩ rfl (by kernel_rfl) (by rfl) rfl fun W own I0 φ0 lay => ?_
  simp only [go_sem, Nat.reduceAdd, Nat.reduceLeDiff, Nat.reduceSub, Int.reduceToNat, reduceCtorEq, recAV]
  refine gO ?_
  refine AQ.assertYes (by kernel_rfl) rfl rfl ?_; refine sI ?_
  refine gO ?_
  refine AP.drawE 9 (Tree.node [] [0, 1, 2, 4, 5] [3] [Tree.node [0, 4, 5] [] [6] [Tree.node [4, 5] [] [7] [Tree.node [4, 5] [] [8] [Tree.node [] [] [] []]]]]) (by kernel_rfl) rfl (by kernel_rfl) (by kernel_rfl) ?_
  refine vd_node ?_
  refine sE @ckH.eq_1 ?_
  repeat' (first | with_reducible exact True.intro | with_reducible refine And.intro (by omega) ?_ | with_reducible refine And.intro ?_ ?_ | (refine AQ.nx rfl ?_; refine sI ?_) | (refine AQ.fn (by kernel_rfl) rfl rfl rfl (cloneI_spec p hp) rfl ?_; refine sI ?_) | refine AQ.done ?_ | (refine AQ.go (by kernel_rfl) ?_; refine sI ?_; repeat (with_reducible refine And.intro (by omega) ?_); refine AQ.nx rfl ?_; refine sI ?_))
  all_goals
    refine gO ?_
    refine AE.cellsW 0 fF rfl (cellsLe.cons (cellsLe.cons (cellsLe.nil (cellsLe.nil (cellsLe.refl _))))) ?_
    refine sI ?_
    exact AE.retQ [3] (.inr rfl) rfl rfl trivial rfl rfl
theorem mapT_id : ∀ t : Tm, mapT leafC t = t := by
  intro t
  refine Tm.rec (motive_1 := fun t => mapT leafC t = t) (motive_2 := fun l => l.map (mapT leafC) = l) (fun n i xs ih => ?_) rfl (fun t l h1 h2 => by rw [List.map_cons, h1, h2]) t
  by_cases hx : xs.length = 0
  · rw [mapT_leaf leafC (.mk n i xs) hx]
    rw [List.eq_nil_of_length_eq_zero hx]; rfl
  · rw [mapT_node leafC (.mk n i xs) hx]
    simp only [Tm.nm, Tm.ix, Tm.xs]
    rw [ih]
mutual
theorem clone_id' : ∀ (f : Fm) (d : Int), mapF (fun u _ => leafC u) f d = f
  | .mk k n ts ps, d => by
    rw [mapF, clone_ids ps]
    congr 1
    conv => rhs; rw [← List.map_id ts]
    apply List.map_congr_left
    intro t _
    exact mapT_id t
theorem clone_ids : ∀ (l : List Fm) (d : Int), mapFs (fun u _ => leafC u) l d = l
  | [], d => by rw [mapFs]
  | f :: l, d => by rw [mapFs, clone_id' f d, clone_ids l d]
end
theorem clone_id (f : Fm) : mapF (fun u _ => leafC u) f 0 = f := clone_id' f 0
def wellFs : List Fm → Int
  | [] => 0
  | f :: l => if unF f 0 = 0 then wellFs l else unF f 0
theorem wellFs_drop (l : List Fm) (k : Nat) (t : Fm) (h : l[k]? = some t) : wellFs (l.drop k) = if unF t 0 = 0 then wellFs (l.drop (k + 1)) else unF t 0 := by
  obtain ⟨h1, e1⟩ := List.getElem?_eq_some_iff.1 h
  rw [List.drop_eq_getElem_cons h1, e1, wellFs]
def ckC (th ax : List Fm) (d : Dv) : Rs := if wellFs (th ++ ax) = 0 then (if (bgD d 1 0).1 = true then .bad [] 4 else ccF th d ax []) else .bad [] (wellFs (th ++ ax))
def rsV : Rs → AV
  | .ok f => .tup [fmV f, .im (.sl 1 []), Iv 0]
  | .bad p e => .tup [fmV fm0, .im (.sl 1 (rowsI .i64 p)), Iv e]
theorem conc0_spec (th ax : List Fm) (d : Dv) (hS : dvS d) (hth : fmsS th) (hax : fmsS ax) (h1 : th.length ≤ 1000000) (h2 : ax.length + szD d ≤ 1000000) (h3 : szD d ≤ 1000000) :
    ACallX Tryz.prog 59 [.im (.pt [.sl 4 (fmR th), .sl 4 (fmR ax), dvP d, .v (.slice none 0 0)])] [] (RQ (ccF th d ax [])) (XQ (ccF th d ax [])) := by
  refine ACallX.argW (conc_spec th ax d [] hS hth hax h1 h2 (by simp; omega)) fun w φ I vs hd => ?_
  simp only [AV.dens, AV.den] at hd ⊢
  obtain ⟨u, us, e, h, e2⟩ := hd
  refine ⟨u, us, e, ?_, e2⟩
  simp only [IV.den, IV.dens] at h ⊢
  obtain ⟨g, off, us, hu, hg, ⟨a1, b1, e1, d1, a2, b2, e2, d2, a3, b3, e3, d3, a4, b4, e4, d4, e5⟩, hc⟩ := h
  refine ⟨g, off, us, hu, hg, ⟨a1, b1, e1, d1, a2, b2, e2, d2, a3, b3, e3, d3, a4, b4, e4, ?_, e5⟩, hc⟩
  refine ⟨none, 0, [], d4.1, by simp [rowsI], by simp [rowsI, IV.denss], by simp, fun h => absurd (by simp [rowsI]) h⟩
theorem check_walk (th ax : List Fm) (d : Dv) (hS : dvS d) (hth : fmsS th) (hax : fmsS ax) (h1 : th.length ≤ 100000) (h2 : ax.length ≤ 100000) (h3 : (bgD d 1 0).1 = false → szD d ≤ 100000) :
    ACallX Tryz.prog 13 [.im (.sl 4 (fmR th)), .im (.sl 4 (fmR ax)), dvV d] [] (fun r H' => r = rsV (ckC th ax d) ∧ H' = []) (fun _ _ => False) := by
  have hcc := concat_spec [th, ax] (by simp) (by simp; omega)
  have hfl : [th, ax].flatten = th ++ ax := by simp
  rw [hfl] at hcc
  have hln : (th ++ ax).length ≤ 1000000000 := by rw [List.length_append]; omega
  have hsl := fmsS_append hth hax
  have he : ckC th ax d = if wellFs (th ++ ax) = 0 then (if (bgD d 1 0).1 = true then .bad [] 4 else ccF th d ax []) else .bad [] (wellFs (th ++ ax)) := rfl
  generalize th ++ ax = l at *
  refine ACallX.walkD [0, 1, 2, 5, 6, 7, 8, 10, 11, 15, 16, 17, 18, 24, 28, 30] [6, 7, 8, 10] Tryz.func13 rfl Tryz.ntmps13 (by kernel_rfl) (by rfl) rfl fun W own I0 φ0 lay => ?_
  refine gO ?_
  refine AQ.fn (by kernel_rfl) rfl rfl rfl (hcc) rfl ?_
  refine gE @fmR_len ?_
  refine AP.loop rfl (α := Nat) (fun k => [(0, .im (.sl 4 (fmR th))), (1, .im (.sl 4 (fmR ax))), (5, .im (dvP d)), (6, .ob 0 0), (7, .ob 1 0), (8, .ob 2 0), (15, .im (.sl 4 (fmR l))), (16, Iv l.length), (17, Iv k)]) (fun _ => ckH zF [nilV] 0) (fun k => k ≤ l.length ∧ wellFs l = wellFs (l.drop k)) (fun k => l.length - k) 0 ⟨by omega, rfl⟩ (sU) rfl fun k ⟨hk, hm⟩ => ?_
  refine sE @ckH.eq_1 ?_
  rcases Nat.eq_or_lt_of_le hk with hke | hlt
  · rw [hke, List.drop_length, wellFs] at hm
    rw [if_pos hm] at he
    refine gO ?_
    refine cF ?_
    refine gO ?_
    refine AQ.fn (by kernel_rfl) rfl rfl rfl (large_spec d hS) rfl ?_
    refine gO ?_
    refine AP.cond rfl rfl (fun h4 => ?_) (fun h4 => ?_)
    · rw [if_pos h4] at he
      refine gO ?_
      refine AE.cellsW 0 [Iv 0, Sv [], .im (.sl 3 []), .im (.sl 4 [])] rfl (cellsLe.cons (cellsLe.cons (cellsLe.nil (cellsLe.nil (cellsLe.refl _))))) ?_
      refine sI ?_
      refine AE.cellsW 1 [.im (.sl 1 [])] rfl (cellsLe.nil (cellsLe.refl _)) ?_
      refine sI ?_
      exact AE.leaveN (.inl rfl) rfl <| LV.retD [2, 1, 0] rfl ⟨⟨rfl, Nat.le_of_ble_eq_true (by kernel_rfl)⟩, ⟨rfl, Nat.le_of_ble_eq_true (by kernel_rfl)⟩, ⟨rfl, Nat.le_of_ble_eq_true (by kernel_rfl)⟩, trivial⟩ rfl ⟨by rw [he]; rfl, rfl⟩
    · have h4 : (bgD d 1 0).1 = false := by simpa using h4
      rw [if_neg (by simp [h4])] at he
      have hcs := conc0_spec th ax d hS hth hax (by omega) (by have := h3 h4; omega) (by have := h3 h4; omega)
      refine sI ?_
      refine xA ?_
      refine AP.regionD rfl rfl ?_
      refine AQ.go1 (by kernel_rfl) rfl rfl ?_ ?_
      · simp only [go_sem]
        done
      refine sI ?_
      refine AQ.defer rfl rfl rfl fun u => ?_
      refine sI ?_
      refine gO ?_
      refine AQ.callHX [] (by kernel_rfl) rfl rfl rfl rfl rfl rfl (by exact trivial) rfl (hcs) ?_ ?_
      · rintro r H' ⟨p', e', hq, rfl, rfl⟩
        refine ⟨rfl, ?_⟩; refine sH ?_
        refine AEX.leaveD [(2, 2), (1, 1), (0, 0)] (K' := [_]) (t := 30) rfl rfl rfl rfl rfl (by exact ⟨rfl, rfl, rfl, trivial⟩) rfl (check1_some p' e' 0 (by have := ccF_short th ax d [] 100000 (by have := h3 h4; simp; omega); rw [hq] at this; exact Nat.le_trans this (by omega))) rfl ?_ rfl
        rintro H1 rfl
        refine ⟨rfl, ?_⟩
        refine sH ?_
        exact LV.retD [2, 1, 0] rfl ⟨⟨rfl, Nat.le_of_ble_eq_true (by kernel_rfl)⟩, ⟨rfl, Nat.le_of_ble_eq_true (by kernel_rfl)⟩, ⟨rfl, Nat.le_of_ble_eq_true (by kernel_rfl)⟩, trivial⟩ rfl ⟨by rw [he, hq]; rfl, rfl⟩
      · rintro r H' ⟨g, hq, rfl, rfl⟩
        refine ⟨rfl, ?_⟩; refine sH ?_
        have hgw := ccF_well hq
        obtain ⟨m, hm2⟩ := un_ms hgw
        have hcl := clone_spec g 1 0 m hm2 (by omega) (by omega)
        rw [clone_id] at hcl
        refine AQ.go (by kernel_rfl) ?_
        refine sI ?_
        refine AQ.fn (by kernel_rfl) rfl rfl rfl (hcl) rfl ?_
        refine gO ?_
        refine AE.cellsW 1 [.im (.sl 1 [])] rfl (cellsLe.nil (cellsLe.refl _)) ?_
        refine sI ?_
        refine AE.leaveD [(2, 2), (1, 1), (0, 0)] (t := 30) (.inl rfl) rfl rfl rfl rfl rfl (by exact ⟨rfl, rfl, rfl, trivial⟩) rfl (check1_none [Iv g.k, Sv g.nm, .im (.sl 3 (tmR g.ts)), .im (.sl 4 (fmR g.ps))] [.im (.sl 1 [])] 0) ?_
        rintro H1 rfl
        refine ⟨rfl, ?_⟩
        refine sH ?_
        exact LV.retD [2, 1, 0] rfl ⟨⟨rfl, Nat.le_of_ble_eq_true (by kernel_rfl)⟩, ⟨rfl, Nat.le_of_ble_eq_true (by kernel_rfl)⟩, ⟨rfl, Nat.le_of_ble_eq_true (by kernel_rfl)⟩, trivial⟩ rfl ⟨by rw [he, hq]; rfl, rfl⟩
  · obtain ⟨u, hu, hrow⟩ := fmR_get l k hlt
    rw [wellFs_drop l k u hu] at hm
    have hw := wr (x := (k : Int) + 1) (by omega)
    refine gO ?_
    refine cT ?_
    refine gE @hrow ?_
    refine ⟨by rw [fmR_len]; omega, ?_⟩
    refine gO ?_
    refine AQ.fn (by kernel_rfl) rfl rfl rfl (well_at u (fmsS_get hsl hu)) rfl ?_
    refine gO ?_
    refine AP.cond rfl rfl (fun h5 => ?_) (fun h5 => ?_)
    · have h5 : ¬ unF u 0 = 0 := by simpa using h5
      rw [if_neg h5] at hm
      rw [hm, if_neg h5] at he
      refine gO ?_
      refine AE.cellsW 0 [Iv 0, Sv [], .im (.sl 3 []), .im (.sl 4 [])] rfl (cellsLe.cons (cellsLe.cons (cellsLe.nil (cellsLe.nil (cellsLe.refl _))))) ?_
      refine sI ?_
      refine AE.cellsW 1 [.im (.sl 1 [])] rfl (cellsLe.nil (cellsLe.refl _)) ?_
      refine sI ?_
      exact AE.leaveN (.inl rfl) rfl <| LV.retD [3, 2, 1, 0] rfl ⟨⟨rfl, Nat.le_of_ble_eq_true (by kernel_rfl)⟩, ⟨rfl, Nat.le_of_ble_eq_true (by kernel_rfl)⟩, ⟨rfl, Nat.le_of_ble_eq_true (by kernel_rfl)⟩, trivial⟩ rfl ⟨by rw [he]; rfl, rfl⟩
    · have h5 : unF u 0 = 0 := by simpa using h5
      rw [if_pos h5] at hm
      refine gE @hw ?_
      refine AE.forgets [3] rfl ?_
      refine sI ?_
      exact AE.round (k + 1) ⟨by omega, hm⟩ (by omega) (sU) rfl
end Go.Proofs.YteacpafhmgdbkaaGreatDoor
end

section
namespace Go.Proofs.YteacpafhmgdbkaaGreatDoor
open Go Go.AL Go.RowKit
set_option maxRecDepth 10000
set_option maxHeartbeats 4000000
theorem take_snoc {α : Type} {l : List α} {k : Nat} {u : α} (h : l[k]? = some u) : l.take (k + 1) = l.take k ++ [u] := by
  rw [List.take_add_one, h]; rfl
theorem take_len {α : Type} {l : List α} {k : Nat} (h : k ≤ l.length) : (l.take k).length = k := by rw [List.length_take]; omega
theorem tmR_snc {l : List Tm} {k : Nat} {u : Tm} (h : l[k]? = some u) : tmR (l.take (k + 1)) = tmR (l.take k) ++ [tmRow u] := by
  rw [take_snoc h, tmR_map, List.map_append, ← tmR_map, List.map_cons, List.map_nil, tmC_eq]
theorem fmR_snc {l : List Fm} {k : Nat} {u : Fm} (h : l[k]? = some u) : fmR (l.take (k + 1)) = fmR (l.take k) ++ [fmRow u] := by
  rw [take_snoc h, fmR_map, List.map_append, ← fmR_map, List.map_cons, List.map_nil, fmC_eq]
theorem tmR_all (l : List Tm) : (tmR l).take l.length = tmR l := List.take_of_length_le (by rw [tmR_len]; omega)
theorem fmR_all (l : List Fm) : (fmR l).take l.length = fmR l := List.take_of_length_le (by rw [fmR_len]; omega)
theorem term_conv (t : Tm) (hs : tmL t) : PFn Tryz.prog 25 [tmV t] (tmV t) := by
  have hs0 := tmL_eq.1 hs
  refine ACall.walk [0, 1, 2, 3, 5, 12, 13, 14, 15] [2, 3, 5] Tryz.func25 rfl Tryz.ntmps25 (by kernel_rfl) (by rfl) rfl fun W own I0 φ0 lay => ?_
  refine gE @tmR_len ?_
  refine AP.ownCell 1 2 45 3 rfl rfl ?_
  refine sI ?_
  refine AP.loop rfl (α := Nat) (fun k => [(2, .ob 0 0), (3, .ob 1 0), (12, .im (.sl 3 (tmR t.xs))), (13, Iv t.xs.length), (14, Iv k)]) (fun k => [(2, .vec 45 3 (tmR (t.xs.take k))), (1, .var 45 [Sv t.nm, Iv t.ix, .os 2 3 0 (t.xs.take k).length]), (0, .var 45 [Sv [], Iv 0, nilV])]) (fun k => k ≤ t.xs.length) (fun k => t.xs.length - k) 0 (by omega) (sU) rfl fun k hk => ?_
  rcases Nat.eq_or_lt_of_le hk with hke | hlt
  · subst hke
    rw [List.take_length]
    refine gO ?_
    refine cF ?_
    refine gO ?_
    refine AE.freeze 2 (el := 45) (es := 3) (rows := tmR t.xs) rfl (by simp only [go_sem, Nat.reduceAdd, Nat.reduceLeDiff, Nat.reduceSub, Int.reduceToNat, reduceCtorEq, tmR_len]; first | done | trivial | omega | (simp; done) | (simp; omega)) (by simp only [go_sem, Nat.reduceAdd, Nat.reduceLeDiff, Nat.reduceSub, Int.reduceToNat, reduceCtorEq, tmR_len]; first | done | trivial | omega | (simp; done) | (simp; omega)) ?_; simp only [go_sem, Nat.reduceAdd, Nat.reduceLeDiff, Nat.reduceSub, Int.reduceToNat, reduceCtorEq, tmR_len]
    rw [tmR_all]
    exact AE.retD [1, 0] rfl ⟨⟨rfl, Nat.le_of_ble_eq_true (by kernel_rfl)⟩, trivial⟩ rfl ⟨rfl, rfl⟩
  · obtain ⟨u, hu, hrow⟩ := tmR_get t.xs k hlt
    have hw := wr (x := (k : Int) + 1) (by omega)
    have htk := take_len (l := t.xs) (k := k) (by omega)
    have htk1 := take_len (l := t.xs) (k := k + 1) (by omega)
    have ih := term_conv u (tmsL_get hs0.2 hu)
    refine gO ?_
    refine cT ?_
    refine gE @hrow ?_
    refine ⟨by rw [tmR_len]; omega, ?_⟩
    refine gO ?_
    refine AP.drawE 8 (Tree.node [] [0, 1, 2] [3] [Tree.node [0, 1] [] [4] [Tree.node [0, 1] [] [5] [Tree.node [] [6] [7] [Tree.node [] [] [] []]]]]) (by kernel_rfl) rfl (by kernel_rfl) (by kernel_rfl) ?_
    refine vd_node ?_
    refine sI ?_
    refine AQ.fn (by kernel_rfl) rfl rfl rfl (ih) rfl ?_
    refine sI ?_
    refine AQ.nx rfl ?_
    refine sI ?_
    refine AQ.go (by kernel_rfl) ?_
    refine sI ?_
    refine AQ.nx rfl ?_
    refine sI ?_
    refine AQ.kill 2 ?_
    refine sI ?_
    refine AQ.append (hnb := rfl) (rows := tmR (t.xs.take k)) (es := 2) (by kernel_rfl) rfl rfl rfl (by rfl) Tryz.tk37 Tryz.sz45 (by show Option.map _ (zro Tryz.prog 45) = _; rw [Tryz.zr45]; rfl) Tryz.by45 (by first | rfl | (simp only [tmR_len, htk, List.length_cons, List.length_nil]; done) | (simp only [tmR_len, htk, List.length_cons, List.length_nil]; omega)) (by simp only [tmR_len, htk, List.length_cons, List.length_nil]; omega) (by simp only [tmR_len, htk, List.length_cons, List.length_nil]; omega) ?_
    refine sI ?_
    refine AQ.nx rfl ?_
    refine sI ?_
    refine AQ.go (by kernel_rfl) ?_
    refine sI ?_
    refine AQ.nx rfl ?_
    refine sI ?_
    refine AQ.done ?_
    refine gE @hw ?_
    refine AE.forgets [3] rfl ?_
    refine sI ?_
    exact AE.round (k + 1) (by omega) (by omega) (sU) (by rw [tmR_snc hu, htk1, tmR_len, htk])
termination_by SizeOf.sizeOf t
decreasing_by exact tm_mem hu
end Go.Proofs.YteacpafhmgdbkaaGreatDoor
end

section
namespace Go.Proofs.YteacpafhmgdbkaaGreatDoor
open Go Go.AL Go.RowKit
set_option maxRecDepth 10000
set_option maxHeartbeats 4000000
mutual
def fmL : Fm → Prop
  | .mk _ _ ts ps => ts.length ≤ 1000000000 ∧ tmsL ts ∧ ps.length ≤ 1000000000 ∧ fmsL ps
def fmsL : List Fm → Prop
  | [] => True
  | t :: l => fmL t ∧ fmsL l
end
theorem fmL_eq {t : Fm} : fmL t ↔ t.ts.length ≤ 1000000000 ∧ tmsL t.ts ∧ t.ps.length ≤ 1000000000 ∧ fmsL t.ps := by cases t; rw [fmL]; rfl
theorem fmsL_get : ∀ {l : List Fm} {k : Nat} {t : Fm}, fmsL l → l[k]? = some t → fmL t
  | [], k, t, _, h => by simp at h
  | u :: l, 0, t, hs, h => by rw [fmsL] at hs; simp at h; exact h ▸ hs.1
  | u :: l, k + 1, t, hs, h => by rw [fmsL] at hs; simp at h; exact fmsL_get hs.2 h
mutual
theorem fmL_sz : ∀ t : Fm, szF t ≤ 1000000000 → fmL t
  | .mk _ _ ts ps, hs => by
    rw [szF] at hs
    have hl := szTs_len ts
    have hl2 := szFs_len ps
    rw [fmL]
    exact ⟨by omega, tmsL_sz ts (by omega), by omega, fmsL_sz ps (by omega)⟩
theorem fmsL_sz : ∀ l : List Fm, szFs l ≤ 1000000000 → fmsL l
  | [], hs => by rw [fmsL]; trivial
  | t :: l, hs => by
    rw [szFs] at hs
    rw [fmsL]
    exact ⟨fmL_sz t (by omega), fmsL_sz l (by omega)⟩
end
theorem formula_conv (F : Fm) (hs : fmL F) : PFn Tryz.prog 20 [fmV F] (fmV F) := by
  have hs0 := fmL_eq.1 hs
  refine ACall.walk [0, 1, 2, 3, 5, 7, 14, 15, 16, 17, 29, 30, 31, 32] [2, 3, 5, 7] Tryz.func20 rfl Tryz.ntmps20 (by kernel_rfl) (by rfl) rfl fun W own I0 φ0 lay => ?_
  refine gE @tmR_len ?_
  refine AP.ownCell 1 2 45 3 rfl rfl ?_
  refine sI ?_
  refine AP.ownCell 1 3 40 4 rfl rfl ?_
  refine sI ?_
  refine AP.loop rfl (α := Nat) (fun k => [(1, .im (fmP F)), (2, .ob 0 0), (3, .ob 1 0), (14, .im (.sl 3 (tmR F.ts))), (15, Iv F.ts.length), (16, Iv k)]) (fun k => [(3, .vec 40 4 []), (2, .vec 45 3 (tmR (F.ts.take k))), (1, .var 40 [Iv F.k, Sv F.nm, .os 2 3 0 (F.ts.take k).length, .os 3 4 0 0]), (0, .var 40 [Iv 0, Sv [], nilV, nilV])]) (fun k => k ≤ F.ts.length) (fun k => F.ts.length - k) 0 (by omega) (sU) rfl fun k hk => ?_
  rcases Nat.eq_or_lt_of_le hk with hke | hlt
  · subst hke
    rw [List.take_length]
    refine gO ?_
    refine cF ?_
    refine gE @fmR_len ?_
    refine AP.loop rfl (α := Nat) (fun k => [(2, .ob 0 0), (3, .ob 1 0), (29, .im (.sl 4 (fmR F.ps))), (30, Iv F.ps.length), (31, Iv k)]) (fun k => [(3, .vec 40 4 (fmR (F.ps.take k))), (2, .vec 45 3 (tmR F.ts)), (1, .var 40 [Iv F.k, Sv F.nm, .os 2 3 0 F.ts.length, .os 3 4 0 (F.ps.take k).length]), (0, .var 40 [Iv 0, Sv [], nilV, nilV])]) (fun k => k ≤ F.ps.length) (fun k => F.ps.length - k) 0 (by omega) (sU) rfl fun k hk => ?_
    rcases Nat.eq_or_lt_of_le hk with hke | hlt
    · subst hke
      rw [List.take_length]
      refine gO ?_
      refine cF ?_
      refine gO ?_
      refine AE.freeze 2 (el := 45) (es := 3) (rows := tmR F.ts) rfl (by simp only [go_sem, Nat.reduceAdd, Nat.reduceLeDiff, Nat.reduceSub, Int.reduceToNat, reduceCtorEq, tmR_len]; first | done | trivial | omega | (simp; done) | (simp; omega)) (by simp only [go_sem, Nat.reduceAdd, Nat.reduceLeDiff, Nat.reduceSub, Int.reduceToNat, reduceCtorEq, tmR_len]; first | done | trivial | omega | (simp; done) | (simp; omega)) ?_; simp only [go_sem, Nat.reduceAdd, Nat.reduceLeDiff, Nat.reduceSub, Int.reduceToNat, reduceCtorEq, tmR_len]
      rw [tmR_all]
      refine AE.freeze 3 (el := 40) (es := 4) (rows := fmR F.ps) rfl (by simp only [go_sem, Nat.reduceAdd, Nat.reduceLeDiff, Nat.reduceSub, Int.reduceToNat, reduceCtorEq, fmR_len]; first | done | trivial | omega | (simp; done) | (simp; omega)) (by simp only [go_sem, Nat.reduceAdd, Nat.reduceLeDiff, Nat.reduceSub, Int.reduceToNat, reduceCtorEq, fmR_len]; first | done | trivial | omega | (simp; done) | (simp; omega)) ?_; simp only [go_sem, Nat.reduceAdd, Nat.reduceLeDiff, Nat.reduceSub, Int.reduceToNat, reduceCtorEq, fmR_len]
      rw [fmR_all]
      exact AE.retD [1, 0] rfl ⟨⟨rfl, Nat.le_of_ble_eq_true (by kernel_rfl)⟩, trivial⟩ rfl ⟨rfl, rfl⟩
    · obtain ⟨u, hu, hrow⟩ := fmR_get F.ps k hlt
      have hw := wr (x := (k : Int) + 1) (by omega)
      have htk := take_len (l := F.ps) (k := k) (by omega)
      have htk1 := take_len (l := F.ps) (k := k + 1) (by omega)
      have ih := formula_conv u (fmsL_get hs0.2.2.2 hu)
      refine gO ?_
      refine cT ?_
      refine gE @hrow ?_
      refine ⟨by rw [fmR_len]; omega, ?_⟩
      refine gO ?_
      refine AP.drawE 8 (Tree.node [] [0, 1, 2] [3] [Tree.node [0, 1] [] [4] [Tree.node [0, 1] [] [5] [Tree.node [] [6] [7] [Tree.node [] [] [] []]]]]) (by kernel_rfl) rfl (by kernel_rfl) (by kernel_rfl) ?_
      refine vd_node ?_
      refine sI ?_
      refine AQ.fn (by kernel_rfl) rfl rfl rfl (ih) rfl ?_
      refine sI ?_
      refine AQ.nx rfl ?_
      refine sI ?_
      refine AQ.go (by kernel_rfl) ?_
      refine sI ?_
      refine AQ.nx rfl ?_
      refine sI ?_
      refine AQ.kill 3 ?_
      refine sI ?_
      refine AQ.append (hnb := rfl) (rows := fmR (F.ps.take k)) (es := 3) (by kernel_rfl) rfl rfl rfl (by rfl) Tryz.tk38 Tryz.sz40 (by show Option.map _ (zro Tryz.prog 40) = _; rw [Tryz.zr40]; rfl) Tryz.by40 (by first | rfl | (simp only [fmR_len, htk, List.length_cons, List.length_nil]; done) | (simp only [fmR_len, htk, List.length_cons, List.length_nil]; omega)) (by simp only [fmR_len, htk, List.length_cons, List.length_nil]; omega) (by simp only [fmR_len, htk, List.length_cons, List.length_nil]; omega) ?_
      refine sI ?_
      refine AQ.nx rfl ?_
      refine sI ?_
      refine AQ.go (by kernel_rfl) ?_
      refine sI ?_
      refine AQ.nx rfl ?_
      refine sI ?_
      refine AQ.done ?_
      refine gE @hw ?_
      refine AE.forgets [4] rfl ?_
      refine sI ?_
      exact AE.round (k + 1) (by omega) (by omega) (sU) (by rw [fmR_snc hu, htk1, fmR_len, htk])
  · obtain ⟨u, hu, hrow⟩ := tmR_get F.ts k hlt
    have hw := wr (x := (k : Int) + 1) (by omega)
    have htk := take_len (l := F.ts) (k := k) (by omega)
    have htk1 := take_len (l := F.ts) (k := k + 1) (by omega)
    have ih := term_conv u (tmsL_get hs0.2.1 hu)
    refine gO ?_
    refine cT ?_
    refine gE @hrow ?_
    refine ⟨by rw [tmR_len]; omega, ?_⟩
    refine gO ?_
    refine AP.drawE 8 (Tree.node [] [0, 1, 2] [3] [Tree.node [0, 1] [] [4] [Tree.node [0, 1] [] [5] [Tree.node [] [6] [7] [Tree.node [] [] [] []]]]]) (by kernel_rfl) rfl (by kernel_rfl) (by kernel_rfl) ?_
    refine vd_node ?_
    refine sI ?_
    refine AQ.fn (by kernel_rfl) rfl rfl rfl (ih) rfl ?_
    refine sI ?_
    refine AQ.nx rfl ?_
    refine sI ?_
    refine AQ.go (by kernel_rfl) ?_
    refine sI ?_
    refine AQ.nx rfl ?_
    refine sI ?_
    refine AQ.kill 2 ?_
    refine sI ?_
    refine AQ.append (hnb := rfl) (rows := tmR (F.ts.take k)) (es := 2) (by kernel_rfl) rfl rfl rfl (by rfl) Tryz.tk37 Tryz.sz45 (by show Option.map _ (zro Tryz.prog 45) = _; rw [Tryz.zr45]; rfl) Tryz.by45 (by first | rfl | (simp only [tmR_len, htk, List.length_cons, List.length_nil]; done) | (simp only [tmR_len, htk, List.length_cons, List.length_nil]; omega)) (by simp only [tmR_len, htk, List.length_cons, List.length_nil]; omega) (by simp only [tmR_len, htk, List.length_cons, List.length_nil]; omega) ?_
    refine sI ?_
    refine AQ.nx rfl ?_
    refine sI ?_
    refine AQ.go (by kernel_rfl) ?_
    refine sI ?_
    refine AQ.nx rfl ?_
    refine sI ?_
    refine AQ.done ?_
    refine gE @hw ?_
    refine AE.forgets [4] rfl ?_
    refine sI ?_
    exact AE.round (k + 1) (by omega) (by omega) (sU) (by rw [tmR_snc hu, htk1, tmR_len, htk])
termination_by SizeOf.sizeOf F
decreasing_by exact fm_mem hu
end Go.Proofs.YteacpafhmgdbkaaGreatDoor
end

section
namespace Go.Proofs.YteacpafhmgdbkaaGreatDoor
open Go Go.AL Go.RowKit
set_option maxRecDepth 10000
set_option maxHeartbeats 4000000
end Go.Proofs.YteacpafhmgdbkaaGreatDoor
end

section
namespace Go.Proofs.YteacpafhmgdbkaaGreatDoor
open Go Go.AL Go.RowKit
set_option maxRecDepth 10000
set_option maxHeartbeats 4000000
end Go.Proofs.YteacpafhmgdbkaaGreatDoor
end

section
namespace Go.Proofs.YteacpafhmgdbkaaGreatDoor
open Go Go.AL Go.RowKit
set_option maxRecDepth 10000
set_option maxHeartbeats 4000000
theorem szTs_drop (l : List Tm) (k : Nat) (t : Tm) (h : l[k]? = some t) : szTs (l.drop k) = szT t + szTs (l.drop (k + 1)) := by
  obtain ⟨h1, e1⟩ := List.getElem?_eq_some_iff.1 h
  rw [List.drop_eq_getElem_cons h1, e1, szTs]
theorem dpTs_drop (l : List Tm) (k : Nat) (t : Tm) (h : l[k]? = some t) : dpTs (l.drop k) = max (dpT t) (dpTs (l.drop (k + 1))) := by
  obtain ⟨h1, e1⟩ := List.getElem?_eq_some_iff.1 h
  rw [List.drop_eq_getElem_cons h1, e1, dpTs]
theorem szFs_drop (l : List Fm) (k : Nat) (t : Fm) (h : l[k]? = some t) : szFs (l.drop k) = szF t + szFs (l.drop (k + 1)) := by
  obtain ⟨h1, e1⟩ := List.getElem?_eq_some_iff.1 h
  rw [List.drop_eq_getElem_cons h1, e1, szFs]
theorem dpFs_drop (l : List Fm) (k : Nat) (t : Fm) (h : l[k]? = some t) : dpFs (l.drop k) = max (dpF t) (dpFs (l.drop (k + 1))) := by
  obtain ⟨h1, e1⟩ := List.getElem?_eq_some_iff.1 h
  rw [List.drop_eq_getElem_cons h1, e1, dpFs]
theorem dpTs_sz : ∀ l : List Tm, dpTs l ≤ szTs l
  | [] => by rw [dpTs, szTs]; omega
  | t :: l => by rw [dpTs, szTs]; have := dpT_sz t; have := dpTs_sz l; omega
mutual
theorem dpF_sz : ∀ t : Fm, dpF t ≤ szF t
  | .mk _ _ ts ps => by
    rw [dpF, szF]; have := dpTs_sz ts; have := dpFs_sz ps; omega
theorem dpFs_sz : ∀ l : List Fm, dpFs l ≤ szFs l
  | [] => by rw [dpFs, szFs]; omega
  | t :: l => by rw [dpFs, szFs]; have := dpF_sz t; have := dpFs_sz l; omega
end
theorem termSize_spec (d : Tm) (hs : szT d ≤ 1000000000) : PFn Tryz.prog 140 [tmV d] (.tup [Iv (szT d), Iv (dpT d)]) := by
  have hz := szT_eq d
  have hp := dpT_eq d
  have hl := szTs_len d.xs
  have hq0 := dpT_sz d
  refine ACall.walk [0, 1, 2, 3, 4, 5, 6, 7, 8, 13] [] Tryz.func140 rfl Tryz.ntmps140 (by kernel_rfl) (by rfl) rfl fun W own I0 φ0 lay => ?_
  refine gE @tmR_len ?_
  refine AP.loop rfl (α := Nat × Nat × Nat) (fun q => [(1, .im (tmP d)), (4, Iv q.2.1), (5, Iv q.2.2), (6, Iv q.1)]) (fun _ => []) (fun q => q.1 ≤ d.xs.length ∧ szT d = q.2.1 + szTs (d.xs.drop q.1) ∧ dpT d = 1 + max q.2.2 (dpTs (d.xs.drop q.1))) (fun q => d.xs.length - q.1) (0, 1, 0) ⟨by omega, by simp only [List.drop_zero]; omega, by simp only [List.drop_zero]; omega⟩ (sU) rfl fun q ⟨hk, h1, h2⟩ => ?_
  obtain ⟨k, n, m⟩ := q
  simp only at hk h1 h2 ⊢
  rcases Nat.eq_or_lt_of_le hk with hke | hlt
  · rw [hke, List.drop_length, szTs] at h1
    rw [hke, List.drop_length, dpTs] at h2
    have w4 : IntKind.i64.wrap ((m : Int) + 1) = ((dpT d : Nat) : Int) := by rw [show (m : Int) + 1 = ((dpT d : Nat) : Int) by omega]; exact wr (by omega)
    refine gE @tmR_len ?_
    refine cF ?_
    refine gE @w4 ?_
    exact AE.ret0 rfl ⟨rfl, rfl, trivial⟩ rfl ⟨rfl, by rw [h1]; rfl⟩
  · obtain ⟨u, hu, hrow⟩ := tmR_get d.xs k hlt
    rw [szTs_drop d.xs k u hu] at h1
    rw [dpTs_drop d.xs k u hu] at h2
    have hq := dpT_sz u
    have hw := wr (x := (k : Int) + 1) (by omega)
    have w1 : IntKind.i64.wrap ((n : Int) + (szT u : Int)) = ((n + szT u : Nat) : Int) := by rw [← Int.natCast_add]; exact wr (by omega)
    have w3 : (if (m : Int) < (dpT u : Int) then (dpT u : Int) else (m : Int)) = ((max m (dpT u) : Nat) : Int) := by split <;> omega
    have ih := termSize_spec u (by omega)
    refine gE @tmR_len ?_
    refine cT ?_
    refine gE @hrow ?_
    refine ⟨by rw [tmR_len]; omega, ?_⟩
    refine gO ?_
    refine AQ.fn (by kernel_rfl) rfl rfl rfl (ih) rfl ?_
    refine gE (an @w1 (an @w3 @hw)) ?_
    exact AE.round (k + 1, n + szT u, max m (dpT u)) ⟨by simp only; omega, by simp only; omega, by simp only; omega⟩ (by simp only; omega) (sU) rfl
termination_by SizeOf.sizeOf d
decreasing_by exact tm_mem hu
theorem fsize_spec (d : Fm) (hs : szF d ≤ 1000000000) : PFn Tryz.prog 177 [fmV d] (.tup [Iv (szF d), Iv (dpF d)]) := by
  have hz := szF_eq d
  have hp := dpF_eq d
  have hl := szTs_len d.ts
  have hl2 := szFs_len d.ps
  have hq0 := dpF_sz d
  refine ACall.walk [0, 1, 2, 3, 4, 5, 6, 7, 8, 9, 10, 11, 16, 38] [] Tryz.func177 rfl Tryz.ntmps177 (by kernel_rfl) (by rfl) rfl fun W own I0 φ0 lay => ?_
  refine gO ?_
  refine AP.loop rfl (α := Nat × Nat × Nat) (fun q => [(1, .im (fmP d)), (4, Iv q.2.1), (5, Iv q.2.2), (6, Iv q.1)]) (fun _ => []) (fun q => q.1 ≤ d.ts.length ∧ szF d = q.2.1 + szTs (d.ts.drop q.1) + szFs d.ps ∧ dpF d = 1 + max q.2.2 (max (dpTs (d.ts.drop q.1)) (dpFs d.ps))) (fun q => d.ts.length - q.1) (0, 1, 0) ⟨by omega, by simp only [List.drop_zero]; omega, by simp only [List.drop_zero]; omega⟩ (sU) rfl fun q ⟨hk, h1, h2⟩ => ?_
  obtain ⟨k, n, m⟩ := q
  simp only at hk h1 h2 ⊢
  rcases Nat.eq_or_lt_of_le hk with hke | hlt
  · rw [hke, List.drop_length, szTs] at h1
    rw [hke, List.drop_length, dpTs] at h2
    refine gE @tmR_len ?_
    refine cF ?_
    refine gO ?_
    refine AP.loop rfl (α := Nat × Nat × Nat) (fun q => [(1, .im (fmP d)), (4, Iv q.2.1), (5, Iv q.2.2), (9, Iv q.1)]) (fun _ => []) (fun q => q.1 ≤ d.ps.length ∧ szF d = q.2.1 + szFs (d.ps.drop q.1) ∧ dpF d = 1 + max q.2.2 (dpFs (d.ps.drop q.1))) (fun q => d.ps.length - q.1) (0, n, m) ⟨by omega, by simp only [List.drop_zero]; omega, by simp only [List.drop_zero]; omega⟩ (sU) rfl fun q ⟨hk, h1, h2⟩ => ?_
    obtain ⟨k, n, m⟩ := q
    simp only at hk h1 h2 ⊢
    rcases Nat.eq_or_lt_of_le hk with hke | hlt
    · rw [hke, List.drop_length, szFs] at h1
      rw [hke, List.drop_length, dpFs] at h2
      have w4 : IntKind.i64.wrap ((m : Int) + 1) = ((dpF d : Nat) : Int) := by rw [show (m : Int) + 1 = ((dpF d : Nat) : Int) by omega]; exact wr (by omega)
      refine gE @fmR_len ?_
      refine cF ?_
      refine gE @w4 ?_
      exact AE.ret0 rfl ⟨rfl, rfl, trivial⟩ rfl ⟨rfl, by rw [h1]; rfl⟩
    · obtain ⟨u, hu, hrow⟩ := fmR_get d.ps k hlt
      rw [szFs_drop d.ps k u hu] at h1
      rw [dpFs_drop d.ps k u hu] at h2
      have hq := dpF_sz u
      have hw := wr (x := (k : Int) + 1) (by omega)
      have w1 : IntKind.i64.wrap ((n : Int) + (szF u : Int)) = ((n + szF u : Nat) : Int) := by rw [← Int.natCast_add]; exact wr (by omega)
      have w3 : (if (m : Int) < (dpF u : Int) then (dpF u : Int) else (m : Int)) = ((max m (dpF u) : Nat) : Int) := by split <;> omega
      have ih := fsize_spec u (by omega)
      refine gE @fmR_len ?_
      refine cT ?_
      refine gE @hrow ?_
      refine ⟨by rw [fmR_len]; omega, ?_⟩
      refine gO ?_
      refine AQ.fn (by kernel_rfl) rfl rfl rfl (ih) rfl ?_
      refine gE (an @w1 (an @w3 @hw)) ?_
      exact AE.round (k + 1, n + szF u, max m (dpF u)) ⟨by simp only; omega, by simp only; omega, by simp only; omega⟩ (by simp only; omega) (sU) rfl
  · obtain ⟨u, hu, hrow⟩ := tmR_get d.ts k hlt
    rw [szTs_drop d.ts k u hu] at h1
    rw [dpTs_drop d.ts k u hu] at h2
    have hq := dpT_sz u
    have hw := wr (x := (k : Int) + 1) (by omega)
    have w1 : IntKind.i64.wrap ((n : Int) + (szT u : Int)) = ((n + szT u : Nat) : Int) := by rw [← Int.natCast_add]; exact wr (by omega)
    have w3 : (if (m : Int) < (dpT u : Int) then (dpT u : Int) else (m : Int)) = ((max m (dpT u) : Nat) : Int) := by split <;> omega
    have ih := termSize_spec u (by omega)
    refine gE @tmR_len ?_
    refine cT ?_
    refine gE @hrow ?_
    refine ⟨by rw [tmR_len]; omega, ?_⟩
    refine gO ?_
    refine AQ.fn (by kernel_rfl) rfl rfl rfl (ih) rfl ?_
    refine gE (an @w1 (an @w3 @hw)) ?_
    exact AE.round (k + 1, n + szT u, max m (dpT u)) ⟨by simp only; omega, by simp only; omega, by simp only; omega⟩ (by simp only; omega) (sU) rfl
termination_by SizeOf.sizeOf d
decreasing_by exact fm_mem hu
end Go.Proofs.YteacpafhmgdbkaaGreatDoor
end

section
namespace Go.Proofs.YteacpafhmgdbkaaGreatDoor
open Go Go.AL Go.RowKit
set_option maxRecDepth 10000
set_option maxHeartbeats 4000000
theorem isSym_ref (t : List UInt8) (ht : t.length ≤ 9223372036854775807) : PFn Tryz.prog 76 [Sv t] (Bv (isNm t)) := isSymbol_ref t ht
theorem termError_spec (t : Tm) (b : Int) (hs : tmS t) : PFn Tryz.prog 141 [tmV t, Iv b] (Iv (wT t b)) := by
  have hs0 := tmS_eq.1 hs
  have he := wT_eq t b
  refine ACall.walk [0, 1, 2, 4, 5, 6, 36, 45, 50, 61] [] Tryz.func141 rfl Tryz.ntmps141 (by kernel_rfl) (by rfl) rfl fun W own I0 φ0 lay => ?_
  by_cases hn : t.nm = []
  · rw [if_pos hn] at he
    have hb : (t.nm == []) = true := by rw [hn]; rfl
    have hb2 : (t.nm != []) = false := by rw [hn]; rfl
    cases h1 : (decide (0 < (t.xs.length : Int)) || decide (t.ix < 0)) with
    | true =>
      rw [if_pos (by simpa using h1)] at he
      cases h2 : (t.ix != 0) with
      | true =>
        refine gE (an @hb (an @hb2 (an @tmR_len (an @h1 @h2)))) ?_
        exact AE.ret0 rfl ⟨rfl, trivial⟩ rfl ⟨rfl, by rw [he]; rfl⟩
      | false =>
        refine gE (an @hb (an @hb2 (an @tmR_len (an @h1 @h2)))) ?_
        exact AE.ret0 rfl ⟨rfl, trivial⟩ rfl ⟨rfl, by rw [he]; rfl⟩
    | false =>
      rw [if_neg (by simpa using h1)] at he
      have h0 : t.xs.length = 0 := by simp only [Bool.or_eq_false_iff, decide_eq_false_iff_not] at h1; omega
      cases h2 : (t.ix != 0) with
      | true =>
        refine gE (an @hb (an @hb2 (an @tmR_len (an @h1 @h2)))) ?_
        refine AP.cond rfl rfl (fun h3 => ?_) (fun h3 => ?_)
        · rw [if_pos (by simpa using h3)] at he
          refine gO ?_
          exact AE.ret0 rfl ⟨rfl, trivial⟩ rfl ⟨rfl, by rw [he]; rfl⟩
        · rw [if_neg (by simpa using h3)] at he
          refine gO ?_
          refine AP.loop rfl (α := Unit) (fun _ => [(1, Iv b), (2, .im (tmP t)), (5, Iv 0)]) (fun _ => []) (fun _ => True) (fun _ => 0) () trivial (sU) rfl fun _ _ => ?_
          refine gE @tmR_len ?_
          refine cF ?_
          refine gO ?_
          exact AE.ret0 rfl ⟨rfl, trivial⟩ rfl ⟨rfl, by rw [he]; rfl⟩
      | false =>
        refine gE (an @hb (an @hb2 (an @tmR_len (an @h1 @h2)))) ?_
        refine AP.cond rfl rfl (fun h3 => ?_) (fun h3 => ?_)
        · rw [if_pos (by simpa using h3)] at he
          refine gO ?_
          exact AE.ret0 rfl ⟨rfl, trivial⟩ rfl ⟨rfl, by rw [he]; rfl⟩
        · rw [if_neg (by simpa using h3)] at he
          refine gO ?_
          refine AP.loop rfl (α := Unit) (fun _ => [(1, Iv b), (2, .im (tmP t)), (5, Iv 0)]) (fun _ => []) (fun _ => True) (fun _ => 0) () trivial (sU) rfl fun _ _ => ?_
          refine gE @tmR_len ?_
          refine cF ?_
          refine gO ?_
          exact AE.ret0 rfl ⟨rfl, trivial⟩ rfl ⟨rfl, by rw [he]; rfl⟩
  · rw [if_neg hn] at he
    have hb : (t.nm == []) = false := by simp [hn]
    have hb2 : (t.nm != []) = true := by simp [hn]
    cases h1 : (decide (0 < (t.xs.length : Int)) || decide (t.ix < 0)) with
    | true =>
      cases h2 : (t.ix != 0) with
      | true =>
        rw [if_pos (.inr (by simpa using h2))] at he
        refine gE (an @hb (an @hb2 (an @tmR_len (an @h1 @h2)))) ?_
        exact AE.ret0 rfl ⟨rfl, trivial⟩ rfl ⟨rfl, by rw [he]; rfl⟩
      | false =>
        refine gE (an @hb (an @hb2 (an @tmR_len (an @h1 @h2)))) ?_
        refine AQ.guard_yes (by simp only [go_sem]) ?_
        refine AQ.fn (by kernel_rfl) rfl rfl rfl (isSym_ref t.nm hs0.1) rfl ?_
        refine gE (an @hb @hb2) ?_
        have hix : t.ix = 0 := by simpa using h2
        refine AP.cond rfl rfl (fun h4 => ?_) (fun h4 => ?_)
        · rw [if_pos (.inl (by simpa using h4))] at he
          refine gO ?_
          exact AE.ret0 rfl ⟨rfl, trivial⟩ rfl ⟨rfl, by rw [he]; rfl⟩
        · have h4 : isNm t.nm = true := by simpa using h4
          rw [if_neg (by rw [h4]; simp [hix])] at he
          refine gE (an @hb @hb2) ?_
          refine AP.loop rfl (α := Nat) (fun k => [(1, Iv b), (2, .im (tmP t)), (5, Iv k)]) (fun _ => []) (fun k => k ≤ t.xs.length ∧ wT t b = wTs (t.xs.drop k) b) (fun k => t.xs.length - k) 0 ⟨by omega, he⟩ (sU) rfl fun k ⟨hk, hm⟩ => ?_
          rcases Nat.eq_or_lt_of_le hk with hke | hlt
          · rw [hke, List.drop_length, wTs] at hm
            refine gE @tmR_len ?_
            refine cF ?_
            refine gO ?_
            exact AE.ret0 rfl ⟨rfl, trivial⟩ rfl ⟨rfl, by rw [hm]; rfl⟩
          · obtain ⟨u, hu, hrow⟩ := tmR_get t.xs k hlt
            rw [wTs_drop t.xs k hlt b u hu] at hm
            have hw := wr (x := (k : Int) + 1) (by omega)
            refine gE @tmR_len ?_
            refine cT ?_
            refine gE @hrow ?_
            refine ⟨by rw [tmR_len]; omega, ?_⟩
            refine gO ?_
            refine AQ.fn (by kernel_rfl) rfl rfl rfl (termError_spec u b (tmsS_get hs0.2.2 hu)) rfl ?_
            refine gO ?_
            refine AP.cond rfl rfl (fun h5 => ?_) (fun h5 => ?_)
            · rw [if_neg (by simpa using h5)] at hm
              refine gO ?_
              exact AE.ret0 rfl ⟨rfl, trivial⟩ rfl ⟨rfl, by rw [hm]; rfl⟩
            · rw [if_pos (by simpa using h5)] at hm
              refine gE @hw ?_
              exact AE.round (k + 1) ⟨by omega, hm⟩ (by omega) (sU) rfl
    | false =>
      cases h2 : (t.ix != 0) with
      | true =>
        rw [if_pos (.inr (by simpa using h2))] at he
        refine gE (an @hb (an @hb2 (an @tmR_len (an @h1 @h2)))) ?_
        exact AE.ret0 rfl ⟨rfl, trivial⟩ rfl ⟨rfl, by rw [he]; rfl⟩
      | false =>
        refine gE (an @hb (an @hb2 (an @tmR_len (an @h1 @h2)))) ?_
        refine AQ.guard_yes (by simp only [go_sem]) ?_
        refine AQ.fn (by kernel_rfl) rfl rfl rfl (isSym_ref t.nm hs0.1) rfl ?_
        refine gE (an @hb @hb2) ?_
        have hix : t.ix = 0 := by simpa using h2
        refine AP.cond rfl rfl (fun h4 => ?_) (fun h4 => ?_)
        · rw [if_pos (.inl (by simpa using h4))] at he
          refine gO ?_
          exact AE.ret0 rfl ⟨rfl, trivial⟩ rfl ⟨rfl, by rw [he]; rfl⟩
        · have h4 : isNm t.nm = true := by simpa using h4
          rw [if_neg (by rw [h4]; simp [hix])] at he
          refine gE (an @hb @hb2) ?_
          refine AP.loop rfl (α := Nat) (fun k => [(1, Iv b), (2, .im (tmP t)), (5, Iv k)]) (fun _ => []) (fun k => k ≤ t.xs.length ∧ wT t b = wTs (t.xs.drop k) b) (fun k => t.xs.length - k) 0 ⟨by omega, he⟩ (sU) rfl fun k ⟨hk, hm⟩ => ?_
          rcases Nat.eq_or_lt_of_le hk with hke | hlt
          · rw [hke, List.drop_length, wTs] at hm
            refine gE @tmR_len ?_
            refine cF ?_
            refine gO ?_
            exact AE.ret0 rfl ⟨rfl, trivial⟩ rfl ⟨rfl, by rw [hm]; rfl⟩
          · simp only [Bool.or_eq_false_iff, decide_eq_false_iff_not] at h1; omega
termination_by SizeOf.sizeOf t
decreasing_by exact tm_mem hu
end Go.Proofs.YteacpafhmgdbkaaGreatDoor
end

section
namespace Go.Proofs.YteacpafhmgdbkaaGreatDoor
open Go Go.AL Go.RowKit
set_option maxRecDepth 10000
set_option maxHeartbeats 4000000
theorem formed_spec (f : Fm) (hs : fmS f) : PFn Tryz.prog 233 [fmV f] (Bv (shp f)) := by
  have hs0 := fmS_eq.1 hs
  have he : shp f = if f.k ≠ 1 ∧ f.nm ≠ [] then false
  else if f.k = 1 then isNm f.nm && (f.ps.length : Int) == 0
  else if f.k = 2 then (f.ts.length : Int) == 2 && (f.ps.length : Int) == 0
  else if f.k = 3 then (f.ts.length : Int) == 0 && (f.ps.length : Int) == 0
  else if f.k = 4 ∨ f.k = 5 ∨ f.k = 6 then (f.ts.length : Int) == 0 && (f.ps.length : Int) == 2
  else if f.k = 7 ∨ f.k = 8 then (f.ts.length : Int) == 0 && (f.ps.length : Int) == 1
  else false := rfl
  refine ACall.walk [0, 1, 2, 3, 4, 13, 23, 25, 26, 34, 42, 52] [] Tryz.func233 rfl Tryz.ntmps233 (by kernel_rfl) (by rfl) rfl fun W own I0 φ0 lay => ?_
  refine gE (an @tmR_len @fmR_len) ?_
  refine AP.cond rfl rfl (fun h1 => ?_) (fun h1 => ?_)
  · have k1 : f.k = 1 := by simpa using h1
    rw [if_neg (by simp [k1]), if_pos k1] at he
    refine gO ?_
    refine AQ.fn (by kernel_rfl) rfl rfl rfl (isSym_ref f.nm hs0.1) rfl ?_
    refine gO ?_
    exact AE.ret0 rfl ⟨rfl, trivial⟩ rfl ⟨rfl, by rw [he]; rfl⟩
  · have k1 : ¬ f.k = 1 := by simpa using h1
    refine gO ?_
    refine AP.cond rfl rfl (fun h2 => ?_) (fun h2 => ?_)
    · have n1 : ¬ f.nm = [] := by simpa using h2
      rw [if_pos ⟨k1, n1⟩] at he
      refine gO ?_
      exact AE.ret0 rfl ⟨rfl, trivial⟩ rfl ⟨rfl, by rw [he]; rfl⟩
    · have n1 : f.nm = [] := by simpa using h2
      rw [if_neg (by simp [n1]), if_neg k1] at he
      refine gO ?_
      refine AP.cond rfl rfl (fun g2 => ?_) (fun g2 => ?_)
      · have k2 : f.k = 2 := by simpa using g2
        rw [if_pos k2] at he
        refine gO ?_
        exact AE.ret0 rfl ⟨rfl, trivial⟩ rfl ⟨rfl, by rw [he]; rfl⟩
      have k2 : ¬ f.k = 2 := by simpa using g2
      rw [if_neg k2] at he
      refine gO ?_
      refine AP.cond rfl rfl (fun g3 => ?_) (fun g3 => ?_)
      · have k3 : f.k = 3 := by simpa using g3
        rw [if_pos k3] at he
        refine gO ?_
        exact AE.ret0 rfl ⟨rfl, trivial⟩ rfl ⟨rfl, by rw [he]; rfl⟩
      have k3 : ¬ f.k = 3 := by simpa using g3
      rw [if_neg k3] at he
      refine gO ?_
      refine AP.cond rfl rfl (fun h4 => ?_) (fun h4 => ?_)
      · have k4 : f.k = 4 := by simpa using h4
        refine gO ?_
        refine AP.cond rfl rfl (fun g => ?_) (fun g => ?_)
        · refine gO ?_
          exact AE.ret0 rfl ⟨rfl, trivial⟩ rfl ⟨rfl, by rw [he, if_pos (by omega)]; rfl⟩
        · simp [k4] at g
      · have k4 : ¬ f.k = 4 := by simpa using h4
        refine gO ?_
        refine AP.cond rfl rfl (fun h5 => ?_) (fun h5 => ?_)
        · have k5 : f.k = 5 := by simpa using h5
          refine gO ?_
          refine AP.cond rfl rfl (fun g => ?_) (fun g => ?_)
          · refine gO ?_
            exact AE.ret0 rfl ⟨rfl, trivial⟩ rfl ⟨rfl, by rw [he, if_pos (by omega)]; rfl⟩
          · simp [k5] at g
        · have k5 : ¬ f.k = 5 := by simpa using h5
          refine gO ?_
          refine AP.cond rfl rfl (fun h6 => ?_) (fun h6 => ?_)
          · have k6 : f.k = 6 := by simpa using h6
            refine gO ?_
            exact AE.ret0 rfl ⟨rfl, trivial⟩ rfl ⟨rfl, by rw [he, if_pos (by omega)]; rfl⟩
          · have k6 : ¬ f.k = 6 := by simpa using h6
            refine gO ?_
            refine AP.cond rfl rfl (fun h7 => ?_) (fun h7 => ?_)
            · have k7 : f.k = 7 := by simpa using h7
              refine gO ?_
              refine AP.cond rfl rfl (fun g => ?_) (fun g => ?_)
              · refine gO ?_
                exact AE.ret0 rfl ⟨rfl, trivial⟩ rfl ⟨rfl, by rw [he, if_neg (by omega), if_pos (by omega)]; rfl⟩
              · simp [k7] at g
            · have k7 : ¬ f.k = 7 := by simpa using h7
              refine gO ?_
              refine AP.cond rfl rfl (fun h8 => ?_) (fun h8 => ?_)
              · have k8 : f.k = 8 := by simpa using h8
                refine gO ?_
                exact AE.ret0 rfl ⟨rfl, trivial⟩ rfl ⟨rfl, by rw [he, if_neg (by omega), if_pos (by omega)]; rfl⟩
              · have k8 : ¬ f.k = 8 := by simpa using h8
                refine gO ?_
                exact AE.ret0 rfl ⟨rfl, trivial⟩ rfl ⟨rfl, by rw [he, if_neg (by omega), if_neg (by omega)]; rfl⟩
theorem formulaError_spec (f : Fm) (b : Int) (hs : fmS f) (hm : szF f ≤ 1000000000) (hb : 0 ≤ b ∧ b + szF f ≤ 2000000000) : PFn Tryz.prog 178 [fmV f, Iv b] (Iv (wF f b)) := by
  have hs0 := fmS_eq.1 hs
  have he := wF_eq f b
  have hz := szF_eq f
  refine ACall.walk [0, 1, 2, 4, 5, 6, 7, 8, 11, 16, 27, 36, 43, 54] [] Tryz.func178 rfl Tryz.ntmps178 (by kernel_rfl) (by rfl) rfl fun W own I0 φ0 lay => ?_
  refine gO ?_
  refine AQ.fn (by kernel_rfl) rfl rfl rfl (formed_spec f hs) rfl ?_
  refine gO ?_
  refine AP.cond rfl rfl (fun h1 => ?_) (fun h1 => ?_)
  · rw [if_pos (by simpa using h1)] at he
    refine gO ?_
    exact AE.ret0 rfl ⟨rfl, trivial⟩ rfl ⟨rfl, by rw [he]; rfl⟩
  rw [if_neg (by simpa using h1)] at he
  refine gO ?_
  refine AP.loop rfl (α := Nat) (fun k => [(1, Iv b), (2, .im (fmP f)), (5, Iv k)]) (fun _ => []) (fun k => k ≤ f.ts.length ∧ wTs f.ts b = wTs (f.ts.drop k) b) (fun k => f.ts.length - k) 0 ⟨by omega, rfl⟩ (sU) rfl fun k ⟨hk, hm1⟩ => ?_
  rcases Nat.eq_or_lt_of_le hk with hke | hlt
  · rw [hke, List.drop_length, wTs] at hm1
    rw [if_pos hm1] at he
    refine gE @tmR_len ?_
    refine cF ?_
    refine gO ?_
    have hbn : 0 ≤ bnd f ∧ bnd f ≤ 1 := by unfold bnd; split <;> omega
    have hw1 := wr (x := b + 1) (by omega)
    refine AP.cut (α := Unit) (fun _ => [(1, Iv (b + bnd f)), (2, .im (fmP f))]) (fun _ => []) (fun _ => True) ?_ fun _ _ => ?_
    · refine AP.cond rfl rfl (fun h2 => ?_) (fun h2 => ?_)
      · have e : bnd f = 1 := by rw [bnd, if_pos (by simpa using h2)]
        rw [e]
        refine gE @hw1 ?_
        exact AE.meet () trivial (sU) rfl
      · have e : bnd f = 0 := by rw [bnd, if_neg (by simpa using h2)]
        rw [e, Int.add_zero]
        refine gO ?_
        exact AE.meet () trivial (sU) rfl
    have hcb : 0 ≤ b + bnd f ∧ b + bnd f ≤ b + 1 := by omega
    generalize b + bnd f = c at *
    refine gO ?_
    refine AP.loop rfl (α := Nat) (fun k => [(1, Iv c), (2, .im (fmP f)), (7, Iv k)]) (fun _ => []) (fun k => k ≤ f.ps.length ∧ wF f b = wFs (f.ps.drop k) c) (fun k => f.ps.length - k) 0 ⟨by omega, he⟩ (sU) rfl fun k ⟨hk, hm2⟩ => ?_
    rcases Nat.eq_or_lt_of_le hk with hke | hlt
    · rw [hke, List.drop_length, wFs] at hm2
      refine gE @fmR_len ?_
      refine cF ?_
      refine gO ?_
      exact AE.ret0 rfl ⟨rfl, trivial⟩ rfl ⟨rfl, by rw [hm2]; rfl⟩
    · obtain ⟨u, hu, hrow⟩ := fmR_get f.ps k hlt
      rw [wFs_drop f.ps k hlt c u hu] at hm2
      have hsz := szFs_get hu
      have hl2 := szFs_len f.ps
      have hw := wr (x := (k : Int) + 1) (by omega)
      refine gE @fmR_len ?_
      refine cT ?_
      refine gE @hrow ?_
      refine ⟨by rw [fmR_len]; omega, ?_⟩
      refine gO ?_
      refine AQ.fn (by kernel_rfl) rfl rfl rfl (formulaError_spec u c (fmsS_get hs0.2.2.2.2 hu) (by omega) (by omega)) rfl ?_
      refine gO ?_
      refine AP.cond rfl rfl (fun h5 => ?_) (fun h5 => ?_)
      · rw [if_neg (by simpa using h5)] at hm2
        refine gO ?_
        exact AE.ret0 rfl ⟨rfl, trivial⟩ rfl ⟨rfl, by rw [hm2]; rfl⟩
      · rw [if_pos (by simpa using h5)] at hm2
        refine gE @hw ?_
        exact AE.round (k + 1) ⟨by omega, hm2⟩ (by omega) (sU) rfl
  · obtain ⟨u, hu, hrow⟩ := tmR_get f.ts k hlt
    rw [wTs_drop f.ts k hlt b u hu] at hm1
    have hl1 := szTs_len f.ts
    have hw := wr (x := (k : Int) + 1) (by omega)
    refine gE @tmR_len ?_
    refine cT ?_
    refine gE @hrow ?_
    refine ⟨by rw [tmR_len]; omega, ?_⟩
    refine gO ?_
    refine AQ.fn (by kernel_rfl) rfl rfl rfl (termError_spec u b (tmsS_get hs0.2.2.1 hu)) rfl ?_
    refine gO ?_
    refine AP.cond rfl rfl (fun h5 => ?_) (fun h5 => ?_)
    · have h5 : ¬ wT u b = 0 := by simpa using h5
      rw [if_neg h5] at hm1
      rw [hm1, if_neg h5] at he
      refine gO ?_
      exact AE.ret0 rfl ⟨rfl, trivial⟩ rfl ⟨rfl, by rw [he]; rfl⟩
    · rw [if_pos (by simpa using h5)] at hm1
      refine gE @hw ?_
      exact AE.round (k + 1) ⟨by omega, hm1⟩ (by omega) (sU) rfl
termination_by SizeOf.sizeOf f
decreasing_by exact fm_mem hu
theorem underR_spec (f : Fm) (b : Int) (hs : fmS f) (hm : szF f ≤ 1000000000) (hb : 0 ≤ b ∧ b ≤ 1) : PFn Tryz.prog 104 [fmV f, Iv b] (Iv (unF f b)) := by
  have he : unF f b = if decide (szF f ≤ 4000 ∧ dpF f ≤ 100) = false then 4 else wF f b := by rw [unF, fitF_sz]
  refine ACall.walk [0, 1, 2, 4, 5, 6, 17] [] Tryz.func104 rfl Tryz.ntmps104 (by kernel_rfl) (by rfl) rfl fun W own I0 φ0 lay => ?_
  refine gO ?_
  refine AQ.fn (by kernel_rfl) rfl rfl rfl (fsize_spec f hm) rfl ?_
  refine gO ?_
  refine AP.cond rfl rfl (fun h => ?_) (fun h => ?_)
  · rw [if_pos (by simp only [Bool.or_eq_true, decide_eq_true_eq] at h; simp only [decide_eq_false_iff_not]; omega)] at he
    refine gO ?_
    exact AE.ret0 rfl ⟨rfl, trivial⟩ rfl ⟨rfl, by rw [he]; rfl⟩
  · rw [if_neg (by simp only [Bool.or_eq_false_iff, decide_eq_false_iff_not] at h; simp only [decide_eq_false_iff_not]; omega)] at he
    refine gO ?_
    refine AQ.fn (by kernel_rfl) rfl rfl rfl (formulaError_spec f b hs hm (by omega)) rfl ?_
    refine gO ?_
    exact AE.ret0 rfl ⟨rfl, trivial⟩ rfl ⟨rfl, by rw [he]; rfl⟩
theorem wellR_spec (f : Fm) (hs : fmS f) (hm : szF f ≤ 1000000000) : PFn Tryz.prog 45 [fmV f] (Iv (unF f 0)) := by
  refine ACall.walk [0, 1, 2] [] Tryz.func45 rfl Tryz.ntmps45 (by kernel_rfl) (by rfl) rfl fun W own I0 φ0 lay => ?_
  refine gO ?_
  refine AQ.fn (by kernel_rfl) rfl rfl rfl (underR_spec f 0 hs hm (by omega)) rfl ?_
  refine gO ?_
  exact AE.ret0 rfl ⟨rfl, trivial⟩ rfl ⟨rfl, rfl⟩
end Go.Proofs.YteacpafhmgdbkaaGreatDoor
end

section
namespace Go.Proofs.YteacpafhmgdbkaaGreatDoor
open Go Go.AL Go.RowKit
set_option maxRecDepth 10000
set_option maxHeartbeats 4000000
theorem sameTermR_spec (t v : Tm) (hs : tmS t) : PFn Tryz.prog 61 [tmV t, tmV v] (Bv (eqT t v)) := by
  have hs0 := tmS_eq.1 hs
  have he := eqT_eq t v
  refine ACall.walk [0, 1, 2, 3, 4, 5, 26, 31, 45] [] Tryz.func61 rfl Tryz.ntmps61 (by kernel_rfl) (by rfl) rfl fun W own I0 φ0 lay => ?_
  refine gE @tmR_len ?_
  refine AP.cond rfl rfl (fun h => ?_) (fun h => ?_)
  · have : eqT t v = false := by
      rw [he]
      by_cases hl : t.xs.length = v.xs.length
      · have : (t.nm == v.nm && t.ix == v.ix) = false := by
          by_cases hA : t.nm = v.nm
          · by_cases hB : t.ix = v.ix
            · simp [hA, hB, hl] at h
            · simp [hB]
          · simp [hA]
        rw [this, Bool.false_and]
      · rw [all2_len eqT _ _ hl, Bool.and_false]
    refine gO ?_
    exact AE.ret0 rfl ⟨rfl, trivial⟩ rfl ⟨rfl, by rw [this]; rfl⟩
  have hA : t.nm = v.nm := Classical.byContradiction fun hc => by simp [hc] at h
  have hB : t.ix = v.ix := Classical.byContradiction fun hc => by simp [hc] at h
  have hl : t.xs.length = v.xs.length := Classical.byContradiction fun hc => by simp [hA, hB] at h; omega
  have he : eqT t v = all2 eqT t.xs v.xs := by rw [he, hA, hB]; simp
  refine gO ?_
  refine AP.loop rfl (α := Nat) (fun k => [(2, .im (tmP t)), (3, .im (tmP v)), (5, Iv k)]) (fun _ => []) (fun k => k ≤ t.xs.length ∧ eqT t v = all2 eqT (t.xs.drop k) (v.xs.drop k)) (fun k => t.xs.length - k) 0 ⟨by omega, he⟩ (sU) rfl fun k ⟨hk, hm⟩ => ?_
  rcases Nat.eq_or_lt_of_le hk with hke | hlt
  · rw [hke, List.drop_length, hl, List.drop_length, all2] at hm
    refine gE @tmR_len ?_
    refine cF ?_
    refine gO ?_
    exact AE.ret0 rfl ⟨rfl, trivial⟩ rfl ⟨rfl, by rw [hm]; rfl⟩
  · obtain ⟨u, hu, hrow⟩ := tmR_get t.xs k hlt
    obtain ⟨w, hw1, hrow2⟩ := tmR_get v.xs k (by omega)
    rw [all2_drop eqT t.xs v.xs k u w hu hw1] at hm
    have hw := wr (x := (k : Int) + 1) (by omega)
    refine gE @tmR_len ?_
    refine cT ?_
    refine gO ?_
    refine AP.drawE 12 (Tree.node [] [0, 1, 2, 3, 4, 5, 6, 7, 8, 9] [10] [Tree.node [] [11] [] []]) (by kernel_rfl) rfl (by kernel_rfl) (by kernel_rfl) ?_
    refine vd_node ?_
    refine sE (an @hrow (an @hrow2 @tmR_len)) ?_
    refine ⟨by omega, by omega, ?_⟩
    refine AQ.fn (by kernel_rfl) rfl rfl rfl (sameTermR_spec u w (tmsS_get hs0.2.2 hu)) rfl ?_
    refine sI ?_
    refine AQ.nx rfl ?_
    refine sI ?_
    refine AQ.done ?_
    refine gO ?_
    refine AP.cond rfl rfl (fun h5 => ?_) (fun h5 => ?_)
    · have h5 : eqT u w = false := by simpa using h5
      rw [h5, Bool.false_and] at hm
      refine gO ?_
      exact AE.ret0 rfl ⟨rfl, trivial⟩ rfl ⟨rfl, by rw [hm]; rfl⟩
    · have h5 : eqT u w = true := by simpa using h5
      rw [h5, Bool.true_and] at hm
      refine gE @hw ?_
      exact AE.round (k + 1) ⟨by omega, hm⟩ (by omega) (sU) rfl
termination_by SizeOf.sizeOf t
decreasing_by exact tm_mem hu
theorem sameR_spec (t v : Fm) (hs : fmS t) : PFn Tryz.prog 19 [fmV t, fmV v] (Bv (eqF t v)) := by
  have hs0 := fmS_eq.1 hs
  have he := eqF_eq t v
  refine ACall.walk [0, 1, 2, 3, 4, 5, 6, 36, 41, 55, 60, 74] [] Tryz.func19 rfl Tryz.ntmps19 (by kernel_rfl) (by rfl) rfl fun W own I0 φ0 lay => ?_
  refine gE (an @tmR_len @fmR_len) ?_
  refine AP.cond rfl rfl (fun h => ?_) (fun h => ?_)
  · have : eqF t v = false := by
      rw [he]
      by_cases hl : t.ts.length = v.ts.length
      · by_cases hl2 : t.ps.length = v.ps.length
        · have : (t.k == v.k && t.nm == v.nm) = false := by
            by_cases hA : t.nm = v.nm
            · by_cases hB : t.k = v.k
              · simp [hA, hB, hl, hl2] at h
              · simp [hB]
            · simp [hA]
          rw [this, Bool.false_and, Bool.false_and]
        · rw [all2_len eqF _ _ hl2, Bool.and_false]
      · rw [all2_len eqT _ _ hl, Bool.and_false, Bool.false_and]
    refine gO ?_
    exact AE.ret0 rfl ⟨rfl, trivial⟩ rfl ⟨rfl, by rw [this]; rfl⟩
  have hA : t.nm = v.nm := Classical.byContradiction fun hc => by simp [hc] at h
  have hB : t.k = v.k := Classical.byContradiction fun hc => by simp [hc] at h
  have hl : t.ts.length = v.ts.length := Classical.byContradiction fun hc => by simp [hA, hB] at h; omega
  have hl2 : t.ps.length = v.ps.length := Classical.byContradiction fun hc => by simp [hA, hB] at h; omega
  have he : eqF t v = (all2 eqT t.ts v.ts && all2 eqF t.ps v.ps) := by rw [he, hA, hB]; simp
  refine gO ?_
  refine AP.loop rfl (α := Nat) (fun k => [(2, .im (fmP t)), (3, .im (fmP v)), (5, Iv k)]) (fun _ => []) (fun k => k ≤ t.ts.length ∧ all2 eqT t.ts v.ts = all2 eqT (t.ts.drop k) (v.ts.drop k)) (fun k => t.ts.length - k) 0 ⟨by omega, rfl⟩ (sU) rfl fun k ⟨hk, hm⟩ => ?_
  rcases Nat.eq_or_lt_of_le hk with hke | hlt
  · rw [hke, List.drop_length, hl, List.drop_length, all2] at hm
    rw [hm, Bool.true_and] at he
    refine gE @tmR_len ?_
    refine cF ?_
    refine gO ?_
    refine AP.loop rfl (α := Nat) (fun k => [(2, .im (fmP t)), (3, .im (fmP v)), (6, Iv k)]) (fun _ => []) (fun k => k ≤ t.ps.length ∧ eqF t v = all2 eqF (t.ps.drop k) (v.ps.drop k)) (fun k => t.ps.length - k) 0 ⟨by omega, he⟩ (sU) rfl fun k ⟨hk, hm⟩ => ?_
    rcases Nat.eq_or_lt_of_le hk with hke | hlt
    · rw [hke, List.drop_length, hl2, List.drop_length, all2] at hm
      refine gE @fmR_len ?_
      refine cF ?_
      refine gO ?_
      exact AE.ret0 rfl ⟨rfl, trivial⟩ rfl ⟨rfl, by rw [hm]; rfl⟩
    · obtain ⟨u, hu, hrow⟩ := fmR_get t.ps k hlt
      obtain ⟨w, hw1, hrow2⟩ := fmR_get v.ps k (by omega)
      rw [all2_drop eqF t.ps v.ps k u w hu hw1] at hm
      have hw := wr (x := (k : Int) + 1) (by omega)
      refine gE @fmR_len ?_
      refine cT ?_
      refine gO ?_
      refine AP.drawE 12 (Tree.node [] [0, 1, 2, 3, 4, 5, 6, 7, 8, 9] [10] [Tree.node [] [11] [] []]) (by kernel_rfl) rfl (by kernel_rfl) (by kernel_rfl) ?_
      refine vd_node ?_
      refine sE (an @hrow (an @hrow2 @fmR_len)) ?_
      refine ⟨by omega, by omega, ?_⟩
      refine AQ.fn (by kernel_rfl) rfl rfl rfl (sameR_spec u w (fmsS_get hs0.2.2.2.2 hu)) rfl ?_
      refine sI ?_
      refine AQ.nx rfl ?_
      refine sI ?_
      refine AQ.done ?_
      refine gO ?_
      refine AP.cond rfl rfl (fun h5 => ?_) (fun h5 => ?_)
      · have h5 : eqF u w = false := by simpa using h5
        rw [h5, Bool.false_and] at hm
        refine gO ?_
        exact AE.ret0 rfl ⟨rfl, trivial⟩ rfl ⟨rfl, by rw [hm]; rfl⟩
      · have h5 : eqF u w = true := by simpa using h5
        rw [h5, Bool.true_and] at hm
        refine gE @hw ?_
        exact AE.round (k + 1) ⟨by omega, hm⟩ (by omega) (sU) rfl
  · obtain ⟨u, hu, hrow⟩ := tmR_get t.ts k hlt
    obtain ⟨w, hw1, hrow2⟩ := tmR_get v.ts k (by omega)
    rw [all2_drop eqT t.ts v.ts k u w hu hw1] at hm
    have hw := wr (x := (k : Int) + 1) (by omega)
    refine gE @tmR_len ?_
    refine cT ?_
    refine gO ?_
    refine AP.drawE 12 (Tree.node [] [0, 1, 2, 3, 4, 5, 6, 7, 8, 9] [10] [Tree.node [] [11] [] []]) (by kernel_rfl) rfl (by kernel_rfl) (by kernel_rfl) ?_
    refine vd_node ?_
    refine sE (an @hrow (an @hrow2 @tmR_len)) ?_
    refine ⟨by omega, by omega, ?_⟩
    refine AQ.fn (by kernel_rfl) rfl rfl rfl (sameTermR_spec u w (tmsS_get hs0.2.2.1 hu)) rfl ?_
    refine sI ?_
    refine AQ.nx rfl ?_
    refine sI ?_
    refine AQ.done ?_
    refine gO ?_
    refine AP.cond rfl rfl (fun h5 => ?_) (fun h5 => ?_)
    · have h5 : eqT u w = false := by simpa using h5
      rw [h5, Bool.false_and] at hm
      rw [hm, Bool.false_and] at he
      refine gO ?_
      exact AE.ret0 rfl ⟨rfl, trivial⟩ rfl ⟨rfl, by rw [he]; rfl⟩
    · have h5 : eqT u w = true := by simpa using h5
      rw [h5, Bool.true_and] at hm
      refine gE @hw ?_
      exact AE.round (k + 1) ⟨by omega, hm⟩ (by omega) (sU) rfl
termination_by SizeOf.sizeOf t
decreasing_by exact fm_mem hu
end Go.Proofs.YteacpafhmgdbkaaGreatDoor
end

section
namespace Go.Proofs.YteacpafhmgdbkaaGreatDoor
open Go Go.AL Go.RowKit
set_option maxRecDepth 10000
set_option maxHeartbeats 4000000
abbrev Nm := List UInt8
def ltS (a b : Nm) : Bool := Op.bytesLess a b
def stR (l : List Nm) : List (List IV) := l.map fun s => [Si s]
theorem stR_len (l : List Nm) : (stR l).length = l.length := by simp [stR]
theorem stR_get (l : List Nm) (j : Nat) (h : j < l.length) : (stR l).getD j [] = [Si (l.getD j [])] := by
  simp [stR, List.getD_eq_getElem?_getD, h]
theorem stR_out (l : List Nm) (j : Nat) (h : l.length ≤ j) : (stR l).getD j [] = [] := by
  rw [List.getD_eq_getElem?_getD, List.getElem?_eq_none (by rw [stR_len]; exact h)]; rfl
theorem stR_take (l : List Nm) (n : Nat) : (stR l).take n = stR (l.take n) := by simp [stR]
theorem stR_drop (l : List Nm) (n : Nat) : (stR l).drop n = stR (l.drop n) := by simp [stR]
theorem stR_app (l m : List Nm) : stR l ++ stR m = stR (l ++ m) := by simp [stR]
theorem stR_one (s : Nm) : [[Si s]] = stR [s] := rfl
theorem stT (l : List Nm) (n : Nat) (h : l.length ≤ n) : (stR l).take n = stR l := List.take_of_length_le (by rw [stR_len]; exact h)
def rkS (s : Nm) : List Nm → Nat
  | [] => 0
  | e :: r => if ltS e s then rkS s r + 1 else 0
theorem rkS_le (s : Nm) : ∀ l, rkS s l ≤ l.length
  | [] => Nat.le_refl _
  | e :: r => by have := rkS_le s r; simp only [rkS]; split <;> simp <;> omega
def atS (s : Nm) (l : List Nm) : Bool := decide (rkS s l < l.length) && (l.getD (rkS s l) [] == s)
def putS (l : List Nm) (s : Nm) : List Nm := if atS s l then l else l.take (rkS s l) ++ [s] ++ l.drop (rkS s l)
def hasS (s : Nm) (l : List Nm) : Bool := l.any fun x => x == s
theorem hasS_put (s x : Nm) (l : List Nm) : hasS s (putS l x) = (x == s || hasS s l) := by
  unfold putS
  split
  · rename_i h
    simp only [atS, Bool.and_eq_true, decide_eq_true_eq, beq_iff_eq] at h
    cases hx : x == s with
    | false => rw [Bool.false_or]
    | true =>
      rw [Bool.true_or]
      simp only [beq_iff_eq] at hx
      subst hx
      unfold hasS
      rw [List.any_eq_true]
      refine ⟨x, ?_, by simp⟩
      rw [List.getD_eq_getElem?_getD, List.getElem?_eq_getElem h.1] at h
      have h2 := h.2
      simp only [Option.getD_some] at h2
      rw [← h2]
      exact List.getElem_mem h.1
  · unfold hasS
    rw [List.any_append, List.any_append]
    conv => rhs; rw [← List.take_append_drop (rkS x l) l, List.any_append]
    simp only [List.any_cons, List.any_nil, Bool.or_false]
    cases (List.take (rkS x l) l).any fun y => y == s <;> cases (x == s) <;> simp
theorem putS_len (l : List Nm) (s : Nm) : (putS l s).length ≤ l.length + 1 := by
  unfold putS
  have := rkS_le s l
  split
  · omega
  · simp only [List.length_append, List.length_take, List.length_drop, List.length_singleton]; omega
theorem has_spec (l : List Nm) (s : Nm) (hl : l.length ≤ 1000000000) : PFn Tryz.prog 156 [.im (.sl 1 (stR l)), Sv s] (Bv (hasS s l)) := by
  have key : ∀ v, v = hasS s l → PFn Tryz.prog 156 [.im (.sl 1 (stR l)), Sv s] (Bv v) := by
    intro v hv
    refine ACall.walk [0, 1, 4, 5, 9, 17] [] Tryz.func156 rfl Tryz.ntmps156 (by kernel_rfl) (by rfl) rfl fun W own I0 φ0 lay => ?_
    refine gO ?_
    refine AP.loop rfl (α := Nat) (fun k => [(0, .im (.sl 1 (stR l))), (1, Sv s), (5, Iv k)]) (fun _ => []) (fun k => k ≤ l.length ∧ v = hasS s (l.drop k)) (fun k => l.length - k) 0 ⟨by omega, hv⟩ (sU) rfl fun k ⟨hk, hm⟩ => ?_
    clear hv
    rcases Nat.eq_or_lt_of_le hk with hke | hlt
    · rw [hke, List.drop_length] at hm
      refine gE @stR_len ?_
      refine cF ?_
      refine gO ?_
      exact AE.ret0 rfl ⟨rfl, trivial⟩ rfl ⟨rfl, by rw [hm]; rfl⟩
    · have hg := stR_get l k hlt
      have hd : l.drop k = l.getD k [] :: l.drop (k + 1) := by
        rw [List.drop_eq_getElem_cons hlt, List.getD_eq_getElem?_getD, List.getElem?_eq_getElem hlt]; rfl
      have hm : v = (l.getD k [] == s || hasS s (l.drop (k + 1))) := by rw [hm, hd]; rfl
      clear hd
      have hw := wr (x := (k : Int) + 1) (by omega)
      refine gE @stR_len ?_
      refine cT ?_
      refine gE @hg ?_
      refine ⟨by rw [stR_len]; omega, ?_⟩
      refine gO ?_
      refine AP.cond rfl rfl (fun h5 => ?_) (fun h5 => ?_)
      · rw [h5, Bool.true_or] at hm
        refine gO ?_
        exact AE.ret0 rfl ⟨rfl, trivial⟩ rfl ⟨rfl, by rw [hm]; rfl⟩
      · rw [h5, Bool.false_or] at hm
        refine gE @hw ?_
        exact AE.round (k + 1) ⟨by omega, hm⟩ (by omega) (sU) rfl
  exact key _ rfl
theorem put_spec (l : List Nm) (s : Nm) (hl : l.length ≤ 1000000) : PFn Tryz.prog 234 [.im (.sl 1 (stR l)), Sv s] (.im (.sl 1 (stR (putS l s)))) := by
  have hrk := rkS_le s l
  refine ACall.walk [0, 1, 4, 5, 17, 31] [] Tryz.func234 rfl Tryz.ntmps234 (by kernel_rfl) (by rfl) rfl fun W own I0 φ0 lay => ?_
  refine gO ?_
  refine AP.loop rfl (α := Nat) (fun j => [(0, .im (.sl 1 (stR l))), (1, Sv s), (5, Iv j)]) (fun _ => []) (fun j => j ≤ l.length ∧ rkS s l = j + rkS s (l.drop j)) (fun j => l.length - j) 0 ⟨by omega, by simp⟩ (sU) rfl fun j ⟨hj, hi⟩ => ?_
  by_cases hc : j < l.length
  · have c1 : decide ((j : Int) < (l.length : Int)) = true := by simp; omega
    have hw := wr (x := (j : Int) + 1) (by omega)
    have hg := stR_get l j hc
    have hd : l.drop j = l.getD j [] :: l.drop (j + 1) := by
      rw [List.drop_eq_getElem_cons hc, List.getD_eq_getElem?_getD, List.getElem?_eq_getElem hc]; rfl
    rw [hd, rkS] at hi
    refine gE (an @stR_len (an @c1 (an @hg @hw))) ?_
    refine AP.cond rfl rfl (fun h1 => ?_) (fun h1 => ?_)
    · rw [if_pos (show ltS (l.getD j []) s = true from by simpa [BA_toList, ltS] using h1)] at hi
      refine gE @hw ?_
      exact AE.round (j + 1) ⟨by omega, by omega⟩ (by omega) (sU) rfl
    · rw [if_neg (show ¬ ltS (l.getD j []) s = true from by simpa [BA_toList, ltS] using h1), Nat.add_zero] at hi
      subst hi
      refine gE (an @stR_len (an @c1 @hg)) ?_
      refine AP.cond rfl rfl (fun h2 => ?_) (fun h2 => ?_)
      · have e : putS l s = l := by rw [putS, atS, h2, decide_eq_true hc]; rfl
        refine gO ?_
        exact AE.ret0 rfl ⟨rfl, trivial⟩ rfl ⟨rfl, by rw [e]; rfl⟩
      · have e : putS l s = l.take (rkS s l) ++ [s] ++ l.drop (rkS s l) := by rw [putS, atS, h2, Bool.and_false]; rfl
        rw [e]
        clear e hd h1
        generalize rkS s l = r at *
        have hln := take_len (l := l) (k := r) (by omega)
        refine gO ?_
        refine AP.drawE 13 (Tree.node [] [1, 2, 3, 5, 8, 9, 10] [0, 6] [Tree.node [1, 2, 3, 5, 8, 9, 10] [] [4, 6] [Tree.node [5, 8, 9, 10] [] [6] [Tree.node [8, 9, 10] [] [7] [Tree.node [8, 9, 10] [] [11] [Tree.node [] [12] [] []]]], Tree.node [1, 2, 3, 8, 9, 10] [] [4] [Tree.node [8, 9, 10] [] [7] [Tree.node [8, 9, 10] [] [11] [Tree.node [] [12] [] []]]]], Tree.node [1, 2, 3, 8, 9, 10] [] [0] [Tree.node [1, 2, 3, 8, 9, 10] [] [4] [Tree.node [8, 9, 10] [] [7] [Tree.node [8, 9, 10] [] [11] [Tree.node [] [12] [] []]]]]]) (by kernel_rfl) rfl (by kernel_rfl) (by kernel_rfl) ?_
        refine vd_node ?_
        refine sE (an @stR_len (an @Int.toNat_natCast (an @stR_take @stR_drop))) ?_
        repeat' (first | with_reducible exact True.intro | with_reducible refine And.intro (by omega) ?_ | with_reducible refine And.intro ?_ ?_ | (refine AQ.nx rfl ?_; simp only [go_sem, Nat.reduceAdd, Nat.reduceLeDiff, Nat.reduceSub, Int.reduceToNat, reduceCtorEq, stR_len, Int.toNat_natCast, stR_take, stR_drop, hln, stR_app, stR_one, List.nil_append, List.length_drop]) | (refine AQ.append (hnb := rfl) (rows := []) (es := 0) (by kernel_rfl) rfl rfl rfl (by rfl) Tryz.tk67 Tryz.sz9 (by show Option.map _ (zro Tryz.prog 9) = _; rw [Tryz.zr9]; rfl) Tryz.by9 (by first | rfl | (simp only [stR_len, List.length_take, List.length_cons, List.length_nil]; done) | (simp only [stR_len, List.length_take, List.length_cons, List.length_nil]; omega)) (by simp only [stR_len, List.length_take, List.length_cons, List.length_nil]; omega) (by simp only [stR_len, List.length_take, List.length_cons, List.length_nil]; omega) ?_; refine sE (an @List.nil_append.{0} (an @stR_len @hln)) ?_) | (refine AQ.append (hnb := rfl) (rows := stR (l.take r)) (es := 0) (by kernel_rfl) rfl rfl rfl (by rfl) Tryz.tk67 Tryz.sz9 (by show Option.map _ (zro Tryz.prog 9) = _; rw [Tryz.zr9]; rfl) Tryz.by9 (by first | rfl | (simp only [stR_len, hln, List.length_cons, List.length_nil]; done) | (simp only [stR_len, hln, List.length_cons, List.length_nil]; omega)) (by simp only [stR_len, hln, List.length_cons, List.length_nil]; omega) (by simp only [stR_len, hln, List.length_cons, List.length_nil]; omega) ?_; refine sE (an @stR_app (an @stR_one (an @stR_len (an @hln @List.length_append.{0})))) ?_) | (refine AQ.append (hnb := rfl) (rows := stR (l.take r ++ [s])) (es := 0) (by kernel_rfl) rfl rfl rfl (by rfl) Tryz.tk67 Tryz.sz9 (by show Option.map _ (zro Tryz.prog 9) = _; rw [Tryz.zr9]; rfl) Tryz.by9 (by first | rfl | (simp only [stR_len, List.length_append, List.length_drop, hln, List.length_cons, List.length_nil]; done) | (simp only [stR_len, List.length_append, List.length_drop, hln, List.length_cons, List.length_nil]; omega)) (by simp only [stR_len, List.length_append, List.length_drop, hln, List.length_cons, List.length_nil]; omega) (by simp only [stR_len, List.length_append, List.length_drop, hln, List.length_cons, List.length_nil]; omega) ?_; simp only [go_sem, Nat.reduceAdd, Nat.reduceLeDiff, Nat.reduceSub, Int.reduceToNat, reduceCtorEq, stR_app, stR_len, hln, List.length_drop, List.length_append]) | refine AQ.done ?_ | (refine AQ.go (by kernel_rfl) ?_; simp only [go_sem, Nat.reduceAdd, Nat.reduceLeDiff, Nat.reduceSub, Int.reduceToNat, reduceCtorEq, stR_len, Int.toNat_natCast, stR_take, stR_drop, hln, stR_app, stR_one, List.nil_append, List.length_drop]; repeat (with_reducible refine And.intro (by omega) ?_); refine AQ.nx rfl ?_; simp only [go_sem, Nat.reduceAdd, Nat.reduceLeDiff, Nat.reduceSub, Int.reduceToNat, reduceCtorEq, stR_len, Int.toNat_natCast, stR_take, stR_drop, hln, stR_app, stR_one, List.nil_append, List.length_drop]))
        all_goals refine gO ?_
        all_goals refine AE.freeze 0 (el := 9) (es := 1) (rows := stR (l.take r ++ [s] ++ l.drop r)) rfl (by simp only [go_sem, Nat.reduceAdd, Nat.reduceLeDiff, Nat.reduceSub, Int.reduceToNat, reduceCtorEq, stR_len, List.length_append, hln, List.length_drop]; first | done | trivial | omega | (simp; done) | (simp; omega)) (by simp only [go_sem, Nat.reduceAdd, Nat.reduceLeDiff, Nat.reduceSub, Int.reduceToNat, reduceCtorEq, stR_len, List.length_append, hln, List.length_drop]; first | done | trivial | omega | (simp; done) | (simp; omega)) ?_; simp only [go_sem, Nat.reduceAdd, Nat.reduceLeDiff, Nat.reduceSub, Int.reduceToNat, reduceCtorEq, stR_len, List.length_append, hln, List.length_drop]
        all_goals exact AE.ret0 rfl ⟨rfl, trivial⟩ rfl ⟨rfl, by rw [stT _ _ (by simp [hln]; omega)]; rfl⟩
  · have c1 : decide ((j : Int) < (l.length : Int)) = false := by simp; omega
    have e : j = l.length := by omega
    rw [List.drop_eq_nil_of_le (by omega), rkS, Nat.add_zero] at hi
    have hg := stR_out l j (by omega)
    repeat (first | refine xA ?_ | refine xB ?_ | refine xC ?_ | refine xE ?_ | refine xD ?_ | refine xK ?_ | refine xS ?_ | refine xM ?_ | refine xT ?_ | refine xF ?_ | ((first | refine xR ?_ | refine xW ?_ | refine vq_id ?_); simp only [go_sem, Nat.reduceAdd, Nat.reduceLeDiff, Nat.reduceSub, Int.reduceToNat, reduceCtorEq, stR_len, c1, hg, List.take_nil]) | (refine ⟨by first | omega | (intros; simp_all; done) | (intros; simp_all; omega), ?_⟩; try simp only [go_sem, Nat.reduceAdd, Nat.reduceLeDiff, Nat.reduceSub, Int.reduceToNat, reduceCtorEq, stR_len, c1, hg, List.take_nil]))
    subst hi
    have e2 : putS l s = l.take (rkS s l) ++ [s] ++ l.drop (rkS s l) := by rw [putS, atS, decide_eq_false hc]; rfl
    rw [e2]
    clear e2
    generalize rkS s l = r at *
    have hln := take_len (l := l) (k := r) (by omega)
    refine AP.drawE 13 (Tree.node [] [1, 2, 3, 5, 8, 9, 10] [0, 6] [Tree.node [1, 2, 3, 5, 8, 9, 10] [] [4, 6] [Tree.node [5, 8, 9, 10] [] [6] [Tree.node [8, 9, 10] [] [7] [Tree.node [8, 9, 10] [] [11] [Tree.node [] [12] [] []]]], Tree.node [1, 2, 3, 8, 9, 10] [] [4] [Tree.node [8, 9, 10] [] [7] [Tree.node [8, 9, 10] [] [11] [Tree.node [] [12] [] []]]]], Tree.node [1, 2, 3, 8, 9, 10] [] [0] [Tree.node [1, 2, 3, 8, 9, 10] [] [4] [Tree.node [8, 9, 10] [] [7] [Tree.node [8, 9, 10] [] [11] [Tree.node [] [12] [] []]]]]]) (by kernel_rfl) rfl (by kernel_rfl) (by kernel_rfl) ?_
    refine vd_node ?_
    refine sE (an @stR_len (an @Int.toNat_natCast (an @stR_take @stR_drop))) ?_
    repeat' (first | with_reducible exact True.intro | with_reducible refine And.intro (by omega) ?_ | with_reducible refine And.intro ?_ ?_ | (refine AQ.nx rfl ?_; simp only [go_sem, Nat.reduceAdd, Nat.reduceLeDiff, Nat.reduceSub, Int.reduceToNat, reduceCtorEq, stR_len, Int.toNat_natCast, stR_take, stR_drop, hln, stR_app, stR_one, List.nil_append, List.length_drop]) | (refine AQ.append (hnb := rfl) (rows := []) (es := 0) (by kernel_rfl) rfl rfl rfl (by rfl) Tryz.tk67 Tryz.sz9 (by show Option.map _ (zro Tryz.prog 9) = _; rw [Tryz.zr9]; rfl) Tryz.by9 (by first | rfl | (simp only [stR_len, List.length_take, List.length_cons, List.length_nil]; done) | (simp only [stR_len, List.length_take, List.length_cons, List.length_nil]; omega)) (by simp only [stR_len, List.length_take, List.length_cons, List.length_nil]; omega) (by simp only [stR_len, List.length_take, List.length_cons, List.length_nil]; omega) ?_; refine sE (an @List.nil_append.{0} (an @stR_len @hln)) ?_) | (refine AQ.append (hnb := rfl) (rows := stR (l.take r)) (es := 0) (by kernel_rfl) rfl rfl rfl (by rfl) Tryz.tk67 Tryz.sz9 (by show Option.map _ (zro Tryz.prog 9) = _; rw [Tryz.zr9]; rfl) Tryz.by9 (by first | rfl | (simp only [stR_len, hln, List.length_cons, List.length_nil]; done) | (simp only [stR_len, hln, List.length_cons, List.length_nil]; omega)) (by simp only [stR_len, hln, List.length_cons, List.length_nil]; omega) (by simp only [stR_len, hln, List.length_cons, List.length_nil]; omega) ?_; refine sE (an @stR_app (an @stR_one (an @stR_len (an @hln @List.length_append.{0})))) ?_) | (refine AQ.append (hnb := rfl) (rows := stR (l.take r ++ [s])) (es := 0) (by kernel_rfl) rfl rfl rfl (by rfl) Tryz.tk67 Tryz.sz9 (by show Option.map _ (zro Tryz.prog 9) = _; rw [Tryz.zr9]; rfl) Tryz.by9 (by first | rfl | (simp only [stR_len, List.length_append, List.length_drop, hln, List.length_cons, List.length_nil]; done) | (simp only [stR_len, List.length_append, List.length_drop, hln, List.length_cons, List.length_nil]; omega)) (by simp only [stR_len, List.length_append, List.length_drop, hln, List.length_cons, List.length_nil]; omega) (by simp only [stR_len, List.length_append, List.length_drop, hln, List.length_cons, List.length_nil]; omega) ?_; simp only [go_sem, Nat.reduceAdd, Nat.reduceLeDiff, Nat.reduceSub, Int.reduceToNat, reduceCtorEq, stR_app, stR_len, hln, List.length_drop, List.length_append]) | refine AQ.done ?_ | (refine AQ.go (by kernel_rfl) ?_; simp only [go_sem, Nat.reduceAdd, Nat.reduceLeDiff, Nat.reduceSub, Int.reduceToNat, reduceCtorEq, stR_len, Int.toNat_natCast, stR_take, stR_drop, hln, stR_app, stR_one, List.nil_append, List.length_drop]; repeat (with_reducible refine And.intro (by omega) ?_); refine AQ.nx rfl ?_; simp only [go_sem, Nat.reduceAdd, Nat.reduceLeDiff, Nat.reduceSub, Int.reduceToNat, reduceCtorEq, stR_len, Int.toNat_natCast, stR_take, stR_drop, hln, stR_app, stR_one, List.nil_append, List.length_drop]))
    all_goals refine gO ?_
    all_goals refine AE.freeze 0 (el := 9) (es := 1) (rows := stR (l.take r ++ [s] ++ l.drop r)) rfl (by simp only [go_sem, Nat.reduceAdd, Nat.reduceLeDiff, Nat.reduceSub, Int.reduceToNat, reduceCtorEq, stR_len, List.length_append, hln, List.length_drop]; first | done | trivial | omega | (simp; done) | (simp; omega)) (by simp only [go_sem, Nat.reduceAdd, Nat.reduceLeDiff, Nat.reduceSub, Int.reduceToNat, reduceCtorEq, stR_len, List.length_append, hln, List.length_drop]; first | done | trivial | omega | (simp; done) | (simp; omega)) ?_; simp only [go_sem, Nat.reduceAdd, Nat.reduceLeDiff, Nat.reduceSub, Int.reduceToNat, reduceCtorEq, stR_len, List.length_append, hln, List.length_drop]
    all_goals exact AE.ret0 rfl ⟨rfl, trivial⟩ rfl ⟨rfl, by rw [stT _ _ (by simp [hln]; omega)]; rfl⟩
end Go.Proofs.YteacpafhmgdbkaaGreatDoor
end

section
namespace Go.Proofs
open Go.Shelf
def Tryz.lays156_ren : Go.Shelf.Ren := ⟨fun | 156 => 52 | 165 => 109 | 166 => 110 | 169 => 111 | 240 => 183 | 241 => 184 | 276 => 239 | 277 => 240 | n => n, fun | 31 => 67 | 9 => 9 | 3 => 3 | 4 => 4 | 0 => 0 | 20 => 20 | 72 => 180 | 76 => 184 | 70 => 177 | 37 => 178 | 75 => 183 | 127 => 250 | 164 => 285 | 5 => 5 | 80 => 186 | n => n, fun | n => n⟩
theorem Tryz.lays156 : Go.Proofs.Lays.n156 Tryz.prog Tryz.lays156_ren := {
  mixed := by kernel_rfl
  f156 := Tryz.func52.trans (congrArg some (by kernel_rfl))
  f165 := Tryz.func109.trans (congrArg some (by kernel_rfl))
  f166 := Tryz.func110.trans (congrArg some (by kernel_rfl))
  f169 := Tryz.func111.trans (congrArg some (by kernel_rfl))
  f240 := Tryz.func183.trans (congrArg some (by kernel_rfl))
  f241 := Tryz.func184.trans (congrArg some (by kernel_rfl))
  f276 := Tryz.func239.trans (congrArg some (by kernel_rfl))
  f277 := Tryz.func240.trans (congrArg some (by kernel_rfl))
  t0 := Tryz.underlying0
  a0 := Tryz.isAgg0
  z0 := Tryz.sizeOf0
  v0 := Tryz.zeroValue0
  t3 := Tryz.underlying3
  a3 := Tryz.isAgg3
  z3 := Tryz.sizeOf3
  v3 := Tryz.zeroValue3
  t4 := Tryz.underlying4
  a4 := Tryz.isAgg4
  z4 := Tryz.sizeOf4
  v4 := Tryz.zeroValue4
  t9 := Tryz.underlying9
  a9 := Tryz.isAgg9
  z9 := Tryz.sizeOf9
  v9 := Tryz.zeroValue9
  t20 := Tryz.underlying20
  a20 := Tryz.isAgg20
  z20 := Tryz.sizeOf20
  v20 := Tryz.zeroValue20
  t31 := Tryz.underlying67
  a31 := Tryz.isAgg67
  z31 := Tryz.sizeOf67
  v31 := Tryz.zeroValue67
  t37 := Tryz.underlying178
  a37 := Tryz.isAgg178
  z37 := Tryz.sizeOf178
  v37 := Tryz.zeroValue178
  t70 := Tryz.underlying177
  a70 := Tryz.isAgg177
  z70 := Tryz.sizeOf177
  v70 := Tryz.zeroValue177
  t72 := Tryz.underlying180
  a72 := Tryz.isAgg180
  z72 := Tryz.sizeOf180
  v72 := Tryz.zeroValue180
  t75 := Tryz.underlying183
  a75 := Tryz.isAgg183
  z75 := Tryz.sizeOf183
  v75 := Tryz.zeroValue183
  t76 := Tryz.underlying184
  a76 := Tryz.isAgg184
  z76 := Tryz.sizeOf184
  v76 := Tryz.zeroValue184
  t127 := Tryz.underlying250
  a127 := Tryz.isAgg250
  z127 := Tryz.sizeOf250
  v127 := Tryz.zeroValue250
  t164 := Tryz.underlying285
  a164 := Tryz.isAgg285
  z164 := Tryz.sizeOf285
  v164 := Tryz.zeroValue285 }
theorem Tryz.Builder_Extra_156 : Builder.Extra Tryz.prog Tryz.lays156_ren := {
  sizeBuilder := by kernel_rfl
  liesBuilder := by kernel_rfl
  t5 := Tryz.underlying5
  a5 := Tryz.isAgg5
  z5 := Tryz.sizeOf5
  v5 := Tryz.zeroValue5
  infoByte := by kernel_rfl
  cellsByte := by kernel_rfl
  sizeByte := by kernel_rfl
  neB5 := by decide }
open Go.RowKit in
theorem Tryz.strings_Join_none (a : Option Addr) (c : Nat) (sep : ByteArray) (w : World) :
    Calls Tryz.prog 52 #[.slice a 0 c, .string sep] w fun e w' => e = .returned (.string ⟨#[]⟩) ∧ w' = w := Any.strings_Join_none Tryz.lays156 Tryz.Builder_Extra_156 a c sep w
open Go.RowKit in
theorem Tryz.strings_Join (bk o c : Nat) (xs : List ByteArray) (sep : ByteArray) (w : World) (hcells : ∀ (j : Nat) x, xs[j]? = some x → w.cell? ⟨bk, o + j, none⟩ = some (.string x)) (hbk : bk < w.heap.size) (hN : xs.length ≤ 140737488355328) (hcap : xs.length ≤ c) (hlen : (Lib.join (xs.map (·.data.toList)) sep.data.toList).length ≤ 140737488355328) :
    Calls Tryz.prog 52 #[.slice (some ⟨bk, o, none⟩) xs.length c, .string sep] w fun e w' => e = .returned (.string ⟨(Lib.join (xs.map (·.data.toList)) sep.data.toList).toArray⟩) ∧ Below w.heap.size w w' := Any.strings_Join Tryz.lays156 Tryz.Builder_Extra_156 bk o c xs sep w hcells hbk hN hcap hlen
def Tryz.laysM171_ren : Go.Shelf.Ren := ⟨fun | 171 => 157 | 243 => 216 | 246 => 247 | 283 => 263 | 284 => 264 | 285 => 265 | 286 => 266 | 129 => 231 | 317 => 270 | 318 => 271 | 319 => 272 | 320 => 273 | 337 => 274 | 338 => 275 | n => n, fun | 3 => 3 | 9 => 9 | 2 => 2 | 4 => 4 | 171 => 298 | 0 => 0 | 53 => 278 | 37 => 178 | 5 => 5 | 173 => 300 | 212 => 310 | 51 => 276 | 20 => 20 | 213 => 311 | 46 => 244 | 232 => 313 | 233 => 314 | n => n, fun | 17 => 3 | 18 => 4 | 19 => 5 | n => n⟩
theorem Tryz.laysM171 : Go.Proofs.LaysM.n171 Tryz.prog Tryz.laysM171_ren := {
  mixed := by kernel_rfl
  f129 := Tryz.func231.trans (congrArg some (by kernel_rfl))
  f171 := Tryz.func157.trans (congrArg some (by kernel_rfl))
  f243 := Tryz.func216.trans (congrArg some (by kernel_rfl))
  f246 := Tryz.func247.trans (congrArg some (by kernel_rfl))
  f283 := Tryz.func263.trans (congrArg some (by kernel_rfl))
  f284 := Tryz.func264.trans (congrArg some (by kernel_rfl))
  f285 := Tryz.func265.trans (congrArg some (by kernel_rfl))
  f286 := Tryz.func266.trans (congrArg some (by kernel_rfl))
  f317 := Tryz.func270.trans (congrArg some (by kernel_rfl))
  f318 := Tryz.func271.trans (congrArg some (by kernel_rfl))
  f319 := Tryz.func272.trans (congrArg some (by kernel_rfl))
  f320 := Tryz.func273.trans (congrArg some (by kernel_rfl))
  f337 := Tryz.func274.trans (congrArg some (by kernel_rfl))
  f338 := Tryz.func275.trans (congrArg some (by kernel_rfl))
  t0 := Tryz.underlying0
  a0 := Tryz.isAgg0
  z0 := Tryz.sizeOf0
  v0 := Tryz.zeroValue0
  t2 := Tryz.underlying2
  a2 := Tryz.isAgg2
  z2 := Tryz.sizeOf2
  v2 := Tryz.zeroValue2
  t3 := Tryz.underlying3
  a3 := Tryz.isAgg3
  z3 := Tryz.sizeOf3
  v3 := Tryz.zeroValue3
  t4 := Tryz.underlying4
  a4 := Tryz.isAgg4
  z4 := Tryz.sizeOf4
  v4 := Tryz.zeroValue4
  t5 := Tryz.underlying5
  a5 := Tryz.isAgg5
  z5 := Tryz.sizeOf5
  v5 := Tryz.zeroValue5
  t9 := Tryz.underlying9
  a9 := Tryz.isAgg9
  z9 := Tryz.sizeOf9
  v9 := Tryz.zeroValue9
  t20 := Tryz.underlying20
  a20 := Tryz.isAgg20
  z20 := Tryz.sizeOf20
  v20 := Tryz.zeroValue20
  t37 := Tryz.underlying178
  a37 := Tryz.isAgg178
  z37 := Tryz.sizeOf178
  v37 := Tryz.zeroValue178
  t46 := Tryz.underlying244
  a46 := Tryz.isAgg244
  z46 := Tryz.sizeOf244
  v46 := Tryz.zeroValue244
  t51 := Tryz.underlying276
  a51 := Tryz.isAgg276
  z51 := Tryz.sizeOf276
  v51 := Tryz.zeroValue276
  t53 := Tryz.underlying278
  a53 := Tryz.isAgg278
  z53 := Tryz.sizeOf278
  v53 := Tryz.zeroValue278
  t171 := Tryz.underlying298
  a171 := Tryz.isAgg298
  z171 := Tryz.sizeOf298
  v171 := Tryz.zeroValue298
  t173 := Tryz.underlying300
  a173 := Tryz.isAgg300
  z173 := Tryz.sizeOf300
  v173 := Tryz.zeroValue300
  t212 := Tryz.underlying310
  a212 := Tryz.isAgg310
  z212 := Tryz.sizeOf310
  v212 := Tryz.zeroValue310
  t213 := Tryz.underlying311
  a213 := Tryz.isAgg311
  z213 := Tryz.sizeOf311
  t232 := Tryz.underlying313
  a232 := Tryz.isAgg313
  z232 := Tryz.sizeOf313
  v232 := Tryz.zeroValue313
  t233 := Tryz.underlying314
  a233 := Tryz.isAgg314
  z233 := Tryz.sizeOf314
  v233 := Tryz.zeroValue314
  g17 := by kernel_rfl
  g18 := by kernel_rfl
  g19 := by kernel_rfl
  i0 := by kernel_rfl
  i2 := by kernel_rfl
  i3 := by kernel_rfl
  i4 := by kernel_rfl
  i5 := by kernel_rfl
  i9 := by kernel_rfl
  i20 := by kernel_rfl
  i37 := by kernel_rfl
  i46 := by kernel_rfl
  i51 := by kernel_rfl
  i53 := by kernel_rfl
  i171 := by kernel_rfl
  i173 := by kernel_rfl
  i212 := by kernel_rfl
  i232 := by kernel_rfl
  i233 := by kernel_rfl
  m17 := by kernel_rfl
  m18 := by kernel_rfl
  m19 := by kernel_rfl }
open Go.RowKit Go.Sort Go.Lib in
theorem Tryz.strconv_Itoa (n : Int) (h0 : -9223372036854775808 ≤ n) (h1 : n ≤ 9223372036854775807) (w : World) (htab : Lib.TabIs Tryz.prog w "internal/strconv.uint64pow10" .u64 Lib.pow10Tab) :
    Calls Tryz.prog 157 #[.int .i64 n] w fun e w' => e = .returned (.string ⟨(Lib.itoa n).toArray⟩) ∧ ∃ k os, w' = grow (w.drewN k) os := Any.strconv_Itoa Tryz.laysM171 n h0 h1 w htab
end Go.Proofs
namespace Go.Proofs.YteacpafhmgdbkaaGreatDoor
open Go Go.AL Go.RowKit Go.Shelf Go.Sort Go.Proofs
set_option maxRecDepth 10000
set_option maxHeartbeats 4000000
theorem stR_denss {w : World} {I : Nat → Prop} : ∀ (l : List Nm) (vss : List (List Value)), IV.denss w I (stR l) vss → vss.flatten = l.map fun s => Value.string (BA s)
  | [], vss, h => by simp only [stR, List.map_nil, IV.denss] at h; subst h; rfl
  | x :: l, vss, h => by
    simp only [stR, List.map_cons, IV.denss, IV.dens, IV.den] at h
    obtain ⟨u, us', rfl, ⟨v, vs, rfl, ⟨rfl, _⟩, rfl⟩, h2⟩ := h
    have := stR_denss l us' h2
    simp [this]
def joinB (l : List Nm) : Nm := Lib.join l [32]
theorem join_ba (l : List Nm) : Lib.join ((l.map BA).map (·.data.toList)) (BA [32]).data.toList = joinB l := by
  have e : (l.map BA).map (·.data.toList) = l := by simp [List.map_map, Function.comp_def, BA]
  rw [e]; rfl
theorem join_spec (l : List Nm) (hl : l.length ≤ 1000000000) (hb : (joinB l).length ≤ 1000000000) : PFn Tryz.prog 52 [.im (.sl 1 (stR l)), Sv [32]] (Sv (joinB l)) := by
  refine PFn.of_below (by rfl) rfl fun w φ I vs hd hI => ?_
  simp only [AV.dens, AV.den, IV.den] at hd
  obtain ⟨u, us, rfl, ⟨p, c, vss, rfl, hc, hr, _, hcell⟩, v, us', rfl, ⟨rfl, _⟩, rfl⟩ := hd
  have hfl := stR_denss l vss hr
  have hden : ∀ w' : World, AV.den w' φ I (Sv (joinB l)) (.string (BA (joinB l))) := fun w' => by rw [den_s]
  rw [stR_len] at hc ⊢
  cases l with
  | nil =>
    refine (Tryz.strings_Join_none p c (BA [32]) w).mono fun e w' ⟨he, hw⟩ => ⟨_, he, hden w', by rw [hw]; exact Below.refl _ w⟩
  | cons x r =>
    obtain ⟨g, off, rfl, hg, hat⟩ := hcell (by simp [stR])
    rw [hfl] at hat
    have := Tryz.strings_Join g off c ((x :: r).map BA) (BA [32]) w (fun j y hy => hat j _ (by rw [List.getElem?_map] at hy ⊢; cases h : (x :: r)[j]? with | none => rw [h] at hy; cases hy | some z => rw [h] at hy; cases hy; rfl)) (hI g hg) (by rw [List.length_map]; omega) (by rw [List.length_map]; exact hc) (by rw [join_ba]; omega)
    rw [join_ba, List.length_map] at this
    exact this.mono fun e w' ⟨he, hw⟩ => ⟨_, he, hden w', hw⟩
theorem var_of {P : Program} {w : World} {I : Nat → Prop} {n : String} {Q : Obj → Prop} (hV : VK P w I) (hm : (n, Q) ∈ laidVars) (hs : (P.globalNamed n).isSome = true) : ∃ g o, P.globalNamed n = some g ∧ w.heap[g]? = some o ∧ Q o := by
  obtain ⟨g, hg⟩ := Option.isSome_iff_exists.1 hs
  obtain ⟨_, o, h1, h2⟩ := hV _ hm g hg
  exact ⟨g, o, hg, h1, h2⟩
theorem itoa_spec (n : Int) (h : -9223372036854775808 ≤ n ∧ n ≤ 9223372036854775807) : PFn Tryz.prog 157 [Iv n] (Sv (Lib.itoa n)) := by
  refine PFn.of_belowV (by rfl) rfl fun w φ I vs hd hI hV => ?_
  simp only [AV.dens] at hd
  obtain ⟨u, us, rfl, hu, rfl⟩ := hd
  rw [den_i] at hu
  subst hu
  obtain ⟨g, o, hg, ho, T, fz, rfl⟩ := var_of (n := "internal/strconv.uint64pow10") hV (by simp only [laidVars, List.mem_cons]; exact .inr (.inr (.inl rfl))) (by rfl)
  refine (Tryz.strconv_Itoa n h.1 h.2 w (by simp only [Lib.TabIs, World.var?, hg, Option.bind_some, ho]; rfl)).mono fun e w' ⟨he, k, os, hw⟩ => ⟨_, he, by rw [den_s]; rfl, ?_⟩
  subst hw
  refine ⟨rfl, rfl, rfl, ?_, fun j hj => ?_⟩
  · rw [size_grow]; exact Nat.le_add_right _ _
  · show (w.heap ++ os)[j]? = _
    rw [Array.getElem?_append_left hj]
end Go.Proofs.YteacpafhmgdbkaaGreatDoor
end

section
namespace Go.Proofs.YteacpafhmgdbkaaGreatDoor
open Go Go.AL Go.RowKit
set_option maxRecDepth 10000
set_option maxHeartbeats 4000000
theorem PFn.argW {P : Program} {f : FuncId} {xs ys : List AV} {r : AV} (h : PFn P f xs r) (ha : ∀ w φ I vs, AV.dens w φ I ys vs → AV.dens w φ I xs vs) : PFn P f ys r :=
  ⟨h.ent, fun w φ I vs hd hR hV => h.run w φ I vs (ha w φ I vs hd) hR hV⟩
mutual
def frT : Tm → List Nm → List Nm
  | .mk n _ xs, o => if (!(n == []) && (xs.length : Int) == 0) = true then putS o n else frTs xs o
def frTs : List Tm → List Nm → List Nm
  | [], o => o
  | t :: l, o => frTs l (frT t o)
end
mutual
def frF : Fm → List Nm → List Nm
  | .mk _ _ ts ps, o => frFs ps (frTs ts o)
def frFs : List Fm → List Nm → List Nm
  | [], o => o
  | t :: l, o => frFs l (frF t o)
end
theorem frT_eq (t : Tm) (o : List Nm) : frT t o = if (!(t.nm == []) && (t.xs.length : Int) == 0) = true then putS o t.nm else frTs t.xs o := by cases t; rw [frT]; rfl
theorem frF_eq (t : Fm) (o : List Nm) : frF t o = frFs t.ps (frTs t.ts o) := by cases t; rw [frF]; rfl
theorem frTs_drop (l : List Tm) (k : Nat) (t : Tm) (h : l[k]? = some t) (o : List Nm) : frTs (l.drop k) o = frTs (l.drop (k + 1)) (frT t o) := by
  obtain ⟨h1, e1⟩ := List.getElem?_eq_some_iff.1 h
  rw [List.drop_eq_getElem_cons h1, e1, frTs]
theorem frFs_drop (l : List Fm) (k : Nat) (t : Fm) (h : l[k]? = some t) (o : List Nm) : frFs (l.drop k) o = frFs (l.drop (k + 1)) (frF t o) := by
  obtain ⟨h1, e1⟩ := List.getElem?_eq_some_iff.1 h
  rw [List.drop_eq_getElem_cons h1, e1, frFs]
mutual
theorem frT_len : ∀ (t : Tm) (o : List Nm), (frT t o).length ≤ o.length + szT t
  | .mk n _ xs, o => by
    rw [frT, szT]
    split
    · have := putS_len o n; omega
    · have := frTs_len xs o; omega
theorem frTs_len : ∀ (l : List Tm) (o : List Nm), (frTs l o).length ≤ o.length + szTs l
  | [], o => by rw [frTs, szTs]; omega
  | t :: l, o => by rw [frTs, szTs]; have := frT_len t o; have := frTs_len l (frT t o); omega
end
mutual
theorem frF_len : ∀ (t : Fm) (o : List Nm), (frF t o).length ≤ o.length + szF t
  | .mk _ _ ts ps, o => by
    rw [frF, szF]
    have := frTs_len ts o; have := frFs_len ps (frTs ts o); omega
theorem frFs_len : ∀ (l : List Fm) (o : List Nm), (frFs l o).length ≤ o.length + szFs l
  | [], o => by rw [frFs, szFs]; omega
  | t :: l, o => by rw [frFs, szFs]; have := frF_len t o; have := frFs_len l (frF t o); omega
end
theorem termFree_spec (t : Tm) (o : List Nm) (hs : tmS t) (hz : szT t + o.length ≤ 1000000) : PFn Tryz.prog 179 [tmV t, .im (.sl 1 (stR o))] (.im (.sl 1 (stR (frT t o)))) := by
  have hs0 := tmS_eq.1 hs
  have he := frT_eq t o
  have hsz := szT_eq t
  refine ACall.walk [0, 1, 2, 4, 5, 14, 23] [] Tryz.func179 rfl Tryz.ntmps179 (by kernel_rfl) (by rfl) rfl fun W own I0 φ0 lay => ?_
  refine gE @tmR_len ?_
  refine AP.cond rfl rfl (fun h => ?_) (fun h => ?_)
  · rw [if_pos h] at he
    refine gO ?_
    refine AQ.fn (by kernel_rfl) rfl rfl rfl (put_spec o t.nm (by omega)) rfl ?_
    refine gO ?_
    exact AE.ret0 rfl ⟨rfl, trivial⟩ rfl ⟨rfl, by rw [he]; rfl⟩
  · rw [if_neg (by rw [h]; exact Bool.false_ne_true)] at he
    obtain ⟨w, hw0⟩ : ∃ w, w = frT t o := ⟨_, rfl⟩
    rw [← hw0] at he ⊢
    clear hw0 h
    refine gO ?_
    refine AP.loop rfl (α := Nat × List Nm) (fun q => [(1, .im (.sl 1 (stR q.2))), (2, .im (tmP t)), (5, Iv q.1)]) (fun _ => []) (fun q => q.1 ≤ t.xs.length ∧ w = frTs (t.xs.drop q.1) q.2 ∧ q.2.length + szTs (t.xs.drop q.1) ≤ 1000000) (fun q => t.xs.length - q.1) (0, o) ⟨by omega, he, by simp only [List.drop_zero]; omega⟩ (sU) rfl fun q ⟨hk, hm, hL⟩ => ?_
    clear he
    obtain ⟨k, x⟩ := q
    simp only at hk hm hL ⊢
    rcases Nat.eq_or_lt_of_le hk with hke | hlt
    · rw [hke, List.drop_length, frTs] at hm
      refine gE @tmR_len ?_
      refine cF ?_
      refine gO ?_
      exact AE.ret0 rfl ⟨rfl, trivial⟩ rfl ⟨rfl, by rw [hm]; rfl⟩
    · obtain ⟨u, hu, hrow⟩ := tmR_get t.xs k hlt
      rw [frTs_drop t.xs k u hu] at hm
      rw [szTs_drop t.xs k u hu] at hL
      have hl2 := frT_len u x
      have hw := wr (x := (k : Int) + 1) (by omega)
      refine gE @tmR_len ?_
      refine cT ?_
      refine gE @hrow ?_
      refine ⟨by rw [tmR_len]; omega, ?_⟩
      refine gO ?_
      refine AQ.fn (by kernel_rfl) rfl rfl rfl (termFree_spec u x (tmsS_get hs0.2.2 hu) (by omega)) rfl ?_
      refine gE @hw ?_
      exact AE.round (k + 1, frT u x) ⟨by simp only; omega, hm, by simp only; omega⟩ (by simp only; omega) (sU) rfl
termination_by SizeOf.sizeOf t
decreasing_by exact tm_mem hu
theorem free_spec (F : Fm) (o : List Nm) (hs : fmS F) (hz : szF F + o.length ≤ 1000000) : PFn Tryz.prog 105 [fmV F, .im (.sl 1 (stR o))] (.im (.sl 1 (stR (frF F o)))) := by
  have hs0 := fmS_eq.1 hs
  have he := frF_eq F o
  have hsz := szF_eq F
  obtain ⟨w, hw0⟩ : ∃ w, w = frF F o := ⟨_, rfl⟩
  rw [← hw0] at he ⊢
  clear hw0
  refine ACall.walk [0, 1, 2, 4, 5, 6, 11, 25] [] Tryz.func105 rfl Tryz.ntmps105 (by kernel_rfl) (by rfl) rfl fun W own I0 φ0 lay => ?_
  refine gO ?_
  refine AP.loop rfl (α := Nat × List Nm) (fun q => [(1, .im (.sl 1 (stR q.2))), (2, .im (fmP F)), (5, Iv q.1)]) (fun _ => []) (fun q => q.1 ≤ F.ts.length ∧ w = frFs F.ps (frTs (F.ts.drop q.1) q.2) ∧ q.2.length + szTs (F.ts.drop q.1) + szFs F.ps ≤ 1000000) (fun q => F.ts.length - q.1) (0, o) ⟨by omega, he, by simp only [List.drop_zero]; omega⟩ (sU) rfl fun q ⟨hk, hm, hL⟩ => ?_
  clear he
  obtain ⟨k, x⟩ := q
  simp only at hk hm hL ⊢
  rcases Nat.eq_or_lt_of_le hk with hke | hlt
  · rw [hke, List.drop_length, frTs] at hm
    rw [hke, List.drop_length, szTs] at hL
    refine gE @tmR_len ?_
    refine cF ?_
    refine gO ?_
    refine AP.loop rfl (α := Nat × List Nm) (fun q => [(1, .im (.sl 1 (stR q.2))), (2, .im (fmP F)), (6, Iv q.1)]) (fun _ => []) (fun q => q.1 ≤ F.ps.length ∧ w = frFs (F.ps.drop q.1) q.2 ∧ q.2.length + szFs (F.ps.drop q.1) ≤ 1000000) (fun q => F.ps.length - q.1) (0, x) ⟨by omega, hm, by simp only [List.drop_zero]; omega⟩ (sU) rfl fun q ⟨hk, hm, hL⟩ => ?_
    obtain ⟨k, x⟩ := q
    simp only at hk hm hL ⊢
    rcases Nat.eq_or_lt_of_le hk with hke | hlt
    · rw [hke, List.drop_length, frFs] at hm
      refine gE @fmR_len ?_
      refine cF ?_
      refine gO ?_
      exact AE.ret0 rfl ⟨rfl, trivial⟩ rfl ⟨rfl, by rw [hm]; rfl⟩
    · obtain ⟨u, hu, hrow⟩ := fmR_get F.ps k hlt
      rw [frFs_drop F.ps k u hu] at hm
      rw [szFs_drop F.ps k u hu] at hL
      have hl2 := frF_len u x
      have hl3 := szFs_len F.ps
      have hw := wr (x := (k : Int) + 1) (by omega)
      refine gE @fmR_len ?_
      refine cT ?_
      refine gE @hrow ?_
      refine ⟨by rw [fmR_len]; omega, ?_⟩
      refine gO ?_
      refine AQ.fn (by kernel_rfl) rfl rfl rfl (free_spec u x (fmsS_get hs0.2.2.2.2 hu) (by omega)) rfl ?_
      refine gE @hw ?_
      exact AE.round (k + 1, frF u x) ⟨by simp only; omega, hm, by simp only; omega⟩ (by simp only; omega) (sU) rfl
  · obtain ⟨u, hu, hrow⟩ := tmR_get F.ts k hlt
    rw [frTs_drop F.ts k u hu] at hm
    rw [szTs_drop F.ts k u hu] at hL
    have hl2 := frT_len u x
    have hl3 := szTs_len F.ts
    have hw := wr (x := (k : Int) + 1) (by omega)
    refine gE @tmR_len ?_
    refine cT ?_
    refine gE @hrow ?_
    refine ⟨by rw [tmR_len]; omega, ?_⟩
    refine gO ?_
    refine AQ.fn (by kernel_rfl) rfl rfl rfl (termFree_spec u x (tmsS_get hs0.2.2.1 hu) (by omega)) rfl ?_
    refine gE @hw ?_
    exact AE.round (k + 1, frT u x) ⟨by simp only; omega, hm, by simp only; omega⟩ (by simp only; omega) (sU) rfl
termination_by SizeOf.sizeOf F
decreasing_by exact fm_mem hu
mutual
theorem has_frT (s : Nm) : ∀ (t : Tm) (o : List Nm), hasS s (frT t o) = (ocT s t || hasS s o)
  | .mk n _ xs, o => by
    rw [frT, ocT]
    split
    · rename_i h
      rw [h, Bool.true_and, hasS_put]
      simp only [Bool.and_eq_true, beq_iff_eq] at h
      have : xs = [] := List.eq_nil_of_length_eq_zero (by omega)
      rw [this, ocTs, Bool.or_false]
    · rename_i h
      have h : (!(n == []) && (xs.length : Int) == 0) = false := by simpa using h
      rw [h, Bool.false_and, Bool.false_or, has_frTs]
theorem has_frTs (s : Nm) : ∀ (l : List Tm) (o : List Nm), hasS s (frTs l o) = (ocTs s l || hasS s o)
  | [], o => by rw [frTs, ocTs, Bool.false_or]
  | t :: l, o => by
    rw [frTs, ocTs, has_frTs s l, has_frT s t]
    cases ocT s t <;> cases ocTs s l <;> simp
end
mutual
theorem has_frF (s : Nm) : ∀ (t : Fm) (o : List Nm), hasS s (frF t o) = (ocF s t || hasS s o)
  | .mk _ _ ts ps, o => by
    rw [frF, ocF, has_frFs s ps, has_frTs s ts]
    cases ocTs s ts <;> cases ocFs s ps <;> simp
theorem has_frFs (s : Nm) : ∀ (l : List Fm) (o : List Nm), hasS s (frFs l o) = (ocFs s l || hasS s o)
  | [], o => by rw [frFs, ocFs, Bool.false_or]
  | t :: l, o => by
    rw [frFs, ocFs, has_frFs s l, has_frF s t]
    cases ocF s t <;> cases ocFs s l <;> simp
end
def freeL (F : Fm) : List Nm := frF F []
theorem has_free (s : Nm) (F : Fm) : hasS s (freeL F) = ocF s F := by
  rw [freeL, has_frF]; simp [hasS]
theorem freeR_spec (F : Fm) (hs : fmS F) (hz : szF F ≤ 1000000) : PFn Tryz.prog 47 [fmV F] (.im (.sl 1 (stR (freeL F)))) := by
  have hc : PFn Tryz.prog 105 [fmV F, nilV] (.im (.sl 1 (stR (freeL F)))) := by
    refine PFn.argW (free_spec F [] hs (by simpa using hz)) fun w φ I vs hd => ?_
    simp only [AV.dens] at hd ⊢
    obtain ⟨u1, us1, e1, h1, u2, us2, e2, h2, e3⟩ := hd
    exact ⟨u1, us1, e1, h1, u2, us2, e2, nil_told 1 w φ I u2 h2, e3⟩
  refine ACall.walk [0, 1, 2] [] Tryz.func47 rfl Tryz.ntmps47 (by kernel_rfl) (by rfl) rfl fun W own I0 φ0 lay => ?_
  refine gO ?_
  refine AQ.fn (by kernel_rfl) rfl rfl rfl (hc) rfl ?_
  refine gO ?_
  exact AE.ret0 rfl ⟨rfl, trivial⟩ rfl ⟨rfl, rfl⟩
end Go.Proofs.YteacpafhmgdbkaaGreatDoor
end

section
namespace Go.Proofs.YteacpafhmgdbkaaGreatDoor
open Go Go.AL Go.RowKit
set_option maxRecDepth 10000
set_option maxHeartbeats 4000000
/-- what a change is -/
structure Ch where
  b1 : Bool
  b2 : Bool
  nm : Nm
  t : Tm
end Go.Proofs.YteacpafhmgdbkaaGreatDoor
end

section
namespace Go.Proofs.YteacpafhmgdbkaaGreatDoor
open Go Go.AL Go.RowKit
set_option maxRecDepth 10000
set_option maxHeartbeats 4000000
end Go.Proofs.YteacpafhmgdbkaaGreatDoor
end

section
namespace Go.Proofs.YteacpafhmgdbkaaGreatDoor
open Go Go.AL Go.RowKit
set_option maxRecDepth 10000
set_option maxHeartbeats 4000000
end Go.Proofs.YteacpafhmgdbkaaGreatDoor
end

section
namespace Go.Proofs.YteacpafhmgdbkaaGreatDoor
open Go Go.AL Go.RowKit
set_option maxRecDepth 10000
set_option maxHeartbeats 4000000
end Go.Proofs.YteacpafhmgdbkaaGreatDoor
end

section
namespace Go.Proofs.YteacpafhmgdbkaaGreatDoor
open Go Go.AL Go.RowKit
set_option maxRecDepth 10000
set_option maxHeartbeats 4000000
mutual
theorem bT_sz : ∀ (t : Tm) (d n : Int), (bT t d n).1 = true → (bT t d n).2 = n - szT t ∧ (szT t : Int) ≤ n ∧ d + dpT t ≤ 150
  | .mk nm ix xs, d, n, h => by
    rw [bT] at h ⊢
    rw [szT, dpT]
    split at h
    · rename_i hc
      rw [if_pos hc]
      have := bTs_sz xs (d + 1) (n - 1) hc.1 h
      have := hc.2
      omega
    · cases h
theorem bTs_sz : ∀ (l : List Tm) (d n : Int), 0 ≤ n → (bTs l d n).1 = true → (bTs l d n).2 = n - szTs l ∧ (szTs l : Int) ≤ n ∧ (d + dpTs l ≤ 150 ∨ dpTs l = 0)
  | [], d, n, hn, h => by rw [bTs, szTs, dpTs]; exact ⟨by simp, by simpa using hn, .inr rfl⟩
  | t :: l, d, n, hn, h => by
    rw [bTs] at h ⊢
    rw [szTs, dpTs]
    split at h
    · rename_i hc
      rw [if_pos hc]
      have h1 := bT_sz t d n hc
      have h2 := bTs_sz l d _ (by omega) h
      omega
    · cases h
end
mutual
theorem bF_sz : ∀ (f : Fm) (d n : Int), (bF f d n).1 = true → 0 ≤ (bF f d n).2 ∧ (bF f d n).2 ≤ n - szF f ∧ d + dpF f ≤ 150
  | .mk k nm ts ps, d, n, h => by
    rw [bF] at h ⊢
    rw [szF, dpF]
    have hcost : 1 ≤ cost nm := by unfold cost; omega
    split at h
    · rename_i hc
      rw [if_pos hc]
      split at h
      · rename_i h2
        rw [if_pos h2]
        have h1 := bTs_sz ts (d + 1) (n - cost nm) hc.1 h2
        have h3 := bFs_sz ps (d + 1) _ (by omega) h
        have := hc.2
        omega
      · cases h
    · cases h
theorem bFs_sz : ∀ (l : List Fm) (d n : Int), 0 ≤ n → (bFs l d n).1 = true → 0 ≤ (bFs l d n).2 ∧ (bFs l d n).2 ≤ n - szFs l ∧ (d + dpFs l ≤ 150 ∨ dpFs l = 0)
  | [], d, n, hn, h => by rw [bFs, szFs, dpFs]; exact ⟨hn, by simp, .inr rfl⟩
  | t :: l, d, n, hn, h => by
    rw [bFs] at h ⊢
    rw [szFs, dpFs]
    split at h
    · rename_i hc
      rw [if_pos hc]
      have h1 := bF_sz t d n hc
      have h2 := bFs_sz l d _ h1.1 h
      omega
    · cases h
end
end Go.Proofs.YteacpafhmgdbkaaGreatDoor
end

section
namespace Go.Proofs.YteacpafhmgdbkaaGreatDoor
open Go Go.AL Go.RowKit
set_option maxRecDepth 10000
set_option maxHeartbeats 4000000
mutual
def tmW (ns : List Nm) : Tm → List Nm
  | .mk nm ix xs => if nm = [] then [ns.getD ((ns.length : Int) - 1 - ix).toNat []] else nm :: (if xs.length = 0 then [] else [36, 40] :: (tmsW ns xs ++ [[36, 41]]))
def tmsW (ns : List Nm) : List Tm → List Nm
  | [] => []
  | t :: l => tmW ns t ++ tmsW ns l
end
mutual
theorem tmW_ge (ns : List Nm) : ∀ t : Tm, 1 ≤ (tmW ns t).length
  | .mk nm ix xs => by
    rw [tmW]
    split <;> simp
theorem tmsW_ge (ns : List Nm) : ∀ l : List Tm, l.length ≤ (tmsW ns l).length
  | [] => by simp
  | t :: l => by
    have := tmW_ge ns t
    have := tmsW_ge ns l
    rw [tmsW, List.length_append, List.length_cons]; omega
end
def lsW (ns : List Nm) (xs : List Tm) : List Nm := if xs.length = 0 then [] else [36, 40] :: (tmsW ns xs ++ [[36, 41]])
theorem tmW_eq (ns : List Nm) (t : Tm) : tmW ns t = if t.nm = [] then [ns.getD ((ns.length : Int) - 1 - t.ix).toNat []] else t.nm :: lsW ns t.xs := by cases t; rw [tmW]; rfl
theorem tmsW_snc (ns : List Nm) {t : Tm} : ∀ {l : List Tm} {k : Nat}, l[k]? = some t → tmsW ns (l.take (k + 1)) = tmsW ns (l.take k) ++ tmW ns t
  | [], k, h => by simp at h
  | u :: l, 0, h => by simp at h; subst h; simp [tmsW]
  | u :: l, k + 1, h => by
    simp at h
    rw [List.take_succ_cons, List.take_succ_cons, tmsW, tmsW, tmsW_snc ns h, List.append_assoc]
theorem tmsW_app (ns : List Nm) (b : List Tm) : ∀ a : List Tm, tmsW ns (a ++ b) = tmsW ns a ++ tmsW ns b
  | [] => by simp [tmsW]
  | t :: a => by rw [List.cons_append, tmsW, tmsW, tmsW_app ns b a, List.append_assoc]
mutual
theorem tmW_len (ns : List Nm) : ∀ t : Tm, (tmW ns t).length ≤ 3 * szT t
  | .mk nm ix xs => by
    have := tmsW_len ns xs
    rw [tmW, szT]
    split
    · simp; omega
    · split
      · simp; omega
      · simp; omega
theorem tmsW_len (ns : List Nm) : ∀ l : List Tm, (tmsW ns l).length ≤ 3 * szTs l
  | [] => by simp [tmsW]
  | t :: l => by
    have := tmW_len ns t
    have := tmsW_len ns l
    rw [tmsW, szTs, List.length_append]; omega
end
theorem lsW_len (ns : List Nm) (l : List Tm) : (lsW ns l).length ≤ 3 * szTs l + 2 := by
  have := tmsW_len ns l
  unfold lsW
  split
  · simp
  · simp; omega
def keysS (l : List Nm) : List Value := l.map fun s => .string (BA s)
def valsT (l : List Nm) : List AV := l.map fun _ => Bv true
@[go_sem] theorem rns_valsT (ρ : Nat → Nat) : ∀ l : List Nm, AV.rns ρ (valsT l) = valsT l
  | [] => rfl
  | _ :: l => by rw [valsT, List.map_cons, AV.rns, ← valsT, rns_valsT ρ l]; rfl
@[go_sem] theorem killC_valsT (b : Nat) : ∀ l : List Nm, killC b (valsT l) = valsT l
  | [] => rfl
  | _ :: l => by rw [valsT, List.map_cons, killC, ← valsT, killC_valsT b l]; rfl
theorem mens_valsT (b : Nat) : ∀ l : List Nm, AV.mens b (valsT l) = false
  | [] => rfl
  | _ :: l => by rw [valsT, List.map_cons, AV.mens, ← valsT, mens_valsT b l]; rfl
theorem stR_snc (l : List Nm) (s : Nm) : stR l ++ [[IV.v (Value.string (BA s))]] = stR (l ++ [s]) := by simp [stR]
abbrev wrH (wi ni : Nat) (tk ns ws : List Nm) : Heap := [(0, .var 142 [.os wi 1 0 ws.length, .mp 1, .os ni 1 0 ns.length]), (1, .var (.map (keysS tk)) (valsT tk)), (wi, .vec 9 1 (stR ws)), (ni, .vec 9 1 (stR ns))]
theorem wlist_walk (tk ns : List Nm) (l : List Tm) (ws : List Nm) (hl : ws.length + (lsW ns l).length ≤ 1000000) (hn : ns.length ≤ 1000000)
    (ih : ∀ (k : Nat) (t : Tm) (ws : List Nm), l[k]? = some t → ws.length + (tmW ns t).length ≤ 1000000 → ACall Tryz.prog 150 [.ob 0 0, tmV t] (wrH 2 3 tk ns ws) (fun r H' => r = .tup [] ∧ H' = wrH 4 3 tk ns (ws ++ tmW ns t))) :
    ACall Tryz.prog 148 [.ob 0 0, .im (.sl 3 (tmR l))] (wrH 2 3 tk ns ws) (fun r H' => r = .tup [] ∧ H' = wrH 4 3 tk ns (ws ++ lsW ns l)) := by
  have hll2 := lsW_len ns l
  have hge := tmsW_ge ns l
  refine ACall.walk [0, 1, 5, 8, 18, 19, 20, 21] [5] Tryz.func148 rfl Tryz.ntmps148 (by kernel_rfl) (by rfl) rfl fun W own I0 φ0 lay => ?_
  refine AP.rename 2 4 rfl rfl rfl ?_; refine sI ?_
  refine gE @tmR_len ?_
  refine AP.cond rfl rfl (fun h => ?_) (fun h => ?_)
  · have h : l.length = 0 := by simp only [beq_iff_eq] at h; omega
    rw [lsW, if_pos h, List.append_nil]
    refine gO ?_
    exact AE.ret rfl trivial ⟨rfl, rfl⟩
  · have h : ¬ l.length = 0 := by simp only [beq_eq_false_iff_ne, ne_eq] at h; omega
    have hll : (lsW ns l).length = (tmsW ns l).length + 2 := by rw [lsW, if_neg h]; simp
    refine gO ?_
    refine AQ.kill 4 ?_
    refine sI ?_
    refine AQ.append (hnb := rfl) (rows := stR (ws)) (es := 0) (by kernel_rfl) rfl rfl rfl (by simp only [noMen, AV.mens, AV.men, mens_valsT]; rfl) Tryz.tk67 Tryz.sz9 (by show Option.map _ (zro Tryz.prog 9) = _; rw [Tryz.zr9]; rfl) Tryz.by9 (by rw [stR_len]) (by simp only [stR_len, List.length_cons, List.length_nil]; omega) (by simp only [stR_len, List.length_cons, List.length_nil]; omega) ?_
    refine sE @stR_len ?_
    refine gO ?_
    rw [stR_snc, show ws.length + 1 = (ws ++ [[36, 40]]).length by simp]
    refine AP.loop rfl (α := Nat × List Nm) (fun s => [(0, .ob 0 0), (18, .im (.sl 3 (tmR l))), (19, Iv l.length), (20, Iv s.1)]) (fun s => wrH 4 3 tk ns s.2) (fun s => s.1 ≤ l.length ∧ s.2 = ws ++ [[36, 40]] ++ tmsW ns (l.take s.1)) (fun s => l.length - s.1) (0, ws ++ [[36, 40]]) ⟨by omega, by simp [tmsW]⟩ (by simp only [tmR_len]; exact (sU)) rfl fun s ⟨hk, hs⟩ => ?_
    obtain ⟨k, s⟩ := s
    simp only at hk hs ⊢
    rcases Nat.eq_or_lt_of_le hk with hke | hlt
    · have hsl : s.length = ws.length + 1 + (tmsW ns l).length := by rw [hs, hke, List.take_length]; simp; omega
      refine gO ?_
      refine cF ?_
      refine gO ?_
      refine AQ.kill 4 ?_
      refine sI ?_
      refine AQ.append (hnb := rfl) (rows := stR (s)) (es := 0) (by kernel_rfl) rfl rfl rfl (by simp only [noMen, AV.mens, AV.men, mens_valsT]; rfl) Tryz.tk67 Tryz.sz9 (by show Option.map _ (zro Tryz.prog 9) = _; rw [Tryz.zr9]; rfl) Tryz.by9 (by rw [stR_len]) (by simp only [stR_len, List.length_cons, List.length_nil]; omega) (by simp only [stR_len, List.length_cons, List.length_nil]; omega) ?_
      refine sE @stR_len ?_
      refine gO ?_
      rw [stR_snc, show s.length + 1 = (s ++ [[36, 41]]).length by simp]
      refine AE.fall rfl trivial ⟨rfl, ?_⟩
      have e : s ++ [[36, 41]] = ws ++ lsW ns l := by rw [hs, hke, List.take_length, lsW, if_neg h]; simp
      rw [e]; rfl
    · obtain ⟨u, hu, hrow⟩ := tmR_get l k hlt
      have hw := wr (x := (k : Int) + 1) (by omega)
      have hsn := tmsW_snc ns hu
      have htl : (tmsW ns (l.take (k + 1))).length ≤ (tmsW ns l).length := by
        have := congrArg (tmsW ns) (List.take_append_drop (k + 1) l)
        rw [tmsW_app] at this
        rw [← this, List.length_append]; omega
      have hi := ih k u s hu (by rw [hsn, List.length_append] at htl; rw [hs]; simp; omega)
      refine gO ?_
      refine cT ?_
      refine gE (an @hrow @tmR_len) ?_
      refine AQ.callH [(0, 0), (1, 1), (2, 4), (3, 3)] (by kernel_rfl) rfl rfl rfl rfl rfl rfl (by refine ⟨rfl, ?_, rfl, rfl, trivial⟩; rw [rnO, rns_valsT]; rfl) rfl hi ?_
      rintro r H' ⟨rfl, rfl⟩
      refine ⟨rfl, ?_⟩
      refine sH ?_
      refine AQ.rename 10 4 rfl rfl rfl ?_; refine sI ?_
      refine gE @hw ?_
      refine AE.forgets [5] (by simp only [go_sem, Nat.reduceAdd, Nat.reduceLeDiff, Nat.reduceSub, Int.reduceToNat, reduceCtorEq, dropOk, noMen, AV.mens, AV.men, mens_valsT, Bool.or_false]; first | done | rfl) ?_
      refine sI ?_
      refine AE.order [0, 1, 4, 3] rfl ?_
      exact AE.round (k + 1, s ++ tmW ns u) ⟨by simp only; omega, by simp only; rw [hs, hsn, List.append_assoc]⟩ (by simp only; omega) (sU) rfl
end Go.Proofs.YteacpafhmgdbkaaGreatDoor
end

section
namespace Go.Proofs.YteacpafhmgdbkaaGreatDoor
open Go Go.AL Go.RowKit
set_option maxRecDepth 10000
set_option maxHeartbeats 4000000
theorem wTs_get : ∀ {l : List Tm} {k : Nat} {t : Tm} {b : Int}, wTs l b = 0 → l[k]? = some t → wT t b = 0
  | [], k, t, b, _, h => by simp at h
  | u :: l, 0, t, b, hw, h => by simp at h; subst h; exact (wTs_cons hw).1
  | u :: l, k + 1, t, b, hw, h => by simp at h; exact wTs_get (wTs_cons hw).2 h
theorem wterm_spec (tk ns : List Nm) (t : Tm) (ws : List Nm) (hw : wT t ns.length = 0) (hl : ws.length + (tmW ns t).length ≤ 1000000) (hn : ns.length ≤ 1000000) :
    ACall Tryz.prog 150 [.ob 0 0, tmV t] (wrH 2 3 tk ns ws) (fun r H' => r = .tup [] ∧ H' = wrH 4 3 tk ns (ws ++ tmW ns t)) := by
  have h0 := wT_nm hw
  have he := tmW_eq ns t
  refine ACall.walk [0, 1, 3, 6] [] Tryz.func150 rfl Tryz.ntmps150 (by kernel_rfl) (by rfl) rfl fun W own I0 φ0 lay => ?_
  refine AP.rename 2 4 rfl rfl rfl ?_; refine sI ?_
  refine gO ?_
  refine AP.cond rfl rfl (fun h => ?_) (fun h => ?_)
  · have h : t.nm = [] := by simpa using h
    obtain ⟨hx, hi⟩ := h0.2.1 h
    have hlt : ((ns.length : Int) - 1 - t.ix).toNat < ns.length := by omega
    have w1 := wr (x := (ns.length : Int) - 1) (by omega)
    have w2 := wr (x := (ns.length : Int) - 1 - t.ix) (by omega)
    have hrow := stR_get ns _ hlt
    rw [if_pos h] at he
    have hln : (tmW ns t).length = 1 := by rw [he]; rfl
    rw [he]
    generalize ns.getD ((ns.length : Int) - 1 - t.ix).toNat [] = v at *
    refine gO ?_
    refine AP.drawE 25 (Tree.node [] [0, 1, 2, 3, 4, 5, 6, 7, 8, 9, 10, 11, 12, 13, 14, 15, 16, 17, 18, 19] [20] [Tree.node [0, 1, 2, 3, 4] [] [21] [Tree.node [0] [22, 23] [24] [Tree.node [] [] [] []]]]) (by kernel_rfl) rfl (by kernel_rfl) (by kernel_rfl) ?_
    refine vd_node ?_
    refine sE (an @w1 (an @w2 @hrow)) ?_
    refine ⟨⟨by omega, by omega⟩, by rw [stR_len]; exact hlt, ?_⟩
    repeat' (first | with_reducible exact True.intro | with_reducible refine And.intro (by omega) ?_ | with_reducible refine And.intro ?_ ?_ | (refine AQ.nx rfl ?_; refine sI ?_) | (refine AQ.kill 4 ?_; refine sI ?_; refine AQ.append (hnb := rfl) (rows := stR (ws)) (es := 0) (by kernel_rfl) rfl rfl rfl (by simp only [noMen, AV.mens, AV.men, mens_valsT]; rfl) Tryz.tk67 Tryz.sz9 (by show Option.map _ (zro Tryz.prog 9) = _; rw [Tryz.zr9]; rfl) Tryz.by9 (by rw [stR_len]) (by simp only [stR_len, List.length_cons, List.length_nil]; omega) (by simp only [stR_len, List.length_cons, List.length_nil]; omega) ?_; refine sE @stR_len ?_) | refine AQ.done ?_ | (refine AQ.go (by kernel_rfl) ?_; refine sI ?_; repeat (with_reducible refine And.intro (by omega) ?_); refine AQ.nx rfl ?_; refine sI ?_))
    all_goals
      refine gO ?_
      rw [stR_snc, show ws.length + 1 = (ws ++ [v]).length by simp]
      exact AE.ret rfl trivial ⟨rfl, rfl⟩
  · have h : ¬ t.nm = [] := by simpa using h
    rw [if_neg h] at he
    have hxs := (h0.2.2 h).2.2
    have hln : (tmW ns t).length = (lsW ns t.xs).length + 1 := by rw [he]; rfl
    rw [he]
    refine gO ?_
    refine AP.cut (α := Unit) (fun _ => [(0, .ob 0 0), (3, .im (.pt [Si t.nm, Ii t.ix, .sl 3 (tmR t.xs)]))]) (fun _ => wrH 4 3 tk ns (ws ++ [t.nm])) (fun _ => True) ?_ fun _ _ => ?_
    · skip
      refine AP.drawE 12 (Tree.node [] [0, 1, 2, 3, 4, 5, 6] [7] [Tree.node [0, 1, 2, 3, 4] [] [8] [Tree.node [0] [9, 10] [11] [Tree.node [] [] [] []]]]) (by kernel_rfl) rfl (by kernel_rfl) (by kernel_rfl) ?_
      refine vd_node ?_
      refine sI ?_
      repeat' (first | with_reducible exact True.intro | with_reducible refine And.intro (by omega) ?_ | with_reducible refine And.intro ?_ ?_ | (refine AQ.nx rfl ?_; refine sI ?_) | (refine AQ.kill 4 ?_; refine sI ?_; refine AQ.append (hnb := rfl) (rows := stR (ws)) (es := 0) (by kernel_rfl) rfl rfl rfl (by simp only [noMen, AV.mens, AV.men, mens_valsT]; rfl) Tryz.tk67 Tryz.sz9 (by show Option.map _ (zro Tryz.prog 9) = _; rw [Tryz.zr9]; rfl) Tryz.by9 (by rw [stR_len]) (by simp only [stR_len, List.length_cons, List.length_nil]; omega) (by simp only [stR_len, List.length_cons, List.length_nil]; omega) ?_; refine sE @stR_len ?_) | refine AQ.done ?_ | (refine AQ.go (by kernel_rfl) ?_; refine sI ?_; repeat (with_reducible refine And.intro (by omega) ?_); refine AQ.nx rfl ?_; refine sI ?_))
      all_goals
        rw [stR_snc, show ws.length + 1 = (ws ++ [t.nm]).length by simp]
        exact AE.meet () trivial (sU) rfl
    refine gO ?_
    have hli := wlist_walk tk ns t.xs (ws ++ [t.nm]) (by simp; omega) hn fun k u ws hu hl => wterm_spec tk ns u ws (wTs_get hxs hu) hl hn
    refine AQ.callH [(0, 0), (1, 1), (2, 4), (3, 3)] (by kernel_rfl) rfl rfl rfl rfl rfl rfl (by refine ⟨rfl, ?_, rfl, rfl, trivial⟩; rw [rnO, rns_valsT]; rfl) rfl hli ?_
    rintro r H' ⟨rfl, rfl⟩
    refine ⟨rfl, ?_⟩
    refine sH ?_
    refine AQ.rename 9 4 rfl rfl rfl ?_; refine sI ?_
    refine gO ?_
    refine AE.order [0, 1, 4, 3] rfl ?_
    exact AE.fall rfl trivial ⟨rfl, by rw [List.append_assoc]; rfl⟩
termination_by SizeOf.sizeOf t
decreasing_by exact tm_mem hu
end Go.Proofs.YteacpafhmgdbkaaGreatDoor
end

section
namespace Go.Proofs.YteacpafhmgdbkaaGreatDoor
open Go Go.AL Go.RowKit
set_option maxRecDepth 10000
set_option maxHeartbeats 4000000
def idxS (s : Nm) : List Nm → Int → Int
  | [], _ => -1
  | x :: r, k => if s == x then k else idxS s r (k + 1)
theorem idxS_has (s : Nm) : ∀ (l : List Nm) (k : Int), 0 ≤ k → decide (0 ≤ idxS s l k) = hasS s l
  | [], k, h => rfl
  | x :: r, k, h => by
    rw [idxS, show hasS s (x :: r) = (x == s || hasS s r) from rfl]
    by_cases hx : s = x
    · subst hx; simp [h]
    · have e1 : (s == x) = false := by simpa using hx
      have e2 : (x == s) = false := by simpa using fun h => hx h.symm
      rw [e1, e2, Bool.false_or]
      exact idxS_has s r (k + 1) (by omega)
theorem idxS_bnd (s : Nm) : ∀ (l : List Nm) (k : Int), 0 ≤ k → -1 ≤ idxS s l k ∧ idxS s l k < k + l.length + 1
  | [], k, h => by simp [idxS]; omega
  | x :: r, k, h => by
    rw [idxS, List.length_cons]
    split
    · omega
    · have := idxS_bnd s r (k + 1) (by omega); omega
theorem stR_gt (l : List Nm) (k : Nat) (h : k < l.length) : ∃ t, l[k]? = some t ∧ (stR l).getD k [] = [Si t] := by
  refine ⟨l[k], List.getElem?_eq_getElem h, ?_⟩
  rw [stR_get l k h, List.getD_eq_getElem?_getD, List.getElem?_eq_getElem h]; rfl
theorem indexS_spec (l : List Nm) (s : Nm) (hl : l.length ≤ 1000000000) : PFn Tryz.prog 101 [.im (.sl 1 (stR l)), Sv s] (Iv (idxS s l 0)) := by
  refine ACall.walk [0, 1, 4, 5, 7, 8, 9, 16] [] Tryz.func101 rfl Tryz.ntmps101 (by kernel_rfl) (by rfl) rfl fun W own I0 φ0 lay => ?_
  refine gE @stR_len ?_
  refine AP.loop rfl (α := Nat) (fun k => [(0, .im (.sl 1 (stR l))), (1, Sv s), (7, Iv l.length), (8, Iv k)]) (fun _ => []) (fun k => k ≤ l.length ∧ idxS s l 0 = idxS s (l.drop k) k) (fun k => l.length - k) 0 ⟨by omega, rfl⟩ (sU) rfl fun k ⟨hk, hm⟩ => ?_
  rcases Nat.eq_or_lt_of_le hk with hke | hlt
  · rw [hke, List.drop_length, idxS] at hm
    refine gO ?_
    refine cF ?_
    refine gO ?_
    exact AE.ret0 rfl ⟨rfl, trivial⟩ rfl ⟨rfl, by rw [hm]; rfl⟩
  · obtain ⟨t, ht, hrow⟩ := stR_gt l k hlt
    obtain ⟨h1, e1⟩ := List.getElem?_eq_some_iff.1 ht
    rw [List.drop_eq_getElem_cons h1, e1, idxS] at hm
    have hw := wr (x := (k : Int) + 1) (by omega)
    refine gO ?_
    refine cT ?_
    refine gE (an @hrow @stR_len) ?_
    refine AP.cond rfl rfl (fun h => ?_) (fun h => ?_)
    · rw [if_pos h] at hm
      refine gO ?_
      exact AE.ret0 rfl ⟨rfl, trivial⟩ rfl ⟨rfl, by rw [hm]; rfl⟩
    · rw [if_neg (by simp [h])] at hm
      refine gE @hw ?_
      exact AE.round (k + 1) ⟨by omega, hm⟩ (by omega) (sU) rfl
theorem containsS_spec (l : List Nm) (s : Nm) (hl : l.length ≤ 1000000000) : PFn Tryz.prog 42 [.im (.sl 1 (stR l)), Sv s] (Bv (hasS s l)) := by
  refine ACall.walk [0, 1, 4] [] Tryz.func42 rfl Tryz.ntmps42 (by kernel_rfl) (by rfl) rfl fun W own I0 φ0 lay => ?_
  refine gO ?_
  refine AQ.fn (by kernel_rfl) rfl rfl rfl (indexS_spec l s hl) rfl ?_
  refine gO ?_
  exact AE.ret0 rfl ⟨rfl, trivial⟩ rfl ⟨rfl, by rw [← idxS_has s l 0 (by omega)]; rfl⟩
theorem pigeon {α : Type} : ∀ (l : List α) (f : Nat → α), (∀ i j, f i = f j → i = j) → ∃ n, n ≤ l.length ∧ f n ∉ l
  | [], f, _ => ⟨0, by simp⟩
  | a :: l, f, hf => by
    rcases Classical.em (∃ m, f m = a) with ⟨m, hm⟩ | hno
    · obtain ⟨n, hn, hx⟩ := pigeon l (fun i => if i < m then f i else f (i + 1)) (fun i j h => by
        by_cases hi : i < m <;> by_cases hj : j < m <;> simp only [hi, hj, if_true, if_false] at h <;> have := hf _ _ h <;> omega)
      by_cases hi : n < m
      · simp only [hi, if_true] at hx
        refine ⟨n, by simp; omega, ?_⟩
        rw [List.mem_cons]
        rintro (h | h)
        · have := hf _ _ (h.trans hm.symm); omega
        · exact hx h
      · simp only [hi, if_false] at hx
        refine ⟨n + 1, by simp; omega, ?_⟩
        rw [List.mem_cons]
        rintro (h | h)
        · have := hf _ _ (h.trans hm.symm); omega
        · exact hx h
    · obtain ⟨n, hn, hx⟩ := pigeon l f hf
      refine ⟨n, by simp; omega, ?_⟩
      rw [List.mem_cons]
      rintro (h | h)
      · exact hno ⟨n, h⟩
      · exact hx h
def valD (l : List UInt8) : Nat := l.foldl (fun a d => a * 10 + (d.toNat - 48)) 0
theorem valD_dec : ∀ n : Nat, valD (Lib.decDigits n) = n := by
  intro n
  induction n using Nat.strongRecOn with
  | _ n ih =>
    rw [Lib.decDigits]
    split
    · rename_i h
      simp [valD, UInt8.toNat_ofNat']
      omega
    · rename_i h
      rw [valD, List.foldl_append, ← valD, ih (n / 10) (by omega)]
      simp [UInt8.toNat_ofNat']
      omega
def vN (n : Nat) : Nm := 118 :: Lib.itoa n
theorem vN_inj (i j : Nat) (h : vN i = vN j) : i = j := by
  unfold vN at h
  have h := (List.cons.inj h).2
  rw [Lib.itoa_nonneg, Lib.itoa_nonneg] at h
  have := congrArg valD h
  rwa [valD_dec, valD_dec] at this
theorem hasS_mem {s : Nm} {l : List Nm} : hasS s l = true ↔ s ∈ l := by
  unfold hasS
  rw [List.any_eq_true]
  constructor
  · rintro ⟨x, hx, e⟩
    have : x = s := by simpa using e
    exact this ▸ hx
  · intro h; exact ⟨s, h, by simp⟩
def frV (tk ns : List Nm) (n : Nat) : Bool := !hasS (vN n) tk && !hasS (vN n) ns
theorem frV_ex (tk ns : List Nm) : ∃ n, n ≤ tk.length + ns.length ∧ frV tk ns n = true := by
  obtain ⟨n, hn, hx⟩ := pigeon (tk ++ ns) vN vN_inj
  rw [List.length_append] at hn
  rw [List.mem_append] at hx
  refine ⟨n, hn, ?_⟩
  unfold frV
  have h1 : hasS (vN n) tk = false := by
    cases h : hasS (vN n) tk with
    | false => rfl
    | true => exact absurd (.inl (hasS_mem.1 h)) hx
  have h2 : hasS (vN n) ns = false := by
    cases h : hasS (vN n) ns with
    | false => rfl
    | true => exact absurd (.inr (hasS_mem.1 h)) hx
  rw [h1, h2]; rfl
def vfind (tk ns : List Nm) : Nat → Nat → Nat
  | 0, n => n
  | f + 1, n => if frV tk ns n then n else vfind tk ns f (n + 1)
def vnum (tk ns : List Nm) : Nat := vfind tk ns (tk.length + ns.length + 1) 0
theorem vfind_eq {tk ns : List Nm} {m : Nat} (hm : frV tk ns m = true) : ∀ (f n : Nat), n ≤ m → m < n + f → (∀ j, j < m → frV tk ns j = false) → vfind tk ns f n = m
  | 0, n, h1, h2, _ => by omega
  | f + 1, n, h1, h2, h3 => by
    rw [vfind]
    rcases Nat.eq_or_lt_of_le h1 with h | h
    · subst h; rw [if_pos hm]
    · rw [h3 n h, if_neg (by simp)]
      exact vfind_eq hm f (n + 1) h (by omega) h3
theorem vnum_eq {tk ns : List Nm} {m : Nat} (hm : frV tk ns m = true) (h : ∀ j, j < m → frV tk ns j = false) : vnum tk ns = m := by
  obtain ⟨n, hn, hf⟩ := frV_ex tk ns
  refine vfind_eq hm _ 0 (Nat.zero_le _) ?_ h
  rcases Nat.lt_or_ge n m with h1 | h1
  · rw [h n h1] at hf; cases hf
  · omega
theorem vnum_lt {tk ns : List Nm} {n : Nat} (h : ∀ j, j < n → frV tk ns j = false) : n ≤ tk.length + ns.length := by
  obtain ⟨m, hm, hf⟩ := frV_ex tk ns
  rcases Nat.lt_or_ge m n with h1 | h1
  · rw [h m h1] at hf; cases hf
  · omega
end Go.Proofs.YteacpafhmgdbkaaGreatDoor
end

section
namespace Go.Proofs.YteacpafhmgdbkaaGreatDoor
open Go Go.AL Go.RowKit
set_option maxRecDepth 10000
set_option maxHeartbeats 4000000
theorem dec_len : ∀ n : Nat, (Lib.decDigits n).length ≤ n + 1 := by
  intro n
  induction n using Nat.strongRecOn with
  | _ n ih =>
    rw [Lib.decDigits]
    split
    · simp
    · have := ih (n / 10) (by omega)
      rw [List.length_append, List.length_singleton]; omega
theorem itoa_len (n : Nat) : (Lib.itoa n).length ≤ n + 1 := by rw [Lib.itoa_nonneg]; exact dec_len n
theorem keysS_ok (tk : List Nm) : KeysOk .string (keysS tk) := fun v hv => by
  obtain ⟨p, _, rfl⟩ := List.mem_map.1 hv
  trivial
theorem BA_inj {a b : Nm} (h : BA a = BA b) : a = b := by
  have := congrArg (fun x : ByteArray => x.data.toList) h
  simpa [BA] using this
theorem keysS_uniq {tk : List Nm} (hnd : tk.Nodup) {v : Nm} {i j : Nat} (hj : tk[j]? = some v) (hi : (keysS tk)[i]? = some (.string (BA v))) : i = j := by
  rw [keysS, List.getElem?_map] at hi
  cases h : tk[i]? with
  | none => rw [h] at hi; cases hi
  | some u =>
    rw [h] at hi
    simp only [Option.map_some, Option.some.injEq, Value.string.injEq] at hi
    have hu := BA_inj hi
    subst hu
    obtain ⟨a1, a2⟩ := List.getElem?_eq_some_iff.1 h
    obtain ⟨b1, b2⟩ := List.getElem?_eq_some_iff.1 hj
    rcases Nat.lt_trichotomy i j with h1 | h1 | h1
    · exact absurd (a2.trans b2.symm) (List.pairwise_iff_getElem.1 hnd i j a1 b1 h1)
    · exact h1
    · exact absurd (b2.trans a2.symm) (List.pairwise_iff_getElem.1 hnd j i b1 a1 h1)
theorem keysS_not {tk : List Nm} {v : Nm} (h : hasS v tk = false) : Value.string (BA v) ∉ keysS tk := fun hc => by
  obtain ⟨u, hu, e⟩ := List.mem_map.1 hc
  simp only [Value.string.injEq] at e
  have := BA_inj e
  subst this
  rw [hasS_mem.2 hu] at h; cases h
theorem variable_spec (tk ns ws : List Nm) (h1 : tk.length ≤ 1000000) (h2 : ns.length ≤ 1000000) (hnd : tk.Nodup) :
    ACall Tryz.prog 151 [.ob 0 0] (wrH 2 3 tk ns ws) (fun r H' => r = Sv (vN (vnum tk ns)) ∧ H' = wrH 2 3 tk ns ws) := by
  refine ACall.walk [0, 2, 3, 4, 25] [] Tryz.func151 rfl Tryz.ntmps151 (by kernel_rfl) (by rfl) rfl fun W own I0 φ0 lay => ?_
  refine gO ?_
  refine AP.loop rfl (α := Nat) (fun k => [(0, .ob 0 0), (3, Iv k)]) (fun _ => wrH 2 3 tk ns ws) (fun k => ∀ j, j < k → frV tk ns j = false) (fun k => 2000001 - k) 0 (by intro j hj; omega) (sU) rfl fun k hk => ?_
  have hkb := vnum_lt hk
  have hit := itoa_spec k (by omega)
  have hw := wr (x := (k : Int) + 1) (by omega)
  refine gO ?_
  refine AQ.fn (by kernel_rfl) rfl rfl rfl (hit) rfl ?_
  have hil := itoa_len k
  refine gO ?_
  have e : (118 :: Lib.itoa (k : Int)) = vN k := rfl
  simp only [e]
  clear e hit hil
  obtain ⟨v, hv⟩ : ∃ v, vN k = v := ⟨_, rfl⟩
  have hfr : frV tk ns k = (!hasS v tk && !hasS v ns) := by rw [frV, hv]
  simp only [hv]
  cases ht : hasS v tk with
  | true =>
    have hmem : BA v ∈ tk.map BA := List.mem_map.2 ⟨v, hasS_mem.1 ht, rfl⟩
    obtain ⟨j, hj⟩ := List.mem_iff_getElem?.1 (hasS_mem.1 ht)
    have hkj : (keysS tk)[j]? = some (.string (BA v)) := by rw [keysS, List.getElem?_map, hj]; rfl
    have huq : ∀ i, (keysS tk)[i]? = some (.string (BA v)) → i = j := fun i hi => keysS_uniq hnd hj hi
    have hvj : (valsT tk)[j]? = some (Bv true) := by rw [valsT, List.getElem?_map, hj]; rfl
    refine AQ.lookF j (by kernel_rfl) rfl rfl rfl Tryz.underlying96 Tryz.underlying9 (keysS_ok tk) trivial (List.mem_of_getElem? hkj) huq hvj ?_
    refine sI ?_
    refine gE @hw ?_
    exact AE.round (k + 1) (fun j hj => by
      rcases Nat.lt_or_ge j k with h | h
      · exact hk j h
      · have : j = k := by omega
        subst this; rw [hfr, ht]; rfl) (by omega) (sU) rfl
  | false =>
    refine AQ.lookN (by kernel_rfl) rfl rfl rfl Tryz.underlying96 Tryz.underlying9 (keysS_ok tk) trivial (keysS_not ht) rfl rfl ?_
    refine sI ?_
    refine gO ?_
    refine AQ.guard_yes (by simp only [go_sem]) ?_
    refine AQ.fnL ([.im (.sl 1 (stR ns)), Sv v]) (by kernel_rfl) rfl rfl rfl (LentAs.cons (LentA.of (Lent.osw rfl (by rw [stR_len]))) (LentAs.cons (LentA.im _) LentAs.nil)) (containsS_spec ns v (by omega)) rfl (fun _ => rfl) ?_
    refine sI ?_
    refine gO ?_
    refine AP.cond rfl rfl (fun h => ?_) (fun h => ?_)
    · have h : hasS v ns = false := by simpa using h
      refine gO ?_
      have hvn : vnum tk ns = k := vnum_eq (by rw [hfr, ht, h]; rfl) hk
      exact AE.ret rfl ⟨rfl, trivial⟩ ⟨by rw [hvn, hv]; rfl, rfl⟩
    · have h : hasS v ns = true := by simpa using h
      refine gE @hw ?_
      exact AE.round (k + 1) (fun j hj => by
        rcases Nat.lt_or_ge j k with h1 | h1
        · exact hk j h1
        · have : j = k := by omega
          subst this; rw [hfr, ht, h]; rfl) (by omega) (sU) rfl
end Go.Proofs.YteacpafhmgdbkaaGreatDoor
end

section
namespace Go.Proofs.YteacpafhmgdbkaaGreatDoor
open Go Go.AL Go.RowKit
set_option maxRecDepth 10000
set_option maxHeartbeats 4000000
def sgnL : List Nm := [[], [], [36, 61], [36, 70], [36, 62], [36, 38], [36, 124], [36, 65], [36, 69]]
def sgn (k : Int) : Nm := sgnL.getD k.toNat []
theorem signs_spec : PFn Tryz.prog 149 [] (.ar (sgnL.map fun s => Si s)) := by
  refine ACall.walk [0] [0] Tryz.func149 rfl Tryz.ntmps149 (by kernel_rfl) (by rfl) rfl fun W own I0 φ0 lay => ?_
  refine gO ?_
  exact AE.retD [0] rfl ⟨⟨rfl, rfl⟩, trivial⟩ rfl ⟨rfl, rfl⟩
abbrev wrD (wi ni : Nat) (tk ns ws : List Nm) : Heap := (4, .var 140 [.ob 0 0]) :: wrH wi ni tk ns ws
theorem pop_spec (tk ns ws : List Nm) (v : Nm) (hn : ns.length ≤ 1000000) : ADef Tryz.prog 152 [.ob 4 0] (wrD 2 3 tk (ns ++ [v]) ws) none (fun H' => H' = wrD 2 3 tk ns ws) := by
  have w1 : IntKind.i64.wrap (((ns ++ [v]).length : Int) - 1) = (ns.length : Int) := by
    rw [List.length_append, List.length_singleton, wr (by omega)]; omega
  refine ADef.plain [0] [] Tryz.func152 rfl Tryz.ntmps152 (by kernel_rfl) (by rfl) rfl fun W own I0 φ0 lay => ?_
  refine gO ?_
  refine AP.drawE 15 (Tree.node [] [0, 1, 2, 3, 4, 5, 6, 7, 8, 9, 10, 11, 12, 13] [14] [Tree.node [] [] [] []]) (by kernel_rfl) rfl (by kernel_rfl) (by kernel_rfl) ?_
  refine vd_node ?_
  refine sE (an @w1 @Int.toNat_natCast) ?_
  refine ⟨⟨by omega, by simp; omega⟩, ?_⟩
  repeat' (first | with_reducible exact True.intro | with_reducible refine And.intro (by omega) ?_ | with_reducible refine And.intro ?_ ?_ | (refine AQ.nx rfl ?_; refine sE @wrD.eq_1 ?_) | (fail) | refine AQ.done ?_ | (refine AQ.go (by kernel_rfl) ?_; refine sE @wrD.eq_1 ?_; repeat (with_reducible refine And.intro (by omega) ?_); refine AQ.nx rfl ?_; refine sE @wrD.eq_1 ?_))
  all_goals
    refine gO ?_
    refine AE.trunc 3 ns.length rfl ?_
    refine sI ?_
    rw [show (stR (ns ++ [v])).take ns.length = stR ns by rw [stR_take]; simp]
    exact AE.retQ [] (.inr rfl) rfl rfl trivial rfl rfl
end Go.Proofs.YteacpafhmgdbkaaGreatDoor
end

section
namespace Go.Proofs.YteacpafhmgdbkaaGreatDoor
open Go Go.AL Go.RowKit
set_option maxRecDepth 10000
set_option maxHeartbeats 4000000
mutual
def fmW (tk ns : List Nm) : Fm → List Nm
  | .mk k nm ts ps => if k = 1 then nm :: lsW ns ts else sgn k :: (tmsW ns ts ++ (if k = 7 ∨ k = 8 then vN (vnum tk ns) :: fmsW tk (ns ++ [vN (vnum tk ns)]) ps else fmsW tk ns ps))
def fmsW (tk ns : List Nm) : List Fm → List Nm
  | [] => []
  | f :: l => fmW tk ns f ++ fmsW tk ns l
end
def psW (tk ns : List Nm) (k : Int) (ps : List Fm) : List Nm := if k = 7 ∨ k = 8 then vN (vnum tk ns) :: fmsW tk (ns ++ [vN (vnum tk ns)]) ps else fmsW tk ns ps
theorem fmW_eq (tk ns : List Nm) (f : Fm) : fmW tk ns f = if f.k = 1 then f.nm :: lsW ns f.ts else sgn f.k :: (tmsW ns f.ts ++ psW tk ns f.k f.ps) := by
  cases f with
  | mk k nm ts ps => rw [fmW]; rfl
theorem fmsW_snc (tk ns : List Nm) {t : Fm} : ∀ {l : List Fm} {k : Nat}, l[k]? = some t → fmsW tk ns (l.take (k + 1)) = fmsW tk ns (l.take k) ++ fmW tk ns t
  | [], k, h => by simp at h
  | u :: l, 0, h => by simp at h; subst h; simp [fmsW]
  | u :: l, k + 1, h => by
    simp at h
    rw [List.take_succ_cons, List.take_succ_cons, fmsW, fmsW, fmsW_snc tk ns h, List.append_assoc]
theorem fmsW_app (tk ns : List Nm) (b : List Fm) : ∀ a : List Fm, fmsW tk ns (a ++ b) = fmsW tk ns a ++ fmsW tk ns b
  | [] => by simp [fmsW]
  | t :: a => by rw [List.cons_append, fmsW, fmsW, fmsW_app tk ns b a, List.append_assoc]
theorem fmsW_take (tk ns : List Nm) (l : List Fm) (k : Nat) : (fmsW tk ns (l.take k)).length ≤ (fmsW tk ns l).length := by
  have := congrArg (fmsW tk ns) (List.take_append_drop k l)
  rw [fmsW_app] at this
  rw [← this, List.length_append]; omega
theorem fmW_ge (tk ns : List Nm) (f : Fm) : 1 ≤ (fmW tk ns f).length := by
  rw [fmW_eq]
  split <;> simp
theorem fmsW_ge (tk ns : List Nm) : ∀ l : List Fm, l.length ≤ (fmsW tk ns l).length
  | [] => by simp
  | t :: l => by
    have := fmW_ge tk ns t
    have := fmsW_ge tk ns l
    rw [fmsW, List.length_append, List.length_cons]; omega
theorem shp_k {f : Fm} (h : shp f = true) : 1 ≤ f.k ∧ f.k ≤ 8 := by
  unfold shp at h
  split at h
  · cases h
  · split at h
    · omega
    · split at h
      · omega
      · split at h
        · omega
        · split at h
          · omega
          · split at h
            · omega
            · cases h
theorem wFs_get : ∀ {l : List Fm} {k : Nat} {t : Fm} {b : Int}, wFs l b = 0 → l[k]? = some t → wF t b = 0
  | [], k, t, b, _, h => by simp at h
  | u :: l, 0, t, b, hw, h => by simp at h; subst h; exact (wFs_cons hw).1
  | u :: l, k + 1, t, b, hw, h => by simp at h; exact wFs_get (wFs_cons hw).2 h
theorem wform_walk (tk ns : List Nm) (f : Fm) (ws : List Nm) (hw : wF f ns.length = 0) (htk : tk.length ≤ 1000000) (hnd : tk.Nodup) (hl : ws.length + (fmW tk ns f).length ≤ 1000000) (hn : ns.length + 1 ≤ 1000000)
    (ih : ∀ (k : Nat) (u : Fm) (ns' ws : List Nm), f.ps[k]? = some u → ns'.length ≤ ns.length + 1 → wF u ns'.length = 0 → ws.length + (fmW tk ns' u).length ≤ 1000000 → ACall Tryz.prog 85 [.ob 0 0, fmV u] (wrH 2 3 tk ns' ws) (fun r H' => r = .tup [] ∧ H' = wrH 4 5 tk ns' (ws ++ fmW tk ns' u))) :
    ACallX Tryz.prog 85 [.ob 0 0, fmV f] (wrH 2 3 tk ns ws) (fun r H' => r = .tup [] ∧ H' = wrH 4 5 tk ns (ws ++ fmW tk ns f)) (fun _ _ => False) := by
  obtain ⟨hsh, hwt, hwp⟩ := wF_parts hw
  have hk := shp_k hsh
  have he := fmW_eq tk ns f
  refine ACallX.walkD [0, 1, 2, 3, 5, 6, 8, 11, 41, 42, 43, 44, 53, 76, 78, 79, 80, 81] [2, 5, 8] Tryz.func85 rfl Tryz.ntmps85 (by kernel_rfl) (by rfl) rfl fun W own I0 φ0 lay => ?_
  refine AP.rename 2 4 rfl rfl rfl ?_; refine sI ?_; refine AP.rename 3 5 rfl rfl rfl ?_; refine sI ?_
  refine gO ?_
  refine AP.cond rfl rfl (fun h => ?_) (fun h => ?_)
  · have h : f.k = 1 := by simpa using h
    rw [if_pos h] at he
    have hlen : (fmW tk ns f).length = (lsW ns f.ts).length + 1 := by rw [he]; rfl
    rw [he]
    refine gO ?_
    refine AP.cut (α := Unit) (fun _ => [(2, .ob 6 0), (3, .im (.pt [Ii f.k, Si f.nm, .sl 3 (tmR f.ts), .sl 4 (fmR f.ps)]))]) (fun _ => (6, .var 140 [.ob 0 0]) :: wrH 4 5 tk ns (ws ++ [f.nm])) (fun _ => True) ?_ fun _ _ => ?_
    · skip
      refine AP.drawE 12 (Tree.node [] [0, 1, 2, 3, 4, 5, 6] [7] [Tree.node [0, 1, 2, 3, 4] [] [8] [Tree.node [0] [9, 10] [11] [Tree.node [] [] [] []]]]) (by kernel_rfl) rfl (by kernel_rfl) (by kernel_rfl) ?_
      refine vd_node ?_
      refine sI ?_
      repeat' (first | with_reducible exact True.intro | with_reducible refine And.intro (by omega) ?_ | with_reducible refine And.intro ?_ ?_ | (refine AQ.nx rfl ?_; refine sI ?_) | (refine AQ.kill 4 ?_; refine sI ?_; refine AQ.append (hnb := rfl) (rows := stR (ws)) (es := 0) (by kernel_rfl) rfl rfl rfl (by simp only [noMen, AV.mens, AV.men, mens_valsT]; rfl) Tryz.tk67 Tryz.sz9 (by show Option.map _ (zro Tryz.prog 9) = _; rw [Tryz.zr9]; rfl) Tryz.by9 (by rw [stR_len]) (by simp only [stR_len, List.length_cons, List.length_nil]; omega) (by simp only [stR_len, List.length_cons, List.length_nil]; omega) ?_; refine sE @stR_len ?_) | refine AQ.done ?_ | (refine AQ.go (by kernel_rfl) ?_; refine sI ?_; repeat (with_reducible refine And.intro (by omega) ?_); refine AQ.nx rfl ?_; refine sI ?_))
      all_goals
        rw [stR_snc, show ws.length + 1 = (ws ++ [f.nm]).length by simp]
        exact AE.meet () trivial (sU) rfl
    refine gO ?_
    have hli := wlist_walk tk ns f.ts (ws ++ [f.nm]) (by simp; omega) (by omega) fun k u ws hu hl => wterm_spec tk ns u ws (wTs_get hwt hu) hl (by omega)
    refine AQ.callH [(0, 0), (1, 1), (2, 4), (3, 5)] (by kernel_rfl) rfl rfl rfl rfl rfl rfl (by refine ⟨rfl, ?_, rfl, rfl, trivial⟩; rw [rnO, rns_valsT]; rfl) rfl hli ?_
    rintro r H' ⟨rfl, rfl⟩
    refine ⟨rfl, ?_⟩
    refine sH ?_
    refine AQ.rename 11 4 rfl rfl rfl ?_; refine sI ?_
    refine gO ?_
    refine AE.order [0, 1, 4, 5, 6] rfl ?_
    simp only [go_sem, Nat.reduceAdd, Nat.reduceLeDiff, Nat.reduceSub, Int.reduceToNat, reduceCtorEq, reorder]
    exact AE.leaveN (.inl rfl) rfl <| LV.retD [6] rfl trivial (by simp only [go_sem, Nat.reduceAdd, Nat.reduceLeDiff, Nat.reduceSub, Int.reduceToNat, reduceCtorEq, dropOk, noMen, AV.mens, AV.men, mens_valsT, Bool.or_false]; first | done | rfl) ⟨rfl, by rw [List.append_assoc]; rfl⟩
  · have h : ¬ f.k = 1 := by simpa using h
    rw [if_neg h] at he
    have hlen : (fmW tk ns f).length = 1 + (tmsW ns f.ts).length + (psW tk ns f.k f.ps).length := by rw [he]; simp; omega
    have hkn : f.k.toNat < 9 := by omega
    have hsg : (sgnL.map fun s => Si s).getD f.k.toNat (.v (.bool false)) = Si (sgn f.k) := by
      rw [List.getD_eq_getElem?_getD, List.getElem?_map, sgn, List.getD_eq_getElem?_getD, List.getElem?_eq_getElem (show f.k.toNat < sgnL.length from hkn)]; rfl
    refine gO ?_
    refine AP.cut (α := Unit) (fun _ => [(2, .ob 6 0), (3, .im (.pt [Ii f.k, Si f.nm, .sl 3 (tmR f.ts), .sl 4 (fmR f.ps)]))]) (fun _ => (6, .var 140 [.ob 0 0]) :: wrH 4 5 tk ns (ws ++ [sgn f.k])) (fun _ => True) ?_ fun _ _ => ?_
    · skip
      refine AP.drawE 14 (Tree.node [] [0, 1, 2, 3, 4, 6, 7] [5] [Tree.node [0, 1, 2, 3, 4, 6, 7] [8] [9] [Tree.node [0, 1, 2, 3, 4] [] [10] [Tree.node [0] [11, 12] [13] [Tree.node [] [] [] []]]]]) (by kernel_rfl) rfl (by kernel_rfl) (by kernel_rfl) ?_
      refine vd_node ?_
      refine sI ?_
      refine AQ.fn (by kernel_rfl) rfl rfl rfl (signs_spec) rfl ?_
      refine sI ?_
      refine AQ.nx rfl ?_
      refine sE @hsg ?_
      refine ⟨⟨by omega, by omega, by decide⟩, ?_⟩
      repeat' (first | with_reducible exact True.intro | with_reducible refine And.intro (by omega) ?_ | with_reducible refine And.intro ?_ ?_ | (refine AQ.nx rfl ?_; refine sI ?_) | (refine AQ.kill 4 ?_; refine sI ?_; refine AQ.append (hnb := rfl) (rows := stR (ws)) (es := 0) (by kernel_rfl) rfl rfl rfl (by simp only [noMen, AV.mens, AV.men, mens_valsT]; rfl) Tryz.tk67 Tryz.sz9 (by show Option.map _ (zro Tryz.prog 9) = _; rw [Tryz.zr9]; rfl) Tryz.by9 (by rw [stR_len]) (by simp only [stR_len, List.length_cons, List.length_nil]; omega) (by simp only [stR_len, List.length_cons, List.length_nil]; omega) ?_; refine sE @stR_len ?_) | refine AQ.done ?_ | (refine AQ.go (by kernel_rfl) ?_; refine sI ?_; repeat (with_reducible refine And.intro (by omega) ?_); refine AQ.nx rfl ?_; refine sI ?_))
      all_goals
        rw [stR_snc, show ws.length + 1 = (ws ++ [sgn f.k]).length by simp]
        exact AE.meet () trivial (sU) rfl
    obtain ⟨ws1, hws1⟩ : ∃ w, ws ++ [sgn f.k] = w := ⟨_, rfl⟩
    have hl1 : ws1.length = ws.length + 1 := by rw [← hws1]; simp
    have he2 : ws ++ (sgn f.k :: (tmsW ns f.ts ++ psW tk ns f.k f.ps)) = ws1 ++ tmsW ns f.ts ++ psW tk ns f.k f.ps := by rw [← hws1]; simp
    rw [he, he2]
    rw [hws1]
    clear he2 hws1 hsg
    have hge := tmsW_ge ns f.ts
    refine gE @tmR_len ?_
    refine AP.loop rfl (α := Nat × List Nm) (fun s => [(2, .ob 6 0), (3, .im (.pt [Ii f.k, Si f.nm, .sl 3 (tmR f.ts), .sl 4 (fmR f.ps)])), (41, .im (.sl 3 (tmR f.ts))), (42, Iv f.ts.length), (43, Iv s.1)]) (fun s => (6, .var 140 [.ob 0 0]) :: wrH 4 5 tk ns s.2) (fun s => s.1 ≤ f.ts.length ∧ s.2 = ws1 ++ tmsW ns (f.ts.take s.1)) (fun s => f.ts.length - s.1) (0, ws1) ⟨by omega, by simp [tmsW]⟩ (sU) rfl fun s ⟨hk, hs⟩ => ?_
    obtain ⟨k, s⟩ := s
    simp only at hk hs ⊢
    rcases Nat.eq_or_lt_of_le hk with hke | hlt
    · have hsl : s = ws1 ++ tmsW ns f.ts := by rw [hs, hke, List.take_length]
      rw [← hsl]
      have hsn : s.length = ws1.length + (tmsW ns f.ts).length := by rw [hsl]; simp
      clear hs
      refine gO ?_
      refine cF ?_
      refine gO ?_
      refine AQ.fn (by kernel_rfl) rfl rfl rfl (binds_spec f) rfl ?_
      refine gO ?_
      have hge2 := fmsW_ge tk ns f.ps
      by_cases hb : f.k = 7 ∨ f.k = 8
      · have hbn : bnd f = 1 := by unfold bnd; rw [if_pos hb]
        rw [hbn] at hwp
        rw [psW, if_pos hb] at hlen ⊢
        obtain ⟨v, hv⟩ : ∃ v, vN (vnum tk ns) = v := ⟨_, rfl⟩
        have hvs := variable_spec tk ns s htk (by omega) hnd
        rw [hv] at hlen hvs ⊢
        rw [List.length_cons] at hlen
        have hge3 := fmsW_ge tk (ns ++ [v]) f.ps
        simp only [hbn]
        refine cT ?_
        refine gO ?_
        refine AQ.callH [(0, 0), (1, 1), (2, 4), (3, 5)] (by kernel_rfl) rfl rfl rfl rfl rfl rfl (by refine ⟨rfl, ?_, rfl, rfl, trivial⟩; rw [rnO, rns_valsT]; rfl) rfl hvs ?_
        rintro r H' ⟨rfl, rfl⟩
        refine ⟨rfl, ?_⟩
        refine sH ?_
        refine gO ?_
        refine AP.cut (α := Unit) (fun _ => [(2, .ob 6 0), (3, .im (.pt [Ii f.k, Si f.nm, .sl 3 (tmR f.ts), .sl 4 (fmR f.ps)])), (6, Sv v)]) (fun _ => (6, .var 140 [.ob 0 0]) :: wrH 4 5 tk ns (s ++ [v])) (fun _ => True) ?_ fun _ _ => ?_
        · skip
          refine AP.drawE 11 (Tree.node [] [0, 1, 2, 3, 4, 5] [6] [Tree.node [0, 1, 2, 3, 4] [] [7] [Tree.node [0] [8, 9] [10] [Tree.node [] [] [] []]]]) (by kernel_rfl) rfl (by kernel_rfl) (by kernel_rfl) ?_
          refine vd_node ?_
          refine sI ?_
          repeat' (first | with_reducible exact True.intro | with_reducible refine And.intro (by omega) ?_ | with_reducible refine And.intro ?_ ?_ | (refine AQ.nx rfl ?_; refine sI ?_) | (refine AQ.kill 4 ?_; refine sI ?_; refine AQ.append (hnb := rfl) (rows := stR (s)) (es := 0) (by kernel_rfl) rfl rfl rfl (by simp only [noMen, AV.mens, AV.men, mens_valsT]; rfl) Tryz.tk67 Tryz.sz9 (by show Option.map _ (zro Tryz.prog 9) = _; rw [Tryz.zr9]; rfl) Tryz.by9 (by rw [stR_len]) (by simp only [stR_len, List.length_cons, List.length_nil]; omega) (by simp only [stR_len, List.length_cons, List.length_nil]; omega) ?_; refine sE @stR_len ?_) | refine AQ.done ?_ | (refine AQ.go (by kernel_rfl) ?_; refine sI ?_; repeat (with_reducible refine And.intro (by omega) ?_); refine AQ.nx rfl ?_; refine sI ?_))
          all_goals
            rw [stR_snc, show s.length + 1 = (s ++ [v]).length by simp]
            exact AE.meet () trivial (sU) rfl
        refine gO ?_
        refine AP.cut (α := Unit) (fun _ => [(2, .ob 6 0), (3, .im (.pt [Ii f.k, Si f.nm, .sl 3 (tmR f.ts), .sl 4 (fmR f.ps)]))]) (fun _ => (6, .var 140 [.ob 0 0]) :: wrH 4 5 tk (ns ++ [v]) (s ++ [v])) (fun _ => True) ?_ fun _ _ => ?_
        · skip
          refine AP.drawE 11 (Tree.node [] [0, 1, 2, 3, 4, 5] [6] [Tree.node [0, 1, 2, 3, 4] [] [7] [Tree.node [0] [8, 9] [10] [Tree.node [] [] [] []]]]) (by kernel_rfl) rfl (by kernel_rfl) (by kernel_rfl) ?_
          refine vd_node ?_
          refine sI ?_
          repeat' (first | with_reducible exact True.intro | with_reducible refine And.intro (by omega) ?_ | with_reducible refine And.intro ?_ ?_ | (refine AQ.nx rfl ?_; refine sI ?_) | (refine AQ.kill 5 ?_; refine sI ?_; refine AQ.append (hnb := rfl) (rows := stR (ns)) (es := 0) (by kernel_rfl) rfl rfl rfl (by simp only [noMen, AV.mens, AV.men, mens_valsT]; rfl) Tryz.tk67 Tryz.sz9 (by show Option.map _ (zro Tryz.prog 9) = _; rw [Tryz.zr9]; rfl) Tryz.by9 (by rw [stR_len]) (by simp only [stR_len, List.length_cons, List.length_nil]; omega) (by simp only [stR_len, List.length_cons, List.length_nil]; omega) ?_; refine sE @stR_len ?_) | refine AQ.done ?_ | (refine AQ.go (by kernel_rfl) ?_; refine sI ?_; repeat (with_reducible refine And.intro (by omega) ?_); refine AQ.nx rfl ?_; refine sI ?_))
          all_goals
            rw [stR_snc, show ns.length + 1 = (ns ++ [v]).length by simp]
            exact AE.meet () trivial (sU) rfl
        refine sI ?_
        refine xC ?_
        refine AP.regionD rfl rfl ?_
        refine AQ.go1 (by kernel_rfl) rfl rfl ?_ ?_
        · simp only [go_sem]
          done
        refine sI ?_
        refine AQ.defer rfl rfl rfl fun uu => ?_
        refine sI ?_
        refine gE @fmR_len ?_
        refine AP.loop rfl (α := Nat × List Nm) (fun q => [(2, .ob 6 0), (3, .im (.pt [Ii f.k, Si f.nm, .sl 3 (tmR f.ts), .sl 4 (fmR f.ps)])), (76, .wr (.exact uu) (.fn 152 [] [.ob 6 0])), (78, .im (.sl 4 (fmR f.ps))), (79, Iv f.ps.length), (80, Iv q.1)]) (fun q => (6, .var 140 [.ob 0 0]) :: wrH 4 5 tk (ns ++ [v]) q.2) (fun q => q.1 ≤ f.ps.length ∧ q.2 = s ++ [v] ++ fmsW tk (ns ++ [v]) (f.ps.take q.1)) (fun q => f.ps.length - q.1) (0, s ++ [v]) ⟨by omega, by simp [fmsW]⟩ (sU) rfl fun q ⟨hk2, hq⟩ => ?_
        obtain ⟨j, q⟩ := q
        simp only at hk2 hq ⊢
        rcases Nat.eq_or_lt_of_le hk2 with hje | hjt
        · have hsq : q = s ++ v :: fmsW tk (ns ++ [v]) f.ps := by rw [hq, hje, List.take_length]; simp
          rw [← hsq]
          refine gO ?_
          refine cF ?_
          refine gO ?_
          refine AE.leaveD [(4, 6), (0, 0), (1, 1), (2, 4), (3, 5)] (t := 76) (.inr rfl) rfl rfl rfl rfl rfl (by refine ⟨rfl, rfl, ?_, rfl, rfl, trivial⟩; rw [rnO, rns_valsT]; rfl) rfl (pop_spec tk ns q v (by omega)) ?_
          rintro H1 rfl
          refine ⟨rfl, ?_⟩
          refine sH ?_
          exact LV.retD [6] rfl trivial (by simp only [go_sem, Nat.reduceAdd, Nat.reduceLeDiff, Nat.reduceSub, Int.reduceToNat, reduceCtorEq, dropOk, noMen, AV.mens, AV.men, mens_valsT, Bool.or_false]; first | done | rfl) ⟨rfl, rfl⟩
        · obtain ⟨u, hu, hrow⟩ := fmR_get f.ps j hjt
          have hw := wr (x := (j : Int) + 1) (by omega)
          have hsn2 := fmsW_snc tk (ns ++ [v]) hu
          have htl := fmsW_take tk (ns ++ [v]) f.ps (j + 1)
          have hi := ih j u (ns ++ [v]) q hu (by simp) (by have := wFs_get hwp hu; rwa [show (((ns ++ [v]).length : Nat) : Int) = ns.length + 1 by simp]) (by rw [hsn2, List.length_append] at htl; rw [hq]; simp; omega)
          refine gO ?_
          refine cT ?_
          refine gE (an @hrow @fmR_len) ?_
          refine AQ.callH [(0, 0), (1, 1), (2, 4), (3, 5)] (by kernel_rfl) rfl rfl rfl rfl rfl rfl (by refine ⟨rfl, ?_, rfl, rfl, trivial⟩; rw [rnO, rns_valsT]; rfl) rfl hi ?_
          rintro r H' ⟨rfl, rfl⟩
          refine ⟨rfl, ?_⟩
          refine sH ?_
          refine AQ.rename 12 4 rfl rfl rfl ?_; refine sI ?_; refine AQ.rename 13 5 rfl rfl rfl ?_; refine sI ?_
          refine gE @hw ?_
          refine AE.forgets [7] (by simp only [go_sem, Nat.reduceAdd, Nat.reduceLeDiff, Nat.reduceSub, Int.reduceToNat, reduceCtorEq, dropOk, noMen, AV.mens, AV.men, mens_valsT, Bool.or_false]; first | done | rfl) ?_
          refine sI ?_
          refine AE.order [6, 0, 1, 4, 5] rfl ?_
          exact AE.round (j + 1, q ++ fmW tk (ns ++ [v]) u) ⟨by simp only; omega, by simp only; rw [hq, hsn2, List.append_assoc]⟩ (by simp only; omega) (sU) rfl
      · have hbn : bnd f = 0 := by unfold bnd; rw [if_neg hb]
        rw [hbn, Int.add_zero] at hwp
        rw [psW, if_neg hb] at hlen ⊢
        simp only [hbn]
        refine cF ?_
        refine gE @fmR_len ?_
        refine AP.loop rfl (α := Nat × List Nm) (fun q => [(2, .ob 6 0), (3, .im (.pt [Ii f.k, Si f.nm, .sl 3 (tmR f.ts), .sl 4 (fmR f.ps)])), (78, .im (.sl 4 (fmR f.ps))), (79, Iv f.ps.length), (80, Iv q.1)]) (fun q => (6, .var 140 [.ob 0 0]) :: wrH 4 5 tk ns q.2) (fun q => q.1 ≤ f.ps.length ∧ q.2 = s ++ fmsW tk ns (f.ps.take q.1)) (fun q => f.ps.length - q.1) (0, s) ⟨by omega, by simp [fmsW]⟩ (sU) rfl fun q ⟨hk2, hq⟩ => ?_
        obtain ⟨j, q⟩ := q
        simp only at hk2 hq ⊢
        rcases Nat.eq_or_lt_of_le hk2 with hje | hjt
        · have hsq : q = s ++ fmsW tk ns f.ps := by rw [hq, hje, List.take_length]
          rw [← hsq]
          refine gO ?_
          refine cF ?_
          refine gO ?_
          refine AE.order [0, 1, 4, 5, 6] rfl ?_
          simp only [go_sem, Nat.reduceAdd, Nat.reduceLeDiff, Nat.reduceSub, Int.reduceToNat, reduceCtorEq, reorder]
          exact AE.leaveN (.inr rfl) rfl <| LV.retD [6] rfl trivial (by simp only [go_sem, Nat.reduceAdd, Nat.reduceLeDiff, Nat.reduceSub, Int.reduceToNat, reduceCtorEq, dropOk, noMen, AV.mens, AV.men, mens_valsT, Bool.or_false]; first | done | rfl) ⟨rfl, rfl⟩
        · obtain ⟨u, hu, hrow⟩ := fmR_get f.ps j hjt
          have hw := wr (x := (j : Int) + 1) (by omega)
          have hsn2 := fmsW_snc tk ns hu
          have htl := fmsW_take tk ns f.ps (j + 1)
          have hi := ih j u ns q hu (by omega) (wFs_get hwp hu) (by rw [hsn2, List.length_append] at htl; rw [hq]; simp; omega)
          refine gO ?_
          refine cT ?_
          refine gE (an @hrow @fmR_len) ?_
          refine AQ.callH [(0, 0), (1, 1), (2, 4), (3, 5)] (by kernel_rfl) rfl rfl rfl rfl rfl rfl (by refine ⟨rfl, ?_, rfl, rfl, trivial⟩; rw [rnO, rns_valsT]; rfl) rfl hi ?_
          rintro r H' ⟨rfl, rfl⟩
          refine ⟨rfl, ?_⟩
          refine sH ?_
          refine AQ.rename 12 4 rfl rfl rfl ?_; refine sI ?_; refine AQ.rename 13 5 rfl rfl rfl ?_; refine sI ?_
          refine gE @hw ?_
          refine AE.forgets [7] (by simp only [go_sem, Nat.reduceAdd, Nat.reduceLeDiff, Nat.reduceSub, Int.reduceToNat, reduceCtorEq, dropOk, noMen, AV.mens, AV.men, mens_valsT, Bool.or_false]; first | done | rfl) ?_
          refine sI ?_
          refine AE.order [6, 0, 1, 4, 5] rfl ?_
          exact AE.round (j + 1, q ++ fmW tk ns u) ⟨by simp only; omega, by simp only; rw [hq, hsn2, List.append_assoc]⟩ (by simp only; omega) (sU) rfl
    · obtain ⟨u, hu, hrow⟩ := tmR_get f.ts k hlt
      have hw := wr (x := (k : Int) + 1) (by omega)
      have hsn := tmsW_snc ns hu
      have htl : (tmsW ns (f.ts.take (k + 1))).length ≤ (tmsW ns f.ts).length := by
        have := congrArg (tmsW ns) (List.take_append_drop (k + 1) f.ts)
        rw [tmsW_app] at this
        rw [← this, List.length_append]; omega
      have hi := wterm_spec tk ns u s (wTs_get hwt hu) (by rw [hsn, List.length_append] at htl; rw [hs]; simp; omega) (by omega)
      refine gO ?_
      refine cT ?_
      refine gE (an @hrow @tmR_len) ?_
      refine AQ.callH [(0, 0), (1, 1), (2, 4), (3, 5)] (by kernel_rfl) rfl rfl rfl rfl rfl rfl (by refine ⟨rfl, ?_, rfl, rfl, trivial⟩; rw [rnO, rns_valsT]; rfl) rfl hi ?_
      rintro r H' ⟨rfl, rfl⟩
      refine ⟨rfl, ?_⟩
      refine sH ?_
      refine AQ.rename 12 4 rfl rfl rfl ?_; refine sI ?_
      refine gE @hw ?_
      refine AE.forgets [7] (by simp only [go_sem, Nat.reduceAdd, Nat.reduceLeDiff, Nat.reduceSub, Int.reduceToNat, reduceCtorEq, dropOk, noMen, AV.mens, AV.men, mens_valsT, Bool.or_false]; first | done | rfl) ?_
      refine sI ?_
      refine AE.order [6, 0, 1, 4, 5] rfl ?_
      exact AE.round (k + 1, s ++ tmW ns u) ⟨by simp only; omega, by simp only; rw [hs, hsn, List.append_assoc]⟩ (by simp only; omega) (sU) rfl
theorem wform_spec (tk ns : List Nm) (f : Fm) (ws : List Nm) (hw : wF f ns.length = 0) (htk : tk.length ≤ 1000000) (hnd : tk.Nodup) (hl : ws.length + (fmW tk ns f).length ≤ 1000000) (hn : ns.length + szF f ≤ 1000000) :
    ACall Tryz.prog 85 [.ob 0 0, fmV f] (wrH 2 3 tk ns ws) (fun r H' => r = .tup [] ∧ H' = wrH 4 5 tk ns (ws ++ fmW tk ns f)) := by
  have hz := szF_eq f
  refine (wform_walk tk ns f ws hw htk hnd hl (by omega) fun k u ns' ws' hu hn' hwu hl' => ?_).toA fun _ _ h => h
  have := szFs_get hu
  exact wform_spec tk ns' u ws' hwu htk hnd hl' (by omega)
termination_by SizeOf.sizeOf f
decreasing_by exact fm_mem hu
end Go.Proofs.YteacpafhmgdbkaaGreatDoor
end

section
namespace Go.Proofs.YteacpafhmgdbkaaGreatDoor
open Go Go.AL Go.RowKit
set_option maxRecDepth 10000
set_option maxHeartbeats 4000000
def addK (tk : List Nm) (s : Nm) : List Nm := if hasS s tk then tk else tk ++ [s]
mutual
def tkT : Tm → List Nm → List Nm
  | .mk n _ xs, tk => tkTs xs (if !(n == []) && (xs.length : Int) == 0 then addK tk n else tk)
def tkTs : List Tm → List Nm → List Nm
  | [], tk => tk
  | t :: l, tk => tkTs l (tkT t tk)
end
mutual
def tkF : Fm → List Nm → List Nm
  | .mk _ _ ts ps, tk => tkFs ps (tkTs ts tk)
def tkFs : List Fm → List Nm → List Nm
  | [], tk => tk
  | t :: l, tk => tkFs l (tkF t tk)
end
theorem tkT_eq (t : Tm) (tk : List Nm) : tkT t tk = tkTs t.xs (if !(t.nm == []) && (t.xs.length : Int) == 0 then addK tk t.nm else tk) := by cases t; rw [tkT]; rfl
theorem tkF_eq (f : Fm) (tk : List Nm) : tkF f tk = tkFs f.ps (tkTs f.ts tk) := by cases f; rw [tkF]; rfl
theorem tkTs_drop (l : List Tm) (k : Nat) (t : Tm) (tk : List Nm) (h : l[k]? = some t) : tkTs (l.drop k) tk = tkTs (l.drop (k + 1)) (tkT t tk) := by
  obtain ⟨h1, e1⟩ := List.getElem?_eq_some_iff.1 h
  rw [List.drop_eq_getElem_cons h1, e1, tkTs]
theorem tkFs_drop (l : List Fm) (k : Nat) (t : Fm) (tk : List Nm) (h : l[k]? = some t) : tkFs (l.drop k) tk = tkFs (l.drop (k + 1)) (tkF t tk) := by
  obtain ⟨h1, e1⟩ := List.getElem?_eq_some_iff.1 h
  rw [List.drop_eq_getElem_cons h1, e1, tkFs]
theorem addK_nodup {tk : List Nm} (h : tk.Nodup) (s : Nm) : (addK tk s).Nodup := by
  unfold addK
  cases hs : hasS s tk with
  | true => exact h
  | false =>
    rw [if_neg (by simp)]
    refine List.nodup_append.2 ⟨h, by simp, fun a ha b hb => ?_⟩
    simp at hb
    subst hb
    intro e
    subst e
    rw [hasS_mem.2 ha] at hs; cases hs
theorem addK_len (tk : List Nm) (s : Nm) : (addK tk s).length ≤ tk.length + 1 := by unfold addK; split <;> simp
mutual
theorem tkT_nodup : ∀ (t : Tm) {tk : List Nm}, tk.Nodup → (tkT t tk).Nodup
  | .mk n _ xs, tk, h => by
    rw [tkT]
    refine tkTs_nodup xs ?_
    split
    · exact addK_nodup h _
    · exact h
theorem tkTs_nodup : ∀ (l : List Tm) {tk : List Nm}, tk.Nodup → (tkTs l tk).Nodup
  | [], tk, h => by rw [tkTs]; exact h
  | t :: l, tk, h => by rw [tkTs]; exact tkTs_nodup l (tkT_nodup t h)
end
mutual
theorem tkF_nodup : ∀ (t : Fm) {tk : List Nm}, tk.Nodup → (tkF t tk).Nodup
  | .mk _ _ ts ps, tk, h => by rw [tkF]; exact tkFs_nodup ps (tkTs_nodup ts h)
theorem tkFs_nodup : ∀ (l : List Fm) {tk : List Nm}, tk.Nodup → (tkFs l tk).Nodup
  | [], tk, h => by rw [tkFs]; exact h
  | t :: l, tk, h => by rw [tkFs]; exact tkFs_nodup l (tkF_nodup t h)
end
mutual
theorem tkT_len : ∀ (t : Tm) (tk : List Nm), (tkT t tk).length ≤ tk.length + szT t
  | .mk n _ xs, tk => by
    rw [tkT, szT]
    have := tkTs_len xs (if !(n == []) && (xs.length : Int) == 0 then addK tk n else tk)
    have h2 : (if !(n == []) && (xs.length : Int) == 0 then addK tk n else tk).length ≤ tk.length + 1 := by
      split
      · exact addK_len tk n
      · omega
    omega
theorem tkTs_len : ∀ (l : List Tm) (tk : List Nm), (tkTs l tk).length ≤ tk.length + szTs l
  | [], tk => by rw [tkTs, szTs]; omega
  | t :: l, tk => by
    rw [tkTs, szTs]
    have := tkTs_len l (tkT t tk)
    have := tkT_len t tk
    omega
end
mutual
theorem tkF_len : ∀ (t : Fm) (tk : List Nm), (tkF t tk).length ≤ tk.length + szF t
  | .mk _ _ ts ps, tk => by
    rw [tkF, szF]
    have := tkFs_len ps (tkTs ts tk)
    have := tkTs_len ts tk
    omega
theorem tkFs_len : ∀ (l : List Fm) (tk : List Nm), (tkFs l tk).length ≤ tk.length + szFs l
  | [], tk => by rw [tkFs, szFs]; omega
  | t :: l, tk => by
    rw [tkFs, szFs]
    have := tkFs_len l (tkF t tk)
    have := tkF_len t tk
    omega
end
abbrev tnH (tk : List Nm) : Heap := [(0, .var 140 [.ob 1 0]), (1, .var 142 [nilV, .mp 2, nilV]), (2, .var (.map (keysS tk)) (valsT tk))]
theorem keysS_add (tk : List Nm) (s : Nm) : keysS (tk ++ [s]) = keysS tk ++ [.string (BA s)] := by simp [keysS]
theorem valsT_add (tk : List Nm) (s : Nm) : valsT (tk ++ [s]) = valsT tk ++ [Bv true] := by simp [valsT]
theorem note_spec (tk : List Nm) (s : Nm) (hnd : tk.Nodup) : ACall Tryz.prog 84 [Sv s, .ob 0 0] (tnH tk) (fun r H' => r = .tup [] ∧ H' = tnH (addK tk s)) := by
  refine ACall.walk [0, 1] [] Tryz.func84 rfl Tryz.ntmps84 (by kernel_rfl) (by rfl) rfl fun W own I0 φ0 lay => ?_
  refine gO ?_
  unfold addK
  cases ht : hasS s tk with
  | true =>
    obtain ⟨j, hj⟩ := List.mem_iff_getElem?.1 (hasS_mem.1 ht)
    have hkj : (keysS tk)[j]? = some (.string (BA s)) := by rw [keysS, List.getElem?_map, hj]; rfl
    have huq : ∀ i, (keysS tk)[i]? = some (.string (BA s)) → i = j := fun i hi => keysS_uniq hnd hj hi
    refine AQ.msetF j (by kernel_rfl) rfl rfl rfl rfl Tryz.underlying96 Tryz.underlying9 (keysS_ok tk) trivial (List.mem_of_getElem? hkj) huq ?_
    refine sI ?_
    refine gO ?_
    have e : (valsT tk).set j (Bv true) = valsT tk := by
      obtain ⟨h1, _⟩ := List.getElem?_eq_some_iff.1 hj
      have h2 : j < (valsT tk).length := by rw [valsT, List.length_map]; exact h1
      have h3 : (valsT tk)[j] = Bv true := by simp [valsT]
      rw [← h3]; exact List.set_getElem_self h2
    rw [e]
    exact AE.fall rfl trivial ⟨rfl, rfl⟩
  | false =>
    refine AQ.msetN (by kernel_rfl) rfl rfl rfl rfl Tryz.underlying96 Tryz.underlying9 (keysS_ok tk) trivial (keysS_not ht) ?_
    refine sI ?_
    refine gO ?_
    rw [← keysS_add, ← valsT_add]
    exact AE.fall rfl trivial ⟨rfl, rfl⟩
abbrev lnH (tk : List Nm) : Heap := (4, .var 220 [.fn 147 [] [.ob 3 0, .ob 4 0]]) :: (3, .var 144 [.fn 84 [] [.ob 0 0]]) :: tnH tk
theorem leavesT1_spec (t : Tm) (tk : List Nm) (hnd : tk.Nodup) (hs : tmS t) : ACall Tryz.prog 147 [tmV t, .ob 3 0, .ob 4 0] (lnH tk) (fun r H' => r = .tup [] ∧ H' = lnH (tkT t tk)) := by
  have hs0 := tmS_eq.1 hs
  refine ACall.walk [0, 1, 2, 3, 5, 14, 20, 21, 22, 23] [5] Tryz.func147 rfl Tryz.ntmps147 (by kernel_rfl) (by rfl) rfl fun W own I0 φ0 lay => ?_
  refine gE @tmR_len ?_
  obtain ⟨c, hcd⟩ : ∃ c, (!(t.nm == []) && (t.xs.length : Int) == 0) = c := ⟨_, rfl⟩
  have he := tkT_eq t tk
  rw [hcd] at he
  have hnd1 : (if c then addK tk t.nm else tk).Nodup := by
    split
    · exact addK_nodup hnd _
    · exact hnd
  refine AP.cut (α := Unit) (fun _ => [(1, .ob 3 0), (2, .ob 4 0), (3, .im (tmP t))]) (fun _ => lnH (if c then addK tk t.nm else tk)) (fun _ => True) ?_ fun _ _ => ?_
  · refine AP.cond rfl rfl (fun h => ?_) (fun h => ?_)
    · rw [hcd] at h
      subst h
      refine sE @lnH.eq_1 ?_
      refine gO ?_
      refine AQ.callH [(0, 0), (1, 1), (2, 2)] (by kernel_rfl) rfl rfl rfl rfl rfl rfl (by refine ⟨rfl, rfl, ?_, trivial⟩; rw [rnO, rns_valsT]; rfl) rfl (note_spec tk t.nm hnd) ?_
      rintro r H' ⟨rfl, rfl⟩
      refine ⟨rfl, ?_⟩
      refine sH ?_
      refine gO ?_
      refine AE.order [4, 3, 0, 1, 2] rfl ?_
      exact AE.meet () trivial (sU) rfl
    · rw [hcd] at h
      subst h
      refine gO ?_
      exact AE.meet () trivial (sU) rfl
  · obtain ⟨tk1, htk1⟩ : ∃ x, (if c then addK tk t.nm else tk) = x := ⟨_, rfl⟩
    rw [htk1] at he hnd1 ⊢
    refine gE @tmR_len ?_
    refine AP.loop rfl (α := Nat × List Nm) (fun q => [(1, .ob 3 0), (2, .ob 4 0), (20, .im (.sl 3 (tmR t.xs))), (21, Iv t.xs.length), (22, Iv q.1)]) (fun q => lnH q.2) (fun q => q.1 ≤ t.xs.length ∧ q.2.Nodup ∧ tkT t tk = tkTs (t.xs.drop q.1) q.2) (fun q => t.xs.length - q.1) (0, tk1) ⟨by omega, hnd1, by rw [he, List.drop_zero]⟩ (sU) rfl fun q ⟨hk, hn, hm⟩ => ?_
    obtain ⟨k, m⟩ := q
    simp only at hk hm hn ⊢
    refine sE @lnH.eq_1 ?_
    rcases Nat.eq_or_lt_of_le hk with hke | hlt
    · rw [hke, List.drop_length, tkTs] at hm
      refine gO ?_
      refine cF ?_
      refine gO ?_
      exact AE.fall rfl trivial ⟨rfl, by rw [hm]⟩
    · obtain ⟨u, hu, hrow⟩ := tmR_get t.xs k hlt
      rw [tkTs_drop t.xs k u _ hu] at hm
      have hw := wr (x := (k : Int) + 1) (by omega)
      refine gO ?_
      refine cT ?_
      refine gE @hrow ?_
      refine ⟨by rw [tmR_len]; omega, ?_⟩
      refine gO ?_
      refine AQ.callH [(4, 4), (3, 3), (0, 0), (1, 1), (2, 2)] (by kernel_rfl) rfl rfl rfl rfl rfl rfl (by refine ⟨rfl, rfl, rfl, rfl, ?_, trivial⟩; rw [rnO, rns_valsT]; rfl) rfl (leavesT1_spec u m hn (tmsS_get hs0.2.2 hu)) ?_
      rintro r H' ⟨rfl, rfl⟩
      refine ⟨rfl, ?_⟩
      refine sG @lnH.eq_1 ?_
      refine gE @hw ?_
      refine AE.forgets [5] (by simp only [go_sem, Nat.reduceAdd, Nat.reduceLeDiff, Nat.reduceSub, Int.reduceToNat, reduceCtorEq, dropOk, noMen, AV.mens, AV.men, mens_valsT, Bool.or_false]; first | done | rfl) ?_
      refine sI ?_
      exact AE.round (k + 1, tkT u m) ⟨by simp only; omega, tkT_nodup u hn, hm⟩ (by simp only; omega) (sU) rfl
termination_by SizeOf.sizeOf t
decreasing_by exact tm_mem hu
end Go.Proofs.YteacpafhmgdbkaaGreatDoor
end

section
namespace Go.Proofs.YteacpafhmgdbkaaGreatDoor
open Go Go.AL Go.RowKit
set_option maxRecDepth 10000
set_option maxHeartbeats 4000000
theorem leavesT_spec (F : Fm) (tk : List Nm) (hnd : tk.Nodup) (hs : fmS F) : ACall Tryz.prog 83 [fmV F, .fn 84 [] [.ob 0 0]] (tnH tk) (fun r H' => r = .tup [] ∧ H' = tnH (tkF F tk)) := by
  have hs0 := fmS_eq.1 hs
  have he := tkF_eq F tk
  refine ACall.walk [0, 1, 2, 3, 4, 6, 8, 11, 12, 13, 14, 22, 23, 24, 25] [3, 4, 6, 8] Tryz.func83 rfl Tryz.ntmps83 (by kernel_rfl) (by rfl) rfl fun W own I0 φ0 lay => ?_
  refine gE @tmR_len ?_
  refine AP.loop rfl (α := Nat × List Nm) (fun q => [(2, .im (fmP F)), (3, .ob 3 0), (4, .ob 4 0), (11, .im (.sl 3 (tmR F.ts))), (12, Iv F.ts.length), (13, Iv q.1)]) (fun q => lnH q.2) (fun q => q.1 ≤ F.ts.length ∧ q.2.Nodup ∧ tkTs F.ts tk = tkTs (F.ts.drop q.1) q.2) (fun q => F.ts.length - q.1) (0, tk) ⟨by omega, hnd, by rw [List.drop_zero]⟩ (sU) rfl fun q ⟨hk, hn, hm⟩ => ?_
  obtain ⟨k, m⟩ := q
  simp only at hk hm hn ⊢
  refine sE @lnH.eq_1 ?_
  rcases Nat.eq_or_lt_of_le hk with hke | hlt
  · rw [hke, List.drop_length, tkTs] at hm
    rw [hm] at he
    refine gO ?_
    refine cF ?_
    refine gE @fmR_len ?_
    refine AP.loop rfl (α := Nat × List Nm) (fun q => [(2, .im (fmP F)), (3, .ob 3 0), (22, .im (.sl 4 (fmR F.ps))), (23, Iv F.ps.length), (24, Iv q.1)]) (fun q => lnH q.2) (fun q => q.1 ≤ F.ps.length ∧ q.2.Nodup ∧ tkF F tk = tkFs (F.ps.drop q.1) q.2) (fun q => F.ps.length - q.1) (0, m) ⟨by omega, hn, by rw [List.drop_zero, he]⟩ (sU) rfl fun q ⟨hk, hn, hm⟩ => ?_
    clear he
    obtain ⟨k, m⟩ := q
    simp only at hk hm hn ⊢
    refine sE @lnH.eq_1 ?_
    rcases Nat.eq_or_lt_of_le hk with hke | hlt
    · rw [hke, List.drop_length, tkFs] at hm
      refine gO ?_
      refine cF ?_
      refine gO ?_
      exact AE.fallD [4, 3] rfl trivial (by simp only [go_sem, Nat.reduceAdd, Nat.reduceLeDiff, Nat.reduceSub, Int.reduceToNat, reduceCtorEq, dropOk, noMen, AV.mens, AV.men, mens_valsT, Bool.or_false]; first | done | rfl) ⟨rfl, by rw [hm]; rfl⟩
    · obtain ⟨u, hu, hrow⟩ := fmR_get F.ps k hlt
      rw [tkFs_drop F.ps k u _ hu] at hm
      have hw := wr (x := (k : Int) + 1) (by omega)
      refine gO ?_
      refine cT ?_
      refine gE (an @hrow @fmR_len) ?_
      refine AQ.callH [(0, 0), (1, 1), (2, 2)] (by kernel_rfl) rfl rfl rfl rfl rfl rfl (by refine ⟨rfl, rfl, ?_, trivial⟩; rw [rnO, rns_valsT]; rfl) rfl (leavesT_spec u m hn (fmsS_get hs0.2.2.2.2 hu)) ?_
      rintro r H' ⟨rfl, rfl⟩
      refine ⟨rfl, ?_⟩
      refine sH ?_
      refine gE @hw ?_
      refine AE.forgets [5] (by simp only [go_sem, Nat.reduceAdd, Nat.reduceLeDiff, Nat.reduceSub, Int.reduceToNat, reduceCtorEq, dropOk, noMen, AV.mens, AV.men, mens_valsT, Bool.or_false]; first | done | rfl) ?_
      refine sI ?_
      refine AE.order [4, 3, 0, 1, 2] rfl ?_
      exact AE.round (k + 1, tkF u m) ⟨by simp only; omega, tkF_nodup u hn, hm⟩ (by simp only; omega) (sU) rfl
  · obtain ⟨u, hu, hrow⟩ := tmR_get F.ts k hlt
    rw [tkTs_drop F.ts k u _ hu] at hm
    have hw := wr (x := (k : Int) + 1) (by omega)
    refine gO ?_
    refine cT ?_
    refine gE (an @hrow @tmR_len) ?_
    refine AQ.callH [(4, 4), (3, 3), (0, 0), (1, 1), (2, 2)] (by kernel_rfl) rfl rfl rfl rfl rfl rfl (by refine ⟨rfl, rfl, rfl, rfl, ?_, trivial⟩; rw [rnO, rns_valsT]; rfl) rfl (leavesT1_spec u m hn (tmsS_get hs0.2.2.1 hu)) ?_
    rintro r H' ⟨rfl, rfl⟩
    refine ⟨rfl, ?_⟩
    refine sG @lnH.eq_1 ?_
    refine gE @hw ?_
    refine AE.forgets [5] (by simp only [go_sem, Nat.reduceAdd, Nat.reduceLeDiff, Nat.reduceSub, Int.reduceToNat, reduceCtorEq, dropOk, noMen, AV.mens, AV.men, mens_valsT, Bool.or_false]; first | done | rfl) ?_
    refine sI ?_
    exact AE.round (k + 1, tkT u m) ⟨by simp only; omega, tkT_nodup u hn, hm⟩ (by simp only; omega) (sU) rfl
termination_by SizeOf.sizeOf F
decreasing_by exact fm_mem hu
end Go.Proofs.YteacpafhmgdbkaaGreatDoor
end
