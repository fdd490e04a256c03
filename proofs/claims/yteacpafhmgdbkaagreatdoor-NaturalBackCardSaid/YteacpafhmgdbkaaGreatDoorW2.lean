import Derived.Test.YteacpafhmgdbkaaGreatDoorW1
import Derived.Shelf.LaysM
import Derived.Shelf.Strconv.Itoa3
import Derived.Shelf.Strings.OnBuilder
import Derived.Test.YteacpafhmgdbkaaGreatDoorCards
import Derived.Test.YteacpafhmgdbkaaGreatDoorTie
import Derived.Lib.LaidTab
import Derived.Stop.LaidErr
import Derived.Lib.Strings
import Derived.Lib.Walk
import Derived.Lib.BufferWrite
import Derived.Lib.UnsafeStr
import Derived.Lib.Hide
import Derived.Laws.MakeOwn
set_option linter.unusedSimpArgs false
set_option linter.unusedVariables false
set_option linter.unnecessarySimpa false
section
namespace Go.Proofs.YteacpafhmgdbkaaGreatDoor
open Go Go.AL Go.RowKit
set_option maxRecDepth 10000
set_option maxHeartbeats 4000000
theorem ocFs_take {nm : List UInt8} {l : List Fm} {k : Nat} {t : Fm} (h : l[k]? = some t) (ht : ocF nm t = true) : ocFs nm l = true := by
  induction l generalizing k with
  | nil => simp at h
  | cons u l ih =>
    rw [ocFs]
    cases k with
    | zero => simp at h; subst h; rw [ht, Bool.true_or]
    | succ k => simp at h; rw [ih h, Bool.or_true]
theorem fresh_spec (th ax ot : List Fm) (d : Dv) (p : List Int) (nm : List UInt8) (hl : th.length ≤ 1000000 ∧ ax.length ≤ 1000000 ∧ ot.length ≤ 10) (hs : fmsS (th ++ ax ++ ot)) :
    ACallX Tryz.prog 245 [.im (plP th ax d p), Sv nm, .im (.sl 4 (fmR ot))] [] (fun r H' => ocFs nm (th ++ ax ++ ot) = false ∧ r = .tup [] ∧ H' = []) (fun r H' => ocFs nm (th ++ ax ++ ot) = true ∧ r = fault p 272 ∧ H' = []) := by
  have hcc := concat_spec [th, ax, ot] (by simp) (by simp; omega)
  have hfl : [th, ax, ot].flatten = th ++ ax ++ ot := by simp
  rw [hfl] at hcc
  have hln : (th ++ ax ++ ot).length ≤ 1000000000 := by rw [List.length_append, List.length_append]; omega
  generalize th ++ ax ++ ot = l at *
  refine ACallX.walk [0, 1, 2, 7, 18, 19, 20, 21] [7] Tryz.func245 rfl Tryz.ntmps245 (by kernel_rfl) (by rfl) rfl fun W own I0 φ0 lay => ?_
  refine gO ?_
  refine AP.drawE 13 (Tree.node [] [0, 1, 2, 3, 4, 5, 6, 7, 8, 12] [9] [Tree.node [12] [] [10] [Tree.node [12] [11] [] []]]) (by kernel_rfl) rfl (by kernel_rfl) (by kernel_rfl) ?_
  refine vd_node ?_
  refine sI ?_
  repeat' (first | with_reducible exact True.intro | with_reducible refine And.intro (by omega) ?_ | with_reducible refine And.intro ?_ ?_ | (refine AQ.nx rfl ?_; refine sE @fmR_len ?_) | (refine AQ.fn (by kernel_rfl) rfl rfl rfl (hcc) rfl ?_; refine sE @fmR_len ?_) | refine AQ.done ?_ | (refine AQ.go (by kernel_rfl) ?_; refine sE @fmR_len ?_; repeat (with_reducible refine And.intro (by omega) ?_); refine AQ.nx rfl ?_; refine sE @fmR_len ?_))
  refine gE @fmR_len ?_
  refine AP.loop rfl (α := Nat) (fun k => [(0, .im (plP th ax d p)), (1, Sv nm), (18, .im (.sl 4 (fmR l))), (19, Iv l.length), (20, Iv k)]) (fun _ => []) (fun k => k ≤ l.length ∧ ocFs nm l = ocFs nm (l.drop k)) (fun k => l.length - k) 0 ⟨by omega, rfl⟩ (sU) rfl fun k ⟨hk, hm⟩ => ?_
  rcases Nat.eq_or_lt_of_le hk with hke | hlt
  · rw [hke, List.drop_length, ocFs] at hm
    refine gO ?_
    refine cF ?_
    refine gO ?_
    exact AE.fall rfl trivial ⟨hm, rfl, rfl⟩
  · obtain ⟨u, hu, hrow⟩ := fmR_get l k hlt
    rw [ocFs_drop nm l k u hu] at hm
    have hw := wr (x := (k : Int) + 1) (by omega)
    refine gO ?_
    refine cT ?_
    refine gE @hrow ?_
    refine ⟨by rw [fmR_len]; omega, ?_⟩
    refine gO ?_
    refine AQ.fn (by kernel_rfl) rfl rfl rfl (occurs_spec u nm (fmsS_get hs hu)) rfl ?_
    refine gO ?_
    refine AQ.callHX [] (by kernel_rfl) rfl rfl rfl rfl rfl rfl (by exact trivial) rfl (must_spec _ _ _ p _ _) ?_ ?_
    · rintro r H' ⟨hc, rfl, rfl⟩
      refine ⟨rfl, ?_⟩; refine sH ?_
      exact AEX.out [0] rfl rfl ⟨ocFs_take hu (by simpa using fun h => hc (.inl h)), rfl, rfl⟩
    · rintro r H' ⟨hc, rfl, rfl⟩
      refine ⟨rfl, ?_⟩; refine sH ?_
      have hc : ocF nm u = false := by simpa using hc.resolve_right (by decide)
      rw [hc, Bool.false_or] at hm
      refine gE @hw ?_
      refine AE.forgets [0] rfl ?_
      refine sI ?_
      exact AE.round (k + 1) ⟨by omega, hm⟩ (by omega) (sU) rfl
theorem fresh0_spec (th ax : List Fm) (d : Dv) (p : List Int) (nm : List UInt8) (hl : th.length ≤ 1000000 ∧ ax.length ≤ 1000000) (hs : fmsS (th ++ ax)) :
    ACallX Tryz.prog 245 [.im (plP th ax d p), Sv nm, nilV] [] (fun r H' => ocFs nm (th ++ ax) = false ∧ r = .tup [] ∧ H' = []) (fun r H' => ocFs nm (th ++ ax) = true ∧ r = fault p 272 ∧ H' = []) := by
  have h := fresh_spec th ax [] d p nm ⟨hl.1, hl.2, by simp⟩ (by rw [List.append_nil]; exact hs)
  rw [List.append_nil] at h
  refine ACallX.argW h fun w φ I vs hd => ?_
  simp only [AV.dens] at hd ⊢
  obtain ⟨u1, us1, e1, h1, u2, us2, e2, h2, u3, us3, e3, h3, e4⟩ := hd
  exact ⟨u1, us1, e1, h1, u2, us2, e2, h2, u3, us3, e3, nil_told 4 w φ I u3 h3, e4⟩
end Go.Proofs.YteacpafhmgdbkaaGreatDoor
end

section
namespace Go.Proofs.YteacpafhmgdbkaaGreatDoor
open Go Go.AL Go.RowKit
set_option maxRecDepth 10000
set_option maxHeartbeats 4000000
theorem opened_at (f : Fm) (t : Tm) {b : Int} (hf : unF f b = 0) (ht : clT t = 0) : PFn Tryz.prog 69 [fmV f, tmV t] (fmV (opn t f)) := by
  obtain ⟨m, hm⟩ := un_ms hf
  exact opened_spec f t 1 0 m hm (by omega) (by omega) (cl_L ht)
theorem abst_at (f : Fm) (nm : List UInt8) {b : Int} (hf : unF f b = 0) : PFn Tryz.prog 75 [fmV f, Sv nm] (fmV (abst nm f)) := by
  obtain ⟨m, hm⟩ := un_ms hf
  exact abstracted_spec f nm 1 0 m hm (by omega) (by omega)
theorem allIn_spec (th ax : List Fm) (d : Dv) (p : List Int) (K : KH th ax d p) (hn : d.ks.length = 1) :
    ACallX Tryz.prog 205 [.im (plP th ax d p)] [] (RQ ((kidK (ccFs th d.ks) ax p 0 []).bind fun g => chk (!ocFs d.nm (th ++ ax)) p 272 (.ok (conn 7 [abst d.nm g])))) (XQ ((kidK (ccFs th d.ks) ax p 0 []).bind fun g => chk (!ocFs d.nm (th ++ ax)) p 272 (.ok (conn 7 [abst d.nm g])))) := by
  refine ACallX.walk [0, 2, 3] [2, 3] Tryz.func205 rfl Tryz.ntmps205 (by kernel_rfl) (by rfl) rfl fun W own I0 φ0 lay => ?_
  refine gO ?_
  refine AQ.callHX [] (by kernel_rfl) rfl rfl rfl rfl rfl rfl (by exact trivial) rfl (K.k0 0 0 rfl (by omega) (by omega)) ?_ ?_
  · rintro r H' ⟨p', e', h1, rfl, rfl⟩
    refine ⟨rfl, ?_⟩; refine sH ?_
    exact AEX.out [0] rfl rfl ⟨p', e', by rw [h1]; rfl, rfl, rfl⟩
  rintro r H' ⟨g, hq, rfl, rfl⟩
  refine ⟨rfl, ?_⟩; refine sH ?_
  refine AQ.go (by kernel_rfl) ?_
  refine gO ?_
  refine AQ.callHX [] (by kernel_rfl) rfl rfl rfl rfl rfl rfl (by exact trivial) rfl (fresh0_spec th ax d p d.nm ⟨K.tl, K.al⟩ (fmsS_append K.tS K.aS)) ?_ ?_
  · rintro r H' ⟨hc, rfl, rfl⟩
    refine ⟨rfl, ?_⟩; refine sH ?_
    exact AEX.out [1, 0] rfl rfl ⟨p, 272, by rw [hq, Rs.bind, hc]; rfl, rfl, rfl⟩
  rintro r H' ⟨hc, rfl, rfl⟩
  refine ⟨rfl, ?_⟩; refine sH ?_
  have hu := kidK_well (by omega) hq
  refine gO ?_
  refine AP.drawE 12 (Tree.node [] [0, 1, 2, 3, 4, 5, 6, 7] [8] [Tree.node [] [] [9] [Tree.node [] [] [10] [Tree.node [] [] [11] [Tree.node [] [] [] []]]]]) (by kernel_rfl) rfl (by kernel_rfl) (by kernel_rfl) ?_
  refine vd_node ?_
  refine sI ?_
  repeat' (first | with_reducible exact True.intro | with_reducible refine And.intro (by omega) ?_ | with_reducible refine And.intro ?_ ?_ | (refine AQ.nx rfl ?_; refine sI ?_) | (refine AQ.fn (by kernel_rfl) rfl rfl rfl (abst_at g d.nm hu) rfl ?_; refine sI ?_) | (refine AQ.fn (by kernel_rfl) rfl rfl rfl (conn1_spec 7 (abst d.nm g)) rfl ?_; refine sI ?_) | refine AQ.done ?_ | (refine AQ.go (by kernel_rfl) ?_; refine sI ?_; repeat (with_reducible refine And.intro (by omega) ?_); refine AQ.nx rfl ?_; refine sI ?_))
  refine gO ?_
  exact AE.retD [1, 0] rfl ⟨⟨rfl, Nat.le_of_ble_eq_true (by kernel_rfl)⟩, trivial⟩ rfl ⟨conn 7 [abst d.nm g], by rw [hq, Rs.bind, hc]; rfl, rfl, rfl⟩
theorem allOut_spec (th ax : List Fm) (d : Dv) (p : List Int) (K : KH th ax d p) (hn : d.ks.length = 1) (ht : clT d.t = 0) :
    ACallX Tryz.prog 206 [.im (plP th ax d p)] [] (RQ ((kidK (ccFs th d.ks) ax p 0 []).bind fun g => chk (g.k == 7) p 271 (.ok (opn d.t (part g 0))))) (XQ ((kidK (ccFs th d.ks) ax p 0 []).bind fun g => chk (g.k == 7) p 271 (.ok (opn d.t (part g 0))))) := by
  refine ACallX.walk [0, 2, 3] [2, 3] Tryz.func206 rfl Tryz.ntmps206 (by kernel_rfl) (by rfl) rfl fun W own I0 φ0 lay => ?_
  refine gO ?_
  refine AQ.callHX [] (by kernel_rfl) rfl rfl rfl rfl rfl rfl (by exact trivial) rfl (K.k0 0 0 rfl (by omega) (by omega)) ?_ ?_
  · rintro r H' ⟨p', e', h1, rfl, rfl⟩
    refine ⟨rfl, ?_⟩; refine sH ?_
    exact AEX.out [0] rfl rfl ⟨p', e', by rw [h1]; rfl, rfl, rfl⟩
  rintro r H' ⟨g, hq, rfl, rfl⟩
  refine ⟨rfl, ?_⟩; refine sH ?_
  refine AQ.go (by kernel_rfl) ?_
  refine gO ?_
  refine AQ.callHX [] (by kernel_rfl) rfl rfl rfl rfl rfl rfl (by exact trivial) rfl (must_spec _ _ _ p _ _) ?_ ?_
  · rintro r H' ⟨hc, rfl, rfl⟩
    refine ⟨rfl, ?_⟩; refine sH ?_
    exact AEX.out [1, 0] rfl rfl ⟨p, 271, by rw [hq, Rs.bind, chk_f (fun h => hc (.inl h))], rfl, rfl⟩
  rintro r H' ⟨hc, rfl, rfl⟩
  refine ⟨rfl, ?_⟩; refine sH ?_
  have hc : (g.k == 7) = true := hc.resolve_right (by decide)
  obtain ⟨x, hp, hx⟩ := un_quant (kidK_well (by omega) hq) (.inl (by simpa using hc))
  have hr : fmR g.ps = [fmRow x] := by rw [hp, fmR_one]
  have hp0 : part g 0 = x := by rw [part, hp]; rfl
  rw [hr]
  refine gO ?_
  refine AP.drawE 13 (Tree.node [] [0, 1, 2, 3, 4, 5, 6, 7, 8, 9, 10] [11] [Tree.node [] [] [12] [Tree.node [] [] [] []]]) (by kernel_rfl) rfl (by kernel_rfl) (by kernel_rfl) ?_
  refine vd_node ?_
  refine sE @List.getD_cons_zero.{0} ?_
  repeat' (first | with_reducible exact True.intro | with_reducible refine And.intro (by omega) ?_ | with_reducible refine And.intro ?_ ?_ | (refine AQ.nx rfl ?_; refine sE @List.getD_cons_zero.{0} ?_) | (refine AQ.fn (by kernel_rfl) rfl rfl rfl (opened_at x d.t hx ht) rfl ?_; refine sI ?_) | refine AQ.done ?_ | (refine AQ.go (by kernel_rfl) ?_; refine sE @List.getD_cons_zero.{0} ?_; repeat (with_reducible refine And.intro (by omega) ?_); refine AQ.nx rfl ?_; refine sE @List.getD_cons_zero.{0} ?_))
  refine gO ?_
  exact AE.retD [1, 0] rfl ⟨⟨rfl, Nat.le_of_ble_eq_true (by kernel_rfl)⟩, trivial⟩ rfl ⟨opn d.t x, by rw [hq, Rs.bind, chk_t hc, hp0], rfl, rfl⟩
abbrev tmRow (t : Tm) : List IV := [Si t.nm, Ii t.ix, .sl 3 (tmR t.xs)]
theorem tmR_two (t u : Tm) : tmR [t, u] = [tmRow t, tmRow u] := by rw [tmR, tmR, tmR, tmC_eq, tmC_eq]
theorem reflexive_spec (th ax : List Fm) (d : Dv) (p : List Int) (q : Rs) (hq : q = .ok (.mk 2 [] [d.t, d.t] [])) :
    ACallX Tryz.prog 209 [.im (plP th ax d p)] [] (RQ q) (XQ q) := by
  refine ACallX.walk [0, 2] [2] Tryz.func209 rfl Tryz.ntmps209 (by kernel_rfl) (by rfl) rfl fun W own I0 φ0 lay => ?_
  refine gO ?_
  refine AP.drawE 17 (Tree.node [] [0, 1, 2, 3, 4, 5, 6, 7, 8, 9, 10, 11, 12, 13] [14] [Tree.node [] [15] [16] [Tree.node [] [] [] []]]) (by kernel_rfl) rfl (by kernel_rfl) (by kernel_rfl) ?_
  refine vd_node ?_
  refine sI ?_
  repeat' (first | with_reducible exact True.intro | with_reducible refine And.intro (by omega) ?_ | with_reducible refine And.intro ?_ ?_ | (refine AQ.nx rfl ?_; refine sI ?_) | (fail) | refine AQ.done ?_ | (refine AQ.go (by kernel_rfl) ?_; refine sI ?_; repeat (with_reducible refine And.intro (by omega) ?_); refine AQ.nx rfl ?_; refine sI ?_))
  refine gO ?_
  refine AE.cellsW 0 [Iv 2, Sv [], .im (.sl 3 [tmRow d.t, tmRow d.t]), .im (.sl 4 [])] rfl (cellsLe.cons (cellsLe.cons (cellsLe.cons (cellsLe.nil (cellsLe.refl _))))) ?_
  refine sI ?_
  refine AE.retD [0] rfl ⟨⟨rfl, Nat.le_of_ble_eq_true (by kernel_rfl)⟩, trivial⟩ rfl ⟨.mk 2 [] [d.t, d.t] [], hq, ?_, rfl⟩
  show _ = AV.agg [Iv 2, Sv [], .im (.sl 3 (tmR [d.t, d.t])), .im (.sl 4 [])]
  rw [tmR_two]; rfl
end Go.Proofs.YteacpafhmgdbkaaGreatDoor
end

section
namespace Go.Proofs.YteacpafhmgdbkaaGreatDoor
open Go Go.AL Go.RowKit
set_option maxRecDepth 10000
set_option maxHeartbeats 4000000
theorem someIn_spec (th ax : List Fm) (d : Dv) (p : List Int) (K : KH th ax d p) (hn : d.ks.length = 1) (hf : unF d.f 0 = 0) (ht : clT d.t = 0) :
    ACallX Tryz.prog 207 [.im (plP th ax d p)] [] (RQ ((kidK (ccFs th d.ks) ax p 0 []).bind fun g => chk (d.f.k == 8 && eqF g (opn d.t (part d.f 0))) p 271 (.ok d.f))) (XQ ((kidK (ccFs th d.ks) ax p 0 []).bind fun g => chk (d.f.k == 8 && eqF g (opn d.t (part d.f 0))) p 271 (.ok d.f))) := by
  refine ACallX.walk [0, 2, 3] [2, 3] Tryz.func207 rfl Tryz.ntmps207 (by kernel_rfl) (by rfl) rfl fun W own I0 φ0 lay => ?_
  refine gO ?_
  refine AQ.callHX [] (by kernel_rfl) rfl rfl rfl rfl rfl rfl (by exact trivial) rfl (K.k0 0 0 rfl (by omega) (by omega)) ?_ ?_
  · rintro r H' ⟨p', e', h1, rfl, rfl⟩
    refine ⟨rfl, ?_⟩; refine sH ?_
    exact AEX.out [0] rfl rfl ⟨p', e', by rw [h1]; rfl, rfl, rfl⟩
  rintro r H' ⟨g, hq, rfl, rfl⟩
  refine ⟨rfl, ?_⟩; refine sH ?_
  refine AQ.go (by kernel_rfl) ?_
  refine gO ?_
  have hu := kidK_well (by omega) hq
  by_cases hk : d.f.k = 8
  · obtain ⟨x, hp, hx⟩ := un_quant hf (.inr hk)
    have hb : (d.f.k == 8) = true := by rw [hk]; rfl
    have hr : fmR d.f.ps = [fmRow x] := by rw [hp, fmR_one]
    have hp0 : part d.f 0 = x := by rw [part, hp]; rfl
    have hg0 : (fmR d.f.ps).getD 0 [] = fmRow x := by rw [hr]; rfl
    have hl0 : (fmR d.f.ps).length = 1 := by rw [hr]; rfl
    rw [hp0]
    refine AP.drawE 33 (Tree.node [] [0, 1, 2, 3, 4, 5, 6, 7, 8, 9, 10, 11, 12, 13, 14, 15, 16, 17, 18, 19, 20, 21, 22, 23, 24, 25, 26, 27, 28] [29] [Tree.node [0, 11] [] [30] [Tree.node [0] [31] [32] [Tree.node [] [] [] []]]]) (by kernel_rfl) rfl (by kernel_rfl) (by kernel_rfl) ?_
    refine vd_node ?_
    refine sE (an @hb (an @hg0 @hl0)) ?_
    refine ⟨by omega, ?_⟩
    refine AQ.guard_yes (by simp only [go_sem]) ?_
    refine AQ.fn (by kernel_rfl) rfl rfl rfl (opened_at x d.t hx ht) rfl ?_
    refine sI ?_
    refine AQ.nx rfl ?_
    refine sI ?_
    refine AQ.guard_yes (by simp only [go_sem]) ?_
    refine AQ.fn (by kernel_rfl) rfl rfl rfl (same_spec g (opn d.t x) (un_S hu)) rfl ?_
    refine sI ?_
    refine AQ.nx rfl ?_
    refine sI ?_
    refine AQ.callHX [] (by kernel_rfl) rfl rfl rfl rfl rfl rfl (by exact trivial) rfl (must_spec _ _ _ p _ _) ?_ ?_
    · rintro r H' ⟨hc, rfl, rfl⟩
      refine ⟨rfl, ?_⟩; refine sH ?_
      exact AEX.outR [1, 0] rfl rfl rfl ⟨p, 271, by rw [hq, Rs.bind, chk_f]; exact fun h => hc (.inl h), rfl, rfl⟩
    rintro r H' ⟨hc, rfl, rfl⟩
    refine ⟨rfl, ?_⟩; refine sH ?_
    have hc2 : eqF g (opn d.t x) = true := by simpa using hc
    refine AQ.nx rfl ?_
    refine sI ?_
    refine AQ.done ?_
    refine gO ?_
    exact AE.retD [1, 0] rfl ⟨⟨rfl, Nat.le_of_ble_eq_true (by kernel_rfl)⟩, trivial⟩ rfl ⟨d.f, by rw [hq, Rs.bind, chk_t (by exact hc2)], rfl, rfl⟩
  · have hb : (d.f.k == 8) = false := by simp [hk]
    refine AP.drawE 33 (Tree.node [] [0, 1, 2, 3, 4, 5, 6, 7, 8, 9, 10, 11, 12, 13, 14, 15, 16, 17, 18, 19, 20, 21, 22, 23, 24, 25, 26, 27, 28] [29] [Tree.node [0, 11] [] [30] [Tree.node [0] [31] [32] [Tree.node [] [] [] []]]]) (by kernel_rfl) rfl (by kernel_rfl) (by kernel_rfl) ?_
    refine vd_node ?_
    refine sI ?_
    rw [hb]
    refine And.intro (fun h => by cases h) (And.intro (fun h => by cases h) ?_)
    refine AQ.skip (by kernel_rfl) rfl ?_
    refine sI ?_
    refine AQ.nx rfl ?_
    refine sI ?_
    refine AQ.skip (by kernel_rfl) rfl ?_
    refine sI ?_
    refine AQ.nx rfl ?_
    refine sI ?_
    refine AQ.callHX [] (by kernel_rfl) rfl rfl rfl rfl rfl rfl (by exact trivial) rfl (must_spec _ _ _ p _ _) ?_ ?_
    · rintro r H' ⟨hc, rfl, rfl⟩
      refine ⟨rfl, ?_⟩; refine sH ?_
      exact AEX.outR [1, 0] rfl rfl rfl ⟨p, 271, by rw [hq, Rs.bind, chk_f]; exact fun h => hc (.inl h), rfl, rfl⟩
    rintro r H' ⟨hc, rfl, rfl⟩
    simp at hc
end Go.Proofs.YteacpafhmgdbkaaGreatDoor
end

section
namespace Go.Proofs.YteacpafhmgdbkaaGreatDoor
open Go Go.AL Go.RowKit
set_option maxRecDepth 10000
set_option maxHeartbeats 4000000
theorem replace_spec (th ax : List Fm) (d : Dv) (p : List Int) (K : KH th ax d p) (hn : d.ks.length = 2) (hf : unF d.f 1 = 0) :
    ACallX Tryz.prog 210 [.im (plP th ax d p)] [] (RQ ((kidK (ccFs th d.ks) ax p 0 []).bind fun g => (kidK (ccFs th d.ks) ax p 1 []).bind fun a => chk (g.k == 2 && eqF a (opn (side g 0) d.f)) p 271 (.ok (opn (side g 1) d.f)))) (XQ ((kidK (ccFs th d.ks) ax p 0 []).bind fun g => (kidK (ccFs th d.ks) ax p 1 []).bind fun a => chk (g.k == 2 && eqF a (opn (side g 0) d.f)) p 271 (.ok (opn (side g 1) d.f)))) := by
  refine ACallX.walk [0, 2, 3, 4] [2, 3, 4] Tryz.func210 rfl Tryz.ntmps210 (by kernel_rfl) (by rfl) rfl fun W own I0 φ0 lay => ?_
  refine gO ?_
  refine AQ.callHX [] (by kernel_rfl) rfl rfl rfl rfl rfl rfl (by exact trivial) rfl (K.k0 0 0 rfl (by omega) (by omega)) ?_ ?_
  · rintro r H' ⟨p', e', h1, rfl, rfl⟩
    refine ⟨rfl, ?_⟩; refine sH ?_
    exact AEX.out [0] rfl rfl ⟨p', e', by rw [h1]; rfl, rfl, rfl⟩
  rintro r H' ⟨g, hq, rfl, rfl⟩
  refine ⟨rfl, ?_⟩; refine sH ?_
  refine AQ.go (by kernel_rfl) ?_
  refine gO ?_
  refine AQ.callHX [] (by kernel_rfl) rfl rfl rfl rfl rfl rfl (by exact trivial) rfl (K.k0 1 1 rfl (by omega) (by omega)) ?_ ?_
  · rintro r H' ⟨p', e', h1, rfl, rfl⟩
    refine ⟨rfl, ?_⟩; refine sH ?_
    exact AEX.out [0] rfl rfl ⟨p', e', by rw [hq, Rs.bind, h1]; rfl, rfl, rfl⟩
  rintro r H' ⟨a, hq2, rfl, rfl⟩
  refine ⟨rfl, ?_⟩; refine sH ?_
  refine AQ.go (by kernel_rfl) ?_
  refine gO ?_
  have ha := kidK_well (by omega) hq2
  by_cases hk : g.k = 2
  · obtain ⟨x, y, hp, hx, hy⟩ := un_eq (kidK_well (by omega) hq) hk
    have hb : (g.k == 2) = true := by rw [hk]; rfl
    have hr : tmR g.ts = [tmRow x, tmRow y] := by rw [hp, tmR_two]
    have hp0 : side g 0 = x := by rw [side, hp]; rfl
    have hp1 : side g 1 = y := by rw [side, hp]; rfl
    rw [hr]
    refine AP.drawE 21 (Tree.node [] [0, 1, 2, 3, 4, 5, 6, 7, 8, 9, 10, 11, 12, 13, 14, 15, 16] [17] [Tree.node [0, 5] [] [18] [Tree.node [0] [19] [20] [Tree.node [] [] [] []]]]) (by kernel_rfl) rfl (by kernel_rfl) (by kernel_rfl) ?_
    refine vd_node ?_
    refine sE (an @hb @List.getD_cons_zero.{0}) ?_
    refine ⟨by omega, ?_⟩
    refine AQ.guard_yes (by simp only [go_sem]) ?_
    refine AQ.fn (by kernel_rfl) rfl rfl rfl (opened_at d.f x hf hx) rfl ?_
    refine sI ?_
    refine AQ.nx rfl ?_
    refine sI ?_
    refine AQ.guard_yes (by simp only [go_sem]) ?_
    refine AQ.fn (by kernel_rfl) rfl rfl rfl (same_spec a (opn x d.f) (un_S ha)) rfl ?_
    refine sI ?_
    refine AQ.nx rfl ?_
    refine sI ?_
    refine AQ.callHX [] (by kernel_rfl) rfl rfl rfl rfl rfl rfl (by exact trivial) rfl (must_spec _ _ _ p _ _) ?_ ?_
    · rintro r H' ⟨hc, rfl, rfl⟩
      refine ⟨rfl, ?_⟩; refine sH ?_
      exact AEX.outR [2, 1, 0] rfl rfl rfl ⟨p, 271, by rw [hq, Rs.bind, hq2, Rs.bind, chk_f]; rw [hb, hp0]; exact fun h => hc (.inl h), rfl, rfl⟩
    rintro r H' ⟨hc, rfl, rfl⟩
    refine ⟨rfl, ?_⟩; refine sH ?_
    have hc2 : eqF a (opn x d.f) = true := by simpa using hc
    refine AQ.nx rfl ?_
    refine sI ?_
    refine AQ.done ?_
    refine gO ?_
    refine AP.drawE 13 (Tree.node [] [0, 1, 2, 3, 4, 5, 6, 7, 8, 9, 10] [11] [Tree.node [] [] [12] [Tree.node [] [] [] []]]) (by kernel_rfl) rfl (by kernel_rfl) (by kernel_rfl) ?_
    refine vd_node ?_
    refine sE (an @List.getD_cons_succ.{0} @List.getD_cons_zero.{0}) ?_
    refine ⟨by omega, ?_⟩
    refine AQ.fn (by kernel_rfl) rfl rfl rfl (opened_at d.f y hf hy) rfl ?_
    refine sI ?_
    refine AQ.nx rfl ?_
    refine sI ?_
    refine AQ.go (by kernel_rfl) ?_
    refine sI ?_
    refine AQ.nx rfl ?_
    refine sI ?_
    refine AQ.done ?_
    refine gO ?_
    exact AE.retD [2, 1, 0] rfl ⟨⟨rfl, Nat.le_of_ble_eq_true (by kernel_rfl)⟩, trivial⟩ rfl ⟨opn y d.f, by rw [hq, Rs.bind, hq2, Rs.bind, chk_t (by rw [hb, hp0]; exact hc2), hp1], rfl, rfl⟩
  · have hb : (g.k == 2) = false := by simp [hk]
    refine AP.drawE 21 (Tree.node [] [0, 1, 2, 3, 4, 5, 6, 7, 8, 9, 10, 11, 12, 13, 14, 15, 16] [17] [Tree.node [0, 5] [] [18] [Tree.node [0] [19] [20] [Tree.node [] [] [] []]]]) (by kernel_rfl) rfl (by kernel_rfl) (by kernel_rfl) ?_
    refine vd_node ?_
    refine sI ?_
    rw [hb]
    refine And.intro (fun h => by cases h) (And.intro (fun h => by cases h) ?_)
    refine AQ.skip (by kernel_rfl) rfl ?_
    refine sI ?_
    refine AQ.nx rfl ?_
    refine sI ?_
    refine AQ.skip (by kernel_rfl) rfl ?_
    refine sI ?_
    refine AQ.nx rfl ?_
    refine sI ?_
    refine AQ.callHX [] (by kernel_rfl) rfl rfl rfl rfl rfl rfl (by exact trivial) rfl (must_spec _ _ _ p _ _) ?_ ?_
    · rintro r H' ⟨hc, rfl, rfl⟩
      refine ⟨rfl, ?_⟩; refine sH ?_
      exact AEX.outR [2, 1, 0] rfl rfl rfl ⟨p, 271, by rw [hq, Rs.bind, hq2, Rs.bind, chk_f]; rw [hb]; exact fun h => hc (.inl h), rfl, rfl⟩
    rintro r H' ⟨hc, rfl, rfl⟩
    simp at hc
end Go.Proofs.YteacpafhmgdbkaaGreatDoor
end

section
namespace Go.Proofs.YteacpafhmgdbkaaGreatDoor
open Go Go.AL Go.RowKit
set_option maxRecDepth 10000
set_option maxHeartbeats 4000000
theorem someOut_spec (th ax : List Fm) (d : Dv) (p : List Int) (K : KH th ax d p) (hn : d.ks.length = 2) :
    ACallX Tryz.prog 208 [.im (plP th ax d p)] [] (RQ ((kidK (ccFs th d.ks) ax p 0 []).bind fun g => chk (g.k == 8) p 271 (chk (!ocFs d.nm (th ++ ax ++ [g])) p 272 ((kidK (ccFs th d.ks) ax p 1 [opn (.mk d.nm 0 []) (part g 0)]).bind fun c => chk (!ocF d.nm c) p 272 (.ok c))))) (XQ ((kidK (ccFs th d.ks) ax p 0 []).bind fun g => chk (g.k == 8) p 271 (chk (!ocFs d.nm (th ++ ax ++ [g])) p 272 ((kidK (ccFs th d.ks) ax p 1 [opn (.mk d.nm 0 []) (part g 0)]).bind fun c => chk (!ocF d.nm c) p 272 (.ok c))))) := by
  have hS := dvS_eq.1 K.S
  refine ACallX.walk [0, 2, 3, 4] [2, 3, 4] Tryz.func208 rfl Tryz.ntmps208 (by kernel_rfl) (by rfl) rfl fun W own I0 φ0 lay => ?_
  refine gO ?_
  refine AQ.callHX [] (by kernel_rfl) rfl rfl rfl rfl rfl rfl (by exact trivial) rfl (K.k0 0 0 rfl (by omega) (by omega)) ?_ ?_
  · rintro r H' ⟨p', e', h1, rfl, rfl⟩
    refine ⟨rfl, ?_⟩; refine sH ?_
    exact AEX.out [0] rfl rfl ⟨p', e', by rw [h1]; rfl, rfl, rfl⟩
  rintro r H' ⟨g, hq, rfl, rfl⟩
  refine ⟨rfl, ?_⟩; refine sH ?_
  refine AQ.go (by kernel_rfl) ?_
  refine gO ?_
  refine AQ.callHX [] (by kernel_rfl) rfl rfl rfl rfl rfl rfl (by exact trivial) rfl (must_spec _ _ _ p _ _) ?_ ?_
  · rintro r H' ⟨hc, rfl, rfl⟩
    refine ⟨rfl, ?_⟩; refine sH ?_
    exact AEX.out [1, 0] rfl rfl ⟨p, 271, by rw [hq, Rs.bind, chk_f (fun h => hc (.inl h))], rfl, rfl⟩
  rintro r H' ⟨hc, rfl, rfl⟩
  refine ⟨rfl, ?_⟩; refine sH ?_
  have hc : (g.k == 8) = true := hc.resolve_right (by decide)
  have hg := kidK_well (by omega) hq
  obtain ⟨x, hp, hx⟩ := un_quant hg (.inr (by simpa using hc))
  have hr : fmR g.ps = [fmRow x] := by rw [hp, fmR_one]
  have hp0 : part g 0 = x := by rw [part, hp]; rfl
  have hfr := fresh_spec th ax [g] d p d.nm ⟨K.tl, K.al, by simp⟩ (fmsS_append (fmsS_append K.tS K.aS) (fmsS_one (un_S hg)))
  rw [fmR_one] at hfr
  refine gO ?_
  refine AP.drawE 11 (Tree.node [] [0, 1, 2, 3, 4, 5, 6, 7, 8] [9] [Tree.node [0, 1, 2, 3, 4, 5, 6, 7] [] [10] [Tree.node [] [] [] []]]) (by kernel_rfl) rfl (by kernel_rfl) (by kernel_rfl) ?_
  refine vd_node ?_
  refine sI ?_
  refine AQ.go (by kernel_rfl) ?_
  refine sI ?_
  refine AQ.nx rfl ?_
  refine sI ?_
  refine AQ.callHX [] (by kernel_rfl) rfl rfl rfl rfl rfl rfl (by exact trivial) rfl (hfr) ?_ ?_
  · rintro r H' ⟨hc3, rfl, rfl⟩
    refine ⟨rfl, ?_⟩; refine sH ?_
    exact AEX.outR [1, 0] rfl rfl rfl ⟨p, 272, by rw [hq, Rs.bind, chk_t hc, hc3]; rfl, rfl, rfl⟩
  rintro r H' ⟨hc3, rfl, rfl⟩
  refine ⟨rfl, ?_⟩; refine sH ?_
  refine AQ.nx rfl ?_
  refine sI ?_
  refine AQ.done ?_
  have hos : PFn Tryz.prog 69 [fmV x, tmV (.mk d.nm 0 [])] (fmV (opn (.mk d.nm 0 []) x)) := by
    obtain ⟨m, hm⟩ := un_ms hx
    exact opened_spec x (.mk d.nm 0 []) 1 0 m hm (by omega) (by omega) (by rw [tmL, tmsL]; exact ⟨by simp, trivial⟩)
  have hxs : fmS (opn (.mk d.nm 0 []) x) := opn_S (by rw [tmS, tmsS]; exact ⟨hS.1.1, by simp, trivial⟩) (un_S hx)
  have hk1 := K.one 1 1 (opn (.mk d.nm 0 []) x) rfl (by omega) (by omega) hxs
  rw [hr]
  refine gO ?_
  obtain ⟨o, ho⟩ : ∃ o, opn (.mk d.nm 0 []) x = o := ⟨_, rfl⟩
  rw [ho] at hos hk1
  refine AP.cut (α := Fm) (fun c => [(0, .im (plP th ax d p)), (2, .ob 0 0), (4, .ob 2 0)]) (fun c => [(2, .var 27 [Iv c.k, Sv c.nm, .im (.sl 3 (tmR c.ts)), .im (.sl 4 (fmR c.ps))]), (1, .var 27 [Iv g.k, Sv g.nm, .im (.sl 3 (tmR g.ts)), .im (.sl 4 [fmRow x])]), (0, .var 27 [Iv 0, Sv [], .im (.v (.slice none 0 0)), .im (.v (.slice none 0 0))])]) (fun c => kidK (ccFs th d.ks) ax p 1 [o] = .ok c) ?_ fun c hq2 => ?_
  · skip
    refine AP.drawE 18 (Tree.node [] [0, 1, 2, 3, 4, 5, 6, 7, 8, 9, 10, 11] [12, 16] [Tree.node [0, 1, 2, 3, 4] [] [13, 16] [Tree.node [0] [] [14, 16] [Tree.node [0] [] [15, 16] [Tree.node [] [] [16] [Tree.node [] [] [17] [Tree.node [] [] [] []]], Tree.node [0] [] [15] [Tree.node [] [] [17] [Tree.node [] [] [] []]]], Tree.node [0] [] [14] [Tree.node [0] [] [15] [Tree.node [] [] [17] [Tree.node [] [] [] []]]]], Tree.node [0, 1, 2, 3, 4] [] [13] [Tree.node [0] [] [14] [Tree.node [0] [] [15] [Tree.node [] [] [17] [Tree.node [] [] [] []]]]]], Tree.node [0, 1, 2, 3, 4, 5, 6, 7, 8, 9, 10, 11] [] [12] [Tree.node [0, 1, 2, 3, 4] [] [13] [Tree.node [0] [] [14] [Tree.node [0] [] [15] [Tree.node [] [] [17] [Tree.node [] [] [] []]]]]]]) (by kernel_rfl) rfl (by kernel_rfl) (by kernel_rfl) ?_
    refine vd_node ?_
    refine sE @List.getD_cons_zero.{0} ?_
    repeat' (first | with_reducible exact True.intro | with_reducible refine And.intro (by omega) ?_ | with_reducible refine And.intro ?_ ?_ | (refine AQ.nx rfl ?_; refine sE @List.getD_cons_zero.{0} ?_) | ((with_reducible show AQ _ _ _ ({ dst := _, op := Op.call { callee := Callee.value (Operand.func 219), args := _, argTypes := _ }, type := _, pos := _, after := _, guard := _ } :: _) _ _ _); refine AQ.fn (by kernel_rfl) rfl rfl rfl (parameter_spec d.nm) rfl ?_; refine sI ?_) | ((with_reducible show AQ _ _ _ ({ dst := _, op := Op.call { callee := Callee.value (Operand.func 69), args := _, argTypes := _ }, type := _, pos := _, after := _, guard := _ } :: _) _ _ _); refine AQ.fn (by kernel_rfl) rfl rfl rfl (hos) rfl ?_; refine sI ?_) | ((with_reducible show AQ _ _ _ ({ dst := _, op := Op.call { callee := Callee.value (Operand.func 242), args := _, argTypes := _ }, type := _, pos := _, after := _, guard := _ } :: _) _ _ _); refine AQ.callHX [] (by kernel_rfl) rfl rfl rfl rfl rfl rfl (by exact trivial) rfl (hk1) ?_ ?_; (rintro r H' ⟨p', e', h1, rfl, rfl⟩; refine ⟨rfl, ?_⟩; refine sH ?_; first | exact AEX.outR [1, 0] rfl rfl rfl ⟨p', e', by rw [hq, Rs.bind, chk_t hc, hc3, hp0, ho, h1]; rfl, rfl, rfl⟩ | exact AEX.outR [2, 1, 0] rfl rfl rfl ⟨p', e', by rw [hq, Rs.bind, chk_t hc, hc3, hp0, ho, h1]; rfl, rfl, rfl⟩); rintro r H' ⟨c, hq2, rfl, rfl⟩; refine ⟨rfl, ?_⟩; refine sH ?_) | refine AQ.done ?_ | (refine AQ.go (by kernel_rfl) ?_; refine sE @List.getD_cons_zero.{0} ?_; repeat (with_reducible refine And.intro (by omega) ?_); refine AQ.nx rfl ?_; refine sE @List.getD_cons_zero.{0} ?_))
    all_goals exact AE.meet c hq2 (sU) rfl
  have hcw := kidK_well (by omega) hq2
  refine gO ?_
  refine AP.drawE 12 (Tree.node [] [0, 1, 2, 3, 4, 5, 6, 7, 8] [9] [Tree.node [0] [10] [11] [Tree.node [] [] [] []]]) (by kernel_rfl) rfl (by kernel_rfl) (by kernel_rfl) ?_
  refine vd_node ?_
  refine sI ?_
  refine AQ.fn (by kernel_rfl) rfl rfl rfl (occurs_spec c d.nm (un_S hcw)) rfl ?_
  refine sI ?_
  refine AQ.nx rfl ?_
  refine sI ?_
  refine AQ.callHX [] (by kernel_rfl) rfl rfl rfl rfl rfl rfl (by exact trivial) rfl (must_spec _ _ _ p _ _) ?_ ?_
  · rintro r H' ⟨hc4, rfl, rfl⟩
    refine ⟨rfl, ?_⟩; refine sH ?_
    exact AEX.outR [2, 1, 0] rfl rfl rfl ⟨p, 272, by rw [hq, Rs.bind, chk_t hc, hc3, chk_t (show (!false) = true from rfl), hp0, ho, hq2, Rs.bind]; exact chk_f (fun h => hc4 (.inl h)), rfl, rfl⟩
  rintro r H' ⟨hc4, rfl, rfl⟩
  refine ⟨rfl, ?_⟩; refine sH ?_
  have hc4 : (!ocF d.nm c) = true := hc4.resolve_right (by decide)
  refine AQ.nx rfl ?_
  refine sI ?_
  refine AQ.done ?_
  refine gO ?_
  exact AE.retD [2, 1, 0] rfl ⟨⟨rfl, Nat.le_of_ble_eq_true (by kernel_rfl)⟩, trivial⟩ rfl ⟨c, by rw [hq, Rs.bind, chk_t hc, hc3, chk_t (show (!false) = true from rfl), hp0, ho, hq2, Rs.bind]; exact chk_t hc4, rfl, rfl⟩
end Go.Proofs.YteacpafhmgdbkaaGreatDoor
end

section
namespace Go.Proofs.YteacpafhmgdbkaaGreatDoor
open Go Go.AL Go.RowKit
set_option maxRecDepth 10000
set_option maxHeartbeats 40000000
theorem orOut_spec (th ax : List Fm) (d : Dv) (p : List Int) (K : KH th ax d p) (hn : d.ks.length = 3) :
    ACallX Tryz.prog 202 [.im (plP th ax d p)] [] (RQ ((kidK (ccFs th d.ks) ax p 0 []).bind fun g => chk (g.k == 6) p 271 ((kidK (ccFs th d.ks) ax p 1 [part g 0]).bind fun a => (kidK (ccFs th d.ks) ax p 2 [part g 1]).bind fun b => chk (eqF a b) p 271 (.ok a)))) (XQ ((kidK (ccFs th d.ks) ax p 0 []).bind fun g => chk (g.k == 6) p 271 ((kidK (ccFs th d.ks) ax p 1 [part g 0]).bind fun a => (kidK (ccFs th d.ks) ax p 2 [part g 1]).bind fun b => chk (eqF a b) p 271 (.ok a)))) := by
  refine ACallX.walk [0, 2, 3, 4, 5] [2, 3, 4, 5] Tryz.func202 rfl Tryz.ntmps202 (by kernel_rfl) (by rfl) rfl fun W own I0 φ0 lay => ?_
  refine gO ?_
  refine AQ.callHX [] (by kernel_rfl) rfl rfl rfl rfl rfl rfl (by exact trivial) rfl (K.k0 0 0 rfl (by omega) (by omega)) ?_ ?_
  · rintro r H' ⟨p', e', h1, rfl, rfl⟩
    refine ⟨rfl, ?_⟩; refine sH ?_
    exact AEX.out [0] rfl rfl ⟨p', e', by rw [h1]; rfl, rfl, rfl⟩
  rintro r H' ⟨g, hq, rfl, rfl⟩
  refine ⟨rfl, ?_⟩; refine sH ?_
  refine AQ.go (by kernel_rfl) ?_
  refine gO ?_
  refine AQ.callHX [] (by kernel_rfl) rfl rfl rfl rfl rfl rfl (by exact trivial) rfl (must_spec _ _ _ p _ _) ?_ ?_
  · rintro r H' ⟨hc, rfl, rfl⟩
    refine ⟨rfl, ?_⟩; refine sH ?_
    exact AEX.out [1, 0] rfl rfl ⟨p, 271, by rw [hq, Rs.bind, chk_f (fun h => hc (.inl h))], rfl, rfl⟩
  rintro r H' ⟨hc, rfl, rfl⟩
  refine ⟨rfl, ?_⟩; refine sH ?_
  have hc : (g.k == 6) = true := hc.resolve_right (by decide)
  obtain ⟨x, y, hp, hx, hy⟩ := un_two (kidK_well (by omega) hq) (.inr (.inr (by simpa using hc)))
  have hr : fmR g.ps = [fmRow x, fmRow y] := by rw [hp, fmR_two]
  have hp0 : part g 0 = x := by rw [part, hp]; rfl
  have hp1 : part g 1 = y := by rw [part, hp]; rfl
  rw [hr]
  refine gO ?_
  have hk1 := K.one 1 1 x rfl (by omega) (by omega) (un_S hx)
  have hk2 := K.one 2 2 y rfl (by omega) (by omega) (un_S hy)
  refine AP.cut (α := Bool × Fm × Fm) (fun q => [(0, .im (plP th ax d p)), (2, .ob 0 0), (4, .ob (bif q.1 then 3 else 2) 0), (5, .ob (bif q.1 then 2 else 3) 0)]) (fun q => [(3, .var 27 (bif q.1 then [Iv q.2.1.k, Sv q.2.1.nm, .im (.sl 3 (tmR q.2.1.ts)), .im (.sl 4 (fmR q.2.1.ps))] else [Iv q.2.2.k, Sv q.2.2.nm, .im (.sl 3 (tmR q.2.2.ts)), .im (.sl 4 (fmR q.2.2.ps))])), (2, .var 27 (bif q.1 then [Iv q.2.2.k, Sv q.2.2.nm, .im (.sl 3 (tmR q.2.2.ts)), .im (.sl 4 (fmR q.2.2.ps))] else [Iv q.2.1.k, Sv q.2.1.nm, .im (.sl 3 (tmR q.2.1.ts)), .im (.sl 4 (fmR q.2.1.ps))])), (1, .var 27 [Iv g.k, Sv g.nm, .im (.sl 3 (tmR g.ts)), .im (.sl 4 [fmRow x, fmRow y])]), (0, .var 27 [Iv 0, Sv [], .im (.v (.slice none 0 0)), .im (.v (.slice none 0 0))])]) (fun q => kidK (ccFs th d.ks) ax p 1 [x] = .ok q.2.1 ∧ kidK (ccFs th d.ks) ax p 2 [y] = .ok q.2.2) ?_ fun q hqq => ?_
  · skip
    refine AP.drawE 18 (Tree.node [] [0, 1, 2, 3, 4, 7, 8, 9, 10, 11] [5, 12, 14, 15] [Tree.node [0, 7, 8, 9, 10, 11] [] [6, 12, 14, 15] [Tree.node [7, 8, 9, 10, 11] [] [12, 14, 15] [Tree.node [7] [] [13, 14, 15] [Tree.node [] [] [14, 15] [Tree.node [] [] [15] [Tree.node [] [] [16] [Tree.node [] [] [17] [Tree.node [] [] [] []]]], Tree.node [] [] [14] [Tree.node [] [] [16] [Tree.node [] [] [17] [Tree.node [] [] [] []]]]], Tree.node [7] [] [13, 15] [Tree.node [] [] [15] [Tree.node [] [] [16] [Tree.node [] [] [17] [Tree.node [] [] [] []]]], Tree.node [7] [] [13] [Tree.node [] [] [16] [Tree.node [] [] [17] [Tree.node [] [] [] []]]]], Tree.node [7] [] [13, 14] [Tree.node [] [] [14] [Tree.node [] [] [16] [Tree.node [] [] [17] [Tree.node [] [] [] []]]], Tree.node [7] [] [13] [Tree.node [] [] [16] [Tree.node [] [] [17] [Tree.node [] [] [] []]]]]], Tree.node [7, 8, 9, 10, 11] [] [12, 15] [Tree.node [7] [] [13, 15] [Tree.node [] [] [15] [Tree.node [] [] [16] [Tree.node [] [] [17] [Tree.node [] [] [] []]]], Tree.node [7] [] [13] [Tree.node [] [] [16] [Tree.node [] [] [17] [Tree.node [] [] [] []]]]], Tree.node [7, 8, 9, 10, 11] [] [12] [Tree.node [7] [] [13] [Tree.node [] [] [16] [Tree.node [] [] [17] [Tree.node [] [] [] []]]]]], Tree.node [7, 8, 9, 10, 11] [] [12, 14] [Tree.node [7] [] [13, 14] [Tree.node [] [] [14] [Tree.node [] [] [16] [Tree.node [] [] [17] [Tree.node [] [] [] []]]], Tree.node [7] [] [13] [Tree.node [] [] [16] [Tree.node [] [] [17] [Tree.node [] [] [] []]]]], Tree.node [7, 8, 9, 10, 11] [] [12] [Tree.node [7] [] [13] [Tree.node [] [] [16] [Tree.node [] [] [17] [Tree.node [] [] [] []]]]]]], Tree.node [0, 7] [] [6, 14, 15] [Tree.node [7] [] [13, 14, 15] [Tree.node [] [] [14, 15] [Tree.node [] [] [15] [Tree.node [] [] [16] [Tree.node [] [] [17] [Tree.node [] [] [] []]]], Tree.node [] [] [14] [Tree.node [] [] [16] [Tree.node [] [] [17] [Tree.node [] [] [] []]]]], Tree.node [7] [] [13, 15] [Tree.node [] [] [15] [Tree.node [] [] [16] [Tree.node [] [] [17] [Tree.node [] [] [] []]]], Tree.node [7] [] [13] [Tree.node [] [] [16] [Tree.node [] [] [17] [Tree.node [] [] [] []]]]], Tree.node [7] [] [13, 14] [Tree.node [] [] [14] [Tree.node [] [] [16] [Tree.node [] [] [17] [Tree.node [] [] [] []]]], Tree.node [7] [] [13] [Tree.node [] [] [16] [Tree.node [] [] [17] [Tree.node [] [] [] []]]]]], Tree.node [0, 7] [] [6, 15] [Tree.node [7] [] [13, 15] [Tree.node [] [] [15] [Tree.node [] [] [16] [Tree.node [] [] [17] [Tree.node [] [] [] []]]], Tree.node [7] [] [13] [Tree.node [] [] [16] [Tree.node [] [] [17] [Tree.node [] [] [] []]]]], Tree.node [0, 7] [] [6] [Tree.node [7] [] [13] [Tree.node [] [] [16] [Tree.node [] [] [17] [Tree.node [] [] [] []]]]]], Tree.node [0, 7] [] [6, 14] [Tree.node [7] [] [13, 14] [Tree.node [] [] [14] [Tree.node [] [] [16] [Tree.node [] [] [17] [Tree.node [] [] [] []]]], Tree.node [7] [] [13] [Tree.node [] [] [16] [Tree.node [] [] [17] [Tree.node [] [] [] []]]]], Tree.node [0, 7] [] [6] [Tree.node [7] [] [13] [Tree.node [] [] [16] [Tree.node [] [] [17] [Tree.node [] [] [] []]]]]]], Tree.node [0, 7, 8, 9, 10, 11] [] [6, 12, 15] [Tree.node [7, 8, 9, 10, 11] [] [12, 15] [Tree.node [7] [] [13, 15] [Tree.node [] [] [15] [Tree.node [] [] [16] [Tree.node [] [] [17] [Tree.node [] [] [] []]]], Tree.node [7] [] [13] [Tree.node [] [] [16] [Tree.node [] [] [17] [Tree.node [] [] [] []]]]], Tree.node [7, 8, 9, 10, 11] [] [12] [Tree.node [7] [] [13] [Tree.node [] [] [16] [Tree.node [] [] [17] [Tree.node [] [] [] []]]]]], Tree.node [0, 7] [] [6, 15] [Tree.node [7] [] [13, 15] [Tree.node [] [] [15] [Tree.node [] [] [16] [Tree.node [] [] [17] [Tree.node [] [] [] []]]], Tree.node [7] [] [13] [Tree.node [] [] [16] [Tree.node [] [] [17] [Tree.node [] [] [] []]]]], Tree.node [0, 7] [] [6] [Tree.node [7] [] [13] [Tree.node [] [] [16] [Tree.node [] [] [17] [Tree.node [] [] [] []]]]]], Tree.node [0, 7, 8, 9, 10, 11] [] [6, 12] [Tree.node [7, 8, 9, 10, 11] [] [12] [Tree.node [7] [] [13] [Tree.node [] [] [16] [Tree.node [] [] [17] [Tree.node [] [] [] []]]]], Tree.node [0, 7] [] [6] [Tree.node [7] [] [13] [Tree.node [] [] [16] [Tree.node [] [] [17] [Tree.node [] [] [] []]]]]]], Tree.node [0, 7, 8, 9, 10, 11] [] [6, 12, 14] [Tree.node [7, 8, 9, 10, 11] [] [12, 14] [Tree.node [7] [] [13, 14] [Tree.node [] [] [14] [Tree.node [] [] [16] [Tree.node [] [] [17] [Tree.node [] [] [] []]]], Tree.node [7] [] [13] [Tree.node [] [] [16] [Tree.node [] [] [17] [Tree.node [] [] [] []]]]], Tree.node [7, 8, 9, 10, 11] [] [12] [Tree.node [7] [] [13] [Tree.node [] [] [16] [Tree.node [] [] [17] [Tree.node [] [] [] []]]]]], Tree.node [0, 7] [] [6, 14] [Tree.node [7] [] [13, 14] [Tree.node [] [] [14] [Tree.node [] [] [16] [Tree.node [] [] [17] [Tree.node [] [] [] []]]], Tree.node [7] [] [13] [Tree.node [] [] [16] [Tree.node [] [] [17] [Tree.node [] [] [] []]]]], Tree.node [0, 7] [] [6] [Tree.node [7] [] [13] [Tree.node [] [] [16] [Tree.node [] [] [17] [Tree.node [] [] [] []]]]]], Tree.node [0, 7, 8, 9, 10, 11] [] [6, 12] [Tree.node [7, 8, 9, 10, 11] [] [12] [Tree.node [7] [] [13] [Tree.node [] [] [16] [Tree.node [] [] [17] [Tree.node [] [] [] []]]]], Tree.node [0, 7] [] [6] [Tree.node [7] [] [13] [Tree.node [] [] [16] [Tree.node [] [] [17] [Tree.node [] [] [] []]]]]]]], Tree.node [0, 1, 2, 3, 4, 7] [] [5, 14, 15] [Tree.node [0, 7] [] [6, 14, 15] [Tree.node [7] [] [13, 14, 15] [Tree.node [] [] [14, 15] [Tree.node [] [] [15] [Tree.node [] [] [16] [Tree.node [] [] [17] [Tree.node [] [] [] []]]], Tree.node [] [] [14] [Tree.node [] [] [16] [Tree.node [] [] [17] [Tree.node [] [] [] []]]]], Tree.node [7] [] [13, 15] [Tree.node [] [] [15] [Tree.node [] [] [16] [Tree.node [] [] [17] [Tree.node [] [] [] []]]], Tree.node [7] [] [13] [Tree.node [] [] [16] [Tree.node [] [] [17] [Tree.node [] [] [] []]]]], Tree.node [7] [] [13, 14] [Tree.node [] [] [14] [Tree.node [] [] [16] [Tree.node [] [] [17] [Tree.node [] [] [] []]]], Tree.node [7] [] [13] [Tree.node [] [] [16] [Tree.node [] [] [17] [Tree.node [] [] [] []]]]]], Tree.node [0, 7] [] [6, 15] [Tree.node [7] [] [13, 15] [Tree.node [] [] [15] [Tree.node [] [] [16] [Tree.node [] [] [17] [Tree.node [] [] [] []]]], Tree.node [7] [] [13] [Tree.node [] [] [16] [Tree.node [] [] [17] [Tree.node [] [] [] []]]]], Tree.node [0, 7] [] [6] [Tree.node [7] [] [13] [Tree.node [] [] [16] [Tree.node [] [] [17] [Tree.node [] [] [] []]]]]], Tree.node [0, 7] [] [6, 14] [Tree.node [7] [] [13, 14] [Tree.node [] [] [14] [Tree.node [] [] [16] [Tree.node [] [] [17] [Tree.node [] [] [] []]]], Tree.node [7] [] [13] [Tree.node [] [] [16] [Tree.node [] [] [17] [Tree.node [] [] [] []]]]], Tree.node [0, 7] [] [6] [Tree.node [7] [] [13] [Tree.node [] [] [16] [Tree.node [] [] [17] [Tree.node [] [] [] []]]]]]], Tree.node [0, 1, 2, 3, 4, 7] [] [5, 15] [Tree.node [0, 7] [] [6, 15] [Tree.node [7] [] [13, 15] [Tree.node [] [] [15] [Tree.node [] [] [16] [Tree.node [] [] [17] [Tree.node [] [] [] []]]], Tree.node [7] [] [13] [Tree.node [] [] [16] [Tree.node [] [] [17] [Tree.node [] [] [] []]]]], Tree.node [0, 7] [] [6] [Tree.node [7] [] [13] [Tree.node [] [] [16] [Tree.node [] [] [17] [Tree.node [] [] [] []]]]]], Tree.node [0, 1, 2, 3, 4, 7] [] [5] [Tree.node [0, 7] [] [6] [Tree.node [7] [] [13] [Tree.node [] [] [16] [Tree.node [] [] [17] [Tree.node [] [] [] []]]]]]], Tree.node [0, 1, 2, 3, 4, 7] [] [5, 14] [Tree.node [0, 7] [] [6, 14] [Tree.node [7] [] [13, 14] [Tree.node [] [] [14] [Tree.node [] [] [16] [Tree.node [] [] [17] [Tree.node [] [] [] []]]], Tree.node [7] [] [13] [Tree.node [] [] [16] [Tree.node [] [] [17] [Tree.node [] [] [] []]]]], Tree.node [0, 7] [] [6] [Tree.node [7] [] [13] [Tree.node [] [] [16] [Tree.node [] [] [17] [Tree.node [] [] [] []]]]]], Tree.node [0, 1, 2, 3, 4, 7] [] [5] [Tree.node [0, 7] [] [6] [Tree.node [7] [] [13] [Tree.node [] [] [16] [Tree.node [] [] [17] [Tree.node [] [] [] []]]]]]]], Tree.node [0, 1, 2, 3, 4, 7, 8, 9, 10, 11] [] [5, 12, 15] [Tree.node [0, 7, 8, 9, 10, 11] [] [6, 12, 15] [Tree.node [7, 8, 9, 10, 11] [] [12, 15] [Tree.node [7] [] [13, 15] [Tree.node [] [] [15] [Tree.node [] [] [16] [Tree.node [] [] [17] [Tree.node [] [] [] []]]], Tree.node [7] [] [13] [Tree.node [] [] [16] [Tree.node [] [] [17] [Tree.node [] [] [] []]]]], Tree.node [7, 8, 9, 10, 11] [] [12] [Tree.node [7] [] [13] [Tree.node [] [] [16] [Tree.node [] [] [17] [Tree.node [] [] [] []]]]]], Tree.node [0, 7] [] [6, 15] [Tree.node [7] [] [13, 15] [Tree.node [] [] [15] [Tree.node [] [] [16] [Tree.node [] [] [17] [Tree.node [] [] [] []]]], Tree.node [7] [] [13] [Tree.node [] [] [16] [Tree.node [] [] [17] [Tree.node [] [] [] []]]]], Tree.node [0, 7] [] [6] [Tree.node [7] [] [13] [Tree.node [] [] [16] [Tree.node [] [] [17] [Tree.node [] [] [] []]]]]], Tree.node [0, 7, 8, 9, 10, 11] [] [6, 12] [Tree.node [7, 8, 9, 10, 11] [] [12] [Tree.node [7] [] [13] [Tree.node [] [] [16] [Tree.node [] [] [17] [Tree.node [] [] [] []]]]], Tree.node [0, 7] [] [6] [Tree.node [7] [] [13] [Tree.node [] [] [16] [Tree.node [] [] [17] [Tree.node [] [] [] []]]]]]], Tree.node [0, 1, 2, 3, 4, 7] [] [5, 15] [Tree.node [0, 7] [] [6, 15] [Tree.node [7] [] [13, 15] [Tree.node [] [] [15] [Tree.node [] [] [16] [Tree.node [] [] [17] [Tree.node [] [] [] []]]], Tree.node [7] [] [13] [Tree.node [] [] [16] [Tree.node [] [] [17] [Tree.node [] [] [] []]]]], Tree.node [0, 7] [] [6] [Tree.node [7] [] [13] [Tree.node [] [] [16] [Tree.node [] [] [17] [Tree.node [] [] [] []]]]]], Tree.node [0, 1, 2, 3, 4, 7] [] [5] [Tree.node [0, 7] [] [6] [Tree.node [7] [] [13] [Tree.node [] [] [16] [Tree.node [] [] [17] [Tree.node [] [] [] []]]]]]], Tree.node [0, 1, 2, 3, 4, 7, 8, 9, 10, 11] [] [5, 12] [Tree.node [0, 7, 8, 9, 10, 11] [] [6, 12] [Tree.node [7, 8, 9, 10, 11] [] [12] [Tree.node [7] [] [13] [Tree.node [] [] [16] [Tree.node [] [] [17] [Tree.node [] [] [] []]]]], Tree.node [0, 7] [] [6] [Tree.node [7] [] [13] [Tree.node [] [] [16] [Tree.node [] [] [17] [Tree.node [] [] [] []]]]]], Tree.node [0, 1, 2, 3, 4, 7] [] [5] [Tree.node [0, 7] [] [6] [Tree.node [7] [] [13] [Tree.node [] [] [16] [Tree.node [] [] [17] [Tree.node [] [] [] []]]]]]]], Tree.node [0, 1, 2, 3, 4, 7, 8, 9, 10, 11] [] [5, 12, 14] [Tree.node [0, 7, 8, 9, 10, 11] [] [6, 12, 14] [Tree.node [7, 8, 9, 10, 11] [] [12, 14] [Tree.node [7] [] [13, 14] [Tree.node [] [] [14] [Tree.node [] [] [16] [Tree.node [] [] [17] [Tree.node [] [] [] []]]], Tree.node [7] [] [13] [Tree.node [] [] [16] [Tree.node [] [] [17] [Tree.node [] [] [] []]]]], Tree.node [7, 8, 9, 10, 11] [] [12] [Tree.node [7] [] [13] [Tree.node [] [] [16] [Tree.node [] [] [17] [Tree.node [] [] [] []]]]]], Tree.node [0, 7] [] [6, 14] [Tree.node [7] [] [13, 14] [Tree.node [] [] [14] [Tree.node [] [] [16] [Tree.node [] [] [17] [Tree.node [] [] [] []]]], Tree.node [7] [] [13] [Tree.node [] [] [16] [Tree.node [] [] [17] [Tree.node [] [] [] []]]]], Tree.node [0, 7] [] [6] [Tree.node [7] [] [13] [Tree.node [] [] [16] [Tree.node [] [] [17] [Tree.node [] [] [] []]]]]], Tree.node [0, 7, 8, 9, 10, 11] [] [6, 12] [Tree.node [7, 8, 9, 10, 11] [] [12] [Tree.node [7] [] [13] [Tree.node [] [] [16] [Tree.node [] [] [17] [Tree.node [] [] [] []]]]], Tree.node [0, 7] [] [6] [Tree.node [7] [] [13] [Tree.node [] [] [16] [Tree.node [] [] [17] [Tree.node [] [] [] []]]]]]], Tree.node [0, 1, 2, 3, 4, 7] [] [5, 14] [Tree.node [0, 7] [] [6, 14] [Tree.node [7] [] [13, 14] [Tree.node [] [] [14] [Tree.node [] [] [16] [Tree.node [] [] [17] [Tree.node [] [] [] []]]], Tree.node [7] [] [13] [Tree.node [] [] [16] [Tree.node [] [] [17] [Tree.node [] [] [] []]]]], Tree.node [0, 7] [] [6] [Tree.node [7] [] [13] [Tree.node [] [] [16] [Tree.node [] [] [17] [Tree.node [] [] [] []]]]]], Tree.node [0, 1, 2, 3, 4, 7] [] [5] [Tree.node [0, 7] [] [6] [Tree.node [7] [] [13] [Tree.node [] [] [16] [Tree.node [] [] [17] [Tree.node [] [] [] []]]]]]], Tree.node [0, 1, 2, 3, 4, 7, 8, 9, 10, 11] [] [5, 12] [Tree.node [0, 7, 8, 9, 10, 11] [] [6, 12] [Tree.node [7, 8, 9, 10, 11] [] [12] [Tree.node [7] [] [13] [Tree.node [] [] [16] [Tree.node [] [] [17] [Tree.node [] [] [] []]]]], Tree.node [0, 7] [] [6] [Tree.node [7] [] [13] [Tree.node [] [] [16] [Tree.node [] [] [17] [Tree.node [] [] [] []]]]]], Tree.node [0, 1, 2, 3, 4, 7] [] [5] [Tree.node [0, 7] [] [6] [Tree.node [7] [] [13] [Tree.node [] [] [16] [Tree.node [] [] [17] [Tree.node [] [] [] []]]]]]]]]) (by kernel_rfl) rfl (by kernel_rfl) (by kernel_rfl) ?_
    refine vd_node ?_
    refine sE (an @List.getD_cons_succ.{0} @List.getD_cons_zero.{0}) ?_
    repeat' (first | with_reducible exact True.intro | with_reducible refine And.intro (by omega) ?_ | with_reducible refine And.intro ?_ ?_ | (refine AQ.nx rfl ?_; refine sE (an @List.getD_cons_succ.{0} @List.getD_cons_zero.{0}) ?_) | (refine AQ.callHX [] (by kernel_rfl) rfl rfl rfl rfl rfl rfl (by exact trivial) rfl (hk1) ?_ ?_; (rintro r H' ⟨p', e', h1, rfl, rfl⟩; refine ⟨rfl, ?_⟩; refine sH ?_; first | exact AEX.outR [1, 0] rfl rfl rfl ⟨p', e', by rw [hq, Rs.bind, chk_t hc, hp0, h1]; rfl, rfl, rfl⟩ | exact AEX.outR [2, 1, 0] rfl rfl rfl ⟨p', e', by rw [hq, Rs.bind, chk_t hc, hp0, h1]; rfl, rfl, rfl⟩ | exact AEX.outR [3, 2, 1, 0] rfl rfl rfl ⟨p', e', by rw [hq, Rs.bind, chk_t hc, hp0, h1]; rfl, rfl, rfl⟩); rintro r H' ⟨a, hq2, rfl, rfl⟩; refine ⟨rfl, ?_⟩; refine sH ?_) | (refine AQ.callHX [] (by kernel_rfl) rfl rfl rfl rfl rfl rfl (by exact trivial) rfl (hk2) ?_ ?_; (rintro r H' ⟨p', e', h1, rfl, rfl⟩; refine ⟨rfl, ?_⟩; refine sH ?_; first | exact AEX.outR [1, 0] rfl rfl rfl ⟨p', e', by rw [hq, Rs.bind, chk_t hc, hp0, hp1, hq2, Rs.bind, h1]; rfl, rfl, rfl⟩ | exact AEX.outR [2, 1, 0] rfl rfl rfl ⟨p', e', by rw [hq, Rs.bind, chk_t hc, hp0, hp1, hq2, Rs.bind, h1]; rfl, rfl, rfl⟩ | exact AEX.outR [3, 2, 1, 0] rfl rfl rfl ⟨p', e', by rw [hq, Rs.bind, chk_t hc, hp0, hp1, hq2, Rs.bind, h1]; rfl, rfl, rfl⟩); rintro r H' ⟨b, hq3, rfl, rfl⟩; refine ⟨rfl, ?_⟩; refine sH ?_) | refine AQ.done ?_ | (refine AQ.go (by kernel_rfl) ?_; refine sE (an @List.getD_cons_succ.{0} @List.getD_cons_zero.{0}) ?_; repeat (with_reducible refine And.intro (by omega) ?_); refine AQ.nx rfl ?_; refine sE (an @List.getD_cons_succ.{0} @List.getD_cons_zero.{0}) ?_))
    all_goals first | exact AE.meet (true, a, b) ⟨hq2, hq3⟩ (sU) rfl | exact AE.meet (false, a, b) ⟨hq2, hq3⟩ (sU) rfl
  obtain ⟨c, a, b⟩ := q
  obtain ⟨hq2, hq3⟩ := hqq
  simp only at hq2 hq3
  have ha := kidK_well (by omega) hq2
  have hsm := same_spec a b (un_S ha)
  cases c
  all_goals
    simp only [go_sem, Nat.reduceAdd, Nat.reduceLeDiff, Nat.reduceSub, Int.reduceToNat, reduceCtorEq, cond_true, cond_false]
    refine gO ?_
    refine AQ.fn (by kernel_rfl) rfl rfl rfl (hsm) rfl ?_
    refine gO ?_
    refine AQ.callHX [] (by kernel_rfl) rfl rfl rfl rfl rfl rfl (by exact trivial) rfl (must_spec _ _ _ p _ _) ?_ ?_
    · rintro r H' ⟨hc3, rfl, rfl⟩
      refine ⟨rfl, ?_⟩; refine sH ?_
      exact AEX.out [3, 2, 1, 0] rfl rfl ⟨p, 271, by rw [hq, Rs.bind, chk_t hc, hp0, hp1, hq2, Rs.bind, hq3, Rs.bind, chk_f (fun h => hc3 (.inl h))], rfl, rfl⟩
    rintro r H' ⟨hc3, rfl, rfl⟩
    refine ⟨rfl, ?_⟩; refine sH ?_
    have hc3 : eqF a b = true := hc3.resolve_right (by decide)
    refine gO ?_
    exact AE.retD [3, 2, 1, 0] rfl ⟨⟨rfl, Nat.le_of_ble_eq_true (by kernel_rfl)⟩, trivial⟩ rfl ⟨a, by rw [hq, Rs.bind, chk_t hc, hp0, hp1, hq2, Rs.bind, hq3, Rs.bind, chk_t hc3], rfl, rfl⟩
end Go.Proofs.YteacpafhmgdbkaaGreatDoor
end

section
namespace Go.Proofs.YteacpafhmgdbkaaGreatDoor
open Go Go.AL Go.RowKit
set_option maxRecDepth 10000
set_option maxHeartbeats 4000000
def ruleRow (k : Int) (a b c e : Bool) (f : Nat) : List AV := [Iv k, Bv a, Bv b, Bv c, Bv e, .fn f [] []]
def ruleRows : List AV :=
  [Iv 0, Bv false, Bv false, Bv false, Bv false, .im (.v .nilFunc)] ++ ruleRow 0 false false false false 193 ++ ruleRow 0 false false false false 194 ++ ruleRow 1 true false false false 195 ++ ruleRow 2 false false false false 196 ++
  ruleRow 2 false false false false 197 ++ ruleRow 1 false false false false 198 ++ ruleRow 1 false false false false 199 ++ ruleRow 1 true false false false 200 ++ ruleRow 1 true false false false 201 ++ ruleRow 3 false false false false 202 ++
  ruleRow 1 true false false false 203 ++ ruleRow 1 true false false false 204 ++ ruleRow 1 false false false true 205 ++ ruleRow 1 false false true false 206 ++ ruleRow 1 true false true false 207 ++ ruleRow 2 false false false true 208 ++ ruleRow 0 false false true false 209 ++ ruleRow 2 false true false false 210
theorem rules_spec : PFn Tryz.prog 121 [] (.agg ruleRows) := by
  refine ACall.walk [0] [0] Tryz.func121 rfl Tryz.ntmps121 (by kernel_rfl) (by rfl) rfl fun W own I0 φ0 lay => ?_
  refine gO ?_
  exact AE.retD [0] rfl ⟨⟨rfl, Nat.le_of_ble_eq_true (by kernel_rfl)⟩, trivial⟩ rfl ⟨rfl, by kernel_rfl⟩
end Go.Proofs.YteacpafhmgdbkaaGreatDoor
end

section
namespace Go.Proofs.YteacpafhmgdbkaaGreatDoor
open Go Go.AL Go.RowKit
set_option maxRecDepth 10000
set_option maxHeartbeats 4000000
theorem kidK_ok {th ax fu : List Fm} {ks : List Dv} {i : Nat} {p : List Int} {g : Fm} (h : kidK (ccFs th ks) ax p i fu = .ok g) : unF g 0 = 0 := by
  by_cases hi : i < ks.length
  · exact kidK_well hi h
  · rw [kidK, List.getD_eq_getElem?_getD, List.getElem?_eq_none (by rw [ccFs_len]; omega)] at h
    cases h
theorem fmsS_at {l : List Fm} (h : fmsS l) (k : Nat) : fmS (l.getD k (.mk 0 [] [] [])) := by
  rw [List.getD_eq_getElem?_getD]
  cases hk : l[k]? with
  | none => rw [Option.getD_none, fmS, tmsS, fmsS]; exact ⟨by simp, by simp, trivial, by simp, trivial⟩
  | some t => exact fmsS_get h hk
theorem tmsS_at {l : List Tm} (h : tmsS l) (k : Nat) : tmS (l.getD k (.mk [] 0 [])) := by
  rw [List.getD_eq_getElem?_getD]
  cases hk : l[k]? with
  | none => rw [Option.getD_none, tmS, tmsS]; exact ⟨by simp, by simp, trivial⟩
  | some t => exact tmsS_get h hk
theorem part_S {f : Fm} (h : fmS f) (k : Nat) : fmS (part f k) := fmsS_at (fmS_eq.1 h).2.2.2.2 k
theorem side_S {f : Fm} (h : fmS f) (k : Nat) : tmS (side f k) := tmsS_at (fmS_eq.1 h).2.2.1 k
theorem ruleK_S {th ax : List Fm} {r ix : Int} {nm : List UInt8} {t : Tm} {f : Fm} {K : List KF} {p : List Int} {g : Fm} (hth : fmsS th) (hax : fmsS ax) (ht : tmS t) (hf : fmS f) (hK : ∀ i fu g, kidK K ax p i fu = .ok g → fmS g) (h : ruleK th ax r ix nm t f K p = .ok g) : fmS g := by
  unfold ruleK at h
  by_cases h1 : r = 1
  · rw [if_pos h1] at h; obtain ⟨_, h⟩ := chk_ok h; cases h; exact fmsS_at hax _
  rw [if_neg h1] at h
  by_cases h2 : r = 2
  · rw [if_pos h2] at h; obtain ⟨_, h⟩ := chk_ok h; cases h; exact fmsS_at hth _
  rw [if_neg h2] at h
  by_cases h3 : r = 3
  · rw [if_pos h3] at h; obtain ⟨a, g1, h⟩ := bind_ok h; cases h; exact conn_S (fmsS_two hf (hK _ _ _ g1)) (by simp)
  rw [if_neg h3] at h
  by_cases h4 : r = 4
  · rw [if_pos h4] at h; obtain ⟨a, g1, h⟩ := bind_ok h; obtain ⟨b, g2, h⟩ := bind_ok h; obtain ⟨_, h⟩ := chk_ok h; cases h; exact part_S (hK _ _ _ g1) 1
  rw [if_neg h4] at h
  by_cases h5 : r = 5
  · rw [if_pos h5] at h; obtain ⟨a, g1, h⟩ := bind_ok h; obtain ⟨b, g2, h⟩ := bind_ok h; cases h; exact conn_S (fmsS_two (hK _ _ _ g1) (hK _ _ _ g2)) (by simp)
  rw [if_neg h5] at h
  by_cases h6 : r = 6
  · rw [if_pos h6] at h; obtain ⟨a, g1, h⟩ := bind_ok h; obtain ⟨_, h⟩ := chk_ok h; cases h; exact part_S (hK _ _ _ g1) 0
  rw [if_neg h6] at h
  by_cases h7 : r = 7
  · rw [if_pos h7] at h; obtain ⟨a, g1, h⟩ := bind_ok h; obtain ⟨_, h⟩ := chk_ok h; cases h; exact part_S (hK _ _ _ g1) 1
  rw [if_neg h7] at h
  by_cases h8 : r = 8
  · rw [if_pos h8] at h; obtain ⟨a, g1, h⟩ := bind_ok h; cases h; exact conn_S (fmsS_two (hK _ _ _ g1) hf) (by simp)
  rw [if_neg h8] at h
  by_cases h9 : r = 9
  · rw [if_pos h9] at h; obtain ⟨a, g1, h⟩ := bind_ok h; cases h; exact conn_S (fmsS_two hf (hK _ _ _ g1)) (by simp)
  rw [if_neg h9] at h
  by_cases h10 : r = 10
  · rw [if_pos h10] at h; obtain ⟨a, g1, h⟩ := bind_ok h; obtain ⟨_, h⟩ := chk_ok h; obtain ⟨b, g2, h⟩ := bind_ok h; obtain ⟨c, g3, h⟩ := bind_ok h; obtain ⟨_, h⟩ := chk_ok h; cases h; exact hK _ _ _ g2
  rw [if_neg h10] at h
  by_cases h11 : r = 11
  · rw [if_pos h11] at h; obtain ⟨a, g1, h⟩ := bind_ok h; obtain ⟨_, h⟩ := chk_ok h; cases h; exact hf
  rw [if_neg h11] at h
  by_cases h12 : r = 12
  · rw [if_pos h12] at h; obtain ⟨a, g1, h⟩ := bind_ok h; obtain ⟨_, h⟩ := chk_ok h; cases h; exact hf
  rw [if_neg h12] at h
  by_cases h13 : r = 13
  · rw [if_pos h13] at h; obtain ⟨a, g1, h⟩ := bind_ok h; obtain ⟨_, h⟩ := chk_ok h; cases h; exact conn_S (fmsS_one (abst_S (hK _ _ _ g1))) (by simp)
  rw [if_neg h13] at h
  by_cases h14 : r = 14
  · rw [if_pos h14] at h; obtain ⟨a, g1, h⟩ := bind_ok h; obtain ⟨_, h⟩ := chk_ok h; cases h; exact opn_S ht (part_S (hK _ _ _ g1) 0)
  rw [if_neg h14] at h
  by_cases h15 : r = 15
  · rw [if_pos h15] at h; obtain ⟨a, g1, h⟩ := bind_ok h; obtain ⟨_, h⟩ := chk_ok h; cases h; exact hf
  rw [if_neg h15] at h
  by_cases h16 : r = 16
  · rw [if_pos h16] at h; obtain ⟨a, g1, h⟩ := bind_ok h; obtain ⟨_, h⟩ := chk_ok h; obtain ⟨_, h⟩ := chk_ok h; obtain ⟨c, g3, h⟩ := bind_ok h; obtain ⟨_, h⟩ := chk_ok h; cases h; exact hK _ _ _ g3
  rw [if_neg h16] at h
  by_cases h17 : r = 17
  · rw [if_pos h17] at h; cases h; rw [fmS, tmsS, tmsS, tmsS, fmsS]; exact ⟨by simp, by simp, ⟨ht, ht, trivial⟩, by simp, trivial⟩
  rw [if_neg h17] at h
  obtain ⟨a, g1, h⟩ := bind_ok h; obtain ⟨b, g2, h⟩ := bind_ok h; obtain ⟨_, h⟩ := chk_ok h; cases h; exact opn_S (side_S (hK _ _ _ g1) 1) hf
def fE (a b c e : Bool) (nm : List UInt8) (t : Tm) (f : Fm) : Int := fstE [if a then unF f 0 else 0, if b then unF f 1 else 0, if c then clT t else 0, if e then (if isNm nm then 0 else 2) else 0]
end Go.Proofs.YteacpafhmgdbkaaGreatDoor
end

section
namespace Go.Proofs.YteacpafhmgdbkaaGreatDoor
open Go Go.AL Go.RowKit
set_option maxRecDepth 10000
set_option maxHeartbeats 4000000
abbrev ruleQ (th ax : List Fm) (d : Dv) (p : List Int) : Rs := ruleK th ax d.r d.ix d.nm d.t d.f (ccFs th d.ks) p
structure RuleAt (th ax : List Fm) (d : Dv) (p : List Int) (k : Int) (a b c e : Bool) (fn : Nat) : Prop where
  hk : k = kidN d.r
  hf : fieldE d.r d.nm d.t d.f = fE a b c e d.nm d.t d.f
  sp : (d.ks.length : Int) = k → fE a b c e d.nm d.t d.f = 0 → ACallX Tryz.prog fn [.im (plP th ax d p)] [] (RQ (ruleQ th ax d p)) (XQ (ruleQ th ax d p))
theorem zf (x : Int) : (if x = 0 then (0 : Int) else x) = x := by split <;> simp_all
theorem rule_at (th ax : List Fm) (d : Dv) (p : List Int) (K : KH th ax d p) (h1 : 1 ≤ d.r) (h2 : d.r ≤ 18) : ∃ k a b c e fn, (ruleRows.drop (d.r.toNat * 6)).take 6 = ruleRow k a b c e fn ∧ RuleAt th ax d p k a b c e fn := by
  have hr : d.r = 1 ∨ d.r = 2 ∨ d.r = 3 ∨ d.r = 4 ∨ d.r = 5 ∨ d.r = 6 ∨ d.r = 7 ∨ d.r = 8 ∨ d.r = 9 ∨ d.r = 10 ∨ d.r = 11 ∨ d.r = 12 ∨ d.r = 13 ∨ d.r = 14 ∨ d.r = 15 ∨ d.r = 16 ∨ d.r = 17 ∨ d.r = 18 := by omega
  have hz := zf (unF d.f 0)
  have hz1 := zf (unF d.f 1)
  have hz2 := zf (clT d.t)
  have hz3 := zf (if isNm d.nm = true then 0 else 2)
  rcases hr with hr | hr | hr | hr | hr | hr | hr | hr | hr | hr | hr | hr | hr | hr | hr | hr | hr | hr
  · refine ⟨0, false, false, false, false, 193, by rw [hr]; rfl, ⟨by rw [hr]; rfl, by rw [hr]; simp [fieldE, fE, fstE, hz, hz1, hz2, hz3], fun hn hf => ?_⟩⟩
    have e0 : fE false false false false d.nm d.t d.f = fieldE 1 d.nm d.t d.f := by simp [fieldE, fE, fstE, hz, hz1, hz2, hz3]
    rw [e0] at hf
    unfold ruleQ
    rw [hr]
    exact assume_spec th ax d p K
  · refine ⟨0, false, false, false, false, 194, by rw [hr]; rfl, ⟨by rw [hr]; rfl, by rw [hr]; simp [fieldE, fE, fstE, hz, hz1, hz2, hz3], fun hn hf => ?_⟩⟩
    have e0 : fE false false false false d.nm d.t d.f = fieldE 2 d.nm d.t d.f := by simp [fieldE, fE, fstE, hz, hz1, hz2, hz3]
    rw [e0] at hf
    unfold ruleQ
    rw [hr]
    exact axiom_spec th ax d p K
  · refine ⟨1, true, false, false, false, 195, by rw [hr]; rfl, ⟨by rw [hr]; rfl, by rw [hr]; simp [fieldE, fE, fstE, hz, hz1, hz2, hz3], fun hn hf => ?_⟩⟩
    have e0 : fE true false false false d.nm d.t d.f = fieldE 3 d.nm d.t d.f := by simp [fieldE, fE, fstE, hz, hz1, hz2, hz3]
    rw [e0] at hf
    unfold ruleQ
    rw [hr]
    exact impliesIn_spec th ax d p K (by omega) (un_S hf)
  · refine ⟨2, false, false, false, false, 196, by rw [hr]; rfl, ⟨by rw [hr]; rfl, by rw [hr]; simp [fieldE, fE, fstE, hz, hz1, hz2, hz3], fun hn hf => ?_⟩⟩
    have e0 : fE false false false false d.nm d.t d.f = fieldE 4 d.nm d.t d.f := by simp [fieldE, fE, fstE, hz, hz1, hz2, hz3]
    rw [e0] at hf
    unfold ruleQ
    rw [hr]
    exact impliesOut_spec th ax d p K (by omega)
  · refine ⟨2, false, false, false, false, 197, by rw [hr]; rfl, ⟨by rw [hr]; rfl, by rw [hr]; simp [fieldE, fE, fstE, hz, hz1, hz2, hz3], fun hn hf => ?_⟩⟩
    have e0 : fE false false false false d.nm d.t d.f = fieldE 5 d.nm d.t d.f := by simp [fieldE, fE, fstE, hz, hz1, hz2, hz3]
    rw [e0] at hf
    unfold ruleQ
    rw [hr]
    exact andIn_spec th ax d p K (by omega)
  · refine ⟨1, false, false, false, false, 198, by rw [hr]; rfl, ⟨by rw [hr]; rfl, by rw [hr]; simp [fieldE, fE, fstE, hz, hz1, hz2, hz3], fun hn hf => ?_⟩⟩
    have e0 : fE false false false false d.nm d.t d.f = fieldE 6 d.nm d.t d.f := by simp [fieldE, fE, fstE, hz, hz1, hz2, hz3]
    rw [e0] at hf
    unfold ruleQ
    rw [hr]
    exact andFirst_spec th ax d p K (by omega)
  · refine ⟨1, false, false, false, false, 199, by rw [hr]; rfl, ⟨by rw [hr]; rfl, by rw [hr]; simp [fieldE, fE, fstE, hz, hz1, hz2, hz3], fun hn hf => ?_⟩⟩
    have e0 : fE false false false false d.nm d.t d.f = fieldE 7 d.nm d.t d.f := by simp [fieldE, fE, fstE, hz, hz1, hz2, hz3]
    rw [e0] at hf
    unfold ruleQ
    rw [hr]
    exact andSecond_spec th ax d p K (by omega)
  · refine ⟨1, true, false, false, false, 200, by rw [hr]; rfl, ⟨by rw [hr]; rfl, by rw [hr]; simp [fieldE, fE, fstE, hz, hz1, hz2, hz3], fun hn hf => ?_⟩⟩
    have e0 : fE true false false false d.nm d.t d.f = fieldE 8 d.nm d.t d.f := by simp [fieldE, fE, fstE, hz, hz1, hz2, hz3]
    rw [e0] at hf
    unfold ruleQ
    rw [hr]
    exact orFirst_spec th ax d p K (by omega)
  · refine ⟨1, true, false, false, false, 201, by rw [hr]; rfl, ⟨by rw [hr]; rfl, by rw [hr]; simp [fieldE, fE, fstE, hz, hz1, hz2, hz3], fun hn hf => ?_⟩⟩
    have e0 : fE true false false false d.nm d.t d.f = fieldE 9 d.nm d.t d.f := by simp [fieldE, fE, fstE, hz, hz1, hz2, hz3]
    rw [e0] at hf
    unfold ruleQ
    rw [hr]
    exact orSecond_spec th ax d p K (by omega)
  · refine ⟨3, false, false, false, false, 202, by rw [hr]; rfl, ⟨by rw [hr]; rfl, by rw [hr]; simp [fieldE, fE, fstE, hz, hz1, hz2, hz3], fun hn hf => ?_⟩⟩
    have e0 : fE false false false false d.nm d.t d.f = fieldE 10 d.nm d.t d.f := by simp [fieldE, fE, fstE, hz, hz1, hz2, hz3]
    rw [e0] at hf
    unfold ruleQ
    rw [hr]
    exact orOut_spec th ax d p K (by omega)
  · refine ⟨1, true, false, false, false, 203, by rw [hr]; rfl, ⟨by rw [hr]; rfl, by rw [hr]; simp [fieldE, fE, fstE, hz, hz1, hz2, hz3], fun hn hf => ?_⟩⟩
    have e0 : fE true false false false d.nm d.t d.f = fieldE 11 d.nm d.t d.f := by simp [fieldE, fE, fstE, hz, hz1, hz2, hz3]
    rw [e0] at hf
    unfold ruleQ
    rw [hr]
    exact falseOut_spec th ax d p K (by omega)
  · refine ⟨1, true, false, false, false, 204, by rw [hr]; rfl, ⟨by rw [hr]; rfl, by rw [hr]; simp [fieldE, fE, fstE, hz, hz1, hz2, hz3], fun hn hf => ?_⟩⟩
    have e0 : fE true false false false d.nm d.t d.f = fieldE 12 d.nm d.t d.f := by simp [fieldE, fE, fstE, hz, hz1, hz2, hz3]
    rw [e0] at hf
    unfold ruleQ
    rw [hr]
    exact classic_spec th ax d p K (by omega) (un_S hf)
  · refine ⟨1, false, false, false, true, 205, by rw [hr]; rfl, ⟨by rw [hr]; rfl, by rw [hr]; simp [fieldE, fE, fstE, hz, hz1, hz2, hz3], fun hn hf => ?_⟩⟩
    have e0 : fE false false false true d.nm d.t d.f = fieldE 13 d.nm d.t d.f := by simp [fieldE, fE, fstE, hz, hz1, hz2, hz3]
    rw [e0] at hf
    unfold ruleQ
    rw [hr]
    exact allIn_spec th ax d p K (by omega)
  · refine ⟨1, false, false, true, false, 206, by rw [hr]; rfl, ⟨by rw [hr]; rfl, by rw [hr]; simp [fieldE, fE, fstE, hz, hz1, hz2, hz3], fun hn hf => ?_⟩⟩
    have e0 : fE false false true false d.nm d.t d.f = fieldE 14 d.nm d.t d.f := by simp [fieldE, fE, fstE, hz, hz1, hz2, hz3]
    rw [e0] at hf
    unfold ruleQ
    rw [hr]
    exact allOut_spec th ax d p K (by omega) (hf)
  · refine ⟨1, true, false, true, false, 207, by rw [hr]; rfl, ⟨by rw [hr]; rfl, by rw [hr]; simp [fieldE, fE, fstE, hz, hz1, hz2, hz3], fun hn hf => ?_⟩⟩
    have e0 : fE true false true false d.nm d.t d.f = fieldE 15 d.nm d.t d.f := by simp [fieldE, fE, fstE, hz, hz1, hz2, hz3]
    rw [e0] at hf
    unfold ruleQ
    rw [hr]
    have hf : (if unF d.f 0 = 0 then clT d.t else unF d.f 0) = 0 := hf
    have hf1 : unF d.f 0 = 0 := by
      split at hf
      · assumption
      · exact hf
    rw [if_pos hf1] at hf
    exact someIn_spec th ax d p K (by omega) hf1 hf
  · refine ⟨2, false, false, false, true, 208, by rw [hr]; rfl, ⟨by rw [hr]; rfl, by rw [hr]; simp [fieldE, fE, fstE, hz, hz1, hz2, hz3], fun hn hf => ?_⟩⟩
    have e0 : fE false false false true d.nm d.t d.f = fieldE 16 d.nm d.t d.f := by simp [fieldE, fE, fstE, hz, hz1, hz2, hz3]
    rw [e0] at hf
    unfold ruleQ
    rw [hr]
    exact someOut_spec th ax d p K (by omega)
  · refine ⟨0, false, false, true, false, 209, by rw [hr]; rfl, ⟨by rw [hr]; rfl, by rw [hr]; simp [fieldE, fE, fstE, hz, hz1, hz2, hz3], fun hn hf => ?_⟩⟩
    have e0 : fE false false true false d.nm d.t d.f = fieldE 17 d.nm d.t d.f := by simp [fieldE, fE, fstE, hz, hz1, hz2, hz3]
    rw [e0] at hf
    unfold ruleQ
    rw [hr]
    exact reflexive_spec th ax d p _ rfl
  · refine ⟨2, false, true, false, false, 210, by rw [hr]; rfl, ⟨by rw [hr]; rfl, by rw [hr]; simp [fieldE, fE, fstE, hz, hz1, hz2, hz3], fun hn hf => ?_⟩⟩
    have e0 : fE false true false false d.nm d.t d.f = fieldE 18 d.nm d.t d.f := by simp [fieldE, fE, fstE, hz, hz1, hz2, hz3]
    rw [e0] at hf
    unfold ruleQ
    rw [hr]
    exact replace_spec th ax d p K (by omega) (hf)
end Go.Proofs.YteacpafhmgdbkaaGreatDoor
end

section
namespace Go.Proofs.YteacpafhmgdbkaaGreatDoor
open Go Go.AL Go.RowKit
set_option maxRecDepth 10000
set_option maxHeartbeats 4000000
theorem kidN_out {r : Int} (h : ¬ (1 ≤ r ∧ r ≤ 18)) : kidN r = -1 := by
  unfold kidN
  rw [if_neg (by omega), if_neg (by omega), if_neg (by omega), if_neg (by omega)]
abbrev zF : List AV := [Iv 0, Sv [], .im (.v (.slice none 0 0)), .im (.v (.slice none 0 0))]
theorem conc_step (th ax : List Fm) (d : Dv) (p : List Int) (K : KH th ax d p) : ACallX Tryz.prog 59 [.im (plP th ax d p)] [] (RQ (ccF th d ax p)) (XQ (ccF th d ax p)) := by
  rw [ccF_eq, stepK, ccFs_len]
  have hS := dvS_eq.1 K.S
  refine ACallX.walk [0, 2, 3, 4, 48, 60, 72, 84] [2, 3, 4] Tryz.func59 rfl Tryz.ntmps59 (by kernel_rfl) (by rfl) rfl fun W own I0 φ0 lay => ?_
  refine gO ?_
  refine AQ.callHX [] (by kernel_rfl) rfl rfl rfl rfl rfl rfl (by exact trivial) rfl (must_spec _ _ _ p _ _) ?_ ?_
  · rintro r H' ⟨hc, rfl, rfl⟩
    refine ⟨rfl, ?_⟩; refine sH ?_
    refine AEX.out [0] rfl rfl ⟨p, 270, ?_, rfl, rfl⟩
    rw [chk_f]
    rw [kidN_out fun h => hc (.inl (by simpa using h))]
    simp
  rintro r H' ⟨hc, rfl, rfl⟩
  refine ⟨rfl, ?_⟩; refine sH ?_
  have hc : 1 ≤ d.r ∧ d.r ≤ 18 := by simpa using hc.resolve_right (by decide)
  obtain ⟨k, a, b, c, e, fn, hrow, RA⟩ := rule_at th ax d p K hc.1 hc.2
  refine gO ?_
  refine AP.cut (α := Unit) (fun _ => [(0, .im (plP th ax d p)), (2, .ob 0 0), (3, .ob 1 0)]) (fun _ => [(1, .var 195 (ruleRow k a b c e fn)), (0, .var 27 zF)]) (fun _ => True) ?_ fun _ _ => ?_
  · skip
    refine AP.drawE 11 (Tree.node [] [1, 2, 3, 4, 5, 6, 7] [0, 9] [Tree.node [1, 2, 3, 4, 5, 6, 7] [] [8, 9] [Tree.node [] [] [9] [Tree.node [] [] [10] [Tree.node [] [] [] []]], Tree.node [1, 2, 3, 4, 5, 6, 7] [] [8] [Tree.node [] [] [10] [Tree.node [] [] [] []]]], Tree.node [1, 2, 3, 4, 5, 6, 7] [] [0] [Tree.node [1, 2, 3, 4, 5, 6, 7] [] [8] [Tree.node [] [] [10] [Tree.node [] [] [] []]]]]) (by kernel_rfl) rfl (by kernel_rfl) (by kernel_rfl) ?_
    refine vd_node ?_
    refine sI ?_
    repeat' (first | with_reducible exact True.intro | with_reducible refine And.intro (by omega) ?_ | with_reducible refine And.intro ?_ ?_ | (refine AQ.nx rfl ?_; simp only [go_sem, Nat.reduceAdd, Nat.reduceLeDiff, Nat.reduceSub, Int.reduceToNat, reduceCtorEq, ruleRow]) | ((with_reducible show AQ _ _ _ ({ dst := _, op := Op.call { callee := Callee.value (Operand.func 121), args := _, argTypes := _ }, type := _, pos := _, after := _, guard := _ } :: _) _ _ _); refine AQ.fn (by kernel_rfl) rfl rfl rfl (rules_spec) rfl ?_; refine sI ?_) | (refine AQ.indexG (by kernel_rfl) rfl rfl Tryz.tk196 Tryz.tk195 Tryz.sz195 (by omega) hrow ?_; refine sI ?_) | refine AQ.done ?_ | (refine AQ.go (by kernel_rfl) ?_; simp only [go_sem, Nat.reduceAdd, Nat.reduceLeDiff, Nat.reduceSub, Int.reduceToNat, reduceCtorEq, ruleRow]; repeat (with_reducible refine And.intro (by omega) ?_); refine AQ.nx rfl ?_; simp only [go_sem, Nat.reduceAdd, Nat.reduceLeDiff, Nat.reduceSub, Int.reduceToNat, reduceCtorEq, ruleRow]))
    all_goals exact AE.meet () trivial (sU) rfl
  simp only [go_sem, Nat.reduceAdd, Nat.reduceLeDiff, Nat.reduceSub, Int.reduceToNat, reduceCtorEq, ruleRow]
  refine gO ?_
  refine AP.drawE 13 (Tree.node [] [0, 1, 2, 3, 4, 5, 6, 7, 8, 9, 10, 11] [12] [Tree.node [] [] [] []]) (by kernel_rfl) rfl (by kernel_rfl) (by kernel_rfl) ?_
  refine vd_node ?_
  refine sE @dvR_len ?_
  repeat' (first | with_reducible exact True.intro | with_reducible refine And.intro (by omega) ?_ | with_reducible refine And.intro ?_ ?_ | (refine AQ.nx rfl ?_; refine sE @dvR_len ?_) | (refine AQ.callHX [] (by kernel_rfl) rfl rfl rfl rfl rfl rfl (by exact trivial) rfl (must_spec _ _ _ p _ _) ?_ ?_; (rintro r H' ⟨hc, rfl, rfl⟩; refine ⟨rfl, ?_⟩; refine sH ?_; exact AEX.outR [1, 0] rfl rfl rfl ⟨p, 270, by rw [chk_f]; rw [← RA.hk]; exact fun h => hc (.inl (beq_iff_eq.2 (beq_iff_eq.1 h).symm)), rfl, rfl⟩); rintro r H' ⟨hn, rfl, rfl⟩; refine ⟨rfl, ?_⟩; refine sH ?_) | refine AQ.done ?_ | (refine AQ.go (by kernel_rfl) ?_; refine sE @dvR_len ?_; repeat (with_reducible refine And.intro (by omega) ?_); refine AQ.nx rfl ?_; refine sE @dvR_len ?_))
  have hn : (d.ks.length : Int) = k := by simpa using hn.resolve_right (by decide)
  have hg : (kidN d.r == (d.ks.length : Int)) = true := by rw [← RA.hk, hn]; simp
  rw [chk_t hg, RA.hf]
  refine gO ?_
  refine AP.cut (α := Unit) (fun _ => [(0, .im (plP th ax d p)), (2, .ob 0 0), (3, .ob 1 0)]) (fun _ => [(1, .var 195 (ruleRow k a b c e fn)), (0, .var 27 zF)]) (fun _ => (if a then unF d.f 0 else 0) = 0) ?_ fun _ h1 => ?_
  · refine AP.cond rfl rfl (fun h => ?_) (fun h => ?_)
    · refine gO ?_
      refine AQ.fn (by kernel_rfl) rfl rfl rfl (well_at d.f hS.2.2.1) rfl ?_
      refine gO ?_
      refine AQ.callHX [] (by kernel_rfl) rfl rfl rfl rfl rfl rfl (by exact trivial) rfl (fail_spec _ _ _ p _) ?_ ?_
      · rintro r H' ⟨hc, rfl, rfl⟩
        refine ⟨rfl, ?_⟩; refine sH ?_
        refine AEX.out [1, 0] rfl rfl ⟨p, unF d.f 0, ?_, rfl, rfl⟩
        have : fE a b c e d.nm d.t d.f = unF d.f 0 := by rw [fE, fstE, if_pos h, if_neg hc]
        rw [this, chk_f (by simpa using hc)]
      rintro r H' ⟨hc, rfl, rfl⟩
      refine ⟨rfl, ?_⟩; refine sH ?_
      refine gO ?_
      exact AE.meet () (by rw [if_pos h]; exact hc) (sU) rfl
    · refine gO ?_
      exact AE.meet () (by rw [h]; rfl) (sU) rfl
  simp only [go_sem, Nat.reduceAdd, Nat.reduceLeDiff, Nat.reduceSub, Int.reduceToNat, reduceCtorEq, ruleRow]
  refine gO ?_
  refine AP.cut (α := Unit) (fun _ => [(0, .im (plP th ax d p)), (2, .ob 0 0), (3, .ob 1 0)]) (fun _ => [(1, .var 195 (ruleRow k a b c e fn)), (0, .var 27 zF)]) (fun _ => (if b then unF d.f 1 else 0) = 0) ?_ fun _ h2 => ?_
  · refine AP.cond rfl rfl (fun h => ?_) (fun h => ?_)
    · refine gO ?_
      refine AQ.fn (by kernel_rfl) rfl rfl rfl (under_spec d.f 1 hS.2.2.1 (by omega)) rfl ?_
      refine gO ?_
      refine AQ.callHX [] (by kernel_rfl) rfl rfl rfl rfl rfl rfl (by exact trivial) rfl (fail_spec _ _ _ p _) ?_ ?_
      · rintro r H' ⟨hc, rfl, rfl⟩
        refine ⟨rfl, ?_⟩; refine sH ?_
        refine AEX.out [1, 0] rfl rfl ⟨p, unF d.f 1, ?_, rfl, rfl⟩
        have : fE a b c e d.nm d.t d.f = unF d.f 1 := by rw [fE, fstE, if_pos h1, fstE, if_pos h, if_neg hc]
        rw [this, chk_f (by simpa using hc)]
      rintro r H' ⟨hc, rfl, rfl⟩
      refine ⟨rfl, ?_⟩; refine sH ?_
      refine gO ?_
      exact AE.meet () (by rw [if_pos h]; exact hc) (sU) rfl
    · refine gO ?_
      exact AE.meet () (by rw [h]; rfl) (sU) rfl
  simp only [go_sem, Nat.reduceAdd, Nat.reduceLeDiff, Nat.reduceSub, Int.reduceToNat, reduceCtorEq, ruleRow]
  refine gO ?_
  refine AP.cut (α := Unit) (fun _ => [(0, .im (plP th ax d p)), (2, .ob 0 0), (3, .ob 1 0)]) (fun _ => [(1, .var 195 (ruleRow k a b c e fn)), (0, .var 27 zF)]) (fun _ => (if c then clT d.t else 0) = 0) ?_ fun _ h3 => ?_
  · refine AP.cond rfl rfl (fun h => ?_) (fun h => ?_)
    · refine gO ?_
      refine AQ.fn (by kernel_rfl) rfl rfl rfl (closed_spec d.t hS.2.1) rfl ?_
      refine gO ?_
      refine AQ.callHX [] (by kernel_rfl) rfl rfl rfl rfl rfl rfl (by exact trivial) rfl (fail_spec _ _ _ p _) ?_ ?_
      · rintro r H' ⟨hc, rfl, rfl⟩
        refine ⟨rfl, ?_⟩; refine sH ?_
        refine AEX.out [1, 0] rfl rfl ⟨p, clT d.t, ?_, rfl, rfl⟩
        have : fE a b c e d.nm d.t d.f = clT d.t := by rw [fE, fstE, if_pos h1, fstE, if_pos h2, fstE, if_pos h, if_neg hc]
        rw [this, chk_f (by simpa using hc)]
      rintro r H' ⟨hc, rfl, rfl⟩
      refine ⟨rfl, ?_⟩; refine sH ?_
      refine gO ?_
      exact AE.meet () (by rw [if_pos h]; exact hc) (sU) rfl
    · refine gO ?_
      exact AE.meet () (by rw [h]; rfl) (sU) rfl
  simp only [go_sem, Nat.reduceAdd, Nat.reduceLeDiff, Nat.reduceSub, Int.reduceToNat, reduceCtorEq, ruleRow]
  refine gO ?_
  refine AP.cut (α := Unit) (fun _ => [(0, .im (plP th ax d p)), (2, .ob 0 0), (3, .ob 1 0)]) (fun _ => [(1, .var 195 (ruleRow k a b c e fn)), (0, .var 27 zF)]) (fun _ => (if e then (if isNm d.nm then 0 else 2) else (0 : Int)) = 0) ?_ fun _ h4 => ?_
  · refine AP.cond rfl rfl (fun h => ?_) (fun h => ?_)
    · refine gO ?_
      refine AQ.fn (by kernel_rfl) rfl rfl rfl (isName_spec d.nm hS.1.1) rfl ?_
      refine gO ?_
      refine AQ.callHX [] (by kernel_rfl) rfl rfl rfl rfl rfl rfl (by exact trivial) rfl (must_spec _ _ _ p _ _) ?_ ?_
      · rintro r H' ⟨hc, rfl, rfl⟩
        refine ⟨rfl, ?_⟩; refine sH ?_
        refine AEX.out [1, 0] rfl rfl ⟨p, 2, ?_, rfl, rfl⟩
        have hq : ¬ isNm d.nm = true := fun h => hc (.inl h)
        have : fE a b c e d.nm d.t d.f = 2 := by rw [fE, fstE, if_pos h1, fstE, if_pos h2, fstE, if_pos h3, fstE, if_pos h, if_neg hq]; rfl
        rw [this]; rfl
      rintro r H' ⟨hc, rfl, rfl⟩
      refine ⟨rfl, ?_⟩; refine sH ?_
      refine gO ?_
      have hq : isNm d.nm = true := hc.resolve_right (by decide)
      exact AE.meet () (by rw [if_pos h, if_pos hq]) (sU) rfl
    · refine gO ?_
      exact AE.meet () (by rw [h]; rfl) (sU) rfl
  have hfe : fE a b c e d.nm d.t d.f = 0 := by rw [fE, fstE, if_pos h1, fstE, if_pos h2, fstE, if_pos h3, fstE, if_pos h4, fstE]
  have hsp := RA.sp hn hfe
  unfold ruleQ at hsp
  rw [hfe, chk_t (show ((0 : Int) == 0) = true from rfl)]
  simp only [go_sem, Nat.reduceAdd, Nat.reduceLeDiff, Nat.reduceSub, Int.reduceToNat, reduceCtorEq, ruleRow]
  refine gO ?_
  refine AQ.callHX [] (by kernel_rfl) rfl rfl rfl rfl rfl rfl (by exact trivial) rfl (hsp) ?_ ?_
  · rintro r H' ⟨p', e', hq, rfl, rfl⟩
    refine ⟨rfl, ?_⟩; refine sH ?_
    exact AEX.out [1, 0] rfl rfl ⟨p', e', by rw [hq]; rfl, rfl, rfl⟩
  rintro r H' ⟨g, hq, rfl, rfl⟩
  refine ⟨rfl, ?_⟩; refine sH ?_
  have hgS : fmS g := ruleK_S K.tS K.aS hS.2.1 hS.2.2.1 (fun i fu g h => un_S (kidK_ok h)) hq
  refine AQ.go (by kernel_rfl) ?_
  refine gO ?_
  refine AQ.fn (by kernel_rfl) rfl rfl rfl (well_at g hgS) rfl ?_
  refine gO ?_
  refine AQ.callHX [] (by kernel_rfl) rfl rfl rfl rfl rfl rfl (by exact trivial) rfl (must_spec _ _ _ p _ _) ?_ ?_
  · rintro r H' ⟨hc, rfl, rfl⟩
    refine ⟨rfl, ?_⟩; refine sH ?_
    exact AEX.out [2, 1, 0] rfl rfl ⟨p, 15, by rw [hq, Rs.bind, chk_f (fun h => hc (.inl h))], rfl, rfl⟩
  rintro r H' ⟨hc, rfl, rfl⟩
  refine ⟨rfl, ?_⟩; refine sH ?_
  have hc : (unF g 0 == 0) = true := hc.resolve_right (by decide)
  refine gO ?_
  exact AE.retD [2, 1, 0] rfl ⟨⟨rfl, Nat.le_of_ble_eq_true (by kernel_rfl)⟩, trivial⟩ rfl ⟨g, by rw [hq, Rs.bind, chk_t hc], rfl, rfl⟩
end Go.Proofs.YteacpafhmgdbkaaGreatDoor
end

section
namespace Go.Proofs.YteacpafhmgdbkaaGreatDoor
open Go Go.AL Go.RowKit
set_option maxRecDepth 10000
set_option maxHeartbeats 4000000
mutual
def szD : Dv → Nat
  | .mk _ _ _ _ _ ks => 1 + szDs ks
def szDs : List Dv → Nat
  | [] => 0
  | d :: l => szD d + szDs l
end
theorem szD_eq (d : Dv) : szD d = 1 + szDs d.ks := by cases d; rw [szD]; rfl
theorem szDs_get : ∀ {l : List Dv} {k : Nat} {t : Dv}, l[k]? = some t → szD t ≤ szDs l
  | [], k, t, h => by simp at h
  | u :: l, 0, t, h => by simp at h; subst h; rw [szDs]; omega
  | u :: l, k + 1, t, h => by simp at h; have := szDs_get h; rw [szDs]; omega
theorem conc_spec (th ax : List Fm) (d : Dv) (p : List Int) (hS : dvS d) (hth : fmsS th) (hax : fmsS ax) (h1 : th.length ≤ 1000000) (h2 : ax.length + szD d ≤ 1000000) (h3 : p.length + szD d ≤ 1000000) :
    ACallX Tryz.prog 59 [.im (plP th ax d p)] [] (RQ (ccF th d ax p)) (XQ (ccF th d ax p)) := by
  have hS0 := dvS_eq.1 hS
  have hz := szD_eq d
  refine conc_step th ax d p ⟨hS, hth, hax, h1, by omega, fun i j hj hi hl => ?_, fun i j fu hj hi hl hfu hfS => ?_⟩
  · subst hj
    have hk := List.getElem?_eq_getElem hi
    have hsz := szDs_get hk
    rw [kidK_get hk]
    have ih := conc_spec th (ax ++ []) d.ks[i] (p ++ [(i : Int)]) (dvsS_get hS0.2.2.2.2 hk) hth (by rw [List.append_nil]; exact hax) h1 (by rw [List.append_nil]; omega) (by rw [List.length_append, List.length_singleton]; omega)
    exact kid0_spec th ax p d d.ks[i] i _ hk hl (by omega) (by omega) ih
  · subst hj
    have hk := List.getElem?_eq_getElem hi
    have hsz := szDs_get hk
    rw [kidK_get hk]
    have ih := conc_spec th (ax ++ fu) d.ks[i] (p ++ [(i : Int)]) (dvsS_get hS0.2.2.2.2 hk) hth (fmsS_append hax hfS) h1 (by rw [List.length_append]; omega) (by rw [List.length_append, List.length_singleton]; omega)
    exact kid_spec th ax fu p d d.ks[i] i _ hk hl (by omega) (by omega) (by omega) ih
termination_by SizeOf.sizeOf d
decreasing_by all_goals exact dv_mem hk
end Go.Proofs.YteacpafhmgdbkaaGreatDoor
end

section
namespace Go.Proofs.YteacpafhmgdbkaaGreatDoor
open Go Go.AL Go.RowKit
set_option maxRecDepth 10000
set_option maxHeartbeats 4000000
mutual
def bgD : Dv → Int → Int → Bool × Int
  | .mk _ _ _ _ _ ks, d, n => if 8000 < n + 1 ∨ 1000 < d then (true, n + 1) else bgDs ks (d + 1) (n + 1)
def bgDs : List Dv → Int → Int → Bool × Int
  | [], _, n => (false, n)
  | t :: l, d, n => if (bgD t d n).1 = true then (true, (bgD t d n).2) else bgDs l d (bgD t d n).2
end
theorem bgD_eq (t : Dv) (d n : Int) : bgD t d n = if 8000 < n + 1 ∨ 1000 < d then (true, n + 1) else bgDs t.ks (d + 1) (n + 1) := by cases t; rw [bgD]; rfl
theorem bgDs_drop (l : List Dv) (k : Nat) (t : Dv) (d n : Int) (h : l[k]? = some t) : bgDs (l.drop k) d n = if (bgD t d n).1 = true then (true, (bgD t d n).2) else bgDs (l.drop (k + 1)) d (bgD t d n).2 := by
  obtain ⟨h1, e1⟩ := List.getElem?_eq_some_iff.1 h
  rw [List.drop_eq_getElem_cons h1, e1, bgDs]
mutual
theorem bgD_bnd : ∀ (t : Dv) (d n : Int), n ≤ 8000 → (bgD t d n).1 = false → n ≤ (bgD t d n).2 ∧ (bgD t d n).2 ≤ 8000
  | .mk _ _ _ _ _ ks, d, n, hn, h => by
    rw [bgD] at h ⊢
    split at h
    · cases h
    · rename_i hc
      rw [if_neg hc]
      have := bgDs_bnd ks (d + 1) (n + 1) (by omega) h
      omega
theorem bgDs_bnd : ∀ (l : List Dv) (d n : Int), n ≤ 8000 → (bgDs l d n).1 = false → n ≤ (bgDs l d n).2 ∧ (bgDs l d n).2 ≤ 8000
  | [], d, n, hn, h => by rw [bgDs]; simp only; omega
  | t :: l, d, n, hn, h => by
    rw [bgDs] at h ⊢
    split at h
    · cases h
    · rename_i hc
      rw [if_neg hc]
      have h1 := bgD_bnd t d n hn (by simpa using hc)
      have h2 := bgDs_bnd l d _ h1.2 h
      omega
end
abbrev lgH (n : Int) : Heap := [(1, .var 189 [.fn 117 [] [.ob 0 0, .ob 1 0]]), (0, .var 3 [Iv n])]
theorem large1_spec (t : Dv) (d n : Int) (hs : dvS t) (hn : 0 ≤ n ∧ n ≤ 8000) (hd : 0 ≤ d ∧ d ≤ 2000) : ACall Tryz.prog 117 [.im (dvP t), Iv d, .ob 0 0, .ob 1 0] (lgH n) (fun r H' => r = Bv (bgD t d n).1 ∧ H' = lgH (bgD t d n).2) := by
  have hs0 := dvS_eq.1 hs
  have hw := wr (x := n + 1) (by omega)
  have hwd := wr (x := d + 1) (by omega)
  have he := bgD_eq t d n
  refine ACall.walk [0, 1, 2, 3, 6, 7, 15, 20, 21, 22, 33] [] Tryz.func117 rfl Tryz.ntmps117 (by kernel_rfl) (by rfl) rfl fun W own I0 φ0 lay => ?_
  refine gE (an @hw @dvR_len) ?_
  refine AP.cond rfl rfl (fun h => ?_) (fun h => ?_)
  · rw [if_pos (by simpa using h)] at he
    refine gO ?_
    exact AE.ret rfl ⟨rfl, trivial⟩ ⟨by rw [he]; rfl, by rw [he]; rfl⟩
  · rw [if_neg (by simpa using h)] at he
    have h : ¬ (8000 < n + 1 ∨ 1000 < d) := by simpa using h
    refine gE @dvR_len ?_
    refine AP.loop rfl (α := Nat × Int) (fun q => [(0, .im (dvP t)), (1, Iv d), (2, .ob 0 0), (3, .ob 1 0), (20, Iv t.ks.length), (21, Iv q.1)]) (fun q => lgH q.2) (fun q => q.1 ≤ t.ks.length ∧ (0 ≤ q.2 ∧ q.2 ≤ 8000) ∧ bgD t d n = bgDs (t.ks.drop q.1) (d + 1) q.2) (fun q => t.ks.length - q.1) (0, n + 1) ⟨by omega, by simp only; omega, he⟩ (sU) rfl fun q ⟨hk, hp, hm⟩ => ?_
    obtain ⟨k, m⟩ := q
    simp only at hk hp hm ⊢
    refine sE @lgH.eq_1 ?_
    rcases Nat.eq_or_lt_of_le hk with hke | hlt
    · rw [hke, List.drop_length, bgDs] at hm
      refine gO ?_
      refine cF ?_
      refine gO ?_
      exact AE.ret rfl ⟨rfl, trivial⟩ ⟨by rw [hm]; rfl, by rw [hm]; try rfl⟩
    · obtain ⟨u, hu, hrow⟩ := dvR_get t.ks k hlt
      rw [bgDs_drop t.ks k u (d + 1) m hu] at hm
      have hwk := wr (x := (k : Int) + 1) (by omega)
      refine gO ?_
      refine cT ?_
      refine gO ?_
      refine AP.drawE 10 (Tree.node [] [0, 1, 2, 3, 4, 5, 6, 7, 8] [9] [Tree.node [] [] [] []]) (by kernel_rfl) rfl (by kernel_rfl) (by kernel_rfl) ?_
      refine vd_node ?_
      refine sE (an @hrow (an @hwd @dvR_len)) ?_
      refine ⟨by omega, ?_⟩
      refine AQ.callH [(1, 1), (0, 0)] (by kernel_rfl) rfl rfl rfl rfl rfl rfl (by exact ⟨rfl, rfl, trivial⟩) rfl (large1_spec u (d + 1) m (dvsS_get hs0.2.2.2.2 hu) (by omega) (by omega)) ?_
      rintro r H' ⟨rfl, rfl⟩
      refine ⟨rfl, ?_⟩
      refine sG @lgH.eq_1 ?_
      refine AQ.nx rfl ?_
      refine sI ?_
      refine AQ.done ?_
      refine gO ?_
      refine AP.cond rfl rfl (fun h2 => ?_) (fun h2 => ?_)
      · rw [if_pos h2] at hm
        refine gO ?_
        exact AE.ret rfl ⟨rfl, trivial⟩ ⟨by rw [hm]; rfl, by rw [hm]; try rfl⟩
      · have h2 : ¬ (bgD u (d + 1) m).1 = true := by simpa using h2
        rw [if_neg h2] at hm
        have hb := bgD_bnd u (d + 1) m hp.2 (by simpa using h2)
        refine gE @hwk ?_
        exact AE.round (k + 1, (bgD u (d + 1) m).2) ⟨by simp only; omega, by simp only; omega, hm⟩ (by simp only; omega) (sU) rfl
termination_by SizeOf.sizeOf t
decreasing_by exact dv_mem hu
theorem large_spec (t : Dv) (hs : dvS t) : PFn Tryz.prog 55 [.im (dvP t)] (Bv (bgD t 1 0).1) := by
  refine ACall.walk [0, 2, 3, 4] [3, 4] Tryz.func55 rfl Tryz.ntmps55 (by kernel_rfl) (by rfl) rfl fun W own I0 φ0 lay => ?_
  refine gO ?_
  refine AQ.callH [(1, 1), (0, 0)] (by kernel_rfl) rfl rfl rfl rfl rfl rfl (by exact ⟨rfl, rfl, trivial⟩) rfl (large1_spec t 1 0 hs (by omega) (by omega)) ?_
  rintro r H' ⟨rfl, rfl⟩
  refine ⟨rfl, ?_⟩
  refine sG @lgH.eq_1 ?_
  refine gO ?_
  exact AE.retD [1, 0] rfl ⟨rfl, trivial⟩ rfl ⟨rfl, rfl⟩
end Go.Proofs.YteacpafhmgdbkaaGreatDoor
end

section
namespace Go.Proofs.YteacpafhmgdbkaaGreatDoor
open Go Go.AL Go.RowKit
set_option maxRecDepth 10000
set_option maxHeartbeats 4000000
theorem cloneI_spec (p : List Int) (hl : p.length ≤ 1000000) : PFn Tryz.prog 57 [.im (.sl 1 (rowsI .i64 p))] (.im (.sl 1 (rowsI .i64 p))) := by
  rcases p with _ | ⟨q, l⟩
  · refine ACall.walk [0, 2, 4] [] Tryz.func57 rfl Tryz.ntmps57 (by kernel_rfl) (by rfl) rfl fun W own I0 φ0 lay => ?_
    refine xPP rfl ?_
    refine AP.region rfl (by kernel_rfl) ?_; refine sI ?_
    refine AQ.done ?_
    refine xEP rfl ?_
    refine AP.regionN 1 rfl (by kernel_rfl) ?_; refine sI ?_
    refine AQ.isnil (by kernel_rfl) rfl Tryz.tk33 fun b => ?_
    refine sI ?_
    refine gO ?_
    refine AP.cond rfl rfl (fun hb => ?_) (fun hb => ?_)
    · refine gO ?_
      refine AE.own 2 3 1 rfl ?_
      refine sI ?_
      refine AE.freeze 0 (el := 3) (es := 1) (rows := []) rfl (by simp [go_sem]) (by simp [go_sem]) ?_
      refine sI ?_
      exact AE.ret0 rfl ⟨rfl, trivial⟩ rfl ⟨rfl, rfl⟩
    · refine gO ?_
      refine AQ.append (hnb := rfl) (rows := []) (es := 0) (by kernel_rfl) rfl rfl rfl (by rfl) Tryz.tk33 Tryz.sz3 (by show Option.map _ (zro Tryz.prog 3) = _; rw [Tryz.zr3]; rfl) Tryz.by3 rfl (by simp only [rowsI_len, List.length_nil]; omega) (by simp only [rowsI_len, List.length_nil]; omega) ?_
      refine gE (an @List.nil_append.{0} (an @List.length_nil.{0} @rowsI_len)) ?_
      refine AE.freeze 0 (el := 3) (es := 1) (rows := []) rfl (by simp [go_sem]) (by simp [go_sem]) ?_
      refine sI ?_
      exact AE.ret0 rfl ⟨rfl, trivial⟩ rfl ⟨rfl, rfl⟩
  · have hne : rowsI .i64 (q :: l) ≠ [] := by simp [rowsI]
    have hlen : (q :: l).length = (rowsI .i64 (q :: l)).length := (rowsI_len _ _).symm
    generalize hr : rowsI .i64 (q :: l) = rows at *
    rw [hlen] at hl
    refine ACall.walk [0, 2, 4] [] Tryz.func57 rfl Tryz.ntmps57 (by kernel_rfl) (by rfl) rfl fun W own I0 φ0 lay => ?_
    repeat (first | refine xA ?_ | refine xB ?_ | refine xC ?_ | refine xE ?_ | refine xD ?_ | refine xK ?_ | refine xS ?_ | refine xM ?_ | refine xT ?_ | refine xF ?_ | ((first | refine xR ?_ | refine xW ?_ | refine vq_id ?_); simp only [go_sem, Nat.reduceAdd, Nat.reduceLeDiff, Nat.reduceSub, Int.reduceToNat, reduceCtorEq]))
    refine ⟨hne, ?_⟩
    refine gO ?_
    refine AQ.append (hnb := rfl) (rows := []) (es := 0) (by kernel_rfl) rfl rfl rfl (by rfl) Tryz.tk33 Tryz.sz3 (by show Option.map _ (zro Tryz.prog 3) = _; rw [Tryz.zr3]; rfl) Tryz.by3 rfl (by simp only [List.length_nil]; omega) (by simp only [List.length_nil]; omega) ?_
    refine gE (an @List.nil_append.{0} @List.length_nil.{0}) ?_
    refine AE.freeze 0 (el := 3) (es := 1) (rows := rows) rfl (by simp [go_sem]) (by simp [go_sem]) ?_
    refine sI ?_
    refine AE.ret0 rfl ⟨rfl, trivial⟩ rfl ⟨rfl, ?_⟩
    simp only [tupOf, AV.st, List.drop_zero]
    rw [List.take_of_length_le (by omega)]
end Go.Proofs.YteacpafhmgdbkaaGreatDoor
end

section
namespace Go.Proofs.YteacpafhmgdbkaaGreatDoor
open Go Go.AL Go.RowKit
set_option maxRecDepth 10000
set_option maxHeartbeats 4000000
def shortP (m : Nat) : Rs → Prop
  | .ok _ => True
  | .bad p _ => p.length ≤ m
theorem shortP.chk {m : Nat} {b : Bool} {p : List Int} {e : Int} {r : Rs} (hp : p.length ≤ m) (hr : shortP m r) : shortP m (chk b p e r) := by
  cases b
  · exact hp
  · exact hr
theorem shortP.bind {m : Nat} {r : Rs} {k : Fm → Rs} (hr : shortP m r) (hk : ∀ g, shortP m (k g)) : shortP m (r.bind k) := by
  cases r
  · exact hk _
  · exact hr
theorem ruleK_short {th ax : List Fm} {r ix : Int} {nm : List UInt8} {t : Tm} {f : Fm} {K : List KF} {p : List Int} {m : Nat} (hp : p.length ≤ m) (hK : ∀ i fu, shortP m (kidK K ax p i fu)) : shortP m (ruleK th ax r ix nm t f K p) := by
  unfold ruleK
  by_cases h1 : r = 1
  · rw [if_pos h1]; exact shortP.chk hp (trivial)
  rw [if_neg h1]
  by_cases h2 : r = 2
  · rw [if_pos h2]; exact shortP.chk hp (trivial)
  rw [if_neg h2]
  by_cases h3 : r = 3
  · rw [if_pos h3]; exact (hK _ _).bind fun _ => trivial
  rw [if_neg h3]
  by_cases h4 : r = 4
  · rw [if_pos h4]; exact (hK _ _).bind fun _ => (hK _ _).bind fun _ => shortP.chk hp (trivial)
  rw [if_neg h4]
  by_cases h5 : r = 5
  · rw [if_pos h5]; exact (hK _ _).bind fun _ => (hK _ _).bind fun _ => trivial
  rw [if_neg h5]
  by_cases h6 : r = 6
  · rw [if_pos h6]; exact (hK _ _).bind fun _ => shortP.chk hp (trivial)
  rw [if_neg h6]
  by_cases h7 : r = 7
  · rw [if_pos h7]; exact (hK _ _).bind fun _ => shortP.chk hp (trivial)
  rw [if_neg h7]
  by_cases h8 : r = 8
  · rw [if_pos h8]; exact (hK _ _).bind fun _ => trivial
  rw [if_neg h8]
  by_cases h9 : r = 9
  · rw [if_pos h9]; exact (hK _ _).bind fun _ => trivial
  rw [if_neg h9]
  by_cases h10 : r = 10
  · rw [if_pos h10]; exact (hK _ _).bind fun _ => shortP.chk hp ((hK _ _).bind fun _ => (hK _ _).bind fun _ => shortP.chk hp (trivial))
  rw [if_neg h10]
  by_cases h11 : r = 11
  · rw [if_pos h11]; exact (hK _ _).bind fun _ => shortP.chk hp (trivial)
  rw [if_neg h11]
  by_cases h12 : r = 12
  · rw [if_pos h12]; exact (hK _ _).bind fun _ => shortP.chk hp (trivial)
  rw [if_neg h12]
  by_cases h13 : r = 13
  · rw [if_pos h13]; exact (hK _ _).bind fun _ => shortP.chk hp (trivial)
  rw [if_neg h13]
  by_cases h14 : r = 14
  · rw [if_pos h14]; exact (hK _ _).bind fun _ => shortP.chk hp (trivial)
  rw [if_neg h14]
  by_cases h15 : r = 15
  · rw [if_pos h15]; exact (hK _ _).bind fun _ => shortP.chk hp (trivial)
  rw [if_neg h15]
  by_cases h16 : r = 16
  · rw [if_pos h16]; exact (hK _ _).bind fun _ => shortP.chk hp (shortP.chk hp ((hK _ _).bind fun _ => shortP.chk hp (trivial)))
  rw [if_neg h16]
  by_cases h17 : r = 17
  · rw [if_pos h17]; exact trivial
  rw [if_neg h17]
  exact (hK _ _).bind fun _ => (hK _ _).bind fun _ => shortP.chk hp (trivial)
theorem ccF_short (th ax : List Fm) (d : Dv) (p : List Int) (m : Nat) (h : p.length + szD d ≤ m) : shortP m (ccF th d ax p) := by
  rw [ccF_eq, stepK]
  have hz := szD_eq d
  refine shortP.chk (by omega) (shortP.chk (by omega) (shortP.bind (ruleK_short (by omega) fun i fu => ?_) fun g => shortP.chk (by omega) trivial))
  by_cases hi : i < d.ks.length
  · have hk := List.getElem?_eq_getElem hi
    have hsz := szDs_get hk
    rw [kidK_get hk]
    exact ccF_short th (ax ++ fu) d.ks[i] (p ++ [(i : Int)]) m (by rw [List.length_append, List.length_singleton]; omega)
  · rw [kidK, List.getD_eq_getElem?_getD, List.getElem?_eq_none (by rw [ccFs_len]; omega)]
    exact Nat.zero_le _
termination_by SizeOf.sizeOf d
decreasing_by exact dv_mem hk
end Go.Proofs.YteacpafhmgdbkaaGreatDoor
end

section
namespace Go.Proofs.YteacpafhmgdbkaaGreatDoor
open Go Go.AL Go.RowKit
set_option maxRecDepth 10000
set_option maxHeartbeats 4000000
abbrev fF : List AV := [Iv 0, Sv [], .im (.sl 3 []), .im (.sl 4 [])]
abbrev ckH (a b : List AV) (e : Int) : Heap := [(2, .var 34 [Iv e]), (1, .var 33 b), (0, .var 27 a)]
theorem check1_none (a b : List AV) (e : Int) : ADef Tryz.prog 56 [.ob 0 0, .ob 1 0, .ob 2 0] (ckH a b e) none (fun H' => H' = ckH a b e) := by
  refine ADef.walk [0, 1, 2, 3, 4, 5, 8, 15] [4] Tryz.func56 rfl Tryz.ntmps56 ⟨rfl, rfl, rfl⟩ ⟨rfl, rfl, rfl⟩ rfl (by kernel_rfl) (by rfl) rfl fun W own I0 φ0 lay => ?_
  simp only [go_sem, Nat.reduceAdd, Nat.reduceLeDiff, Nat.reduceSub, Int.reduceToNat, reduceCtorEq, recAV]
  refine gO ?_
  exact AE.retQ [] (.inr rfl) rfl rfl trivial rfl rfl
theorem check1_some (p : List Int) (e e0 : Int) (hp : p.length ≤ 1000000) : ADef Tryz.prog 56 [.ob 0 0, .ob 1 0, .ob 2 0] (ckH zF [nilV] e0) (some (fault p e)) (fun H' => H' = ckH fF [.im (.sl 1 (rowsI .i64 p))] e) := by
  refine ADef.walk [0, 1, 2, 3, 4, 5, 8, 15] [4] Tryz.func56 rfl Tryz.ntmps56 ⟨rfl, rfl, rfl⟩ ⟨rfl, rfl, rfl⟩ rfl (by kernel_rfl) (by rfl) rfl fun W own I0 φ0 lay => ?_
  simp only [go_sem, Nat.reduceAdd, Nat.reduceLeDiff, Nat.reduceSub, Int.reduceToNat, reduceCtorEq, recAV]
  refine gO ?_
  refine AQ.assertYes (by kernel_rfl) rfl rfl ?_; refine sI ?_
  refine gO ?_
  refine AP.drawE 9 (Tree.node [] [0, 1, 2, 4, 5] [3] [Tree.node [0, 4, 5] [] [6] [Tree.node [4, 5] [] [7] [Tree.node [4, 5] [] [8] [Tree.node [] [] [] []]]]]) (by kernel_rfl) rfl (by kernel_rfl) (by kernel_rfl) ?_
  refine vd_node ?_
  refine sE @ckH.eq_1 ?_
  repeat' (first | with_reducible exact True.intro | with_reducible refine And.intro (by omega) ?_ | with_reducible refine And.intro ?_ ?_ | (refine AQ.nx rfl ?_; refine sI ?_) | (refine AQ.fn (by kernel_rfl) rfl rfl rfl (cloneI_spec p hp) rfl ?_; refine sI ?_) | refine AQ.done ?_ | (refine AQ.go (by kernel_rfl) ?_; refine sI ?_; repeat (with_reducible refine And.intro (by omega) ?_); refine AQ.nx rfl ?_; refine sI ?_))
  all_goals
    refine gO ?_
    refine AE.cellsW 0 fF rfl (cellsLe.cons (cellsLe.cons (cellsLe.nil (cellsLe.nil (cellsLe.refl _))))) ?_
    refine sI ?_
    exact AE.retQ [3] (.inr rfl) rfl rfl trivial rfl rfl
theorem mapT_id : ∀ t : Tm, mapT leafC t = t := by
  intro t
  refine Tm.rec (motive_1 := fun t => mapT leafC t = t) (motive_2 := fun l => l.map (mapT leafC) = l) (fun n i xs ih => ?_) rfl (fun t l h1 h2 => by rw [List.map_cons, h1, h2]) t
  by_cases hx : xs.length = 0
  · rw [mapT_leaf leafC (.mk n i xs) hx]
    rw [List.eq_nil_of_length_eq_zero hx]; rfl
  · rw [mapT_node leafC (.mk n i xs) hx]
    simp only [Tm.nm, Tm.ix, Tm.xs]
    rw [ih]
mutual
theorem clone_id' : ∀ (f : Fm) (d : Int), mapF (fun u _ => leafC u) f d = f
  | .mk k n ts ps, d => by
    rw [mapF, clone_ids ps]
    congr 1
    conv => rhs; rw [← List.map_id ts]
    apply List.map_congr_left
    intro t _
    exact mapT_id t
theorem clone_ids : ∀ (l : List Fm) (d : Int), mapFs (fun u _ => leafC u) l d = l
  | [], d => by rw [mapFs]
  | f :: l, d => by rw [mapFs, clone_id' f d, clone_ids l d]
end
theorem clone_id (f : Fm) : mapF (fun u _ => leafC u) f 0 = f := clone_id' f 0
def wellFs : List Fm → Int
  | [] => 0
  | f :: l => if unF f 0 = 0 then wellFs l else unF f 0
theorem wellFs_drop (l : List Fm) (k : Nat) (t : Fm) (h : l[k]? = some t) : wellFs (l.drop k) = if unF t 0 = 0 then wellFs (l.drop (k + 1)) else unF t 0 := by
  obtain ⟨h1, e1⟩ := List.getElem?_eq_some_iff.1 h
  rw [List.drop_eq_getElem_cons h1, e1, wellFs]
def ckC (th ax : List Fm) (d : Dv) : Rs := if wellFs (th ++ ax) = 0 then (if (bgD d 1 0).1 = true then .bad [] 4 else ccF th d ax []) else .bad [] (wellFs (th ++ ax))
def rsV : Rs → AV
  | .ok f => .tup [fmV f, .im (.sl 1 []), Iv 0]
  | .bad p e => .tup [fmV fm0, .im (.sl 1 (rowsI .i64 p)), Iv e]
theorem conc0_spec (th ax : List Fm) (d : Dv) (hS : dvS d) (hth : fmsS th) (hax : fmsS ax) (h1 : th.length ≤ 1000000) (h2 : ax.length + szD d ≤ 1000000) (h3 : szD d ≤ 1000000) :
    ACallX Tryz.prog 59 [.im (.pt [.sl 4 (fmR th), .sl 4 (fmR ax), dvP d, .v (.slice none 0 0)])] [] (RQ (ccF th d ax [])) (XQ (ccF th d ax [])) := by
  refine ACallX.argW (conc_spec th ax d [] hS hth hax h1 h2 (by simp; omega)) fun w φ I vs hd => ?_
  simp only [AV.dens, AV.den] at hd ⊢
  obtain ⟨u, us, e, h, e2⟩ := hd
  refine ⟨u, us, e, ?_, e2⟩
  simp only [IV.den, IV.dens] at h ⊢
  obtain ⟨g, off, us, hu, hg, ⟨a1, b1, e1, d1, a2, b2, e2, d2, a3, b3, e3, d3, a4, b4, e4, d4, e5⟩, hc⟩ := h
  refine ⟨g, off, us, hu, hg, ⟨a1, b1, e1, d1, a2, b2, e2, d2, a3, b3, e3, d3, a4, b4, e4, ?_, e5⟩, hc⟩
  refine ⟨none, 0, [], d4.1, by simp [rowsI], by simp [rowsI, IV.denss], by simp, fun h => absurd (by simp [rowsI]) h⟩
theorem check_walk (th ax : List Fm) (d : Dv) (hS : dvS d) (hth : fmsS th) (hax : fmsS ax) (h1 : th.length ≤ 100000) (h2 : ax.length ≤ 100000) (h3 : (bgD d 1 0).1 = false → szD d ≤ 100000) :
    ACallX Tryz.prog 13 [.im (.sl 4 (fmR th)), .im (.sl 4 (fmR ax)), dvV d] [] (fun r H' => r = rsV (ckC th ax d) ∧ H' = []) (fun _ _ => False) := by
  have hcc := concat_spec [th, ax] (by simp) (by simp; omega)
  have hfl : [th, ax].flatten = th ++ ax := by simp
  rw [hfl] at hcc
  have hln : (th ++ ax).length ≤ 1000000000 := by rw [List.length_append]; omega
  have hsl := fmsS_append hth hax
  have he : ckC th ax d = if wellFs (th ++ ax) = 0 then (if (bgD d 1 0).1 = true then .bad [] 4 else ccF th d ax []) else .bad [] (wellFs (th ++ ax)) := rfl
  generalize th ++ ax = l at *
  refine ACallX.walkD [0, 1, 2, 5, 6, 7, 8, 10, 11, 15, 16, 17, 18, 24, 28, 30] [6, 7, 8, 10] Tryz.func13 rfl Tryz.ntmps13 (by kernel_rfl) (by rfl) rfl fun W own I0 φ0 lay => ?_
  refine gO ?_
  refine AQ.fn (by kernel_rfl) rfl rfl rfl (hcc) rfl ?_
  refine gE @fmR_len ?_
  refine AP.loop rfl (α := Nat) (fun k => [(0, .im (.sl 4 (fmR th))), (1, .im (.sl 4 (fmR ax))), (5, .im (dvP d)), (6, .ob 0 0), (7, .ob 1 0), (8, .ob 2 0), (15, .im (.sl 4 (fmR l))), (16, Iv l.length), (17, Iv k)]) (fun _ => ckH zF [nilV] 0) (fun k => k ≤ l.length ∧ wellFs l = wellFs (l.drop k)) (fun k => l.length - k) 0 ⟨by omega, rfl⟩ (sU) rfl fun k ⟨hk, hm⟩ => ?_
  refine sE @ckH.eq_1 ?_
  rcases Nat.eq_or_lt_of_le hk with hke | hlt
  · rw [hke, List.drop_length, wellFs] at hm
    rw [if_pos hm] at he
    refine gO ?_
    refine cF ?_
    refine gO ?_
    refine AQ.fn (by kernel_rfl) rfl rfl rfl (large_spec d hS) rfl ?_
    refine gO ?_
    refine AP.cond rfl rfl (fun h4 => ?_) (fun h4 => ?_)
    · rw [if_pos h4] at he
      refine gO ?_
      refine AE.cellsW 0 [Iv 0, Sv [], .im (.sl 3 []), .im (.sl 4 [])] rfl (cellsLe.cons (cellsLe.cons (cellsLe.nil (cellsLe.nil (cellsLe.refl _))))) ?_
      refine sI ?_
      refine AE.cellsW 1 [.im (.sl 1 [])] rfl (cellsLe.nil (cellsLe.refl _)) ?_
      refine sI ?_
      exact AE.leaveN (.inl rfl) rfl <| LV.retD [2, 1, 0] rfl ⟨⟨rfl, Nat.le_of_ble_eq_true (by kernel_rfl)⟩, ⟨rfl, Nat.le_of_ble_eq_true (by kernel_rfl)⟩, ⟨rfl, Nat.le_of_ble_eq_true (by kernel_rfl)⟩, trivial⟩ rfl ⟨by rw [he]; rfl, rfl⟩
    · have h4 : (bgD d 1 0).1 = false := by simpa using h4
      rw [if_neg (by simp [h4])] at he
      have hcs := conc0_spec th ax d hS hth hax (by omega) (by have := h3 h4; omega) (by have := h3 h4; omega)
      refine sI ?_
      refine xA ?_
      refine AP.regionD rfl rfl ?_
      refine AQ.go1 (by kernel_rfl) rfl rfl ?_ ?_
      · simp only [go_sem]
        done
      refine sI ?_
      refine AQ.defer rfl rfl rfl fun u => ?_
      refine sI ?_
      refine gO ?_
      refine AQ.callHX [] (by kernel_rfl) rfl rfl rfl rfl rfl rfl (by exact trivial) rfl (hcs) ?_ ?_
      · rintro r H' ⟨p', e', hq, rfl, rfl⟩
        refine ⟨rfl, ?_⟩; refine sH ?_
        refine AEX.leaveD [(2, 2), (1, 1), (0, 0)] (K' := [_]) (t := 30) rfl rfl rfl rfl rfl (by exact ⟨rfl, rfl, rfl, trivial⟩) rfl (check1_some p' e' 0 (by have := ccF_short th ax d [] 100000 (by have := h3 h4; simp; omega); rw [hq] at this; exact Nat.le_trans this (by omega))) rfl ?_ rfl
        rintro H1 rfl
        refine ⟨rfl, ?_⟩
        refine sH ?_
        exact LV.retD [2, 1, 0] rfl ⟨⟨rfl, Nat.le_of_ble_eq_true (by kernel_rfl)⟩, ⟨rfl, Nat.le_of_ble_eq_true (by kernel_rfl)⟩, ⟨rfl, Nat.le_of_ble_eq_true (by kernel_rfl)⟩, trivial⟩ rfl ⟨by rw [he, hq]; rfl, rfl⟩
      · rintro r H' ⟨g, hq, rfl, rfl⟩
        refine ⟨rfl, ?_⟩; refine sH ?_
        have hgw := ccF_well hq
        obtain ⟨m, hm2⟩ := un_ms hgw
        have hcl := clone_spec g 1 0 m hm2 (by omega) (by omega)
        rw [clone_id] at hcl
        refine AQ.go (by kernel_rfl) ?_
        refine sI ?_
        refine AQ.fn (by kernel_rfl) rfl rfl rfl (hcl) rfl ?_
        refine gO ?_
        refine AE.cellsW 1 [.im (.sl 1 [])] rfl (cellsLe.nil (cellsLe.refl _)) ?_
        refine sI ?_
        refine AE.leaveD [(2, 2), (1, 1), (0, 0)] (t := 30) (.inl rfl) rfl rfl rfl rfl rfl (by exact ⟨rfl, rfl, rfl, trivial⟩) rfl (check1_none [Iv g.k, Sv g.nm, .im (.sl 3 (tmR g.ts)), .im (.sl 4 (fmR g.ps))] [.im (.sl 1 [])] 0) ?_
        rintro H1 rfl
        refine ⟨rfl, ?_⟩
        refine sH ?_
        exact LV.retD [2, 1, 0] rfl ⟨⟨rfl, Nat.le_of_ble_eq_true (by kernel_rfl)⟩, ⟨rfl, Nat.le_of_ble_eq_true (by kernel_rfl)⟩, ⟨rfl, Nat.le_of_ble_eq_true (by kernel_rfl)⟩, trivial⟩ rfl ⟨by rw [he, hq]; rfl, rfl⟩
  · obtain ⟨u, hu, hrow⟩ := fmR_get l k hlt
    rw [wellFs_drop l k u hu] at hm
    have hw := wr (x := (k : Int) + 1) (by omega)
    refine gO ?_
    refine cT ?_
    refine gE @hrow ?_
    refine ⟨by rw [fmR_len]; omega, ?_⟩
    refine gO ?_
    refine AQ.fn (by kernel_rfl) rfl rfl rfl (well_at u (fmsS_get hsl hu)) rfl ?_
    refine gO ?_
    refine AP.cond rfl rfl (fun h5 => ?_) (fun h5 => ?_)
    · have h5 : ¬ unF u 0 = 0 := by simpa using h5
      rw [if_neg h5] at hm
      rw [hm, if_neg h5] at he
      refine gO ?_
      refine AE.cellsW 0 [Iv 0, Sv [], .im (.sl 3 []), .im (.sl 4 [])] rfl (cellsLe.cons (cellsLe.cons (cellsLe.nil (cellsLe.nil (cellsLe.refl _))))) ?_
      refine sI ?_
      refine AE.cellsW 1 [.im (.sl 1 [])] rfl (cellsLe.nil (cellsLe.refl _)) ?_
      refine sI ?_
      exact AE.leaveN (.inl rfl) rfl <| LV.retD [3, 2, 1, 0] rfl ⟨⟨rfl, Nat.le_of_ble_eq_true (by kernel_rfl)⟩, ⟨rfl, Nat.le_of_ble_eq_true (by kernel_rfl)⟩, ⟨rfl, Nat.le_of_ble_eq_true (by kernel_rfl)⟩, trivial⟩ rfl ⟨by rw [he]; rfl, rfl⟩
    · have h5 : unF u 0 = 0 := by simpa using h5
      rw [if_pos h5] at hm
      refine gE @hw ?_
      refine AE.forgets [3] rfl ?_
      refine sI ?_
      exact AE.round (k + 1) ⟨by omega, hm⟩ (by omega) (sU) rfl
end Go.Proofs.YteacpafhmgdbkaaGreatDoor
end

section
namespace Go.Proofs.YteacpafhmgdbkaaGreatDoor
open Go Go.AL Go.RowKit
set_option maxRecDepth 10000
set_option maxHeartbeats 4000000
end Go.Proofs.YteacpafhmgdbkaaGreatDoor
end

section
namespace Go.Proofs.YteacpafhmgdbkaaGreatDoor
open Go Go.AL Go.RowKit
set_option maxRecDepth 10000
set_option maxHeartbeats 4000000
end Go.Proofs.YteacpafhmgdbkaaGreatDoor
end

section
namespace Go.Proofs.YteacpafhmgdbkaaGreatDoor
open Go Go.AL Go.RowKit
set_option maxRecDepth 10000
set_option maxHeartbeats 4000000
end Go.Proofs.YteacpafhmgdbkaaGreatDoor
end

section
namespace Go.Proofs.YteacpafhmgdbkaaGreatDoor
open Go Go.AL Go.RowKit
set_option maxRecDepth 10000
set_option maxHeartbeats 4000000
end Go.Proofs.YteacpafhmgdbkaaGreatDoor
end

section
namespace Go.Proofs.YteacpafhmgdbkaaGreatDoor
open Go Go.AL Go.RowKit
set_option maxRecDepth 10000
set_option maxHeartbeats 4000000
end Go.Proofs.YteacpafhmgdbkaaGreatDoor
end

section
namespace Go.Proofs.YteacpafhmgdbkaaGreatDoor
open Go Go.AL Go.RowKit
set_option maxRecDepth 10000
set_option maxHeartbeats 4000000
end Go.Proofs.YteacpafhmgdbkaaGreatDoor
end

section
namespace Go.Proofs.YteacpafhmgdbkaaGreatDoor
open Go Go.AL Go.RowKit
set_option maxRecDepth 10000
set_option maxHeartbeats 4000000
end Go.Proofs.YteacpafhmgdbkaaGreatDoor
end

section
namespace Go.Proofs.YteacpafhmgdbkaaGreatDoor
open Go Go.AL Go.RowKit
set_option maxRecDepth 10000
set_option maxHeartbeats 4000000
end Go.Proofs.YteacpafhmgdbkaaGreatDoor
end

section
namespace Go.Proofs.YteacpafhmgdbkaaGreatDoor
open Go Go.AL Go.RowKit
set_option maxRecDepth 10000
set_option maxHeartbeats 4000000
abbrev Nm := List UInt8
def ltS (a b : Nm) : Bool := Op.bytesLess a b
def stR (l : List Nm) : List (List IV) := l.map fun s => [Si s]
theorem stR_len (l : List Nm) : (stR l).length = l.length := by simp [stR]
theorem stR_get (l : List Nm) (j : Nat) (h : j < l.length) : (stR l).getD j [] = [Si (l.getD j [])] := by
  simp [stR, List.getD_eq_getElem?_getD, h]
theorem stR_take (l : List Nm) (n : Nat) : (stR l).take n = stR (l.take n) := by simp [stR]
theorem stT (l : List Nm) (n : Nat) (h : l.length ≤ n) : (stR l).take n = stR l := List.take_of_length_le (by rw [stR_len]; exact h)
def rkS (s : Nm) : List Nm → Nat
  | [] => 0
  | e :: r => if ltS e s then rkS s r + 1 else 0
theorem rkS_le (s : Nm) : ∀ l, rkS s l ≤ l.length
  | [] => Nat.le_refl _
  | e :: r => by have := rkS_le s r; simp only [rkS]; split <;> simp <;> omega
def atS (s : Nm) (l : List Nm) : Bool := decide (rkS s l < l.length) && (l.getD (rkS s l) [] == s)
def putS (l : List Nm) (s : Nm) : List Nm := if atS s l then l else l.take (rkS s l) ++ [s] ++ l.drop (rkS s l)
def hasS (s : Nm) (l : List Nm) : Bool := l.any fun x => x == s
theorem hasS_put (s x : Nm) (l : List Nm) : hasS s (putS l x) = (x == s || hasS s l) := by
  unfold putS
  split
  · rename_i h
    simp only [atS, Bool.and_eq_true, decide_eq_true_eq, beq_iff_eq] at h
    cases hx : x == s with
    | false => rw [Bool.false_or]
    | true =>
      rw [Bool.true_or]
      simp only [beq_iff_eq] at hx
      subst hx
      unfold hasS
      rw [List.any_eq_true]
      refine ⟨x, ?_, by simp⟩
      rw [List.getD_eq_getElem?_getD, List.getElem?_eq_getElem h.1] at h
      have h2 := h.2
      simp only [Option.getD_some] at h2
      rw [← h2]
      exact List.getElem_mem h.1
  · unfold hasS
    rw [List.any_append, List.any_append]
    conv => rhs; rw [← List.take_append_drop (rkS x l) l, List.any_append]
    simp only [List.any_cons, List.any_nil, Bool.or_false]
    cases (List.take (rkS x l) l).any fun y => y == s <;> cases (x == s) <;> simp
theorem putS_len (l : List Nm) (s : Nm) : (putS l s).length ≤ l.length + 1 := by
  unfold putS
  have := rkS_le s l
  split
  · omega
  · simp only [List.length_append, List.length_take, List.length_drop, List.length_singleton]; omega
end Go.Proofs.YteacpafhmgdbkaaGreatDoor
end

section
namespace Go.Proofs
open Go.Shelf
def Tryz.lays156_ren : Go.Shelf.Ren := ⟨fun | 156 => 52 | 165 => 109 | 166 => 110 | 169 => 111 | 240 => 183 | 241 => 184 | 276 => 239 | 277 => 240 | n => n, fun | 31 => 67 | 9 => 9 | 3 => 3 | 4 => 4 | 0 => 0 | 20 => 20 | 72 => 180 | 76 => 184 | 70 => 177 | 37 => 178 | 75 => 183 | 127 => 250 | 164 => 285 | 5 => 5 | 80 => 186 | n => n, fun | n => n⟩
theorem Tryz.lays156 : Go.Proofs.Lays.n156 Tryz.prog Tryz.lays156_ren := {
  mixed := by kernel_rfl
  f156 := Tryz.func52.trans (congrArg some (by kernel_rfl))
  f165 := Tryz.func109.trans (congrArg some (by kernel_rfl))
  f166 := Tryz.func110.trans (congrArg some (by kernel_rfl))
  f169 := Tryz.func111.trans (congrArg some (by kernel_rfl))
  f240 := Tryz.func183.trans (congrArg some (by kernel_rfl))
  f241 := Tryz.func184.trans (congrArg some (by kernel_rfl))
  f276 := Tryz.func239.trans (congrArg some (by kernel_rfl))
  f277 := Tryz.func240.trans (congrArg some (by kernel_rfl))
  t0 := Tryz.underlying0
  a0 := Tryz.isAgg0
  z0 := Tryz.sizeOf0
  v0 := Tryz.zeroValue0
  t3 := Tryz.underlying3
  a3 := Tryz.isAgg3
  z3 := Tryz.sizeOf3
  v3 := Tryz.zeroValue3
  t4 := Tryz.underlying4
  a4 := Tryz.isAgg4
  z4 := Tryz.sizeOf4
  v4 := Tryz.zeroValue4
  t9 := Tryz.underlying9
  a9 := Tryz.isAgg9
  z9 := Tryz.sizeOf9
  v9 := Tryz.zeroValue9
  t20 := Tryz.underlying20
  a20 := Tryz.isAgg20
  z20 := Tryz.sizeOf20
  v20 := Tryz.zeroValue20
  t31 := Tryz.underlying67
  a31 := Tryz.isAgg67
  z31 := Tryz.sizeOf67
  v31 := Tryz.zeroValue67
  t37 := Tryz.underlying178
  a37 := Tryz.isAgg178
  z37 := Tryz.sizeOf178
  v37 := Tryz.zeroValue178
  t70 := Tryz.underlying177
  a70 := Tryz.isAgg177
  z70 := Tryz.sizeOf177
  v70 := Tryz.zeroValue177
  t72 := Tryz.underlying180
  a72 := Tryz.isAgg180
  z72 := Tryz.sizeOf180
  v72 := Tryz.zeroValue180
  t75 := Tryz.underlying183
  a75 := Tryz.isAgg183
  z75 := Tryz.sizeOf183
  v75 := Tryz.zeroValue183
  t76 := Tryz.underlying184
  a76 := Tryz.isAgg184
  z76 := Tryz.sizeOf184
  v76 := Tryz.zeroValue184
  t127 := Tryz.underlying250
  a127 := Tryz.isAgg250
  z127 := Tryz.sizeOf250
  v127 := Tryz.zeroValue250
  t164 := Tryz.underlying285
  a164 := Tryz.isAgg285
  z164 := Tryz.sizeOf285
  v164 := Tryz.zeroValue285 }
theorem Tryz.Builder_Extra_156 : Builder.Extra Tryz.prog Tryz.lays156_ren := {
  sizeBuilder := by kernel_rfl
  liesBuilder := by kernel_rfl
  t5 := Tryz.underlying5
  a5 := Tryz.isAgg5
  z5 := Tryz.sizeOf5
  v5 := Tryz.zeroValue5
  infoByte := by kernel_rfl
  cellsByte := by kernel_rfl
  sizeByte := by kernel_rfl
  neB5 := by decide }
open Go.RowKit in
theorem Tryz.strings_Join_none (a : Option Addr) (c : Nat) (sep : ByteArray) (w : World) :
    Calls Tryz.prog 52 #[.slice a 0 c, .string sep] w fun e w' => e = .returned (.string ⟨#[]⟩) ∧ w' = w := Any.strings_Join_none Tryz.lays156 Tryz.Builder_Extra_156 a c sep w
open Go.RowKit in
theorem Tryz.strings_Join (bk o c : Nat) (xs : List ByteArray) (sep : ByteArray) (w : World) (hcells : ∀ (j : Nat) x, xs[j]? = some x → w.cell? ⟨bk, o + j, none⟩ = some (.string x)) (hbk : bk < w.heap.size) (hN : xs.length ≤ 140737488355328) (hcap : xs.length ≤ c) (hlen : (Lib.join (xs.map (·.data.toList)) sep.data.toList).length ≤ 140737488355328) :
    Calls Tryz.prog 52 #[.slice (some ⟨bk, o, none⟩) xs.length c, .string sep] w fun e w' => e = .returned (.string ⟨(Lib.join (xs.map (·.data.toList)) sep.data.toList).toArray⟩) ∧ Below w.heap.size w w' := Any.strings_Join Tryz.lays156 Tryz.Builder_Extra_156 bk o c xs sep w hcells hbk hN hcap hlen
def Tryz.laysM171_ren : Go.Shelf.Ren := ⟨fun | 171 => 157 | 243 => 216 | 246 => 247 | 283 => 263 | 284 => 264 | 285 => 265 | 286 => 266 | 129 => 231 | 317 => 270 | 318 => 271 | 319 => 272 | 320 => 273 | 337 => 274 | 338 => 275 | n => n, fun | 3 => 3 | 9 => 9 | 2 => 2 | 4 => 4 | 171 => 298 | 0 => 0 | 53 => 278 | 37 => 178 | 5 => 5 | 173 => 300 | 212 => 310 | 51 => 276 | 20 => 20 | 213 => 311 | 46 => 244 | 232 => 313 | 233 => 314 | n => n, fun | 17 => 3 | 18 => 4 | 19 => 5 | n => n⟩
theorem Tryz.laysM171 : Go.Proofs.LaysM.n171 Tryz.prog Tryz.laysM171_ren := {
  mixed := by kernel_rfl
  f129 := Tryz.func231.trans (congrArg some (by kernel_rfl))
  f171 := Tryz.func157.trans (congrArg some (by kernel_rfl))
  f243 := Tryz.func216.trans (congrArg some (by kernel_rfl))
  f246 := Tryz.func247.trans (congrArg some (by kernel_rfl))
  f283 := Tryz.func263.trans (congrArg some (by kernel_rfl))
  f284 := Tryz.func264.trans (congrArg some (by kernel_rfl))
  f285 := Tryz.func265.trans (congrArg some (by kernel_rfl))
  f286 := Tryz.func266.trans (congrArg some (by kernel_rfl))
  f317 := Tryz.func270.trans (congrArg some (by kernel_rfl))
  f318 := Tryz.func271.trans (congrArg some (by kernel_rfl))
  f319 := Tryz.func272.trans (congrArg some (by kernel_rfl))
  f320 := Tryz.func273.trans (congrArg some (by kernel_rfl))
  f337 := Tryz.func274.trans (congrArg some (by kernel_rfl))
  f338 := Tryz.func275.trans (congrArg some (by kernel_rfl))
  t0 := Tryz.underlying0
  a0 := Tryz.isAgg0
  z0 := Tryz.sizeOf0
  v0 := Tryz.zeroValue0
  t2 := Tryz.underlying2
  a2 := Tryz.isAgg2
  z2 := Tryz.sizeOf2
  v2 := Tryz.zeroValue2
  t3 := Tryz.underlying3
  a3 := Tryz.isAgg3
  z3 := Tryz.sizeOf3
  v3 := Tryz.zeroValue3
  t4 := Tryz.underlying4
  a4 := Tryz.isAgg4
  z4 := Tryz.sizeOf4
  v4 := Tryz.zeroValue4
  t5 := Tryz.underlying5
  a5 := Tryz.isAgg5
  z5 := Tryz.sizeOf5
  v5 := Tryz.zeroValue5
  t9 := Tryz.underlying9
  a9 := Tryz.isAgg9
  z9 := Tryz.sizeOf9
  v9 := Tryz.zeroValue9
  t20 := Tryz.underlying20
  a20 := Tryz.isAgg20
  z20 := Tryz.sizeOf20
  v20 := Tryz.zeroValue20
  t37 := Tryz.underlying178
  a37 := Tryz.isAgg178
  z37 := Tryz.sizeOf178
  v37 := Tryz.zeroValue178
  t46 := Tryz.underlying244
  a46 := Tryz.isAgg244
  z46 := Tryz.sizeOf244
  v46 := Tryz.zeroValue244
  t51 := Tryz.underlying276
  a51 := Tryz.isAgg276
  z51 := Tryz.sizeOf276
  v51 := Tryz.zeroValue276
  t53 := Tryz.underlying278
  a53 := Tryz.isAgg278
  z53 := Tryz.sizeOf278
  v53 := Tryz.zeroValue278
  t171 := Tryz.underlying298
  a171 := Tryz.isAgg298
  z171 := Tryz.sizeOf298
  v171 := Tryz.zeroValue298
  t173 := Tryz.underlying300
  a173 := Tryz.isAgg300
  z173 := Tryz.sizeOf300
  v173 := Tryz.zeroValue300
  t212 := Tryz.underlying310
  a212 := Tryz.isAgg310
  z212 := Tryz.sizeOf310
  v212 := Tryz.zeroValue310
  t213 := Tryz.underlying311
  a213 := Tryz.isAgg311
  z213 := Tryz.sizeOf311
  t232 := Tryz.underlying313
  a232 := Tryz.isAgg313
  z232 := Tryz.sizeOf313
  v232 := Tryz.zeroValue313
  t233 := Tryz.underlying314
  a233 := Tryz.isAgg314
  z233 := Tryz.sizeOf314
  v233 := Tryz.zeroValue314
  g17 := by kernel_rfl
  g18 := by kernel_rfl
  g19 := by kernel_rfl
  i0 := by kernel_rfl
  i2 := by kernel_rfl
  i3 := by kernel_rfl
  i4 := by kernel_rfl
  i5 := by kernel_rfl
  i9 := by kernel_rfl
  i20 := by kernel_rfl
  i37 := by kernel_rfl
  i46 := by kernel_rfl
  i51 := by kernel_rfl
  i53 := by kernel_rfl
  i171 := by kernel_rfl
  i173 := by kernel_rfl
  i212 := by kernel_rfl
  i232 := by kernel_rfl
  i233 := by kernel_rfl
  m17 := by kernel_rfl
  m18 := by kernel_rfl
  m19 := by kernel_rfl }
open Go.RowKit Go.Sort Go.Lib in
theorem Tryz.strconv_Itoa (n : Int) (h0 : -9223372036854775808 ≤ n) (h1 : n ≤ 9223372036854775807) (w : World) (htab : Lib.TabIs Tryz.prog w "internal/strconv.uint64pow10" .u64 Lib.pow10Tab) :
    Calls Tryz.prog 157 #[.int .i64 n] w fun e w' => e = .returned (.string ⟨(Lib.itoa n).toArray⟩) ∧ ∃ k os, w' = grow (w.drewN k) os := Any.strconv_Itoa Tryz.laysM171 n h0 h1 w htab
end Go.Proofs
namespace Go.Proofs.YteacpafhmgdbkaaGreatDoor
open Go Go.AL Go.RowKit Go.Shelf Go.Sort Go.Proofs
set_option maxRecDepth 10000
set_option maxHeartbeats 4000000
theorem stR_denss {w : World} {I : Nat → Prop} : ∀ (l : List Nm) (vss : List (List Value)), IV.denss w I (stR l) vss → vss.flatten = l.map fun s => Value.string (BA s)
  | [], vss, h => by simp only [stR, List.map_nil, IV.denss] at h; subst h; rfl
  | x :: l, vss, h => by
    simp only [stR, List.map_cons, IV.denss, IV.dens, IV.den] at h
    obtain ⟨u, us', rfl, ⟨v, vs, rfl, ⟨rfl, _⟩, rfl⟩, h2⟩ := h
    have := stR_denss l us' h2
    simp [this]
def joinB (l : List Nm) : Nm := Lib.join l [32]
theorem join_ba (l : List Nm) : Lib.join ((l.map BA).map (·.data.toList)) (BA [32]).data.toList = joinB l := by
  have e : (l.map BA).map (·.data.toList) = l := by simp [List.map_map, Function.comp_def, BA]
  rw [e]; rfl
theorem join_spec (l : List Nm) (hl : l.length ≤ 1000000000) (hb : (joinB l).length ≤ 1000000000) : PFn Tryz.prog 52 [.im (.sl 1 (stR l)), Sv [32]] (Sv (joinB l)) := by
  refine PFn.of_below (by rfl) rfl fun w φ I vs hd hI => ?_
  simp only [AV.dens, AV.den, IV.den] at hd
  obtain ⟨u, us, rfl, ⟨p, c, vss, rfl, hc, hr, _, hcell⟩, v, us', rfl, ⟨rfl, _⟩, rfl⟩ := hd
  have hfl := stR_denss l vss hr
  have hden : ∀ w' : World, AV.den w' φ I (Sv (joinB l)) (.string (BA (joinB l))) := fun w' => by rw [den_s]
  rw [stR_len] at hc ⊢
  cases l with
  | nil =>
    refine (Tryz.strings_Join_none p c (BA [32]) w).mono fun e w' ⟨he, hw⟩ => ⟨_, he, hden w', by rw [hw]; exact Below.refl _ w⟩
  | cons x r =>
    obtain ⟨g, off, rfl, hg, hat⟩ := hcell (by simp [stR])
    rw [hfl] at hat
    have := Tryz.strings_Join g off c ((x :: r).map BA) (BA [32]) w (fun j y hy => hat j _ (by rw [List.getElem?_map] at hy ⊢; cases h : (x :: r)[j]? with | none => rw [h] at hy; cases hy | some z => rw [h] at hy; cases hy; rfl)) (hI g hg) (by rw [List.length_map]; omega) (by rw [List.length_map]; exact hc) (by rw [join_ba]; omega)
    rw [join_ba, List.length_map] at this
    exact this.mono fun e w' ⟨he, hw⟩ => ⟨_, he, hden w', hw⟩
theorem var_of {P : Program} {w : World} {I : Nat → Prop} {n : String} {Q : Obj → Prop} (hV : VK P w I) (hm : (n, Q) ∈ laidVars) (hs : (P.globalNamed n).isSome = true) : ∃ g o, P.globalNamed n = some g ∧ w.heap[g]? = some o ∧ Q o := by
  obtain ⟨g, hg⟩ := Option.isSome_iff_exists.1 hs
  obtain ⟨_, o, h1, h2⟩ := hV _ hm g hg
  exact ⟨g, o, hg, h1, h2⟩
theorem itoa_spec (n : Int) (h : -9223372036854775808 ≤ n ∧ n ≤ 9223372036854775807) : PFn Tryz.prog 157 [Iv n] (Sv (Lib.itoa n)) := by
  refine PFn.of_belowV (by rfl) rfl fun w φ I vs hd hI hV => ?_
  simp only [AV.dens] at hd
  obtain ⟨u, us, rfl, hu, rfl⟩ := hd
  rw [den_i] at hu
  subst hu
  obtain ⟨g, o, hg, ho, T, fz, rfl⟩ := var_of (n := "internal/strconv.uint64pow10") hV (by simp only [laidVars, List.mem_cons]; exact .inr (.inr (.inl rfl))) (by rfl)
  refine (Tryz.strconv_Itoa n h.1 h.2 w (by simp only [Lib.TabIs, World.var?, hg, Option.bind_some, ho]; rfl)).mono fun e w' ⟨he, k, os, hw⟩ => ⟨_, he, by rw [den_s]; rfl, ?_⟩
  subst hw
  refine ⟨rfl, rfl, rfl, ?_, fun j hj => ?_⟩
  · rw [size_grow]; exact Nat.le_add_right _ _
  · show (w.heap ++ os)[j]? = _
    rw [Array.getElem?_append_left hj]
end Go.Proofs.YteacpafhmgdbkaaGreatDoor
end

section
namespace Go.Proofs.YteacpafhmgdbkaaGreatDoor
open Go Go.AL Go.RowKit
set_option maxRecDepth 10000
set_option maxHeartbeats 4000000
theorem PFn.argW {P : Program} {f : FuncId} {xs ys : List AV} {r : AV} (h : PFn P f xs r) (ha : ∀ w φ I vs, AV.dens w φ I ys vs → AV.dens w φ I xs vs) : PFn P f ys r :=
  ⟨h.ent, fun w φ I vs hd hR hV => h.run w φ I vs (ha w φ I vs hd) hR hV⟩
mutual
def frT : Tm → List Nm → List Nm
  | .mk n _ xs, o => if (!(n == []) && (xs.length : Int) == 0) = true then putS o n else frTs xs o
def frTs : List Tm → List Nm → List Nm
  | [], o => o
  | t :: l, o => frTs l (frT t o)
end
mutual
def frF : Fm → List Nm → List Nm
  | .mk _ _ ts ps, o => frFs ps (frTs ts o)
def frFs : List Fm → List Nm → List Nm
  | [], o => o
  | t :: l, o => frFs l (frF t o)
end
mutual
theorem frT_len : ∀ (t : Tm) (o : List Nm), (frT t o).length ≤ o.length + szT t
  | .mk n _ xs, o => by
    rw [frT, szT]
    split
    · have := putS_len o n; omega
    · have := frTs_len xs o; omega
theorem frTs_len : ∀ (l : List Tm) (o : List Nm), (frTs l o).length ≤ o.length + szTs l
  | [], o => by rw [frTs, szTs]; omega
  | t :: l, o => by rw [frTs, szTs]; have := frT_len t o; have := frTs_len l (frT t o); omega
end
mutual
theorem frF_len : ∀ (t : Fm) (o : List Nm), (frF t o).length ≤ o.length + szF t
  | .mk _ _ ts ps, o => by
    rw [frF, szF]
    have := frTs_len ts o; have := frFs_len ps (frTs ts o); omega
theorem frFs_len : ∀ (l : List Fm) (o : List Nm), (frFs l o).length ≤ o.length + szFs l
  | [], o => by rw [frFs, szFs]; omega
  | t :: l, o => by rw [frFs, szFs]; have := frF_len t o; have := frFs_len l (frF t o); omega
end
mutual
theorem has_frT (s : Nm) : ∀ (t : Tm) (o : List Nm), hasS s (frT t o) = (ocT s t || hasS s o)
  | .mk n _ xs, o => by
    rw [frT, ocT]
    split
    · rename_i h
      rw [h, Bool.true_and, hasS_put]
      simp only [Bool.and_eq_true, beq_iff_eq] at h
      have : xs = [] := List.eq_nil_of_length_eq_zero (by omega)
      rw [this, ocTs, Bool.or_false]
    · rename_i h
      have h : (!(n == []) && (xs.length : Int) == 0) = false := by simpa using h
      rw [h, Bool.false_and, Bool.false_or, has_frTs]
theorem has_frTs (s : Nm) : ∀ (l : List Tm) (o : List Nm), hasS s (frTs l o) = (ocTs s l || hasS s o)
  | [], o => by rw [frTs, ocTs, Bool.false_or]
  | t :: l, o => by
    rw [frTs, ocTs, has_frTs s l, has_frT s t]
    cases ocT s t <;> cases ocTs s l <;> simp
end
mutual
theorem has_frF (s : Nm) : ∀ (t : Fm) (o : List Nm), hasS s (frF t o) = (ocF s t || hasS s o)
  | .mk _ _ ts ps, o => by
    rw [frF, ocF, has_frFs s ps, has_frTs s ts]
    cases ocTs s ts <;> cases ocFs s ps <;> simp
theorem has_frFs (s : Nm) : ∀ (l : List Fm) (o : List Nm), hasS s (frFs l o) = (ocFs s l || hasS s o)
  | [], o => by rw [frFs, ocFs, Bool.false_or]
  | t :: l, o => by
    rw [frFs, ocFs, has_frFs s l, has_frF s t]
    cases ocF s t <;> cases ocFs s l <;> simp
end
def freeL (F : Fm) : List Nm := frF F []
theorem has_free (s : Nm) (F : Fm) : hasS s (freeL F) = ocF s F := by
  rw [freeL, has_frF]; simp [hasS]
end Go.Proofs.YteacpafhmgdbkaaGreatDoor
end

section
namespace Go.Proofs.YteacpafhmgdbkaaGreatDoor
open Go Go.AL Go.RowKit
set_option maxRecDepth 10000
set_option maxHeartbeats 4000000
/-- what a change is -/
structure Ch where
  b1 : Bool
  b2 : Bool
  nm : Nm
  t : Tm
end Go.Proofs.YteacpafhmgdbkaaGreatDoor
end

section
namespace Go.Proofs.YteacpafhmgdbkaaGreatDoor
open Go Go.AL Go.RowKit
set_option maxRecDepth 10000
set_option maxHeartbeats 4000000
end Go.Proofs.YteacpafhmgdbkaaGreatDoor
end

section
namespace Go.Proofs.YteacpafhmgdbkaaGreatDoor
open Go Go.AL Go.RowKit
set_option maxRecDepth 10000
set_option maxHeartbeats 4000000
end Go.Proofs.YteacpafhmgdbkaaGreatDoor
end

section
namespace Go.Proofs.YteacpafhmgdbkaaGreatDoor
open Go Go.AL Go.RowKit
set_option maxRecDepth 10000
set_option maxHeartbeats 4000000
end Go.Proofs.YteacpafhmgdbkaaGreatDoor
end

section
namespace Go.Proofs.YteacpafhmgdbkaaGreatDoor
open Go Go.AL Go.RowKit
set_option maxRecDepth 10000
set_option maxHeartbeats 4000000
mutual
theorem bT_sz : ∀ (t : Tm) (d n : Int), (bT t d n).1 = true → (bT t d n).2 = n - szT t ∧ (szT t : Int) ≤ n ∧ d + dpT t ≤ 150
  | .mk nm ix xs, d, n, h => by
    rw [bT] at h ⊢
    rw [szT, dpT]
    split at h
    · rename_i hc
      rw [if_pos hc]
      have := bTs_sz xs (d + 1) (n - 1) hc.1 h
      have := hc.2
      omega
    · cases h
theorem bTs_sz : ∀ (l : List Tm) (d n : Int), 0 ≤ n → (bTs l d n).1 = true → (bTs l d n).2 = n - szTs l ∧ (szTs l : Int) ≤ n ∧ (d + dpTs l ≤ 150 ∨ dpTs l = 0)
  | [], d, n, hn, h => by rw [bTs, szTs, dpTs]; exact ⟨by simp, by simpa using hn, .inr rfl⟩
  | t :: l, d, n, hn, h => by
    rw [bTs] at h ⊢
    rw [szTs, dpTs]
    split at h
    · rename_i hc
      rw [if_pos hc]
      have h1 := bT_sz t d n hc
      have h2 := bTs_sz l d _ (by omega) h
      omega
    · cases h
end
mutual
theorem bF_sz : ∀ (f : Fm) (d n : Int), (bF f d n).1 = true → 0 ≤ (bF f d n).2 ∧ (bF f d n).2 ≤ n - szF f ∧ d + dpF f ≤ 150
  | .mk k nm ts ps, d, n, h => by
    rw [bF] at h ⊢
    rw [szF, dpF]
    have hcost : 1 ≤ cost nm := by unfold cost; omega
    split at h
    · rename_i hc
      rw [if_pos hc]
      split at h
      · rename_i h2
        rw [if_pos h2]
        have h1 := bTs_sz ts (d + 1) (n - cost nm) hc.1 h2
        have h3 := bFs_sz ps (d + 1) _ (by omega) h
        have := hc.2
        omega
      · cases h
    · cases h
theorem bFs_sz : ∀ (l : List Fm) (d n : Int), 0 ≤ n → (bFs l d n).1 = true → 0 ≤ (bFs l d n).2 ∧ (bFs l d n).2 ≤ n - szFs l ∧ (d + dpFs l ≤ 150 ∨ dpFs l = 0)
  | [], d, n, hn, h => by rw [bFs, szFs, dpFs]; exact ⟨hn, by simp, .inr rfl⟩
  | t :: l, d, n, hn, h => by
    rw [bFs] at h ⊢
    rw [szFs, dpFs]
    split at h
    · rename_i hc
      rw [if_pos hc]
      have h1 := bF_sz t d n hc
      have h2 := bFs_sz l d _ h1.1 h
      omega
    · cases h
end
end Go.Proofs.YteacpafhmgdbkaaGreatDoor
end

section
namespace Go.Proofs.YteacpafhmgdbkaaGreatDoor
open Go Go.AL Go.RowKit
set_option maxRecDepth 10000
set_option maxHeartbeats 4000000
mutual
def tmW (ns : List Nm) : Tm → List Nm
  | .mk nm ix xs => if nm = [] then [ns.getD ((ns.length : Int) - 1 - ix).toNat []] else nm :: (if xs.length = 0 then [] else [36, 40] :: (tmsW ns xs ++ [[36, 41]]))
def tmsW (ns : List Nm) : List Tm → List Nm
  | [] => []
  | t :: l => tmW ns t ++ tmsW ns l
end
mutual
theorem tmW_ge (ns : List Nm) : ∀ t : Tm, 1 ≤ (tmW ns t).length
  | .mk nm ix xs => by
    rw [tmW]
    split <;> simp
theorem tmsW_ge (ns : List Nm) : ∀ l : List Tm, l.length ≤ (tmsW ns l).length
  | [] => by simp
  | t :: l => by
    have := tmW_ge ns t
    have := tmsW_ge ns l
    rw [tmsW, List.length_append, List.length_cons]; omega
end
def lsW (ns : List Nm) (xs : List Tm) : List Nm := if xs.length = 0 then [] else [36, 40] :: (tmsW ns xs ++ [[36, 41]])
theorem tmW_eq (ns : List Nm) (t : Tm) : tmW ns t = if t.nm = [] then [ns.getD ((ns.length : Int) - 1 - t.ix).toNat []] else t.nm :: lsW ns t.xs := by cases t; rw [tmW]; rfl
theorem tmsW_snc (ns : List Nm) {t : Tm} : ∀ {l : List Tm} {k : Nat}, l[k]? = some t → tmsW ns (l.take (k + 1)) = tmsW ns (l.take k) ++ tmW ns t
  | [], k, h => by simp at h
  | u :: l, 0, h => by simp at h; subst h; simp [tmsW]
  | u :: l, k + 1, h => by
    simp at h
    rw [List.take_succ_cons, List.take_succ_cons, tmsW, tmsW, tmsW_snc ns h, List.append_assoc]
theorem tmsW_app (ns : List Nm) (b : List Tm) : ∀ a : List Tm, tmsW ns (a ++ b) = tmsW ns a ++ tmsW ns b
  | [] => by simp [tmsW]
  | t :: a => by rw [List.cons_append, tmsW, tmsW, tmsW_app ns b a, List.append_assoc]
mutual
theorem tmW_len (ns : List Nm) : ∀ t : Tm, (tmW ns t).length ≤ 3 * szT t
  | .mk nm ix xs => by
    have := tmsW_len ns xs
    rw [tmW, szT]
    split
    · simp; omega
    · split
      · simp; omega
      · simp; omega
theorem tmsW_len (ns : List Nm) : ∀ l : List Tm, (tmsW ns l).length ≤ 3 * szTs l
  | [] => by simp [tmsW]
  | t :: l => by
    have := tmW_len ns t
    have := tmsW_len ns l
    rw [tmsW, szTs, List.length_append]; omega
end
theorem lsW_len (ns : List Nm) (l : List Tm) : (lsW ns l).length ≤ 3 * szTs l + 2 := by
  have := tmsW_len ns l
  unfold lsW
  split
  · simp
  · simp; omega
def keysS (l : List Nm) : List Value := l.map fun s => .string (BA s)
def valsT (l : List Nm) : List AV := l.map fun _ => Bv true
@[go_sem] theorem rns_valsT (ρ : Nat → Nat) : ∀ l : List Nm, AV.rns ρ (valsT l) = valsT l
  | [] => rfl
  | _ :: l => by rw [valsT, List.map_cons, AV.rns, ← valsT, rns_valsT ρ l]; rfl
@[go_sem] theorem killC_valsT (b : Nat) : ∀ l : List Nm, killC b (valsT l) = valsT l
  | [] => rfl
  | _ :: l => by rw [valsT, List.map_cons, killC, ← valsT, killC_valsT b l]; rfl
theorem mens_valsT (b : Nat) : ∀ l : List Nm, AV.mens b (valsT l) = false
  | [] => rfl
  | _ :: l => by rw [valsT, List.map_cons, AV.mens, ← valsT, mens_valsT b l]; rfl
theorem stR_snc (l : List Nm) (s : Nm) : stR l ++ [[IV.v (Value.string (BA s))]] = stR (l ++ [s]) := by simp [stR]
abbrev wrH (wi ni : Nat) (tk ns ws : List Nm) : Heap := [(0, .var 142 [.os wi 1 0 ws.length, .mp 1, .os ni 1 0 ns.length]), (1, .var (.map (keysS tk)) (valsT tk)), (wi, .vec 9 1 (stR ws)), (ni, .vec 9 1 (stR ns))]
theorem wlist_walk (tk ns : List Nm) (l : List Tm) (ws : List Nm) (hl : ws.length + (lsW ns l).length ≤ 1000000) (hn : ns.length ≤ 1000000)
    (ih : ∀ (k : Nat) (t : Tm) (ws : List Nm), l[k]? = some t → ws.length + (tmW ns t).length ≤ 1000000 → ACall Tryz.prog 150 [.ob 0 0, tmV t] (wrH 2 3 tk ns ws) (fun r H' => r = .tup [] ∧ H' = wrH 4 3 tk ns (ws ++ tmW ns t))) :
    ACall Tryz.prog 148 [.ob 0 0, .im (.sl 3 (tmR l))] (wrH 2 3 tk ns ws) (fun r H' => r = .tup [] ∧ H' = wrH 4 3 tk ns (ws ++ lsW ns l)) := by
  have hll2 := lsW_len ns l
  have hge := tmsW_ge ns l
  refine ACall.walk [0, 1, 5, 8, 18, 19, 20, 21] [5] Tryz.func148 rfl Tryz.ntmps148 (by kernel_rfl) (by rfl) rfl fun W own I0 φ0 lay => ?_
  refine AP.rename 2 4 rfl rfl rfl ?_; refine sI ?_
  refine gE @tmR_len ?_
  refine AP.cond rfl rfl (fun h => ?_) (fun h => ?_)
  · have h : l.length = 0 := by simp only [beq_iff_eq] at h; omega
    rw [lsW, if_pos h, List.append_nil]
    refine gO ?_
    exact AE.ret rfl trivial ⟨rfl, rfl⟩
  · have h : ¬ l.length = 0 := by simp only [beq_eq_false_iff_ne, ne_eq] at h; omega
    have hll : (lsW ns l).length = (tmsW ns l).length + 2 := by rw [lsW, if_neg h]; simp
    refine gO ?_
    refine AQ.kill 4 ?_
    refine sI ?_
    refine AQ.append (hnb := rfl) (rows := stR (ws)) (es := 0) (by kernel_rfl) rfl rfl rfl (by simp only [noMen, AV.mens, AV.men, mens_valsT]; rfl) Tryz.tk67 Tryz.sz9 (by show Option.map _ (zro Tryz.prog 9) = _; rw [Tryz.zr9]; rfl) Tryz.by9 (by rw [stR_len]) (by simp only [stR_len, List.length_cons, List.length_nil]; omega) (by simp only [stR_len, List.length_cons, List.length_nil]; omega) ?_
    refine sE @stR_len ?_
    refine gO ?_
    rw [stR_snc, show ws.length + 1 = (ws ++ [[36, 40]]).length by simp]
    refine AP.loop rfl (α := Nat × List Nm) (fun s => [(0, .ob 0 0), (18, .im (.sl 3 (tmR l))), (19, Iv l.length), (20, Iv s.1)]) (fun s => wrH 4 3 tk ns s.2) (fun s => s.1 ≤ l.length ∧ s.2 = ws ++ [[36, 40]] ++ tmsW ns (l.take s.1)) (fun s => l.length - s.1) (0, ws ++ [[36, 40]]) ⟨by omega, by simp [tmsW]⟩ (by simp only [tmR_len]; exact (sU)) rfl fun s ⟨hk, hs⟩ => ?_
    obtain ⟨k, s⟩ := s
    simp only at hk hs ⊢
    rcases Nat.eq_or_lt_of_le hk with hke | hlt
    · have hsl : s.length = ws.length + 1 + (tmsW ns l).length := by rw [hs, hke, List.take_length]; simp; omega
      refine gO ?_
      refine cF ?_
      refine gO ?_
      refine AQ.kill 4 ?_
      refine sI ?_
      refine AQ.append (hnb := rfl) (rows := stR (s)) (es := 0) (by kernel_rfl) rfl rfl rfl (by simp only [noMen, AV.mens, AV.men, mens_valsT]; rfl) Tryz.tk67 Tryz.sz9 (by show Option.map _ (zro Tryz.prog 9) = _; rw [Tryz.zr9]; rfl) Tryz.by9 (by rw [stR_len]) (by simp only [stR_len, List.length_cons, List.length_nil]; omega) (by simp only [stR_len, List.length_cons, List.length_nil]; omega) ?_
      refine sE @stR_len ?_
      refine gO ?_
      rw [stR_snc, show s.length + 1 = (s ++ [[36, 41]]).length by simp]
      refine AE.fall rfl trivial ⟨rfl, ?_⟩
      have e : s ++ [[36, 41]] = ws ++ lsW ns l := by rw [hs, hke, List.take_length, lsW, if_neg h]; simp
      rw [e]; rfl
    · obtain ⟨u, hu, hrow⟩ := tmR_get l k hlt
      have hw := wr (x := (k : Int) + 1) (by omega)
      have hsn := tmsW_snc ns hu
      have htl : (tmsW ns (l.take (k + 1))).length ≤ (tmsW ns l).length := by
        have := congrArg (tmsW ns) (List.take_append_drop (k + 1) l)
        rw [tmsW_app] at this
        rw [← this, List.length_append]; omega
      have hi := ih k u s hu (by rw [hsn, List.length_append] at htl; rw [hs]; simp; omega)
      refine gO ?_
      refine cT ?_
      refine gE (an @hrow @tmR_len) ?_
      refine AQ.callH [(0, 0), (1, 1), (2, 4), (3, 3)] (by kernel_rfl) rfl rfl rfl rfl rfl rfl (by refine ⟨rfl, ?_, rfl, rfl, trivial⟩; rw [rnO, rns_valsT]; rfl) rfl hi ?_
      rintro r H' ⟨rfl, rfl⟩
      refine ⟨rfl, ?_⟩
      refine sH ?_
      refine AQ.rename 10 4 rfl rfl rfl ?_; refine sI ?_
      refine gE @hw ?_
      refine AE.forgets [5] (by simp only [go_sem, Nat.reduceAdd, Nat.reduceLeDiff, Nat.reduceSub, Int.reduceToNat, reduceCtorEq, dropOk, noMen, AV.mens, AV.men, mens_valsT, Bool.or_false]; first | done | rfl) ?_
      refine sI ?_
      refine AE.order [0, 1, 4, 3] rfl ?_
      exact AE.round (k + 1, s ++ tmW ns u) ⟨by simp only; omega, by simp only; rw [hs, hsn, List.append_assoc]⟩ (by simp only; omega) (sU) rfl
end Go.Proofs.YteacpafhmgdbkaaGreatDoor
end

section
namespace Go.Proofs.YteacpafhmgdbkaaGreatDoor
open Go Go.AL Go.RowKit
set_option maxRecDepth 10000
set_option maxHeartbeats 4000000
theorem wTs_get : ∀ {l : List Tm} {k : Nat} {t : Tm} {b : Int}, wTs l b = 0 → l[k]? = some t → wT t b = 0
  | [], k, t, b, _, h => by simp at h
  | u :: l, 0, t, b, hw, h => by simp at h; subst h; exact (wTs_cons hw).1
  | u :: l, k + 1, t, b, hw, h => by simp at h; exact wTs_get (wTs_cons hw).2 h
theorem wterm_spec (tk ns : List Nm) (t : Tm) (ws : List Nm) (hw : wT t ns.length = 0) (hl : ws.length + (tmW ns t).length ≤ 1000000) (hn : ns.length ≤ 1000000) :
    ACall Tryz.prog 150 [.ob 0 0, tmV t] (wrH 2 3 tk ns ws) (fun r H' => r = .tup [] ∧ H' = wrH 4 3 tk ns (ws ++ tmW ns t)) := by
  have h0 := wT_nm hw
  have he := tmW_eq ns t
  refine ACall.walk [0, 1, 3, 6] [] Tryz.func150 rfl Tryz.ntmps150 (by kernel_rfl) (by rfl) rfl fun W own I0 φ0 lay => ?_
  refine AP.rename 2 4 rfl rfl rfl ?_; refine sI ?_
  refine gO ?_
  refine AP.cond rfl rfl (fun h => ?_) (fun h => ?_)
  · have h : t.nm = [] := by simpa using h
    obtain ⟨hx, hi⟩ := h0.2.1 h
    have hlt : ((ns.length : Int) - 1 - t.ix).toNat < ns.length := by omega
    have w1 := wr (x := (ns.length : Int) - 1) (by omega)
    have w2 := wr (x := (ns.length : Int) - 1 - t.ix) (by omega)
    have hrow := stR_get ns _ hlt
    rw [if_pos h] at he
    have hln : (tmW ns t).length = 1 := by rw [he]; rfl
    rw [he]
    generalize ns.getD ((ns.length : Int) - 1 - t.ix).toNat [] = v at *
    refine gO ?_
    refine AP.drawE 25 (Tree.node [] [0, 1, 2, 3, 4, 5, 6, 7, 8, 9, 10, 11, 12, 13, 14, 15, 16, 17, 18, 19] [20] [Tree.node [0, 1, 2, 3, 4] [] [21] [Tree.node [0] [22, 23] [24] [Tree.node [] [] [] []]]]) (by kernel_rfl) rfl (by kernel_rfl) (by kernel_rfl) ?_
    refine vd_node ?_
    refine sE (an @w1 (an @w2 @hrow)) ?_
    refine ⟨⟨by omega, by omega⟩, by rw [stR_len]; exact hlt, ?_⟩
    repeat' (first | with_reducible exact True.intro | with_reducible refine And.intro (by omega) ?_ | with_reducible refine And.intro ?_ ?_ | (refine AQ.nx rfl ?_; refine sI ?_) | (refine AQ.kill 4 ?_; refine sI ?_; refine AQ.append (hnb := rfl) (rows := stR (ws)) (es := 0) (by kernel_rfl) rfl rfl rfl (by simp only [noMen, AV.mens, AV.men, mens_valsT]; rfl) Tryz.tk67 Tryz.sz9 (by show Option.map _ (zro Tryz.prog 9) = _; rw [Tryz.zr9]; rfl) Tryz.by9 (by rw [stR_len]) (by simp only [stR_len, List.length_cons, List.length_nil]; omega) (by simp only [stR_len, List.length_cons, List.length_nil]; omega) ?_; refine sE @stR_len ?_) | refine AQ.done ?_ | (refine AQ.go (by kernel_rfl) ?_; refine sI ?_; repeat (with_reducible refine And.intro (by omega) ?_); refine AQ.nx rfl ?_; refine sI ?_))
    all_goals
      refine gO ?_
      rw [stR_snc, show ws.length + 1 = (ws ++ [v]).length by simp]
      exact AE.ret rfl trivial ⟨rfl, rfl⟩
  · have h : ¬ t.nm = [] := by simpa using h
    rw [if_neg h] at he
    have hxs := (h0.2.2 h).2.2
    have hln : (tmW ns t).length = (lsW ns t.xs).length + 1 := by rw [he]; rfl
    rw [he]
    refine gO ?_
    refine AP.cut (α := Unit) (fun _ => [(0, .ob 0 0), (3, .im (.pt [Si t.nm, Ii t.ix, .sl 3 (tmR t.xs)]))]) (fun _ => wrH 4 3 tk ns (ws ++ [t.nm])) (fun _ => True) ?_ fun _ _ => ?_
    · skip
      refine AP.drawE 12 (Tree.node [] [0, 1, 2, 3, 4, 5, 6] [7] [Tree.node [0, 1, 2, 3, 4] [] [8] [Tree.node [0] [9, 10] [11] [Tree.node [] [] [] []]]]) (by kernel_rfl) rfl (by kernel_rfl) (by kernel_rfl) ?_
      refine vd_node ?_
      refine sI ?_
      repeat' (first | with_reducible exact True.intro | with_reducible refine And.intro (by omega) ?_ | with_reducible refine And.intro ?_ ?_ | (refine AQ.nx rfl ?_; refine sI ?_) | (refine AQ.kill 4 ?_; refine sI ?_; refine AQ.append (hnb := rfl) (rows := stR (ws)) (es := 0) (by kernel_rfl) rfl rfl rfl (by simp only [noMen, AV.mens, AV.men, mens_valsT]; rfl) Tryz.tk67 Tryz.sz9 (by show Option.map _ (zro Tryz.prog 9) = _; rw [Tryz.zr9]; rfl) Tryz.by9 (by rw [stR_len]) (by simp only [stR_len, List.length_cons, List.length_nil]; omega) (by simp only [stR_len, List.length_cons, List.length_nil]; omega) ?_; refine sE @stR_len ?_) | refine AQ.done ?_ | (refine AQ.go (by kernel_rfl) ?_; refine sI ?_; repeat (with_reducible refine And.intro (by omega) ?_); refine AQ.nx rfl ?_; refine sI ?_))
      all_goals
        rw [stR_snc, show ws.length + 1 = (ws ++ [t.nm]).length by simp]
        exact AE.meet () trivial (sU) rfl
    refine gO ?_
    have hli := wlist_walk tk ns t.xs (ws ++ [t.nm]) (by simp; omega) hn fun k u ws hu hl => wterm_spec tk ns u ws (wTs_get hxs hu) hl hn
    refine AQ.callH [(0, 0), (1, 1), (2, 4), (3, 3)] (by kernel_rfl) rfl rfl rfl rfl rfl rfl (by refine ⟨rfl, ?_, rfl, rfl, trivial⟩; rw [rnO, rns_valsT]; rfl) rfl hli ?_
    rintro r H' ⟨rfl, rfl⟩
    refine ⟨rfl, ?_⟩
    refine sH ?_
    refine AQ.rename 9 4 rfl rfl rfl ?_; refine sI ?_
    refine gO ?_
    refine AE.order [0, 1, 4, 3] rfl ?_
    exact AE.fall rfl trivial ⟨rfl, by rw [List.append_assoc]; rfl⟩
termination_by SizeOf.sizeOf t
decreasing_by exact tm_mem hu
end Go.Proofs.YteacpafhmgdbkaaGreatDoor
end

section
namespace Go.Proofs.YteacpafhmgdbkaaGreatDoor
open Go Go.AL Go.RowKit
set_option maxRecDepth 10000
set_option maxHeartbeats 4000000
def idxS (s : Nm) : List Nm → Int → Int
  | [], _ => -1
  | x :: r, k => if s == x then k else idxS s r (k + 1)
theorem idxS_has (s : Nm) : ∀ (l : List Nm) (k : Int), 0 ≤ k → decide (0 ≤ idxS s l k) = hasS s l
  | [], k, h => rfl
  | x :: r, k, h => by
    rw [idxS, show hasS s (x :: r) = (x == s || hasS s r) from rfl]
    by_cases hx : s = x
    · subst hx; simp [h]
    · have e1 : (s == x) = false := by simpa using hx
      have e2 : (x == s) = false := by simpa using fun h => hx h.symm
      rw [e1, e2, Bool.false_or]
      exact idxS_has s r (k + 1) (by omega)
theorem idxS_bnd (s : Nm) : ∀ (l : List Nm) (k : Int), 0 ≤ k → -1 ≤ idxS s l k ∧ idxS s l k < k + l.length + 1
  | [], k, h => by simp [idxS]; omega
  | x :: r, k, h => by
    rw [idxS, List.length_cons]
    split
    · omega
    · have := idxS_bnd s r (k + 1) (by omega); omega
theorem stR_gt (l : List Nm) (k : Nat) (h : k < l.length) : ∃ t, l[k]? = some t ∧ (stR l).getD k [] = [Si t] := by
  refine ⟨l[k], List.getElem?_eq_getElem h, ?_⟩
  rw [stR_get l k h, List.getD_eq_getElem?_getD, List.getElem?_eq_getElem h]; rfl
theorem indexS_spec (l : List Nm) (s : Nm) (hl : l.length ≤ 1000000000) : PFn Tryz.prog 101 [.im (.sl 1 (stR l)), Sv s] (Iv (idxS s l 0)) := by
  refine ACall.walk [0, 1, 4, 5, 7, 8, 9, 16] [] Tryz.func101 rfl Tryz.ntmps101 (by kernel_rfl) (by rfl) rfl fun W own I0 φ0 lay => ?_
  refine gE @stR_len ?_
  refine AP.loop rfl (α := Nat) (fun k => [(0, .im (.sl 1 (stR l))), (1, Sv s), (7, Iv l.length), (8, Iv k)]) (fun _ => []) (fun k => k ≤ l.length ∧ idxS s l 0 = idxS s (l.drop k) k) (fun k => l.length - k) 0 ⟨by omega, rfl⟩ (sU) rfl fun k ⟨hk, hm⟩ => ?_
  rcases Nat.eq_or_lt_of_le hk with hke | hlt
  · rw [hke, List.drop_length, idxS] at hm
    refine gO ?_
    refine cF ?_
    refine gO ?_
    exact AE.ret0 rfl ⟨rfl, trivial⟩ rfl ⟨rfl, by rw [hm]; rfl⟩
  · obtain ⟨t, ht, hrow⟩ := stR_gt l k hlt
    obtain ⟨h1, e1⟩ := List.getElem?_eq_some_iff.1 ht
    rw [List.drop_eq_getElem_cons h1, e1, idxS] at hm
    have hw := wr (x := (k : Int) + 1) (by omega)
    refine gO ?_
    refine cT ?_
    refine gE (an @hrow @stR_len) ?_
    refine AP.cond rfl rfl (fun h => ?_) (fun h => ?_)
    · rw [if_pos h] at hm
      refine gO ?_
      exact AE.ret0 rfl ⟨rfl, trivial⟩ rfl ⟨rfl, by rw [hm]; rfl⟩
    · rw [if_neg (by simp [h])] at hm
      refine gE @hw ?_
      exact AE.round (k + 1) ⟨by omega, hm⟩ (by omega) (sU) rfl
theorem containsS_spec (l : List Nm) (s : Nm) (hl : l.length ≤ 1000000000) : PFn Tryz.prog 42 [.im (.sl 1 (stR l)), Sv s] (Bv (hasS s l)) := by
  refine ACall.walk [0, 1, 4] [] Tryz.func42 rfl Tryz.ntmps42 (by kernel_rfl) (by rfl) rfl fun W own I0 φ0 lay => ?_
  refine gO ?_
  refine AQ.fn (by kernel_rfl) rfl rfl rfl (indexS_spec l s hl) rfl ?_
  refine gO ?_
  exact AE.ret0 rfl ⟨rfl, trivial⟩ rfl ⟨rfl, by rw [← idxS_has s l 0 (by omega)]; rfl⟩
theorem pigeon {α : Type} : ∀ (l : List α) (f : Nat → α), (∀ i j, f i = f j → i = j) → ∃ n, n ≤ l.length ∧ f n ∉ l
  | [], f, _ => ⟨0, by simp⟩
  | a :: l, f, hf => by
    rcases Classical.em (∃ m, f m = a) with ⟨m, hm⟩ | hno
    · obtain ⟨n, hn, hx⟩ := pigeon l (fun i => if i < m then f i else f (i + 1)) (fun i j h => by
        by_cases hi : i < m <;> by_cases hj : j < m <;> simp only [hi, hj, if_true, if_false] at h <;> have := hf _ _ h <;> omega)
      by_cases hi : n < m
      · simp only [hi, if_true] at hx
        refine ⟨n, by simp; omega, ?_⟩
        rw [List.mem_cons]
        rintro (h | h)
        · have := hf _ _ (h.trans hm.symm); omega
        · exact hx h
      · simp only [hi, if_false] at hx
        refine ⟨n + 1, by simp; omega, ?_⟩
        rw [List.mem_cons]
        rintro (h | h)
        · have := hf _ _ (h.trans hm.symm); omega
        · exact hx h
    · obtain ⟨n, hn, hx⟩ := pigeon l f hf
      refine ⟨n, by simp; omega, ?_⟩
      rw [List.mem_cons]
      rintro (h | h)
      · exact hno ⟨n, h⟩
      · exact hx h
def valD (l : List UInt8) : Nat := l.foldl (fun a d => a * 10 + (d.toNat - 48)) 0
theorem valD_dec : ∀ n : Nat, valD (Lib.decDigits n) = n := by
  intro n
  induction n using Nat.strongRecOn with
  | _ n ih =>
    rw [Lib.decDigits]
    split
    · rename_i h
      simp [valD, UInt8.toNat_ofNat']
      omega
    · rename_i h
      rw [valD, List.foldl_append, ← valD, ih (n / 10) (by omega)]
      simp [UInt8.toNat_ofNat']
      omega
def vN (n : Nat) : Nm := 118 :: Lib.itoa n
theorem vN_inj (i j : Nat) (h : vN i = vN j) : i = j := by
  unfold vN at h
  have h := (List.cons.inj h).2
  rw [Lib.itoa_nonneg, Lib.itoa_nonneg] at h
  have := congrArg valD h
  rwa [valD_dec, valD_dec] at this
theorem hasS_mem {s : Nm} {l : List Nm} : hasS s l = true ↔ s ∈ l := by
  unfold hasS
  rw [List.any_eq_true]
  constructor
  · rintro ⟨x, hx, e⟩
    have : x = s := by simpa using e
    exact this ▸ hx
  · intro h; exact ⟨s, h, by simp⟩
def frV (tk ns : List Nm) (n : Nat) : Bool := !hasS (vN n) tk && !hasS (vN n) ns
theorem frV_ex (tk ns : List Nm) : ∃ n, n ≤ tk.length + ns.length ∧ frV tk ns n = true := by
  obtain ⟨n, hn, hx⟩ := pigeon (tk ++ ns) vN vN_inj
  rw [List.length_append] at hn
  rw [List.mem_append] at hx
  refine ⟨n, hn, ?_⟩
  unfold frV
  have h1 : hasS (vN n) tk = false := by
    cases h : hasS (vN n) tk with
    | false => rfl
    | true => exact absurd (.inl (hasS_mem.1 h)) hx
  have h2 : hasS (vN n) ns = false := by
    cases h : hasS (vN n) ns with
    | false => rfl
    | true => exact absurd (.inr (hasS_mem.1 h)) hx
  rw [h1, h2]; rfl
def vfind (tk ns : List Nm) : Nat → Nat → Nat
  | 0, n => n
  | f + 1, n => if frV tk ns n then n else vfind tk ns f (n + 1)
def vnum (tk ns : List Nm) : Nat := vfind tk ns (tk.length + ns.length + 1) 0
theorem vfind_eq {tk ns : List Nm} {m : Nat} (hm : frV tk ns m = true) : ∀ (f n : Nat), n ≤ m → m < n + f → (∀ j, j < m → frV tk ns j = false) → vfind tk ns f n = m
  | 0, n, h1, h2, _ => by omega
  | f + 1, n, h1, h2, h3 => by
    rw [vfind]
    rcases Nat.eq_or_lt_of_le h1 with h | h
    · subst h; rw [if_pos hm]
    · rw [h3 n h, if_neg (by simp)]
      exact vfind_eq hm f (n + 1) h (by omega) h3
theorem vnum_eq {tk ns : List Nm} {m : Nat} (hm : frV tk ns m = true) (h : ∀ j, j < m → frV tk ns j = false) : vnum tk ns = m := by
  obtain ⟨n, hn, hf⟩ := frV_ex tk ns
  refine vfind_eq hm _ 0 (Nat.zero_le _) ?_ h
  rcases Nat.lt_or_ge n m with h1 | h1
  · rw [h n h1] at hf; cases hf
  · omega
theorem vnum_lt {tk ns : List Nm} {n : Nat} (h : ∀ j, j < n → frV tk ns j = false) : n ≤ tk.length + ns.length := by
  obtain ⟨m, hm, hf⟩ := frV_ex tk ns
  rcases Nat.lt_or_ge m n with h1 | h1
  · rw [h m h1] at hf; cases hf
  · omega
end Go.Proofs.YteacpafhmgdbkaaGreatDoor
end

section
namespace Go.Proofs.YteacpafhmgdbkaaGreatDoor
open Go Go.AL Go.RowKit
set_option maxRecDepth 10000
set_option maxHeartbeats 4000000
theorem dec_len : ∀ n : Nat, (Lib.decDigits n).length ≤ n + 1 := by
  intro n
  induction n using Nat.strongRecOn with
  | _ n ih =>
    rw [Lib.decDigits]
    split
    · simp
    · have := ih (n / 10) (by omega)
      rw [List.length_append, List.length_singleton]; omega
theorem itoa_len (n : Nat) : (Lib.itoa n).length ≤ n + 1 := by rw [Lib.itoa_nonneg]; exact dec_len n
theorem keysS_ok (tk : List Nm) : KeysOk .string (keysS tk) := fun v hv => by
  obtain ⟨p, _, rfl⟩ := List.mem_map.1 hv
  trivial
theorem BA_inj {a b : Nm} (h : BA a = BA b) : a = b := by
  have := congrArg (fun x : ByteArray => x.data.toList) h
  simpa [BA] using this
theorem keysS_uniq {tk : List Nm} (hnd : tk.Nodup) {v : Nm} {i j : Nat} (hj : tk[j]? = some v) (hi : (keysS tk)[i]? = some (.string (BA v))) : i = j := by
  rw [keysS, List.getElem?_map] at hi
  cases h : tk[i]? with
  | none => rw [h] at hi; cases hi
  | some u =>
    rw [h] at hi
    simp only [Option.map_some, Option.some.injEq, Value.string.injEq] at hi
    have hu := BA_inj hi
    subst hu
    obtain ⟨a1, a2⟩ := List.getElem?_eq_some_iff.1 h
    obtain ⟨b1, b2⟩ := List.getElem?_eq_some_iff.1 hj
    rcases Nat.lt_trichotomy i j with h1 | h1 | h1
    · exact absurd (a2.trans b2.symm) (List.pairwise_iff_getElem.1 hnd i j a1 b1 h1)
    · exact h1
    · exact absurd (b2.trans a2.symm) (List.pairwise_iff_getElem.1 hnd j i b1 a1 h1)
theorem keysS_not {tk : List Nm} {v : Nm} (h : hasS v tk = false) : Value.string (BA v) ∉ keysS tk := fun hc => by
  obtain ⟨u, hu, e⟩ := List.mem_map.1 hc
  simp only [Value.string.injEq] at e
  have := BA_inj e
  subst this
  rw [hasS_mem.2 hu] at h; cases h
theorem variable_spec (tk ns ws : List Nm) (h1 : tk.length ≤ 1000000) (h2 : ns.length ≤ 1000000) (hnd : tk.Nodup) :
    ACall Tryz.prog 151 [.ob 0 0] (wrH 2 3 tk ns ws) (fun r H' => r = Sv (vN (vnum tk ns)) ∧ H' = wrH 2 3 tk ns ws) := by
  refine ACall.walk [0, 2, 3, 4, 25] [] Tryz.func151 rfl Tryz.ntmps151 (by kernel_rfl) (by rfl) rfl fun W own I0 φ0 lay => ?_
  refine gO ?_
  refine AP.loop rfl (α := Nat) (fun k => [(0, .ob 0 0), (3, Iv k)]) (fun _ => wrH 2 3 tk ns ws) (fun k => ∀ j, j < k → frV tk ns j = false) (fun k => 2000001 - k) 0 (by intro j hj; omega) (sU) rfl fun k hk => ?_
  have hkb := vnum_lt hk
  have hit := itoa_spec k (by omega)
  have hw := wr (x := (k : Int) + 1) (by omega)
  refine gO ?_
  refine AQ.fn (by kernel_rfl) rfl rfl rfl (hit) rfl ?_
  have hil := itoa_len k
  refine gO ?_
  have e : (118 :: Lib.itoa (k : Int)) = vN k := rfl
  simp only [e]
  clear e hit hil
  obtain ⟨v, hv⟩ : ∃ v, vN k = v := ⟨_, rfl⟩
  have hfr : frV tk ns k = (!hasS v tk && !hasS v ns) := by rw [frV, hv]
  simp only [hv]
  cases ht : hasS v tk with
  | true =>
    have hmem : BA v ∈ tk.map BA := List.mem_map.2 ⟨v, hasS_mem.1 ht, rfl⟩
    obtain ⟨j, hj⟩ := List.mem_iff_getElem?.1 (hasS_mem.1 ht)
    have hkj : (keysS tk)[j]? = some (.string (BA v)) := by rw [keysS, List.getElem?_map, hj]; rfl
    have huq : ∀ i, (keysS tk)[i]? = some (.string (BA v)) → i = j := fun i hi => keysS_uniq hnd hj hi
    have hvj : (valsT tk)[j]? = some (Bv true) := by rw [valsT, List.getElem?_map, hj]; rfl
    refine AQ.lookF j (by kernel_rfl) rfl rfl rfl Tryz.underlying96 Tryz.underlying9 (keysS_ok tk) trivial (List.mem_of_getElem? hkj) huq hvj ?_
    refine sI ?_
    refine gE @hw ?_
    exact AE.round (k + 1) (fun j hj => by
      rcases Nat.lt_or_ge j k with h | h
      · exact hk j h
      · have : j = k := by omega
        subst this; rw [hfr, ht]; rfl) (by omega) (sU) rfl
  | false =>
    refine AQ.lookN (by kernel_rfl) rfl rfl rfl Tryz.underlying96 Tryz.underlying9 (keysS_ok tk) trivial (keysS_not ht) rfl rfl ?_
    refine sI ?_
    refine gO ?_
    refine AQ.guard_yes (by simp only [go_sem]) ?_
    refine AQ.fnL ([.im (.sl 1 (stR ns)), Sv v]) (by kernel_rfl) rfl rfl rfl (LentAs.cons (LentA.of (Lent.osw rfl (by rw [stR_len]))) (LentAs.cons (LentA.im _) LentAs.nil)) (containsS_spec ns v (by omega)) rfl (fun _ => rfl) ?_
    refine sI ?_
    refine gO ?_
    refine AP.cond rfl rfl (fun h => ?_) (fun h => ?_)
    · have h : hasS v ns = false := by simpa using h
      refine gO ?_
      have hvn : vnum tk ns = k := vnum_eq (by rw [hfr, ht, h]; rfl) hk
      exact AE.ret rfl ⟨rfl, trivial⟩ ⟨by rw [hvn, hv]; rfl, rfl⟩
    · have h : hasS v ns = true := by simpa using h
      refine gE @hw ?_
      exact AE.round (k + 1) (fun j hj => by
        rcases Nat.lt_or_ge j k with h1 | h1
        · exact hk j h1
        · have : j = k := by omega
          subst this; rw [hfr, ht, h]; rfl) (by omega) (sU) rfl
end Go.Proofs.YteacpafhmgdbkaaGreatDoor
end

section
namespace Go.Proofs.YteacpafhmgdbkaaGreatDoor
open Go Go.AL Go.RowKit
set_option maxRecDepth 10000
set_option maxHeartbeats 4000000
def sgnL : List Nm := [[], [], [36, 61], [36, 70], [36, 62], [36, 38], [36, 124], [36, 65], [36, 69]]
def sgn (k : Int) : Nm := sgnL.getD k.toNat []
theorem signs_spec : PFn Tryz.prog 149 [] (.ar (sgnL.map fun s => Si s)) := by
  refine ACall.walk [0] [0] Tryz.func149 rfl Tryz.ntmps149 (by kernel_rfl) (by rfl) rfl fun W own I0 φ0 lay => ?_
  refine gO ?_
  exact AE.retD [0] rfl ⟨⟨rfl, rfl⟩, trivial⟩ rfl ⟨rfl, rfl⟩
abbrev wrD (wi ni : Nat) (tk ns ws : List Nm) : Heap := (4, .var 140 [.ob 0 0]) :: wrH wi ni tk ns ws
theorem pop_spec (tk ns ws : List Nm) (v : Nm) (hn : ns.length ≤ 1000000) : ADef Tryz.prog 152 [.ob 4 0] (wrD 2 3 tk (ns ++ [v]) ws) none (fun H' => H' = wrD 2 3 tk ns ws) := by
  have w1 : IntKind.i64.wrap (((ns ++ [v]).length : Int) - 1) = (ns.length : Int) := by
    rw [List.length_append, List.length_singleton, wr (by omega)]; omega
  refine ADef.plain [0] [] Tryz.func152 rfl Tryz.ntmps152 (by kernel_rfl) (by rfl) rfl fun W own I0 φ0 lay => ?_
  refine gO ?_
  refine AP.drawE 15 (Tree.node [] [0, 1, 2, 3, 4, 5, 6, 7, 8, 9, 10, 11, 12, 13] [14] [Tree.node [] [] [] []]) (by kernel_rfl) rfl (by kernel_rfl) (by kernel_rfl) ?_
  refine vd_node ?_
  refine sE (an @w1 @Int.toNat_natCast) ?_
  refine ⟨⟨by omega, by simp; omega⟩, ?_⟩
  repeat' (first | with_reducible exact True.intro | with_reducible refine And.intro (by omega) ?_ | with_reducible refine And.intro ?_ ?_ | (refine AQ.nx rfl ?_; refine sE @wrD.eq_1 ?_) | (fail) | refine AQ.done ?_ | (refine AQ.go (by kernel_rfl) ?_; refine sE @wrD.eq_1 ?_; repeat (with_reducible refine And.intro (by omega) ?_); refine AQ.nx rfl ?_; refine sE @wrD.eq_1 ?_))
  all_goals
    refine gO ?_
    refine AE.trunc 3 ns.length rfl ?_
    refine sI ?_
    rw [show (stR (ns ++ [v])).take ns.length = stR ns by rw [stR_take]; simp]
    exact AE.retQ [] (.inr rfl) rfl rfl trivial rfl rfl
end Go.Proofs.YteacpafhmgdbkaaGreatDoor
end

section
namespace Go.Proofs.YteacpafhmgdbkaaGreatDoor
open Go Go.AL Go.RowKit
set_option maxRecDepth 10000
set_option maxHeartbeats 4000000
mutual
def fmW (tk ns : List Nm) : Fm → List Nm
  | .mk k nm ts ps => if k = 1 then nm :: lsW ns ts else sgn k :: (tmsW ns ts ++ (if k = 7 ∨ k = 8 then vN (vnum tk ns) :: fmsW tk (ns ++ [vN (vnum tk ns)]) ps else fmsW tk ns ps))
def fmsW (tk ns : List Nm) : List Fm → List Nm
  | [] => []
  | f :: l => fmW tk ns f ++ fmsW tk ns l
end
def psW (tk ns : List Nm) (k : Int) (ps : List Fm) : List Nm := if k = 7 ∨ k = 8 then vN (vnum tk ns) :: fmsW tk (ns ++ [vN (vnum tk ns)]) ps else fmsW tk ns ps
theorem fmW_eq (tk ns : List Nm) (f : Fm) : fmW tk ns f = if f.k = 1 then f.nm :: lsW ns f.ts else sgn f.k :: (tmsW ns f.ts ++ psW tk ns f.k f.ps) := by
  cases f with
  | mk k nm ts ps => rw [fmW]; rfl
theorem fmsW_snc (tk ns : List Nm) {t : Fm} : ∀ {l : List Fm} {k : Nat}, l[k]? = some t → fmsW tk ns (l.take (k + 1)) = fmsW tk ns (l.take k) ++ fmW tk ns t
  | [], k, h => by simp at h
  | u :: l, 0, h => by simp at h; subst h; simp [fmsW]
  | u :: l, k + 1, h => by
    simp at h
    rw [List.take_succ_cons, List.take_succ_cons, fmsW, fmsW, fmsW_snc tk ns h, List.append_assoc]
theorem fmsW_app (tk ns : List Nm) (b : List Fm) : ∀ a : List Fm, fmsW tk ns (a ++ b) = fmsW tk ns a ++ fmsW tk ns b
  | [] => by simp [fmsW]
  | t :: a => by rw [List.cons_append, fmsW, fmsW, fmsW_app tk ns b a, List.append_assoc]
theorem fmsW_take (tk ns : List Nm) (l : List Fm) (k : Nat) : (fmsW tk ns (l.take k)).length ≤ (fmsW tk ns l).length := by
  have := congrArg (fmsW tk ns) (List.take_append_drop k l)
  rw [fmsW_app] at this
  rw [← this, List.length_append]; omega
theorem fmW_ge (tk ns : List Nm) (f : Fm) : 1 ≤ (fmW tk ns f).length := by
  rw [fmW_eq]
  split <;> simp
theorem fmsW_ge (tk ns : List Nm) : ∀ l : List Fm, l.length ≤ (fmsW tk ns l).length
  | [] => by simp
  | t :: l => by
    have := fmW_ge tk ns t
    have := fmsW_ge tk ns l
    rw [fmsW, List.length_append, List.length_cons]; omega
theorem shp_k {f : Fm} (h : shp f = true) : 1 ≤ f.k ∧ f.k ≤ 8 := by
  unfold shp at h
  split at h
  · cases h
  · split at h
    · omega
    · split at h
      · omega
      · split at h
        · omega
        · split at h
          · omega
          · split at h
            · omega
            · cases h
theorem wFs_get : ∀ {l : List Fm} {k : Nat} {t : Fm} {b : Int}, wFs l b = 0 → l[k]? = some t → wF t b = 0
  | [], k, t, b, _, h => by simp at h
  | u :: l, 0, t, b, hw, h => by simp at h; subst h; exact (wFs_cons hw).1
  | u :: l, k + 1, t, b, hw, h => by simp at h; exact wFs_get (wFs_cons hw).2 h
theorem wform_walk (tk ns : List Nm) (f : Fm) (ws : List Nm) (hw : wF f ns.length = 0) (htk : tk.length ≤ 1000000) (hnd : tk.Nodup) (hl : ws.length + (fmW tk ns f).length ≤ 1000000) (hn : ns.length + 1 ≤ 1000000)
    (ih : ∀ (k : Nat) (u : Fm) (ns' ws : List Nm), f.ps[k]? = some u → ns'.length ≤ ns.length + 1 → wF u ns'.length = 0 → ws.length + (fmW tk ns' u).length ≤ 1000000 → ACall Tryz.prog 85 [.ob 0 0, fmV u] (wrH 2 3 tk ns' ws) (fun r H' => r = .tup [] ∧ H' = wrH 4 5 tk ns' (ws ++ fmW tk ns' u))) :
    ACallX Tryz.prog 85 [.ob 0 0, fmV f] (wrH 2 3 tk ns ws) (fun r H' => r = .tup [] ∧ H' = wrH 4 5 tk ns (ws ++ fmW tk ns f)) (fun _ _ => False) := by
  obtain ⟨hsh, hwt, hwp⟩ := wF_parts hw
  have hk := shp_k hsh
  have he := fmW_eq tk ns f
  refine ACallX.walkD [0, 1, 2, 3, 5, 6, 8, 11, 41, 42, 43, 44, 53, 76, 78, 79, 80, 81] [2, 5, 8] Tryz.func85 rfl Tryz.ntmps85 (by kernel_rfl) (by rfl) rfl fun W own I0 φ0 lay => ?_
  refine AP.rename 2 4 rfl rfl rfl ?_; refine sI ?_; refine AP.rename 3 5 rfl rfl rfl ?_; refine sI ?_
  refine gO ?_
  refine AP.cond rfl rfl (fun h => ?_) (fun h => ?_)
  · have h : f.k = 1 := by simpa using h
    rw [if_pos h] at he
    have hlen : (fmW tk ns f).length = (lsW ns f.ts).length + 1 := by rw [he]; rfl
    rw [he]
    refine gO ?_
    refine AP.cut (α := Unit) (fun _ => [(2, .ob 6 0), (3, .im (.pt [Ii f.k, Si f.nm, .sl 3 (tmR f.ts), .sl 4 (fmR f.ps)]))]) (fun _ => (6, .var 140 [.ob 0 0]) :: wrH 4 5 tk ns (ws ++ [f.nm])) (fun _ => True) ?_ fun _ _ => ?_
    · skip
      refine AP.drawE 12 (Tree.node [] [0, 1, 2, 3, 4, 5, 6] [7] [Tree.node [0, 1, 2, 3, 4] [] [8] [Tree.node [0] [9, 10] [11] [Tree.node [] [] [] []]]]) (by kernel_rfl) rfl (by kernel_rfl) (by kernel_rfl) ?_
      refine vd_node ?_
      refine sI ?_
      repeat' (first | with_reducible exact True.intro | with_reducible refine And.intro (by omega) ?_ | with_reducible refine And.intro ?_ ?_ | (refine AQ.nx rfl ?_; refine sI ?_) | (refine AQ.kill 4 ?_; refine sI ?_; refine AQ.append (hnb := rfl) (rows := stR (ws)) (es := 0) (by kernel_rfl) rfl rfl rfl (by simp only [noMen, AV.mens, AV.men, mens_valsT]; rfl) Tryz.tk67 Tryz.sz9 (by show Option.map _ (zro Tryz.prog 9) = _; rw [Tryz.zr9]; rfl) Tryz.by9 (by rw [stR_len]) (by simp only [stR_len, List.length_cons, List.length_nil]; omega) (by simp only [stR_len, List.length_cons, List.length_nil]; omega) ?_; refine sE @stR_len ?_) | refine AQ.done ?_ | (refine AQ.go (by kernel_rfl) ?_; refine sI ?_; repeat (with_reducible refine And.intro (by omega) ?_); refine AQ.nx rfl ?_; refine sI ?_))
      all_goals
        rw [stR_snc, show ws.length + 1 = (ws ++ [f.nm]).length by simp]
        exact AE.meet () trivial (sU) rfl
    refine gO ?_
    have hli := wlist_walk tk ns f.ts (ws ++ [f.nm]) (by simp; omega) (by omega) fun k u ws hu hl => wterm_spec tk ns u ws (wTs_get hwt hu) hl (by omega)
    refine AQ.callH [(0, 0), (1, 1), (2, 4), (3, 5)] (by kernel_rfl) rfl rfl rfl rfl rfl rfl (by refine ⟨rfl, ?_, rfl, rfl, trivial⟩; rw [rnO, rns_valsT]; rfl) rfl hli ?_
    rintro r H' ⟨rfl, rfl⟩
    refine ⟨rfl, ?_⟩
    refine sH ?_
    refine AQ.rename 11 4 rfl rfl rfl ?_; refine sI ?_
    refine gO ?_
    refine AE.order [0, 1, 4, 5, 6] rfl ?_
    simp only [go_sem, Nat.reduceAdd, Nat.reduceLeDiff, Nat.reduceSub, Int.reduceToNat, reduceCtorEq, reorder]
    exact AE.leaveN (.inl rfl) rfl <| LV.retD [6] rfl trivial (by simp only [go_sem, Nat.reduceAdd, Nat.reduceLeDiff, Nat.reduceSub, Int.reduceToNat, reduceCtorEq, dropOk, noMen, AV.mens, AV.men, mens_valsT, Bool.or_false]; first | done | rfl) ⟨rfl, by rw [List.append_assoc]; rfl⟩
  · have h : ¬ f.k = 1 := by simpa using h
    rw [if_neg h] at he
    have hlen : (fmW tk ns f).length = 1 + (tmsW ns f.ts).length + (psW tk ns f.k f.ps).length := by rw [he]; simp; omega
    have hkn : f.k.toNat < 9 := by omega
    have hsg : (sgnL.map fun s => Si s).getD f.k.toNat (.v (.bool false)) = Si (sgn f.k) := by
      rw [List.getD_eq_getElem?_getD, List.getElem?_map, sgn, List.getD_eq_getElem?_getD, List.getElem?_eq_getElem (show f.k.toNat < sgnL.length from hkn)]; rfl
    refine gO ?_
    refine AP.cut (α := Unit) (fun _ => [(2, .ob 6 0), (3, .im (.pt [Ii f.k, Si f.nm, .sl 3 (tmR f.ts), .sl 4 (fmR f.ps)]))]) (fun _ => (6, .var 140 [.ob 0 0]) :: wrH 4 5 tk ns (ws ++ [sgn f.k])) (fun _ => True) ?_ fun _ _ => ?_
    · skip
      refine AP.drawE 14 (Tree.node [] [0, 1, 2, 3, 4, 6, 7] [5] [Tree.node [0, 1, 2, 3, 4, 6, 7] [8] [9] [Tree.node [0, 1, 2, 3, 4] [] [10] [Tree.node [0] [11, 12] [13] [Tree.node [] [] [] []]]]]) (by kernel_rfl) rfl (by kernel_rfl) (by kernel_rfl) ?_
      refine vd_node ?_
      refine sI ?_
      refine AQ.fn (by kernel_rfl) rfl rfl rfl (signs_spec) rfl ?_
      refine sI ?_
      refine AQ.nx rfl ?_
      refine sE @hsg ?_
      refine ⟨⟨by omega, by omega, by decide⟩, ?_⟩
      repeat' (first | with_reducible exact True.intro | with_reducible refine And.intro (by omega) ?_ | with_reducible refine And.intro ?_ ?_ | (refine AQ.nx rfl ?_; refine sI ?_) | (refine AQ.kill 4 ?_; refine sI ?_; refine AQ.append (hnb := rfl) (rows := stR (ws)) (es := 0) (by kernel_rfl) rfl rfl rfl (by simp only [noMen, AV.mens, AV.men, mens_valsT]; rfl) Tryz.tk67 Tryz.sz9 (by show Option.map _ (zro Tryz.prog 9) = _; rw [Tryz.zr9]; rfl) Tryz.by9 (by rw [stR_len]) (by simp only [stR_len, List.length_cons, List.length_nil]; omega) (by simp only [stR_len, List.length_cons, List.length_nil]; omega) ?_; refine sE @stR_len ?_) | refine AQ.done ?_ | (refine AQ.go (by kernel_rfl) ?_; refine sI ?_; repeat (with_reducible refine And.intro (by omega) ?_); refine AQ.nx rfl ?_; refine sI ?_))
      all_goals
        rw [stR_snc, show ws.length + 1 = (ws ++ [sgn f.k]).length by simp]
        exact AE.meet () trivial (sU) rfl
    obtain ⟨ws1, hws1⟩ : ∃ w, ws ++ [sgn f.k] = w := ⟨_, rfl⟩
    have hl1 : ws1.length = ws.length + 1 := by rw [← hws1]; simp
    have he2 : ws ++ (sgn f.k :: (tmsW ns f.ts ++ psW tk ns f.k f.ps)) = ws1 ++ tmsW ns f.ts ++ psW tk ns f.k f.ps := by rw [← hws1]; simp
    rw [he, he2]
    rw [hws1]
    clear he2 hws1 hsg
    have hge := tmsW_ge ns f.ts
    refine gE @tmR_len ?_
    refine AP.loop rfl (α := Nat × List Nm) (fun s => [(2, .ob 6 0), (3, .im (.pt [Ii f.k, Si f.nm, .sl 3 (tmR f.ts), .sl 4 (fmR f.ps)])), (41, .im (.sl 3 (tmR f.ts))), (42, Iv f.ts.length), (43, Iv s.1)]) (fun s => (6, .var 140 [.ob 0 0]) :: wrH 4 5 tk ns s.2) (fun s => s.1 ≤ f.ts.length ∧ s.2 = ws1 ++ tmsW ns (f.ts.take s.1)) (fun s => f.ts.length - s.1) (0, ws1) ⟨by omega, by simp [tmsW]⟩ (sU) rfl fun s ⟨hk, hs⟩ => ?_
    obtain ⟨k, s⟩ := s
    simp only at hk hs ⊢
    rcases Nat.eq_or_lt_of_le hk with hke | hlt
    · have hsl : s = ws1 ++ tmsW ns f.ts := by rw [hs, hke, List.take_length]
      rw [← hsl]
      have hsn : s.length = ws1.length + (tmsW ns f.ts).length := by rw [hsl]; simp
      clear hs
      refine gO ?_
      refine cF ?_
      refine gO ?_
      refine AQ.fn (by kernel_rfl) rfl rfl rfl (binds_spec f) rfl ?_
      refine gO ?_
      have hge2 := fmsW_ge tk ns f.ps
      by_cases hb : f.k = 7 ∨ f.k = 8
      · have hbn : bnd f = 1 := by unfold bnd; rw [if_pos hb]
        rw [hbn] at hwp
        rw [psW, if_pos hb] at hlen ⊢
        obtain ⟨v, hv⟩ : ∃ v, vN (vnum tk ns) = v := ⟨_, rfl⟩
        have hvs := variable_spec tk ns s htk (by omega) hnd
        rw [hv] at hlen hvs ⊢
        rw [List.length_cons] at hlen
        have hge3 := fmsW_ge tk (ns ++ [v]) f.ps
        simp only [hbn]
        refine cT ?_
        refine gO ?_
        refine AQ.callH [(0, 0), (1, 1), (2, 4), (3, 5)] (by kernel_rfl) rfl rfl rfl rfl rfl rfl (by refine ⟨rfl, ?_, rfl, rfl, trivial⟩; rw [rnO, rns_valsT]; rfl) rfl hvs ?_
        rintro r H' ⟨rfl, rfl⟩
        refine ⟨rfl, ?_⟩
        refine sH ?_
        refine gO ?_
        refine AP.cut (α := Unit) (fun _ => [(2, .ob 6 0), (3, .im (.pt [Ii f.k, Si f.nm, .sl 3 (tmR f.ts), .sl 4 (fmR f.ps)])), (6, Sv v)]) (fun _ => (6, .var 140 [.ob 0 0]) :: wrH 4 5 tk ns (s ++ [v])) (fun _ => True) ?_ fun _ _ => ?_
        · skip
          refine AP.drawE 11 (Tree.node [] [0, 1, 2, 3, 4, 5] [6] [Tree.node [0, 1, 2, 3, 4] [] [7] [Tree.node [0] [8, 9] [10] [Tree.node [] [] [] []]]]) (by kernel_rfl) rfl (by kernel_rfl) (by kernel_rfl) ?_
          refine vd_node ?_
          refine sI ?_
          repeat' (first | with_reducible exact True.intro | with_reducible refine And.intro (by omega) ?_ | with_reducible refine And.intro ?_ ?_ | (refine AQ.nx rfl ?_; refine sI ?_) | (refine AQ.kill 4 ?_; refine sI ?_; refine AQ.append (hnb := rfl) (rows := stR (s)) (es := 0) (by kernel_rfl) rfl rfl rfl (by simp only [noMen, AV.mens, AV.men, mens_valsT]; rfl) Tryz.tk67 Tryz.sz9 (by show Option.map _ (zro Tryz.prog 9) = _; rw [Tryz.zr9]; rfl) Tryz.by9 (by rw [stR_len]) (by simp only [stR_len, List.length_cons, List.length_nil]; omega) (by simp only [stR_len, List.length_cons, List.length_nil]; omega) ?_; refine sE @stR_len ?_) | refine AQ.done ?_ | (refine AQ.go (by kernel_rfl) ?_; refine sI ?_; repeat (with_reducible refine And.intro (by omega) ?_); refine AQ.nx rfl ?_; refine sI ?_))
          all_goals
            rw [stR_snc, show s.length + 1 = (s ++ [v]).length by simp]
            exact AE.meet () trivial (sU) rfl
        refine gO ?_
        refine AP.cut (α := Unit) (fun _ => [(2, .ob 6 0), (3, .im (.pt [Ii f.k, Si f.nm, .sl 3 (tmR f.ts), .sl 4 (fmR f.ps)]))]) (fun _ => (6, .var 140 [.ob 0 0]) :: wrH 4 5 tk (ns ++ [v]) (s ++ [v])) (fun _ => True) ?_ fun _ _ => ?_
        · skip
          refine AP.drawE 11 (Tree.node [] [0, 1, 2, 3, 4, 5] [6] [Tree.node [0, 1, 2, 3, 4] [] [7] [Tree.node [0] [8, 9] [10] [Tree.node [] [] [] []]]]) (by kernel_rfl) rfl (by kernel_rfl) (by kernel_rfl) ?_
          refine vd_node ?_
          refine sI ?_
          repeat' (first | with_reducible exact True.intro | with_reducible refine And.intro (by omega) ?_ | with_reducible refine And.intro ?_ ?_ | (refine AQ.nx rfl ?_; refine sI ?_) | (refine AQ.kill 5 ?_; refine sI ?_; refine AQ.append (hnb := rfl) (rows := stR (ns)) (es := 0) (by kernel_rfl) rfl rfl rfl (by simp only [noMen, AV.mens, AV.men, mens_valsT]; rfl) Tryz.tk67 Tryz.sz9 (by show Option.map _ (zro Tryz.prog 9) = _; rw [Tryz.zr9]; rfl) Tryz.by9 (by rw [stR_len]) (by simp only [stR_len, List.length_cons, List.length_nil]; omega) (by simp only [stR_len, List.length_cons, List.length_nil]; omega) ?_; refine sE @stR_len ?_) | refine AQ.done ?_ | (refine AQ.go (by kernel_rfl) ?_; refine sI ?_; repeat (with_reducible refine And.intro (by omega) ?_); refine AQ.nx rfl ?_; refine sI ?_))
          all_goals
            rw [stR_snc, show ns.length + 1 = (ns ++ [v]).length by simp]
            exact AE.meet () trivial (sU) rfl
        refine sI ?_
        refine xC ?_
        refine AP.regionD rfl rfl ?_
        refine AQ.go1 (by kernel_rfl) rfl rfl ?_ ?_
        · simp only [go_sem]
          done
        refine sI ?_
        refine AQ.defer rfl rfl rfl fun uu => ?_
        refine sI ?_
        refine gE @fmR_len ?_
        refine AP.loop rfl (α := Nat × List Nm) (fun q => [(2, .ob 6 0), (3, .im (.pt [Ii f.k, Si f.nm, .sl 3 (tmR f.ts), .sl 4 (fmR f.ps)])), (76, .wr (.exact uu) (.fn 152 [] [.ob 6 0])), (78, .im (.sl 4 (fmR f.ps))), (79, Iv f.ps.length), (80, Iv q.1)]) (fun q => (6, .var 140 [.ob 0 0]) :: wrH 4 5 tk (ns ++ [v]) q.2) (fun q => q.1 ≤ f.ps.length ∧ q.2 = s ++ [v] ++ fmsW tk (ns ++ [v]) (f.ps.take q.1)) (fun q => f.ps.length - q.1) (0, s ++ [v]) ⟨by omega, by simp [fmsW]⟩ (sU) rfl fun q ⟨hk2, hq⟩ => ?_
        obtain ⟨j, q⟩ := q
        simp only at hk2 hq ⊢
        rcases Nat.eq_or_lt_of_le hk2 with hje | hjt
        · have hsq : q = s ++ v :: fmsW tk (ns ++ [v]) f.ps := by rw [hq, hje, List.take_length]; simp
          rw [← hsq]
          refine gO ?_
          refine cF ?_
          refine gO ?_
          refine AE.leaveD [(4, 6), (0, 0), (1, 1), (2, 4), (3, 5)] (t := 76) (.inr rfl) rfl rfl rfl rfl rfl (by refine ⟨rfl, rfl, ?_, rfl, rfl, trivial⟩; rw [rnO, rns_valsT]; rfl) rfl (pop_spec tk ns q v (by omega)) ?_
          rintro H1 rfl
          refine ⟨rfl, ?_⟩
          refine sH ?_
          exact LV.retD [6] rfl trivial (by simp only [go_sem, Nat.reduceAdd, Nat.reduceLeDiff, Nat.reduceSub, Int.reduceToNat, reduceCtorEq, dropOk, noMen, AV.mens, AV.men, mens_valsT, Bool.or_false]; first | done | rfl) ⟨rfl, rfl⟩
        · obtain ⟨u, hu, hrow⟩ := fmR_get f.ps j hjt
          have hw := wr (x := (j : Int) + 1) (by omega)
          have hsn2 := fmsW_snc tk (ns ++ [v]) hu
          have htl := fmsW_take tk (ns ++ [v]) f.ps (j + 1)
          have hi := ih j u (ns ++ [v]) q hu (by simp) (by have := wFs_get hwp hu; rwa [show (((ns ++ [v]).length : Nat) : Int) = ns.length + 1 by simp]) (by rw [hsn2, List.length_append] at htl; rw [hq]; simp; omega)
          refine gO ?_
          refine cT ?_
          refine gE (an @hrow @fmR_len) ?_
          refine AQ.callH [(0, 0), (1, 1), (2, 4), (3, 5)] (by kernel_rfl) rfl rfl rfl rfl rfl rfl (by refine ⟨rfl, ?_, rfl, rfl, trivial⟩; rw [rnO, rns_valsT]; rfl) rfl hi ?_
          rintro r H' ⟨rfl, rfl⟩
          refine ⟨rfl, ?_⟩
          refine sH ?_
          refine AQ.rename 12 4 rfl rfl rfl ?_; refine sI ?_; refine AQ.rename 13 5 rfl rfl rfl ?_; refine sI ?_
          refine gE @hw ?_
          refine AE.forgets [7] (by simp only [go_sem, Nat.reduceAdd, Nat.reduceLeDiff, Nat.reduceSub, Int.reduceToNat, reduceCtorEq, dropOk, noMen, AV.mens, AV.men, mens_valsT, Bool.or_false]; first | done | rfl) ?_
          refine sI ?_
          refine AE.order [6, 0, 1, 4, 5] rfl ?_
          exact AE.round (j + 1, q ++ fmW tk (ns ++ [v]) u) ⟨by simp only; omega, by simp only; rw [hq, hsn2, List.append_assoc]⟩ (by simp only; omega) (sU) rfl
      · have hbn : bnd f = 0 := by unfold bnd; rw [if_neg hb]
        rw [hbn, Int.add_zero] at hwp
        rw [psW, if_neg hb] at hlen ⊢
        simp only [hbn]
        refine cF ?_
        refine gE @fmR_len ?_
        refine AP.loop rfl (α := Nat × List Nm) (fun q => [(2, .ob 6 0), (3, .im (.pt [Ii f.k, Si f.nm, .sl 3 (tmR f.ts), .sl 4 (fmR f.ps)])), (78, .im (.sl 4 (fmR f.ps))), (79, Iv f.ps.length), (80, Iv q.1)]) (fun q => (6, .var 140 [.ob 0 0]) :: wrH 4 5 tk ns q.2) (fun q => q.1 ≤ f.ps.length ∧ q.2 = s ++ fmsW tk ns (f.ps.take q.1)) (fun q => f.ps.length - q.1) (0, s) ⟨by omega, by simp [fmsW]⟩ (sU) rfl fun q ⟨hk2, hq⟩ => ?_
        obtain ⟨j, q⟩ := q
        simp only at hk2 hq ⊢
        rcases Nat.eq_or_lt_of_le hk2 with hje | hjt
        · have hsq : q = s ++ fmsW tk ns f.ps := by rw [hq, hje, List.take_length]
          rw [← hsq]
          refine gO ?_
          refine cF ?_
          refine gO ?_
          refine AE.order [0, 1, 4, 5, 6] rfl ?_
          simp only [go_sem, Nat.reduceAdd, Nat.reduceLeDiff, Nat.reduceSub, Int.reduceToNat, reduceCtorEq, reorder]
          exact AE.leaveN (.inr rfl) rfl <| LV.retD [6] rfl trivial (by simp only [go_sem, Nat.reduceAdd, Nat.reduceLeDiff, Nat.reduceSub, Int.reduceToNat, reduceCtorEq, dropOk, noMen, AV.mens, AV.men, mens_valsT, Bool.or_false]; first | done | rfl) ⟨rfl, rfl⟩
        · obtain ⟨u, hu, hrow⟩ := fmR_get f.ps j hjt
          have hw := wr (x := (j : Int) + 1) (by omega)
          have hsn2 := fmsW_snc tk ns hu
          have htl := fmsW_take tk ns f.ps (j + 1)
          have hi := ih j u ns q hu (by omega) (wFs_get hwp hu) (by rw [hsn2, List.length_append] at htl; rw [hq]; simp; omega)
          refine gO ?_
          refine cT ?_
          refine gE (an @hrow @fmR_len) ?_
          refine AQ.callH [(0, 0), (1, 1), (2, 4), (3, 5)] (by kernel_rfl) rfl rfl rfl rfl rfl rfl (by refine ⟨rfl, ?_, rfl, rfl, trivial⟩; rw [rnO, rns_valsT]; rfl) rfl hi ?_
          rintro r H' ⟨rfl, rfl⟩
          refine ⟨rfl, ?_⟩
          refine sH ?_
          refine AQ.rename 12 4 rfl rfl rfl ?_; refine sI ?_; refine AQ.rename 13 5 rfl rfl rfl ?_; refine sI ?_
          refine gE @hw ?_
          refine AE.forgets [7] (by simp only [go_sem, Nat.reduceAdd, Nat.reduceLeDiff, Nat.reduceSub, Int.reduceToNat, reduceCtorEq, dropOk, noMen, AV.mens, AV.men, mens_valsT, Bool.or_false]; first | done | rfl) ?_
          refine sI ?_
          refine AE.order [6, 0, 1, 4, 5] rfl ?_
          exact AE.round (j + 1, q ++ fmW tk ns u) ⟨by simp only; omega, by simp only; rw [hq, hsn2, List.append_assoc]⟩ (by simp only; omega) (sU) rfl
    · obtain ⟨u, hu, hrow⟩ := tmR_get f.ts k hlt
      have hw := wr (x := (k : Int) + 1) (by omega)
      have hsn := tmsW_snc ns hu
      have htl : (tmsW ns (f.ts.take (k + 1))).length ≤ (tmsW ns f.ts).length := by
        have := congrArg (tmsW ns) (List.take_append_drop (k + 1) f.ts)
        rw [tmsW_app] at this
        rw [← this, List.length_append]; omega
      have hi := wterm_spec tk ns u s (wTs_get hwt hu) (by rw [hsn, List.length_append] at htl; rw [hs]; simp; omega) (by omega)
      refine gO ?_
      refine cT ?_
      refine gE (an @hrow @tmR_len) ?_
      refine AQ.callH [(0, 0), (1, 1), (2, 4), (3, 5)] (by kernel_rfl) rfl rfl rfl rfl rfl rfl (by refine ⟨rfl, ?_, rfl, rfl, trivial⟩; rw [rnO, rns_valsT]; rfl) rfl hi ?_
      rintro r H' ⟨rfl, rfl⟩
      refine ⟨rfl, ?_⟩
      refine sH ?_
      refine AQ.rename 12 4 rfl rfl rfl ?_; refine sI ?_
      refine gE @hw ?_
      refine AE.forgets [7] (by simp only [go_sem, Nat.reduceAdd, Nat.reduceLeDiff, Nat.reduceSub, Int.reduceToNat, reduceCtorEq, dropOk, noMen, AV.mens, AV.men, mens_valsT, Bool.or_false]; first | done | rfl) ?_
      refine sI ?_
      refine AE.order [6, 0, 1, 4, 5] rfl ?_
      exact AE.round (k + 1, s ++ tmW ns u) ⟨by simp only; omega, by simp only; rw [hs, hsn, List.append_assoc]⟩ (by simp only; omega) (sU) rfl
theorem wform_spec (tk ns : List Nm) (f : Fm) (ws : List Nm) (hw : wF f ns.length = 0) (htk : tk.length ≤ 1000000) (hnd : tk.Nodup) (hl : ws.length + (fmW tk ns f).length ≤ 1000000) (hn : ns.length + szF f ≤ 1000000) :
    ACall Tryz.prog 85 [.ob 0 0, fmV f] (wrH 2 3 tk ns ws) (fun r H' => r = .tup [] ∧ H' = wrH 4 5 tk ns (ws ++ fmW tk ns f)) := by
  have hz := szF_eq f
  refine (wform_walk tk ns f ws hw htk hnd hl (by omega) fun k u ns' ws' hu hn' hwu hl' => ?_).toA fun _ _ h => h
  have := szFs_get hu
  exact wform_spec tk ns' u ws' hwu htk hnd hl' (by omega)
termination_by SizeOf.sizeOf f
decreasing_by exact fm_mem hu
end Go.Proofs.YteacpafhmgdbkaaGreatDoor
end

section
namespace Go.Proofs.YteacpafhmgdbkaaGreatDoor
open Go Go.AL Go.RowKit
set_option maxRecDepth 10000
set_option maxHeartbeats 4000000
def addK (tk : List Nm) (s : Nm) : List Nm := if hasS s tk then tk else tk ++ [s]
mutual
def tkT : Tm → List Nm → List Nm
  | .mk n _ xs, tk => tkTs xs (if !(n == []) && (xs.length : Int) == 0 then addK tk n else tk)
def tkTs : List Tm → List Nm → List Nm
  | [], tk => tk
  | t :: l, tk => tkTs l (tkT t tk)
end
mutual
def tkF : Fm → List Nm → List Nm
  | .mk _ _ ts ps, tk => tkFs ps (tkTs ts tk)
def tkFs : List Fm → List Nm → List Nm
  | [], tk => tk
  | t :: l, tk => tkFs l (tkF t tk)
end
theorem tkT_eq (t : Tm) (tk : List Nm) : tkT t tk = tkTs t.xs (if !(t.nm == []) && (t.xs.length : Int) == 0 then addK tk t.nm else tk) := by cases t; rw [tkT]; rfl
theorem tkF_eq (f : Fm) (tk : List Nm) : tkF f tk = tkFs f.ps (tkTs f.ts tk) := by cases f; rw [tkF]; rfl
theorem tkTs_drop (l : List Tm) (k : Nat) (t : Tm) (tk : List Nm) (h : l[k]? = some t) : tkTs (l.drop k) tk = tkTs (l.drop (k + 1)) (tkT t tk) := by
  obtain ⟨h1, e1⟩ := List.getElem?_eq_some_iff.1 h
  rw [List.drop_eq_getElem_cons h1, e1, tkTs]
theorem tkFs_drop (l : List Fm) (k : Nat) (t : Fm) (tk : List Nm) (h : l[k]? = some t) : tkFs (l.drop k) tk = tkFs (l.drop (k + 1)) (tkF t tk) := by
  obtain ⟨h1, e1⟩ := List.getElem?_eq_some_iff.1 h
  rw [List.drop_eq_getElem_cons h1, e1, tkFs]
theorem addK_nodup {tk : List Nm} (h : tk.Nodup) (s : Nm) : (addK tk s).Nodup := by
  unfold addK
  cases hs : hasS s tk with
  | true => exact h
  | false =>
    rw [if_neg (by simp)]
    refine List.nodup_append.2 ⟨h, by simp, fun a ha b hb => ?_⟩
    simp at hb
    subst hb
    intro e
    subst e
    rw [hasS_mem.2 ha] at hs; cases hs
theorem addK_len (tk : List Nm) (s : Nm) : (addK tk s).length ≤ tk.length + 1 := by unfold addK; split <;> simp
mutual
theorem tkT_nodup : ∀ (t : Tm) {tk : List Nm}, tk.Nodup → (tkT t tk).Nodup
  | .mk n _ xs, tk, h => by
    rw [tkT]
    refine tkTs_nodup xs ?_
    split
    · exact addK_nodup h _
    · exact h
theorem tkTs_nodup : ∀ (l : List Tm) {tk : List Nm}, tk.Nodup → (tkTs l tk).Nodup
  | [], tk, h => by rw [tkTs]; exact h
  | t :: l, tk, h => by rw [tkTs]; exact tkTs_nodup l (tkT_nodup t h)
end
mutual
theorem tkF_nodup : ∀ (t : Fm) {tk : List Nm}, tk.Nodup → (tkF t tk).Nodup
  | .mk _ _ ts ps, tk, h => by rw [tkF]; exact tkFs_nodup ps (tkTs_nodup ts h)
theorem tkFs_nodup : ∀ (l : List Fm) {tk : List Nm}, tk.Nodup → (tkFs l tk).Nodup
  | [], tk, h => by rw [tkFs]; exact h
  | t :: l, tk, h => by rw [tkFs]; exact tkFs_nodup l (tkF_nodup t h)
end
mutual
theorem tkT_len : ∀ (t : Tm) (tk : List Nm), (tkT t tk).length ≤ tk.length + szT t
  | .mk n _ xs, tk => by
    rw [tkT, szT]
    have := tkTs_len xs (if !(n == []) && (xs.length : Int) == 0 then addK tk n else tk)
    have h2 : (if !(n == []) && (xs.length : Int) == 0 then addK tk n else tk).length ≤ tk.length + 1 := by
      split
      · exact addK_len tk n
      · omega
    omega
theorem tkTs_len : ∀ (l : List Tm) (tk : List Nm), (tkTs l tk).length ≤ tk.length + szTs l
  | [], tk => by rw [tkTs, szTs]; omega
  | t :: l, tk => by
    rw [tkTs, szTs]
    have := tkTs_len l (tkT t tk)
    have := tkT_len t tk
    omega
end
mutual
theorem tkF_len : ∀ (t : Fm) (tk : List Nm), (tkF t tk).length ≤ tk.length + szF t
  | .mk _ _ ts ps, tk => by
    rw [tkF, szF]
    have := tkFs_len ps (tkTs ts tk)
    have := tkTs_len ts tk
    omega
theorem tkFs_len : ∀ (l : List Fm) (tk : List Nm), (tkFs l tk).length ≤ tk.length + szFs l
  | [], tk => by rw [tkFs, szFs]; omega
  | t :: l, tk => by
    rw [tkFs, szFs]
    have := tkFs_len l (tkF t tk)
    have := tkF_len t tk
    omega
end
abbrev tnH (tk : List Nm) : Heap := [(0, .var 140 [.ob 1 0]), (1, .var 142 [nilV, .mp 2, nilV]), (2, .var (.map (keysS tk)) (valsT tk))]
theorem keysS_add (tk : List Nm) (s : Nm) : keysS (tk ++ [s]) = keysS tk ++ [.string (BA s)] := by simp [keysS]
theorem valsT_add (tk : List Nm) (s : Nm) : valsT (tk ++ [s]) = valsT tk ++ [Bv true] := by simp [valsT]
theorem note_spec (tk : List Nm) (s : Nm) (hnd : tk.Nodup) : ACall Tryz.prog 84 [Sv s, .ob 0 0] (tnH tk) (fun r H' => r = .tup [] ∧ H' = tnH (addK tk s)) := by
  refine ACall.walk [0, 1] [] Tryz.func84 rfl Tryz.ntmps84 (by kernel_rfl) (by rfl) rfl fun W own I0 φ0 lay => ?_
  refine gO ?_
  unfold addK
  cases ht : hasS s tk with
  | true =>
    obtain ⟨j, hj⟩ := List.mem_iff_getElem?.1 (hasS_mem.1 ht)
    have hkj : (keysS tk)[j]? = some (.string (BA s)) := by rw [keysS, List.getElem?_map, hj]; rfl
    have huq : ∀ i, (keysS tk)[i]? = some (.string (BA s)) → i = j := fun i hi => keysS_uniq hnd hj hi
    refine AQ.msetF j (by kernel_rfl) rfl rfl rfl rfl Tryz.underlying96 Tryz.underlying9 (keysS_ok tk) trivial (List.mem_of_getElem? hkj) huq ?_
    refine sI ?_
    refine gO ?_
    have e : (valsT tk).set j (Bv true) = valsT tk := by
      obtain ⟨h1, _⟩ := List.getElem?_eq_some_iff.1 hj
      have h2 : j < (valsT tk).length := by rw [valsT, List.length_map]; exact h1
      have h3 : (valsT tk)[j] = Bv true := by simp [valsT]
      rw [← h3]; exact List.set_getElem_self h2
    rw [e]
    exact AE.fall rfl trivial ⟨rfl, rfl⟩
  | false =>
    refine AQ.msetN (by kernel_rfl) rfl rfl rfl rfl Tryz.underlying96 Tryz.underlying9 (keysS_ok tk) trivial (keysS_not ht) ?_
    refine sI ?_
    refine gO ?_
    rw [← keysS_add, ← valsT_add]
    exact AE.fall rfl trivial ⟨rfl, rfl⟩
abbrev lnH (tk : List Nm) : Heap := (4, .var 220 [.fn 147 [] [.ob 3 0, .ob 4 0]]) :: (3, .var 144 [.fn 84 [] [.ob 0 0]]) :: tnH tk
theorem leavesT1_spec (t : Tm) (tk : List Nm) (hnd : tk.Nodup) (hs : tmS t) : ACall Tryz.prog 147 [tmV t, .ob 3 0, .ob 4 0] (lnH tk) (fun r H' => r = .tup [] ∧ H' = lnH (tkT t tk)) := by
  have hs0 := tmS_eq.1 hs
  refine ACall.walk [0, 1, 2, 3, 5, 14, 20, 21, 22, 23] [5] Tryz.func147 rfl Tryz.ntmps147 (by kernel_rfl) (by rfl) rfl fun W own I0 φ0 lay => ?_
  refine gE @tmR_len ?_
  obtain ⟨c, hcd⟩ : ∃ c, (!(t.nm == []) && (t.xs.length : Int) == 0) = c := ⟨_, rfl⟩
  have he := tkT_eq t tk
  rw [hcd] at he
  have hnd1 : (if c then addK tk t.nm else tk).Nodup := by
    split
    · exact addK_nodup hnd _
    · exact hnd
  refine AP.cut (α := Unit) (fun _ => [(1, .ob 3 0), (2, .ob 4 0), (3, .im (tmP t))]) (fun _ => lnH (if c then addK tk t.nm else tk)) (fun _ => True) ?_ fun _ _ => ?_
  · refine AP.cond rfl rfl (fun h => ?_) (fun h => ?_)
    · rw [hcd] at h
      subst h
      refine sE @lnH.eq_1 ?_
      refine gO ?_
      refine AQ.callH [(0, 0), (1, 1), (2, 2)] (by kernel_rfl) rfl rfl rfl rfl rfl rfl (by refine ⟨rfl, rfl, ?_, trivial⟩; rw [rnO, rns_valsT]; rfl) rfl (note_spec tk t.nm hnd) ?_
      rintro r H' ⟨rfl, rfl⟩
      refine ⟨rfl, ?_⟩
      refine sH ?_
      refine gO ?_
      refine AE.order [4, 3, 0, 1, 2] rfl ?_
      exact AE.meet () trivial (sU) rfl
    · rw [hcd] at h
      subst h
      refine gO ?_
      exact AE.meet () trivial (sU) rfl
  · obtain ⟨tk1, htk1⟩ : ∃ x, (if c then addK tk t.nm else tk) = x := ⟨_, rfl⟩
    rw [htk1] at he hnd1 ⊢
    refine gE @tmR_len ?_
    refine AP.loop rfl (α := Nat × List Nm) (fun q => [(1, .ob 3 0), (2, .ob 4 0), (20, .im (.sl 3 (tmR t.xs))), (21, Iv t.xs.length), (22, Iv q.1)]) (fun q => lnH q.2) (fun q => q.1 ≤ t.xs.length ∧ q.2.Nodup ∧ tkT t tk = tkTs (t.xs.drop q.1) q.2) (fun q => t.xs.length - q.1) (0, tk1) ⟨by omega, hnd1, by rw [he, List.drop_zero]⟩ (sU) rfl fun q ⟨hk, hn, hm⟩ => ?_
    obtain ⟨k, m⟩ := q
    simp only at hk hm hn ⊢
    refine sE @lnH.eq_1 ?_
    rcases Nat.eq_or_lt_of_le hk with hke | hlt
    · rw [hke, List.drop_length, tkTs] at hm
      refine gO ?_
      refine cF ?_
      refine gO ?_
      exact AE.fall rfl trivial ⟨rfl, by rw [hm]⟩
    · obtain ⟨u, hu, hrow⟩ := tmR_get t.xs k hlt
      rw [tkTs_drop t.xs k u _ hu] at hm
      have hw := wr (x := (k : Int) + 1) (by omega)
      refine gO ?_
      refine cT ?_
      refine gE @hrow ?_
      refine ⟨by rw [tmR_len]; omega, ?_⟩
      refine gO ?_
      refine AQ.callH [(4, 4), (3, 3), (0, 0), (1, 1), (2, 2)] (by kernel_rfl) rfl rfl rfl rfl rfl rfl (by refine ⟨rfl, rfl, rfl, rfl, ?_, trivial⟩; rw [rnO, rns_valsT]; rfl) rfl (leavesT1_spec u m hn (tmsS_get hs0.2.2 hu)) ?_
      rintro r H' ⟨rfl, rfl⟩
      refine ⟨rfl, ?_⟩
      refine sG @lnH.eq_1 ?_
      refine gE @hw ?_
      refine AE.forgets [5] (by simp only [go_sem, Nat.reduceAdd, Nat.reduceLeDiff, Nat.reduceSub, Int.reduceToNat, reduceCtorEq, dropOk, noMen, AV.mens, AV.men, mens_valsT, Bool.or_false]; first | done | rfl) ?_
      refine sI ?_
      exact AE.round (k + 1, tkT u m) ⟨by simp only; omega, tkT_nodup u hn, hm⟩ (by simp only; omega) (sU) rfl
termination_by SizeOf.sizeOf t
decreasing_by exact tm_mem hu
end Go.Proofs.YteacpafhmgdbkaaGreatDoor
end

section
namespace Go.Proofs.YteacpafhmgdbkaaGreatDoor
open Go Go.AL Go.RowKit
set_option maxRecDepth 10000
set_option maxHeartbeats 4000000
theorem leavesT_spec (F : Fm) (tk : List Nm) (hnd : tk.Nodup) (hs : fmS F) : ACall Tryz.prog 83 [fmV F, .fn 84 [] [.ob 0 0]] (tnH tk) (fun r H' => r = .tup [] ∧ H' = tnH (tkF F tk)) := by
  have hs0 := fmS_eq.1 hs
  have he := tkF_eq F tk
  refine ACall.walk [0, 1, 2, 3, 4, 6, 8, 11, 12, 13, 14, 22, 23, 24, 25] [3, 4, 6, 8] Tryz.func83 rfl Tryz.ntmps83 (by kernel_rfl) (by rfl) rfl fun W own I0 φ0 lay => ?_
  refine gE @tmR_len ?_
  refine AP.loop rfl (α := Nat × List Nm) (fun q => [(2, .im (fmP F)), (3, .ob 3 0), (4, .ob 4 0), (11, .im (.sl 3 (tmR F.ts))), (12, Iv F.ts.length), (13, Iv q.1)]) (fun q => lnH q.2) (fun q => q.1 ≤ F.ts.length ∧ q.2.Nodup ∧ tkTs F.ts tk = tkTs (F.ts.drop q.1) q.2) (fun q => F.ts.length - q.1) (0, tk) ⟨by omega, hnd, by rw [List.drop_zero]⟩ (sU) rfl fun q ⟨hk, hn, hm⟩ => ?_
  obtain ⟨k, m⟩ := q
  simp only at hk hm hn ⊢
  refine sE @lnH.eq_1 ?_
  rcases Nat.eq_or_lt_of_le hk with hke | hlt
  · rw [hke, List.drop_length, tkTs] at hm
    rw [hm] at he
    refine gO ?_
    refine cF ?_
    refine gE @fmR_len ?_
    refine AP.loop rfl (α := Nat × List Nm) (fun q => [(2, .im (fmP F)), (3, .ob 3 0), (22, .im (.sl 4 (fmR F.ps))), (23, Iv F.ps.length), (24, Iv q.1)]) (fun q => lnH q.2) (fun q => q.1 ≤ F.ps.length ∧ q.2.Nodup ∧ tkF F tk = tkFs (F.ps.drop q.1) q.2) (fun q => F.ps.length - q.1) (0, m) ⟨by omega, hn, by rw [List.drop_zero, he]⟩ (sU) rfl fun q ⟨hk, hn, hm⟩ => ?_
    clear he
    obtain ⟨k, m⟩ := q
    simp only at hk hm hn ⊢
    refine sE @lnH.eq_1 ?_
    rcases Nat.eq_or_lt_of_le hk with hke | hlt
    · rw [hke, List.drop_length, tkFs] at hm
      refine gO ?_
      refine cF ?_
      refine gO ?_
      exact AE.fallD [4, 3] rfl trivial (by simp only [go_sem, Nat.reduceAdd, Nat.reduceLeDiff, Nat.reduceSub, Int.reduceToNat, reduceCtorEq, dropOk, noMen, AV.mens, AV.men, mens_valsT, Bool.or_false]; first | done | rfl) ⟨rfl, by rw [hm]; rfl⟩
    · obtain ⟨u, hu, hrow⟩ := fmR_get F.ps k hlt
      rw [tkFs_drop F.ps k u _ hu] at hm
      have hw := wr (x := (k : Int) + 1) (by omega)
      refine gO ?_
      refine cT ?_
      refine gE (an @hrow @fmR_len) ?_
      refine AQ.callH [(0, 0), (1, 1), (2, 2)] (by kernel_rfl) rfl rfl rfl rfl rfl rfl (by refine ⟨rfl, rfl, ?_, trivial⟩; rw [rnO, rns_valsT]; rfl) rfl (leavesT_spec u m hn (fmsS_get hs0.2.2.2.2 hu)) ?_
      rintro r H' ⟨rfl, rfl⟩
      refine ⟨rfl, ?_⟩
      refine sH ?_
      refine gE @hw ?_
      refine AE.forgets [5] (by simp only [go_sem, Nat.reduceAdd, Nat.reduceLeDiff, Nat.reduceSub, Int.reduceToNat, reduceCtorEq, dropOk, noMen, AV.mens, AV.men, mens_valsT, Bool.or_false]; first | done | rfl) ?_
      refine sI ?_
      refine AE.order [4, 3, 0, 1, 2] rfl ?_
      exact AE.round (k + 1, tkF u m) ⟨by simp only; omega, tkF_nodup u hn, hm⟩ (by simp only; omega) (sU) rfl
  · obtain ⟨u, hu, hrow⟩ := tmR_get F.ts k hlt
    rw [tkTs_drop F.ts k u _ hu] at hm
    have hw := wr (x := (k : Int) + 1) (by omega)
    refine gO ?_
    refine cT ?_
    refine gE (an @hrow @tmR_len) ?_
    refine AQ.callH [(4, 4), (3, 3), (0, 0), (1, 1), (2, 2)] (by kernel_rfl) rfl rfl rfl rfl rfl rfl (by refine ⟨rfl, rfl, rfl, rfl, ?_, trivial⟩; rw [rnO, rns_valsT]; rfl) rfl (leavesT1_spec u m hn (tmsS_get hs0.2.2.1 hu)) ?_
    rintro r H' ⟨rfl, rfl⟩
    refine ⟨rfl, ?_⟩
    refine sG @lnH.eq_1 ?_
    refine gE @hw ?_
    refine AE.forgets [5] (by simp only [go_sem, Nat.reduceAdd, Nat.reduceLeDiff, Nat.reduceSub, Int.reduceToNat, reduceCtorEq, dropOk, noMen, AV.mens, AV.men, mens_valsT, Bool.or_false]; first | done | rfl) ?_
    refine sI ?_
    exact AE.round (k + 1, tkT u m) ⟨by simp only; omega, tkT_nodup u hn, hm⟩ (by simp only; omega) (sU) rfl
termination_by SizeOf.sizeOf F
decreasing_by exact fm_mem hu
end Go.Proofs.YteacpafhmgdbkaaGreatDoor
end

section
namespace Go.Proofs.YteacpafhmgdbkaaGreatDoor
open Go Go.AL Go.RowKit
set_option maxRecDepth 10000
set_option maxHeartbeats 4000000
def okW (L : Nat) (l : List Nm) : Prop := ∀ w ∈ l, w.length ≤ L
theorem okW.nil {L : Nat} : okW L [] := fun _ h => by cases h
theorem okW.cons {L : Nat} {x : Nm} {l : List Nm} (h1 : x.length ≤ L) (h2 : okW L l) : okW L (x :: l) := fun w h => by
  rcases List.mem_cons.1 h with h | h
  · exact h ▸ h1
  · exact h2 w h
theorem okW.app {L : Nat} {l m : List Nm} (h1 : okW L l) (h2 : okW L m) : okW L (l ++ m) := fun w h => by
  rcases List.mem_append.1 h with h | h
  · exact h1 w h
  · exact h2 w h
theorem okW.get {L : Nat} {l : List Nm} (h : okW L l) (i : Nat) : (l.getD i []).length ≤ L := by
  rw [List.getD_eq_getElem?_getD]
  cases hx : l[i]? with
  | none => simp
  | some x => exact h x (List.mem_of_getElem? hx)
theorem join_len (L : Nat) : ∀ l : List Nm, okW L l → (joinB l).length ≤ (L + 1) * l.length
  | [], _ => by simp [joinB, Lib.join_nil]
  | x :: r, h => by
    have hx := h x (List.mem_cons_self ..)
    have ht : ∀ r : List Nm, okW L r → (Lib.joinTail [32] r).length ≤ (L + 1) * r.length := fun r => by
      induction r with
      | nil => intro _; simp [Lib.joinTail]
      | cons y r ih =>
        intro h
        have := ih fun w hw => h w (List.mem_cons_of_mem _ hw)
        have hy := h y (List.mem_cons_self ..)
        simp only [Lib.joinTail, List.map_cons, List.flatten_cons, List.length_append, List.length_cons, List.length_nil] at this ⊢
        rw [Nat.mul_add]; omega
    have := ht r fun w hw => h w (List.mem_cons_of_mem _ hw)
    rw [joinB, Lib.join_cons, List.length_append, List.length_cons, Nat.mul_add]; omega
mutual
theorem tmW_ok {L : Nat} (hL : 60 ≤ L) {ns : List Nm} (hn : okW L ns) (b : Int) : ∀ t : Tm, wT t b = 0 → okW L (tmW ns t)
  | .mk nm ix xs, h => by
    have h0 := wT_nm h
    simp only [Tm.nm, Tm.xs] at h0
    rw [tmW]
    split
    · exact okW.cons (hn.get _) okW.nil
    · rename_i hnm
      refine okW.cons (by omega) ?_
      split
      · exact okW.nil
      · exact okW.cons (by simp; omega) ((tmsW_ok hL hn b xs (h0.2.2 hnm).2.2).app (okW.cons (by simp; omega) okW.nil))
theorem tmsW_ok {L : Nat} (hL : 60 ≤ L) {ns : List Nm} (hn : okW L ns) (b : Int) : ∀ l : List Tm, wTs l b = 0 → okW L (tmsW ns l)
  | [], _ => by rw [tmsW]; exact okW.nil
  | t :: l, h => by
    rw [tmsW]
    exact (tmW_ok hL hn b t (wTs_cons h).1).app (tmsW_ok hL hn b l (wTs_cons h).2)
end
theorem lsW_ok {L : Nat} (hL : 60 ≤ L) {ns : List Nm} (hn : okW L ns) (b : Int) (l : List Tm) (h : wTs l b = 0) : okW L (lsW ns l) := by
  unfold lsW
  split
  · exact okW.nil
  · exact okW.cons (by simp; omega) ((tmsW_ok hL hn b l h).app (okW.cons (by simp; omega) okW.nil))
theorem vN_len (tk ns : List Nm) : (vN (vnum tk ns)).length ≤ tk.length + ns.length + 2 := by
  obtain ⟨m, hm, hf⟩ := frV_ex tk ns
  have hle : vnum tk ns ≤ tk.length + ns.length := by
    rcases Classical.em (∀ j, j < m → frV tk ns j = false) with h | h
    · rw [vnum_eq hf h]; exact hm
    · obtain ⟨j, hj, hfj, hmin⟩ : ∃ j, j < m ∧ frV tk ns j = true ∧ ∀ i, i < j → frV tk ns i = false := by
        clear hf hm
        induction m with
        | zero => exact absurd (fun j hj => by omega) h
        | succ m ih =>
          rcases Classical.em (∀ j, j < m → frV tk ns j = false) with h2 | h2
          · refine ⟨m, by omega, ?_, h2⟩
            cases hb : frV tk ns m with
            | true => rfl
            | false =>
              exact absurd (fun j hj => by
                rcases Nat.lt_or_ge j m with h3 | h3
                · exact h2 j h3
                · rw [show j = m by omega, hb]) h
          · obtain ⟨j, hj, a, b⟩ := ih h2
            exact ⟨j, by omega, a, b⟩
      rw [vnum_eq hfj hmin]; omega
  have := itoa_len (vnum tk ns)
  rw [vN, List.length_cons]; omega
theorem sgn_len (k : Int) : (sgn k).length ≤ 2 := by
  have : okW 2 sgnL := by unfold okW; decide
  exact this.get _
mutual
theorem fmW_ok {L : Nat} (hL : 60 ≤ L) (tk : List Nm) : ∀ (f : Fm) {ns : List Nm} (b : Int), okW L ns → wF f b = 0 → tk.length + ns.length + szF f + 2 ≤ L → okW L (fmW tk ns f)
  | .mk k nm ts ps, ns, b, hn, h, hs => by
    obtain ⟨hsh, hwt, hwp⟩ := wF_parts h
    simp only [Fm.ts, Fm.ps] at hwt hwp
    rw [szF] at hs
    rw [fmW]
    split
    · rename_i hk
      refine okW.cons ?_ (lsW_ok hL hn b ts hwt)
      have hnm : isNm nm = true := by
        unfold shp at hsh
        simp only [Fm.k, Fm.nm, hk] at hsh
        rw [if_neg (by simp), if_pos trivial] at hsh
        simp only [Bool.and_eq_true] at hsh
        exact hsh.1
      have := (isNm_len hnm).1
      omega
    · refine okW.cons (by have := sgn_len k; omega) ((tmsW_ok hL hn b ts hwt).app ?_)
      have hv := vN_len tk ns
      split
      · refine okW.cons (by omega) (fmsW_ok hL tk ps _ (hn.app (okW.cons (by omega) okW.nil)) hwp (by simp; omega))
      · exact fmsW_ok hL tk ps _ hn hwp (by omega)
theorem fmsW_ok {L : Nat} (hL : 60 ≤ L) (tk : List Nm) : ∀ (l : List Fm) {ns : List Nm} (b : Int), okW L ns → wFs l b = 0 → tk.length + ns.length + szFs l + 2 ≤ L → okW L (fmsW tk ns l)
  | [], ns, b, _, _, _ => by rw [fmsW]; exact okW.nil
  | f :: l, ns, b, hn, h, hs => by
    rw [szFs] at hs
    rw [fmsW]
    exact (fmW_ok hL tk f b hn (wFs_cons h).1 (by omega)).app (fmsW_ok hL tk l b hn (wFs_cons h).2 (by omega))
end
mutual
theorem fmW_len (tk : List Nm) : ∀ (f : Fm) (ns : List Nm), (fmW tk ns f).length ≤ 3 * szF f
  | .mk k nm ts ps, ns => by
    rw [fmW, szF]
    have h1 := lsW_len ns ts
    have h2 := tmsW_len ns ts
    split
    · rw [List.length_cons]; omega
    · rw [List.length_cons, List.length_append]
      split
      · have := fmsW_len tk ps (ns ++ [vN (vnum tk ns)])
        rw [List.length_cons]; omega
      · have := fmsW_len tk ps ns
        omega
theorem fmsW_len (tk : List Nm) : ∀ (l : List Fm) (ns : List Nm), (fmsW tk ns l).length ≤ 3 * szFs l
  | [], ns => by simp [fmsW]
  | f :: l, ns => by
    rw [fmsW, szFs, List.length_append]
    have := fmW_len tk f ns
    have := fmsW_len tk l ns
    omega
end
end Go.Proofs.YteacpafhmgdbkaaGreatDoor
end

section
namespace Go.Proofs.YteacpafhmgdbkaaGreatDoor
open Go Go.AL Go.RowKit
set_option maxRecDepth 10000
set_option maxHeartbeats 4000000
@[go_sem] theorem frzs_valsT (b es : Nat) (rows : List (List IV)) : ∀ l : List Nm, frzs b es rows (valsT l) = valsT l
  | [] => rfl
  | _ :: l => by rw [valsT, List.map_cons, frzs, ← valsT, frzs_valsT b es rows l]; rfl
@[go_sem] theorem frzCs_valsT (b : Nat) (rows : List (List IV)) : ∀ l : List Nm, frzCs b rows (valsT l) = True
  | [] => rfl
  | _ :: l => by rw [valsT, List.map_cons, frzCs, ← valsT, frzCs_valsT b rows l]; simp [frzC]
def wdF (f : Fm) : List Nm := fmW (tkF f []) [] f
def txF (f : Fm) : Nm × Int := if unF f 0 = 0 then (if 40000 < (joinB (wdF f)).length then ([], 15) else (joinB (wdF f), 0)) else ([], unF f 0)
theorem text_spec (f : Fm) (hs : fmS f) : PFn Tryz.prog 33 [fmV f] (.tup [Sv (txF f).1, Iv (txF f).2]) := by
  obtain ⟨q, hq⟩ : ∃ q, txF f = q := ⟨_, rfl⟩
  rw [hq]
  unfold txF at hq
  have hwl := well_at f hs
  refine ACall.walk [0, 1, 2, 3, 4, 5, 6, 10, 28] [5, 14] Tryz.func33 rfl Tryz.ntmps33 (by kernel_rfl) (by rfl) rfl fun W own I0 φ0 lay => ?_
  refine gO ?_
  refine AQ.fn (by kernel_rfl) rfl rfl rfl (hwl) rfl ?_
  refine gO ?_
  refine AP.cond rfl rfl (fun h => ?_) (fun h => ?_)
  · have h : ¬ unF f 0 = 0 := by simpa using h
    rw [if_neg h] at hq
    subst hq
    refine gO ?_
    exact AE.ret0 rfl ⟨rfl, rfl, trivial⟩ rfl ⟨rfl, rfl⟩
  · have h : unF f 0 = 0 := by simpa using h
    rw [if_pos h] at hq
    have hf := un_fit h
    have hwl := fmW_len (tkF f []) f []
    have htl := tkF_len f []
    have hnd : (tkF f []).Nodup := tkF_nodup f List.nodup_nil
    have hok := fmW_ok (L := 4000 + 4000 + 2) (by omega) (tkF f []) f (ns := []) 0 okW.nil hf.2.2 (by simp at htl ⊢; omega)
    have hjl := join_len _ _ hok
    have hjb : (joinB (fmW (tkF f []) [] f)).length ≤ 1000000000 := by
      have : (4000 + 4000 + 2 + 1) * (fmW (tkF f []) [] f).length ≤ 8003 * 12000 := Nat.mul_le_mul_left _ (by omega)
      omega
    have hlv := leavesT_spec f [] List.nodup_nil hs
    have hwf := wform_spec (tkF f []) [] f [] hf.2.2 (by simp at htl; omega) hnd (by simp; omega) (by simp; omega)
    have hwd : wdF f = fmW (tkF f []) [] f := rfl
    rw [hwd] at hq
    rw [List.nil_append] at hwf
    generalize hws : fmW (tkF f []) [] f = ws at *
    have hjs := join_spec ws (by omega) hjb
    clear hok hjl hjb
    generalize tkF f [] = tk at *
    refine gO ?_
    refine AQ.mmake (by kernel_rfl) ?_
    refine sI ?_
    refine gO ?_
    refine AQ.callH [(0, 2), (1, 1), (2, 0)] (by kernel_rfl) rfl rfl rfl rfl rfl rfl (by exact ⟨rfl, rfl, rfl, trivial⟩) rfl hlv ?_
    rintro r H' ⟨rfl, rfl⟩
    refine ⟨rfl, ?_⟩
    refine sH ?_
    refine AQ.ownCell 1 0 9 1 rfl rfl ?_
    refine sI ?_
    refine AQ.ownCell 1 2 9 1 rfl rfl ?_
    refine sI ?_
    refine gO ?_
    refine AQ.callH [(0, 1), (1, 0), (2, 3), (3, 4)] (by kernel_rfl) rfl rfl rfl rfl rfl rfl (by refine ⟨rfl, ?_, rfl, rfl, trivial⟩; rw [rnO, rns_valsT]; rfl) rfl hwf ?_
    rintro r H' ⟨rfl, rfl⟩
    refine ⟨rfl, ?_⟩
    refine sH ?_
    refine gO ?_
    refine AQ.freeze 9 (el := 9) (es := 1) (rows := stR ws) rfl (by simp only [go_sem, Nat.reduceAdd, Nat.reduceLeDiff, Nat.reduceSub, Int.reduceToNat, reduceCtorEq, stR_len]; first | done | trivial | omega | (simp; done) | (simp; omega)) (by simp only [go_sem, Nat.reduceAdd, Nat.reduceLeDiff, Nat.reduceSub, Int.reduceToNat, reduceCtorEq, stR_len]; first | done | trivial | omega | (simp; done) | (simp; omega)) ?_; simp only [go_sem, Nat.reduceAdd, Nat.reduceLeDiff, Nat.reduceSub, Int.reduceToNat, reduceCtorEq, stR_len]
    rw [stT ws ws.length (Nat.le_refl _)]
    refine AQ.fn (by kernel_rfl) rfl rfl rfl (hjs) rfl ?_
    refine gO ?_
    refine AP.cond rfl rfl (fun h4 => ?_) (fun h4 => ?_)
    · have h4 : 40000 < (joinB ws).length := by simp only [decide_eq_true_eq] at h4; omega
      rw [if_pos h4] at hq
      subst hq
      refine gO ?_
      exact AE.retD [2, 1, 0, 10] rfl ⟨rfl, rfl, trivial⟩ (by simp only [go_sem, Nat.reduceAdd, Nat.reduceLeDiff, Nat.reduceSub, Int.reduceToNat, reduceCtorEq, dropOk, noMen, AV.mens, AV.men, mens_valsT, Bool.or_false]; first | done | rfl) ⟨rfl, rfl⟩
    · have h4 : ¬ 40000 < (joinB ws).length := by simp only [decide_eq_false_iff_not] at h4; omega
      rw [if_neg h4] at hq
      subst hq
      refine gO ?_
      exact AE.retD [2, 1, 0, 10] rfl ⟨rfl, rfl, trivial⟩ (by simp only [go_sem, Nat.reduceAdd, Nat.reduceLeDiff, Nat.reduceSub, Int.reduceToNat, reduceCtorEq, dropOk, noMen, AV.mens, AV.men, mens_valsT, Bool.or_false]; first | done | rfl) ⟨rfl, rfl⟩
end Go.Proofs.YteacpafhmgdbkaaGreatDoor
end

section
namespace Go.Proofs.YteacpafhmgdbkaaGreatDoor
open Go Go.AL Go.RowKit
set_option maxRecDepth 10000
set_option maxHeartbeats 4000000
def exP : Fm := .mk 1 [112] [] []
def exD : Dv := .mk 3 0 [] (.mk [] 0 []) exP [.mk 1 0 [] (.mk [] 0 []) (.mk 0 [] [] []) []]
theorem ex_check : ckC [] [] exD = .ok (conn 4 [exP, exP]) := by kernel_rfl
theorem ex_text : txF (conn 4 [exP, exP]) = ([36, 62, 32, 112, 32, 112], 0) := by kernel_rfl
theorem exD_S : dvS exD := by
  simp only [exD, exP, dvS, dvsS, tmS, tmsS, fmS, fmsS]
  simp
theorem check_ex : PFn Tryz.prog 13 [.im (.sl 4 (fmR [])), .im (.sl 4 (fmR [])), dvV exD] (rsV (.ok (conn 4 [exP, exP]))) := by
  have h := (check_walk [] [] exD exD_S fmsS_nil fmsS_nil (by simp) (by simp) (fun _ => by decide)).toA fun _ _ h => h
  rw [ex_check] at h
  exact h.mono fun r H' ⟨a, b⟩ => ⟨b, a⟩
theorem text_ex : PFn Tryz.prog 33 [fmV (conn 4 [exP, exP])] (.tup [Sv [36, 62, 32, 112, 32, 112], Iv 0]) := by
  have h := text_spec (conn 4 [exP, exP]) (by simp only [exP, fmS, fmsS, tmsS]; simp)
  rw [ex_text] at h
  exact h
abbrev exV : AV := .agg [Iv 4, Sv [], .im (.sl 3 []), .im (.sl 4 [[Ii 1, Si [112], .sl 3 [], .sl 4 []], [Ii 1, Si [112], .sl 3 [], .sl 4 []]])]
theorem awake_spec : PFn Tryz.prog 12 [] (Bv true) := by
  have hc0 : PFn Tryz.prog 13 [.im (.sl 4 []), .im (.sl 4 []), .agg [Iv 3, Iv 0, Sv [], Sv [], Iv 0, .im (.sl 3 []), Iv 1, Sv [112], .im (.sl 3 []), .im (.sl 4 []), .im (.sl 11 [[Ii 1, Ii 0, Si [], Si [], Ii 0, .sl 3 [], Ii 0, Si [], .sl 3 [], .sl 4 [], .sl 11 []]])]] (.tup [exV, .im (.sl 1 []), Iv 0]) := check_ex
  have hc := hc0.argLe (xs := [nilV, nilV, .agg [Iv 3, Iv 0, Sv [], Sv [], Iv 0, nilV, Iv 1, Sv [112], nilV, nilV, .im (.sl 11 [[Ii 1, Ii 0, Si [], Si [], Ii 0, .v (.slice none 0 0), Ii 0, Si [], .v (.slice none 0 0), .v (.slice none 0 0), .v (.slice none 0 0)]])]]) (by repeat' (first | with_reducible exact AVle.refl _ | with_reducible exact IVle.refl _ | exact IVle.nil _ | with_reducible exact cellsLe.refl _ | with_reducible exact rowLe.refl _ | with_reducible exact rowsLe.refl _ | refine cellsLe.cons2 ?_ ?_ | refine AVle.agg ?_ | refine AVle.im ?_ | refine IVle.sl ?_ | refine rowsLe.cons ?_ ?_ | refine rowLe.cons ?_ ?_))
  have ht : PFn Tryz.prog 33 [exV] (.tup [Sv [36, 62, 32, 112, 32, 112], Iv 0]) := text_ex
  refine ACall.walk [0, 1, 2, 4, 5, 6] [1, 2] Tryz.func12 rfl Tryz.ntmps12 (by kernel_rfl) (by rfl) rfl fun W own I0 φ0 lay => ?_
  refine gO ?_
  refine AQ.fn (by kernel_rfl) rfl rfl rfl (hc) rfl ?_
  refine gO ?_
  refine AQ.fn (by kernel_rfl) rfl rfl rfl (ht) rfl ?_
  refine gO ?_
  exact AE.retD [1, 0] rfl ⟨rfl, trivial⟩ rfl ⟨rfl, rfl⟩
end Go.Proofs.YteacpafhmgdbkaaGreatDoor
end

section
namespace Go.Proofs.YteacpafhmgdbkaaGreatDoor
open Go Go.AL Go.RowKit
set_option maxRecDepth 100000
theorem typed_slice2 {P : Program} {n : Nat} {t e : TypeId} {xs : List IV} (ht : P.underlying t = some (.slice e)) (h : Typed P n t xs) : ∃ rows m, n = m + 1 ∧ xs = [.sl (P.cellsOf e) rows] ∧ rows.length ≤ maxLen ∧ ∀ r ∈ rows, Typed P m e r := by
  cases n with
  | zero => exact h.elim
  | succ n =>
    simp only [Typed, ht] at h
    obtain ⟨rows, h1, h2, h3⟩ := h
    exact ⟨rows, n, rfl, h1, h2, h3⟩
theorem typed_struct2 {P : Program} {n : Nat} {t : TypeId} {fs : Array Field} {xs : List IV} (ht : P.underlying t = some (.struct fs)) (h : Typed P n t xs) :
    ∃ m, n = m + 1 ∧ xs.length = P.cellsOf t ∧ ∀ (i : Nat) (f : Field), fs.toList[i]? = some f → Typed P m f.type ((xs.drop f.offset).take (P.cellsOf f.type)) := by
  cases n with
  | zero => exact h.elim
  | succ n =>
    simp only [Typed, ht] at h
    exact ⟨n, rfl, h⟩
theorem str_of {n : Nat} {xs : List IV} (h : Typed Tryz.prog n 9 xs) : ∃ l : List UInt8, xs = [Si l] ∧ l.length ≤ 9223372036854775807 := by
  obtain ⟨s, rfl, hs⟩ := typed_str Tryz.underlying9 h
  refine ⟨s.data.toList, congrArg (fun x => [IV.v (Value.string x)]) (BA_of s), ?_⟩
  have e : s.size = s.data.size := rfl
  have e2 : s.data.toList.length = s.data.size := Array.length_toList
  unfold maxLen at hs
  omega
theorem tmsS_of : ∀ {l : List Tm}, (∀ t ∈ l, tmS t) → tmsS l
  | [], _ => by rw [tmsS]; trivial
  | t :: l, h => by rw [tmsS]; exact ⟨h t (List.mem_cons_self ..), tmsS_of fun u hu => h u (List.mem_cons_of_mem _ hu)⟩
theorem fmsS_of : ∀ {l : List Fm}, (∀ t ∈ l, fmS t) → fmsS l
  | [], _ => by rw [fmsS]; trivial
  | t :: l, h => by rw [fmsS]; exact ⟨h t (List.mem_cons_self ..), fmsS_of fun u hu => h u (List.mem_cons_of_mem _ hu)⟩
theorem tm_of : ∀ (n : Nat) {xs : List IV}, Typed Tryz.prog n 25 xs → ∃ t : Tm, xs = tmC t ∧ tmS t := by
  intro n
  induction n using Nat.strongRecOn with
  | _ n ih =>
  intro xs h
  have hc : Tryz.prog.cellsOf 25 = 3 := by kernel_rfl
  have hc9 : Tryz.prog.cellsOf 9 = 1 := by kernel_rfl
  have hc3 : Tryz.prog.cellsOf 3 = 1 := by kernel_rfl
  have hc23 : Tryz.prog.cellsOf 23 = 1 := by kernel_rfl
  obtain ⟨m, rfl, hlen, hf⟩ := typed_struct2 Tryz.underlying25 h
  rw [hc] at hlen
  match xs, hlen with
  | [a, b, c], _ =>
    have f0 := hf 0 _ rfl
    have f1 := hf 1 _ rfl
    have f2 := hf 2 _ rfl
    simp only [hc9, hc3, hc23, List.drop_zero, List.take_succ_cons, List.take_zero, List.drop_succ_cons] at f0 f1 f2
    obtain ⟨nm, e0, l0⟩ := str_of f0
    obtain ⟨ix, e1, _⟩ := typed_int Tryz.underlying3 f1
    obtain ⟨rows, m', rfl, e2, hl, hrow⟩ := typed_slice2 Tryz.underlying23 f2
    obtain ⟨l, rfl, hp⟩ := rows_of (p := tmS) (f := tmC) rows fun r hr => ih m' (by omega) (hrow r hr)
    cases e0; cases e1; cases e2
    rw [List.length_map] at hl
    unfold maxLen at hl
    exact ⟨.mk nm ix l, by rw [tmC, tmR_map, hc], by rw [tmS]; exact ⟨l0, by omega, tmsS_of hp⟩⟩
theorem tms_of (n : Nat) {xs : List IV} (h : Typed Tryz.prog n 23 xs) : ∃ l : List Tm, xs = [.sl 3 (tmR l)] ∧ l.length ≤ 9223372036854775807 ∧ tmsS l := by
  have hc : Tryz.prog.cellsOf 25 = 3 := by kernel_rfl
  obtain ⟨rows, m', rfl, rfl, hl, hrow⟩ := typed_slice2 Tryz.underlying23 h
  obtain ⟨l, rfl, hp⟩ := rows_of (p := tmS) (f := tmC) rows fun r hr => tm_of m' (hrow r hr)
  rw [List.length_map] at hl
  unfold maxLen at hl
  exact ⟨l, by rw [tmR_map, hc], by omega, tmsS_of hp⟩
theorem fm_of : ∀ (n : Nat) {xs : List IV}, Typed Tryz.prog n 27 xs → ∃ t : Fm, xs = fmC t ∧ fmS t := by
  intro n
  induction n using Nat.strongRecOn with
  | _ n ih =>
  intro xs h
  have hc : Tryz.prog.cellsOf 27 = 4 := by kernel_rfl
  have hc9 : Tryz.prog.cellsOf 9 = 1 := by kernel_rfl
  have hc3 : Tryz.prog.cellsOf 3 = 1 := by kernel_rfl
  have hc23 : Tryz.prog.cellsOf 23 = 1 := by kernel_rfl
  have hc22 : Tryz.prog.cellsOf 22 = 1 := by kernel_rfl
  obtain ⟨m, rfl, hlen, hf⟩ := typed_struct2 Tryz.underlying27 h
  rw [hc] at hlen
  match xs, hlen with
  | [a, b, c, d], _ =>
    have f0 := hf 0 _ rfl
    have f1 := hf 1 _ rfl
    have f2 := hf 2 _ rfl
    have f3 := hf 3 _ rfl
    simp only [hc9, hc3, hc23, hc22, List.drop_zero, List.take_succ_cons, List.take_zero, List.drop_succ_cons] at f0 f1 f2 f3
    obtain ⟨k, e0, _⟩ := typed_int Tryz.underlying3 f0
    obtain ⟨nm, e1, l1⟩ := str_of f1
    obtain ⟨ts, e2, l2, p2⟩ := tms_of m f2
    obtain ⟨rows, m', rfl, e3, hl, hrow⟩ := typed_slice2 Tryz.underlying22 f3
    obtain ⟨l, rfl, hp⟩ := rows_of (p := fmS) (f := fmC) rows fun r hr => ih m' (by omega) (hrow r hr)
    cases e0; cases e1; cases e2; cases e3
    rw [List.length_map] at hl
    unfold maxLen at hl
    exact ⟨.mk k nm ts l, by rw [fmC, fmR_map, hc], by rw [fmS]; exact ⟨l1, l2, p2, by omega, fmsS_of hp⟩⟩
end Go.Proofs.YteacpafhmgdbkaaGreatDoor
end

section
namespace Go.Proofs.YteacpafhmgdbkaaGreatDoor
open Go Go.AL Go.RowKit
set_option maxRecDepth 100000
theorem gPow : Tryz.prog.globalNamed "internal/strconv.uint64pow10" = some 3 := by kernel_rfl
theorem gSyn : Tryz.prog.globalNamed "strconv.ErrSyntax" = none := by kernel_rfl
theorem gRng : Tryz.prog.globalNamed "strconv.ErrRange" = none := by kernel_rfl
theorem gPowT : (Tryz.prog.globals[3]?).map (·.type) = some 310 := by kernel_rfl
theorem var_cells {P : Program} {W : World} {n : String} {g : Nat} {cs : Array Value} (hg : P.globalNamed n = some g) (h : W.var? P n = some cs) : g < W.heap.size ∧ ∃ T fz, W.heap[g]? = some (.cells cs T fz) := by
  unfold World.var? at h
  rw [hg, Option.bind_some] at h
  split at h
  · rename_i cs' T fz hh
    cases h
    refine ⟨?_, T, fz, hh⟩
    rcases Nat.lt_or_ge g W.heap.size with h' | h'
    · exact h'
    · rw [Array.getElem?_eq_none h'] at hh; cases hh
  · cases h
def litCells (d : DataW Unit) : Array Value := match d with
  | .agg l => (l.map fun x => match x with
    | .lit (.int k z) => Value.int k z
    | _ => .nilIface).toArray
  | _ => #[]
def putCells (cs : Array Value) : Obj → Obj
  | .cells _ t frozen => .cells cs t frozen
  | o => o
end Go.Proofs.YteacpafhmgdbkaaGreatDoor
end

section
namespace Go.Proofs.YteacpafhmgdbkaaGreatDoor
open Go Go.AL Go.RowKit
set_option maxRecDepth 10000
set_option maxHeartbeats 4000000
set_option maxHeartbeats 4000000 in
set_option maxRecDepth 100000 in
theorem clone217 (s : ByteArray) (w : World) (hlim : s.size ≤ 281474976710656) :
    Calls Tryz.prog 217 #[.string s] w fun e w' => e = .returned (.string s) ∧ Below w.heap.size w w' := by
  have i5 : (Tryz.prog.info? 5).map (fun i => (i.zero, i.size, i.bytes)) = some (some (Value.int IntKind.u8 0), 1, 1) := by kernel_rfl
  by_cases h0 : s.size = 0
  · have hs : s = ⟨#[]⟩ := by
      apply ByteArray.ext
      exact Array.eq_empty_of_size_eq_zero h0
    subst hs
    go_enter Tryz.func217, Tryz.ntmps217
    go_wp2
    go_ret
    exact ⟨rfl, Below.refl _ _⟩
  · obtain ⟨i0, hi, hz0, hz1, hz2⟩ := info_parts i5
    have hinfo : (Tryz.prog.info? 5).map (·.size) = some 1 := by rw [hi]; simp [hz1]
    have hco : Tryz.prog.cellsOf 5 = 1 := by simp [Program.cellsOf, hi, hz1]
    -- 'make([]byte, len(s))', for the walk to take; what it lays under a name
    obtain ⟨M, hM⟩ : ∃ M, M = madeCells (Value.int .u8 0).cells (((s.size : Nat) : Int).toNat * i0.size) := ⟨_, rfl⟩
    have hMs : M.size = s.size := by rw [hM, size_madeCells, hz1]; simp
    have hmk : ∀ W : World, (Instr.makeSlice 178 (.int .i64 (s.size : Int)) (.int .i64 (s.size : Int))).run Tryz.prog W = .ok (.slice (some ⟨W.heap.size, 0, none⟩) s.size s.size) (W.alloc (.cells M 5)) := fun W => by
      have h := run_make (P := Tryz.prog) W 178 5 i0 (.int .u8 0) Tryz.underlying178 hi hz0 .i64 .i64 (s.size : Int) (s.size : Int) (by omega) (by omega) (by rw [hz2]; omega) (by omega)
      rw [← hM] at h
      simpa using h
    clear hM
    -- 'copy(b, s)'
    have hcp := Lib.run_copy_row_string (P := Tryz.prog) (w.alloc (.cells M 5)) 178 9 3 5 w.heap.size 0 s.size s.size s M 5 Tryz.underlying178 hinfo (heap_alloc_new w _) (Nat.le_refl _) (by omega)
    obtain ⟨Y, hY⟩ : ∃ Y, Y = (M.toList.take 0 ++ Lib.byteCells s.data.toList ++ M.toList.drop (0 + s.size)).toArray := ⟨_, rfl⟩
    rw [← hY] at hcp
    have hYl : Y.toList = Lib.byteCells s.data.toList := by
      rw [hY, List.toList_toArray, List.take_zero, List.nil_append, List.drop_of_length_le (by rw [Array.length_toList]; omega), List.append_nil]
    have hYs : Y.size = s.size := by rw [← Array.length_toList, hYl, Lib.byteCells_length, ← Lib.size_eq]
    have hgY : ((w.alloc (.cells M 5)).setRow w.heap.size Y).heap[w.heap.size]? = some (.cells Y 5 (0, 0)) := setRow_heap _ _ M _ 5 (0, 0) (heap_alloc_new w _)
    -- 'unsafe.String(&b[0], len(b))'
    have hne : s.data.toList ≠ [] := fun e => h0 (by rw [Lib.size_eq, e]; rfl)
    have hUS := Lib.run_unsafeString_row (P := Tryz.prog) ((w.alloc (.cells M 5)).setRow w.heap.size Y) 250 3 9 5 Tryz.underlying250 hco w.heap.size Y.size (by unfold World.shape?; rw [hgY]) s.data.toList hne (by rw [← Lib.size_eq]; omega) (by rw [← Lib.size_eq]; omega)
      (fun j x hx => Lib.cells_of_row hgY Y.size j _ (by rw [List.take_of_length_le (by rw [Array.length_toList]; exact Nat.le_refl _), hYl]; simp [Lib.byteCells, hx]))
    rw [← Lib.size_eq] at hUS
    clear hY
    go_enter Tryz.func217, Tryz.ntmps217
    go_wp2
    go_ret
    have hb1 : Below w.heap.size w (w.alloc (.cells M 5)) := (Below.refl _ w).alloc (Nat.le_refl _) _
    have hb2 : Below w.heap.size (w.alloc (.cells M 5)) ((w.alloc (.cells M 5)).setRow w.heap.size Y) := ⟨rfl, rfl, rfl, by simp, fun k hk => setRow_other _ _ _ _ (by omega)⟩
    exact ⟨rfl, Lib.below_freeze (hb1.trans hb2) (p := ⟨w.heap.size, 0, none⟩) (Nat.le_refl _) _⟩
theorem clone217_spec (s : ByteArray) (h : s.size ≤ 1000000000000) : PFn Tryz.prog 217 [.im (.v (.string s))] (.im (.v (.string s))) := by
  refine PFn.of_below (by rfl) rfl fun w φ I vs hd _ => ?_
  simp only [AV.dens, AV.den, IV.den] at hd
  obtain ⟨u, us, rfl, ⟨rfl, _⟩, rfl⟩ := hd
  refine (clone217 s w (by omega)).mono fun e w' ⟨he, hb⟩ => ⟨_, he, ?_, hb⟩
  simp only [AV.den, IV.den]
  exact ⟨trivial, rfl⟩
theorem sclone_spec (s : ByteArray) (h : s.size ≤ 1000000000000) : PFn Tryz.prog 159 [.im (.v (.string s))] (.im (.v (.string s))) := by
  refine ACall.walk [0, 2] [] Tryz.func159 rfl Tryz.ntmps159 (by kernel_rfl) (by rfl) rfl fun W own I0 φ0 lay => ?_
  refine gO ?_
  refine AQ.fn (by kernel_rfl) rfl rfl rfl (clone217_spec s h) rfl ?_
  refine gO ?_
  exact AE.ret rfl ⟨rfl, trivial⟩ ⟨rfl, rfl⟩
abbrev Tok := List UInt8 × Nat
def push (b : UInt8) (o : Nat) : List UInt8 → List Tok → List Tok
  | [], _ => [([b], o)]
  | c :: _, r => if sp c then ([b], o) :: r else match r with
    | (x, _) :: r => (b :: x, o) :: r
    | [] => []
def toks : List UInt8 → Nat → List Tok
  | [], _ => []
  | b :: l, o => if sp b then toks l (o + 1) else push b o l (toks l (o + 1))
theorem toks_sp {b : UInt8} {l : List UInt8} {o : Nat} (h : sp b = true) : toks (b :: l) o = toks l (o + 1) := by simp only [toks, h, if_true]
theorem toks_last {b : UInt8} {o : Nat} (h : sp b = false) : toks [b] o = [([b], o)] := by simp [toks, h, push]
theorem toks_end {b c : UInt8} {l : List UInt8} {o : Nat} (h : sp b = false) (h' : sp c = true) : toks (b :: c :: l) o = ([b], o) :: toks (c :: l) (o + 1) := by
  rw [toks, h]; simp [h', push]
theorem toks_more {b c : UInt8} {l : List UInt8} {o : Nat} (h : sp b = false) (h' : sp c = false) {x : List UInt8} {o' : Nat} {r : List Tok} (e : toks (c :: l) (o + 1) = (x, o') :: r) : toks (b :: c :: l) o = (b :: x, o) :: r := by
  rw [toks, h, e]; simp [h', push]
theorem toks_word : ∀ (x : List UInt8) (l : List UInt8) (o : Nat), x ≠ [] → (∀ b ∈ x, sp b = false) → (∀ c l', l = c :: l' → sp c = true) → toks (x ++ l) o = (x, o) :: toks l (o + x.length)
  | [], _, _, h, _, _ => absurd rfl h
  | [b], [], o, _, hx, _ => by rw [List.append_nil, toks_last (hx b (by simp))]; rfl
  | [b], c :: l, o, _, hx, hl => by exact toks_end (hx b (by simp)) (hl c l rfl)
  | b :: c :: x, l, o, _, hx, hl => by
    have := toks_word (c :: x) l (o + 1) (by simp) (fun d hd => hx d (List.mem_cons_of_mem _ hd)) hl
    rw [List.cons_append] at this
    rw [List.cons_append, List.cons_append, toks_more (hx b (by simp)) (hx c (by simp)) this]
    rw [show o + 1 + (c :: x).length = o + (b :: c :: x).length by simp; omega]
def okT (t : List UInt8) : Bool := t.all fun b => !(cls b.toNat == 0)
def badAt (t : List UInt8) : Nat := t.findIdx fun b => cls b.toNat == 0
def tokRow (k : Tok) : List IV := [Si k.1, Ii k.2]
def tokRows (l : List Tok) : List (List IV) := l.map tokRow
theorem tokRows_len (l : List Tok) : (tokRows l).length = l.length := by simp [tokRows]
attribute [go_sem] tokRows_len
def scanOf (t : List UInt8) : AV := if okT t then .tup [.im (.sl 2 (tokRows (toks t 0))), Iv 0, Iv 0] else .tup [.im (.sl 2 []), Iv (badAt t), Iv 30]
theorem drop_cons (t : List UInt8) (i : Nat) (h : i < t.length) : t.drop i = t.getD i 0 :: t.drop (i + 1) := by
  rw [List.drop_eq_getElem_cons h, List.getD_eq_getElem?_getD, List.getElem?_eq_getElem h]; rfl
theorem bad_at (t : List UInt8) (k : Nat) (hk : k < t.length) (h : ((t.take k).all fun b => !(cls b.toNat == 0)) = true) (h' : (cls (t.getD k 0).toNat == 0) = true) : badAt t = k := by
  unfold badAt
  rw [List.findIdx_eq hk]
  rw [List.getD_eq_getElem?_getD, List.getElem?_eq_getElem hk] at h'
  refine ⟨h', fun j hj => ?_⟩
  rw [List.all_eq_true] at h
  have := h t[j] (by rw [List.mem_take_iff_getElem]; exact ⟨j, by omega, rfl⟩)
  simpa using this
theorem toks_ne : ∀ (l : List UInt8) (c : UInt8) (o : Nat), sp c = false → ∃ y r, toks (c :: l) o = y :: r
  | [], c, o, h => ⟨_, _, toks_last h⟩
  | d :: l, c, o, h => by
    cases hd : sp d with
    | true => exact ⟨_, _, toks_end h hd⟩
    | false =>
      obtain ⟨⟨x, i⟩, r, e⟩ := toks_ne l d (o + 1) hd
      exact ⟨_, _, toks_more h hd e⟩
theorem toks_room {t : List UInt8} {k : Nat} {out : List Tok} (hk : k < t.length) (hs : sp (t.getD k 0) = false) (htk : toks t 0 = out ++ toks (t.drop k) k) (h : (toks t 0).length ≤ 8000) : ((out.length : Int) == 8000) = false := by
  obtain ⟨y, r, e⟩ := toks_ne (t.drop (k + 1)) (t.getD k 0) k hs
  rw [htk, drop_cons t k hk, e, List.length_append, List.length_cons] at h
  simp; omega
theorem word_step (t : List UInt8) (k e : Nat) (hke : k ≤ e) (he : e < t.length) (h : ∀ b ∈ (t.drop k).take (e - k), sp b = false) (h' : sp (t.getD e 0) = false) : ∀ b ∈ (t.drop k).take (e + 1 - k), sp b = false := by
  intro b hb
  rw [show e + 1 - k = e - k + 1 by omega, List.take_add_one] at hb
  rcases List.mem_append.1 hb with hb | hb
  · exact h b hb
  · rw [List.getElem?_drop, show k + (e - k) = e by omega, List.getElem?_eq_getElem he] at hb
    rw [List.getD_eq_getElem?_getD, List.getElem?_eq_getElem he] at h'
    simp at hb
    rw [hb]; exact h'
theorem scan_spec (t : List UInt8) (ht : t.length ≤ 40000) (htl : (toks t 0).length ≤ 8000) : PFn Tryz.prog 87 [Sv t] (scanOf t) := by
  refine ACall.walk [0, 2, 3, 4, 5, 6, 7, 8, 9, 12, 15, 16, 17, 24, 38, 41, 46, 63] [5] Tryz.func87 rfl Tryz.ntmps87 (by kernel_rfl) (by rfl) rfl fun W own I0 φ0 lay => ?_
  refine gO ?_
  have h1 : ¬ ((40000 : Int) < t.length) := by omega
  refine AP.cond_false rfl (by rw [← decide_eq_false h1]; rfl) ?_
  refine gO ?_
  refine AQ.fn (by kernel_rfl) rfl rfl rfl classes_spec rfl ?_
  refine gO ?_
  refine AP.loop rfl (α := Nat) (fun k => [(0, Sv t), (5, .ob 0 0), (15, Iv t.length), (16, Iv k)]) (fun k => [(0, .vec 227 1 tabRows)]) (fun k => k ≤ t.length ∧ ((t.take k).all fun b => !(cls b.toNat == 0)) = true) (fun k => t.length - k) 0 (by simp) (Sub.cons rfl (Sub.cons rfl (Sub.cons rfl (Sub.cons rfl (Sub.nil _))))) (by simp) fun k hk => ?_
  obtain ⟨hk, hx⟩ := hk
  have hw := wr (x := (k : Int) + 1) (by omega)
  refine gE @hw ?_
  refine AP.cond rfl rfl (fun hc => ?_) (fun hc => ?_)
  · have hk' : k < t.length := by simp at hc; omega
    have hb := (t.getD k 0).toNat_lt
    refine gE @hw ?_
    refine AP.cond rfl rfl (fun h2 => ?_) (fun h2 => ?_)
    · refine gE @hw ?_
      refine AE.nilsl 2 2 rfl ?_
      refine AE.ret0 rfl ⟨rfl, rfl, rfl, trivial⟩ rfl ⟨rfl, ?_⟩
      have : okT t = false := all_no t _ k hk' (by rw [h2]; rfl)
      rw [scanOf, this, bad_at t k hk' hx h2]; rfl
    · refine gE @hw ?_
      exact AE.round (k + 1) ⟨by omega, all_step t _ k hk' hx (by rw [h2]; rfl)⟩ (by omega) (Sub.cons rfl (Sub.cons rfl (Sub.cons rfl (Sub.cons rfl (Sub.nil _))))) rfl
  · have hk' : k = t.length := by simp at hc; omega
    rw [hk', List.take_length] at hx
    refine gE @hw ?_
    refine AP.own 7 161 2 rfl ?_
    refine AP.loop rfl (α := Nat × List Tok) (fun p => [(0, Sv t), (5, .ob 0 0), (7, .os 1 2 0 p.2.length), (8, Iv p.1)]) (fun p => [(1, .vec 161 2 (tokRows p.2)), (0, .vec 227 1 tabRows)]) (fun p => p.1 ≤ t.length ∧ p.2.length ≤ p.1 ∧ toks t 0 = p.2 ++ toks (t.drop p.1) p.1) (fun p => t.length - p.1) (0, []) (by simp) (Sub.cons rfl (Sub.cons rfl (Sub.cons rfl (Sub.cons rfl (Sub.nil _))))) (by rfl) fun p hp => ?_
    obtain ⟨a0, out⟩ := p
    obtain ⟨ha0, hout, htk⟩ := hp
    simp only at ha0 hout htk
    refine gO ?_
    refine AP.loop rfl (α := Nat) (fun k => [(0, Sv t), (5, .ob 0 0), (7, .os 1 2 0 out.length), (8, Iv k)]) (fun _ => [(1, .vec 161 2 (tokRows out)), (0, .vec 227 1 tabRows)]) (fun k => a0 ≤ k ∧ k ≤ t.length ∧ toks t 0 = out ++ toks (t.drop k) k) (fun k => t.length - k) a0 ⟨by omega, ha0, htk⟩ (Sub.cons rfl (Sub.cons rfl (Sub.cons rfl (Sub.cons rfl (Sub.nil _))))) (by rfl) fun k hk => ?_
    obtain ⟨hak, hk, htk⟩ := hk
    have hw := wr (x := (k : Int) + 1) (by omega)
    have hb := (t.getD k 0).toNat_lt
    refine gE @hw ?_
    refine AP.cond rfl rfl (fun hc => ?_) (fun hc => ?_)
    · simp only [Bool.and_eq_true, decide_eq_true_eq] at hc
      have hk' : k < t.length := by omega
      refine gE @hw ?_
      refine AE.round (k + 1) ⟨by omega, by omega, ?_⟩ (by omega) (Sub.cons rfl (Sub.cons rfl (Sub.cons rfl (Sub.cons rfl (Sub.nil _))))) rfl
      rw [htk, drop_cons t k hk', toks_sp hc.2]
    · refine gE @hw ?_
      refine AP.cond rfl rfl (fun h2 => ?_) (fun h2 => ?_)
      · have hk' : k = t.length := by simp at h2; omega
        refine gO ?_
        refine sI ?_
        refine AE.freeze 1 (el := 161) (es := 2) (rows := tokRows out) rfl (by simp [go_sem, tokRows_len]) (by simp [go_sem, tokRows_len]) ?_
        refine AE.ret0 rfl ⟨rfl, rfl, rfl, trivial⟩ rfl ⟨rfl, ?_⟩
        have e1 : okT t = true := hx
        have e2 : toks t 0 = out := by rw [htk, hk', List.drop_length, toks, List.append_nil]
        rw [scanOf, e1, if_pos rfl, e2]
        have e3 : ((tokRows out).drop 0).take out.length = tokRows out := by rw [List.drop_zero, ← tokRows_len out, List.take_length]
        show AV.tup [.im (.sl 2 (((tokRows out).drop 0).take out.length)), Iv 0, Iv 0] = _
        rw [e3]
      · have hk' : k < t.length := by simp at h2; omega
        have hsp : sp (t.getD k 0) = false := by
          simp only [Bool.and_eq_false_iff, decide_eq_false_iff_not] at hc
          rcases hc with hc | hc
          · omega
          · exact hc
        refine gO ?_
        refine AP.cond_false rfl (by rw [← toks_room hk' hsp htk htl]; rfl) ?_
        refine gO ?_
        refine AP.loop rfl (α := Nat) (fun e => [(0, Sv t), (5, .ob 0 0), (7, .os 1 2 0 out.length), (8, Iv k), (9, Iv e)]) (fun _ => [(1, .vec 161 2 (tokRows out)), (0, .vec 227 1 tabRows)]) (fun e => k ≤ e ∧ e ≤ t.length ∧ ∀ b ∈ (t.drop k).take (e - k), sp b = false) (fun e => t.length - e) k ⟨by omega, hk, by simp⟩ (Sub.cons rfl (Sub.cons rfl (Sub.cons rfl (Sub.cons rfl (Sub.cons rfl (Sub.nil _)))))) (by rfl) fun e he => ?_
        obtain ⟨hke, he, hwd⟩ := he
        have hw2 := wr (x := (e : Int) + 1) (by omega)
        have hb2 := (t.getD e 0).toNat_lt
        refine gE @hw2 ?_
        refine AP.cond rfl rfl (fun h3 => ?_) (fun h3 => ?_)
        · simp only [Bool.and_eq_true, decide_eq_true_eq] at h3
          have he' : e < t.length := by omega
          refine gE @hw2 ?_
          refine AE.round (e + 1) ⟨by omega, by omega, ?_⟩ (by omega) (Sub.cons rfl (Sub.cons rfl (Sub.cons rfl (Sub.cons rfl (Sub.cons rfl (Sub.nil _)))))) rfl
          exact word_step t k e hke he' hwd (by simpa [sp] using h3.2)
        · refine gE @hw2 ?_
          refine AQ.fn (by kernel_rfl) rfl rfl rfl (sclone_spec _ (by rw [BA_size, List.length_take, List.length_drop]; omega)) rfl ?_
          refine gE @hw2 ?_
          have hlt : k < e := by
            rcases Nat.lt_or_ge k e with h | h
            · exact h
            · have : e = k := by omega
              subst this
              simp only [Bool.and_eq_false_iff, decide_eq_false_iff_not, bne_eq_false_iff_eq] at h3
              rcases h3 with h3 | h3
              · omega
              · have : sp (t.getD e 0) = true := by unfold sp; rw [h3]; rfl
                rw [this] at hsp; cases hsp
          refine AQ.append (hnb := rfl) (rows := tokRows out) (xs := tokRows [((t.drop k).take (e - k), k)]) (es := 1) (by kernel_rfl) rfl rfl rfl rfl Tryz.tk147 Tryz.sz161 (by rw [Tryz.zr161]; rfl) Tryz.by161 (tokRows_len out).symm (by simp only [tokRows_len, List.length_cons, List.length_nil]; omega) (by simp only [tokRows_len, List.length_cons, List.length_nil]; omega) ?_
          refine gO ?_
          refine AE.round (e, out ++ [((t.drop k).take (e - k), k)]) ⟨he, ?_, ?_⟩ (by simp only; omega) (Sub.cons rfl (Sub.cons rfl (Sub.cons ?_ (Sub.cons rfl (Sub.nil _))))) ?_
          · simp only [List.length_append, List.length_cons, List.length_nil]; omega
          · have hd : t.drop k = (t.drop k).take (e - k) ++ t.drop e := by
              conv => lhs; rw [← List.take_append_drop (e - k) (t.drop k)]
              rw [List.drop_drop, show k + (e - k) = e by omega]
            have hl : ((t.drop k).take (e - k)).length = e - k := by rw [List.length_take, List.length_drop]; omega
            rw [htk, List.append_assoc]
            congr 1
            conv => lhs; rw [hd]
            rw [toks_word _ _ _ (fun h => by rw [h] at hl; simp at hl; omega) hwd (fun c l' hcl => ?_), hl, show k + (e - k) = e by omega]
            · rfl
            · have he' : e < t.length := by
                rcases Nat.lt_or_ge e t.length with h | h
                · exact h
                · rw [List.drop_of_length_le h] at hcl; cases hcl
              rw [drop_cons t e he'] at hcl
              injection hcl with hcl _
              subst hcl
              simp only [Bool.and_eq_false_iff, decide_eq_false_iff_not, bne_eq_false_iff_eq] at h3
              rcases h3 with h3 | h3
              · omega
              · unfold sp; rw [h3]; rfl
          · simp only [List.length_append, List.length_cons, List.length_nil]; rfl
          · simp only [tokRows, List.map_append]
def scanT (t : List UInt8) : List Tok := if 40000 < t.length then [] else if okT t then toks t 0 else []
def scanA (t : List UInt8) : Int := if 40000 < t.length then 0 else if okT t then 0 else badAt t
def scanE (t : List UInt8) : Int := if 40000 < t.length then 4 else if okT t then 0 else 30
theorem scanOf_eq (t : List UInt8) (h : t.length ≤ 40000) : scanOf t = .tup [.im (.sl 2 (tokRows (scanT t))), Iv (scanA t), Iv (scanE t)] := by
  have : ¬ 40000 < t.length := by omega
  unfold scanOf scanT scanA scanE
  cases okT t <;> simp [this] <;> rfl
theorem scan1 (t : List UInt8) (ht : t.length ≤ 40000) (htl : (toks t 0).length ≤ 8000) : PFn Tryz.prog 87 [Sv t] (.tup [.im (.sl 2 (tokRows (scanT t))), Iv (scanA t), Iv (scanE t)]) := by
  rw [← scanOf_eq t ht]; exact scan_spec t ht htl
end Go.Proofs.YteacpafhmgdbkaaGreatDoor
end

section
namespace Go.Proofs.YteacpafhmgdbkaaGreatDoor
open Go Go.AL Go.RowKit
set_option maxRecDepth 10000
set_option maxHeartbeats 4000000
/-- what a parser gives: the place where it failed, or a value and the place behind it -/
inductive PR (α : Type) where
  | bad (i : Nat)
  | ok (x : α) (i : Nat)
def tkS (L : List Tok) (i : Nat) : Nm := (L.getD i ([], 0)).1
def bkN (ns : List Nm) (s : Nm) : Nat → Option Nat
  | 0 => none
  | k + 1 => if ns.getD k [] = s then some k else bkN ns s k
def mkT (ns : List Nm) (s : Nm) (l : List Tm) : Tm :=
  if l = [] then (match bkN ns s ns.length with
    | some k => .mk [] (ns.length - 1 - k : Nat) []
    | none => .mk s 0 [])
  else .mk s 0 l
mutual
def pT (L : List Tok) (ns : List Nm) : Nat → Nat → PR Tm
  | 0, i => .bad i
  | f + 1, i => if isNm (tkS L i) = false then .bad i else
    if tkS L (i + 1) = [36, 40] then (match pTs L ns f true (i + 2) with
      | .bad j => .bad j
      | .ok l j => .ok (mkT ns (tkS L i) l) j)
    else .ok (mkT ns (tkS L i) []) (i + 1)
def pTs (L : List Tok) (ns : List Nm) : Nat → Bool → Nat → PR (List Tm)
  | 0, _, i => .bad i
  | f + 1, b, i => if b = false ∧ tkS L i = [36, 41] then .ok [] (i + 1) else
    match pT L ns f i with
    | .bad j => .bad j
    | .ok t j => match pTs L ns f false j with
      | .bad k => .bad k
      | .ok l k => .ok (t :: l) k
end
def pL (L : List Tok) (ns : List Nm) (f i : Nat) : PR (List Tm) :=
  if tkS L i = [36, 40] then pTs L ns f true (i + 1) else .ok [] i
theorem pT_succ (L : List Tok) (ns : List Nm) (f i : Nat) : pT L ns (f + 1) i = if isNm (tkS L i) = false then .bad i else
    match pL L ns f (i + 1) with
    | .bad j => .bad j
    | .ok l j => .ok (mkT ns (tkS L i) l) j := by
  rw [pT, pL]
  split
  · rfl
  · split <;> rfl
def sgK (s : Nm) : Int := if s = [36, 61] then 2 else if s = [36, 70] then 3 else if s = [36, 62] then 4 else if s = [36, 38] then 5 else if s = [36, 124] then 6 else if s = [36, 65] then 7 else if s = [36, 69] then 8 else 1
def pF (L : List Tok) : Nat → List Nm → Nat → PR Fm
  | 0, _, i => .bad i
  | f + 1, ns, i =>
    if sgK (tkS L i) = 1 then (if isNm (tkS L i) = false then .bad i else match pL L ns f (i + 1) with
      | .bad j => .bad j
      | .ok l j => .ok (.mk 1 (tkS L i) l []) j)
    else if sgK (tkS L i) = 2 then (match pT L ns f (i + 1) with
      | .bad j => .bad j
      | .ok a j => match pT L ns f j with
        | .bad k => .bad k
        | .ok b k => .ok (.mk 2 [] [a, b] []) k)
    else if sgK (tkS L i) = 3 then .ok (.mk 3 [] [] []) (i + 1)
    else if sgK (tkS L i) = 7 ∨ sgK (tkS L i) = 8 then (if isNm (tkS L (i + 1)) = false then .bad (i + 1) else
      match pF L f (ns ++ [tkS L (i + 1)]) (i + 2) with
      | .bad j => .bad j
      | .ok p j => .ok (.mk (sgK (tkS L i)) [] [] [p]) j)
    else (match pF L f ns (i + 1) with
      | .bad j => .bad j
      | .ok a j => match pF L f ns j with
        | .bad k => .bad k
        | .ok b k => .ok (.mk (sgK (tkS L i)) [] [] [a, b]) k)
def paF (t : List UInt8) : Fm × Int × Int :=
  if scanE t ≠ 0 then (fm0, scanA t, scanE t) else
    match pF (scanT t) (2 * (scanT t).length + 1) [] 0 with
    | .bad j => (fm0, if j < (scanT t).length then ((scanT t).getD j ([], 0)).2 else t.length, 2)
    | .ok f j => if j < (scanT t).length then (fm0, ((scanT t).getD j ([], 0)).2, 2) else
      if unF f 0 = 0 then (f, 0, 0) else (fm0, 0, unF f 0)
def PR.gt {α : Type} (n i : Nat) : PR α → Prop
  | .bad j => i ≤ j ∧ j ≤ n
  | .ok _ j => i < j ∧ j ≤ n
theorem tkS_out {L : List Tok} {i : Nat} (h : L.length ≤ i) : tkS L i = [] := by
  rw [tkS, List.getD_eq_getElem?_getD, List.getElem?_eq_none h]; rfl
theorem tkS_in {L : List Tok} {i : Nat} (h : tkS L i ≠ []) : i < L.length := by
  rcases Nat.lt_or_ge i L.length with h1 | h1
  · exact h1
  · exact absurd (tkS_out h1) h
theorem isNm_in {L : List Tok} {i : Nat} (h : ¬ isNm (tkS L i) = false) : i < L.length := tkS_in fun e => h (by rw [e]; rfl)
theorem pTs_gt' (L : List Tok) (ns : List Nm) : ∀ f, (∀ i, i ≤ L.length → (pT L ns f i).gt L.length i) ∧ (∀ b i, i ≤ L.length → (pTs L ns f b i).gt L.length i)
  | 0 => ⟨fun i hi => by rw [pT]; exact ⟨Nat.le_refl _, hi⟩, fun b i hi => by rw [pTs]; exact ⟨Nat.le_refl _, hi⟩⟩
  | f + 1 => by
    obtain ⟨h1, h2⟩ := pTs_gt' L ns f
    refine ⟨fun i hi => ?_, fun b i hi => ?_⟩
    · rw [pT]
      split
      · exact ⟨Nat.le_refl _, hi⟩
      · rename_i hn
        have hlt := isNm_in hn
        split
        · rename_i ho
          have hlt2 : i + 1 < L.length := tkS_in (by rw [ho]; simp)
          have := h2 true (i + 2) (by omega)
          revert this
          cases pTs L ns f true (i + 2) with
          | bad j => intro h; exact ⟨by have := h.1; omega, h.2⟩
          | ok l j => intro h; exact ⟨by have := h.1; omega, h.2⟩
        · exact ⟨by omega, by omega⟩
    · rw [pTs]
      split
      · rename_i hc
        have hlt : i < L.length := tkS_in (by rw [hc.2]; simp)
        exact ⟨by omega, by omega⟩
      · have := h1 i hi
        revert this
        cases pT L ns f i with
        | bad j => intro h; exact h
        | ok t j =>
          intro h
          have h3 := h2 false j h.2
          simp only
          revert h3
          cases pTs L ns f false j with
          | bad k => intro h3; exact ⟨by have := h.1; have := h3.1; omega, h3.2⟩
          | ok l k => intro h3; exact ⟨by have := h.1; have := h3.1; omega, h3.2⟩
theorem pT_gt {L : List Tok} {ns : List Nm} {f i : Nat} (h : i ≤ L.length) : (pT L ns f i).gt L.length i := (pTs_gt' L ns f).1 i h
theorem pTs_gt {L : List Tok} {ns : List Nm} {f i : Nat} {b : Bool} (h : i ≤ L.length) : (pTs L ns f b i).gt L.length i := (pTs_gt' L ns f).2 b i h
def PR.ge {α : Type} (n i : Nat) : PR α → Prop
  | .bad j => i ≤ j ∧ j ≤ n
  | .ok _ j => i ≤ j ∧ j ≤ n
theorem pL_ge {L : List Tok} {ns : List Nm} {f i : Nat} (h : i ≤ L.length) : (pL L ns f i).ge L.length i := by
  rw [pL]
  split
  · rename_i ho
    have hlt : i < L.length := tkS_in (by rw [ho]; simp)
    have := pTs_gt (ns := ns) (f := f) (b := true) (show i + 1 ≤ L.length by omega)
    revert this
    cases pTs L ns f true (i + 1) with
    | bad j => intro h; exact ⟨by have := h.1; omega, h.2⟩
    | ok l j => intro h; exact ⟨by have := h.1; omega, h.2⟩
  · exact ⟨Nat.le_refl _, h⟩
theorem sgK_in {L : List Tok} {i : Nat} (h : ¬ sgK (tkS L i) = 1) : i < L.length := tkS_in fun e => h (by rw [e]; rfl)
theorem pF_gt {L : List Tok} : ∀ {f : Nat} {ns : List Nm} {i : Nat}, i ≤ L.length → (pF L f ns i).gt L.length i
  | 0, ns, i, hi => by rw [pF]; exact ⟨Nat.le_refl _, hi⟩
  | f + 1, ns, i, hi => by
    rw [pF]
    split
    · split
      · exact ⟨Nat.le_refl _, hi⟩
      · rename_i hn
        have hlt := isNm_in hn
        have := pL_ge (ns := ns) (f := f) (show i + 1 ≤ L.length by omega)
        revert this
        cases pL L ns f (i + 1) with
        | bad j => intro h; exact ⟨by have := h.1; omega, h.2⟩
        | ok l j => intro h; exact ⟨by have := h.1; omega, h.2⟩
    · rename_i hk
      have hlt := sgK_in hk
      split
      · have := pT_gt (ns := ns) (f := f) (show i + 1 ≤ L.length by omega)
        revert this
        cases pT L ns f (i + 1) with
        | bad j => intro h; exact ⟨by have := h.1; omega, h.2⟩
        | ok a j =>
          intro h
          have h3 := pT_gt (ns := ns) (f := f) h.2
          simp only
          revert h3
          cases pT L ns f j with
          | bad k => intro h3; exact ⟨by have := h.1; have := h3.1; omega, h3.2⟩
          | ok b k => intro h3; exact ⟨by have := h.1; have := h3.1; omega, h3.2⟩
      · split
        · exact ⟨by omega, by omega⟩
        · split
          · split
            · exact ⟨by omega, by omega⟩
            · rename_i hn
              have hlt2 := isNm_in hn
              have := pF_gt (f := f) (ns := ns ++ [tkS L (i + 1)]) (show i + 2 ≤ L.length by omega)
              revert this
              cases pF L f (ns ++ [tkS L (i + 1)]) (i + 2) with
              | bad j => intro h; exact ⟨by have := h.1; omega, h.2⟩
              | ok p j => intro h; exact ⟨by have := h.1; omega, h.2⟩
          · have := pF_gt (f := f) (ns := ns) (show i + 1 ≤ L.length by omega)
            revert this
            cases pF L f ns (i + 1) with
            | bad j => intro h; exact ⟨by have := h.1; omega, h.2⟩
            | ok a j =>
              intro h
              have h3 := pF_gt (f := f) (ns := ns) h.2
              simp only
              revert h3
              cases pF L f ns j with
              | bad k => intro h3; exact ⟨by have := h.1; have := h3.1; omega, h3.2⟩
              | ok b k => intro h3; exact ⟨by have := h.1; have := h3.1; omega, h3.2⟩
end Go.Proofs.YteacpafhmgdbkaaGreatDoor
end

section
namespace Go.Proofs.YteacpafhmgdbkaaGreatDoor
open Go Go.AL Go.RowKit
set_option maxRecDepth 10000
set_option maxHeartbeats 4000000
abbrev rdH (b : Nat) (L : List Tok) (e : Int) (i : Nat) (ns : List Nm) : Heap := [(0, .var 155 [.im (.sl 2 (tokRows L)), Iv e, Iv i, .os b 1 0 ns.length]), (b, .vec 9 1 (stR ns))]
abbrev misV (a : Int) : AV := .wr (.iface 151) (.agg [Iv a])
abbrev rdT : Heap := [(0, .var 155 [.top, .top, .top, .top])]
theorem le_tops (a b c d : AV) : cellsLe [a, b, c, d] [.top, .top, .top, .top] := fun w φ I us h => by
  simp only [AV.dens, AV.den] at h ⊢
  obtain ⟨u1, us1, rfl, _, u2, us2, rfl, _, u3, us3, rfl, _, u4, us4, rfl, _, rfl⟩ := h
  exact ⟨_, _, rfl, trivial, _, _, rfl, trivial, _, _, rfl, trivial, _, _, rfl, trivial, rfl⟩
def offA (L : List Tok) (e : Int) (i : Nat) : Int := if i < L.length then ((L.getD i ([], 0)).2 : Int) else e
def tkOk (L : List Tok) : Prop := L.length ≤ 100000 ∧ ∀ x ∈ L, x.1.length ≤ 100000
theorem tkOk.get {L : List Tok} (h : tkOk L) (i : Nat) : (tkS L i).length ≤ 100000 := by
  unfold tkS
  rw [List.getD_eq_getElem?_getD]
  cases hx : L[i]? with
  | none => simp
  | some x => exact h.2 x (List.mem_of_getElem? hx)
theorem tokRows_get (l : List Tok) (k : Nat) (h : k < l.length) : (tokRows l).getD k [] = [Si (l.getD k ([], 0)).1, Ii (l.getD k ([], 0)).2] := by
  simp [tokRows, tokRow, List.getD_eq_getElem?_getD, h]
theorem peek_spec (L : List Tok) (e : Int) (i : Nat) (ns : List Nm) (hi : i ≤ 1000000) (hL : tkOk L) : ACall Tryz.prog 160 [.ob 0 0] (rdH 1 L e i ns) (fun r H' => r = Sv (tkS L i) ∧ H' = rdH 1 L e i ns) := by
  have hl := hL.1
  refine ACall.walk [0, 2, 12] [] Tryz.func160 rfl Tryz.ntmps160 (by kernel_rfl) (by rfl) rfl fun W own I0 φ0 lay => ?_
  refine gO ?_
  refine AP.cond rfl rfl (fun h => ?_) (fun h => ?_)
  · have h : i < L.length := by simp only [tokRows_len, decide_eq_true_eq] at h; omega
    have hrow := tokRows_get L i h
    refine gE @hrow ?_
    exact AE.ret rfl ⟨rfl, trivial⟩ ⟨rfl, rfl⟩
  · have h : L.length ≤ i := by simp only [tokRows_len, decide_eq_false_iff_not] at h; omega
    refine gO ?_
    exact AE.ret rfl ⟨rfl, trivial⟩ ⟨by rw [tkS_out h]; rfl, rfl⟩
theorem rfail_spec (L : List Tok) (e : Int) (i : Nat) (ns : List Nm) (hi : i ≤ 1000000) (hL : tkOk L) : ACallX Tryz.prog 90 [.ob 0 0] (rdH 1 L e i ns) (fun _ _ => False) (fun r H' => r = misV (offA L e i) ∧ H' = rdT) := by
  have hl := hL.1
  refine ACallX.walk [0, 11] [] Tryz.func90 rfl Tryz.ntmps90 (by kernel_rfl) (by rfl) rfl fun W own I0 φ0 lay => ?_
  refine gO ?_
  refine AP.cond rfl rfl (fun h => ?_) (fun h => ?_)
  · have h : i < L.length := by simp only [tokRows_len, decide_eq_true_eq] at h; omega
    have hrow := tokRows_get L i h
    refine AP.drawE 14 (Tree.node [] [0, 1, 2, 3, 4, 5, 6, 7, 8, 9, 10, 11] [12] [Tree.node [] [] [13] [Tree.node [] [] [] []]]) (by kernel_rfl) rfl (by kernel_rfl) (by kernel_rfl) ?_
    refine vd_node ?_
    refine sE @hrow ?_
    refine ⟨by omega, ?_⟩
    refine xI ?_; refine sI ?_
    refine AQ.nx rfl ?_
    refine sI ?_
    refine AQ.cellsW 0 _ rfl (le_tops _ _ _ _) ?_
    refine sI ?_
    refine AQ.panic rfl ?_
    exact AEX.outR [1] rfl rfl rfl ⟨by rw [offA, if_pos h], rfl⟩
  · have h : L.length ≤ i := by simp only [tokRows_len, decide_eq_false_iff_not] at h; omega
    refine gO ?_
    refine xI ?_; refine sI ?_
    refine gO ?_
    refine AQ.cellsW 0 _ rfl (le_tops _ _ _ _) ?_
    refine sI ?_
    refine AQ.panic rfl ?_
    exact AEX.out [1] rfl rfl ⟨by rw [offA, if_neg (by omega)], rfl⟩
theorem name_spec (L : List Tok) (e : Int) (i : Nat) (ns : List Nm) (hi : i ≤ 1000000) (hL : tkOk L) : ACallX Tryz.prog 161 [.ob 0 0] (rdH 1 L e i ns) (fun r H' => isNm (tkS L i) = true ∧ r = Sv (tkS L i) ∧ H' = rdH 1 L e (i + 1) ns) (fun r H' => isNm (tkS L i) = false ∧ r = misV (offA L e i) ∧ H' = rdT) := by
  have hp := peek_spec L e i ns hi hL
  have hf := rfail_spec L e i ns hi hL
  have hs := hL.get i
  have hw := wr (x := (i : Int) + 1) (by omega)
  obtain ⟨s, he⟩ : ∃ s, tkS L i = s := ⟨_, rfl⟩
  rw [he] at hp hs ⊢
  refine ACallX.walk [0, 2, 3, 8] [] Tryz.func161 rfl Tryz.ntmps161 (by kernel_rfl) (by rfl) rfl fun W own I0 φ0 lay => ?_
  refine gO ?_
  refine AQ.callH [(0, 0), (1, 1)] (by kernel_rfl) rfl rfl rfl rfl rfl rfl (by exact ⟨rfl, rfl, trivial⟩) rfl hp ?_
  rintro r H' ⟨rfl, rfl⟩
  refine ⟨rfl, ?_⟩
  refine sH ?_
  refine gO ?_
  refine AQ.fn (by kernel_rfl) rfl rfl rfl (isName_spec s (by omega)) rfl ?_
  refine gO ?_
  refine AP.cond rfl rfl (fun h => ?_) (fun h => ?_)
  · have h : isNm s = false := by simpa using h
    refine gO ?_
    refine AQ.callHX [(0, 0), (1, 1)] (by kernel_rfl) rfl rfl rfl rfl rfl rfl (by exact ⟨rfl, rfl, trivial⟩) rfl hf ?_ ?_
    · rintro r H' ⟨rfl, rfl⟩
      refine ⟨rfl, ?_⟩; refine sH ?_
      exact AEX.out [] rfl rfl ⟨h, rfl, rfl⟩
    · rintro r H' hc
      exact hc.elim
  · have h : isNm s = true := by simpa using h
    refine gE @hw ?_
    exact AE.ret rfl ⟨rfl, trivial⟩ ⟨h, rfl, rfl⟩
end Go.Proofs.YteacpafhmgdbkaaGreatDoor
end

section
namespace Go.Proofs.YteacpafhmgdbkaaGreatDoor
open Go Go.AL Go.RowKit
set_option maxRecDepth 10000
set_option maxHeartbeats 4000000
end Go.Proofs.YteacpafhmgdbkaaGreatDoor
end

section
namespace Go.Proofs.YteacpafhmgdbkaaGreatDoor
open Go Go.AL Go.RowKit
set_option maxRecDepth 10000
set_option maxHeartbeats 4000000
theorem backward_spec (L : List Tok) (e : Int) (i : Nat) (ns : List Nm) (s : Nm) : ACall Tryz.prog 218 [.os 1 1 0 ns.length] ([(4, .var 9 [Sv s]), (3, .var 25 [Sv [], Iv 0, nilV]), (2, .var 153 [.ob 0 0])] ++ rdH 1 L e i ns) (fun r H' => r = .fn 248 [] [.ob 5 0] ∧ H' = [(5, .var 67 [.os 1 1 0 ns.length]), (4, .var 9 [Sv s]), (3, .var 25 [Sv [], Iv 0, nilV]), (2, .var 153 [.ob 0 0])] ++ rdH 1 L e i ns) := by
  refine ACall.walk [0, 1, 2] [1] Tryz.func218 rfl Tryz.ntmps218 (by kernel_rfl) (by rfl) rfl fun W own I0 φ0 lay => ?_
  refine gO ?_
  exact AE.ret rfl ⟨rfl, trivial⟩ ⟨rfl, rfl⟩
theorem paramT_spec (s : Nm) : PFn Tryz.prog 219 [Sv s] (.agg [Sv s, Iv 0, nilV]) := by
  refine ACall.walk [0, 2] [2] Tryz.func219 rfl Tryz.ntmps219 (by kernel_rfl) (by rfl) rfl fun W own I0 φ0 lay => ?_
  refine gO ?_
  exact AE.retD [0] rfl ⟨⟨rfl, Nat.le_of_ble_eq_true (by kernel_rfl)⟩, trivial⟩ rfl ⟨rfl, rfl⟩
abbrev bkEL : Env := [(1, .ob 2 0), (2, .ob 3 0), (3, .ob 4 0)]
noncomputable abbrev bkH (q : Nat) (st : LpSt) (cell : List AV) (L : List Tok) (e : Int) (i : Nat) (ns : List Nm) (s : Nm) : Heap :=
  [(6, .lp q 37 st Tryz.f163 [0, 1, 0, 1, 1, 1] [21, 22] bkEL), (5, .var 67 [.os 1 1 0 ns.length]), (4, .var 9 [Sv s]), (3, .var 25 cell), (2, .var 153 [.ob 0 0])] ++ rdH 1 L e i ns
theorem bk_round (q : Nat) (L : List Tok) (e : Int) (i : Nat) (ns : List Nm) (s : Nm) (k : Nat) (hk : k < ns.length) (hn : ns.length ≤ 1000000) :
    (¬ ns.getD k [] = s → YCallN Tryz.prog 6 q [Iv k, Sv (ns.getD k [])] (bkH q .ready [Sv [], Iv 0, nilV] L e i ns s) (fun r H' => r = Bv true ∧ H' = bkH q .ready [Sv [], Iv 0, nilV] L e i ns s)) ∧
    (ns.getD k [] = s → YCallN Tryz.prog 6 q [Iv k, Sv (ns.getD k [])] (bkH q .ready [Sv [], Iv 0, nilV] L e i ns s) (fun r H' => r = Bv false ∧ H' = bkH q (.done .ret) [Sv [], Iv (ns.length - 1 - k : Nat), nilV] L e i ns s)) := by
  have w1 := wr (x := (ns.length : Int) - 1) (by omega)
  have w2 := wr (x := (ns.length : Int) - 1 - k) (by omega)
  refine ⟨fun h => ?_, fun h => ?_⟩
  · have hb : (ns.getD k [] == s) = false := by simpa using h
    generalize ns.getD k [] = w at *
    refine YCallN.walk (b := 6) [0, 1, 2, 3, 4, 5, 6, 12, 20, 21, 22, 25] [] rfl rfl rfl fun w0 own I0 φ0 lay => ?_
    simp only [go_sem, Nat.reduceAdd, Nat.reduceLeDiff, Nat.reduceSub, Int.reduceToNat, reduceCtorEq, zipP, bkEL, bkH, rdH]
    refine gO ?_
    refine AE.begin (b := 6) rfl rfl _ ?_
    refine sI ?_
    refine gE @hb ?_
    exact AE.roundEnd (b := 6) rfl ⟨rfl, rfl⟩
  · have hb : (ns.getD k [] == s) = true := by simpa using h
    generalize ns.getD k [] = w at *
    refine YCallN.walk (b := 6) [0, 1, 2, 3, 4, 5, 6, 12, 20, 21, 22, 25] [] rfl rfl rfl fun w0 own I0 φ0 lay => ?_
    simp only [go_sem, Nat.reduceAdd, Nat.reduceLeDiff, Nat.reduceSub, Int.reduceToNat, reduceCtorEq, zipP, bkEL, bkH, rdH]
    refine gO ?_
    refine AE.begin (b := 6) rfl rfl _ ?_
    refine sI ?_
    refine gE (an @hb (an @w1 @w2)) ?_
    rw [show (ns.length : Int) - 1 - (k : Int) = ((ns.length - 1 - k : Nat) : Int) by omega]
    exact AE.roundRet (b := 6) rfl ⟨rfl, rfl⟩
def bkR (q : Nat) (L : List Tok) (e : Int) (i : Nat) (ns : List Nm) (s : Nm) (_ : AV) (H' : Heap) : Prop :=
  (bkN ns s ns.length = none ∧ H' = bkH q .ready [Sv [], Iv 0, nilV] L e i ns s) ∨ ∃ k, bkN ns s ns.length = some k ∧ H' = bkH q (.done .ret) [Sv [], Iv (ns.length - 1 - k : Nat), nilV] L e i ns s
theorem bk_walk (q : Nat) (L : List Tok) (e : Int) (i : Nat) (ns : List Nm) (s : Nm) (hn : ns.length ≤ 1000000) : ACallN Tryz.prog 6 248 [Yl q, .ob 5 0] (bkH q .ready [Sv [], Iv 0, nilV] L e i ns s) (bkR q L e i ns s) := by
  have w1 := wr (x := (ns.length : Int) - 1) (by omega)
  refine ACallN.walk [0, 1, 3, 8, 18] [] Tryz.func248 rfl Tryz.ntmps248 (by kernel_rfl) (by rfl) fun W own I0 φ0 lay => ?_
  refine gE @w1 ?_
  refine AP.loop rfl (α := Nat) (fun k => [(0, Yl q), (1, .ob 5 0), (3, Iv ((k : Int) - 1))]) (fun _ => bkH q .ready [Sv [], Iv 0, nilV] L e i ns s) (fun k => k ≤ ns.length ∧ bkN ns s ns.length = bkN ns s k) (fun k => k) ns.length ⟨Nat.le_refl _, rfl⟩ (sU) rfl fun k ⟨hk, hm⟩ => ?_
  cases k with
  | zero =>
    refine gO ?_
    exact AE.fall rfl trivial (.inl ⟨hm, rfl⟩)
  | succ k =>
    have hy := bk_round q L e i ns s k (by omega) hn
    have hrow := stR_get ns k (by omega)
    have ek : (((k + 1 : Nat) : Int) - 1) = (k : Int) := by omega
    have w3 := wr (x := (k : Int) - 1) (by omega)
    rw [bkN] at hm
    simp only [ek]
    refine gE (an @hrow @stR_len) ?_
    by_cases hs : ns.getD k [] = s
    · rw [if_pos hs] at hm
      refine AQ.yieldN 6 (by kernel_rfl) (by kernel_rfl) rfl ⟨rfl, rfl⟩ rfl rfl (hy.2 hs) (fun r H' h => by rw [h.2]; exact lowSame.of _ _ _ rfl) fun r H' h => ?_
      obtain ⟨rfl, rfl⟩ := h
      refine sI ?_
      refine AQ.go (by kernel_rfl) ?_
      refine sI ?_
      refine gO ?_
      exact AE.ret rfl trivial (.inr ⟨k, hm, rfl⟩)
    · rw [if_neg hs] at hm
      refine AQ.yieldN 6 (by kernel_rfl) (by kernel_rfl) rfl ⟨rfl, rfl⟩ rfl rfl (hy.1 hs) (fun r H' h => by rw [h.2]; exact lowSame.of _ _ _ rfl) fun r H' h => ?_
      obtain ⟨rfl, rfl⟩ := h
      refine sI ?_
      refine AQ.go (by kernel_rfl) ?_
      refine sI ?_
      refine gE @w3 ?_
      exact AE.round k ⟨by omega, hm⟩ (by omega) (sU) rfl
end Go.Proofs.YteacpafhmgdbkaaGreatDoor
end

section
namespace Go.Proofs.YteacpafhmgdbkaaGreatDoor
open Go Go.AL Go.RowKit
set_option maxRecDepth 10000
set_option maxHeartbeats 4000000
/-- what a reading comes to -/
def RdR {α : Type} (V : α → AV) (q : PR α) (L : List Tok) (e : Int) (ns : List Nm) (b : Nat) (r : AV) (H' : Heap) : Prop := ∃ x j, q = .ok x j ∧ r = V x ∧ H' = rdH b L e j ns
def RdX {α : Type} (q : PR α) (L : List Tok) (e : Int) (r : AV) (H' : Heap) : Prop := ∃ j, q = .bad j ∧ r = misV (offA L e j) ∧ H' = rdT
def prep (a : List Tm) : PR (List Tm) → PR (List Tm)
  | .bad j => .bad j
  | .ok l j => .ok (a ++ l) j
theorem prep_prep (a b : List Tm) (q : PR (List Tm)) : prep (a ++ b) q = prep a (prep b q) := by cases q <;> simp [prep]
def lsV (l : List Tm) : AV := if l = [] then nilV else .im (.sl 3 (tmR l))
theorem list_walk (L : List Tok) (e : Int) (ns : List Nm) (hL : tkOk L) (hn : ns.length ≤ 1000000) (f i : Nat) (hi : i ≤ L.length) (hf : 2 * (L.length - i) ≤ f)
    (ih : ∀ f' i', f' < f → i ≤ i' → i' ≤ L.length → 2 * (L.length - i') + 1 ≤ f' → ACallX Tryz.prog 163 [.ob 0 0] (rdH 1 L e i' ns) (RdR tmV (pT L ns f' i') L e ns 1) (RdX (pT L ns f' i') L e)) :
    ACallX Tryz.prog 162 [.ob 0 0] (rdH 1 L e i ns) (RdR lsV (pL L ns f i) L e ns 1) (RdX (pL L ns f i) L e) := by
  have hl := hL.1
  have hp := peek_spec L e i ns (by omega) hL
  have hs := hL.get i
  refine ACallX.walk [0, 2, 3, 6, 21] [] Tryz.func162 rfl Tryz.ntmps162 (by kernel_rfl) (by rfl) rfl fun W own I0 φ0 lay => ?_
  refine gO ?_
  refine AQ.callH [(0, 0), (1, 1)] (by kernel_rfl) rfl rfl rfl rfl rfl rfl (by exact ⟨rfl, rfl, trivial⟩) rfl hp ?_
  rintro r H' ⟨rfl, rfl⟩
  refine ⟨rfl, ?_⟩
  refine sH ?_
  refine gO ?_
  refine AP.cond rfl rfl (fun h => ?_) (fun h => ?_)
  · have h : ¬ tkS L i = [36, 40] := by simpa using h
    refine gO ?_
    exact AE.ret rfl ⟨rfl, trivial⟩ ⟨[], i, by rw [pL, if_neg h], rfl, rfl⟩
  · have h : tkS L i = [36, 40] := by simpa using h
    have hlt : i < L.length := tkS_in (by rw [h]; simp)
    have hw := wr (x := (i : Int) + 1) (by omega)
    have hpl : pL L ns f i = pTs L ns f true (i + 1) := by rw [pL, if_pos h]
    rw [hpl]
    obtain ⟨Q, hQ⟩ : ∃ Q, pTs L ns f true (i + 1) = Q := ⟨_, rfl⟩
    rw [hQ]
    refine gE @hw ?_
    refine AP.own 3 25 3 rfl ?_
    refine AP.loop rfl (α := Nat × List Tm × Nat) (fun s => [(0, .ob 0 0), (3, .os 2 3 0 s.2.1.length)]) (fun s => (2, .vec 25 3 (tmR s.2.1)) :: rdH 1 L e s.1 ns) (fun s => i + 1 ≤ s.1 ∧ s.1 ≤ L.length ∧ s.2.1.length ≤ s.1 ∧ 2 * (L.length - s.1) + 2 ≤ s.2.2 ∧ s.2.2 ≤ f ∧ Q = prep s.2.1 (pTs L ns s.2.2 (decide (s.2.1.length = 0)) s.1)) (fun s => L.length + 1 - s.1) (i + 1, [], f) ⟨by simp, by simp only; omega, by simp, by simp only; omega, by simp, by show Q = prep [] (pTs L ns f true (i + 1)); rw [hQ]; cases Q <;> rfl⟩ (sU) rfl fun s ⟨s1, s2, s3, s4, s5, s6⟩ => ?_
    obtain ⟨i', a, f'⟩ := s
    simp only at s1 s2 s3 s4 s5 s6 ⊢
    obtain ⟨f', rfl⟩ : ∃ g, f' = g + 1 := ⟨f' - 1, by omega⟩
    have hp2 := peek_spec L e i' ns (by omega) hL
    have hs2 := hL.get i'
    have hw2 := wr (x := (i' : Int) + 1) (by omega)
    have ih2 := ih f' i' (by omega) (by omega) s2 (by omega)
    have hgt := pT_gt (L := L) (ns := ns) (f := f') s2
    rw [pTs] at s6
    refine xA ?_
    refine AP.cut (α := Unit) (fun _ => [(0, .ob 0 0), (3, .os 2 3 0 a.length), (21, Bv (!(decide (a.length = 0)) && tkS L i' == [36, 41]))]) (fun _ => (2, .vec 25 3 (tmR a)) :: rdH 1 L e i' ns) (fun _ => True) ?_ fun _ _ => ?_
    · rcases Nat.eq_zero_or_pos a.length with ha | ha
      · refine gE @ha ?_
        exact AE.meet () trivial (sU) rfl
      · have hd : decide (0 < (a.length : Int)) = true := by simp; omega
        have hd2 : decide (a.length = 0) = false := decide_eq_false (by omega)
        refine gE @hd ?_
        refine AQ.guard_yes (by simp only [go_sem]) ?_
        refine AQ.strip ?_
        refine sI ?_
        refine AQ.callH [(0, 0), (1, 1)] (by kernel_rfl) rfl rfl rfl rfl rfl rfl (by exact ⟨rfl, rfl, trivial⟩) rfl hp2 ?_
        rintro r H' ⟨rfl, rfl⟩
        refine ⟨rfl, ?_⟩
        refine sH ?_
        refine gE @hd ?_
        rw [hd2]
        exact AE.meet () trivial (sU) rfl
    · refine gO ?_
      refine AP.cond rfl rfl (fun h2 => ?_) (fun h2 => ?_)
      · have h2 : ¬ a.length = 0 ∧ tkS L i' = [36, 41] := by simpa using h2
        have hlt2 : i' < L.length := tkS_in (by rw [h2.2]; simp)
        rw [if_pos ⟨decide_eq_false h2.1, h2.2⟩] at s6
        refine gE @hw2 ?_
        refine AE.freeze 2 (el := 25) (es := 3) (rows := tmR a) rfl (by simp only [go_sem, Nat.reduceAdd, Nat.reduceLeDiff, Nat.reduceSub, Int.reduceToNat, reduceCtorEq, tmR_len]; first | done | trivial | omega | (simp; done) | (simp; omega)) (by simp only [go_sem, Nat.reduceAdd, Nat.reduceLeDiff, Nat.reduceSub, Int.reduceToNat, reduceCtorEq, tmR_len]; first | done | trivial | omega | (simp; done) | (simp; omega)) ?_; simp only [go_sem, Nat.reduceAdd, Nat.reduceLeDiff, Nat.reduceSub, Int.reduceToNat, reduceCtorEq, tmR_len]
        rw [List.take_of_length_le (by rw [tmR_len]; exact Nat.le_refl _)]
        exact AE.ret rfl ⟨rfl, trivial⟩ ⟨a, i' + 1, by rw [s6]; simp [prep], by rw [lsV, if_neg (fun e => h2.1 (by rw [e]; rfl))]; rfl, rfl⟩
      · have h2 : ¬ (decide (a.length = 0) = false ∧ tkS L i' = [36, 41]) := fun hc => by
          rw [hc.1, hc.2] at h2; revert h2; decide
        rw [if_neg h2] at s6
        refine gO ?_
        refine AQ.callHX [(0, 0), (1, 1)] (by kernel_rfl) rfl rfl rfl rfl rfl rfl (by exact ⟨rfl, rfl, trivial⟩) rfl ih2 ?_ ?_
        · rintro r H' ⟨j, hj, rfl, rfl⟩
          rw [hj] at s6
          refine ⟨rfl, ?_⟩; refine sH ?_
          exact AEX.out [2] rfl rfl ⟨j, s6, rfl, rfl⟩
        · rintro r H' ⟨u, j, hj, rfl, rfl⟩
          rw [hj] at s6 hgt
          refine ⟨rfl, ?_⟩; refine sH ?_
          refine AQ.go (by kernel_rfl) ?_
          refine sI ?_
          refine gO ?_
          refine AQ.kill 3 ?_
          refine sI ?_
          refine AQ.append (hnb := rfl) (rows := tmR a) (es := 2) (by kernel_rfl) rfl rfl rfl (by rfl) Tryz.tk23 Tryz.sz25 (by show Option.map _ (zro Tryz.prog 25) = _; rw [Tryz.zr25]; rfl) Tryz.by25 (by first | rfl | (simp only [tmR_len, List.length_cons, List.length_nil]; done) | (simp only [tmR_len, List.length_cons, List.length_nil]; omega)) (by simp only [tmR_len, List.length_cons, List.length_nil]; omega) (by simp only [tmR_len, List.length_cons, List.length_nil]; omega) ?_
          refine sE @tmR_len ?_
          refine gO ?_
          have e1 : tmR a ++ [[IV.v (Value.string (BA u.nm)), IV.v (Value.int .i64 u.ix), IV.sl 3 (tmR u.xs)]] = tmR (a ++ [u]) := by rw [tmR_map a, tmR_map (a ++ [u]), List.map_append, List.map_cons, List.map_nil, tmC_eq]
          rw [e1]
          refine AE.round (j, a ++ [u], f') ⟨by have := hgt.1; simp only; omega, hgt.2, by have := hgt.1; simp; omega, by have := hgt.1; have := hgt.2; simp only; omega, by simp only; omega, ?_⟩ (by have := hgt.1; have := hgt.2; simp only; omega) (by simp only [List.length_append, List.length_singleton]; exact (sU)) rfl
          simp only at s6 ⊢
          rw [s6, prep_prep, decide_eq_false (by simp)]
          cases pTs L ns f' false j <;> rfl
end Go.Proofs.YteacpafhmgdbkaaGreatDoor
end

section
namespace Go.Proofs.YteacpafhmgdbkaaGreatDoor
open Go Go.AL Go.RowKit
set_option maxRecDepth 10000
set_option maxHeartbeats 4000000
end Go.Proofs.YteacpafhmgdbkaaGreatDoor
end
