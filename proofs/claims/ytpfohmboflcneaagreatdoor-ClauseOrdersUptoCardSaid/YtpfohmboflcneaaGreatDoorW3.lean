import Derived.Test.YtpfohmboflcneaaGreatDoorW2
import Derived.Test.YtpfohmboflcneaaGreatDoorCards
import Derived.Test.YtpfohmboflcneaaGreatDoorTie
import Derived.Stop.LaidErr
import Derived.Lib.LaidTab
set_option linter.unusedSimpArgs false
set_option linter.unusedVariables false
set_option linter.unnecessarySimpa false
section
namespace Go.Proofs.YtpfohmboflcneaaGreatDoor
open Go Go.AL Go.RowKit
set_option maxRecDepth 10000
set_option maxHeartbeats 4000000
def ltS (l : Lt) : Prop := l.pd.length ≤ 9223372036854775807 ∧ l.xs.length ≤ 9223372036854775807 ∧ tmsS l.xs
def clS (c : List Lt) : Prop := c.length ≤ 9223372036854775807 ∧ ∀ l ∈ c, ltS l
theorem clS_get {c : List Lt} {k : Nat} {l : Lt} (h : clS c) (hk : c[k]? = some l) : ltS l := h.2 l (List.mem_of_getElem? hk)
theorem size_specS (t : Tm) (m : Int) (hs : tmS t) (hm : 0 ≤ m ∧ m ≤ 1000000000) : PFn Tryz.prog 70 [tmV t, Iv m] (Iv (szT t m)) := by
  have hs0 := tmS_eq.1 hs
  refine ACall.walk [0, 1, 2, 4, 5, 7, 9, 10, 11, 12, 17] [7] Tryz.func70 rfl Tryz.ntmps70 (by kernel_rfl) (by rfl) rfl fun W own I0 φ0 lay => ?_
  refine gE @tmR_len ?_
  refine AP.loop rfl (α := Nat) (fun k => [(1, Iv m), (5, Iv (szTs (t.xs.take k) m 1)), (9, .im (.sl 3 (tmR t.xs))), (10, Iv t.xs.length), (11, Iv k)]) (fun _ => []) (fun k => k ≤ t.xs.length) (fun k => t.xs.length - k) 0 (by omega) (by rw [List.take_zero, szTs]; exact (sU)) rfl fun k hk => ?_
  have hx := hs0.2.1
  have hb := szTs_is (t.xs.take k) m 1 hm.1 (by omega) (by omega)
  rcases Nat.eq_or_lt_of_le hk with hke | hlt
  · subst hke
    rw [List.take_length] at hb ⊢
    refine gO ?_
    refine cF ?_
    refine gO ?_
    exact AE.ret0 rfl ⟨rfl, trivial⟩ rfl ⟨rfl, by rw [szT_eq]; rfl⟩
  · obtain ⟨u, hu, hrow⟩ := tmR_get t.xs k hlt
    have hw := wr (x := (k : Int) + 1) (by omega)
    have hsn := szTs_snoc hu m 1
    refine gO ?_
    refine cT ?_
    refine gE @hrow ?_
    refine ⟨by rw [tmR_len]; omega, ?_⟩
    refine gO ?_
    refine AP.cond rfl rfl (fun h1 => ?_) (fun h1 => ?_)
    · have h1 : m < szTs (t.xs.take k) m 1 := by simpa using h1
      refine gO ?_
      refine AE.retD [0] rfl ⟨rfl, trivial⟩ rfl ⟨rfl, by rw [szT_eq, szTs_rest k m 1 h1]; rfl⟩
    · have h1 : ¬ m < szTs (t.xs.take k) m 1 := by simpa using h1
      rw [if_neg h1] at hsn
      generalize hn : szTs (t.xs.take k) m 1 = n at *
      have ha := szT_is u (m - n) (by omega)
      have hw1 := wr (x := m - n) (by omega)
      have hw2 := wr (x := n + szT u (m - n)) (by omega)
      refine gE @hw1 ?_
      refine AQ.fn (by kernel_rfl) rfl rfl rfl (size_specS u (m - n) (tmsS_get hs0.2.2 hu) (by omega)) rfl ?_
      refine sI ?_
      refine gE (an @hw @hw2) ?_
      refine AE.forgets [0] rfl ?_
      refine sI ?_
      exact AE.round (k + 1) (by omega) (by omega) (by rw [hsn]; exact (sU)) rfl
termination_by SizeOf.sizeOf t
decreasing_by exact tm_mem hu
theorem nodes_specS (c : List Lt) (m : Int) (hs : clS c) (hm : 0 ≤ m ∧ m ≤ 1000000000) : PFn Tryz.prog 14 [clV c, Iv m] (Iv (ndN c m)) := by
  have hcl := hs.1
  refine ACall.walk [0, 1, 4, 5, 7, 9, 12, 13, 14, 15, 19, 20, 21, 22, 27] [7, 9] Tryz.func14 rfl Tryz.ntmps14 (by kernel_rfl) (by rfl) rfl fun W own I0 φ0 lay => ?_
  refine gE @ltR_len ?_
  refine AP.loop rfl (α := Nat) (fun k => [(1, Iv m), (5, Iv (szTs ((c.take k).flatMap (·.xs)) m c.length)), (12, clV c), (13, Iv c.length), (14, Iv k)]) (fun _ => []) (fun k => k ≤ c.length) (fun k => c.length - k) 0 (by omega) (by rw [List.take_zero, List.flatMap_nil, szTs]; exact (sU)) rfl fun k hk => ?_
  rcases Nat.eq_or_lt_of_le hk with hke | hlt
  · subst hke
    rw [List.take_length]
    refine gO ?_
    refine cF ?_
    refine gO ?_
    exact AE.ret0 rfl ⟨rfl, trivial⟩ rfl ⟨rfl, rfl⟩
  · obtain ⟨u, hu, hrow⟩ := ltR_get c k hlt
    have hw := wr (x := (k : Int) + 1) (by omega)
    have hul := clS_get hs hu
    have hul2 := hul.2.1
    have hb0 := szTs_bnd ((c.take k).flatMap (·.xs)) m c.length hm.1 (by omega)
    have hfs := flat_snoc hu
    have hfr := fun j => flat_rest (j := j) hu m c.length
    obtain ⟨n0, hn0⟩ : ∃ n0, szTs ((c.take k).flatMap (·.xs)) m c.length = n0 := ⟨_, rfl⟩
    rw [hn0] at hb0 hfr ⊢
    refine gO ?_
    refine cT ?_
    refine gE @hrow ?_
    refine ⟨by rw [ltR_len]; omega, ?_⟩
    refine gE @tmR_len ?_
    refine AP.loop rfl (α := Nat) (fun j => [(1, Iv m), (5, Iv (szTs (u.xs.take j) m n0)), (12, clV c), (13, Iv c.length), (14, Iv k), (19, .im (.sl 3 (tmR u.xs))), (20, Iv u.xs.length), (21, Iv j)]) (fun _ => [(0, .var 61 [Bv u.ng, Sv u.pd, .im (.sl 3 (tmR u.xs))])]) (fun j => j ≤ u.xs.length) (fun j => u.xs.length - j) 0 (by omega) (by rw [List.take_zero, szTs]; exact (sU)) rfl fun j hj => ?_
    have hb := szTs_bnd (u.xs.take j) m n0 hm.1 (by omega)
    rcases Nat.eq_or_lt_of_le hj with hje | hjlt
    · subst hje
      rw [List.take_length] at hb ⊢
      refine gO ?_
      refine cF ?_
      refine gE @hw ?_
      refine AE.forgets [0] rfl ?_
      refine sI ?_
      refine AE.round (k + 1) (by omega) (by omega) (by rw [hfs, szTs_append, hn0]; exact (sU)) rfl
    · obtain ⟨v, hv, hrow2⟩ := tmR_get u.xs j hjlt
      have hw2 := wr (x := (j : Int) + 1) (by omega)
      have hsn := szTs_snoc hv m n0
      refine gO ?_
      refine cT ?_
      refine gE @hrow2 ?_
      refine ⟨by rw [tmR_len]; omega, ?_⟩
      refine gO ?_
      refine AP.cond rfl rfl (fun h1 => ?_) (fun h1 => ?_)
      · have h1 : m < szTs (u.xs.take j) m n0 := by simpa using h1
        refine gO ?_
        refine AE.retD [1, 0] rfl ⟨rfl, trivial⟩ rfl ⟨rfl, by rw [ndN, hfr j h1]; rfl⟩
      · have h1 : ¬ m < szTs (u.xs.take j) m n0 := by simpa using h1
        rw [if_neg h1] at hsn
        clear hfr
        generalize hn : szTs (u.xs.take j) m n0 = n at *
        have ha := szT_is v (m - n) (by omega)
        have hw3 := wr (x := m - n) (by omega)
        have hw4 := wr (x := n + szT v (m - n)) (by omega)
        refine gE @hw3 ?_
        refine AQ.fn (by kernel_rfl) rfl rfl rfl (size_specS v (m - n) (tmsS_get hul.2.2 hv) (by omega)) rfl ?_
        refine sI ?_
        refine gE (an @hw2 @hw4) ?_
        refine AE.forgets [1] rfl ?_
        refine sI ?_
        exact AE.round (j + 1) (by omega) (by omega) (by rw [hsn]; exact (sU)) rfl
theorem ixT_specS (l : List Tm) (hl : l.length ≤ 9223372036854775807) (h : ∀ (k : Nat) (t : Tm), l[k]? = some t → ACall Tryz.prog 67 [tmV t, .ob 0 0] lgH (fun r H' => H' = lgH ∧ r = Bv (lgT t))) :
    ACall Tryz.prog 146 [.im (.sl 3 (tmR l)), .fn 67 [] [.ob 0 0]] lgH (fun r H' => H' = lgH ∧ r = Iv (ixF lgT l 0)) := by
  refine ACall.walk [0, 1, 4, 5, 7, 8, 9, 16] [] Tryz.func146 rfl Tryz.ntmps146 (by kernel_rfl) (by rfl) rfl fun W own I0 φ0 lay => ?_
  refine gE @tmR_len ?_
  refine AP.loop rfl (α := Nat) (fun k => [(0, .im (.sl 3 (tmR l))), (1, .fn 67 [] [.ob 0 0]), (7, Iv l.length), (8, Iv k)]) (fun _ => lgH) (fun k => k ≤ l.length ∧ ixF lgT l 0 = ixF lgT (l.drop k) k) (fun k => l.length - k) 0 ⟨by omega, rfl⟩ (sU) rfl fun k ⟨hk, hm⟩ => ?_
  rcases Nat.eq_or_lt_of_le hk with hke | hlt
  · refine gO ?_
    refine cF ?_
    refine gO ?_
    exact AE.ret rfl ⟨rfl, trivial⟩ ⟨rfl, by rw [hm, hke, List.drop_length, ixF]; rfl⟩
  · obtain ⟨u, hu, hrow⟩ := tmR_get l k hlt
    have hw := wr (x := (k : Int) + 1) (by omega)
    have hdr := ixF_drop lgT hu
    refine gO ?_
    refine cT ?_
    refine gE @hrow ?_
    refine ⟨by rw [tmR_len]; omega, ?_⟩
    refine gO ?_
    refine AQ.callI (by kernel_rfl) rfl rfl rfl (h k u hu) ?_
    refine sI ?_
    refine gO ?_
    refine AP.cond rfl rfl (fun h1 => ?_) (fun h1 => ?_)
    · refine gO ?_
      exact AE.ret rfl ⟨rfl, trivial⟩ ⟨rfl, by rw [hm, hdr, if_pos (by simpa using h1)]; rfl⟩
    · refine gE @hw ?_
      exact AE.round (k + 1) ⟨by omega, by rw [hm, hdr, if_neg (by simpa using h1)]⟩ (by omega) (sU) rfl
theorem anyT_specS (l : List Tm) (hl : l.length ≤ 9223372036854775807) (h : ∀ (k : Nat) (t : Tm), l[k]? = some t → ACall Tryz.prog 67 [tmV t, .ob 0 0] lgH (fun r H' => H' = lgH ∧ r = Bv (lgT t))) :
    ACall Tryz.prog 68 [.im (.sl 3 (tmR l)), .fn 67 [] [.ob 0 0]] lgH (fun r H' => H' = lgH ∧ r = Bv (l.any lgT)) := by
  refine ACall.walk [0, 1, 4] [] Tryz.func68 rfl Tryz.ntmps68 (by kernel_rfl) (by rfl) rfl fun W own I0 φ0 lay => ?_
  refine gO ?_
  refine AQ.callI (by kernel_rfl) rfl rfl rfl (ixT_specS l hl h) ?_
  refine sI ?_
  refine gO ?_
  exact AE.ret rfl ⟨rfl, trivial⟩ ⟨rfl, by rw [← ixF_any lgT l 0]; rfl⟩
theorem long_specS (t : Tm) (hs : tmS t) : ACall Tryz.prog 67 [tmV t, .ob 0 0] lgH (fun r H' => H' = lgH ∧ r = Bv (lgT t)) := by
  have hs0 := tmS_eq.1 hs
  have ha := anyT_specS t.xs hs0.2.1 fun k u hu => long_specS u (tmsS_get hs0.2.2 hu)
  refine ACall.walk [0, 1, 2, 3] [] Tryz.func67 rfl Tryz.ntmps67 (by kernel_rfl) (by rfl) rfl fun W own I0 φ0 lay => ?_
  refine gO ?_
  refine AQ.callI_g (by kernel_rfl) rfl rfl rfl (fun h => by first | (simp [gs, AV.g]; done) | (simp [gs, AV.g, constAV]; done) | (simp [gs, AV.g, constAV, bw] at h ⊢; done) | (simp [gs, AV.g, constAV, bw] at h ⊢; exact h) | (simp [gs, AV.g, constAV, bw] at h ⊢; simp [h]; done) | (simp [bw] at h; done) | (simp [gs, AV.g, bw] at h ⊢; simp [h]; done) | (simp [gs, AV.g, bw] at h ⊢; exact h.1) | (simp [gs, AV.g]; rfl) | (simp [gs, AV.g, bw] at h ⊢; rfl) | (simp [gs, AV.g, bw] at h ⊢; simp [h]; rfl) | (simp [gs, AV.g, bw] at h ⊢; simp_all)) (fun _ => ha) ?_
  refine sI ?_
  refine gO ?_
  exact AE.ret rfl ⟨rfl, trivial⟩ ⟨rfl, by rw [lgT_eq, show decide (100 < t.nm.length) = decide ((100 : Int) < t.nm.length) from by rw [decide_eq_decide]; omega]; rfl⟩
termination_by SizeOf.sizeOf t
decreasing_by exact tm_mem hu
theorem longL_specS (l : Lt) (hs : ltS l) : ACall Tryz.prog 69 [ltV l, .ob 0 0] lgH (fun r H' => H' = lgH ∧ r = Bv (lgL l)) := by
  have ha := anyT_specS l.xs hs.2.1 fun k u hu => long_specS u (tmsS_get hs.2.2 hu)
  refine ACall.walk [0, 1, 2, 3] [] Tryz.func69 rfl Tryz.ntmps69 (by kernel_rfl) (by rfl) rfl fun W own I0 φ0 lay => ?_
  refine gO ?_
  refine AQ.callI_g (by kernel_rfl) rfl rfl rfl (fun h => by first | (simp [gs, AV.g]; done) | (simp [gs, AV.g, constAV]; done) | (simp [gs, AV.g, constAV, bw] at h ⊢; done) | (simp [gs, AV.g, constAV, bw] at h ⊢; exact h) | (simp [gs, AV.g, constAV, bw] at h ⊢; simp [h]; done) | (simp [bw] at h; done) | (simp [gs, AV.g, bw] at h ⊢; simp [h]; done) | (simp [gs, AV.g, bw] at h ⊢; exact h.1) | (simp [gs, AV.g]; rfl) | (simp [gs, AV.g, bw] at h ⊢; rfl) | (simp [gs, AV.g, bw] at h ⊢; simp [h]; rfl) | (simp [gs, AV.g, bw] at h ⊢; simp_all)) (fun _ => ha) ?_
  refine sI ?_
  refine gO ?_
  exact AE.ret rfl ⟨rfl, trivial⟩ ⟨rfl, by rw [lgL, show decide (100 < l.pd.length) = decide ((100 : Int) < l.pd.length) from by rw [decide_eq_decide]; omega]; rfl⟩
theorem ixL_specS (l : List Lt) (hl : l.length ≤ 9223372036854775807) (h : ∀ (k : Nat) (t : Lt), l[k]? = some t → ACall Tryz.prog 69 [ltV t, .ob 0 0] lgH (fun r H' => H' = lgH ∧ r = Bv (lgL t))) :
    ACall Tryz.prog 118 [.im (.sl 3 (ltR l)), .fn 69 [] [.ob 0 0]] lgH (fun r H' => H' = lgH ∧ r = Iv (ixF lgL l 0)) := by
  refine ACall.walk [0, 1, 4, 5, 7, 8, 9, 16] [] Tryz.func118 rfl Tryz.ntmps118 (by kernel_rfl) (by rfl) rfl fun W own I0 φ0 lay => ?_
  refine gE @ltR_len ?_
  refine AP.loop rfl (α := Nat) (fun k => [(0, .im (.sl 3 (ltR l))), (1, .fn 69 [] [.ob 0 0]), (7, Iv l.length), (8, Iv k)]) (fun _ => lgH) (fun k => k ≤ l.length ∧ ixF lgL l 0 = ixF lgL (l.drop k) k) (fun k => l.length - k) 0 ⟨by omega, rfl⟩ (sU) rfl fun k ⟨hk, hm⟩ => ?_
  rcases Nat.eq_or_lt_of_le hk with hke | hlt
  · refine gO ?_
    refine cF ?_
    refine gO ?_
    exact AE.ret rfl ⟨rfl, trivial⟩ ⟨rfl, by rw [hm, hke, List.drop_length, ixF]; rfl⟩
  · obtain ⟨u, hu, hrow⟩ := ltR_get l k hlt
    have hw := wr (x := (k : Int) + 1) (by omega)
    have hdr := ixF_drop lgL hu
    refine gO ?_
    refine cT ?_
    refine gE @hrow ?_
    refine ⟨by rw [ltR_len]; omega, ?_⟩
    refine gO ?_
    refine AQ.callI (by kernel_rfl) rfl rfl rfl (h k u hu) ?_
    refine sI ?_
    refine gO ?_
    refine AP.cond rfl rfl (fun h1 => ?_) (fun h1 => ?_)
    · refine gO ?_
      exact AE.ret rfl ⟨rfl, trivial⟩ ⟨rfl, by rw [hm, hdr, if_pos (by simpa using h1)]; rfl⟩
    · refine gE @hw ?_
      exact AE.round (k + 1) ⟨by omega, by rw [hm, hdr, if_neg (by simpa using h1)]⟩ (by omega) (sU) rfl
theorem anyL_specS (l : List Lt) (hl : l.length ≤ 9223372036854775807) (h : ∀ (k : Nat) (t : Lt), l[k]? = some t → ACall Tryz.prog 69 [ltV t, .ob 0 0] lgH (fun r H' => H' = lgH ∧ r = Bv (lgL t))) :
    ACall Tryz.prog 46 [.im (.sl 3 (ltR l)), .fn 69 [] [.ob 0 0]] lgH (fun r H' => H' = lgH ∧ r = Bv (l.any lgL)) := by
  refine ACall.walk [0, 1, 4] [] Tryz.func46 rfl Tryz.ntmps46 (by kernel_rfl) (by rfl) rfl fun W own I0 φ0 lay => ?_
  refine gO ?_
  refine AQ.callI (by kernel_rfl) rfl rfl rfl (ixL_specS l hl h) ?_
  refine sI ?_
  refine gO ?_
  exact AE.ret rfl ⟨rfl, trivial⟩ ⟨rfl, by rw [← ixF_any lgL l 0]; rfl⟩
theorem named_specS (c : List Lt) (hs : clS c) : PFn Tryz.prog 11 [clV c] (Bv (!c.any lgL)) := by
  have ha := anyL_specS c hs.1 fun k u hu => longL_specS u (clS_get hs hu)
  refine ACall.walk [0, 2, 3] [3] Tryz.func11 rfl Tryz.ntmps11 (by kernel_rfl) (by rfl) rfl fun W own I0 φ0 lay => ?_
  refine gO ?_
  refine AQ.callI (by kernel_rfl) rfl rfl rfl (ha) ?_
  refine sI ?_
  refine gO ?_
  exact AE.retD [0] rfl ⟨rfl, trivial⟩ rfl ⟨rfl, rfl⟩
theorem small_specS (c : List Lt) (m : Int) (hs : clS c) (hm : 0 ≤ m ∧ m ≤ 1000000000) : PFn Tryz.prog 29 [clV c, Iv m] (Bv (decide (ndN c m ≤ m) && !c.any lgL)) := by
  refine ACall.walk [0, 1, 4] [] Tryz.func29 rfl Tryz.ntmps29 (by kernel_rfl) (by rfl) rfl fun W own I0 φ0 lay => ?_
  refine gO ?_
  refine AQ.fn (by kernel_rfl) rfl rfl rfl (nodes_specS c m hs hm) rfl ?_
  refine sI ?_
  refine gO ?_
  refine AQ.fn_g (by kernel_rfl) rfl rfl (fun h => by first | (simp [gs, AV.g]; done) | (simp [gs, AV.g, constAV]; done) | (simp [gs, AV.g, constAV, bw] at h ⊢; done) | (simp [gs, AV.g, constAV, bw] at h ⊢; exact h) | (simp [gs, AV.g, constAV, bw] at h ⊢; simp [h]; done) | (simp [bw] at h; done) | (simp [gs, AV.g, bw] at h ⊢; simp [h]; done) | (simp [gs, AV.g, bw] at h ⊢; exact h.1) | (simp [gs, AV.g]; rfl) | (simp [gs, AV.g, bw] at h ⊢; rfl) | (simp [gs, AV.g, bw] at h ⊢; simp [h]; rfl) | (simp [gs, AV.g, bw] at h ⊢; simp_all)) rfl (fun _ => named_specS c hs) rfl ?_
  refine sI ?_
  refine gO ?_
  exact AE.ret0 rfl ⟨rfl, trivial⟩ rfl ⟨rfl, rfl⟩
end Go.Proofs.YtpfohmboflcneaaGreatDoor
end

section
namespace Go.Proofs.YtpfohmboflcneaaGreatDoor
open Go Go.AL Go.RowKit
set_option maxRecDepth 10000
set_option maxHeartbeats 4000000
def smB (c : List Lt) (m : Int) : Bool := decide (ndN c m ≤ m) && !c.any lgL
mutual
theorem lgT_L : ∀ t : Tm, lgT t = false → wT t ≤ 1000000 → tmL t
  | .mk n i xs, h, hw => by
    rw [lgT, Bool.or_eq_false_iff, decide_eq_false_iff_not] at h
    rw [wT] at hw
    have := wTs_le xs
    rw [tmL]
    exact ⟨by omega, by omega, lgTs_L xs h.2 (by omega)⟩
theorem lgTs_L : ∀ l : List Tm, lgTs l = false → wTs l ≤ 1000000 → tmsL l
  | [], _, _ => by rw [tmsL]; trivial
  | t :: l, h, hw => by
    rw [lgTs, Bool.or_eq_false_iff] at h
    rw [wTs] at hw
    rw [tmsL]
    exact ⟨lgT_L t h.1 (by omega), lgTs_L l h.2 (by omega)⟩
end
theorem smB_L {c : List Lt} {m : Int} (hm : 0 ≤ m ∧ m ≤ 1000000) (h : smB c m = true) : clL c ∧ (ndC c : Int) ≤ m := by
  rw [smB, Bool.and_eq_true, decide_eq_true_iff, Bool.not_eq_true'] at h
  obtain ⟨_, h2⟩ := ndN_is c m hm.1
  have hn : (ndC c : Int) ≤ m := Int.not_lt.1 fun hc => by have := h2 hc; omega
  have hf := ndC_flat c
  refine ⟨⟨by omega, fun l hl => ?_⟩, hn⟩
  have h3 : lgL l = false := by
    have := h.2
    rw [List.any_eq_false] at this
    simpa using this l hl
  rw [lgL, Bool.or_eq_false_iff, decide_eq_false_iff_not] at h3
  have h4 := ndC_mem c l hl
  rw [ndL] at h4
  have h5 := wTs_le l.xs
  exact ⟨by omega, by omega, lgTs_L l.xs (by rw [lgTs_any]; exact h3.2) (by omega)⟩
mutual
theorem unR_L {l : Bd} (hl : ∀ b ∈ l, tmL b.2) : ∀ t : Tm, tmL t → tmL (unR l t)
  | .mk n i xs, h => by
    rw [unR]
    split
    · rw [lkB_I]
      cases hq : lkI l i with
      | none => exact h
      | some x => exact hl _ (lkI_mem hq)
    · rw [tmL] at h ⊢
      exact ⟨h.1, by rw [unRs_map, List.length_map]; exact h.2.1, unRs_L hl xs h.2.2⟩
theorem unRs_L {l : Bd} (hl : ∀ b ∈ l, tmL b.2) : ∀ k : List Tm, tmsL k → tmsL (unRs l k)
  | [], _ => by rw [unRs, tmsL]; trivial
  | t :: k, h => by
    rw [tmsL] at h
    rw [unRs, tmsL]
    exact ⟨unR_L hl t h.1, unRs_L hl k h.2⟩
end
theorem apO_L {c : List Lt} {l : Bd} (hc : clL c) (hl : bdL l) : clL (apO c l) := by
  refine ⟨by rw [apO, List.length_map]; exact hc.1, fun x hx => ?_⟩
  rw [apO] at hx
  obtain ⟨y, hy, rfl⟩ := List.mem_map.1 hx
  have h := hc.2 y hy
  exact ⟨h.1, by rw [unL]; simp only; rw [unRs_map, List.length_map]; exact h.2.1, unRs_L hl.2 _ h.2.2⟩
theorem clL_nil : clL ([] : List Lt) := ⟨by simp, fun l hl => by cases hl⟩
theorem ayR_L {c : List Lt} {l : Bd} (hc : clL c) (hl : bdL l) : clL (ayR c l) := by
  rw [ayR]
  split
  · exact clL_nil
  · split
    · exact clL_nil
    · rw [apR]
      split
      · exact apO_L hc hl
      · exact clL_nil
def bdS (l : Bd) : Prop := l.length ≤ 9223372036854775807 ∧ ∀ b ∈ l, tmS b.2
theorem lawBd_spec (l : Bd) (hs : bdL l) : PFn Tryz.prog 33 [bdV l] (bdV l) := by
  have hl := hs.1
  refine ACall.walk [0, 2, 3, 5, 6, 7, 8, 9] [5] Tryz.func33 rfl Tryz.ntmps33 (by kernel_rfl) (by rfl) rfl fun W own I0 φ0 lay => ?_
  refine gE @bdR_len ?_
  refine AP.own 3 98 4 rfl ?_
  refine sI ?_
  refine AP.loop rfl (α := Nat) (fun k => [(3, .os 0 4 0 k), (6, bdV l), (7, Iv l.length), (8, Iv k)]) (fun k => [(0, .vec 98 4 (bdR (l.take k)))]) (fun k => k ≤ l.length) (fun k => l.length - k) 0 (by omega) (sU) rfl fun k hk => ?_
  rcases Nat.eq_or_lt_of_le hk with hke | hlt
  · subst hke
    rw [List.take_length]
    refine gO ?_
    refine cF ?_
    refine gO ?_
    refine AE.freeze 0 (el := 98) (es := 4) (rows := bdR l) rfl (by simp only [go_sem, Nat.reduceAdd, Nat.reduceLeDiff, Nat.reduceSub, Int.reduceToNat, reduceCtorEq, bdR_len]; first | done | trivial | omega | (simp; done) | (simp; omega)) (by simp only [go_sem, Nat.reduceAdd, Nat.reduceLeDiff, Nat.reduceSub, Int.reduceToNat, reduceCtorEq, bdR_len]; first | done | trivial | omega | (simp; done) | (simp; omega)) ?_; simp only [go_sem, Nat.reduceAdd, Nat.reduceLeDiff, Nat.reduceSub, Int.reduceToNat, reduceCtorEq, bdR_len]
    rw [List.take_of_length_le (by rw [bdR_len]; exact Nat.le_refl _)]
    exact AE.ret0 rfl ⟨rfl, trivial⟩ rfl ⟨rfl, rfl⟩
  · obtain ⟨u, hu, hrow⟩ := bdR_get l k hlt
    have hw := wr (x := (k : Int) + 1) (by omega)
    have htk := take_len (l := l) (k := k) (by omega)
    have hsn : bdR (l.take (k + 1)) = bdR (l.take k) ++ [bdRow u] := by rw [take_snoc hu, bdR, List.map_append]; rfl
    have hcv := conv_spec u.2 (hs.2 u (List.mem_of_getElem? hu))
    refine gO ?_
    refine cT ?_
    refine gE (an @hrow @bdR_len) ?_
    refine AP.fix 1 rfl rfl ?_
    refine sI ?_
    refine AP.drawE 9 (Tree.node [] [0, 1, 2, 3, 4] [5] [Tree.node [0, 1, 2] [6] [7] [Tree.node [0] [] [8] [Tree.node [] [] [] []]]]) (by kernel_rfl) rfl (by kernel_rfl) (by kernel_rfl) ?_
    refine vd_node ?_
    refine sI ?_
    refine AQ.fn (by kernel_rfl) rfl rfl rfl (hcv) rfl ?_
    refine sI ?_
    refine AQ.nx rfl ?_
    refine sI ?_
    refine AQ.go (by kernel_rfl) ?_
    refine sI ?_
    refine AQ.nx rfl ?_
    refine sI ?_
    refine AQ.append (hnb := rfl) (rows := bdR (l.take k)) (es := 3) (by kernel_rfl) rfl rfl rfl (by rfl) Tryz.tk64 Tryz.sz98 (by show Option.map _ (zro Tryz.prog 98) = _; rw [Tryz.zr98]; rfl) Tryz.by98 (by first | rfl | (simp only [bdR_len, htk, List.length_cons, List.length_nil]; done) | (simp only [bdR_len, htk, List.length_cons, List.length_nil]; omega)) (by simp only [bdR_len, htk, List.length_cons, List.length_nil]; omega) (by simp only [bdR_len, htk, List.length_cons, List.length_nil]; omega) ?_
    refine sI ?_
    refine AQ.nx rfl ?_
    refine sI ?_
    refine AQ.done ?_
    refine gE @hw ?_
    refine AE.round (k + 1) (by omega) (by omega) (by simp only [bdR_len, htk]; exact (sU)) ?_
    rw [hsn]
end Go.Proofs.YtpfohmboflcneaaGreatDoor
end

section
namespace Go.Proofs.YtpfohmboflcneaaGreatDoor
open Go Go.AL Go.RowKit
set_option maxRecDepth 100000
theorem typed_slice2 {P : Program} {n : Nat} {t e : TypeId} {xs : List IV} (ht : P.underlying t = some (.slice e)) (h : Typed P n t xs) : ∃ rows m, n = m + 1 ∧ xs = [.sl (P.cellsOf e) rows] ∧ rows.length ≤ maxLen ∧ ∀ r ∈ rows, Typed P m e r := by
  cases n with
  | zero => exact h.elim
  | succ n =>
    simp only [Typed, ht] at h
    obtain ⟨rows, h1, h2, h3⟩ := h
    exact ⟨rows, n, rfl, h1, h2, h3⟩
theorem typed_struct2 {P : Program} {n : Nat} {t : TypeId} {fs : Array Field} {xs : List IV} (ht : P.underlying t = some (.struct fs)) (h : Typed P n t xs) :
    ∃ m, n = m + 1 ∧ xs.length = P.cellsOf t ∧ ∀ (i : Nat) (f : Field), fs.toList[i]? = some f → Typed P m f.type ((xs.drop f.offset).take (P.cellsOf f.type)) := by
  cases n with
  | zero => exact h.elim
  | succ n =>
    simp only [Typed, ht] at h
    exact ⟨n, rfl, h⟩
theorem str_of {n : Nat} {xs : List IV} (h : Typed Tryz.prog n 9 xs) : ∃ l : List UInt8, xs = [Si l] ∧ l.length ≤ 9223372036854775807 := by
  obtain ⟨s, rfl, hs⟩ := typed_str Tryz.underlying9 h
  refine ⟨s.data.toList, congrArg (fun x => [IV.v (Value.string x)]) (BA_of s), ?_⟩
  have e : s.size = s.data.size := rfl
  have e2 : s.data.toList.length = s.data.size := Array.length_toList
  unfold maxLen at hs
  omega
theorem tmsS_of : ∀ {l : List Tm}, (∀ t ∈ l, tmS t) → tmsS l
  | [], _ => by rw [tmsS]; trivial
  | t :: l, h => by rw [tmsS]; exact ⟨h t (List.mem_cons_self ..), tmsS_of fun u hu => h u (List.mem_cons_of_mem _ hu)⟩
theorem tm_of : ∀ (n : Nat) {xs : List IV}, Typed Tryz.prog n 57 xs → ∃ t : Tm, xs = tmC t ∧ tmS t := by
  intro n
  induction n using Nat.strongRecOn with
  | _ n ih =>
  intro xs h
  have hc : Tryz.prog.cellsOf 57 = 3 := by kernel_rfl
  have hc9 : Tryz.prog.cellsOf 9 = 1 := by kernel_rfl
  have hc3 : Tryz.prog.cellsOf 3 = 1 := by kernel_rfl
  have hc55 : Tryz.prog.cellsOf 55 = 1 := by kernel_rfl
  obtain ⟨m, rfl, hlen, hf⟩ := typed_struct2 Tryz.underlying57 h
  rw [hc] at hlen
  match xs, hlen with
  | [a, b, c], _ =>
    have f0 := hf 0 _ rfl
    have f1 := hf 1 _ rfl
    have f2 := hf 2 _ rfl
    simp only [hc9, hc3, hc55, List.drop_zero, List.take_succ_cons, List.take_zero, List.drop_succ_cons] at f0 f1 f2
    obtain ⟨nm, e0, l0⟩ := str_of f0
    obtain ⟨ix, e1, _⟩ := typed_int Tryz.underlying3 f1
    obtain ⟨rows, m', rfl, e2, hl, hrow⟩ := typed_slice2 Tryz.underlying55 f2
    obtain ⟨l, rfl, hp⟩ := rows_of (p := tmS) (f := tmC) rows fun r hr => ih m' (by omega) (hrow r hr)
    cases e0; cases e1; cases e2
    rw [List.length_map] at hl
    unfold maxLen at hl
    exact ⟨.mk nm ix l, by rw [tmC, tmR_map, hc], by rw [tmS]; exact ⟨l0, by omega, tmsS_of hp⟩⟩
theorem bd_of (n : Nat) {xs : List IV} (h : Typed Tryz.prog n 59 xs) : ∃ b : Int × Tm, xs = bdRow b ∧ tmS b.2 := by
  have hc : Tryz.prog.cellsOf 59 = 4 := by kernel_rfl
  have hc3 : Tryz.prog.cellsOf 3 = 1 := by kernel_rfl
  have hc57 : Tryz.prog.cellsOf 57 = 3 := by kernel_rfl
  obtain ⟨m, rfl, hlen, hf⟩ := typed_struct2 Tryz.underlying59 h
  rw [hc] at hlen
  match xs, hlen with
  | [a, b, c, d], _ =>
    have f0 := hf 0 _ rfl
    have f1 := hf 1 _ rfl
    simp only [hc3, hc57, List.drop_zero, List.take_succ_cons, List.take_zero, List.drop_succ_cons] at f0 f1
    obtain ⟨v, e0, _⟩ := typed_int Tryz.underlying3 f0
    obtain ⟨t, e1, l1⟩ := tm_of m f1
    rw [tmC_eq] at e1
    cases e0; cases e1
    exact ⟨(v, t), rfl, l1⟩
theorem bds_of (n : Nat) {xs : List IV} (h : Typed Tryz.prog n 52 xs) : ∃ l : Bd, xs = [.sl 4 (bdR l)] ∧ bdS l := by
  have hc : Tryz.prog.cellsOf 59 = 4 := by kernel_rfl
  obtain ⟨rows, m', rfl, rfl, hl, hrow⟩ := typed_slice2 Tryz.underlying52 h
  obtain ⟨l, rfl, hp⟩ := rows_of (p := fun b : Int × Tm => tmS b.2) (f := bdRow) rows fun r hr => bd_of m' (hrow r hr)
  rw [List.length_map] at hl
  unfold maxLen at hl
  exact ⟨l, by rw [bdR, hc], by omega, hp⟩
theorem gSyn : Tryz.prog.globalNamed "strconv.ErrSyntax" = some 1 := by kernel_rfl
theorem gRng : Tryz.prog.globalNamed "strconv.ErrRange" = some 2 := by kernel_rfl
theorem gPow : Tryz.prog.globalNamed "internal/strconv.uint64pow10" = some 3 := by kernel_rfl
theorem gSynT : (Tryz.prog.globals[1]?).map (·.type) = some 236 := by kernel_rfl
theorem gRngT : (Tryz.prog.globals[2]?).map (·.type) = some 236 := by kernel_rfl
theorem gPowT : (Tryz.prog.globals[3]?).map (·.type) = some 350 := by kernel_rfl
theorem row346 (u : TypeId) (h : Tryz.prog.typeName? 3 u = some "*errors.errorString") : u = 346 :=
  typeName_ptr_named (nm := "errors.errorString") (by rw [show "*" ++ "errors.errorString" = "*errors.errorString" by decide]; kernel_rfl) (by kernel_rfl) (by decide) u (by rw [show "*" ++ "errors.errorString" = "*errors.errorString" by decide]; exact h)
theorem var_cells {P : Program} {W : World} {n : String} {g : Nat} {cs : Array Value} (hg : P.globalNamed n = some g) (h : W.var? P n = some cs) : g < W.heap.size ∧ ∃ T fz, W.heap[g]? = some (.cells cs T fz) := by
  unfold World.var? at h
  rw [hg, Option.bind_some] at h
  split at h
  · rename_i cs' T fz hh
    cases h
    refine ⟨?_, T, fz, hh⟩
    rcases Nat.lt_or_ge g W.heap.size with h' | h'
    · exact h'
    · rw [Array.getElem?_eq_none h'] at hh; cases hh
  · cases h
theorem vk_of {W : World} (h : laidMet Tryz.prog [("math/bits.deBruijn32tab", Rows.laid_math_bits_deBruijn32tab), ("math/bits.deBruijn64tab", Rows.laid_math_bits_deBruijn64tab), ("internal/strconv.uint64pow10", Rows.laid_internal_strconv_uint64pow10), ("strconv.ErrRange", Rows.laid_strconv_ErrRange), ("strconv.ErrSyntax", Rows.laid_strconv_ErrSyntax)] W) :
    VK Tryz.prog W (fun g => g < W.heap.size) := by
  have h3 := h.tail.tail
  have h4 := h3.tail
  have h5 := h4.tail
  intro x hx g hg
  simp only [laidVars, List.mem_cons, List.not_mem_nil, or_false] at hx
  rcases hx with rfl | rfl | rfl
  · obtain ⟨a, s, hv, _⟩ := laid_sentinel h5 gSyn gSynT Tryz.underlying236 row346 Tryz.underlying346 Tryz.underlying348 rfl rfl Tryz.underlying9 (by kernel_rfl) (by kernel_rfl)
    obtain ⟨h1, T, fz, h2⟩ := var_cells hg hv
    exact ⟨h1, _, h2, _, _, T, fz, rfl⟩
  · obtain ⟨a, s, hv, _⟩ := laid_sentinel h4 gRng gRngT Tryz.underlying236 row346 Tryz.underlying346 Tryz.underlying348 rfl rfl Tryz.underlying9 (by kernel_rfl) (by kernel_rfl)
    obtain ⟨h1, T, fz, h2⟩ := var_cells hg hv
    exact ⟨h1, _, h2, _, _, T, fz, rfl⟩
  · have ht : Lib.TabIs Tryz.prog W "internal/strconv.uint64pow10" .u64 Lib.pow10Tab := Lib.tabIs_of_head (rest := _) gPow gPowT Tryz.underlying350 Tryz.underlying314 (by kernel_rfl) (by kernel_rfl) h3
    obtain ⟨h1, T, fz, h2⟩ := var_cells hg ht
    exact ⟨h1, _, h2, T, fz, rfl⟩
def synS : ByteArray := { data := #[105, 110, 118, 97, 108, 105, 100, 32, 115, 121, 110, 116, 97, 120] }
def rngS : ByteArray := { data := #[118, 97, 108, 117, 101, 32, 111, 117, 116, 32, 111, 102, 32, 114, 97, 110, 103, 101] }
noncomputable def low : Nat := (World.holding Tryz.prog default ⟨#[], #[], []⟩).heap.size
def litCells (d : DataW Unit) : Array Value := match d with
  | .agg l => (l.map fun x => match x with
    | .lit (.int k z) => Value.int k z
    | _ => .nilIface).toArray
  | _ => #[]
def putCells (cs : Array Value) : Obj → Obj
  | .cells _ t frozen => .cells cs t frozen
  | o => o
noncomputable def laidWorld (os : Os) : World :=
  let w0 := World.holding Tryz.prog os ⟨#[.cells #[.string synS] 348, .cells #[.string rngS] 348], #[], []⟩
  { w0 with heap := ((((w0.heap.modify 1 (putCells #[.iface 346 (.pointer (some ⟨low, 0, none⟩))])).modify 2 (putCells #[.iface 346 (.pointer (some ⟨low + 1, 0, none⟩))])).modify 3 (putCells (litCells Rows.laid_internal_strconv_uint64pow10))).modify 4 (putCells (litCells Rows.laid_math_bits_deBruijn32tab))).modify 5 (putCells (litCells Rows.laid_math_bits_deBruijn64tab)) }
end Go.Proofs.YtpfohmboflcneaaGreatDoor
end

section
namespace Go.Proofs.YtpfohmboflcneaaGreatDoor
open Go Go.AL Go.RowKit
set_option maxRecDepth 10000
set_option maxHeartbeats 4000000
theorem sgV (t : Tm) : clV (sgC t) = .im (.sl 3 [[Bi false, Si [80], .sl 3 [[Si t.nm, Ii t.ix, .sl 3 (tmR t.xs)]]]]) := by
  rw [clV, ltR, sgC, List.map_cons, List.map_nil, ltRow]
  simp only [tmR, tmC_eq]
theorem sgC_S {t : Tm} (hs : tmS t) : clS (sgC t) := ⟨by simp [sgC], fun l hl => by
  rw [sgC, List.mem_singleton] at hl
  subst hl
  exact ⟨by simp, by simp, by rw [tmsS, tmsS]; exact ⟨hs, trivial⟩⟩⟩
theorem pair_spec (s t : Tm) (hs : tmS s) (ht : tmS t) : PFn Tryz.prog 35 [tmV s, tmV t] (Bv (smB (sgC s) 51 && smB (sgC t) 51)) := by
  have h1 := small_specS (sgC s) 51 (sgC_S hs) (by omega)
  have h2 := small_specS (sgC t) 51 (sgC_S ht) (by omega)
  rw [sgV] at h1 h2
  have e1 : (decide (ndN (sgC s) 51 ≤ 51) && !(sgC s).any lgL) = smB (sgC s) 51 := rfl
  rw [e1] at h1
  cases hb : smB (sgC s) 51 with
  | true =>
    rw [hb] at h1
    refine ACall.walk [0, 1, 2, 3, 4] [] Tryz.func35 rfl Tryz.ntmps35 (by kernel_rfl) (by rfl) rfl fun W own I0 φ0 lay => ?_
    refine gO ?_
    refine AQ.fn (by kernel_rfl) rfl rfl rfl (h1) rfl ?_
    refine sI ?_
    refine gO ?_
    refine AQ.optT ?_
    refine AQ.guard_yes (by simp only [go_sem]) ?_
    refine sI ?_
    refine AQ.go (by kernel_rfl) ?_
    refine sI ?_
    refine AQ.optT ?_
    refine AQ.guard_yes (by simp only [go_sem]) ?_
    refine sI ?_
    refine AQ.go (by kernel_rfl) ?_
    refine sI ?_
    refine AQ.guard_yes (by simp only [go_sem]) ?_
    refine sI ?_
    refine AQ.fn (by kernel_rfl) rfl rfl rfl (h2) rfl ?_
    refine sI ?_
    refine gO ?_
    exact AE.ret0 rfl ⟨rfl, trivial⟩ rfl ⟨rfl, rfl⟩
  | false =>
    rw [hb] at h1
    refine ACall.walk [0, 1, 2, 3, 4] [] Tryz.func35 rfl Tryz.ntmps35 (by kernel_rfl) (by rfl) rfl fun W own I0 φ0 lay => ?_
    refine gO ?_
    refine AQ.fn (by kernel_rfl) rfl rfl rfl (h1) rfl ?_
    refine sI ?_
    refine gO ?_
    exact AE.ret0 rfl ⟨rfl, trivial⟩ rfl ⟨rfl, rfl⟩
theorem cmp0_spec (a b : Tm) (ha : tmL a) (hb : tmL b) : PFn Tryz.prog 36 [tmV a, tmV b] (.tup [Iv (cmT a b).1, Bv ((cmT a b).2 == 0)]) := by
  refine ACall.walk [0, 1, 2, 3, 4, 5, 6, 7] [] Tryz.func36 rfl Tryz.ntmps36 (by kernel_rfl) (by rfl) rfl fun W own I0 φ0 lay => ?_
  refine gO ?_
  refine AQ.fn (by kernel_rfl) rfl rfl rfl (Compare_spec a b ha hb) rfl ?_
  refine sI ?_
  refine gO ?_
  exact AE.ret0 rfl ⟨rfl, rfl, trivial⟩ rfl ⟨rfl, rfl⟩
def udT (l : Bd) (x : Tm) : Tm := if ayE (sgC x) l = 0 then chT (sbB l) x else .mk [] 0 []
theorem ay_sg {l : Bd} {x : Tm} (h : ayE (sgC x) l = 0) : ayR (sgC x) l = [⟨false, [80], [chT (sbB l) x]⟩] ∧ okT x = true := by
  have hE : ayE (sgC x) l = _ := ayE.eq_def (sgC x) l
  by_cases h1 : ckC 4 9 2 3 (sgC x) ≠ 0
  · rw [if_pos h1, h] at hE; exact absurd hE.symm h1
  · rw [if_neg h1] at hE
    by_cases h2 : bnE [] l ≠ 0
    · rw [if_pos h2, h] at hE; exact absurd hE.symm h2
    · rw [if_neg h2, h] at hE
      have h0 : ckC 4 9 2 3 (sgC x) = 0 := by simpa using h1
      obtain ⟨_, _, _, h4⟩ := ckC_0 h0
      refine ⟨?_, (ckT_0 h0).1⟩
      rw [ayR, if_neg h1, if_neg h2, apR, ← hE, if_pos rfl, apO_C h4]
      rw [sgC, appC, List.map_cons, List.map_nil, chL, chTs, chTs]
theorem under_fn (x : Tm) (l : Bd) (hx : tmL x) (hl : bdL l) : PFn Tryz.prog 41 [tmV x, bdV l] (.tup [tmV (udT l x), Bv (ayE (sgC x) l == 0)]) := by
  refine ACall.told (R := fun r H' => H' = [] ∧ (r = .tup [tmV (udT l x), Bv (ayE (sgC x) l == 0)] ∨ udT l x = .mk [] 0 [] ∧ r = .tup [.agg [Sv [], Iv 0, nilV], Bv (ayE (sgC x) l == 0)])) ?_ (fun r H' ⟨hH, hr⟩ => ⟨_, ⟨hH, rfl⟩, by
    rcases hr with rfl | ⟨hc, rfl⟩
    · exact fun _ _ _ _ h => h
    · rw [hc]
      exact (show AVle (.tup [.agg [Sv [], Iv 0, nilV], Bv (ayE (sgC x) l == 0)]) (.tup [.agg [Sv [], Iv 0, .im (.sl 3 [])], Bv (ayE (sgC x) l == 0)]) from AVle.tup (cellsLe.cons2 (by repeat' (first | with_reducible exact AVle.refl _ | with_reducible exact IVle.refl _ | exact IVle.nil _ | with_reducible exact cellsLe.refl _ | with_reducible exact rowLe.refl _ | with_reducible exact rowsLe.refl _ | refine cellsLe.cons2 ?_ ?_ | refine AVle.agg ?_ | refine AVle.im ?_ | refine IVle.sl ?_ | refine rowsLe.cons ?_ ?_ | refine rowLe.cons ?_ ?_)) (cellsLe.refl _)))⟩)
  have hP := apply_spec (sgC x) l (sgC_L hx) hl
  rw [sgV] at hP
  by_cases h0 : ayE (sgC x) l = 0
  · obtain ⟨h1, h2⟩ := ay_sg h0
    have hu : udT l x = chT (sbB l) x := by rw [udT, if_pos h0]
    have hL : tmL (chT (sbB l) x) := by
      have h3 := (ayR_L (sgC_L hx) hl).2
      rw [h1] at h3
      have h4 := (h3 _ (List.mem_singleton.2 rfl)).2.2
      rw [tmsL] at h4
      exact h4.1
    have hrow : ltR (ayR (sgC x) l) = [[Bi false, Si [80], .sl 3 [[Si (chT (sbB l) x).nm, Ii (chT (sbB l) x).ix, .sl 3 (tmR (chT (sbB l) x).xs)]]]] := by
      rw [h1, ltR, List.map_cons, List.map_nil, ltRow]; simp only [tmR, tmC_eq]
    have hb := back_spec (chT (sbB l) x) hL
    rw [hu, h0]
    rw [clV, hrow, h0] at hP
    refine ACall.walk [0, 1, 2, 4, 5, 6, 7, 31] [4] Tryz.func41 rfl Tryz.ntmps41 (by kernel_rfl) (by rfl) rfl fun W own I0 φ0 lay => ?_
    refine gO ?_
    refine AQ.fn (by kernel_rfl) rfl rfl rfl (hP) rfl ?_
    refine sI ?_
    refine gE (an @List.length_cons.{0} (an @List.length_nil.{0} @List.getD_cons_zero.{0})) ?_
    refine AQ.fn (by kernel_rfl) rfl rfl rfl (hb) rfl ?_
    refine sI ?_
    refine gO ?_
    exact AE.retD [0] rfl ⟨⟨rfl, Nat.le_of_ble_eq_true (by kernel_rfl)⟩, rfl, trivial⟩ rfl ⟨rfl, .inl (by cases (chT (sbB l) x); rfl)⟩
  · have hu : udT l x = .mk [] 0 [] := by rw [udT, if_neg h0]
    have hrow : ayR (sgC x) l = [] := by
      rw [ayR]; rw [ayE] at h0
      by_cases h1 : ckC 4 9 2 3 (sgC x) ≠ 0
      · rw [if_pos h1]
      · rw [if_neg h1] at h0 ⊢
        by_cases h2 : bnE [] l ≠ 0
        · rw [if_pos h2]
        · rw [if_neg h2] at h0 ⊢
          rw [apR, if_neg h0]
    rw [clV, hrow] at hP
    rw [ltR, List.map_nil] at hP
    refine ACall.walk [0, 1, 2, 4, 5, 6, 7, 31] [4] Tryz.func41 rfl Tryz.ntmps41 (by kernel_rfl) (by rfl) rfl fun W own I0 φ0 lay => ?_
    refine gO ?_
    refine AQ.fn (by kernel_rfl) rfl rfl rfl (hP) rfl ?_
    refine sI ?_
    repeat (first | refine xA ?_ | refine xB ?_ | refine xC ?_ | refine xE ?_ | refine xD ?_ | refine xK ?_ | refine xS ?_ | refine xM ?_ | refine xT ?_ | refine xF ?_ | ((first | refine xR ?_ | refine xW ?_ | refine vq_id ?_); simp only [go_sem, Nat.reduceAdd, Nat.reduceLeDiff, Nat.reduceSub, Int.reduceToNat, reduceCtorEq, show (ayE (sgC x) l != 0) = true from by simpa using h0]) | (refine ⟨by first | omega | (intros; simp_all; done) | (intros; simp_all; omega), ?_⟩; try simp only [go_sem, Nat.reduceAdd, Nat.reduceLeDiff, Nat.reduceSub, Int.reduceToNat, reduceCtorEq, show (ayE (sgC x) l != 0) = true from by simpa using h0]))
    exact AE.retD [0] rfl ⟨⟨rfl, Nat.le_of_ble_eq_true (by kernel_rfl)⟩, rfl, trivial⟩ rfl ⟨rfl, .inr ⟨hu, by rw [beq_eq_false_iff_ne.2 h0]; rfl⟩⟩
    done
end Go.Proofs.YtpfohmboflcneaaGreatDoor
end

section
namespace Go.Proofs.YtpfohmboflcneaaGreatDoor
open Go Go.AL Go.RowKit
set_option maxRecDepth 10000
set_option maxHeartbeats 4000000
def inR (l : List Int) : List (List IV) := l.map fun v => [Ii v]
theorem inR_len (l : List Int) : (inR l).length = l.length := by simp [inR]
theorem inR_get (l : List Int) (j : Nat) (h : j < l.length) : (inR l).getD j [] = [Ii (l.getD j 0)] := by
  simp [inR, List.getD_eq_getElem?_getD, h]
theorem inR_app (l m : List Int) : inR l ++ inR m = inR (l ++ m) := by simp [inR]
theorem inR_one (s : Int) : [[Ii s]] = inR [s] := rfl
theorem inT (l : List Int) (n : Nat) (h : l.length ≤ n) : (inR l).take n = inR l := List.take_of_length_le (by rw [inR_len]; exact h)
def hasI (s : Int) (l : List Int) : Bool := l.any fun x => x == s
mutual
def vaT (l : List Int) : Tm → List Int
  | .mk n i xs => if n = [] then (if hasI i l then l else l ++ [i]) else vaTs l xs
def vaTs (l : List Int) : List Tm → List Int
  | [] => l
  | t :: r => vaTs (vaT l t) r
end
theorem vaT_eq (l : List Int) (t : Tm) : vaT l t = if t.nm = [] then (if hasI t.ix l then l else l ++ [t.ix]) else vaTs l t.xs := by cases t; rw [vaT]; rfl
mutual
theorem vaT_len : ∀ (t : Tm) (l : List Int), l.length ≤ (vaT l t).length ∧ (vaT l t).length ≤ l.length + wT t
  | .mk n i xs, l => by
    have := vaTs_len xs l
    rw [vaT, wT]
    split
    · split <;> simp
    · omega
theorem vaTs_len : ∀ (r : List Tm) (l : List Int), l.length ≤ (vaTs l r).length ∧ (vaTs l r).length ≤ l.length + wTs r
  | [], l => by rw [vaTs, wTs]; omega
  | t :: r, l => by
    have h1 := vaT_len t l
    have h2 := vaTs_len r (vaT l t)
    rw [vaTs, wTs]; omega
end
theorem vaTs_snoc (t : Tm) : ∀ (r : List Tm) (l : List Int), vaTs l (r ++ [t]) = vaT (vaTs l r) t
  | [], l => by rw [List.nil_append, vaTs, vaTs, vaTs]
  | a :: r, l => by rw [List.cons_append, vaTs, vaTs, vaTs_snoc t r]
theorem vaTs_nil0 : ∀ (r : List Tm), (∀ t ∈ r, vaT [] t = [] → vsT t = []) → vaTs [] r = [] → vsTs r = []
  | [], _, _ => by rw [vsTs]
  | t :: r, hl, h => by
    rw [vaTs] at h
    have h2 := (vaTs_len r (vaT [] t)).1
    have h3 : vaT [] t = [] := List.eq_nil_of_length_eq_zero (by rw [h] at h2; simpa using h2)
    rw [vsTs, hl t (by simp) h3]
    rw [h3] at h
    rw [vaTs_nil0 r (fun a ha => hl a (by simp [ha])) h]; rfl
theorem vaT_nil : ∀ (n : Nat) (t : Tm), wT t ≤ n → Lf t → vaT [] t = [] → vsT t = []
  | 0, t, hw, _, _ => by have := wT_pos t; omega
  | n + 1, t, hw, hl, h => by
    rw [vaT_eq] at h
    by_cases hn : t.nm = []
    · rw [if_pos hn] at h
      simp [hasI] at h
    · rw [if_neg hn] at h
      rw [vsT_eq, if_neg hn, List.nil_append]
      refine vaTs_nil0 _ (fun a ha => vaT_nil n a (by have := wT_mem ha; omega) ?_) h
      cases hl with
      | mk _ _ _ h2 => exact h2 a ha
theorem vars_spec (x : Tm) (l : List Int) (hx : tmL x) (hl : l.length + wT x ≤ 1000000) : PFn Tryz.prog 40 [tmV x, .im (.sl 1 (inR l))] (.im (.sl 1 (inR (vaT l x)))) := by
  have hx0 := tmL_eq.1 hx
  have hv := vaT_eq l x
  refine ACall.walk [0, 1, 2, 4, 5, 6, 9, 13, 22, 35] [] Tryz.func40 rfl Tryz.ntmps40 (by kernel_rfl) (by rfl) rfl fun W own I0 φ0 lay => ?_
  refine gO ?_
  refine AP.cond rfl rfl (fun hn => ?_) (fun hn => ?_)
  · have hn : x.nm = [] := by simpa [BA_toList] using hn
    rw [if_pos hn] at hv
    have hm : ∀ v, v = hasI x.ix l → hasI x.ix l = hasI x.ix (l.drop 0) := fun _ _ => rfl
    refine gO ?_
    refine AP.loop rfl (α := Nat) (fun k => [(1, .im (.sl 1 (inR l))), (2, .im (tmP x)), (5, Iv k)]) (fun _ => []) (fun k => k ≤ l.length ∧ hasI x.ix l = hasI x.ix (l.drop k)) (fun k => l.length - k) 0 ⟨by omega, rfl⟩ (sU) rfl fun k ⟨hk, hm⟩ => ?_
    rcases Nat.eq_or_lt_of_le hk with hke | hlt
    · rw [hke, List.drop_length] at hm
      have hm : hasI x.ix l = false := hm
      rw [hm, if_neg (by simp)] at hv
      rw [hv]
      refine gE @inR_len ?_
      refine cF ?_
      refine gO ?_
      refine AP.drawE 8 (Tree.node [] [1, 3, 4] [0, 5] [Tree.node [1, 3, 4] [] [2, 5] [Tree.node [3, 4] [] [5] [Tree.node [] [] [6] [Tree.node [] [7] [] []]], Tree.node [1] [] [2] [Tree.node [] [] [6] [Tree.node [] [7] [] []]]], Tree.node [1] [] [0] [Tree.node [1] [] [2] [Tree.node [] [] [6] [Tree.node [] [7] [] []]]]]) (by kernel_rfl) rfl (by kernel_rfl) (by kernel_rfl) ?_
      refine vd_node ?_
      refine sI ?_
      repeat' (first | with_reducible exact True.intro | with_reducible refine And.intro (by omega) ?_ | with_reducible refine And.intro ?_ ?_ | (refine AQ.nx rfl ?_; refine sE (an @inR_len (an @inR_app (an @inR_one (an @List.nil_append.{0} @List.length_append.{0})))) ?_) | (refine AQ.append (hnb := rfl) (rows := []) (es := 0) (by kernel_rfl) rfl rfl rfl (by rfl) Tryz.tk46 Tryz.sz3 (by show Option.map _ (zro Tryz.prog 3) = _; rw [Tryz.zr3]; rfl) Tryz.by3 (by first | rfl | (simp only [inR_len, List.length_cons, List.length_nil]; done) | (simp only [inR_len, List.length_cons, List.length_nil]; omega)) (by simp only [inR_len, List.length_cons, List.length_nil]; omega) (by simp only [inR_len, List.length_cons, List.length_nil]; omega) ?_; refine sE (an @List.nil_append.{0} @inR_len) ?_) | (refine AQ.append (hnb := rfl) (rows := inR l) (es := 0) (by kernel_rfl) rfl rfl rfl (by rfl) Tryz.tk46 Tryz.sz3 (by show Option.map _ (zro Tryz.prog 3) = _; rw [Tryz.zr3]; rfl) Tryz.by3 (by first | rfl | (simp only [inR_len, List.length_cons, List.length_nil]; done) | (simp only [inR_len, List.length_cons, List.length_nil]; omega)) (by simp only [inR_len, List.length_cons, List.length_nil]; omega) (by simp only [inR_len, List.length_cons, List.length_nil]; omega) ?_; refine sE (an @inR_app (an @inR_one (an @inR_len @List.length_append.{0}))) ?_) | refine AQ.done ?_ | (refine AQ.go (by kernel_rfl) ?_; refine sE (an @inR_len (an @inR_app (an @inR_one (an @List.nil_append.{0} @List.length_append.{0})))) ?_; repeat (with_reducible refine And.intro (by omega) ?_); refine AQ.nx rfl ?_; refine sE (an @inR_len (an @inR_app (an @inR_one (an @List.nil_append.{0} @List.length_append.{0})))) ?_))
      all_goals refine gO ?_
      all_goals refine AE.freeze 0 (el := 3) (es := 1) (rows := inR (l ++ [x.ix])) rfl (by simp only [go_sem, Nat.reduceAdd, Nat.reduceLeDiff, Nat.reduceSub, Int.reduceToNat, reduceCtorEq, inR_len, List.length_append]; first | done | trivial | omega | (simp; done) | (simp; omega)) (by simp only [go_sem, Nat.reduceAdd, Nat.reduceLeDiff, Nat.reduceSub, Int.reduceToNat, reduceCtorEq, inR_len, List.length_append]; first | done | trivial | omega | (simp; done) | (simp; omega)) ?_; simp only [go_sem, Nat.reduceAdd, Nat.reduceLeDiff, Nat.reduceSub, Int.reduceToNat, reduceCtorEq, inR_len, List.length_append]
      all_goals exact AE.ret0 rfl ⟨rfl, trivial⟩ rfl ⟨rfl, by rw [inT _ _ (by simp)]; rfl⟩
    · have hd : l.drop k = l.getD k 0 :: l.drop (k + 1) := by
        rw [List.drop_eq_getElem_cons hlt, List.getD_eq_getElem?_getD, List.getElem?_eq_getElem hlt]; rfl
      have hg := inR_get l k hlt
      have hm : hasI x.ix l = (l.getD k 0 == x.ix || hasI x.ix (l.drop (k + 1))) := by rw [hm, hd]; rfl
      clear hd
      have hw := wr (x := (k : Int) + 1) (by omega)
      refine gE @inR_len ?_
      refine cT ?_
      refine gE @hg ?_
      refine ⟨by rw [inR_len]; omega, ?_⟩
      refine gO ?_
      refine AP.cond rfl rfl (fun h5 => ?_) (fun h5 => ?_)
      · rw [h5, Bool.true_or] at hm
        rw [hm, if_pos rfl] at hv
        refine gO ?_
        exact AE.ret0 rfl ⟨rfl, trivial⟩ rfl ⟨rfl, by rw [hv]; rfl⟩
      · rw [h5, Bool.false_or] at hm
        refine gE @hw ?_
        exact AE.round (k + 1) ⟨by omega, hm⟩ (by omega) (sU) rfl
  · have hn : ¬ x.nm = [] := by simpa [BA_toList] using hn
    rw [if_neg hn] at hv
    have hwx := wT_eq x
    refine gO ?_
    refine AP.loop rfl (α := Nat) (fun k => [(1, .im (.sl 1 (inR (vaTs l (x.xs.take k))))), (2, .im (tmP x)), (6, Iv k)]) (fun _ => []) (fun k => k ≤ x.xs.length) (fun k => x.xs.length - k) 0 (by omega) (sU) rfl fun k hk => ?_
    rcases Nat.eq_or_lt_of_le hk with hke | hlt
    · subst hke
      rw [List.take_length]
      refine gE @tmR_len ?_
      refine cF ?_
      refine gO ?_
      exact AE.ret0 rfl ⟨rfl, trivial⟩ rfl ⟨rfl, by rw [hv]; rfl⟩
    · obtain ⟨u, hu, hrow⟩ := tmR_get x.xs k hlt
      have hw := wr (x := (k : Int) + 1) (by omega)
      have hsn : vaTs l (x.xs.take (k + 1)) = vaT (vaTs l (x.xs.take k)) u := by rw [take_snoc hu, vaTs_snoc]
      have hq : wTs (x.xs.take k) + wT u ≤ wTs x.xs := by
        have e : x.xs.take (k + 1) = x.xs.take k ++ [u] := take_snoc hu
        have := wTs_take x.xs (k + 1)
        rw [e, wTs_append, wTs, wTs] at this
        omega
      have hsz := (vaTs_len (x.xs.take k) l).2
      have ih := vars_spec u (vaTs l (x.xs.take k)) (tmsL_get hx0.2.2 hu) (by omega)
      refine gE @tmR_len ?_
      refine cT ?_
      refine gE @hrow ?_
      refine ⟨by rw [tmR_len]; omega, ?_⟩
      refine AQ.fn (by kernel_rfl) rfl rfl rfl (ih) rfl ?_
      refine sI ?_
      rw [← hsn]
      refine gE @hw ?_
      exact AE.round (k + 1) (by omega) (by omega) (sU) rfl
termination_by wT x
decreasing_by
  have := wTs_mem x.xs u (List.mem_of_getElem? hu)
  omega
theorem vars0_spec (x : Tm) (hx : tmL x) (hl : wT x ≤ 1000000) : PFn Tryz.prog 40 [tmV x, nilV] (.im (.sl 1 (inR (vaT [] x)))) := (vars_spec x [] hx (by simpa using hl)).argLe (cellsLe.cons2 (AVle.refl _) (cellsLe.cons2 (AVle.im (IVle.nil 1)) (cellsLe.refl _)))
end Go.Proofs.YtpfohmboflcneaaGreatDoor
end

section
namespace Go.Proofs.YtpfohmboflcneaaGreatDoor
open Go Go.AL Go.RowKit
set_option maxRecDepth 10000
set_option maxHeartbeats 4000000
theorem ckS_2 (s t : Tm) : ckS [s, t] = 0 ↔ ckC 4 9 2 3 (sgC s) = 0 ∧ ckC 4 9 2 3 (sgC t) = 0 := by
  rw [ckS, ckS, ckS]
  by_cases h : ckC 4 9 2 3 (sgC s) = 0
  · by_cases k : ckC 4 9 2 3 (sgC t) = 0
    · simp [h, k]
    · simp [h, k]
  · simp [h]
theorem cmT_ok {s t : Tm} (h : ckC 4 9 2 3 (sgC s) = 0) (k : ckC 4 9 2 3 (sgC t) = 0) : cmT s t = (cmpT s t, 0) := by
  rw [cmT, if_neg (by simpa using (ckS_2 s t).2 ⟨h, k⟩)]
theorem cmT_two {s t : Tm} (h : ((cmT s t).2 == 0) = true) : ckC 4 9 2 3 (sgC s) = 0 ∧ ckC 4 9 2 3 (sgC t) = 0 := by
  rw [cmT] at h
  by_cases hc : ckS [s, t] = 0
  · exact (ckS_2 s t).1 hc
  · rw [if_pos hc] at h
    exact absurd (by simpa using h) hc
theorem cmp_vals (s t : Tm) : cmpT s t = 0 ∨ cmpT s t = 1 ∨ cmpT s t = -1 ∨ cmpT s t = 2 := by
  rw [cmpT]; split
  · simp
  · split
    · simp
    · split <;> simp
theorem cmp_trans {s t u : Tm} (h : cmpT s t = 1) (k : cmpT t u = 1) : cmpT s u = 1 := cmpT_gt.2 (gtT_trans (cmpT_gt.1 h) (cmpT_gt.1 k))
theorem cmp_back (s t : Tm) : (cmpT s t = 1 → cmpT t s = -1) ∧ (cmpT s t = -1 → cmpT t s = 1) ∧ (cmpT s t = 2 → cmpT t s = 2) := by
  refine ⟨fun h => cmpT_lt.2 (cmpT_gt.1 h), fun h => cmpT_gt.2 (cmpT_lt.1 h), fun h => ?_⟩
  obtain ⟨h1, h2, h3⟩ := cmpT_in.1 h
  exact cmpT_in.2 ⟨fun e => h1 e.symm, h3, h2⟩
theorem cmp_zero (s t : Tm) : (cmpT s t == 0) = eqT s t := by
  cases h : eqT s t with
  | true => rw [(cmpT_eq).2 ((eqT_iff s t).1 h)]; rfl
  | false =>
    have : cmpT s t ≠ 0 := fun h0 => by rw [(eqT_iff s t).2 (cmpT_eq.1 h0)] at h; cases h
    simpa using this
theorem cmp_ground {s t : Tm} (hs : okT s = true) (ht : okT t = true) (h1 : vaT [] s = []) (h2 : vaT [] t = []) : cmpT s t ≠ 2 := by
  intro h
  obtain ⟨h3, h4, h5⟩ := cmpT_in.1 h
  rcases tot_aux _ s t (Nat.le_refl _) (okT_Lf hs) (okT_Lf ht) (vaT_nil _ s (Nat.le_refl _) (okT_Lf hs) h1) (vaT_nil _ t (Nat.le_refl _) (okT_Lf ht) h2) with h | h | h
  · exact h3 h
  · rw [h4] at h; cases h
  · rw [h5] at h; cases h
theorem ckT_sg {t : Tm} (h1 : okT t = true) (h2 : wT t ≤ 3999) (h3 : dpT t ≤ 100) : ckC 4 9 2 3 (sgC t) = 0 := by
  rw [ckC_ok (by decide) (by decide) (by decide) (by decide)]
  refine ⟨by simp [sgC], ?_, ?_, ?_⟩
  · simp only [sgC, ndC, ndL, List.map_cons, List.map_nil, List.sum_cons, List.sum_nil, wTs]; omega
  · simp only [sgC, dpC, dpTs]; omega
  · rw [List.all_eq_true]
    intro l hl
    rw [sgC, List.mem_singleton] at hl
    subst hl
    rw [okL, if_neg (show ¬ ([80] : List UInt8) = [61] from by decide), okTs, okTs, h1, show nmB (Lt.mk false [80] [t]).pd = true from (show nmB [80] = true from by decide)]
    rfl
theorem ok_arg {s a : Tm} (h : ckC 4 9 2 3 (sgC s) = 0) (ha : a ∈ s.xs) : ckC 4 9 2 3 (sgC a) = 0 := by
  obtain ⟨h1, h2, h3⟩ := ckT_0 h
  have hw := wT_mem ha
  have hd := dpT_eq s
  have hd2 := dpTs_mem s.xs a ha
  refine ckT_sg ?_ (by omega) (by omega)
  rw [okT_eq] at h1
  split at h1
  · have : s.xs = [] := by
      rw [Bool.and_eq_true] at h1
      exact List.isEmpty_iff.1 h1.1
    rw [this] at ha; cases ha
  · rw [Bool.and_eq_true] at h1
    exact okTs_mem h1.2 a ha
theorem cmp_arg {s a : Tm} (ha : a ∈ s.xs) : cmpT s a = 1 := cmpT_gt.2 (gtT_arg ha)
theorem cmp_ch (l : Bd) {s t : Tm} (hs : okT s = true) (ht : okT t = true) (h : cmpT s t = 1) : cmpT (chT (sbB l) s) (chT (sbB l) t) = 1 := cmpT_gt.2 (gtT_ch _ (okT_Lf hs) (okT_Lf ht) (cmpT_gt.1 h))
theorem smB_T {t : Tm} (h : smB (sgC t) 51 = true) : tmL t ∧ wT t ≤ 51 := by
  obtain ⟨h1, h2⟩ := smB_L (by omega) h
  have h3 := h1.2 ⟨false, [80], [t]⟩ (by rw [sgC]; exact List.mem_singleton.2 rfl)
  have h4 := h3.2.2
  rw [tmsL] at h4
  refine ⟨h4.1, ?_⟩
  simp only [sgC, ndC, ndL, List.map_cons, List.map_nil, List.sum_cons, List.sum_nil, wTs] at h2
  omega
end Go.Proofs.YtpfohmboflcneaaGreatDoor
end

section
namespace Go.Proofs.YtpfohmboflcneaaGreatDoor
open Go Go.AL Go.RowKit
set_option maxRecDepth 10000
set_option maxHeartbeats 4000000
theorem udT_L {x : Tm} {l : Bd} (hx : tmL x) (hl : bdL l) : tmL (udT l x) := by
  rw [udT]
  split
  · rename_i h
    have h3 := (ayR_L (sgC_L hx) hl).2
    rw [(ay_sg h).1] at h3
    have h4 := (h3 _ (List.mem_singleton.2 rfl)).2.2
    rw [tmsL] at h4
    exact h4.1
  · rw [tmL, tmsL]; exact ⟨by simp, by simp, trivial⟩
theorem orders_walk (s t u : Tm) (l : Bd) (hs : tmS s) (ht : tmS t) (hu : tmS u) (hl : bdL l) : PFn Tryz.prog 5 [tmV s, tmV t, tmV u, bdV l] (Bv true) := by
  have hp1 := pair_spec s t hs ht
  have hp2 := pair_spec u u hu hu
  rw [Bool.and_self] at hp2
  refine ACall.walk [0, 1, 2, 3, 4, 5, 6, 8, 9, 10, 11, 12, 13, 14, 15, 16, 17, 19, 20, 21, 22, 23, 24, 25, 26, 27, 28, 43, 77, 101, 136, 138, 139, 140, 141, 158, 173, 199] [19, 23, 25] Tryz.func5 rfl Tryz.ntmps5 (by kernel_rfl) (by rfl) rfl fun W own I0 φ0 lay => ?_
  refine gO ?_
  refine AQ.fn (by kernel_rfl) rfl rfl rfl (hp1) rfl ?_
  refine sI ?_
  refine gO ?_
  refine AQ.fn_g (by kernel_rfl) rfl rfl (fun h => by first | (simp [gs, AV.g]; done) | (simp [gs, AV.g, constAV]; done) | (simp [gs, AV.g, constAV, bw] at h ⊢; done) | (simp [gs, AV.g, constAV, bw] at h ⊢; exact h) | (simp [gs, AV.g, constAV, bw] at h ⊢; simp [h]; done) | (simp [bw] at h; done) | (simp [gs, AV.g, bw] at h ⊢; simp [h]; done) | (simp [gs, AV.g, bw] at h ⊢; exact h.1) | (simp [gs, AV.g]; rfl) | (simp [gs, AV.g, bw] at h ⊢; rfl) | (simp [gs, AV.g, bw] at h ⊢; simp [h]; rfl) | (simp [gs, AV.g, bw] at h ⊢; simp_all)) rfl (fun _ => hp2) rfl ?_
  refine sI ?_
  refine gE @bdR_len ?_
  refine AP.cond rfl rfl (fun h => ?_) (fun h => ?_)
  · refine gO ?_
    refine AQ.fn (by kernel_rfl) rfl rfl rfl (awake_spec) rfl ?_
    refine sI ?_
    refine gO ?_
    exact AE.ret0 rfl ⟨rfl, trivial⟩ rfl ⟨rfl, rfl⟩
  have h1 : smB (sgC s) 51 = true ∧ smB (sgC t) 51 = true ∧ smB (sgC u) 51 = true ∧ l.length ≤ 8 := by
    cases hA : smB (sgC s) 51 <;> cases hB : smB (sgC t) 51 <;> cases hC : smB (sgC u) 51 <;> rw [hA, hB, hC] at h <;> simp at h
    rw [bdR_len] at h
    exact ⟨rfl, rfl, rfl, by omega⟩
  obtain ⟨hsL, hsw⟩ := smB_T h1.1
  obtain ⟨htL, htw⟩ := smB_T h1.2.1
  obtain ⟨huL, huw⟩ := smB_T h1.2.2.1
  refine gO ?_
  refine AP.drawE 11 (Tree.node [] [0, 1, 3] [2] [Tree.node [0, 3] [] [4] [Tree.node [0] [] [5] [Tree.node [] [6, 7, 8, 9, 10] [] []]]]) (by kernel_rfl) rfl (by kernel_rfl) (by kernel_rfl) ?_
  refine vd_node ?_
  refine sI ?_
  refine AQ.fn (by kernel_rfl) rfl rfl rfl (conv_spec s hsL) rfl ?_
  refine sI ?_
  refine AQ.nx rfl ?_
  refine sI ?_
  refine AQ.fn (by kernel_rfl) rfl rfl rfl (conv_spec t htL) rfl ?_
  refine sI ?_
  refine AQ.nx rfl ?_
  refine sI ?_
  refine AQ.callF [] (by kernel_rfl) rfl rfl rfl rfl rfl rfl (fun k => by exact trivial) (fun k => rfl) (fun k => rfl) (cmp0_spec s t hsL htL) ?_
  refine sI ?_
  refine AQ.nx rfl ?_
  refine sI ?_
  refine AQ.done ?_
  refine gO ?_
  refine AP.drawE 11 (Tree.node [] [0, 1, 3] [2] [Tree.node [0, 3] [] [4] [Tree.node [0] [] [5] [Tree.node [] [6, 7, 8, 9, 10] [] []]]]) (by kernel_rfl) rfl (by kernel_rfl) (by kernel_rfl) ?_
  refine vd_node ?_
  refine sI ?_
  refine AQ.fn (by kernel_rfl) rfl rfl rfl (conv_spec t htL) rfl ?_
  refine sI ?_
  refine AQ.nx rfl ?_
  refine sI ?_
  refine AQ.fn (by kernel_rfl) rfl rfl rfl (conv_spec s hsL) rfl ?_
  refine sI ?_
  refine AQ.nx rfl ?_
  refine sI ?_
  refine AQ.callF [] (by kernel_rfl) rfl rfl rfl rfl rfl rfl (fun k => by exact trivial) (fun k => rfl) (fun k => rfl) (cmp0_spec t s htL hsL) ?_
  refine sI ?_
  refine AQ.nx rfl ?_
  refine sI ?_
  refine AQ.done ?_
  refine gO ?_
  refine AP.drawE 11 (Tree.node [] [0, 1, 3] [2] [Tree.node [0, 3] [] [4] [Tree.node [0] [] [5] [Tree.node [] [6, 7, 8, 9, 10] [] []]]]) (by kernel_rfl) rfl (by kernel_rfl) (by kernel_rfl) ?_
  refine vd_node ?_
  refine sI ?_
  refine AQ.fn (by kernel_rfl) rfl rfl rfl (conv_spec t htL) rfl ?_
  refine sI ?_
  refine AQ.nx rfl ?_
  refine sI ?_
  refine AQ.fn (by kernel_rfl) rfl rfl rfl (conv_spec u huL) rfl ?_
  refine sI ?_
  refine AQ.nx rfl ?_
  refine sI ?_
  refine AQ.callF [] (by kernel_rfl) rfl rfl rfl rfl rfl rfl (fun k => by exact trivial) (fun k => rfl) (fun k => rfl) (cmp0_spec t u htL huL) ?_
  refine sI ?_
  refine AQ.nx rfl ?_
  refine sI ?_
  refine AQ.done ?_
  refine gO ?_
  refine AP.cond rfl rfl (fun h2 => ?_) (fun h2 => ?_)
  · refine gO ?_
    refine AQ.fn (by kernel_rfl) rfl rfl rfl (awake_spec) rfl ?_
    refine sI ?_
    refine gO ?_
    exact AE.ret0 rfl ⟨rfl, trivial⟩ rfl ⟨rfl, rfl⟩
  have h3 : ((cmT s t).2 == 0) = true ∧ ((cmT t u).2 == 0) = true := by
    cases hA : ((cmT s t).2 == 0) <;> cases hB : ((cmT t u).2 == 0) <;> rw [hA, hB] at h2 <;> simp at h2
    exact ⟨rfl, rfl⟩
  obtain ⟨ks, kt⟩ := cmT_two h3.1
  obtain ⟨_, ku⟩ := cmT_two h3.2
  rw [cmT_ok ks kt, cmT_ok kt ks, cmT_ok kt ku]
  clear h h2 h3
  refine gO ?_
  refine AP.drawE 11 (Tree.node [] [0, 1, 3] [2] [Tree.node [0, 3] [] [4] [Tree.node [0] [] [5] [Tree.node [] [6, 7, 8, 9, 10] [] []]]]) (by kernel_rfl) rfl (by kernel_rfl) (by kernel_rfl) ?_
  refine vd_node ?_
  refine sI ?_
  refine AQ.fn (by kernel_rfl) rfl rfl rfl (conv_spec s hsL) rfl ?_
  refine sI ?_
  refine AQ.nx rfl ?_
  refine sI ?_
  refine AQ.fn (by kernel_rfl) rfl rfl rfl (conv_spec u huL) rfl ?_
  refine sI ?_
  refine AQ.nx rfl ?_
  refine sI ?_
  refine AQ.callF [] (by kernel_rfl) rfl rfl rfl rfl rfl rfl (fun k => by exact trivial) (fun k => rfl) (fun k => rfl) (cmp0_spec s u hsL huL) ?_
  refine sI ?_
  refine AQ.nx rfl ?_
  refine sI ?_
  refine AQ.done ?_
  refine gO ?_
  rw [cmT_ok ks ku]
  refine AP.cond rfl rfl (fun h2 => ?_) (fun h2 => ?_)
  · exfalso
    have hv := @cmp_trans s t u
    simp at h2
    exact h2.2 (hv h2.1.1 h2.1.2)
  clear h2
  refine gO ?_
  refine AQ.fn_g (by kernel_rfl) rfl rfl (fun h => by first | (simp [gs, AV.g]; done) | (simp [gs, AV.g, constAV]; done) | (simp [gs, AV.g, constAV, bw] at h ⊢; done) | (simp [gs, AV.g, constAV, bw] at h ⊢; exact h) | (simp [gs, AV.g, constAV, bw] at h ⊢; simp [h]; done) | (simp [bw] at h; done) | (simp [gs, AV.g, bw] at h ⊢; simp [h]; done) | (simp [gs, AV.g, bw] at h ⊢; exact h.1) | (simp [gs, AV.g]; rfl) | (simp [gs, AV.g, bw] at h ⊢; rfl) | (simp [gs, AV.g, bw] at h ⊢; simp [h]; rfl) | (simp [gs, AV.g, bw] at h ⊢; simp_all)) rfl (fun _ => sameR_spec s t hsL) rfl ?_
  refine sI ?_
  refine gO ?_
  refine AP.cond rfl rfl (fun h2 => ?_) (fun h2 => ?_)
  · exfalso
    obtain ⟨b1, b2, b3⟩ := cmp_back s t
    have b4 := cmp_zero s t
    rw [b4] at h2
    rcases cmp_vals s t with hv | hv | hv | hv
    · rw [hv] at h2; simp at h2
    · rw [hv, b1 hv] at h2; simp at h2
    · rw [hv, b2 hv] at h2; simp at h2
    · rw [hv, b3 hv] at h2; simp at h2
  clear h2
  have hs0 := tmL_eq.1 hsL
  refine gE @tmR_len ?_
  refine AP.loop rfl (α := Nat) (fun k => [(3, bdV l), (4, .im (tmP s)), (5, .im (tmP t)), (9, .fn 36 [] []), (10, Iv (cmpT s t)), (138, .im (.sl 3 (tmR s.xs))), (139, Iv s.xs.length), (140, Iv k)]) (fun _ => []) (fun k => k ≤ s.xs.length) (fun k => s.xs.length - k) 0 (by omega) (sU) rfl fun k hk => ?_
  rcases Nat.eq_or_lt_of_le hk with hke | hlt
  · refine gO ?_
    refine cF ?_
    refine gO ?_
    refine AQ.fn_g (by kernel_rfl) rfl rfl (fun h => by first | (simp [gs, AV.g]; done) | (simp [gs, AV.g, constAV]; done) | (simp [gs, AV.g, constAV, bw] at h ⊢; done) | (simp [gs, AV.g, constAV, bw] at h ⊢; exact h) | (simp [gs, AV.g, constAV, bw] at h ⊢; simp [h]; done) | (simp [bw] at h; done) | (simp [gs, AV.g, bw] at h ⊢; simp [h]; done) | (simp [gs, AV.g, bw] at h ⊢; exact h.1) | (simp [gs, AV.g]; rfl) | (simp [gs, AV.g, bw] at h ⊢; rfl) | (simp [gs, AV.g, bw] at h ⊢; simp [h]; rfl) | (simp [gs, AV.g, bw] at h ⊢; simp_all)) rfl (fun _ => vars0_spec s hsL (by omega)) rfl ?_
    refine sI ?_
    refine gE @inR_len ?_
    refine AQ.fn_g (by kernel_rfl) rfl rfl (fun h => by first | (simp [gs, AV.g]; done) | (simp [gs, AV.g, constAV]; done) | (simp [gs, AV.g, constAV, bw] at h ⊢; done) | (simp [gs, AV.g, constAV, bw] at h ⊢; exact h) | (simp [gs, AV.g, constAV, bw] at h ⊢; simp [h]; done) | (simp [bw] at h; done) | (simp [gs, AV.g, bw] at h ⊢; simp [h]; done) | (simp [gs, AV.g, bw] at h ⊢; exact h.1) | (simp [gs, AV.g]; rfl) | (simp [gs, AV.g, bw] at h ⊢; rfl) | (simp [gs, AV.g, bw] at h ⊢; simp [h]; rfl) | (simp [gs, AV.g, bw] at h ⊢; simp_all)) rfl (fun _ => vars0_spec t htL (by omega)) rfl ?_
    refine sI ?_
    refine gE @inR_len ?_
    refine AP.cond rfl rfl (fun h2 => ?_) (fun h2 => ?_)
    · exfalso
      have hG := @cmp_ground s t (ckT_0 ks).1 (ckT_0 kt).1
      simp [inR] at h2
      exact hG h2.1.2 h2.2 h2.1.1
    clear h2
    refine gO ?_
    refine AQ.fn (by kernel_rfl) rfl rfl rfl (lawBd_spec l hl) rfl ?_
    refine sI ?_
    refine gO ?_
    refine AQ.fn (by kernel_rfl) rfl rfl rfl (conv_spec s hsL) rfl ?_
    refine sI ?_
    refine AQ.fn (by kernel_rfl) rfl rfl rfl (under_fn s l hsL hl) rfl ?_
    refine sI ?_
    refine gO ?_
    refine AQ.fn (by kernel_rfl) rfl rfl rfl (conv_spec t htL) rfl ?_
    refine sI ?_
    refine AQ.fn (by kernel_rfl) rfl rfl rfl (under_fn t l htL hl) rfl ?_
    refine sI ?_
    refine gO ?_
    have hL1 := udT_L hsL hl
    have hL2 := udT_L htL hl
    refine AP.cond rfl rfl (fun h2 => ?_) (fun h2 => ?_)
    · refine gO ?_
      refine AQ.fn (by kernel_rfl) rfl rfl rfl (awake_spec) rfl ?_
      refine sI ?_
      refine gO ?_
      exact AE.retD [1, 0] rfl ⟨rfl, trivial⟩ rfl ⟨rfl, rfl⟩
    have h3 : cmpT s t = 1 ∧ ayE (sgC s) l = 0 ∧ ayE (sgC t) l = 0 := by
      simp at h2
      exact ⟨h2.1.1, h2.1.2, h2.2⟩
    have hfin : (!((cmT (udT l s) (udT l t)).2 == 0) || (cmT (udT l s) (udT l t)).1 == 1) = true := by
      cases hz : ((cmT (udT l s) (udT l t)).2 == 0) with
      | false => rfl
      | true =>
        obtain ⟨k1, k2⟩ := cmT_two hz
        have e1 : udT l s = chT (sbB l) s := by rw [udT, if_pos h3.2.1]
        have e2 : udT l t = chT (sbB l) t := by rw [udT, if_pos h3.2.2]
        have hc := cmp_ch l (ckT_0 ks).1 (ckT_0 kt).1 h3.1
        rw [← e1, ← e2] at hc
        rw [cmT_ok k1 k2, hc]
        rfl
    clear h2
    generalize udT l s = x at *
    generalize udT l t = y at *
    refine gO ?_
    refine AP.drawE 11 (Tree.node [] [0, 1, 3] [2] [Tree.node [0, 3] [] [4] [Tree.node [0] [] [5] [Tree.node [] [6, 7, 8, 9, 10] [] []]]]) (by kernel_rfl) rfl (by kernel_rfl) (by kernel_rfl) ?_
    refine vd_node ?_
    refine sI ?_
    refine AQ.fn (by kernel_rfl) rfl rfl rfl (conv_spec x hL1) rfl ?_
    refine sI ?_
    refine AQ.nx rfl ?_
    refine sI ?_
    refine AQ.fn (by kernel_rfl) rfl rfl rfl (conv_spec y hL2) rfl ?_
    refine sI ?_
    refine AQ.nx rfl ?_
    refine sI ?_
    refine AQ.callF [] (by kernel_rfl) rfl rfl rfl rfl rfl rfl (fun k => by exact trivial) (fun k => rfl) (fun k => rfl) (cmp0_spec x y hL1 hL2) ?_
    refine sI ?_
    refine AQ.nx rfl ?_
    refine sI ?_
    refine AQ.done ?_
    refine gO ?_
    refine AQ.fn_g (by kernel_rfl) rfl rfl (fun h => by first | (simp [gs, AV.g]; done) | (simp [gs, AV.g, constAV]; done) | (simp [gs, AV.g, constAV, bw] at h ⊢; done) | (simp [gs, AV.g, constAV, bw] at h ⊢; exact h) | (simp [gs, AV.g, constAV, bw] at h ⊢; simp [h]; done) | (simp [bw] at h; done) | (simp [gs, AV.g, bw] at h ⊢; simp [h]; done) | (simp [gs, AV.g, bw] at h ⊢; exact h.1) | (simp [gs, AV.g]; rfl) | (simp [gs, AV.g, bw] at h ⊢; rfl) | (simp [gs, AV.g, bw] at h ⊢; simp [h]; rfl) | (simp [gs, AV.g, bw] at h ⊢; simp_all)) rfl (fun _ => awake_spec) rfl ?_
    refine sI ?_
    refine gO ?_
    exact AE.retD [1, 0] rfl ⟨rfl, trivial⟩ rfl ⟨rfl, by rw [hfin]; rfl⟩
  · obtain ⟨a, ha, hrow⟩ := tmR_get s.xs k hlt
    have haL := tmsL_get hs0.2.2 ha
    have ham := List.mem_of_getElem? ha
    have hw := wr (x := (k : Int) + 1) (by omega)
    refine gO ?_
    refine cT ?_
    refine gE @hrow ?_
    refine ⟨by rw [tmR_len]; omega, ?_⟩
    refine gO ?_
    refine AP.drawE 11 (Tree.node [] [0, 1, 3] [2] [Tree.node [0, 3] [] [4] [Tree.node [0] [] [5] [Tree.node [] [6, 7, 8, 9, 10] [] []]]]) (by kernel_rfl) rfl (by kernel_rfl) (by kernel_rfl) ?_
    refine vd_node ?_
    refine sI ?_
    refine AQ.fn (by kernel_rfl) rfl rfl rfl (conv_spec s hsL) rfl ?_
    refine sI ?_
    refine AQ.nx rfl ?_
    refine sI ?_
    refine AQ.fn (by kernel_rfl) rfl rfl rfl (conv_spec a haL) rfl ?_
    refine sI ?_
    refine AQ.nx rfl ?_
    refine sI ?_
    refine AQ.callF [] (by kernel_rfl) rfl rfl rfl rfl rfl rfl (fun k => by exact trivial) (fun k => rfl) (fun k => rfl) (cmp0_spec s a hsL haL) ?_
    refine sI ?_
    refine AQ.nx rfl ?_
    refine sI ?_
    refine AQ.done ?_
    rw [cmT_ok ks (ok_arg ks ham), cmp_arg ham]
    refine gE @hw ?_
    refine AE.forgets [0] rfl ?_
    refine sI ?_
    exact AE.round (k + 1) (by omega) (by omega) (sU) rfl
end Go.Proofs.YtpfohmboflcneaaGreatDoor
end

section
namespace Go.Proofs.YtpfohmboflcneaaGreatDoor
open Go Go.AL Go.RowKit
theorem ba_size (l : List UInt8) : (BA l).size = l.length := by simp [BA, ByteArray.size]
theorem si_bulk (l : List UInt8) : IV.ivb (Si l) = l.length + 1 := by
  show (BA l).size + 1 = _
  rw [ba_size]
theorem ii_bulk (i : Int) : IV.ivb (Ii i) = 1 := rfl
mutual
theorem tm_bulk : ∀ (t : Tm), IV.ivbs (tmC t) ≤ 1048576 → tmL t
  | .mk nm ix xs, h => by
    rw [tmC] at h
    simp only [IV.ivbs, ii_bulk, IV.ivb, ba_size] at h
    obtain ⟨h1, h2⟩ := tmR_bulk xs (by omega)
    rw [tmL]
    exact ⟨by omega, by omega, h2⟩
theorem tmR_bulk : ∀ (l : List Tm), IV.ivbss (tmR l) ≤ 1048576 → l.length ≤ IV.ivbss (tmR l) ∧ tmsL l
  | [], _ => by rw [tmsL]; exact ⟨by simp, trivial⟩
  | t :: l, h => by
    rw [tmR, IV.ivbss] at h
    obtain ⟨h1, h2⟩ := tmR_bulk l (by omega)
    have h3 := tm_bulk t (by omega)
    have h4 : 1 ≤ IV.ivbs (tmC t) := by
      rw [tmC_eq]; simp only [IV.ivbs, si_bulk]; omega
    rw [tmsL, tmR, IV.ivbss, List.length_cons]
    exact ⟨by omega, h3, h2⟩
end
theorem bdR_bulk : ∀ (l : Bd), IV.ivbss (bdR l) ≤ 1048576 → l.length ≤ IV.ivbss (bdR l) ∧ ∀ b ∈ l, tmL b.2
  | [], _ => ⟨by simp, fun b hb => by cases hb⟩
  | b :: l, h => by
    have e : bdR (b :: l) = [Ii b.1, Si b.2.nm, Ii b.2.ix, .sl 3 (tmR b.2.xs)] :: bdR l := rfl
    rw [e, IV.ivbss] at h ⊢
    obtain ⟨h1, h2⟩ := bdR_bulk l (by omega)
    have h3 := tm_bulk b.2 (by
      rw [tmC_eq]
      simp only [IV.ivbs] at h ⊢
      omega)
    refine ⟨by rw [List.length_cons]; simp only [IV.ivbs, ii_bulk]; omega, fun x hx => ?_⟩
    rcases List.mem_cons.1 hx with rfl | hx
    · exact h3
    · exact h2 x hx
theorem bd_bulk {l : Bd} (h : IV.ivbss (bdR l) ≤ 1048576) : bdL l := by
  obtain ⟨h1, h2⟩ := bdR_bulk l h
  exact ⟨by omega, h2⟩
end Go.Proofs.YtpfohmboflcneaaGreatDoor
end
