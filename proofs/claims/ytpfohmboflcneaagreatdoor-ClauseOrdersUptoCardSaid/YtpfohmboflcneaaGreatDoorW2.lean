import Derived.Test.YtpfohmboflcneaaGreatDoorW1
import Derived.Lib.Strings
import Derived.Lib.Walk
import Derived.Lib.BufferWrite
import Derived.Lib.UnsafeStr
import Derived.Lib.Hide
import Derived.Laws.MakeOwn
import Derived.Lib.Builder
import Derived.Shelf.LaysM
import Derived.Shelf.Strconv.Itoa3
import Derived.Shelf.LaysC
import Derived.Shelf.Strconv.AtoiAll
import Derived.Shelf.Strconv.ErrVarAll
import Derived.Shelf.Strings.Prefix
import Derived.Lib.AtoiErrMem
set_option linter.unusedSimpArgs false
set_option linter.unusedVariables false
set_option linter.unnecessarySimpa false
section
namespace Go.Proofs.YtpfohmboflcneaaGreatDoor
open Go Go.AL Go.RowKit
set_option maxRecDepth 10000
set_option maxHeartbeats 4000000
theorem var0_spec (n : Int) : PFn Tryz.prog 95 [Iv n] (.agg [Sv [], Iv n, nilV]) := by
  refine ACall.walk [0, 2] [2] Tryz.func95 rfl Tryz.ntmps95 (by kernel_rfl) (by rfl) rfl fun W own I0 φ0 lay => ?_
  refine gO ?_
  exact AE.retD [0] rfl ⟨⟨rfl, Nat.le_of_ble_eq_true (by kernel_rfl)⟩, trivial⟩ rfl ⟨rfl, rfl⟩
theorem var_spec (n : Int) : PFn Tryz.prog 95 [Iv n] (tmV (vrT n)) := (show PFn Tryz.prog 95 [Iv n] (.agg [Sv [], Iv n, .im (.sl 3 [])]) from PFn.told (var0_spec n) (by repeat' (first | with_reducible exact AVle.refl _ | with_reducible exact IVle.refl _ | exact IVle.nil _ | with_reducible exact cellsLe.refl _ | with_reducible exact rowLe.refl _ | with_reducible exact rowsLe.refl _ | refine cellsLe.cons2 ?_ ?_ | refine AVle.agg ?_ | refine AVle.im ?_ | refine IVle.sl ?_ | refine rowsLe.cons ?_ ?_ | refine rowLe.cons ?_ ?_)))
theorem change_pure (f : FuncId) (g : Int → Tm) (hg : ∀ n, PFn Tryz.prog f [Iv n] (tmV (g n))) (x : Tm) (hs : tmL x) : PFn Tryz.prog 140 [tmV x, .fn f [] []] (tmV (chT g x)) := by
  have hs0 := tmL_eq.1 hs
  have hc := chT_eq g x
  refine ACall.walk [0, 1, 2, 4, 5, 7, 10, 19, 20, 21, 22] [4, 5, 7] Tryz.func140 rfl Tryz.ntmps140 (by kernel_rfl) (by rfl) rfl fun W own I0 φ0 lay => ?_
  refine gO ?_
  refine AP.cond rfl rfl (fun h => ?_) (fun h => ?_)
  · rw [if_pos (by simpa using h)] at hc
    refine gO ?_
    refine AQ.callF [] (by kernel_rfl) rfl rfl rfl rfl rfl rfl (fun k => by exact trivial) (fun k => rfl) (fun k => rfl) (hg x.ix) ?_
    refine sI ?_
    refine gO ?_
    exact AE.retD [0] rfl ⟨⟨rfl, Nat.le_of_ble_eq_true (by kernel_rfl)⟩, trivial⟩ rfl ⟨rfl, by rw [hc]; rfl⟩
  rw [if_neg (by simpa using h)] at hc
  refine gE @tmR_len ?_
  rw [chTs_map] at hc
  refine AP.ownCell 1 2 71 3 rfl rfl ?_
  refine sI ?_
  refine AP.loop rfl (α := Nat) (fun k => [(1, .fn f [] []), (4, .ob 0 0), (5, .ob 1 0), (19, .im (.sl 3 (tmR x.xs))), (20, Iv x.xs.length), (21, Iv k)]) (fun k => [(2, .vec 71 3 (tmR ((x.xs.take k).map (chT g)))), (1, .var 71 [Sv x.nm, Iv 0, .os 2 3 0 k]), (0, .var 71 [Sv [], Iv 0, nilV])]) (fun k => k ≤ x.xs.length) (fun k => x.xs.length - k) 0 (by omega) (sU) rfl fun k hk => ?_
  rcases Nat.eq_or_lt_of_le hk with hke | hlt
  · subst hke
    rw [List.take_length]
    refine gE @tmR_len ?_
    refine cF ?_
    refine gO ?_
    refine AE.freeze 2 (el := 71) (es := 3) (rows := tmR (x.xs.map (chT g))) rfl (by simp only [go_sem, Nat.reduceAdd, Nat.reduceLeDiff, Nat.reduceSub, Int.reduceToNat, reduceCtorEq, tmR_len, List.length_map]; first | done | trivial | omega | (simp; done) | (simp; omega)) (by simp only [go_sem, Nat.reduceAdd, Nat.reduceLeDiff, Nat.reduceSub, Int.reduceToNat, reduceCtorEq, tmR_len, List.length_map]; first | done | trivial | omega | (simp; done) | (simp; omega)) ?_; simp only [go_sem, Nat.reduceAdd, Nat.reduceLeDiff, Nat.reduceSub, Int.reduceToNat, reduceCtorEq, tmR_len, List.length_map]
    rw [List.take_of_length_le (by rw [tmR_len, List.length_map]; omega)]
    exact AE.retD [1, 0] rfl ⟨⟨rfl, Nat.le_of_ble_eq_true (by kernel_rfl)⟩, trivial⟩ rfl ⟨rfl, by rw [hc]; rfl⟩
  · obtain ⟨u, hu, hrow⟩ := tmR_get x.xs k hlt
    have hw := wr (x := (k : Int) + 1) (by omega)
    have htk := take_len (l := x.xs) (k := k) (by omega)
    have ih := change_pure f g hg u (tmsL_get hs0.2.2 hu)
    have hsn := map_snoc (chT g) hu
    obtain ⟨w, hwe⟩ : ∃ w, chT g u = w := ⟨_, rfl⟩
    rw [hwe] at ih hsn
    refine gE @tmR_len ?_
    refine cT ?_
    refine gE @hrow ?_
    refine ⟨by rw [tmR_len]; omega, ?_⟩
    refine gO ?_
    refine AP.drawE 9 (Tree.node [] [0, 1, 2, 3] [4] [Tree.node [0, 1] [] [5] [Tree.node [0, 1] [] [6] [Tree.node [] [7] [8] [Tree.node [] [] [] []]]]]) (by kernel_rfl) rfl (by kernel_rfl) (by kernel_rfl) ?_
    refine vd_node ?_
    refine sI ?_
    refine AQ.fn (by kernel_rfl) rfl rfl rfl (ih) rfl ?_
    refine sI ?_
    refine AQ.nx rfl ?_
    refine sI ?_
    refine AQ.go (by kernel_rfl) ?_
    refine sI ?_
    refine AQ.nx rfl ?_
    refine sI ?_
    refine AQ.kill 2 ?_
    refine sI ?_
    refine AQ.append (hnb := rfl) (rows := tmR ((x.xs.take k).map (chT g))) (es := 2) (by kernel_rfl) rfl rfl rfl (by rfl) Tryz.tk69 Tryz.sz71 (by show Option.map _ (zro Tryz.prog 71) = _; rw [Tryz.zr71]; rfl) Tryz.by71 (by first | rfl | (simp only [tmR_len, List.length_map, htk, List.length_cons, List.length_nil]; done) | (simp only [tmR_len, List.length_map, htk, List.length_cons, List.length_nil]; omega)) (by simp only [tmR_len, List.length_map, htk, List.length_cons, List.length_nil]; omega) (by simp only [tmR_len, List.length_map, htk, List.length_cons, List.length_nil]; omega) ?_
    refine sI ?_
    refine AQ.nx rfl ?_
    refine sI ?_
    refine AQ.go (by kernel_rfl) ?_
    refine sI ?_
    refine AQ.nx rfl ?_
    refine sI ?_
    refine AQ.done ?_
    refine gE @hw ?_
    refine AE.forgets [3] rfl ?_
    refine sI ?_
    refine AE.round (k + 1) (by omega) (by omega) (sU) ?_
    rw [hsn, tmR_add, tmR_len, List.length_map, htk]
termination_by SizeOf.sizeOf x
decreasing_by exact tm_mem hu
theorem copied_spec (x : Tm) (hs : tmL x) : PFn Tryz.prog 108 [tmV x] (tmV (chT vrT x)) := by
  have h := change_pure 95 vrT var_spec x hs
  refine ACall.walk [0, 1, 2] [2] Tryz.func108 rfl Tryz.ntmps108 (by kernel_rfl) (by rfl) rfl fun W own I0 φ0 lay => ?_
  refine gO ?_
  refine AQ.fn (by kernel_rfl) rfl rfl rfl (h) rfl ?_
  refine sI ?_
  refine gO ?_
  exact AE.retD [0] rfl ⟨⟨rfl, Nat.le_of_ble_eq_true (by kernel_rfl)⟩, trivial⟩ rfl ⟨rfl, rfl⟩
end Go.Proofs.YtpfohmboflcneaaGreatDoor
end

section
namespace Go.Proofs.YtpfohmboflcneaaGreatDoor
open Go Go.AL Go.RowKit
set_option maxRecDepth 10000
set_option maxHeartbeats 4000000
theorem lkB_I : ∀ (l : Bd) (v : Int), lkB l v = lkI l v
  | [], v => rfl
  | b :: l, v => by rw [lkB, lkI, lkB_I l v]
theorem u158 : Tryz.prog.underlying 158 = some (.map 3 71) := by kernel_rfl
theorem z71 : (Tryz.prog.info? 71).bind (·.zero) = some (.agg #[.string (BA []), .int .i64 0, .slice none 0 0]) := by kernel_rfl
theorem z71_den (w : World) (φ : Phi) (I : Nat → Prop) : AV.den w φ I (.agg [Sv [], Iv 0, nilV]) (.agg #[.string (BA []), .int .i64 0, .slice none 0 0]) := by
  simp only [AV.den, AV.dens, IV.den]
  exact ⟨[_, _, _], ⟨_, _, rfl, ⟨rfl, rfl⟩, _, _, rfl, ⟨rfl, rfl⟩, _, _, rfl, ⟨rfl, rfl⟩, rfl⟩, rfl, by simp [Value.oneCell']⟩
theorem putI_new {α : Type} {m : List (Int × α)} {v : Int} (x : α) (h : ixI m v = none) : putI m v x = m ++ [(v, x)] := by rw [putI, h]
theorem bindings_spec (l : Bd) (hs : bdL l) : ACall Tryz.prog 104 [bdV l] [] (fun r H' => (bnE [] l = 0 ∧ ndI l ∧ r = .tup [.mp 0, Iv 0] ∧ H' = [(0, .var (.map (kI l)) (vT l))]) ∨ (bnE [] l ≠ 0 ∧ r = .tup [.im (.v (.map none)), Iv (bnE [] l)] ∧ H' = [])) := by
  have hl := hs.1
  refine ACall.walk [0, 2, 3, 4, 6, 8, 9, 11, 12, 13, 14, 24, 33, 40] [6, 7] Tryz.func104 rfl Tryz.ntmps104 (by kernel_rfl) (by rfl) rfl fun W own I0 φ0 lay => ?_
  refine gO ?_
  refine AQ.mmake (by kernel_rfl) ?_
  refine sI ?_
  refine gE @bdR_len ?_
  refine AP.loop rfl (α := Nat) (fun k => [(4, .mp 0), (11, bdV l), (12, Iv l.length), (13, Iv k)]) (fun k => [(0, .var (.map (kI (l.take k))) (vT (l.take k)))]) (fun k => k ≤ l.length ∧ ndI (l.take k) ∧ bnE [] l = bnE (l.take k) (l.drop k)) (fun k => l.length - k) 0 ⟨by omega, List.nodup_nil, rfl⟩ (sU) rfl fun k ⟨hk, hnd, hm⟩ => ?_
  rcases Nat.eq_or_lt_of_le hk with hke | hlt
  · rw [hke, List.take_length, List.drop_length, bnE] at hm
    rw [hke, List.take_length] at hnd
    subst hke
    rw [List.take_length]
    refine gO ?_
    refine cF ?_
    refine gO ?_
    exact AE.retD [] rfl ⟨rfl, rfl, trivial⟩ rfl (.inl ⟨hm, hnd, rfl, rfl⟩)
  · obtain ⟨u, hu, hrow⟩ := bdR_get l k hlt
    have hw := wr (x := (k : Int) + 1) (by omega)
    rw [bnE_drop hu, lkB_I] at hm
    have hul := hs.2 u (List.mem_of_getElem? hu)
    have hct := checkTerms_spec [u.2] (by simp) (fun t ht => by rw [List.mem_singleton] at ht; subst ht; exact hul)
    have e : (.im (.sl 3 (tmR [u.2])) : AV) = .im (.sl 3 [[Si u.2.nm, Ii u.2.ix, .sl 3 (tmR u.2.xs)]]) := by simp only [tmR, tmC_eq]
    rw [e] at hct
    have hc1 : ckS [u.2] = ckC 4 9 2 3 (sgC u.2) := by
      rw [ckS, ckS]
      by_cases h : ckC 4 9 2 3 (sgC u.2) ≠ 0
      · rw [if_pos h]
      · rw [if_neg h]; exact (Classical.byContradiction fun hc => h (fun h2 => hc h2.symm))
    rw [hc1] at hct
    refine gE @bdR_len ?_
    refine cT ?_
    refine gE (an @hrow @bdR_len) ?_
    cases hq : ixI (l.take k) u.1 with
    | some j =>
      obtain ⟨x, h1, h2⟩ := ixI_some hq
      rw [h2] at hm
      refine AQ.lookF j (by kernel_rfl) rfl rfl rfl u158 u3 (kI_ok _) rfl (List.mem_of_getElem? (show (kI (l.take k))[j]? = some (.int .i64 u.1) from kI_get (p := (u.1, x)) h1)) (fun i hi => kI_uniq hnd h1 hi) (show (vT (l.take k))[j]? = some (tmV x) from vT_get (p := (u.1, x)) h1) ?_
      refine sI ?_
      refine gO ?_
      refine AP.cond rfl rfl (fun h3 => ?_) (fun h3 => ?_)
      · rw [if_pos (by simp at h3; omega)] at hm
        refine gO ?_
        exact AE.retD [2, 1, 0] rfl ⟨rfl, rfl, trivial⟩ (by simp only [go_sem, Nat.reduceAdd, Nat.reduceLeDiff, Nat.reduceSub, Int.reduceToNat, reduceCtorEq, dropOk, noMen, AV.mens, AV.men, mens_vT, Bool.or_false]; first | done | rfl) (.inr ⟨by rw [hm]; decide, by rw [hm]; rfl, rfl⟩)
      · rw [if_neg (by simp at h3; omega), if_pos (show (some x).isSome = true from rfl)] at hm
        refine gO ?_
        exact AE.retD [2, 1, 0] rfl ⟨rfl, rfl, trivial⟩ (by simp only [go_sem, Nat.reduceAdd, Nat.reduceLeDiff, Nat.reduceSub, Int.reduceToNat, reduceCtorEq, dropOk, noMen, AV.mens, AV.men, mens_vT, Bool.or_false]; first | done | rfl) (.inr ⟨by rw [hm]; decide, by rw [hm]; rfl, rfl⟩)
    | none =>
      have hnd2 : ndI (l.take (k + 1)) := by
        have := ndI_put hnd u.1 u.2
        rw [putI_new _ hq] at this
        rw [take_snoc hu]; exact this
      rw [(ixI_none hq).1] at hm
      refine AQ.lookZ (.agg [Sv [], Iv 0, nilV]) (by kernel_rfl) rfl rfl rfl u158 u3 (kI_ok _) rfl (kI_not hq) z71 z71_den ?_
      refine sI ?_
      refine gO ?_
      refine AP.cond rfl rfl (fun h3 => ?_) (fun h3 => ?_)
      · rw [if_pos (by simp at h3; omega)] at hm
        refine gO ?_
        exact AE.retD [2, 1, 0] rfl ⟨rfl, rfl, trivial⟩ (by simp only [go_sem, Nat.reduceAdd, Nat.reduceLeDiff, Nat.reduceSub, Int.reduceToNat, reduceCtorEq, dropOk, noMen, AV.mens, AV.men, mens_vT, Bool.or_false]; first | done | rfl) (.inr ⟨by rw [hm]; decide, by rw [hm]; rfl, rfl⟩)
      · rw [if_neg (by simp at h3; omega), if_neg (by simp)] at hm
        refine gO ?_
        refine AQ.fn (by kernel_rfl) rfl rfl rfl (hct) rfl ?_
        refine sI ?_
        refine gO ?_
        refine AP.cond rfl rfl (fun h4 => ?_) (fun h4 => ?_)
        · have h4 : ckC 4 9 2 3 (sgC u.2) ≠ 0 := by simpa using h4
          rw [if_pos h4] at hm
          refine gO ?_
          exact AE.retD [2, 1, 0] rfl ⟨rfl, rfl, trivial⟩ (by simp only [go_sem, Nat.reduceAdd, Nat.reduceLeDiff, Nat.reduceSub, Int.reduceToNat, reduceCtorEq, dropOk, noMen, AV.mens, AV.men, mens_vT, Bool.or_false]; first | done | rfl) (.inr ⟨by rw [hm]; exact h4, by rw [hm]; rfl, rfl⟩)
        · have h4 : ¬ ckC 4 9 2 3 (sgC u.2) ≠ 0 := by simpa using h4
          rw [if_neg h4] at hm
          refine gO ?_
          refine AQ.msetN (by kernel_rfl) rfl rfl rfl rfl u158 u3 (kI_ok _) rfl (kI_not hq) ?_
          refine sI ?_
          refine gE @hw ?_
          have e1 : vT (l.take k) ++ [tmV u.2] = vT (l.take (k + 1)) := by rw [take_snoc hu]; simp only [vT, List.map_append]; rfl
          have e2 : kI (l.take k) ++ [.int .i64 u.1] = kI (l.take (k + 1)) := by rw [take_snoc hu]; simp only [kI, List.map_append]; rfl
          rw [e1, e2]
          refine AE.forgets [2, 1] (by simp only [go_sem, Nat.reduceAdd, Nat.reduceLeDiff, Nat.reduceSub, Int.reduceToNat, reduceCtorEq, dropOk, noMen, AV.mens, AV.men, mens_vT, Bool.or_false]; first | done | rfl) ?_
          refine sI ?_
          exact AE.round (k + 1) ⟨by omega, hnd2, hm⟩ (by omega) (sU) rfl
end Go.Proofs.YtpfohmboflcneaaGreatDoor
end

section
namespace Go.Proofs.YtpfohmboflcneaaGreatDoor
open Go Go.AL Go.RowKit
set_option maxRecDepth 10000
set_option maxHeartbeats 4000000
def szO (t : Tm) : Int × Int := (wT t, dpT t)
theorem u161 : Tryz.prog.underlying 161 = some (.map 3 164) := by kernel_rfl
theorem stT_szO (t : Tm) (h : wT t ≤ 4000) : stT t 1 (0, 0) = szO t := by
  rw [stT_A t 1 0 0 (by omega), szO]
  have : (0 : Int) ≤ dpT t := by omega
  simp only [Prod.mk.injEq]; omega
theorem ixI_of_not {α : Type} {m : List (Int × α)} {v : Int} (h : v ∉ m.map (·.1)) : ixI m v = none := by
  cases hq : ixI m v with
  | none => rfl
  | some j =>
    obtain ⟨x, h1, _⟩ := ixI_some hq
    exact absurd (List.mem_map.2 ⟨(v, x), List.mem_of_getElem? h1, rfl⟩) h
theorem weights_spec (l : Bd) (hnd : ndI l) (hs : bdL l) (hsz : ∀ p ∈ l, wT p.2 ≤ 4000) : ACall Tryz.prog 105 [.mp 0] [(0, .var (.map (kI l)) (vT l))] (fun r H' => ∃ m, ndI m ∧ (∀ v, lkI m v = (lkI l v).map szO) ∧ r = .mp 1 ∧ H' = [(1, .var (.map (kI m)) (vZ m)), (0, .var (.map (kI l)) (vT l))]) := by
  refine ACall.walk [0, 2, 3, 4, 5, 6, 9, 11] [5, 6] Tryz.func105 rfl Tryz.ntmps105 (by kernel_rfl) (by rfl) rfl fun W own I0 φ0 lay => ?_
  refine gO ?_
  refine AQ.mmake (by kernel_rfl) ?_
  refine sI ?_
  refine gO ?_
  refine AQ.mrange (by kernel_rfl) rfl rfl u158 fun bs clock hst => ?_
  have hcl : (vT l).length = bs.length := by rw [← hst.len, vT_len, kI_len]
  have hone := kI_one l
  refine sI ?_
  refine gO ?_
  refine AP.loop rfl (α := List Nat × List (Int × Int × Int)) (fun _ => [(3, .mp 1), (9, .ob 2 0)]) (fun s => [(2, .var (.raw (iterO clock s.1 clock)) [.mp 0]), (1, .var (.map (kI s.2)) (vZ s.2)), (0, .var (.raw (mapO (kI l) bs clock)) (vT l))])
    (fun s => ndI s.2 ∧ (∀ p ∈ s.2, ∃ t, (p.1, t) ∈ l ∧ p.2 = szO t) ∧ ∀ (j n : Nat) (p : Int × Tm), bs[j]? = some n → l[j]? = some p → (n ∈ s.1 ↔ p.1 ∈ s.2.map (·.1))) (fun s => unseen bs s.1) ([], []) ⟨List.nodup_nil, fun p hp => (by cases hp), fun j n p _ _ => ⟨fun h => (by cases h), fun h => (by cases h)⟩⟩ (sU) rfl fun ⟨seen, m⟩ ⟨h1, h2, h3⟩ => ?_
  simp only at h1 h2 h3 ⊢
  refine gO ?_
  refine AQ.mnext (by kernel_rfl) rfl rfl rfl hst rfl rfl hone hcl (fun hall => ?_) (fun j n key y hbn hns hkey hy => ?_)
  · have hlk : ∀ v, lkI m v = (lkI l v).map szO := fun v => by
      cases hq : lkI m v with
      | some y =>
        obtain ⟨t, ht, e⟩ := h2 _ (lkI_mem hq)
        rw [ndI_lk hnd ht]
        simp only at e
        rw [e]; rfl
      | none =>
        cases hp : lkI l v with
        | none => rfl
        | some t =>
          obtain ⟨j, _, hj⟩ := lkI_get hp
          have hjl : j < bs.length := by have := (List.getElem?_eq_some_iff.1 hj).1; rw [← hst.len, kI_len]; exact this
          have := (h3 j bs[j] (v, t) (List.getElem?_eq_getElem hjl) hj).1 (hall _ (List.getElem_mem _))
          rw [lkI_none] at hq
          exact absurd this (ixI_none hq).2
    refine sI ?_
    refine gO ?_
    refine AE.mback 0 rfl hst hcl ?_
    refine sI ?_
    exact AE.retD [2] rfl ⟨rfl, trivial⟩ (by simp only [go_sem, Nat.reduceAdd, Nat.reduceLeDiff, Nat.reduceSub, Int.reduceToNat, reduceCtorEq, dropOk, noMen, AV.mens, AV.men, mens_vT, mens_vZ, Bool.or_false]; first | done | rfl) ⟨m, h1, hlk, rfl, rfl⟩
  · obtain ⟨p, hp, rfl⟩ := kI_inv hkey
    have hy2 := vT_get hp
    rw [hy] at hy2
    cases hy2
    have hpl := List.mem_of_getElem? hp
    have hsp := sizer_spec p.2 1 0 0 (hs.2 p hpl) (by omega) (by omega)
    rw [stT_szO p.2 (hsz p hpl)] at hsp
    have hnk : p.1 ∉ m.map (·.1) := fun hc => hns ((h3 j n p hbn hp).2 hc)
    have hq := ixI_of_not hnk
    refine sI ?_
    refine gO ?_
    refine AQ.mentry (by kernel_rfl) rfl rfl rfl hst hone hcl hbn hkey hy ?_
    refine sI ?_
    refine gO ?_
    refine AQ.callH [(0, 4)] (by kernel_rfl) rfl rfl rfl rfl rfl rfl (by exact ⟨rfl, trivial⟩) rfl hsp fun r' H' ⟨e1, e2⟩ => ?_
    subst e1; subst e2
    refine sH ?_
    refine gO ?_
    refine AQ.msetN (by kernel_rfl) rfl rfl rfl rfl u161 u3 (kI_ok _) rfl (kI_not hq) ?_
    refine sI ?_
    refine gO ?_
    have e1 : vZ m ++ [.agg [Iv (szO p.2).1, Iv (szO p.2).2]] = vZ (m ++ [(p.1, szO p.2)]) := by simp only [vZ, List.map_append]; rfl
    have e2 : kI m ++ [.int .i64 p.1] = kI (m ++ [(p.1, szO p.2)]) := by simp only [kI, List.map_append]; rfl
    rw [e1, e2]
    refine AE.forgets [4, 3] (by simp only [go_sem, Nat.reduceAdd, Nat.reduceLeDiff, Nat.reduceSub, Int.reduceToNat, reduceCtorEq, dropOk, noMen, AV.mens, AV.men, mens_vT, mens_vZ, Bool.or_false]; first | done | rfl) ?_
    refine sI ?_
    have hnd2 : ndI (m ++ [(p.1, szO p.2)]) := by
      have := ndI_put h1 p.1 (szO p.2)
      rw [putI_new _ hq] at this
      exact this
    refine AE.round (seen ++ [n], m ++ [(p.1, szO p.2)]) ⟨hnd2, fun q hq2 => ?_, fun j' n' p' h7 h9 => ?_⟩ (unseen_lt (List.mem_of_getElem? hbn) hns) (sU) rfl
    · rcases List.mem_append.1 hq2 with h | h
      · exact h2 q h
      · rw [List.mem_singleton] at h
        subst h
        exact ⟨p.2, hpl, rfl⟩
    · have h8 := h3 j' n' p' h7 h9
      simp only [List.map_append, List.mem_append, List.map_cons, List.map_nil, List.mem_singleton]
      rw [h8]
      constructor
      · rintro (h | h)
        · exact .inl h
        · subst h
          have e2 : j' = j := by
            obtain ⟨a1, b1⟩ := List.getElem?_eq_some_iff.1 h7
            obtain ⟨a2, b2⟩ := List.getElem?_eq_some_iff.1 hbn
            exact (List.getElem_inj hst.nd).1 (b1.trans b2.symm)
          subst e2
          rw [hp] at h9; cases h9
          exact .inr rfl
      · rintro (h | h)
        · exact .inl h
        · right
          have e1 : (l.map (·.1))[j']? = some p'.1 := by rw [List.getElem?_map, h9]; rfl
          have e2 : (l.map (·.1))[j]? = some p.1 := by rw [List.getElem?_map, hp]; rfl
          rw [h] at e1
          obtain ⟨a1, b1⟩ := List.getElem?_eq_some_iff.1 e1
          obtain ⟨a2, b2⟩ := List.getElem?_eq_some_iff.1 e2
          have := (List.getElem_inj hnd).1 (b1.trans b2.symm)
          subst this
          rw [hbn] at h7; cases h7; rfl
end Go.Proofs.YtpfohmboflcneaaGreatDoor
end

section
namespace Go.Proofs.YtpfohmboflcneaaGreatDoor
open Go Go.AL Go.RowKit
set_option maxRecDepth 10000
set_option maxHeartbeats 4000000
theorem z164 : (Tryz.prog.info? 164).bind (·.zero) = some (.agg #[.int .i64 0, .int .i64 0]) := by kernel_rfl
theorem z164_den (w : World) (φ : Phi) (I : Nat → Prop) : AV.den w φ I (.agg [Iv 0, Iv 0]) (.agg #[.int .i64 0, .int .i64 0]) := by
  simp only [AV.den, AV.dens, IV.den]
  exact ⟨[_, _], ⟨_, _, rfl, ⟨rfl, rfl⟩, _, _, rfl, ⟨rfl, rfl⟩, rfl⟩, rfl, by simp [Value.oneCell']⟩
abbrev gwH (m : List (Int × Int × Int)) : Heap := [(0, .var (.map (kI m)) (vZ m))]
theorem grN_eq0 (w : Int → Nat) (t : Tm) : grN w t = if t.nm = [] then w t.ix else grNs w 1 t.xs := by cases t; rw [grN]; rfl
theorem grD_eq0 (w : Int → Nat) (t : Tm) : grD w t = if t.nm = [] then w t.ix else grDs w 1 t.xs := by cases t; rw [grD]; rfl
theorem grNs_append (w : Int → Nat) : ∀ (l m : List Tm) (a : Nat), grNs w a (l ++ m) = grNs w (grNs w a l) m
  | [], m, a => by rw [List.nil_append, grNs]
  | t :: l, m, a => by rw [List.cons_append, grNs, grNs, grNs_append w l m]
theorem grDs_append (w : Int → Nat) : ∀ (l m : List Tm) (a : Nat), grDs w a (l ++ m) = grDs w (grDs w a l) m
  | [], m, a => by rw [List.nil_append, grDs]
  | t :: l, m, a => by rw [List.cons_append, grDs, grDs, grDs_append w l m]
theorem grNs_snoc (w : Int → Nat) {l : List Tm} {k : Nat} {u : Tm} (h : l[k]? = some u) (a : Nat) : grNs w a (l.take (k + 1)) = min (grNs w a (l.take k) + grN w u) 4001 := by rw [take_snoc h, grNs_append, grNs, grNs]
theorem grDs_snoc (w : Int → Nat) {l : List Tm} {k : Nat} {u : Tm} (h : l[k]? = some u) (a : Nat) : grDs w a (l.take (k + 1)) = max (grDs w a (l.take k)) (grD w u + 1) := by rw [take_snoc h, grDs_append, grDs, grDs]
theorem grNs_bnd (w : Int → Nat) : ∀ (l : List Tm) (a : Nat), a ≤ 4001 → grNs w a l ≤ 4001
  | [], a, h => by rw [grNs]; exact h
  | t :: l, a, h => by rw [grNs]; exact grNs_bnd w l _ (by omega)
theorem grN_bnd (w : Int → Nat) (hw : ∀ v, w v ≤ 4001) (t : Tm) : grN w t ≤ 4001 := by
  rw [grN_eq0]
  split
  · exact hw _
  · exact grNs_bnd w _ 1 (by omega)
mutual
theorem grD_bnd (w : Int → Nat) (D : Nat) (hw : ∀ v, w v ≤ D) : ∀ t : Tm, grD w t ≤ D + wT t
  | .mk n i xs => by
    rw [grD, wT]
    split
    · have := hw i; omega
    · have := grDs_bnd w D hw xs 1; omega
theorem grDs_bnd (w : Int → Nat) (D : Nat) (hw : ∀ v, w v ≤ D) : ∀ (l : List Tm) (a : Nat), grDs w a l ≤ max a (D + 1 + wTs l)
  | [], a => by rw [grDs]; omega
  | t :: l, a => by
    have h1 := grD_bnd w D hw t
    have h2 := grDs_bnd w D hw l (max a (grD w t + 1))
    rw [grDs, wTs]; omega
end
theorem wTs_take : ∀ (l : List Tm) (k : Nat), wTs (l.take k) ≤ wTs l
  | [], k => by rw [List.take_nil]; exact Nat.le_refl _
  | t :: l, 0 => by rw [List.take_zero, wTs]; omega
  | t :: l, k + 1 => by rw [List.take_succ_cons, wTs, wTs]; have := wTs_take l k; omega
theorem grown_spec (m : List (Int × Int × Int)) (wf df : Int → Nat) (hnd : ndI m) (hm : ∀ v, (lkI m v).getD (1, 1) = ((wf v : Int), (df v : Int))) (hw4 : ∀ v, wf v ≤ 4001) (hd4 : ∀ v, df v ≤ 4001) (x : Tm) (hs : tmL x) (hwx : wT x ≤ 1000000) :
    ACall Tryz.prog 106 [tmV x, .mp 0] (gwH m) (fun r H' => r = .agg [Iv (grN wf x), Iv (grD df x)] ∧ H' = gwH m) := by
  have hs0 := tmL_eq.1 hs
  have hN := grN_eq0 wf x
  have hD := grD_eq0 df x
  refine ACall.walk [0, 1, 2, 4, 5, 6, 7, 9, 10, 13, 21, 26, 27, 28, 29] [4, 5, 7, 9, 10] Tryz.func106 rfl Tryz.ntmps106 (by kernel_rfl) (by rfl) rfl fun W own I0 φ0 lay => ?_
  refine gO ?_
  refine AP.cond rfl rfl (fun h => ?_) (fun h => ?_)
  · have h : x.nm = [] := by simpa using h
    rw [if_pos h] at hN hD
    have hmv := hm x.ix
    refine gO ?_
    cases hq : ixI m x.ix with
    | none =>
      rw [(ixI_none hq).1, Option.getD_none] at hmv
      have e1 : ((wf x.ix : Nat) : Int) = 1 := (Prod.mk.inj hmv).1.symm
      have e2 : ((df x.ix : Nat) : Int) = 1 := (Prod.mk.inj hmv).2.symm
      refine AQ.lookZ (.agg [Iv 0, Iv 0]) (by kernel_rfl) rfl rfl rfl u161 u3 (kI_ok _) rfl (kI_not hq) z164 z164_den ?_
      refine sI ?_
      refine gO ?_
      exact AE.retD [2, 1] rfl ⟨⟨rfl, Nat.le_of_ble_eq_true (by kernel_rfl)⟩, trivial⟩ (by simp only [go_sem, Nat.reduceAdd, Nat.reduceLeDiff, Nat.reduceSub, Int.reduceToNat, reduceCtorEq, dropOk, noMen, AV.mens, AV.men, mens_vT, mens_vZ, Bool.or_false]; first | done | rfl) ⟨by rw [hN, hD, e1, e2]; rfl, rfl⟩
    | some j =>
      obtain ⟨y, h1, h2⟩ := ixI_some hq
      rw [h2, Option.getD_some] at hmv
      subst hmv
      refine AQ.lookF j (by kernel_rfl) rfl rfl rfl u161 u3 (kI_ok _) rfl (List.mem_of_getElem? (show (kI m)[j]? = some (.int .i64 x.ix) from kI_get h1)) (fun i hi => kI_uniq hnd h1 hi) (vZ_get h1) ?_
      refine sI ?_
      refine gO ?_
      exact AE.retD [2, 1] rfl ⟨⟨rfl, Nat.le_of_ble_eq_true (by kernel_rfl)⟩, trivial⟩ (by simp only [go_sem, Nat.reduceAdd, Nat.reduceLeDiff, Nat.reduceSub, Int.reduceToNat, reduceCtorEq, dropOk, noMen, AV.mens, AV.men, mens_vT, mens_vZ, Bool.or_false]; first | done | rfl) ⟨by rw [hN, hD]; rfl, rfl⟩
  · have h : ¬ x.nm = [] := by simpa using h
    rw [if_neg h] at hN hD
    refine gE @tmR_len ?_
    refine AP.loop rfl (α := Nat) (fun k => [(1, .mp 0), (4, .ob 1 0), (7, .ob 2 0), (26, .im (.sl 3 (tmR x.xs))), (27, Iv x.xs.length), (28, Iv k)]) (fun k => (2, .var 164 [Iv (grNs wf 1 (x.xs.take k)), Iv (grDs df 1 (x.xs.take k))]) :: (1, .var 164 [Iv 0, Iv 0]) :: gwH m) (fun k => k ≤ x.xs.length) (fun k => x.xs.length - k) 0 (by omega) (sU) rfl fun k hk => ?_
    rcases Nat.eq_or_lt_of_le hk with hke | hlt
    · subst hke
      rw [List.take_length]
      refine gO ?_
      refine cF ?_
      refine gO ?_
      exact AE.retD [2, 1] rfl ⟨⟨rfl, Nat.le_of_ble_eq_true (by kernel_rfl)⟩, trivial⟩ (by simp only [go_sem, Nat.reduceAdd, Nat.reduceLeDiff, Nat.reduceSub, Int.reduceToNat, reduceCtorEq, dropOk, noMen, AV.mens, AV.men, mens_vT, mens_vZ, Bool.or_false]; first | done | rfl) ⟨by rw [hN, hD]; rfl, rfl⟩
    · obtain ⟨u, hu, hrow⟩ := tmR_get x.xs k hlt
      have huw : wT u < wT x := wT_mem (List.mem_of_getElem? hu)
      have hw := wr (x := (k : Int) + 1) (by omega)
      have ih := grown_spec m wf df hnd hm hw4 hd4 u (tmsL_get hs0.2.2 hu) (by omega)
      have hn1 := grNs_snoc wf hu 1
      have hn2 := grDs_snoc df hu 1
      have hb1 := grNs_bnd wf (x.xs.take k) 1 (by omega)
      have hb2 := grN_bnd wf hw4 u
      have hb3 := grDs_bnd df 4001 hd4 (x.xs.take k) 1
      have hb4 := grD_bnd df 4001 hd4 u
      have hb5 : wTs (x.xs.take k) ≤ wT x := by rw [wT_eq]; have := wTs_take x.xs k; omega
      generalize grNs wf 1 (x.xs.take k) = n1 at *
      generalize grDs df 1 (x.xs.take k) = d1 at *
      generalize grN wf u = n2 at *
      generalize grD df u = d2 at *
      have hw1 := wr (x := (n1 : Int) + n2) (by omega)
      have hw2 := wr (x := (d2 : Int) + 1) (by omega)
      refine gO ?_
      refine cT ?_
      refine gE (an @hrow @tmR_len) ?_
      refine AQ.fix 3 rfl rfl ?_
      refine sI ?_
      refine AQ.callH [(0, 0)] (by kernel_rfl) rfl rfl rfl rfl rfl rfl (by refine ⟨?_, trivial⟩; rw [rnO, rns_vZ]; rfl) rfl ih fun r' H' ⟨e1, e2⟩ => ?_
      subst e1; subst e2
      refine sH ?_
      refine gO ?_
      refine AP.drawE 16 (Tree.node [] [0, 1, 2, 3, 4, 5, 6, 7, 8, 9, 10, 11, 12] [13] [Tree.node [8, 9, 10, 11] [14] [15] [Tree.node [] [] [] []]]) (by kernel_rfl) rfl (by kernel_rfl) (by kernel_rfl) ?_
      refine vd_node ?_
      refine sI ?_
      refine AQ.go (by kernel_rfl) ?_
      refine sI ?_
      refine AQ.nx rfl ?_
      refine sI ?_
      refine AQ.go (by kernel_rfl) ?_
      refine sI ?_
      refine AQ.nx rfl ?_
      refine sI ?_
      refine AQ.done ?_
      refine gE @hw ?_
      refine AE.forgets [3] (by simp only [go_sem, Nat.reduceAdd, Nat.reduceLeDiff, Nat.reduceSub, Int.reduceToNat, reduceCtorEq, dropOk, noMen, AV.mens, AV.men, mens_vT, mens_vZ, Bool.or_false]; first | done | rfl) ?_
      refine sI ?_
      refine AE.round (k + 1) (by omega) (by omega) (sU) ?_
      have e1 : (if (4001 : Int) < (n1 : Int) + n2 then 4001 else (n1 : Int) + n2) = ((min (n1 + n2) 4001 : Nat) : Int) := by split <;> omega
      have e2 : (if (d1 : Int) < (d2 : Int) + 1 then (d2 : Int) + 1 else (d1 : Int)) = ((max d1 (d2 + 1) : Nat) : Int) := by split <;> omega
      rw [hw1, hw2, e1, e2, hn1, hn2]
termination_by SizeOf.sizeOf x
decreasing_by exact tm_mem hu
end Go.Proofs.YtpfohmboflcneaaGreatDoor
end

section
namespace Go.Proofs.YtpfohmboflcneaaGreatDoor
open Go Go.AL Go.RowKit
set_option maxRecDepth 10000
set_option maxHeartbeats 4000000
def sbA (l : Bd) (v : Int) : Tm := match lkI l v with
  | some t => chT vrT t
  | none => vrT v
abbrev apH (l : Bd) : Heap := [(1, .var 158 [.mp 0]), (0, .var (.map (kI l)) (vT l))]
theorem apply1_spec (l : Bd) (hnd : ndI l) (hs : bdL l) (v : Int) : ACall Tryz.prog 107 [Iv v, .ob 1 0] (apH l) (fun r H' => r = tmV (sbA l v) ∧ H' = apH l) := by
  refine ACall.walk [0, 1, 3, 4, 5, 12] [3, 4] Tryz.func107 rfl Tryz.ntmps107 (by kernel_rfl) (by rfl) rfl fun W own I0 φ0 lay => ?_
  refine gO ?_
  cases hq : ixI l v with
  | none =>
    have he : sbA l v = vrT v := by rw [sbA, (ixI_none hq).1]
    refine AQ.lookZ (.agg [Sv [], Iv 0, nilV]) (by kernel_rfl) rfl rfl rfl u158 u3 (kI_ok _) rfl (kI_not hq) z71 z71_den ?_
    refine sI ?_
    refine gO ?_
    refine AQ.fn (by kernel_rfl) rfl rfl rfl (var_spec v) rfl ?_
    refine sI ?_
    refine gO ?_
    exact AE.retD [3, 2] rfl ⟨⟨rfl, Nat.le_of_ble_eq_true (by kernel_rfl)⟩, trivial⟩ (by simp only [go_sem, Nat.reduceAdd, Nat.reduceLeDiff, Nat.reduceSub, Int.reduceToNat, reduceCtorEq, dropOk, noMen, AV.mens, AV.men, mens_vT, mens_vZ, Bool.or_false]; first | done | rfl) ⟨by rw [he]; rfl, rfl⟩
  | some j =>
    obtain ⟨y, h1, h2⟩ := ixI_some hq
    have he : sbA l v = chT vrT y := by rw [sbA, h2]
    refine AQ.lookF j (by kernel_rfl) rfl rfl rfl u158 u3 (kI_ok _) rfl (List.mem_of_getElem? (show (kI l)[j]? = some (.int .i64 v) from kI_get h1)) (fun i hi => kI_uniq hnd h1 hi) (vT_get h1) ?_
    refine sI ?_
    refine gO ?_
    refine AQ.fn (by kernel_rfl) rfl rfl rfl (copied_spec y (hs.2 _ (List.mem_of_getElem? h1))) rfl ?_
    refine sI ?_
    refine gO ?_
    exact AE.retD [3, 2] rfl ⟨⟨rfl, Nat.le_of_ble_eq_true (by kernel_rfl)⟩, trivial⟩ (by simp only [go_sem, Nat.reduceAdd, Nat.reduceLeDiff, Nat.reduceSub, Int.reduceToNat, reduceCtorEq, dropOk, noMen, AV.mens, AV.men, mens_vT, mens_vZ, Bool.or_false]; first | done | rfl) ⟨by rw [he]; rfl, rfl⟩
theorem change_ap (l : Bd) (hnd : ndI l) (hl : bdL l) (x : Tm) (hs : tmL x) : ACall Tryz.prog 140 [tmV x, .fn 107 [] [.ob 1 0]] (apH l) (fun r H' => r = tmV (chT (sbA l) x) ∧ H' = apH l) := by
  have hs0 := tmL_eq.1 hs
  have hc := chT_eq (sbA l) x
  refine ACall.walk [0, 1, 2, 4, 5, 7, 10, 19, 20, 21, 22] [4, 5, 7] Tryz.func140 rfl Tryz.ntmps140 (by kernel_rfl) (by rfl) rfl fun W own I0 φ0 lay => ?_
  refine gO ?_
  refine AP.cond rfl rfl (fun h => ?_) (fun h => ?_)
  · rw [if_pos (by simpa using h)] at hc
    refine gO ?_
    refine AQ.callH [(1, 1), (0, 0)] (by kernel_rfl) rfl rfl rfl rfl rfl rfl (by refine ⟨?_, ?_, trivial⟩ <;> (simp only [rnO, AV.rns, AV.rn, rns_vT]; rfl)) rfl (apply1_spec l hnd hl x.ix) fun r' H' ⟨e1, e2⟩ => ?_
    subst e1; subst e2
    refine sH ?_
    refine gO ?_
    exact AE.retD [2] rfl ⟨⟨rfl, Nat.le_of_ble_eq_true (by kernel_rfl)⟩, trivial⟩ (by simp only [go_sem, Nat.reduceAdd, Nat.reduceLeDiff, Nat.reduceSub, Int.reduceToNat, reduceCtorEq, dropOk, noMen, AV.mens, AV.men, mens_vT, mens_vZ, Bool.or_false]; first | done | rfl) ⟨by rw [hc]; rfl, rfl⟩
  rw [if_neg (by simpa using h)] at hc
  refine gE @tmR_len ?_
  rw [chTs_map] at hc
  refine AP.ownCell 3 2 71 3 rfl rfl ?_
  refine sI ?_
  refine AP.loop rfl (α := Nat) (fun k => [(1, .fn 107 [] [.ob 1 0]), (4, .ob 2 0), (5, .ob 3 0), (19, .im (.sl 3 (tmR x.xs))), (20, Iv x.xs.length), (21, Iv k)]) (fun k => (4, .vec 71 3 (tmR ((x.xs.take k).map (chT (sbA l))))) :: (3, .var 71 [Sv x.nm, Iv 0, .os 4 3 0 k]) :: (2, .var 71 [Sv [], Iv 0, nilV]) :: apH l) (fun k => k ≤ x.xs.length) (fun k => x.xs.length - k) 0 (by omega) (sU) rfl fun k hk => ?_
  rcases Nat.eq_or_lt_of_le hk with hke | hlt
  · subst hke
    rw [List.take_length]
    refine gE @tmR_len ?_
    refine cF ?_
    refine gO ?_
    refine AE.freeze 4 (el := 71) (es := 3) (rows := tmR (x.xs.map (chT (sbA l)))) rfl (by simp only [go_sem, Nat.reduceAdd, Nat.reduceLeDiff, Nat.reduceSub, Int.reduceToNat, reduceCtorEq, tmR_len, List.length_map]; first | done | trivial | omega | (simp; done) | (simp; omega)) (by simp only [go_sem, Nat.reduceAdd, Nat.reduceLeDiff, Nat.reduceSub, Int.reduceToNat, reduceCtorEq, tmR_len, List.length_map]; first | done | trivial | omega | (simp; done) | (simp; omega)) ?_; simp only [go_sem, Nat.reduceAdd, Nat.reduceLeDiff, Nat.reduceSub, Int.reduceToNat, reduceCtorEq, tmR_len, List.length_map]
    rw [List.take_of_length_le (by rw [tmR_len, List.length_map]; omega)]
    exact AE.retD [3, 2] rfl ⟨⟨rfl, Nat.le_of_ble_eq_true (by kernel_rfl)⟩, trivial⟩ (by simp only [go_sem, Nat.reduceAdd, Nat.reduceLeDiff, Nat.reduceSub, Int.reduceToNat, reduceCtorEq, dropOk, noMen, AV.mens, AV.men, mens_vT, mens_vZ, Bool.or_false]; first | done | rfl) ⟨by rw [hc]; rfl, rfl⟩
  · obtain ⟨u, hu, hrow⟩ := tmR_get x.xs k hlt
    have hw := wr (x := (k : Int) + 1) (by omega)
    have htk := take_len (l := x.xs) (k := k) (by omega)
    have ih := change_ap l hnd hl u (tmsL_get hs0.2.2 hu)
    have hsn := map_snoc (chT (sbA l)) hu
    obtain ⟨w, hwe⟩ : ∃ w, chT (sbA l) u = w := ⟨_, rfl⟩
    rw [hwe] at ih hsn
    refine gE @tmR_len ?_
    refine cT ?_
    refine gE @hrow ?_
    refine ⟨by rw [tmR_len]; omega, ?_⟩
    refine gO ?_
    refine AP.drawE 9 (Tree.node [] [0, 1, 2, 3] [4] [Tree.node [0, 1] [] [5] [Tree.node [0, 1] [] [6] [Tree.node [] [7] [8] [Tree.node [] [] [] []]]]]) (by kernel_rfl) rfl (by kernel_rfl) (by kernel_rfl) ?_
    refine vd_node ?_
    refine sI ?_
    refine AQ.callH [(1, 1), (0, 0)] (by kernel_rfl) rfl rfl rfl rfl rfl rfl (by refine ⟨?_, ?_, trivial⟩ <;> (simp only [rnO, AV.rns, AV.rn, rns_vT]; rfl)) rfl ih fun r' H' ⟨e1, e2⟩ => ?_
    subst e1; subst e2
    refine sH ?_
    refine AQ.nx rfl ?_
    refine sI ?_
    refine AQ.go (by kernel_rfl) ?_
    refine sI ?_
    refine AQ.nx rfl ?_
    refine sI ?_
    refine AQ.kill 4 ?_
    refine sI ?_
    refine AQ.append (hnb := rfl) (rows := tmR ((x.xs.take k).map (chT (sbA l)))) (es := 2) (by kernel_rfl) rfl rfl rfl (by simp only [go_sem, noMen, AV.mens, AV.men, Bool.or_false]; rfl) Tryz.tk69 Tryz.sz71 (by show Option.map _ (zro Tryz.prog 71) = _; rw [Tryz.zr71]; rfl) Tryz.by71 (by first | rfl | (simp only [tmR_len, List.length_map, htk, List.length_cons, List.length_nil]; done) | (simp only [tmR_len, List.length_map, htk, List.length_cons, List.length_nil]; omega)) (by simp only [tmR_len, List.length_map, htk, List.length_cons, List.length_nil]; omega) (by simp only [tmR_len, List.length_map, htk, List.length_cons, List.length_nil]; omega) ?_
    refine sI ?_
    refine AQ.nx rfl ?_
    refine sI ?_
    refine AQ.go (by kernel_rfl) ?_
    refine sI ?_
    refine AQ.nx rfl ?_
    refine sI ?_
    refine AQ.done ?_
    refine gE @hw ?_
    refine AE.forgets [5] (by simp only [go_sem, Nat.reduceAdd, Nat.reduceLeDiff, Nat.reduceSub, Int.reduceToNat, reduceCtorEq, dropOk, noMen, AV.mens, AV.men, mens_vT, mens_vZ, Bool.or_false]; first | done | rfl) ?_
    refine sI ?_
    refine AE.round (k + 1) (by omega) (by omega) (sU) ?_
    rw [hsn, tmR_add, tmR_len, List.length_map, htk]; rfl
termination_by SizeOf.sizeOf x
decreasing_by exact tm_mem hu
theorem changed_ap (l : Bd) (hnd : ndI l) (hl : bdL l) (c : List Lt) (hs : clL c) : ACall Tryz.prog 93 [clV c, .fn 107 [] [.ob 1 0]] (apH l) (fun r H' => r = clV (appC (sbA l) c) ∧ H' = apH l) := by
  have hcl := hs.1
  refine ACall.walk [0, 1, 4, 5, 7, 8, 10, 11, 12, 13, 14, 23, 24, 25, 26] [7, 8, 10] Tryz.func93 rfl Tryz.ntmps93 (by kernel_rfl) (by rfl) rfl fun W own I0 φ0 lay => ?_
  refine gE @ltR_len ?_
  refine AP.own 5 119 3 rfl ?_
  refine sI ?_
  refine AP.loop rfl (α := Nat) (fun k => [(1, .fn 107 [] [.ob 1 0]), (5, .os 2 3 0 k), (11, clV c), (12, Iv c.length), (13, Iv k)]) (fun k => (2, .vec 119 3 (ltR ((c.take k).map (chL (sbA l))))) :: apH l) (fun k => k ≤ c.length) (fun k => c.length - k) 0 (by omega) (sU) rfl fun k hk => ?_
  rcases Nat.eq_or_lt_of_le hk with hke | hlt
  · subst hke
    rw [List.take_length]
    refine gE @ltR_len ?_
    refine cF ?_
    refine gO ?_
    refine AE.freeze 2 (el := 119) (es := 3) (rows := ltR (c.map (chL (sbA l)))) rfl (by simp only [go_sem, Nat.reduceAdd, Nat.reduceLeDiff, Nat.reduceSub, Int.reduceToNat, reduceCtorEq, ltR_len, List.length_map]; first | done | trivial | omega | (simp; done) | (simp; omega)) (by simp only [go_sem, Nat.reduceAdd, Nat.reduceLeDiff, Nat.reduceSub, Int.reduceToNat, reduceCtorEq, ltR_len, List.length_map]; first | done | trivial | omega | (simp; done) | (simp; omega)) ?_; simp only [go_sem, Nat.reduceAdd, Nat.reduceLeDiff, Nat.reduceSub, Int.reduceToNat, reduceCtorEq, ltR_len, List.length_map]
    rw [List.take_of_length_le (by rw [ltR_len, List.length_map]; omega)]
    exact AE.retD [] rfl ⟨rfl, trivial⟩ rfl ⟨rfl, rfl⟩
  · obtain ⟨u, hu, hrow⟩ := ltR_get c k hlt
    have hw := wr (x := (k : Int) + 1) (by omega)
    have htk := take_len (l := c) (k := k) (by omega)
    have hul := clL_get hs hu
    have hul2 := hul.2.1
    have hsn := map_snoc (chL (sbA l)) hu
    refine gE @ltR_len ?_
    refine cT ?_
    refine gE @hrow ?_
    refine ⟨by rw [ltR_len]; omega, ?_⟩
    refine gE @tmR_len ?_
    refine AP.ownCell 4 2 71 3 rfl rfl ?_
    refine sI ?_
    have hcx : chL (sbA l) u = ⟨u.ng, u.pd, u.xs.map (chT (sbA l))⟩ := by rw [chL, chTs_map]
    refine AP.loop rfl (α := Nat) (fun j => [(1, .fn 107 [] [.ob 1 0]), (5, .os 2 3 0 k), (8, .ob 4 0), (11, clV c), (12, Iv c.length), (13, Iv k), (23, .im (.sl 3 (tmR u.xs))), (24, Iv u.xs.length), (25, Iv j)]) (fun j => (5, .vec 71 3 (tmR ((u.xs.take j).map (chT (sbA l))))) :: (4, .var 119 [Bv u.ng, Sv u.pd, .os 5 3 0 j]) :: (3, .var 119 [Bv u.ng, Sv u.pd, .im (.sl 3 (tmR u.xs))]) :: (2, .vec 119 3 (ltR ((c.take k).map (chL (sbA l))))) :: apH l) (fun j => j ≤ u.xs.length) (fun j => u.xs.length - j) 0 (by omega) (sU) rfl fun j hj => ?_
    rcases Nat.eq_or_lt_of_le hj with hje | hjlt
    · subst hje
      rw [List.take_length]
      refine gE @tmR_len ?_
      refine cF ?_
      refine sI ?_
      refine AP.freeze 5 (el := 71) (es := 3) (rows := tmR (u.xs.map (chT (sbA l)))) rfl (by simp only [go_sem, Nat.reduceAdd, Nat.reduceLeDiff, Nat.reduceSub, Int.reduceToNat, reduceCtorEq, tmR_len, List.length_map]; first | done | trivial | omega | (simp; done) | (simp; omega)) (by simp only [go_sem, Nat.reduceAdd, Nat.reduceLeDiff, Nat.reduceSub, Int.reduceToNat, reduceCtorEq, tmR_len, List.length_map]; first | done | trivial | omega | (simp; done) | (simp; omega)) ?_; simp only [go_sem, Nat.reduceAdd, Nat.reduceLeDiff, Nat.reduceSub, Int.reduceToNat, reduceCtorEq, tmR_len, List.length_map]
      rw [show List.take u.xs.length (tmR (u.xs.map (chT (sbA l)))) = tmR (u.xs.map (chT (sbA l))) from List.take_of_length_le (by rw [tmR_len, List.length_map]; omega)]
      refine gO ?_
      refine AQ.append (hnb := rfl) (rows := ltR ((c.take k).map (chL (sbA l)))) (es := 2) (by kernel_rfl) rfl rfl rfl (by simp only [go_sem, noMen, AV.mens, AV.men, Bool.or_false]; rfl) Tryz.tk27 Tryz.sz119 (by show Option.map _ (zro Tryz.prog 119) = _; rw [Tryz.zr119]; rfl) Tryz.by119 (by first | rfl | (simp only [ltR_len, List.length_map, htk, List.length_cons, List.length_nil]; done) | (simp only [ltR_len, List.length_map, htk, List.length_cons, List.length_nil]; omega)) (by simp only [ltR_len, List.length_map, htk, List.length_cons, List.length_nil]; omega) (by simp only [ltR_len, List.length_map, htk, List.length_cons, List.length_nil]; omega) ?_
      refine sI ?_
      refine gE @hw ?_
      refine AE.forgets [4, 3] (by simp only [go_sem, Nat.reduceAdd, Nat.reduceLeDiff, Nat.reduceSub, Int.reduceToNat, reduceCtorEq, dropOk, noMen, AV.mens, AV.men, mens_vT, mens_vZ, Bool.or_false]; first | done | rfl) ?_
      refine sE (an @ltR_len (an @List.length_map.{0, 0} @htk)) ?_
      refine AE.round (k + 1) (by omega) (by omega) (sU) ?_
      rw [hsn, ltR_add, hcx]; rfl
    · obtain ⟨v, hv, hrow2⟩ := tmR_get u.xs j hjlt
      have hw2 := wr (x := (j : Int) + 1) (by have := hul.2.1; omega)
      have htk2 := take_len (l := u.xs) (k := j) (by omega)
      have ih := change_ap l hnd hl v (tmsL_get hul.2.2 hv)
      have hsn2 := map_snoc (chT (sbA l)) hv
      obtain ⟨w, hwe⟩ : ∃ w, chT (sbA l) v = w := ⟨_, rfl⟩
      rw [hwe] at ih hsn2
      refine gE @tmR_len ?_
      refine cT ?_
      refine gE @hrow2 ?_
      refine ⟨by rw [tmR_len]; omega, ?_⟩
      refine gO ?_
      refine AP.drawE 9 (Tree.node [] [0, 1, 2, 3] [4] [Tree.node [0, 1] [] [5] [Tree.node [0, 1] [] [6] [Tree.node [] [7] [8] [Tree.node [] [] [] []]]]]) (by kernel_rfl) rfl (by kernel_rfl) (by kernel_rfl) ?_
      refine vd_node ?_
      refine sI ?_
      refine AQ.callH [(1, 1), (0, 0)] (by kernel_rfl) rfl rfl rfl rfl rfl rfl (by refine ⟨?_, ?_, trivial⟩ <;> (simp only [rnO, AV.rns, AV.rn, rns_vT]; rfl)) rfl ih fun r' H' ⟨e1, e2⟩ => ?_
      subst e1; subst e2
      refine sH ?_
      refine AQ.nx rfl ?_
      refine sI ?_
      refine AQ.go (by kernel_rfl) ?_
      refine sI ?_
      refine AQ.nx rfl ?_
      refine sI ?_
      refine AQ.kill 5 ?_
      refine sI ?_
      refine AQ.append (hnb := rfl) (rows := tmR ((u.xs.take j).map (chT (sbA l)))) (es := 2) (by kernel_rfl) rfl rfl rfl (by simp only [go_sem, noMen, AV.mens, AV.men, Bool.or_false]; rfl) Tryz.tk69 Tryz.sz71 (by show Option.map _ (zro Tryz.prog 71) = _; rw [Tryz.zr71]; rfl) Tryz.by71 (by first | rfl | (simp only [tmR_len, List.length_map, htk2, List.length_cons, List.length_nil]; done) | (simp only [tmR_len, List.length_map, htk2, List.length_cons, List.length_nil]; omega)) (by simp only [tmR_len, List.length_map, htk2, List.length_cons, List.length_nil]; omega) (by simp only [tmR_len, List.length_map, htk2, List.length_cons, List.length_nil]; omega) ?_
      refine sI ?_
      refine AQ.nx rfl ?_
      refine sI ?_
      refine AQ.go (by kernel_rfl) ?_
      refine sI ?_
      refine AQ.nx rfl ?_
      refine sI ?_
      refine AQ.done ?_
      refine gE @hw2 ?_
      refine AE.forgets [6] (by simp only [go_sem, Nat.reduceAdd, Nat.reduceLeDiff, Nat.reduceSub, Int.reduceToNat, reduceCtorEq, dropOk, noMen, AV.mens, AV.men, mens_vT, mens_vZ, Bool.or_false]; first | done | rfl) ?_
      refine sI ?_
      refine AE.round (j + 1) (by omega) (by omega) (sU) ?_
      rw [hsn2, tmR_add, tmR_len, List.length_map, htk2]; rfl
end Go.Proofs.YtpfohmboflcneaaGreatDoor
end

section
namespace Go.Proofs.YtpfohmboflcneaaGreatDoor
open Go Go.AL Go.RowKit
set_option maxRecDepth 10000
set_option maxHeartbeats 4000000
/-- the nodes of arguments, as the program counts them; none: too many, or too deep -/
def lpT (w d : Int → Nat) : List Tm → Nat → Option Nat
  | [], n => some n
  | t :: l, n => if 4000 < n + grN w t ∨ 100 < grD d t then none else lpT w d l (n + grN w t)
def lpC (w d : Int → Nat) : List Lt → Nat → Option Nat
  | [], n => some n
  | x :: c, n => match lpT w d x.xs (n + 1) with
    | some m => lpC w d c m
    | none => none
theorem lpT_is (f : Int → Tm) (w d : Int → Nat) (hw : ∀ v, w v = wT (f v) ∧ w v ≤ 4001) (hd : ∀ v, d v = dpT (f v)) : ∀ (ts : List Tm) (n : Nat),
    (∀ m, lpT w d ts n = some m → m = n + wTs (chTs f ts) ∧ dpTs (chTs f ts) ≤ 100) ∧ (lpT w d ts n = none → 4000 < n + wTs (chTs f ts) ∨ 100 < dpTs (chTs f ts))
  | [], n => by
    rw [lpT, chTs, wTs, dpTs]
    exact ⟨fun m h => by cases h; omega, fun h => by cases h⟩
  | t :: l, n => by
    have h1 := grN_eq f w t fun v _ => hw v
    have h2 := grD_eq f d t fun v _ => hd v
    obtain ⟨h3, h4⟩ := lpT_is f w d hw hd l (n + grN w t)
    rw [lpT, chTs, wTs, dpTs]
    by_cases h : 4000 < n + grN w t ∨ 100 < grD d t
    · rw [if_pos h]
      exact ⟨fun m h => (by cases h), fun _ => by omega⟩
    · rw [if_neg h]
      refine ⟨fun m hm => ?_, fun hn => ?_⟩
      · have := h3 m hm; omega
      · have := h4 hn; omega
theorem lpC_is (f : Int → Tm) (w d : Int → Nat) (hw : ∀ v, w v = wT (f v) ∧ w v ≤ 4001) (hd : ∀ v, d v = dpT (f v)) : ∀ (c : List Lt) (n : Nat),
    (∀ m, lpC w d c n = some m → m = n + ndC (appC f c) ∧ dpC (appC f c) ≤ 100) ∧ (lpC w d c n = none → 4000 < n + ndC (appC f c) ∨ 100 < dpC (appC f c))
  | [], n => by
    rw [lpC]
    exact ⟨fun m h => by cases h; exact ⟨rfl, by show dpC [] ≤ 100; rw [dpC]; omega⟩, fun h => by cases h⟩
  | x :: c, n => by
    obtain ⟨h1, h2⟩ := lpT_is f w d hw hd x.xs (n + 1)
    have e : appC f (x :: c) = chL f x :: appC f c := rfl
    rw [lpC, e, ndC_cons, dpC]
    have e2 : (chL f x).xs = chTs f x.xs := rfl
    rw [e2]
    cases hq : lpT w d x.xs (n + 1) with
    | none =>
      refine ⟨fun m h => (by cases h), fun _ => ?_⟩
      have := h2 hq; omega
    | some k =>
      obtain ⟨h3, h4⟩ := lpC_is f w d hw hd c k
      have h5 := h1 k hq
      refine ⟨fun m h => ?_, fun h => ?_⟩
      · have := h3 m h; omega
      · have := h4 h; omega
theorem okTs_Lf {l : List Tm} (h : okTs l = true) : ∀ a ∈ l, Lf a := fun a ha => okT_Lf (okTs_mem h a ha)
theorem okL_ts {l : Lt} (h : okL l = true) : okTs l.xs = true := by
  rw [okL] at h
  split at h <;> exact (Bool.and_eq_true _ _ ▸ h).2
theorem ckC_0 {c : List Lt} (h : ckC 4 9 2 3 c = 0) : c.length ≤ 40 ∧ ndC c ≤ 4000 ∧ dpC c ≤ 100 ∧ ∀ l ∈ c, okL l = true := by
  rw [ckC_ok (by decide) (by decide) (by decide) (by decide)] at h
  exact ⟨h.1, h.2.1, h.2.2.1, List.all_eq_true.1 h.2.2.2⟩
theorem ckT_0 {t : Tm} (h : ckC 4 9 2 3 (sgC t) = 0) : okT t = true ∧ wT t ≤ 3999 ∧ dpT t ≤ 100 := by
  obtain ⟨_, h1, h2, h3⟩ := ckC_0 h
  have h4 := okL_ts (h3 _ (List.mem_singleton.2 rfl))
  simp only [sgC, ndC, ndL, List.map_cons, List.map_nil, List.sum_cons, List.sum_nil, wTs] at h1
  simp only [sgC, dpC, dpTs] at h2
  exact ⟨okTs_mem h4 t (List.mem_singleton.2 rfl), by omega, by omega⟩
theorem bnE_0 : ∀ (l p : Bd), bnE p l = 0 → ∀ b ∈ l, 0 ≤ b.1 ∧ b.1 < 1000 ∧ ckC 4 9 2 3 (sgC b.2) = 0
  | [], p, _, b, hb => by cases hb
  | x :: l, p, h, b, hb => by
    rw [bnE] at h
    by_cases h1 : x.1 < 0 ∨ 999 < x.1
    · rw [if_pos h1] at h; exact absurd h (by decide)
    · rw [if_neg h1] at h
      by_cases h2 : (lkB p x.1).isSome = true
      · rw [if_pos h2] at h; exact absurd h (by decide)
      · rw [if_neg h2] at h
        by_cases h3 : ckC 4 9 2 3 (sgC x.2) ≠ 0
        · rw [if_pos h3] at h; exact absurd h h3
        · rw [if_neg h3] at h
          rcases List.mem_cons.1 hb with rfl | hb
          · exact ⟨by omega, by omega, by simpa using h3⟩
          · exact bnE_0 l _ h b hb
theorem sbA_B {l : Bd} (h : bnE [] l = 0) (v : Int) : sbA l v = sbB l v := by
  rw [sbA, sbB, lkB_I]
  cases hq : lkI l v with
  | none => rfl
  | some t =>
    have := ckT_0 (bnE_0 l [] h _ (lkI_mem hq)).2.2
    exact chT_self _ _ this.1 fun v _ => rfl
theorem sbB_sz {l : Bd} (h : bnE [] l = 0) (v : Int) : wT (sbB l v) ≤ 3999 ∧ dpT (sbB l v) ≤ 100 := by
  rw [sbB, lkB_I]
  cases hq : lkI l v with
  | none => rw [Option.getD_none, vrT, wT, wTs, dpT, dpTs]; omega
  | some t => exact (ckT_0 (bnE_0 l [] h _ (lkI_mem hq)).2.2).2
theorem agN_le (l : Bd) : ∀ (ts : List Tm) (n : Int), okTs ts = true → agN l ts n ≤ n + wTs (chTs (sbB l) ts)
  | [], n, _ => by rw [agN, chTs, wTs]; omega
  | t :: k, n, h => by
    rw [okTs, Bool.and_eq_true] at h
    have h1 := sbN_is l t h.1
    rw [agN, chTs, wTs]
    by_cases hc : 4000 < n + sbN l t
    · rw [if_pos hc]; omega
    · rw [if_neg hc]; have := agN_le l k (n + sbN l t) h.2; omega
theorem okTs_append : ∀ l m : List Tm, okTs (l ++ m) = (okTs l && okTs m)
  | [], m => by rw [okTs]; rfl
  | t :: l, m => by rw [List.cons_append, okTs, okTs, okTs_append l m, Bool.and_assoc]
theorem fm1_in (t : Tm) : fm1 2 3 t = 0 ∨ fm1 2 3 t = 2 ∨ fm1 2 3 t = 3 := by
  rw [fm1]
  repeat' split
  all_goals decide
mutual
theorem fmT_in : ∀ t, fmT 2 3 t = 0 ∨ fmT 2 3 t = 2 ∨ fmT 2 3 t = 3
  | .mk n i xs => by
    rw [fmT]
    split
    · exact fm1_in _
    · exact fmTs_in xs
theorem fmTs_in : ∀ l, fmTs 2 3 l = 0 ∨ fmTs 2 3 l = 2 ∨ fmTs 2 3 l = 3
  | [] => by rw [fmTs]; exact .inl rfl
  | t :: l => by
    rw [fmTs]
    split
    · exact fmT_in t
    · exact fmTs_in l
end
theorem fmC_in : ∀ c, fmC 2 3 c = 0 ∨ fmC 2 3 c = 2 ∨ fmC 2 3 c = 3
  | [] => by rw [fmC]; exact .inl rfl
  | l :: c => by
    rw [fmC_cons]
    split
    · exact .inr (.inl rfl)
    · split
      · exact fmTs_in _
      · exact fmC_in c
theorem okTs_flat : ∀ c : List Lt, (∀ l ∈ c, okL l = true) → okTs (c.flatMap (·.xs)) = true
  | [], _ => by rw [List.flatMap_nil, okTs]
  | l :: c, h => by
    rw [List.flatMap_cons, okTs_append, okL_ts (h l (List.mem_cons_self ..)), okTs_flat c fun x hx => h x (List.mem_cons_of_mem _ hx)]; rfl
theorem appC_flat (f : Int → Tm) : ∀ c : List Lt, (appC f c).flatMap (·.xs) = chTs f (c.flatMap (·.xs))
  | [] => by rw [List.flatMap_nil, chTs]; rfl
  | l :: c => by rw [show appC f (l :: c) = chL f l :: appC f c from rfl, List.flatMap_cons, List.flatMap_cons, appC_flat f c, chTs_map, chTs_map, chL, chTs_map, List.map_append]
theorem apO_C {c : List Lt} {l : Bd} (h : ∀ x ∈ c, okL x = true) : apO c l = appC (sbB l) c := by
  rw [apO, appC]
  refine List.map_congr_left fun x hx => ?_
  have h1 := okTs_Lf (okL_ts (h x hx))
  rw [unL, chL, unRs_map, chTs_map]
  congr 1
  exact List.map_congr_left fun t ht => unR_ch l (h1 t ht)
theorem apE_big {c : List Lt} {l : Bd} (hc : ckC 4 9 2 3 c = 0) : apE c l = if bigC (appC (sbB l) c) then 15 else 0 := by
  obtain ⟨h1, h2, h3, h4⟩ := ckC_0 hc
  have hlen : (appC (sbB l) c).length = c.length := by rw [appC, List.length_map]
  have ha := agN_le l (c.flatMap (·.xs)) c.length (okTs_flat c h4)
  have hn := ndC_flat (appC (sbB l) c)
  rw [appC_flat, hlen] at hn
  have hk : (ckC 4 9 2 3 (appC (sbB l) c) = 4 ∨ ckC 4 9 2 3 (appC (sbB l) c) = 9) ↔ bigC (appC (sbB l) c) = true := by
    rw [ckC, if_neg (by omega : ¬ 40 < (appC (sbB l) c).length), bigC, Bool.or_eq_true, decide_eq_true_iff, decide_eq_true_iff]
    by_cases g1 : 4000 < ndC (appC (sbB l) c)
    · rw [if_pos g1]; exact ⟨fun _ => .inl g1, fun _ => .inl rfl⟩
    · rw [if_neg g1]
      by_cases g2 : 100 < dpC (appC (sbB l) c)
      · rw [if_pos g2]; exact ⟨fun _ => .inr g2, fun _ => .inr rfl⟩
      · rw [if_neg g2]
        have hf : fmC 2 3 (appC (sbB l) c) = 0 ∨ fmC 2 3 (appC (sbB l) c) = 2 ∨ fmC 2 3 (appC (sbB l) c) = 3 := fmC_in _
        exact ⟨fun h => by omega, fun h => by omega⟩
  rw [apE, apO_C h4]
  by_cases hb : bigC (appC (sbB l) c) = true
  · rw [if_pos hb]
    split
    · rfl
    · rw [if_pos (hk.2 hb)]
  · rw [if_neg hb, if_neg, if_neg (fun h => hb (hk.1 h))]
    intro hc
    refine hb ?_
    rw [bigC, Bool.or_eq_true, decide_eq_true_iff]; left; omega
end Go.Proofs.YtpfohmboflcneaaGreatDoor
end

section
namespace Go.Proofs.YtpfohmboflcneaaGreatDoor
open Go Go.AL Go.RowKit
set_option maxRecDepth 10000
set_option maxHeartbeats 4000000
theorem ACall.orNil {P : Program} {f : FuncId} {xs : List AV} {H : Heap} {c : List Lt} {e : AV} {H0 : Heap} (h : ACall P f xs H (fun r H' => H' = H0 ∧ (r = .tup [clV c, e] ∨ c = [] ∧ r = .tup [nilV, e]))) : ACall P f xs H (fun r H' => H' = H0 ∧ r = .tup [clV c, e]) :=
  ACall.told h fun r H' ⟨hH, hr⟩ => ⟨_, ⟨hH, rfl⟩, by
    rcases hr with rfl | ⟨hc, rfl⟩
    · exact fun _ _ _ _ h => h
    · subst hc; exact clNil_told _⟩
@[go_sem] theorem shs_vT (k : Nat) : ∀ m : List (Int × Tm), AV.shs k (vT m) = vT m
  | [] => rfl
  | _ :: m => by rw [vT, List.map_cons, AV.shs, ← vT, shs_vT k m]; rfl
theorem apply_spec (c : List Lt) (l : Bd) (hs : clL c) (hl : bdL l) : PFn Tryz.prog 32 [clV c, bdV l] (.tup [clV (ayR c l), Iv (ayE c l)]) := by
  have hE : ayE c l = _ := ayE.eq_def c l
  have hR : ayR c l = _ := ayR.eq_def c l
  have hcl := hs.1
  refine ACall.orNil ?_
  refine ACall.walk [0, 1, 4, 5, 6, 7, 8, 9, 10, 12, 14, 15, 19, 27, 31, 32, 33, 34, 40, 41, 42, 43, 59, 63] [7, 12, 14, 15] Tryz.func32 rfl Tryz.ntmps32 (by kernel_rfl) (by rfl) rfl fun W own I0 φ0 lay => ?_
  refine gO ?_
  refine AQ.fn (by kernel_rfl) rfl rfl rfl (check_spec c hs) rfl ?_
  refine sI ?_
  refine gO ?_
  refine AP.cond rfl rfl (fun h1 => ?_) (fun h1 => ?_)
  · have h1 : ckC 4 9 2 3 c ≠ 0 := by simpa using h1
    rw [if_pos h1] at hE hR
    refine gO ?_
    exact AE.ret0 rfl ⟨rfl, rfl, trivial⟩ rfl ⟨rfl, .inr ⟨hR, by rw [hE]; rfl⟩⟩
  have h1 : ckC 4 9 2 3 c = 0 := by simpa using h1
  rw [if_neg (by simpa using h1)] at hE hR
  have hbd := bindings_spec l hl
  refine gO ?_
  refine AQ.callv (by kernel_rfl) rfl rfl rfl hbd fun r' H' hr' => ?_
  rcases hr' with ⟨h2, hnd, e1, e2⟩ | ⟨h2, e1, e2⟩
  · subst e1; subst e2
    rw [if_neg (by simpa using h2)] at hE hR
    have hwt := weights_spec l hnd hl fun p hp => by have := (ckT_0 (bnE_0 l [] h2 p hp).2.2).2.1; omega
    refine sI ?_
    refine gO ?_
    refine AQ.callH [(0, 0)] (by kernel_rfl) rfl rfl rfl rfl rfl rfl (by refine ⟨?_, trivial⟩; simp only [rnO, AV.rns, AV.rn, rns_vT]; rfl) rfl hwt fun r' H' ⟨m, hm1, hm2, e1, e2⟩ => ?_
    subst e1; subst e2
    refine sH ?_
    have hgm : ∀ v, (lkI m v).getD (1, 1) = ((wT (sbB l v) : Int), (dpT (sbB l v) : Int)) := fun v => by
      rw [hm2 v, sbB, lkB_I]
      cases lkI l v with
      | none => rw [Option.map_none, Option.getD_none, Option.getD_none, vrT, wT, wTs, dpT, dpTs]; rfl
      | some t => rfl
    have hsz := sbB_sz h2
    obtain ⟨hp1, hp2⟩ := lpC_is (sbB l) (fun v => wT (sbB l v)) (fun v => dpT (sbB l v)) (fun v => ⟨rfl, by have := hsz v; omega⟩) (fun v => rfl) c 0
    have hbig := apE_big (l := l) h1
    obtain ⟨hk0, hk1, hk2, hk3⟩ := ckC_0 h1
    have hok : apR c l = if bigC (appC (sbB l) c) then [] else appC (sbB l) c := by
      rw [apR, hbig, apO_C hk3]
      by_cases hb : bigC (appC (sbB l) c) = true
      · rw [if_pos hb, if_pos hb]; rfl
      · rw [if_neg hb, if_neg hb]; rfl
    rw [hbig] at hE
    rw [hok] at hR
    have hbg : ∀ n : Nat, 4000 < n + ndC (appC (sbB l) c) - n ∨ 100 < dpC (appC (sbB l) c) → bigC (appC (sbB l) c) = true := fun n h => by
      rw [bigC, Bool.or_eq_true, decide_eq_true_iff, decide_eq_true_iff]; omega
    refine gE @ltR_len ?_
    refine AP.loop rfl (α := Nat × Nat) (fun s => [(0, clV c), (7, .ob 1 0), (9, .mp 3), (10, Iv s.2), (31, clV c), (32, Iv c.length), (33, Iv s.1)]) (fun _ => [(3, .var (.map (kI m)) (vZ m)), (1, .var 158 [.mp 0]), (0, .var (.map (kI l)) (vT l))]) (fun s => s.1 ≤ c.length ∧ s.2 ≤ 4000 + s.1 ∧ lpC (fun v => wT (sbB l v)) (fun v => dpT (sbB l v)) c 0 = lpC (fun v => wT (sbB l v)) (fun v => dpT (sbB l v)) (c.drop s.1) s.2) (fun s => c.length - s.1) (0, 0) ⟨by simp, by simp, rfl⟩ (sU) rfl fun ⟨k, n⟩ ⟨hk, hn, hm⟩ => ?_
    simp only at hk hn hm ⊢
    rcases Nat.eq_or_lt_of_le hk with hke | hlt
    · rw [hke, List.drop_length, lpC] at hm
      obtain ⟨hp3, hp4⟩ := hp1 n hm
      subst hke
      refine gO ?_
      refine cF ?_
      refine gO ?_
      refine AP.cond rfl rfl (fun h5 => ?_) (fun h5 => ?_)
      · rw [hbg 0 (by simp at h5; omega)] at hE hR
        refine gO ?_
        exact AE.retD [3, 1, 0] rfl ⟨rfl, rfl, trivial⟩ (by simp only [go_sem, Nat.reduceAdd, Nat.reduceLeDiff, Nat.reduceSub, Int.reduceToNat, reduceCtorEq, dropOk, noMen, AV.mens, AV.men, mens_vT, mens_vZ, Bool.or_false]; first | done | rfl) ⟨rfl, .inr ⟨hR, by rw [hE]; rfl⟩⟩
      · have hb : ¬ bigC (appC (sbB l) c) = true := by
          rw [bigC, Bool.or_eq_true, decide_eq_true_iff, decide_eq_true_iff]; simp at h5; omega
        rw [if_neg hb] at hE hR
        have hca := changed_ap l hnd hl c hs
        have hsA : appC (sbA l) c = appC (sbB l) c := by
          rw [show sbA l = sbB l from funext fun v => sbA_B h2 v]
        rw [hsA] at hca
        refine gO ?_
        refine AQ.callH [(1, 1), (0, 0)] (by kernel_rfl) rfl rfl rfl rfl rfl rfl (by refine ⟨?_, ?_, trivial⟩ <;> (simp only [rnO, AV.rns, AV.rn, rns_vT]; rfl)) rfl hca fun r' H' ⟨e1, e2⟩ => ?_
        subst e1; subst e2
        refine sH ?_
        refine gO ?_
        exact AE.retD [3, 1, 0] rfl ⟨rfl, rfl, trivial⟩ (by simp only [go_sem, Nat.reduceAdd, Nat.reduceLeDiff, Nat.reduceSub, Int.reduceToNat, reduceCtorEq, dropOk, noMen, AV.mens, AV.men, mens_vT, mens_vZ, Bool.or_false]; first | done | rfl) ⟨rfl, .inl (by rw [hE, hR]; rfl)⟩
    · obtain ⟨u, hu, hrow⟩ := ltR_get c k hlt
      have hw := wr (x := (k : Int) + 1) (by omega)
      have hw1 := wr (x := (n : Int) + 1) (by omega)
      have hul := clL_get hs hu
      have hul2 := hul.2.1
      rw [drop_cons hu, lpC] at hm
      refine gE @ltR_len ?_
      refine cT ?_
      refine gE (an @hrow @hw1) ?_
      refine ⟨by rw [ltR_len]; omega, ?_⟩
      refine gE (an @tmR_len @hw1) ?_
      refine AP.fix 4 rfl rfl ?_
      refine sI ?_
      refine AP.loop rfl (α := Nat × Nat) (fun s => [(0, clV c), (7, .ob 1 0), (9, .mp 3), (10, Iv s.2), (31, clV c), (32, Iv c.length), (33, Iv k), (40, .im (.sl 3 (tmR u.xs))), (41, Iv u.xs.length), (42, Iv s.1)]) (fun _ => [(3, .var (.map (kI m)) (vZ m)), (1, .var 158 [.mp 0]), (0, .var (.map (kI l)) (vT l))]) (fun s => s.1 ≤ u.xs.length ∧ s.2 ≤ 4000 + (k + 1) ∧ lpC (fun v => wT (sbB l v)) (fun v => dpT (sbB l v)) c 0 = match lpT (fun v => wT (sbB l v)) (fun v => dpT (sbB l v)) (u.xs.drop s.1) s.2 with
        | some m => lpC (fun v => wT (sbB l v)) (fun v => dpT (sbB l v)) (c.drop (k + 1)) m
        | none => none) (fun s => u.xs.length - s.1) (0, n + 1) ⟨by simp, by simp only; omega, hm⟩ (sU) rfl fun ⟨j, q⟩ ⟨hj, hq, hm2⟩ => ?_
      simp only at hj hq hm2 ⊢
      rcases Nat.eq_or_lt_of_le hj with hje | hjlt
      · rw [hje, List.drop_length, lpT] at hm2
        refine gO ?_
        refine cF ?_
        refine gE @hw ?_
        exact AE.round (k + 1, q) ⟨by simp only; omega, by simp only; omega, hm2⟩ (by simp only; omega) (sU) rfl
      · obtain ⟨v, hv, hrow2⟩ := tmR_get u.xs j hjlt
        have hw2 := wr (x := (j : Int) + 1) (by omega)
        have hvl := tmsL_get hul.2.2 hv
        have hvw : wT v ≤ 1000000 := by
          have h6 := ndC_mem c u (List.mem_of_getElem? hu)
          have h7 := wTs_mem u.xs v (List.mem_of_getElem? hv)
          rw [ndL] at h6; omega
        have hgr := grown_spec m (fun v => wT (sbB l v)) (fun v => dpT (sbB l v)) hm1 hgm (fun v => by have := hsz v; omega) (fun v => by have := hsz v; omega) v hvl hvw
        have hb2 := grN_bnd (fun v => wT (sbB l v)) (fun v => by have := hsz v; omega) v
        rw [drop_cons hv, lpT] at hm2
        generalize grN (fun v => wT (sbB l v)) v = n2 at *
        generalize grD (fun v => dpT (sbB l v)) v = d2 at *
        have hw3 := wr (x := (q : Int) + n2) (by omega)
        refine gO ?_
        refine cT ?_
        refine gE @hrow2 ?_
        refine ⟨by rw [tmR_len]; omega, ?_⟩
        refine gO ?_
        refine AQ.fix 4 rfl rfl ?_
        refine sI ?_
        refine AQ.callH [(0, 3)] (by kernel_rfl) rfl rfl rfl rfl rfl rfl (by refine ⟨?_, trivial⟩; simp only [rnO, AV.rns, AV.rn, rns_vZ]; rfl) rfl hgr fun r' H' ⟨e1, e2⟩ => ?_
        subst e1; subst e2
        refine sH ?_
        refine gE @hw3 ?_
        refine AP.cond rfl rfl (fun h6 => ?_) (fun h6 => ?_)
        · have h6 : 4000 < q + n2 ∨ 100 < d2 := by simp at h6; omega
          rw [if_pos h6] at hm2
          have hb := hp2 hm2
          rw [hbg 0 (by omega)] at hE hR
          refine gO ?_
          exact AE.retD [4, 3, 1, 0] rfl ⟨rfl, rfl, trivial⟩ (by simp only [go_sem, Nat.reduceAdd, Nat.reduceLeDiff, Nat.reduceSub, Int.reduceToNat, reduceCtorEq, dropOk, noMen, AV.mens, AV.men, mens_vT, mens_vZ, Bool.or_false]; first | done | rfl) ⟨rfl, .inr ⟨hR, by rw [hE]; rfl⟩⟩
        · have h6 : ¬ (4000 < q + n2 ∨ 100 < d2) := by simp at h6; omega
          rw [if_neg h6] at hm2
          refine gE @hw2 ?_
          refine AE.forgets [4] (by simp only [go_sem, Nat.reduceAdd, Nat.reduceLeDiff, Nat.reduceSub, Int.reduceToNat, reduceCtorEq, dropOk, noMen, AV.mens, AV.men, mens_vT, mens_vZ, Bool.or_false]; first | done | rfl) ?_
          refine sI ?_
          exact AE.round (j + 1, q + n2) ⟨by simp only; omega, by simp only; omega, hm2⟩ (by simp only; omega) (sU) rfl
  · subst e1; subst e2
    rw [if_pos h2] at hE hR
    refine sI ?_
    refine gO ?_
    refine AP.cond rfl rfl (fun h3 => ?_) (fun h3 => ?_)
    · refine gO ?_
      exact AE.retD [0] rfl ⟨rfl, rfl, trivial⟩ (by simp only [go_sem, Nat.reduceAdd, Nat.reduceLeDiff, Nat.reduceSub, Int.reduceToNat, reduceCtorEq, dropOk, noMen, AV.mens, AV.men, mens_vT, mens_vZ, Bool.or_false]; first | done | rfl) ⟨rfl, .inr ⟨hR, by rw [hE]; rfl⟩⟩
    · exact absurd (by simpa using h3) h2
end Go.Proofs.YtpfohmboflcneaaGreatDoor
end

section
namespace Go.Proofs.YtpfohmboflcneaaGreatDoor
open Go Go.AL Go.RowKit
set_option maxRecDepth 10000
set_option linter.unusedSimpArgs false
set_option maxHeartbeats 4000000 in
set_option maxRecDepth 100000 in
theorem bstr_row (l : List UInt8) (h0 : l ≠ []) (b g cap : Nat) (p sv : Value) (rest : List Value) (w : World) (own : Nat → Prop) (hown : own g)
    (hbk : w.heap[b]? = some (.cells #[p, .slice (some ⟨g, 0, none⟩) l.length cap, sv] 234 (0, 0))) (hg : w.heap[g]? = some (.cells (Lib.byteCells l ++ rest).toArray 5 (0, 0)))
    (hnc : l.length ≤ cap) (hcm : cap ≤ maxLen) :
    Calls Tryz.prog 154 #[.pointer (some ⟨b, 0, none⟩)] w fun e w' => e = .returned (.string ⟨l.toArray⟩) ∧ Ext own w w' := by
  have i5 : (Tryz.prog.info? 5).map (fun i => (i.zero, i.size, i.bytes)) = some (some (Value.int IntKind.u8 0), 1, 1) := by kernel_rfl
  obtain ⟨i0, hi, hz0, hz1, hz2⟩ := info_parts i5
  have hco : Tryz.prog.cellsOf 5 = 1 := by simp [Program.cellsOf, hi, hz1]
  have hl0 : l.length ≠ 0 := by simpa using h0
  have c1 : w.drew.cell? ⟨b, 1, none⟩ = some (.slice (some ⟨g, 0, none⟩) l.length cap) := by
    have : w.drew.heap[b]? = some (.cells #[p, .slice (some ⟨g, 0, none⟩) l.length cap, sv] 234 (0, 0)) := hbk
    rw [Lib.cell_of_heap this]; rfl
  have hSD : (Builtin.unsafeSliceData_ #[230] 278 #[.slice (some ⟨g, 0, none⟩) l.length cap]).run Tryz.prog w.drew = .ok (.pointer (some ⟨g, 0, none⟩)) w.drew :=
    Lib.run_unsafeSliceData_row _ _ _ _ _ _ (by omega)
  have hUS : (Builtin.unsafeString_ #[278, 3] 9 #[.pointer (some ⟨g, 0, none⟩), .int .i64 l.length]).run Tryz.prog w.drew = .ok (.string ⟨l.toArray⟩) (w.drew.freeze ⟨g, 0, none⟩ l.length) := by
    have hg' : w.drew.heap[g]? = some (.cells (Lib.byteCells l ++ rest).toArray 5 (0, 0)) := hg
    refine Lib.run_unsafeString_row w.drew 278 3 9 5 Tryz.underlying278 hco g (Lib.byteCells l ++ rest).toArray.size (by simp [World.shape?, hg']) l h0 (by simp [Lib.byteCells_length]) (by unfold maxLen at hcm; omega) ?_
    intro j x hx
    have hlt : j < l.length := by
      rcases Nat.lt_or_ge j l.length with h | h
      · exact h
      · rw [List.getElem?_eq_none h] at hx; cases hx
    have e1 : (⟨g, 0, none⟩ : Addr).add j = ⟨g, j, none⟩ := by unfold Addr.add; by_cases hj : j = 0 <;> simp [hj]
    rw [e1, Lib.cell_of_heap hg', List.getElem?_toArray, List.getElem?_append_left (by rw [Lib.byteCells_length]; exact hlt)]
    simp [Lib.byteCells, hx]
  go_enter Tryz.func154, Tryz.ntmps154
  go_wp2
  go_region
  all_goals (go_wp2; go_ret; exact ⟨rfl, (ext_drew0 w).trans (ext_freeze w.drew ⟨g, 0, none⟩ l.length hown) (fun _ h => .inl h)⟩)
set_option maxHeartbeats 4000000 in
set_option maxRecDepth 100000 in
theorem bstr_nil (b : Nat) (p sv : Value) (w : World) (own : Nat → Prop) (hbk : w.heap[b]? = some (.cells #[p, .slice none 0 0, sv] 234 (0, 0))) :
    Calls Tryz.prog 154 #[.pointer (some ⟨b, 0, none⟩)] w fun e w' => e = .returned (.string ⟨#[]⟩) ∧ Ext own w w' := by
  have hUS : ∀ (W : World) (q : Option Addr), (Builtin.unsafeString_ #[278, 3] 9 #[.pointer q, .int .i64 0]).run Tryz.prog W = .ok (.string .empty) W := fun W q => Lib.run_unsafeString_none W _ _ _ q
  have c1 : w.drew.cell? ⟨b, 1, none⟩ = some (.slice none 0 0) := by
    have : w.drew.heap[b]? = some (.cells #[p, .slice none 0 0, sv] 234 (0, 0)) := hbk
    rw [Lib.cell_of_heap this]; rfl
  have hSD : (Builtin.unsafeSliceData_ #[230] 278 #[.slice none 0 0]).run Tryz.prog w.drew = .ok (.pointer none) w.drew := rfl
  go_enter Tryz.func154, Tryz.ntmps154
  go_wp2
  go_region
  all_goals (go_wp2; go_ret; exact ⟨rfl, ext_drew0 w⟩)
set_option maxHeartbeats 4000000 in
set_option maxRecDepth 100000 in
theorem bstr_noroom (b g : Nat) (p sv : Value) (cur : Array Value) (w : World) (own : Nat → Prop) (hbk : w.heap[b]? = some (.cells #[p, .slice (some ⟨g, 0, none⟩) 0 0, sv] 234 (0, 0))) (hg : w.heap[g]? = some (.cells cur 5 (0, 0))) :
    Calls Tryz.prog 154 #[.pointer (some ⟨b, 0, none⟩)] w fun e w' => e = .returned (.string ⟨#[]⟩) ∧ Ext own w w' := by
  have hUS : ∀ (W : World) (q : Option Addr), (Builtin.unsafeString_ #[278, 3] 9 #[.pointer q, .int .i64 0]).run Tryz.prog W = .ok (.string .empty) W := fun W q => Lib.run_unsafeString_none W _ _ _ q
  have hlt : b < w.heap.size := by
    rcases Nat.lt_or_ge b w.heap.size with h' | h'
    · exact h'
    · simp [Array.getElem?_eq_none h'] at hbk
  have c1 : w.drew.cell? ⟨b, 1, none⟩ = some (.slice (some ⟨g, 0, none⟩) 0 0) := by
    have : w.drew.heap[b]? = some (.cells #[p, .slice (some ⟨g, 0, none⟩) 0 0, sv] 234 (0, 0)) := hbk
    rw [Lib.cell_of_heap this]; rfl
  have hSD : (Builtin.unsafeSliceData_ #[230] 278 #[.slice (some ⟨g, 0, none⟩) 0 0]).run Tryz.prog w.drew = .ok (.pointer (some ⟨w.drew.heap.size, 0, none⟩)) (w.drew.alloc (.view ⟨g, 0, none⟩ 5)) :=
    Lib.run_unsafeSliceData_zero w.drew _ _ 5 Tryz.underlying278 ⟨g, 0, none⟩ 0 (5, cur.size) (by have hg' : w.drew.heap[g]? = some (.cells cur 5 (0, 0)) := hg; simp [World.shape?, hg'])
  have c2 : (w.drew.alloc (.view ⟨g, 0, none⟩ 5)).cell? ⟨b, 1, none⟩ = some (.slice (some ⟨g, 0, none⟩) 0 0) := by
    have : (w.drew.alloc (.view ⟨g, 0, none⟩ 5)).heap[b]? = _ := (Lib.alloc_old w.drew _ b hlt).trans hbk
    rw [Lib.cell_of_heap this]; rfl
  have c3 : (w.alloc (.view ⟨g, 0, none⟩ 5)).drew.cell? ⟨b, 1, none⟩ = some (.slice (some ⟨g, 0, none⟩) 0 0) := c2
  have c0 : w.cell? ⟨b, 1, none⟩ = some (.slice (some ⟨g, 0, none⟩) 0 0) := c1
  go_enter Tryz.func154, Tryz.ntmps154
  go_wp2
  go_region
  all_goals (go_wp2; go_ret; exact ⟨rfl, ext_drew (w := w) _⟩)
set_option maxHeartbeats 4000000 in
set_option maxRecDepth 100000 in
theorem bstr_room (b g cap : Nat) (p sv : Value) (w : World) (own : Nat → Prop) (hc0 : cap ≠ 0) (hbk : w.heap[b]? = some (.cells #[p, .slice (some ⟨g, 0, none⟩) 0 cap, sv] 234 (0, 0))) :
    Calls Tryz.prog 154 #[.pointer (some ⟨b, 0, none⟩)] w fun e w' => e = .returned (.string ⟨#[]⟩) ∧ Ext own w w' := by
  have hUS : ∀ (W : World) (q : Option Addr), (Builtin.unsafeString_ #[278, 3] 9 #[.pointer q, .int .i64 0]).run Tryz.prog W = .ok (.string .empty) W := fun W q => Lib.run_unsafeString_none W _ _ _ q
  have c1 : w.drew.cell? ⟨b, 1, none⟩ = some (.slice (some ⟨g, 0, none⟩) 0 cap) := by
    have : w.drew.heap[b]? = some (.cells #[p, .slice (some ⟨g, 0, none⟩) 0 cap, sv] 234 (0, 0)) := hbk
    rw [Lib.cell_of_heap this]; rfl
  have hSD : (Builtin.unsafeSliceData_ #[230] 278 #[.slice (some ⟨g, 0, none⟩) 0 cap]).run Tryz.prog w.drew = .ok (.pointer (some ⟨g, 0, none⟩)) w.drew :=
    Lib.run_unsafeSliceData_row _ _ _ _ _ _ hc0
  clear hc0
  go_enter Tryz.func154, Tryz.ntmps154
  go_wp2
  go_region
  all_goals (go_wp2; go_ret; exact ⟨rfl, ext_drew0 w⟩)
theorem byteR_denss_inv {w : World} {I : Nat → Prop} : ∀ (l : List UInt8) (vss : List (List Value)), IV.denss w I (byteR l) vss → vss.flatten = Lib.byteCells l
  | [], vss, h => by simp only [byteR, List.map_nil, IV.denss] at h; subst h; rfl
  | x :: l, vss, h => by
    simp only [byteR, List.map_cons, IV.denss, IV.dens, IV.den] at h
    obtain ⟨u, us', rfl, ⟨v, vs, rfl, ⟨rfl, _⟩, rfl⟩, h2⟩ := h
    have := byteR_denss_inv l us' h2
    simp [Lib.byteCells, this]
theorem bstr_spec (l : List UInt8) (p : AV) (sh : Bool) : ACall Tryz.prog 154 [.ob 0 0] [(0, .var 234 [p, .os 1 1 0 l.length, Bv sh]), (1, .vec 5 1 (byteR l))] (fun r H' => H' = [] ∧ r = Sv l) := by
  refine ACall.drop (r := Sv l) (by rfl) rfl ⟨rfl, rfl⟩ fun w φ I vs hd hR _ => ?_
  simp only [AV.dens, AV.den] at hd
  obtain ⟨u, us, rfl, ⟨b, hb, rfl⟩, rfl⟩ := hd
  have h0 := hR.own 0 _ _ rfl hb
  simp only [Ob.at, Sh.has, AV.dens, AV.den] at h0
  obtain ⟨b', us, hbe, hbk, ⟨u, us1, rfl, _, v, us2, rfl, hv, sv, us3, rfl, _, rfl⟩, _⟩ := h0
  cases hbe
  have key : Calls Tryz.prog 154 #[.pointer (some ⟨b, 0, none⟩)] w fun e' w' => e' = .returned (.string ⟨l.toArray⟩) ∧ Ext (ownB φ) w w' := by
    rcases hv with ⟨_, _, hl, rfl⟩ | ⟨g, c, hg, rfl, h2, h3, h4⟩
    · have : l = [] := List.eq_nil_of_length_eq_zero hl
      subst this
      exact bstr_nil b u sv w _ hbk
    · have h1 := hR.own 1 _ _ rfl hg
      simp only [Ob.at] at h1
      rcases h1 with ⟨h1, _⟩ | ⟨g', vss, rest, hge, hgk, hr, _⟩
      · cases h1
      cases hge
      have hfl := byteR_denss_inv l vss hr
      rw [hfl] at hgk
      simp only [Nat.zero_mul] at hbk
      by_cases hl : l = []
      · subst hl
        by_cases hc : c = 0
        · subst hc
          exact bstr_noroom b g u sv _ w _ hbk hgk
        · exact bstr_room b g c u sv w _ hc hbk
      · exact bstr_row l hl b g c u sv rest w _ ⟨1, hg⟩ hbk hgk h2 h3
  refine key.mono fun e w' ⟨he, hx⟩ => ⟨_, he, ?_, hx⟩
  rw [den_s]
  rfl
theorem builder_sz : ∃ j, Tryz.prog.info? 232 = some j ∧ j.size ≠ 0 := by
  have h : (Tryz.prog.info? 232).map (·.size) = some 2 := by kernel_rfl
  obtain ⟨j, hj, hs⟩ := Option.map_eq_some_iff.1 h
  exact ⟨j, hj, by rw [hs]; decide⟩
theorem builder_lies : liesAt Tryz.prog Tryz.prog.depth 234 (3 / Tryz.prog.cellsOf 234) 0 232 1 = true := by kernel_rfl
theorem self_shape {w : World} {φ : Phi} {I : Nat → Prop} {H : Heap} {b g : Nat} {p q : AV} {sh : Bool} (hR : Real w φ I H) (hl : lk H b = some (.var 234 [p, q, Bv sh])) (hb : φ b = some (some g)) : w.shape? g = some (234, 3) := by
  have h0 := hR.own b _ _ hl hb
  simp only [Ob.at, Sh.has, AV.dens] at h0
  obtain ⟨b', us, hbe, hbk, ⟨u, us1, rfl, _, v, us2, rfl, hv, sv, us3, rfl, _, rfl⟩, _⟩ := h0
  cases hbe
  simp [World.shape?, hbk]
theorem ob_ev {C : Cx} {φ : Phi} {I : Nat → Prop} {E : Env} {H : Heap} {a : Act} {w : World} (hs : Sim C φ I E H a w) {t : Nat} (ht : lk E t = some (.ob 0 0)) : ∃ g, φ 0 = some (some g) ∧ a.eval (.tmp t) = .pointer (some ⟨g, 0, none⟩) := by
  obtain ⟨u, hu, hd⟩ := hs.env _ _ ht
  simp only [AV.den] at hd
  obtain ⟨g, hg, rfl⟩ := hd
  exact ⟨g, hg, by simp only [Act.eval, Array.getD_eq_getD_getElem?, hu, Option.getD_some]⟩
set_option maxRecDepth 10000
set_option maxHeartbeats 1000000
theorem copyCheck_fresh (q : AV) (sh : Bool) (rows : List (List IV)) : ACall Tryz.prog 196 [.ob 0 0] [(0, .var 234 [.im (.v (.pointer none)), q, Bv sh]), (1, .vec 5 1 rows)] (fun r H' => H' = [(0, .var 234 [.ob 0 0, q, Bv sh]), (1, .vec 5 1 rows)] ∧ r = .tup []) := by
  obtain ⟨j, hj, hjs⟩ := builder_sz
  refine ACall.walk [0, 6, 19] [] Tryz.func196 rfl Tryz.ntmps196 (by kernel_rfl) (by rfl) rfl fun W own I0 φ0 lay => ?_
  refine gO ?_
  refine AQ.val (.ob 0 0) (by kernel_rfl) rfl (fun φ I a w hs => ?_) ?_
  · obtain ⟨g, hg, hev⟩ := ob_ev (t := 8) hs rfl
    have hsh := self_shape hs.st.real rfl hg
    refine ⟨_, ?_, by simp only [AV.den]; exact ⟨g, hg, rfl⟩⟩
    simp only [execOp, hev, Sem.run_bind]
    rw [Lib.run_to_unsafe w ⟨g, 0, none⟩ Tryz.underlying229 Tryz.underlying300 hj hjs hsh (Nat.zero_lt_succ _)]
    rfl
  refine gO ?_
  refine AQ.val (.ob 0 0) (by kernel_rfl) rfl (fun φ I a w hs => ?_) ?_
  · obtain ⟨g, hg, hev⟩ := ob_ev (t := 9) hs rfl
    refine ⟨_, ?_, by simp only [AV.den]; exact ⟨g, hg, rfl⟩⟩
    simp only [execOp, Sem.run_bind, resolve, invoke, Sem.run_pure, Result.andThen_ok, List.map_toArray, List.map_cons, List.map_nil, hev]
    have hf : a.eval (Operand.func 224) = .func (.func 224) #[] #[] := rfl
    simp only [hf, Deferred.ofValue, Sem.run_pure, Result.andThen_ok, Array.append_empty, Array.empty_append]
    rw [run_callFunc_extern Tryz.func224 (by kernel_rfl) (by kernel_rfl) (by kernel_rfl) (e := Extern.AbiNoEscape.same) (by kernel_rfl)]
    rw [Lib.run_noEscape]
    rfl
  refine gO ?_
  refine AQ.val (.ob 0 0) (by kernel_rfl) rfl (fun φ I a w hs => ?_) ?_
  · obtain ⟨g, hg, hev⟩ := ob_ev (t := 10) hs rfl
    have hsh := self_shape hs.st.real rfl hg
    refine ⟨_, ?_, by simp only [AV.den]; exact ⟨g, hg, rfl⟩⟩
    simp only [execOp, hev, Sem.run_bind]
    rw [Lib.run_from_unsafe w ⟨g, 0, none⟩ Tryz.underlying300 Tryz.underlying229 hj hsh builder_lies]
    rfl
  refine gO ?_
  exact AE.fall rfl trivial ⟨rfl, rfl⟩
theorem copyCheck_used (q : AV) (sh : Bool) (rows : List (List IV)) : ACall Tryz.prog 196 [.ob 0 0] [(0, .var 234 [.ob 0 0, q, Bv sh]), (1, .vec 5 1 rows)] (fun r H' => H' = [(0, .var 234 [.ob 0 0, q, Bv sh]), (1, .vec 5 1 rows)] ∧ r = .tup []) := by
  obtain ⟨j, hj, hjs⟩ := builder_sz
  refine ACall.walk [0, 6, 19] [] Tryz.func196 rfl Tryz.ntmps196 (by kernel_rfl) (by rfl) rfl fun W own I0 φ0 lay => ?_
  refine gO ?_
  exact AE.fall rfl trivial ⟨rfl, rfl⟩
theorem writeString_spec (p : AV) (hp : p = .im (.v (.pointer none)) ∨ p = .ob 0 0) (sh : Bool) (l m : List UInt8) (n : Nat) (hn : n = l.length) (hb : l.length + m.length ≤ 1000000000) :
    ACall Tryz.prog 152 [.ob 0 0, Sv m] [(0, .var 234 [p, .os 1 1 0 n, Bv sh]), (1, .vec 5 1 (byteR l))]
      (fun r H' => H' = [(0, .var 234 [.ob 0 0, .os 2 1 0 (n + m.length), Bv sh]), (2, .vec 5 1 (byteR (l ++ m)))] ∧ r = .tup [Iv m.length, .im (.v .nilIface)]) := by
  subst hn
  have hcc : ACall Tryz.prog 196 [.ob 0 0] [(0, .var 234 [p, .os 1 1 0 l.length, Bv sh]), (1, .vec 5 1 (byteR l))] (fun r H' => H' = [(0, .var 234 [.ob 0 0, .os 1 1 0 l.length, Bv sh]), (1, .vec 5 1 (byteR l))] ∧ r = .tup []) := by
    rcases hp with rfl | rfl
    · exact copyCheck_fresh _ _ _
    · exact copyCheck_used _ _ _
  have hpa : passes (rho [(0, 0), (1, 1)] 2) [(0, .var 234 [p, .os 1 1 0 l.length, Bv sh]), (1, .vec 5 1 (byteR l))] [(0, .var 234 [p, .os 1 1 0 l.length, Bv sh]), (1, .vec 5 1 (byteR l))] := by
    rcases hp with rfl | rfl
    · exact ⟨rfl, rfl, trivial⟩
    · exact ⟨rfl, rfl, trivial⟩
  refine ACall.walk [0, 1, 4, 5] [] Tryz.func152 rfl Tryz.ntmps152 (by kernel_rfl) (by rfl) rfl fun W own I0 φ0 lay => ?_
  refine gO ?_
  refine AQ.callH [(0, 0), (1, 1)] (by kernel_rfl) rfl rfl rfl rfl rfl rfl hpa rfl hcc ?_
  rintro r H1 ⟨rfl, rfl⟩
  refine ⟨rfl, ?_⟩
  refine gO ?_
  refine AQ.rename 1 2 rfl rfl rfl ?_
  refine sI ?_
  refine AQ.kill 2 ?_
  refine sI ?_
  refine AQ.appendS (hnb := rfl) (l := m) (by kernel_rfl) rfl rfl rfl rfl (by kernel_rfl) (by kernel_rfl) (by kernel_rfl) (by kernel_rfl) (by kernel_rfl) (byteR_len l).symm (by rw [byteR_len]; omega) ?_
  refine gO ?_
  exact AE.ret rfl ⟨rfl, rfl, trivial⟩ ⟨by rw [byteR_len, show byteR (l ++ m) = byteR l ++ byteR m by simp [byteR]], rfl⟩
end Go.Proofs.YtpfohmboflcneaaGreatDoor
end

section
namespace Go.Proofs
open Go.Shelf
def Tryz.laysM171_ren : Go.Shelf.Ren := ⟨fun | 171 => 202 | 243 => 227 | 246 => 249 | 283 => 259 | 284 => 260 | 285 => 261 | 286 => 262 | 129 => 240 | 317 => 266 | 318 => 267 | 319 => 268 | 320 => 269 | 337 => 270 | 338 => 271 | n => n, fun | 3 => 3 | 9 => 9 | 2 => 2 | 4 => 4 | 171 => 338 | 0 => 0 | 53 => 314 | 37 => 230 | 5 => 5 | 173 => 340 | 212 => 350 | 51 => 312 | 20 => 20 | 213 => 351 | 46 => 295 | 232 => 352 | 233 => 353 | n => n, fun | 17 => 3 | 18 => 4 | 19 => 5 | n => n⟩
theorem Tryz.laysM171 : Go.Proofs.LaysM.n171 Tryz.prog Tryz.laysM171_ren := {
  mixed := by kernel_rfl
  f129 := Tryz.func240.trans (congrArg some (by kernel_rfl))
  f171 := Tryz.func202.trans (congrArg some (by kernel_rfl))
  f243 := Tryz.func227.trans (congrArg some (by kernel_rfl))
  f246 := Tryz.func249.trans (congrArg some (by kernel_rfl))
  f283 := Tryz.func259.trans (congrArg some (by kernel_rfl))
  f284 := Tryz.func260.trans (congrArg some (by kernel_rfl))
  f285 := Tryz.func261.trans (congrArg some (by kernel_rfl))
  f286 := Tryz.func262.trans (congrArg some (by kernel_rfl))
  f317 := Tryz.func266.trans (congrArg some (by kernel_rfl))
  f318 := Tryz.func267.trans (congrArg some (by kernel_rfl))
  f319 := Tryz.func268.trans (congrArg some (by kernel_rfl))
  f320 := Tryz.func269.trans (congrArg some (by kernel_rfl))
  f337 := Tryz.func270.trans (congrArg some (by kernel_rfl))
  f338 := Tryz.func271.trans (congrArg some (by kernel_rfl))
  t0 := Tryz.underlying0
  a0 := Tryz.isAgg0
  z0 := Tryz.sizeOf0
  v0 := Tryz.zeroValue0
  t2 := Tryz.underlying2
  a2 := Tryz.isAgg2
  z2 := Tryz.sizeOf2
  v2 := Tryz.zeroValue2
  t3 := Tryz.underlying3
  a3 := Tryz.isAgg3
  z3 := Tryz.sizeOf3
  v3 := Tryz.zeroValue3
  t4 := Tryz.underlying4
  a4 := Tryz.isAgg4
  z4 := Tryz.sizeOf4
  v4 := Tryz.zeroValue4
  t5 := Tryz.underlying5
  a5 := Tryz.isAgg5
  z5 := Tryz.sizeOf5
  v5 := Tryz.zeroValue5
  t9 := Tryz.underlying9
  a9 := Tryz.isAgg9
  z9 := Tryz.sizeOf9
  v9 := Tryz.zeroValue9
  t20 := Tryz.underlying20
  a20 := Tryz.isAgg20
  z20 := Tryz.sizeOf20
  v20 := Tryz.zeroValue20
  t37 := Tryz.underlying230
  a37 := Tryz.isAgg230
  z37 := Tryz.sizeOf230
  v37 := Tryz.zeroValue230
  t46 := Tryz.underlying295
  a46 := Tryz.isAgg295
  z46 := Tryz.sizeOf295
  v46 := Tryz.zeroValue295
  t51 := Tryz.underlying312
  a51 := Tryz.isAgg312
  z51 := Tryz.sizeOf312
  v51 := Tryz.zeroValue312
  t53 := Tryz.underlying314
  a53 := Tryz.isAgg314
  z53 := Tryz.sizeOf314
  v53 := Tryz.zeroValue314
  t171 := Tryz.underlying338
  a171 := Tryz.isAgg338
  z171 := Tryz.sizeOf338
  v171 := Tryz.zeroValue338
  t173 := Tryz.underlying340
  a173 := Tryz.isAgg340
  z173 := Tryz.sizeOf340
  v173 := Tryz.zeroValue340
  t212 := Tryz.underlying350
  a212 := Tryz.isAgg350
  z212 := Tryz.sizeOf350
  v212 := Tryz.zeroValue350
  t213 := Tryz.underlying351
  a213 := Tryz.isAgg351
  z213 := Tryz.sizeOf351
  t232 := Tryz.underlying352
  a232 := Tryz.isAgg352
  z232 := Tryz.sizeOf352
  v232 := Tryz.zeroValue352
  t233 := Tryz.underlying353
  a233 := Tryz.isAgg353
  z233 := Tryz.sizeOf353
  v233 := Tryz.zeroValue353
  g17 := by kernel_rfl
  g18 := by kernel_rfl
  g19 := by kernel_rfl
  i0 := by kernel_rfl
  i2 := by kernel_rfl
  i3 := by kernel_rfl
  i4 := by kernel_rfl
  i5 := by kernel_rfl
  i9 := by kernel_rfl
  i20 := by kernel_rfl
  i37 := by kernel_rfl
  i46 := by kernel_rfl
  i51 := by kernel_rfl
  i53 := by kernel_rfl
  i171 := by kernel_rfl
  i173 := by kernel_rfl
  i212 := by kernel_rfl
  i232 := by kernel_rfl
  i233 := by kernel_rfl
  m17 := by kernel_rfl
  m18 := by kernel_rfl
  m19 := by kernel_rfl }
open Go.RowKit Go.Sort Go.Lib in
theorem Tryz.strconv_Itoa (n : Int) (h0 : -9223372036854775808 ≤ n) (h1 : n ≤ 9223372036854775807) (w : World) (htab : Lib.TabIs Tryz.prog w "internal/strconv.uint64pow10" .u64 Lib.pow10Tab) :
    Calls Tryz.prog 202 #[.int .i64 n] w fun e w' => e = .returned (.string ⟨(Lib.itoa n).toArray⟩) ∧ ∃ k os, w' = grow (w.drewN k) os := Any.strconv_Itoa Tryz.laysM171 n h0 h1 w htab
def Tryz.laysC172_ren : Go.Shelf.Ren := ⟨fun | 172 => 201 | 244 => 225 | 245 => 226 | 247 => 244 | 279 => 245 | 280 => 246 | 281 => 247 | 282 => 248 | 287 => 256 | 316 => 257 | 171 => 202 | 205 => 258 | 321 => 264 | 322 => 265 | 243 => 227 | 246 => 249 | 283 => 259 | 284 => 260 | 285 => 261 | 286 => 262 | 129 => 240 | 317 => 266 | 318 => 267 | 319 => 268 | 320 => 269 | 337 => 270 | 338 => 271 | n => n, fun | 9 => 9 | 3 => 3 | 75 => 236 | 76 => 237 | 4 => 4 | 5 => 5 | 167 => 319 | 37 => 230 | 0 => 0 | 85 => 320 | 2 => 2 | 168 => 322 | 53 => 314 | 175 => 332 | 46 => 295 | 210 => 336 | 127 => 278 | 145 => 348 | 143 => 346 | 21 => 21 | 171 => 338 | 173 => 340 | 212 => 350 | 51 => 312 | 20 => 20 | 213 => 351 | 232 => 352 | 233 => 353 | 80 => 240 | n => n, fun | 15 => 1 | 16 => 2 | 17 => 3 | 18 => 4 | 19 => 5 | n => n⟩
theorem Tryz.laysC172 : Go.Proofs.LaysC.n172 Tryz.prog Tryz.laysC172_ren := {
  mixed := by kernel_rfl
  f129 := Tryz.func240.trans (congrArg some (by kernel_rfl))
  f171 := Tryz.func202.trans (congrArg some (by kernel_rfl))
  f172 := Tryz.func201.trans (congrArg some (by kernel_rfl))
  f205 := Tryz.func258.trans (congrArg some (by kernel_rfl))
  f243 := Tryz.func227.trans (congrArg some (by kernel_rfl))
  f244 := Tryz.func225.trans (congrArg some (by kernel_rfl))
  f245 := Tryz.func226.trans (congrArg some (by kernel_rfl))
  f246 := Tryz.func249.trans (congrArg some (by kernel_rfl))
  f247 := Tryz.func244.trans (congrArg some (by kernel_rfl))
  f279 := Tryz.func245.trans (congrArg some (by kernel_rfl))
  f280 := Tryz.func246.trans (congrArg some (by kernel_rfl))
  f281 := Tryz.func247.trans (congrArg some (by kernel_rfl))
  f282 := Tryz.func248.trans (congrArg some (by kernel_rfl))
  f283 := Tryz.func259.trans (congrArg some (by kernel_rfl))
  f284 := Tryz.func260.trans (congrArg some (by kernel_rfl))
  f285 := Tryz.func261.trans (congrArg some (by kernel_rfl))
  f286 := Tryz.func262.trans (congrArg some (by kernel_rfl))
  f287 := Tryz.func256.trans (congrArg some (by kernel_rfl))
  f316 := Tryz.func257.trans (congrArg some (by kernel_rfl))
  f317 := Tryz.func266.trans (congrArg some (by kernel_rfl))
  f318 := Tryz.func267.trans (congrArg some (by kernel_rfl))
  f319 := Tryz.func268.trans (congrArg some (by kernel_rfl))
  f320 := Tryz.func269.trans (congrArg some (by kernel_rfl))
  f321 := Tryz.func264.trans (congrArg some (by kernel_rfl))
  f322 := Tryz.func265.trans (congrArg some (by kernel_rfl))
  f337 := Tryz.func270.trans (congrArg some (by kernel_rfl))
  f338 := Tryz.func271.trans (congrArg some (by kernel_rfl))
  t0 := Tryz.underlying0
  a0 := Tryz.isAgg0
  z0 := Tryz.sizeOf0
  v0 := Tryz.zeroValue0
  t2 := Tryz.underlying2
  a2 := Tryz.isAgg2
  z2 := Tryz.sizeOf2
  v2 := Tryz.zeroValue2
  t3 := Tryz.underlying3
  a3 := Tryz.isAgg3
  z3 := Tryz.sizeOf3
  v3 := Tryz.zeroValue3
  t4 := Tryz.underlying4
  a4 := Tryz.isAgg4
  z4 := Tryz.sizeOf4
  v4 := Tryz.zeroValue4
  t5 := Tryz.underlying5
  a5 := Tryz.isAgg5
  z5 := Tryz.sizeOf5
  v5 := Tryz.zeroValue5
  t9 := Tryz.underlying9
  a9 := Tryz.isAgg9
  z9 := Tryz.sizeOf9
  v9 := Tryz.zeroValue9
  t20 := Tryz.underlying20
  a20 := Tryz.isAgg20
  z20 := Tryz.sizeOf20
  v20 := Tryz.zeroValue20
  t21 := Tryz.underlying21
  a21 := Tryz.isAgg21
  z21 := Tryz.sizeOf21
  v21 := Tryz.zeroValue21
  t37 := Tryz.underlying230
  a37 := Tryz.isAgg230
  z37 := Tryz.sizeOf230
  v37 := Tryz.zeroValue230
  t46 := Tryz.underlying295
  a46 := Tryz.isAgg295
  z46 := Tryz.sizeOf295
  v46 := Tryz.zeroValue295
  t51 := Tryz.underlying312
  a51 := Tryz.isAgg312
  z51 := Tryz.sizeOf312
  v51 := Tryz.zeroValue312
  t53 := Tryz.underlying314
  a53 := Tryz.isAgg314
  z53 := Tryz.sizeOf314
  v53 := Tryz.zeroValue314
  t75 := Tryz.underlying236
  a75 := Tryz.isAgg236
  z75 := Tryz.sizeOf236
  v75 := Tryz.zeroValue236
  t76 := Tryz.underlying237
  a76 := Tryz.isAgg237
  z76 := Tryz.sizeOf237
  v76 := Tryz.zeroValue237
  t85 := Tryz.underlying320
  a85 := Tryz.isAgg320
  z85 := Tryz.sizeOf320
  v85 := Tryz.zeroValue320
  t127 := Tryz.underlying278
  a127 := Tryz.isAgg278
  z127 := Tryz.sizeOf278
  v127 := Tryz.zeroValue278
  t143 := Tryz.underlying346
  a143 := Tryz.isAgg346
  z143 := Tryz.sizeOf346
  v143 := Tryz.zeroValue346
  t145 := Tryz.underlying348
  a145 := Tryz.isAgg348
  z145 := Tryz.sizeOf348
  v145 := Tryz.zeroValue348
  t167 := Tryz.underlying319
  a167 := Tryz.isAgg319
  z167 := Tryz.sizeOf319
  v167 := Tryz.zeroValue319
  t168 := Tryz.underlying322
  a168 := Tryz.isAgg322
  z168 := Tryz.sizeOf322
  v168 := Tryz.zeroValue322
  t171 := Tryz.underlying338
  a171 := Tryz.isAgg338
  z171 := Tryz.sizeOf338
  v171 := Tryz.zeroValue338
  t173 := Tryz.underlying340
  a173 := Tryz.isAgg340
  z173 := Tryz.sizeOf340
  v173 := Tryz.zeroValue340
  t175 := Tryz.underlying332
  a175 := Tryz.isAgg332
  z175 := Tryz.sizeOf332
  v175 := Tryz.zeroValue332
  t210 := Tryz.underlying336
  a210 := Tryz.isAgg336
  z210 := Tryz.sizeOf336
  v210 := Tryz.zeroValue336
  t212 := Tryz.underlying350
  a212 := Tryz.isAgg350
  z212 := Tryz.sizeOf350
  v212 := Tryz.zeroValue350
  t213 := Tryz.underlying351
  a213 := Tryz.isAgg351
  z213 := Tryz.sizeOf351
  t232 := Tryz.underlying352
  a232 := Tryz.isAgg352
  z232 := Tryz.sizeOf352
  v232 := Tryz.zeroValue352
  t233 := Tryz.underlying353
  a233 := Tryz.isAgg353
  z233 := Tryz.sizeOf353
  v233 := Tryz.zeroValue353
  g15 := by kernel_rfl
  g16 := by kernel_rfl
  g17 := by kernel_rfl
  g18 := by kernel_rfl
  g19 := by kernel_rfl
  t80 := Tryz.underlying240
  a80 := Tryz.isAgg240
  z80 := Tryz.sizeOf240
  v80 := Tryz.zeroValue240
  i0 := by kernel_rfl
  i2 := by kernel_rfl
  i3 := by kernel_rfl
  i4 := by kernel_rfl
  i5 := by kernel_rfl
  i9 := by kernel_rfl
  i20 := by kernel_rfl
  i21 := by kernel_rfl
  i37 := by kernel_rfl
  i46 := by kernel_rfl
  i51 := by kernel_rfl
  i53 := by kernel_rfl
  i75 := by kernel_rfl
  i76 := by kernel_rfl
  i80 := by kernel_rfl
  i85 := by kernel_rfl
  i127 := by kernel_rfl
  i143 := by kernel_rfl
  i145 := by kernel_rfl
  i167 := by kernel_rfl
  i168 := by kernel_rfl
  i171 := by kernel_rfl
  i173 := by kernel_rfl
  i175 := by kernel_rfl
  i210 := by kernel_rfl
  i212 := by kernel_rfl
  i232 := by kernel_rfl
  i233 := by kernel_rfl
  m15 := by kernel_rfl
  m16 := by kernel_rfl
  m17 := by kernel_rfl
  m18 := by kernel_rfl
  m19 := by kernel_rfl
  c0 := by kernel_rfl
  c2 := by kernel_rfl
  c3 := by kernel_rfl
  c4 := by kernel_rfl
  c5 := by kernel_rfl
  c9 := by kernel_rfl
  c20 := by kernel_rfl
  c21 := by kernel_rfl
  c37 := by kernel_rfl
  c46 := by kernel_rfl
  c51 := by kernel_rfl
  c53 := by kernel_rfl
  c75 := by kernel_rfl
  c76 := by kernel_rfl
  c80 := by kernel_rfl
  c85 := by kernel_rfl
  c127 := by kernel_rfl
  c143 := by kernel_rfl
  c145 := by kernel_rfl
  c167 := by kernel_rfl
  c168 := by kernel_rfl
  c171 := by kernel_rfl
  c173 := by kernel_rfl
  c175 := by kernel_rfl
  c210 := by kernel_rfl
  c212 := by kernel_rfl
  c213 := by kernel_rfl
  c232 := by kernel_rfl
  c233 := by kernel_rfl }
open Go.RowKit in
theorem Tryz.strconv_Atoi_ok (s : ByteArray) (hmax : s.size ≤ 9223372036854775806) (v : Int) (h : Lib.atoiAll s.data.toList = .ok v) (w : World) :
    Calls Tryz.prog 201 #[.string s] w fun e w' => e = .returned (.tuple #[.int .i64 v, .nilIface]) ∧ (w' = w ∨ ∃ t, w' = Lib.bytesWorld w 5 t) := Any.strconv_Atoi_ok Tryz.laysC172 s hmax v h w
open Go.RowKit in
theorem Tryz.strconv_Atoi_syntax_var (s : ByteArray) (hlim : s.size ≤ 281474976710656) (h : Lib.atoiAll s.data.toList = .«syntax») (tp : TypeId) (p : Value) (w : World) (hvar : w.var? Tryz.prog "strconv.ErrSyntax" = some #[.iface tp p]) :
    Calls Tryz.prog 201 #[.string s] w fun e w' => ∃ N, e = .returned (.tuple #[.int .i64 0, .iface 322 (.pointer (some ⟨N, 0, none⟩))]) ∧ w.heap.size ≤ N ∧ w'.heap[N]? = some (.cells #[.string ⟨#[65, 116, 111, 105]⟩, .string s, .iface tp p] 336 (0, 0)) ∧ Below w.heap.size w w' := Any.strconv_Atoi_syntax_var Tryz.laysC172 s hlim h tp p w hvar
open Go.RowKit in
theorem Tryz.strconv_Atoi_range_var (s : ByteArray) (hlim : s.size ≤ 281474976710656) (h : Lib.atoiAll s.data.toList = .range) (tp : TypeId) (p : Value) (w : World) (hvar : w.var? Tryz.prog "strconv.ErrRange" = some #[.iface tp p]) :
    Calls Tryz.prog 201 #[.string s] w fun e w' => ∃ N, e = .returned (.tuple #[.int .i64 (Lib.atoiSat s.data.toList), .iface 322 (.pointer (some ⟨N, 0, none⟩))]) ∧ w.heap.size ≤ N ∧ w'.heap[N]? = some (.cells #[.string ⟨#[65, 116, 111, 105]⟩, .string s, .iface tp p] 336 (0, 0)) ∧ Below w.heap.size w w' := Any.strconv_Atoi_range_var Tryz.laysC172 s hlim h tp p w hvar
def Tryz.lays99_ren : Go.Shelf.Ren := ⟨fun | 99 => 160 | 206 => 203 | n => n, fun | 9 => 9 | 4 => 4 | 3 => 3 | n => n, fun | n => n⟩
theorem Tryz.lays99 : Go.Proofs.Lays.n99 Tryz.prog Tryz.lays99_ren := {
  mixed := by kernel_rfl
  f99 := Tryz.func160.trans (congrArg some (by kernel_rfl))
  f206 := Tryz.func203.trans (congrArg some (by kernel_rfl))
  t3 := Tryz.underlying3
  a3 := Tryz.isAgg3
  z3 := Tryz.sizeOf3
  v3 := Tryz.zeroValue3
  t4 := Tryz.underlying4
  a4 := Tryz.isAgg4
  z4 := Tryz.sizeOf4
  v4 := Tryz.zeroValue4
  t9 := Tryz.underlying9
  a9 := Tryz.isAgg9
  z9 := Tryz.sizeOf9
  v9 := Tryz.zeroValue9 }
open Go.RowKit Go.Lib in
theorem Tryz.strings_HasPrefix (s p : ByteArray) (w : World) :
    Calls Tryz.prog 160 #[.string s, .string p] w fun e w' => e = .returned (.bool (Lib.hasPrefix s.data.toList p.data.toList)) ∧ w' = w := Any.strings_HasPrefix Tryz.lays99 s p w
end Go.Proofs
end

section
namespace Go.Proofs.YtpfohmboflcneaaGreatDoor
open Go Go.AL Go.RowKit
set_option maxRecDepth 10000
set_option maxHeartbeats 4000000
def atoiV (l : List UInt8) : Int × Bool := match Lib.atoiAll l with
  | .ok v => (v, true)
  | .range => (Lib.atoiSat l, false)
  | _ => (0, false)
def erV (b : Bool) : AV := bif b then .im (.v .nilIface) else .wr (.iface 322) .top
theorem var_of {P : Program} {w : World} {I : Nat → Prop} {n : String} {Q : Obj → Prop} (hV : VK P w I) (hm : (n, Q) ∈ laidVars) (hs : (P.globalNamed n).isSome = true) : ∃ g o, P.globalNamed n = some g ∧ w.heap[g]? = some o ∧ Q o := by
  obtain ⟨g, hg⟩ := Option.isSome_iff_exists.1 hs
  obtain ⟨_, o, h1, h2⟩ := hV _ hm g hg
  exact ⟨g, o, hg, h1, h2⟩
theorem atoi_spec (l : List UInt8) (hl : l.length ≤ 1000000000) : PFn Tryz.prog 201 [Sv l] (.tup [Iv (atoiV l).1, erV (atoiV l).2]) := by
  refine PFn.of_belowV (by rfl) (by cases (atoiV l).2 <;> rfl) fun w φ I vs hd hI hV => ?_
  simp only [AV.dens] at hd
  obtain ⟨u, us, rfl, hu, rfl⟩ := hd
  rw [den_s] at hu
  subst hu
  have hb : (BA l).data.toList = l := BA_data l
  have hsz : (BA l).size = l.length := rfl
  cases h : Lib.atoiAll l with
  | ok v =>
    have e : atoiV l = (v, true) := by simp [atoiV, h]
    rw [e]
    refine (Tryz.strconv_Atoi_ok (BA l) (by omega) v (by rw [hb]; exact h) w).mono fun e w' ⟨he, hw⟩ => ⟨_, he, ?_, ?_⟩
    · simp only [AV.den, AV.dens, IV.den, erV, cond_true]
      exact ⟨_, ⟨_, _, rfl, ⟨rfl, rfl⟩, _, _, rfl, ⟨rfl, rfl⟩, rfl⟩, rfl⟩
    · rcases hw with rfl | ⟨t, rfl⟩
      · exact Below.refl _ _
      · exact Lib.bytesWorld_below _ _ _
  | range =>
    have e : atoiV l = (Lib.atoiSat l, false) := by simp [atoiV, h]
    rw [e]
    obtain ⟨g, o, hg, ho, tp, p, T, fz, rfl⟩ := var_of (n := "strconv.ErrRange") hV (by simp only [laidVars, List.mem_cons]; exact .inr (.inl rfl)) (by rfl)
    refine (Tryz.strconv_Atoi_range_var (BA l) (by omega) (by rw [hb]; exact h) tp p w (by simp only [World.var?, hg, Option.bind_some, ho])).mono fun e w' ⟨N, he, _, _, hw⟩ => ⟨_, he, ?_, hw⟩
    rw [hb]
    simp only [AV.den, AV.dens, IV.den, erV, cond_false, WK.rel]
    exact ⟨_, ⟨_, _, rfl, ⟨rfl, rfl⟩, _, _, rfl, ⟨_, rfl, trivial⟩, rfl⟩, rfl⟩
  | _ =>
    have e : atoiV l = (0, false) := by simp [atoiV, h]
    rw [e]
    obtain ⟨g, o, hg, ho, tp, p, T, fz, rfl⟩ := var_of (n := "strconv.ErrSyntax") hV (by simp only [laidVars, List.mem_cons]; exact .inl rfl) (by rfl)
    refine (Any.strconv_Atoi_syntax_var Tryz.laysC172 (BA l) (by omega) (by rw [hb]; exact h) tp p w (by simp only [World.var?, hg, Option.bind_some, ho])).mono fun e w' ⟨N, he, _, _, hw⟩ => ⟨_, he, ?_, hw⟩
    simp only [AV.den, AV.dens, IV.den, erV, cond_false, WK.rel]
    exact ⟨_, ⟨_, _, rfl, ⟨rfl, rfl⟩, _, _, rfl, ⟨_, rfl, trivial⟩, rfl⟩, rfl⟩
theorem atoiV_bounds (l : List UInt8) : -9223372036854775808 ≤ (atoiV l).1 ∧ (atoiV l).1 ≤ 9223372036854775807 := by
  unfold atoiV
  split
  · rename_i v h; exact Lib.atoiAll_bounds h
  · exact Lib.atoiSat_bounds l
  · simp
theorem itoa_spec (n : Int) (h : -9223372036854775808 ≤ n ∧ n ≤ 9223372036854775807) : PFn Tryz.prog 202 [Iv n] (Sv (Lib.itoa n)) := by
  refine PFn.of_belowV (by rfl) rfl fun w φ I vs hd hI hV => ?_
  simp only [AV.dens] at hd
  obtain ⟨u, us, rfl, hu, rfl⟩ := hd
  rw [den_i] at hu
  subst hu
  obtain ⟨g, o, hg, ho, T, fz, rfl⟩ := var_of (n := "internal/strconv.uint64pow10") hV (by simp only [laidVars, List.mem_cons]; exact .inr (.inr (.inl rfl))) (by rfl)
  refine (Tryz.strconv_Itoa n h.1 h.2 w (by simp only [Lib.TabIs, World.var?, hg, Option.bind_some, ho]; rfl)).mono fun e w' ⟨he, k, os, hw⟩ => ⟨_, he, by rw [den_s]; rfl, ?_⟩
  subst hw
  refine ⟨rfl, rfl, rfl, ?_, fun j hj => ?_⟩
  · show w.heap.size ≤ (w.heap ++ os).size; rw [Array.size_append]; exact Nat.le_add_right _ _
  · show (w.heap ++ os)[j]? = _
    rw [Array.getElem?_append_left hj]
theorem hasPrefix_spec (l m : List UInt8) : PFn Tryz.prog 160 [Sv l, Sv m] (Bv (Lib.hasPrefix l m)) := by
  refine PFn.of_belowV (by rfl) rfl fun w φ I vs hd hI hV => ?_
  simp only [AV.dens] at hd
  obtain ⟨u, us, rfl, hu, u2, us2, rfl, hu2, rfl⟩ := hd
  rw [den_s] at hu hu2
  subst hu; subst hu2
  refine (Tryz.strings_HasPrefix (BA l) (BA m) w).mono fun e w' ⟨he, hw⟩ => ⟨_, he, ?_, ?_⟩
  · have h1 : (BA l).data.toList = l := BA_data l
    have h2 : (BA m).data.toList = m := BA_data m
    rw [h1, h2]
    simp only [AV.den, IV.den]
    exact ⟨trivial, rfl⟩
  · subst hw; exact Below.refl _ _
theorem writeByte_spec (p : AV) (hp : p = .im (.v (.pointer none)) ∨ p = .ob 0 0) (sh : Bool) (l : List UInt8) (m : UInt8) (n : Nat) (hn : n = l.length) (hb : l.length + 1 ≤ 1000000000) :
    ACall Tryz.prog 198 [.ob 0 0, Uv m] [(0, .var 234 [p, .os 1 1 0 n, Bv sh]), (1, .vec 5 1 (byteR l))]
      (fun r H' => H' = [(0, .var 234 [.ob 0 0, .os 2 1 0 (n + 1), Bv sh]), (2, .vec 5 1 (byteR (l ++ [m])))] ∧ r = .im (.v .nilIface)) := by
  subst hn
  have hcc : ACall Tryz.prog 196 [.ob 0 0] [(0, .var 234 [p, .os 1 1 0 l.length, Bv sh]), (1, .vec 5 1 (byteR l))] (fun r H' => H' = [(0, .var 234 [.ob 0 0, .os 1 1 0 l.length, Bv sh]), (1, .vec 5 1 (byteR l))] ∧ r = .tup []) := by
    rcases hp with rfl | rfl
    · exact copyCheck_fresh _ _ _
    · exact copyCheck_used _ _ _
  have hpa : passes (rho [(0, 0), (1, 1)] 2) [(0, .var 234 [p, .os 1 1 0 l.length, Bv sh]), (1, .vec 5 1 (byteR l))] [(0, .var 234 [p, .os 1 1 0 l.length, Bv sh]), (1, .vec 5 1 (byteR l))] := by
    rcases hp with rfl | rfl
    · exact ⟨rfl, rfl, trivial⟩
    · exact ⟨rfl, rfl, trivial⟩
  refine ACall.walk [0, 1, 4] [] Tryz.func198 rfl Tryz.ntmps198 (by kernel_rfl) (by rfl) rfl fun W own I0 φ0 lay => ?_
  refine gO ?_
  refine AQ.callH [(0, 0), (1, 1)] (by kernel_rfl) rfl rfl rfl rfl rfl rfl hpa rfl hcc ?_
  rintro r H1 ⟨rfl, rfl⟩
  refine ⟨rfl, ?_⟩
  refine gO ?_
  refine AQ.rename 1 2 rfl rfl rfl ?_
  refine sI ?_
  refine AQ.kill 2 ?_
  refine sI ?_
  refine AQ.append (hnb := rfl) (rows := byteR l) (es := 0) (by kernel_rfl) rfl rfl rfl (by rfl) Tryz.tk230 Tryz.sz5 (by show Option.map _ (zro Tryz.prog 5) = _; rw [Tryz.zr5]; rfl) Tryz.by5 (by first | rfl | (simp only [byteR_len, List.length_cons, List.length_nil]; done) | (simp only [byteR_len, List.length_cons, List.length_nil]; omega)) (by simp only [byteR_len, List.length_cons, List.length_nil]; omega) (by simp only [byteR_len, List.length_cons, List.length_nil]; omega) ?_
  refine sI ?_
  refine gO ?_
  exact AE.ret rfl ⟨rfl, trivial⟩ ⟨by rw [byteR_len, show byteR (l ++ [m]) = byteR l ++ [[.v (.int .u8 m.toNat)]] by simp [byteR]], rfl⟩
end Go.Proofs.YtpfohmboflcneaaGreatDoor
end

section
namespace Go.Proofs.YtpfohmboflcneaaGreatDoor
open Go Go.AL Go.RowKit
set_option maxRecDepth 10000
set_option maxHeartbeats 4000000
abbrev pkH (sh : Bool) (p : AV) (i : Nat) (l : List UInt8) : Heap := [(0, .var 234 [p, .os i 1 0 l.length, Bv sh]), (i, .vec 5 1 (byteR l))]
def okP (p : AV) : Prop := p = .im (.v (.pointer none)) ∨ p = .ob 0 0
theorem wrS_spec {p : AV} (hp : okP p) (sh : Bool) (l m : List UInt8) (hb : l.length + m.length ≤ 1000000000) :
    ACall Tryz.prog 152 [.ob 0 0, Sv m] (pkH sh p 1 l) (fun r H' => H' = pkH sh (.ob 0 0) 2 (l ++ m) ∧ r = .tup [Iv m.length, .im (.v .nilIface)]) := by
  have := writeString_spec p hp sh l m l.length rfl hb
  rw [show l.length + m.length = (l ++ m).length by simp] at this
  exact this
theorem wrB_spec {p : AV} (hp : okP p) (sh : Bool) (l : List UInt8) (m : UInt8) (hb : l.length + 1 ≤ 1000000000) :
    ACall Tryz.prog 198 [.ob 0 0, Uv m] (pkH sh p 1 l) (fun r H' => H' = pkH sh (.ob 0 0) 2 (l ++ [m]) ∧ r = .im (.v .nilIface)) := by
  have := writeByte_spec p hp sh l m l.length rfl hb
  rw [show l.length + 1 = (l ++ [m]).length by simp] at this
  exact this
theorem pass_pk {p : AV} (hp : okP p) (sh : Bool) (l : List UInt8) (n : Nat) : passes (rho [(0, 0), (1, 4)] n) (pkH sh p 4 l) (pkH sh p 1 l) := by
  rcases hp with rfl | rfl
  · exact ⟨rfl, rfl, trivial⟩
  · exact ⟨rfl, rfl, trivial⟩
theorem sta_T {C : Cx} {K : List PK} {q : List Nat} {t : Tm} {p : AV} (hp : okP p) {sh : Bool} {l : List UInt8} (hnb : C.B.nb = 2) (h : AP C q K [(0, .ob 0 0), (1, tmV t)] (pkH sh p 4 l)) : AP C q K [(0, .ob 0 0), (1, tmV t)] (pkH sh p 1 l) := by
  have hb : Nat.ble C.B.nb 4 = true := by rw [hnb]; rfl
  rcases hp with rfl | rfl
  · exact AP.rename 1 4 rfl rfl hb h
  · exact AP.rename 1 4 rfl rfl hb h
theorem sta_L {C : Cx} {K : List PK} {q : List Nat} {t : Lt} {p : AV} (hp : okP p) {sh : Bool} {l : List UInt8} (hnb : C.B.nb = 2) (h : AP C q K [(0, .ob 0 0), (1, ltV t)] (pkH sh p 4 l)) : AP C q K [(0, .ob 0 0), (1, ltV t)] (pkH sh p 1 l) := by
  have hb : Nat.ble C.B.nb 4 = true := by rw [hnb]; rfl
  rcases hp with rfl | rfl
  · exact AP.rename 1 4 rfl rfl hb h
  · exact AP.rename 1 4 rfl rfl hb h
theorem txT_eq0 (sh : Bool) (t : Tm) : txT sh t = if t.nm = [] then 63 :: (if sh then [] else Lib.itoa t.ix) else t.nm ++ txA sh t.xs := by cases t; rw [txT]; rfl
theorem pterm_walk (sh : Bool) (t : Tm) (hs : tmL t) (ho : okT t = true) (p : AV) (hp : okP p) (l : List UInt8) (hb : l.length + (txT sh t).length ≤ 1000000000)
    (hl : t.nm ≠ [] → ∀ l : List UInt8, l.length + (txA sh t.xs).length ≤ 1000000000 → ACall Tryz.prog 199 [.ob 0 0, .im (.sl 3 (tmR t.xs))] (pkH sh (.ob 0 0) 1 l) (fun r H' => H' = pkH sh (.ob 0 0) 2 (l ++ txA sh t.xs) ∧ r = .tup [])) :
    ACall Tryz.prog 197 [.ob 0 0, tmV t] (pkH sh p 1 l) (fun r H' => H' = pkH sh (.ob 0 0) 2 (l ++ txT sh t) ∧ r = .tup []) := by
  have hT := txT_eq0 sh t
  have hok := okT_eq t
  rw [ho] at hok
  have hpp := pass_pk hp sh l
  refine ACall.walk [0, 1, 3, 6, 15] [] Tryz.func197 rfl Tryz.ntmps197 (by kernel_rfl) (by rfl) rfl fun W own I0 φ0 lay => ?_
  refine sta_T hp rfl ?_
  refine gO ?_
  refine AP.cond rfl rfl (fun h => ?_) (fun h => ?_)
  · have h : t.nm = [] := by simpa using h
    rw [if_pos h] at hT hok
    rw [hT] at hb
    have hwb := wrB_spec hp sh l 63 (by simp at hb; omega)
    refine gO ?_
    refine AQ.callH [(0, 0), (1, 4)] (by kernel_rfl) rfl rfl rfl rfl rfl rfl (hpp _) rfl (hwb) ?_
    rintro r H1 ⟨rfl, rfl⟩; refine ⟨rfl, ?_⟩; refine sH ?_; refine AQ.rename 7 4 rfl rfl rfl ?_; refine sI ?_; refine AQ.order [0, 4] rfl ?_; refine sI ?_
    cases sh with
    | true =>
      refine gO ?_
      refine AE.rename 4 2 rfl rfl rfl ?_; refine sI ?_
      exact AE.ret rfl trivial ⟨by rw [hT]; rfl, rfl⟩
    | false =>
      have hok := hok.symm
      rw [Bool.and_eq_true, Bool.and_eq_true, decide_eq_true_iff, decide_eq_true_iff] at hok
      have hit := itoa_spec t.ix (by omega)
      have hT : txT false t = 63 :: Lib.itoa t.ix := hT
      have hwi := wrS_spec (.inr rfl) false (l ++ [63]) (Lib.itoa t.ix) (by simp at hb ⊢; omega)
      refine gO ?_
      refine AP.drawE 7 (Tree.node [] [0, 1, 2, 3, 4] [5] [Tree.node [0, 1, 2] [] [6] [Tree.node [] [] [] []]]) (by kernel_rfl) rfl (by kernel_rfl) (by kernel_rfl) ?_
      refine vd_node ?_
      refine sI ?_
      refine AQ.fn (by kernel_rfl) rfl rfl rfl (hit) rfl ?_
      refine sI ?_
      refine AQ.nx rfl ?_
      refine sI ?_
      refine AQ.callH [(0, 0), (1, 4)] (by kernel_rfl) rfl rfl rfl rfl rfl rfl (by exact ⟨rfl, rfl, trivial⟩) rfl (hwi) ?_
      rintro r H1 ⟨rfl, rfl⟩; refine ⟨rfl, ?_⟩; refine sH ?_; refine AQ.rename 7 4 rfl rfl rfl ?_; refine sI ?_; refine AQ.order [0, 4] rfl ?_; refine sI ?_
      refine AQ.nx rfl ?_
      refine sI ?_
      refine AQ.done ?_
      refine gO ?_
      refine AE.rename 4 2 rfl rfl rfl ?_; refine sI ?_
      exact AE.ret rfl trivial ⟨by rw [hT, show l ++ 63 :: Lib.itoa t.ix = l ++ [63] ++ Lib.itoa t.ix by simp]; rfl, rfl⟩
  · have h : ¬ t.nm = [] := by simpa using h
    rw [if_neg h] at hT
    rw [hT, List.length_append] at hb
    have hwn := wrS_spec hp sh l t.nm (by omega)
    have hli := hl h (l ++ t.nm) (by rw [List.length_append]; omega)
    refine gO ?_
    refine AP.drawE 6 (Tree.node [] [0, 1, 2, 3, 4] [5] [Tree.node [] [] [] []]) (by kernel_rfl) rfl (by kernel_rfl) (by kernel_rfl) ?_
    refine vd_node ?_
    refine sI ?_
    refine AQ.callH [(0, 0), (1, 4)] (by kernel_rfl) rfl rfl rfl rfl rfl rfl (hpp _) rfl (hwn) ?_
    rintro r H1 ⟨rfl, rfl⟩; refine ⟨rfl, ?_⟩; refine sH ?_; refine AQ.rename 7 4 rfl rfl rfl ?_; refine sI ?_; refine AQ.order [0, 4] rfl ?_; refine sI ?_
    refine AQ.nx rfl ?_
    refine sI ?_
    refine AQ.done ?_
    refine gO ?_
    refine AQ.callH [(0, 0), (1, 4)] (by kernel_rfl) rfl rfl rfl rfl rfl rfl (by exact ⟨rfl, rfl, trivial⟩) rfl (hli) ?_
    rintro r H1 ⟨rfl, rfl⟩; refine ⟨rfl, ?_⟩; refine sH ?_; refine AQ.rename 7 4 rfl rfl rfl ?_; refine sI ?_; refine AQ.order [0, 4] rfl ?_; refine sI ?_
    refine gO ?_
    refine AE.rename 4 2 rfl rfl rfl ?_; refine sI ?_
    exact AE.fall rfl trivial ⟨by rw [hT, ← List.append_assoc]; rfl, rfl⟩
def txG (sh : Bool) (l : List Tm) : List UInt8 := l.flatMap fun t => 44 :: 32 :: txT sh t
def txD (sh : Bool) : List Tm → List UInt8
  | [] => []
  | t :: l => 40 :: (txT sh t ++ txG sh l)
theorem txR_G (sh : Bool) : ∀ l, txR sh l = txG sh l ++ [41]
  | [] => by rw [txR]; rfl
  | t :: l => by rw [txR, txR_G sh l, txG, txG, List.flatMap_cons]; simp
theorem txA_D (sh : Bool) {l : List Tm} (h : l ≠ []) : txA sh l = txD sh l ++ [41] := by
  cases l with
  | nil => exact absurd rfl h
  | cons t l => rw [txA, txR_G, txD]; simp
theorem txD_snoc (sh : Bool) {l : List Tm} {k : Nat} {u : Tm} (h : l[k]? = some u) : txD sh (l.take (k + 1)) = txD sh (l.take k) ++ ((if k = 0 then [40] else [44, 32]) ++ txT sh u) := by
  rw [take_snoc h]
  cases l with
  | nil => simp at h
  | cons t l =>
    cases k with
    | zero => simp [txD, txG]
    | succ k => rw [List.take_succ_cons, List.cons_append, txD, txD]; simp [txG]
theorem txD_pre (sh : Bool) (l : List Tm) (k : Nat) : ∃ r, txD sh l = txD sh (l.take k) ++ r := by
  cases l with
  | nil => exact ⟨[], by rw [List.take_nil]; rfl⟩
  | cons t l =>
    cases k with
    | zero => exact ⟨_, rfl⟩
    | succ k => exact ⟨txG sh (l.drop k), by
        rw [List.take_succ_cons, txD, txD]
        conv => lhs; rw [← List.take_append_drop k l, txG, List.flatMap_append]
        simp [txG]⟩
theorem txD_le (sh : Bool) (l : List Tm) (k : Nat) : (txD sh (l.take k)).length ≤ (txD sh l).length := by
  obtain ⟨r, h⟩ := txD_pre sh l k
  rw [h, List.length_append]; omega
theorem plist_walk (sh : Bool) (xs : List Tm) (hxl : xs.length ≤ 1000000000) (l : List UInt8) (hb : l.length + (txA sh xs).length ≤ 1000000000)
    (ih : ∀ (k : Nat) (t : Tm) (l : List UInt8), xs[k]? = some t → l.length + (txT sh t).length ≤ 1000000000 → ACall Tryz.prog 197 [.ob 0 0, tmV t] (pkH sh (.ob 0 0) 1 l) (fun r H' => H' = pkH sh (.ob 0 0) 2 (l ++ txT sh t) ∧ r = .tup [])) :
    ACall Tryz.prog 199 [.ob 0 0, .im (.sl 3 (tmR xs))] (pkH sh (.ob 0 0) 1 l) (fun r H' => H' = pkH sh (.ob 0 0) 2 (l ++ txA sh xs) ∧ r = .tup []) := by
  refine ACall.walk [0, 1, 4, 5, 8, 9, 10, 11, 12, 17] [5] Tryz.func199 rfl Tryz.ntmps199 (by kernel_rfl) (by rfl) rfl fun W own I0 φ0 lay => ?_
  refine AP.rename 1 4 rfl rfl rfl ?_
  refine sI ?_
  refine gE @tmR_len ?_
  refine AP.cond rfl rfl (fun h => ?_) (fun h => ?_)
  · have h : xs = [] := by cases xs with | nil => rfl | cons a b => simp at h; omega
    subst h
    refine gO ?_
    refine AE.rename 4 2 rfl rfl rfl ?_; refine sI ?_
    exact AE.ret rfl trivial ⟨by rw [txA, List.append_nil]; rfl, rfl⟩
  have h : xs ≠ [] := fun e => by subst e; simp at h
  rw [txA_D sh h, List.length_append, List.length_singleton] at hb
  refine gE @tmR_len ?_
  refine AP.loop rfl (α := Nat) (fun k => [(0, .ob 0 0), (9, .im (.sl 3 (tmR xs))), (10, Iv xs.length), (11, Iv k)]) (fun k => pkH sh (.ob 0 0) 4 (l ++ txD sh (xs.take k))) (fun k => k ≤ xs.length) (fun k => xs.length - k) 0 (by omega) (sU) (by rw [List.take_zero, txD, List.append_nil]; rfl) fun k hk => ?_
  rcases Nat.eq_or_lt_of_le hk with hke | hlt
  · subst hke
    rw [List.take_length]
    have hwb := wrB_spec (.inr rfl) sh (l ++ txD sh xs) 41 (by rw [List.length_append]; omega)
    refine gO ?_
    refine cF ?_
    refine gO ?_
    refine AQ.callH [(0, 0), (1, 4)] (by kernel_rfl) rfl rfl rfl rfl rfl rfl (by exact ⟨rfl, rfl, trivial⟩) rfl (hwb) ?_
    rintro r H1 ⟨rfl, rfl⟩; refine ⟨rfl, ?_⟩; refine sH ?_; refine AQ.rename 7 4 rfl rfl rfl ?_; refine sI ?_; refine AQ.order [0, 4] rfl ?_; refine sI ?_
    refine gO ?_
    refine AE.rename 4 2 rfl rfl rfl ?_; refine sI ?_
    exact AE.fall rfl trivial ⟨by rw [txA_D sh h, ← List.append_assoc]; rfl, rfl⟩
  · obtain ⟨u, hu, hrow⟩ := tmR_get xs k hlt
    have hw := wr (x := (k : Int) + 1) (by omega)
    have hsn := txD_snoc sh hu
    have hle := txD_le sh xs (k + 1)
    rw [hsn, List.length_append, List.length_append] at hle
    refine gO ?_
    refine cT ?_
    refine gE @hrow ?_
    refine ⟨by rw [tmR_len]; omega, ?_⟩
    refine gO ?_
    refine AP.fix 5 rfl rfl ?_
    refine sI ?_
    by_cases hk0 : k = 0
    · subst hk0
      rw [if_pos rfl] at hsn hle
      have hwb := wrB_spec (.inr rfl) sh (l ++ txD sh (xs.take 0)) 40 (by simp at hle ⊢; omega)
      have hit := ih 0 u (l ++ txD sh (xs.take 0) ++ [40]) hu (by simp at hle ⊢; omega)
      refine cT ?_
      refine gO ?_
      refine AQ.callH [(0, 0), (1, 4)] (by kernel_rfl) rfl rfl rfl rfl rfl rfl (by exact ⟨rfl, rfl, trivial⟩) rfl (hwb) ?_
      rintro r H1 ⟨rfl, rfl⟩; refine ⟨rfl, ?_⟩; refine sH ?_; refine AQ.rename 7 4 rfl rfl rfl ?_; refine sI ?_; refine AQ.order [0, 4] rfl ?_; refine sI ?_
      refine gO ?_
      refine AQ.callH [(0, 0), (1, 4)] (by kernel_rfl) rfl rfl rfl rfl rfl rfl (by exact ⟨rfl, rfl, trivial⟩) rfl (hit) ?_
      rintro r H1 ⟨rfl, rfl⟩; refine ⟨rfl, ?_⟩; refine sH ?_; refine AQ.rename 7 4 rfl rfl rfl ?_; refine sI ?_; refine AQ.order [0, 4] rfl ?_; refine sI ?_
      refine gO ?_
      refine AE.round 1 (by omega) (by omega) (sU) ?_
      rw [hsn]; simp only [List.append_assoc]; rfl
    · rw [if_neg hk0] at hsn hle
      have hwb := wrS_spec (.inr rfl) sh (l ++ txD sh (xs.take k)) [44, 32] (by simp at hle ⊢; omega)
      have hit := ih k u (l ++ txD sh (xs.take k) ++ [44, 32]) hu (by simp at hle ⊢; omega)
      refine cF ?_
      refine gO ?_
      refine AQ.callH [(0, 0), (1, 4)] (by kernel_rfl) rfl rfl rfl rfl rfl rfl (by exact ⟨rfl, rfl, trivial⟩) rfl (hwb) ?_
      rintro r H1 ⟨rfl, rfl⟩; refine ⟨rfl, ?_⟩; refine sH ?_; refine AQ.rename 7 4 rfl rfl rfl ?_; refine sI ?_; refine AQ.order [0, 4] rfl ?_; refine sI ?_
      refine gO ?_
      refine AQ.callH [(0, 0), (1, 4)] (by kernel_rfl) rfl rfl rfl rfl rfl rfl (by exact ⟨rfl, rfl, trivial⟩) rfl (hit) ?_
      rintro r H1 ⟨rfl, rfl⟩; refine ⟨rfl, ?_⟩; refine sH ?_; refine AQ.rename 7 4 rfl rfl rfl ?_; refine sI ?_; refine AQ.order [0, 4] rfl ?_; refine sI ?_
      refine gE @hw ?_
      refine AE.round (k + 1) (by omega) (by omega) (sU) ?_
      rw [hsn]; simp only [List.append_assoc]; rfl
end Go.Proofs.YtpfohmboflcneaaGreatDoor
end

section
namespace Go.Proofs.YtpfohmboflcneaaGreatDoor
open Go Go.AL Go.RowKit
set_option maxRecDepth 10000
set_option maxHeartbeats 4000000
theorem okT_args {t : Tm} (h : okT t = true) (hn : t.nm ≠ []) : okTs t.xs = true := by
  rw [okT_eq, if_neg hn, Bool.and_eq_true] at h; exact h.2
theorem pterm_spec (sh : Bool) (t : Tm) (hs : tmL t) (ho : okT t = true) (p : AV) (hp : okP p) (l : List UInt8) (hb : l.length + (txT sh t).length ≤ 1000000000) :
    ACall Tryz.prog 197 [.ob 0 0, tmV t] (pkH sh p 1 l) (fun r H' => H' = pkH sh (.ob 0 0) 2 (l ++ txT sh t) ∧ r = .tup []) :=
  pterm_walk sh t hs ho p hp l hb fun hn l hb => plist_walk sh t.xs (tmL_eq.1 hs).2.1 l hb fun k u l hu hb =>
    pterm_spec sh u (tmsL_get (tmL_eq.1 hs).2.2 hu) (okTs_mem (okT_args ho hn) u (List.mem_of_getElem? hu)) _ (.inr rfl) l hb
termination_by SizeOf.sizeOf t
decreasing_by exact tm_mem hu
theorem plist_spec (sh : Bool) (xs : List Tm) (hxl : xs.length ≤ 1000000000) (hs : tmsL xs) (ho : okTs xs = true) (l : List UInt8) (hb : l.length + (txA sh xs).length ≤ 1000000000) :
    ACall Tryz.prog 199 [.ob 0 0, .im (.sl 3 (tmR xs))] (pkH sh (.ob 0 0) 1 l) (fun r H' => H' = pkH sh (.ob 0 0) 2 (l ++ txA sh xs) ∧ r = .tup []) :=
  plist_walk sh xs hxl l hb fun k u l hu hb => pterm_spec sh u (tmsL_get hs hu) (okTs_mem ho u (List.mem_of_getElem? hu)) _ (.inr rfl) l hb
theorem plit_spec (sh : Bool) (x : Lt) (hs : ltL x) (ho : okL x = true) (p : AV) (hp : okP p) (l : List UInt8) (hb : l.length + (txL sh x).length ≤ 1000000000) :
    ACall Tryz.prog 153 [.ob 0 0, ltV x] (pkH sh p 1 l) (fun r H' => H' = pkH sh (.ob 0 0) 2 (l ++ txL sh x) ∧ r = .tup []) := by
  have hok := okL_ts ho
  have hT : txL sh x = _ := txL.eq_def sh x
  have hpp := pass_pk hp sh l
  rw [hT] at hb
  refine ACall.walk [0, 1, 3, 6, 14, 30] [] Tryz.func153 rfl Tryz.ntmps153 (by kernel_rfl) (by rfl) rfl fun W own I0 φ0 lay => ?_
  refine sta_L hp rfl ?_
  refine gO ?_
  refine AP.cond rfl rfl (fun h => ?_) (fun h => ?_)
  · have h : x.pd = [61] := by simpa using h
    rw [okL, if_pos h, Bool.and_eq_true, decide_eq_true_iff] at ho
    rw [if_pos h] at hb hT
    obtain ⟨a, b, hab⟩ : ∃ a b, x.xs = [a, b] := by
      have := ho.1
      match x.xs, this with
      | [a, b], _ => exact ⟨a, b, rfl⟩
    have hsx := hs.2.2
    rw [hab] at hok hsx hb hT
    simp only [List.getD_cons_zero, List.getD_cons_succ] at hb hT
    rw [okTs, okTs, Bool.and_eq_true, Bool.and_eq_true] at hok
    rw [tmsL, tmsL] at hsx
    have hrow : tmR x.xs = [tmRow a, tmRow b] := by rw [hab]; simp only [tmR, tmC_eq]
    have e0 : [tmRow a, tmRow b].getD 0 [] = [Si a.nm, Ii a.ix, .sl 3 (tmR a.xs)] := rfl
    have e1 : [tmRow a, tmRow b].getD 1 [] = [Si b.nm, Ii b.ix, .sl 3 (tmR b.xs)] := rfl
    have ha := pterm_spec sh a hsx.1 hok.1 p hp l (by simp only [List.length_append] at hb; omega)
    have hw := wrS_spec (.inr rfl) sh (l ++ txT sh a) (eqW x.ng) (by simp only [List.length_append] at hb ⊢; omega)
    have hbb := pterm_spec sh b hsx.2.1 hok.2.1 (.ob 0 0) (.inr rfl) (l ++ txT sh a ++ eqW x.ng) (by simp only [List.length_append] at hb ⊢; omega)
    rw [hrow]
    refine gE (an @e0 (an @List.length_cons.{0} @List.length_nil.{0})) ?_
    refine AQ.callH [(0, 0), (1, 4)] (by kernel_rfl) rfl rfl rfl rfl rfl rfl (hpp _) rfl (ha) ?_
    rintro r H1 ⟨rfl, rfl⟩; refine ⟨rfl, ?_⟩; refine sH ?_; refine AQ.rename 7 4 rfl rfl rfl ?_; refine sI ?_; refine AQ.order [0, 4] rfl ?_; refine sI ?_
    refine gO ?_
    cases hng : x.ng with
    | true =>
      rw [hng] at hw hbb hT
      refine gO ?_
      refine AQ.callH [(0, 0), (1, 4)] (by kernel_rfl) rfl rfl rfl rfl rfl rfl (by exact ⟨rfl, rfl, trivial⟩) rfl (hw) ?_
      rintro r H1 ⟨rfl, rfl⟩; refine ⟨rfl, ?_⟩; refine sH ?_; refine AQ.rename 7 4 rfl rfl rfl ?_; refine sI ?_; refine AQ.order [0, 4] rfl ?_; refine sI ?_
      refine gE (an @e1 (an @List.length_cons.{0} @List.length_nil.{0})) ?_
      refine AQ.callH [(0, 0), (1, 4)] (by kernel_rfl) rfl rfl rfl rfl rfl rfl (by exact ⟨rfl, rfl, trivial⟩) rfl (hbb) ?_
      rintro r H1 ⟨rfl, rfl⟩; refine ⟨rfl, ?_⟩; refine sH ?_; refine AQ.rename 7 4 rfl rfl rfl ?_; refine sI ?_; refine AQ.order [0, 4] rfl ?_; refine sI ?_
      refine gO ?_
      refine AE.rename 4 2 rfl rfl rfl ?_; refine sI ?_
      exact AE.ret rfl trivial ⟨by rw [hT]; simp only [List.append_assoc]; rfl, rfl⟩
    | false =>
      rw [hng] at hw hbb hT
      refine gO ?_
      refine AQ.callH [(0, 0), (1, 4)] (by kernel_rfl) rfl rfl rfl rfl rfl rfl (by exact ⟨rfl, rfl, trivial⟩) rfl (hw) ?_
      rintro r H1 ⟨rfl, rfl⟩; refine ⟨rfl, ?_⟩; refine sH ?_; refine AQ.rename 7 4 rfl rfl rfl ?_; refine sI ?_; refine AQ.order [0, 4] rfl ?_; refine sI ?_
      refine gE (an @e1 (an @List.length_cons.{0} @List.length_nil.{0})) ?_
      refine AQ.callH [(0, 0), (1, 4)] (by kernel_rfl) rfl rfl rfl rfl rfl rfl (by exact ⟨rfl, rfl, trivial⟩) rfl (hbb) ?_
      rintro r H1 ⟨rfl, rfl⟩; refine ⟨rfl, ?_⟩; refine sH ?_; refine AQ.rename 7 4 rfl rfl rfl ?_; refine sI ?_; refine AQ.order [0, 4] rfl ?_; refine sI ?_
      refine gO ?_
      refine AE.rename 4 2 rfl rfl rfl ?_; refine sI ?_
      exact AE.ret rfl trivial ⟨by rw [hT]; simp only [List.append_assoc]; rfl, rfl⟩
  · have h : ¬ x.pd = [61] := by simpa using h
    rw [if_neg h] at hb hT
    cases hng : x.ng with
    | true =>
      rw [hng, if_pos rfl] at hb hT
      have hwb := wrB_spec hp sh l 126 (by simp only [List.length_append, List.length_singleton] at hb; omega)
      have hwn := wrS_spec (.inr rfl) sh (l ++ [126]) x.pd (by simp only [List.length_append, List.length_singleton] at hb ⊢; omega)
      have hli := plist_spec sh x.xs hs.2.1 hs.2.2 hok (l ++ [126] ++ x.pd) (by simp only [List.length_append, List.length_singleton] at hb ⊢; omega)
      refine gO ?_
      refine AQ.callH [(0, 0), (1, 4)] (by kernel_rfl) rfl rfl rfl rfl rfl rfl (hpp _) rfl (hwb) ?_
      rintro r H1 ⟨rfl, rfl⟩; refine ⟨rfl, ?_⟩; refine sH ?_; refine AQ.rename 7 4 rfl rfl rfl ?_; refine sI ?_; refine AQ.order [0, 4] rfl ?_; refine sI ?_
      refine gO ?_
      refine AP.drawE 6 (Tree.node [] [0, 1, 2, 3, 4] [5] [Tree.node [] [] [] []]) (by kernel_rfl) rfl (by kernel_rfl) (by kernel_rfl) ?_
      refine vd_node ?_
      refine sI ?_
      refine AQ.callH [(0, 0), (1, 4)] (by kernel_rfl) rfl rfl rfl rfl rfl rfl (by exact ⟨rfl, rfl, trivial⟩) rfl (hwn) ?_
      rintro r H1 ⟨rfl, rfl⟩; refine ⟨rfl, ?_⟩; refine sH ?_; refine AQ.rename 7 4 rfl rfl rfl ?_; refine sI ?_; refine AQ.order [0, 4] rfl ?_; refine sI ?_
      refine AQ.nx rfl ?_
      refine sI ?_
      refine AQ.done ?_
      refine gO ?_
      refine AQ.callH [(0, 0), (1, 4)] (by kernel_rfl) rfl rfl rfl rfl rfl rfl (by exact ⟨rfl, rfl, trivial⟩) rfl (hli) ?_
      rintro r H1 ⟨rfl, rfl⟩; refine ⟨rfl, ?_⟩; refine sH ?_; refine AQ.rename 7 4 rfl rfl rfl ?_; refine sI ?_; refine AQ.order [0, 4] rfl ?_; refine sI ?_
      refine gO ?_
      refine AE.rename 4 2 rfl rfl rfl ?_; refine sI ?_
      exact AE.fall rfl trivial ⟨by rw [hT]; simp only [List.append_assoc]; rfl, rfl⟩
    | false =>
      rw [hng, if_neg (by decide), List.nil_append] at hb hT
      have hwn := wrS_spec hp sh l x.pd (by simp only [List.length_append] at hb ⊢; omega)
      have hli := plist_spec sh x.xs hs.2.1 hs.2.2 hok (l ++ x.pd) (by simp only [List.length_append] at hb ⊢; omega)
      refine gO ?_
      refine AP.drawE 6 (Tree.node [] [0, 1, 2, 3, 4] [5] [Tree.node [] [] [] []]) (by kernel_rfl) rfl (by kernel_rfl) (by kernel_rfl) ?_
      refine vd_node ?_
      refine sI ?_
      refine AQ.callH [(0, 0), (1, 4)] (by kernel_rfl) rfl rfl rfl rfl rfl rfl (hpp _) rfl (hwn) ?_
      rintro r H1 ⟨rfl, rfl⟩; refine ⟨rfl, ?_⟩; refine sH ?_; refine AQ.rename 7 4 rfl rfl rfl ?_; refine sI ?_; refine AQ.order [0, 4] rfl ?_; refine sI ?_
      refine AQ.nx rfl ?_
      refine sI ?_
      refine AQ.done ?_
      refine gO ?_
      refine AQ.callH [(0, 0), (1, 4)] (by kernel_rfl) rfl rfl rfl rfl rfl rfl (by exact ⟨rfl, rfl, trivial⟩) rfl (hli) ?_
      rintro r H1 ⟨rfl, rfl⟩; refine ⟨rfl, ?_⟩; refine sH ?_; refine AQ.rename 7 4 rfl rfl rfl ?_; refine sI ?_; refine AQ.order [0, 4] rfl ?_; refine sI ?_
      refine gO ?_
      refine AE.rename 4 2 rfl rfl rfl ?_; refine sI ?_
      exact AE.fall rfl trivial ⟨by rw [hT]; simp only [List.append_assoc]; rfl, rfl⟩
end Go.Proofs.YtpfohmboflcneaaGreatDoor
end

section
namespace Go.Proofs.YtpfohmboflcneaaGreatDoor
open Go Go.AL Go.RowKit
set_option maxRecDepth 10000
set_option maxHeartbeats 4000000
theorem nmB_len {n : List UInt8} (h : nmB n = true) : n.length ≤ 60 := by
  rw [nmB, Bool.and_eq_true, Bool.and_eq_true, decide_eq_true_iff, decide_eq_true_iff] at h; exact h.1.2
theorem itoa_len {n : Int} (h : 0 ≤ n ∧ n < 1000) : (Lib.itoa n).length ≤ 3 := by
  rw [Lib.itoa, if_neg (by omega)]
  exact (dec_facts n.toNat).2.2.2.1 3 (by omega) (by omega)
mutual
theorem txT_len (sh : Bool) : ∀ t : Tm, okT t = true → (txT sh t).length + 2 ≤ 70 * wT t
  | .mk n i xs, h => by
    rw [okT] at h
    rw [txT, wT]
    by_cases hn : n = []
    · rw [if_pos hn, Bool.and_eq_true, Bool.and_eq_true, decide_eq_true_iff, decide_eq_true_iff] at h
      rw [if_pos hn]
      have := itoa_len h.2
      cases sh <;> simp <;> omega
    · rw [if_neg hn, Bool.and_eq_true, Bool.and_eq_true] at h
      rw [if_neg hn, List.length_append]
      have h1 := nmB_len h.1.1
      have h2 := txA_len sh xs h.2
      omega
theorem txA_len (sh : Bool) : ∀ l : List Tm, okTs l = true → (txA sh l).length ≤ 2 + 70 * wTs l
  | [], _ => by rw [txA]; simp
  | t :: l, h => by
    rw [okTs, Bool.and_eq_true] at h
    have h1 := txT_len sh t h.1
    have h2 := txR_len sh l h.2
    rw [txA, wTs, List.length_cons, List.length_append]; omega
theorem txR_len (sh : Bool) : ∀ l : List Tm, okTs l = true → (txR sh l).length ≤ 1 + 70 * wTs l
  | [], _ => by rw [txR]; simp
  | t :: l, h => by
    rw [okTs, Bool.and_eq_true] at h
    have h1 := txT_len sh t h.1
    have h2 := txR_len sh l h.2
    rw [txR, wTs, List.length_cons, List.length_cons, List.length_append]; omega
end
theorem txL_len (sh : Bool) {x : Lt} (h : okL x = true) : (txL sh x).length ≤ 70 * ndL x := by
  have hok := okL_ts h
  rw [okL] at h
  rw [txL, ndL]
  by_cases hp : x.pd = [61]
  · rw [if_pos hp, Bool.and_eq_true, decide_eq_true_iff] at h
    rw [if_pos hp]
    obtain ⟨a, b, hab⟩ : ∃ a b, x.xs = [a, b] := by
      have := h.1
      match x.xs, this with
      | [a, b], _ => exact ⟨a, b, rfl⟩
    rw [hab] at hok ⊢
    rw [okTs, okTs, Bool.and_eq_true, Bool.and_eq_true] at hok
    have h1 := txT_len sh a hok.1
    have h2 := txT_len sh b hok.2.1
    simp only [List.getD_cons_zero, List.getD_cons_succ, List.length_append, wTs]
    have : (eqW x.ng).length ≤ 4 := by cases x.ng <;> simp [eqW]
    omega
  · rw [if_neg hp, Bool.and_eq_true] at h
    rw [if_neg hp]
    have h1 := nmB_len h.1
    have h2 := txA_len sh x.xs hok
    simp only [List.length_append]
    cases x.ng <;> simp <;> omega
def txE (sh : Bool) : List Lt → List UInt8
  | [] => []
  | l :: r => txL sh l ++ txS sh r
theorem txS_len (sh : Bool) : ∀ c : List Lt, (∀ l ∈ c, okL l = true) → (txS sh c).length ≤ 3 * c.length + 70 * ndC c
  | [], _ => by rw [txS]; simp
  | l :: c, h => by
    have h1 := txL_len sh (h l (List.mem_cons_self ..))
    have h2 := txS_len sh c fun x hx => h x (List.mem_cons_of_mem _ hx)
    have e : ndC (l :: c) = ndL l + ndC c := by rw [ndC_cons, ndL]
    rw [txS, e]
    simp only [List.length_cons, List.length_append]; omega
theorem txE_len (sh : Bool) {c : List Lt} (h : ∀ l ∈ c, okL l = true) : (txE sh c).length ≤ 3 * c.length + 70 * ndC c := by
  cases c with
  | nil => simp [txE]
  | cons l c =>
    have h1 := txL_len sh (h l (List.mem_cons_self ..))
    have h2 := txS_len sh c fun x hx => h x (List.mem_cons_of_mem _ hx)
    have e : ndC (l :: c) = ndL l + ndC c := by rw [ndC_cons, ndL]
    rw [txE, e]
    simp only [List.length_cons, List.length_append]; omega
theorem txS_append (sh : Bool) : ∀ a b : List Lt, txS sh (a ++ b) = txS sh a ++ txS sh b
  | [], b => by rw [txS]; rfl
  | l :: a, b => by rw [List.cons_append, txS, txS, txS_append sh a b]; simp
theorem txE_snoc (sh : Bool) {c : List Lt} {k : Nat} {u : Lt} (h : c[k]? = some u) : txE sh (c.take (k + 1)) = txE sh (c.take k) ++ ((if k = 0 then [] else [32, 124, 32]) ++ txL sh u) := by
  rw [take_snoc h]
  cases c with
  | nil => simp at h
  | cons l c =>
    cases k with
    | zero => simp [txE, txS]
    | succ k => rw [List.take_succ_cons, List.cons_append, txE, txE, txS_append]; simp [txS]
theorem ndC_take (c : List Lt) (k : Nat) : ndC (c.take k) ≤ ndC c := ndC_sub (List.take_sublist k c)
def pkP (k : Nat) : AV := if k = 0 then .im (.v (.pointer none)) else .ob 0 0
theorem okP_k (k : Nat) : okP (pkP k) := by
  rw [pkP]
  split
  · exact .inl rfl
  · exact .inr rfl
theorem pass_k (k : Nat) (sh : Bool) (l : List UInt8) (n : Nat) : passes (rho [(0, 0), (1, 1)] n) (pkH sh (pkP k) 1 l) (pkH sh (pkP k) 1 l) := by
  rcases okP_k k with h | h <;> rw [h] <;> exact ⟨rfl, rfl, trivial⟩
theorem written_spec (c : List Lt) (sh : Bool) (hs : clL c) (h40 : c.length ≤ 4000) (hnd : ndC c ≤ 8000) (hok : ∀ l ∈ c, okL l = true) : PFn Tryz.prog 79 [clV c, Bv sh] (Sv (txC sh c)) := by
  refine ACall.walk [0, 1, 4, 5, 6, 7, 10, 14, 15, 16, 17, 22] [5, 7, 13] Tryz.func79 rfl Tryz.ntmps79 (by kernel_rfl) (by rfl) rfl fun W own I0 φ0 lay => ?_
  refine gE @ltR_len ?_
  refine AP.cond rfl rfl (fun h => ?_) (fun h => ?_)
  · have h : c = [] := by cases c with | nil => rfl | cons a b => simp at h; omega
    subst h
    refine gO ?_
    exact AE.ret0 rfl ⟨rfl, trivial⟩ rfl ⟨rfl, rfl⟩
  have h : c ≠ [] := fun e => by subst e; simp at h
  have hE : txC sh c = txE sh c := by
    cases c with
    | nil => exact absurd rfl h
    | cons l r => rfl
  refine gE @ltR_len ?_
  refine AP.ownCell 0 1 5 1 rfl rfl ?_
  refine sI ?_
  refine AP.order [0, 1] rfl ?_
  refine sI ?_
  refine AP.loop rfl (α := Nat) (fun k => [(5, .ob 0 0), (14, clV c), (15, Iv c.length), (16, Iv k)]) (fun k => pkH sh (pkP k) 1 (txE sh (c.take k))) (fun k => k ≤ c.length) (fun k => c.length - k) 0 (by omega) (sU) rfl fun k hk => ?_
  have hpp := pass_k k sh (txE sh (c.take k))
  have hpk := okP_k k
  rcases Nat.eq_or_lt_of_le hk with hke | hlt
  · subst hke
    have hp1 : pkP c.length = .ob 0 0 := by rw [pkP, if_neg (by cases c with | nil => exact absurd rfl h | cons a b => simp)]
    rw [List.take_length, hp1, ← hE]
    refine gO ?_
    refine cF ?_
    refine gO ?_
    refine AQ.callH [(0, 0), (1, 1)] (by kernel_rfl) rfl rfl rfl rfl rfl rfl (by exact ⟨rfl, rfl, trivial⟩) rfl (bstr_spec (txC sh c) (.ob 0 0) sh) ?_
    rintro r H1 ⟨rfl, rfl⟩; refine ⟨rfl, ?_⟩; refine sH ?_
    refine gO ?_
    exact AE.ret0 rfl ⟨rfl, trivial⟩ rfl ⟨rfl, rfl⟩
  · obtain ⟨u, hu, hrow⟩ := ltR_get c k hlt
    have hw := wr (x := (k : Int) + 1) (by omega)
    have hul := clL_get hs hu
    have huo := hok u (List.mem_of_getElem? hu)
    have hsn := txE_snoc sh hu
    have hle := txE_len sh (c := c.take (k + 1)) fun l hl => hok l (List.mem_of_mem_take hl)
    have hn1 := ndC_take c (k + 1)
    have hl1 : (c.take (k + 1)).length ≤ c.length := by rw [List.length_take]; omega
    rw [hsn, List.length_append, List.length_append] at hle
    have hpk1 : pkP (k + 1) = .ob 0 0 := by rw [pkP, if_neg (by omega)]
    by_cases hk0 : k = 0
    · subst hk0
      rw [if_pos rfl, List.nil_append] at hsn
      have hli := plit_spec sh u hul huo _ (.inl rfl) (txE sh (c.take 0)) (by simp only [List.take_zero, txE, List.length_nil] at hle ⊢; omega)
      rw [show pkP 0 = .im (.v (.pointer none)) from rfl]
      refine gO ?_
      refine cT ?_
      refine gE @hrow ?_
      refine ⟨by rw [ltR_len]; omega, ?_⟩
      refine gO ?_
      refine AQ.fix 2 rfl rfl ?_
      refine sI ?_
      refine AQ.callH [(0, 0), (1, 1)] (by kernel_rfl) rfl rfl rfl rfl rfl rfl (by exact ⟨rfl, rfl, trivial⟩) rfl (hli) ?_
      rintro r H1 ⟨rfl, rfl⟩; refine ⟨rfl, ?_⟩; refine sH ?_; refine AQ.rename 4 1 rfl rfl rfl ?_; refine sI ?_; refine AQ.order [0, 1] rfl ?_; refine sI ?_
      refine gO ?_
      refine AE.round 1 (by omega) (by omega) (sU) ?_
      rw [hsn, hpk1]; rfl
    · rw [if_neg hk0] at hsn hle
      rw [show pkP k = .ob 0 0 by rw [pkP, if_neg hk0]]
      have hws := wrS_spec (.inr rfl) sh (txE sh (c.take k)) [32, 124, 32] (by simp at hle ⊢; omega)
      have hli := plit_spec sh u hul huo _ (.inr rfl) (txE sh (c.take k) ++ [32, 124, 32]) (by simp at hle ⊢; omega)
      refine gO ?_
      refine cT ?_
      refine gE @hrow ?_
      refine ⟨by rw [ltR_len]; omega, ?_⟩
      refine gO ?_
      refine AP.fix 2 rfl rfl ?_
      refine sI ?_
      refine cT ?_
      refine gO ?_
      refine AQ.callH [(0, 0), (1, 1)] (by kernel_rfl) rfl rfl rfl rfl rfl rfl (by exact ⟨rfl, rfl, trivial⟩) rfl (hws) ?_
      rintro r H1 ⟨rfl, rfl⟩; refine ⟨rfl, ?_⟩; refine sH ?_; refine AQ.rename 4 1 rfl rfl rfl ?_; refine sI ?_; refine AQ.order [0, 1] rfl ?_; refine sI ?_
      refine gO ?_
      refine AQ.callH [(0, 0), (1, 1)] (by kernel_rfl) rfl rfl rfl rfl rfl rfl (by exact ⟨rfl, rfl, trivial⟩) rfl (hli) ?_
      rintro r H1 ⟨rfl, rfl⟩; refine ⟨rfl, ?_⟩; refine sH ?_; refine AQ.rename 4 1 rfl rfl rfl ?_; refine sI ?_; refine AQ.order [0, 1] rfl ?_; refine sI ?_
      refine gE @hw ?_
      refine AE.round (k + 1) (by omega) (by omega) (sU) ?_
      rw [hsn, hpk1]; simp only [List.append_assoc]; rfl
def tcS (c : List Lt) : List UInt8 := if ckC 4 9 2 3 c ≠ 0 then [] else if 40000 < (txC false c).length then [] else txC false c
def tcE (c : List Lt) : Int := if ckC 4 9 2 3 c ≠ 0 then ckC 4 9 2 3 c else if 40000 < (txC false c).length then 15 else 0
theorem text_spec (c : List Lt) (hs : clL c) : PFn Tryz.prog 17 [clV c] (.tup [Sv (tcS c), Iv (tcE c)]) := by
  have hS : tcS c = _ := tcS.eq_def c
  have hE : tcE c = _ := tcE.eq_def c
  refine ACall.walk [0, 2, 3, 4, 5, 9, 15] [] Tryz.func17 rfl Tryz.ntmps17 (by kernel_rfl) (by rfl) rfl fun W own I0 φ0 lay => ?_
  refine gO ?_
  refine AQ.fn (by kernel_rfl) rfl rfl rfl (check_spec c hs) rfl ?_
  refine sI ?_
  refine gO ?_
  refine AP.cond rfl rfl (fun h => ?_) (fun h => ?_)
  · rw [if_pos (by simpa using h)] at hS hE
    refine gO ?_
    exact AE.ret0 rfl ⟨rfl, rfl, trivial⟩ rfl ⟨rfl, by rw [hS, hE]; rfl⟩
  have h : ckC 4 9 2 3 c = 0 := by simpa using h
  rw [if_neg (by simpa using h)] at hS hE
  obtain ⟨h1, h2, h3, h4⟩ := ckC_0 h
  refine gO ?_
  refine AQ.fn (by kernel_rfl) rfl rfl rfl (written_spec c false hs (by omega) (by omega) h4) rfl ?_
  refine sI ?_
  refine gO ?_
  refine AP.cond rfl rfl (fun h5 => ?_) (fun h5 => ?_)
  · rw [if_pos (by simp at h5; omega)] at hS hE
    refine gO ?_
    exact AE.ret0 rfl ⟨rfl, rfl, trivial⟩ rfl ⟨rfl, by rw [hS, hE]; rfl⟩
  · rw [if_neg (by simp at h5; omega)] at hS hE
    refine gO ?_
    exact AE.ret0 rfl ⟨rfl, rfl, trivial⟩ rfl ⟨rfl, by rw [hS, hE]; rfl⟩
end Go.Proofs.YtpfohmboflcneaaGreatDoor
end

section
namespace Go.Proofs.YtpfohmboflcneaaGreatDoor
open Go Go.AL Go.RowKit
set_option maxRecDepth 10000
set_option maxHeartbeats 4000000
abbrev shRow (l : Lt) : List IV := [Bi l.ng, Si l.pd, .sl 3 (tmR l.xs), Si (keyL l)]
abbrev shV (l : Lt) : AV := .agg [Bv l.ng, Sv l.pd, .im (.sl 3 (tmR l.xs)), Sv (keyL l)]
def shR (c : List Lt) : List (List IV) := c.map shRow
theorem shR_len (l : List Lt) : (shR l).length = l.length := by rw [shR, List.length_map]
theorem shR_get {l : List Lt} {k : Nat} {x : Lt} (h : l[k]? = some x) : (shR l).getD k [] = [Bi x.ng, Si x.pd, .sl 3 (tmR x.xs), Si (keyL x)] := by
  rw [List.getD_eq_getElem?_getD, shR, List.getElem?_map, h]; rfl
theorem shR_set (l : List Lt) (k : Nat) (x : Lt) : (shR l).set k (shRow x) = shR (l.set k x) := by simp only [shR, List.map_set]
theorem cmpL_spec (a b : Lt) : PFn Tryz.prog 91 [shV a, shV b] (Iv (cmN (keyL a) (keyL b))) := by
  refine ACall.walk [0, 1, 2, 3, 4] [] Tryz.func91 rfl Tryz.ntmps91 (by kernel_rfl) (by rfl) rfl fun W own I0 φ0 lay => ?_
  refine gO ?_
  refine AQ.fn (by kernel_rfl) rfl rfl rfl (cmpS_spec (keyL a) (keyL b)) rfl ?_
  refine sI ?_
  refine gO ?_
  exact AE.ret0 rfl ⟨rfl, trivial⟩ rfl ⟨rfl, rfl⟩
abbrev soH (l : List Lt) : Heap := [(0, .vec 145 4 (shR l))]
theorem insertion_spec (pre mid post : List Lt) (hn : (pre ++ mid ++ post).length ≤ 1000000) :
    ACall Tryz.prog 205 [.os 0 4 0 (pre ++ mid ++ post).length, Iv pre.length, Iv (pre.length + mid.length), .fn 91 [] []] (soH (pre ++ mid ++ post)) (fun r H' => r = .tup [] ∧ H' = soH (pre ++ srtA [] mid ++ post)) := by
  obtain ⟨n, hnn⟩ : ∃ n, (pre ++ mid ++ post).length = n := ⟨_, rfl⟩
  have hlen : pre.length + mid.length + post.length = n := by rw [← hnn]; simp only [List.length_append]
  rw [hnn] at hn ⊢
  have hw0 := wr (x := (pre.length : Int) + 1) (by omega)
  refine ACall.walk [0, 1, 2, 3, 8, 9, 14, 34] [] Tryz.func205 rfl Tryz.ntmps205 (by kernel_rfl) (by rfl) rfl fun W own I0 φ0 lay => ?_
  refine gE @hw0 ?_
  refine AP.loop rfl (α := Nat) (fun k => [(0, .os 0 4 0 n), (1, Iv pre.length), (2, Iv (pre.length + mid.length)), (3, .fn 91 [] []), (8, Iv (pre.length + k))]) (fun k => soH (pre ++ srtA [] (mid.take k) ++ (mid.drop k ++ post))) (fun k => 1 ≤ k ∧ k ≤ mid.length + 1) (fun k => mid.length + 1 - k) 1 (by omega) (sU) (by
    cases mid with
    | nil => simp [srtA]
    | cons x r => simp [srtA, insL]) fun k ⟨hk1, hk⟩ => ?_
  by_cases hlt : k < mid.length
  · have hw := wr (x := (pre.length : Int) + k + 1) (by omega)
    obtain ⟨x, hx⟩ : ∃ x, mid[k]? = some x := ⟨_, List.getElem?_eq_getElem hlt⟩
    have hP : (srtA [] (mid.take k)).length = k := by rw [(srtA_perm _ _).length_eq]; simp; omega
    have hSo : (srtA [] (mid.take k)).Pairwise leL := srtA_sorted _ _ List.Pairwise.nil
    have hsn : srtA [] (mid.take (k + 1)) = insL x (srtA [] (mid.take k)) := by rw [take_snoc hx, srtA_snoc]
    have hdr := drop_cons hx
    refine gO ?_
    refine cT ?_
    refine gO ?_
    refine AP.loop rfl (α := List Lt × List Lt) (fun s => [(0, .os 0 4 0 n), (1, Iv pre.length), (2, Iv (pre.length + mid.length)), (3, .fn 91 [] []), (8, Iv (pre.length + k)), (9, Iv (pre.length + s.1.length))]) (fun s => soH (pre ++ s.1 ++ x :: (s.2 ++ (mid.drop (k + 1) ++ post)))) (fun s => s.1 ++ s.2 = srtA [] (mid.take k) ∧ ∀ y ∈ s.2, keyL x < keyL y) (fun s => s.1.length) (srtA [] (mid.take k), []) ⟨List.append_nil _, fun y hy => by cases hy⟩ (by rw [hP]; exact (sU)) (by rw [hdr]; rfl) fun ⟨o1, o2⟩ ⟨ho, hlt2⟩ => ?_
    simp only at ho hlt2 ⊢
    rcases List.eq_nil_or_concat o1 with rfl | ⟨W, y, rfl⟩
    · have e9 : (pre.length : Int) + (([] : List Lt).length : Nat) = (pre.length : Int) := by simp
      have hd : decide ((pre.length : Int) < (pre.length : Int)) = false := decide_eq_false (by omega)
      rw [e9]
      refine gO ?_
      refine AP.drawE 17 (Tree.node [] [0, 1, 2, 3, 4, 5, 6, 7, 8, 9, 10, 11, 12, 13] [14] [Tree.node [] [15, 16] [] []]) (by kernel_rfl) rfl (by kernel_rfl) (by kernel_rfl) ?_
      refine vd_node ?_
      refine sE @hd ?_
      refine ⟨fun h => h.elim, fun h => h.elim, fun h => h.elim, fun h => h.elim, ?_⟩
      refine AQ.skip (by kernel_rfl) rfl ?_
      refine sI ?_
      refine AQ.nx rfl ?_
      refine sI ?_
      refine AQ.done ?_
      refine gE @hw ?_
      rw [List.nil_append] at ho
      refine AE.round (k + 1) ⟨by omega, by omega⟩ (by omega) (sU) ?_
      have hin : insL x (srtA [] (mid.take k)) = x :: o2 := by
        rw [← ho]
        exact insL_at [] o2 x (by rw [List.nil_append, ho]; exact hSo) hlt2 (fun y hy => by cases hy)
      rw [hsn, hin]; simp
    · rw [List.concat_eq_append] at ho ⊢
      obtain ⟨q, hq⟩ : ∃ q, pre.length + W.length = q := ⟨_, rfl⟩
      have e9 : (pre.length : Int) + ((W ++ [y]).length : Nat) = ((q + 1 : Nat) : Int) := by simp; omega
      obtain ⟨T, hT⟩ : ∃ T, o2 ++ (mid.drop (k + 1) ++ post) = T := ⟨_, rfl⟩
      obtain ⟨Z, hZ⟩ : ∃ Z, pre ++ W = Z := ⟨_, rfl⟩
      have hZl : Z.length = q := by rw [← hZ, List.length_append]; exact hq
      have eR : pre ++ (W ++ [y]) ++ x :: (o2 ++ (mid.drop (k + 1) ++ post)) = Z ++ y :: x :: T := by rw [hT, ← hZ]; simp
      have hg1 : (shR (Z ++ y :: x :: T)).getD q [] = [Bi y.ng, Si y.pd, .sl 3 (tmR y.xs), Si (keyL y)] := shR_get (by rw [List.getElem?_append_right (by omega), hZl, Nat.sub_self]; rfl)
      have hg2 : (shR (Z ++ y :: x :: T)).getD (q + 1) [] = [Bi x.ng, Si x.pd, .sl 3 (tmR x.xs), Si (keyL x)] := shR_get (by rw [List.getElem?_append_right (by omega), hZl, Nat.add_sub_cancel_left]; rfl)
      have hol : W.length + 1 + o2.length = k := by
        have := congrArg List.length ho
        rw [hP] at this; simp only [List.length_append, List.length_singleton] at this; exact this
      have hqn : q + 1 < n := by omega
      have hRl : (shR (Z ++ y :: x :: T)).length = n := by
        rw [shR_len, ← hT]; simp only [List.length_append, List.length_cons, List.length_drop]; omega
      have hd : decide ((pre.length : Int) < ((q + 1 : Nat) : Int)) = true := decide_eq_true (by omega)
      have hw1 : IntKind.i64.wrap (((q + 1 : Nat) : Int) - 1) = (q : Int) := by rw [wr (by omega)]; omega
      rw [e9, eR]
      refine gE (an @hd @hw1) ?_
      refine AP.drawE 17 (Tree.node [] [0, 1, 2, 3, 4, 5, 6, 7, 8, 9, 10, 11, 12, 13] [14] [Tree.node [] [15, 16] [] []]) (by kernel_rfl) rfl (by kernel_rfl) (by kernel_rfl) ?_
      refine vd_node ?_
      refine sE (an @hd (an @hw1 (an @hg1 (an @hg2 (an @Int.toNat_natCast @hRl))))) ?_
      refine ⟨⟨by omega, by omega⟩, hqn, ⟨by omega, by omega⟩, by omega, ?_⟩
      refine AQ.opt 22 rfl ?_
      refine AQ.guard_yes (by simp only [go_sem]) ?_
      refine AQ.callF [] (by kernel_rfl) rfl rfl rfl rfl rfl rfl (fun k => by exact trivial) (fun k => rfl) (fun k => rfl) (cmpL_spec x y) ?_
      refine sI ?_
      refine AQ.nx rfl ?_
      refine sI ?_
      refine AQ.done ?_
      refine gO ?_
      refine AP.cond rfl rfl (fun h5 => ?_) (fun h5 => ?_)
      · have h5 : keyL x < keyL y := by
          have : cmN (keyL x) (keyL y) < 0 := by simpa using h5
          rw [cmN] at this
          by_cases h6 : keyL x < keyL y
          · exact h6
          · rw [if_neg h6] at this; split at this <;> omega
        refine gE @hw1 ?_
        refine AP.drawE 18 (Tree.node [] [0, 1, 2, 3, 4, 5, 6, 7, 8, 9, 10, 11, 12, 13, 14] [15] [Tree.node [2, 3, 4] [16] [17] [Tree.node [] [] [] []]]) (by kernel_rfl) rfl (by kernel_rfl) (by kernel_rfl) ?_
        refine vd_node ?_
        refine sE (an @hw1 (an @hg1 (an @hg2 (an @Int.toNat_natCast @hRl)))) ?_
        refine ⟨⟨by omega, by omega⟩, by omega, ⟨by omega, by omega⟩, hqn, ⟨by omega, by omega⟩, ?_⟩
        refine AQ.go (by kernel_rfl) ?_
        refine sE @hRl ?_
        have hs1 : (shR (Z ++ y :: x :: T)).set (q + 1) (Bi y.ng :: Si y.pd :: IV.sl 3 (tmR y.xs) :: Si (keyL y) :: List.drop 4 ((shR (Z ++ y :: x :: T)).getD (q + 1) [])) = shR (Z ++ y :: y :: T) := by
          rw [hg2]
          refine (shR_set _ _ y).trans ?_
          rw [List.set_append_right _ _ (by omega), ← hZl, Nat.add_sub_cancel_left]; rfl
        have hs2 : (shR (Z ++ y :: y :: T)).set q (Bi x.ng :: Si x.pd :: IV.sl 3 (tmR x.xs) :: Si (keyL x) :: List.drop 4 ((shR (Z ++ y :: y :: T)).getD q [])) = shR (Z ++ x :: y :: T) := by
          have hg3 : (shR (Z ++ y :: y :: T)).getD q [] = [Bi y.ng, Si y.pd, .sl 3 (tmR y.xs), Si (keyL y)] := shR_get (by rw [List.getElem?_append_right (by omega), hZl, Nat.sub_self]; rfl)
          rw [hg3]
          refine (shR_set _ _ x).trans ?_
          rw [List.set_append_right _ _ (by omega), ← hZl, Nat.sub_self]; rfl
        have hRl2 : (shR (Z ++ y :: y :: T)).length = n := by rw [shR_len] at hRl ⊢; rw [← hRl]; simp
        rw [hs1]
        refine ⟨hqn, ?_⟩
        refine AQ.nx rfl ?_
        refine sE (an @hw1 (an @Int.toNat_natCast @hRl2)) ?_
        refine ⟨⟨by omega, by omega⟩, ?_⟩
        refine AQ.go (by kernel_rfl) ?_
        refine sE @hRl2 ?_
        rw [hs2]
        refine ⟨by omega, ?_⟩
        refine AQ.nx rfl ?_
        refine sI ?_
        refine AQ.done ?_
        refine gE @hw1 ?_
        refine AE.round (W, y :: o2) ⟨by rw [← ho]; simp, fun z hz => ?_⟩ (by simp) (by rw [← hq]; exact (sU)) (by rw [← hZ, ← hT]; simp)
        rcases List.mem_cons.1 hz with rfl | hz
        · exact h5
        · exact hlt2 z hz
      · have h5 : ¬ keyL x < keyL y := fun h6 => by
          rw [cmN, if_pos h6] at h5; simp at h5
        refine gE @hw ?_
        refine AE.round (k + 1) ⟨by omega, by omega⟩ (by omega) (sU) ?_
        have hin : insL x (srtA [] (mid.take k)) = W ++ [y] ++ x :: o2 := by
          have := insL_at (W ++ [y]) o2 x (by rw [ho]; exact hSo) hlt2 (fun z hz => by rw [List.getLast?_concat] at hz; cases hz; exact h5)
          rw [ho] at this; exact this
        rw [hsn, hin, ← hZ, ← hT]; simp
  · have hke : mid.take k = mid := List.take_of_length_le (by omega)
    have hke2 : mid.drop k = [] := List.drop_eq_nil_of_le (by omega)
    rw [hke, hke2, List.nil_append]
    refine gO ?_
    refine cF ?_
    refine gO ?_
    exact AE.fall rfl trivial ⟨rfl, rfl⟩
end Go.Proofs.YtpfohmboflcneaaGreatDoor
end

section
namespace Go.Proofs.YtpfohmboflcneaaGreatDoor
open Go Go.AL Go.RowKit
set_option maxRecDepth 10000
set_option maxHeartbeats 4000000
theorem stable_small (l : List Lt) (h : l.length ≤ 20) : ACall Tryz.prog 164 [.os 0 4 0 l.length, Iv l.length, .fn 91 [] []] (soH l) (fun r H' => r = .tup [] ∧ H' = soH (srtA [] l)) := by
  have h0 := insertion_spec [] l [] (by simp; omega)
  simp only [List.nil_append, List.append_nil, List.length_nil] at h0
  rw [show ((0 : Nat) : Int) + (l.length : Int) = l.length by omega] at h0
  have h1 := insertion_spec (srtA [] l) [] [] (by simp [(srtA_perm _ _).length_eq]; omega)
  simp only [List.append_nil, List.length_nil] at h1
  have hsl : (srtA [] l).length = l.length := by rw [(srtA_perm _ _).length_eq]; rfl
  rw [hsl, show ((l.length : Nat) : Int) + ((0 : Nat) : Int) = l.length by omega, show srtA [] [] = [] from rfl, List.append_nil] at h1
  refine ACall.walk [0, 1, 2, 6, 7, 8, 9, 13, 30, 35, 54] [] Tryz.func164 rfl Tryz.ntmps164 (by kernel_rfl) (by rfl) rfl fun W own I0 φ0 lay => ?_
  refine gO ?_
  refine AP.loop rfl (α := Bool) (fun b => [(0, .os 0 4 0 l.length), (1, Iv l.length), (2, .fn 91 [] []), (6, Iv 20), (7, Iv (if b then 20 else 0)), (8, Iv (if b then 40 else 20))]) (fun b => soH (if b then srtA [] l else l)) (fun b => b = true → l.length = 20) (fun b => if b then 0 else 1) false (by simp) (by exact (sU)) rfl fun b hb => ?_
  cases b with
  | false =>
    simp only [Bool.false_eq_true, if_false]
    by_cases h20 : l.length = 20
    · rw [h20] at h0
      have h0' : ACall Tryz.prog 205 [.os 0 4 0 20, Iv 0, Iv 20, .fn 91 [] []] (soH l) (fun r H' => r = .tup [] ∧ H' = soH (srtA [] l)) := h0
      rw [h20]
      refine gO ?_
      refine AQ.callH [(0, 0)] (by kernel_rfl) rfl rfl rfl rfl rfl rfl (by exact ⟨rfl, trivial⟩) rfl (h0') ?_; rintro r H1 ⟨rfl, rfl⟩; refine ⟨rfl, ?_⟩; refine sH ?_
      have hw40 : IntKind.i64.wrap (20 + 20) = 40 := by rw [wr (by omega)]; rfl
      refine gE @hw40 ?_
      exact AE.round true (by simp) (by simp) (sU) rfl
    · refine gO ?_
      refine cF ?_
      refine gO ?_
      refine AQ.callH [(0, 0)] (by kernel_rfl) rfl rfl rfl rfl rfl rfl (by exact ⟨rfl, trivial⟩) rfl (h0) ?_; rintro r H1 ⟨rfl, rfl⟩; refine ⟨rfl, ?_⟩; refine sH ?_
      refine gO ?_
      refine AP.loop rfl (α := Unit) (fun _ => [(1, Iv l.length), (6, Iv 20)]) (fun _ => soH (srtA [] l)) (fun _ => True) (fun _ => 0) () trivial (sU) rfl fun _ _ => ?_
      refine gO ?_
      refine cF ?_
      refine gO ?_
      exact AE.fall rfl trivial ⟨rfl, rfl⟩
  | true =>
    simp only [if_true]
    have h20 := hb rfl
    rw [h20] at h1
    have h1' : ACall Tryz.prog 205 [.os 0 4 0 20, Iv 20, Iv 20, .fn 91 [] []] (soH (srtA [] l)) (fun r H' => r = .tup [] ∧ H' = soH (srtA [] l)) := h1
    rw [h20]
    refine gO ?_
    refine AQ.callH [(0, 0)] (by kernel_rfl) rfl rfl rfl rfl rfl rfl (by exact ⟨rfl, trivial⟩) rfl (h1') ?_; rintro r H1 ⟨rfl, rfl⟩; refine ⟨rfl, ?_⟩; refine sH ?_
    refine gO ?_
    refine AP.loop rfl (α := Unit) (fun _ => [(1, Iv 20), (6, Iv 20)]) (fun _ => soH (srtA [] l)) (fun _ => True) (fun _ => 0) () trivial (sU) rfl fun _ _ => ?_
    refine gO ?_
    exact AE.fall rfl trivial ⟨rfl, rfl⟩
theorem sort_small (l : List Lt) (h : l.length ≤ 20) : ACall Tryz.prog 90 [.os 0 4 0 l.length, .fn 91 [] []] (soH l) (fun r H' => r = .tup [] ∧ H' = soH (srtA [] l)) := by
  refine ACall.walk [0, 1] [] Tryz.func90 rfl Tryz.ntmps90 (by kernel_rfl) (by rfl) rfl fun W own I0 φ0 lay => ?_
  refine gO ?_
  refine AQ.callH [(0, 0)] (by kernel_rfl) rfl rfl rfl rfl rfl rfl (by exact ⟨rfl, trivial⟩) rfl (stable_small l h) ?_; rintro r H1 ⟨rfl, rfl⟩; refine ⟨rfl, ?_⟩; refine sH ?_
  refine gO ?_
  exact AE.fall rfl trivial ⟨rfl, rfl⟩
end Go.Proofs.YtpfohmboflcneaaGreatDoor
end

section
namespace Go.Proofs.YtpfohmboflcneaaGreatDoor
open Go Go.AL Go.RowKit
set_option maxRecDepth 10000
set_option maxHeartbeats 4000000
def mOf (k : Nat) : List Int → List (Int × Int)
  | [] => []
  | v :: o => (v, (k : Int)) :: mOf (k + 1) o
theorem mOf_len (o : List Int) (k : Nat) : (mOf k o).length = o.length := by
  induction o generalizing k with
  | nil => rfl
  | cons v o ih => rw [mOf, List.length_cons, List.length_cons, ih]
theorem mOf_keys (o : List Int) (k : Nat) : (mOf k o).map (·.1) = o := by
  induction o generalizing k with
  | nil => rfl
  | cons v o ih => rw [mOf, List.map_cons, ih]
theorem mOf_snoc (o : List Int) (v : Int) (k : Nat) : mOf k (o ++ [v]) = mOf k o ++ [(v, ((k + o.length : Nat) : Int))] := by
  induction o generalizing k with
  | nil => simp [mOf]
  | cons w o ih =>
    rw [List.cons_append, mOf, mOf, ih, List.cons_append]
    simp only [List.length_cons]
    rw [show k + 1 + o.length = k + (o.length + 1) by omega]
theorem mOf_lk (o : List Int) (v : Int) (k : Nat) : (v ∈ o → lkI (mOf k o) v = some ((k + o.idxOf v : Nat) : Int)) ∧ (v ∉ o → ixI (mOf k o) v = none) := by
  induction o generalizing k with
  | nil => exact ⟨fun h => (by cases h), fun _ => rfl⟩
  | cons w o ih =>
    rw [mOf, lkI, ixI, List.idxOf_cons]
    by_cases h : w = v
    · subst h
      rw [if_pos rfl, if_pos rfl]
      exact ⟨fun _ => by simp, fun h => absurd (List.mem_cons_self ..) h⟩
    · rw [if_neg h, if_neg h, show (w == v) = false by simpa using h]
      obtain ⟨h1, h2⟩ := ih (k + 1)
      refine ⟨fun hv => ?_, fun hv => ?_⟩
      · rcases List.mem_cons.1 hv with e | hv
        · exact absurd e.symm h
        · rw [h1 hv, cond_false]; congr 1; omega
      · rw [h2 (fun h3 => hv (List.mem_cons_of_mem _ h3))]; rfl
def nmG (F : List Int) (v : Int) : Tm := vrT (F.idxOf v : Nat)
abbrev nmH (o : List Int) : Heap := [(1, .var 149 [.mp 0]), (0, .var (.map (kI (mOf 0 o))) (vN (mOf 0 o)))]
theorem idxOf_pre {o r : List Int} {v : Int} (h : v ∈ o) : (o ++ r).idxOf v = o.idxOf v := by rw [List.idxOf_append, if_pos h]
theorem number_spec (o F r : List Int) (v : Int) (hF : F = nubA o [v] ++ r) (hnd : o.Nodup) (hlen : o.length ≤ 1000000) : ACall Tryz.prog 94 [Iv v, .ob 1 0] (nmH o) (fun r H' => r = tmV (nmG F v) ∧ H' = nmH (nubA o [v])) := by
  have hm : ndI (mOf 0 o) := by rw [ndI, mOf_keys]; exact hnd
  have hnu : nubA o [v] = if v ∈ o then o else o ++ [v] := rfl
  refine ACall.walk [0, 1, 3, 4, 5, 13] [3] Tryz.func94 rfl Tryz.ntmps94 (by kernel_rfl) (by rfl) rfl fun W own I0 φ0 lay => ?_
  refine gO ?_
  by_cases hv : v ∈ o
  · rw [if_pos hv] at hnu
    have hl := (mOf_lk o v 0).1 hv
    rw [Nat.zero_add] at hl
    obtain ⟨j, hj, hg⟩ := lkI_get hl
    have he : nmG F v = vrT (o.idxOf v : Nat) := by rw [nmG, hF, hnu, idxOf_pre hv]
    refine AQ.lookF j (by kernel_rfl) rfl rfl rfl u149 u3 (kI_ok _) rfl (List.mem_of_getElem? (show (kI (mOf 0 o))[j]? = some (.int .i64 v) from kI_get hg)) (fun i hi => kI_uniq hm hg hi) (vN_get hg) ?_
    refine sI ?_
    refine gO ?_
    refine AQ.fn (by kernel_rfl) rfl rfl rfl (var_spec (o.idxOf v : Nat)) rfl ?_
    refine sI ?_
    refine gO ?_
    exact AE.retD [2] rfl ⟨⟨rfl, Nat.le_of_ble_eq_true (by kernel_rfl)⟩, trivial⟩ (by simp only [go_sem, Nat.reduceAdd, Nat.reduceLeDiff, Nat.reduceSub, Int.reduceToNat, reduceCtorEq, dropOk, noMen, AV.mens, AV.men, mens_vN, Bool.or_false]; first | done | rfl) ⟨by rw [he]; rfl, by rw [hnu]; rfl⟩
  · rw [if_neg hv] at hnu
    have hl := (mOf_lk o v 0).2 hv
    have he : nmG F v = vrT (o.length : Nat) := by
      rw [nmG, hF, hnu, idxOf_pre (by simp), List.idxOf_append, if_neg hv]; simp
    refine AQ.lookN (by kernel_rfl) rfl rfl rfl u149 u3 (kI_ok _) rfl (kI_not hl) rfl rfl ?_
    refine sI ?_
    refine gO ?_
    refine AQ.mlen (by kernel_rfl) rfl rfl u149 ?_
    have hkl : (kI (mOf 0 o)).length = o.length := by rw [kI_len, mOf_len]
    rw [hkl]
    refine sI ?_
    refine gO ?_
    refine AQ.msetN (by kernel_rfl) rfl rfl rfl rfl u149 u3 (kI_ok _) rfl (kI_not hl) ?_
    refine sI ?_
    refine gO ?_
    have e0 : mOf 0 (o ++ [v]) = mOf 0 o ++ [(v, ((o.length : Nat) : Int))] := by rw [mOf_snoc, Nat.zero_add]
    have e1 : vN (mOf 0 o) ++ [Iv (o.length : Nat)] = vN (mOf 0 (o ++ [v])) := by rw [e0]; simp only [vN, List.map_append]; rfl
    have e2 : kI (mOf 0 o) ++ [.int .i64 v] = kI (mOf 0 (o ++ [v])) := by rw [e0]; simp only [kI, List.map_append]; rfl
    rw [e1, e2]
    refine AQ.fn (by kernel_rfl) rfl rfl rfl (var_spec (o.length : Nat)) rfl ?_
    refine sI ?_
    refine gO ?_
    exact AE.retD [2] rfl ⟨⟨rfl, Nat.le_of_ble_eq_true (by kernel_rfl)⟩, trivial⟩ (by simp only [go_sem, Nat.reduceAdd, Nat.reduceLeDiff, Nat.reduceSub, Int.reduceToNat, reduceCtorEq, dropOk, noMen, AV.mens, AV.men, mens_vN, Bool.or_false]; first | done | rfl) ⟨by rw [he]; rfl, by rw [hnu]; rfl⟩
end Go.Proofs.YtpfohmboflcneaaGreatDoor
end

section
namespace Go.Proofs.YtpfohmboflcneaaGreatDoor
open Go Go.AL Go.RowKit
set_option maxRecDepth 10000
set_option maxHeartbeats 4000000
theorem nubA_split (o : List Int) : ∀ (l m : List Int), nubA o (l ++ m) = nubA (nubA o l) m
  | [], m => rfl
  | v :: l, m => by rw [List.cons_append, nubA, nubA, nubA_split _ l m]
theorem vsTs_take {l : List Tm} {k : Nat} {u : Tm} (h : l[k]? = some u) : vsTs (l.take (k + 1)) = vsTs (l.take k) ++ vsT u := by
  rw [take_snoc h]
  have : ∀ a : List Tm, vsTs (a ++ [u]) = vsTs a ++ vsT u := fun a => by
    induction a with
    | nil => rw [List.nil_append, vsTs, vsTs, vsTs]; simp
    | cons b a ih => rw [List.cons_append, vsTs, vsTs, ih, List.append_assoc]
  exact this _
theorem vsTs_at {l : List Tm} {k : Nat} {u : Tm} (h : l[k]? = some u) : vsTs l = vsTs (l.take k) ++ (vsT u ++ vsTs (l.drop (k + 1))) := by
  have happ : ∀ a b : List Tm, vsTs (a ++ b) = vsTs a ++ vsTs b := fun a b => by
    induction a with
    | nil => rw [List.nil_append, vsTs]; rfl
    | cons c a ih => rw [List.cons_append, vsTs, vsTs, ih, List.append_assoc]
  conv => lhs; rw [← List.take_append_drop k l, drop_cons h]
  rw [happ, vsTs]
theorem nubA_len : ∀ (l o : List Int), (nubA o l).length ≤ o.length + l.length
  | [], o => by rw [nubA]; simp
  | v :: l, o => by
    rw [nubA]
    have := nubA_len l (if v ∈ o then o else o ++ [v])
    by_cases h : v ∈ o
    · rw [if_pos h] at this ⊢; simp only [List.length_cons]; omega
    · rw [if_neg h] at this ⊢; simp only [List.length_cons, List.length_append, List.length_nil] at this ⊢; omega
theorem nub_pre {o F r a b c : List Int} (h : F = nubA o (a ++ (b ++ c)) ++ r) : ∃ r', F = nubA (nubA o a) b ++ r' := by
  rw [nubA_split, nubA_split] at h
  obtain ⟨q, hq⟩ := nubA_pre c (nubA (nubA o a) b)
  exact ⟨q ++ r, by rw [h, hq, List.append_assoc]⟩
theorem change_nm (F : List Int) (x : Tm) (o r : List Int) (hF : F = nubA o (vsT x) ++ r) (hnd : o.Nodup) (hlen : o.length + (vsT x).length ≤ 1000000) (hs : tmL x) (hok : okT x = true) : ACall Tryz.prog 140 [tmV x, .fn 94 [] [.ob 1 0]] (nmH o) (fun r H' => r = tmV (chT (nmG F) x) ∧ H' = nmH (nubA o (vsT x))) := by
  have hs0 := tmL_eq.1 hs
  have hc := chT_eq (nmG F) x
  have hvs := vsT_eq x
  have hok0 := okT_eq x
  rw [hok] at hok0
  refine ACall.walk [0, 1, 2, 4, 5, 7, 10, 19, 20, 21, 22] [4, 5, 7] Tryz.func140 rfl Tryz.ntmps140 (by kernel_rfl) (by rfl) rfl fun W own I0 φ0 lay => ?_
  refine gO ?_
  refine AP.cond rfl rfl (fun h => ?_) (fun h => ?_)
  · have h : x.nm = [] := by simpa using h
    rw [if_pos h] at hc hok0 hvs
    have hx0 : x.xs = [] := by
      have := hok0.symm
      rw [Bool.and_eq_true, List.isEmpty_iff] at this; exact this.1
    rw [hx0, vsTs, List.append_nil] at hvs
    rw [hvs] at hF hlen ⊢
    have hnum := number_spec o F r x.ix hF hnd (by omega)
    refine gO ?_
    refine AQ.callH [(1, 1), (0, 0)] (by kernel_rfl) rfl rfl rfl rfl rfl rfl (by refine ⟨?_, ?_, trivial⟩ <;> (simp only [rnO, AV.rns, AV.rn, rns_vN]; rfl)) rfl hnum fun r' H' ⟨e1, e2⟩ => ?_
    subst e1; subst e2
    refine sH ?_
    refine gO ?_
    exact AE.retD [2] rfl ⟨⟨rfl, Nat.le_of_ble_eq_true (by kernel_rfl)⟩, trivial⟩ (by simp only [go_sem, Nat.reduceAdd, Nat.reduceLeDiff, Nat.reduceSub, Int.reduceToNat, reduceCtorEq, dropOk, noMen, AV.mens, AV.men, mens_vN, Bool.or_false]; first | done | rfl) ⟨by rw [hc]; rfl, rfl⟩
  have h : ¬ x.nm = [] := by simpa using h
  rw [if_neg h, List.nil_append] at hvs
  rw [if_neg h] at hc
  rw [hvs] at hF hlen ⊢
  have hoks := okT_args hok h
  refine gE @tmR_len ?_
  rw [chTs_map] at hc
  refine AP.ownCell 3 2 71 3 rfl rfl ?_
  refine sI ?_
  refine AP.loop rfl (α := Nat) (fun k => [(1, .fn 94 [] [.ob 1 0]), (4, .ob 2 0), (5, .ob 3 0), (19, .im (.sl 3 (tmR x.xs))), (20, Iv x.xs.length), (21, Iv k)]) (fun k => (4, .vec 71 3 (tmR ((x.xs.take k).map (chT (nmG F))))) :: (3, .var 71 [Sv x.nm, Iv 0, .os 4 3 0 k]) :: (2, .var 71 [Sv [], Iv 0, nilV]) :: nmH (nubA o (vsTs (x.xs.take k)))) (fun k => k ≤ x.xs.length) (fun k => x.xs.length - k) 0 (by omega) (sU) (by rw [List.take_zero, vsTs]; rfl) fun k hk => ?_
  rcases Nat.eq_or_lt_of_le hk with hke | hlt
  · subst hke
    rw [List.take_length]
    refine gE @tmR_len ?_
    refine cF ?_
    refine gO ?_
    refine AE.freeze 4 (el := 71) (es := 3) (rows := tmR (x.xs.map (chT (nmG F)))) rfl (by simp only [go_sem, Nat.reduceAdd, Nat.reduceLeDiff, Nat.reduceSub, Int.reduceToNat, reduceCtorEq, tmR_len, List.length_map]; first | done | trivial | omega | (simp; done) | (simp; omega)) (by simp only [go_sem, Nat.reduceAdd, Nat.reduceLeDiff, Nat.reduceSub, Int.reduceToNat, reduceCtorEq, tmR_len, List.length_map]; first | done | trivial | omega | (simp; done) | (simp; omega)) ?_; simp only [go_sem, Nat.reduceAdd, Nat.reduceLeDiff, Nat.reduceSub, Int.reduceToNat, reduceCtorEq, tmR_len, List.length_map]
    rw [List.take_of_length_le (by rw [tmR_len, List.length_map]; omega)]
    exact AE.retD [3, 2] rfl ⟨⟨rfl, Nat.le_of_ble_eq_true (by kernel_rfl)⟩, trivial⟩ (by simp only [go_sem, Nat.reduceAdd, Nat.reduceLeDiff, Nat.reduceSub, Int.reduceToNat, reduceCtorEq, dropOk, noMen, AV.mens, AV.men, mens_vN, Bool.or_false]; first | done | rfl) ⟨by rw [hc]; rfl, rfl⟩
  · obtain ⟨u, hu, hrow⟩ := tmR_get x.xs k hlt
    have hw := wr (x := (k : Int) + 1) (by omega)
    have htk := take_len (l := x.xs) (k := k) (by omega)
    have hvt := vsTs_take hu
    have hva := vsTs_at hu
    obtain ⟨r', hF'⟩ := nub_pre (hva ▸ hF)
    have hll : (vsTs x.xs).length = (vsTs (x.xs.take k)).length + ((vsT u).length + (vsTs (x.xs.drop (k + 1))).length) := by rw [hva, List.length_append, List.length_append]
    have hnl := nubA_len (vsTs (x.xs.take k)) o
    have ih := change_nm F u (nubA o (vsTs (x.xs.take k))) r' hF' (nubA_nodup _ _ hnd) (by omega) (tmsL_get hs0.2.2 hu) (okTs_mem hoks u (List.mem_of_getElem? hu))
    rw [← nubA_split, ← hvt] at ih
    have hsn := map_snoc (chT (nmG F)) hu
    obtain ⟨w, hwe⟩ : ∃ w, chT (nmG F) u = w := ⟨_, rfl⟩
    rw [hwe] at ih hsn
    clear hva hF' hll hnl hF hc hvs hok0
    refine gE @tmR_len ?_
    refine cT ?_
    refine gE @hrow ?_
    refine ⟨by rw [tmR_len]; omega, ?_⟩
    refine gO ?_
    refine AP.drawE 9 (Tree.node [] [0, 1, 2, 3] [4] [Tree.node [0, 1] [] [5] [Tree.node [0, 1] [] [6] [Tree.node [] [7] [8] [Tree.node [] [] [] []]]]]) (by kernel_rfl) rfl (by kernel_rfl) (by kernel_rfl) ?_
    refine vd_node ?_
    refine sI ?_
    refine AQ.callH [(1, 1), (0, 0)] (by kernel_rfl) rfl rfl rfl rfl rfl rfl (by refine ⟨?_, ?_, trivial⟩ <;> (simp only [rnO, AV.rns, AV.rn, rns_vN]; rfl)) rfl ih fun r' H' ⟨e1, e2⟩ => ?_
    subst e1; subst e2
    refine sH ?_
    refine AQ.nx rfl ?_
    refine sI ?_
    refine AQ.go (by kernel_rfl) ?_
    refine sI ?_
    refine AQ.nx rfl ?_
    refine sI ?_
    refine AQ.kill 4 ?_
    refine sI ?_
    refine AQ.append (hnb := rfl) (rows := tmR ((x.xs.take k).map (chT (nmG F)))) (es := 2) (by kernel_rfl) rfl rfl rfl (by simp only [go_sem, noMen, AV.mens, AV.men, Bool.or_false]; rfl) Tryz.tk69 Tryz.sz71 (by show Option.map _ (zro Tryz.prog 71) = _; rw [Tryz.zr71]; rfl) Tryz.by71 (by first | rfl | (simp only [tmR_len, List.length_map, htk, List.length_cons, List.length_nil]; done) | (simp only [tmR_len, List.length_map, htk, List.length_cons, List.length_nil]; omega)) (by simp only [tmR_len, List.length_map, htk, List.length_cons, List.length_nil]; omega) (by simp only [tmR_len, List.length_map, htk, List.length_cons, List.length_nil]; omega) ?_
    refine sI ?_
    refine AQ.nx rfl ?_
    refine sI ?_
    refine AQ.go (by kernel_rfl) ?_
    refine sI ?_
    refine AQ.nx rfl ?_
    refine sI ?_
    refine AQ.done ?_
    refine gE @hw ?_
    refine AE.forgets [5] (by simp only [go_sem, Nat.reduceAdd, Nat.reduceLeDiff, Nat.reduceSub, Int.reduceToNat, reduceCtorEq, dropOk, noMen, AV.mens, AV.men, mens_vN, Bool.or_false]; first | done | rfl) ?_
    refine sI ?_
    refine AE.round (k + 1) (by omega) (by omega) (sU) ?_
    rw [hsn, tmR_add, tmR_len, List.length_map, htk]; rfl
termination_by SizeOf.sizeOf x
decreasing_by exact tm_mem hu
end Go.Proofs.YtpfohmboflcneaaGreatDoor
end

section
namespace Go.Proofs.YtpfohmboflcneaaGreatDoor
open Go Go.AL Go.RowKit
set_option maxRecDepth 10000
set_option maxHeartbeats 4000000
theorem vsC_append : ∀ a b : List Lt, vsC (a ++ b) = vsC a ++ vsC b := fun a b => by rw [vsC, List.flatMap_append]; rfl
theorem vsC_take {c : List Lt} {k : Nat} {u : Lt} (h : c[k]? = some u) : vsC (c.take (k + 1)) = vsC (c.take k) ++ vsTs u.xs := by
  rw [take_snoc h, vsC_append]; simp [vsC]
theorem vsC_at {c : List Lt} {k j : Nat} {u : Lt} {v : Tm} (h : c[k]? = some u) (hv : u.xs[j]? = some v) : ∃ q, vsC c = (vsC (c.take k) ++ vsTs (u.xs.take j)) ++ (vsT v ++ q) := by
  have h1 : vsC c = vsC (c.take k) ++ (vsTs u.xs ++ vsC (c.drop (k + 1))) := by
    conv => lhs; rw [← List.take_append_drop k c, drop_cons h]
    rw [vsC_append, vsC_cons]
  rw [h1, vsTs_at hv]
  exact ⟨vsTs (u.xs.drop (j + 1)) ++ vsC (c.drop (k + 1)), by simp only [List.append_assoc]⟩
theorem changed_nm (F : List Int) (c : List Lt) (hF : F = nubA [] (vsC c)) (hlen : (vsC c).length ≤ 1000000) (hs : clL c) (hok : ∀ l ∈ c, okL l = true) : ACall Tryz.prog 93 [clV c, .fn 94 [] [.ob 1 0]] (nmH []) (fun r H' => r = clV (appC (nmG F) c) ∧ H' = nmH F) := by
  have hcl := hs.1
  refine ACall.walk [0, 1, 4, 5, 7, 8, 10, 11, 12, 13, 14, 23, 24, 25, 26] [7, 8, 10] Tryz.func93 rfl Tryz.ntmps93 (by kernel_rfl) (by rfl) rfl fun W own I0 φ0 lay => ?_
  refine gE @ltR_len ?_
  refine AP.own 5 119 3 rfl ?_
  refine sI ?_
  refine AP.loop rfl (α := Nat) (fun k => [(1, .fn 94 [] [.ob 1 0]), (5, .os 2 3 0 k), (11, clV c), (12, Iv c.length), (13, Iv k)]) (fun k => (2, .vec 119 3 (ltR ((c.take k).map (chL (nmG F))))) :: nmH (nubA [] (vsC (c.take k)))) (fun k => k ≤ c.length) (fun k => c.length - k) 0 (by omega) (sU) rfl fun k hk => ?_
  rcases Nat.eq_or_lt_of_le hk with hke | hlt
  · subst hke
    rw [List.take_length]
    refine gE @ltR_len ?_
    refine cF ?_
    refine gO ?_
    refine AE.freeze 2 (el := 119) (es := 3) (rows := ltR (c.map (chL (nmG F)))) rfl (by simp only [go_sem, Nat.reduceAdd, Nat.reduceLeDiff, Nat.reduceSub, Int.reduceToNat, reduceCtorEq, ltR_len, List.length_map]; first | done | trivial | omega | (simp; done) | (simp; omega)) (by simp only [go_sem, Nat.reduceAdd, Nat.reduceLeDiff, Nat.reduceSub, Int.reduceToNat, reduceCtorEq, ltR_len, List.length_map]; first | done | trivial | omega | (simp; done) | (simp; omega)) ?_; simp only [go_sem, Nat.reduceAdd, Nat.reduceLeDiff, Nat.reduceSub, Int.reduceToNat, reduceCtorEq, ltR_len, List.length_map]
    rw [List.take_of_length_le (by rw [ltR_len, List.length_map]; omega)]
    exact AE.retD [] rfl ⟨rfl, trivial⟩ rfl ⟨rfl, by rw [hF]; rfl⟩
  · obtain ⟨u, hu, hrow⟩ := ltR_get c k hlt
    have hw := wr (x := (k : Int) + 1) (by omega)
    have htk := take_len (l := c) (k := k) (by omega)
    have hul := clL_get hs hu
    have hul2 := hul.2.1
    have hsn := map_snoc (chL (nmG F)) hu
    refine gE @ltR_len ?_
    refine cT ?_
    refine gE @hrow ?_
    refine ⟨by rw [ltR_len]; omega, ?_⟩
    refine gE @tmR_len ?_
    refine AP.ownCell 4 2 71 3 rfl rfl ?_
    refine sI ?_
    have hcx : chL (nmG F) u = ⟨u.ng, u.pd, u.xs.map (chT (nmG F))⟩ := by rw [chL, chTs_map]
    refine AP.loop rfl (α := Nat) (fun j => [(1, .fn 94 [] [.ob 1 0]), (5, .os 2 3 0 k), (8, .ob 4 0), (11, clV c), (12, Iv c.length), (13, Iv k), (23, .im (.sl 3 (tmR u.xs))), (24, Iv u.xs.length), (25, Iv j)]) (fun j => (5, .vec 71 3 (tmR ((u.xs.take j).map (chT (nmG F))))) :: (4, .var 119 [Bv u.ng, Sv u.pd, .os 5 3 0 j]) :: (3, .var 119 [Bv u.ng, Sv u.pd, .im (.sl 3 (tmR u.xs))]) :: (2, .vec 119 3 (ltR ((c.take k).map (chL (nmG F))))) :: nmH (nubA (nubA [] (vsC (c.take k))) (vsTs (u.xs.take j)))) (fun j => j ≤ u.xs.length) (fun j => u.xs.length - j) 0 (by omega) (sU) (by rw [List.take_zero (l := u.xs), vsTs]; rfl) fun j hj => ?_
    rcases Nat.eq_or_lt_of_le hj with hje | hjlt
    · subst hje
      rw [List.take_length]
      refine gE @tmR_len ?_
      refine cF ?_
      refine sI ?_
      refine AP.freeze 5 (el := 71) (es := 3) (rows := tmR (u.xs.map (chT (nmG F)))) rfl (by simp only [go_sem, Nat.reduceAdd, Nat.reduceLeDiff, Nat.reduceSub, Int.reduceToNat, reduceCtorEq, tmR_len, List.length_map]; first | done | trivial | omega | (simp; done) | (simp; omega)) (by simp only [go_sem, Nat.reduceAdd, Nat.reduceLeDiff, Nat.reduceSub, Int.reduceToNat, reduceCtorEq, tmR_len, List.length_map]; first | done | trivial | omega | (simp; done) | (simp; omega)) ?_; simp only [go_sem, Nat.reduceAdd, Nat.reduceLeDiff, Nat.reduceSub, Int.reduceToNat, reduceCtorEq, tmR_len, List.length_map]
      rw [show List.take u.xs.length (tmR (u.xs.map (chT (nmG F)))) = tmR (u.xs.map (chT (nmG F))) from List.take_of_length_le (by rw [tmR_len, List.length_map]; omega)]
      refine gO ?_
      refine AQ.append (hnb := rfl) (rows := ltR ((c.take k).map (chL (nmG F)))) (es := 2) (by kernel_rfl) rfl rfl rfl (by simp only [go_sem, noMen, AV.mens, AV.men, Bool.or_false]; rfl) Tryz.tk27 Tryz.sz119 (by show Option.map _ (zro Tryz.prog 119) = _; rw [Tryz.zr119]; rfl) Tryz.by119 (by first | rfl | (simp only [ltR_len, List.length_map, htk, List.length_cons, List.length_nil]; done) | (simp only [ltR_len, List.length_map, htk, List.length_cons, List.length_nil]; omega)) (by simp only [ltR_len, List.length_map, htk, List.length_cons, List.length_nil]; omega) (by simp only [ltR_len, List.length_map, htk, List.length_cons, List.length_nil]; omega) ?_
      refine sI ?_
      refine gE @hw ?_
      refine AE.forgets [4, 3] (by simp only [go_sem, Nat.reduceAdd, Nat.reduceLeDiff, Nat.reduceSub, Int.reduceToNat, reduceCtorEq, dropOk, noMen, AV.mens, AV.men, mens_vN, Bool.or_false]; first | done | rfl) ?_
      refine sE (an @ltR_len (an @List.length_map.{0, 0} @htk)) ?_
      refine AE.round (k + 1) (by omega) (by omega) (sU) ?_
      rw [hsn, ltR_add, hcx, vsC_take hu, nubA_split]; rfl
    · obtain ⟨v, hv, hrow2⟩ := tmR_get u.xs j hjlt
      have hw2 := wr (x := (j : Int) + 1) (by have := hul.2.1; omega)
      have htk2 := take_len (l := u.xs) (k := j) (by omega)
      obtain ⟨q, hq⟩ := vsC_at hu hv
      have hvt := vsTs_take hv
      have hF2 : F = nubA (nubA (nubA [] (vsC (c.take k))) (vsTs (u.xs.take j))) (vsT v ++ q) ++ [] := by rw [hF, hq, nubA_split _ (_ ++ _), nubA_split _ (vsC _), List.append_nil]
      obtain ⟨r', hF'⟩ := nub_pre (a := []) hF2
      have hll := congrArg List.length hq
      simp only [List.length_append] at hll
      have hnl := nubA_len (vsC (c.take k) ++ vsTs (u.xs.take j)) []
      rw [nubA_split, List.length_append, List.length_nil] at hnl
      have ih := change_nm F v (nubA (nubA [] (vsC (c.take k))) (vsTs (u.xs.take j))) r' hF' (nubA_nodup _ _ (nubA_nodup _ _ List.nodup_nil)) (by omega) (tmsL_get hul.2.2 hv) (okTs_mem (okL_ts (hok u (List.mem_of_getElem? hu))) v (List.mem_of_getElem? hv))
      rw [← nubA_split (nubA [] (vsC (c.take k))), ← hvt] at ih
      clear hF2 hF' hll hnl hq
      have hsn2 := map_snoc (chT (nmG F)) hv
      obtain ⟨w, hwe⟩ : ∃ w, chT (nmG F) v = w := ⟨_, rfl⟩
      rw [hwe] at ih hsn2
      refine gE @tmR_len ?_
      refine cT ?_
      refine gE @hrow2 ?_
      refine ⟨by rw [tmR_len]; omega, ?_⟩
      refine gO ?_
      refine AP.drawE 9 (Tree.node [] [0, 1, 2, 3] [4] [Tree.node [0, 1] [] [5] [Tree.node [0, 1] [] [6] [Tree.node [] [7] [8] [Tree.node [] [] [] []]]]]) (by kernel_rfl) rfl (by kernel_rfl) (by kernel_rfl) ?_
      refine vd_node ?_
      refine sI ?_
      refine AQ.callH [(1, 1), (0, 0)] (by kernel_rfl) rfl rfl rfl rfl rfl rfl (by refine ⟨?_, ?_, trivial⟩ <;> (simp only [rnO, AV.rns, AV.rn, rns_vN]; rfl)) rfl ih fun r' H' ⟨e1, e2⟩ => ?_
      subst e1; subst e2
      refine sH ?_
      refine AQ.nx rfl ?_
      refine sI ?_
      refine AQ.go (by kernel_rfl) ?_
      refine sI ?_
      refine AQ.nx rfl ?_
      refine sI ?_
      refine AQ.kill 5 ?_
      refine sI ?_
      refine AQ.append (hnb := rfl) (rows := tmR ((u.xs.take j).map (chT (nmG F)))) (es := 2) (by kernel_rfl) rfl rfl rfl (by simp only [go_sem, noMen, AV.mens, AV.men, Bool.or_false]; rfl) Tryz.tk69 Tryz.sz71 (by show Option.map _ (zro Tryz.prog 71) = _; rw [Tryz.zr71]; rfl) Tryz.by71 (by first | rfl | (simp only [tmR_len, List.length_map, htk2, List.length_cons, List.length_nil]; done) | (simp only [tmR_len, List.length_map, htk2, List.length_cons, List.length_nil]; omega)) (by simp only [tmR_len, List.length_map, htk2, List.length_cons, List.length_nil]; omega) (by simp only [tmR_len, List.length_map, htk2, List.length_cons, List.length_nil]; omega) ?_
      refine sI ?_
      refine AQ.nx rfl ?_
      refine sI ?_
      refine AQ.go (by kernel_rfl) ?_
      refine sI ?_
      refine AQ.nx rfl ?_
      refine sI ?_
      refine AQ.done ?_
      refine gE @hw2 ?_
      refine AE.forgets [6] (by simp only [go_sem, Nat.reduceAdd, Nat.reduceLeDiff, Nat.reduceSub, Int.reduceToNat, reduceCtorEq, dropOk, noMen, AV.mens, AV.men, mens_vN, Bool.or_false]; first | done | rfl) ?_
      refine sI ?_
      refine AE.round (j + 1) (by omega) (by omega) (sU) ?_
      rw [hsn2, tmR_add, tmR_len, List.length_map, htk2]; rfl
end Go.Proofs.YtpfohmboflcneaaGreatDoor
end

section
namespace Go.Proofs.YtpfohmboflcneaaGreatDoor
open Go Go.AL Go.RowKit
set_option maxRecDepth 10000
set_option maxHeartbeats 4000000
theorem norm1_spec (x y : Lt) (hs : ltL x) : PFn Tryz.prog 88 [ltV y, .im (ltP x)] (Bv (sameL x y)) := by
  refine ACall.walk [0, 1, 2, 3] [] Tryz.func88 rfl Tryz.ntmps88 (by kernel_rfl) (by rfl) rfl fun W own I0 φ0 lay => ?_
  refine gO ?_
  refine AQ.fn (by kernel_rfl) rfl rfl rfl (sameLit_spec x y hs) rfl ?_
  refine sI ?_
  refine gO ?_
  exact AE.ret0 rfl ⟨rfl, trivial⟩ rfl ⟨rfl, rfl⟩
theorem ixS_spec (l : List Lt) (x : Lt) (hl : l.length ≤ 1000000000) (hs : ltL x) :
    PFn Tryz.prog 162 [clV l, .fn 88 [] [.im (ltP x)]] (Iv (ixF (sameL x) l 0)) := by
  refine ACall.walk [0, 1, 4, 5, 7, 8, 9, 16] [] Tryz.func162 rfl Tryz.ntmps162 (by kernel_rfl) (by rfl) rfl fun W own I0 φ0 lay => ?_
  refine gE @ltR_len ?_
  refine AP.loop rfl (α := Nat) (fun k => [(0, clV l), (1, .fn 88 [] [.im (ltP x)]), (7, Iv l.length), (8, Iv k)]) (fun _ => []) (fun k => k ≤ l.length ∧ ixF (sameL x) l 0 = ixF (sameL x) (l.drop k) k) (fun k => l.length - k) 0 ⟨by omega, rfl⟩ (sU) rfl fun k ⟨hk, hm⟩ => ?_
  rcases Nat.eq_or_lt_of_le hk with hke | hlt
  · refine gO ?_
    refine cF ?_
    refine gO ?_
    exact AE.ret0 rfl ⟨rfl, trivial⟩ rfl ⟨rfl, by rw [hm, hke, List.drop_length, ixF]; rfl⟩
  · obtain ⟨u, hu, hrow⟩ := ltR_get l k hlt
    have hw := wr (x := (k : Int) + 1) (by omega)
    have hdr := ixF_drop (sameL x) hu
    refine gO ?_
    refine cT ?_
    refine gE @hrow ?_
    refine ⟨by rw [ltR_len]; omega, ?_⟩
    refine gO ?_
    refine AQ.callF [] (by kernel_rfl) rfl rfl rfl rfl rfl rfl (fun k => by exact trivial) (fun k => rfl) (fun k => rfl) (norm1_spec x u hs) ?_
    refine sI ?_
    refine gO ?_
    refine AP.cond rfl rfl (fun h1 => ?_) (fun h1 => ?_)
    · refine gO ?_
      exact AE.ret0 rfl ⟨rfl, trivial⟩ rfl ⟨rfl, by rw [hm, hdr, if_pos (by simpa using h1)]; rfl⟩
    · refine gE @hw ?_
      exact AE.round (k + 1) ⟨by omega, by rw [hm, hdr, if_neg (by simpa using h1)]⟩ (by omega) (sU) rfl
theorem anyS_spec (l : List Lt) (x : Lt) (hl : l.length ≤ 1000000000) (hs : ltL x) : PFn Tryz.prog 87 [clV l, .fn 88 [] [.im (ltP x)]] (Bv (l.any (sameL x))) := by
  refine ACall.walk [0, 1, 4] [] Tryz.func87 rfl Tryz.ntmps87 (by kernel_rfl) (by rfl) rfl fun W own I0 φ0 lay => ?_
  refine gO ?_
  refine AQ.fn (by kernel_rfl) rfl rfl rfl (ixS_spec l x hl hs) rfl ?_
  refine sI ?_
  refine gO ?_
  exact AE.ret0 rfl ⟨rfl, trivial⟩ rfl ⟨rfl, by rw [← ixF_any (sameL x) l 0]; rfl⟩
mutual
theorem vsT_len : ∀ t : Tm, (vsT t).length ≤ wT t
  | .mk n i xs => by
    rw [vsT, wT, List.length_append]
    have := vsTs_len xs
    split <;> simp <;> omega
theorem vsTs_len : ∀ l : List Tm, (vsTs l).length ≤ wTs l
  | [] => by rw [vsTs, wTs]; simp
  | t :: l => by rw [vsTs, wTs, List.length_append]; have := vsT_len t; have := vsTs_len l; omega
end
theorem vsC_len : ∀ c : List Lt, (vsC c).length ≤ ndC c
  | [] => by simp [vsC]
  | l :: c => by rw [vsC_cons, List.length_append, ndC_cons]; have := vsTs_len l.xs; have := vsC_len c; omega
theorem normal_walk (N : Nat) (hsort : ∀ l : List Lt, l.length ≤ N → ACall Tryz.prog 90 [.os 0 4 0 l.length, .fn 91 [] []] (soH l) (fun r H' => r = .tup [] ∧ H' = soH (srtA [] l))) (c : List Lt) (hN : c.length ≤ N) (hs : clL c) (hck : ckC 4 9 2 3 c = 0) :
    PFn Tryz.prog 22 [clV c] (.tup [clV (nrC c), Iv 0]) := by
  obtain ⟨h1, h2, h3, h4⟩ := ckC_0 hck
  refine ACall.walk [0, 2, 3, 4, 5, 6, 7, 8, 10, 11, 15, 17, 18, 19, 20, 29, 44, 45, 46, 47] [7, 10, 11] Tryz.func22 rfl Tryz.ntmps22 (by kernel_rfl) (by rfl) rfl fun W own I0 φ0 lay => ?_
  refine gO ?_
  refine AQ.fn (by kernel_rfl) rfl rfl rfl (check_spec c hs) rfl ?_
  refine sE @hck ?_
  refine gE (an @hck @ltR_len) ?_
  refine AP.own 5 145 4 rfl ?_
  refine sI ?_
  refine AP.loop rfl (α := Nat) (fun k => [(0, clV c), (5, .os 0 4 0 (ddA [] (c.take k)).length), (17, clV c), (18, Iv c.length), (19, Iv k)]) (fun k => soH (ddA [] (c.take k))) (fun k => k ≤ c.length) (fun k => c.length - k) 0 (by omega) (sU) rfl fun k hk => ?_
  rcases Nat.eq_or_lt_of_le hk with hke | hlt
  · subst hke
    rw [List.take_length]
    have hdl : (ddA [] c).length ≤ c.length := (ddA_sub c []).length_le
    have hso := hsort (ddA [] c) (by omega)
    have hol : (ordC c).length = (ddA [] c).length := by rw [ordC, (srtA_perm _ _).length_eq]; rfl
    have hosl : ∀ l ∈ ordC c, ltL l := fun l hl => hs.2 l (ordC_mem.1 hl)
    have hook : ∀ l ∈ ordC c, okL l = true := fun l hl => h4 l (ordC_mem.1 hl)
    have hclo : clL (ordC c) := ⟨by omega, hosl⟩
    have hoc : ordC c = srtA [] (ddA [] c) := rfl
    rw [← hoc] at hso
    have hvl : (vsC (ordC c)).length ≤ 1000000 := by
      have h5 := vsC_len (ordC c)
      have h6 : ndC (ordC c) = ndC (ddA [] c) := by rw [hoc]; exact ndC_perm (srtA_perm _ _)
      have h7 := ndC_sub (ddA_sub c [])
      omega
    have hch := changed_nm (nubA [] (vsC (ordC c))) (ordC c) rfl hvl hclo hook
    have hnr : appC (nmG (nubA [] (vsC (ordC c)))) (ordC c) = nrC c := rfl
    rw [hnr] at hch
    rw [← hol] at hso
    obtain ⟨o, ho⟩ : ∃ o, ordC c = o := ⟨_, rfl⟩
    rw [ho] at hso hol hosl hclo hch
    rw [← hol]
    refine gO ?_
    refine cF ?_
    refine gO ?_
    refine AQ.callH [(0, 0)] (by kernel_rfl) rfl rfl rfl rfl rfl rfl (by exact ⟨rfl, trivial⟩) rfl hso ?_
    rintro r H1 ⟨rfl, rfl⟩
    refine ⟨rfl, ?_⟩
    refine sH ?_
    refine gE @shR_len ?_
    refine AP.own 8 119 3 rfl ?_
    refine sI ?_
    refine AP.loop rfl (α := Nat) (fun k => [(8, .os 1 3 0 k), (44, .os 0 4 0 o.length), (45, Iv o.length), (46, Iv k)]) (fun k => (1, .vec 119 3 (ltR (o.take k))) :: soH o) (fun k => k ≤ o.length) (fun k => o.length - k) 0 (by omega) (sU) rfl fun k hk => ?_
    rcases Nat.eq_or_lt_of_le hk with hke | hlt
    · subst hke
      rw [List.take_length]
      refine gO ?_
      refine cF ?_
      refine gO ?_
      refine AQ.freeze 1 (el := 119) (es := 3) (rows := ltR o) rfl (by simp only [go_sem, Nat.reduceAdd, Nat.reduceLeDiff, Nat.reduceSub, Int.reduceToNat, reduceCtorEq, ltR_len]; first | done | trivial | omega | (simp; done) | (simp; omega)) (by simp only [go_sem, Nat.reduceAdd, Nat.reduceLeDiff, Nat.reduceSub, Int.reduceToNat, reduceCtorEq, ltR_len]; first | done | trivial | omega | (simp; done) | (simp; omega)) ?_; simp only [go_sem, Nat.reduceAdd, Nat.reduceLeDiff, Nat.reduceSub, Int.reduceToNat, reduceCtorEq, ltR_len]
      rw [List.take_of_length_le (by rw [ltR_len]; omega)]
      refine AQ.mmake (by kernel_rfl) ?_
      refine sI ?_
      refine gO ?_
      refine AQ.callH [(1, 2), (0, 1)] (by kernel_rfl) rfl rfl rfl rfl rfl rfl (by exact ⟨rfl, rfl, trivial⟩) rfl hch ?_
      rintro r H1 ⟨rfl, rfl⟩
      refine ⟨rfl, ?_⟩
      refine sH ?_
      refine gO ?_
      exact AE.retD [2, 1, 0] rfl ⟨rfl, rfl, trivial⟩ (by simp only [go_sem, Nat.reduceAdd, Nat.reduceLeDiff, Nat.reduceSub, Int.reduceToNat, reduceCtorEq, dropOk, noMen, AV.mens, AV.men, mens_vN, Bool.or_false]; first | done | rfl) ⟨rfl, rfl⟩
    · obtain ⟨u, hu, _⟩ := ltR_get o k hlt
      have hrow := shR_get hu
      have hw := wr (x := (k : Int) + 1) (by omega)
      have hsn := take_snoc hu
      have htk := take_len (l := o) (k := k) (by omega)
      refine gO ?_
      refine cT ?_
      refine gE @hrow ?_
      refine ⟨by rw [shR_len]; omega, ?_⟩
      refine gO ?_
      refine AQ.append (hnb := rfl) (rows := ltR (o.take k)) (es := 2) (by kernel_rfl) rfl rfl rfl (by rfl) Tryz.tk27 Tryz.sz119 (by show Option.map _ (zro Tryz.prog 119) = _; rw [Tryz.zr119]; rfl) Tryz.by119 (by first | rfl | (simp only [ltR_len, htk, List.length_cons, List.length_nil]; done) | (simp only [ltR_len, htk, List.length_cons, List.length_nil]; omega)) (by simp only [ltR_len, htk, List.length_cons, List.length_nil]; omega) (by simp only [ltR_len, htk, List.length_cons, List.length_nil]; omega) ?_
      refine sI ?_
      refine gE @hw ?_
      refine AE.forgets [2] rfl ?_
      refine sI ?_
      refine AE.round (k + 1) (by omega) (by omega) (by simp only [ltR_len, htk]; exact (sU)) ?_
      rw [hsn, ltR_add]
  · obtain ⟨u, hu, hrow⟩ := ltR_get c k hlt
    have hw := wr (x := (k : Int) + 1) (by omega)
    have hul := clL_get hs hu
    have huo := h4 u (List.mem_of_getElem? hu)
    have hdd := ddA_snoc (c.take k) [] u
    rw [← take_snoc hu, List.nil_append] at hdd
    refine gE @ltR_len ?_
    refine cT ?_
    refine gE @hrow ?_
    refine ⟨by rw [ltR_len]; omega, ?_⟩
    refine gO ?_
    refine ⟨⟨by omega, by rw [ltR_len]; omega⟩, ?_⟩
    have htk : List.take k (ltR c) = ltR (c.take k) := by rw [ltR, ltR, List.map_take]
    have hsub : List.drop k (List.take (k + 1) (ltR c)) = ltR [u] := by
      rw [ltR, ← List.map_take, ← List.map_drop, take_snoc hu, List.drop_append_of_le_length (by rw [List.length_take]; omega), List.drop_take_self]; rfl
    have hwk : ((k : Int) + 1).toNat = k + 1 := by omega
    have hwr := written_spec [u] true ⟨by simp, fun l hl => by rw [List.mem_singleton] at hl; subst hl; exact hul⟩ (by simp) (by
      have h6 := ndC_mem c u (List.mem_of_getElem? hu)
      simp only [ndC, List.map_cons, List.map_nil, List.sum_cons, List.sum_nil]; omega) (fun l hl => by rw [List.mem_singleton] at hl; subst hl; exact huo)
    have hkey : txC true [u] = keyL u := by rw [txC, txS, List.append_nil, keyL]
    rw [hkey] at hwr
    have hcnt : (ddA [] (c.take k)).length ≤ k := by
      have := (ddA_sub (c.take k) []).length_le
      rw [List.length_take] at this; omega
    rw [htk]
    refine AQ.fix 1 rfl rfl ?_
    refine sI ?_
    refine AQ.fn (by kernel_rfl) rfl rfl rfl (anyS_spec (c.take k) u (by rw [List.length_take]; omega) hul) rfl ?_
    refine sI ?_
    refine gO ?_
    refine AP.cond rfl rfl (fun h5 => ?_) (fun h5 => ?_)
    · have h5 : (c.take k).any (sameL u) = false := by simpa using h5
      rw [h5, if_neg (by decide)] at hdd
      refine gO ?_
      refine AP.drawE 11 (Tree.node [] [0, 1, 2, 3, 4, 5, 6] [7] [Tree.node [0, 1] [8] [9] [Tree.node [0] [] [10] [Tree.node [] [] [] []]]]) (by kernel_rfl) rfl (by kernel_rfl) (by kernel_rfl) ?_
      refine vd_node ?_
      refine sE (an @hw (an @hwk (an @hsub @ltR_len))) ?_
      refine ⟨⟨by omega, by omega, by omega⟩, ?_⟩
      refine AQ.fn (by kernel_rfl) rfl rfl rfl (hwr) rfl ?_
      refine sI ?_
      refine AQ.nx rfl ?_
      refine sI ?_
      refine AQ.go (by kernel_rfl) ?_
      refine sI ?_
      refine AQ.nx rfl ?_
      refine sI ?_
      refine AQ.append (hnb := rfl) (rows := shR (ddA [] (c.take k))) (es := 3) (by kernel_rfl) rfl rfl rfl (by rfl) Tryz.tk140 Tryz.sz145 (by show Option.map _ (zro Tryz.prog 145) = _; rw [Tryz.zr145]; rfl) Tryz.by145 (by first | rfl | (simp only [shR_len, List.length_cons, List.length_nil]; done) | (simp only [shR_len, List.length_cons, List.length_nil]; omega)) (by simp only [shR_len, List.length_cons, List.length_nil]; omega) (by simp only [shR_len, List.length_cons, List.length_nil]; omega) ?_
      refine sI ?_
      refine AQ.nx rfl ?_
      refine sI ?_
      refine AQ.done ?_
      refine gE @hw ?_
      have hlen : (ddA [] (c.take (k + 1))).length = (ddA [] (c.take k)).length + 1 := by rw [hdd, List.length_append]; rfl
      refine AE.round (k + 1) (by omega) (by omega) (by rw [hlen]; simp only [shR_len]; exact (sU)) ?_
      rw [hdd]; simp only [soH, shR, List.map_append]; rfl

    · have h5 : (c.take k).any (sameL u) = true := by simpa using h5
      rw [if_pos h5, List.append_nil] at hdd
      refine gE @hw ?_
      exact AE.round (k + 1) (by omega) (by omega) (by rw [hdd]; exact (sU)) (by rw [hdd])
end Go.Proofs.YtpfohmboflcneaaGreatDoor
end

section
namespace Go.Proofs.YtpfohmboflcneaaGreatDoor
open Go Go.AL Go.RowKit
set_option maxRecDepth 10000
set_option maxHeartbeats 4000000
abbrev rdH (s : List UInt8) (i : Nat) : Heap := [(0, .var 135 [Sv s, Iv i])]
abbrev misV : AV := .wr (.iface 131) (.agg [])
abbrev rdT : Heap := [(0, .var 135 [.top, .top])]
theorem le_tops (a b : AV) : cellsLe [a, b] [.top, .top] := fun w φ I us h => by
  simp only [AV.dens, AV.den] at h ⊢
  obtain ⟨u1, us1, rfl, _, u2, us2, rfl, _, rfl⟩ := h
  exact ⟨_, _, rfl, trivial, _, _, rfl, trivial, rfl⟩
theorem atB_le {s : List UInt8} {i : Nat} {w : List UInt8} (h : atB s i w = true) (hi : i ≤ s.length) : i + w.length ≤ s.length := by
  rcases atB_len h with h | h
  · exact h
  · subst h; simpa using hi
theorem eat_spec (s w : List UInt8) (i : Nat) (hi : i ≤ s.length) (hs : s.length ≤ 1000000) (hw : w.length ≤ 1000) : ACall Tryz.prog 83 [.ob 0 0, Sv w] (rdH s i) (fun r H' => r = Bv (atB s i w) ∧ H' = rdH s (if atB s i w then i + w.length else i)) := by
  have hp := hasPrefix_spec (s.drop i) w
  have he : Lib.hasPrefix (s.drop i) w = atB s i w := rfl
  have htk : List.take (s.length - i) (List.drop i s) = List.drop i s := List.take_of_length_le (by rw [List.length_drop]; exact Nat.le_refl _)
  rw [he, ← htk] at hp
  clear he
  refine ACall.walk [0, 1, 4, 16] [] Tryz.func83 rfl Tryz.ntmps83 (by kernel_rfl) (by rfl) rfl fun W own I0 φ0 lay => ?_
  refine gO ?_
  refine AP.drawE 12 (Tree.node [] [0, 1, 2, 3, 4, 5, 6, 7, 8, 9] [10] [Tree.node [] [11] [] []]) (by kernel_rfl) rfl (by kernel_rfl) (by kernel_rfl) ?_
  refine vd_node ?_
  refine sI ?_
  refine ⟨by omega, ?_⟩
  refine AQ.fn (by kernel_rfl) rfl rfl rfl (hp) rfl ?_
  refine sI ?_
  refine AQ.nx rfl ?_
  refine sI ?_
  refine AQ.done ?_
  refine gO ?_
  refine AP.cond rfl rfl (fun h => ?_) (fun h => ?_)
  · have h : atB s i w = false := by simpa using h
    refine gO ?_
    exact AE.ret rfl ⟨rfl, trivial⟩ ⟨by rw [h]; rfl, by rw [h]; rfl⟩
  · have h : atB s i w = true := by simpa using h
    have hle := atB_le h hi
    have hw1 := wr (x := (i : Int) + w.length) (by omega)
    refine gE @hw1 ?_
    exact AE.ret rfl ⟨rfl, trivial⟩ ⟨by rw [h]; rfl, by rw [h, if_pos rfl]; rfl⟩
theorem getD_drop0 {l : List UInt8} {k : Nat} (h : k < l.length) : l.drop k = l.getD k 0 :: l.drop (k + 1) := by
  rw [List.drop_eq_getElem_cons h, List.getD_eq_getElem?_getD, List.getElem?_eq_getElem h]; rfl
theorem nmN_drop {s : List UInt8} {k : Nat} (b : Bool) (h : k < s.length) : nmN b (s.drop k) = if inN (s.getD k 0) b then 1 + nmN false (s.drop (k + 1)) else 0 := by
  rw [getD_drop0 h, nmN]
theorem name_spec (s : List UInt8) (i : Nat) (hi : i ≤ s.length) (hs : s.length ≤ 1000000) : ACallX Tryz.prog 157 [.ob 0 0] (rdH s i) (fun r H' => nmN true (s.drop i) ≠ 0 ∧ r = Sv ((s.drop i).take (nmN true (s.drop i))) ∧ H' = rdH s (i + nmN true (s.drop i))) (fun r H' => nmN true (s.drop i) = 0 ∧ r = misV ∧ H' = rdT) := by
  refine ACallX.walk [0, 2, 3, 35, 48] [] Tryz.func157 rfl Tryz.ntmps157 (by kernel_rfl) (by rfl) rfl fun W own I0 φ0 lay => ?_
  refine gO ?_
  refine AP.loop rfl (α := Nat) (fun k => [(0, .ob 0 0), (3, Iv i)]) (fun k => rdH s (i + k)) (fun k => i + k ≤ s.length ∧ nmN true (s.drop i) = k + nmN (decide (k = 0)) (s.drop (i + k))) (fun k => s.length - (i + k)) 0 ⟨by omega, by simp⟩ (sU) rfl fun k ⟨hk, hm⟩ => ?_
  by_cases hlt : i + k < s.length
  · have hw := wr (x := ((i + k : Nat) : Int) + 1) (by omega)
    have hd : decide (((i + k : Nat) : Int) < (s.length : Int)) = true := decide_eq_true (by omega)
    have he : decide (((i + k : Nat) : Int) = (i : Int)) = decide (k = 0) := by rw [decide_eq_decide]; omega
    rw [nmN_drop _ hlt] at hm
    refine gE @hd ?_
    refine AP.drawE 28 (Tree.node [] [0, 1, 2, 3, 4, 5, 6, 7, 8, 9, 10, 11, 12, 13, 14, 15, 16, 17, 18, 19, 20, 21, 22, 23, 24, 25] [26] [Tree.node [] [27] [] []]) (by kernel_rfl) rfl (by kernel_rfl) (by kernel_rfl) ?_
    refine vd_node ?_
    refine sE @hd ?_
    refine ⟨⟨by omega, by omega⟩, ?_⟩
    refine AQ.guard_yes (by simp only [go_sem]) ?_
    refine AQ.fn (by kernel_rfl) rfl rfl rfl (inName_spec (s.getD (i + k) 0) (((i + k : Nat) : Int) == (i : Int))) rfl ?_
    refine sI ?_
    refine AQ.nx rfl ?_
    refine sI ?_
    refine AQ.done ?_
    have hbq : (((i + k : Nat) : Int) == (i : Int)) = decide (k = 0) := by
      rw [Bool.eq_iff_iff, beq_iff_eq, decide_eq_true_iff]; omega
    rw [hbq]
    refine gO ?_
    refine AP.cond rfl rfl (fun h5 => ?_) (fun h5 => ?_)
    · have h5 : inN (s.getD (i + k) 0) (decide (k = 0)) = true := by simpa using h5
      rw [if_pos h5] at hm
      refine gE @hw ?_
      refine AE.round (k + 1) ⟨by omega, ?_⟩ (by omega) (sU) rfl
      rw [hm, show decide (k + 1 = 0) = false from decide_eq_false (by omega)]; simp only [Nat.add_assoc]; 
    · have h5 : inN (s.getD (i + k) 0) (decide (k = 0)) = false := by simpa using h5
      rw [if_neg (by rw [h5]; decide)] at hm
      refine gO ?_
      have hm0 : nmN true (s.drop i) = k := hm
      by_cases hk0 : k = 0
      · subst hk0
        refine cT ?_
        refine gO ?_
        refine xI ?_; refine sI ?_
        refine gO ?_
        refine AQ.cellsW 0 _ rfl (le_tops _ _) ?_
        refine sI ?_
        refine AQ.panic rfl ?_
        exact AEX.out [] rfl rfl ⟨hm0, rfl, rfl⟩
      · refine cF ?_
        refine gO ?_
        exact AE.ret rfl ⟨rfl, trivial⟩ ⟨by omega, by rw [hm0, Nat.add_sub_cancel_left]; rfl, by rw [hm0]⟩
  · have hd : decide (((i + k : Nat) : Int) < (s.length : Int)) = false := decide_eq_false (by omega)
    refine gE @hd ?_
    refine AP.drawE 28 (Tree.node [] [0, 1, 2, 3, 4, 5, 6, 7, 8, 9, 10, 11, 12, 13, 14, 15, 16, 17, 18, 19, 20, 21, 22, 23, 24, 25] [26] [Tree.node [] [27] [] []]) (by kernel_rfl) rfl (by kernel_rfl) (by kernel_rfl) ?_
    refine vd_node ?_
    refine sE @hd ?_
    refine ⟨fun h => h.elim, fun h => h.elim, ?_⟩
    refine AQ.skip (by kernel_rfl) rfl ?_
    refine sI ?_
    refine AQ.nx rfl ?_
    refine sI ?_
    refine AQ.done ?_
    have hm : nmN true (s.drop i) = k := by rw [hm, List.drop_eq_nil_of_le (by omega), nmN]; rfl
    refine gO ?_
    have hm0 : nmN true (s.drop i) = k := hm
    by_cases hk0 : k = 0
    · subst hk0
      refine cT ?_
      refine gO ?_
      refine xI ?_; refine sI ?_
      refine gO ?_
      refine AQ.cellsW 0 _ rfl (le_tops _ _) ?_
      refine sI ?_
      refine AQ.panic rfl ?_
      exact AEX.out [] rfl rfl ⟨hm0, rfl, rfl⟩
    · refine cF ?_
      refine gO ?_
      exact AE.ret rfl ⟨rfl, trivial⟩ ⟨by omega, by rw [hm0, Nat.add_sub_cancel_left]; rfl, by rw [hm0]⟩
end Go.Proofs.YtpfohmboflcneaaGreatDoor
end

section
namespace Go.Proofs.YtpfohmboflcneaaGreatDoor
open Go Go.AL Go.RowKit
set_option maxRecDepth 10000
set_option maxHeartbeats 4000000
theorem ACallX.told {P : Program} {f : FuncId} {xs : List AV} {H : Heap} {R R' X : AV → Heap → Prop} (h : ACallX P f xs H R X) (hr : ∀ r H', R r H' → ∃ r', R' r' H' ∧ AVle r r') : ACallX P f xs H R' X :=
  ⟨h.ent, fun w φ I vs hd hR hV => (h.run w φ I vs hd hR hV).mono fun _ _ h => by
    rcases h with ⟨r, H', φ', I', v, h1, h2, h3, h4⟩ | h
    · obtain ⟨r', hr', hd'⟩ := hr _ _ h1
      exact .inl ⟨r', H', φ', I', v, hr', h2, hd' _ _ _ _ h3, h4⟩
    · exact .inr h⟩
def RT (s : List UInt8) (f i : Nat) (r : AV) (H' : Heap) : Prop := ∃ t j, pT s f i = some (t, j) ∧ r = tmV t ∧ H' = rdH s j
def XT (s : List UInt8) (f i : Nat) (r : AV) (H' : Heap) : Prop := pT s f i = none ∧ r = misV ∧ H' = rdT
def RA (s : List UInt8) (f i : Nat) (r : AV) (H' : Heap) : Prop := ∃ l j, pA s f i = some (l, j) ∧ r = .im (.sl 3 (tmR l)) ∧ H' = rdH s j
def XA (s : List UInt8) (f i : Nat) (r : AV) (H' : Heap) : Prop := pA s f i = none ∧ r = misV ∧ H' = rdT
theorem pR_succ (s : List UInt8) (f i : Nat) : pR s (f + 1) i = if atB s i [44, 32] then
      match pT s f (i + 2) with
      | none => none
      | some (t, j) => match pR s f j with
        | none => none
        | some (l, k) => some (t :: l, k)
    else if atB s i [41] then some ([], i + 1) else none := by rw [pR]; rfl
def preA (a : List Tm) : Option (List Tm × Nat) → Option (List Tm × Nat)
  | none => none
  | some (l, k) => some (a ++ l, k)
theorem rlist_walk (s : List UInt8) (hs : s.length ≤ 1000000) (f i : Nat) (hi : i ≤ s.length) (hf : s.length < f + i)
    (ih : ∀ f' i', f' ≤ f → i' ≤ s.length → s.length < f' + i' → ACallX Tryz.prog 159 [.ob 0 0] (rdH s i') (RT s f' i') (XT s f' i')) :
    ACallX Tryz.prog 158 [.ob 0 0] (rdH s i) (RA s f i) (XA s f i) := by
  refine ACallX.told (R := fun r H' => ∃ l j, pA s f i = some (l, j) ∧ (r = .im (.sl 3 (tmR l)) ∨ l = [] ∧ r = nilV) ∧ H' = rdH s j) ?_ (fun r H' ⟨l, j, h1, h2, h3⟩ => ⟨_, ⟨l, j, h1, rfl, h3⟩, by
    rcases h2 with rfl | ⟨rfl, rfl⟩
    · exact AVle.refl _
    · exact fun w φ I u h => nil_told 3 w φ I u h⟩)
  have hA : pA s f i = _ := pA.eq_def s f i
  have he := eat_spec s [40] i hi hs (by simp)
  refine ACallX.walk [0, 2, 3, 6, 11, 19] [3, 9] Tryz.func158 rfl Tryz.ntmps158 (by kernel_rfl) (by rfl) rfl fun W own I0 φ0 lay => ?_
  refine gO ?_
  refine AQ.callH [(0, 0)] (by kernel_rfl) rfl rfl rfl rfl rfl rfl (by exact ⟨rfl, trivial⟩) rfl (he) ?_; rintro r H1 ⟨rfl, rfl⟩; refine ⟨rfl, ?_⟩; refine sH ?_
  refine gO ?_
  refine AP.cond rfl rfl (fun h => ?_) (fun h => ?_)
  · have h : atB s i [40] = false := by simpa using h
    rw [h, if_neg (by decide)] at hA
    rw [h, if_neg (by decide)]
    refine gO ?_
    exact AE.ret rfl ⟨rfl, trivial⟩ ⟨[], i, hA, .inr ⟨rfl, rfl⟩, rfl⟩
  have h : atB s i [40] = true := by simpa using h
  have hle := atB_le h hi
  simp only [List.length_cons, List.length_nil] at hle
  rw [if_pos h] at hA
  rw [if_pos h]
  have it := ih f (i + 1) (Nat.le_refl _) (by omega) (by omega)
  refine gO ?_
  refine AQ.callHX [(0, 0)] (by kernel_rfl) rfl rfl rfl rfl rfl rfl (by exact ⟨rfl, trivial⟩) rfl (it) ?_ ?_
  · rintro r H' ⟨hp, rfl, rfl⟩
    rw [hp] at hA
    refine ⟨rfl, ?_⟩; refine sH ?_
    exact AEX.out [] rfl rfl ⟨hA, rfl, rfl⟩
  · rintro r H' ⟨t, j, hp, rfl, rfl⟩
    have hpx := pT_tx hp
    rw [hp] at hA
    simp only at hA
    refine ⟨rfl, ?_⟩; refine sH ?_
    refine AQ.go (by kernel_rfl) ?_
    refine sI ?_
    refine gO ?_
    have hA0 : pA s f i = preA [t] (pR s f j) := by rw [hA]; cases pR s f j <;> rfl
    refine AP.loop rfl (α := List Tm × Nat × Nat) (fun z => [(0, .ob 0 0), (3, .os 1 3 0 z.1.length)]) (fun z => (1, .vec 71 3 (tmR z.1)) :: rdH s z.2.1) (fun z => z.1.length ≤ z.2.1 ∧ z.2.1 ≤ s.length ∧ s.length < z.2.2 + z.2.1 ∧ z.2.2 ≤ f ∧ pA s f i = preA z.1 (pR s z.2.2 z.2.1)) (fun z => s.length - z.2.1) ([t], j, f) ⟨by simp only [List.length_singleton]; omega, hpx.2.2, by simp only; omega, Nat.le_refl _, hA0⟩ (sU) (by simp only [tmR, tmC_eq]; rfl) fun ⟨a, j, g⟩ ⟨z1, z2, z3, z4, z5⟩ => ?_
    simp only at z1 z2 z3 z4 z5 ⊢
    clear hA hA0 hpx hp it he hle
    obtain ⟨g, rfl⟩ : ∃ q, g = q + 1 := ⟨g - 1, by omega⟩
    rw [pR_succ] at z5
    have he := eat_spec s [44, 32] j z2 hs (by simp)
    refine gO ?_
    refine AQ.callH [(0, 0)] (by kernel_rfl) rfl rfl rfl rfl rfl rfl (by exact ⟨rfl, trivial⟩) rfl (he) ?_; rintro r H1 ⟨rfl, rfl⟩; refine ⟨rfl, ?_⟩; refine sH ?_
    refine gO ?_
    refine AP.cond rfl rfl (fun h2 => ?_) (fun h2 => ?_)
    · have h2 : atB s j [44, 32] = true := by simpa using h2
      have hle := atB_le h2 z2
      simp only [List.length_cons, List.length_nil] at hle
      have it := ih g (j + 2) (by omega) (by omega) (by omega)
      rw [if_pos h2] at z5
      rw [if_pos h2]
      refine gO ?_
      refine AQ.callHX [(0, 0)] (by kernel_rfl) rfl rfl rfl rfl rfl rfl (by exact ⟨rfl, trivial⟩) rfl (it) ?_ ?_
      · rintro r H' ⟨hp, rfl, rfl⟩
        rw [hp] at z5
        refine ⟨rfl, ?_⟩; refine sH ?_
        exact AEX.out [1] rfl rfl ⟨z5, rfl, rfl⟩
      · rintro r H' ⟨u, k, hp, rfl, rfl⟩
        have hpx := pT_tx hp
        rw [hp] at z5
        refine ⟨rfl, ?_⟩; refine sH ?_
        refine AQ.go (by kernel_rfl) ?_
        refine sI ?_
        refine gO ?_
        refine AQ.append (hnb := rfl) (rows := tmR a) (es := 2) (by kernel_rfl) rfl rfl rfl (by rfl) Tryz.tk69 Tryz.sz71 (by show Option.map _ (zro Tryz.prog 71) = _; rw [Tryz.zr71]; rfl) Tryz.by71 (by first | rfl | (simp only [tmR_len, List.length_cons, List.length_nil]; done) | (simp only [tmR_len, List.length_cons, List.length_nil]; omega)) (by simp only [tmR_len, List.length_cons, List.length_nil]; omega) (by simp only [tmR_len, List.length_cons, List.length_nil]; omega) ?_
        refine sE @tmR_len ?_
        refine gO ?_
        refine AE.round (a ++ [u], k, g) ⟨by simp only [List.length_append, List.length_singleton]; omega, hpx.2.2, by simp only; omega, by simp only; omega, ?_⟩ (by simp only; omega) (by simp only [List.length_append, List.length_singleton]; exact (sU)) (by simp only [tmR_add]; rfl)
        simp only at z5 ⊢
        rw [z5]
        cases hq : pR s g k with
        | none => rfl
        | some x => simp [preA]
    · have h2 : ¬ atB s j [44, 32] = true := by simpa using h2
      rw [if_neg h2] at z5
      rw [if_neg h2]
      have hec := eat_spec s [41] j z2 hs (by simp)
      refine gO ?_
      refine AQ.callH [(0, 0)] (by kernel_rfl) rfl rfl rfl rfl rfl rfl (by exact ⟨rfl, trivial⟩) rfl (hec) ?_; rintro r H1 ⟨rfl, rfl⟩; refine ⟨rfl, ?_⟩; refine sH ?_
      refine gO ?_
      refine AP.cond rfl rfl (fun h3 => ?_) (fun h3 => ?_)
      · have h3 : ¬ atB s j [41] = true := by simpa using h3
        rw [if_neg h3] at z5
        rw [if_neg h3]
        refine gO ?_; refine xI ?_; refine sI ?_; refine gO ?_; refine AQ.cellsW 0 _ rfl (le_tops _ _) ?_; refine sI ?_; refine AQ.panic rfl ?_
        exact AEX.out [1] rfl rfl ⟨z5, rfl, rfl⟩
      · have h3 : atB s j [41] = true := by simpa using h3
        rw [if_pos h3] at z5
        rw [if_pos h3]
        refine gO ?_
        refine AE.freeze 1 (el := 71) (es := 3) (rows := tmR a) rfl (by simp only [go_sem, Nat.reduceAdd, Nat.reduceLeDiff, Nat.reduceSub, Int.reduceToNat, reduceCtorEq, tmR_len]; first | done | trivial | omega | (simp; done) | (simp; omega)) (by simp only [go_sem, Nat.reduceAdd, Nat.reduceLeDiff, Nat.reduceSub, Int.reduceToNat, reduceCtorEq, tmR_len]; first | done | trivial | omega | (simp; done) | (simp; omega)) ?_; simp only [go_sem, Nat.reduceAdd, Nat.reduceLeDiff, Nat.reduceSub, Int.reduceToNat, reduceCtorEq, tmR_len]
        rw [List.take_of_length_le (by rw [tmR_len]; exact Nat.le_refl _)]
        exact AE.ret rfl ⟨rfl, trivial⟩ ⟨a, j + 1, by rw [z5]; simp [preA], .inl rfl, rfl⟩
end Go.Proofs.YtpfohmboflcneaaGreatDoor
end

section
namespace Go.Proofs.YtpfohmboflcneaaGreatDoor
open Go Go.AL Go.RowKit
set_option maxRecDepth 10000
set_option maxHeartbeats 4000000
theorem pu_ok : ∀ (l : List UInt8) (acc k : Nat), acc < 10 ^ k → l.length + k ≤ 18 → (∀ c ∈ l, isDig c = true) → Lib.parseUint10 acc l = .ok (l.foldl (fun n c => 10 * n + (c.toNat - 48)) acc)
  | [], acc, k, _, _, _ => rfl
  | c :: r, acc, k, ha, hl, hd => by
    have hc := hd c (List.mem_cons_self ..)
    rw [isDig, Bool.and_eq_true, decide_eq_true_iff, decide_eq_true_iff] at hc
    have hk : 10 ^ k ≤ 10 ^ 17 := Nat.pow_le_pow_right (by decide) (by simp only [List.length_cons] at hl; omega)
    have hn : acc * 10 + (c.toNat - 48) < 10 ^ (k + 1) := by rw [Nat.pow_succ]; omega
    have h17 : (10 : Nat) ^ 17 = 100000000000000000 := by decide
    rw [Lib.parseUint10, if_pos hc, if_neg (by omega), if_neg (by omega), pu_ok r _ (k + 1) hn (by simp only [List.length_cons] at hl; omega) (fun x hx => hd x (List.mem_cons_of_mem _ hx)), List.foldl_cons, Nat.mul_comm acc 10]
theorem atoi_dig {d : List UInt8} (hd : ∀ c ∈ d, isDig c = true) (h0 : d ≠ []) (hl : d.length ≤ 18) : atoiV d = ((digs d : Int), true) := by
  have hp := pu_ok d 0 0 (by decide) (by omega) hd
  have hlt : digs d < 10 ^ 18 := by
    have : ∀ (l : List UInt8) (acc k : Nat), acc < 10 ^ k → (∀ c ∈ l, isDig c = true) → l.foldl (fun n c => 10 * n + (c.toNat - 48)) acc < 10 ^ (k + l.length) := by
      intro l
      induction l with
      | nil => intro acc k h _; exact h
      | cons c r ih =>
        intro acc k h hd
        have hc := hd c (List.mem_cons_self ..)
        rw [isDig, Bool.and_eq_true, decide_eq_true_iff, decide_eq_true_iff] at hc
        have := ih (10 * acc + (c.toNat - 48)) (k + 1) (by rw [Nat.pow_succ]; omega) fun x hx => hd x (List.mem_cons_of_mem _ hx)
        rw [List.foldl_cons, List.length_cons, show k + (r.length + 1) = k + 1 + r.length by omega]
        exact this
    have h1 := this d 0 0 (by decide) hd
    rw [Nat.zero_add] at h1
    exact Nat.lt_of_lt_of_le h1 (Nat.pow_le_pow_right (by decide) hl)
  have h18 : (10 : Nat) ^ 18 = 1000000000000000000 := by decide
  cases d with
  | nil => exact absurd rfl h0
  | cons c r =>
    have hc := hd c (List.mem_cons_self ..)
    rw [isDig, Bool.and_eq_true, decide_eq_true_iff, decide_eq_true_iff] at hc
    have h43 : ¬ (c.toNat = 43 ∨ c.toNat = 45) := by omega
    have h45 : ¬ c.toNat = 45 := by omega
    have hA : Lib.atoiAll (c :: r) = .ok ((digs (c :: r) : Nat) : Int) := by
      rw [Lib.atoiAll]
      simp only [if_neg h43, Lib.parseMag, if_neg (List.cons_ne_nil c r)]
      rw [hp]
      simp only
      rw [if_neg, if_neg, if_neg h45]
      · rfl
      · exact fun h => h45 h.1
      · rintro ⟨_, h⟩
        have : digs (c :: r) < 1000000000000000000 := by omega
        unfold digs at this
        omega
    rw [atoiV, hA]
def nrB (d : List UInt8) : Bool := (atoiV d).2 && !decide (9 < d.length) && (Lib.itoa (atoiV d).1 == d)
theorem nrB_ok {d : List UInt8} (hd : ∀ c ∈ d, isDig c = true) : nrB d = numOk d ∧ (numOk d = true → (atoiV d).1 = (digs d : Int)) := by
  rcases Decidable.em (d = []) with rfl | h0
  · have : atoiV [] = (0, false) := rfl
    refine ⟨by rw [nrB, this]; rfl, fun h => ?_⟩
    exact absurd h (by decide)
  · have hpos : 1 ≤ d.length := by cases d with | nil => exact absurd rfl h0 | cons c r => simp
    by_cases h9 : 9 < d.length
    · rw [nrB, numOk, decide_eq_true h9, decide_eq_false (by omega : ¬ d.length ≤ 9)]
      simp
    · have ha := atoi_dig hd h0 (by omega)
      have hi : Lib.itoa (digs d : Int) = Lib.decDigits (digs d) := by rw [Lib.itoa, if_neg (by omega)]; rfl
      refine ⟨?_, fun _ => by rw [ha]⟩
      rw [nrB, ha, numOk, decide_eq_false h9, decide_eq_true hpos, decide_eq_true (by omega : d.length ≤ 9)]
      simp only [Bool.true_and, Bool.not_false, hi]
      rw [Bool.eq_iff_iff, beq_iff_eq, Bool.or_eq_true, decide_eq_true_iff, decide_eq_true_iff]
      obtain ⟨_, _, _, _, h5, h6⟩ := dec_facts (digs d)
      constructor
      · intro h
        rw [h] at h5 h6
        by_cases h1 : d.length = 1
        · exact .inl h1
        · exact .inr (h5 (h6 (by omega)))
      · intro h
        obtain ⟨n, hn⟩ : ∃ n, d.length = n + 1 := ⟨d.length - 1, by omega⟩
        exact (dec_uniq n d hn hd (fun h1 => by
          rcases h with h | h
          · omega
          · exact h)).1
theorem dgN_dig : ∀ l : List UInt8, ∀ c ∈ l.take (dgN l), isDig c = true
  | [], c, h => by simp at h
  | x :: l, c, h => by
    rw [dgN] at h
    by_cases hx : isDig x = true
    · rw [if_pos hx, Nat.add_comm, List.take_succ_cons] at h
      rcases List.mem_cons.1 h with rfl | h
      · exact hx
      · exact dgN_dig l c h
    · rw [if_neg hx] at h; simp at h
theorem dgN_drop {s : List UInt8} {k : Nat} (h : k < s.length) : dgN (s.drop k) = if isDig (s.getD k 0) then 1 + dgN (s.drop (k + 1)) else 0 := by
  rw [getD_drop0 h, dgN]
end Go.Proofs.YtpfohmboflcneaaGreatDoor
end

section
namespace Go.Proofs.YtpfohmboflcneaaGreatDoor
open Go Go.AL Go.RowKit
set_option maxRecDepth 10000
set_option maxHeartbeats 4000000
theorem rterm_walk (s : List UInt8) (hs : s.length ≤ 1000000) (f i : Nat) (hi : i ≤ s.length)
    (hl : ∀ i', i < i' → i' ≤ s.length → ACallX Tryz.prog 158 [.ob 0 0] (rdH s i') (RA s f i') (XA s f i')) :
    ACallX Tryz.prog 159 [.ob 0 0] (rdH s i) (RT s (f + 1) i) (XT s (f + 1) i) := by
  refine ACallX.told (R := fun r H' => ∃ t j, pT s (f + 1) i = some (t, j) ∧ (r = tmV t ∨ t.xs = [] ∧ r = .agg [Sv t.nm, Iv t.ix, nilV]) ∧ H' = rdH s j) ?_ (fun r H' ⟨t, j, h1, h2, h3⟩ => ⟨_, ⟨t, j, h1, rfl, h3⟩, by
    rcases h2 with rfl | ⟨hx, rfl⟩
    · exact AVle.refl _
    · rw [tmV, hx, tmR]; exact (by repeat' (first | with_reducible exact AVle.refl _ | with_reducible exact IVle.refl _ | exact IVle.nil _ | with_reducible exact cellsLe.refl _ | with_reducible exact rowLe.refl _ | with_reducible exact rowsLe.refl _ | refine cellsLe.cons2 ?_ ?_ | refine AVle.agg ?_ | refine AVle.im ?_ | refine IVle.sl ?_ | refine rowsLe.cons ?_ ?_ | refine rowLe.cons ?_ ?_))⟩)
  have hT := pT_succ s f i
  have he := eat_spec s [63] i hi hs (by simp)
  refine ACallX.walk [0, 2, 3, 4, 5, 6, 7, 10, 54, 89] [2] Tryz.func159 rfl Tryz.ntmps159 (by kernel_rfl) (by rfl) rfl fun W own I0 φ0 lay => ?_
  refine gO ?_
  refine AQ.callH [(0, 0)] (by kernel_rfl) rfl rfl rfl rfl rfl rfl (by exact ⟨rfl, trivial⟩) rfl (he) ?_; rintro r H1 ⟨rfl, rfl⟩; refine ⟨rfl, ?_⟩; refine sH ?_
  refine gO ?_
  refine AP.cond rfl rfl (fun h => ?_) (fun h => ?_)
  · have h : atB s i [63] = false := by simpa using h
    rw [h, if_neg (by decide)] at hT
    rw [h, if_neg (by decide)]
    have hn := name_spec s i hi hs
    refine gO ?_
    refine AQ.callHX [(0, 0)] (by kernel_rfl) rfl rfl rfl rfl rfl rfl (by exact ⟨rfl, trivial⟩) rfl (hn) ?_ ?_
    · rintro r H' ⟨hp, rfl, rfl⟩
      rw [if_pos hp] at hT
      refine ⟨rfl, ?_⟩; refine sH ?_
      exact AEX.out [1] rfl rfl ⟨hT, rfl, rfl⟩
    · rintro r H' ⟨hp, rfl, rfl⟩
      rw [if_neg hp] at hT
      have hnl := nmN_le true (s.drop i)
      rw [List.length_drop] at hnl
      have hli := hl (i + nmN true (s.drop i)) (by omega) (by omega)
      refine ⟨rfl, ?_⟩; refine sH ?_
      refine AQ.go (by kernel_rfl) ?_
      refine sI ?_
      refine gO ?_
      refine AQ.callHX [(0, 0)] (by kernel_rfl) rfl rfl rfl rfl rfl rfl (by exact ⟨rfl, trivial⟩) rfl (hli) ?_ ?_
      · rintro r H' ⟨hp, rfl, rfl⟩
        rw [hp] at hT
        refine ⟨rfl, ?_⟩; refine sH ?_
        exact AEX.out [1] rfl rfl ⟨hT, rfl, rfl⟩
      · rintro r H' ⟨l, k, hp, rfl, rfl⟩
        rw [hp] at hT
        refine ⟨rfl, ?_⟩; refine sH ?_
        refine AQ.go (by kernel_rfl) ?_
        refine sI ?_
        refine gO ?_
        exact AE.retD [1] rfl ⟨⟨rfl, Nat.le_of_ble_eq_true (by kernel_rfl)⟩, trivial⟩ rfl ⟨_, k, hT, .inl rfl, rfl⟩
  · have h : atB s i [63] = true := by simpa using h
    have hle := atB_le h hi
    simp only [List.length_cons, List.length_nil] at hle
    rw [if_pos h] at hT
    rw [if_pos h]
    refine gO ?_
    refine AP.loop rfl (α := Nat) (fun k => [(0, .ob 0 0), (2, .ob 1 0), (4, Iv (i + 1 : Nat))]) (fun k => (1, .var 71 [Sv [], Iv 0, nilV]) :: rdH s (i + 1 + k)) (fun k => i + 1 + k ≤ s.length ∧ dgN (s.drop (i + 1)) = k + dgN (s.drop (i + 1 + k))) (fun k => s.length - (i + 1 + k)) 0 ⟨by omega, by simp⟩ (sU) rfl fun k ⟨hk, hm⟩ => ?_
    by_cases hlt : i + 1 + k < s.length
    · have hw := wr (x := ((i + 1 + k : Nat) : Int) + 1) (by omega)
      have hd : decide (((i + 1 + k : Nat) : Int) < (s.length : Int)) = true := decide_eq_true (by omega)
      rw [dgN_drop hlt] at hm
      refine gE @hd ?_
      refine AP.cond rfl rfl (fun h5 => ?_) (fun h5 => ?_)
      · have h5 : isDig (s.getD (i + 1 + k) 0) = true := by
          rw [isDig]; simp only [Bool.and_eq_true, decide_eq_true_eq] at h5 ⊢; omega
        rw [if_pos h5] at hm
        refine gE @hw ?_
        refine AE.round (k + 1) ⟨by omega, by rw [hm]; simp only [Nat.add_assoc]⟩ (by omega) (sU) rfl
      · have h5 : isDig (s.getD (i + 1 + k) 0) = false := by
          rw [isDig, ← Bool.not_eq_true]; intro hc; rw [← Bool.not_eq_true] at h5; apply h5
          simp only [Bool.and_eq_true, decide_eq_true_eq] at hc ⊢; omega
        rw [if_neg (by rw [h5]; decide)] at hm
        refine gO ?_
        have hm0 : dgN (s.drop (i + 1)) = k := hm
        have ek : i + 1 + k - (i + 1) = k := Nat.add_sub_cancel_left ..
        have hdg := dgN_dig (s.drop (i + 1))
        rw [hm0] at hdg
        have hV : pV s (i + 1) = _ := pV.eq_def s (i + 1)
        rw [hm0] at hV
        rw [ek]
        have hdl : ((s.drop (i + 1)).take k).length ≤ 1000000 := by rw [List.length_take, List.length_drop]; omega
        obtain ⟨d, hde⟩ : ∃ d, (s.drop (i + 1)).take k = d := ⟨_, rfl⟩
        rw [hde] at hdg hV hdl ⊢
        obtain ⟨hn1, hn2⟩ := nrB_ok hdg
        have hat := atoi_spec d (by omega)
        have hbd := atoiV_bounds d
        rw [nrB] at hn1
        obtain ⟨⟨n, ok⟩, hq⟩ : ∃ q, atoiV d = q := ⟨_, rfl⟩
        rw [hq] at hat hbd hn1 hn2
        simp only at hat hbd hn1 hn2
        have hit := itoa_spec n hbd
        cases ok with
        | false =>
          have hno : numOk d = false := by rw [← hn1]; rfl
          rw [hno, if_neg (by decide)] at hV
          refine AQ.fn (by kernel_rfl) rfl rfl rfl (hat) rfl ?_
          refine sI ?_
          repeat (first | refine xA ?_ | refine xB ?_ | refine xC ?_ | refine xE ?_ | refine xD ?_ | refine xK ?_ | refine xS ?_ | refine xM ?_ | refine xT ?_ | refine xF ?_ | ((first | refine xR ?_ | refine xW ?_ | refine vq_id ?_); simp only [go_sem, Nat.reduceAdd, Nat.reduceLeDiff, Nat.reduceSub, Int.reduceToNat, reduceCtorEq, erV]) | (refine ⟨by first | omega | (intros; simp_all; done) | (intros; simp_all; omega), ?_⟩; try simp only [go_sem, Nat.reduceAdd, Nat.reduceLeDiff, Nat.reduceSub, Int.reduceToNat, reduceCtorEq, erV]))
          refine xI ?_; refine sI ?_
          refine gO ?_
          refine AQ.cellsW 0 _ rfl (le_tops _ _) ?_
          refine sI ?_
          refine AQ.panic rfl ?_
          exact AEX.out [1] rfl rfl ⟨by rw [hT, hV], rfl, rfl⟩
        | true =>
          refine AQ.fn (by kernel_rfl) rfl rfl rfl (hat) rfl ?_
          refine sI ?_
          repeat (first | refine xA ?_ | refine xB ?_ | refine xC ?_ | refine xE ?_ | refine xD ?_ | refine xK ?_ | refine xS ?_ | refine xM ?_ | refine xT ?_ | refine xF ?_ | ((first | refine xR ?_ | refine xW ?_ | refine vq_id ?_); simp only [go_sem, Nat.reduceAdd, Nat.reduceLeDiff, Nat.reduceSub, Int.reduceToNat, reduceCtorEq, erV]) | (refine ⟨by first | omega | (intros; simp_all; done) | (intros; simp_all; omega), ?_⟩; try simp only [go_sem, Nat.reduceAdd, Nat.reduceLeDiff, Nat.reduceSub, Int.reduceToNat, reduceCtorEq, erV]))
          refine AQ.fn_g (by kernel_rfl) rfl rfl (fun h => by first | (simp [gs, AV.g]; done) | (simp [gs, AV.g, constAV]; done) | (simp [gs, AV.g, constAV, bw] at h ⊢; done) | (simp [gs, AV.g, constAV, bw] at h ⊢; exact h) | (simp [gs, AV.g, constAV, bw] at h ⊢; simp [h]; done) | (simp [bw] at h; done) | (simp [gs, AV.g, bw] at h ⊢; simp [h]; done) | (simp [gs, AV.g, bw] at h ⊢; exact h.1) | (simp [gs, AV.g]; rfl) | (simp [gs, AV.g, bw] at h ⊢; rfl) | (simp [gs, AV.g, bw] at h ⊢; simp [h]; rfl) | (simp [gs, AV.g, bw] at h ⊢; simp_all)) rfl (fun _ => hit) rfl ?_
          refine sI ?_
          refine gO ?_
          refine AP.cond rfl rfl (fun h6 => ?_) (fun h6 => ?_)
          · have hno : numOk d = false := by
              rw [← hn1]
              by_cases h7 : 9 < d.length
              · rw [decide_eq_true h7]; rfl
              · rw [decide_eq_false h7]
                have h8 : ¬ Lib.itoa n = d := fun e => by rw [e] at h6; simp at h6; omega
                rw [show (Lib.itoa n == d) = false by simpa using h8]; rfl
            rw [hno, if_neg (by decide)] at hV
            refine gO ?_
            refine xI ?_; refine sI ?_
            refine gO ?_
            refine AQ.cellsW 0 _ rfl (le_tops _ _) ?_
            refine sI ?_
            refine AQ.panic rfl ?_
            exact AEX.out [1] rfl rfl ⟨by rw [hT, hV], rfl, rfl⟩
          · have hyes : numOk d = true := by
              rw [← hn1]
              have h7 : ¬ 9 < d.length ∧ Lib.itoa n = d := by simp at h6; exact ⟨by omega, h6.2⟩
              rw [decide_eq_false h7.1, h7.2]; simp
            have hnn := hn2 hyes
            rw [hyes, if_pos rfl] at hV
            subst hnn
            refine gO ?_
            exact AE.retD [1] rfl ⟨⟨rfl, Nat.le_of_ble_eq_true (by kernel_rfl)⟩, trivial⟩ rfl ⟨_, _, by rw [hT, hV], .inr ⟨rfl, rfl⟩, rfl⟩
    · have hd : decide (((i + 1 + k : Nat) : Int) < (s.length : Int)) = false := decide_eq_false (by omega)
      have hm : dgN (s.drop (i + 1)) = k := by rw [hm, List.drop_eq_nil_of_le (by omega), dgN]; rfl
      refine gE @hd ?_
      have hm0 : dgN (s.drop (i + 1)) = k := hm
      have ek : i + 1 + k - (i + 1) = k := Nat.add_sub_cancel_left ..
      have hdg := dgN_dig (s.drop (i + 1))
      rw [hm0] at hdg
      have hV : pV s (i + 1) = _ := pV.eq_def s (i + 1)
      rw [hm0] at hV
      rw [ek]
      have hdl : ((s.drop (i + 1)).take k).length ≤ 1000000 := by rw [List.length_take, List.length_drop]; omega
      obtain ⟨d, hde⟩ : ∃ d, (s.drop (i + 1)).take k = d := ⟨_, rfl⟩
      rw [hde] at hdg hV hdl ⊢
      obtain ⟨hn1, hn2⟩ := nrB_ok hdg
      have hat := atoi_spec d (by omega)
      have hbd := atoiV_bounds d
      rw [nrB] at hn1
      obtain ⟨⟨n, ok⟩, hq⟩ : ∃ q, atoiV d = q := ⟨_, rfl⟩
      rw [hq] at hat hbd hn1 hn2
      simp only at hat hbd hn1 hn2
      have hit := itoa_spec n hbd
      cases ok with
      | false =>
        have hno : numOk d = false := by rw [← hn1]; rfl
        rw [hno, if_neg (by decide)] at hV
        refine AQ.fn (by kernel_rfl) rfl rfl rfl (hat) rfl ?_
        refine sI ?_
        repeat (first | refine xA ?_ | refine xB ?_ | refine xC ?_ | refine xE ?_ | refine xD ?_ | refine xK ?_ | refine xS ?_ | refine xM ?_ | refine xT ?_ | refine xF ?_ | ((first | refine xR ?_ | refine xW ?_ | refine vq_id ?_); simp only [go_sem, Nat.reduceAdd, Nat.reduceLeDiff, Nat.reduceSub, Int.reduceToNat, reduceCtorEq, erV]) | (refine ⟨by first | omega | (intros; simp_all; done) | (intros; simp_all; omega), ?_⟩; try simp only [go_sem, Nat.reduceAdd, Nat.reduceLeDiff, Nat.reduceSub, Int.reduceToNat, reduceCtorEq, erV]))
        refine xI ?_; refine sI ?_
        refine gO ?_
        refine AQ.cellsW 0 _ rfl (le_tops _ _) ?_
        refine sI ?_
        refine AQ.panic rfl ?_
        exact AEX.out [1] rfl rfl ⟨by rw [hT, hV], rfl, rfl⟩
      | true =>
        refine AQ.fn (by kernel_rfl) rfl rfl rfl (hat) rfl ?_
        refine sI ?_
        repeat (first | refine xA ?_ | refine xB ?_ | refine xC ?_ | refine xE ?_ | refine xD ?_ | refine xK ?_ | refine xS ?_ | refine xM ?_ | refine xT ?_ | refine xF ?_ | ((first | refine xR ?_ | refine xW ?_ | refine vq_id ?_); simp only [go_sem, Nat.reduceAdd, Nat.reduceLeDiff, Nat.reduceSub, Int.reduceToNat, reduceCtorEq, erV]) | (refine ⟨by first | omega | (intros; simp_all; done) | (intros; simp_all; omega), ?_⟩; try simp only [go_sem, Nat.reduceAdd, Nat.reduceLeDiff, Nat.reduceSub, Int.reduceToNat, reduceCtorEq, erV]))
        refine AQ.fn_g (by kernel_rfl) rfl rfl (fun h => by first | (simp [gs, AV.g]; done) | (simp [gs, AV.g, constAV]; done) | (simp [gs, AV.g, constAV, bw] at h ⊢; done) | (simp [gs, AV.g, constAV, bw] at h ⊢; exact h) | (simp [gs, AV.g, constAV, bw] at h ⊢; simp [h]; done) | (simp [bw] at h; done) | (simp [gs, AV.g, bw] at h ⊢; simp [h]; done) | (simp [gs, AV.g, bw] at h ⊢; exact h.1) | (simp [gs, AV.g]; rfl) | (simp [gs, AV.g, bw] at h ⊢; rfl) | (simp [gs, AV.g, bw] at h ⊢; simp [h]; rfl) | (simp [gs, AV.g, bw] at h ⊢; simp_all)) rfl (fun _ => hit) rfl ?_
        refine sI ?_
        refine gO ?_
        refine AP.cond rfl rfl (fun h6 => ?_) (fun h6 => ?_)
        · have hno : numOk d = false := by
            rw [← hn1]
            by_cases h7 : 9 < d.length
            · rw [decide_eq_true h7]; rfl
            · rw [decide_eq_false h7]
              have h8 : ¬ Lib.itoa n = d := fun e => by rw [e] at h6; simp at h6; omega
              rw [show (Lib.itoa n == d) = false by simpa using h8]; rfl
          rw [hno, if_neg (by decide)] at hV
          refine gO ?_
          refine xI ?_; refine sI ?_
          refine gO ?_
          refine AQ.cellsW 0 _ rfl (le_tops _ _) ?_
          refine sI ?_
          refine AQ.panic rfl ?_
          exact AEX.out [1] rfl rfl ⟨by rw [hT, hV], rfl, rfl⟩
        · have hyes : numOk d = true := by
            rw [← hn1]
            have h7 : ¬ 9 < d.length ∧ Lib.itoa n = d := by simp at h6; exact ⟨by omega, h6.2⟩
            rw [decide_eq_false h7.1, h7.2]; simp
          have hnn := hn2 hyes
          rw [hyes, if_pos rfl] at hV
          subst hnn
          refine gO ?_
          exact AE.retD [1] rfl ⟨⟨rfl, Nat.le_of_ble_eq_true (by kernel_rfl)⟩, trivial⟩ rfl ⟨_, _, by rw [hT, hV], .inr ⟨rfl, rfl⟩, rfl⟩
end Go.Proofs.YtpfohmboflcneaaGreatDoor
end

section
namespace Go.Proofs.YtpfohmboflcneaaGreatDoor
open Go Go.AL Go.RowKit
set_option maxRecDepth 10000
set_option maxHeartbeats 4000000
theorem rterm_spec (s : List UInt8) (hs : s.length ≤ 1000000) : ∀ (f i : Nat), i ≤ s.length → s.length < f + i → ACallX Tryz.prog 159 [.ob 0 0] (rdH s i) (RT s f i) (XT s f i)
  | 0, i, hi, hf => by omega
  | f + 1, i, hi, hf => rterm_walk s hs f i hi fun i' h1 h2 => rlist_walk s hs f i' h2 (by omega) fun f' i'' h3 h4 h5 => rterm_spec s hs f' i'' h4 h5
termination_by f => f
decreasing_by omega
theorem rlist_spec (s : List UInt8) (hs : s.length ≤ 1000000) (f i : Nat) (hi : i ≤ s.length) (hf : s.length < f + i) : ACallX Tryz.prog 158 [.ob 0 0] (rdH s i) (RA s f i) (XA s f i) :=
  rlist_walk s hs f i hi hf fun f' i' _ h4 h5 => rterm_spec s hs f' i' h4 h5
def RL (s : List UInt8) (i : Nat) (r : AV) (H' : Heap) : Prop := ∃ l j, pL s i = some (l, j) ∧ r = ltV l ∧ H' = rdH s j
def XL (s : List UInt8) (i : Nat) (r : AV) (H' : Heap) : Prop := pL s i = none ∧ r = misV ∧ H' = rdT
theorem rlit_spec (s : List UInt8) (hs : s.length ≤ 1000000) (i : Nat) (hi : i ≤ s.length) : ACallX Tryz.prog 82 [.ob 0 0] (rdH s i) (RL s i) (XL s i) := by
  have hL : pL s i = _ := pL.eq_def s i
  have he := eat_spec s [126] i hi hs (by simp)
  refine ACallX.walk [0, 2, 3, 4, 6, 8, 19, 20, 21, 22, 28, 39] [2, 4, 6] Tryz.func82 rfl Tryz.ntmps82 (by kernel_rfl) (by rfl) rfl fun W own I0 φ0 lay => ?_
  refine gO ?_
  refine AQ.callH [(0, 0)] (by kernel_rfl) rfl rfl rfl rfl rfl rfl (by exact ⟨rfl, trivial⟩) rfl (he) ?_; rintro r H1 ⟨rfl, rfl⟩; refine ⟨rfl, ?_⟩; refine sH ?_
  refine gO ?_
  refine AP.cond rfl rfl (fun h => ?_) (fun h => ?_)
  · have h : atB s i [126] = true := by simpa using h
    have hle := atB_le h hi
    simp only [List.length_cons, List.length_nil] at hle
    rw [if_pos h] at hL
    rw [if_pos h]
    have hn := name_spec s (i + 1) (by omega) hs
    refine gO ?_
    refine AQ.callHX [(0, 0)] (by kernel_rfl) rfl rfl rfl rfl rfl rfl (by exact ⟨rfl, trivial⟩) rfl (hn) ?_ ?_
    · rintro r H' ⟨hp, rfl, rfl⟩
      rw [if_pos hp] at hL
      refine ⟨rfl, ?_⟩; refine sH ?_
      exact AEX.out [1] rfl rfl ⟨hL, rfl, rfl⟩
    · rintro r H' ⟨hp, rfl, rfl⟩
      rw [if_neg hp] at hL
      have hnl := nmN_le true (s.drop (i + 1))
      rw [List.length_drop] at hnl
      have hli := rlist_spec s hs (s.length + 1) (i + 1 + nmN true (s.drop (i + 1))) (by omega) (by omega)
      refine ⟨rfl, ?_⟩; refine sH ?_
      refine AQ.go (by kernel_rfl) ?_
      refine sI ?_
      refine gO ?_
      refine AQ.callHX [(0, 0)] (by kernel_rfl) rfl rfl rfl rfl rfl rfl (by exact ⟨rfl, trivial⟩) rfl (hli) ?_ ?_
      · rintro r H' ⟨hp, rfl, rfl⟩
        rw [hp] at hL
        refine ⟨rfl, ?_⟩; refine sH ?_
        exact AEX.out [1] rfl rfl ⟨hL, rfl, rfl⟩
      · rintro r H' ⟨l, k, hp, rfl, rfl⟩
        rw [hp] at hL
        refine ⟨rfl, ?_⟩; refine sH ?_
        refine AQ.go (by kernel_rfl) ?_
        refine sI ?_
        refine gO ?_
        exact AE.retD [1] rfl ⟨⟨rfl, Nat.le_of_ble_eq_true (by kernel_rfl)⟩, trivial⟩ rfl ⟨_, k, hL, rfl, rfl⟩
  · have h : atB s i [126] = false := by simpa using h
    rw [h, if_neg (by decide)] at hL
    rw [h, if_neg (by decide)]
    have ht := rterm_spec s hs (s.length + 1) i hi (by omega)
    refine gO ?_
    refine AQ.callHX [(0, 0)] (by kernel_rfl) rfl rfl rfl rfl rfl rfl (by exact ⟨rfl, trivial⟩) rfl (ht) ?_ ?_
    · rintro r H' ⟨hp, rfl, rfl⟩
      rw [hp] at hL
      refine ⟨rfl, ?_⟩; refine sH ?_
      exact AEX.out [1] rfl rfl ⟨hL, rfl, rfl⟩
    · rintro r H' ⟨t, j, hp, rfl, rfl⟩
      have hpx := pT_tx hp
      rw [hp] at hL
      simp only at hL
      refine ⟨rfl, ?_⟩; refine sH ?_
      refine AQ.go (by kernel_rfl) ?_
      refine sI ?_
      refine gO ?_
      have hr0 : ([[IV.v (Value.string (BA [32, 61, 32])), IV.v (Value.bool false)], [IV.v (Value.string (BA [32, 33, 61, 32])), IV.v (Value.bool true)]] : List (List IV)).getD 0 [] = [Si [32, 61, 32], Bi false] := rfl
      have hr1 : ([[IV.v (Value.string (BA [32, 61, 32])), IV.v (Value.bool false)], [IV.v (Value.string (BA [32, 33, 61, 32])), IV.v (Value.bool true)]] : List (List IV)).getD 1 [] = [Si [32, 33, 61, 32], Bi true] := rfl
      refine AP.loop rfl (α := Nat) (fun k => [(0, .ob 0 0), (2, .ob 1 0), (4, .ob 2 0), (19, .im (.sl 2 [[.v (.string (BA [32, 61, 32])), .v (.bool false)], [.v (.string (BA [32, 33, 61, 32])), .v (.bool true)]])), (20, Iv 2), (21, Iv k)]) (fun _ => (2, .var 71 [Sv t.nm, Iv t.ix, .im (.sl 3 (tmR t.xs))]) :: (1, .var 119 [Bv false, Sv [], nilV]) :: rdH s j) (fun k => k ≤ 2 ∧ (0 < k → atB s j [32, 61, 32] = false) ∧ (1 < k → atB s j [32, 33, 61, 32] = false)) (fun k => 2 - k) 0 ⟨by omega, by omega, by omega⟩ (sU) rfl fun k ⟨hk, k1, k2⟩ => ?_
      obtain rfl | rfl | rfl : k = 0 ∨ k = 1 ∨ k = 2 := by omega
      · have he := eat_spec s [32, 61, 32] j hpx.2.2 hs (by simp)
        refine gE (an @hr0 (an @List.length_cons.{0} @List.length_nil.{0})) ?_
        refine AQ.fix 3 rfl rfl ?_
        refine sI ?_
        refine AQ.callH [(0, 0)] (by kernel_rfl) rfl rfl rfl rfl rfl rfl (by exact ⟨rfl, trivial⟩) rfl (he) ?_; rintro r H1 ⟨rfl, rfl⟩; refine ⟨rfl, ?_⟩; refine sH ?_
        refine gO ?_
        refine AP.cond rfl rfl (fun h1 => ?_) (fun h1 => ?_)
        · have h1 : atB s j [32, 61, 32] = true := by simpa using h1
          have hle := atB_le h1 hpx.2.2
          simp only [List.length_cons, List.length_nil] at hle
          rw [if_pos h1] at hL
          rw [if_pos h1]
          have it := rterm_spec s hs (s.length + 1) (j + 3) (by omega) (by omega)
          refine gO ?_
          refine AP.drawE 8 (Tree.node [] [0, 1, 2, 3] [4] [Tree.node [0, 1, 2] [] [5] [Tree.node [0, 1] [6] [7] [Tree.node [] [] [] []]]]) (by kernel_rfl) rfl (by kernel_rfl) (by kernel_rfl) ?_
          refine vd_node ?_
          refine sI ?_
          refine AQ.callHX [(0, 0)] (by kernel_rfl) rfl rfl rfl rfl rfl rfl (by exact ⟨rfl, trivial⟩) rfl (it) ?_ ?_
          · rintro r H' ⟨hp2, rfl, rfl⟩
            rw [hp2] at hL
            refine ⟨rfl, ?_⟩; refine sH ?_
            exact AEX.outR [2, 1] rfl rfl rfl ⟨hL, rfl, rfl⟩
          · rintro r H' ⟨u, k, hp2, rfl, rfl⟩
            rw [hp2] at hL
            refine ⟨rfl, ?_⟩; refine sH ?_
            refine AQ.nx rfl ?_
            refine sI ?_
            refine AQ.go (by kernel_rfl) ?_
            refine sI ?_
            refine AQ.nx rfl ?_
            refine sI ?_
            refine AQ.go (by kernel_rfl) ?_
            refine sI ?_
            refine AQ.nx rfl ?_
            refine sI ?_
            refine AQ.done ?_
            refine gO ?_
            exact AE.retD [2, 1] rfl ⟨⟨rfl, Nat.le_of_ble_eq_true (by kernel_rfl)⟩, trivial⟩ rfl ⟨_, k, hL, by simp only [ltV, tmR, tmC_eq]; rfl, rfl⟩
        · have h1 : atB s j [32, 61, 32] = false := by simpa using h1
          rw [h1, if_neg (by decide)]
          refine gO ?_
          exact AE.round 1 ⟨by omega, by omega⟩ (by omega) (sU) rfl
      · have he := eat_spec s [32, 33, 61, 32] j hpx.2.2 hs (by simp)
        refine gE (an @hr1 (an @List.length_cons.{0} @List.length_nil.{0})) ?_
        refine AQ.fix 3 rfl rfl ?_
        refine sI ?_
        refine AQ.callH [(0, 0)] (by kernel_rfl) rfl rfl rfl rfl rfl rfl (by exact ⟨rfl, trivial⟩) rfl (he) ?_; rintro r H1 ⟨rfl, rfl⟩; refine ⟨rfl, ?_⟩; refine sH ?_
        refine gO ?_
        refine AP.cond rfl rfl (fun h1 => ?_) (fun h1 => ?_)
        · have h1 : atB s j [32, 33, 61, 32] = true := by simpa using h1
          have hle := atB_le h1 hpx.2.2
          simp only [List.length_cons, List.length_nil] at hle
          rw [if_neg (by rw [k1 (by omega)]; decide), if_pos h1] at hL
          rw [if_pos h1]
          have it := rterm_spec s hs (s.length + 1) (j + 4) (by omega) (by omega)
          refine gO ?_
          refine AP.drawE 8 (Tree.node [] [0, 1, 2, 3] [4] [Tree.node [0, 1, 2] [] [5] [Tree.node [0, 1] [6] [7] [Tree.node [] [] [] []]]]) (by kernel_rfl) rfl (by kernel_rfl) (by kernel_rfl) ?_
          refine vd_node ?_
          refine sI ?_
          refine AQ.callHX [(0, 0)] (by kernel_rfl) rfl rfl rfl rfl rfl rfl (by exact ⟨rfl, trivial⟩) rfl (it) ?_ ?_
          · rintro r H' ⟨hp2, rfl, rfl⟩
            rw [hp2] at hL
            refine ⟨rfl, ?_⟩; refine sH ?_
            exact AEX.outR [2, 1] rfl rfl rfl ⟨hL, rfl, rfl⟩
          · rintro r H' ⟨u, k, hp2, rfl, rfl⟩
            rw [hp2] at hL
            refine ⟨rfl, ?_⟩; refine sH ?_
            refine AQ.nx rfl ?_
            refine sI ?_
            refine AQ.go (by kernel_rfl) ?_
            refine sI ?_
            refine AQ.nx rfl ?_
            refine sI ?_
            refine AQ.go (by kernel_rfl) ?_
            refine sI ?_
            refine AQ.nx rfl ?_
            refine sI ?_
            refine AQ.done ?_
            refine gO ?_
            exact AE.retD [2, 1] rfl ⟨⟨rfl, Nat.le_of_ble_eq_true (by kernel_rfl)⟩, trivial⟩ rfl ⟨_, k, hL, by simp only [ltV, tmR, tmC_eq]; rfl, rfl⟩
        · have h1 : atB s j [32, 33, 61, 32] = false := by simpa using h1
          rw [h1, if_neg (by decide)]
          refine gO ?_
          exact AE.round 2 ⟨by omega, fun _ => k1 (by omega)⟩ (by omega) (sU) rfl
      · rw [if_neg (by rw [k1 (by omega)]; decide), if_neg (by rw [k2 (by omega)]; decide)] at hL
        refine gO ?_
        refine AP.cond rfl rfl (fun h3 => ?_) (fun h3 => ?_)
        · rw [if_pos (by simpa using h3)] at hL
          refine gO ?_; refine xI ?_; refine sI ?_; refine gO ?_; refine AQ.cellsW 0 _ rfl (le_tops _ _) ?_; refine sI ?_; refine AQ.panic rfl ?_
          exact AEX.out [2, 1] rfl rfl ⟨hL, rfl, rfl⟩
        · rw [if_neg (by simpa using h3)] at hL
          refine gO ?_
          exact AE.retD [2, 1] rfl ⟨⟨rfl, Nat.le_of_ble_eq_true (by kernel_rfl)⟩, trivial⟩ rfl ⟨_, j, hL, rfl, rfl⟩
end Go.Proofs.YtpfohmboflcneaaGreatDoor
end

section
namespace Go.Proofs.YtpfohmboflcneaaGreatDoor
open Go Go.AL Go.RowKit
set_option maxRecDepth 10000
set_option maxHeartbeats 4000000
abbrev paH (a : AV) (e : Int) : Heap := [(1, .var 30 [Iv e]), (0, .var 27 [a])]
theorem parse1_im (x : IV) (e : Int) : ADef Tryz.prog 81 [.ob 0 0, .ob 1 0] (paH (.im x) e) none (fun H' => H' = paH (.im x) e) := by
  refine ADef.walk [0, 1, 2, 3, 4, 7, 14] [3] Tryz.func81 rfl Tryz.ntmps81 ⟨rfl, rfl, rfl⟩ ⟨rfl, rfl, rfl⟩ rfl (by kernel_rfl) (by rfl) rfl fun W own I0 φ0 lay => ?_
  simp only [go_sem, Nat.reduceAdd, Nat.reduceLeDiff, Nat.reduceSub, Int.reduceToNat, reduceCtorEq, recAV]
  refine gO ?_
  exact AE.retQ [] (.inr rfl) rfl rfl trivial rfl rfl
theorem parse1_some (e : Int) : ADef Tryz.prog 81 [.ob 0 0, .ob 1 0] (paH .top e) (some misV) (fun H' => H' = paH (.im (.sl 3 [])) 2) := by
  refine ADef.walk [0, 1, 2, 3, 4, 7, 14] [3] Tryz.func81 rfl Tryz.ntmps81 ⟨rfl, rfl, rfl⟩ ⟨rfl, rfl, rfl⟩ rfl (by kernel_rfl) (by rfl) rfl fun W own I0 φ0 lay => ?_
  simp only [go_sem, Nat.reduceAdd, Nat.reduceLeDiff, Nat.reduceSub, Int.reduceToNat, reduceCtorEq, recAV]
  refine gO ?_
  refine AQ.assertYes (by kernel_rfl) rfl rfl ?_; refine sI ?_
  refine gO ?_
  refine AE.cellsW 0 [.im (.sl 3 [])] rfl (cellsLe.nil (cellsLe.refl _)) ?_
  refine sI ?_
  exact AE.retQ [2] (.inr rfl) rfl rfl trivial rfl rfl
def aftS (s : List UInt8) (g j : Nat) : Option (List Lt) := if atB s j [32, 124, 32] then pS s g (j + 3) else if j < s.length then none else some []
def preS (a : List Lt) : Option (List Lt) → Option (List Lt)
  | none => none
  | some l => some (a ++ l)
theorem pS_succ (s : List UInt8) (f i : Nat) : pS s (f + 1) i = match pL s i with
    | none => none
    | some (l, j) => preS [l] (aftS s f j) := by
  rw [pS]
  cases pL s i with
  | none => rfl
  | some x =>
    obtain ⟨l, j⟩ := x
    simp only [aftS]
    split
    · cases pS s f (j + 3) <;> rfl
    · split <;> rfl
def paE (s : List UInt8) : Int := if 40000 < s.length then 15 else match pC s with
  | none => 2
  | some c => ckC 4 9 2 3 c
def paR (s : List UInt8) : List Lt := if 40000 < s.length then [] else match pC s with
  | none => []
  | some c => if ckC 4 9 2 3 c ≠ 0 then [] else c
theorem AEX.cellsW {C : Cx} {r : AV} {K : List PK} {E : Env} {H : Heap} (b : Nat) (cs' : List AV) {s : Sh} {cs : List AV} (hl : lk H b = some (.var s cs)) (hc : cellsLe cs cs') (h : AEX C r K E (hset H b (.var s cs'))) : AEX C r K E H := by
  unfold AEX at h ⊢
  exact fun φ I a w v hs hd => h _ _ _ _ _ ⟨hs.dfr, hs.siz, hs.env, hs.st.cellsW hl hc⟩ hd
theorem le_top1 (a : AV) : cellsLe [a] [.top] := fun w φ I us h => by
  simp only [AV.dens, AV.den] at h ⊢
  obtain ⟨u1, us1, rfl, _, rfl⟩ := h
  exact ⟨_, _, rfl, trivial, rfl⟩
theorem parse_walk (s : List UInt8) (hs : s.length ≤ 1000000) (hcl : ∀ c, pC s = some c → clL c) : ACallX Tryz.prog 19 [Sv s] [] (fun r H' => H' = [] ∧ r = .tup [clV (paR s), Iv (paE s)]) (fun _ _ => False) := by
  have hE : paE s = _ := paE.eq_def s
  have hR : paR s = _ := paR.eq_def s
  refine ACallX.walkD [0, 2, 3, 4, 5, 8, 10, 11, 19, 31, 35] [2, 3, 4, 14, 17] Tryz.func19 rfl Tryz.ntmps19 (by kernel_rfl) (by rfl) rfl fun W own I0 φ0 lay => ?_
  refine gO ?_
  refine AP.cond rfl rfl (fun h => ?_) (fun h => ?_)
  · rw [if_pos (by simp at h; omega)] at hE hR
    refine gO ?_
    refine AE.cellsW 0 [.im (.sl 3 [])] rfl (cellsLe.nil (cellsLe.refl _)) ?_
    refine sI ?_
    exact AE.leaveN (.inl rfl) rfl <| LV.retD [1, 0] rfl ⟨⟨rfl, Nat.le_of_ble_eq_true (by kernel_rfl)⟩, ⟨rfl, Nat.le_of_ble_eq_true (by kernel_rfl)⟩, trivial⟩ rfl ⟨rfl, by rw [hE, hR]; rfl⟩
  rw [if_neg (by simp at h; omega)] at hE hR
  refine gO ?_
  refine AP.cond rfl rfl (fun h1 => ?_) (fun h1 => ?_)
  · have h1 : s = [91, 93] := by simpa using h1
    have hC : pC s = some [] := by rw [pC, if_pos h1]
    rw [hC] at hE hR
    have e0 : ckC 4 9 2 3 [] = 0 := by decide
    simp only [e0] at hE hR
    refine gO ?_
    refine AE.cellsW 0 [.im (.sl 3 [])] rfl (cellsLe.nil (cellsLe.refl _)) ?_
    refine sI ?_
    exact AE.leaveN (.inl rfl) rfl <| LV.retD [1, 0] rfl ⟨⟨rfl, Nat.le_of_ble_eq_true (by kernel_rfl)⟩, ⟨rfl, Nat.le_of_ble_eq_true (by kernel_rfl)⟩, trivial⟩ rfl ⟨rfl, by rw [hE, hR]; rfl⟩
  · have h1 : ¬ s = [91, 93] := by simpa using h1
    have hC : pC s = pS s (s.length + 1) 0 := by rw [pC, if_neg h1]
    rw [pS_succ] at hC
    refine sI ?_
    refine xA ?_
    refine AP.regionD rfl rfl ?_
    refine AQ.go1 (by kernel_rfl) rfl rfl ?_ ?_
    · simp only [go_sem]
      done
    refine sI ?_
    refine AQ.defer rfl rfl rfl fun u => ?_
    refine sI ?_
    refine gO ?_
    refine AQ.callHX [(0, 2)] (by kernel_rfl) rfl rfl rfl rfl rfl rfl (by exact ⟨rfl, trivial⟩) rfl (rlit_spec s hs 0 (by omega)) ?_ ?_
    · rintro r H' ⟨hp, rfl, rfl⟩
      rw [hp] at hC
      rw [hC] at hE hR
      simp only at hE hR
      refine ⟨rfl, ?_⟩; refine sH ?_
      refine AEX.cellsW 0 _ rfl (le_top1 _) ?_
      refine sI ?_
      refine AEX.leaveD [(1, 1), (0, 0)] (K' := [_]) (t := 11) (Hc := paH .top 0) rfl rfl rfl rfl rfl (by exact ⟨rfl, rfl, trivial⟩) rfl (parse1_some _) rfl ?_ rfl
      rintro H1 rfl
      refine ⟨rfl, ?_⟩
      refine sH ?_
      exact LV.retD [2, 1, 0] rfl ⟨⟨rfl, Nat.le_of_ble_eq_true (by kernel_rfl)⟩, ⟨rfl, Nat.le_of_ble_eq_true (by kernel_rfl)⟩, trivial⟩ rfl ⟨rfl, by rw [hE, hR]; rfl⟩
    · rintro r H' ⟨x, j, hp, rfl, rfl⟩
      rw [hp] at hC
      simp only at hC
      refine ⟨rfl, ?_⟩; refine sH ?_
      refine AQ.go (by kernel_rfl) ?_
      refine sI ?_
      refine gO ?_
      have hjx := pL_tx hp
      have hC0 : pC s = preS [x] (aftS s s.length j) := hC
      refine AP.loop rfl (α := List Lt × Nat × Nat) (fun z => [(0, Sv s), (2, .ob 0 0), (3, .ob 1 0), (4, .ob 2 0), (11, .wr (.exact u) (.fn 81 [] [.ob 0 0, .ob 1 0]))]) (fun z => [(3, .vec 119 3 (ltR z.1)), (2, .var 135 [Sv s, Iv z.2.1]), (1, .var 30 [Iv 0]), (0, .var 27 [.os 3 3 0 z.1.length])]) (fun z => z.1.length ≤ z.2.1 ∧ z.2.1 ≤ s.length ∧ s.length < z.2.2 + z.2.1 ∧ pC s = preS z.1 (aftS s z.2.2 z.2.1)) (fun z => s.length - z.2.1) ([x], j, s.length) ⟨by simp only [List.length_singleton]; omega, by simp only; omega, by simp only; omega, hC0⟩ (sU) rfl fun ⟨a, j, g⟩ ⟨z1, z2, z3, z4⟩ => ?_
      simp only at z1 z2 z3 z4 ⊢
      clear hC hC0 hjx hp
      have he := eat_spec s [32, 124, 32] j z2 hs (by simp)
      rw [aftS] at z4
      refine gO ?_
      refine AQ.callH [(0, 2)] (by kernel_rfl) rfl rfl rfl rfl rfl rfl (by exact ⟨rfl, trivial⟩) rfl he ?_
      rintro r H1 ⟨rfl, rfl⟩
      refine ⟨rfl, ?_⟩
      refine sH ?_
      refine gO ?_
      refine AP.cond rfl rfl (fun h2 => ?_) (fun h2 => ?_)
      · have h2 : atB s j [32, 124, 32] = true := by simpa using h2
        have hle := atB_le h2 z2
        simp only [List.length_cons, List.length_nil] at hle
        obtain ⟨g, rfl⟩ : ∃ q, g = q + 1 := ⟨g - 1, by omega⟩
        rw [if_pos h2, pS_succ] at z4
        rw [if_pos h2]
        refine gO ?_
        refine AP.drawE 6 (Tree.node [] [0, 1] [2] [Tree.node [0] [] [3] [Tree.node [0] [] [4] [Tree.node [] [] [5] [Tree.node [] [] [] []]]]]) (by kernel_rfl) rfl (by kernel_rfl) (by kernel_rfl) ?_
        refine vd_node ?_
        refine sI ?_
        refine AQ.callHX [(0, 2)] (by kernel_rfl) rfl rfl rfl rfl rfl rfl (by exact ⟨rfl, trivial⟩) rfl (rlit_spec s hs (j + 3) (by omega)) ?_ ?_
        · rintro r H' ⟨hp, rfl, rfl⟩
          rw [hp] at z4
          rw [z4] at hE hR
          simp only [preS] at hE hR
          refine ⟨rfl, ?_⟩; refine sH ?_
          refine AEX.draw [2, 3, 11] rfl (by kernel_rfl) ?_
          refine sI ?_
          refine AEX.cellsW 0 _ rfl (le_top1 _) ?_
          refine sI ?_
          refine AEX.leaveD [(1, 1), (0, 0)] (K' := [_, _, _, _]) (t := 11) (Hc := paH .top 0) rfl rfl rfl rfl rfl (by exact ⟨rfl, rfl, trivial⟩) rfl (parse1_some _) rfl ?_ rfl
          rintro H1 rfl
          refine ⟨rfl, ?_⟩
          refine sH ?_
          exact LV.retD [3, 2, 1, 0] rfl ⟨⟨rfl, Nat.le_of_ble_eq_true (by kernel_rfl)⟩, ⟨rfl, Nat.le_of_ble_eq_true (by kernel_rfl)⟩, trivial⟩ rfl ⟨rfl, by rw [hE, hR]; rfl⟩
        · rintro r H' ⟨y, k, hp, rfl, rfl⟩
          rw [hp] at z4
          simp only at z4
          have hjx := pL_tx hp
          refine ⟨rfl, ?_⟩; refine sH ?_
          refine AQ.nx rfl ?_
          refine sI ?_
          refine AQ.go (by kernel_rfl) ?_
          refine sI ?_
          refine AQ.nx rfl ?_
          refine sI ?_
          refine AQ.kill 3 ?_
          refine sI ?_
          refine AQ.append (hnb := rfl) (rows := ltR a) (es := 2) (by kernel_rfl) rfl rfl rfl (by rfl) Tryz.tk27 Tryz.sz119 (by show Option.map _ (zro Tryz.prog 119) = _; rw [Tryz.zr119]; rfl) Tryz.by119 (by first | rfl | (simp only [ltR_len, List.length_cons, List.length_nil]; done) | (simp only [ltR_len, List.length_cons, List.length_nil]; omega)) (by simp only [ltR_len, List.length_cons, List.length_nil]; omega) (by simp only [ltR_len, List.length_cons, List.length_nil]; omega) ?_
          refine sI ?_
          refine AQ.nx rfl ?_
          refine sI ?_
          refine AQ.go (by kernel_rfl) ?_
          refine sI ?_
          refine AQ.nx rfl ?_
          refine sI ?_
          refine AQ.done ?_
          refine gO ?_
          refine AE.round (a ++ [y], k, g) ⟨by simp only [List.length_append, List.length_singleton]; omega, by simp only; omega, by simp only; omega, ?_⟩ (by simp only; omega) (sU) ?_
          · simp only
            rw [z4]
            cases aftS s g k with
            | none => rfl
            | some q => simp [preS]
          · simp only [ltR_add, List.length_append, List.length_singleton, ltR_len]
      · have h2 : ¬ atB s j [32, 124, 32] = true := by simpa using h2
        rw [if_neg h2] at z4
        rw [if_neg h2]
        refine gO ?_
        refine AP.cond rfl rfl (fun h3 => ?_) (fun h3 => ?_)
        · rw [if_pos (by simp at h3; omega)] at z4
          rw [z4] at hE hR
          simp only [preS] at hE hR
          refine gO ?_
          refine AE.cellsW 0 [.im (.sl 3 [])] rfl (cellsLe.nil (cellsLe.refl _)) ?_
          refine sI ?_
          refine AE.leaveD [(1, 1), (0, 0)] (t := 11) (Hc := paH (.im (.sl 3 [])) 2) (.inl rfl) rfl rfl rfl rfl rfl (by exact ⟨rfl, rfl, trivial⟩) rfl (parse1_im _ _) ?_
          rintro H1 rfl
          refine ⟨rfl, ?_⟩
          refine sH ?_
          exact LV.retD [3, 2, 1, 0] rfl ⟨⟨rfl, Nat.le_of_ble_eq_true (by kernel_rfl)⟩, ⟨rfl, Nat.le_of_ble_eq_true (by kernel_rfl)⟩, trivial⟩ rfl ⟨rfl, by rw [hE, hR]; rfl⟩
        · rw [if_neg (by simp at h3; omega)] at z4
          rw [z4] at hE hR
          simp only [preS, List.append_nil] at hE hR z4
          have hca := hcl a z4
          refine gO ?_
          refine AQ.freeze 3 (el := 119) (es := 3) (rows := ltR a) rfl (by simp only [go_sem, Nat.reduceAdd, Nat.reduceLeDiff, Nat.reduceSub, Int.reduceToNat, reduceCtorEq, ltR_len]; first | done | trivial | omega | (simp; done) | (simp; omega)) (by simp only [go_sem, Nat.reduceAdd, Nat.reduceLeDiff, Nat.reduceSub, Int.reduceToNat, reduceCtorEq, ltR_len]; first | done | trivial | omega | (simp; done) | (simp; omega)) ?_; simp only [go_sem, Nat.reduceAdd, Nat.reduceLeDiff, Nat.reduceSub, Int.reduceToNat, reduceCtorEq, ltR_len]
          rw [List.take_of_length_le (by rw [ltR_len]; exact Nat.le_refl _)]
          refine AQ.fn (by kernel_rfl) rfl rfl rfl (check_spec a hca) rfl ?_
          refine sI ?_
          refine gO ?_
          refine AP.cond rfl rfl (fun h4 => ?_) (fun h4 => ?_)
          · have h4 : ckC 4 9 2 3 a ≠ 0 := by simpa using h4
            rw [if_pos h4] at hR
            refine gO ?_
            refine AE.cellsW 0 [.im (.sl 3 [])] rfl (cellsLe.nil (cellsLe.refl _)) ?_
            refine sI ?_
            refine AE.leaveD [(1, 1), (0, 0)] (t := 11) (Hc := paH (.im (.sl 3 [])) (ckC 4 9 2 3 a)) (.inl rfl) rfl rfl rfl rfl rfl (by exact ⟨rfl, rfl, trivial⟩) rfl (parse1_im _ _) ?_
            rintro H1 rfl
            refine ⟨rfl, ?_⟩
            refine sH ?_
            exact LV.retD [2, 1, 0] rfl ⟨⟨rfl, Nat.le_of_ble_eq_true (by kernel_rfl)⟩, ⟨rfl, Nat.le_of_ble_eq_true (by kernel_rfl)⟩, trivial⟩ rfl ⟨rfl, by rw [hE, hR]; rfl⟩
          · have h4 : ¬ ckC 4 9 2 3 a ≠ 0 := by simpa using h4
            have h5 : ckC 4 9 2 3 a = 0 := by simpa using h4
            rw [if_neg h4] at hR
            refine gO ?_
            refine AE.leaveD [(1, 1), (0, 0)] (t := 11) (Hc := paH (.im (.sl 3 (ltR a))) 0) (.inl rfl) rfl rfl rfl rfl rfl (by exact ⟨rfl, rfl, trivial⟩) rfl (parse1_im _ _) ?_
            rintro H1 rfl
            refine ⟨rfl, ?_⟩
            refine sH ?_
            exact LV.retD [2, 1, 0] rfl ⟨⟨rfl, Nat.le_of_ble_eq_true (by kernel_rfl)⟩, ⟨rfl, Nat.le_of_ble_eq_true (by kernel_rfl)⟩, trivial⟩ rfl ⟨rfl, by rw [hE, hR, h5]; rfl⟩
end Go.Proofs.YtpfohmboflcneaaGreatDoor
end

section
namespace Go.Proofs.YtpfohmboflcneaaGreatDoor
open Go Go.AL Go.RowKit
set_option maxRecDepth 10000
set_option maxHeartbeats 4000000
theorem take_le {l : List UInt8} {n i : Nat} {s : List UInt8} (h : l = s.drop i) (hs : s.length ≤ 1000000) : (l.take n).length ≤ 1000000000 := by
  rw [List.length_take, h, List.length_drop]; omega
theorem pTR_L (s : List UInt8) (hs : s.length ≤ 1000000) : ∀ f, (∀ i t j, pT s f i = some (t, j) → tmL t) ∧ (∀ i l j, pR s f i = some (l, j) → tmsL l ∧ l.length + i ≤ j)
  | 0 => ⟨fun i t j h => (by rw [pT] at h; cases h), fun i l j h => (by rw [pR] at h; cases h)⟩
  | f + 1 => by
    obtain ⟨ih1, ih2⟩ := pTR_L s hs f
    refine ⟨fun i t j h => ?_, fun i l j h => ?_⟩
    · rw [pT] at h
      split at h
      · rw [pV] at h
        split at h
        · cases h; rw [tmL, tmsL]; simp
        · cases h
      · split at h
        · cases h
        · split at h
          · cases hq : pT s f (i + nmN true (s.drop i) + 1) with
            | none => rw [hq] at h; cases h
            | some x =>
              obtain ⟨t1, j1⟩ := x
              rw [hq] at h
              simp only at h
              cases hr : pR s f j1 with
              | none => rw [hr] at h; cases h
              | some y =>
                obtain ⟨l1, k1⟩ := y
                rw [hr] at h
                cases h
                have h1 := ih1 _ _ _ hq
                have h2 := ih2 _ _ _ hr
                have h3 := pR_tx hr
                rw [tmL, tmsL]
                exact ⟨take_le rfl hs, by simp only [List.length_cons]; omega, h1, h2.1⟩
          · cases h
            rw [tmL, tmsL]
            exact ⟨take_le rfl hs, by simp, trivial⟩
    · rw [pR] at h
      split at h
      · cases hq : pT s f (i + 2) with
        | none => rw [hq] at h; cases h
        | some x =>
          obtain ⟨t1, j1⟩ := x
          rw [hq] at h
          simp only at h
          cases hr : pR s f j1 with
          | none => rw [hr] at h; cases h
          | some y =>
            obtain ⟨l1, k1⟩ := y
            rw [hr] at h
            cases h
            have h1 := ih1 _ _ _ hq
            have h2 := ih2 _ _ _ hr
            have h3 := pT_tx hq
            rw [tmsL]
            exact ⟨⟨h1, h2.1⟩, by simp only [List.length_cons]; omega⟩
      · split at h
        · cases h; rw [tmsL]; simp
        · cases h
theorem pA_L {s : List UInt8} (hs : s.length ≤ 1000000) {f i j : Nat} {l : List Tm} (h : pA s f i = some (l, j)) : tmsL l ∧ l.length ≤ 1000000000 := by
  rw [pA] at h
  split at h
  · cases hq : pT s f (i + 1) with
    | none => rw [hq] at h; cases h
    | some x =>
      obtain ⟨t1, j1⟩ := x
      rw [hq] at h
      simp only at h
      cases hr : pR s f j1 with
      | none => rw [hr] at h; cases h
      | some y =>
        obtain ⟨l1, k1⟩ := y
        rw [hr] at h
        cases h
        have h1 := (pTR_L s hs f).1 _ _ _ hq
        have h2 := (pTR_L s hs f).2 _ _ _ hr
        have h3 := pR_tx hr
        rw [tmsL]
        exact ⟨⟨h1, h2.1⟩, by simp only [List.length_cons]; omega⟩
  · cases h; rw [tmsL]; simp
theorem pL_L {s : List UInt8} (hs : s.length ≤ 1000000) {i j : Nat} {x : Lt} (h : pL s i = some (x, j)) : ltL x := by
  rw [pL] at h
  split at h
  · split at h
    · cases h
    · cases hq : pA s (s.length + 1) (i + 1 + nmN true (s.drop (i + 1))) with
      | none => rw [hq] at h; cases h
      | some y =>
        obtain ⟨l1, k1⟩ := y
        rw [hq] at h
        cases h
        have := pA_L hs hq
        exact ⟨take_le rfl hs, this.2, this.1⟩
  · cases hq : pT s (s.length + 1) i with
    | none => rw [hq] at h; cases h
    | some y =>
      obtain ⟨t1, k1⟩ := y
      rw [hq] at h
      simp only at h
      have h1 := (pTR_L s hs _).1 _ _ _ hq
      split at h
      · cases hr : pT s (s.length + 1) (k1 + 3) with
        | none => rw [hr] at h; cases h
        | some z =>
          obtain ⟨t2, k2⟩ := z
          rw [hr] at h
          cases h
          have h2 := (pTR_L s hs _).1 _ _ _ hr
          exact ⟨by simp, by simp, by rw [tmsL, tmsL, tmsL]; exact ⟨h1, h2, trivial⟩⟩
      · split at h
        · cases hr : pT s (s.length + 1) (k1 + 4) with
          | none => rw [hr] at h; cases h
          | some z =>
            obtain ⟨t2, k2⟩ := z
            rw [hr] at h
            cases h
            have h2 := (pTR_L s hs _).1 _ _ _ hr
            exact ⟨by simp, by simp, by rw [tmsL, tmsL, tmsL]; exact ⟨h1, h2, trivial⟩⟩
        · split at h
          · cases h
          · cases h
            have := tmL_eq.1 h1
            exact ⟨this.1, this.2.1, this.2.2⟩
theorem pS_L {s : List UInt8} (hs : s.length ≤ 1000000) : ∀ (f i : Nat) (c : List Lt), pS s f i = some c → c.length ≤ f ∧ ∀ l ∈ c, ltL l
  | 0, i, c, h => by rw [pS] at h; cases h
  | f + 1, i, c, h => by
    rw [pS] at h
    cases hq : pL s i with
    | none => rw [hq] at h; cases h
    | some y =>
      obtain ⟨x, j⟩ := y
      rw [hq] at h
      simp only at h
      have h1 := pL_L hs hq
      split at h
      · cases hr : pS s f (j + 3) with
        | none => rw [hr] at h; cases h
        | some r =>
          rw [hr] at h
          cases h
          obtain ⟨h2, h3⟩ := pS_L hs f _ _ hr
          refine ⟨by simp only [List.length_cons]; omega, fun l hl => ?_⟩
          rcases List.mem_cons.1 hl with rfl | hl
          · exact h1
          · exact h3 l hl
      · split at h
        · cases h
        · cases h
          refine ⟨by simp, fun l hl => ?_⟩
          rw [List.mem_singleton] at hl
          subst hl; exact h1
theorem pC_L {s : List UInt8} (hs : s.length ≤ 1000000) {c : List Lt} (h : pC s = some c) : clL c := by
  rw [pC] at h
  split at h
  · cases h; exact ⟨by simp, fun l hl => by cases hl⟩
  · obtain ⟨h1, h2⟩ := pS_L hs _ _ _ h
    exact ⟨by omega, h2⟩
theorem paR_L {s : List UInt8} (hs : s.length ≤ 1000000) : clL (paR s) := by
  have h0 : clL ([] : List Lt) := ⟨by simp, fun l hl => by cases hl⟩
  rw [paR]
  split
  · exact h0
  · cases hq : pC s with
    | none => exact h0
    | some c =>
      simp only
      split
      · exact h0
      · exact pC_L hs hq
theorem parse_spec (s : List UInt8) (hs : s.length ≤ 1000000) : PFn Tryz.prog 19 [Sv s] (.tup [clV (paR s), Iv (paE s)]) :=
  (parse_walk s hs fun c h => pC_L hs h).toA fun _ _ h => h
def nmR (c : List Lt) : List Lt := if ckC 4 9 2 3 c ≠ 0 then [] else nrC c
theorem normal_spec (N : Nat) (hsort : ∀ l : List Lt, l.length ≤ N → ACall Tryz.prog 90 [.os 0 4 0 l.length, .fn 91 [] []] (soH l) (fun r H' => r = .tup [] ∧ H' = soH (srtA [] l))) (c : List Lt) (hN : c.length ≤ N) (hs : clL c) : PFn Tryz.prog 22 [clV c] (.tup [clV (nmR c), Iv (ckC 4 9 2 3 c)]) := by
  by_cases hck : ckC 4 9 2 3 c = 0
  · rw [nmR, if_neg (by simpa using hck), hck]
    exact normal_walk N hsort c hN hs hck
  · have hR : nmR c = [] := by rw [nmR, if_pos hck]
    refine ACall.orNil ?_
    refine ACall.walk [0, 2, 3, 4, 5, 6, 7, 8, 10, 11, 15, 17, 18, 19, 20, 29, 44, 45, 46, 47] [7, 10, 11] Tryz.func22 rfl Tryz.ntmps22 (by kernel_rfl) (by rfl) rfl fun W own I0 φ0 lay => ?_
    refine gO ?_
    refine AQ.fn (by kernel_rfl) rfl rfl rfl (check_spec c hs) rfl ?_
    refine sI ?_
    refine gO ?_
    refine AP.cond rfl rfl (fun h => ?_) (fun h => ?_)
    · refine gO ?_
      exact AE.ret0 rfl ⟨rfl, rfl, trivial⟩ rfl ⟨rfl, .inr ⟨hR, rfl⟩⟩
    · exact absurd (by simpa using h) hck
end Go.Proofs.YtpfohmboflcneaaGreatDoor
end

section
namespace Go.Proofs.YtpfohmboflcneaaGreatDoor
open Go Go.AL Go.RowKit
set_option maxRecDepth 10000
set_option maxHeartbeats 4000000
def exS : List UInt8 := [80, 40, 63, 53, 41, 32, 124, 32, 126, 81, 40, 63, 51, 41, 32, 124, 32, 80, 40, 63, 53, 41]
def exC : List Lt := [⟨false, [80], [.mk [] 5 []]⟩, ⟨true, [81], [.mk [] 3 []]⟩, ⟨false, [80], [.mk [] 5 []]⟩]
def exN : List Lt := [⟨false, [80], [.mk [] 0 []]⟩, ⟨true, [81], [.mk [] 1 []]⟩]
def exT : List UInt8 := [80, 40, 63, 48, 41, 32, 124, 32, 126, 81, 40, 63, 49, 41]
theorem ex_p : pC exS = some exC := by kernel_rfl
theorem ex_c : ckC 4 9 2 3 exC = 0 := by kernel_rfl
theorem ex_n : nrC exC = exN := by kernel_rfl
theorem ex_cn : ckC 4 9 2 3 exN = 0 := by kernel_rfl
theorem dec1 {n : Nat} (h : n < 10) : Lib.itoa n = [UInt8.ofNat (48 + n)] := by
  rw [Lib.itoa, if_neg (by omega), Int.toNat_natCast, Lib.decDigits, dif_pos h]
theorem ex_t : txC false exN = exT := by
  have h0 : Lib.itoa 0 = [48] := dec1 (n := 0) (by decide)
  have h1 : Lib.itoa 1 = [49] := dec1 (n := 1) (by decide)
  simp only [exN, txC, txL, txS, txA, txT, txR, h0, h1]
  rfl
theorem ex_o : cmT (.mk [102] 0 [.mk [] 0 []]) (.mk [] 0 []) = (1, 0) := by kernel_rfl
theorem awake_spec : PFn Tryz.prog 12 [] (Bv true) := by
  have hS : exS.length ≤ 40000 := by decide
  have hp := parse_spec exS (by decide)
  have hpR : paR exS = exC := by rw [paR, if_neg (by omega), ex_p]; simp only [ex_c]; rfl
  have hpE : paE exS = 0 := by rw [paE, if_neg (by omega), ex_p]; exact ex_c
  rw [hpR, hpE] at hp
  have hcl : clL exC := by have := paR_L (s := exS) (by decide); rw [hpR] at this; exact this
  have hn := normal_spec 20 sort_small exC (by decide) hcl
  have hnR : nmR exC = exN := by rw [nmR, ex_c, if_neg (by decide), ex_n]
  rw [hnR, ex_c] at hn
  have hcn : clL exN := ⟨by decide, fun l hl => by
    simp only [exN, List.mem_cons, List.not_mem_nil, or_false] at hl
    rcases hl with rfl | rfl <;> exact ⟨by decide, by decide, by simp [tmsL, tmL]⟩⟩
  have ht := text_spec exN hcn
  have htS : tcS exN = exT := by rw [tcS, ex_cn, if_neg (by decide), ex_t, if_neg (by decide)]
  have htE : tcE exN = 0 := by rw [tcE, ex_cn, if_neg (by decide), ex_t, if_neg (by decide)]
  rw [htS, htE] at ht
  have ho0 := Compare_spec (.mk [102] 0 [.mk [] 0 []]) (.mk [] 0 []) (by simp [tmL, tmsL]) (by simp [tmL, tmsL])
  rw [ex_o] at ho0
  have ho1 : PFn Tryz.prog 37 [.agg [Sv [102], Iv 0, .im (.sl 3 [[Si [], Ii 0, .sl 3 []]])], .agg [Sv [], Iv 0, .im (.sl 3 [])]] (.tup [Iv 1, Iv 0]) := ho0
  have ho := ho1.argLe (xs := [.agg [Sv [102], Iv 0, .im (.sl 3 [[Si [], Ii 0, .v (.slice none 0 0)]])], .agg [Sv [], Iv 0, nilV]]) (by repeat' (first | with_reducible exact AVle.refl _ | with_reducible exact IVle.refl _ | exact IVle.nil _ | with_reducible exact cellsLe.refl _ | with_reducible exact rowLe.refl _ | with_reducible exact rowsLe.refl _ | refine cellsLe.cons2 ?_ ?_ | refine AVle.agg ?_ | refine AVle.im ?_ | refine IVle.sl ?_ | refine rowsLe.cons ?_ ?_ | refine rowLe.cons ?_ ?_))
  have hp' : PFn Tryz.prog 19 [Sv [80, 40, 63, 53, 41, 32, 124, 32, 126, 81, 40, 63, 51, 41, 32, 124, 32, 80, 40, 63, 53, 41]] (.tup [clV exC, Iv 0]) := hp
  have ht' : PFn Tryz.prog 17 [clV exN] (.tup [Sv [80, 40, 63, 48, 41, 32, 124, 32, 126, 81, 40, 63, 49, 41], Iv 0]) := ht
  refine ACall.walk [0, 1, 2, 3, 4, 5, 6, 7, 8] [] Tryz.func12 rfl Tryz.ntmps12 (by kernel_rfl) (by rfl) rfl fun W own I0 φ0 lay => ?_
  refine gO ?_
  refine AQ.fn (by kernel_rfl) rfl rfl rfl (hp') rfl ?_
  refine sI ?_
  refine gO ?_
  refine AQ.fn (by kernel_rfl) rfl rfl rfl (hn) rfl ?_
  refine sI ?_
  refine gO ?_
  refine AQ.fn (by kernel_rfl) rfl rfl rfl (ht') rfl ?_
  refine sI ?_
  refine gO ?_
  refine AQ.fn (by kernel_rfl) rfl rfl rfl (ho) rfl ?_
  refine sI ?_
  refine gO ?_
  exact AE.ret0 rfl ⟨rfl, trivial⟩ rfl ⟨rfl, rfl⟩
end Go.Proofs.YtpfohmboflcneaaGreatDoor
end
