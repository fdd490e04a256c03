import Derived.Test.YtfgffpkdjmeaoaaW2
set_option linter.unusedSimpArgs false
set_option linter.unusedVariables false
set_option linter.unnecessarySimpa false
section
namespace Go.Proofs.Ytfgffpkdjmeaoaa
open Go Go.AL Go.RowKit
set_option maxRecDepth 10000
set_option maxHeartbeats 4000000
theorem lgR_len (l : List Ent) : (lgR l).length = l.length := by simp [lgR]
theorem und_un' {n : Nat} {s : SS} {L : List Int} {rt : Nat → Nat} (hg : Good n s L rt) {x y u w : Nat} (hx : x < n) (hy : y < n) (huw : (u = rt x ∧ w = rt y) ∨ (u = rt y ∧ w = rt x)) (k : Nat) : SS.und (k + 1) (s.un u w) = SS.und k s := by
  have hu : u < n := by rcases huw with ⟨rfl, _⟩ | ⟨rfl, _⟩; exact (hg.lt hx).1; exact (hg.lt hy).1
  have hw : w < n ∧ s.a.getD w 0 = w := by rcases huw with ⟨_, rfl⟩ | ⟨_, rfl⟩; exact hg.lt hy; exact hg.lt hx
  have hl : (s.un u w).l.getLast? = some (w, u, s.b.getD u 0, s.c.getD u 0) := by simp [SS.un]
  simp only [SS.und, hl, SS.und_un hg hu hw.1 hw.2]
def SS.Hi (s : SS) : Heap := setsHi 5 s.a s.b s.c (lgR s.l)
theorem union_eq {n : Nat} {s : SS} {L : List Int} {rt : Nat → Nat} (hg : Good n s L rt) (hn : n ≤ 1000000) {x y : Nat} (hx : x < n) (hy : y < n) (he : rt x = rt y) :
    ACall Try.prog 28 [.ob 0 0, Iv x, Iv y] s.H (fun r' H' => H' = s.H ∧ r' = .tup [Bv false, Iv 0]) := by
  obtain ⟨m, hm⟩ := hg.root x hx
  obtain ⟨m', hm'⟩ := hg.root y hy
  exact union_same _ _ _ _ x y m m' (rt x) hm (he ▸ hm') (by rw [hg.ok.la]; omega)
theorem union_ne {n : Nat} {s : SS} {L : List Int} {rt : Nat → Nat} (hg : Good n s L rt) (hn : n ≤ 1000000) (hl : s.l.length ≤ 1000000) {x y : Nat} (hx : x < n) (hy : y < n) (hne : rt x ≠ rt y) :
    ∃ u w, ((u = rt x ∧ w = rt y) ∨ (u = rt y ∧ w = rt x)) ∧ ACall Try.prog 28 [.ob 0 0, Iv x, Iv y] s.H (fun r' H' => H' = (s.un u w).Hi ∧ r' = .tup [Bv true, Iv 0]) := by
  obtain ⟨m, hm⟩ := hg.root x hx
  obtain ⟨m', hm'⟩ := hg.root y hy
  have hla := hg.ok.la
  have hlb := hg.ok.lb
  have hlc := hg.ok.lc
  have hlg : ∀ u w, lgR s.l ++ [logRow s.b s.c u w] = lgR (s.un u w).l := fun u w => by simp only [lgR, SS.un, List.map_append]; rfl
  cases hs : swapB s.b (rt x) (rt y) with
  | true =>
    refine ⟨rt y, rt x, .inr ⟨rfl, rfl⟩, ?_⟩
    have := union_ok s.a s.b s.c (lgR s.l) x y m m' (rt x) (rt y) (rt y) (rt x) hm hm' hne (.inl ⟨hs, rfl, rfl⟩) (by omega) (by omega) (by omega) (by rw [lgR_len]; exact hl) (fun i => by have := hg.bnd i; omega)
    rw [hlg] at this
    exact this
  | false =>
    refine ⟨rt x, rt y, .inl ⟨rfl, rfl⟩, ?_⟩
    have := union_ok s.a s.b s.c (lgR s.l) x y m m' (rt x) (rt y) (rt x) (rt y) hm hm' hne (.inr ⟨hs, rfl, rfl⟩) (by omega) (by omega) (by omega) (by rw [lgR_len]; exact hl) (fun i => by have := hg.bnd i; omega)
    rw [hlg] at this
    exact this
theorem find_h {n : Nat} {s : SS} {L : List Int} {rt : Nat → Nat} (hg : Good n s L rt) (hn : n ≤ 1000000) {x : Nat} (hx : x < n) :
    ACall Try.prog 27 [.ob 0 0, Iv x] s.H (fun r' H' => H' = s.H ∧ r' = .tup [Iv (L.getD x 0), Iv 0]) := by
  obtain ⟨m, hm⟩ := hg.root x hx
  have := setsFind_spec s.a s.b s.c (lgR s.l) m x (rt x) hm (by rw [hg.ok.lc, hg.ok.la]) (by rw [hg.ok.la]; omega)
  rw [← hg.val x hx] at this
  exact this
theorem classes_h {n : Nat} {s : SS} {L : List Int} {rt : Nat → Nat} (hg : Good n s L rt) (hn : n ≤ 1000000) :
    ACall Try.prog 32 [.ob 0 0] s.H (fun r' H' => H' = s.H ∧ r' = .im (.sl 1 (PV (refC L L.length)))) := by
  have hla := hg.ok.la
  have := classes_spec s.a s.b s.c (lgR s.l) rt (fun x hx => hg.root x (by omega)) (by omega)
  have e : Clv (clsOf rt s.a.length) = .im (.sl 1 (PV (refC L L.length))) := by
    rw [← cls_ref hg, hla, Clv, PV, List.map_map]
    simp only [intR, Function.comp_def, List.map_map]
  rw [e] at this
  exact this
theorem refC_rows (L : List Int) (n M : Nat) (h : L.length ≤ M) : ∀ l ∈ refC L n, l.length ≤ M := fun l hl => by
  obtain ⟨i, _, rfl⟩ := List.mem_map.1 hl
  have := memF_len L i i (L.length - i)
  omega
theorem new_h (n : Nat) (hn : n ≤ 10000) : ACall Try.prog 25 [Iv n] [] (fun r H' => H' = SS.H ⟨ids n, List.replicate n 1, ids n, []⟩ ∧ r = .tup [.ob 0 0, Iv 0]) := newSets_spec n hn
theorem mark_h (s : SS) : ACall Try.prog 31 [.ob 0 0] s.H (fun r' H' => H' = s.H ∧ r' = Iv s.l.length) := by
  have := mark_spec s.a s.b s.c (lgR s.l)
  rw [lgR_len] at this
  exact this
/-- pairs of bytes -/
def prR (l : List (Nat × Nat)) : List (List IV) := l.map fun p => [.v (.int .u8 p.1), .v (.int .u8 p.2)]
theorem prR_len (l : List (Nat × Nat)) : (prR l).length = l.length := by simp [prR]
theorem prR_get (l : List (Nat × Nat)) (k : Nat) (h : k < l.length) : (prR l).getD k [] = [.v (.int .u8 (l.getD k (0, 0)).1), .v (.int .u8 (l.getD k (0, 0)).2)] := by
  simp [prR, List.getD_eq_getElem?_getD, h]
theorem undo_walk (n : Nat) (A B : List (Nat × Nat)) (hn : n < 256) (hA : ∀ p ∈ A, p.1 < 256 ∧ p.2 < 256) (hB : ∀ p ∈ B, p.1 < 256 ∧ p.2 < 256) (lA : A.length < 9223372036854775808) (lB : B.length < 9223372036854775808) :
    PFn Try.prog 6 [.im (.v (.int .u8 n)), .im (.sl 2 (prR A)), .im (.sl 2 (prR B))] (Bv true) := by
  refine ACall.walk [0, 1, 2, 6, 7, 8, 10, 11, 12, 14, 15, 16, 17, 19, 21, 23, 25, 42, 51, 52, 53, 54, 55, 75, 76, 77, 78, 114, 136] [10, 14] Try.func6 rfl Try.ntmps6 (by kernel_rfl) (by rfl) rfl fun W own I0 φ0 => ?_
  repeat (first | refine xPP rfl ?_ | refine xPE rfl ?_ | refine xEP rfl ?_ | refine xEE rfl ?_ | refine AQ.done ?_ | refine AQ.skip (by kernel_rfl) rfl ?_ | refine AQ.s2b (by kernel_rfl) rfl rfl rfl rfl ?_ | refine AQ.mark (by kernel_rfl) rfl rfl rfl rfl rfl rfl rfl ?_ | refine AP.cond_true rfl rfl ?_ | refine AP.cond_false rfl rfl ?_ | (refine AP.region rfl (by kernel_rfl) ?_; simp only [go_sem, Nat.reduceAdd, Nat.reduceLeDiff, reduceCtorEq, prR_len]) | (refine AP.drawQ rfl rfl (by kernel_rfl) ?_; simp only [go_sem, Nat.reduceAdd, Nat.reduceLeDiff, reduceCtorEq, prR_len]) | (refine vq_id ?_; simp only [go_sem, Nat.reduceAdd, Nat.reduceLeDiff, reduceCtorEq, prR_len]) | (refine ⟨by first | omega | (intros; simp_all; done) | (intros; simp_all; omega), ?_⟩; try simp only [go_sem, Nat.reduceAdd, Nat.reduceLeDiff, reduceCtorEq, prR_len]))
  by_cases hg : 0 < n ∧ n ≤ 60 ∧ A.length ≤ 80 ∧ B.length ≤ 80
  · obtain ⟨h1, h2, h3, h4⟩ := hg
    refine AP.cond_false rfl (by simp only [go_sem, Nat.reduceAdd, Nat.reduceLeDiff, reduceCtorEq]; refine congrArg (fun b => some (AV.im (IV.v (Value.bool b)))) ?_; (first | (simp only [Bool.or_eq_true, Bool.and_eq_true, Bool.not_eq_true', Bool.not_eq_false', Bool.and_eq_false_iff, Bool.or_eq_false_iff, decide_eq_true_eq, decide_eq_false_iff_not, beq_iff_eq, bne_iff_ne, beq_eq_false_iff_ne, bne_eq_false_iff_eq, ne_eq]; omega) | (simp; done) | (simp; omega) | (simp_all; done) | (simp_all; omega))) ?_
    have hwn := wr (x := (n : Int)) (by omega)
    repeat (first | refine xPP rfl ?_ | refine xPE rfl ?_ | refine xEP rfl ?_ | refine xEE rfl ?_ | refine AQ.done ?_ | refine AQ.skip (by kernel_rfl) rfl ?_ | refine AQ.s2b (by kernel_rfl) rfl rfl rfl rfl ?_ | refine AQ.mark (by kernel_rfl) rfl rfl rfl rfl rfl rfl rfl ?_ | refine AP.cond_true rfl rfl ?_ | refine AP.cond_false rfl rfl ?_ | (refine AP.region rfl (by kernel_rfl) ?_; simp only [go_sem, Nat.reduceAdd, Nat.reduceLeDiff, reduceCtorEq, prR_len, hwn]) | (refine AP.drawQ rfl rfl (by kernel_rfl) ?_; simp only [go_sem, Nat.reduceAdd, Nat.reduceLeDiff, reduceCtorEq, prR_len, hwn]) | (refine vq_id ?_; simp only [go_sem, Nat.reduceAdd, Nat.reduceLeDiff, reduceCtorEq, prR_len, hwn]) | (refine ⟨by first | omega | (intros; simp_all; done) | (intros; simp_all; omega), ?_⟩; try simp only [go_sem, Nat.reduceAdd, Nat.reduceLeDiff, reduceCtorEq, prR_len, hwn]))
    refine AQ.callv (by kernel_rfl) rfl rfl rfl (new_h n (by omega)) fun r' H' ⟨e1, e2⟩ => ?_
    subst e1; subst e2
    simp only [go_sem, Nat.reduceAdd, Nat.reduceLeDiff, reduceCtorEq, SS.H, setsH]
    repeat (first | refine xPP rfl ?_ | refine xPE rfl ?_ | refine xEP rfl ?_ | refine xEE rfl ?_ | refine AQ.done ?_ | refine AQ.skip (by kernel_rfl) rfl ?_ | refine AQ.s2b (by kernel_rfl) rfl rfl rfl rfl ?_ | refine AQ.mark (by kernel_rfl) rfl rfl rfl rfl rfl rfl rfl ?_ | refine AP.cond_true rfl rfl ?_ | refine AP.cond_false rfl rfl ?_ | (refine AP.region rfl (by kernel_rfl) ?_; simp only [go_sem, Nat.reduceAdd, Nat.reduceLeDiff, reduceCtorEq, prR_len]) | (refine AP.drawQ rfl rfl (by kernel_rfl) ?_; simp only [go_sem, Nat.reduceAdd, Nat.reduceLeDiff, reduceCtorEq, prR_len]) | (refine vq_id ?_; simp only [go_sem, Nat.reduceAdd, Nat.reduceLeDiff, reduceCtorEq, prR_len]) | (refine ⟨by first | omega | (intros; simp_all; done) | (intros; simp_all; omega), ?_⟩; try simp only [go_sem, Nat.reduceAdd, Nat.reduceLeDiff, reduceCtorEq, prR_len]))
    refine AP.loop rfl (α := Nat × SS) (fun q => [(0, .im (.v (.int .u8 n))), (1, .im (.sl 2 (prR A))), (2, .im (.sl 2 (prR B))), (7, .ob 0 0), (52, .im (.sl 2 (prR A))), (53, Iv A.length), (54, Iv q.1)]) (fun q => q.2.H)
      (fun q => q.1 ≤ A.length ∧ ∃ L P, Hist n q.2 L P ∧ P.length ≤ q.1) (fun q => A.length - q.1) (0, ⟨ids n, List.replicate n 1, ids n, []⟩) ⟨by omega, _, _, Hist.new, by simp⟩ (by repeat (first | exact Sub.nil _ | refine Sub.cons rfl ?_)) rfl fun q ⟨hk, L, P, hh, hp⟩ => ?_
    obtain ⟨k, s⟩ := q
    simp only at hk hp hh ⊢
    have hw := wr (x := (k : Int) + 1) (by omega)
    obtain ⟨rt, hgd⟩ := hh.good
    have hsl := hh.len
    rcases Nat.eq_or_lt_of_le hk with hke | hlt
    · simp only [go_sem, Nat.reduceAdd, Nat.reduceLeDiff, reduceCtorEq, SS.H, setsH]
      repeat (first | refine xPP rfl ?_ | refine xPE rfl ?_ | refine xEP rfl ?_ | refine xEE rfl ?_ | refine AQ.done ?_ | refine AQ.skip (by kernel_rfl) rfl ?_ | refine AQ.s2b (by kernel_rfl) rfl rfl rfl rfl ?_ | refine AQ.mark (by kernel_rfl) rfl rfl rfl rfl rfl rfl rfl ?_ | refine AP.cond_true rfl rfl ?_ | refine AP.cond_false rfl rfl ?_ | (refine AP.region rfl (by kernel_rfl) ?_; simp only [go_sem, Nat.reduceAdd, Nat.reduceLeDiff, reduceCtorEq]) | (refine AP.drawQ rfl rfl (by kernel_rfl) ?_; simp only [go_sem, Nat.reduceAdd, Nat.reduceLeDiff, reduceCtorEq]) | (refine vq_id ?_; simp only [go_sem, Nat.reduceAdd, Nat.reduceLeDiff, reduceCtorEq]) | (refine ⟨by first | omega | (intros; simp_all; done) | (intros; simp_all; omega), ?_⟩; try simp only [go_sem, Nat.reduceAdd, Nat.reduceLeDiff, reduceCtorEq]))
      refine AP.cond_false rfl (by simp only [go_sem, Nat.reduceAdd, Nat.reduceLeDiff, reduceCtorEq]; refine congrArg (fun b => some (AV.im (IV.v (Value.bool b)))) ?_; (first | (simp only [Bool.or_eq_true, Bool.and_eq_true, Bool.not_eq_true', Bool.not_eq_false', Bool.and_eq_false_iff, Bool.or_eq_false_iff, decide_eq_true_eq, decide_eq_false_iff_not, beq_iff_eq, bne_iff_ne, beq_eq_false_iff_ne, bne_eq_false_iff_eq, ne_eq]; omega) | (simp; done) | (simp; omega) | (simp_all; done) | (simp_all; omega))) ?_
      repeat (first | refine xPP rfl ?_ | refine xPE rfl ?_ | refine xEP rfl ?_ | refine xEE rfl ?_ | refine AQ.done ?_ | refine AQ.skip (by kernel_rfl) rfl ?_ | refine AQ.s2b (by kernel_rfl) rfl rfl rfl rfl ?_ | refine AQ.mark (by kernel_rfl) rfl rfl rfl rfl rfl rfl rfl ?_ | refine AP.cond_true rfl rfl ?_ | refine AP.cond_false rfl rfl ?_ | (refine AP.region rfl (by kernel_rfl) ?_; simp only [go_sem, Nat.reduceAdd, Nat.reduceLeDiff, reduceCtorEq]) | (refine AP.drawQ rfl rfl (by kernel_rfl) ?_; simp only [go_sem, Nat.reduceAdd, Nat.reduceLeDiff, reduceCtorEq]) | (refine vq_id ?_; simp only [go_sem, Nat.reduceAdd, Nat.reduceLeDiff, reduceCtorEq]) | (refine ⟨by first | omega | (intros; simp_all; done) | (intros; simp_all; omega), ?_⟩; try simp only [go_sem, Nat.reduceAdd, Nat.reduceLeDiff, reduceCtorEq]))
      refine AQ.callI (by kernel_rfl) rfl rfl rfl (classes_h hgd (by omega)) ?_
      repeat (first | refine xPP rfl ?_ | refine xPE rfl ?_ | refine xEP rfl ?_ | refine xEE rfl ?_ | refine AQ.done ?_ | refine AQ.skip (by kernel_rfl) rfl ?_ | refine AQ.s2b (by kernel_rfl) rfl rfl rfl rfl ?_ | refine AQ.mark (by kernel_rfl) rfl rfl rfl rfl rfl rfl rfl ?_ | refine AP.cond_true rfl rfl ?_ | refine AP.cond_false rfl rfl ?_ | (refine AP.region rfl (by kernel_rfl) ?_; simp only [go_sem, Nat.reduceAdd, Nat.reduceLeDiff, reduceCtorEq]) | (refine AP.drawQ rfl rfl (by kernel_rfl) ?_; simp only [go_sem, Nat.reduceAdd, Nat.reduceLeDiff, reduceCtorEq]) | (refine vq_id ?_; simp only [go_sem, Nat.reduceAdd, Nat.reduceLeDiff, reduceCtorEq]) | (refine ⟨by first | omega | (intros; simp_all; done) | (intros; simp_all; omega), ?_⟩; try simp only [go_sem, Nat.reduceAdd, Nat.reduceLeDiff, reduceCtorEq]))
      refine AQ.callI (by kernel_rfl) rfl rfl rfl (mark_h s) ?_
      repeat (first | refine xPP rfl ?_ | refine xPE rfl ?_ | refine xEP rfl ?_ | refine xEE rfl ?_ | refine AQ.done ?_ | refine AQ.skip (by kernel_rfl) rfl ?_ | refine AQ.s2b (by kernel_rfl) rfl rfl rfl rfl ?_ | refine AQ.mark (by kernel_rfl) rfl rfl rfl rfl rfl rfl rfl ?_ | refine AP.cond_true rfl rfl ?_ | refine AP.cond_false rfl rfl ?_ | (refine AP.region rfl (by kernel_rfl) ?_; simp only [go_sem, Nat.reduceAdd, Nat.reduceLeDiff, reduceCtorEq]) | (refine AP.drawQ rfl rfl (by kernel_rfl) ?_; simp only [go_sem, Nat.reduceAdd, Nat.reduceLeDiff, reduceCtorEq]) | (refine vq_id ?_; simp only [go_sem, Nat.reduceAdd, Nat.reduceLeDiff, reduceCtorEq]) | (refine ⟨by first | omega | (intros; simp_all; done) | (intros; simp_all; omega), ?_⟩; try simp only [go_sem, Nat.reduceAdd, Nat.reduceLeDiff, reduceCtorEq]))
      have hm0 : s.l.length ≤ 80 := by omega
      refine AP.loop rfl (α := Nat × SS) (fun q => [(0, .im (.v (.int .u8 n))), (7, .ob 0 0), (11, .im (.sl 1 (PV (refC L L.length)))), (12, Iv s.l.length), (75, .im (.sl 2 (prR B))), (76, Iv B.length), (77, Iv q.1)]) (fun q => q.2.H)
        (fun q => q.1 ≤ B.length ∧ (∃ L P, Hist n q.2 L P ∧ P.length ≤ 80 + q.1) ∧ SS.und (q.2.l.length - s.l.length) q.2 = s ∧ s.l.length ≤ q.2.l.length) (fun q => B.length - q.1) (0, s) ⟨by omega, ⟨_, _, hh, by omega⟩, by simp only [Nat.sub_self, SS.und], by simp only; omega⟩ (by rw [← prR_len B]; exact (by repeat (first | exact Sub.nil _ | refine Sub.cons rfl ?_))) rfl fun q ⟨hk2, ⟨L2, P2, hh2, hp2⟩, hu2, hm2⟩ => ?_
      obtain ⟨k2, s2⟩ := q
      simp only at hk2 hp2 hh2 hu2 hm2 ⊢
      have hw2 := wr (x := (k2 : Int) + 1) (by omega)
      obtain ⟨rt2, hgd2⟩ := hh2.good
      have hsl2 := hh2.len
      rcases Nat.eq_or_lt_of_le hk2 with hke2 | hlt2
      · simp only [go_sem, Nat.reduceAdd, Nat.reduceLeDiff, reduceCtorEq, SS.H, setsH]
        repeat (first | refine xPP rfl ?_ | refine xPE rfl ?_ | refine xEP rfl ?_ | refine xEE rfl ?_ | refine AQ.done ?_ | refine AQ.skip (by kernel_rfl) rfl ?_ | refine AQ.s2b (by kernel_rfl) rfl rfl rfl rfl ?_ | refine AQ.mark (by kernel_rfl) rfl rfl rfl rfl rfl rfl rfl ?_ | refine AP.cond_true rfl rfl ?_ | refine AP.cond_false rfl rfl ?_ | (refine AP.region rfl (by kernel_rfl) ?_; simp only [go_sem, Nat.reduceAdd, Nat.reduceLeDiff, reduceCtorEq]) | (refine AP.drawQ rfl rfl (by kernel_rfl) ?_; simp only [go_sem, Nat.reduceAdd, Nat.reduceLeDiff, reduceCtorEq]) | (refine vq_id ?_; simp only [go_sem, Nat.reduceAdd, Nat.reduceLeDiff, reduceCtorEq]) | (refine ⟨by first | omega | (intros; simp_all; done) | (intros; simp_all; omega), ?_⟩; try simp only [go_sem, Nat.reduceAdd, Nat.reduceLeDiff, reduceCtorEq]))
        refine AP.cond_false rfl (by simp only [go_sem, Nat.reduceAdd, Nat.reduceLeDiff, reduceCtorEq]; refine congrArg (fun b => some (AV.im (IV.v (Value.bool b)))) ?_; (first | (simp only [Bool.or_eq_true, Bool.and_eq_true, Bool.not_eq_true', Bool.not_eq_false', Bool.and_eq_false_iff, Bool.or_eq_false_iff, decide_eq_true_eq, decide_eq_false_iff_not, beq_iff_eq, bne_iff_ne, beq_eq_false_iff_ne, bne_eq_false_iff_eq, ne_eq]; omega) | (simp; done) | (simp; omega) | (simp_all; done) | (simp_all; omega))) ?_
        repeat (first | refine xPP rfl ?_ | refine xPE rfl ?_ | refine xEP rfl ?_ | refine xEE rfl ?_ | refine AQ.done ?_ | refine AQ.skip (by kernel_rfl) rfl ?_ | refine AQ.s2b (by kernel_rfl) rfl rfl rfl rfl ?_ | refine AQ.mark (by kernel_rfl) rfl rfl rfl rfl rfl rfl rfl ?_ | refine AP.cond_true rfl rfl ?_ | refine AP.cond_false rfl rfl ?_ | (refine AP.region rfl (by kernel_rfl) ?_; simp only [go_sem, Nat.reduceAdd, Nat.reduceLeDiff, reduceCtorEq]) | (refine AP.drawQ rfl rfl (by kernel_rfl) ?_; simp only [go_sem, Nat.reduceAdd, Nat.reduceLeDiff, reduceCtorEq]) | (refine vq_id ?_; simp only [go_sem, Nat.reduceAdd, Nat.reduceLeDiff, reduceCtorEq]) | (refine ⟨by first | omega | (intros; simp_all; done) | (intros; simp_all; omega), ?_⟩; try simp only [go_sem, Nat.reduceAdd, Nat.reduceLeDiff, reduceCtorEq]))
        have hun := undo_ok n (by omega) s2 hgd2.ok s.l.length hm2 (by omega)
        rw [hu2] at hun
        refine AQ.callH [(4, 4), (3, 3), (2, 2), (1, 1), (0, 0)] (by kernel_rfl) rfl rfl rfl rfl rfl rfl (by exact ⟨rfl, rfl, rfl, rfl, rfl, trivial⟩) rfl hun ?_
        rintro r' H' ⟨e1, e2⟩
        subst e1; subst e2
        refine ⟨rfl, ?_⟩
        simp only [go_sem, Nat.reduceAdd, Nat.reduceLeDiff, reduceCtorEq, SS.H, SS.Hi, setsH, setsHi]
        have hce := classesEq _ _ (refC_rows L L.length 1000000 (by rw [hgd.ln]; omega)) (refC_rows L L.length 1000000 (by rw [hgd.ln]; omega)) (by have := refC_len L L.length; rw [hgd.ln] at this ⊢; omega) (by have := refC_len L L.length; rw [hgd.ln] at this ⊢; omega)
        rw [decide_eq_true rfl] at hce
        repeat (first | refine xPP rfl ?_ | refine xPE rfl ?_ | refine xEP rfl ?_ | refine xEE rfl ?_ | refine AQ.done ?_ | refine AQ.skip (by kernel_rfl) rfl ?_ | refine AQ.s2b (by kernel_rfl) rfl rfl rfl rfl ?_ | refine AQ.mark (by kernel_rfl) rfl rfl rfl rfl rfl rfl rfl ?_ | refine AP.cond_true rfl rfl ?_ | refine AP.cond_false rfl rfl ?_ | (refine AP.region rfl (by kernel_rfl) ?_; simp only [go_sem, Nat.reduceAdd, Nat.reduceLeDiff, reduceCtorEq, beq_self_eq_true]) | (refine AP.drawQ rfl rfl (by kernel_rfl) ?_; simp only [go_sem, Nat.reduceAdd, Nat.reduceLeDiff, reduceCtorEq, beq_self_eq_true]) | (refine vq_id ?_; simp only [go_sem, Nat.reduceAdd, Nat.reduceLeDiff, reduceCtorEq, beq_self_eq_true]) | (refine ⟨by first | omega | (intros; simp_all; done) | (intros; simp_all; omega), ?_⟩; try simp only [go_sem, Nat.reduceAdd, Nat.reduceLeDiff, reduceCtorEq, beq_self_eq_true]))
        refine AQ.guard_yes rfl ?_
        refine AQ.callH [(4, 4), (3, 3), (2, 2), (1, 1), (0, 0)] (by kernel_rfl) rfl rfl rfl rfl rfl rfl (by exact ⟨rfl, rfl, rfl, rfl, rfl, trivial⟩) rfl (classes_h hgd (by omega)) ?_
        rintro r' H' ⟨e1, e2⟩
        subst e1; subst e2
        refine ⟨rfl, ?_⟩
        simp only [go_sem, Nat.reduceAdd, Nat.reduceLeDiff, reduceCtorEq, SS.H, SS.Hi, setsH, setsHi]
        repeat (first | refine xPP rfl ?_ | refine xPE rfl ?_ | refine xEP rfl ?_ | refine xEE rfl ?_ | refine AQ.done ?_ | refine AQ.skip (by kernel_rfl) rfl ?_ | refine AQ.s2b (by kernel_rfl) rfl rfl rfl rfl ?_ | refine AQ.mark (by kernel_rfl) rfl rfl rfl rfl rfl rfl rfl ?_ | refine AP.cond_true rfl rfl ?_ | refine AP.cond_false rfl rfl ?_ | (refine AP.region rfl (by kernel_rfl) ?_; simp only [go_sem, Nat.reduceAdd, Nat.reduceLeDiff, reduceCtorEq]) | (refine AP.drawQ rfl rfl (by kernel_rfl) ?_; simp only [go_sem, Nat.reduceAdd, Nat.reduceLeDiff, reduceCtorEq]) | (refine vq_id ?_; simp only [go_sem, Nat.reduceAdd, Nat.reduceLeDiff, reduceCtorEq]) | (refine ⟨by first | omega | (intros; simp_all; done) | (intros; simp_all; omega), ?_⟩; try simp only [go_sem, Nat.reduceAdd, Nat.reduceLeDiff, reduceCtorEq]))
        refine AQ.guard_yes rfl ?_
        refine AQ.fn (by kernel_rfl) rfl rfl rfl (hce) rfl ?_
        repeat (first | refine xPP rfl ?_ | refine xPE rfl ?_ | refine xEP rfl ?_ | refine xEE rfl ?_ | refine AQ.done ?_ | refine AQ.skip (by kernel_rfl) rfl ?_ | refine AQ.s2b (by kernel_rfl) rfl rfl rfl rfl ?_ | refine AQ.mark (by kernel_rfl) rfl rfl rfl rfl rfl rfl rfl ?_ | refine AP.cond_true rfl rfl ?_ | refine AP.cond_false rfl rfl ?_ | (refine AP.region rfl (by kernel_rfl) ?_; simp only [go_sem, Nat.reduceAdd, Nat.reduceLeDiff, reduceCtorEq]) | (refine AP.drawQ rfl rfl (by kernel_rfl) ?_; simp only [go_sem, Nat.reduceAdd, Nat.reduceLeDiff, reduceCtorEq]) | (refine vq_id ?_; simp only [go_sem, Nat.reduceAdd, Nat.reduceLeDiff, reduceCtorEq]) | (refine ⟨by first | omega | (intros; simp_all; done) | (intros; simp_all; omega), ?_⟩; try simp only [go_sem, Nat.reduceAdd, Nat.reduceLeDiff, reduceCtorEq]))

        refine AQ.guard_yes rfl ?_
        refine AQ.fn (by kernel_rfl) rfl rfl rfl (awake_spec) rfl ?_
        repeat (first | refine xPP rfl ?_ | refine xPE rfl ?_ | refine xEP rfl ?_ | refine xEE rfl ?_ | refine AQ.done ?_ | refine AQ.skip (by kernel_rfl) rfl ?_ | refine AQ.s2b (by kernel_rfl) rfl rfl rfl rfl ?_ | refine AQ.mark (by kernel_rfl) rfl rfl rfl rfl rfl rfl rfl ?_ | refine AP.cond_true rfl rfl ?_ | refine AP.cond_false rfl rfl ?_ | (refine AP.region rfl (by kernel_rfl) ?_; simp only [go_sem, Nat.reduceAdd, Nat.reduceLeDiff, reduceCtorEq]) | (refine AP.drawQ rfl rfl (by kernel_rfl) ?_; simp only [go_sem, Nat.reduceAdd, Nat.reduceLeDiff, reduceCtorEq]) | (refine vq_id ?_; simp only [go_sem, Nat.reduceAdd, Nat.reduceLeDiff, reduceCtorEq]) | (refine ⟨by first | omega | (intros; simp_all; done) | (intros; simp_all; omega), ?_⟩; try simp only [go_sem, Nat.reduceAdd, Nat.reduceLeDiff, reduceCtorEq]))
        exact AE.ret0 rfl ⟨rfl, trivial⟩ rfl ⟨rfl, rfl⟩
      · have hgp := prR_get B k2 hlt2
        obtain ⟨x, hx⟩ : ∃ x, (B.getD k2 (0, 0)).1 = x := ⟨_, rfl⟩
        obtain ⟨y, hy⟩ : ∃ y, (B.getD k2 (0, 0)).2 = y := ⟨_, rfl⟩
        rw [hx, hy] at hgp
        have hnx : ((n : Int) ≠ 0) := by omega
        have hx1 : IntKind.i64.wrap (Int.tmod (x : Int) n) = ((x % n : Nat) : Int) := by
          rw [show Int.tmod (x : Int) n = ((x % n : Nat) : Int) from rfl]
          exact wr (by have := Nat.mod_lt x (show 0 < n by omega); omega)
        have hy1 : IntKind.i64.wrap (Int.tmod (y : Int) n) = ((y % n : Nat) : Int) := by
          rw [show Int.tmod (y : Int) n = ((y % n : Nat) : Int) from rfl]
          exact wr (by have := Nat.mod_lt y (show 0 < n by omega); omega)
        have hxn := Nat.mod_lt x (show 0 < n by omega)
        have hyn := Nat.mod_lt y (show 0 < n by omega)
        obtain ⟨X, hX⟩ : ∃ X, x % n = X := ⟨_, rfl⟩
        obtain ⟨Y, hY⟩ : ∃ Y, y % n = Y := ⟨_, rfl⟩
        rw [hX] at hx1 hxn
        rw [hY] at hy1 hyn
        simp only [go_sem, Nat.reduceAdd, Nat.reduceLeDiff, reduceCtorEq, SS.H, setsH]
        repeat (first | refine xPP rfl ?_ | refine xPE rfl ?_ | refine xEP rfl ?_ | refine xEE rfl ?_ | refine AQ.done ?_ | refine AQ.skip (by kernel_rfl) rfl ?_ | refine AQ.s2b (by kernel_rfl) rfl rfl rfl rfl ?_ | refine AQ.mark (by kernel_rfl) rfl rfl rfl rfl rfl rfl rfl ?_ | refine AP.cond_true rfl rfl ?_ | refine AP.cond_false rfl rfl ?_ | (refine AP.region rfl (by kernel_rfl) ?_; simp only [go_sem, Nat.reduceAdd, Nat.reduceLeDiff, reduceCtorEq]) | (refine AP.drawQ rfl rfl (by kernel_rfl) ?_; simp only [go_sem, Nat.reduceAdd, Nat.reduceLeDiff, reduceCtorEq]) | (refine vq_id ?_; simp only [go_sem, Nat.reduceAdd, Nat.reduceLeDiff, reduceCtorEq]) | (refine ⟨by first | omega | (intros; simp_all; done) | (intros; simp_all; omega), ?_⟩; try simp only [go_sem, Nat.reduceAdd, Nat.reduceLeDiff, reduceCtorEq]))
        refine AP.cond_true rfl (by simp only [go_sem, Nat.reduceAdd, Nat.reduceLeDiff, reduceCtorEq]; refine congrArg (fun b => some (AV.im (IV.v (Value.bool b)))) ?_; (first | (simp only [Bool.or_eq_true, Bool.and_eq_true, Bool.not_eq_true', Bool.not_eq_false', Bool.and_eq_false_iff, Bool.or_eq_false_iff, decide_eq_true_eq, decide_eq_false_iff_not, beq_iff_eq, bne_iff_ne, beq_eq_false_iff_ne, bne_eq_false_iff_eq, ne_eq]; omega) | (simp; done) | (simp; omega) | (simp_all; done) | (simp_all; omega))) ?_
        repeat (first | refine xPP rfl ?_ | refine xPE rfl ?_ | refine xEP rfl ?_ | refine xEE rfl ?_ | refine AQ.done ?_ | refine AQ.skip (by kernel_rfl) rfl ?_ | refine AQ.s2b (by kernel_rfl) rfl rfl rfl rfl ?_ | refine AQ.mark (by kernel_rfl) rfl rfl rfl rfl rfl rfl rfl ?_ | refine AP.cond_true rfl rfl ?_ | refine AP.cond_false rfl rfl ?_ | (refine AP.region rfl (by kernel_rfl) ?_; simp only [go_sem, Nat.reduceAdd, Nat.reduceLeDiff, reduceCtorEq, hgp, prR_len, Int.reduceToNat, List.getD_cons_zero, List.getD_cons_succ, List.take_succ_cons, List.take_zero, List.map_cons, List.map_nil, hx1, hy1, ne_eq, hnx, not_false_eq_true]) | (refine AP.drawQ rfl rfl (by kernel_rfl) ?_; simp only [go_sem, Nat.reduceAdd, Nat.reduceLeDiff, reduceCtorEq, hgp, prR_len, Int.reduceToNat, List.getD_cons_zero, List.getD_cons_succ, List.take_succ_cons, List.take_zero, List.map_cons, List.map_nil, hx1, hy1, ne_eq, hnx, not_false_eq_true]) | (refine vq_id ?_; simp only [go_sem, Nat.reduceAdd, Nat.reduceLeDiff, reduceCtorEq, hgp, prR_len, Int.reduceToNat, List.getD_cons_zero, List.getD_cons_succ, List.take_succ_cons, List.take_zero, List.map_cons, List.map_nil, hx1, hy1, ne_eq, hnx, not_false_eq_true]) | (refine ⟨by first | omega | (intros; simp_all; done) | (intros; simp_all; omega), ?_⟩; try simp only [go_sem, Nat.reduceAdd, Nat.reduceLeDiff, reduceCtorEq, hgp, prR_len, Int.reduceToNat, List.getD_cons_zero, List.getD_cons_succ, List.take_succ_cons, List.take_zero, List.map_cons, List.map_nil, hx1, hy1, ne_eq, hnx, not_false_eq_true]))
        refine AQ.callH [(4, 4), (3, 3), (2, 2), (1, 1), (0, 0)] (by kernel_rfl) rfl rfl rfl rfl rfl rfl (by exact ⟨rfl, rfl, rfl, rfl, rfl, trivial⟩) rfl (find_h hgd2 (by omega) hxn) ?_
        rintro r' H' ⟨e1, e2⟩
        subst e1; subst e2
        refine ⟨rfl, ?_⟩
        simp only [go_sem, Nat.reduceAdd, Nat.reduceLeDiff, reduceCtorEq, SS.H, SS.Hi, setsH, setsHi]
        repeat (first | refine xPP rfl ?_ | refine xPE rfl ?_ | refine xEP rfl ?_ | refine xEE rfl ?_ | refine AQ.done ?_ | refine AQ.skip (by kernel_rfl) rfl ?_ | refine AQ.s2b (by kernel_rfl) rfl rfl rfl rfl ?_ | refine AQ.mark (by kernel_rfl) rfl rfl rfl rfl rfl rfl rfl ?_ | refine AP.cond_true rfl rfl ?_ | refine AP.cond_false rfl rfl ?_ | (refine AP.region rfl (by kernel_rfl) ?_; simp only [go_sem, Nat.reduceAdd, Nat.reduceLeDiff, reduceCtorEq]) | (refine AP.drawQ rfl rfl (by kernel_rfl) ?_; simp only [go_sem, Nat.reduceAdd, Nat.reduceLeDiff, reduceCtorEq]) | (refine vq_id ?_; simp only [go_sem, Nat.reduceAdd, Nat.reduceLeDiff, reduceCtorEq]) | (refine ⟨by first | omega | (intros; simp_all; done) | (intros; simp_all; omega), ?_⟩; try simp only [go_sem, Nat.reduceAdd, Nat.reduceLeDiff, reduceCtorEq]))
        refine AQ.callH [(4, 4), (3, 3), (2, 2), (1, 1), (0, 0)] (by kernel_rfl) rfl rfl rfl rfl rfl rfl (by exact ⟨rfl, rfl, rfl, rfl, rfl, trivial⟩) rfl (find_h hgd2 (by omega) hyn) ?_
        rintro r' H' ⟨e1, e2⟩
        subst e1; subst e2
        refine ⟨rfl, ?_⟩
        simp only [go_sem, Nat.reduceAdd, Nat.reduceLeDiff, reduceCtorEq, SS.H, SS.Hi, setsH, setsHi]
        repeat (first | refine xPP rfl ?_ | refine xPE rfl ?_ | refine xEP rfl ?_ | refine xEE rfl ?_ | refine AQ.done ?_ | refine AQ.skip (by kernel_rfl) rfl ?_ | refine AQ.s2b (by kernel_rfl) rfl rfl rfl rfl ?_ | refine AQ.mark (by kernel_rfl) rfl rfl rfl rfl rfl rfl rfl ?_ | refine AP.cond_true rfl rfl ?_ | refine AP.cond_false rfl rfl ?_ | (refine AP.region rfl (by kernel_rfl) ?_; simp only [go_sem, Nat.reduceAdd, Nat.reduceLeDiff, reduceCtorEq]) | (refine AP.drawQ rfl rfl (by kernel_rfl) ?_; simp only [go_sem, Nat.reduceAdd, Nat.reduceLeDiff, reduceCtorEq]) | (refine vq_id ?_; simp only [go_sem, Nat.reduceAdd, Nat.reduceLeDiff, reduceCtorEq]) | (refine ⟨by first | omega | (intros; simp_all; done) | (intros; simp_all; omega), ?_⟩; try simp only [go_sem, Nat.reduceAdd, Nat.reduceLeDiff, reduceCtorEq]))
        by_cases hxy : rt2 X = rt2 Y
        · have hLL : L2.getD X 0 = L2.getD Y 0 := (hgd2.eqv hxn hyn).2 hxy
          refine AQ.callH [(4, 4), (3, 3), (2, 2), (1, 1), (0, 0)] (by kernel_rfl) rfl rfl rfl rfl rfl rfl (by exact ⟨rfl, rfl, rfl, rfl, rfl, trivial⟩) rfl (union_eq hgd2 (by omega) hxn hyn hxy) ?_
          rintro r' H' ⟨e1, e2⟩
          subst e1; subst e2
          refine ⟨rfl, ?_⟩
          simp only [go_sem, Nat.reduceAdd, Nat.reduceLeDiff, reduceCtorEq, SS.H, SS.Hi, setsH, setsHi]
          repeat (first | refine xPP rfl ?_ | refine xPE rfl ?_ | refine xEP rfl ?_ | refine xEE rfl ?_ | refine AQ.done ?_ | refine AQ.skip (by kernel_rfl) rfl ?_ | refine AQ.s2b (by kernel_rfl) rfl rfl rfl rfl ?_ | refine AQ.mark (by kernel_rfl) rfl rfl rfl rfl rfl rfl rfl ?_ | refine AP.cond_true rfl rfl ?_ | refine AP.cond_false rfl rfl ?_ | (refine AP.region rfl (by kernel_rfl) ?_; simp only [go_sem, Nat.reduceAdd, Nat.reduceLeDiff, reduceCtorEq]) | (refine AP.drawQ rfl rfl (by kernel_rfl) ?_; simp only [go_sem, Nat.reduceAdd, Nat.reduceLeDiff, reduceCtorEq]) | (refine vq_id ?_; simp only [go_sem, Nat.reduceAdd, Nat.reduceLeDiff, reduceCtorEq]) | (refine ⟨by first | omega | (intros; simp_all; done) | (intros; simp_all; omega), ?_⟩; try simp only [go_sem, Nat.reduceAdd, Nat.reduceLeDiff, reduceCtorEq]))
          refine AP.cond_false rfl (by simp only [go_sem, Nat.reduceAdd, Nat.reduceLeDiff, reduceCtorEq]; refine congrArg (fun b => some (AV.im (IV.v (Value.bool b)))) ?_; (first | (simp only [Bool.or_eq_true, Bool.and_eq_true, Bool.not_eq_true', Bool.not_eq_false', Bool.and_eq_false_iff, Bool.or_eq_false_iff, decide_eq_true_eq, decide_eq_false_iff_not, beq_iff_eq, bne_iff_ne, beq_eq_false_iff_ne, bne_eq_false_iff_eq, ne_eq]; omega) | (simp; done) | (simp; omega) | (simp_all; done) | (simp_all; omega))) ?_
          repeat (first | refine xPP rfl ?_ | refine xPE rfl ?_ | refine xEP rfl ?_ | refine xEE rfl ?_ | refine AQ.done ?_ | refine AQ.skip (by kernel_rfl) rfl ?_ | refine AQ.s2b (by kernel_rfl) rfl rfl rfl rfl ?_ | refine AQ.mark (by kernel_rfl) rfl rfl rfl rfl rfl rfl rfl ?_ | refine AP.cond_true rfl rfl ?_ | refine AP.cond_false rfl rfl ?_ | (refine AP.region rfl (by kernel_rfl) ?_; simp only [go_sem, Nat.reduceAdd, Nat.reduceLeDiff, reduceCtorEq]) | (refine AP.drawQ rfl rfl (by kernel_rfl) ?_; simp only [go_sem, Nat.reduceAdd, Nat.reduceLeDiff, reduceCtorEq]) | (refine vq_id ?_; simp only [go_sem, Nat.reduceAdd, Nat.reduceLeDiff, reduceCtorEq]) | (refine ⟨by first | omega | (intros; simp_all; done) | (intros; simp_all; omega), ?_⟩; try simp only [go_sem, Nat.reduceAdd, Nat.reduceLeDiff, reduceCtorEq]))
          refine AQ.callH [(4, 4), (3, 3), (2, 2), (1, 1), (0, 0)] (by kernel_rfl) rfl rfl rfl rfl rfl rfl (by exact ⟨rfl, rfl, rfl, rfl, rfl, trivial⟩) rfl (find_h hgd2 (by omega) hxn) ?_
          rintro r' H' ⟨e1, e2⟩
          subst e1; subst e2
          refine ⟨rfl, ?_⟩
          simp only [go_sem, Nat.reduceAdd, Nat.reduceLeDiff, reduceCtorEq, SS.H, SS.Hi, setsH, setsHi]
          repeat (first | refine xPP rfl ?_ | refine xPE rfl ?_ | refine xEP rfl ?_ | refine xEE rfl ?_ | refine AQ.done ?_ | refine AQ.skip (by kernel_rfl) rfl ?_ | refine AQ.s2b (by kernel_rfl) rfl rfl rfl rfl ?_ | refine AQ.mark (by kernel_rfl) rfl rfl rfl rfl rfl rfl rfl ?_ | refine AP.cond_true rfl rfl ?_ | refine AP.cond_false rfl rfl ?_ | (refine AP.region rfl (by kernel_rfl) ?_; simp only [go_sem, Nat.reduceAdd, Nat.reduceLeDiff, reduceCtorEq]) | (refine AP.drawQ rfl rfl (by kernel_rfl) ?_; simp only [go_sem, Nat.reduceAdd, Nat.reduceLeDiff, reduceCtorEq]) | (refine vq_id ?_; simp only [go_sem, Nat.reduceAdd, Nat.reduceLeDiff, reduceCtorEq]) | (refine ⟨by first | omega | (intros; simp_all; done) | (intros; simp_all; omega), ?_⟩; try simp only [go_sem, Nat.reduceAdd, Nat.reduceLeDiff, reduceCtorEq]))
          refine AQ.callH [(4, 4), (3, 3), (2, 2), (1, 1), (0, 0)] (by kernel_rfl) rfl rfl rfl rfl rfl rfl (by exact ⟨rfl, rfl, rfl, rfl, rfl, trivial⟩) rfl (find_h hgd2 (by omega) hyn) ?_
          rintro r' H' ⟨e1, e2⟩
          subst e1; subst e2
          refine ⟨rfl, ?_⟩
          simp only [go_sem, Nat.reduceAdd, Nat.reduceLeDiff, reduceCtorEq, SS.H, SS.Hi, setsH, setsHi]
          repeat (first | refine xPP rfl ?_ | refine xPE rfl ?_ | refine xEP rfl ?_ | refine xEE rfl ?_ | refine AQ.done ?_ | refine AQ.skip (by kernel_rfl) rfl ?_ | refine AQ.s2b (by kernel_rfl) rfl rfl rfl rfl ?_ | refine AQ.mark (by kernel_rfl) rfl rfl rfl rfl rfl rfl rfl ?_ | refine AP.cond_true rfl rfl ?_ | refine AP.cond_false rfl rfl ?_ | (refine AP.region rfl (by kernel_rfl) ?_; simp only [go_sem, Nat.reduceAdd, Nat.reduceLeDiff, reduceCtorEq]) | (refine AP.drawQ rfl rfl (by kernel_rfl) ?_; simp only [go_sem, Nat.reduceAdd, Nat.reduceLeDiff, reduceCtorEq]) | (refine vq_id ?_; simp only [go_sem, Nat.reduceAdd, Nat.reduceLeDiff, reduceCtorEq]) | (refine ⟨by first | omega | (intros; simp_all; done) | (intros; simp_all; omega), ?_⟩; try simp only [go_sem, Nat.reduceAdd, Nat.reduceLeDiff, reduceCtorEq]))
          refine AP.cond_false rfl (by simp only [go_sem, Nat.reduceAdd, Nat.reduceLeDiff, reduceCtorEq]; refine congrArg (fun b => some (AV.im (IV.v (Value.bool b)))) ?_; (first | (simp only [Bool.or_eq_true, Bool.and_eq_true, Bool.not_eq_true', Bool.not_eq_false', Bool.and_eq_false_iff, Bool.or_eq_false_iff, decide_eq_true_eq, decide_eq_false_iff_not, beq_iff_eq, bne_iff_ne, beq_eq_false_iff_ne, bne_eq_false_iff_eq, ne_eq]; omega) | (simp; done) | (simp; omega) | (simp_all; done) | (simp_all; omega))) ?_
          repeat (first | refine xPP rfl ?_ | refine xPE rfl ?_ | refine xEP rfl ?_ | refine xEE rfl ?_ | refine AQ.done ?_ | refine AQ.skip (by kernel_rfl) rfl ?_ | refine AQ.s2b (by kernel_rfl) rfl rfl rfl rfl ?_ | refine AQ.mark (by kernel_rfl) rfl rfl rfl rfl rfl rfl rfl ?_ | refine AP.cond_true rfl rfl ?_ | refine AP.cond_false rfl rfl ?_ | (refine AP.region rfl (by kernel_rfl) ?_; simp only [go_sem, Nat.reduceAdd, Nat.reduceLeDiff, reduceCtorEq, hw2]) | (refine AP.drawQ rfl rfl (by kernel_rfl) ?_; simp only [go_sem, Nat.reduceAdd, Nat.reduceLeDiff, reduceCtorEq, hw2]) | (refine vq_id ?_; simp only [go_sem, Nat.reduceAdd, Nat.reduceLeDiff, reduceCtorEq, hw2]) | (refine ⟨by first | omega | (intros; simp_all; done) | (intros; simp_all; omega), ?_⟩; try simp only [go_sem, Nat.reduceAdd, Nat.reduceLeDiff, reduceCtorEq, hw2]))
          refine AE.forgets [5] rfl ?_
          simp only [go_sem, Nat.reduceAdd, Nat.reduceLeDiff, reduceCtorEq]
          exact AE.round (k2 + 1, s2) ⟨by omega, ⟨L2, P2, hh2, by simp only; omega⟩, hu2, hm2⟩ (by simp only; omega) (by repeat (first | exact Sub.nil _ | refine Sub.cons rfl ?_)) rfl
        · have hLL : L2.getD X 0 ≠ L2.getD Y 0 := fun e => hxy ((hgd2.eqv hxn hyn).1 e)
          obtain ⟨u, w, huw, hun⟩ := union_ne hgd2 (by omega) (by omega) hxn hyn hxy
          have hh3 := Hist.un hh2 hgd2 hxn hyn hxy huw
          have hgd3 := hgd2.un hxn hyn hxy huw
          have hlx : (joinL (L2.getD X 0) (L2.getD Y 0) L2).getD X 0 = min (L2.getD X 0) (L2.getD Y 0) := by rw [joinL_get _ _ _ _ (by rw [hgd2.ln]; exact hxn), if_pos (.inl rfl)]
          have hly : (joinL (L2.getD X 0) (L2.getD Y 0) L2).getD Y 0 = min (L2.getD X 0) (L2.getD Y 0) := by rw [joinL_get _ _ _ _ (by rw [hgd2.ln]; exact hyn), if_pos (.inr rfl)]
          have hf1 := find_h hgd3 (by omega) hxn
          have hf2 := find_h hgd3 (by omega) hyn
          rw [hlx] at hf1
          rw [hly] at hf2
          refine AQ.callH [(4, 4), (3, 3), (2, 2), (1, 1), (0, 0)] (by kernel_rfl) rfl rfl rfl rfl rfl rfl (by exact ⟨rfl, rfl, rfl, rfl, rfl, trivial⟩) rfl (hun) ?_
          rintro r' H' ⟨e1, e2⟩
          subst e1; subst e2
          refine ⟨rfl, ?_⟩
          simp only [go_sem, Nat.reduceAdd, Nat.reduceLeDiff, reduceCtorEq, SS.H, SS.Hi, setsH, setsHi]
          refine AQ.rename 11 4 rfl rfl rfl ?_
          simp only [go_sem, Nat.reduceAdd, Nat.reduceLeDiff, reduceCtorEq]
          repeat (first | refine xPP rfl ?_ | refine xPE rfl ?_ | refine xEP rfl ?_ | refine xEE rfl ?_ | refine AQ.done ?_ | refine AQ.skip (by kernel_rfl) rfl ?_ | refine AQ.s2b (by kernel_rfl) rfl rfl rfl rfl ?_ | refine AQ.mark (by kernel_rfl) rfl rfl rfl rfl rfl rfl rfl ?_ | refine AP.cond_true rfl rfl ?_ | refine AP.cond_false rfl rfl ?_ | (refine AP.region rfl (by kernel_rfl) ?_; simp only [go_sem, Nat.reduceAdd, Nat.reduceLeDiff, reduceCtorEq]) | (refine AP.drawQ rfl rfl (by kernel_rfl) ?_; simp only [go_sem, Nat.reduceAdd, Nat.reduceLeDiff, reduceCtorEq]) | (refine vq_id ?_; simp only [go_sem, Nat.reduceAdd, Nat.reduceLeDiff, reduceCtorEq]) | (refine ⟨by first | omega | (intros; simp_all; done) | (intros; simp_all; omega), ?_⟩; try simp only [go_sem, Nat.reduceAdd, Nat.reduceLeDiff, reduceCtorEq]))
          refine AP.cond_false rfl (by simp only [go_sem, Nat.reduceAdd, Nat.reduceLeDiff, reduceCtorEq]; refine congrArg (fun b => some (AV.im (IV.v (Value.bool b)))) ?_; (first | (simp only [Bool.or_eq_true, Bool.and_eq_true, Bool.not_eq_true', Bool.not_eq_false', Bool.and_eq_false_iff, Bool.or_eq_false_iff, decide_eq_true_eq, decide_eq_false_iff_not, beq_iff_eq, bne_iff_ne, beq_eq_false_iff_ne, bne_eq_false_iff_eq, ne_eq]; omega) | (simp; done) | (simp; omega) | (simp_all; done) | (simp_all; omega))) ?_
          repeat (first | refine xPP rfl ?_ | refine xPE rfl ?_ | refine xEP rfl ?_ | refine xEE rfl ?_ | refine AQ.done ?_ | refine AQ.skip (by kernel_rfl) rfl ?_ | refine AQ.s2b (by kernel_rfl) rfl rfl rfl rfl ?_ | refine AQ.mark (by kernel_rfl) rfl rfl rfl rfl rfl rfl rfl ?_ | refine AP.cond_true rfl rfl ?_ | refine AP.cond_false rfl rfl ?_ | (refine AP.region rfl (by kernel_rfl) ?_; simp only [go_sem, Nat.reduceAdd, Nat.reduceLeDiff, reduceCtorEq]) | (refine AP.drawQ rfl rfl (by kernel_rfl) ?_; simp only [go_sem, Nat.reduceAdd, Nat.reduceLeDiff, reduceCtorEq]) | (refine vq_id ?_; simp only [go_sem, Nat.reduceAdd, Nat.reduceLeDiff, reduceCtorEq]) | (refine ⟨by first | omega | (intros; simp_all; done) | (intros; simp_all; omega), ?_⟩; try simp only [go_sem, Nat.reduceAdd, Nat.reduceLeDiff, reduceCtorEq]))
          refine AQ.callH [(4, 4), (3, 3), (2, 2), (1, 1), (0, 0)] (by kernel_rfl) rfl rfl rfl rfl rfl rfl (by exact ⟨rfl, rfl, rfl, rfl, rfl, trivial⟩) rfl (hf1) ?_
          rintro r' H' ⟨e1, e2⟩
          subst e1; subst e2
          refine ⟨rfl, ?_⟩
          simp only [go_sem, Nat.reduceAdd, Nat.reduceLeDiff, reduceCtorEq, SS.H, SS.Hi, setsH, setsHi]
          repeat (first | refine xPP rfl ?_ | refine xPE rfl ?_ | refine xEP rfl ?_ | refine xEE rfl ?_ | refine AQ.done ?_ | refine AQ.skip (by kernel_rfl) rfl ?_ | refine AQ.s2b (by kernel_rfl) rfl rfl rfl rfl ?_ | refine AQ.mark (by kernel_rfl) rfl rfl rfl rfl rfl rfl rfl ?_ | refine AP.cond_true rfl rfl ?_ | refine AP.cond_false rfl rfl ?_ | (refine AP.region rfl (by kernel_rfl) ?_; simp only [go_sem, Nat.reduceAdd, Nat.reduceLeDiff, reduceCtorEq]) | (refine AP.drawQ rfl rfl (by kernel_rfl) ?_; simp only [go_sem, Nat.reduceAdd, Nat.reduceLeDiff, reduceCtorEq]) | (refine vq_id ?_; simp only [go_sem, Nat.reduceAdd, Nat.reduceLeDiff, reduceCtorEq]) | (refine ⟨by first | omega | (intros; simp_all; done) | (intros; simp_all; omega), ?_⟩; try simp only [go_sem, Nat.reduceAdd, Nat.reduceLeDiff, reduceCtorEq]))
          refine AQ.callH [(4, 4), (3, 3), (2, 2), (1, 1), (0, 0)] (by kernel_rfl) rfl rfl rfl rfl rfl rfl (by exact ⟨rfl, rfl, rfl, rfl, rfl, trivial⟩) rfl (hf2) ?_
          rintro r' H' ⟨e1, e2⟩
          subst e1; subst e2
          refine ⟨rfl, ?_⟩
          simp only [go_sem, Nat.reduceAdd, Nat.reduceLeDiff, reduceCtorEq, SS.H, SS.Hi, setsH, setsHi]
          repeat (first | refine xPP rfl ?_ | refine xPE rfl ?_ | refine xEP rfl ?_ | refine xEE rfl ?_ | refine AQ.done ?_ | refine AQ.skip (by kernel_rfl) rfl ?_ | refine AQ.s2b (by kernel_rfl) rfl rfl rfl rfl ?_ | refine AQ.mark (by kernel_rfl) rfl rfl rfl rfl rfl rfl rfl ?_ | refine AP.cond_true rfl rfl ?_ | refine AP.cond_false rfl rfl ?_ | (refine AP.region rfl (by kernel_rfl) ?_; simp only [go_sem, Nat.reduceAdd, Nat.reduceLeDiff, reduceCtorEq]) | (refine AP.drawQ rfl rfl (by kernel_rfl) ?_; simp only [go_sem, Nat.reduceAdd, Nat.reduceLeDiff, reduceCtorEq]) | (refine vq_id ?_; simp only [go_sem, Nat.reduceAdd, Nat.reduceLeDiff, reduceCtorEq]) | (refine ⟨by first | omega | (intros; simp_all; done) | (intros; simp_all; omega), ?_⟩; try simp only [go_sem, Nat.reduceAdd, Nat.reduceLeDiff, reduceCtorEq]))
          refine AP.cond_false rfl (by simp only [go_sem, Nat.reduceAdd, Nat.reduceLeDiff, reduceCtorEq]; refine congrArg (fun b => some (AV.im (IV.v (Value.bool b)))) ?_; (first | (simp only [Bool.or_eq_true, Bool.and_eq_true, Bool.not_eq_true', Bool.not_eq_false', Bool.and_eq_false_iff, Bool.or_eq_false_iff, decide_eq_true_eq, decide_eq_false_iff_not, beq_iff_eq, bne_iff_ne, beq_eq_false_iff_ne, bne_eq_false_iff_eq, ne_eq]; omega) | (simp; done) | (simp; omega) | (simp_all; done) | (simp_all; omega))) ?_
          repeat (first | refine xPP rfl ?_ | refine xPE rfl ?_ | refine xEP rfl ?_ | refine xEE rfl ?_ | refine AQ.done ?_ | refine AQ.skip (by kernel_rfl) rfl ?_ | refine AQ.s2b (by kernel_rfl) rfl rfl rfl rfl ?_ | refine AQ.mark (by kernel_rfl) rfl rfl rfl rfl rfl rfl rfl ?_ | refine AP.cond_true rfl rfl ?_ | refine AP.cond_false rfl rfl ?_ | (refine AP.region rfl (by kernel_rfl) ?_; simp only [go_sem, Nat.reduceAdd, Nat.reduceLeDiff, reduceCtorEq, hw2]) | (refine AP.drawQ rfl rfl (by kernel_rfl) ?_; simp only [go_sem, Nat.reduceAdd, Nat.reduceLeDiff, reduceCtorEq, hw2]) | (refine vq_id ?_; simp only [go_sem, Nat.reduceAdd, Nat.reduceLeDiff, reduceCtorEq, hw2]) | (refine ⟨by first | omega | (intros; simp_all; done) | (intros; simp_all; omega), ?_⟩; try simp only [go_sem, Nat.reduceAdd, Nat.reduceLeDiff, reduceCtorEq, hw2]))
          refine AE.forgets [5] rfl ?_
          simp only [go_sem, Nat.reduceAdd, Nat.reduceLeDiff, reduceCtorEq]
          refine AE.order [4, 3, 2, 1, 0] rfl ?_
          simp only [go_sem, Nat.reduceAdd, Nat.reduceLeDiff, reduceCtorEq]
          refine AE.round (k2 + 1, s2.un u w) ⟨by omega, ⟨_, _, hh3, by rw [List.length_append]; simp; omega⟩, ?_, by simp [SS.un]; omega⟩ (by simp only; omega) (by repeat (first | exact Sub.nil _ | refine Sub.cons rfl ?_)) rfl
          have : (s2.un u w).l.length - s.l.length = (s2.l.length - s.l.length) + 1 := by simp [SS.un]; omega
          simp only [this]
          rw [und_un' hgd2 hxn hyn huw, hu2]
    · have hgp := prR_get A k hlt
      obtain ⟨x, hx⟩ : ∃ x, (A.getD k (0, 0)).1 = x := ⟨_, rfl⟩
      obtain ⟨y, hy⟩ : ∃ y, (A.getD k (0, 0)).2 = y := ⟨_, rfl⟩
      rw [hx, hy] at hgp
      simp only [go_sem, Nat.reduceAdd, Nat.reduceLeDiff, reduceCtorEq, SS.H, setsH]
      repeat (first | refine xPP rfl ?_ | refine xPE rfl ?_ | refine xEP rfl ?_ | refine xEE rfl ?_ | refine AQ.done ?_ | refine AQ.skip (by kernel_rfl) rfl ?_ | refine AQ.s2b (by kernel_rfl) rfl rfl rfl rfl ?_ | refine AQ.mark (by kernel_rfl) rfl rfl rfl rfl rfl rfl rfl ?_ | refine AP.cond_true rfl rfl ?_ | refine AP.cond_false rfl rfl ?_ | (refine AP.region rfl (by kernel_rfl) ?_; simp only [go_sem, Nat.reduceAdd, Nat.reduceLeDiff, reduceCtorEq]) | (refine AP.drawQ rfl rfl (by kernel_rfl) ?_; simp only [go_sem, Nat.reduceAdd, Nat.reduceLeDiff, reduceCtorEq]) | (refine vq_id ?_; simp only [go_sem, Nat.reduceAdd, Nat.reduceLeDiff, reduceCtorEq]) | (refine ⟨by first | omega | (intros; simp_all; done) | (intros; simp_all; omega), ?_⟩; try simp only [go_sem, Nat.reduceAdd, Nat.reduceLeDiff, reduceCtorEq]))
      refine AP.cond_true rfl (by simp only [go_sem, Nat.reduceAdd, Nat.reduceLeDiff, reduceCtorEq]; refine congrArg (fun b => some (AV.im (IV.v (Value.bool b)))) ?_; (first | (simp only [Bool.or_eq_true, Bool.and_eq_true, Bool.not_eq_true', Bool.not_eq_false', Bool.and_eq_false_iff, Bool.or_eq_false_iff, decide_eq_true_eq, decide_eq_false_iff_not, beq_iff_eq, bne_iff_ne, beq_eq_false_iff_ne, bne_eq_false_iff_eq, ne_eq]; omega) | (simp; done) | (simp; omega) | (simp_all; done) | (simp_all; omega))) ?_
      repeat (first | refine xPP rfl ?_ | refine xPE rfl ?_ | refine xEP rfl ?_ | refine xEE rfl ?_ | refine AQ.done ?_ | refine AQ.skip (by kernel_rfl) rfl ?_ | refine AQ.s2b (by kernel_rfl) rfl rfl rfl rfl ?_ | refine AQ.mark (by kernel_rfl) rfl rfl rfl rfl rfl rfl rfl ?_ | refine AP.cond_true rfl rfl ?_ | refine AP.cond_false rfl rfl ?_ | (refine AP.region rfl (by kernel_rfl) ?_; simp only [go_sem, Nat.reduceAdd, Nat.reduceLeDiff, reduceCtorEq, hgp, prR_len]) | (refine AP.drawQ rfl rfl (by kernel_rfl) ?_; simp only [go_sem, Nat.reduceAdd, Nat.reduceLeDiff, reduceCtorEq, hgp, prR_len]) | (refine vq_id ?_; simp only [go_sem, Nat.reduceAdd, Nat.reduceLeDiff, reduceCtorEq, hgp, prR_len]) | (refine ⟨by first | omega | (intros; simp_all; done) | (intros; simp_all; omega), ?_⟩; try simp only [go_sem, Nat.reduceAdd, Nat.reduceLeDiff, reduceCtorEq, hgp, prR_len]))
      have hnx : ((n : Int) ≠ 0) := by omega
      have hx1 : IntKind.i64.wrap (Int.tmod (x : Int) n) = ((x % n : Nat) : Int) := by
        rw [show Int.tmod (x : Int) n = ((x % n : Nat) : Int) from rfl]
        exact wr (by have := Nat.mod_lt x (show 0 < n by omega); omega)
      have hy1 : IntKind.i64.wrap (Int.tmod (y : Int) n) = ((y % n : Nat) : Int) := by
        rw [show Int.tmod (y : Int) n = ((y % n : Nat) : Int) from rfl]
        exact wr (by have := Nat.mod_lt y (show 0 < n by omega); omega)
      have hxn := Nat.mod_lt x (show 0 < n by omega)
      have hyn := Nat.mod_lt y (show 0 < n by omega)
      refine AP.drawE 12 (Tree.node [] [0, 1, 2, 3, 4, 5, 6, 7, 8, 9, 10] [11] [Tree.node [] [] [] []]) (by kernel_rfl) rfl (by kernel_rfl) (by kernel_rfl) ?_
      refine vd_node ?_
      simp only [go_sem, Nat.reduceAdd, Nat.reduceLeDiff, reduceCtorEq, Int.reduceToNat, List.getD_cons_zero, List.getD_cons_succ, List.take_succ_cons, List.take_zero, List.map_cons, List.map_nil, hx1, hy1, ne_eq, hnx, not_false_eq_true]
      repeat (with_reducible refine And.intro (by omega) ?_)
      by_cases hxy : rt (x % n) = rt (y % n)
      · refine AQ.callH [(4, 4), (3, 3), (2, 2), (1, 1), (0, 0)] (by kernel_rfl) rfl rfl rfl rfl rfl rfl (by exact ⟨rfl, rfl, rfl, rfl, rfl, trivial⟩) rfl (union_eq hgd (by omega) hxn hyn hxy) ?_
        rintro r' H' ⟨e1, e2⟩
        subst e1; subst e2
        refine ⟨rfl, ?_⟩
        simp only [go_sem, Nat.reduceAdd, Nat.reduceLeDiff, reduceCtorEq, SS.H, setsH]
        refine AQ.nx rfl ?_
        simp only [go_sem, Nat.reduceAdd, Nat.reduceLeDiff, reduceCtorEq]
        repeat (first | refine xPP rfl ?_ | refine xPE rfl ?_ | refine xEP rfl ?_ | refine xEE rfl ?_ | refine AQ.done ?_ | refine AQ.skip (by kernel_rfl) rfl ?_ | refine AQ.s2b (by kernel_rfl) rfl rfl rfl rfl ?_ | refine AQ.mark (by kernel_rfl) rfl rfl rfl rfl rfl rfl rfl ?_ | refine AP.cond_true rfl rfl ?_ | refine AP.cond_false rfl rfl ?_ | (refine AP.region rfl (by kernel_rfl) ?_; simp only [go_sem, Nat.reduceAdd, Nat.reduceLeDiff, reduceCtorEq, hw]) | (refine AP.drawQ rfl rfl (by kernel_rfl) ?_; simp only [go_sem, Nat.reduceAdd, Nat.reduceLeDiff, reduceCtorEq, hw]) | (refine vq_id ?_; simp only [go_sem, Nat.reduceAdd, Nat.reduceLeDiff, reduceCtorEq, hw]) | (refine ⟨by first | omega | (intros; simp_all; done) | (intros; simp_all; omega), ?_⟩; try simp only [go_sem, Nat.reduceAdd, Nat.reduceLeDiff, reduceCtorEq, hw]))
        refine AE.forgets [5] rfl ?_
        simp only [go_sem, Nat.reduceAdd, Nat.reduceLeDiff, reduceCtorEq]
        exact AE.round (k + 1, s) ⟨by omega, L, P, hh, by omega⟩ (by simp only; omega) (by repeat (first | exact Sub.nil _ | refine Sub.cons rfl ?_)) rfl
      · obtain ⟨u, w, huw, hun⟩ := union_ne hgd (by omega) (by omega) hxn hyn hxy
        refine AQ.callH [(4, 4), (3, 3), (2, 2), (1, 1), (0, 0)] (by kernel_rfl) rfl rfl rfl rfl rfl rfl (by exact ⟨rfl, rfl, rfl, rfl, rfl, trivial⟩) rfl hun ?_
        rintro r' H' ⟨e1, e2⟩
        subst e1; subst e2
        refine ⟨rfl, ?_⟩
        simp only [go_sem, Nat.reduceAdd, Nat.reduceLeDiff, reduceCtorEq, SS.Hi, setsHi]
        refine AQ.nx rfl ?_
        simp only [go_sem, Nat.reduceAdd, Nat.reduceLeDiff, reduceCtorEq]
        repeat (first | refine xPP rfl ?_ | refine xPE rfl ?_ | refine xEP rfl ?_ | refine xEE rfl ?_ | refine AQ.done ?_ | refine AQ.skip (by kernel_rfl) rfl ?_ | refine AQ.s2b (by kernel_rfl) rfl rfl rfl rfl ?_ | refine AQ.mark (by kernel_rfl) rfl rfl rfl rfl rfl rfl rfl ?_ | refine AP.cond_true rfl rfl ?_ | refine AP.cond_false rfl rfl ?_ | (refine AP.region rfl (by kernel_rfl) ?_; simp only [go_sem, Nat.reduceAdd, Nat.reduceLeDiff, reduceCtorEq, hw]) | (refine AP.drawQ rfl rfl (by kernel_rfl) ?_; simp only [go_sem, Nat.reduceAdd, Nat.reduceLeDiff, reduceCtorEq, hw]) | (refine vq_id ?_; simp only [go_sem, Nat.reduceAdd, Nat.reduceLeDiff, reduceCtorEq, hw]) | (refine ⟨by first | omega | (intros; simp_all; done) | (intros; simp_all; omega), ?_⟩; try simp only [go_sem, Nat.reduceAdd, Nat.reduceLeDiff, reduceCtorEq, hw]))
        refine AE.forgets [5] rfl ?_
        simp only [go_sem, Nat.reduceAdd, Nat.reduceLeDiff, reduceCtorEq]
        refine AE.rename 11 4 rfl rfl rfl ?_
        simp only [go_sem, Nat.reduceAdd, Nat.reduceLeDiff, reduceCtorEq]
        refine AE.order [4, 3, 2, 1, 0] rfl ?_
        simp only [go_sem, Nat.reduceAdd, Nat.reduceLeDiff, reduceCtorEq]
        exact AE.round (k + 1, s.un u w) ⟨by omega, _, _, Hist.un hh hgd hxn hyn hxy huw, by rw [List.length_append]; simp; omega⟩ (by simp only; omega) (by repeat (first | exact Sub.nil _ | refine Sub.cons rfl ?_)) rfl
  · refine AP.cond_true rfl (by simp only [go_sem, Nat.reduceAdd, Nat.reduceLeDiff, reduceCtorEq]; refine congrArg (fun b => some (AV.im (IV.v (Value.bool b)))) ?_; (first | (simp only [Bool.or_eq_true, Bool.and_eq_true, Bool.not_eq_true', Bool.not_eq_false', Bool.and_eq_false_iff, Bool.or_eq_false_iff, decide_eq_true_eq, decide_eq_false_iff_not, beq_iff_eq, bne_iff_ne, beq_eq_false_iff_ne, bne_eq_false_iff_eq, ne_eq]; omega) | (simp; done) | (simp; omega) | (simp_all; done) | (simp_all; omega))) ?_
    repeat (first | refine xPP rfl ?_ | refine xPE rfl ?_ | refine xEP rfl ?_ | refine xEE rfl ?_ | refine AQ.done ?_ | refine AQ.skip (by kernel_rfl) rfl ?_ | refine AQ.s2b (by kernel_rfl) rfl rfl rfl rfl ?_ | refine AQ.mark (by kernel_rfl) rfl rfl rfl rfl rfl rfl rfl ?_ | refine AP.cond_true rfl rfl ?_ | refine AP.cond_false rfl rfl ?_ | (refine AP.region rfl (by kernel_rfl) ?_; simp only [go_sem, Nat.reduceAdd, Nat.reduceLeDiff, reduceCtorEq]) | (refine AP.drawQ rfl rfl (by kernel_rfl) ?_; simp only [go_sem, Nat.reduceAdd, Nat.reduceLeDiff, reduceCtorEq]) | (refine vq_id ?_; simp only [go_sem, Nat.reduceAdd, Nat.reduceLeDiff, reduceCtorEq]) | (refine ⟨by first | omega | (intros; simp_all; done) | (intros; simp_all; omega), ?_⟩; try simp only [go_sem, Nat.reduceAdd, Nat.reduceLeDiff, reduceCtorEq]))
    refine AQ.fn (by kernel_rfl) rfl rfl rfl (awake_spec) rfl ?_
    repeat (first | refine xPP rfl ?_ | refine xPE rfl ?_ | refine xEP rfl ?_ | refine xEE rfl ?_ | refine AQ.done ?_ | refine AQ.skip (by kernel_rfl) rfl ?_ | refine AQ.s2b (by kernel_rfl) rfl rfl rfl rfl ?_ | refine AQ.mark (by kernel_rfl) rfl rfl rfl rfl rfl rfl rfl ?_ | refine AP.cond_true rfl rfl ?_ | refine AP.cond_false rfl rfl ?_ | (refine AP.region rfl (by kernel_rfl) ?_; simp only [go_sem, Nat.reduceAdd, Nat.reduceLeDiff, reduceCtorEq]) | (refine AP.drawQ rfl rfl (by kernel_rfl) ?_; simp only [go_sem, Nat.reduceAdd, Nat.reduceLeDiff, reduceCtorEq]) | (refine vq_id ?_; simp only [go_sem, Nat.reduceAdd, Nat.reduceLeDiff, reduceCtorEq]) | (refine ⟨by first | omega | (intros; simp_all; done) | (intros; simp_all; omega), ?_⟩; try simp only [go_sem, Nat.reduceAdd, Nat.reduceLeDiff, reduceCtorEq]))
    exact AE.ret0 rfl ⟨rfl, trivial⟩ rfl ⟨rfl, rfl⟩
end Go.Proofs.Ytfgffpkdjmeaoaa
end

section
namespace Go.Proofs.Ytfgffpkdjmeaoaa
open Go Go.AL Go.RowKit
set_option maxRecDepth 100000
theorem u8_natS {i : Int} (h : (Lit.int .u8 i).wf = true) : ∃ n : Nat, i = n ∧ n < 256 := by
  simp [Lit.wf, IntKind.min, IntKind.max, IntKind.bits, IntKind.signed] at h
  exact ⟨i.toNat, by omega, by omega⟩
theorem typed_array {P : Program} {n m : Nat} {t e : TypeId} {xs : List IV} (ht : P.underlying t = some (.array m e)) (h : Typed P n t xs) :
    ∃ k, xs.length = P.cellsOf t ∧ ∀ i, i < m → Typed P k e ((xs.drop (i * P.cellsOf e)).take (P.cellsOf e)) := by
  cases n with
  | zero => exact h.elim
  | succ n =>
    simp only [Typed, ht] at h
    exact ⟨n, h⟩
theorem prs_of {n : Nat} {xs : List IV} (h : Typed Try.prog n 75 xs) : ∃ l : List (Nat × Nat), xs = [.sl 2 (prR l)] ∧ (∀ p ∈ l, p.1 < 256 ∧ p.2 < 256) ∧ l.length ≤ 9223372036854775807 := by
  have hc : Try.prog.cellsOf 76 = 2 := by kernel_rfl
  have hc5 : Try.prog.cellsOf 5 = 1 := by kernel_rfl
  obtain ⟨rows, m, rfl, hr, hrow⟩ := typed_slice Try.underlying75 h
  obtain ⟨l, rfl, hl⟩ := rows_of (p := fun o : Nat × Nat => o.1 < 256 ∧ o.2 < 256) (f := fun o => [.v (.int .u8 o.1), .v (.int .u8 o.2)]) rows fun r hr => by
    obtain ⟨m', hlen, hf⟩ := typed_array Try.underlying76 (hrow r hr)
    rw [hc] at hlen
    match r, hlen with
    | [a, b], _ =>
      have f0 := hf 0 (by omega)
      have f1 := hf 1 (by omega)
      simp only [hc5, Nat.zero_mul, Nat.one_mul, List.drop_zero, List.take_succ_cons, List.take_zero, List.drop_succ_cons] at f0 f1
      obtain ⟨i0, e0, w0⟩ := typed_int Try.underlying5 f0
      obtain ⟨i1, e1, w1⟩ := typed_int Try.underlying5 f1
      obtain ⟨n0, rfl, b0⟩ := u8_natS w0
      obtain ⟨n1, rfl, b1⟩ := u8_natS w1
      cases e0; cases e1
      exact ⟨(n0, n1), rfl, b0, b1⟩
  refine ⟨l, by rw [hc]; rfl, hl, ?_⟩
  rw [List.length_map] at hr
  unfold maxLen at hr
  omega
end Go.Proofs.Ytfgffpkdjmeaoaa
end
