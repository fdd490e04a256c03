import Derived.Test.YtoafanbfminhcaaW2
set_option linter.unusedSimpArgs false
set_option linter.unusedVariables false
set_option linter.unnecessarySimpa false
section
namespace Go.Proofs.Ytoafanbfminhcaa
open Go Go.AL Go.RowKit
set_option maxRecDepth 10000
set_option maxHeartbeats 4000000
abbrev B8 (n : Int) : AV := .im (.v (.int .u8 n))
def shortL (l : List Ac) : Bool := decide ((l.length : Int) ≤ 40) && !l.any longA
theorem longA_not {l : List Ac} (h : shortL l = true) : l.length ≤ 40 ∧ ∀ a ∈ l, (a.t.length ≤ 300 ∨ (10000 < a.t.length ∧ a.t.length ≤ 10100)) ∧ a.f.length ≤ 100 := by
  simp only [shortL, Bool.and_eq_true, decide_eq_true_eq, Bool.not_eq_true', List.any_eq_false] at h
  refine ⟨by omega, fun a ha => ?_⟩
  have := h.2 a ha
  simp only [longA, Bool.or_eq_true, Bool.and_eq_true, decide_eq_true_eq] at this
  omega
theorem open_sel (d : Dk) (hd : d.Sz) (hok : d.Ok) {c : Sc} {h : Nat} (hs : Sel (arA d.syncD.B) (arB d.syncD.B) c h) {x : Jn} (hx : openJ d c h = x) : ACall Try.prog 12 [d.v] [] (fun r H' => H' = x.H 1 2 ∧ r = .tup [.ob 0 0, Iv 0]) :=
  (open_walk d hd hok).mono fun r H' hr => by
    have := hr.2 c h hs
    rw [hx] at this; exact this
theorem keeps_few (b : Nat) (l : List Ac) (hl : l.length < 9223372036854775808) (h : (!shortL l || decide (60 < (b : Int)) || decide ((b : Int) < 4) || (b : Int).tmod 2 == 1) = true) : PFn Try.prog 3 [B8 b, .im (.sl 3 (acR l))] (Bv true) := by
  have hs := short_spec l hl
  rw [show (decide ((l.length : Int) ≤ 40) && !l.any longA) = shortL l from rfl] at hs
  refine ACall.walk [0, 1, 4, 5, 6, 7, 8, 9, 10, 12, 13, 30, 48, 53, 54, 55, 56, 61, 66, 72, 78, 108, 117] [5, 12, 13] Try.func3 rfl Try.ntmps3 (by kernel_rfl) (by rfl) rfl fun W own I0 φ0 => ?_
  repeat (first | refine xA ?_ | refine xB ?_ | refine xC ?_ | refine xE ?_ | refine xD ?_ | refine xK ?_ | refine xS ?_ | refine xM ?_ | refine xT ?_ | refine xF ?_ | ((first | refine xR ?_ | refine xW ?_ | refine vq_id ?_); simp only [go_sem, Nat.reduceAdd, Nat.reduceLeDiff, Nat.reduceSub, Int.reduceToNat, reduceCtorEq]) | (refine ⟨by first | omega | (intros; simp_all; done) | (intros; simp_all; omega), ?_⟩; try simp only [go_sem, Nat.reduceAdd, Nat.reduceLeDiff, Nat.reduceSub, Int.reduceToNat, reduceCtorEq]))
  refine AQ.fn (by kernel_rfl) rfl rfl rfl (hs) rfl ?_
  repeat (first | refine xA ?_ | refine xB ?_ | refine xC ?_ | refine xE ?_ | refine xD ?_ | refine xK ?_ | refine xS ?_ | refine xM ?_ | refine xT ?_ | refine xF ?_ | ((first | refine xR ?_ | refine xW ?_ | refine vq_id ?_); simp only [go_sem, Nat.reduceAdd, Nat.reduceLeDiff, Nat.reduceSub, Int.reduceToNat, reduceCtorEq, h]) | (refine ⟨by first | omega | (intros; simp_all; done) | (intros; simp_all; omega), ?_⟩; try simp only [go_sem, Nat.reduceAdd, Nat.reduceLeDiff, Nat.reduceSub, Int.reduceToNat, reduceCtorEq, h]))
  refine AQ.fn (by kernel_rfl) rfl rfl rfl (awake_spec) rfl ?_
  repeat (first | refine xA ?_ | refine xB ?_ | refine xC ?_ | refine xE ?_ | refine xD ?_ | refine xK ?_ | refine xS ?_ | refine xM ?_ | refine xT ?_ | refine xF ?_ | ((first | refine xR ?_ | refine xW ?_ | refine vq_id ?_); simp only [go_sem, Nat.reduceAdd, Nat.reduceLeDiff, Nat.reduceSub, Int.reduceToNat, reduceCtorEq]) | (refine ⟨by first | omega | (intros; simp_all; done) | (intros; simp_all; omega), ?_⟩; try simp only [go_sem, Nat.reduceAdd, Nat.reduceLeDiff, Nat.reduceSub, Int.reduceToNat, reduceCtorEq]))
  exact AE.ret0 rfl ⟨rfl, trivial⟩ rfl ⟨rfl, rfl⟩
abbrev kH (x : Jn) (now : List Bs) (d : Dk) : Heap := [(12, .vec 9 1 (blkR x.recs)), (11, .vec 97 2 (wrR x.W)), (10, .var 93 (x.cs 11 12)), (13, .vec 9 1 (blkR now)), (0, .var 28 [.im (.sl 1 (blkR d.B)), .im (.sl 2 (wrR d.W))])]
theorem keeps_go (m : Nat) (l : List Ac) (h1 : 2 ≤ m) (h2 : m ≤ 30) (hl : shortL l = true) : PFn Try.prog 3 [B8 (2 * m : Nat), .im (.sl 3 (acR l))] (Bv true) := by
  obtain ⟨hl40, hlA⟩ := longA_not hl
  have hs := short_spec l (by omega)
  rw [show (decide ((l.length : Int) ≤ 40) && !l.any longA) = shortL l from rfl, hl] at hs
  have hg : (decide (60 < ((2 * m : Nat) : Int)) || decide (((2 * m : Nat) : Int) < 4) || ((2 * m : Nat) : Int).tmod 2 == 1) = false := by
    have e1 : decide (60 < ((2 * m : Nat) : Int)) = false := by simp; omega
    have e2 : decide (((2 * m : Nat) : Int) < 4) = false := by simp; omega
    have e3 : ((2 * m : Nat) : Int).tmod 2 = 0 := by rw [Int.natCast_mul]; exact Int.mul_tmod_right _ _
    rw [e1, e2, e3]; rfl
  have hw := wr (x := ((2 * m : Nat) : Int)) (by omega)
  have hok : okN (2 * m) = true := by unfold okN; simp; omega
  have hf := format_ok (2 * m) hok
  obtain ⟨hKI, c0, hsel, hop⟩ := KI.init m h1 (by omega)
  have hsz := hKI.sz
  have hopen := open_sel (x0 (2 * m)).D ⟨by have := hsz.1.b; simp only; omega, by simp [x0]⟩ hsz.2.1 hsel hop
  have hal := all_own (x0 (2 * m)) [] [] rfl (by simp)
  rw [show (⟨fmtS (2 * m), []⟩ : Dk) = (x0 (2 * m)).D from rfl] at hf
  have hr0 : (x0 (2 * m)).recs = [[]] := rfl
  obtain ⟨X, hX⟩ : ∃ X, x0 (2 * m) = X := ⟨_, rfl⟩
  rw [hX] at hf hopen hal hKI hr0
  obtain ⟨n, hn⟩ : ∃ n, 2 * m = n := ⟨_, rfl⟩
  rw [hn] at hg hw hf ⊢
  refine ACall.walk [0, 1, 4, 5, 6, 7, 8, 9, 10, 12, 13, 30, 48, 53, 54, 55, 56, 61, 66, 72, 78, 108, 117] [5, 12, 13] Try.func3 rfl Try.ntmps3 (by kernel_rfl) (by rfl) rfl fun W own I0 φ0 => ?_
  repeat (first | refine xA ?_ | refine xB ?_ | refine xC ?_ | refine xE ?_ | refine xD ?_ | refine xK ?_ | refine xS ?_ | refine xM ?_ | refine xT ?_ | refine xF ?_ | ((first | refine xR ?_ | refine xW ?_ | refine vq_id ?_); simp only [go_sem, Nat.reduceAdd, Nat.reduceLeDiff, Nat.reduceSub, Int.reduceToNat, reduceCtorEq]) | (refine ⟨by first | omega | (intros; simp_all; done) | (intros; simp_all; omega), ?_⟩; try simp only [go_sem, Nat.reduceAdd, Nat.reduceLeDiff, Nat.reduceSub, Int.reduceToNat, reduceCtorEq]))
  refine AQ.fn (by kernel_rfl) rfl rfl rfl (hs) rfl ?_
  repeat (first | refine xA ?_ | refine xB ?_ | refine xC ?_ | refine xE ?_ | refine xD ?_ | refine xK ?_ | refine xS ?_ | refine xM ?_ | refine xT ?_ | refine xF ?_ | ((first | refine xR ?_ | refine xW ?_ | refine vq_id ?_); simp only [go_sem, Nat.reduceAdd, Nat.reduceLeDiff, Nat.reduceSub, Int.reduceToNat, reduceCtorEq, hg, hw]) | (refine ⟨by first | omega | (intros; simp_all; done) | (intros; simp_all; omega), ?_⟩; try simp only [go_sem, Nat.reduceAdd, Nat.reduceLeDiff, Nat.reduceSub, Int.reduceToNat, reduceCtorEq, hg, hw]))
  refine AQ.fn (by kernel_rfl) rfl rfl rfl (hf) rfl ?_
  repeat (first | refine xA ?_ | refine xB ?_ | refine xC ?_ | refine xE ?_ | refine xD ?_ | refine xK ?_ | refine xS ?_ | refine xM ?_ | refine xT ?_ | refine xF ?_ | ((first | refine xR ?_ | refine xW ?_ | refine vq_id ?_); simp only [go_sem, Nat.reduceAdd, Nat.reduceLeDiff, Nat.reduceSub, Int.reduceToNat, reduceCtorEq, Int.reduceBNe]) | (refine ⟨by first | omega | (intros; simp_all; done) | (intros; simp_all; omega), ?_⟩; try simp only [go_sem, Nat.reduceAdd, Nat.reduceLeDiff, Nat.reduceSub, Int.reduceToNat, reduceCtorEq, Int.reduceBNe]))
  refine AQ.callv (by kernel_rfl) rfl rfl rfl hopen fun r' H' ⟨e1, e2⟩ => ?_
  subst e1; subst e2
  simp only [go_sem, Nat.reduceAdd, Nat.reduceLeDiff, Nat.reduceSub, Int.reduceToNat, reduceCtorEq, Jn.H]
  repeat (first | refine xA ?_ | refine xB ?_ | refine xC ?_ | refine xE ?_ | refine xD ?_ | refine xK ?_ | refine xS ?_ | refine xM ?_ | refine xT ?_ | refine xF ?_ | ((first | refine xR ?_ | refine xW ?_ | refine vq_id ?_); simp only [go_sem, Nat.reduceAdd, Nat.reduceLeDiff, Nat.reduceSub, Int.reduceToNat, reduceCtorEq, Int.reduceBNe]) | (refine ⟨by first | omega | (intros; simp_all; done) | (intros; simp_all; omega), ?_⟩; try simp only [go_sem, Nat.reduceAdd, Nat.reduceLeDiff, Nat.reduceSub, Int.reduceToNat, reduceCtorEq, Int.reduceBNe]))
  refine AQ.callL ([.im (.pt X.ic)]) (by kernel_rfl) rfl rfl rfl (by ((try simp only [List.nil_append, List.append_nil, List.map_cons, List.map_nil, AV.st, constAV]); repeat (first | with_reducible exact LentC.nil | with_reducible exact LentAs.nil | with_reducible refine LentC.cons ?_ ?_ | with_reducible refine LentAs.cons ?_ ?_ | with_reducible exact Lent.im _ | with_reducible exact LentA.im _ | with_reducible refine LentA.of ?_ | with_reducible refine LentA.agg ?_ | ((with_reducible apply Lent.osw); rfl; simp only [blkR_len, wrR_len, byteR_len, List.length_append, List.length_cons, List.length_nil]) | ((with_reducible apply Lent.ob0); rfl)))) (hal) fun r1 H1 ⟨e1, e2⟩ => ?_; subst e1; subst e2; refine ⟨rfl, ⟨blkR_plain _, trivial⟩, ?_⟩
  simp only [go_sem, Nat.reduceAdd, Nat.reduceLeDiff, Nat.reduceSub, Int.reduceToNat, reduceCtorEq]
  refine AQ.go (by kernel_rfl) ?_
  simp only [go_sem, Nat.reduceAdd, Nat.reduceLeDiff, Nat.reduceSub, Int.reduceToNat, reduceCtorEq]
  refine AQ.callL ([.im (.pt X.ic)]) (by kernel_rfl) rfl rfl rfl (by ((try simp only [List.nil_append, List.append_nil, List.map_cons, List.map_nil, AV.st, constAV]); repeat (first | with_reducible exact LentC.nil | with_reducible exact LentAs.nil | with_reducible refine LentC.cons ?_ ?_ | with_reducible refine LentAs.cons ?_ ?_ | with_reducible exact Lent.im _ | with_reducible exact LentA.im _ | with_reducible refine LentA.of ?_ | with_reducible refine LentA.agg ?_ | ((with_reducible apply Lent.osw); rfl; simp only [blkR_len, wrR_len, byteR_len, List.length_append, List.length_cons, List.length_nil]) | ((with_reducible apply Lent.ob0); rfl)))) (hal) fun r1 H1 ⟨e1, e2⟩ => ?_; subst e1; subst e2; refine ⟨rfl, ⟨blkR_plain _, trivial⟩, ?_⟩
  simp only [go_sem, Nat.reduceAdd, Nat.reduceLeDiff, Nat.reduceSub, Int.reduceToNat, reduceCtorEq]
  refine AQ.go (by kernel_rfl) ?_
  simp only [go_sem, Nat.reduceAdd, Nat.reduceLeDiff, Nat.reduceSub, Int.reduceToNat, reduceCtorEq]
  repeat (first | refine xA ?_ | refine xB ?_ | refine xC ?_ | refine xE ?_ | refine xD ?_ | refine xK ?_ | refine xS ?_ | refine xM ?_ | refine xT ?_ | refine xF ?_ | ((first | refine xR ?_ | refine xW ?_ | refine vq_id ?_); simp only [go_sem, Nat.reduceAdd, Nat.reduceLeDiff, Nat.reduceSub, Int.reduceToNat, reduceCtorEq]) | (refine ⟨by first | omega | (intros; simp_all; done) | (intros; simp_all; omega), ?_⟩; try simp only [go_sem, Nat.reduceAdd, Nat.reduceLeDiff, Nat.reduceSub, Int.reduceToNat, reduceCtorEq]))
  refine AP.freeze 5 (el := 9) (es := 1) (rows := blkR X.recs) rfl (by simp only [go_sem, Nat.reduceAdd, Nat.reduceLeDiff, Nat.reduceSub, Int.reduceToNat, reduceCtorEq, blkR_len]; first | done | trivial | omega | (simp; done) | (simp; omega)) (by simp only [go_sem, Nat.reduceAdd, Nat.reduceLeDiff, Nat.reduceSub, Int.reduceToNat, reduceCtorEq, blkR_len]; first | done | trivial | omega | (simp; done) | (simp; omega)) ?_; simp only [go_sem, Nat.reduceAdd, Nat.reduceLeDiff, Nat.reduceSub, Int.reduceToNat, reduceCtorEq, blkR_len]
  refine AP.rename 1 10 rfl rfl rfl ?_; simp only [go_sem, Nat.reduceAdd, Nat.reduceLeDiff, Nat.reduceSub, Int.reduceToNat, reduceCtorEq]; refine AP.rename 2 11 rfl rfl rfl ?_; simp only [go_sem, Nat.reduceAdd, Nat.reduceLeDiff, Nat.reduceSub, Int.reduceToNat, reduceCtorEq]; refine AP.rename 3 12 rfl rfl rfl ?_; simp only [go_sem, Nat.reduceAdd, Nat.reduceLeDiff, Nat.reduceSub, Int.reduceToNat, reduceCtorEq]; refine AP.rename 7 13 rfl rfl rfl ?_; simp only [go_sem, Nat.reduceAdd, Nat.reduceLeDiff, Nat.reduceSub, Int.reduceToNat, reduceCtorEq]
  refine AP.order [12, 11, 10, 13, 0] rfl ?_
  simp only [go_sem, Nat.reduceAdd, Nat.reduceLeDiff, Nat.reduceSub, Int.reduceToNat, reduceCtorEq]
  rw [take_all' (blkR X.recs) _ (Nat.le_of_eq (blkR_len _))]
  refine AP.loop rfl (α := Nat × Jn × List Bs) (fun p => [(4, Bv false), (5, .ob 0 0), (7, .ob 10 0), (9, .im (.sl 1 (blkR p.2.2))), (10, .os 13 1 0 p.2.1.recs.length), (53, .im (.sl 3 (acR l))), (54, Iv l.length), (55, Iv p.1)]) (fun p => kH p.2.1 p.2.1.recs X.D) (fun p => p.1 ≤ l.length ∧ KI p.2.1 p.2.2) (fun p => l.length - p.1) (0, X, [[]]) ⟨by omega, hKI⟩ (by rw [acR_len]; simp only [hr0]; exact (by repeat (first | exact Sub.nil _ | refine Sub.cons rfl ?_))) rfl fun ⟨i, x, kept⟩ ⟨hi, hk⟩ => ?_
  simp only at hi hk
  obtain ⟨hxs, hxok, hxne, hxl, hkl, hxh⟩ := hk.sz
  obtain ⟨s0, rest, hrec⟩ : ∃ s r, x.recs = s :: r := by
    cases hh : x.recs with
    | nil => exact absurd hh hxne
    | cons s r => exact ⟨s, r, rfl⟩
  obtain ⟨half, hhalf⟩ : ∃ half : Nat, x.half = (half : Int) := by
    rcases hxh with h | h
    · exact ⟨0, h⟩
    · exact ⟨1, h⟩
  repeat (first | refine xA ?_ | refine xB ?_ | refine xC ?_ | refine xE ?_ | refine xD ?_ | refine xK ?_ | refine xS ?_ | refine xM ?_ | refine xT ?_ | refine xF ?_ | ((first | refine xR ?_ | refine xW ?_ | refine vq_id ?_); simp only [go_sem, Nat.reduceAdd, Nat.reduceLeDiff, Nat.reduceSub, Int.reduceToNat, reduceCtorEq]) | (refine ⟨by first | omega | (intros; simp_all; done) | (intros; simp_all; omega), ?_⟩; try simp only [go_sem, Nat.reduceAdd, Nat.reduceLeDiff, Nat.reduceSub, Int.reduceToNat, reduceCtorEq]))
  refine AP.cond rfl rfl (fun hc => ?_) (fun hc => ?_)
  · have hi' : i < l.length := by simp at hc; omega
    have hwi := wr (x := (i : Int) + 1) (by omega)
    have hge := acR_get l i hi'
    have hA := hlA (l.getD i ⟨0, [], []⟩) (by rw [List.getD_eq_getElem?_getD, List.getElem?_eq_getElem hi']; exact List.getElem_mem hi')
    obtain ⟨a, ha⟩ : ∃ a, l.getD i ⟨0, [], []⟩ = a := ⟨_, rfl⟩
    rw [ha] at hge hA
    repeat (first | refine xA ?_ | refine xB ?_ | refine xE ?_ | refine xD ?_ | refine xK ?_ | refine xS ?_ | refine xM ?_ | refine xT ?_ | refine xF ?_ | ((first | refine xR ?_ | refine xW ?_ | refine vq_id ?_); simp only [go_sem, Nat.reduceAdd, Nat.reduceLeDiff, Nat.reduceSub, Int.reduceToNat, reduceCtorEq, hge, acR_len]) | (refine ⟨by first | omega | (intros; simp_all; done) | (intros; simp_all; omega), ?_⟩; try simp only [go_sem, Nat.reduceAdd, Nat.reduceLeDiff, Nat.reduceSub, Int.reduceToNat, reduceCtorEq, hge, acR_len]))
    refine xC ?_
    repeat (first | refine xA ?_ | refine xB ?_ | refine xE ?_ | refine xD ?_ | refine xK ?_ | refine xS ?_ | refine xM ?_ | refine xT ?_ | refine xF ?_ | ((first | refine xR ?_ | refine xW ?_ | refine vq_id ?_); simp only [go_sem, Nat.reduceAdd, Nat.reduceLeDiff, Nat.reduceSub, Int.reduceToNat, reduceCtorEq, hge, acR_len]) | (refine ⟨by first | omega | (intros; simp_all; done) | (intros; simp_all; omega), ?_⟩; try simp only [go_sem, Nat.reduceAdd, Nat.reduceLeDiff, Nat.reduceSub, Int.reduceToNat, reduceCtorEq, hge, acR_len]))
    refine AE.seq ?_
    refine AP.cut (α := Jn × List Bs) (fun p => [(4, Bv false), (5, .ob 0 0), (7, .ob 10 0), (9, .im (.sl 1 (blkR p.2))), (10, .os 13 1 0 p.1.recs.length), (53, .im (.sl 3 (acR l))), (54, Iv l.length), (55, Iv i)]) (fun p => kH p.1 p.1.recs X.D) (fun p => KI p.1 p.2) ?_ fun ⟨y, ky⟩ hky => ?_
    · by_cases hk3 : a.k % 8 = 3
      · have e3 : ((a.k : Int).tmod 8 == 3) = true := by
          rw [Int.tmod_eq_emod_of_nonneg (by omega)]; simp only [beq_iff_eq]; omega
        repeat (first | refine xA ?_ | refine xB ?_ | refine xC ?_ | refine xE ?_ | refine xD ?_ | refine xK ?_ | refine xS ?_ | refine xM ?_ | refine xT ?_ | refine xF ?_ | ((first | refine xR ?_ | refine xW ?_ | refine vq_id ?_); simp only [go_sem, Nat.reduceAdd, Nat.reduceLeDiff, Nat.reduceSub, Int.reduceToNat, reduceCtorEq, e3]) | (refine ⟨by first | omega | (intros; simp_all; done) | (intros; simp_all; omega), ?_⟩; try simp only [go_sem, Nat.reduceAdd, Nat.reduceLeDiff, Nat.reduceSub, Int.reduceToNat, reduceCtorEq, e3]))
        refine AQ.callH [(2, 12), (1, 11), (0, 10)] (by kernel_rfl) rfl rfl rfl rfl rfl rfl (by exact ⟨rfl, rfl, rfl, trivial⟩) rfl (commit_ok x hxs hxok) ?_
        rintro r H1 ⟨rfl, rfl⟩
        refine ⟨rfl, ?_⟩
        simp only [go_sem, Nat.reduceAdd, Nat.reduceLeDiff, Nat.reduceSub, Int.reduceToNat, reduceCtorEq, Jn.H, Jn.cs, kH]
        repeat (first | refine xA ?_ | refine xB ?_ | refine xC ?_ | refine xE ?_ | refine xD ?_ | refine xK ?_ | refine xS ?_ | refine xM ?_ | refine xT ?_ | refine xF ?_ | ((first | refine xR ?_ | refine xW ?_ | refine vq_id ?_); simp only [go_sem, Nat.reduceAdd, Nat.reduceLeDiff, Nat.reduceSub, Int.reduceToNat, reduceCtorEq]) | (refine ⟨by first | omega | (intros; simp_all; done) | (intros; simp_all; omega), ?_⟩; try simp only [go_sem, Nat.reduceAdd, Nat.reduceLeDiff, Nat.reduceSub, Int.reduceToNat, reduceCtorEq]))
        refine AQ.callL ([.im (.sl 1 (blkR x.recs))]) (by kernel_rfl) rfl rfl rfl (by ((try simp only [List.nil_append, List.append_nil, List.map_cons, List.map_nil, AV.st, constAV]); repeat (first | with_reducible exact LentC.nil | with_reducible exact LentAs.nil | with_reducible refine LentC.cons ?_ ?_ | with_reducible refine LentAs.cons ?_ ?_ | with_reducible exact Lent.im _ | with_reducible exact LentA.im _ | with_reducible refine LentA.of ?_ | with_reducible refine LentA.agg ?_ | ((with_reducible apply Lent.osw); rfl; simp only [blkR_len, wrR_len, byteR_len, List.length_append, List.length_cons, List.length_nil]) | ((with_reducible apply Lent.ob0); rfl)))) (clone15o x.recs (by omega)) fun r1 H1 ⟨e1, e2⟩ => ?_; subst e1; subst e2; refine ⟨rfl, ⟨blkR_plain _, trivial⟩, ?_⟩
        simp only [go_sem, Nat.reduceAdd, Nat.reduceLeDiff, Nat.reduceSub, Int.reduceToNat, reduceCtorEq]
        refine AQ.go (by kernel_rfl) ?_
        simp only [go_sem, Nat.reduceAdd, Nat.reduceLeDiff, Nat.reduceSub, Int.reduceToNat, reduceCtorEq]
        repeat (first | refine xA ?_ | refine xB ?_ | refine xC ?_ | refine xE ?_ | refine xD ?_ | refine xK ?_ | refine xS ?_ | refine xM ?_ | refine xT ?_ | refine xF ?_ | ((first | refine xR ?_ | refine xW ?_ | refine vq_id ?_); simp only [go_sem, Nat.reduceAdd, Nat.reduceLeDiff, Nat.reduceSub, Int.reduceToNat, reduceCtorEq]) | (refine ⟨by first | omega | (intros; simp_all; done) | (intros; simp_all; omega), ?_⟩; try simp only [go_sem, Nat.reduceAdd, Nat.reduceLeDiff, Nat.reduceSub, Int.reduceToNat, reduceCtorEq]))
        refine AE.freeze 19 (el := 9) (es := 1) (rows := blkR x.recs) rfl (by simp only [go_sem, Nat.reduceAdd, Nat.reduceLeDiff, Nat.reduceSub, Int.reduceToNat, reduceCtorEq, blkR_len]; first | done | trivial | omega | (simp; done) | (simp; omega)) (by simp only [go_sem, Nat.reduceAdd, Nat.reduceLeDiff, Nat.reduceSub, Int.reduceToNat, reduceCtorEq, blkR_len]; first | done | trivial | omega | (simp; done) | (simp; omega)) ?_; simp only [go_sem, Nat.reduceAdd, Nat.reduceLeDiff, Nat.reduceSub, Int.reduceToNat, reduceCtorEq, blkR_len]
        rw [take_all' (blkR x.recs) _ (Nat.le_of_eq (blkR_len _))]
        refine AE.forgets [14] rfl ?_
        simp only [go_sem, Nat.reduceAdd, Nat.reduceLeDiff, Nat.reduceSub, Int.reduceToNat, reduceCtorEq]
        refine AE.rename 18 11 rfl rfl rfl ?_; simp only [go_sem, Nat.reduceAdd, Nat.reduceLeDiff, Nat.reduceSub, Int.reduceToNat, reduceCtorEq]
        refine AE.order [12, 11, 10, 13, 0] rfl ?_
        simp only [go_sem, Nat.reduceAdd, Nat.reduceLeDiff, Nat.reduceSub, Int.reduceToNat, reduceCtorEq]
        exact AE.meet (x.synced, x.recs) hk.commit (by repeat (first | exact Sub.nil _ | refine Sub.cons rfl ?_)) rfl
      · have e3 : ((a.k : Int).tmod 8 == 3) = false := by
          rw [Int.tmod_eq_emod_of_nonneg (by omega)]; simp only [beq_eq_false_iff_ne, ne_eq]; omega
        by_cases hk5 : a.k % 8 = 5
        · have e5 : ((a.k : Int).tmod 8 == 5) = true := by
            rw [Int.tmod_eq_emod_of_nonneg (by omega)]; simp only [beq_iff_eq]; omega
          repeat (first | refine xA ?_ | refine xB ?_ | refine xC ?_ | refine xE ?_ | refine xD ?_ | refine xK ?_ | refine xS ?_ | refine xM ?_ | refine xT ?_ | refine xF ?_ | ((first | refine xR ?_ | refine xW ?_ | refine vq_id ?_); simp only [go_sem, Nat.reduceAdd, Nat.reduceLeDiff, Nat.reduceSub, Int.reduceToNat, reduceCtorEq, e3, e5]) | (refine ⟨by first | omega | (intros; simp_all; done) | (intros; simp_all; omega), ?_⟩; try simp only [go_sem, Nat.reduceAdd, Nat.reduceLeDiff, Nat.reduceSub, Int.reduceToNat, reduceCtorEq, e3, e5]))
          have hcr := crash_spec x.D a.f ⟨by have := hxs.b; simp only; omega, by have := hxs.w; simp only; omega⟩ (by omega)
          have hdk := disk_own x ⟨by have := hxs.b; simp only; omega, by have := hxs.w; simp only; omega⟩
          obtain ⟨c, hh, k1, k2, k3, k4, k5⟩ := hk.crash a.f
          obtain ⟨z, hz⟩ : ∃ z, openJ (x.D.crashD a.f) c hh = z := ⟨_, rfl⟩
          rw [hz] at k3 k4 k5
          have hzs := k3.sz
          obtain ⟨d, hd⟩ : ∃ d, x.D.crashD a.f = d := ⟨_, rfl⟩
          rw [hd] at hcr k1 k2 hz
          refine AP.cut (α := Unit) (fun _ => [(4, Bv false), (5, .ob 0 0), (7, .ob 10 0), (9, .im (.sl 1 (blkR kept))), (10, .os 13 1 0 x.recs.length), (13, .ob 40 0), (53, .im (.sl 3 (acR l))), (54, Iv l.length), (55, Iv i)]) (fun _ => (40, .var 28 [.im (.sl 1 (blkR d.B)), .im (.sl 2 (wrR d.W))]) :: kH x x.recs X.D) (fun _ => True) ?_ fun _ _ => ?_
          · simp only [go_sem, Nat.reduceAdd, Nat.reduceLeDiff, Nat.reduceSub, Int.reduceToNat, reduceCtorEq, kH, Jn.cs]
            refine AP.drawE 11 (Tree.node [] [0, 2, 3] [1, 8] [Tree.node [2, 3] [] [4, 8] [Tree.node [] [5, 6, 7] [8] [Tree.node [5, 6, 7] [] [9] [Tree.node [7] [10] [] []]], Tree.node [2, 3] [] [4] [Tree.node [] [5, 6, 7] [9] [Tree.node [7] [10] [] []]]], Tree.node [0, 2, 3] [] [1] [Tree.node [2, 3] [] [4] [Tree.node [] [5, 6, 7] [9] [Tree.node [7] [10] [] []]]]]) (by kernel_rfl) rfl (by kernel_rfl) (by kernel_rfl) ?_
            refine vd_node ?_
            simp only [go_sem, Nat.reduceAdd, Nat.reduceLeDiff, Nat.reduceSub, Int.reduceToNat, reduceCtorEq]
            repeat' (first | with_reducible exact True.intro | with_reducible refine And.intro (by omega) ?_ | with_reducible refine And.intro ?_ ?_ | omega | (refine AQ.callL ([.im (.pt x.ic)]) (by kernel_rfl) rfl rfl rfl (by ((try simp only [List.nil_append, List.append_nil, List.map_cons, List.map_nil, AV.st, constAV]); repeat (first | with_reducible exact LentC.nil | with_reducible exact LentAs.nil | with_reducible refine LentC.cons ?_ ?_ | with_reducible refine LentAs.cons ?_ ?_ | with_reducible exact Lent.im _ | with_reducible exact LentA.im _ | with_reducible refine LentA.of ?_ | with_reducible refine LentA.agg ?_ | ((with_reducible apply Lent.osw); rfl; simp only [blkR_len, wrR_len, byteR_len, List.length_append, List.length_cons, List.length_nil]) | ((with_reducible apply Lent.ob0); rfl)))) (hdk) fun r1 H1 ⟨e1, e2⟩ => ?_; subst e1; subst e2; refine ⟨rfl, ⟨blkR_plain _, wrR_plain _, trivial⟩, ?_⟩; simp only [go_sem, Nat.reduceAdd, Nat.reduceLeDiff, Nat.reduceSub, Int.reduceToNat, reduceCtorEq]) | (refine AQ.freeze 16 (el := 9) (es := 1) (rows := blkR x.B) rfl (by simp only [go_sem, Nat.reduceAdd, Nat.reduceLeDiff, Nat.reduceSub, Int.reduceToNat, reduceCtorEq, blkR_len]; first | done | trivial | omega | (simp; done) | (simp; omega)) (by simp only [go_sem, Nat.reduceAdd, Nat.reduceLeDiff, Nat.reduceSub, Int.reduceToNat, reduceCtorEq, blkR_len]; first | done | trivial | omega | (simp; done) | (simp; omega)) ?_; simp only [go_sem, Nat.reduceAdd, Nat.reduceLeDiff, Nat.reduceSub, Int.reduceToNat, reduceCtorEq, blkR_len]; refine AQ.freeze 17 (el := 97) (es := 2) (rows := wrR x.W) rfl (by simp only [go_sem, Nat.reduceAdd, Nat.reduceLeDiff, Nat.reduceSub, Int.reduceToNat, reduceCtorEq, wrR_len]; first | done | trivial | omega | (simp; done) | (simp; omega)) (by simp only [go_sem, Nat.reduceAdd, Nat.reduceLeDiff, Nat.reduceSub, Int.reduceToNat, reduceCtorEq, wrR_len]; first | done | trivial | omega | (simp; done) | (simp; omega)) ?_; simp only [go_sem, Nat.reduceAdd, Nat.reduceLeDiff, Nat.reduceSub, Int.reduceToNat, reduceCtorEq, wrR_len]; rw [take_all' (blkR x.B) _ (Nat.le_of_eq (blkR_len _)), take_all' (wrR x.W) _ (Nat.le_of_eq (wrR_len _))]; refine AQ.fn (by kernel_rfl) rfl rfl rfl (hcr) rfl ?_; simp only [go_sem, Nat.reduceAdd, Nat.reduceLeDiff, Nat.reduceSub, Int.reduceToNat, reduceCtorEq]) | (refine AQ.freeze 17 (el := 9) (es := 1) (rows := blkR x.B) rfl (by simp only [go_sem, Nat.reduceAdd, Nat.reduceLeDiff, Nat.reduceSub, Int.reduceToNat, reduceCtorEq, blkR_len]; first | done | trivial | omega | (simp; done) | (simp; omega)) (by simp only [go_sem, Nat.reduceAdd, Nat.reduceLeDiff, Nat.reduceSub, Int.reduceToNat, reduceCtorEq, blkR_len]; first | done | trivial | omega | (simp; done) | (simp; omega)) ?_; simp only [go_sem, Nat.reduceAdd, Nat.reduceLeDiff, Nat.reduceSub, Int.reduceToNat, reduceCtorEq, blkR_len]; refine AQ.freeze 18 (el := 97) (es := 2) (rows := wrR x.W) rfl (by simp only [go_sem, Nat.reduceAdd, Nat.reduceLeDiff, Nat.reduceSub, Int.reduceToNat, reduceCtorEq, wrR_len]; first | done | trivial | omega | (simp; done) | (simp; omega)) (by simp only [go_sem, Nat.reduceAdd, Nat.reduceLeDiff, Nat.reduceSub, Int.reduceToNat, reduceCtorEq, wrR_len]; first | done | trivial | omega | (simp; done) | (simp; omega)) ?_; simp only [go_sem, Nat.reduceAdd, Nat.reduceLeDiff, Nat.reduceSub, Int.reduceToNat, reduceCtorEq, wrR_len]; rw [take_all' (blkR x.B) _ (Nat.le_of_eq (blkR_len _)), take_all' (wrR x.W) _ (Nat.le_of_eq (wrR_len _))]; refine AQ.fn (by kernel_rfl) rfl rfl rfl (hcr) rfl ?_; simp only [go_sem, Nat.reduceAdd, Nat.reduceLeDiff, Nat.reduceSub, Int.reduceToNat, reduceCtorEq]) | (refine AQ.nx rfl ?_; first | (refine And.intro ?_ ?_ <;> (try simp only [go_sem, Nat.reduceAdd, Nat.reduceLeDiff, Nat.reduceSub, Int.reduceToNat, reduceCtorEq])) | simp only [go_sem, Nat.reduceAdd, Nat.reduceLeDiff, Nat.reduceSub, Int.reduceToNat, reduceCtorEq]) | refine AQ.done ?_ | (refine AQ.go (by kernel_rfl) ?_; simp only [go_sem, Nat.reduceAdd, Nat.reduceLeDiff, Nat.reduceSub, Int.reduceToNat, reduceCtorEq]; (refine AQ.nx rfl ?_; first | (refine And.intro ?_ ?_ <;> (try simp only [go_sem, Nat.reduceAdd, Nat.reduceLeDiff, Nat.reduceSub, Int.reduceToNat, reduceCtorEq])) | simp only [go_sem, Nat.reduceAdd, Nat.reduceLeDiff, Nat.reduceSub, Int.reduceToNat, reduceCtorEq])))
            all_goals simp only [go_sem, Nat.reduceAdd, Nat.reduceLeDiff, Nat.reduceSub, Int.reduceToNat, reduceCtorEq]
            · refine AE.rename 15 40 rfl rfl rfl ?_; simp only [go_sem, Nat.reduceAdd, Nat.reduceLeDiff, Nat.reduceSub, Int.reduceToNat, reduceCtorEq]; refine AE.forgets [14] rfl ?_; simp only [go_sem, Nat.reduceAdd, Nat.reduceLeDiff, Nat.reduceSub, Int.reduceToNat, reduceCtorEq]; refine AE.order [40, 12, 11, 10, 13, 0] rfl ?_; simp only [go_sem, Nat.reduceAdd, Nat.reduceLeDiff, Nat.reduceSub, Int.reduceToNat, reduceCtorEq]; exact AE.meet () trivial (by repeat (first | exact Sub.nil _ | refine Sub.cons rfl ?_)) rfl
            · refine AE.rename 18 40 rfl rfl rfl ?_; simp only [go_sem, Nat.reduceAdd, Nat.reduceLeDiff, Nat.reduceSub, Int.reduceToNat, reduceCtorEq]; refine AE.forgets [14] rfl ?_; simp only [go_sem, Nat.reduceAdd, Nat.reduceLeDiff, Nat.reduceSub, Int.reduceToNat, reduceCtorEq]; refine AE.order [40, 12, 11, 10, 13, 0] rfl ?_; simp only [go_sem, Nat.reduceAdd, Nat.reduceLeDiff, Nat.reduceSub, Int.reduceToNat, reduceCtorEq]; exact AE.meet () trivial (by repeat (first | exact Sub.nil _ | refine Sub.cons rfl ?_)) rfl
            · refine AE.rename 15 40 rfl rfl rfl ?_; simp only [go_sem, Nat.reduceAdd, Nat.reduceLeDiff, Nat.reduceSub, Int.reduceToNat, reduceCtorEq]; refine AE.forgets [14] rfl ?_; simp only [go_sem, Nat.reduceAdd, Nat.reduceLeDiff, Nat.reduceSub, Int.reduceToNat, reduceCtorEq]; refine AE.order [40, 12, 11, 10, 13, 0] rfl ?_; simp only [go_sem, Nat.reduceAdd, Nat.reduceLeDiff, Nat.reduceSub, Int.reduceToNat, reduceCtorEq]; exact AE.meet () trivial (by repeat (first | exact Sub.nil _ | refine Sub.cons rfl ?_)) rfl
          · obtain ⟨s5, rest5, hrec5⟩ : ∃ s r, z.recs = s :: r := by
              cases hh : z.recs with
              | nil => exact absurd hh hzs.2.2.1
              | cons s r => exact ⟨s, r, rfl⟩
            have hzl := hzs.2.2.2.1
            have hl5 := congrArg List.length hrec5
            rw [List.length_cons] at hl5
            have hal5 := all_own z s5 rest5 hrec5 (by omega)
            have hbg1 := begins_spec z.recs kept (by omega) (by omega)
            rw [decide_eq_true k4.1, decide_eq_true k4.2] at hbg1
            have hbg2 := begins_spec x.recs z.recs (by omega) (by omega)
            rw [decide_eq_true k5.1, decide_eq_true k5.2] at hbg2
            have hdb : d.B.length ≤ 2000 := (okN_le k1.n).2.1
            have hop5 := open_sel d ⟨by omega, by have := k1.w; omega⟩ k1 k2 hz
            simp only [go_sem, Nat.reduceAdd, Nat.reduceLeDiff, Nat.reduceSub, Int.reduceToNat, reduceCtorEq, kH, Jn.cs]
            repeat (first | refine xA ?_ | refine xB ?_ | refine xC ?_ | refine xE ?_ | refine xD ?_ | refine xK ?_ | refine xS ?_ | refine xM ?_ | refine xT ?_ | refine xF ?_ | ((first | refine xR ?_ | refine xW ?_ | refine vq_id ?_); simp only [go_sem, Nat.reduceAdd, Nat.reduceLeDiff, Nat.reduceSub, Int.reduceToNat, reduceCtorEq]) | (refine ⟨by first | omega | (intros; simp_all; done) | (intros; simp_all; omega), ?_⟩; try simp only [go_sem, Nat.reduceAdd, Nat.reduceLeDiff, Nat.reduceSub, Int.reduceToNat, reduceCtorEq]))
            refine AQ.callv (by kernel_rfl) rfl rfl rfl hop5 fun r' H' ⟨e1, e2⟩ => ?_
            subst e1; subst e2
            simp only [go_sem, Nat.reduceAdd, Nat.reduceLeDiff, Nat.reduceSub, Int.reduceToNat, reduceCtorEq, Jn.H]
            repeat (first | refine xA ?_ | refine xB ?_ | refine xC ?_ | refine xE ?_ | refine xD ?_ | refine xK ?_ | refine xS ?_ | refine xM ?_ | refine xT ?_ | refine xF ?_ | ((first | refine xR ?_ | refine xW ?_ | refine vq_id ?_); simp only [go_sem, Nat.reduceAdd, Nat.reduceLeDiff, Nat.reduceSub, Int.reduceToNat, reduceCtorEq, Int.reduceBNe]) | (refine ⟨by first | omega | (intros; simp_all; done) | (intros; simp_all; omega), ?_⟩; try simp only [go_sem, Nat.reduceAdd, Nat.reduceLeDiff, Nat.reduceSub, Int.reduceToNat, reduceCtorEq, Int.reduceBNe]))
            refine AQ.guard_yes (by simp only [go_sem]) ?_
            refine AQ.callL ([.im (.pt z.ic)]) (by kernel_rfl) rfl rfl rfl (by ((try simp only [List.nil_append, List.append_nil, List.map_cons, List.map_nil, AV.st, constAV]); repeat (first | with_reducible exact LentC.nil | with_reducible exact LentAs.nil | with_reducible refine LentC.cons ?_ ?_ | with_reducible refine LentAs.cons ?_ ?_ | with_reducible exact Lent.im _ | with_reducible exact LentA.im _ | with_reducible refine LentA.of ?_ | with_reducible refine LentA.agg ?_ | ((with_reducible apply Lent.osw); rfl; simp only [blkR_len, wrR_len, byteR_len, List.length_append, List.length_cons, List.length_nil]) | ((with_reducible apply Lent.ob0); rfl)))) (hal5) fun r1 H1 ⟨e1, e2⟩ => ?_; subst e1; subst e2; refine ⟨rfl, ⟨blkR_plain _, trivial⟩, ?_⟩
            simp only [go_sem, Nat.reduceAdd, Nat.reduceLeDiff, Nat.reduceSub, Int.reduceToNat, reduceCtorEq]
            refine AQ.go (by kernel_rfl) ?_
            simp only [go_sem, Nat.reduceAdd, Nat.reduceLeDiff, Nat.reduceSub, Int.reduceToNat, reduceCtorEq]
            refine AQ.guard_yes (by simp only [go_sem]) ?_
            refine AQ.fnL ([.im (.sl 1 (blkR z.recs)), .im (.sl 1 (blkR kept))]) (by kernel_rfl) rfl rfl rfl (by ((try simp only [List.nil_append, List.append_nil, List.map_cons, List.map_nil, AV.st, constAV]); repeat (first | with_reducible exact LentC.nil | with_reducible exact LentAs.nil | with_reducible refine LentC.cons ?_ ?_ | with_reducible refine LentAs.cons ?_ ?_ | with_reducible exact Lent.im _ | with_reducible exact LentA.im _ | with_reducible refine LentA.of ?_ | with_reducible refine LentA.agg ?_ | ((with_reducible apply Lent.osw); rfl; simp only [blkR_len, wrR_len, byteR_len, List.length_append, List.length_cons, List.length_nil]) | ((with_reducible apply Lent.ob0); rfl)))) (hbg1) rfl (fun _ => rfl) ?_
            simp only [go_sem, Nat.reduceAdd, Nat.reduceLeDiff, Nat.reduceSub, Int.reduceToNat, reduceCtorEq]
            repeat (first | refine xA ?_ | refine xB ?_ | refine xC ?_ | refine xE ?_ | refine xD ?_ | refine xK ?_ | refine xS ?_ | refine xM ?_ | refine xT ?_ | refine xF ?_ | ((first | refine xR ?_ | refine xW ?_ | refine vq_id ?_); simp only [go_sem, Nat.reduceAdd, Nat.reduceLeDiff, Nat.reduceSub, Int.reduceToNat, reduceCtorEq]) | (refine ⟨by first | omega | (intros; simp_all; done) | (intros; simp_all; omega), ?_⟩; try simp only [go_sem, Nat.reduceAdd, Nat.reduceLeDiff, Nat.reduceSub, Int.reduceToNat, reduceCtorEq]))
            refine AQ.guard_yes (by simp only [go_sem]) ?_
            refine AQ.callL ([.im (.pt z.ic)]) (by kernel_rfl) rfl rfl rfl (by ((try simp only [List.nil_append, List.append_nil, List.map_cons, List.map_nil, AV.st, constAV]); repeat (first | with_reducible exact LentC.nil | with_reducible exact LentAs.nil | with_reducible refine LentC.cons ?_ ?_ | with_reducible refine LentAs.cons ?_ ?_ | with_reducible exact Lent.im _ | with_reducible exact LentA.im _ | with_reducible refine LentA.of ?_ | with_reducible refine LentA.agg ?_ | ((with_reducible apply Lent.osw); rfl; simp only [blkR_len, wrR_len, byteR_len, List.length_append, List.length_cons, List.length_nil]) | ((with_reducible apply Lent.ob0); rfl)))) (hal5) fun r1 H1 ⟨e1, e2⟩ => ?_; subst e1; subst e2; refine ⟨rfl, ⟨blkR_plain _, trivial⟩, ?_⟩
            simp only [go_sem, Nat.reduceAdd, Nat.reduceLeDiff, Nat.reduceSub, Int.reduceToNat, reduceCtorEq]
            refine AQ.go (by kernel_rfl) ?_
            simp only [go_sem, Nat.reduceAdd, Nat.reduceLeDiff, Nat.reduceSub, Int.reduceToNat, reduceCtorEq]
            refine AQ.guard_yes (by simp only [go_sem]) ?_
            refine AQ.fnL ([.im (.sl 1 (blkR x.recs)), .im (.sl 1 (blkR z.recs))]) (by kernel_rfl) rfl rfl rfl (by ((try simp only [List.nil_append, List.append_nil, List.map_cons, List.map_nil, AV.st, constAV]); repeat (first | with_reducible exact LentC.nil | with_reducible exact LentAs.nil | with_reducible refine LentC.cons ?_ ?_ | with_reducible refine LentAs.cons ?_ ?_ | with_reducible exact Lent.im _ | with_reducible exact LentA.im _ | with_reducible refine LentA.of ?_ | with_reducible refine LentA.agg ?_ | ((with_reducible apply Lent.osw); rfl; simp only [blkR_len, wrR_len, byteR_len, List.length_append, List.length_cons, List.length_nil]) | ((with_reducible apply Lent.ob0); rfl)))) (hbg2) rfl (fun _ => rfl) ?_
            simp only [go_sem, Nat.reduceAdd, Nat.reduceLeDiff, Nat.reduceSub, Int.reduceToNat, reduceCtorEq]
            repeat (first | refine xA ?_ | refine xB ?_ | refine xC ?_ | refine xE ?_ | refine xD ?_ | refine xK ?_ | refine xS ?_ | refine xM ?_ | refine xT ?_ | refine xF ?_ | ((first | refine xR ?_ | refine xW ?_ | refine vq_id ?_); simp only [go_sem, Nat.reduceAdd, Nat.reduceLeDiff, Nat.reduceSub, Int.reduceToNat, reduceCtorEq]) | (refine ⟨by first | omega | (intros; simp_all; done) | (intros; simp_all; omega), ?_⟩; try simp only [go_sem, Nat.reduceAdd, Nat.reduceLeDiff, Nat.reduceSub, Int.reduceToNat, reduceCtorEq]))
            refine AQ.callL ([.im (.pt z.ic)]) (by kernel_rfl) rfl rfl rfl (by ((try simp only [List.nil_append, List.append_nil, List.map_cons, List.map_nil, AV.st, constAV]); repeat (first | with_reducible exact LentC.nil | with_reducible exact LentAs.nil | with_reducible refine LentC.cons ?_ ?_ | with_reducible refine LentAs.cons ?_ ?_ | with_reducible exact Lent.im _ | with_reducible exact LentA.im _ | with_reducible refine LentA.of ?_ | with_reducible refine LentA.agg ?_ | ((with_reducible apply Lent.osw); rfl; simp only [blkR_len, wrR_len, byteR_len, List.length_append, List.length_cons, List.length_nil]) | ((with_reducible apply Lent.ob0); rfl)))) (hal5) fun r1 H1 ⟨e1, e2⟩ => ?_; subst e1; subst e2; refine ⟨rfl, ⟨blkR_plain _, trivial⟩, ?_⟩
            simp only [go_sem, Nat.reduceAdd, Nat.reduceLeDiff, Nat.reduceSub, Int.reduceToNat, reduceCtorEq]
            refine AQ.go (by kernel_rfl) ?_
            simp only [go_sem, Nat.reduceAdd, Nat.reduceLeDiff, Nat.reduceSub, Int.reduceToNat, reduceCtorEq]
            repeat (first | refine xA ?_ | refine xB ?_ | refine xC ?_ | refine xE ?_ | refine xD ?_ | refine xK ?_ | refine xS ?_ | refine xM ?_ | refine xT ?_ | refine xF ?_ | ((first | refine xR ?_ | refine xW ?_ | refine vq_id ?_); simp only [go_sem, Nat.reduceAdd, Nat.reduceLeDiff, Nat.reduceSub, Int.reduceToNat, reduceCtorEq]) | (refine ⟨by first | omega | (intros; simp_all; done) | (intros; simp_all; omega), ?_⟩; try simp only [go_sem, Nat.reduceAdd, Nat.reduceLeDiff, Nat.reduceSub, Int.reduceToNat, reduceCtorEq]))
            refine AQ.callL ([.im (.sl 1 (blkR z.recs))]) (by kernel_rfl) rfl rfl rfl (by ((try simp only [List.nil_append, List.append_nil, List.map_cons, List.map_nil, AV.st, constAV]); repeat (first | with_reducible exact LentC.nil | with_reducible exact LentAs.nil | with_reducible refine LentC.cons ?_ ?_ | with_reducible refine LentAs.cons ?_ ?_ | with_reducible exact Lent.im _ | with_reducible exact LentA.im _ | with_reducible refine LentA.of ?_ | with_reducible refine LentA.agg ?_ | ((with_reducible apply Lent.osw); rfl; simp only [blkR_len, wrR_len, byteR_len, List.length_append, List.length_cons, List.length_nil]) | ((with_reducible apply Lent.ob0); rfl)))) (clone15o z.recs (by omega)) fun r1 H1 ⟨e1, e2⟩ => ?_; subst e1; subst e2; refine ⟨rfl, ⟨blkR_plain _, trivial⟩, ?_⟩
            simp only [go_sem, Nat.reduceAdd, Nat.reduceLeDiff, Nat.reduceSub, Int.reduceToNat, reduceCtorEq]
            refine AQ.go (by kernel_rfl) ?_
            simp only [go_sem, Nat.reduceAdd, Nat.reduceLeDiff, Nat.reduceSub, Int.reduceToNat, reduceCtorEq]
            repeat (first | refine xA ?_ | refine xB ?_ | refine xC ?_ | refine xE ?_ | refine xD ?_ | refine xK ?_ | refine xS ?_ | refine xM ?_ | refine xT ?_ | refine xF ?_ | ((first | refine xR ?_ | refine xW ?_ | refine vq_id ?_); simp only [go_sem, Nat.reduceAdd, Nat.reduceLeDiff, Nat.reduceSub, Int.reduceToNat, reduceCtorEq]) | (refine ⟨by first | omega | (intros; simp_all; done) | (intros; simp_all; omega), ?_⟩; try simp only [go_sem, Nat.reduceAdd, Nat.reduceLeDiff, Nat.reduceSub, Int.reduceToNat, reduceCtorEq]))
            refine AE.freeze 50 (el := 9) (es := 1) (rows := blkR z.recs) rfl (by simp only [go_sem, Nat.reduceAdd, Nat.reduceLeDiff, Nat.reduceSub, Int.reduceToNat, reduceCtorEq, blkR_len]; first | done | trivial | omega | (simp; done) | (simp; omega)) (by simp only [go_sem, Nat.reduceAdd, Nat.reduceLeDiff, Nat.reduceSub, Int.reduceToNat, reduceCtorEq, blkR_len]; first | done | trivial | omega | (simp; done) | (simp; omega)) ?_; simp only [go_sem, Nat.reduceAdd, Nat.reduceLeDiff, Nat.reduceSub, Int.reduceToNat, reduceCtorEq, blkR_len]
            rw [take_all' (blkR z.recs) _ (Nat.le_of_eq (blkR_len _))]
            refine AE.forgets [10, 11, 12, 13, 40, 45, 47] rfl ?_
            simp only [go_sem, Nat.reduceAdd, Nat.reduceLeDiff, Nat.reduceSub, Int.reduceToNat, reduceCtorEq]
            refine AE.rename 41 10 rfl rfl rfl ?_; simp only [go_sem, Nat.reduceAdd, Nat.reduceLeDiff, Nat.reduceSub, Int.reduceToNat, reduceCtorEq]; refine AE.rename 42 11 rfl rfl rfl ?_; simp only [go_sem, Nat.reduceAdd, Nat.reduceLeDiff, Nat.reduceSub, Int.reduceToNat, reduceCtorEq]; refine AE.rename 43 12 rfl rfl rfl ?_; simp only [go_sem, Nat.reduceAdd, Nat.reduceLeDiff, Nat.reduceSub, Int.reduceToNat, reduceCtorEq]; refine AE.rename 49 13 rfl rfl rfl ?_; simp only [go_sem, Nat.reduceAdd, Nat.reduceLeDiff, Nat.reduceSub, Int.reduceToNat, reduceCtorEq]
            refine AE.order [12, 11, 10, 13, 0] rfl ?_
            simp only [go_sem, Nat.reduceAdd, Nat.reduceLeDiff, Nat.reduceSub, Int.reduceToNat, reduceCtorEq]
            exact AE.meet (z, z.recs) k3 (by repeat (first | exact Sub.nil _ | refine Sub.cons rfl ?_)) rfl
        · have e5 : ((a.k : Int).tmod 8 == 5) = false := by
            rw [Int.tmod_eq_emod_of_nonneg (by omega)]; simp only [beq_eq_false_iff_ne, ne_eq]; omega
          have hk2 := hk
          rcases hA.1 with hsh | ⟨hlo, hlo2⟩
          · obtain ⟨e, he⟩ : ∃ e, x.appE a.t = e := ⟨_, rfl⟩
            have he08 : e = 0 ∨ e = 8 := by
              rw [← he, Jn.appE, if_neg (by omega)]
              split <;> simp
            rcases he08 with rfl | rfl
            · repeat (first | refine xA ?_ | refine xB ?_ | refine xC ?_ | refine xE ?_ | refine xD ?_ | refine xK ?_ | refine xS ?_ | refine xM ?_ | refine xT ?_ | refine xF ?_ | ((first | refine xR ?_ | refine xW ?_ | refine vq_id ?_); simp only [go_sem, Nat.reduceAdd, Nat.reduceLeDiff, Nat.reduceSub, Int.reduceToNat, reduceCtorEq, e3, e5]) | (refine ⟨by first | omega | (intros; simp_all; done) | (intros; simp_all; omega), ?_⟩; try simp only [go_sem, Nat.reduceAdd, Nat.reduceLeDiff, Nat.reduceSub, Int.reduceToNat, reduceCtorEq, e3, e5]))
              refine AQ.callH [(2, 12), (1, 11), (0, 10)] (by kernel_rfl) rfl rfl rfl rfl rfl rfl (by exact ⟨rfl, rfl, rfl, trivial⟩) rfl (append_ok x half a.t hxs hhalf he) ?_
              rintro r H1 ⟨rfl, rfl⟩
              refine ⟨rfl, ?_⟩
              have hw2 := wrote_recs x half x.used x.last a.t
              have hk3 := hk.append a.t he half hhalf
              obtain ⟨y, hy⟩ : ∃ y, x.wrote half x.used x.last a.t = y := ⟨_, rfl⟩
              rw [hy] at hw2 hk3 ⊢
              simp only [go_sem, Nat.reduceAdd, Nat.reduceLeDiff, Nat.reduceSub, Int.reduceToNat, reduceCtorEq, Jn.H, Jn.cs, kH]
              repeat (first | refine xA ?_ | refine xB ?_ | refine xC ?_ | refine xE ?_ | refine xD ?_ | refine xK ?_ | refine xS ?_ | refine xM ?_ | refine xT ?_ | refine xF ?_ | ((first | refine xR ?_ | refine xW ?_ | refine vq_id ?_); simp only [go_sem, Nat.reduceAdd, Nat.reduceLeDiff, Nat.reduceSub, Int.reduceToNat, reduceCtorEq, Int.reduceBEq, beq_self_eq_true]) | (refine ⟨by first | omega | (intros; simp_all; done) | (intros; simp_all; omega), ?_⟩; try simp only [go_sem, Nat.reduceAdd, Nat.reduceLeDiff, Nat.reduceSub, Int.reduceToNat, reduceCtorEq, Int.reduceBEq, beq_self_eq_true]))
              have hb13 : blkR x.recs ++ [[Si a.t]] = blkR y.recs := by rw [hw2]; simp [blkR]
              have hl13 : x.recs.length + 1 = y.recs.length := by rw [hw2]; simp
              refine AQ.append (hnb := rfl) (rows := blkR x.recs) (es := 0) (by kernel_rfl) rfl rfl rfl (by rfl) Try.tk25 Try.sz9 (by show Option.map _ (zro Try.prog 9) = _; rw [Try.zr9]; rfl) Try.by9 (by first | rfl | (simp only [blkR_len, List.length_cons, List.length_nil]; done) | (simp only [blkR_len, List.length_cons, List.length_nil]; omega)) (by simp only [blkR_len, List.length_cons, List.length_nil]; omega) (by simp only [blkR_len, List.length_cons, List.length_nil]; omega) ?_
              simp only [go_sem, Nat.reduceAdd, Nat.reduceLeDiff, Nat.reduceSub, Int.reduceToNat, reduceCtorEq, blkR_len]
              rw [hb13, hl13]
              repeat (first | refine xA ?_ | refine xB ?_ | refine xC ?_ | refine xE ?_ | refine xD ?_ | refine xK ?_ | refine xS ?_ | refine xM ?_ | refine xT ?_ | refine xF ?_ | ((first | refine xR ?_ | refine xW ?_ | refine vq_id ?_); simp only [go_sem, Nat.reduceAdd, Nat.reduceLeDiff, Nat.reduceSub, Int.reduceToNat, reduceCtorEq]) | (refine ⟨by first | omega | (intros; simp_all; done) | (intros; simp_all; omega), ?_⟩; try simp only [go_sem, Nat.reduceAdd, Nat.reduceLeDiff, Nat.reduceSub, Int.reduceToNat, reduceCtorEq]))
              refine AE.forgets [14] rfl ?_
              simp only [go_sem, Nat.reduceAdd, Nat.reduceLeDiff, Nat.reduceSub, Int.reduceToNat, reduceCtorEq]
              refine AE.rename 18 11 rfl rfl rfl ?_; simp only [go_sem, Nat.reduceAdd, Nat.reduceLeDiff, Nat.reduceSub, Int.reduceToNat, reduceCtorEq]; refine AE.rename 19 12 rfl rfl rfl ?_; simp only [go_sem, Nat.reduceAdd, Nat.reduceLeDiff, Nat.reduceSub, Int.reduceToNat, reduceCtorEq]
              refine AE.order [12, 11, 10, 13, 0] rfl ?_
              simp only [go_sem, Nat.reduceAdd, Nat.reduceLeDiff, Nat.reduceSub, Int.reduceToNat, reduceCtorEq]
              exact AE.meet (y, kept) hk3 (by repeat (first | exact Sub.nil _ | refine Sub.cons rfl ?_)) rfl
            · repeat (first | refine xA ?_ | refine xB ?_ | refine xC ?_ | refine xE ?_ | refine xD ?_ | refine xK ?_ | refine xS ?_ | refine xM ?_ | refine xT ?_ | refine xF ?_ | ((first | refine xR ?_ | refine xW ?_ | refine vq_id ?_); simp only [go_sem, Nat.reduceAdd, Nat.reduceLeDiff, Nat.reduceSub, Int.reduceToNat, reduceCtorEq, e3, e5]) | (refine ⟨by first | omega | (intros; simp_all; done) | (intros; simp_all; omega), ?_⟩; try simp only [go_sem, Nat.reduceAdd, Nat.reduceLeDiff, Nat.reduceSub, Int.reduceToNat, reduceCtorEq, e3, e5]))
              refine AQ.callH [(2, 12), (1, 11), (0, 10)] (by kernel_rfl) rfl rfl rfl rfl rfl rfl (by exact ⟨rfl, rfl, rfl, trivial⟩) rfl (append_full x half a.t hxs hhalf he) ?_
              rintro r H1 ⟨rfl, rfl⟩
              refine ⟨rfl, ?_⟩
              simp only [go_sem, Nat.reduceAdd, Nat.reduceLeDiff, Nat.reduceSub, Int.reduceToNat, reduceCtorEq, Jn.H, Jn.cs, kH]
              repeat (first | refine xA ?_ | refine xB ?_ | refine xC ?_ | refine xE ?_ | refine xD ?_ | refine xK ?_ | refine xS ?_ | refine xM ?_ | refine xT ?_ | refine xF ?_ | ((first | refine xR ?_ | refine xW ?_ | refine vq_id ?_); simp only [go_sem, Nat.reduceAdd, Nat.reduceLeDiff, Nat.reduceSub, Int.reduceToNat, reduceCtorEq, Int.reduceBEq]) | (refine ⟨by first | omega | (intros; simp_all; done) | (intros; simp_all; omega), ?_⟩; try simp only [go_sem, Nat.reduceAdd, Nat.reduceLeDiff, Nat.reduceSub, Int.reduceToNat, reduceCtorEq, Int.reduceBEq]))
              simp only [go_sem, Nat.reduceAdd, Nat.reduceLeDiff, Nat.reduceSub, Int.reduceToNat, reduceCtorEq]
              refine AE.forgets [14] rfl ?_
              simp only [go_sem, Nat.reduceAdd, Nat.reduceLeDiff, Nat.reduceSub, Int.reduceToNat, reduceCtorEq]
              exact AE.meet (x, kept) hk (by repeat (first | exact Sub.nil _ | refine Sub.cons rfl ?_)) rfl
          · repeat (first | refine xA ?_ | refine xB ?_ | refine xC ?_ | refine xE ?_ | refine xD ?_ | refine xK ?_ | refine xS ?_ | refine xM ?_ | refine xT ?_ | refine xF ?_ | ((first | refine xR ?_ | refine xW ?_ | refine vq_id ?_); simp only [go_sem, Nat.reduceAdd, Nat.reduceLeDiff, Nat.reduceSub, Int.reduceToNat, reduceCtorEq, e3, e5]) | (refine ⟨by first | omega | (intros; simp_all; done) | (intros; simp_all; omega), ?_⟩; try simp only [go_sem, Nat.reduceAdd, Nat.reduceLeDiff, Nat.reduceSub, Int.reduceToNat, reduceCtorEq, e3, e5]))
            refine AQ.callH [(2, 12), (1, 11), (0, 10)] (by kernel_rfl) rfl rfl rfl rfl rfl rfl (by exact ⟨rfl, rfl, rfl, trivial⟩) rfl (append_long x a.t hxs hlo (by omega)) ?_
            rintro r H1 ⟨rfl, rfl⟩
            refine ⟨rfl, ?_⟩
            simp only [go_sem, Nat.reduceAdd, Nat.reduceLeDiff, Nat.reduceSub, Int.reduceToNat, reduceCtorEq, Jn.H, Jn.cs, kH]
            repeat (first | refine xA ?_ | refine xB ?_ | refine xC ?_ | refine xE ?_ | refine xD ?_ | refine xK ?_ | refine xS ?_ | refine xM ?_ | refine xT ?_ | refine xF ?_ | ((first | refine xR ?_ | refine xW ?_ | refine vq_id ?_); simp only [go_sem, Nat.reduceAdd, Nat.reduceLeDiff, Nat.reduceSub, Int.reduceToNat, reduceCtorEq, Int.reduceBEq]) | (refine ⟨by first | omega | (intros; simp_all; done) | (intros; simp_all; omega), ?_⟩; try simp only [go_sem, Nat.reduceAdd, Nat.reduceLeDiff, Nat.reduceSub, Int.reduceToNat, reduceCtorEq, Int.reduceBEq]))
            simp only [go_sem, Nat.reduceAdd, Nat.reduceLeDiff, Nat.reduceSub, Int.reduceToNat, reduceCtorEq]
            refine AE.forgets [14] rfl ?_
            simp only [go_sem, Nat.reduceAdd, Nat.reduceLeDiff, Nat.reduceSub, Int.reduceToNat, reduceCtorEq]
            exact AE.meet (x, kept) hk (by repeat (first | exact Sub.nil _ | refine Sub.cons rfl ?_)) rfl
    · simp only at hky
      obtain ⟨hys, hyok, hyne, hyl, hykl, hyh⟩ := hky.sz
      obtain ⟨s1, rest1, hrec1⟩ : ∃ s r, y.recs = s :: r := by
        cases hh : y.recs with
        | nil => exact absurd hh hyne
        | cons s r => exact ⟨s, r, rfl⟩
      have hl1 := congrArg List.length hrec1
      rw [List.length_cons] at hl1
      have hal1 := all_own y s1 rest1 hrec1 (by omega)
      have heq := eqStrs y.recs y.recs (by omega) (by omega)
      rw [decide_eq_true rfl] at heq
      simp only [go_sem, Nat.reduceAdd, Nat.reduceLeDiff, Nat.reduceSub, Int.reduceToNat, reduceCtorEq, kH, Jn.cs]
      repeat (first | refine xA ?_ | refine xB ?_ | refine xC ?_ | refine xE ?_ | refine xD ?_ | refine xK ?_ | refine xS ?_ | refine xM ?_ | refine xT ?_ | refine xF ?_ | ((first | refine xR ?_ | refine xW ?_ | refine vq_id ?_); simp only [go_sem, Nat.reduceAdd, Nat.reduceLeDiff, Nat.reduceSub, Int.reduceToNat, reduceCtorEq]) | (refine ⟨by first | omega | (intros; simp_all; done) | (intros; simp_all; omega), ?_⟩; try simp only [go_sem, Nat.reduceAdd, Nat.reduceLeDiff, Nat.reduceSub, Int.reduceToNat, reduceCtorEq]))
      refine AQ.callL ([.im (.pt y.ic)]) (by kernel_rfl) rfl rfl rfl (by ((try simp only [List.nil_append, List.append_nil, List.map_cons, List.map_nil, AV.st, constAV]); repeat (first | with_reducible exact LentC.nil | with_reducible exact LentAs.nil | with_reducible refine LentC.cons ?_ ?_ | with_reducible refine LentAs.cons ?_ ?_ | with_reducible exact Lent.im _ | with_reducible exact LentA.im _ | with_reducible refine LentA.of ?_ | with_reducible refine LentA.agg ?_ | ((with_reducible apply Lent.osw); rfl; simp only [blkR_len, wrR_len, byteR_len, List.length_append, List.length_cons, List.length_nil]) | ((with_reducible apply Lent.ob0); rfl)))) (hal1) fun r1 H1 ⟨e1, e2⟩ => ?_; subst e1; subst e2; refine ⟨rfl, ⟨blkR_plain _, trivial⟩, ?_⟩
      simp only [go_sem, Nat.reduceAdd, Nat.reduceLeDiff, Nat.reduceSub, Int.reduceToNat, reduceCtorEq]
      refine AQ.go (by kernel_rfl) ?_
      simp only [go_sem, Nat.reduceAdd, Nat.reduceLeDiff, Nat.reduceSub, Int.reduceToNat, reduceCtorEq]
      refine AQ.fnL ([.im (.sl 1 (blkR y.recs)), .im (.sl 1 (blkR y.recs))]) (by kernel_rfl) rfl rfl rfl (by ((try simp only [List.nil_append, List.append_nil, List.map_cons, List.map_nil, AV.st, constAV]); repeat (first | with_reducible exact LentC.nil | with_reducible exact LentAs.nil | with_reducible refine LentC.cons ?_ ?_ | with_reducible refine LentAs.cons ?_ ?_ | with_reducible exact Lent.im _ | with_reducible exact LentA.im _ | with_reducible refine LentA.of ?_ | with_reducible refine LentA.agg ?_ | ((with_reducible apply Lent.osw); rfl; simp only [blkR_len, wrR_len, byteR_len, List.length_append, List.length_cons, List.length_nil]) | ((with_reducible apply Lent.ob0); rfl)))) (heq) rfl (fun _ => rfl) ?_
      simp only [go_sem, Nat.reduceAdd, Nat.reduceLeDiff, Nat.reduceSub, Int.reduceToNat, reduceCtorEq]
      repeat (first | refine xA ?_ | refine xB ?_ | refine xC ?_ | refine xE ?_ | refine xD ?_ | refine xK ?_ | refine xS ?_ | refine xM ?_ | refine xT ?_ | refine xF ?_ | ((first | refine xR ?_ | refine xW ?_ | refine vq_id ?_); simp only [go_sem, Nat.reduceAdd, Nat.reduceLeDiff, Nat.reduceSub, Int.reduceToNat, reduceCtorEq, hwi]) | (refine ⟨by first | omega | (intros; simp_all; done) | (intros; simp_all; omega), ?_⟩; try simp only [go_sem, Nat.reduceAdd, Nat.reduceLeDiff, Nat.reduceSub, Int.reduceToNat, reduceCtorEq, hwi]))
      refine AE.forgets [15] rfl ?_
      simp only [go_sem, Nat.reduceAdd, Nat.reduceLeDiff, Nat.reduceSub, Int.reduceToNat, reduceCtorEq]
      exact AE.round (i + 1, y, ky) ⟨by simp only; omega, hky⟩ (by simp only; omega) (by repeat (first | exact Sub.nil _ | refine Sub.cons rfl ?_)) rfl
  · repeat (first | refine xA ?_ | refine xB ?_ | refine xC ?_ | refine xE ?_ | refine xD ?_ | refine xK ?_ | refine xS ?_ | refine xM ?_ | refine xT ?_ | refine xF ?_ | ((first | refine xR ?_ | refine xW ?_ | refine vq_id ?_); simp only [go_sem, Nat.reduceAdd, Nat.reduceLeDiff, Nat.reduceSub, Int.reduceToNat, reduceCtorEq]) | (refine ⟨by first | omega | (intros; simp_all; done) | (intros; simp_all; omega), ?_⟩; try simp only [go_sem, Nat.reduceAdd, Nat.reduceLeDiff, Nat.reduceSub, Int.reduceToNat, reduceCtorEq]))
    refine AQ.fn (by kernel_rfl) rfl rfl rfl (awake_spec) rfl ?_
    repeat (first | refine xA ?_ | refine xB ?_ | refine xC ?_ | refine xE ?_ | refine xD ?_ | refine xK ?_ | refine xS ?_ | refine xM ?_ | refine xT ?_ | refine xF ?_ | ((first | refine xR ?_ | refine xW ?_ | refine vq_id ?_); simp only [go_sem, Nat.reduceAdd, Nat.reduceLeDiff, Nat.reduceSub, Int.reduceToNat, reduceCtorEq]) | (refine ⟨by first | omega | (intros; simp_all; done) | (intros; simp_all; omega), ?_⟩; try simp only [go_sem, Nat.reduceAdd, Nat.reduceLeDiff, Nat.reduceSub, Int.reduceToNat, reduceCtorEq]))
    exact AE.ret0 rfl ⟨rfl, trivial⟩ rfl ⟨rfl, rfl⟩
end Go.Proofs.Ytoafanbfminhcaa
end

section
namespace Go.Proofs.Ytoafanbfminhcaa
open Go Go.AL Go.RowKit
end Go.Proofs.Ytoafanbfminhcaa
end

section
namespace Go.Proofs.Ytoafanbfminhcaa
open Go Go.AL Go.RowKit
set_option maxRecDepth 10000
set_option maxHeartbeats 4000000
abbrev Dk.ar (d : Dk) : AV := .ar [.sl 1 (blkR d.B), .sl 2 (wrR d.W)]
end Go.Proofs.Ytoafanbfminhcaa
end

section
namespace Go.Proofs.Ytoafanbfminhcaa
open Go Go.AL Go.RowKit
set_option maxRecDepth 100000
theorem ints_of {n : Nat} {xs : List IV} (h : Typed Try.prog n 36 xs) : ∃ l : List Int, xs = [.sl 1 (intR l)] ∧ l.length < 9223372036854775808 := by
  have hc : Try.prog.cellsOf 3 = 1 := by kernel_rfl
  obtain ⟨rows, m, rfl, hr, hrow⟩ := typed_slice Try.underlying36 h
  obtain ⟨l, rfl, _⟩ := rows_of (p := fun _ : Int => True) (f := fun i => [Ii i]) rows fun r hr => by
    obtain ⟨i, rfl, _⟩ := typed_int Try.underlying3 (hrow r hr)
    exact ⟨i, rfl, trivial⟩
  refine ⟨l, by rw [hc]; rfl, ?_⟩
  rw [List.length_map] at hr
  unfold maxLen at hr
  omega
end Go.Proofs.Ytoafanbfminhcaa
end

section
namespace Go.Proofs.Ytoafanbfminhcaa
open Go Go.AL Go.RowKit
set_option maxRecDepth 100000
theorem u8_nat {i : Int} (h : (Lit.int .u8 i).wf = true) : ∃ n : Nat, i = n ∧ n < 256 := by
  simp [Lit.wf, IntKind.min, IntKind.max, IntKind.bits, IntKind.signed] at h
  exact ⟨i.toNat, by omega, by omega⟩
theorem acts_of {n : Nat} {xs : List IV} (h : Typed Try.prog n 22 xs) : ∃ l : List Ac, xs = [.sl 3 (acR l)] ∧ l.length < 9223372036854775808 ∧ ∀ a ∈ l, a.k < 256 := by
  have hc : Try.prog.cellsOf 38 = 3 := by kernel_rfl
  have hc5 : Try.prog.cellsOf 5 = 1 := by kernel_rfl
  have hc9 : Try.prog.cellsOf 9 = 1 := by kernel_rfl
  have hc36 : Try.prog.cellsOf 36 = 1 := by kernel_rfl
  obtain ⟨rows, m, rfl, hr, hrow⟩ := typed_slice Try.underlying22 h
  obtain ⟨l, rfl, hl⟩ := rows_of (p := fun a : Ac => a.k < 256) (f := Ac.r) rows fun r hr => by
    obtain ⟨m', hlen, hf⟩ := typed_struct Try.underlying38 (hrow r hr)
    rw [hc] at hlen
    match r, hlen with
    | [a, b, c], _ =>
      have f0 := hf 0 _ rfl
      have f1 := hf 1 _ rfl
      have f2 := hf 2 _ rfl
      simp only [hc5, hc9, hc36, List.drop_zero, List.take_succ_cons, List.take_zero, List.drop_succ_cons] at f0 f1 f2
      obtain ⟨i0, e0, w0⟩ := typed_int Try.underlying5 f0
      obtain ⟨s, e1, _⟩ := typed_str Try.underlying9 f1
      obtain ⟨F, e2, _⟩ := ints_of f2
      obtain ⟨n0, rfl, b0⟩ := u8_nat w0
      cases e0; cases e1; cases e2
      exact ⟨⟨n0, s.data.toList, F⟩, congrArg (fun x => [IV.v (Value.int .u8 n0), IV.v (Value.string x), IV.sl 1 (intR F)]) (BA_of s), b0⟩
  refine ⟨l, by rw [hc]; rfl, ?_, hl⟩
  rw [List.length_map] at hr
  unfold maxLen at hr
  omega
theorem guard_false {l : List Ac} {b : Nat} (h : (!shortL l || decide (60 < (b : Int)) || decide ((b : Int) < 4) || (b : Int).tmod 2 == 1) = false) : shortL l = true ∧ ∃ m, b = 2 * m ∧ 2 ≤ m ∧ m ≤ 30 := by
  simp only [Bool.or_eq_false_iff, Bool.not_eq_false', decide_eq_false_iff_not, beq_eq_false_iff_ne, ne_eq] at h
  obtain ⟨⟨⟨h1, h2⟩, h3⟩, h4⟩ := h
  rw [Int.tmod_eq_emod_of_nonneg (by omega)] at h4
  exact ⟨h1, b / 2, by omega, by omega, by omega⟩
theorem keeps_walk (b : Nat) (l : List Ac) (hl : l.length < 9223372036854775808) : PFn Try.prog 3 [B8 b, .im (.sl 3 (acR l))] (Bv true) := by
  cases h : (!shortL l || decide (60 < (b : Int)) || decide ((b : Int) < 4) || (b : Int).tmod 2 == 1) with
  | true => exact keeps_few b l hl h
  | false =>
    obtain ⟨hs, m, rfl, h1, h2⟩ := guard_false h
    exact keeps_go m l h1 h2 hs
end Go.Proofs.Ytoafanbfminhcaa
end
