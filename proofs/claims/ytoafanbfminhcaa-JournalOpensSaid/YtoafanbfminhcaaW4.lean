import Derived.Test.YtoafanbfminhcaaW3
set_option linter.unusedSimpArgs false
set_option linter.unusedVariables false
set_option linter.unnecessarySimpa false
section
namespace Go.Proofs.Ytoafanbfminhcaa
open Go Go.AL Go.RowKit
set_option maxRecDepth 10000
set_option maxHeartbeats 4000000
theorem stB_bst {S : List Bs} (h : S.length % 2 = 0) : stB S 2 = bst (arA S) (arB S) (nF (S.getD 0 [])) (nF (S.getD (S.length / 2) [])) := by
  have e0 : arX S 0 = S.take (S.length / 2) := by rw [arX, Nat.zero_mul, List.drop_zero]
  have e1 : arX S 1 = S.drop (S.length / 2) := area_drop h
  rw [stB, stB, stB, e0, e1, Nat.zero_mul, Nat.one_mul]; rfl
theorem stB_none {S : List Bs} (h : S.length % 2 = 0) (ha : (arA S).recs = []) (hb : (arB S).recs = []) : (stB S 2).2 = none := by rw [stB_bst h]; exact bst_none ha hb
theorem stB_sel {S : List Bs} (h : S.length % 2 = 0) {c : Sc} {k : Nat} (hs : Sel (arA S) (arB S) c k) : (stB S 2).2 = some (k, c) := by
  rw [stB_bst h]
  refine bst_sel hs (fun hr => ?_) (fun hr => ?_)
  · obtain ⟨s, r, e, h1, h2⟩ := scan_first hr
    have : S.getD 0 [] = s := by
      have := congrArg (fun l => l.getD 0 []) e
      simp only [List.getD_eq_getElem?_getD, List.getElem?_take] at this ⊢
      split at this
      · simpa using this
      · rename_i hn
        have hl := congrArg List.length e
        rw [List.length_take, List.length_cons] at hl
        omega
    rw [this]
    exact ⟨h1, h2⟩
  · obtain ⟨s, r, e, h1, h2⟩ := scan_first hr
    have : S.getD (S.length / 2) [] = s := by
      have := congrArg (fun l => l.getD 0 []) e
      simp only [List.getD_eq_getElem?_getD, List.getElem?_drop, Nat.add_zero] at this ⊢
      simpa using this
    rw [this]
    exact ⟨h1, h2⟩
theorem openR_sel (d : Dk) (hd : d.Ok) {c : Sc} {h : Nat} (hs : Sel (arA d.syncD.B) (arB d.syncD.B) c h) {x : Jn} (hx : openJ d c h = x) : PFn Try.prog 40 [d.v] (.tup [x.rv, Iv 0]) := by
  have h1 := openR_ok d hd
  have hl := sync_blen hd
  obtain ⟨e1, _, _⟩ := okN_even hd.n
  rw [stB_sel (by omega) hs] at h1
  rw [← hx]
  exact h1
theorem openR_damaged (d : Dk) (hd : d.Ok) (ha : (arA d.syncD.B).recs = []) (hb : (arB d.syncD.B).recs = []) : PFn Try.prog 40 [d.v] (.tup [nilR, Iv 400]) := by
  have h1 := openR_ok d hd
  have hl := sync_blen hd
  obtain ⟨e1, _, _⟩ := okN_even hd.n
  rw [stB_none (by omega) ha hb] at h1
  exact h1
theorem open_damaged (d : Dk) (hd : d.Sz) (hok : d.Ok) (ha : (arA d.syncD.B).recs = []) (hb : (arB d.syncD.B).recs = []) : PFn Try.prog 12 [d.v] (.tup [.im (.v (.pointer none)), Iv 400]) :=
  (open_walk d hd hok).mono fun r H' hr => hr.1 ⟨ha, hb⟩
def ogB (d : Dk) (r s : Bs) : Bool := !fewD d || decide (300 < (r.length : Int)) || decide (300 < (s.length : Int))
theorem opens_few (d : Dk) (r s : Bs) (h : ogB d r s = true) (hb : d.B.length < 9223372036854775808) (hw : d.W.length < 9223372036854775808) : PFn Try.prog 7 [d.ar, Sv r, Sv s] (Bv true) := by
  have hf := few_spec d hb hw
  unfold ogB at h
  refine ACall.walk [0, 1, 2, 3, 6, 7, 8, 9, 10, 23, 42, 56, 74, 97] [9] Try.func7 rfl Try.ntmps7 (by kernel_rfl) (by rfl) rfl fun W own I0 φ0 => ?_
  repeat (first | refine xA ?_ | refine xB ?_ | refine xC ?_ | refine xE ?_ | refine xD ?_ | refine xK ?_ | refine xS ?_ | refine xM ?_ | refine xT ?_ | refine xF ?_ | ((first | refine xR ?_ | refine xW ?_ | refine vq_id ?_); simp only [go_sem, Nat.reduceAdd, Nat.reduceLeDiff, Nat.reduceSub, Int.reduceToNat, reduceCtorEq]) | (refine ⟨by first | omega | (intros; simp_all; done) | (intros; simp_all; omega), ?_⟩; try simp only [go_sem, Nat.reduceAdd, Nat.reduceLeDiff, Nat.reduceSub, Int.reduceToNat, reduceCtorEq]))
  refine AQ.fn (by kernel_rfl) rfl rfl rfl (hf) rfl ?_
  repeat (first | refine xA ?_ | refine xB ?_ | refine xC ?_ | refine xE ?_ | refine xD ?_ | refine xK ?_ | refine xS ?_ | refine xM ?_ | refine xT ?_ | refine xF ?_ | ((first | refine xR ?_ | refine xW ?_ | refine vq_id ?_); simp only [go_sem, Nat.reduceAdd, Nat.reduceLeDiff, Nat.reduceSub, Int.reduceToNat, reduceCtorEq, BA_size, h]) | (refine ⟨by first | omega | (intros; simp_all; done) | (intros; simp_all; omega), ?_⟩; try simp only [go_sem, Nat.reduceAdd, Nat.reduceLeDiff, Nat.reduceSub, Int.reduceToNat, reduceCtorEq, BA_size, h]))
  refine AQ.fn (by kernel_rfl) rfl rfl rfl (awake_spec) rfl ?_
  repeat (first | refine xA ?_ | refine xB ?_ | refine xC ?_ | refine xE ?_ | refine xD ?_ | refine xK ?_ | refine xS ?_ | refine xM ?_ | refine xT ?_ | refine xF ?_ | ((first | refine xR ?_ | refine xW ?_ | refine vq_id ?_); simp only [go_sem, Nat.reduceAdd, Nat.reduceLeDiff, Nat.reduceSub, Int.reduceToNat, reduceCtorEq]) | (refine ⟨by first | omega | (intros; simp_all; done) | (intros; simp_all; omega), ?_⟩; try simp only [go_sem, Nat.reduceAdd, Nat.reduceLeDiff, Nat.reduceSub, Int.reduceToNat, reduceCtorEq]))
  exact AE.ret0 rfl ⟨rfl, trivial⟩ rfl ⟨rfl, rfl⟩
theorem opens_err (d : Dk) (r s : Bs) (e : Int) (he : (e != 0) = true) (h : ogB d r s = false) (hd : d.Sz) (h1 : PFn Try.prog 12 [d.v] (.tup [.im (.v (.pointer none)), Iv e])) (h2 : PFn Try.prog 40 [d.v] (.tup [nilR, Iv e])) : PFn Try.prog 7 [d.ar, Sv r, Sv s] (Bv true) := by
  have hf := few_spec d (by have := hd.b; omega) (by have := hd.w; omega)
  have k1 := disk_spec d hd
  unfold ogB at h
  refine ACall.walk [0, 1, 2, 3, 6, 7, 8, 9, 10, 23, 42, 56, 74, 97] [9] Try.func7 rfl Try.ntmps7 (by kernel_rfl) (by rfl) rfl fun W own I0 φ0 => ?_
  repeat (first | refine xA ?_ | refine xB ?_ | refine xC ?_ | refine xE ?_ | refine xD ?_ | refine xK ?_ | refine xS ?_ | refine xM ?_ | refine xT ?_ | refine xF ?_ | ((first | refine xR ?_ | refine xW ?_ | refine vq_id ?_); simp only [go_sem, Nat.reduceAdd, Nat.reduceLeDiff, Nat.reduceSub, Int.reduceToNat, reduceCtorEq]) | (refine ⟨by first | omega | (intros; simp_all; done) | (intros; simp_all; omega), ?_⟩; try simp only [go_sem, Nat.reduceAdd, Nat.reduceLeDiff, Nat.reduceSub, Int.reduceToNat, reduceCtorEq]))
  refine AQ.fn (by kernel_rfl) rfl rfl rfl (hf) rfl ?_
  repeat (first | refine xA ?_ | refine xB ?_ | refine xC ?_ | refine xE ?_ | refine xD ?_ | refine xK ?_ | refine xS ?_ | refine xM ?_ | refine xT ?_ | refine xF ?_ | ((first | refine xR ?_ | refine xW ?_ | refine vq_id ?_); simp only [go_sem, Nat.reduceAdd, Nat.reduceLeDiff, Nat.reduceSub, Int.reduceToNat, reduceCtorEq, BA_size, h]) | (refine ⟨by first | omega | (intros; simp_all; done) | (intros; simp_all; omega), ?_⟩; try simp only [go_sem, Nat.reduceAdd, Nat.reduceLeDiff, Nat.reduceSub, Int.reduceToNat, reduceCtorEq, BA_size, h]))
  refine AQ.fn (by kernel_rfl) rfl rfl rfl (k1) rfl ?_
  simp only [go_sem, Nat.reduceAdd, Nat.reduceLeDiff, Nat.reduceSub, Int.reduceToNat, reduceCtorEq]
  refine AQ.fn (by kernel_rfl) rfl rfl rfl (h1) rfl ?_
  repeat (first | refine xA ?_ | refine xB ?_ | refine xC ?_ | refine xE ?_ | refine xD ?_ | refine xK ?_ | refine xS ?_ | refine xM ?_ | refine xT ?_ | refine xF ?_ | ((first | refine xR ?_ | refine xW ?_ | refine vq_id ?_); simp only [go_sem, Nat.reduceAdd, Nat.reduceLeDiff, Nat.reduceSub, Int.reduceToNat, reduceCtorEq]) | (refine ⟨by first | omega | (intros; simp_all; done) | (intros; simp_all; omega), ?_⟩; try simp only [go_sem, Nat.reduceAdd, Nat.reduceLeDiff, Nat.reduceSub, Int.reduceToNat, reduceCtorEq]))
  refine AQ.fn (by kernel_rfl) rfl rfl rfl (h2) rfl ?_
  repeat (first | refine xA ?_ | refine xB ?_ | refine xC ?_ | refine xE ?_ | refine xD ?_ | refine xK ?_ | refine xS ?_ | refine xM ?_ | refine xT ?_ | refine xF ?_ | ((first | refine xR ?_ | refine xW ?_ | refine vq_id ?_); simp only [go_sem, Nat.reduceAdd, Nat.reduceLeDiff, Nat.reduceSub, Int.reduceToNat, reduceCtorEq, bne_self_eq_false, beq_self_eq_true, he]) | (refine ⟨by first | omega | (intros; simp_all; done) | (intros; simp_all; omega), ?_⟩; try simp only [go_sem, Nat.reduceAdd, Nat.reduceLeDiff, Nat.reduceSub, Int.reduceToNat, reduceCtorEq, bne_self_eq_false, beq_self_eq_true, he]))
  refine AQ.guard_yes (by simp only [go_sem]) ?_
  refine AQ.fn (by kernel_rfl) rfl rfl rfl (awake_spec) rfl ?_
  repeat (first | refine xA ?_ | refine xB ?_ | refine xC ?_ | refine xE ?_ | refine xD ?_ | refine xK ?_ | refine xS ?_ | refine xM ?_ | refine xT ?_ | refine xF ?_ | ((first | refine xR ?_ | refine xW ?_ | refine vq_id ?_); simp only [go_sem, Nat.reduceAdd, Nat.reduceLeDiff, Nat.reduceSub, Int.reduceToNat, reduceCtorEq]) | (refine ⟨by first | omega | (intros; simp_all; done) | (intros; simp_all; omega), ?_⟩; try simp only [go_sem, Nat.reduceAdd, Nat.reduceLeDiff, Nat.reduceSub, Int.reduceToNat, reduceCtorEq]))
  exact AE.ret0 rfl ⟨rfl, trivial⟩ rfl ⟨rfl, rfl⟩
theorem opens_go (d : Dk) (r s : Bs) (c : Sc) (k : Nat) (h : ogB d r s = false) (hd : d.Sz) (hok : d.Ok) (hs : Sel (arA d.syncD.B) (arB d.syncD.B) c k) : PFn Try.prog 7 [d.ar, Sv r, Sv s] (Bv true) := by
  have hf := few_spec d (by have := hd.b; omega) (by have := hd.w; omega)
  have k1 := disk_spec d hd
  have hoi := OI.opened hok hs
  obtain ⟨x, hx⟩ : ∃ x, openJ d c k = x := ⟨_, rfl⟩
  have h1 := open_sel d hd hok hs hx
  have h2 := openR_sel d hok hs hx
  rw [hx] at hoi
  have hal := alike_spec x hoi.sz hoi.ne
  have hrs : r.length ≤ 300 ∧ s.length ≤ 300 := by
    unfold ogB at h
    simp only [Bool.or_eq_false_iff, decide_eq_false_iff_not] at h
    omega
  unfold ogB at h
  refine ACall.walk [0, 1, 2, 3, 6, 7, 8, 9, 10, 23, 42, 56, 74, 97] [9] Try.func7 rfl Try.ntmps7 (by kernel_rfl) (by rfl) rfl fun W own I0 φ0 => ?_
  repeat (first | refine xA ?_ | refine xB ?_ | refine xC ?_ | refine xE ?_ | refine xD ?_ | refine xK ?_ | refine xS ?_ | refine xM ?_ | refine xT ?_ | refine xF ?_ | ((first | refine xR ?_ | refine xW ?_ | refine vq_id ?_); simp only [go_sem, Nat.reduceAdd, Nat.reduceLeDiff, Nat.reduceSub, Int.reduceToNat, reduceCtorEq]) | (refine ⟨by first | omega | (intros; simp_all; done) | (intros; simp_all; omega), ?_⟩; try simp only [go_sem, Nat.reduceAdd, Nat.reduceLeDiff, Nat.reduceSub, Int.reduceToNat, reduceCtorEq]))
  refine AQ.fn (by kernel_rfl) rfl rfl rfl (hf) rfl ?_
  repeat (first | refine xA ?_ | refine xB ?_ | refine xC ?_ | refine xE ?_ | refine xD ?_ | refine xK ?_ | refine xS ?_ | refine xM ?_ | refine xT ?_ | refine xF ?_ | ((first | refine xR ?_ | refine xW ?_ | refine vq_id ?_); simp only [go_sem, Nat.reduceAdd, Nat.reduceLeDiff, Nat.reduceSub, Int.reduceToNat, reduceCtorEq, BA_size, h]) | (refine ⟨by first | omega | (intros; simp_all; done) | (intros; simp_all; omega), ?_⟩; try simp only [go_sem, Nat.reduceAdd, Nat.reduceLeDiff, Nat.reduceSub, Int.reduceToNat, reduceCtorEq, BA_size, h]))
  refine AQ.fn (by kernel_rfl) rfl rfl rfl (k1) rfl ?_
  simp only [go_sem, Nat.reduceAdd, Nat.reduceLeDiff, Nat.reduceSub, Int.reduceToNat, reduceCtorEq]
  refine AQ.callv (by kernel_rfl) rfl rfl rfl h1 fun r' H' ⟨e1, e2⟩ => ?_
  subst e1; subst e2
  simp only [go_sem, Nat.reduceAdd, Nat.reduceLeDiff, Nat.reduceSub, Int.reduceToNat, reduceCtorEq, Jn.H]
  repeat (first | refine xA ?_ | refine xB ?_ | refine xC ?_ | refine xE ?_ | refine xD ?_ | refine xK ?_ | refine xS ?_ | refine xM ?_ | refine xT ?_ | refine xF ?_ | ((first | refine xR ?_ | refine xW ?_ | refine vq_id ?_); simp only [go_sem, Nat.reduceAdd, Nat.reduceLeDiff, Nat.reduceSub, Int.reduceToNat, reduceCtorEq]) | (refine ⟨by first | omega | (intros; simp_all; done) | (intros; simp_all; omega), ?_⟩; try simp only [go_sem, Nat.reduceAdd, Nat.reduceLeDiff, Nat.reduceSub, Int.reduceToNat, reduceCtorEq]))
  refine AQ.fn (by kernel_rfl) rfl rfl rfl (h2) rfl ?_
  repeat (first | refine xA ?_ | refine xB ?_ | refine xC ?_ | refine xE ?_ | refine xD ?_ | refine xK ?_ | refine xS ?_ | refine xM ?_ | refine xT ?_ | refine xF ?_ | ((first | refine xR ?_ | refine xW ?_ | refine vq_id ?_); simp only [go_sem, Nat.reduceAdd, Nat.reduceLeDiff, Nat.reduceSub, Int.reduceToNat, reduceCtorEq, Int.reduceBNe]) | (refine ⟨by first | omega | (intros; simp_all; done) | (intros; simp_all; omega), ?_⟩; try simp only [go_sem, Nat.reduceAdd, Nat.reduceLeDiff, Nat.reduceSub, Int.reduceToNat, reduceCtorEq, Int.reduceBNe]))
  refine AQ.fnL ([.im (.pt x.ic), x.rv]) (by kernel_rfl) rfl rfl rfl (by ((try simp only [List.nil_append, List.append_nil, List.map_cons, List.map_nil, AV.st, constAV]); repeat (first | with_reducible exact LentC.nil | with_reducible exact LentAs.nil | with_reducible refine LentC.cons ?_ ?_ | with_reducible refine LentAs.cons ?_ ?_ | with_reducible exact Lent.im _ | with_reducible exact LentA.im _ | with_reducible refine LentA.of ?_ | with_reducible refine LentA.agg ?_ | ((with_reducible apply Lent.osw); rfl; simp only [blkR_len, wrR_len, byteR_len, List.length_append, List.length_cons, List.length_nil]) | ((with_reducible apply Lent.ob0); rfl)))) (hal) rfl (fun _ => rfl) ?_
  simp only [go_sem, Nat.reduceAdd, Nat.reduceLeDiff, Nat.reduceSub, Int.reduceToNat, reduceCtorEq]
  repeat (first | refine xA ?_ | refine xB ?_ | refine xC ?_ | refine xE ?_ | refine xD ?_ | refine xK ?_ | refine xS ?_ | refine xM ?_ | refine xT ?_ | refine xF ?_ | ((first | refine xR ?_ | refine xW ?_ | refine vq_id ?_); simp only [go_sem, Nat.reduceAdd, Nat.reduceLeDiff, Nat.reduceSub, Int.reduceToNat, reduceCtorEq]) | (refine ⟨by first | omega | (intros; simp_all; done) | (intros; simp_all; omega), ?_⟩; try simp only [go_sem, Nat.reduceAdd, Nat.reduceLeDiff, Nat.reduceSub, Int.reduceToNat, reduceCtorEq]))
  refine AQ.rename 1 10 rfl rfl rfl ?_; simp only [go_sem, Nat.reduceAdd, Nat.reduceLeDiff, Nat.reduceSub, Int.reduceToNat, reduceCtorEq]; refine AQ.rename 2 11 rfl rfl rfl ?_; simp only [go_sem, Nat.reduceAdd, Nat.reduceLeDiff, Nat.reduceSub, Int.reduceToNat, reduceCtorEq]; refine AQ.rename 3 12 rfl rfl rfl ?_; simp only [go_sem, Nat.reduceAdd, Nat.reduceLeDiff, Nat.reduceSub, Int.reduceToNat, reduceCtorEq]
  obtain ⟨halfx, hhx⟩ : ∃ half : Nat, x.half = (half : Int) := by
    rcases hoi.sz.h with h | h
    · exact ⟨0, h⟩
    · exact ⟨1, h⟩
  obtain ⟨hax, hkx⟩ : ∃ half : Nat, 1 - x.half = (half : Int) := by
    rcases hoi.sz.h with h | h
    · exact ⟨1, by omega⟩
    · exact ⟨0, by omega⟩
  obtain ⟨ea, hea⟩ : ∃ e, x.appE r = e := ⟨_, rfl⟩
  have he08 : ea = 0 ∨ ea = 8 := by
    rw [← hea, Jn.appE, if_neg (by omega)]
    split <;> simp
  rcases he08 with rfl | rfl
  · skip
    have hoA := hoi.append r hea halfx hhx
    have hcA := append_ok x halfx r hoi.sz hhx hea
    have hrA := appendR_ok x halfx r hoi.sz hhx hea
    obtain ⟨y, hy⟩ : ∃ y, x.wrote halfx x.used x.last r = y := ⟨_, rfl⟩
    rw [hy] at hoA hcA hrA
    have hal2 := alike_spec y hoA.sz hoA.ne
    refine AQ.callH [(2, 11), (1, 10), (0, 0)] (by kernel_rfl) rfl rfl rfl rfl rfl rfl (by exact ⟨rfl, rfl, rfl, trivial⟩) rfl (hcA) ?_
    rintro r1 H1 ⟨rfl, rfl⟩
    refine ⟨rfl, ?_⟩
    simp only [go_sem, Nat.reduceAdd, Nat.reduceLeDiff, Nat.reduceSub, Int.reduceToNat, reduceCtorEq, Jn.H, Jn.cs]
    refine AQ.go (by kernel_rfl) ?_
    simp only [go_sem, Nat.reduceAdd, Nat.reduceLeDiff, Nat.reduceSub, Int.reduceToNat, reduceCtorEq]
    refine AQ.rename 16 10 rfl rfl rfl ?_; simp only [go_sem, Nat.reduceAdd, Nat.reduceLeDiff, Nat.reduceSub, Int.reduceToNat, reduceCtorEq]; refine AQ.rename 17 11 rfl rfl rfl ?_; simp only [go_sem, Nat.reduceAdd, Nat.reduceLeDiff, Nat.reduceSub, Int.reduceToNat, reduceCtorEq]
    refine AQ.order [12, 11, 10, 0] rfl ?_
    simp only [go_sem, Nat.reduceAdd, Nat.reduceLeDiff, Nat.reduceSub, Int.reduceToNat, reduceCtorEq]
    repeat (first | refine xA ?_ | refine xB ?_ | refine xC ?_ | refine xE ?_ | refine xD ?_ | refine xK ?_ | refine xS ?_ | refine xM ?_ | refine xT ?_ | refine xF ?_ | ((first | refine xR ?_ | refine xW ?_ | refine vq_id ?_); simp only [go_sem, Nat.reduceAdd, Nat.reduceLeDiff, Nat.reduceSub, Int.reduceToNat, reduceCtorEq]) | (refine ⟨by first | omega | (intros; simp_all; done) | (intros; simp_all; omega), ?_⟩; try simp only [go_sem, Nat.reduceAdd, Nat.reduceLeDiff, Nat.reduceSub, Int.reduceToNat, reduceCtorEq]))
    refine AQ.fn (by kernel_rfl) rfl rfl rfl (hrA) rfl ?_
    repeat (first | refine xA ?_ | refine xB ?_ | refine xC ?_ | refine xE ?_ | refine xD ?_ | refine xK ?_ | refine xS ?_ | refine xM ?_ | refine xT ?_ | refine xF ?_ | ((first | refine xR ?_ | refine xW ?_ | refine vq_id ?_); simp only [go_sem, Nat.reduceAdd, Nat.reduceLeDiff, Nat.reduceSub, Int.reduceToNat, reduceCtorEq, bne_self_eq_false, Int.reduceBNe]) | (refine ⟨by first | omega | (intros; simp_all; done) | (intros; simp_all; omega), ?_⟩; try simp only [go_sem, Nat.reduceAdd, Nat.reduceLeDiff, Nat.reduceSub, Int.reduceToNat, reduceCtorEq, bne_self_eq_false, Int.reduceBNe]))
    refine AQ.guard_yes (by simp only [go_sem]) ?_
    refine AQ.fnL ([.im (.pt y.ic), y.rv]) (by kernel_rfl) rfl rfl rfl (by ((try simp only [List.nil_append, List.append_nil, List.map_cons, List.map_nil, AV.st, constAV]); repeat (first | with_reducible exact LentC.nil | with_reducible exact LentAs.nil | with_reducible refine LentC.cons ?_ ?_ | with_reducible refine LentAs.cons ?_ ?_ | with_reducible exact Lent.im _ | with_reducible exact LentA.im _ | with_reducible refine LentA.of ?_ | with_reducible refine LentA.agg ?_ | ((with_reducible apply Lent.osw); rfl; simp only [blkR_len, wrR_len, byteR_len, List.length_append, List.length_cons, List.length_nil]) | ((with_reducible apply Lent.ob0); rfl)))) (hal2) rfl (fun _ => rfl) ?_
    simp only [go_sem, Nat.reduceAdd, Nat.reduceLeDiff, Nat.reduceSub, Int.reduceToNat, reduceCtorEq]
    repeat (first | refine xA ?_ | refine xB ?_ | refine xC ?_ | refine xE ?_ | refine xD ?_ | refine xK ?_ | refine xS ?_ | refine xM ?_ | refine xT ?_ | refine xF ?_ | ((first | refine xR ?_ | refine xW ?_ | refine vq_id ?_); simp only [go_sem, Nat.reduceAdd, Nat.reduceLeDiff, Nat.reduceSub, Int.reduceToNat, reduceCtorEq, bne_self_eq_false, Int.reduceBNe]) | (refine ⟨by first | omega | (intros; simp_all; done) | (intros; simp_all; omega), ?_⟩; try simp only [go_sem, Nat.reduceAdd, Nat.reduceLeDiff, Nat.reduceSub, Int.reduceToNat, reduceCtorEq, bne_self_eq_false, Int.reduceBNe]))
    obtain ⟨halfy, hhy⟩ : ∃ half : Nat, y.half = (half : Int) := by
      rcases hoA.sz.h with h | h
      · exact ⟨0, h⟩
      · exact ⟨1, h⟩
    obtain ⟨hay, hky⟩ : ∃ half : Nat, 1 - y.half = (half : Int) := by
      rcases hoA.sz.h with h | h
      · exact ⟨1, by omega⟩
      · exact ⟨0, by omega⟩
    obtain ⟨ec, hec⟩ : ∃ e, y.compE s = e := ⟨_, rfl⟩
    have he08 : ec = 0 ∨ ec = 8 := by
      rw [← hec, Jn.compE, if_neg (by omega)]
      split <;> simp
    rcases he08 with rfl | rfl
    · skip
      have hoC := hoA.compact s hec hay hky
      have hcC := compact_ok y hay s hoA.sz hoA.ok hky hec
      have hrC := compactR_ok y hay s hoA.sz hoA.ok hky hec
      obtain ⟨w, hw⟩ : ∃ w, y.comp0.wrote hay 0 0 s = w := ⟨_, rfl⟩
      rw [hw] at hoC hcC hrC
      have hal3 := alike_spec w hoC.sz hoC.ne
      refine AQ.callH [(2, 11), (1, 10), (0, 0)] (by kernel_rfl) rfl rfl rfl rfl rfl rfl (by exact ⟨rfl, rfl, rfl, trivial⟩) rfl (hcC) ?_
      rintro r1 H1 ⟨rfl, rfl⟩
      refine ⟨rfl, ?_⟩
      simp only [go_sem, Nat.reduceAdd, Nat.reduceLeDiff, Nat.reduceSub, Int.reduceToNat, reduceCtorEq, Jn.H, Jn.cs]
      refine AQ.go (by kernel_rfl) ?_
      simp only [go_sem, Nat.reduceAdd, Nat.reduceLeDiff, Nat.reduceSub, Int.reduceToNat, reduceCtorEq]
      refine AQ.rename 16 10 rfl rfl rfl ?_; simp only [go_sem, Nat.reduceAdd, Nat.reduceLeDiff, Nat.reduceSub, Int.reduceToNat, reduceCtorEq]; refine AQ.rename 17 11 rfl rfl rfl ?_; simp only [go_sem, Nat.reduceAdd, Nat.reduceLeDiff, Nat.reduceSub, Int.reduceToNat, reduceCtorEq]
      refine AQ.order [12, 11, 10, 0] rfl ?_
      simp only [go_sem, Nat.reduceAdd, Nat.reduceLeDiff, Nat.reduceSub, Int.reduceToNat, reduceCtorEq]
      repeat (first | refine xA ?_ | refine xB ?_ | refine xC ?_ | refine xE ?_ | refine xD ?_ | refine xK ?_ | refine xS ?_ | refine xM ?_ | refine xT ?_ | refine xF ?_ | ((first | refine xR ?_ | refine xW ?_ | refine vq_id ?_); simp only [go_sem, Nat.reduceAdd, Nat.reduceLeDiff, Nat.reduceSub, Int.reduceToNat, reduceCtorEq]) | (refine ⟨by first | omega | (intros; simp_all; done) | (intros; simp_all; omega), ?_⟩; try simp only [go_sem, Nat.reduceAdd, Nat.reduceLeDiff, Nat.reduceSub, Int.reduceToNat, reduceCtorEq]))
      refine AQ.fn (by kernel_rfl) rfl rfl rfl (hrC) rfl ?_
      repeat (first | refine xA ?_ | refine xB ?_ | refine xC ?_ | refine xE ?_ | refine xD ?_ | refine xK ?_ | refine xS ?_ | refine xM ?_ | refine xT ?_ | refine xF ?_ | ((first | refine xR ?_ | refine xW ?_ | refine vq_id ?_); simp only [go_sem, Nat.reduceAdd, Nat.reduceLeDiff, Nat.reduceSub, Int.reduceToNat, reduceCtorEq, bne_self_eq_false, Int.reduceBNe]) | (refine ⟨by first | omega | (intros; simp_all; done) | (intros; simp_all; omega), ?_⟩; try simp only [go_sem, Nat.reduceAdd, Nat.reduceLeDiff, Nat.reduceSub, Int.reduceToNat, reduceCtorEq, bne_self_eq_false, Int.reduceBNe]))
      refine AQ.guard_yes (by simp only [go_sem]) ?_
      refine AQ.fnL ([.im (.pt w.ic), w.rv]) (by kernel_rfl) rfl rfl rfl (by ((try simp only [List.nil_append, List.append_nil, List.map_cons, List.map_nil, AV.st, constAV]); repeat (first | with_reducible exact LentC.nil | with_reducible exact LentAs.nil | with_reducible refine LentC.cons ?_ ?_ | with_reducible refine LentAs.cons ?_ ?_ | with_reducible exact Lent.im _ | with_reducible exact LentA.im _ | with_reducible refine LentA.of ?_ | with_reducible refine LentA.agg ?_ | ((with_reducible apply Lent.osw); rfl; simp only [blkR_len, wrR_len, byteR_len, List.length_append, List.length_cons, List.length_nil]) | ((with_reducible apply Lent.ob0); rfl)))) (hal3) rfl (fun _ => rfl) ?_
      simp only [go_sem, Nat.reduceAdd, Nat.reduceLeDiff, Nat.reduceSub, Int.reduceToNat, reduceCtorEq]
      repeat (first | refine xA ?_ | refine xB ?_ | refine xC ?_ | refine xE ?_ | refine xD ?_ | refine xK ?_ | refine xS ?_ | refine xM ?_ | refine xT ?_ | refine xF ?_ | ((first | refine xR ?_ | refine xW ?_ | refine vq_id ?_); simp only [go_sem, Nat.reduceAdd, Nat.reduceLeDiff, Nat.reduceSub, Int.reduceToNat, reduceCtorEq, bne_self_eq_false, Int.reduceBNe]) | (refine ⟨by first | omega | (intros; simp_all; done) | (intros; simp_all; omega), ?_⟩; try simp only [go_sem, Nat.reduceAdd, Nat.reduceLeDiff, Nat.reduceSub, Int.reduceToNat, reduceCtorEq, bne_self_eq_false, Int.reduceBNe]))
      refine AQ.guard_yes (by simp only [go_sem]) ?_
      have hcow := commit_ok w hoC.sz hoC.ok
      have hcrw := commitR_spec w hoC.sz hoC.ok
      have hoS := hoC.commit
      have hal9 := alike_spec w.synced hoS.sz hoS.ne
      obtain ⟨z, hz⟩ : ∃ z, w.synced = z := ⟨_, rfl⟩
      rw [hz] at hcow hcrw hal9
      refine AQ.callH [(2, 11), (1, 10), (0, 0)] (by kernel_rfl) rfl rfl rfl rfl rfl rfl (by exact ⟨rfl, rfl, rfl, trivial⟩) rfl (hcow) ?_
      rintro r1 H1 ⟨rfl, rfl⟩
      refine ⟨rfl, ?_⟩
      simp only [go_sem, Nat.reduceAdd, Nat.reduceLeDiff, Nat.reduceSub, Int.reduceToNat, reduceCtorEq, Jn.H, Jn.cs]
      refine AQ.go (by kernel_rfl) ?_
      simp only [go_sem, Nat.reduceAdd, Nat.reduceLeDiff, Nat.reduceSub, Int.reduceToNat, reduceCtorEq]
      refine AQ.rename 16 10 rfl rfl rfl ?_; simp only [go_sem, Nat.reduceAdd, Nat.reduceLeDiff, Nat.reduceSub, Int.reduceToNat, reduceCtorEq]
      refine AQ.order [12, 11, 10, 0] rfl ?_
      simp only [go_sem, Nat.reduceAdd, Nat.reduceLeDiff, Nat.reduceSub, Int.reduceToNat, reduceCtorEq]
      repeat (first | refine xA ?_ | refine xB ?_ | refine xC ?_ | refine xE ?_ | refine xD ?_ | refine xK ?_ | refine xS ?_ | refine xM ?_ | refine xT ?_ | refine xF ?_ | ((first | refine xR ?_ | refine xW ?_ | refine vq_id ?_); simp only [go_sem, Nat.reduceAdd, Nat.reduceLeDiff, Nat.reduceSub, Int.reduceToNat, reduceCtorEq, bne_self_eq_false, Int.reduceBNe]) | (refine ⟨by first | omega | (intros; simp_all; done) | (intros; simp_all; omega), ?_⟩; try simp only [go_sem, Nat.reduceAdd, Nat.reduceLeDiff, Nat.reduceSub, Int.reduceToNat, reduceCtorEq, bne_self_eq_false, Int.reduceBNe]))
      refine AQ.fn (by kernel_rfl) rfl rfl rfl (hcrw) rfl ?_
      simp only [go_sem, Nat.reduceAdd, Nat.reduceLeDiff, Nat.reduceSub, Int.reduceToNat, reduceCtorEq]
      refine AQ.fnL ([.im (.pt z.ic), z.rv]) (by kernel_rfl) rfl rfl rfl (by ((try simp only [List.nil_append, List.append_nil, List.map_cons, List.map_nil, AV.st, constAV]); repeat (first | with_reducible exact LentC.nil | with_reducible exact LentAs.nil | with_reducible refine LentC.cons ?_ ?_ | with_reducible refine LentAs.cons ?_ ?_ | with_reducible exact Lent.im _ | with_reducible exact LentA.im _ | with_reducible refine LentA.of ?_ | with_reducible refine LentA.agg ?_ | ((with_reducible apply Lent.osw); rfl; simp only [blkR_len, wrR_len, byteR_len, List.length_append, List.length_cons, List.length_nil]) | ((with_reducible apply Lent.ob0); rfl)))) (hal9) rfl (fun _ => rfl) ?_
      simp only [go_sem, Nat.reduceAdd, Nat.reduceLeDiff, Nat.reduceSub, Int.reduceToNat, reduceCtorEq]
      repeat (first | refine xA ?_ | refine xB ?_ | refine xC ?_ | refine xE ?_ | refine xD ?_ | refine xK ?_ | refine xS ?_ | refine xM ?_ | refine xT ?_ | refine xF ?_ | ((first | refine xR ?_ | refine xW ?_ | refine vq_id ?_); simp only [go_sem, Nat.reduceAdd, Nat.reduceLeDiff, Nat.reduceSub, Int.reduceToNat, reduceCtorEq]) | (refine ⟨by first | omega | (intros; simp_all; done) | (intros; simp_all; omega), ?_⟩; try simp only [go_sem, Nat.reduceAdd, Nat.reduceLeDiff, Nat.reduceSub, Int.reduceToNat, reduceCtorEq]))
      refine AQ.guard_yes (by simp only [go_sem]) ?_
      refine AQ.fn (by kernel_rfl) rfl rfl rfl (awake_spec) rfl ?_
      repeat (first | refine xA ?_ | refine xB ?_ | refine xC ?_ | refine xE ?_ | refine xD ?_ | refine xK ?_ | refine xS ?_ | refine xM ?_ | refine xT ?_ | refine xF ?_ | ((first | refine xR ?_ | refine xW ?_ | refine vq_id ?_); simp only [go_sem, Nat.reduceAdd, Nat.reduceLeDiff, Nat.reduceSub, Int.reduceToNat, reduceCtorEq]) | (refine ⟨by first | omega | (intros; simp_all; done) | (intros; simp_all; omega), ?_⟩; try simp only [go_sem, Nat.reduceAdd, Nat.reduceLeDiff, Nat.reduceSub, Int.reduceToNat, reduceCtorEq]))
      exact AE.ret0 rfl ⟨rfl, trivial⟩ rfl ⟨rfl, rfl⟩
    · skip
      have hcC := compact_full y s hoA.sz hec
      have hrC := compactR_full y hay s hoA.sz hoA.ok hky hec
      have hal3 := alike_spec y hoA.sz hoA.ne
      refine AQ.callH [(2, 11), (1, 10), (0, 0)] (by kernel_rfl) rfl rfl rfl rfl rfl rfl (by exact ⟨rfl, rfl, rfl, trivial⟩) rfl (hcC) ?_
      rintro r1 H1 ⟨rfl, rfl⟩
      refine ⟨rfl, ?_⟩
      simp only [go_sem, Nat.reduceAdd, Nat.reduceLeDiff, Nat.reduceSub, Int.reduceToNat, reduceCtorEq, Jn.H, Jn.cs]
      refine AQ.go (by kernel_rfl) ?_
      simp only [go_sem, Nat.reduceAdd, Nat.reduceLeDiff, Nat.reduceSub, Int.reduceToNat, reduceCtorEq]
      repeat (first | refine xA ?_ | refine xB ?_ | refine xC ?_ | refine xE ?_ | refine xD ?_ | refine xK ?_ | refine xS ?_ | refine xM ?_ | refine xT ?_ | refine xF ?_ | ((first | refine xR ?_ | refine xW ?_ | refine vq_id ?_); simp only [go_sem, Nat.reduceAdd, Nat.reduceLeDiff, Nat.reduceSub, Int.reduceToNat, reduceCtorEq]) | (refine ⟨by first | omega | (intros; simp_all; done) | (intros; simp_all; omega), ?_⟩; try simp only [go_sem, Nat.reduceAdd, Nat.reduceLeDiff, Nat.reduceSub, Int.reduceToNat, reduceCtorEq]))
      refine AQ.fn (by kernel_rfl) rfl rfl rfl (hrC) rfl ?_
      repeat (first | refine xA ?_ | refine xB ?_ | refine xC ?_ | refine xE ?_ | refine xD ?_ | refine xK ?_ | refine xS ?_ | refine xM ?_ | refine xT ?_ | refine xF ?_ | ((first | refine xR ?_ | refine xW ?_ | refine vq_id ?_); simp only [go_sem, Nat.reduceAdd, Nat.reduceLeDiff, Nat.reduceSub, Int.reduceToNat, reduceCtorEq, bne_self_eq_false, Int.reduceBNe]) | (refine ⟨by first | omega | (intros; simp_all; done) | (intros; simp_all; omega), ?_⟩; try simp only [go_sem, Nat.reduceAdd, Nat.reduceLeDiff, Nat.reduceSub, Int.reduceToNat, reduceCtorEq, bne_self_eq_false, Int.reduceBNe]))
      refine AQ.guard_yes (by simp only [go_sem]) ?_
      refine AQ.fnL ([.im (.pt y.ic), y.rv]) (by kernel_rfl) rfl rfl rfl (by ((try simp only [List.nil_append, List.append_nil, List.map_cons, List.map_nil, AV.st, constAV]); repeat (first | with_reducible exact LentC.nil | with_reducible exact LentAs.nil | with_reducible refine LentC.cons ?_ ?_ | with_reducible refine LentAs.cons ?_ ?_ | with_reducible exact Lent.im _ | with_reducible exact LentA.im _ | with_reducible refine LentA.of ?_ | with_reducible refine LentA.agg ?_ | ((with_reducible apply Lent.osw); rfl; simp only [blkR_len, wrR_len, byteR_len, List.length_append, List.length_cons, List.length_nil]) | ((with_reducible apply Lent.ob0); rfl)))) (hal3) rfl (fun _ => rfl) ?_
      simp only [go_sem, Nat.reduceAdd, Nat.reduceLeDiff, Nat.reduceSub, Int.reduceToNat, reduceCtorEq]
      repeat (first | refine xA ?_ | refine xB ?_ | refine xC ?_ | refine xE ?_ | refine xD ?_ | refine xK ?_ | refine xS ?_ | refine xM ?_ | refine xT ?_ | refine xF ?_ | ((first | refine xR ?_ | refine xW ?_ | refine vq_id ?_); simp only [go_sem, Nat.reduceAdd, Nat.reduceLeDiff, Nat.reduceSub, Int.reduceToNat, reduceCtorEq, bne_self_eq_false, Int.reduceBNe]) | (refine ⟨by first | omega | (intros; simp_all; done) | (intros; simp_all; omega), ?_⟩; try simp only [go_sem, Nat.reduceAdd, Nat.reduceLeDiff, Nat.reduceSub, Int.reduceToNat, reduceCtorEq, bne_self_eq_false, Int.reduceBNe]))
      refine AQ.guard_yes (by simp only [go_sem]) ?_
      have hcoy := commit_ok y hoA.sz hoA.ok
      have hcry := commitR_spec y hoA.sz hoA.ok
      have hoS := hoA.commit
      have hal9 := alike_spec y.synced hoS.sz hoS.ne
      obtain ⟨z, hz⟩ : ∃ z, y.synced = z := ⟨_, rfl⟩
      rw [hz] at hcoy hcry hal9
      refine AQ.callH [(2, 11), (1, 10), (0, 0)] (by kernel_rfl) rfl rfl rfl rfl rfl rfl (by exact ⟨rfl, rfl, rfl, trivial⟩) rfl (hcoy) ?_
      rintro r1 H1 ⟨rfl, rfl⟩
      refine ⟨rfl, ?_⟩
      simp only [go_sem, Nat.reduceAdd, Nat.reduceLeDiff, Nat.reduceSub, Int.reduceToNat, reduceCtorEq, Jn.H, Jn.cs]
      refine AQ.go (by kernel_rfl) ?_
      simp only [go_sem, Nat.reduceAdd, Nat.reduceLeDiff, Nat.reduceSub, Int.reduceToNat, reduceCtorEq]
      refine AQ.rename 16 10 rfl rfl rfl ?_; simp only [go_sem, Nat.reduceAdd, Nat.reduceLeDiff, Nat.reduceSub, Int.reduceToNat, reduceCtorEq]
      refine AQ.order [12, 11, 10, 0] rfl ?_
      simp only [go_sem, Nat.reduceAdd, Nat.reduceLeDiff, Nat.reduceSub, Int.reduceToNat, reduceCtorEq]
      repeat (first | refine xA ?_ | refine xB ?_ | refine xC ?_ | refine xE ?_ | refine xD ?_ | refine xK ?_ | refine xS ?_ | refine xM ?_ | refine xT ?_ | refine xF ?_ | ((first | refine xR ?_ | refine xW ?_ | refine vq_id ?_); simp only [go_sem, Nat.reduceAdd, Nat.reduceLeDiff, Nat.reduceSub, Int.reduceToNat, reduceCtorEq, bne_self_eq_false, Int.reduceBNe]) | (refine ⟨by first | omega | (intros; simp_all; done) | (intros; simp_all; omega), ?_⟩; try simp only [go_sem, Nat.reduceAdd, Nat.reduceLeDiff, Nat.reduceSub, Int.reduceToNat, reduceCtorEq, bne_self_eq_false, Int.reduceBNe]))
      refine AQ.fn (by kernel_rfl) rfl rfl rfl (hcry) rfl ?_
      simp only [go_sem, Nat.reduceAdd, Nat.reduceLeDiff, Nat.reduceSub, Int.reduceToNat, reduceCtorEq]
      refine AQ.fnL ([.im (.pt z.ic), z.rv]) (by kernel_rfl) rfl rfl rfl (by ((try simp only [List.nil_append, List.append_nil, List.map_cons, List.map_nil, AV.st, constAV]); repeat (first | with_reducible exact LentC.nil | with_reducible exact LentAs.nil | with_reducible refine LentC.cons ?_ ?_ | with_reducible refine LentAs.cons ?_ ?_ | with_reducible exact Lent.im _ | with_reducible exact LentA.im _ | with_reducible refine LentA.of ?_ | with_reducible refine LentA.agg ?_ | ((with_reducible apply Lent.osw); rfl; simp only [blkR_len, wrR_len, byteR_len, List.length_append, List.length_cons, List.length_nil]) | ((with_reducible apply Lent.ob0); rfl)))) (hal9) rfl (fun _ => rfl) ?_
      simp only [go_sem, Nat.reduceAdd, Nat.reduceLeDiff, Nat.reduceSub, Int.reduceToNat, reduceCtorEq]
      repeat (first | refine xA ?_ | refine xB ?_ | refine xC ?_ | refine xE ?_ | refine xD ?_ | refine xK ?_ | refine xS ?_ | refine xM ?_ | refine xT ?_ | refine xF ?_ | ((first | refine xR ?_ | refine xW ?_ | refine vq_id ?_); simp only [go_sem, Nat.reduceAdd, Nat.reduceLeDiff, Nat.reduceSub, Int.reduceToNat, reduceCtorEq]) | (refine ⟨by first | omega | (intros; simp_all; done) | (intros; simp_all; omega), ?_⟩; try simp only [go_sem, Nat.reduceAdd, Nat.reduceLeDiff, Nat.reduceSub, Int.reduceToNat, reduceCtorEq]))
      refine AQ.guard_yes (by simp only [go_sem]) ?_
      refine AQ.fn (by kernel_rfl) rfl rfl rfl (awake_spec) rfl ?_
      repeat (first | refine xA ?_ | refine xB ?_ | refine xC ?_ | refine xE ?_ | refine xD ?_ | refine xK ?_ | refine xS ?_ | refine xM ?_ | refine xT ?_ | refine xF ?_ | ((first | refine xR ?_ | refine xW ?_ | refine vq_id ?_); simp only [go_sem, Nat.reduceAdd, Nat.reduceLeDiff, Nat.reduceSub, Int.reduceToNat, reduceCtorEq]) | (refine ⟨by first | omega | (intros; simp_all; done) | (intros; simp_all; omega), ?_⟩; try simp only [go_sem, Nat.reduceAdd, Nat.reduceLeDiff, Nat.reduceSub, Int.reduceToNat, reduceCtorEq]))
      exact AE.ret0 rfl ⟨rfl, trivial⟩ rfl ⟨rfl, rfl⟩
  · skip
    have hcA := append_full x halfx r hoi.sz hhx hea
    have hrA := appendR_full x halfx r hoi.sz hhx hea
    refine AQ.callH [(2, 11), (1, 10), (0, 0)] (by kernel_rfl) rfl rfl rfl rfl rfl rfl (by exact ⟨rfl, rfl, rfl, trivial⟩) rfl (hcA) ?_
    rintro r1 H1 ⟨rfl, rfl⟩
    refine ⟨rfl, ?_⟩
    simp only [go_sem, Nat.reduceAdd, Nat.reduceLeDiff, Nat.reduceSub, Int.reduceToNat, reduceCtorEq, Jn.H, Jn.cs]
    refine AQ.go (by kernel_rfl) ?_
    simp only [go_sem, Nat.reduceAdd, Nat.reduceLeDiff, Nat.reduceSub, Int.reduceToNat, reduceCtorEq]
    repeat (first | refine xA ?_ | refine xB ?_ | refine xC ?_ | refine xE ?_ | refine xD ?_ | refine xK ?_ | refine xS ?_ | refine xM ?_ | refine xT ?_ | refine xF ?_ | ((first | refine xR ?_ | refine xW ?_ | refine vq_id ?_); simp only [go_sem, Nat.reduceAdd, Nat.reduceLeDiff, Nat.reduceSub, Int.reduceToNat, reduceCtorEq]) | (refine ⟨by first | omega | (intros; simp_all; done) | (intros; simp_all; omega), ?_⟩; try simp only [go_sem, Nat.reduceAdd, Nat.reduceLeDiff, Nat.reduceSub, Int.reduceToNat, reduceCtorEq]))
    refine AQ.fn (by kernel_rfl) rfl rfl rfl (hrA) rfl ?_
    repeat (first | refine xA ?_ | refine xB ?_ | refine xC ?_ | refine xE ?_ | refine xD ?_ | refine xK ?_ | refine xS ?_ | refine xM ?_ | refine xT ?_ | refine xF ?_ | ((first | refine xR ?_ | refine xW ?_ | refine vq_id ?_); simp only [go_sem, Nat.reduceAdd, Nat.reduceLeDiff, Nat.reduceSub, Int.reduceToNat, reduceCtorEq, bne_self_eq_false, Int.reduceBNe]) | (refine ⟨by first | omega | (intros; simp_all; done) | (intros; simp_all; omega), ?_⟩; try simp only [go_sem, Nat.reduceAdd, Nat.reduceLeDiff, Nat.reduceSub, Int.reduceToNat, reduceCtorEq, bne_self_eq_false, Int.reduceBNe]))
    refine AQ.guard_yes (by simp only [go_sem]) ?_
    refine AQ.fnL ([.im (.pt x.ic), x.rv]) (by kernel_rfl) rfl rfl rfl (by ((try simp only [List.nil_append, List.append_nil, List.map_cons, List.map_nil, AV.st, constAV]); repeat (first | with_reducible exact LentC.nil | with_reducible exact LentAs.nil | with_reducible refine LentC.cons ?_ ?_ | with_reducible refine LentAs.cons ?_ ?_ | with_reducible exact Lent.im _ | with_reducible exact LentA.im _ | with_reducible refine LentA.of ?_ | with_reducible refine LentA.agg ?_ | ((with_reducible apply Lent.osw); rfl; simp only [blkR_len, wrR_len, byteR_len, List.length_append, List.length_cons, List.length_nil]) | ((with_reducible apply Lent.ob0); rfl)))) (hal) rfl (fun _ => rfl) ?_
    simp only [go_sem, Nat.reduceAdd, Nat.reduceLeDiff, Nat.reduceSub, Int.reduceToNat, reduceCtorEq]
    repeat (first | refine xA ?_ | refine xB ?_ | refine xC ?_ | refine xE ?_ | refine xD ?_ | refine xK ?_ | refine xS ?_ | refine xM ?_ | refine xT ?_ | refine xF ?_ | ((first | refine xR ?_ | refine xW ?_ | refine vq_id ?_); simp only [go_sem, Nat.reduceAdd, Nat.reduceLeDiff, Nat.reduceSub, Int.reduceToNat, reduceCtorEq, bne_self_eq_false, Int.reduceBNe]) | (refine ⟨by first | omega | (intros; simp_all; done) | (intros; simp_all; omega), ?_⟩; try simp only [go_sem, Nat.reduceAdd, Nat.reduceLeDiff, Nat.reduceSub, Int.reduceToNat, reduceCtorEq, bne_self_eq_false, Int.reduceBNe]))
    obtain ⟨ec, hec⟩ : ∃ e, x.compE s = e := ⟨_, rfl⟩
    have he08 : ec = 0 ∨ ec = 8 := by
      rw [← hec, Jn.compE, if_neg (by omega)]
      split <;> simp
    rcases he08 with rfl | rfl
    · skip
      have hoC := hoi.compact s hec hax hkx
      have hcC := compact_ok x hax s hoi.sz hoi.ok hkx hec
      have hrC := compactR_ok x hax s hoi.sz hoi.ok hkx hec
      obtain ⟨w, hw⟩ : ∃ w, x.comp0.wrote hax 0 0 s = w := ⟨_, rfl⟩
      rw [hw] at hoC hcC hrC
      have hal3 := alike_spec w hoC.sz hoC.ne
      refine AQ.callH [(2, 11), (1, 10), (0, 0)] (by kernel_rfl) rfl rfl rfl rfl rfl rfl (by exact ⟨rfl, rfl, rfl, trivial⟩) rfl (hcC) ?_
      rintro r1 H1 ⟨rfl, rfl⟩
      refine ⟨rfl, ?_⟩
      simp only [go_sem, Nat.reduceAdd, Nat.reduceLeDiff, Nat.reduceSub, Int.reduceToNat, reduceCtorEq, Jn.H, Jn.cs]
      refine AQ.go (by kernel_rfl) ?_
      simp only [go_sem, Nat.reduceAdd, Nat.reduceLeDiff, Nat.reduceSub, Int.reduceToNat, reduceCtorEq]
      refine AQ.rename 16 10 rfl rfl rfl ?_; simp only [go_sem, Nat.reduceAdd, Nat.reduceLeDiff, Nat.reduceSub, Int.reduceToNat, reduceCtorEq]; refine AQ.rename 17 11 rfl rfl rfl ?_; simp only [go_sem, Nat.reduceAdd, Nat.reduceLeDiff, Nat.reduceSub, Int.reduceToNat, reduceCtorEq]
      refine AQ.order [12, 11, 10, 0] rfl ?_
      simp only [go_sem, Nat.reduceAdd, Nat.reduceLeDiff, Nat.reduceSub, Int.reduceToNat, reduceCtorEq]
      repeat (first | refine xA ?_ | refine xB ?_ | refine xC ?_ | refine xE ?_ | refine xD ?_ | refine xK ?_ | refine xS ?_ | refine xM ?_ | refine xT ?_ | refine xF ?_ | ((first | refine xR ?_ | refine xW ?_ | refine vq_id ?_); simp only [go_sem, Nat.reduceAdd, Nat.reduceLeDiff, Nat.reduceSub, Int.reduceToNat, reduceCtorEq]) | (refine ⟨by first | omega | (intros; simp_all; done) | (intros; simp_all; omega), ?_⟩; try simp only [go_sem, Nat.reduceAdd, Nat.reduceLeDiff, Nat.reduceSub, Int.reduceToNat, reduceCtorEq]))
      refine AQ.fn (by kernel_rfl) rfl rfl rfl (hrC) rfl ?_
      repeat (first | refine xA ?_ | refine xB ?_ | refine xC ?_ | refine xE ?_ | refine xD ?_ | refine xK ?_ | refine xS ?_ | refine xM ?_ | refine xT ?_ | refine xF ?_ | ((first | refine xR ?_ | refine xW ?_ | refine vq_id ?_); simp only [go_sem, Nat.reduceAdd, Nat.reduceLeDiff, Nat.reduceSub, Int.reduceToNat, reduceCtorEq, bne_self_eq_false, Int.reduceBNe]) | (refine ⟨by first | omega | (intros; simp_all; done) | (intros; simp_all; omega), ?_⟩; try simp only [go_sem, Nat.reduceAdd, Nat.reduceLeDiff, Nat.reduceSub, Int.reduceToNat, reduceCtorEq, bne_self_eq_false, Int.reduceBNe]))
      refine AQ.guard_yes (by simp only [go_sem]) ?_
      refine AQ.fnL ([.im (.pt w.ic), w.rv]) (by kernel_rfl) rfl rfl rfl (by ((try simp only [List.nil_append, List.append_nil, List.map_cons, List.map_nil, AV.st, constAV]); repeat (first | with_reducible exact LentC.nil | with_reducible exact LentAs.nil | with_reducible refine LentC.cons ?_ ?_ | with_reducible refine LentAs.cons ?_ ?_ | with_reducible exact Lent.im _ | with_reducible exact LentA.im _ | with_reducible refine LentA.of ?_ | with_reducible refine LentA.agg ?_ | ((with_reducible apply Lent.osw); rfl; simp only [blkR_len, wrR_len, byteR_len, List.length_append, List.length_cons, List.length_nil]) | ((with_reducible apply Lent.ob0); rfl)))) (hal3) rfl (fun _ => rfl) ?_
      simp only [go_sem, Nat.reduceAdd, Nat.reduceLeDiff, Nat.reduceSub, Int.reduceToNat, reduceCtorEq]
      repeat (first | refine xA ?_ | refine xB ?_ | refine xC ?_ | refine xE ?_ | refine xD ?_ | refine xK ?_ | refine xS ?_ | refine xM ?_ | refine xT ?_ | refine xF ?_ | ((first | refine xR ?_ | refine xW ?_ | refine vq_id ?_); simp only [go_sem, Nat.reduceAdd, Nat.reduceLeDiff, Nat.reduceSub, Int.reduceToNat, reduceCtorEq, bne_self_eq_false, Int.reduceBNe]) | (refine ⟨by first | omega | (intros; simp_all; done) | (intros; simp_all; omega), ?_⟩; try simp only [go_sem, Nat.reduceAdd, Nat.reduceLeDiff, Nat.reduceSub, Int.reduceToNat, reduceCtorEq, bne_self_eq_false, Int.reduceBNe]))
      refine AQ.guard_yes (by simp only [go_sem]) ?_
      have hcow := commit_ok w hoC.sz hoC.ok
      have hcrw := commitR_spec w hoC.sz hoC.ok
      have hoS := hoC.commit
      have hal9 := alike_spec w.synced hoS.sz hoS.ne
      obtain ⟨z, hz⟩ : ∃ z, w.synced = z := ⟨_, rfl⟩
      rw [hz] at hcow hcrw hal9
      refine AQ.callH [(2, 11), (1, 10), (0, 0)] (by kernel_rfl) rfl rfl rfl rfl rfl rfl (by exact ⟨rfl, rfl, rfl, trivial⟩) rfl (hcow) ?_
      rintro r1 H1 ⟨rfl, rfl⟩
      refine ⟨rfl, ?_⟩
      simp only [go_sem, Nat.reduceAdd, Nat.reduceLeDiff, Nat.reduceSub, Int.reduceToNat, reduceCtorEq, Jn.H, Jn.cs]
      refine AQ.go (by kernel_rfl) ?_
      simp only [go_sem, Nat.reduceAdd, Nat.reduceLeDiff, Nat.reduceSub, Int.reduceToNat, reduceCtorEq]
      refine AQ.rename 16 10 rfl rfl rfl ?_; simp only [go_sem, Nat.reduceAdd, Nat.reduceLeDiff, Nat.reduceSub, Int.reduceToNat, reduceCtorEq]
      refine AQ.order [12, 11, 10, 0] rfl ?_
      simp only [go_sem, Nat.reduceAdd, Nat.reduceLeDiff, Nat.reduceSub, Int.reduceToNat, reduceCtorEq]
      repeat (first | refine xA ?_ | refine xB ?_ | refine xC ?_ | refine xE ?_ | refine xD ?_ | refine xK ?_ | refine xS ?_ | refine xM ?_ | refine xT ?_ | refine xF ?_ | ((first | refine xR ?_ | refine xW ?_ | refine vq_id ?_); simp only [go_sem, Nat.reduceAdd, Nat.reduceLeDiff, Nat.reduceSub, Int.reduceToNat, reduceCtorEq, bne_self_eq_false, Int.reduceBNe]) | (refine ⟨by first | omega | (intros; simp_all; done) | (intros; simp_all; omega), ?_⟩; try simp only [go_sem, Nat.reduceAdd, Nat.reduceLeDiff, Nat.reduceSub, Int.reduceToNat, reduceCtorEq, bne_self_eq_false, Int.reduceBNe]))
      refine AQ.fn (by kernel_rfl) rfl rfl rfl (hcrw) rfl ?_
      simp only [go_sem, Nat.reduceAdd, Nat.reduceLeDiff, Nat.reduceSub, Int.reduceToNat, reduceCtorEq]
      refine AQ.fnL ([.im (.pt z.ic), z.rv]) (by kernel_rfl) rfl rfl rfl (by ((try simp only [List.nil_append, List.append_nil, List.map_cons, List.map_nil, AV.st, constAV]); repeat (first | with_reducible exact LentC.nil | with_reducible exact LentAs.nil | with_reducible refine LentC.cons ?_ ?_ | with_reducible refine LentAs.cons ?_ ?_ | with_reducible exact Lent.im _ | with_reducible exact LentA.im _ | with_reducible refine LentA.of ?_ | with_reducible refine LentA.agg ?_ | ((with_reducible apply Lent.osw); rfl; simp only [blkR_len, wrR_len, byteR_len, List.length_append, List.length_cons, List.length_nil]) | ((with_reducible apply Lent.ob0); rfl)))) (hal9) rfl (fun _ => rfl) ?_
      simp only [go_sem, Nat.reduceAdd, Nat.reduceLeDiff, Nat.reduceSub, Int.reduceToNat, reduceCtorEq]
      repeat (first | refine xA ?_ | refine xB ?_ | refine xC ?_ | refine xE ?_ | refine xD ?_ | refine xK ?_ | refine xS ?_ | refine xM ?_ | refine xT ?_ | refine xF ?_ | ((first | refine xR ?_ | refine xW ?_ | refine vq_id ?_); simp only [go_sem, Nat.reduceAdd, Nat.reduceLeDiff, Nat.reduceSub, Int.reduceToNat, reduceCtorEq]) | (refine ⟨by first | omega | (intros; simp_all; done) | (intros; simp_all; omega), ?_⟩; try simp only [go_sem, Nat.reduceAdd, Nat.reduceLeDiff, Nat.reduceSub, Int.reduceToNat, reduceCtorEq]))
      refine AQ.guard_yes (by simp only [go_sem]) ?_
      refine AQ.fn (by kernel_rfl) rfl rfl rfl (awake_spec) rfl ?_
      repeat (first | refine xA ?_ | refine xB ?_ | refine xC ?_ | refine xE ?_ | refine xD ?_ | refine xK ?_ | refine xS ?_ | refine xM ?_ | refine xT ?_ | refine xF ?_ | ((first | refine xR ?_ | refine xW ?_ | refine vq_id ?_); simp only [go_sem, Nat.reduceAdd, Nat.reduceLeDiff, Nat.reduceSub, Int.reduceToNat, reduceCtorEq]) | (refine ⟨by first | omega | (intros; simp_all; done) | (intros; simp_all; omega), ?_⟩; try simp only [go_sem, Nat.reduceAdd, Nat.reduceLeDiff, Nat.reduceSub, Int.reduceToNat, reduceCtorEq]))
      exact AE.ret0 rfl ⟨rfl, trivial⟩ rfl ⟨rfl, rfl⟩
    · skip
      have hcC := compact_full x s hoi.sz hec
      have hrC := compactR_full x hax s hoi.sz hoi.ok hkx hec
      have hal3 := alike_spec x hoi.sz hoi.ne
      refine AQ.callH [(2, 11), (1, 10), (0, 0)] (by kernel_rfl) rfl rfl rfl rfl rfl rfl (by exact ⟨rfl, rfl, rfl, trivial⟩) rfl (hcC) ?_
      rintro r1 H1 ⟨rfl, rfl⟩
      refine ⟨rfl, ?_⟩
      simp only [go_sem, Nat.reduceAdd, Nat.reduceLeDiff, Nat.reduceSub, Int.reduceToNat, reduceCtorEq, Jn.H, Jn.cs]
      refine AQ.go (by kernel_rfl) ?_
      simp only [go_sem, Nat.reduceAdd, Nat.reduceLeDiff, Nat.reduceSub, Int.reduceToNat, reduceCtorEq]
      repeat (first | refine xA ?_ | refine xB ?_ | refine xC ?_ | refine xE ?_ | refine xD ?_ | refine xK ?_ | refine xS ?_ | refine xM ?_ | refine xT ?_ | refine xF ?_ | ((first | refine xR ?_ | refine xW ?_ | refine vq_id ?_); simp only [go_sem, Nat.reduceAdd, Nat.reduceLeDiff, Nat.reduceSub, Int.reduceToNat, reduceCtorEq]) | (refine ⟨by first | omega | (intros; simp_all; done) | (intros; simp_all; omega), ?_⟩; try simp only [go_sem, Nat.reduceAdd, Nat.reduceLeDiff, Nat.reduceSub, Int.reduceToNat, reduceCtorEq]))
      refine AQ.fn (by kernel_rfl) rfl rfl rfl (hrC) rfl ?_
      repeat (first | refine xA ?_ | refine xB ?_ | refine xC ?_ | refine xE ?_ | refine xD ?_ | refine xK ?_ | refine xS ?_ | refine xM ?_ | refine xT ?_ | refine xF ?_ | ((first | refine xR ?_ | refine xW ?_ | refine vq_id ?_); simp only [go_sem, Nat.reduceAdd, Nat.reduceLeDiff, Nat.reduceSub, Int.reduceToNat, reduceCtorEq, bne_self_eq_false, Int.reduceBNe]) | (refine ⟨by first | omega | (intros; simp_all; done) | (intros; simp_all; omega), ?_⟩; try simp only [go_sem, Nat.reduceAdd, Nat.reduceLeDiff, Nat.reduceSub, Int.reduceToNat, reduceCtorEq, bne_self_eq_false, Int.reduceBNe]))
      refine AQ.guard_yes (by simp only [go_sem]) ?_
      refine AQ.fnL ([.im (.pt x.ic), x.rv]) (by kernel_rfl) rfl rfl rfl (by ((try simp only [List.nil_append, List.append_nil, List.map_cons, List.map_nil, AV.st, constAV]); repeat (first | with_reducible exact LentC.nil | with_reducible exact LentAs.nil | with_reducible refine LentC.cons ?_ ?_ | with_reducible refine LentAs.cons ?_ ?_ | with_reducible exact Lent.im _ | with_reducible exact LentA.im _ | with_reducible refine LentA.of ?_ | with_reducible refine LentA.agg ?_ | ((with_reducible apply Lent.osw); rfl; simp only [blkR_len, wrR_len, byteR_len, List.length_append, List.length_cons, List.length_nil]) | ((with_reducible apply Lent.ob0); rfl)))) (hal3) rfl (fun _ => rfl) ?_
      simp only [go_sem, Nat.reduceAdd, Nat.reduceLeDiff, Nat.reduceSub, Int.reduceToNat, reduceCtorEq]
      repeat (first | refine xA ?_ | refine xB ?_ | refine xC ?_ | refine xE ?_ | refine xD ?_ | refine xK ?_ | refine xS ?_ | refine xM ?_ | refine xT ?_ | refine xF ?_ | ((first | refine xR ?_ | refine xW ?_ | refine vq_id ?_); simp only [go_sem, Nat.reduceAdd, Nat.reduceLeDiff, Nat.reduceSub, Int.reduceToNat, reduceCtorEq, bne_self_eq_false, Int.reduceBNe]) | (refine ⟨by first | omega | (intros; simp_all; done) | (intros; simp_all; omega), ?_⟩; try simp only [go_sem, Nat.reduceAdd, Nat.reduceLeDiff, Nat.reduceSub, Int.reduceToNat, reduceCtorEq, bne_self_eq_false, Int.reduceBNe]))
      refine AQ.guard_yes (by simp only [go_sem]) ?_
      have hcox := commit_ok x hoi.sz hoi.ok
      have hcrx := commitR_spec x hoi.sz hoi.ok
      have hoS := hoi.commit
      have hal9 := alike_spec x.synced hoS.sz hoS.ne
      obtain ⟨z, hz⟩ : ∃ z, x.synced = z := ⟨_, rfl⟩
      rw [hz] at hcox hcrx hal9
      refine AQ.callH [(2, 11), (1, 10), (0, 0)] (by kernel_rfl) rfl rfl rfl rfl rfl rfl (by exact ⟨rfl, rfl, rfl, trivial⟩) rfl (hcox) ?_
      rintro r1 H1 ⟨rfl, rfl⟩
      refine ⟨rfl, ?_⟩
      simp only [go_sem, Nat.reduceAdd, Nat.reduceLeDiff, Nat.reduceSub, Int.reduceToNat, reduceCtorEq, Jn.H, Jn.cs]
      refine AQ.go (by kernel_rfl) ?_
      simp only [go_sem, Nat.reduceAdd, Nat.reduceLeDiff, Nat.reduceSub, Int.reduceToNat, reduceCtorEq]
      refine AQ.rename 16 10 rfl rfl rfl ?_; simp only [go_sem, Nat.reduceAdd, Nat.reduceLeDiff, Nat.reduceSub, Int.reduceToNat, reduceCtorEq]
      refine AQ.order [12, 11, 10, 0] rfl ?_
      simp only [go_sem, Nat.reduceAdd, Nat.reduceLeDiff, Nat.reduceSub, Int.reduceToNat, reduceCtorEq]
      repeat (first | refine xA ?_ | refine xB ?_ | refine xC ?_ | refine xE ?_ | refine xD ?_ | refine xK ?_ | refine xS ?_ | refine xM ?_ | refine xT ?_ | refine xF ?_ | ((first | refine xR ?_ | refine xW ?_ | refine vq_id ?_); simp only [go_sem, Nat.reduceAdd, Nat.reduceLeDiff, Nat.reduceSub, Int.reduceToNat, reduceCtorEq, bne_self_eq_false, Int.reduceBNe]) | (refine ⟨by first | omega | (intros; simp_all; done) | (intros; simp_all; omega), ?_⟩; try simp only [go_sem, Nat.reduceAdd, Nat.reduceLeDiff, Nat.reduceSub, Int.reduceToNat, reduceCtorEq, bne_self_eq_false, Int.reduceBNe]))
      refine AQ.fn (by kernel_rfl) rfl rfl rfl (hcrx) rfl ?_
      simp only [go_sem, Nat.reduceAdd, Nat.reduceLeDiff, Nat.reduceSub, Int.reduceToNat, reduceCtorEq]
      refine AQ.fnL ([.im (.pt z.ic), z.rv]) (by kernel_rfl) rfl rfl rfl (by ((try simp only [List.nil_append, List.append_nil, List.map_cons, List.map_nil, AV.st, constAV]); repeat (first | with_reducible exact LentC.nil | with_reducible exact LentAs.nil | with_reducible refine LentC.cons ?_ ?_ | with_reducible refine LentAs.cons ?_ ?_ | with_reducible exact Lent.im _ | with_reducible exact LentA.im _ | with_reducible refine LentA.of ?_ | with_reducible refine LentA.agg ?_ | ((with_reducible apply Lent.osw); rfl; simp only [blkR_len, wrR_len, byteR_len, List.length_append, List.length_cons, List.length_nil]) | ((with_reducible apply Lent.ob0); rfl)))) (hal9) rfl (fun _ => rfl) ?_
      simp only [go_sem, Nat.reduceAdd, Nat.reduceLeDiff, Nat.reduceSub, Int.reduceToNat, reduceCtorEq]
      repeat (first | refine xA ?_ | refine xB ?_ | refine xC ?_ | refine xE ?_ | refine xD ?_ | refine xK ?_ | refine xS ?_ | refine xM ?_ | refine xT ?_ | refine xF ?_ | ((first | refine xR ?_ | refine xW ?_ | refine vq_id ?_); simp only [go_sem, Nat.reduceAdd, Nat.reduceLeDiff, Nat.reduceSub, Int.reduceToNat, reduceCtorEq]) | (refine ⟨by first | omega | (intros; simp_all; done) | (intros; simp_all; omega), ?_⟩; try simp only [go_sem, Nat.reduceAdd, Nat.reduceLeDiff, Nat.reduceSub, Int.reduceToNat, reduceCtorEq]))
      refine AQ.guard_yes (by simp only [go_sem]) ?_
      refine AQ.fn (by kernel_rfl) rfl rfl rfl (awake_spec) rfl ?_
      repeat (first | refine xA ?_ | refine xB ?_ | refine xC ?_ | refine xE ?_ | refine xD ?_ | refine xK ?_ | refine xS ?_ | refine xM ?_ | refine xT ?_ | refine xF ?_ | ((first | refine xR ?_ | refine xW ?_ | refine vq_id ?_); simp only [go_sem, Nat.reduceAdd, Nat.reduceLeDiff, Nat.reduceSub, Int.reduceToNat, reduceCtorEq]) | (refine ⟨by first | omega | (intros; simp_all; done) | (intros; simp_all; omega), ?_⟩; try simp only [go_sem, Nat.reduceAdd, Nat.reduceLeDiff, Nat.reduceSub, Int.reduceToNat, reduceCtorEq]))
      exact AE.ret0 rfl ⟨rfl, trivial⟩ rfl ⟨rfl, rfl⟩
end Go.Proofs.Ytoafanbfminhcaa
end

section
namespace Go.Proofs.Ytoafanbfminhcaa
open Go Go.AL Go.RowKit
set_option maxRecDepth 100000
theorem opens_walk (d : Dk) (r s : Bs) (hb : d.B.length < 9223372036854775808) (hw : d.W.length < 9223372036854775808) : PFn Try.prog 7 [d.ar, Sv r, Sv s] (Bv true) := by
  cases h : ogB d r s with
  | true => exact opens_few d r s h hb hw
  | false =>
    have hd : d.Sz := few_bounds (by
      unfold ogB at h
      simp only [Bool.or_eq_false_iff, Bool.not_eq_false'] at h
      exact h.1.1)
    by_cases hc : d.chk = 0
    · have hok := (d.chk_ok).1 hc
      by_cases hal : (arA d.syncD.B).recs ≠ [] ∨ (arB d.syncD.B).recs ≠ []
      · obtain ⟨c, k, hs, _⟩ := sel_ex _ _ hal
        exact opens_go d r s c k h hd hok hs
      · have ha : (arA d.syncD.B).recs = [] := Classical.byContradiction fun g => hal (.inl g)
        have hb2 : (arB d.syncD.B).recs = [] := Classical.byContradiction fun g => hal (.inr g)
        exact opens_err d r s 400 rfl h hd (open_damaged d hd hok ha hb2) (openR_damaged d hok ha hb2)
    · exact opens_err d r s d.chk (by simpa using hc) h hd (open_bad d hd hc) (openR_bad d hd hc)
end Go.Proofs.Ytoafanbfminhcaa
end
