import Derived.Test.YtoafanbfminhcaaW2
set_option linter.unusedSimpArgs false
set_option linter.unusedVariables false
set_option linter.unnecessarySimpa false
section
namespace Go.Proofs.Ytoafanbfminhcaa
open Go Go.AL Go.RowKit
set_option maxRecDepth 10000
set_option maxHeartbeats 4000000
structure Ws where
  W : List Wr
  next : Nat
  frm : Nat
  link : Nat
def Ws.step (sz half : Nat) (a : Ws) (p : Bs) (l : Bool) : Ws := ⟨a.W ++ [(((half * sz + a.frm : Nat) : Int), blockP a.next a.link l p)], a.next + 1, a.frm + 1, a.next⟩
def Ws.run (sz half : Nat) (s : Bs) (a : Ws) : Nat → Ws
  | 0 => a
  | i + 1 => (Ws.run sz half s a i).step sz half (partAt s i) (partLast s i)
noncomputable def wrH (x : Jn) (half q : Nat) (t : Bs) (a : Ws) : Heap :=
  [(8, .lp q 80 .ready Try.f56 [0, 1, 0, 1] [15, 16] [(5, .ob 3 0), (6, .im (.pt [Ii half])), (7, .ob 4 0), (8, .ob 5 0)]), (7, .vec 97 2 (wrR a.W)), (6, .var 9 [Sv t]), (5, .var 2 [I2 a.link]), (4, .var 3 [Iv a.frm]), (3, .var 32 [.ob 0 0]), (2, .vec 9 1 (blkR x.recs)),
   (0, .var 93 [.im (.sl 1 (blkR x.B)), .os 7 2 0 a.W.length, Iv x.half, .os 2 1 0 x.recs.length, Iv x.used, I2 x.first, I2 x.last, I2 a.next])]
theorem write_round (x : Jn) (half q : Nat) (t : Bs) (a : Ws) (p : Bs) (l : Bool) (hp : p.length ≤ 19) (hB : x.B.length ≤ 1000000) (hh : half ≤ 1) (hf : a.frm ≤ 1000000000) (hn : a.next ≤ 1000000000000000) (hl : a.link ≤ 1000000000000000) (hW : a.W.length ≤ 1000000) :
    YCallN Try.prog 7 q [Sv p, Bv l] (wrH x half q t a) (fun r H' => r = Bv true ∧ H' = wrH x half q t (a.step (x.B.length / 2) half p l)) := by
  obtain ⟨Z, hZ⟩ : ∃ Z, wrH x half q t (a.step (x.B.length / 2) half p l) = Z := ⟨_, rfl⟩
  rw [hZ]
  have hm : half * (x.B.length / 2) ≤ 1000000 := by
    rcases (show half = 0 ∨ half = 1 by omega) with h | h <;> subst h <;> omega
  have hw1 : IntKind.i64.wrap ((half : Int) * ((x.B.length / 2 : Nat) : Int)) = ((half * (x.B.length / 2) : Nat) : Int) := by
    rw [Int.natCast_mul]; exact wr (by rw [← Int.natCast_mul]; omega)
  have hw2 : IntKind.i64.wrap (((half * (x.B.length / 2) : Nat) : Int) + (a.frm : Int)) = ((half * (x.B.length / 2) + a.frm : Nat) : Int) := by
    rw [Int.natCast_add]; exact wr (by omega)
  refine YCallN.walk (b := 8) [5, 6, 7, 8, 10, 11, 12, 15, 16] [] rfl rfl rfl fun w own I0 φ0 => ?_
  simp only [go_sem, Nat.reduceAdd, Nat.reduceLeDiff, Nat.reduceSub, Int.reduceToNat, reduceCtorEq, zipP, wrH]
  repeat (first | refine xA ?_ | refine xB ?_ | refine xC ?_ | refine xE ?_ | refine xD ?_ | refine xK ?_ | refine xS ?_ | refine xM ?_ | refine xT ?_ | refine xF ?_ | ((first | refine xR ?_ | refine xW ?_ | refine vq_id ?_); simp only [go_sem, Nat.reduceAdd, Nat.reduceLeDiff, Nat.reduceSub, Int.reduceToNat, reduceCtorEq]) | (refine ⟨by first | omega | (intros; simp_all; done) | (intros; simp_all; omega), ?_⟩; try simp only [go_sem, Nat.reduceAdd, Nat.reduceLeDiff, Nat.reduceSub, Int.reduceToNat, reduceCtorEq]))
  refine AE.begin (b := 8) rfl rfl _ ?_
  simp only [go_sem, Nat.reduceAdd, Nat.reduceLeDiff, Nat.reduceSub, Int.reduceToNat, reduceCtorEq]
  repeat (first | refine xA ?_ | refine xB ?_ | refine xC ?_ | refine xE ?_ | refine xD ?_ | refine xK ?_ | refine xS ?_ | refine xM ?_ | refine xT ?_ | refine xF ?_ | ((first | refine xR ?_ | refine xW ?_ | refine vq_id ?_); simp only [go_sem, Nat.reduceAdd, Nat.reduceLeDiff, Nat.reduceSub, Int.reduceToNat, reduceCtorEq]) | (refine ⟨by first | omega | (intros; simp_all; done) | (intros; simp_all; omega), ?_⟩; try simp only [go_sem, Nat.reduceAdd, Nat.reduceLeDiff, Nat.reduceSub, Int.reduceToNat, reduceCtorEq]))
  refine AP.drawE 10 (Tree.node [] [0, 1, 2, 3, 4, 5, 6, 7] [8] [Tree.node [0, 1, 2, 3, 4, 5, 6, 7] [] [9] [Tree.node [] [] [] []]]) (by kernel_rfl) rfl (by kernel_rfl) (by kernel_rfl) ?_
  refine vd_node ?_
  simp only [go_sem, Nat.reduceAdd, Nat.reduceLeDiff, Nat.reduceSub, Int.reduceToNat, reduceCtorEq]
  repeat' (first | with_reducible exact True.intro | with_reducible refine And.intro (by omega) ?_ | with_reducible refine And.intro ?_ ?_ | omega | fail | (refine AQ.nx rfl ?_; first | (refine And.intro ?_ ?_ <;> (try simp only [go_sem, Nat.reduceAdd, Nat.reduceLeDiff, Nat.reduceSub, Int.reduceToNat, reduceCtorEq])) | simp only [go_sem, Nat.reduceAdd, Nat.reduceLeDiff, Nat.reduceSub, Int.reduceToNat, reduceCtorEq]) | refine AQ.done ?_ | (refine AQ.go (by kernel_rfl) ?_; simp only [go_sem, Nat.reduceAdd, Nat.reduceLeDiff, Nat.reduceSub, Int.reduceToNat, reduceCtorEq]; (refine AQ.nx rfl ?_; first | (refine And.intro ?_ ?_ <;> (try simp only [go_sem, Nat.reduceAdd, Nat.reduceLeDiff, Nat.reduceSub, Int.reduceToNat, reduceCtorEq])) | simp only [go_sem, Nat.reduceAdd, Nat.reduceLeDiff, Nat.reduceSub, Int.reduceToNat, reduceCtorEq])))
  repeat (first | refine xA ?_ | refine xB ?_ | refine xC ?_ | refine xE ?_ | refine xD ?_ | refine xK ?_ | refine xS ?_ | refine xM ?_ | refine xT ?_ | refine xF ?_ | ((first | refine xR ?_ | refine xW ?_ | refine vq_id ?_); simp only [go_sem, Nat.reduceAdd, Nat.reduceLeDiff, Nat.reduceSub, Int.reduceToNat, reduceCtorEq]) | (refine ⟨by first | omega | (intros; simp_all; done) | (intros; simp_all; omega), ?_⟩; try simp only [go_sem, Nat.reduceAdd, Nat.reduceLeDiff, Nat.reduceSub, Int.reduceToNat, reduceCtorEq]))
  refine AP.drawE 21 (Tree.node [] [0, 1, 2, 3, 4, 5, 6, 7, 10, 12] [8] [Tree.node [0, 1, 2, 3, 4, 5, 6, 10, 12] [9, 11] [13] [Tree.node [0, 1, 2, 3, 4, 5, 6, 9, 10, 11] [14] [15] [Tree.node [0, 1, 2, 3, 4, 5] [] [16] [Tree.node [0] [17, 18, 19] [20] [Tree.node [] [] [] []]]]]]) (by kernel_rfl) rfl (by kernel_rfl) (by kernel_rfl) ?_
  refine vd_node ?_
  simp only [go_sem, Nat.reduceAdd, Nat.reduceLeDiff, Nat.reduceSub, Int.reduceToNat, reduceCtorEq]
  refine AQ.fnL ([.im (.pt (Jn.ic ⟨x.B, a.W, x.half, x.recs, x.used, x.first, x.last, a.next⟩))]) (by kernel_rfl) rfl rfl rfl (by ((try simp only [List.nil_append, List.append_nil, List.map_cons, List.map_nil, AV.st, constAV]); repeat (first | with_reducible exact LentC.nil | with_reducible exact LentAs.nil | with_reducible refine LentC.cons ?_ ?_ | with_reducible refine LentAs.cons ?_ ?_ | with_reducible exact Lent.im _ | with_reducible exact LentA.im _ | with_reducible refine LentA.of ?_ | with_reducible refine LentA.agg ?_ | ((with_reducible apply Lent.osw); rfl; simp only [blkR_len, wrR_len, byteR_len, List.length_append, List.length_cons, List.length_nil]) | ((with_reducible apply Lent.ob0); rfl)))) (size_spec x.B _ hB) rfl (fun _ => rfl) ?_
  simp only [go_sem, Nat.reduceAdd, Nat.reduceLeDiff, Nat.reduceSub, Int.reduceToNat, reduceCtorEq]
  refine AQ.nx rfl ?_
  simp only [go_sem, Nat.reduceAdd, Nat.reduceLeDiff, Nat.reduceSub, Int.reduceToNat, reduceCtorEq, hw1, hw2]
  refine AQ.fn (by kernel_rfl) rfl rfl rfl (bytes_spec a.next a.link l p (by omega) (by omega) hp) rfl ?_
  simp only [go_sem, Nat.reduceAdd, Nat.reduceLeDiff, Nat.reduceSub, Int.reduceToNat, reduceCtorEq]
  refine AQ.nx rfl ?_
  simp only [go_sem, Nat.reduceAdd, Nat.reduceLeDiff, Nat.reduceSub, Int.reduceToNat, reduceCtorEq, hw1, hw2]
  refine AQ.go (by kernel_rfl) ?_
  simp only [go_sem, Nat.reduceAdd, Nat.reduceLeDiff, Nat.reduceSub, Int.reduceToNat, reduceCtorEq]
  refine AQ.nx rfl ?_
  simp only [go_sem, Nat.reduceAdd, Nat.reduceLeDiff, Nat.reduceSub, Int.reduceToNat, reduceCtorEq]
  refine AQ.kill 7 ?_
  simp only [go_sem, Nat.reduceAdd, Nat.reduceLeDiff, Nat.reduceSub, Int.reduceToNat, reduceCtorEq]
  refine AQ.append (hnb := rfl) (rows := wrR a.W) (es := 1) (by kernel_rfl) rfl rfl rfl (by rfl) Try.tk26 Try.sz97 (by show Option.map _ (zro Try.prog 97) = _; rw [Try.zr97]; rfl) Try.by97 (by first | rfl | (simp only [wrR_len, List.length_cons, List.length_nil]; done) | (simp only [wrR_len, List.length_cons, List.length_nil]; omega)) (by simp only [wrR_len, List.length_cons, List.length_nil]; omega) (by simp only [wrR_len, List.length_cons, List.length_nil]; omega) ?_
  simp only [go_sem, Nat.reduceAdd, Nat.reduceLeDiff, Nat.reduceSub, Int.reduceToNat, reduceCtorEq]
  refine AQ.nx rfl ?_
  simp only [go_sem, Nat.reduceAdd, Nat.reduceLeDiff, Nat.reduceSub, Int.reduceToNat, reduceCtorEq]
  refine AQ.go (by kernel_rfl) ?_
  simp only [go_sem, Nat.reduceAdd, Nat.reduceLeDiff, Nat.reduceSub, Int.reduceToNat, reduceCtorEq]
  refine AQ.nx rfl ?_
  simp only [go_sem, Nat.reduceAdd, Nat.reduceLeDiff, Nat.reduceSub, Int.reduceToNat, reduceCtorEq]
  refine AQ.done ?_
  have hwn := wr (x := (a.next : Int) + 1) (by omega)
  have hwf := wr (x := (a.frm : Int) + 1) (by omega)
  repeat (first | refine xA ?_ | refine xB ?_ | refine xC ?_ | refine xE ?_ | refine xD ?_ | refine xK ?_ | refine xS ?_ | refine xM ?_ | refine xT ?_ | refine xF ?_ | ((first | refine xR ?_ | refine xW ?_ | refine vq_id ?_); simp only [go_sem, Nat.reduceAdd, Nat.reduceLeDiff, Nat.reduceSub, Int.reduceToNat, reduceCtorEq, hwn, hwf]) | (refine ⟨by first | omega | (intros; simp_all; done) | (intros; simp_all; omega), ?_⟩; try simp only [go_sem, Nat.reduceAdd, Nat.reduceLeDiff, Nat.reduceSub, Int.reduceToNat, reduceCtorEq, hwn, hwf]))
  refine AE.forgets [9] rfl ?_
  simp only [go_sem, Nat.reduceAdd, Nat.reduceLeDiff, Nat.reduceSub, Int.reduceToNat, reduceCtorEq]
  refine AE.order [8, 7, 6, 5, 4, 3, 2, 0] rfl ?_
  simp only [go_sem, Nat.reduceAdd, Nat.reduceLeDiff, Nat.reduceSub, Int.reduceToNat, reduceCtorEq]
  refine AE.roundEnd (b := 8) rfl ⟨rfl, ?_⟩
  rw [← hZ]
  simp only [hset, wrH, Ws.step, List.length_append, wrR_len]
  have : wrR (a.W ++ [(((half * (x.B.length / 2) + a.frm : Nat) : Int), blockP a.next a.link l p)]) = wrR a.W ++ [[Ii ((half * (x.B.length / 2) + a.frm : Nat) : Int), Si (blockP a.next a.link l p)]] := by simp [wrR]
  rw [this]
  rfl
theorem Ws.run_facts (sz half : Nat) (s : Bs) (a : Ws) : ∀ i, (Ws.run sz half s a i).frm = a.frm + i ∧ (Ws.run sz half s a i).next = a.next + i ∧ (Ws.run sz half s a i).W.length = a.W.length + i ∧ (Ws.run sz half s a i).link ≤ max a.link (a.next + i)
  | 0 => ⟨rfl, rfl, rfl, by simp only [Ws.run]; omega⟩
  | i + 1 => by
    obtain ⟨h1, h2, h3, h4⟩ := Ws.run_facts sz half s a i
    simp only [Ws.run, Ws.step, List.length_append, List.length_cons, List.length_nil]
    omega
theorem partAt_len (s : Bs) (i : Nat) : (partAt s i).length ≤ 19 := by simp [partAt]; omega
def Jn.wrote (x : Jn) (half frm link : Nat) (s : Bs) : Jn :=
  let a := Ws.run (x.B.length / 2) half s ⟨x.W, x.next, frm, link⟩ (nparts s)
  { x with W := a.W, recs := x.recs ++ [s], used := a.frm, last := a.link, next := a.next }
theorem write_spec (x : Jn) (half frm link : Nat) (s : Bs) (hs : s.length ≤ 100000) (hB : x.B.length ≤ 1000000) (hh : half ≤ 1) (hf : frm ≤ 1000000) (hn : x.next ≤ 100000000000) (hl : link ≤ 100000000000) (hW : x.W.length ≤ 100000) (hr : x.recs.length ≤ 1000000) :
    ACall Try.prog 56 [.ob 0 0, Iv half, Iv frm, I2 link, Sv s] (x.H 1 2) (fun r H' => H' = (x.wrote half frm link s).H 3 4 ∧ r = .tup []) := by
  obtain ⟨Z, hZ⟩ : ∃ Z, (x.wrote half frm link s).H 3 4 = Z := ⟨_, rfl⟩
  rw [hZ]
  have hf' := Ws.run_facts (x.B.length / 2) half s ⟨x.W, x.next, frm, link⟩
  simp only at hf'
  have hnp : nparts s ≤ 10000 := by unfold nparts; omega
  simp only [go_sem, Nat.reduceAdd, Nat.reduceLeDiff, Nat.reduceSub, Int.reduceToNat, reduceCtorEq, Jn.H, Jn.cs]
  refine ACall.walk [0, 1, 2, 3, 4, 5, 6, 7, 8, 10, 11, 12, 14, 15, 16] [5, 7, 8, 12] Try.func56 rfl Try.ntmps56 (by kernel_rfl) (by rfl) rfl fun W own I0 φ0 => ?_
  repeat (first | refine xA ?_ | refine xB ?_ | refine xC ?_ | refine xE ?_ | refine xD ?_ | refine xK ?_ | refine xS ?_ | refine xM ?_ | refine xT ?_ | refine xF ?_ | ((first | refine xR ?_ | refine xW ?_ | refine vq_id ?_); simp only [go_sem, Nat.reduceAdd, Nat.reduceLeDiff, Nat.reduceSub, Int.reduceToNat, reduceCtorEq]) | (refine ⟨by first | omega | (intros; simp_all; done) | (intros; simp_all; omega), ?_⟩; try simp only [go_sem, Nat.reduceAdd, Nat.reduceLeDiff, Nat.reduceSub, Int.reduceToNat, reduceCtorEq]))
  refine AQ.callH [] (by kernel_rfl) rfl rfl rfl rfl rfl rfl (by trivial) rfl (parts_spec s) ?_
  rintro r H1 ⟨rfl, rfl⟩
  refine ⟨rfl, ?_⟩
  repeat (first | refine xA ?_ | refine xB ?_ | refine xC ?_ | refine xE ?_ | refine xD ?_ | refine xK ?_ | refine xS ?_ | refine xM ?_ | refine xT ?_ | refine xF ?_ | ((first | refine xR ?_ | refine xW ?_ | refine vq_id ?_); simp only [go_sem, Nat.reduceAdd, Nat.reduceLeDiff, Nat.reduceSub, Int.reduceToNat, reduceCtorEq]) | (refine ⟨by first | omega | (intros; simp_all; done) | (intros; simp_all; omega), ?_⟩; try simp only [go_sem, Nat.reduceAdd, Nat.reduceLeDiff, Nat.reduceSub, Int.reduceToNat, reduceCtorEq]))
  refine AP.rename 1 7 rfl rfl rfl ?_
  simp only [go_sem, Nat.reduceAdd, Nat.reduceLeDiff, Nat.reduceSub, Int.reduceToNat, reduceCtorEq]
  refine AP.order [7, 6, 5, 4, 3, 2, 0] rfl ?_
  simp only [go_sem, Nat.reduceAdd, Nat.reduceLeDiff, Nat.reduceSub, Int.reduceToNat, reduceCtorEq]
  refine AP.rangeB 7 0 8 [(5, .ob 3 0), (6, .im (.pt [Ii half])), (7, .ob 4 0), (8, .ob 5 0)] (R := fun l _ H' => ∃ t, H' = wrH x half l t (Ws.run (x.B.length / 2) half s ⟨x.W, x.next, frm, link⟩ (nparts s))) rfl rfl (by kernel_rfl) (by repeat (first | exact Sub.nil _ | refine Sub.cons rfl ?_)) trivial rfl (fun l => ?_) (fun l r H' hR => ?_)
  · refine parts_walk s (by omega) (fun t i => wrH x half l t (Ws.run (x.B.length / 2) half s ⟨x.W, x.next, frm, link⟩ i)) (fun t i => rfl) (fun t i t' => rfl) rfl (fun _ _ _ _ => lowSame.of _ _ _ rfl) fun i hi => ?_
    obtain ⟨h1, h2, h3, h4⟩ := hf' i
    exact write_round x half l _ _ _ _ (partAt_len s i) hB hh (by omega) (by omega) (by omega) (by omega)
  · obtain ⟨t, rfl⟩ := hR
    obtain ⟨h1, h2, h3, h4⟩ := hf' (nparts s)
    obtain ⟨a, ha⟩ : ∃ a, Ws.run (x.B.length / 2) half s ⟨x.W, x.next, frm, link⟩ (nparts s) = a := ⟨_, rfl⟩
    rw [ha]
    have hZ' : Z = Jn.H { x with W := a.W, recs := x.recs ++ [s], used := a.frm, last := a.link, next := a.next } 3 4 := by rw [← hZ, ← ha]; rfl
    refine ⟨lowSame.of _ _ _ rfl, .ready, _, rfl, rfl, ?_⟩
    simp only [go_sem, Nat.reduceAdd, Nat.reduceLeDiff, Nat.reduceSub, Int.reduceToNat, reduceCtorEq, wrH]
    repeat (first | refine xA ?_ | refine xB ?_ | refine xC ?_ | refine xE ?_ | refine xD ?_ | refine xK ?_ | refine xS ?_ | refine xM ?_ | refine xT ?_ | refine xF ?_ | ((first | refine xR ?_ | refine xW ?_ | refine vq_id ?_); simp only [go_sem, Nat.reduceAdd, Nat.reduceLeDiff, Nat.reduceSub, Int.reduceToNat, reduceCtorEq]) | (refine ⟨by first | omega | (intros; simp_all; done) | (intros; simp_all; omega), ?_⟩; try simp only [go_sem, Nat.reduceAdd, Nat.reduceLeDiff, Nat.reduceSub, Int.reduceToNat, reduceCtorEq]))
    refine AP.rename 2 8 rfl rfl rfl ?_
    simp only [go_sem, Nat.reduceAdd, Nat.reduceLeDiff, Nat.reduceSub, Int.reduceToNat, reduceCtorEq]
    refine AP.drawE 13 (Tree.node [] [0, 1, 2, 3, 4, 5, 6] [7] [Tree.node [0, 1, 2, 3, 4, 5] [] [8] [Tree.node [0] [9, 10, 11] [12] [Tree.node [] [] [] []]]]) (by kernel_rfl) rfl (by kernel_rfl) (by kernel_rfl) ?_
    refine vd_node ?_
    simp only [go_sem, Nat.reduceAdd, Nat.reduceLeDiff, Nat.reduceSub, Int.reduceToNat, reduceCtorEq]
    refine AQ.go (by kernel_rfl) ?_
    simp only [go_sem, Nat.reduceAdd, Nat.reduceLeDiff, Nat.reduceSub, Int.reduceToNat, reduceCtorEq]
    refine AQ.nx rfl ?_
    simp only [go_sem, Nat.reduceAdd, Nat.reduceLeDiff, Nat.reduceSub, Int.reduceToNat, reduceCtorEq]
    refine AQ.kill 8 ?_
    simp only [go_sem, Nat.reduceAdd, Nat.reduceLeDiff, Nat.reduceSub, Int.reduceToNat, reduceCtorEq]
    refine AQ.append (hnb := rfl) (rows := blkR x.recs) (es := 0) (by kernel_rfl) rfl rfl rfl (by rfl) Try.tk25 Try.sz9 (by show Option.map _ (zro Try.prog 9) = _; rw [Try.zr9]; rfl) Try.by9 (by first | rfl | (simp only [blkR_len, List.length_cons, List.length_nil]; done) | (simp only [blkR_len, List.length_cons, List.length_nil]; omega)) (by simp only [blkR_len, List.length_cons, List.length_nil]; omega) (by simp only [blkR_len, List.length_cons, List.length_nil]; omega) ?_
    simp only [go_sem, Nat.reduceAdd, Nat.reduceLeDiff, Nat.reduceSub, Int.reduceToNat, reduceCtorEq]
    refine AQ.nx rfl ?_
    simp only [go_sem, Nat.reduceAdd, Nat.reduceLeDiff, Nat.reduceSub, Int.reduceToNat, reduceCtorEq]
    refine AQ.go (by kernel_rfl) ?_
    simp only [go_sem, Nat.reduceAdd, Nat.reduceLeDiff, Nat.reduceSub, Int.reduceToNat, reduceCtorEq]
    refine AQ.nx rfl ?_
    simp only [go_sem, Nat.reduceAdd, Nat.reduceLeDiff, Nat.reduceSub, Int.reduceToNat, reduceCtorEq]
    refine AQ.done ?_
    repeat (first | refine xA ?_ | refine xB ?_ | refine xC ?_ | refine xE ?_ | refine xD ?_ | refine xK ?_ | refine xS ?_ | refine xM ?_ | refine xT ?_ | refine xF ?_ | ((first | refine xR ?_ | refine xW ?_ | refine vq_id ?_); simp only [go_sem, Nat.reduceAdd, Nat.reduceLeDiff, Nat.reduceSub, Int.reduceToNat, reduceCtorEq]) | (refine ⟨by first | omega | (intros; simp_all; done) | (intros; simp_all; omega), ?_⟩; try simp only [go_sem, Nat.reduceAdd, Nat.reduceLeDiff, Nat.reduceSub, Int.reduceToNat, reduceCtorEq]))
    refine AP.drawE 12 (Tree.node [] [0, 1, 2, 3, 4, 5, 6] [7] [Tree.node [1, 3] [8, 9, 10] [11] [Tree.node [] [] [] []]]) (by kernel_rfl) rfl (by kernel_rfl) (by kernel_rfl) ?_
    refine vd_node ?_
    simp only [go_sem, Nat.reduceAdd, Nat.reduceLeDiff, Nat.reduceSub, Int.reduceToNat, reduceCtorEq]
    repeat' (first | with_reducible exact True.intro | with_reducible refine And.intro (by omega) ?_ | with_reducible refine And.intro ?_ ?_ | omega | fail | (refine AQ.nx rfl ?_; first | (refine And.intro ?_ ?_ <;> (try simp only [go_sem, Nat.reduceAdd, Nat.reduceLeDiff, Nat.reduceSub, Int.reduceToNat, reduceCtorEq])) | simp only [go_sem, Nat.reduceAdd, Nat.reduceLeDiff, Nat.reduceSub, Int.reduceToNat, reduceCtorEq]) | refine AQ.done ?_ | (refine AQ.go (by kernel_rfl) ?_; simp only [go_sem, Nat.reduceAdd, Nat.reduceLeDiff, Nat.reduceSub, Int.reduceToNat, reduceCtorEq]; (refine AQ.nx rfl ?_; first | (refine And.intro ?_ ?_ <;> (try simp only [go_sem, Nat.reduceAdd, Nat.reduceLeDiff, Nat.reduceSub, Int.reduceToNat, reduceCtorEq])) | simp only [go_sem, Nat.reduceAdd, Nat.reduceLeDiff, Nat.reduceSub, Int.reduceToNat, reduceCtorEq])))
    refine AE.forgets [3, 4, 5, 6] rfl ?_
    simp only [go_sem, Nat.reduceAdd, Nat.reduceLeDiff, Nat.reduceSub, Int.reduceToNat, reduceCtorEq]
    refine AE.rename 7 3 rfl rfl rfl ?_
    simp only [go_sem, Nat.reduceAdd, Nat.reduceLeDiff, Nat.reduceSub, Int.reduceToNat, reduceCtorEq]
    refine AE.rename 8 4 rfl rfl rfl ?_
    simp only [go_sem, Nat.reduceAdd, Nat.reduceLeDiff, Nat.reduceSub, Int.reduceToNat, reduceCtorEq]
    refine AE.order [4, 3, 0] rfl ?_
    simp only [go_sem, Nat.reduceAdd, Nat.reduceLeDiff, Nat.reduceSub, Int.reduceToNat, reduceCtorEq]
    refine AE.fall rfl trivial ⟨?_, rfl⟩
    rw [hZ']
    have : blkR (x.recs ++ [s]) = blkR x.recs ++ [[Si s]] := by simp [blkR]
    simp only [Jn.H, Jn.cs, List.length_append, blkR_len, this]
    rfl
end Go.Proofs.Ytoafanbfminhcaa
end

section
namespace Go.Proofs.Ytoafanbfminhcaa
open Go Go.AL Go.RowKit
set_option maxRecDepth 10000
set_option maxHeartbeats 4000000
theorem blkR_plain (B : List Bs) : rowsPlain (blkR B) := fun r hr => by
  simp only [blkR, List.mem_map] at hr
  obtain ⟨s, _, rfl⟩ := hr
  rfl
theorem wrR_plain (W : List Wr) : rowsPlain (wrR W) := fun r hr => by
  simp only [wrR, List.mem_map] at hr
  obtain ⟨s, _, rfl⟩ := hr
  rfl
abbrev Jn.D (x : Jn) : Dk := ⟨x.B, x.W⟩
theorem disk_own (x : Jn) (hd : x.D.Sz) : ACall Try.prog 17 [.im (.pt x.ic)] [] (fun r H' => H' = [(1, .vec 9 1 (blkR x.B)), (2, .vec 97 2 (wrR x.W))] ∧ r = .agg [.os 1 1 0 x.B.length, .os 2 2 0 x.W.length]) := by
  have hc := copied_own x.D hd
  refine ACall.walk [0, 2, 4] [2] Try.func17 rfl Try.ntmps17 (by kernel_rfl) (by rfl) rfl fun W own I0 φ0 => ?_
  repeat (first | refine xA ?_ | refine xB ?_ | refine xC ?_ | refine xE ?_ | refine xD ?_ | refine xK ?_ | refine xS ?_ | refine xM ?_ | refine xT ?_ | refine xF ?_ | ((first | refine xR ?_ | refine xW ?_ | refine vq_id ?_); simp only [go_sem, Nat.reduceAdd, Nat.reduceLeDiff, Nat.reduceSub, Int.reduceToNat, reduceCtorEq]) | (refine ⟨by first | omega | (intros; simp_all; done) | (intros; simp_all; omega), ?_⟩; try simp only [go_sem, Nat.reduceAdd, Nat.reduceLeDiff, Nat.reduceSub, Int.reduceToNat, reduceCtorEq]))
  refine AQ.callv (by kernel_rfl) rfl rfl rfl hc fun r' H' ⟨e1, e2⟩ => ?_
  subst e1; subst e2
  simp only [go_sem, Nat.reduceAdd, Nat.reduceLeDiff, Nat.reduceSub, Int.reduceToNat, reduceCtorEq]
  repeat (first | refine xA ?_ | refine xB ?_ | refine xC ?_ | refine xE ?_ | refine xD ?_ | refine xK ?_ | refine xS ?_ | refine xM ?_ | refine xT ?_ | refine xF ?_ | ((first | refine xR ?_ | refine xW ?_ | refine vq_id ?_); simp only [go_sem, Nat.reduceAdd, Nat.reduceLeDiff, Nat.reduceSub, Int.reduceToNat, reduceCtorEq]) | (refine ⟨by first | omega | (intros; simp_all; done) | (intros; simp_all; omega), ?_⟩; try simp only [go_sem, Nat.reduceAdd, Nat.reduceLeDiff, Nat.reduceSub, Int.reduceToNat, reduceCtorEq]))
  refine AE.rename 2 1 rfl rfl rfl ?_
  simp only [go_sem, Nat.reduceAdd, Nat.reduceLeDiff, Nat.reduceSub, Int.reduceToNat, reduceCtorEq]
  refine AE.rename 3 2 rfl rfl rfl ?_
  simp only [go_sem, Nat.reduceAdd, Nat.reduceLeDiff, Nat.reduceSub, Int.reduceToNat, reduceCtorEq]
  refine AE.order [1, 2, 0] rfl ?_
  simp only [go_sem, Nat.reduceAdd, Nat.reduceLeDiff, Nat.reduceSub, Int.reduceToNat, reduceCtorEq]
  exact AE.retD [0] rfl ⟨⟨rfl, Nat.le_of_ble_eq_true (by kernel_rfl)⟩, trivial⟩ rfl ⟨rfl, rfl⟩
end Go.Proofs.Ytoafanbfminhcaa
end

section
namespace Go.Proofs.Ytoafanbfminhcaa
open Go Go.AL Go.RowKit
set_option maxRecDepth 10000
set_option maxHeartbeats 4000000
structure Jn.Sz (x : Jn) : Prop where
  b : x.B.length ≤ 2000
  h : x.half = 0 ∨ x.half = 1
  u : x.used ≤ x.B.length / 2
  f : x.first ≤ 4294967296
  l : x.last ≤ 4294967296
  n : x.next ≤ 4294967296
  n1 : 1 ≤ x.next
  w : x.W.length ≤ 10000
  r : x.recs.length ≤ 2000
def Jn.appE (x : Jn) (s : Bs) : Int := if 10000 < s.length then 4 else if x.B.length / 2 < x.used + nparts s ∨ 4294967296 < x.next + nparts s ∨ 10000 < x.W.length + nparts s then 8 else 0
theorem nparts_le (s : Bs) (h : s.length ≤ 10000) : nparts s ≤ 527 := by unfold nparts; omega
theorem nparts_pos (s : Bs) : 1 ≤ nparts s := by unfold nparts; omega
theorem append_ok (x : Jn) (half : Nat) (s : Bs) (hx : x.Sz) (hh : x.half = (half : Int)) (h : x.appE s = 0) : ACall Try.prog 19 [.ob 0 0, Sv s] (x.H 1 2) (fun r H' => H' = (x.wrote half x.used x.last s).H 3 4 ∧ r = Iv 0) := by
  obtain ⟨hb, hhf, hu, hf, hl, hn, hn1, hw, hr⟩ := hx
  unfold Jn.appE at h
  split at h
  · cases h
  rename_i hs
  split at h
  · cases h
  rename_i hc
  have hnp := nparts_le s (by omega)
  have hwr := write_spec x half x.used x.last s (by omega) (by omega) (by omega) (by omega) (by omega) (by omega) (by omega) (by omega)
  have hh1 := nparts_pos s
  have hsz := size_spec x.B (x.ic.drop 1) (by omega)
  obtain ⟨Z, hZ⟩ : ∃ Z, (x.wrote half x.used x.last s) = Z := ⟨_, rfl⟩
  rw [hZ] at hwr ⊢
  obtain ⟨B, W', half', recs, used, first, last, next⟩ := x
  simp only at hb hhf hu hf hl hn hn1 hw hr hs hc hsz hh
  have w1 := wr (x := (used : Int) + (nparts s : Int)) (by omega)
  have w2 := wr (x := (next : Int) + (nparts s : Int)) (by omega)
  have w3 := wr (x := (next : Int) + (nparts s : Int) - 1) (by omega)
  have w4 := wr (x := (W'.length : Int) + (nparts s : Int)) (by omega)
  have w5 := wr (x := (nparts s : Int)) (by omega)
  subst hh
  simp only [go_sem, Nat.reduceAdd, Nat.reduceLeDiff, Nat.reduceSub, Int.reduceToNat, reduceCtorEq, Jn.H, Jn.cs]
  refine ACall.walk [0, 1, 4, 5, 7, 10, 14] [] Try.func19 rfl Try.ntmps19 (by kernel_rfl) (by rfl) rfl fun W own I0 φ0 => ?_
  repeat (first | refine xA ?_ | refine xB ?_ | refine xC ?_ | refine xE ?_ | refine xD ?_ | refine xK ?_ | refine xS ?_ | refine xM ?_ | refine xT ?_ | refine xF ?_ | ((first | refine xR ?_ | refine xW ?_ | refine vq_id ?_); simp only [go_sem, Nat.reduceAdd, Nat.reduceLeDiff, Nat.reduceSub, Int.reduceToNat, reduceCtorEq]) | (refine ⟨by first | omega | (intros; simp_all; done) | (intros; simp_all; omega), ?_⟩; try simp only [go_sem, Nat.reduceAdd, Nat.reduceLeDiff, Nat.reduceSub, Int.reduceToNat, reduceCtorEq]))
  refine AQ.fn (by kernel_rfl) rfl rfl rfl (blocksOf_spec s (by omega)) rfl ?_
  repeat (first | refine xA ?_ | refine xB ?_ | refine xC ?_ | refine xE ?_ | refine xD ?_ | refine xK ?_ | refine xS ?_ | refine xM ?_ | refine xT ?_ | refine xF ?_ | ((first | refine xR ?_ | refine xW ?_ | refine vq_id ?_); simp only [go_sem, Nat.reduceAdd, Nat.reduceLeDiff, Nat.reduceSub, Int.reduceToNat, reduceCtorEq, BA_size]) | (refine ⟨by first | omega | (intros; simp_all; done) | (intros; simp_all; omega), ?_⟩; try simp only [go_sem, Nat.reduceAdd, Nat.reduceLeDiff, Nat.reduceSub, Int.reduceToNat, reduceCtorEq, BA_size]))
  refine AP.cond_false rfl (by simp only [go_sem, Nat.reduceAdd, Nat.reduceLeDiff, Nat.reduceSub, Int.reduceToNat, reduceCtorEq]; refine congrArg (fun b => some (AV.im (IV.v (Value.bool b)))) ?_; (first | (simp only [Bool.or_eq_true, Bool.and_eq_true, Bool.not_eq_true', Bool.not_eq_false', Bool.and_eq_false_iff, Bool.or_eq_false_iff, decide_eq_true_eq, decide_eq_false_iff_not, beq_iff_eq, bne_iff_ne, beq_eq_false_iff_ne, bne_eq_false_iff_eq, ne_eq]; omega) | (simp; done) | (simp; omega) | (simp_all; done) | (simp_all; omega))) ?_
  repeat (first | refine xA ?_ | refine xB ?_ | refine xC ?_ | refine xE ?_ | refine xD ?_ | refine xK ?_ | refine xS ?_ | refine xM ?_ | refine xT ?_ | refine xF ?_ | ((first | refine xR ?_ | refine xW ?_ | refine vq_id ?_); simp only [go_sem, Nat.reduceAdd, Nat.reduceLeDiff, Nat.reduceSub, Int.reduceToNat, reduceCtorEq, BA_size]) | (refine ⟨by first | omega | (intros; simp_all; done) | (intros; simp_all; omega), ?_⟩; try simp only [go_sem, Nat.reduceAdd, Nat.reduceLeDiff, Nat.reduceSub, Int.reduceToNat, reduceCtorEq, BA_size]))
  refine AP.drawE 32 (Tree.node [] [0, 1, 2, 3, 4, 5, 6, 7] [8] [Tree.node [0, 1, 2, 3, 4, 5, 6] [9, 10, 11, 12, 13, 14, 15, 16, 17, 18, 19, 20, 21, 22, 23, 24, 25, 26, 27, 28, 29, 30, 31] [] []]) (by kernel_rfl) rfl (by kernel_rfl) (by kernel_rfl) ?_
  refine vd_node ?_
  simp only [go_sem, Nat.reduceAdd, Nat.reduceLeDiff, Nat.reduceSub, Int.reduceToNat, reduceCtorEq, w1]
  refine AQ.fnL ([.im (.pt (Jn.ic ⟨B, W', half, recs, used, first, last, next⟩))]) (by kernel_rfl) rfl rfl rfl (by ((try simp only [List.nil_append, List.append_nil, List.map_cons, List.map_nil, AV.st, constAV]); repeat (first | with_reducible exact LentC.nil | with_reducible exact LentAs.nil | with_reducible refine LentC.cons ?_ ?_ | with_reducible refine LentAs.cons ?_ ?_ | with_reducible exact Lent.im _ | with_reducible exact LentA.im _ | with_reducible refine LentA.of ?_ | with_reducible refine LentA.agg ?_ | ((with_reducible apply Lent.osw); rfl; simp only [blkR_len, wrR_len, byteR_len, List.length_append, List.length_cons, List.length_nil]) | ((with_reducible apply Lent.ob0); rfl)))) (hsz) rfl (fun _ => rfl) ?_
  simp only [go_sem, Nat.reduceAdd, Nat.reduceLeDiff, Nat.reduceSub, Int.reduceToNat, reduceCtorEq, w1]
  refine AQ.nx rfl ?_
  simp only [go_sem, Nat.reduceAdd, Nat.reduceLeDiff, Nat.reduceSub, Int.reduceToNat, reduceCtorEq, w1, w2, w3, w4, w5]
  refine And.intro (fun h => ⟨h, h⟩) (And.intro (fun h => ⟨h, h⟩) (AQ.done ?_))
  repeat (first | refine xA ?_ | refine xB ?_ | refine xC ?_ | refine xE ?_ | refine xD ?_ | refine xK ?_ | refine xS ?_ | refine xM ?_ | refine xT ?_ | refine xF ?_ | ((first | refine xR ?_ | refine xW ?_ | refine vq_id ?_); simp only [go_sem, Nat.reduceAdd, Nat.reduceLeDiff, Nat.reduceSub, Int.reduceToNat, reduceCtorEq]) | (refine ⟨by first | omega | (intros; simp_all; done) | (intros; simp_all; omega), ?_⟩; try simp only [go_sem, Nat.reduceAdd, Nat.reduceLeDiff, Nat.reduceSub, Int.reduceToNat, reduceCtorEq]))
  refine AP.cond_false rfl (by simp only [go_sem, Nat.reduceAdd, Nat.reduceLeDiff, Nat.reduceSub, Int.reduceToNat, reduceCtorEq]; refine congrArg (fun b => some (AV.im (IV.v (Value.bool b)))) ?_; (first | (simp only [Bool.or_eq_true, Bool.and_eq_true, Bool.not_eq_true', Bool.not_eq_false', Bool.and_eq_false_iff, Bool.or_eq_false_iff, decide_eq_true_eq, decide_eq_false_iff_not, beq_iff_eq, bne_iff_ne, beq_eq_false_iff_ne, bne_eq_false_iff_eq, ne_eq]; omega) | (simp; done) | (simp; omega) | (simp_all; done) | (simp_all; omega))) ?_
  repeat (first | refine xA ?_ | refine xB ?_ | refine xC ?_ | refine xE ?_ | refine xD ?_ | refine xK ?_ | refine xS ?_ | refine xM ?_ | refine xT ?_ | refine xF ?_ | ((first | refine xR ?_ | refine xW ?_ | refine vq_id ?_); simp only [go_sem, Nat.reduceAdd, Nat.reduceLeDiff, Nat.reduceSub, Int.reduceToNat, reduceCtorEq]) | (refine ⟨by first | omega | (intros; simp_all; done) | (intros; simp_all; omega), ?_⟩; try simp only [go_sem, Nat.reduceAdd, Nat.reduceLeDiff, Nat.reduceSub, Int.reduceToNat, reduceCtorEq]))
  refine AP.drawE 17 (Tree.node [] [0, 1, 2, 3, 4, 5, 6, 7, 8, 9, 10, 11, 12, 13, 14, 15] [16] [Tree.node [] [] [] []]) (by kernel_rfl) rfl (by kernel_rfl) (by kernel_rfl) ?_
  refine vd_node ?_
  simp only [go_sem, Nat.reduceAdd, Nat.reduceLeDiff, Nat.reduceSub, Int.reduceToNat, reduceCtorEq]
  refine AQ.callH [(2, 2), (1, 1), (0, 0)] (by kernel_rfl) rfl rfl rfl rfl rfl rfl (by exact ⟨rfl, rfl, rfl, trivial⟩) rfl hwr ?_
  rintro r H1 ⟨rfl, rfl⟩
  refine ⟨rfl, ?_⟩
  simp only [go_sem, Nat.reduceAdd, Nat.reduceLeDiff, Nat.reduceSub, Int.reduceToNat, reduceCtorEq, Jn.H, Jn.cs]
  refine AQ.nx rfl ?_
  simp only [go_sem, Nat.reduceAdd, Nat.reduceLeDiff, Nat.reduceSub, Int.reduceToNat, reduceCtorEq]
  refine AQ.done ?_
  repeat (first | refine xA ?_ | refine xB ?_ | refine xC ?_ | refine xE ?_ | refine xD ?_ | refine xK ?_ | refine xS ?_ | refine xM ?_ | refine xT ?_ | refine xF ?_ | ((first | refine xR ?_ | refine xW ?_ | refine vq_id ?_); simp only [go_sem, Nat.reduceAdd, Nat.reduceLeDiff, Nat.reduceSub, Int.reduceToNat, reduceCtorEq]) | (refine ⟨by first | omega | (intros; simp_all; done) | (intros; simp_all; omega), ?_⟩; try simp only [go_sem, Nat.reduceAdd, Nat.reduceLeDiff, Nat.reduceSub, Int.reduceToNat, reduceCtorEq]))
  refine AE.rename 6 3 rfl rfl rfl ?_
  simp only [go_sem, Nat.reduceAdd, Nat.reduceLeDiff, Nat.reduceSub, Int.reduceToNat, reduceCtorEq]
  refine AE.rename 7 4 rfl rfl rfl ?_
  simp only [go_sem, Nat.reduceAdd, Nat.reduceLeDiff, Nat.reduceSub, Int.reduceToNat, reduceCtorEq]
  exact AE.ret rfl ⟨rfl, trivial⟩ ⟨rfl, rfl⟩
theorem append_nil (s : Bs) : PFn Try.prog 19 [.im (.v (.pointer none)), Sv s] (Iv 1) := by
  refine ACall.walk [0, 1, 4, 5, 7, 10, 14] [] Try.func19 rfl Try.ntmps19 (by kernel_rfl) (by rfl) rfl fun W own I0 φ0 => ?_
  repeat (first | refine xA ?_ | refine xB ?_ | refine xC ?_ | refine xE ?_ | refine xD ?_ | refine xK ?_ | refine xS ?_ | refine xM ?_ | refine xT ?_ | refine xF ?_ | ((first | refine xR ?_ | refine xW ?_ | refine vq_id ?_); simp only [go_sem, Nat.reduceAdd, Nat.reduceLeDiff, Nat.reduceSub, Int.reduceToNat, reduceCtorEq]) | (refine ⟨by first | omega | (intros; simp_all; done) | (intros; simp_all; omega), ?_⟩; try simp only [go_sem, Nat.reduceAdd, Nat.reduceLeDiff, Nat.reduceSub, Int.reduceToNat, reduceCtorEq]))
  exact AE.ret0 rfl ⟨rfl, trivial⟩ rfl ⟨rfl, rfl⟩
end Go.Proofs.Ytoafanbfminhcaa
end

section
namespace Go.Proofs.Ytoafanbfminhcaa
open Go Go.AL Go.RowKit
set_option maxRecDepth 10000
set_option maxHeartbeats 4000000
end Go.Proofs.Ytoafanbfminhcaa
end

section
namespace Go.Proofs.Ytoafanbfminhcaa
open Go Go.AL Go.RowKit
set_option maxRecDepth 10000
set_option maxHeartbeats 4000000
def mx3 (m : Nat) (s : Bs) : Nat := max (max m (n4 (s.take 4))) (n4 ((s.drop 16).take 4))
def maxN (S : List Bs) : Nat := S.foldl mx3 0
def arA (S : List Bs) : Sc := scanS (S.take (S.length / 2))
def arB (S : List Bs) : Sc := scanS (S.drop (S.length / 2))
def Sel (a b c : Sc) (h : Nat) : Prop := (h = 0 ∧ c = a ∧ a.recs ≠ [] ∧ ¬ (b.recs ≠ [] ∧ a.first < b.first)) ∨ (h = 1 ∧ c = b ∧ b.recs ≠ [] ∧ (a.recs = [] ∨ a.first < b.first))
def openJ (d : Dk) (c : Sc) (h : Nat) : Jn := ⟨d.B, d.W, h, c.recs, c.used, c.first, c.last, maxN d.syncD.B + 1⟩
theorem crash_32 (F : List Int) : ∀ (W : List Wr) (i : Nat) (B : List Bs), (∀ s ∈ B, s.length = 32) → (∀ w ∈ W, w.2.length = 32) → (∀ w ∈ W, 0 ≤ w.1 ∧ w.1 < B.length) → ∀ s ∈ crashB F W i B, s.length = 32
  | [], _, _, h, _, _ => h
  | w :: r, i, B, h, hW, hr => by
    rw [crashB]
    have h0 := hr w (by simp)
    refine crash_32 F r (i + 1) _ (fun s hs => ?_) (fun x hx => hW x (by simp [hx])) (fun x hx => by rw [List.length_set]; exact hr x (by simp [hx]))
    rcases List.mem_or_eq_of_mem_set hs with h1 | h1
    · exact h s h1
    · rw [h1]
      refine crash1_32 _ ?_ (hW w (by simp))
      have hk : w.1.toNat < B.length := by omega
      rw [List.getD_eq_getElem?_getD, List.getElem?_eq_getElem hk, Option.getD_some]
      exact h _ (List.getElem_mem hk)
theorem sync_32 (d : Dk) (hok : d.Ok) : ∀ s ∈ d.syncD.B, s.length = 32 := by
  rw [Dk.syncD, Dk.crashD, if_pos ((d.chk_ok).2 hok)]
  exact crash_32 _ _ _ _ hok.b (fun w hw => (hok.r w hw).2) (fun w hw => (hok.r w hw).1)
theorem mx3_lt (m : Nat) (s : Bs) (h : m < 4294967296) : mx3 m s < 4294967296 := by
  have h1 := n4_lt (s.take 4)
  have h2 := n4_lt ((s.drop 16).take 4)
  unfold mx3; omega
theorem maxN_lt (S : List Bs) : maxN S < 4294967296 := by
  have : ∀ (S : List Bs) (m : Nat), m < 4294967296 → S.foldl mx3 m < 4294967296 := fun S => by
    induction S with
    | nil => exact fun m h => h
    | cons s r ih => exact fun m h => ih _ (mx3_lt m s h)
  exact this S 0 (by omega)
def openR (d : Dk) (a b : Sc) (r : AV) (H' : Heap) : Prop := (a.recs = [] ∧ b.recs = [] → H' = [] ∧ r = .tup [.im (.v (.pointer none)), Iv 400]) ∧ (∀ c h, Sel a b c h → H' = (openJ d c h).H 1 2 ∧ r = .tup [.ob 0 0, Iv 0])
theorem open_walk (d : Dk) (hd : d.Sz) (hok : d.Ok) : ACall Try.prog 12 [d.v] [] (openR d (arA d.syncD.B) (arB d.syncD.B)) := by
  have hs := sync_okN d hd hok
  have hlen : d.syncD.B.length = d.B.length := syncD_len d ((d.chk_ok).2 hok)
  obtain ⟨hn4, hn2, _⟩ := okN_le hok.n
  unfold openR openJ arA arB
  have hco := copied_own d hd
  have hS32 := sync_32 d hok
  obtain ⟨S, hS⟩ : ∃ S, d.syncD.B = S := ⟨_, rfl⟩
  rw [hS] at hs hlen hS32 ⊢
  have h1 := scan_spec (S.take (S.length / 2)) (by simp; omega)
  have h2 := scan_spec (S.drop (S.length / 2)) (by simp; omega)
  have hdv : (S.length : Int).tdiv 2 = ((S.length / 2 : Nat) : Int) := rfl
  have w1 := wr (x := ((S.length / 2 : Nat) : Int)) (by omega)
  obtain ⟨a, haa⟩ : ∃ a, scanS (S.take (S.length / 2)) = a := ⟨_, rfl⟩
  obtain ⟨b, hbb⟩ : ∃ b, scanS (S.drop (S.length / 2)) = b := ⟨_, rfl⟩
  rw [haa] at h1 ⊢
  rw [hbb] at h2 ⊢
  refine ACall.walk [0, 1, 2, 3, 4, 5, 6, 7, 8, 9, 11, 18, 39, 50, 74, 75, 76, 77] [4, 7, 8, 38] Try.func12 rfl Try.ntmps12 (by kernel_rfl) (by rfl) rfl fun W own I0 φ0 => ?_
  repeat (first | refine xA ?_ | refine xB ?_ | refine xC ?_ | refine xE ?_ | refine xD ?_ | refine xK ?_ | refine xS ?_ | refine xM ?_ | refine xT ?_ | refine xF ?_ | ((first | refine xR ?_ | refine xW ?_ | refine vq_id ?_); simp only [go_sem, Nat.reduceAdd, Nat.reduceLeDiff, Nat.reduceSub, Int.reduceToNat, reduceCtorEq]) | (refine ⟨by first | omega | (intros; simp_all; done) | (intros; simp_all; omega), ?_⟩; try simp only [go_sem, Nat.reduceAdd, Nat.reduceLeDiff, Nat.reduceSub, Int.reduceToNat, reduceCtorEq]))
  refine AQ.fn (by kernel_rfl) rfl rfl rfl (hs) rfl ?_
  repeat (first | refine xA ?_ | refine xB ?_ | refine xC ?_ | refine xE ?_ | refine xD ?_ | refine xK ?_ | refine xS ?_ | refine xM ?_ | refine xT ?_ | refine xF ?_ | ((first | refine xR ?_ | refine xW ?_ | refine vq_id ?_); simp only [go_sem, Nat.reduceAdd, Nat.reduceLeDiff, Nat.reduceSub, Int.reduceToNat, reduceCtorEq, blkR_len, hdv, w1]) | (refine ⟨by first | omega | (intros; simp_all; done) | (intros; simp_all; omega), ?_⟩; try simp only [go_sem, Nat.reduceAdd, Nat.reduceLeDiff, Nat.reduceSub, Int.reduceToNat, reduceCtorEq, blkR_len, hdv, w1]))
  refine AP.cut (α := Unit) (fun _ => [(0, d.v), (1, .im (.pt [.sl 1 (blkR d.B), .sl 2 (wrR d.W)])), (2, .im (.v (.pointer none))), (3, Iv 0), (4, .ob 0 0), (5, Iv 0), (6, Iv (S.length / 2 : Nat)), (7, .ob 21 0), (8, .ob 22 0)]) (fun _ => [(24, .vec 9 1 (blkR b.recs)), (23, .vec 9 1 (blkR a.recs)), (22, .var 89 [.os 24 1 0 b.recs.length, Iv b.used, I2 b.first, I2 b.last]), (21, .var 89 [.os 23 1 0 a.recs.length, Iv a.used, I2 a.first, I2 a.last]), (0, .var 28 [.im (.sl 1 (blkR S)), .im (.v (.slice none 0 0))])]) (fun _ => True) ?_ fun _ _ => ?_
  · skip
    refine AP.drawE 14 (Tree.node [] [0, 1, 2, 3, 5, 6, 7, 8] [4, 10, 11] [Tree.node [5, 6, 7, 8] [] [9, 10, 11] [Tree.node [] [] [10, 11] [Tree.node [] [] [11] [Tree.node [] [] [12] [Tree.node [] [] [13] [Tree.node [] [] [] []]]], Tree.node [] [] [10] [Tree.node [] [] [12] [Tree.node [] [] [13] [Tree.node [] [] [] []]]]], Tree.node [5, 6, 7, 8] [] [9, 11] [Tree.node [] [] [11] [Tree.node [] [] [12] [Tree.node [] [] [13] [Tree.node [] [] [] []]]], Tree.node [5, 6, 7, 8] [] [9] [Tree.node [] [] [12] [Tree.node [] [] [13] [Tree.node [] [] [] []]]]], Tree.node [5, 6, 7, 8] [] [9, 10] [Tree.node [] [] [10] [Tree.node [] [] [12] [Tree.node [] [] [13] [Tree.node [] [] [] []]]], Tree.node [5, 6, 7, 8] [] [9] [Tree.node [] [] [12] [Tree.node [] [] [13] [Tree.node [] [] [] []]]]]], Tree.node [0, 1, 2, 3, 5, 6, 7, 8] [] [4, 11] [Tree.node [5, 6, 7, 8] [] [9, 11] [Tree.node [] [] [11] [Tree.node [] [] [12] [Tree.node [] [] [13] [Tree.node [] [] [] []]]], Tree.node [5, 6, 7, 8] [] [9] [Tree.node [] [] [12] [Tree.node [] [] [13] [Tree.node [] [] [] []]]]], Tree.node [0, 1, 2, 3, 5, 6, 7, 8] [] [4] [Tree.node [5, 6, 7, 8] [] [9] [Tree.node [] [] [12] [Tree.node [] [] [13] [Tree.node [] [] [] []]]]]], Tree.node [0, 1, 2, 3, 5, 6, 7, 8] [] [4, 10] [Tree.node [5, 6, 7, 8] [] [9, 10] [Tree.node [] [] [10] [Tree.node [] [] [12] [Tree.node [] [] [13] [Tree.node [] [] [] []]]], Tree.node [5, 6, 7, 8] [] [9] [Tree.node [] [] [12] [Tree.node [] [] [13] [Tree.node [] [] [] []]]]], Tree.node [0, 1, 2, 3, 5, 6, 7, 8] [] [4] [Tree.node [5, 6, 7, 8] [] [9] [Tree.node [] [] [12] [Tree.node [] [] [13] [Tree.node [] [] [] []]]]]]]) (by kernel_rfl) rfl (by kernel_rfl) (by kernel_rfl) ?_
    refine vd_node ?_
    simp only [go_sem, Nat.reduceAdd, Nat.reduceLeDiff, Nat.reduceSub, Int.reduceToNat, reduceCtorEq, blkR_len, blkR_take, blkR_drop]
    repeat' (first | with_reducible exact True.intro | with_reducible refine And.intro (by omega) ?_ | with_reducible refine And.intro ?_ ?_ | omega | (refine AQ.callv (by kernel_rfl) rfl rfl rfl h1 fun r' H' ⟨e1, e2⟩ => ?_; subst e1; subst e2; simp only [go_sem, Nat.reduceAdd, Nat.reduceLeDiff, Nat.reduceSub, Int.reduceToNat, reduceCtorEq]) | (refine AQ.callv (by kernel_rfl) rfl rfl rfl h2 fun r' H' ⟨e1, e2⟩ => ?_; subst e1; subst e2; simp only [go_sem, Nat.reduceAdd, Nat.reduceLeDiff, Nat.reduceSub, Int.reduceToNat, reduceCtorEq]) | (refine AQ.nx rfl ?_; first | (refine And.intro ?_ ?_ <;> (try simp only [go_sem, Nat.reduceAdd, Nat.reduceLeDiff, Nat.reduceSub, Int.reduceToNat, reduceCtorEq, blkR_len, blkR_take, blkR_drop])) | simp only [go_sem, Nat.reduceAdd, Nat.reduceLeDiff, Nat.reduceSub, Int.reduceToNat, reduceCtorEq, blkR_len, blkR_take, blkR_drop]) | refine AQ.done ?_ | (refine AQ.go (by kernel_rfl) ?_; simp only [go_sem, Nat.reduceAdd, Nat.reduceLeDiff, Nat.reduceSub, Int.reduceToNat, reduceCtorEq, blkR_len, blkR_take, blkR_drop]; (refine AQ.nx rfl ?_; first | (refine And.intro ?_ ?_ <;> (try simp only [go_sem, Nat.reduceAdd, Nat.reduceLeDiff, Nat.reduceSub, Int.reduceToNat, reduceCtorEq, blkR_len, blkR_take, blkR_drop])) | simp only [go_sem, Nat.reduceAdd, Nat.reduceLeDiff, Nat.reduceSub, Int.reduceToNat, reduceCtorEq, blkR_len, blkR_take, blkR_drop])))
    · simp only [go_sem, Nat.reduceAdd, Nat.reduceLeDiff, Nat.reduceSub, Int.reduceToNat, reduceCtorEq]; refine AE.rename 11 21 rfl rfl rfl ?_; simp only [go_sem, Nat.reduceAdd, Nat.reduceLeDiff, Nat.reduceSub, Int.reduceToNat, reduceCtorEq]; refine AE.rename 12 22 rfl rfl rfl ?_; simp only [go_sem, Nat.reduceAdd, Nat.reduceLeDiff, Nat.reduceSub, Int.reduceToNat, reduceCtorEq]; refine AE.rename 5 23 rfl rfl rfl ?_; simp only [go_sem, Nat.reduceAdd, Nat.reduceLeDiff, Nat.reduceSub, Int.reduceToNat, reduceCtorEq]; refine AE.rename 10 24 rfl rfl rfl ?_; simp only [go_sem, Nat.reduceAdd, Nat.reduceLeDiff, Nat.reduceSub, Int.reduceToNat, reduceCtorEq]; refine AE.order [24, 23, 22, 21, 0] rfl ?_; simp only [go_sem, Nat.reduceAdd, Nat.reduceLeDiff, Nat.reduceSub, Int.reduceToNat, reduceCtorEq]; exact AE.meet () trivial (by repeat (first | exact Sub.nil _ | refine Sub.cons rfl ?_)) rfl
    · simp only [go_sem, Nat.reduceAdd, Nat.reduceLeDiff, Nat.reduceSub, Int.reduceToNat, reduceCtorEq]; refine AE.rename 12 21 rfl rfl rfl ?_; simp only [go_sem, Nat.reduceAdd, Nat.reduceLeDiff, Nat.reduceSub, Int.reduceToNat, reduceCtorEq]; refine AE.rename 11 22 rfl rfl rfl ?_; simp only [go_sem, Nat.reduceAdd, Nat.reduceLeDiff, Nat.reduceSub, Int.reduceToNat, reduceCtorEq]; refine AE.rename 5 23 rfl rfl rfl ?_; simp only [go_sem, Nat.reduceAdd, Nat.reduceLeDiff, Nat.reduceSub, Int.reduceToNat, reduceCtorEq]; refine AE.rename 10 24 rfl rfl rfl ?_; simp only [go_sem, Nat.reduceAdd, Nat.reduceLeDiff, Nat.reduceSub, Int.reduceToNat, reduceCtorEq]; refine AE.order [24, 23, 22, 21, 0] rfl ?_; simp only [go_sem, Nat.reduceAdd, Nat.reduceLeDiff, Nat.reduceSub, Int.reduceToNat, reduceCtorEq]; exact AE.meet () trivial (by repeat (first | exact Sub.nil _ | refine Sub.cons rfl ?_)) rfl
    · simp only [go_sem, Nat.reduceAdd, Nat.reduceLeDiff, Nat.reduceSub, Int.reduceToNat, reduceCtorEq]; refine AE.rename 6 21 rfl rfl rfl ?_; simp only [go_sem, Nat.reduceAdd, Nat.reduceLeDiff, Nat.reduceSub, Int.reduceToNat, reduceCtorEq]; refine AE.rename 12 22 rfl rfl rfl ?_; simp only [go_sem, Nat.reduceAdd, Nat.reduceLeDiff, Nat.reduceSub, Int.reduceToNat, reduceCtorEq]; refine AE.rename 5 23 rfl rfl rfl ?_; simp only [go_sem, Nat.reduceAdd, Nat.reduceLeDiff, Nat.reduceSub, Int.reduceToNat, reduceCtorEq]; refine AE.rename 11 24 rfl rfl rfl ?_; simp only [go_sem, Nat.reduceAdd, Nat.reduceLeDiff, Nat.reduceSub, Int.reduceToNat, reduceCtorEq]; refine AE.order [24, 23, 22, 21, 0] rfl ?_; simp only [go_sem, Nat.reduceAdd, Nat.reduceLeDiff, Nat.reduceSub, Int.reduceToNat, reduceCtorEq]; exact AE.meet () trivial (by repeat (first | exact Sub.nil _ | refine Sub.cons rfl ?_)) rfl
    · simp only [go_sem, Nat.reduceAdd, Nat.reduceLeDiff, Nat.reduceSub, Int.reduceToNat, reduceCtorEq]; refine AE.rename 6 21 rfl rfl rfl ?_; simp only [go_sem, Nat.reduceAdd, Nat.reduceLeDiff, Nat.reduceSub, Int.reduceToNat, reduceCtorEq]; refine AE.rename 7 22 rfl rfl rfl ?_; simp only [go_sem, Nat.reduceAdd, Nat.reduceLeDiff, Nat.reduceSub, Int.reduceToNat, reduceCtorEq]; refine AE.rename 5 23 rfl rfl rfl ?_; simp only [go_sem, Nat.reduceAdd, Nat.reduceLeDiff, Nat.reduceSub, Int.reduceToNat, reduceCtorEq]; refine AE.rename 12 24 rfl rfl rfl ?_; simp only [go_sem, Nat.reduceAdd, Nat.reduceLeDiff, Nat.reduceSub, Int.reduceToNat, reduceCtorEq]; refine AE.order [24, 23, 22, 21, 0] rfl ?_; simp only [go_sem, Nat.reduceAdd, Nat.reduceLeDiff, Nat.reduceSub, Int.reduceToNat, reduceCtorEq]; exact AE.meet () trivial (by repeat (first | exact Sub.nil _ | refine Sub.cons rfl ?_)) rfl
    · simp only [go_sem, Nat.reduceAdd, Nat.reduceLeDiff, Nat.reduceSub, Int.reduceToNat, reduceCtorEq]; refine AE.rename 12 21 rfl rfl rfl ?_; simp only [go_sem, Nat.reduceAdd, Nat.reduceLeDiff, Nat.reduceSub, Int.reduceToNat, reduceCtorEq]; refine AE.rename 6 22 rfl rfl rfl ?_; simp only [go_sem, Nat.reduceAdd, Nat.reduceLeDiff, Nat.reduceSub, Int.reduceToNat, reduceCtorEq]; refine AE.rename 5 23 rfl rfl rfl ?_; simp only [go_sem, Nat.reduceAdd, Nat.reduceLeDiff, Nat.reduceSub, Int.reduceToNat, reduceCtorEq]; refine AE.rename 11 24 rfl rfl rfl ?_; simp only [go_sem, Nat.reduceAdd, Nat.reduceLeDiff, Nat.reduceSub, Int.reduceToNat, reduceCtorEq]; refine AE.order [24, 23, 22, 21, 0] rfl ?_; simp only [go_sem, Nat.reduceAdd, Nat.reduceLeDiff, Nat.reduceSub, Int.reduceToNat, reduceCtorEq]; exact AE.meet () trivial (by repeat (first | exact Sub.nil _ | refine Sub.cons rfl ?_)) rfl
    · simp only [go_sem, Nat.reduceAdd, Nat.reduceLeDiff, Nat.reduceSub, Int.reduceToNat, reduceCtorEq]; refine AE.rename 7 21 rfl rfl rfl ?_; simp only [go_sem, Nat.reduceAdd, Nat.reduceLeDiff, Nat.reduceSub, Int.reduceToNat, reduceCtorEq]; refine AE.rename 6 22 rfl rfl rfl ?_; simp only [go_sem, Nat.reduceAdd, Nat.reduceLeDiff, Nat.reduceSub, Int.reduceToNat, reduceCtorEq]; refine AE.rename 5 23 rfl rfl rfl ?_; simp only [go_sem, Nat.reduceAdd, Nat.reduceLeDiff, Nat.reduceSub, Int.reduceToNat, reduceCtorEq]; refine AE.rename 12 24 rfl rfl rfl ?_; simp only [go_sem, Nat.reduceAdd, Nat.reduceLeDiff, Nat.reduceSub, Int.reduceToNat, reduceCtorEq]; refine AE.order [24, 23, 22, 21, 0] rfl ?_; simp only [go_sem, Nat.reduceAdd, Nat.reduceLeDiff, Nat.reduceSub, Int.reduceToNat, reduceCtorEq]; exact AE.meet () trivial (by repeat (first | exact Sub.nil _ | refine Sub.cons rfl ?_)) rfl
    · simp only [go_sem, Nat.reduceAdd, Nat.reduceLeDiff, Nat.reduceSub, Int.reduceToNat, reduceCtorEq]; refine AE.rename 1 21 rfl rfl rfl ?_; simp only [go_sem, Nat.reduceAdd, Nat.reduceLeDiff, Nat.reduceSub, Int.reduceToNat, reduceCtorEq]; refine AE.rename 12 22 rfl rfl rfl ?_; simp only [go_sem, Nat.reduceAdd, Nat.reduceLeDiff, Nat.reduceSub, Int.reduceToNat, reduceCtorEq]; refine AE.rename 6 23 rfl rfl rfl ?_; simp only [go_sem, Nat.reduceAdd, Nat.reduceLeDiff, Nat.reduceSub, Int.reduceToNat, reduceCtorEq]; refine AE.rename 11 24 rfl rfl rfl ?_; simp only [go_sem, Nat.reduceAdd, Nat.reduceLeDiff, Nat.reduceSub, Int.reduceToNat, reduceCtorEq]; refine AE.order [24, 23, 22, 21, 0] rfl ?_; simp only [go_sem, Nat.reduceAdd, Nat.reduceLeDiff, Nat.reduceSub, Int.reduceToNat, reduceCtorEq]; exact AE.meet () trivial (by repeat (first | exact Sub.nil _ | refine Sub.cons rfl ?_)) rfl
    · simp only [go_sem, Nat.reduceAdd, Nat.reduceLeDiff, Nat.reduceSub, Int.reduceToNat, reduceCtorEq]; refine AE.rename 1 21 rfl rfl rfl ?_; simp only [go_sem, Nat.reduceAdd, Nat.reduceLeDiff, Nat.reduceSub, Int.reduceToNat, reduceCtorEq]; refine AE.rename 7 22 rfl rfl rfl ?_; simp only [go_sem, Nat.reduceAdd, Nat.reduceLeDiff, Nat.reduceSub, Int.reduceToNat, reduceCtorEq]; refine AE.rename 6 23 rfl rfl rfl ?_; simp only [go_sem, Nat.reduceAdd, Nat.reduceLeDiff, Nat.reduceSub, Int.reduceToNat, reduceCtorEq]; refine AE.rename 12 24 rfl rfl rfl ?_; simp only [go_sem, Nat.reduceAdd, Nat.reduceLeDiff, Nat.reduceSub, Int.reduceToNat, reduceCtorEq]; refine AE.order [24, 23, 22, 21, 0] rfl ?_; simp only [go_sem, Nat.reduceAdd, Nat.reduceLeDiff, Nat.reduceSub, Int.reduceToNat, reduceCtorEq]; exact AE.meet () trivial (by repeat (first | exact Sub.nil _ | refine Sub.cons rfl ?_)) rfl
    · simp only [go_sem, Nat.reduceAdd, Nat.reduceLeDiff, Nat.reduceSub, Int.reduceToNat, reduceCtorEq]; refine AE.rename 1 21 rfl rfl rfl ?_; simp only [go_sem, Nat.reduceAdd, Nat.reduceLeDiff, Nat.reduceSub, Int.reduceToNat, reduceCtorEq]; refine AE.rename 2 22 rfl rfl rfl ?_; simp only [go_sem, Nat.reduceAdd, Nat.reduceLeDiff, Nat.reduceSub, Int.reduceToNat, reduceCtorEq]; refine AE.rename 7 23 rfl rfl rfl ?_; simp only [go_sem, Nat.reduceAdd, Nat.reduceLeDiff, Nat.reduceSub, Int.reduceToNat, reduceCtorEq]; refine AE.rename 12 24 rfl rfl rfl ?_; simp only [go_sem, Nat.reduceAdd, Nat.reduceLeDiff, Nat.reduceSub, Int.reduceToNat, reduceCtorEq]; refine AE.order [24, 23, 22, 21, 0] rfl ?_; simp only [go_sem, Nat.reduceAdd, Nat.reduceLeDiff, Nat.reduceSub, Int.reduceToNat, reduceCtorEq]; exact AE.meet () trivial (by repeat (first | exact Sub.nil _ | refine Sub.cons rfl ?_)) rfl
    · simp only [go_sem, Nat.reduceAdd, Nat.reduceLeDiff, Nat.reduceSub, Int.reduceToNat, reduceCtorEq]; refine AE.rename 12 21 rfl rfl rfl ?_; simp only [go_sem, Nat.reduceAdd, Nat.reduceLeDiff, Nat.reduceSub, Int.reduceToNat, reduceCtorEq]; refine AE.rename 1 22 rfl rfl rfl ?_; simp only [go_sem, Nat.reduceAdd, Nat.reduceLeDiff, Nat.reduceSub, Int.reduceToNat, reduceCtorEq]; refine AE.rename 6 23 rfl rfl rfl ?_; simp only [go_sem, Nat.reduceAdd, Nat.reduceLeDiff, Nat.reduceSub, Int.reduceToNat, reduceCtorEq]; refine AE.rename 11 24 rfl rfl rfl ?_; simp only [go_sem, Nat.reduceAdd, Nat.reduceLeDiff, Nat.reduceSub, Int.reduceToNat, reduceCtorEq]; refine AE.order [24, 23, 22, 21, 0] rfl ?_; simp only [go_sem, Nat.reduceAdd, Nat.reduceLeDiff, Nat.reduceSub, Int.reduceToNat, reduceCtorEq]; exact AE.meet () trivial (by repeat (first | exact Sub.nil _ | refine Sub.cons rfl ?_)) rfl
    · simp only [go_sem, Nat.reduceAdd, Nat.reduceLeDiff, Nat.reduceSub, Int.reduceToNat, reduceCtorEq]; refine AE.rename 7 21 rfl rfl rfl ?_; simp only [go_sem, Nat.reduceAdd, Nat.reduceLeDiff, Nat.reduceSub, Int.reduceToNat, reduceCtorEq]; refine AE.rename 1 22 rfl rfl rfl ?_; simp only [go_sem, Nat.reduceAdd, Nat.reduceLeDiff, Nat.reduceSub, Int.reduceToNat, reduceCtorEq]; refine AE.rename 6 23 rfl rfl rfl ?_; simp only [go_sem, Nat.reduceAdd, Nat.reduceLeDiff, Nat.reduceSub, Int.reduceToNat, reduceCtorEq]; refine AE.rename 12 24 rfl rfl rfl ?_; simp only [go_sem, Nat.reduceAdd, Nat.reduceLeDiff, Nat.reduceSub, Int.reduceToNat, reduceCtorEq]; refine AE.order [24, 23, 22, 21, 0] rfl ?_; simp only [go_sem, Nat.reduceAdd, Nat.reduceLeDiff, Nat.reduceSub, Int.reduceToNat, reduceCtorEq]; exact AE.meet () trivial (by repeat (first | exact Sub.nil _ | refine Sub.cons rfl ?_)) rfl
    · simp only [go_sem, Nat.reduceAdd, Nat.reduceLeDiff, Nat.reduceSub, Int.reduceToNat, reduceCtorEq]; refine AE.rename 2 21 rfl rfl rfl ?_; simp only [go_sem, Nat.reduceAdd, Nat.reduceLeDiff, Nat.reduceSub, Int.reduceToNat, reduceCtorEq]; refine AE.rename 1 22 rfl rfl rfl ?_; simp only [go_sem, Nat.reduceAdd, Nat.reduceLeDiff, Nat.reduceSub, Int.reduceToNat, reduceCtorEq]; refine AE.rename 7 23 rfl rfl rfl ?_; simp only [go_sem, Nat.reduceAdd, Nat.reduceLeDiff, Nat.reduceSub, Int.reduceToNat, reduceCtorEq]; refine AE.rename 12 24 rfl rfl rfl ?_; simp only [go_sem, Nat.reduceAdd, Nat.reduceLeDiff, Nat.reduceSub, Int.reduceToNat, reduceCtorEq]; refine AE.order [24, 23, 22, 21, 0] rfl ?_; simp only [go_sem, Nat.reduceAdd, Nat.reduceLeDiff, Nat.reduceSub, Int.reduceToNat, reduceCtorEq]; exact AE.meet () trivial (by repeat (first | exact Sub.nil _ | refine Sub.cons rfl ?_)) rfl
  · repeat (first | refine xA ?_ | refine xB ?_ | refine xC ?_ | refine xE ?_ | refine xD ?_ | refine xK ?_ | refine xS ?_ | refine xM ?_ | refine xT ?_ | refine xF ?_ | ((first | refine xR ?_ | refine xW ?_ | refine vq_id ?_); simp only [go_sem, Nat.reduceAdd, Nat.reduceLeDiff, Nat.reduceSub, Int.reduceToNat, reduceCtorEq]) | (refine ⟨by first | omega | (intros; simp_all; done) | (intros; simp_all; omega), ?_⟩; try simp only [go_sem, Nat.reduceAdd, Nat.reduceLeDiff, Nat.reduceSub, Int.reduceToNat, reduceCtorEq]))
    refine AP.drawE 6 (Tree.node [] [0, 2] [1] [Tree.node [2] [3] [4] [Tree.node [] [5] [] []]]) (by kernel_rfl) rfl (by kernel_rfl) (by kernel_rfl) ?_
    refine vd_node ?_
    simp only [go_sem, Nat.reduceAdd, Nat.reduceLeDiff, Nat.reduceSub, Int.reduceToNat, reduceCtorEq]
    refine AQ.callv (by kernel_rfl) rfl rfl rfl hco fun r' H' ⟨e1, e2⟩ => ?_
    subst e1; subst e2
    simp only [go_sem, Nat.reduceAdd, Nat.reduceLeDiff, Nat.reduceSub, Int.reduceToNat, reduceCtorEq]
    refine AQ.nx rfl ?_
    simp only [go_sem, Nat.reduceAdd, Nat.reduceLeDiff, Nat.reduceSub, Int.reduceToNat, reduceCtorEq]
    refine AQ.go (by kernel_rfl) ?_
    simp only [go_sem, Nat.reduceAdd, Nat.reduceLeDiff, Nat.reduceSub, Int.reduceToNat, reduceCtorEq]
    refine AQ.nx rfl ?_
    simp only [go_sem, Nat.reduceAdd, Nat.reduceLeDiff, Nat.reduceSub, Int.reduceToNat, reduceCtorEq]
    refine AQ.done ?_
    simp only [go_sem, Nat.reduceAdd, Nat.reduceLeDiff, Nat.reduceSub, Int.reduceToNat, reduceCtorEq]
    refine AE.seq ?_
    refine AP.seq rfl ?_
    refine AP.cut (α := Sc × Nat) (fun x => [(2, .im (.v (.pointer none))), (3, Iv 0), (4, .ob 0 0), (9, .ob 28 0)]) (fun x => [(28, .var 93 [.im (.sl 1 (blkR d.B)), .os 27 2 0 d.W.length, Iv x.2, .os 25 1 0 x.1.recs.length, Iv x.1.used, I2 x.1.first, I2 x.1.last, I2 0]), (27, .vec 97 2 (wrR d.W)), (25, .vec 9 1 (blkR x.1.recs)), (0, .var 28 [.im (.sl 1 (blkR S)), .im (.v (.slice none 0 0))])]) (fun x => Sel a b x.1 x.2) ?_ fun ⟨c, h⟩ hsel => ?_
    · have lz : ∀ l : List Bs, l = [] → ((l.length : Int) == 0) = true := fun l h => by subst h; rfl
      have ln : ∀ l : List Bs, l ≠ [] → ((l.length : Int) == 0) = false := fun l h => by
        have := List.length_pos_iff.2 h
        simp only [beq_eq_false_iff_ne, ne_eq]; omega
      have gz : ∀ l : List Bs, l = [] → decide ((0 : Int) < (l.length : Int)) = false := fun l h => by subst h; rfl
      have gn : ∀ l : List Bs, l ≠ [] → decide ((0 : Int) < (l.length : Int)) = true := fun l h => by
        have := List.length_pos_iff.2 h
        simp only [decide_eq_true_eq]; omega
      by_cases ha0 : a.recs = []
      · have e1 := lz _ ha0
        by_cases hb0 : b.recs = []
        · have e2 := lz _ hb0
          repeat (first | refine xA ?_ | refine xB ?_ | refine xC ?_ | refine xE ?_ | refine xD ?_ | refine xK ?_ | refine xS ?_ | refine xM ?_ | refine xT ?_ | refine xF ?_ | ((first | refine xR ?_ | refine xW ?_ | refine vq_id ?_); simp only [go_sem, Nat.reduceAdd, Nat.reduceLeDiff, Nat.reduceSub, Int.reduceToNat, reduceCtorEq, blkR_len, e1, e2]) | (refine ⟨by first | omega | (intros; simp_all; done) | (intros; simp_all; omega), ?_⟩; try simp only [go_sem, Nat.reduceAdd, Nat.reduceLeDiff, Nat.reduceSub, Int.reduceToNat, reduceCtorEq, blkR_len, e1, e2]))
          refine AE.retD [28, 26, 27, 22, 21, 24, 23, 0] rfl ⟨rfl, rfl, trivial⟩ rfl ⟨fun _ => ⟨rfl, rfl⟩, fun c h hs => ?_⟩
          rcases hs with ⟨_, _, h3, _⟩ | ⟨_, _, h3, _⟩
          · exact absurd ha0 h3
          · exact absurd hb0 h3
        · have e2 := ln _ hb0
          repeat (first | refine xA ?_ | refine xB ?_ | refine xC ?_ | refine xE ?_ | refine xD ?_ | refine xK ?_ | refine xS ?_ | refine xM ?_ | refine xT ?_ | refine xF ?_ | ((first | refine xR ?_ | refine xW ?_ | refine vq_id ?_); simp only [go_sem, Nat.reduceAdd, Nat.reduceLeDiff, Nat.reduceSub, Int.reduceToNat, reduceCtorEq, blkR_len, e1, e2]) | (refine ⟨by first | omega | (intros; simp_all; done) | (intros; simp_all; omega), ?_⟩; try simp only [go_sem, Nat.reduceAdd, Nat.reduceLeDiff, Nat.reduceSub, Int.reduceToNat, reduceCtorEq, blkR_len, e1, e2]))
          refine AE.freeze 26 (el := 9) (es := 1) (rows := blkR d.B) rfl (by simp only [go_sem, Nat.reduceAdd, Nat.reduceLeDiff, Nat.reduceSub, Int.reduceToNat, reduceCtorEq, blkR_len]; first | done | trivial | omega | (simp; done) | (simp; omega)) (by simp only [go_sem, Nat.reduceAdd, Nat.reduceLeDiff, Nat.reduceSub, Int.reduceToNat, reduceCtorEq, blkR_len]; first | done | trivial | omega | (simp; done) | (simp; omega)) ?_; simp only [go_sem, Nat.reduceAdd, Nat.reduceLeDiff, Nat.reduceSub, Int.reduceToNat, reduceCtorEq, blkR_len]
          rw [take_all' (blkR d.B) _ (Nat.le_of_eq (blkR_len _))]
          refine AE.forgets [22, 21, 23] rfl ?_
          simp only [go_sem, Nat.reduceAdd, Nat.reduceLeDiff, Nat.reduceSub, Int.reduceToNat, reduceCtorEq]
          refine AE.rename 24 25 rfl rfl rfl ?_; simp only [go_sem, Nat.reduceAdd, Nat.reduceLeDiff, Nat.reduceSub, Int.reduceToNat, reduceCtorEq]
          refine AE.order [28, 27, 25, 0] rfl ?_
          simp only [go_sem, Nat.reduceAdd, Nat.reduceLeDiff, Nat.reduceSub, Int.reduceToNat, reduceCtorEq]
          exact AE.meet (b, 1) (.inr ⟨rfl, rfl, hb0, .inl ha0⟩) (by repeat (first | exact Sub.nil _ | refine Sub.cons rfl ?_)) rfl
      · have e1 := ln _ ha0
        by_cases hb0 : b.recs = []
        · have e2 := gz _ hb0
          have e3 := lz _ hb0
          repeat (first | refine xA ?_ | refine xB ?_ | refine xC ?_ | refine xE ?_ | refine xD ?_ | refine xK ?_ | refine xS ?_ | refine xM ?_ | refine xT ?_ | refine xF ?_ | ((first | refine xR ?_ | refine xW ?_ | refine vq_id ?_); simp only [go_sem, Nat.reduceAdd, Nat.reduceLeDiff, Nat.reduceSub, Int.reduceToNat, reduceCtorEq, blkR_len, e1, e2, e3]) | (refine ⟨by first | omega | (intros; simp_all; done) | (intros; simp_all; omega), ?_⟩; try simp only [go_sem, Nat.reduceAdd, Nat.reduceLeDiff, Nat.reduceSub, Int.reduceToNat, reduceCtorEq, blkR_len, e1, e2, e3]))
          refine AE.freeze 26 (el := 9) (es := 1) (rows := blkR d.B) rfl (by simp only [go_sem, Nat.reduceAdd, Nat.reduceLeDiff, Nat.reduceSub, Int.reduceToNat, reduceCtorEq, blkR_len]; first | done | trivial | omega | (simp; done) | (simp; omega)) (by simp only [go_sem, Nat.reduceAdd, Nat.reduceLeDiff, Nat.reduceSub, Int.reduceToNat, reduceCtorEq, blkR_len]; first | done | trivial | omega | (simp; done) | (simp; omega)) ?_; simp only [go_sem, Nat.reduceAdd, Nat.reduceLeDiff, Nat.reduceSub, Int.reduceToNat, reduceCtorEq, blkR_len]
          rw [take_all' (blkR d.B) _ (Nat.le_of_eq (blkR_len _))]
          refine AE.forgets [22, 21, 24] rfl ?_
          simp only [go_sem, Nat.reduceAdd, Nat.reduceLeDiff, Nat.reduceSub, Int.reduceToNat, reduceCtorEq]
          refine AE.rename 23 25 rfl rfl rfl ?_; simp only [go_sem, Nat.reduceAdd, Nat.reduceLeDiff, Nat.reduceSub, Int.reduceToNat, reduceCtorEq]
          refine AE.order [28, 27, 25, 0] rfl ?_
          simp only [go_sem, Nat.reduceAdd, Nat.reduceLeDiff, Nat.reduceSub, Int.reduceToNat, reduceCtorEq]
          exact AE.meet (a, 0) (.inl ⟨rfl, rfl, ha0, fun h => h.1 hb0⟩) (by repeat (first | exact Sub.nil _ | refine Sub.cons rfl ?_)) rfl
        · have e2 := gn _ hb0
          have e3 := ln _ hb0
          by_cases hf : a.first < b.first
          · have e4 : decide ((a.first : Int) < (b.first : Int)) = true := by simp only [decide_eq_true_eq]; omega
            repeat (first | refine xA ?_ | refine xB ?_ | refine xC ?_ | refine xE ?_ | refine xD ?_ | refine xK ?_ | refine xS ?_ | refine xM ?_ | refine xT ?_ | refine xF ?_ | ((first | refine xR ?_ | refine xW ?_ | refine vq_id ?_); simp only [go_sem, Nat.reduceAdd, Nat.reduceLeDiff, Nat.reduceSub, Int.reduceToNat, reduceCtorEq, blkR_len, e1, e2, e3, e4]) | (refine ⟨by first | omega | (intros; simp_all; done) | (intros; simp_all; omega), ?_⟩; try simp only [go_sem, Nat.reduceAdd, Nat.reduceLeDiff, Nat.reduceSub, Int.reduceToNat, reduceCtorEq, blkR_len, e1, e2, e3, e4]))
            refine AE.freeze 26 (el := 9) (es := 1) (rows := blkR d.B) rfl (by simp only [go_sem, Nat.reduceAdd, Nat.reduceLeDiff, Nat.reduceSub, Int.reduceToNat, reduceCtorEq, blkR_len]; first | done | trivial | omega | (simp; done) | (simp; omega)) (by simp only [go_sem, Nat.reduceAdd, Nat.reduceLeDiff, Nat.reduceSub, Int.reduceToNat, reduceCtorEq, blkR_len]; first | done | trivial | omega | (simp; done) | (simp; omega)) ?_; simp only [go_sem, Nat.reduceAdd, Nat.reduceLeDiff, Nat.reduceSub, Int.reduceToNat, reduceCtorEq, blkR_len]
            rw [take_all' (blkR d.B) _ (Nat.le_of_eq (blkR_len _))]
            refine AE.forgets [22, 21, 23] rfl ?_
            simp only [go_sem, Nat.reduceAdd, Nat.reduceLeDiff, Nat.reduceSub, Int.reduceToNat, reduceCtorEq]
            refine AE.rename 24 25 rfl rfl rfl ?_; simp only [go_sem, Nat.reduceAdd, Nat.reduceLeDiff, Nat.reduceSub, Int.reduceToNat, reduceCtorEq]
            refine AE.order [28, 27, 25, 0] rfl ?_
            simp only [go_sem, Nat.reduceAdd, Nat.reduceLeDiff, Nat.reduceSub, Int.reduceToNat, reduceCtorEq]
            exact AE.meet (b, 1) (.inr ⟨rfl, rfl, hb0, .inr hf⟩) (by repeat (first | exact Sub.nil _ | refine Sub.cons rfl ?_)) rfl
          · have e4 : decide ((a.first : Int) < (b.first : Int)) = false := by simp only [decide_eq_false_iff_not]; omega
            repeat (first | refine xA ?_ | refine xB ?_ | refine xC ?_ | refine xE ?_ | refine xD ?_ | refine xK ?_ | refine xS ?_ | refine xM ?_ | refine xT ?_ | refine xF ?_ | ((first | refine xR ?_ | refine xW ?_ | refine vq_id ?_); simp only [go_sem, Nat.reduceAdd, Nat.reduceLeDiff, Nat.reduceSub, Int.reduceToNat, reduceCtorEq, blkR_len, e1, e2, e3, e4]) | (refine ⟨by first | omega | (intros; simp_all; done) | (intros; simp_all; omega), ?_⟩; try simp only [go_sem, Nat.reduceAdd, Nat.reduceLeDiff, Nat.reduceSub, Int.reduceToNat, reduceCtorEq, blkR_len, e1, e2, e3, e4]))
            refine AE.freeze 26 (el := 9) (es := 1) (rows := blkR d.B) rfl (by simp only [go_sem, Nat.reduceAdd, Nat.reduceLeDiff, Nat.reduceSub, Int.reduceToNat, reduceCtorEq, blkR_len]; first | done | trivial | omega | (simp; done) | (simp; omega)) (by simp only [go_sem, Nat.reduceAdd, Nat.reduceLeDiff, Nat.reduceSub, Int.reduceToNat, reduceCtorEq, blkR_len]; first | done | trivial | omega | (simp; done) | (simp; omega)) ?_; simp only [go_sem, Nat.reduceAdd, Nat.reduceLeDiff, Nat.reduceSub, Int.reduceToNat, reduceCtorEq, blkR_len]
            rw [take_all' (blkR d.B) _ (Nat.le_of_eq (blkR_len _))]
            refine AE.forgets [22, 21, 24] rfl ?_
            simp only [go_sem, Nat.reduceAdd, Nat.reduceLeDiff, Nat.reduceSub, Int.reduceToNat, reduceCtorEq]
            refine AE.rename 23 25 rfl rfl rfl ?_; simp only [go_sem, Nat.reduceAdd, Nat.reduceLeDiff, Nat.reduceSub, Int.reduceToNat, reduceCtorEq]
            refine AE.order [28, 27, 25, 0] rfl ?_
            simp only [go_sem, Nat.reduceAdd, Nat.reduceLeDiff, Nat.reduceSub, Int.reduceToNat, reduceCtorEq]
            exact AE.meet (a, 0) (.inl ⟨rfl, rfl, ha0, fun h => hf h.2⟩) (by repeat (first | exact Sub.nil _ | refine Sub.cons rfl ?_)) rfl
    · simp only at hsel
      have hr : ∀ (r : AV) (H' : Heap), (H' = Jn.H ⟨d.B, d.W, h, c.recs, c.used, c.first, c.last, maxN S + 1⟩ 1 2 ∧ r = .tup [.ob 0 0, Iv 0]) → (a.recs = [] ∧ b.recs = [] → H' = [] ∧ r = .tup [.im (.v (.pointer none)), Iv 400]) ∧ (∀ (c : Sc) (h : Nat), Sel a b c h → H' = Jn.H ⟨d.B, d.W, h, c.recs, c.used, c.first, c.last, maxN S + 1⟩ 1 2 ∧ r = .tup [.ob 0 0, Iv 0]) := fun r H' hg => ⟨fun h0 => by
        rcases hsel with ⟨_, _, h3, _⟩ | ⟨_, _, h3, _⟩
        · exact absurd h0.1 h3
        · exact absurd h0.2 h3, fun c' h' hs' => by
        have : c' = c ∧ h' = h := by
          rcases hsel with ⟨h1, h2, h3, h4⟩ | ⟨h1, h2, h3, h4⟩ <;> rcases hs' with ⟨g1, g2, g3, g4⟩ | ⟨g1, g2, g3, g4⟩
          · exact ⟨by rw [h2, g2], by rw [h1, g1]⟩
          · exact absurd ⟨g3, g4.resolve_left h3⟩ h4
          · exact absurd ⟨h3, h4.resolve_left g3⟩ g4
          · exact ⟨by rw [h2, g2], by rw [h1, g1]⟩
        rw [this.1, this.2]; exact hg⟩
      refine AE.weaken (E' := [(2, .im (.v (.pointer none))), (3, Iv 0), (4, .ob 0 0), (9, .ob 28 0)]) ?_ (by repeat (first | exact Sub.nil _ | refine Sub.cons rfl ?_))
      obtain ⟨recs, used, first, last, hcc⟩ : ∃ r u f l, c.recs = r ∧ c.used = u ∧ c.first = f ∧ c.last = l := ⟨_, _, _, _, rfl, rfl, rfl, rfl⟩
      obtain ⟨q1, q2, q3, q4⟩ := hcc
      simp only [q1, q2, q3, q4]
      repeat (first | refine xA ?_ | refine xB ?_ | refine xC ?_ | refine xE ?_ | refine xD ?_ | refine xK ?_ | refine xS ?_ | refine xM ?_ | refine xT ?_ | refine xF ?_ | ((first | refine xR ?_ | refine xW ?_ | refine vq_id ?_); simp only [go_sem, Nat.reduceAdd, Nat.reduceLeDiff, Nat.reduceSub, Int.reduceToNat, reduceCtorEq, blkR_len]) | (refine ⟨by first | omega | (intros; simp_all; done) | (intros; simp_all; omega), ?_⟩; try simp only [go_sem, Nat.reduceAdd, Nat.reduceLeDiff, Nat.reduceSub, Int.reduceToNat, reduceCtorEq, blkR_len]))
      refine AP.loop rfl (α := Nat) (fun k => [(2, .im (.v (.pointer none))), (3, Iv 0), (4, .ob 0 0), (9, .ob 28 0), (74, .im (.sl 1 (blkR S))), (75, Iv S.length), (76, Iv k)]) (fun k => [(28, .var 93 [.im (.sl 1 (blkR d.B)), .os 27 2 0 d.W.length, Iv h, .os 25 1 0 recs.length, Iv used, I2 first, I2 last, I2 ((S.take k).foldl mx3 0 : Nat)]), (27, .vec 97 2 (wrR d.W)), (25, .vec 9 1 (blkR recs)), (0, .var 28 [.im (.sl 1 (blkR S)), .im (.v (.slice none 0 0))])]) (fun k => k ≤ S.length) (fun k => S.length - k) 0 (Nat.zero_le _) (by repeat (first | exact Sub.nil _ | refine Sub.cons rfl ?_)) rfl fun k hk => ?_
      repeat (first | refine xA ?_ | refine xB ?_ | refine xC ?_ | refine xE ?_ | refine xD ?_ | refine xK ?_ | refine xS ?_ | refine xM ?_ | refine xT ?_ | refine xF ?_ | ((first | refine xR ?_ | refine xW ?_ | refine vq_id ?_); simp only [go_sem, Nat.reduceAdd, Nat.reduceLeDiff, Nat.reduceSub, Int.reduceToNat, reduceCtorEq]) | (refine ⟨by first | omega | (intros; simp_all; done) | (intros; simp_all; omega), ?_⟩; try simp only [go_sem, Nat.reduceAdd, Nat.reduceLeDiff, Nat.reduceSub, Int.reduceToNat, reduceCtorEq]))
      refine AP.cond rfl rfl (fun hcnd => ?_) (fun hcnd => ?_)
      · have hk' : k < S.length := by simp at hcnd; omega
        have hg := blkR_get S k hk'
        obtain ⟨s, hs⟩ : ∃ s, S.getD k [] = s := ⟨_, rfl⟩
        have h32 : s.length = 32 := by
          rw [← hs, List.getD_eq_getElem?_getD, List.getElem?_eq_getElem hk', Option.getD_some]
          exact hS32 _ (List.getElem_mem hk')
        rw [hs] at hg
        repeat (first | refine xA ?_ | refine xB ?_ | refine xC ?_ | refine xE ?_ | refine xD ?_ | refine xK ?_ | refine xS ?_ | refine xM ?_ | refine xT ?_ | refine xF ?_ | ((first | refine xR ?_ | refine xW ?_ | refine vq_id ?_); simp only [go_sem, Nat.reduceAdd, Nat.reduceLeDiff, Nat.reduceSub, Int.reduceToNat, reduceCtorEq, hg, blkR_len]) | (refine ⟨by first | omega | (intros; simp_all; done) | (intros; simp_all; omega), ?_⟩; try simp only [go_sem, Nat.reduceAdd, Nat.reduceLeDiff, Nat.reduceSub, Int.reduceToNat, reduceCtorEq, hg, blkR_len]))
        refine AP.drawE 17 (Tree.node [] [0, 1, 2, 3, 4, 5, 6, 9, 10] [7, 11] [Tree.node [0, 1, 2, 3, 4, 9, 10] [] [8, 11] [Tree.node [0, 1, 2, 3, 4, 9, 10] [] [11] [Tree.node [0, 1, 2, 3, 4] [] [12] [Tree.node [0, 1, 2, 3, 4] [] [13] [Tree.node [0] [14, 15] [16] [Tree.node [] [] [] []]]]], Tree.node [0, 1, 2, 3, 4] [] [8] [Tree.node [0, 1, 2, 3, 4] [] [12] [Tree.node [0, 1, 2, 3, 4] [] [13] [Tree.node [0] [14, 15] [16] [Tree.node [] [] [] []]]]]], Tree.node [0, 1, 2, 3, 4, 5, 6] [] [7] [Tree.node [0, 1, 2, 3, 4] [] [8] [Tree.node [0, 1, 2, 3, 4] [] [12] [Tree.node [0, 1, 2, 3, 4] [] [13] [Tree.node [0] [14, 15] [16] [Tree.node [] [] [] []]]]]]]) (by kernel_rfl) rfl (by kernel_rfl) (by kernel_rfl) ?_
        refine vd_node ?_
        simp only [go_sem, Nat.reduceAdd, Nat.reduceLeDiff, Nat.reduceSub, Int.reduceToNat, reduceCtorEq, BA_size, BA_extract, h32]
        have hl1 : (s.take 4).length = 4 := by simp; omega
        have hl2 : ((s.drop 16).take 4).length = 4 := by simp; omega
        have hn1 := number4 (s.take 4) hl1
        have hn2 := number4 ((s.drop 16).take 4) hl2
        have hm : (S.take (k + 1)).foldl mx3 0 = mx3 ((S.take k).foldl mx3 0) s := by
          have : S[k] = s := by rw [← hs, List.getD_eq_getElem?_getD, List.getElem?_eq_getElem hk']; rfl
          rw [List.take_add_one, List.getElem?_eq_getElem hk', List.foldl_append, this]; rfl
        obtain ⟨m, hmm⟩ : ∃ m, (S.take k).foldl mx3 0 = m := ⟨_, rfl⟩
        rw [hmm] at hm ⊢
        have hm2 : mx3 m s = max (max m (n4 (s.take 4))) (n4 ((s.drop 16).take 4)) := rfl
        rw [hm2] at hm
        obtain ⟨n1, hn1'⟩ : ∃ m, n4 (s.take 4) = m := ⟨_, rfl⟩
        obtain ⟨n2, hn2'⟩ : ∃ m, n4 ((s.drop 16).take 4) = m := ⟨_, rfl⟩
        rw [hn1'] at hm hn1
        rw [hn2'] at hm hn2
        have hw := wr (x := (k : Int) + 1) (by omega)
        repeat' (first | with_reducible exact True.intro | with_reducible refine And.intro (by omega) ?_ | with_reducible refine And.intro ?_ ?_ | omega | (refine AQ.s2b (by kernel_rfl) rfl rfl rfl rfl ?_; simp only [go_sem, Nat.reduceAdd, Nat.reduceLeDiff, Nat.reduceSub, Int.reduceToNat, reduceCtorEq]) | (refine AQ.fn (by kernel_rfl) rfl rfl rfl (hn1) rfl ?_; simp only [go_sem, Nat.reduceAdd, Nat.reduceLeDiff, Nat.reduceSub, Int.reduceToNat, reduceCtorEq]) | (refine AQ.fn (by kernel_rfl) rfl rfl rfl (hn2) rfl ?_; simp only [go_sem, Nat.reduceAdd, Nat.reduceLeDiff, Nat.reduceSub, Int.reduceToNat, reduceCtorEq]) | (refine AQ.max3 (by kernel_rfl) rfl rfl rfl ?_; simp only [go_sem, Nat.reduceAdd, Nat.reduceLeDiff, Nat.reduceSub, Int.reduceToNat, reduceCtorEq]) | (refine AQ.nx rfl ?_; first | (refine And.intro ?_ ?_ <;> (try simp only [go_sem, Nat.reduceAdd, Nat.reduceLeDiff, Nat.reduceSub, Int.reduceToNat, reduceCtorEq, BA_size, BA_extract, h32])) | simp only [go_sem, Nat.reduceAdd, Nat.reduceLeDiff, Nat.reduceSub, Int.reduceToNat, reduceCtorEq, BA_size, BA_extract, h32]) | refine AQ.done ?_ | (refine AQ.go (by kernel_rfl) ?_; simp only [go_sem, Nat.reduceAdd, Nat.reduceLeDiff, Nat.reduceSub, Int.reduceToNat, reduceCtorEq, BA_size, BA_extract, h32]; (refine AQ.nx rfl ?_; first | (refine And.intro ?_ ?_ <;> (try simp only [go_sem, Nat.reduceAdd, Nat.reduceLeDiff, Nat.reduceSub, Int.reduceToNat, reduceCtorEq, BA_size, BA_extract, h32])) | simp only [go_sem, Nat.reduceAdd, Nat.reduceLeDiff, Nat.reduceSub, Int.reduceToNat, reduceCtorEq, BA_size, BA_extract, h32])))
        all_goals
          repeat (first | refine xA ?_ | refine xB ?_ | refine xC ?_ | refine xE ?_ | refine xD ?_ | refine xK ?_ | refine xS ?_ | refine xM ?_ | refine xT ?_ | refine xF ?_ | ((first | refine xR ?_ | refine xW ?_ | refine vq_id ?_); simp only [go_sem, Nat.reduceAdd, Nat.reduceLeDiff, Nat.reduceSub, Int.reduceToNat, reduceCtorEq, hw]) | (refine ⟨by first | omega | (intros; simp_all; done) | (intros; simp_all; omega), ?_⟩; try simp only [go_sem, Nat.reduceAdd, Nat.reduceLeDiff, Nat.reduceSub, Int.reduceToNat, reduceCtorEq, hw]))
          exact AE.round (k + 1) (by omega) (by omega) (by repeat (first | exact Sub.nil _ | refine Sub.cons rfl ?_)) (by rw [hm])
      · have hk' : k = S.length := by simp at hcnd; omega
        have hmx : S.foldl mx3 0 = maxN S := rfl
        rw [hk', List.take_length, hmx]
        have hmb := maxN_lt S
        have hw := wr (x := (maxN S : Int) + 1) (by omega)
        repeat (first | refine xA ?_ | refine xB ?_ | refine xC ?_ | refine xE ?_ | refine xD ?_ | refine xK ?_ | refine xS ?_ | refine xM ?_ | refine xT ?_ | refine xF ?_ | ((first | refine xR ?_ | refine xW ?_ | refine vq_id ?_); simp only [go_sem, Nat.reduceAdd, Nat.reduceLeDiff, Nat.reduceSub, Int.reduceToNat, reduceCtorEq, hw]) | (refine ⟨by first | omega | (intros; simp_all; done) | (intros; simp_all; omega), ?_⟩; try simp only [go_sem, Nat.reduceAdd, Nat.reduceLeDiff, Nat.reduceSub, Int.reduceToNat, reduceCtorEq, hw]))
        refine AE.forgets [0] rfl ?_
        simp only [go_sem, Nat.reduceAdd, Nat.reduceLeDiff, Nat.reduceSub, Int.reduceToNat, reduceCtorEq]
        refine AE.rename 28 0 rfl rfl rfl ?_; simp only [go_sem, Nat.reduceAdd, Nat.reduceLeDiff, Nat.reduceSub, Int.reduceToNat, reduceCtorEq]; refine AE.rename 27 1 rfl rfl rfl ?_; simp only [go_sem, Nat.reduceAdd, Nat.reduceLeDiff, Nat.reduceSub, Int.reduceToNat, reduceCtorEq]; refine AE.rename 25 2 rfl rfl rfl ?_; simp only [go_sem, Nat.reduceAdd, Nat.reduceLeDiff, Nat.reduceSub, Int.reduceToNat, reduceCtorEq]
        refine AE.order [2, 1, 0] rfl ?_
        simp only [go_sem, Nat.reduceAdd, Nat.reduceLeDiff, Nat.reduceSub, Int.reduceToNat, reduceCtorEq]
        refine AE.ret rfl ⟨rfl, rfl, trivial⟩ (hr _ _ ⟨?_, rfl⟩)
        rw [q1, q2, q3, q4]
        rfl
end Go.Proofs.Ytoafanbfminhcaa
end

section
namespace Go.Proofs.Ytoafanbfminhcaa
open Go Go.AL Go.RowKit
set_option maxRecDepth 10000
set_option maxHeartbeats 4000000
def fmtS (n : Nat) : List Bs := (newS n).set 0 (blockP 1 0 true [])
theorem newS_len (n : Nat) : (newS n).length = n := by simp [newS]
theorem format_ok (n : Nat) (hn : okN n = true) : PFn Try.prog 11 [Iv n] (.tup [Dk.v ⟨fmtS n, []⟩, Iv 0]) := by
  obtain ⟨h4, h2000, _⟩ := okN_le hn
  have hl := newS_len n
  have hset : (blkR (newS n)).set 0 (IV.v (Value.string (BA (blockP 1 0 true []))) :: List.drop 1 ((blkR (newS n)).getD 0 [])) = blkR (fmtS n) := by
    rw [blkR_get _ 0 (by omega)]; simp only [List.drop_succ_cons, List.drop_zero]; exact blkR_set _ _ _
  have hbl : (blkR (fmtS n)).length = n := by rw [blkR_len, fmtS, List.length_set, hl]
  refine ACall.walk [0, 2, 3, 4, 5, 12] [2, 4] Try.func11 rfl Try.ntmps11 (by kernel_rfl) (by rfl) rfl fun W own I0 φ0 => ?_
  repeat (first | refine xA ?_ | refine xB ?_ | refine xC ?_ | refine xE ?_ | refine xD ?_ | refine xK ?_ | refine xS ?_ | refine xM ?_ | refine xT ?_ | refine xF ?_ | ((first | refine xR ?_ | refine xW ?_ | refine vq_id ?_); simp only [go_sem, Nat.reduceAdd, Nat.reduceLeDiff, Nat.reduceSub, Int.reduceToNat, reduceCtorEq]) | (refine ⟨by first | omega | (intros; simp_all; done) | (intros; simp_all; omega), ?_⟩; try simp only [go_sem, Nat.reduceAdd, Nat.reduceLeDiff, Nat.reduceSub, Int.reduceToNat, reduceCtorEq]))
  refine AQ.callv (by kernel_rfl) rfl rfl rfl (newDisk_own n hn) fun r' H' ⟨e1, e2⟩ => ?_
  subst e1; subst e2
  simp only [go_sem, Nat.reduceAdd, Nat.reduceLeDiff, Nat.reduceSub, Int.reduceToNat, reduceCtorEq]
  repeat (first | refine xA ?_ | refine xB ?_ | refine xC ?_ | refine xE ?_ | refine xD ?_ | refine xK ?_ | refine xS ?_ | refine xM ?_ | refine xT ?_ | refine xF ?_ | ((first | refine xR ?_ | refine xW ?_ | refine vq_id ?_); simp only [go_sem, Nat.reduceAdd, Nat.reduceLeDiff, Nat.reduceSub, Int.reduceToNat, reduceCtorEq]) | (refine ⟨by first | omega | (intros; simp_all; done) | (intros; simp_all; omega), ?_⟩; try simp only [go_sem, Nat.reduceAdd, Nat.reduceLeDiff, Nat.reduceSub, Int.reduceToNat, reduceCtorEq]))
  refine AP.drawE 6 (Tree.node [] [0, 1, 2] [3] [Tree.node [0, 1] [4] [5] [Tree.node [] [] [] []]]) (by kernel_rfl) rfl (by kernel_rfl) (by kernel_rfl) ?_
  refine vd_node ?_
  simp only [go_sem, Nat.reduceAdd, Nat.reduceLeDiff, Nat.reduceSub, Int.reduceToNat, reduceCtorEq]
  refine AQ.fn (by kernel_rfl) rfl rfl rfl (bytes_spec 1 0 true [] (by decide) (by decide) (by decide)) rfl ?_
  simp only [go_sem, Nat.reduceAdd, Nat.reduceLeDiff, Nat.reduceSub, Int.reduceToNat, reduceCtorEq]
  refine AQ.nx rfl ?_
  simp only [go_sem, Nat.reduceAdd, Nat.reduceLeDiff, Nat.reduceSub, Int.reduceToNat, reduceCtorEq]
  repeat (with_reducible refine And.intro (by omega) ?_)
  refine AQ.go (by kernel_rfl) ?_
  simp only [go_sem, Nat.reduceAdd, Nat.reduceLeDiff, Nat.reduceSub, Int.reduceToNat, reduceCtorEq, hset]
  refine And.intro (by rw [blkR_len, hl]; omega) ?_
  refine AQ.nx rfl ?_
  simp only [go_sem, Nat.reduceAdd, Nat.reduceLeDiff, Nat.reduceSub, Int.reduceToNat, reduceCtorEq, hset]
  refine AQ.done ?_
  repeat (first | refine xA ?_ | refine xB ?_ | refine xC ?_ | refine xE ?_ | refine xD ?_ | refine xK ?_ | refine xS ?_ | refine xM ?_ | refine xT ?_ | refine xF ?_ | ((first | refine xR ?_ | refine xW ?_ | refine vq_id ?_); simp only [go_sem, Nat.reduceAdd, Nat.reduceLeDiff, Nat.reduceSub, Int.reduceToNat, reduceCtorEq, hbl]) | (refine ⟨by first | omega | (intros; simp_all; done) | (intros; simp_all; omega), ?_⟩; try simp only [go_sem, Nat.reduceAdd, Nat.reduceLeDiff, Nat.reduceSub, Int.reduceToNat, reduceCtorEq, hbl]))
  refine AE.freeze 2 (el := 9) (es := 1) (rows := blkR (fmtS n)) rfl (by simp only [go_sem, Nat.reduceAdd, Nat.reduceLeDiff, Nat.reduceSub, Int.reduceToNat, reduceCtorEq, hbl]; first | done | trivial | omega | (simp; done) | (simp; omega)) (by simp only [go_sem, Nat.reduceAdd, Nat.reduceLeDiff, Nat.reduceSub, Int.reduceToNat, reduceCtorEq, hbl]; first | done | trivial | omega | (simp; done) | (simp; omega)) ?_; simp only [go_sem, Nat.reduceAdd, Nat.reduceLeDiff, Nat.reduceSub, Int.reduceToNat, reduceCtorEq, hbl]
  rw [take_all' (blkR (fmtS n)) _ (Nat.le_of_eq hbl)]
  exact AE.ret0 rfl ⟨⟨rfl, Nat.le_of_ble_eq_true (by kernel_rfl)⟩, rfl, trivial⟩ rfl ⟨rfl, rfl⟩
end Go.Proofs.Ytoafanbfminhcaa
end

section
namespace Go.Proofs.Ytoafanbfminhcaa
open Go Go.AL Go.RowKit
set_option maxRecDepth 100000
set_option maxHeartbeats 4000000
def b0 : Bs := [1, 0, 0, 0, 0, 0, 0, 0, 128, 0, 0, 0, 0, 0, 0, 0, 1, 0, 0, 0, 0, 0, 0, 0, 0, 0, 0, 0, 0, 0, 0, 0]
def b1 : Bs := [2, 0, 0, 0, 1, 0, 0, 0, 129, 97, 0, 0, 0, 0, 0, 0, 2, 0, 0, 0, 0, 0, 0, 0, 0, 0, 0, 0, 0, 0, 0, 0]
def ex0 : Dk := ⟨[b0, z32, z32, z32], []⟩
theorem ex_fmt : (⟨fmtS 4, []⟩ : Dk) = ex0 := by kernel_rfl
theorem ex_ok : ex0.Ok := (ex0.chk_ok).1 (by kernel_rfl)
theorem ex_a : arA ex0.syncD.B = ⟨1, [], [[]], 1, 1, 1, false⟩ := by kernel_rfl
theorem ex_b : arB ex0.syncD.B = sc0 := by kernel_rfl
def exJ : Jn := ⟨[b0, z32, z32, z32], [], 0, [[]], 1, 1, 1, 2⟩
theorem ex_j : openJ ex0 ⟨1, [], [[]], 1, 1, 1, false⟩ 0 = exJ := by kernel_rfl
def exJ1 : Jn := ⟨[b0, z32, z32, z32], [(1, b1)], 0, [[], [97]], 2, 1, 2, 3⟩
theorem ex_j1 : exJ.wrote 0 1 1 [97] = exJ1 := by kernel_rfl
theorem ex_get : exJ1.D.getS 1 = b1 := by kernel_rfl
theorem ex_gete : exJ1.D.getE 1 = 0 := by kernel_rfl
theorem ex_sz : exJ.Sz := ⟨by decide, .inl rfl, by decide, by decide, by decide, by decide, by decide, by decide, by decide⟩
theorem awake_spec : PFn Try.prog 10 [] (Bv true) := by
  have hf := format_ok 4 (by decide)
  rw [ex_fmt] at hf
  have hop := open_walk ex0 ⟨by decide, by decide⟩ ex_ok
  rw [ex_a, ex_b] at hop
  have hop : ACall Try.prog 12 [ex0.v] [] (fun r H' => H' = exJ.H 1 2 ∧ r = .tup [.ob 0 0, Iv 0]) := hop.mono fun r H' h => by
    have := h.2 _ 0 (.inl ⟨rfl, rfl, by decide, by decide⟩)
    rw [ex_j] at this; exact this
  have hap := append_ok exJ 0 [97] ex_sz rfl (by kernel_rfl)
  rw [show exJ.used = 1 from rfl, show exJ.last = 1 from rfl, ex_j1] at hap
  have hdk := disk_own exJ1 ⟨by decide, by decide⟩
  have hgt := get_spec exJ1.D 1 ⟨by decide, by decide⟩
  rw [ex_get, ex_gete] at hgt
  have hrp := repeat_spec [0] 15 (by decide) (by decide)
  refine ACall.walk [0, 1, 2, 3, 4, 26, 38] [1] Try.func10 rfl Try.ntmps10 (by kernel_rfl) (by rfl) rfl fun W own I0 φ0 => ?_
  repeat (first | refine xA ?_ | refine xB ?_ | refine xC ?_ | refine xE ?_ | refine xD ?_ | refine xK ?_ | refine xS ?_ | refine xM ?_ | refine xT ?_ | refine xF ?_ | ((first | refine xR ?_ | refine xW ?_ | refine vq_id ?_); simp only [go_sem, Nat.reduceAdd, Nat.reduceLeDiff, Nat.reduceSub, Int.reduceToNat, reduceCtorEq]) | (refine ⟨by first | omega | (intros; simp_all; done) | (intros; simp_all; omega), ?_⟩; try simp only [go_sem, Nat.reduceAdd, Nat.reduceLeDiff, Nat.reduceSub, Int.reduceToNat, reduceCtorEq]))
  refine AQ.fn (by kernel_rfl) rfl rfl rfl (hf) rfl ?_
  repeat (first | refine xA ?_ | refine xB ?_ | refine xC ?_ | refine xE ?_ | refine xD ?_ | refine xK ?_ | refine xS ?_ | refine xM ?_ | refine xT ?_ | refine xF ?_ | ((first | refine xR ?_ | refine xW ?_ | refine vq_id ?_); simp only [go_sem, Nat.reduceAdd, Nat.reduceLeDiff, Nat.reduceSub, Int.reduceToNat, reduceCtorEq, Int.reduceBNe, blkR_len]) | (refine ⟨by first | omega | (intros; simp_all; done) | (intros; simp_all; omega), ?_⟩; try simp only [go_sem, Nat.reduceAdd, Nat.reduceLeDiff, Nat.reduceSub, Int.reduceToNat, reduceCtorEq, Int.reduceBNe, blkR_len]))
  have hL : (((ex0.B.length : Nat) : Int) != 4) = false := by decide
  have hG : (blkR ex0.B).getD 0 [] = [Si b0] := rfl
  refine AP.drawE 17 (Tree.node [] [0, 1, 2, 3, 4, 5, 6, 7, 8, 9, 10, 11, 12] [13] [Tree.node [9, 10, 11, 12] [14, 15, 16] [] []]) (by kernel_rfl) rfl (by kernel_rfl) (by kernel_rfl) ?_
  refine vd_node ?_
  simp only [go_sem, Nat.reduceAdd, Nat.reduceLeDiff, Nat.reduceSub, Int.reduceToNat, reduceCtorEq, Int.reduceBNe, blkR_len, hL, hG]
  refine And.intro (by decide) ?_
  refine AQ.guard_yes (by simp only [go_sem]) ?_
  refine AQ.fn (by kernel_rfl) rfl rfl rfl (hrp) rfl ?_
  simp only [go_sem, Nat.reduceAdd, Nat.reduceLeDiff, Nat.reduceSub, Int.reduceToNat, reduceCtorEq, Int.reduceBNe]
  refine AQ.nx rfl ?_
  simp only [go_sem, Nat.reduceAdd, Nat.reduceLeDiff, Nat.reduceSub, Int.reduceToNat, reduceCtorEq, Int.reduceBNe, blkR_len, hL, hG]
  refine And.intro (by decide) (And.intro (by decide) ?_)
  refine AQ.done ?_
  have hE : (b0 == 1 :: 0 :: 0 :: 0 :: 0 :: 0 :: 0 :: 0 :: 128 :: 0 :: 0 :: 0 :: 0 :: 0 :: 0 :: 0 :: 1 :: Lib.repeatL [0] 15) = true := by decide
  repeat (first | refine xA ?_ | refine xB ?_ | refine xC ?_ | refine xE ?_ | refine xD ?_ | refine xK ?_ | refine xS ?_ | refine xM ?_ | refine xT ?_ | refine xF ?_ | ((first | refine xR ?_ | refine xW ?_ | refine vq_id ?_); simp only [go_sem, Nat.reduceAdd, Nat.reduceLeDiff, Nat.reduceSub, Int.reduceToNat, reduceCtorEq, hE]) | (refine ⟨by first | omega | (intros; simp_all; done) | (intros; simp_all; omega), ?_⟩; try simp only [go_sem, Nat.reduceAdd, Nat.reduceLeDiff, Nat.reduceSub, Int.reduceToNat, reduceCtorEq, hE]))
  refine AQ.callv (by kernel_rfl) rfl rfl rfl hop fun r' H' ⟨e1, e2⟩ => ?_
  subst e1; subst e2
  simp only [go_sem, Nat.reduceAdd, Nat.reduceLeDiff, Nat.reduceSub, Int.reduceToNat, reduceCtorEq, Jn.H]
  repeat (first | refine xA ?_ | refine xB ?_ | refine xC ?_ | refine xE ?_ | refine xD ?_ | refine xK ?_ | refine xS ?_ | refine xM ?_ | refine xT ?_ | refine xF ?_ | ((first | refine xR ?_ | refine xW ?_ | refine vq_id ?_); simp only [go_sem, Nat.reduceAdd, Nat.reduceLeDiff, Nat.reduceSub, Int.reduceToNat, reduceCtorEq, Int.reduceBNe]) | (refine ⟨by first | omega | (intros; simp_all; done) | (intros; simp_all; omega), ?_⟩; try simp only [go_sem, Nat.reduceAdd, Nat.reduceLeDiff, Nat.reduceSub, Int.reduceToNat, reduceCtorEq, Int.reduceBNe]))
  refine AQ.guard_yes (by simp only [go_sem]) ?_
  refine AQ.callH [(2, 3), (1, 2), (0, 1)] (by kernel_rfl) rfl rfl rfl rfl rfl rfl (by exact ⟨rfl, rfl, rfl, trivial⟩) rfl hap ?_
  rintro r H1 ⟨rfl, rfl⟩
  refine ⟨rfl, ?_⟩
  simp only [go_sem, Nat.reduceAdd, Nat.reduceLeDiff, Nat.reduceSub, Int.reduceToNat, reduceCtorEq, Jn.H]
  repeat (first | refine xA ?_ | refine xB ?_ | refine xC ?_ | refine xE ?_ | refine xD ?_ | refine xK ?_ | refine xS ?_ | refine xM ?_ | refine xT ?_ | refine xF ?_ | ((first | refine xR ?_ | refine xW ?_ | refine vq_id ?_); simp only [go_sem, Nat.reduceAdd, Nat.reduceLeDiff, Nat.reduceSub, Int.reduceToNat, reduceCtorEq, Int.reduceBNe]) | (refine ⟨by first | omega | (intros; simp_all; done) | (intros; simp_all; omega), ?_⟩; try simp only [go_sem, Nat.reduceAdd, Nat.reduceLeDiff, Nat.reduceSub, Int.reduceToNat, reduceCtorEq, Int.reduceBNe]))
  refine AQ.callL ([.im (.pt exJ1.ic)]) (by kernel_rfl) rfl rfl rfl (by ((try simp only [List.nil_append, List.append_nil, List.map_cons, List.map_nil, AV.st, constAV]); repeat (first | with_reducible exact LentC.nil | with_reducible exact LentAs.nil | with_reducible refine LentC.cons ?_ ?_ | with_reducible refine LentAs.cons ?_ ?_ | with_reducible exact Lent.im _ | with_reducible exact LentA.im _ | with_reducible refine LentA.of ?_ | with_reducible refine LentA.agg ?_ | ((with_reducible apply Lent.osw); rfl; simp only [blkR_len, wrR_len, byteR_len, List.length_append, List.length_cons, List.length_nil]) | ((with_reducible apply Lent.ob0); rfl)))) (hdk) fun r1 H1 ⟨e1, e2⟩ => ?_; subst e1; subst e2; refine ⟨rfl, ⟨blkR_plain _, wrR_plain _, trivial⟩, ?_⟩
  simp only [go_sem, Nat.reduceAdd, Nat.reduceLeDiff, Nat.reduceSub, Int.reduceToNat, reduceCtorEq]
  refine AQ.go (by kernel_rfl) ?_
  simp only [go_sem, Nat.reduceAdd, Nat.reduceLeDiff, Nat.reduceSub, Int.reduceToNat, reduceCtorEq]
  refine AQ.fnL ([exJ1.D.v, Iv 1]) (by kernel_rfl) rfl rfl rfl (by ((try simp only [List.nil_append, List.append_nil, List.map_cons, List.map_nil, AV.st, constAV]); repeat (first | with_reducible exact LentC.nil | with_reducible exact LentAs.nil | with_reducible refine LentC.cons ?_ ?_ | with_reducible refine LentAs.cons ?_ ?_ | with_reducible exact Lent.im _ | with_reducible exact LentA.im _ | with_reducible refine LentA.of ?_ | with_reducible refine LentA.agg ?_ | ((with_reducible apply Lent.osw); rfl; simp only [blkR_len, wrR_len, byteR_len, List.length_append, List.length_cons, List.length_nil]) | ((with_reducible apply Lent.ob0); rfl)))) (hgt) rfl (fun _ => rfl) ?_
  simp only [go_sem, Nat.reduceAdd, Nat.reduceLeDiff, Nat.reduceSub, Int.reduceToNat, reduceCtorEq]
  repeat (first | refine xA ?_ | refine xB ?_ | refine xC ?_ | refine xE ?_ | refine xD ?_ | refine xK ?_ | refine xS ?_ | refine xM ?_ | refine xT ?_ | refine xF ?_ | ((first | refine xR ?_ | refine xW ?_ | refine vq_id ?_); simp only [go_sem, Nat.reduceAdd, Nat.reduceLeDiff, Nat.reduceSub, Int.reduceToNat, reduceCtorEq, BA_size]) | (refine ⟨by first | omega | (intros; simp_all; done) | (intros; simp_all; omega), ?_⟩; try simp only [go_sem, Nat.reduceAdd, Nat.reduceLeDiff, Nat.reduceSub, Int.reduceToNat, reduceCtorEq, BA_size]))
  exact AE.retD [1, 10, 11, 8, 7, 0] rfl ⟨rfl, trivial⟩ rfl ⟨rfl, rfl⟩
end Go.Proofs.Ytoafanbfminhcaa
end

section
namespace Go.Proofs.Ytoafanbfminhcaa
open Go Go.AL Go.RowKit
theorem zeros_fate (n i : Nat) (h : i < n) : fateAt (zerosI n) i = 0 := by
  unfold fateAt zerosI
  rw [if_pos (by simpa using h), List.getD_eq_getElem?_getD, List.getElem?_eq_getElem (by simpa using h), List.getElem_replicate]
  decide
theorem crash_last (n : Nat) : ∀ (W : List Wr) (i : Nat) (B : List Bs), i + W.length ≤ n → (∀ w ∈ W, 0 ≤ w.1 ∧ w.1 < B.length) → ∀ j, j < B.length → (crashB (zerosI n) W i B).getD j [] = lastW (j : Int) W (B.getD j [])
  | [], _, _, _, _, _, _ => rfl
  | w :: r, i, B, hn, hw, j, hj => by
    simp only [List.length_cons] at hn
    have h0 := hw w (by simp)
    obtain ⟨k, hk⟩ := Int.eq_ofNat_of_zero_le h0.1
    have hkl : k < B.length := by omega
    rw [crashB, zeros_fate n i (by omega), crash_last n r (i + 1) _ (by omega) (fun x hx => by rw [List.length_set]; exact hw x (by simp [hx])) j (by simpa using hj), lastW]
    congr 1
    rw [hk, Int.toNat_natCast, show crash1 (B.getD k []) w.2 0 = w.2 by simp [crash1], List.getD_eq_getElem?_getD, List.getElem?_set]
    by_cases hjk : k = j
    · subst hjk
      rw [if_pos rfl, if_pos hkl, if_pos rfl]; rfl
    · rw [if_neg hjk, if_neg (by omega), List.getD_eq_getElem?_getD]
theorem sync_eq (d : Dk) : d.syncD = d.syncR := by
  unfold Dk.syncD Dk.crashD Dk.syncR
  by_cases h : d.chk = 0
  · rw [if_pos h, if_pos h]
    have hok := (d.chk_ok).1 h
    congr 1
    refine List.ext_getElem (by rw [crashB_len, synB_len]) fun j h1 h2 => ?_
    rw [crashB_len] at h1
    have := crash_last d.W.length d.W 0 d.B (by omega) (fun w hw => (hok.r w hw).1) j h1
    rw [List.getD_eq_getElem?_getD, List.getElem?_eq_getElem (by rw [crashB_len]; exact h1)] at this
    simp only [Option.getD_some] at this
    rw [this]
    simp [Dk.synB]
  · rw [if_neg h, if_neg h]
theorem get_eq (d : Dk) (n : Int) : d.getS n = d.getRS n := by
  unfold Dk.getS Dk.getRS
  by_cases h : d.chk = 0 ∧ 0 ≤ n ∧ n < d.B.length
  · rw [if_pos h, if_pos h]
    obtain ⟨h0, h1, h2⟩ := h
    obtain ⟨j, rfl⟩ := Int.eq_ofNat_of_zero_le h1
    have hok := (d.chk_ok).1 h0
    rw [Int.toNat_natCast, Dk.syncD, Dk.crashD, if_pos h0]
    exact crash_last d.W.length d.W 0 d.B (by omega) (fun w hw => (hok.r w hw).1) j (by omega)
  · rw [if_neg h, if_neg h]
end Go.Proofs.Ytoafanbfminhcaa
end

section
namespace Go.Proofs.Ytoafanbfminhcaa
open Go Go.AL Go.RowKit
set_option maxRecDepth 10000
set_option maxHeartbeats 4000000
theorem newR_ok (n : Nat) (hn : okN n = true) : PFn Try.prog 24 [Iv n] (.tup [Dk.v ⟨newS n, []⟩, Iv 0]) := by
  have ht := tmod_odd n
  rw [permI_nat, hn] at ht
  obtain ⟨h4, h2000, _⟩ := okN_le hn
  have hz := zeros_spec 32 (by omega)
  rw [show List.replicate 32 (0 : UInt8) = z32 from rfl] at hz
  refine ACall.walk [0, 2, 3, 4, 5, 16, 21] [2, 4] Try.func24 rfl Try.ntmps24 (by kernel_rfl) (by rfl) rfl fun W own I0 φ0 => ?_
  repeat (first | refine xA ?_ | refine xB ?_ | refine xC ?_ | refine xE ?_ | refine xD ?_ | refine xK ?_ | refine xS ?_ | refine xM ?_ | refine xT ?_ | refine xF ?_ | ((first | refine xR ?_ | refine xW ?_ | refine vq_id ?_); simp only [go_sem, Nat.reduceAdd, Nat.reduceLeDiff, Nat.reduceSub, Int.reduceToNat, reduceCtorEq]) | (refine ⟨by first | omega | (intros; simp_all; done) | (intros; simp_all; omega), ?_⟩; try simp only [go_sem, Nat.reduceAdd, Nat.reduceLeDiff, Nat.reduceSub, Int.reduceToNat, reduceCtorEq]))
  refine AP.cond_false rfl (by simp only [go_sem, Nat.reduceAdd, Nat.reduceLeDiff, Nat.reduceSub, Int.reduceToNat, reduceCtorEq]; rw [ht]; rfl) ?_
  repeat (first | refine xA ?_ | refine xB ?_ | refine xC ?_ | refine xE ?_ | refine xD ?_ | refine xK ?_ | refine xS ?_ | refine xM ?_ | refine xT ?_ | refine xF ?_ | ((first | refine xR ?_ | refine xW ?_ | refine vq_id ?_); simp only [go_sem, Nat.reduceAdd, Nat.reduceLeDiff, Nat.reduceSub, Int.reduceToNat, reduceCtorEq]) | (refine ⟨by first | omega | (intros; simp_all; done) | (intros; simp_all; omega), ?_⟩; try simp only [go_sem, Nat.reduceAdd, Nat.reduceLeDiff, Nat.reduceSub, Int.reduceToNat, reduceCtorEq]))
  refine AP.ownCell 1 0 9 1 rfl rfl ?_
  simp only [go_sem, Nat.reduceAdd, Nat.reduceLeDiff, Nat.reduceSub, Int.reduceToNat, reduceCtorEq]
  refine AP.loop rfl (α := Nat) (fun k => [(0, Iv n), (2, .ob 0 0), (4, .ob 1 0), (5, Iv k)])
      (fun k => [(2, .vec 9 1 (blkR (newS k))), (1, .var 48 [.os 2 1 0 k, .im (.v (.slice none 0 0))]), (0, .var 48 [.im (.v (.slice none 0 0)), .im (.v (.slice none 0 0))])])
      (fun k => k ≤ n) (fun k => n - k) 0 (by omega) (by repeat (first | exact Sub.nil _ | refine Sub.cons rfl ?_)) rfl fun k hk => ?_
  have hw := wr (x := (k : Int) + 1) (by omega)
  have hj : (blkR (newS k)).length = k := by rw [blkR_len]; simp [newS]
  rcases Nat.eq_or_lt_of_le hk with he | hlt
  · repeat (first | refine xA ?_ | refine xB ?_ | refine xC ?_ | refine xE ?_ | refine xD ?_ | refine xK ?_ | refine xS ?_ | refine xM ?_ | refine xT ?_ | refine xF ?_ | ((first | refine xR ?_ | refine xW ?_ | refine vq_id ?_); simp only [go_sem, Nat.reduceAdd, Nat.reduceLeDiff, Nat.reduceSub, Int.reduceToNat, reduceCtorEq]) | (refine ⟨by first | omega | (intros; simp_all; done) | (intros; simp_all; omega), ?_⟩; try simp only [go_sem, Nat.reduceAdd, Nat.reduceLeDiff, Nat.reduceSub, Int.reduceToNat, reduceCtorEq]))
    refine AP.cond_false rfl (by simp only [go_sem, Nat.reduceAdd, Nat.reduceLeDiff, Nat.reduceSub, Int.reduceToNat, reduceCtorEq]; refine congrArg (fun b => some (AV.im (IV.v (Value.bool b)))) ?_; (first | (simp only [Bool.or_eq_true, Bool.and_eq_true, Bool.not_eq_true', Bool.not_eq_false', Bool.and_eq_false_iff, Bool.or_eq_false_iff, decide_eq_true_eq, decide_eq_false_iff_not, beq_iff_eq, bne_iff_ne, beq_eq_false_iff_ne, bne_eq_false_iff_eq, ne_eq]; omega) | (simp; done) | (simp; omega) | (simp_all; done) | (simp_all; omega))) ?_
    repeat (first | refine xA ?_ | refine xB ?_ | refine xC ?_ | refine xE ?_ | refine xD ?_ | refine xK ?_ | refine xS ?_ | refine xM ?_ | refine xT ?_ | refine xF ?_ | ((first | refine xR ?_ | refine xW ?_ | refine vq_id ?_); simp only [go_sem, Nat.reduceAdd, Nat.reduceLeDiff, Nat.reduceSub, Int.reduceToNat, reduceCtorEq]) | (refine ⟨by first | omega | (intros; simp_all; done) | (intros; simp_all; omega), ?_⟩; try simp only [go_sem, Nat.reduceAdd, Nat.reduceLeDiff, Nat.reduceSub, Int.reduceToNat, reduceCtorEq]))
    refine AE.cellsW 0 [.os 2 1 0 k, .im (.sl 2 [])] rfl (cellsLe.cons (cellsLe.nil (cellsLe.refl _))) ?_
    simp only [go_sem, Nat.reduceAdd, Nat.reduceLeDiff, Nat.reduceSub, Int.reduceToNat, reduceCtorEq]
    rw [he]
    have hbl : (blkR (newS n)).length = n := by rw [blkR_len]; simp [newS]
    refine AE.freeze 2 (el := 9) (es := 1) (rows := blkR (newS n)) rfl (by simp only [go_sem, Nat.reduceAdd, Nat.reduceLeDiff, Nat.reduceSub, Int.reduceToNat, reduceCtorEq, hbl]; first | done | trivial | omega | (simp; done) | (simp; omega)) (by simp only [go_sem, Nat.reduceAdd, Nat.reduceLeDiff, Nat.reduceSub, Int.reduceToNat, reduceCtorEq, hbl]; first | done | trivial | omega | (simp; done) | (simp; omega)) ?_; simp only [go_sem, Nat.reduceAdd, Nat.reduceLeDiff, Nat.reduceSub, Int.reduceToNat, reduceCtorEq, hbl]
    rw [take_all' (blkR (newS n)) _ (Nat.le_of_eq hbl)]
    exact AE.ret0 rfl ⟨⟨rfl, Nat.le_of_ble_eq_true (by kernel_rfl)⟩, rfl, trivial⟩ rfl ⟨rfl, rfl⟩
  · repeat (first | refine xA ?_ | refine xB ?_ | refine xC ?_ | refine xE ?_ | refine xD ?_ | refine xK ?_ | refine xS ?_ | refine xM ?_ | refine xT ?_ | refine xF ?_ | ((first | refine xR ?_ | refine xW ?_ | refine vq_id ?_); simp only [go_sem, Nat.reduceAdd, Nat.reduceLeDiff, Nat.reduceSub, Int.reduceToNat, reduceCtorEq]) | (refine ⟨by first | omega | (intros; simp_all; done) | (intros; simp_all; omega), ?_⟩; try simp only [go_sem, Nat.reduceAdd, Nat.reduceLeDiff, Nat.reduceSub, Int.reduceToNat, reduceCtorEq]))
    refine AP.cond_true rfl (by simp only [go_sem, Nat.reduceAdd, Nat.reduceLeDiff, Nat.reduceSub, Int.reduceToNat, reduceCtorEq]; refine congrArg (fun b => some (AV.im (IV.v (Value.bool b)))) ?_; (first | (simp only [Bool.or_eq_true, Bool.and_eq_true, Bool.not_eq_true', Bool.not_eq_false', Bool.and_eq_false_iff, Bool.or_eq_false_iff, decide_eq_true_eq, decide_eq_false_iff_not, beq_iff_eq, bne_iff_ne, beq_eq_false_iff_ne, bne_eq_false_iff_eq, ne_eq]; omega) | (simp; done) | (simp; omega) | (simp_all; done) | (simp_all; omega))) ?_
    refine xPP rfl ?_
    refine AP.drawE 7 (Tree.node [] [0, 1] [2] [Tree.node [0, 1] [] [3] [Tree.node [0, 1] [] [4] [Tree.node [] [5] [6] [Tree.node [] [] [] []]]]]) (by kernel_rfl) rfl (by kernel_rfl) (by kernel_rfl) ?_
    refine vd_node ?_
    simp only [go_sem, Nat.reduceAdd, Nat.reduceLeDiff, Nat.reduceSub, Int.reduceToNat, reduceCtorEq]
    repeat' (first | with_reducible exact True.intro | with_reducible refine And.intro (by omega) ?_ | with_reducible refine And.intro ?_ ?_ | (refine AQ.nx rfl ?_; simp only [go_sem, Nat.reduceAdd, Nat.reduceLeDiff, Nat.reduceSub, Int.reduceToNat, reduceCtorEq]) | (refine AQ.fn (by kernel_rfl) rfl rfl rfl (hz) rfl ?_; simp only [go_sem, Nat.reduceAdd, Nat.reduceLeDiff, Nat.reduceSub, Int.reduceToNat, reduceCtorEq]) | (refine AQ.kill 2 ?_; simp only [go_sem, Nat.reduceAdd, Nat.reduceLeDiff, Nat.reduceSub, Int.reduceToNat, reduceCtorEq]; refine AQ.append (hnb := rfl) (rows := blkR (newS k)) (es := 0) (by kernel_rfl) rfl rfl rfl (by rfl) Try.tk25 Try.sz9 (by show Option.map _ (zro Try.prog 9) = _; rw [Try.zr9]; rfl) Try.by9 hj.symm (by rw [hj]; simp only [List.length_cons, List.length_nil]; omega) (by rw [hj]; simp only [List.length_cons, List.length_nil]; omega) ?_; simp only [go_sem, Nat.reduceAdd, Nat.reduceLeDiff, Nat.reduceSub, Int.reduceToNat, reduceCtorEq]) | refine AQ.done ?_ | (refine AQ.go (by kernel_rfl) ?_; simp only [go_sem, Nat.reduceAdd, Nat.reduceLeDiff, Nat.reduceSub, Int.reduceToNat, reduceCtorEq]; repeat (with_reducible refine And.intro (by omega) ?_); refine AQ.nx rfl ?_; simp only [go_sem, Nat.reduceAdd, Nat.reduceLeDiff, Nat.reduceSub, Int.reduceToNat, reduceCtorEq]))
    have hsn : blkR (newS k) ++ [[Si z32]] = blkR (newS (k + 1)) := by rw [newS_succ, blkR, blkR, List.map_append]; rfl
    rw [hj, hsn]
    repeat (first | refine xA ?_ | refine xB ?_ | refine xC ?_ | refine xE ?_ | refine xD ?_ | refine xK ?_ | refine xS ?_ | refine xM ?_ | refine xT ?_ | refine xF ?_ | ((first | refine xR ?_ | refine xW ?_ | refine vq_id ?_); simp only [go_sem, Nat.reduceAdd, Nat.reduceLeDiff, Nat.reduceSub, Int.reduceToNat, reduceCtorEq, hw]) | (refine ⟨by first | omega | (intros; simp_all; done) | (intros; simp_all; omega), ?_⟩; try simp only [go_sem, Nat.reduceAdd, Nat.reduceLeDiff, Nat.reduceSub, Int.reduceToNat, reduceCtorEq, hw]))
    exact AE.round (k + 1) (by omega) (by omega) (by repeat (first | exact Sub.nil _ | refine Sub.cons rfl ?_)) rfl
abbrev Dk.ar (d : Dk) : AV := .ar [.sl 1 (blkR d.B), .sl 2 (wrR d.W)]
def newD (n : Int) : Dk := if permI n then ⟨newS n.toNat, []⟩ else nilD
def newE (n : Int) : Int := if permI n then 0 else 4
theorem permI_cast {n : Int} (h : permI n = true) : ∃ m : Nat, n = (m : Int) ∧ okN m = true := by
  have : 0 ≤ n := by simp only [permI, Bool.and_eq_true, decide_eq_true_eq] at h; omega
  obtain ⟨m, rfl⟩ := Int.eq_ofNat_of_zero_le this
  exact ⟨m, rfl, by rw [← permI_nat]; exact h⟩
theorem newD_spec (n : Int) : PFn Try.prog 23 [Iv n] (.tup [(newD n).v, Iv (newE n)]) := by
  unfold newD newE
  cases h : permI n with
  | false => exact newDisk_bad n h
  | true =>
    obtain ⟨m, rfl, hm⟩ := permI_cast h
    exact newDisk_ok m hm
theorem newR_spec (n : Int) : PFn Try.prog 24 [Iv n] (.tup [(newD n).v, Iv (newE n)]) := by
  unfold newD newE
  cases h : permI n with
  | false => exact newR_bad n h
  | true =>
    obtain ⟨m, rfl, hm⟩ := permI_cast h
    exact newR_ok m hm
theorem newD_sz (n : Int) : (newD n).Sz := by
  unfold newD
  cases h : permI n with
  | false => exact ⟨by simp, by simp⟩
  | true =>
    obtain ⟨m, rfl, hm⟩ := permI_cast h
    obtain ⟨_, h2, _⟩ := okN_le hm
    exact ⟨by simp [newS]; omega, by simp⟩
theorem crashD_sz (d : Dk) (F : List Int) (hd : d.Sz) : (d.crashD F).Sz := by
  unfold Dk.crashD
  split
  · exact ⟨by rw [crashB_len]; exact hd.b, by simp⟩
  · exact ⟨by simp, by simp⟩
theorem putD_sz (d : Dk) (n : Int) (s : Bs) (hd : d.Sz) : (d.putD n s).Sz := by
  unfold Dk.putD
  split
  · rename_i h
    refine ⟨hd.b, ?_⟩
    simp only [List.length_append, List.length_cons, List.length_nil]
    unfold Dk.putE at h
    split at h
    · omega
    split at h
    · cases h
    split at h
    · cases h
    split at h
    · cases h
    omega
  · exact ⟨by simp, by simp⟩
theorem same_self (a b : Dk) (ha : a.Sz) (h : a = b) : PFn Try.prog 25 [a.v, b.v] (Bv true) := by
  subst h
  have := same_spec a a ha ha
  simpa using this
theorem disks_few (d : Dk) (n : Int) (s : Bs) (F : List Int) (h : (fewD d && decide ((s.length : Int) ≤ 60) && decide ((F.length : Int) ≤ 80)) = false) (hb : d.B.length < 9223372036854775808) (hw : d.W.length < 9223372036854775808) : PFn Try.prog 4 [d.ar, Iv n, Sv s, Fv F] (Bv true) := by
  have hf := few_spec d hb hw
  have hB : (!fewD d || decide (60 < (s.length : Int)) || decide (80 < (F.length : Int))) = true := by
    cases hq : fewD d <;> simp [hq] at h ⊢
    omega
  refine ACall.walk [0, 1, 2, 3, 4, 8, 9, 10, 11, 12, 13, 14, 15, 16, 17, 30, 59, 104, 123] [9, 10, 12] Try.func4 rfl Try.ntmps4 (by kernel_rfl) (by rfl) rfl fun W own I0 φ0 => ?_
  repeat (first | refine xA ?_ | refine xB ?_ | refine xC ?_ | refine xE ?_ | refine xD ?_ | refine xK ?_ | refine xS ?_ | refine xM ?_ | refine xT ?_ | refine xF ?_ | ((first | refine xR ?_ | refine xW ?_ | refine vq_id ?_); simp only [go_sem, Nat.reduceAdd, Nat.reduceLeDiff, Nat.reduceSub, Int.reduceToNat, reduceCtorEq]) | (refine ⟨by first | omega | (intros; simp_all; done) | (intros; simp_all; omega), ?_⟩; try simp only [go_sem, Nat.reduceAdd, Nat.reduceLeDiff, Nat.reduceSub, Int.reduceToNat, reduceCtorEq]))
  refine AQ.fn (by kernel_rfl) rfl rfl rfl (hf) rfl ?_
  repeat (first | refine xA ?_ | refine xB ?_ | refine xC ?_ | refine xE ?_ | refine xD ?_ | refine xK ?_ | refine xS ?_ | refine xM ?_ | refine xT ?_ | refine xF ?_ | ((first | refine xR ?_ | refine xW ?_ | refine vq_id ?_); simp only [go_sem, Nat.reduceAdd, Nat.reduceLeDiff, Nat.reduceSub, Int.reduceToNat, reduceCtorEq, BA_size, intR_len, hB]) | (refine ⟨by first | omega | (intros; simp_all; done) | (intros; simp_all; omega), ?_⟩; try simp only [go_sem, Nat.reduceAdd, Nat.reduceLeDiff, Nat.reduceSub, Int.reduceToNat, reduceCtorEq, BA_size, intR_len, hB]))
  refine AQ.fn (by kernel_rfl) rfl rfl rfl (awake_spec) rfl ?_
  repeat (first | refine xA ?_ | refine xB ?_ | refine xC ?_ | refine xE ?_ | refine xD ?_ | refine xK ?_ | refine xS ?_ | refine xM ?_ | refine xT ?_ | refine xF ?_ | ((first | refine xR ?_ | refine xW ?_ | refine vq_id ?_); simp only [go_sem, Nat.reduceAdd, Nat.reduceLeDiff, Nat.reduceSub, Int.reduceToNat, reduceCtorEq]) | (refine ⟨by first | omega | (intros; simp_all; done) | (intros; simp_all; omega), ?_⟩; try simp only [go_sem, Nat.reduceAdd, Nat.reduceLeDiff, Nat.reduceSub, Int.reduceToNat, reduceCtorEq]))
  exact AE.ret0 rfl ⟨rfl, trivial⟩ rfl ⟨rfl, rfl⟩
theorem disks_go (d : Dk) (n : Int) (s : Bs) (F : List Int) (h : (fewD d && decide ((s.length : Int) ≤ 60) && decide ((F.length : Int) ≤ 80)) = true) (hd : d.Sz) : PFn Try.prog 4 [d.ar, Iv n, Sv s, Fv F] (Bv true) := by
  have hf := few_spec d (by have := hd.b; omega) (by have := hd.w; omega)
  have hB : (!fewD d || decide (60 < (s.length : Int)) || decide (80 < (F.length : Int))) = false := by
    cases hq : fewD d <;> simp [hq] at h ⊢
    omega
  have hF : F.length ≤ 1000000000 := by
    simp only [Bool.and_eq_true, decide_eq_true_eq] at h; omega
  have k1 := disk_spec d hd
  have k2 := newD_spec n
  have k3 := newR_spec n
  have k4 := same_self (newD n) (newD n) (newD_sz n) rfl
  have k5 := check_spec d hd
  have k6 := checkR_spec d hd
  have k7 := put_spec d n s hd
  have k8 := putR_spec d n s hd
  have k9 := same_self (d.putD n s) (d.putD n s) (putD_sz d n s hd) rfl
  have k10 := get_spec d n hd
  have k11 := getRR_spec d n hd
  rw [← get_eq] at k11
  have k12 := sync_spec d hd
  have k13 := syncR_spec d hd
  rw [← sync_eq] at k13
  have k14 := same_self d.syncD d.syncD (crashD_sz d _ hd) rfl
  have k15 := crash_spec d F hd hF
  have k16 := crashR_spec d F hd hF
  have k17 := same_self (d.crashD F) (d.crashD F) (crashD_sz d F hd) rfl
  have k18 := same_self d d hd rfl
  obtain ⟨N, hN⟩ : ∃ N, newD n = N := ⟨_, rfl⟩
  obtain ⟨Q, hQ⟩ : ∃ N, d.putD n s = N := ⟨_, rfl⟩
  obtain ⟨Y, hY⟩ : ∃ N, d.syncD = N := ⟨_, rfl⟩
  obtain ⟨C, hC⟩ : ∃ N, d.crashD F = N := ⟨_, rfl⟩
  rw [hN] at k2 k3 k4
  rw [hQ] at k7 k8 k9
  rw [hY] at k12 k13 k14
  rw [hC] at k15 k16 k17
  refine ACall.walk [0, 1, 2, 3, 4, 8, 9, 10, 11, 12, 13, 14, 15, 16, 17, 30, 59, 104, 123] [9, 10, 12] Try.func4 rfl Try.ntmps4 (by kernel_rfl) (by rfl) rfl fun W own I0 φ0 => ?_
  repeat (first | refine xA ?_ | refine xB ?_ | refine xC ?_ | refine xE ?_ | refine xD ?_ | refine xK ?_ | refine xS ?_ | refine xM ?_ | refine xT ?_ | refine xF ?_ | ((first | refine xR ?_ | refine xW ?_ | refine vq_id ?_); simp only [go_sem, Nat.reduceAdd, Nat.reduceLeDiff, Nat.reduceSub, Int.reduceToNat, reduceCtorEq]) | (refine ⟨by first | omega | (intros; simp_all; done) | (intros; simp_all; omega), ?_⟩; try simp only [go_sem, Nat.reduceAdd, Nat.reduceLeDiff, Nat.reduceSub, Int.reduceToNat, reduceCtorEq]))
  refine AQ.fn (by kernel_rfl) rfl rfl rfl (hf) rfl ?_
  repeat (first | refine xA ?_ | refine xB ?_ | refine xC ?_ | refine xE ?_ | refine xD ?_ | refine xK ?_ | refine xS ?_ | refine xM ?_ | refine xT ?_ | refine xF ?_ | ((first | refine xR ?_ | refine xW ?_ | refine vq_id ?_); simp only [go_sem, Nat.reduceAdd, Nat.reduceLeDiff, Nat.reduceSub, Int.reduceToNat, reduceCtorEq, BA_size, intR_len, hB]) | (refine ⟨by first | omega | (intros; simp_all; done) | (intros; simp_all; omega), ?_⟩; try simp only [go_sem, Nat.reduceAdd, Nat.reduceLeDiff, Nat.reduceSub, Int.reduceToNat, reduceCtorEq, BA_size, intR_len, hB]))
  refine AQ.fn (by kernel_rfl) rfl rfl rfl (k1) rfl ?_
  repeat (first | refine xA ?_ | refine xB ?_ | refine xC ?_ | refine xE ?_ | refine xD ?_ | refine xK ?_ | refine xS ?_ | refine xM ?_ | refine xT ?_ | refine xF ?_ | ((first | refine xR ?_ | refine xW ?_ | refine vq_id ?_); simp only [go_sem, Nat.reduceAdd, Nat.reduceLeDiff, Nat.reduceSub, Int.reduceToNat, reduceCtorEq]) | (refine ⟨by first | omega | (intros; simp_all; done) | (intros; simp_all; omega), ?_⟩; try simp only [go_sem, Nat.reduceAdd, Nat.reduceLeDiff, Nat.reduceSub, Int.reduceToNat, reduceCtorEq]))
  refine AQ.fn (by kernel_rfl) rfl rfl rfl (k2) rfl ?_
  repeat (first | refine xA ?_ | refine xB ?_ | refine xC ?_ | refine xE ?_ | refine xD ?_ | refine xK ?_ | refine xS ?_ | refine xM ?_ | refine xT ?_ | refine xF ?_ | ((first | refine xR ?_ | refine xW ?_ | refine vq_id ?_); simp only [go_sem, Nat.reduceAdd, Nat.reduceLeDiff, Nat.reduceSub, Int.reduceToNat, reduceCtorEq]) | (refine ⟨by first | omega | (intros; simp_all; done) | (intros; simp_all; omega), ?_⟩; try simp only [go_sem, Nat.reduceAdd, Nat.reduceLeDiff, Nat.reduceSub, Int.reduceToNat, reduceCtorEq]))
  refine AQ.fn (by kernel_rfl) rfl rfl rfl (k3) rfl ?_
  repeat (first | refine xA ?_ | refine xB ?_ | refine xC ?_ | refine xE ?_ | refine xD ?_ | refine xK ?_ | refine xS ?_ | refine xM ?_ | refine xT ?_ | refine xF ?_ | ((first | refine xR ?_ | refine xW ?_ | refine vq_id ?_); simp only [go_sem, Nat.reduceAdd, Nat.reduceLeDiff, Nat.reduceSub, Int.reduceToNat, reduceCtorEq]) | (refine ⟨by first | omega | (intros; simp_all; done) | (intros; simp_all; omega), ?_⟩; try simp only [go_sem, Nat.reduceAdd, Nat.reduceLeDiff, Nat.reduceSub, Int.reduceToNat, reduceCtorEq]))
  refine AP.drawE 16 (Tree.node [] [0, 1] [2] [Tree.node [] [3, 4, 5, 6, 7, 8, 9, 10, 12] [11] [Tree.node [12] [] [13] [Tree.node [] [14, 15] [] []]]]) (by kernel_rfl) rfl (by kernel_rfl) (by kernel_rfl) ?_
  refine vd_node ?_
  simp only [go_sem, Nat.reduceAdd, Nat.reduceLeDiff, Nat.reduceSub, Int.reduceToNat, reduceCtorEq]
  refine AQ.fn (by kernel_rfl) rfl rfl rfl (k4) rfl ?_
  simp only [go_sem, Nat.reduceAdd, Nat.reduceLeDiff, Nat.reduceSub, Int.reduceToNat, reduceCtorEq, bne_self_eq_false]
  refine AQ.nx rfl ?_
  simp only [go_sem, Nat.reduceAdd, Nat.reduceLeDiff, Nat.reduceSub, Int.reduceToNat, reduceCtorEq, bne_self_eq_false]
  repeat (with_reducible refine And.intro (by omega) ?_)
  refine AQ.guard_yes (by simp only [go_sem]) ?_
  refine AQ.fn (by kernel_rfl) rfl rfl rfl (k5) rfl ?_
  simp only [go_sem, Nat.reduceAdd, Nat.reduceLeDiff, Nat.reduceSub, Int.reduceToNat, reduceCtorEq, bne_self_eq_false]
  refine AQ.nx rfl ?_
  simp only [go_sem, Nat.reduceAdd, Nat.reduceLeDiff, Nat.reduceSub, Int.reduceToNat, reduceCtorEq, bne_self_eq_false]
  refine AQ.guard_yes (by simp only [go_sem]) ?_
  refine AQ.fn (by kernel_rfl) rfl rfl rfl (k6) rfl ?_
  simp only [go_sem, Nat.reduceAdd, Nat.reduceLeDiff, Nat.reduceSub, Int.reduceToNat, reduceCtorEq, bne_self_eq_false]
  refine AQ.nx rfl ?_
  simp only [go_sem, Nat.reduceAdd, Nat.reduceLeDiff, Nat.reduceSub, Int.reduceToNat, reduceCtorEq, bne_self_eq_false]
  repeat (with_reducible refine And.intro (by omega) ?_)
  refine AQ.done ?_
  repeat (first | refine xA ?_ | refine xB ?_ | refine xC ?_ | refine xE ?_ | refine xD ?_ | refine xK ?_ | refine xS ?_ | refine xM ?_ | refine xT ?_ | refine xF ?_ | ((first | refine xR ?_ | refine xW ?_ | refine vq_id ?_); simp only [go_sem, Nat.reduceAdd, Nat.reduceLeDiff, Nat.reduceSub, Int.reduceToNat, reduceCtorEq, bne_self_eq_false]) | (refine ⟨by first | omega | (intros; simp_all; done) | (intros; simp_all; omega), ?_⟩; try simp only [go_sem, Nat.reduceAdd, Nat.reduceLeDiff, Nat.reduceSub, Int.reduceToNat, reduceCtorEq, bne_self_eq_false]))
  refine AQ.fn (by kernel_rfl) rfl rfl rfl (k7) rfl ?_
  repeat (first | refine xA ?_ | refine xB ?_ | refine xC ?_ | refine xE ?_ | refine xD ?_ | refine xK ?_ | refine xS ?_ | refine xM ?_ | refine xT ?_ | refine xF ?_ | ((first | refine xR ?_ | refine xW ?_ | refine vq_id ?_); simp only [go_sem, Nat.reduceAdd, Nat.reduceLeDiff, Nat.reduceSub, Int.reduceToNat, reduceCtorEq]) | (refine ⟨by first | omega | (intros; simp_all; done) | (intros; simp_all; omega), ?_⟩; try simp only [go_sem, Nat.reduceAdd, Nat.reduceLeDiff, Nat.reduceSub, Int.reduceToNat, reduceCtorEq]))
  refine AQ.fn (by kernel_rfl) rfl rfl rfl (k8) rfl ?_
  repeat (first | refine xA ?_ | refine xB ?_ | refine xC ?_ | refine xE ?_ | refine xD ?_ | refine xK ?_ | refine xS ?_ | refine xM ?_ | refine xT ?_ | refine xF ?_ | ((first | refine xR ?_ | refine xW ?_ | refine vq_id ?_); simp only [go_sem, Nat.reduceAdd, Nat.reduceLeDiff, Nat.reduceSub, Int.reduceToNat, reduceCtorEq]) | (refine ⟨by first | omega | (intros; simp_all; done) | (intros; simp_all; omega), ?_⟩; try simp only [go_sem, Nat.reduceAdd, Nat.reduceLeDiff, Nat.reduceSub, Int.reduceToNat, reduceCtorEq]))
  refine AQ.fn (by kernel_rfl) rfl rfl rfl (k10) rfl ?_
  repeat (first | refine xA ?_ | refine xB ?_ | refine xC ?_ | refine xE ?_ | refine xD ?_ | refine xK ?_ | refine xS ?_ | refine xM ?_ | refine xT ?_ | refine xF ?_ | ((first | refine xR ?_ | refine xW ?_ | refine vq_id ?_); simp only [go_sem, Nat.reduceAdd, Nat.reduceLeDiff, Nat.reduceSub, Int.reduceToNat, reduceCtorEq]) | (refine ⟨by first | omega | (intros; simp_all; done) | (intros; simp_all; omega), ?_⟩; try simp only [go_sem, Nat.reduceAdd, Nat.reduceLeDiff, Nat.reduceSub, Int.reduceToNat, reduceCtorEq]))
  refine AQ.fn (by kernel_rfl) rfl rfl rfl (k11) rfl ?_
  repeat (first | refine xA ?_ | refine xB ?_ | refine xC ?_ | refine xE ?_ | refine xD ?_ | refine xK ?_ | refine xS ?_ | refine xM ?_ | refine xT ?_ | refine xF ?_ | ((first | refine xR ?_ | refine xW ?_ | refine vq_id ?_); simp only [go_sem, Nat.reduceAdd, Nat.reduceLeDiff, Nat.reduceSub, Int.reduceToNat, reduceCtorEq]) | (refine ⟨by first | omega | (intros; simp_all; done) | (intros; simp_all; omega), ?_⟩; try simp only [go_sem, Nat.reduceAdd, Nat.reduceLeDiff, Nat.reduceSub, Int.reduceToNat, reduceCtorEq]))
  refine AQ.fn (by kernel_rfl) rfl rfl rfl (k9) rfl ?_
  repeat (first | refine xA ?_ | refine xB ?_ | refine xC ?_ | refine xE ?_ | refine xD ?_ | refine xK ?_ | refine xS ?_ | refine xM ?_ | refine xT ?_ | refine xF ?_ | ((first | refine xR ?_ | refine xW ?_ | refine vq_id ?_); simp only [go_sem, Nat.reduceAdd, Nat.reduceLeDiff, Nat.reduceSub, Int.reduceToNat, reduceCtorEq, bne_self_eq_false, BA_toList, beq_self_eq_true]) | (refine ⟨by first | omega | (intros; simp_all; done) | (intros; simp_all; omega), ?_⟩; try simp only [go_sem, Nat.reduceAdd, Nat.reduceLeDiff, Nat.reduceSub, Int.reduceToNat, reduceCtorEq, bne_self_eq_false, BA_toList, beq_self_eq_true]))
  refine AQ.fn (by kernel_rfl) rfl rfl rfl (k12) rfl ?_
  repeat (first | refine xA ?_ | refine xB ?_ | refine xC ?_ | refine xE ?_ | refine xD ?_ | refine xK ?_ | refine xS ?_ | refine xM ?_ | refine xT ?_ | refine xF ?_ | ((first | refine xR ?_ | refine xW ?_ | refine vq_id ?_); simp only [go_sem, Nat.reduceAdd, Nat.reduceLeDiff, Nat.reduceSub, Int.reduceToNat, reduceCtorEq]) | (refine ⟨by first | omega | (intros; simp_all; done) | (intros; simp_all; omega), ?_⟩; try simp only [go_sem, Nat.reduceAdd, Nat.reduceLeDiff, Nat.reduceSub, Int.reduceToNat, reduceCtorEq]))
  refine AQ.fn (by kernel_rfl) rfl rfl rfl (k13) rfl ?_
  repeat (first | refine xA ?_ | refine xB ?_ | refine xC ?_ | refine xE ?_ | refine xD ?_ | refine xK ?_ | refine xS ?_ | refine xM ?_ | refine xT ?_ | refine xF ?_ | ((first | refine xR ?_ | refine xW ?_ | refine vq_id ?_); simp only [go_sem, Nat.reduceAdd, Nat.reduceLeDiff, Nat.reduceSub, Int.reduceToNat, reduceCtorEq]) | (refine ⟨by first | omega | (intros; simp_all; done) | (intros; simp_all; omega), ?_⟩; try simp only [go_sem, Nat.reduceAdd, Nat.reduceLeDiff, Nat.reduceSub, Int.reduceToNat, reduceCtorEq]))
  refine AQ.fn (by kernel_rfl) rfl rfl rfl (k14) rfl ?_
  repeat (first | refine xA ?_ | refine xB ?_ | refine xC ?_ | refine xE ?_ | refine xD ?_ | refine xK ?_ | refine xS ?_ | refine xM ?_ | refine xT ?_ | refine xF ?_ | ((first | refine xR ?_ | refine xW ?_ | refine vq_id ?_); simp only [go_sem, Nat.reduceAdd, Nat.reduceLeDiff, Nat.reduceSub, Int.reduceToNat, reduceCtorEq, bne_self_eq_false]) | (refine ⟨by first | omega | (intros; simp_all; done) | (intros; simp_all; omega), ?_⟩; try simp only [go_sem, Nat.reduceAdd, Nat.reduceLeDiff, Nat.reduceSub, Int.reduceToNat, reduceCtorEq, bne_self_eq_false]))
  refine AQ.fn (by kernel_rfl) rfl rfl rfl (k15) rfl ?_
  repeat (first | refine xA ?_ | refine xB ?_ | refine xC ?_ | refine xE ?_ | refine xD ?_ | refine xK ?_ | refine xS ?_ | refine xM ?_ | refine xT ?_ | refine xF ?_ | ((first | refine xR ?_ | refine xW ?_ | refine vq_id ?_); simp only [go_sem, Nat.reduceAdd, Nat.reduceLeDiff, Nat.reduceSub, Int.reduceToNat, reduceCtorEq]) | (refine ⟨by first | omega | (intros; simp_all; done) | (intros; simp_all; omega), ?_⟩; try simp only [go_sem, Nat.reduceAdd, Nat.reduceLeDiff, Nat.reduceSub, Int.reduceToNat, reduceCtorEq]))
  refine AQ.fn (by kernel_rfl) rfl rfl rfl (k16) rfl ?_
  repeat (first | refine xA ?_ | refine xB ?_ | refine xC ?_ | refine xE ?_ | refine xD ?_ | refine xK ?_ | refine xS ?_ | refine xM ?_ | refine xT ?_ | refine xF ?_ | ((first | refine xR ?_ | refine xW ?_ | refine vq_id ?_); simp only [go_sem, Nat.reduceAdd, Nat.reduceLeDiff, Nat.reduceSub, Int.reduceToNat, reduceCtorEq]) | (refine ⟨by first | omega | (intros; simp_all; done) | (intros; simp_all; omega), ?_⟩; try simp only [go_sem, Nat.reduceAdd, Nat.reduceLeDiff, Nat.reduceSub, Int.reduceToNat, reduceCtorEq]))
  refine AQ.fn (by kernel_rfl) rfl rfl rfl (k17) rfl ?_
  repeat (first | refine xA ?_ | refine xB ?_ | refine xC ?_ | refine xE ?_ | refine xD ?_ | refine xK ?_ | refine xS ?_ | refine xM ?_ | refine xT ?_ | refine xF ?_ | ((first | refine xR ?_ | refine xW ?_ | refine vq_id ?_); simp only [go_sem, Nat.reduceAdd, Nat.reduceLeDiff, Nat.reduceSub, Int.reduceToNat, reduceCtorEq, bne_self_eq_false, beq_self_eq_true]) | (refine ⟨by first | omega | (intros; simp_all; done) | (intros; simp_all; omega), ?_⟩; try simp only [go_sem, Nat.reduceAdd, Nat.reduceLeDiff, Nat.reduceSub, Int.reduceToNat, reduceCtorEq, bne_self_eq_false, beq_self_eq_true]))
  refine AQ.guard_yes (by simp only [go_sem]) ?_
  refine AQ.fn (by kernel_rfl) rfl rfl rfl (k18) rfl ?_
  repeat (first | refine xA ?_ | refine xB ?_ | refine xC ?_ | refine xE ?_ | refine xD ?_ | refine xK ?_ | refine xS ?_ | refine xM ?_ | refine xT ?_ | refine xF ?_ | ((first | refine xR ?_ | refine xW ?_ | refine vq_id ?_); simp only [go_sem, Nat.reduceAdd, Nat.reduceLeDiff, Nat.reduceSub, Int.reduceToNat, reduceCtorEq, bne_self_eq_false, beq_self_eq_true]) | (refine ⟨by first | omega | (intros; simp_all; done) | (intros; simp_all; omega), ?_⟩; try simp only [go_sem, Nat.reduceAdd, Nat.reduceLeDiff, Nat.reduceSub, Int.reduceToNat, reduceCtorEq, bne_self_eq_false, beq_self_eq_true]))
  refine AQ.guard_yes (by simp only [go_sem]) ?_
  refine AQ.fn (by kernel_rfl) rfl rfl rfl (awake_spec) rfl ?_
  repeat (first | refine xA ?_ | refine xB ?_ | refine xC ?_ | refine xE ?_ | refine xD ?_ | refine xK ?_ | refine xS ?_ | refine xM ?_ | refine xT ?_ | refine xF ?_ | ((first | refine xR ?_ | refine xW ?_ | refine vq_id ?_); simp only [go_sem, Nat.reduceAdd, Nat.reduceLeDiff, Nat.reduceSub, Int.reduceToNat, reduceCtorEq]) | (refine ⟨by first | omega | (intros; simp_all; done) | (intros; simp_all; omega), ?_⟩; try simp only [go_sem, Nat.reduceAdd, Nat.reduceLeDiff, Nat.reduceSub, Int.reduceToNat, reduceCtorEq]))
  exact AE.ret0 rfl ⟨rfl, trivial⟩ rfl ⟨rfl, rfl⟩
end Go.Proofs.Ytoafanbfminhcaa
end

section
namespace Go.Proofs.Ytoafanbfminhcaa
open Go Go.AL Go.RowKit
set_option maxRecDepth 100000
theorem strs_of {n : Nat} {xs : List IV} (h : Typed Try.prog n 25 xs) : ∃ l : List Bs, xs = [.sl 1 (blkR l)] ∧ l.length < 9223372036854775808 := by
  have hc : Try.prog.cellsOf 9 = 1 := by kernel_rfl
  obtain ⟨rows, m, rfl, hr, hrow⟩ := typed_slice Try.underlying25 h
  obtain ⟨l, rfl, _⟩ := rows_of (p := fun _ : Bs => True) (f := fun s => [Si s]) rows fun r hr => by
    obtain ⟨s, rfl, _⟩ := typed_str Try.underlying9 (hrow r hr)
    exact ⟨s.data.toList, congrArg (fun x => [IV.v (Value.string x)]) (BA_of s), trivial⟩
  refine ⟨l, by rw [hc]; rfl, ?_⟩
  rw [List.length_map] at hr
  unfold maxLen at hr
  omega
theorem wrs_of {n : Nat} {xs : List IV} (h : Typed Try.prog n 46 xs) : ∃ l : List Wr, xs = [.sl 2 (wrR l)] ∧ l.length < 9223372036854775808 := by
  have hc : Try.prog.cellsOf 101 = 2 := by kernel_rfl
  have hc3 : Try.prog.cellsOf 3 = 1 := by kernel_rfl
  have hc9 : Try.prog.cellsOf 9 = 1 := by kernel_rfl
  obtain ⟨rows, m, rfl, hr, hrow⟩ := typed_slice Try.underlying46 h
  obtain ⟨l, rfl, _⟩ := rows_of (p := fun _ : Wr => True) (f := fun w => [Ii w.1, Si w.2]) rows fun r hr => by
    obtain ⟨m', hlen, hf⟩ := typed_struct Try.underlying101 (hrow r hr)
    rw [hc] at hlen
    match r, hlen with
    | [a, b], _ =>
      have f0 := hf 0 _ rfl
      have f1 := hf 1 _ rfl
      simp only [hc3, hc9, List.drop_zero, List.take_succ_cons, List.take_zero, List.drop_succ_cons] at f0 f1
      obtain ⟨i0, e0, w0⟩ := typed_int Try.underlying3 f0
      obtain ⟨s, e1, _⟩ := typed_str Try.underlying9 f1
      cases e0; cases e1
      exact ⟨(i0, s.data.toList), congrArg (fun x => [IV.v (Value.int .i64 i0), IV.v (Value.string x)]) (BA_of s), trivial⟩
  refine ⟨l, by rw [hc]; rfl, ?_⟩
  rw [List.length_map] at hr
  unfold maxLen at hr
  omega
theorem ints_of {n : Nat} {xs : List IV} (h : Typed Try.prog n 36 xs) : ∃ l : List Int, xs = [.sl 1 (intR l)] ∧ l.length < 9223372036854775808 := by
  have hc : Try.prog.cellsOf 3 = 1 := by kernel_rfl
  obtain ⟨rows, m, rfl, hr, hrow⟩ := typed_slice Try.underlying36 h
  obtain ⟨l, rfl, _⟩ := rows_of (p := fun _ : Int => True) (f := fun i => [Ii i]) rows fun r hr => by
    obtain ⟨i, rfl, _⟩ := typed_int Try.underlying3 (hrow r hr)
    exact ⟨i, rfl, trivial⟩
  refine ⟨l, by rw [hc]; rfl, ?_⟩
  rw [List.length_map] at hr
  unfold maxLen at hr
  omega
theorem disk_of {n : Nat} {xs : List IV} (h : Typed Try.prog n 48 xs) : ∃ d : Dk, xs = [.sl 1 (blkR d.B), .sl 2 (wrR d.W)] ∧ d.B.length < 9223372036854775808 ∧ d.W.length < 9223372036854775808 := by
  have hc : Try.prog.cellsOf 48 = 2 := by kernel_rfl
  have hc25 : Try.prog.cellsOf 25 = 1 := by kernel_rfl
  have hc46 : Try.prog.cellsOf 46 = 1 := by kernel_rfl
  obtain ⟨m', hlen, hf⟩ := typed_struct Try.underlying48 h
  rw [hc] at hlen
  match xs, hlen with
  | [a, b], _ =>
    have f0 := hf 0 _ rfl
    have f1 := hf 1 _ rfl
    simp only [hc25, hc46, List.drop_zero, List.take_succ_cons, List.take_zero, List.drop_succ_cons] at f0 f1
    obtain ⟨B, e0, h0⟩ := strs_of f0
    obtain ⟨W, e1, h1⟩ := wrs_of f1
    cases e0; cases e1
    exact ⟨⟨B, W⟩, rfl, h0, h1⟩
theorem few_bounds {d : Dk} (h : fewD d = true) : d.Sz := by
  simp only [fewD, Bool.and_eq_true, decide_eq_true_eq] at h
  exact ⟨by omega, by omega⟩
theorem disks_walk (d : Dk) (n : Int) (s : Bs) (F : List Int) (hb : d.B.length < 9223372036854775808) (hw : d.W.length < 9223372036854775808) : PFn Try.prog 4 [d.ar, Iv n, Sv s, Fv F] (Bv true) := by
  cases h : (fewD d && decide ((s.length : Int) ≤ 60) && decide ((F.length : Int) ≤ 80)) with
  | false => exact disks_few d n s F h hb hw
  | true => exact disks_go d n s F h (few_bounds (by simp only [Bool.and_eq_true] at h; exact h.1.1))
end Go.Proofs.Ytoafanbfminhcaa
end
