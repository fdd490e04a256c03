import Derived.Test.YtoafanbfminhcaaW1
set_option linter.unusedSimpArgs false
set_option linter.unusedVariables false
set_option linter.unnecessarySimpa false
section
namespace Go.Proofs.Ytoafanbfminhcaa
open Go Go.AL Go.RowKit
set_option maxRecDepth 10000
set_option maxHeartbeats 4000000
def chainL : Nat → List Bs → List Pc
  | _, [] => []
  | k, s :: r => match readP s with
    | some p => if p.k = k then p :: chainL p.s r else []
    | none => []
structure Sc where
  n : Nat
  part : Bs
  recs : List Bs
  used : Nat
  first : Nat
  last : Nat
  w : Bool
def Sc.step (a : Sc) (p : Pc) : Sc :=
  if p.last then ⟨a.n + 1, [], a.recs ++ [a.part ++ p.t], a.n + 1, if a.n = 0 then p.s else a.first, p.s, false⟩
  else ⟨a.n + 1, a.part ++ p.t, a.recs, a.used, if a.n = 0 then p.s else a.first, a.last, true⟩
def sc0 : Sc := ⟨0, [], [], 0, 0, 0, false⟩
def scanS (B : List Bs) : Sc := (chainL 0 B).foldl Sc.step sc0
def Sc.bp (a : Sc) : AV := if a.w then .ob 2 0 else .im (.v (.pointer none))
noncomputable def scanH (B : List Bs) (q : Nat) (a : Sc) : Heap :=
  [(6, .lp q 35 .ready Try.f51 [0, 1, 0, 1, 1, 1, 1] [9] [(0, .im (.sl 1 (blkR B))), (2, .ob 0 0), (3, .ob 1 0), (4, .ob 2 0), (5, .ob 3 0)]), (5, .vec 5 1 (byteR a.part)), (4, .vec 9 1 (blkR a.recs)), (3, .var 3 [Iv a.n]), (2, .var 124 [a.bp, .os 5 1 0 a.part.length]), (1, .var 89 [.os 4 1 0 a.recs.length, Iv a.used, I2 a.first, I2 a.last]), (0, .var 89 [.im (.v (.slice none 0 0)), Iv 0, I2 0, I2 0])]
theorem chain_spec (B : List Bs) : PFn Try.prog 84 [.im (.sl 1 (blkR B))] (.fn 96 [] [.im (.pt [.sl 1 (blkR B)])]) := by
  refine ACall.walk [0, 1, 2] [] Try.func84 rfl Try.ntmps84 (by kernel_rfl) (by rfl) rfl fun W own I0 φ0 => ?_
  repeat (first | refine xA ?_ | refine xB ?_ | refine xC ?_ | refine xE ?_ | refine xD ?_ | refine xK ?_ | refine xS ?_ | refine xM ?_ | refine xT ?_ | refine xF ?_ | ((first | refine xR ?_ | refine xW ?_ | refine vq_id ?_); simp only [go_sem, Nat.reduceAdd, Nat.reduceLeDiff, Nat.reduceSub, Int.reduceToNat, reduceCtorEq]) | (refine ⟨by first | omega | (intros; simp_all; done) | (intros; simp_all; omega), ?_⟩; try simp only [go_sem, Nat.reduceAdd, Nat.reduceLeDiff, Nat.reduceSub, Int.reduceToNat, reduceCtorEq]))
  exact AE.ret rfl ⟨rfl, trivial⟩ ⟨rfl, rfl⟩
theorem bstr_spec' (l : List UInt8) (n : Nat) (hn : n = l.length) : ACall Try.prog 82 [.ob 0 0] [(0, .var 124 [.ob 0 0, .os 1 1 0 n]), (1, .vec 5 1 (byteR l))] (fun r H' => H' = [(0, .var 124 [.ob 0 0, .top])] ∧ r = Sv l) := by
  subst hn; exact bstr_spec l (.ob 0 0) (.inr rfl)
theorem scan_round (B : List Bs) (q : Nat) (a : Sc) (p : Pc) (hn : a.n ≤ 1000000) (hp : a.part.length + p.t.length ≤ 1000000000) (hr : a.recs.length ≤ 1000000) :
    YCallN Try.prog 4 q [p.v] (scanH B q a) (fun r H' => r = Bv true ∧ H' = scanH B q (a.step p)) := by
  obtain ⟨bp, hbp⟩ : ∃ bp, a.bp = bp := ⟨_, rfl⟩
  obtain ⟨bp', hbp', hbq⟩ : ∃ bp' : AV, (bp' = .im (.v (.pointer none)) ∨ bp' = .ob 0 0) ∧ ((bp = .im (.v (.pointer none)) ∧ bp' = .im (.v (.pointer none))) ∨ (bp = .ob 2 0 ∧ bp' = .ob 0 0)) := by
    rw [← hbp]; unfold Sc.bp
    cases a.w
    · exact ⟨_, .inl rfl, .inl ⟨rfl, rfl⟩⟩
    · exact ⟨_, .inr rfl, .inr ⟨rfl, rfl⟩⟩
  obtain ⟨n, part, recs, used, first, last, w⟩ := a
  obtain ⟨s, k, lst, t⟩ := p
  simp only at hn hp hr
  obtain ⟨F, hF⟩ : ∃ F, (if n = 0 then s else first) = F := ⟨_, rfl⟩
  have hstep : Sc.step ⟨n, part, recs, used, first, last, w⟩ ⟨s, k, lst, t⟩ = if lst then ⟨n + 1, [], recs ++ [part ++ t], n + 1, F, s, false⟩ else ⟨n + 1, part ++ t, recs, used, F, last, true⟩ := by rw [← hF]; rfl
  have hw := wr (x := (n : Int) + 1) (by omega)
  rw [hstep]
  obtain ⟨Z, hZ⟩ : ∃ Z, scanH B q (if lst then ⟨n + 1, [], recs ++ [part ++ t], n + 1, F, s, false⟩ else ⟨n + 1, part ++ t, recs, used, F, last, true⟩) = Z := ⟨_, rfl⟩
  rw [hZ]
  refine YCallN.walk (b := 6) [0, 2, 3, 4, 5, 6, 8, 9, 11, 21] [] rfl rfl rfl fun w own I0 φ0 => ?_
  simp only [go_sem, Nat.reduceAdd, Nat.reduceLeDiff, Nat.reduceSub, Int.reduceToNat, reduceCtorEq, zipP, scanH, hbp]
  repeat (first | refine xA ?_ | refine xB ?_ | refine xC ?_ | refine xE ?_ | refine xD ?_ | refine xK ?_ | refine xS ?_ | refine xM ?_ | refine xT ?_ | refine xF ?_ | ((first | refine xR ?_ | refine xW ?_ | refine vq_id ?_); simp only [go_sem, Nat.reduceAdd, Nat.reduceLeDiff, Nat.reduceSub, Int.reduceToNat, reduceCtorEq]) | (refine ⟨by first | omega | (intros; simp_all; done) | (intros; simp_all; omega), ?_⟩; try simp only [go_sem, Nat.reduceAdd, Nat.reduceLeDiff, Nat.reduceSub, Int.reduceToNat, reduceCtorEq]))
  refine AE.begin (b := 6) rfl rfl _ ?_
  simp only [go_sem, Nat.reduceAdd, Nat.reduceLeDiff, Nat.reduceSub, Int.reduceToNat, reduceCtorEq]
  repeat (first | refine xA ?_ | refine xB ?_ | refine xC ?_ | refine xE ?_ | refine xD ?_ | refine xK ?_ | refine xS ?_ | refine xM ?_ | refine xT ?_ | refine xF ?_ | ((first | refine xR ?_ | refine xW ?_ | refine vq_id ?_); simp only [go_sem, Nat.reduceAdd, Nat.reduceLeDiff, Nat.reduceSub, Int.reduceToNat, reduceCtorEq]) | (refine ⟨by first | omega | (intros; simp_all; done) | (intros; simp_all; omega), ?_⟩; try simp only [go_sem, Nat.reduceAdd, Nat.reduceLeDiff, Nat.reduceSub, Int.reduceToNat, reduceCtorEq]))
  refine AP.cut (α := Unit) (fun _ => [(0, .im (.sl 1 (blkR B))), (2, .ob 0 0), (3, .ob 1 0), (4, .ob 2 0), (5, .ob 3 0), (6, .ob 7 0)]) (fun _ => [(7, .var 86 [I2 s, I2 k, Bv lst, Sv t]), (6, .lp q 35 .busy Try.f51 [0, 1, 0, 1, 1, 1, 1] [9] [(0, .im (.sl 1 (blkR B))), (2, .ob 0 0), (3, .ob 1 0), (4, .ob 2 0), (5, .ob 3 0)]), (5, .vec 5 1 (byteR part)), (4, .vec 9 1 (blkR recs)), (3, .var 3 [Iv n]), (2, .var 124 [bp, .os 5 1 0 part.length]), (1, .var 89 [.os 4 1 0 recs.length, Iv used, I2 F, I2 last]), (0, .var 89 [.im (.v (.slice none 0 0)), Iv 0, I2 0, I2 0])]) (fun _ => True) ?_ fun _ _ => ?_
  · refine AP.cond rfl rfl (fun h0 => ?_) (fun h0 => ?_)
    · have : F = s := by rw [← hF, if_pos (by simpa using h0)]
      rw [this]
      repeat (first | refine xA ?_ | refine xB ?_ | refine xC ?_ | refine xE ?_ | refine xD ?_ | refine xK ?_ | refine xS ?_ | refine xM ?_ | refine xT ?_ | refine xF ?_ | ((first | refine xR ?_ | refine xW ?_ | refine vq_id ?_); simp only [go_sem, Nat.reduceAdd, Nat.reduceLeDiff, Nat.reduceSub, Int.reduceToNat, reduceCtorEq]) | (refine ⟨by first | omega | (intros; simp_all; done) | (intros; simp_all; omega), ?_⟩; try simp only [go_sem, Nat.reduceAdd, Nat.reduceLeDiff, Nat.reduceSub, Int.reduceToNat, reduceCtorEq]))
      exact AE.meet () trivial (by repeat (first | exact Sub.nil _ | refine Sub.cons rfl ?_)) rfl
    · have : F = first := by rw [← hF, if_neg (by simpa using h0)]
      rw [this]
      repeat (first | refine xA ?_ | refine xB ?_ | refine xC ?_ | refine xE ?_ | refine xD ?_ | refine xK ?_ | refine xS ?_ | refine xM ?_ | refine xT ?_ | refine xF ?_ | ((first | refine xR ?_ | refine xW ?_ | refine vq_id ?_); simp only [go_sem, Nat.reduceAdd, Nat.reduceLeDiff, Nat.reduceSub, Int.reduceToNat, reduceCtorEq]) | (refine ⟨by first | omega | (intros; simp_all; done) | (intros; simp_all; omega), ?_⟩; try simp only [go_sem, Nat.reduceAdd, Nat.reduceLeDiff, Nat.reduceSub, Int.reduceToNat, reduceCtorEq]))
      exact AE.meet () trivial (by repeat (first | exact Sub.nil _ | refine Sub.cons rfl ?_)) rfl
  · repeat (first | refine xA ?_ | refine xB ?_ | refine xC ?_ | refine xE ?_ | refine xD ?_ | refine xK ?_ | refine xS ?_ | refine xM ?_ | refine xT ?_ | refine xF ?_ | ((first | refine xR ?_ | refine xW ?_ | refine vq_id ?_); simp only [go_sem, Nat.reduceAdd, Nat.reduceLeDiff, Nat.reduceSub, Int.reduceToNat, reduceCtorEq, hw]) | (refine ⟨by first | omega | (intros; simp_all; done) | (intros; simp_all; omega), ?_⟩; try simp only [go_sem, Nat.reduceAdd, Nat.reduceLeDiff, Nat.reduceSub, Int.reduceToNat, reduceCtorEq, hw]))
    refine AQ.callH [(0, 2), (1, 5)] (by kernel_rfl) rfl rfl rfl rfl rfl rfl (by rcases hbq with ⟨rfl, rfl⟩ | ⟨rfl, rfl⟩ <;> exact ⟨rfl, rfl, trivial⟩) rfl (writeString_spec bp' hbp' part t _ rfl (by omega)) ?_
    rintro r H1 ⟨rfl, rfl⟩
    refine ⟨by rcases hbq with ⟨rfl, rfl⟩ | ⟨rfl, rfl⟩ <;> rfl, ?_⟩
    repeat (first | refine xA ?_ | refine xB ?_ | refine xC ?_ | refine xE ?_ | refine xD ?_ | refine xK ?_ | refine xS ?_ | refine xM ?_ | refine xT ?_ | refine xF ?_ | ((first | refine xR ?_ | refine xW ?_ | refine vq_id ?_); simp only [go_sem, Nat.reduceAdd, Nat.reduceLeDiff, Nat.reduceSub, Int.reduceToNat, reduceCtorEq]) | (refine ⟨by first | omega | (intros; simp_all; done) | (intros; simp_all; omega), ?_⟩; try simp only [go_sem, Nat.reduceAdd, Nat.reduceLeDiff, Nat.reduceSub, Int.reduceToNat, reduceCtorEq]))
    refine AP.rename 10 5 rfl rfl rfl ?_
    simp only [go_sem, Nat.reduceAdd, Nat.reduceLeDiff, Nat.reduceSub, Int.reduceToNat, reduceCtorEq]
    refine AP.cond rfl rfl (fun hl => ?_) (fun hl => ?_)
    · subst hl
      repeat (first | refine xA ?_ | refine xB ?_ | refine xC ?_ | refine xE ?_ | refine xD ?_ | refine xK ?_ | refine xS ?_ | refine xM ?_ | refine xT ?_ | refine xF ?_ | ((first | refine xR ?_ | refine xW ?_ | refine vq_id ?_); simp only [go_sem, Nat.reduceAdd, Nat.reduceLeDiff, Nat.reduceSub, Int.reduceToNat, reduceCtorEq]) | (refine ⟨by first | omega | (intros; simp_all; done) | (intros; simp_all; omega), ?_⟩; try simp only [go_sem, Nat.reduceAdd, Nat.reduceLeDiff, Nat.reduceSub, Int.reduceToNat, reduceCtorEq]))
      refine AP.drawE 7 (Tree.node [] [0, 1] [2] [Tree.node [0, 1] [] [3] [Tree.node [0, 1] [] [4] [Tree.node [] [5] [6] [Tree.node [] [] [] []]]]]) (by kernel_rfl) rfl (by kernel_rfl) (by kernel_rfl) ?_
      refine vd_node ?_
      simp only [go_sem, Nat.reduceAdd, Nat.reduceLeDiff, Nat.reduceSub, Int.reduceToNat, reduceCtorEq]
      refine AQ.callH [(0, 2), (1, 5)] (by kernel_rfl) rfl rfl rfl rfl rfl rfl (by exact ⟨rfl, rfl, trivial⟩) rfl (bstr_spec' (part ++ t) _ (by simp)) ?_
      rintro r H1 ⟨rfl, rfl⟩
      refine ⟨rfl, ?_⟩
      simp only [go_sem, Nat.reduceAdd, Nat.reduceLeDiff, Nat.reduceSub, Int.reduceToNat, reduceCtorEq]
      refine AQ.nx rfl ?_
      simp only [go_sem, Nat.reduceAdd, Nat.reduceLeDiff, Nat.reduceSub, Int.reduceToNat, reduceCtorEq]
      refine AQ.go (by kernel_rfl) ?_
      simp only [go_sem, Nat.reduceAdd, Nat.reduceLeDiff, Nat.reduceSub, Int.reduceToNat, reduceCtorEq]
      refine AQ.nx rfl ?_
      simp only [go_sem, Nat.reduceAdd, Nat.reduceLeDiff, Nat.reduceSub, Int.reduceToNat, reduceCtorEq]
      refine AQ.kill 4 ?_
      simp only [go_sem, Nat.reduceAdd, Nat.reduceLeDiff, Nat.reduceSub, Int.reduceToNat, reduceCtorEq]
      refine AQ.append (hnb := rfl) (rows := blkR recs) (es := 0) (by kernel_rfl) rfl rfl rfl (by rfl) Try.tk25 Try.sz9 (by show Option.map _ (zro Try.prog 9) = _; rw [Try.zr9]; rfl) Try.by9 (by first | rfl | (simp only [blkR_len, List.length_cons, List.length_nil]; done) | (simp only [blkR_len, List.length_cons, List.length_nil]; omega)) (by simp only [blkR_len, List.length_cons, List.length_nil]; omega) (by simp only [blkR_len, List.length_cons, List.length_nil]; omega) ?_
      simp only [go_sem, Nat.reduceAdd, Nat.reduceLeDiff, Nat.reduceSub, Int.reduceToNat, reduceCtorEq]
      refine AQ.nx rfl ?_
      simp only [go_sem, Nat.reduceAdd, Nat.reduceLeDiff, Nat.reduceSub, Int.reduceToNat, reduceCtorEq]
      refine AQ.go (by kernel_rfl) ?_
      simp only [go_sem, Nat.reduceAdd, Nat.reduceLeDiff, Nat.reduceSub, Int.reduceToNat, reduceCtorEq]
      refine AQ.nx rfl ?_
      simp only [go_sem, Nat.reduceAdd, Nat.reduceLeDiff, Nat.reduceSub, Int.reduceToNat, reduceCtorEq]
      refine AQ.done ?_
      repeat (first | refine xA ?_ | refine xB ?_ | refine xC ?_ | refine xE ?_ | refine xD ?_ | refine xK ?_ | refine xS ?_ | refine xM ?_ | refine xT ?_ | refine xF ?_ | ((first | refine xR ?_ | refine xW ?_ | refine vq_id ?_); simp only [go_sem, Nat.reduceAdd, Nat.reduceLeDiff, Nat.reduceSub, Int.reduceToNat, reduceCtorEq]) | (refine ⟨by first | omega | (intros; simp_all; done) | (intros; simp_all; omega), ?_⟩; try simp only [go_sem, Nat.reduceAdd, Nat.reduceLeDiff, Nat.reduceSub, Int.reduceToNat, reduceCtorEq]))
      refine AP.drawE 7 (Tree.node [] [0, 1, 2, 3] [4] [Tree.node [1, 2] [5] [6] [Tree.node [] [] [] []]]) (by kernel_rfl) rfl (by kernel_rfl) (by kernel_rfl) ?_
      refine vd_node ?_
      simp only [go_sem, Nat.reduceAdd, Nat.reduceLeDiff, Nat.reduceSub, Int.reduceToNat, reduceCtorEq]
      repeat' (first | with_reducible exact True.intro | with_reducible refine And.intro (by omega) ?_ | with_reducible refine And.intro ?_ ?_ | omega | refine AP.region rfl (by kernel_rfl) ?_ | (refine AQ.nx rfl ?_; first | (refine And.intro ?_ ?_ <;> (try simp only [go_sem, Nat.reduceAdd, Nat.reduceLeDiff, Nat.reduceSub, Int.reduceToNat, reduceCtorEq])) | simp only [go_sem, Nat.reduceAdd, Nat.reduceLeDiff, Nat.reduceSub, Int.reduceToNat, reduceCtorEq]) | refine AQ.done ?_ | (refine AQ.go (by kernel_rfl) ?_; simp only [go_sem, Nat.reduceAdd, Nat.reduceLeDiff, Nat.reduceSub, Int.reduceToNat, reduceCtorEq]; (refine AQ.nx rfl ?_; first | (refine And.intro ?_ ?_ <;> (try simp only [go_sem, Nat.reduceAdd, Nat.reduceLeDiff, Nat.reduceSub, Int.reduceToNat, reduceCtorEq])) | simp only [go_sem, Nat.reduceAdd, Nat.reduceLeDiff, Nat.reduceSub, Int.reduceToNat, reduceCtorEq])))
      repeat (first | refine xA ?_ | refine xB ?_ | refine xC ?_ | refine xE ?_ | refine xD ?_ | refine xK ?_ | refine xS ?_ | refine xM ?_ | refine xT ?_ | refine xF ?_ | ((first | refine xR ?_ | refine xW ?_ | refine vq_id ?_); simp only [go_sem, Nat.reduceAdd, Nat.reduceLeDiff, Nat.reduceSub, Int.reduceToNat, reduceCtorEq]) | (refine ⟨by first | omega | (intros; simp_all; done) | (intros; simp_all; omega), ?_⟩; try simp only [go_sem, Nat.reduceAdd, Nat.reduceLeDiff, Nat.reduceSub, Int.reduceToNat, reduceCtorEq]))
      refine AQ.callH [(0, 2)] (by kernel_rfl) rfl rfl rfl rfl rfl rfl (by exact ⟨rfl, trivial⟩) rfl (reset_spec (.ob 0 0) .top) ?_
      rintro r H1 ⟨rfl, rfl⟩
      refine ⟨rfl, ?_⟩
      repeat (first | refine xA ?_ | refine xB ?_ | refine xC ?_ | refine xE ?_ | refine xD ?_ | refine xK ?_ | refine xS ?_ | refine xM ?_ | refine xT ?_ | refine xF ?_ | ((first | refine xR ?_ | refine xW ?_ | refine vq_id ?_); simp only [go_sem, Nat.reduceAdd, Nat.reduceLeDiff, Nat.reduceSub, Int.reduceToNat, reduceCtorEq]) | (refine ⟨by first | omega | (intros; simp_all; done) | (intros; simp_all; omega), ?_⟩; try simp only [go_sem, Nat.reduceAdd, Nat.reduceLeDiff, Nat.reduceSub, Int.reduceToNat, reduceCtorEq]))
      refine AE.ownCell 2 1 5 1 rfl rfl ?_
      simp only [go_sem, Nat.reduceAdd, Nat.reduceLeDiff, Nat.reduceSub, Int.reduceToNat, reduceCtorEq]
      refine AE.forgets [7] rfl ?_
      simp only [go_sem, Nat.reduceAdd, Nat.reduceLeDiff, Nat.reduceSub, Int.reduceToNat, reduceCtorEq]
      refine AE.rename 8 5 rfl rfl rfl ?_
      simp only [go_sem, Nat.reduceAdd, Nat.reduceLeDiff, Nat.reduceSub, Int.reduceToNat, reduceCtorEq]
      refine AE.order [6, 5, 4, 3, 2, 1, 0] rfl ?_
      simp only [go_sem, Nat.reduceAdd, Nat.reduceLeDiff, Nat.reduceSub, Int.reduceToNat, reduceCtorEq]
      refine AE.roundEnd (b := 6) rfl ⟨rfl, ?_⟩
      rw [← hZ, if_pos rfl]
      simp only [hset, scanH, List.length_append, blkR_len]
      have : blkR (recs ++ [part ++ t]) = blkR recs ++ [[Si (part ++ t)]] := by simp [blkR]
      rw [this]
      rfl
    · subst hl
      repeat (first | refine xA ?_ | refine xB ?_ | refine xC ?_ | refine xE ?_ | refine xD ?_ | refine xK ?_ | refine xS ?_ | refine xM ?_ | refine xT ?_ | refine xF ?_ | ((first | refine xR ?_ | refine xW ?_ | refine vq_id ?_); simp only [go_sem, Nat.reduceAdd, Nat.reduceLeDiff, Nat.reduceSub, Int.reduceToNat, reduceCtorEq]) | (refine ⟨by first | omega | (intros; simp_all; done) | (intros; simp_all; omega), ?_⟩; try simp only [go_sem, Nat.reduceAdd, Nat.reduceLeDiff, Nat.reduceSub, Int.reduceToNat, reduceCtorEq]))
      refine AE.forgets [7] rfl ?_
      simp only [go_sem, Nat.reduceAdd, Nat.reduceLeDiff, Nat.reduceSub, Int.reduceToNat, reduceCtorEq]
      refine AE.order [6, 5, 4, 3, 2, 1, 0] rfl ?_
      simp only [go_sem, Nat.reduceAdd, Nat.reduceLeDiff, Nat.reduceSub, Int.reduceToNat, reduceCtorEq]
      refine AE.roundEnd (b := 6) rfl ⟨rfl, ?_⟩
      rw [← hZ, if_neg (by decide)]
      simp only [hset, scanH, List.length_append]
      rfl
end Go.Proofs.Ytoafanbfminhcaa
end

section
namespace Go.Proofs.Ytoafanbfminhcaa
open Go Go.AL Go.RowKit
set_option maxRecDepth 10000
set_option maxHeartbeats 4000000
theorem readP_len {s : Bs} {p : Pc} (h : readP s = some p) : p.t.length ≤ 19 := by
  unfold readP at h
  split at h
  · unfold readG at h
    split at h
    · cases h
    · rename_i hc
      split at h
      · cases h
        simp only [List.length_take]
        omega
      · cases h
  · cases h
theorem step_bound (a : Sc) (p : Pc) (k : Nat) (hp : p.t.length ≤ 19) (h1 : a.n ≤ k) (h2 : a.part.length ≤ 19 * k) (h3 : a.recs.length ≤ k) : (a.step p).n ≤ k + 1 ∧ (a.step p).part.length ≤ 19 * (k + 1) ∧ (a.step p).recs.length ≤ k + 1 := by
  unfold Sc.step
  split
  · refine ⟨by simp only; omega, by simp, by simp; omega⟩
  · refine ⟨by simp only; omega, by simp; omega, by simp only; omega⟩
theorem readV_none : readV none = .tup [.agg [I2 0, I2 0, Bv false, Sv []], Bv false] := rfl
theorem readV_some (p : Pc) : readV (some p) = .tup [.agg [I2 p.s, I2 p.k, Bv p.last, Sv p.t], Bv true] := rfl
theorem nid_scanH (B : List Bs) (q : Nat) (a : Sc) : nid (scanH B q a) = 7 := rfl
theorem frv_scanH (l : List IV) (B : List Bs) (q : Nat) (a : Sc) : frvH 7 l (scanH B q a) = scanH B q a := by
  unfold scanH Sc.bp
  cases a.w <;> rfl
theorem chain_walk (B : List Bs) (hB : B.length ≤ 1000000) (q : Nat) : ACallN Try.prog 4 96 [Yl q, .im (.pt [.sl 1 (blkR B)])] (scanH B q sc0) (fun _ H' => H' = scanH B q (scanS B)) := by
  obtain ⟨Z, hZ⟩ : ∃ Z, scanS B = Z := ⟨_, rfl⟩
  rw [hZ]
  refine ACallN.walk [0, 1, 3, 5, 6, 7, 8, 9, 10, 11, 32] [6] Try.func96 rfl Try.ntmps96 (by kernel_rfl) (by rfl) fun W own I0 φ0 => ?_
  repeat (first | refine xA ?_ | refine xB ?_ | refine xC ?_ | refine xE ?_ | refine xD ?_ | refine xK ?_ | refine xS ?_ | refine xM ?_ | refine xT ?_ | refine xF ?_ | ((first | refine xR ?_ | refine xW ?_ | refine vq_id ?_); simp only [go_sem, Nat.reduceAdd, Nat.reduceLeDiff, Nat.reduceSub, Int.reduceToNat, reduceCtorEq]) | (refine ⟨by first | omega | (intros; simp_all; done) | (intros; simp_all; omega), ?_⟩; try simp only [go_sem, Nat.reduceAdd, Nat.reduceLeDiff, Nat.reduceSub, Int.reduceToNat, reduceCtorEq]))
  refine AP.loop rfl (α := Nat × Sc × Nat) (fun x => [(0, Yl q), (1, .im (.pt [.sl 1 (blkR B)])), (3, I2 x.2.2), (8, .im (.sl 1 (blkR B))), (9, Iv B.length), (10, Iv x.1)]) (fun x => scanH B q x.2.1) (fun x => x.1 ≤ B.length ∧ (chainL x.2.2 (B.drop x.1)).foldl Sc.step x.2.1 = Z ∧ x.2.1.n ≤ x.1 ∧ x.2.1.part.length ≤ 19 * x.1 ∧ x.2.1.recs.length ≤ x.1) (fun x => B.length - x.1) (0, sc0, 0) ⟨by simp only; omega, hZ, Nat.le_refl _, Nat.le_refl _, Nat.le_refl _⟩ (by simp only [go_sem, Nat.reduceAdd, Nat.reduceLeDiff, Nat.reduceSub, Int.reduceToNat, reduceCtorEq, blkR_len]; exact (by repeat (first | exact Sub.nil _ | refine Sub.cons rfl ?_))) rfl fun ⟨k, a, link⟩ ⟨hk, hi, b1, b2, b3⟩ => ?_
  · simp only at hk hi b1 b2 b3
    repeat (first | refine xA ?_ | refine xB ?_ | refine xC ?_ | refine xE ?_ | refine xD ?_ | refine xK ?_ | refine xS ?_ | refine xM ?_ | refine xT ?_ | refine xF ?_ | ((first | refine xR ?_ | refine xW ?_ | refine vq_id ?_); simp only [go_sem, Nat.reduceAdd, Nat.reduceLeDiff, Nat.reduceSub, Int.reduceToNat, reduceCtorEq, blkR_len]) | (refine ⟨by first | omega | (intros; simp_all; done) | (intros; simp_all; omega), ?_⟩; try simp only [go_sem, Nat.reduceAdd, Nat.reduceLeDiff, Nat.reduceSub, Int.reduceToNat, reduceCtorEq, blkR_len]))
    refine AP.cond rfl rfl (fun hc => ?_) (fun hc => ?_)
    · have hk' : k < B.length := by simp at hc; omega
      have hg := blkR_get B k hk'
      obtain ⟨s, hs⟩ : ∃ s, B.getD k [] = s := ⟨_, rfl⟩
      rw [hs] at hg
      have hr := read_spec s
      have hw := wr (x := (k : Int) + 1) (by omega)
      have hd : chainL link (B.drop k) = match readP s with | some p => if p.k = link then p :: chainL p.s (B.drop (k + 1)) else [] | none => [] := by
        rw [List.drop_eq_getElem_cons hk', chainL]
        have : B[k] = s := by rw [← hs, List.getD_eq_getElem?_getD, List.getElem?_eq_getElem hk']; rfl
        rw [this]
        all_goals (cases readP s <;> rfl)
      rw [hd] at hi
      cases hp : readP s with
      | none =>
        rw [hp] at hi hr
        simp only [List.foldl_nil] at hi
        repeat (first | refine xA ?_ | refine xB ?_ | refine xC ?_ | refine xE ?_ | refine xD ?_ | refine xK ?_ | refine xS ?_ | refine xM ?_ | refine xT ?_ | refine xF ?_ | ((first | refine xR ?_ | refine xW ?_ | refine vq_id ?_); simp only [go_sem, Nat.reduceAdd, Nat.reduceLeDiff, Nat.reduceSub, Int.reduceToNat, reduceCtorEq, hg, blkR_len]) | (refine ⟨by first | omega | (intros; simp_all; done) | (intros; simp_all; omega), ?_⟩; try simp only [go_sem, Nat.reduceAdd, Nat.reduceLeDiff, Nat.reduceSub, Int.reduceToNat, reduceCtorEq, hg, blkR_len]))
        refine AQ.fn (by kernel_rfl) rfl rfl rfl (hr) rfl ?_
        repeat (first | refine xA ?_ | refine xB ?_ | refine xC ?_ | refine xE ?_ | refine xD ?_ | refine xK ?_ | refine xS ?_ | refine xM ?_ | refine xT ?_ | refine xF ?_ | ((first | refine xR ?_ | refine xW ?_ | refine vq_id ?_); simp only [go_sem, Nat.reduceAdd, Nat.reduceLeDiff, Nat.reduceSub, Int.reduceToNat, reduceCtorEq, readV_none, readV_some, nid_scanH]) | (refine ⟨by first | omega | (intros; simp_all; done) | (intros; simp_all; omega), ?_⟩; try simp only [go_sem, Nat.reduceAdd, Nat.reduceLeDiff, Nat.reduceSub, Int.reduceToNat, reduceCtorEq, readV_none, readV_some, nid_scanH]))
        refine AE.fix 7 rfl rfl ?_
        simp only [go_sem, Nat.reduceAdd, Nat.reduceLeDiff, Nat.reduceSub, Int.reduceToNat, reduceCtorEq, frv_scanH]
        exact AE.ret rfl trivial (by rw [hi])
      | some p =>
        rw [hp] at hi hr
        have hpl := readP_len hp
        repeat (first | refine xA ?_ | refine xB ?_ | refine xC ?_ | refine xE ?_ | refine xD ?_ | refine xK ?_ | refine xS ?_ | refine xM ?_ | refine xT ?_ | refine xF ?_ | ((first | refine xR ?_ | refine xW ?_ | refine vq_id ?_); simp only [go_sem, Nat.reduceAdd, Nat.reduceLeDiff, Nat.reduceSub, Int.reduceToNat, reduceCtorEq, hg, blkR_len]) | (refine ⟨by first | omega | (intros; simp_all; done) | (intros; simp_all; omega), ?_⟩; try simp only [go_sem, Nat.reduceAdd, Nat.reduceLeDiff, Nat.reduceSub, Int.reduceToNat, reduceCtorEq, hg, blkR_len]))
        refine AQ.fn (by kernel_rfl) rfl rfl rfl (hr) rfl ?_
        by_cases hkl : p.k = link
        · simp only [if_pos hkl, List.foldl_cons] at hi
          have hk1 : ((p.k : Int) != (link : Int)) = false := by simp [hkl]
          repeat (first | refine xA ?_ | refine xB ?_ | refine xC ?_ | refine xE ?_ | refine xD ?_ | refine xK ?_ | refine xS ?_ | refine xM ?_ | refine xT ?_ | refine xF ?_ | ((first | refine xR ?_ | refine xW ?_ | refine vq_id ?_); simp only [go_sem, Nat.reduceAdd, Nat.reduceLeDiff, Nat.reduceSub, Int.reduceToNat, reduceCtorEq, readV_none, readV_some, nid_scanH, hk1]) | (refine ⟨by first | omega | (intros; simp_all; done) | (intros; simp_all; omega), ?_⟩; try simp only [go_sem, Nat.reduceAdd, Nat.reduceLeDiff, Nat.reduceSub, Int.reduceToNat, reduceCtorEq, readV_none, readV_some, nid_scanH, hk1]))
          refine AQ.fix 7 rfl rfl ?_
          simp only [go_sem, Nat.reduceAdd, Nat.reduceLeDiff, Nat.reduceSub, Int.reduceToNat, reduceCtorEq, frv_scanH]
          refine AQ.guard_yes (by simp only [go_sem]) ?_
          refine AQ.yieldN 4 (by kernel_rfl) (by kernel_rfl) rfl ⟨rfl, rfl⟩ rfl rfl (scan_round B q a p (by omega) (by omega) (by omega)) (fun r H' h => by rw [h.2]; exact lowSame.of _ _ _ rfl) fun r H' h => ?_
          obtain ⟨rfl, rfl⟩ := h
          simp only [go_sem, Nat.reduceAdd, Nat.reduceLeDiff, Nat.reduceSub, Int.reduceToNat, reduceCtorEq]
          refine AQ.go (by kernel_rfl) ?_
          simp only [go_sem, Nat.reduceAdd, Nat.reduceLeDiff, Nat.reduceSub, Int.reduceToNat, reduceCtorEq]
          repeat (first | refine xA ?_ | refine xB ?_ | refine xC ?_ | refine xE ?_ | refine xD ?_ | refine xK ?_ | refine xS ?_ | refine xM ?_ | refine xT ?_ | refine xF ?_ | ((first | refine xR ?_ | refine xW ?_ | refine vq_id ?_); simp only [go_sem, Nat.reduceAdd, Nat.reduceLeDiff, Nat.reduceSub, Int.reduceToNat, reduceCtorEq, hw]) | (refine ⟨by first | omega | (intros; simp_all; done) | (intros; simp_all; omega), ?_⟩; try simp only [go_sem, Nat.reduceAdd, Nat.reduceLeDiff, Nat.reduceSub, Int.reduceToNat, reduceCtorEq, hw]))
          obtain ⟨c1, c2, c3⟩ := step_bound a p k hpl b1 b2 b3
          exact AE.round (k + 1, a.step p, p.s) ⟨by simp only; omega, hi, c1, c2, c3⟩ (by simp only; omega) (by repeat (first | exact Sub.nil _ | refine Sub.cons rfl ?_)) rfl
        · simp only [if_neg hkl, List.foldl_nil] at hi
          have hk1 : ((p.k : Int) != (link : Int)) = true := by simp; omega
          repeat (first | refine xA ?_ | refine xB ?_ | refine xC ?_ | refine xE ?_ | refine xD ?_ | refine xK ?_ | refine xS ?_ | refine xM ?_ | refine xT ?_ | refine xF ?_ | ((first | refine xR ?_ | refine xW ?_ | refine vq_id ?_); simp only [go_sem, Nat.reduceAdd, Nat.reduceLeDiff, Nat.reduceSub, Int.reduceToNat, reduceCtorEq, readV_none, readV_some, nid_scanH, hk1]) | (refine ⟨by first | omega | (intros; simp_all; done) | (intros; simp_all; omega), ?_⟩; try simp only [go_sem, Nat.reduceAdd, Nat.reduceLeDiff, Nat.reduceSub, Int.reduceToNat, reduceCtorEq, readV_none, readV_some, nid_scanH, hk1]))
          refine AE.fix 7 rfl rfl ?_
          simp only [go_sem, Nat.reduceAdd, Nat.reduceLeDiff, Nat.reduceSub, Int.reduceToNat, reduceCtorEq, frv_scanH]
          exact AE.ret rfl trivial (by rw [hi])
    · have hk' : k = B.length := by simp at hc; omega
      rw [hk', List.drop_length, chainL, List.foldl_nil] at hi
      repeat (first | refine xA ?_ | refine xB ?_ | refine xC ?_ | refine xE ?_ | refine xD ?_ | refine xK ?_ | refine xS ?_ | refine xM ?_ | refine xT ?_ | refine xF ?_ | ((first | refine xR ?_ | refine xW ?_ | refine vq_id ?_); simp only [go_sem, Nat.reduceAdd, Nat.reduceLeDiff, Nat.reduceSub, Int.reduceToNat, reduceCtorEq]) | (refine ⟨by first | omega | (intros; simp_all; done) | (intros; simp_all; omega), ?_⟩; try simp only [go_sem, Nat.reduceAdd, Nat.reduceLeDiff, Nat.reduceSub, Int.reduceToNat, reduceCtorEq]))
      exact AE.fall rfl trivial (by rw [hi])
end Go.Proofs.Ytoafanbfminhcaa
end

section
namespace Go.Proofs.Ytoafanbfminhcaa
open Go Go.AL Go.RowKit
set_option maxRecDepth 10000
set_option maxHeartbeats 4000000
abbrev Sc.v (b : Nat) (a : Sc) : AV := .agg [.os b 1 0 a.recs.length, Iv a.used, I2 a.first, I2 a.last]
theorem scan_spec (B : List Bs) (hB : B.length ≤ 1000000) : ACall Try.prog 51 [.im (.sl 1 (blkR B))] [] (fun r H' => H' = [(4, .vec 9 1 (blkR (scanS B).recs))] ∧ r = (scanS B).v 4) := by
  have hw := chain_walk B hB
  obtain ⟨Z, hZ⟩ : ∃ Z, scanS B = Z := ⟨_, rfl⟩
  rw [hZ] at hw ⊢
  refine ACall.walk [0, 2, 3, 4, 5, 6, 8, 9, 11, 21] [2, 3, 4, 5, 6] Try.func51 rfl Try.ntmps51 (by kernel_rfl) (by rfl) rfl fun W own I0 φ0 => ?_
  repeat (first | refine xA ?_ | refine xB ?_ | refine xC ?_ | refine xE ?_ | refine xD ?_ | refine xK ?_ | refine xS ?_ | refine xM ?_ | refine xT ?_ | refine xF ?_ | ((first | refine xR ?_ | refine xW ?_ | refine vq_id ?_); simp only [go_sem, Nat.reduceAdd, Nat.reduceLeDiff, Nat.reduceSub, Int.reduceToNat, reduceCtorEq]) | (refine ⟨by first | omega | (intros; simp_all; done) | (intros; simp_all; omega), ?_⟩; try simp only [go_sem, Nat.reduceAdd, Nat.reduceLeDiff, Nat.reduceSub, Int.reduceToNat, reduceCtorEq]))
  refine AQ.fn (by kernel_rfl) rfl rfl rfl (chain_spec B) rfl ?_
  repeat (first | refine xA ?_ | refine xB ?_ | refine xC ?_ | refine xE ?_ | refine xD ?_ | refine xK ?_ | refine xS ?_ | refine xM ?_ | refine xT ?_ | refine xF ?_ | ((first | refine xR ?_ | refine xW ?_ | refine vq_id ?_); simp only [go_sem, Nat.reduceAdd, Nat.reduceLeDiff, Nat.reduceSub, Int.reduceToNat, reduceCtorEq]) | (refine ⟨by first | omega | (intros; simp_all; done) | (intros; simp_all; omega), ?_⟩; try simp only [go_sem, Nat.reduceAdd, Nat.reduceLeDiff, Nat.reduceSub, Int.reduceToNat, reduceCtorEq]))
  refine AP.ownCell 1 0 9 1 rfl rfl ?_
  simp only [go_sem, Nat.reduceAdd, Nat.reduceLeDiff, Nat.reduceSub, Int.reduceToNat, reduceCtorEq]
  refine AP.ownCell 2 1 5 1 rfl rfl ?_
  simp only [go_sem, Nat.reduceAdd, Nat.reduceLeDiff, Nat.reduceSub, Int.reduceToNat, reduceCtorEq]
  refine AP.rangeB 4 0 6 [(0, .im (.sl 1 (blkR B))), (2, .ob 0 0), (3, .ob 1 0), (4, .ob 2 0), (5, .ob 3 0)] (R := fun l _ H' => H' = scanH B l Z) rfl rfl (by kernel_rfl) (by repeat (first | exact Sub.nil _ | refine Sub.cons rfl ?_)) trivial rfl (fun l => ?_) (fun l r H' hR => ?_)
  · exact hw l
  · subst hR
    refine ⟨lowSame.of _ _ _ rfl, .ready, _, rfl, by unfold scanH Sc.bp; cases Z.w <;> rfl, ?_⟩
    simp only [go_sem, Nat.reduceAdd, Nat.reduceLeDiff, Nat.reduceSub, Int.reduceToNat, reduceCtorEq, scanH]
    repeat (first | refine xA ?_ | refine xB ?_ | refine xC ?_ | refine xE ?_ | refine xD ?_ | refine xK ?_ | refine xS ?_ | refine xM ?_ | refine xT ?_ | refine xF ?_ | ((first | refine xR ?_ | refine xW ?_ | refine vq_id ?_); simp only [go_sem, Nat.reduceAdd, Nat.reduceLeDiff, Nat.reduceSub, Int.reduceToNat, reduceCtorEq]) | (refine ⟨by first | omega | (intros; simp_all; done) | (intros; simp_all; omega), ?_⟩; try simp only [go_sem, Nat.reduceAdd, Nat.reduceLeDiff, Nat.reduceSub, Int.reduceToNat, reduceCtorEq]))
    have hb : Z.bp = .im (.v (.pointer none)) ∨ Z.bp = .ob 2 0 := by unfold Sc.bp; cases Z.w <;> simp
    rcases hb with hb | hb
    · rw [hb]
      exact AE.retD [0, 1, 2, 3, 5] rfl ⟨⟨rfl, Nat.le_of_ble_eq_true (by kernel_rfl)⟩, trivial⟩ rfl ⟨rfl, rfl⟩
    · rw [hb]
      exact AE.retD [0, 1, 2, 3, 5] rfl ⟨⟨rfl, Nat.le_of_ble_eq_true (by kernel_rfl)⟩, trivial⟩ rfl ⟨rfl, rfl⟩
end Go.Proofs.Ytoafanbfminhcaa
end

section
namespace Go.Proofs.Ytoafanbfminhcaa
open Go Go.AL Go.RowKit
set_option maxRecDepth 10000
set_option maxHeartbeats 4000000
structure Jn where
  B : List Bs
  W : List Wr
  half : Int
  recs : List Bs
  used : Nat
  first : Nat
  last : Nat
  next : Nat
abbrev Jn.cs (x : Jn) (w r : Nat) : List AV := [.im (.sl 1 (blkR x.B)), .os w 2 0 x.W.length, Iv x.half, .os r 1 0 x.recs.length, Iv x.used, I2 x.first, I2 x.last, I2 x.next]
abbrev Jn.H (x : Jn) (w r : Nat) : Heap := [(r, .vec 9 1 (blkR x.recs)), (w, .vec 97 2 (wrR x.W)), (0, .var 93 (x.cs w r))]
abbrev Jn.ic (x : Jn) : List IV := [.sl 1 (blkR x.B), .sl 2 (wrR x.W), Ii x.half, .sl 1 (blkR x.recs), Ii x.used, Ii x.first, Ii x.last, Ii x.next]
theorem size_spec (B : List Bs) (l : List IV) (hB : B.length ≤ 1000000) : PFn Try.prog 55 [.im (.pt (.sl 1 (blkR B) :: l))] (Iv (B.length / 2 : Nat)) := by
  have h : (B.length : Int).tdiv 2 = ((B.length / 2 : Nat) : Int) := rfl
  have hw := wr (x := ((B.length / 2 : Nat) : Int)) (by omega)
  refine ACall.walk [0, 2] [] Try.func55 rfl Try.ntmps55 (by kernel_rfl) (by rfl) rfl fun W own I0 φ0 => ?_
  repeat (first | refine xA ?_ | refine xB ?_ | refine xC ?_ | refine xE ?_ | refine xD ?_ | refine xK ?_ | refine xS ?_ | refine xM ?_ | refine xT ?_ | refine xF ?_ | ((first | refine xR ?_ | refine xW ?_ | refine vq_id ?_); simp only [go_sem, Nat.reduceAdd, Nat.reduceLeDiff, Nat.reduceSub, Int.reduceToNat, reduceCtorEq, blkR_len, h, hw]) | (refine ⟨by first | omega | (intros; simp_all; done) | (intros; simp_all; omega), ?_⟩; try simp only [go_sem, Nat.reduceAdd, Nat.reduceLeDiff, Nat.reduceSub, Int.reduceToNat, reduceCtorEq, blkR_len, h, hw]))
  exact AE.ret0 rfl ⟨rfl, trivial⟩ rfl ⟨rfl, rfl⟩
def nparts (s : Bs) : Nat := max 1 ((s.length + 18) / 19)
theorem blocksOf_spec (s : Bs) (h : s.length ≤ 1000000000) : PFn Try.prog 54 [Sv s] (Iv (nparts s)) := by
  have h1 : ((s.length : Int) + 19 - 1) = ((s.length + 18 : Nat) : Int) := by omega
  have h2 : (((s.length + 18 : Nat) : Int)).tdiv 19 = (((s.length + 18) / 19 : Nat) : Int) := rfl
  have w1 := wr (x := (s.length : Int) + 19) (by omega)
  have w2 := wr (x := ((s.length + 18 : Nat) : Int)) (by omega)
  have w3 := wr (x := (((s.length + 18) / 19 : Nat) : Int)) (by omega)
  have h4 : (if (1 : Int) < (((s.length + 18) / 19 : Nat) : Int) then (((s.length + 18) / 19 : Nat) : Int) else 1) = ((nparts s : Nat) : Int) := by unfold nparts; split <;> omega
  refine ACall.walk [0, 2] [] Try.func54 rfl Try.ntmps54 (by kernel_rfl) (by rfl) rfl fun W own I0 φ0 => ?_
  repeat (first | refine xA ?_ | refine xB ?_ | refine xC ?_ | refine xE ?_ | refine xD ?_ | refine xK ?_ | refine xS ?_ | refine xM ?_ | refine xT ?_ | refine xF ?_ | ((first | refine xR ?_ | refine xW ?_ | refine vq_id ?_); simp only [go_sem, Nat.reduceAdd, Nat.reduceLeDiff, Nat.reduceSub, Int.reduceToNat, reduceCtorEq, BA_size, w1, h1, w2, h2, w3, h4]) | (refine ⟨by first | omega | (intros; simp_all; done) | (intros; simp_all; omega), ?_⟩; try simp only [go_sem, Nat.reduceAdd, Nat.reduceLeDiff, Nat.reduceSub, Int.reduceToNat, reduceCtorEq, BA_size, w1, h1, w2, h2, w3, h4]))
  exact AE.ret0 rfl ⟨rfl, trivial⟩ rfl ⟨rfl, rfl⟩
def partAt (s : Bs) (i : Nat) : Bs := (s.drop (19 * i)).take 19
def partLast (s : Bs) (i : Nat) : Bool := decide (i + 1 = nparts s)
theorem parts_spec (s : Bs) : ACall Try.prog 87 [Sv s] [] (fun r H' => H' = [(0, .var 9 [Sv s])] ∧ r = .fn 98 [] [.ob 0 0]) := by
  refine ACall.walk [0, 1, 2] [1] Try.func87 rfl Try.ntmps87 (by kernel_rfl) (by rfl) rfl fun W own I0 φ0 => ?_
  repeat (first | refine xA ?_ | refine xB ?_ | refine xC ?_ | refine xE ?_ | refine xD ?_ | refine xK ?_ | refine xS ?_ | refine xM ?_ | refine xT ?_ | refine xF ?_ | ((first | refine xR ?_ | refine xW ?_ | refine vq_id ?_); simp only [go_sem, Nat.reduceAdd, Nat.reduceLeDiff, Nat.reduceSub, Int.reduceToNat, reduceCtorEq]) | (refine ⟨by first | omega | (intros; simp_all; done) | (intros; simp_all; omega), ?_⟩; try simp only [go_sem, Nat.reduceAdd, Nat.reduceLeDiff, Nat.reduceSub, Int.reduceToNat, reduceCtorEq]))
  exact AE.ret rfl ⟨rfl, trivial⟩ ⟨rfl, rfl⟩
theorem parts_walk {nb q b : Nat} (s : Bs) (hs : s.length ≤ 1000000) (Hs : Bs → Nat → Heap) (hv : ∀ t i, lk (Hs t i) b = some (.var 9 [Sv t])) (hset' : ∀ t i t', hset (Hs t i) b (.var 9 [Sv t']) = Hs t' i)
    (hb : Nat.ble nb b = false) (low : ∀ t t' i j, lowSame nb (Hs t i) (Hs t' j))
    (hy : ∀ i, i < nparts s → YCallN Try.prog nb q [Sv (partAt s i), Bv (partLast s i)] (Hs (s.drop (19 * i)) i) (fun r H' => r = Bv true ∧ H' = Hs (s.drop (19 * i)) (i + 1))) :
    ACallN Try.prog nb 98 [Yl q, .ob b 0] (Hs s 0) (fun _ H' => ∃ t, H' = Hs t (nparts s)) := by
  refine ACallN.walk [0, 1, 5, 10] [] Try.func98 rfl Try.ntmps98 (by kernel_rfl) (by rfl) fun W own I0 φ0 => ?_
  repeat (first | refine xA ?_ | refine xB ?_ | refine xC ?_ | refine xE ?_ | refine xD ?_ | refine xK ?_ | refine xS ?_ | refine xM ?_ | refine xT ?_ | refine xF ?_ | ((first | refine xR ?_ | refine xW ?_ | refine vq_id ?_); simp only [go_sem, Nat.reduceAdd, Nat.reduceLeDiff, Nat.reduceSub, Int.reduceToNat, reduceCtorEq]) | (refine ⟨by first | omega | (intros; simp_all; done) | (intros; simp_all; omega), ?_⟩; try simp only [go_sem, Nat.reduceAdd, Nat.reduceLeDiff, Nat.reduceSub, Int.reduceToNat, reduceCtorEq]))
  refine AP.loop rfl (α := Nat) (fun i => [(0, Yl q), (1, .ob b 0)]) (fun i => Hs (s.drop (19 * i)) i) (fun i => i < nparts s) (fun i => nparts s - i) 0 (by unfold nparts; omega) (by repeat (first | exact Sub.nil _ | refine Sub.cons rfl ?_)) rfl fun i hi => ?_
  have hyi := hy i hi
  obtain ⟨t, ht⟩ : ∃ t, s.drop (19 * i) = t := ⟨_, rfl⟩
  have htl : t.length = s.length - 19 * i := by rw [← ht, List.length_drop]
  rw [ht] at hyi ⊢
  repeat (first | refine xA ?_ | refine xB ?_ | refine xC ?_ | refine xE ?_ | refine xD ?_ | refine xK ?_ | refine xS ?_ | refine xM ?_ | refine xT ?_ | refine xF ?_ | ((first | refine xR ?_ | refine xW ?_ | refine vq_id ?_); simp only [go_sem, Nat.reduceAdd, Nat.reduceLeDiff, Nat.reduceSub, Int.reduceToNat, reduceCtorEq, hv, BA_size]) | (refine ⟨by first | omega | (intros; simp_all; done) | (intros; simp_all; omega), ?_⟩; try simp only [go_sem, Nat.reduceAdd, Nat.reduceLeDiff, Nat.reduceSub, Int.reduceToNat, reduceCtorEq, hv, BA_size]))
  refine AP.cond rfl rfl (fun hc => ?_) (fun hc => ?_)
  · have hl : 19 < t.length := by simp at hc; omega
    have hp : partAt s i = t.take 19 := by rw [partAt, ht]
    have hq : partLast s i = false := by
      unfold partLast nparts; simp only [decide_eq_false_iff_not]; omega
    rw [hp, hq] at hyi
    repeat (first | refine xA ?_ | refine xB ?_ | refine xC ?_ | refine xE ?_ | refine xD ?_ | refine xK ?_ | refine xS ?_ | refine xM ?_ | refine xT ?_ | refine xF ?_ | ((first | refine xR ?_ | refine xW ?_ | refine vq_id ?_); simp only [go_sem, Nat.reduceAdd, Nat.reduceLeDiff, Nat.reduceSub, Int.reduceToNat, reduceCtorEq, hv, BA_size, BA_extract]) | (refine ⟨by first | omega | (intros; simp_all; done) | (intros; simp_all; omega), ?_⟩; try simp only [go_sem, Nat.reduceAdd, Nat.reduceLeDiff, Nat.reduceSub, Int.reduceToNat, reduceCtorEq, hv, BA_size, BA_extract]))
    refine AQ.yieldN nb (Nat.ble_eq_true_of_le (Nat.le_refl _)) (by kernel_rfl) rfl ⟨rfl, rfl⟩ rfl rfl hyi (fun r H' h => by rw [h.2]; exact low _ _ _ _) fun r H' h => ?_
    obtain ⟨rfl, rfl⟩ := h
    simp only [go_sem, Nat.reduceAdd, Nat.reduceLeDiff, Nat.reduceSub, Int.reduceToNat, reduceCtorEq, hb]
    refine AQ.go (by kernel_rfl) ?_
    simp only [go_sem, Nat.reduceAdd, Nat.reduceLeDiff, Nat.reduceSub, Int.reduceToNat, reduceCtorEq]
    repeat (first | refine xA ?_ | refine xB ?_ | refine xC ?_ | refine xE ?_ | refine xD ?_ | refine xK ?_ | refine xS ?_ | refine xM ?_ | refine xT ?_ | refine xF ?_ | ((first | refine xR ?_ | refine xW ?_ | refine vq_id ?_); simp only [go_sem, Nat.reduceAdd, Nat.reduceLeDiff, Nat.reduceSub, Int.reduceToNat, reduceCtorEq, hv, hset', BA_size, BA_extract, hb]) | (refine ⟨by first | omega | (intros; simp_all; done) | (intros; simp_all; omega), ?_⟩; try simp only [go_sem, Nat.reduceAdd, Nat.reduceLeDiff, Nat.reduceSub, Int.reduceToNat, reduceCtorEq, hv, hset', BA_size, BA_extract, hb]))
    have hd : List.take (t.length - 19) (List.drop 19 t) = s.drop (19 * (i + 1)) := by
      rw [take_all' _ _ (by simp), ← ht, List.drop_drop]; congr 1
    refine AE.round (i + 1) ?_ (by omega) (by repeat (first | exact Sub.nil _ | refine Sub.cons rfl ?_)) (by rw [← hd]; exact hset' _ _ _)
    unfold nparts; omega
  · have hl : t.length ≤ 19 := by simp at hc; omega
    have hp : partAt s i = t := by rw [partAt, ht]; exact take_all' _ _ hl
    have hn : nparts s = i + 1 := by
      have : i < max 1 ((s.length + 18) / 19) := hi
      unfold nparts; omega
    have hq : partLast s i = true := by
      unfold partLast; simp [hn]
    rw [hp, hq] at hyi
    repeat (first | refine xA ?_ | refine xB ?_ | refine xC ?_ | refine xE ?_ | refine xD ?_ | refine xK ?_ | refine xS ?_ | refine xM ?_ | refine xT ?_ | refine xF ?_ | ((first | refine xR ?_ | refine xW ?_ | refine vq_id ?_); simp only [go_sem, Nat.reduceAdd, Nat.reduceLeDiff, Nat.reduceSub, Int.reduceToNat, reduceCtorEq, hv, BA_size, BA_extract]) | (refine ⟨by first | omega | (intros; simp_all; done) | (intros; simp_all; omega), ?_⟩; try simp only [go_sem, Nat.reduceAdd, Nat.reduceLeDiff, Nat.reduceSub, Int.reduceToNat, reduceCtorEq, hv, BA_size, BA_extract]))
    refine AQ.yieldN nb (Nat.ble_eq_true_of_le (Nat.le_refl _)) (by kernel_rfl) rfl ⟨rfl, rfl⟩ rfl rfl hyi (fun r H' h => by rw [h.2]; exact low _ _ _ _) fun r H' h => ?_
    obtain ⟨rfl, rfl⟩ := h
    simp only [go_sem, Nat.reduceAdd, Nat.reduceLeDiff, Nat.reduceSub, Int.reduceToNat, reduceCtorEq, hb]
    refine AQ.go (by kernel_rfl) ?_
    simp only [go_sem, Nat.reduceAdd, Nat.reduceLeDiff, Nat.reduceSub, Int.reduceToNat, reduceCtorEq]
    repeat (first | refine xA ?_ | refine xB ?_ | refine xC ?_ | refine xE ?_ | refine xD ?_ | refine xK ?_ | refine xS ?_ | refine xM ?_ | refine xT ?_ | refine xF ?_ | ((first | refine xR ?_ | refine xW ?_ | refine vq_id ?_); simp only [go_sem, Nat.reduceAdd, Nat.reduceLeDiff, Nat.reduceSub, Int.reduceToNat, reduceCtorEq]) | (refine ⟨by first | omega | (intros; simp_all; done) | (intros; simp_all; omega), ?_⟩; try simp only [go_sem, Nat.reduceAdd, Nat.reduceLeDiff, Nat.reduceSub, Int.reduceToNat, reduceCtorEq]))
    exact AE.fall rfl trivial ⟨t, by rw [hn]⟩
end Go.Proofs.Ytoafanbfminhcaa
end

section
namespace Go.Proofs.Ytoafanbfminhcaa
open Go Go.AL Go.RowKit
set_option maxRecDepth 10000
set_option maxHeartbeats 4000000
structure Ws where
  W : List Wr
  next : Nat
  frm : Nat
  link : Nat
def Ws.step (sz half : Nat) (a : Ws) (p : Bs) (l : Bool) : Ws := ⟨a.W ++ [(((half * sz + a.frm : Nat) : Int), blockP a.next a.link l p)], a.next + 1, a.frm + 1, a.next⟩
def Ws.run (sz half : Nat) (s : Bs) (a : Ws) : Nat → Ws
  | 0 => a
  | i + 1 => (Ws.run sz half s a i).step sz half (partAt s i) (partLast s i)
noncomputable def wrH (x : Jn) (half q : Nat) (t : Bs) (a : Ws) : Heap :=
  [(8, .lp q 80 .ready Try.f56 [0, 1, 0, 1] [15, 16] [(5, .ob 3 0), (6, .im (.pt [Ii half])), (7, .ob 4 0), (8, .ob 5 0)]), (7, .vec 97 2 (wrR a.W)), (6, .var 9 [Sv t]), (5, .var 2 [I2 a.link]), (4, .var 3 [Iv a.frm]), (3, .var 32 [.ob 0 0]), (2, .vec 9 1 (blkR x.recs)),
   (0, .var 93 [.im (.sl 1 (blkR x.B)), .os 7 2 0 a.W.length, Iv x.half, .os 2 1 0 x.recs.length, Iv x.used, I2 x.first, I2 x.last, I2 a.next])]
theorem write_round (x : Jn) (half q : Nat) (t : Bs) (a : Ws) (p : Bs) (l : Bool) (hp : p.length ≤ 19) (hB : x.B.length ≤ 1000000) (hh : half ≤ 1) (hf : a.frm ≤ 1000000000) (hn : a.next ≤ 1000000000000000) (hl : a.link ≤ 1000000000000000) (hW : a.W.length ≤ 1000000) :
    YCallN Try.prog 7 q [Sv p, Bv l] (wrH x half q t a) (fun r H' => r = Bv true ∧ H' = wrH x half q t (a.step (x.B.length / 2) half p l)) := by
  obtain ⟨Z, hZ⟩ : ∃ Z, wrH x half q t (a.step (x.B.length / 2) half p l) = Z := ⟨_, rfl⟩
  rw [hZ]
  have hm : half * (x.B.length / 2) ≤ 1000000 := by
    rcases (show half = 0 ∨ half = 1 by omega) with h | h <;> subst h <;> omega
  have hw1 : IntKind.i64.wrap ((half : Int) * ((x.B.length / 2 : Nat) : Int)) = ((half * (x.B.length / 2) : Nat) : Int) := by
    rw [Int.natCast_mul]; exact wr (by rw [← Int.natCast_mul]; omega)
  have hw2 : IntKind.i64.wrap (((half * (x.B.length / 2) : Nat) : Int) + (a.frm : Int)) = ((half * (x.B.length / 2) + a.frm : Nat) : Int) := by
    rw [Int.natCast_add]; exact wr (by omega)
  refine YCallN.walk (b := 8) [5, 6, 7, 8, 10, 11, 12, 15, 16] [] rfl rfl rfl fun w own I0 φ0 => ?_
  simp only [go_sem, Nat.reduceAdd, Nat.reduceLeDiff, Nat.reduceSub, Int.reduceToNat, reduceCtorEq, zipP, wrH]
  repeat (first | refine xA ?_ | refine xB ?_ | refine xC ?_ | refine xE ?_ | refine xD ?_ | refine xK ?_ | refine xS ?_ | refine xM ?_ | refine xT ?_ | refine xF ?_ | ((first | refine xR ?_ | refine xW ?_ | refine vq_id ?_); simp only [go_sem, Nat.reduceAdd, Nat.reduceLeDiff, Nat.reduceSub, Int.reduceToNat, reduceCtorEq]) | (refine ⟨by first | omega | (intros; simp_all; done) | (intros; simp_all; omega), ?_⟩; try simp only [go_sem, Nat.reduceAdd, Nat.reduceLeDiff, Nat.reduceSub, Int.reduceToNat, reduceCtorEq]))
  refine AE.begin (b := 8) rfl rfl _ ?_
  simp only [go_sem, Nat.reduceAdd, Nat.reduceLeDiff, Nat.reduceSub, Int.reduceToNat, reduceCtorEq]
  repeat (first | refine xA ?_ | refine xB ?_ | refine xC ?_ | refine xE ?_ | refine xD ?_ | refine xK ?_ | refine xS ?_ | refine xM ?_ | refine xT ?_ | refine xF ?_ | ((first | refine xR ?_ | refine xW ?_ | refine vq_id ?_); simp only [go_sem, Nat.reduceAdd, Nat.reduceLeDiff, Nat.reduceSub, Int.reduceToNat, reduceCtorEq]) | (refine ⟨by first | omega | (intros; simp_all; done) | (intros; simp_all; omega), ?_⟩; try simp only [go_sem, Nat.reduceAdd, Nat.reduceLeDiff, Nat.reduceSub, Int.reduceToNat, reduceCtorEq]))
  refine AP.drawE 10 (Tree.node [] [0, 1, 2, 3, 4, 5, 6, 7] [8] [Tree.node [0, 1, 2, 3, 4, 5, 6, 7] [] [9] [Tree.node [] [] [] []]]) (by kernel_rfl) rfl (by kernel_rfl) (by kernel_rfl) ?_
  refine vd_node ?_
  simp only [go_sem, Nat.reduceAdd, Nat.reduceLeDiff, Nat.reduceSub, Int.reduceToNat, reduceCtorEq]
  repeat' (first | with_reducible exact True.intro | with_reducible refine And.intro (by omega) ?_ | with_reducible refine And.intro ?_ ?_ | omega | fail | (refine AQ.nx rfl ?_; first | (refine And.intro ?_ ?_ <;> (try simp only [go_sem, Nat.reduceAdd, Nat.reduceLeDiff, Nat.reduceSub, Int.reduceToNat, reduceCtorEq])) | simp only [go_sem, Nat.reduceAdd, Nat.reduceLeDiff, Nat.reduceSub, Int.reduceToNat, reduceCtorEq]) | refine AQ.done ?_ | (refine AQ.go (by kernel_rfl) ?_; simp only [go_sem, Nat.reduceAdd, Nat.reduceLeDiff, Nat.reduceSub, Int.reduceToNat, reduceCtorEq]; (refine AQ.nx rfl ?_; first | (refine And.intro ?_ ?_ <;> (try simp only [go_sem, Nat.reduceAdd, Nat.reduceLeDiff, Nat.reduceSub, Int.reduceToNat, reduceCtorEq])) | simp only [go_sem, Nat.reduceAdd, Nat.reduceLeDiff, Nat.reduceSub, Int.reduceToNat, reduceCtorEq])))
  repeat (first | refine xA ?_ | refine xB ?_ | refine xC ?_ | refine xE ?_ | refine xD ?_ | refine xK ?_ | refine xS ?_ | refine xM ?_ | refine xT ?_ | refine xF ?_ | ((first | refine xR ?_ | refine xW ?_ | refine vq_id ?_); simp only [go_sem, Nat.reduceAdd, Nat.reduceLeDiff, Nat.reduceSub, Int.reduceToNat, reduceCtorEq]) | (refine ⟨by first | omega | (intros; simp_all; done) | (intros; simp_all; omega), ?_⟩; try simp only [go_sem, Nat.reduceAdd, Nat.reduceLeDiff, Nat.reduceSub, Int.reduceToNat, reduceCtorEq]))
  refine AP.drawE 21 (Tree.node [] [0, 1, 2, 3, 4, 5, 6, 7, 10, 12] [8] [Tree.node [0, 1, 2, 3, 4, 5, 6, 10, 12] [9, 11] [13] [Tree.node [0, 1, 2, 3, 4, 5, 6, 9, 10, 11] [14] [15] [Tree.node [0, 1, 2, 3, 4, 5] [] [16] [Tree.node [0] [17, 18, 19] [20] [Tree.node [] [] [] []]]]]]) (by kernel_rfl) rfl (by kernel_rfl) (by kernel_rfl) ?_
  refine vd_node ?_
  simp only [go_sem, Nat.reduceAdd, Nat.reduceLeDiff, Nat.reduceSub, Int.reduceToNat, reduceCtorEq]
  refine AQ.fnL ([.im (.pt (Jn.ic ⟨x.B, a.W, x.half, x.recs, x.used, x.first, x.last, a.next⟩))]) (by kernel_rfl) rfl rfl rfl (by ((try simp only [List.nil_append, List.append_nil, List.map_cons, List.map_nil, AV.st, constAV]); repeat (first | with_reducible exact LentC.nil | with_reducible exact LentAs.nil | with_reducible refine LentC.cons ?_ ?_ | with_reducible refine LentAs.cons ?_ ?_ | with_reducible exact Lent.im _ | with_reducible exact LentA.im _ | with_reducible refine LentA.of ?_ | with_reducible refine LentA.agg ?_ | ((with_reducible apply Lent.osw); rfl; simp only [blkR_len, wrR_len, byteR_len, List.length_append, List.length_cons, List.length_nil]) | ((with_reducible apply Lent.ob0); rfl)))) (size_spec x.B _ hB) rfl (fun _ => rfl) ?_
  simp only [go_sem, Nat.reduceAdd, Nat.reduceLeDiff, Nat.reduceSub, Int.reduceToNat, reduceCtorEq]
  refine AQ.nx rfl ?_
  simp only [go_sem, Nat.reduceAdd, Nat.reduceLeDiff, Nat.reduceSub, Int.reduceToNat, reduceCtorEq, hw1, hw2]
  refine AQ.fn (by kernel_rfl) rfl rfl rfl (bytes_spec a.next a.link l p (by omega) (by omega) hp) rfl ?_
  simp only [go_sem, Nat.reduceAdd, Nat.reduceLeDiff, Nat.reduceSub, Int.reduceToNat, reduceCtorEq]
  refine AQ.nx rfl ?_
  simp only [go_sem, Nat.reduceAdd, Nat.reduceLeDiff, Nat.reduceSub, Int.reduceToNat, reduceCtorEq, hw1, hw2]
  refine AQ.go (by kernel_rfl) ?_
  simp only [go_sem, Nat.reduceAdd, Nat.reduceLeDiff, Nat.reduceSub, Int.reduceToNat, reduceCtorEq]
  refine AQ.nx rfl ?_
  simp only [go_sem, Nat.reduceAdd, Nat.reduceLeDiff, Nat.reduceSub, Int.reduceToNat, reduceCtorEq]
  refine AQ.kill 7 ?_
  simp only [go_sem, Nat.reduceAdd, Nat.reduceLeDiff, Nat.reduceSub, Int.reduceToNat, reduceCtorEq]
  refine AQ.append (hnb := rfl) (rows := wrR a.W) (es := 1) (by kernel_rfl) rfl rfl rfl (by rfl) Try.tk26 Try.sz97 (by show Option.map _ (zro Try.prog 97) = _; rw [Try.zr97]; rfl) Try.by97 (by first | rfl | (simp only [wrR_len, List.length_cons, List.length_nil]; done) | (simp only [wrR_len, List.length_cons, List.length_nil]; omega)) (by simp only [wrR_len, List.length_cons, List.length_nil]; omega) (by simp only [wrR_len, List.length_cons, List.length_nil]; omega) ?_
  simp only [go_sem, Nat.reduceAdd, Nat.reduceLeDiff, Nat.reduceSub, Int.reduceToNat, reduceCtorEq]
  refine AQ.nx rfl ?_
  simp only [go_sem, Nat.reduceAdd, Nat.reduceLeDiff, Nat.reduceSub, Int.reduceToNat, reduceCtorEq]
  refine AQ.go (by kernel_rfl) ?_
  simp only [go_sem, Nat.reduceAdd, Nat.reduceLeDiff, Nat.reduceSub, Int.reduceToNat, reduceCtorEq]
  refine AQ.nx rfl ?_
  simp only [go_sem, Nat.reduceAdd, Nat.reduceLeDiff, Nat.reduceSub, Int.reduceToNat, reduceCtorEq]
  refine AQ.done ?_
  have hwn := wr (x := (a.next : Int) + 1) (by omega)
  have hwf := wr (x := (a.frm : Int) + 1) (by omega)
  repeat (first | refine xA ?_ | refine xB ?_ | refine xC ?_ | refine xE ?_ | refine xD ?_ | refine xK ?_ | refine xS ?_ | refine xM ?_ | refine xT ?_ | refine xF ?_ | ((first | refine xR ?_ | refine xW ?_ | refine vq_id ?_); simp only [go_sem, Nat.reduceAdd, Nat.reduceLeDiff, Nat.reduceSub, Int.reduceToNat, reduceCtorEq, hwn, hwf]) | (refine ⟨by first | omega | (intros; simp_all; done) | (intros; simp_all; omega), ?_⟩; try simp only [go_sem, Nat.reduceAdd, Nat.reduceLeDiff, Nat.reduceSub, Int.reduceToNat, reduceCtorEq, hwn, hwf]))
  refine AE.forgets [9] rfl ?_
  simp only [go_sem, Nat.reduceAdd, Nat.reduceLeDiff, Nat.reduceSub, Int.reduceToNat, reduceCtorEq]
  refine AE.order [8, 7, 6, 5, 4, 3, 2, 0] rfl ?_
  simp only [go_sem, Nat.reduceAdd, Nat.reduceLeDiff, Nat.reduceSub, Int.reduceToNat, reduceCtorEq]
  refine AE.roundEnd (b := 8) rfl ⟨rfl, ?_⟩
  rw [← hZ]
  simp only [hset, wrH, Ws.step, List.length_append, wrR_len]
  have : wrR (a.W ++ [(((half * (x.B.length / 2) + a.frm : Nat) : Int), blockP a.next a.link l p)]) = wrR a.W ++ [[Ii ((half * (x.B.length / 2) + a.frm : Nat) : Int), Si (blockP a.next a.link l p)]] := by simp [wrR]
  rw [this]
  rfl
theorem Ws.run_facts (sz half : Nat) (s : Bs) (a : Ws) : ∀ i, (Ws.run sz half s a i).frm = a.frm + i ∧ (Ws.run sz half s a i).next = a.next + i ∧ (Ws.run sz half s a i).W.length = a.W.length + i ∧ (Ws.run sz half s a i).link ≤ max a.link (a.next + i)
  | 0 => ⟨rfl, rfl, rfl, by simp only [Ws.run]; omega⟩
  | i + 1 => by
    obtain ⟨h1, h2, h3, h4⟩ := Ws.run_facts sz half s a i
    simp only [Ws.run, Ws.step, List.length_append, List.length_cons, List.length_nil]
    omega
theorem partAt_len (s : Bs) (i : Nat) : (partAt s i).length ≤ 19 := by simp [partAt]; omega
def Jn.wrote (x : Jn) (half frm link : Nat) (s : Bs) : Jn :=
  let a := Ws.run (x.B.length / 2) half s ⟨x.W, x.next, frm, link⟩ (nparts s)
  { x with W := a.W, recs := x.recs ++ [s], used := a.frm, last := a.link, next := a.next }
theorem write_spec (x : Jn) (half frm link : Nat) (s : Bs) (hs : s.length ≤ 100000) (hB : x.B.length ≤ 1000000) (hh : half ≤ 1) (hf : frm ≤ 1000000) (hn : x.next ≤ 100000000000) (hl : link ≤ 100000000000) (hW : x.W.length ≤ 100000) (hr : x.recs.length ≤ 1000000) :
    ACall Try.prog 56 [.ob 0 0, Iv half, Iv frm, I2 link, Sv s] (x.H 1 2) (fun r H' => H' = (x.wrote half frm link s).H 3 4 ∧ r = .tup []) := by
  obtain ⟨Z, hZ⟩ : ∃ Z, (x.wrote half frm link s).H 3 4 = Z := ⟨_, rfl⟩
  rw [hZ]
  have hf' := Ws.run_facts (x.B.length / 2) half s ⟨x.W, x.next, frm, link⟩
  simp only at hf'
  have hnp : nparts s ≤ 10000 := by unfold nparts; omega
  simp only [go_sem, Nat.reduceAdd, Nat.reduceLeDiff, Nat.reduceSub, Int.reduceToNat, reduceCtorEq, Jn.H, Jn.cs]
  refine ACall.walk [0, 1, 2, 3, 4, 5, 6, 7, 8, 10, 11, 12, 14, 15, 16] [5, 7, 8, 12] Try.func56 rfl Try.ntmps56 (by kernel_rfl) (by rfl) rfl fun W own I0 φ0 => ?_
  repeat (first | refine xA ?_ | refine xB ?_ | refine xC ?_ | refine xE ?_ | refine xD ?_ | refine xK ?_ | refine xS ?_ | refine xM ?_ | refine xT ?_ | refine xF ?_ | ((first | refine xR ?_ | refine xW ?_ | refine vq_id ?_); simp only [go_sem, Nat.reduceAdd, Nat.reduceLeDiff, Nat.reduceSub, Int.reduceToNat, reduceCtorEq]) | (refine ⟨by first | omega | (intros; simp_all; done) | (intros; simp_all; omega), ?_⟩; try simp only [go_sem, Nat.reduceAdd, Nat.reduceLeDiff, Nat.reduceSub, Int.reduceToNat, reduceCtorEq]))
  refine AQ.callH [] (by kernel_rfl) rfl rfl rfl rfl rfl rfl (by trivial) rfl (parts_spec s) ?_
  rintro r H1 ⟨rfl, rfl⟩
  refine ⟨rfl, ?_⟩
  repeat (first | refine xA ?_ | refine xB ?_ | refine xC ?_ | refine xE ?_ | refine xD ?_ | refine xK ?_ | refine xS ?_ | refine xM ?_ | refine xT ?_ | refine xF ?_ | ((first | refine xR ?_ | refine xW ?_ | refine vq_id ?_); simp only [go_sem, Nat.reduceAdd, Nat.reduceLeDiff, Nat.reduceSub, Int.reduceToNat, reduceCtorEq]) | (refine ⟨by first | omega | (intros; simp_all; done) | (intros; simp_all; omega), ?_⟩; try simp only [go_sem, Nat.reduceAdd, Nat.reduceLeDiff, Nat.reduceSub, Int.reduceToNat, reduceCtorEq]))
  refine AP.rename 1 7 rfl rfl rfl ?_
  simp only [go_sem, Nat.reduceAdd, Nat.reduceLeDiff, Nat.reduceSub, Int.reduceToNat, reduceCtorEq]
  refine AP.order [7, 6, 5, 4, 3, 2, 0] rfl ?_
  simp only [go_sem, Nat.reduceAdd, Nat.reduceLeDiff, Nat.reduceSub, Int.reduceToNat, reduceCtorEq]
  refine AP.rangeB 7 0 8 [(5, .ob 3 0), (6, .im (.pt [Ii half])), (7, .ob 4 0), (8, .ob 5 0)] (R := fun l _ H' => ∃ t, H' = wrH x half l t (Ws.run (x.B.length / 2) half s ⟨x.W, x.next, frm, link⟩ (nparts s))) rfl rfl (by kernel_rfl) (by repeat (first | exact Sub.nil _ | refine Sub.cons rfl ?_)) trivial rfl (fun l => ?_) (fun l r H' hR => ?_)
  · refine parts_walk s (by omega) (fun t i => wrH x half l t (Ws.run (x.B.length / 2) half s ⟨x.W, x.next, frm, link⟩ i)) (fun t i => rfl) (fun t i t' => rfl) rfl (fun _ _ _ _ => lowSame.of _ _ _ rfl) fun i hi => ?_
    obtain ⟨h1, h2, h3, h4⟩ := hf' i
    exact write_round x half l _ _ _ _ (partAt_len s i) hB hh (by omega) (by omega) (by omega) (by omega)
  · obtain ⟨t, rfl⟩ := hR
    obtain ⟨h1, h2, h3, h4⟩ := hf' (nparts s)
    obtain ⟨a, ha⟩ : ∃ a, Ws.run (x.B.length / 2) half s ⟨x.W, x.next, frm, link⟩ (nparts s) = a := ⟨_, rfl⟩
    rw [ha]
    have hZ' : Z = Jn.H { x with W := a.W, recs := x.recs ++ [s], used := a.frm, last := a.link, next := a.next } 3 4 := by rw [← hZ, ← ha]; rfl
    refine ⟨lowSame.of _ _ _ rfl, .ready, _, rfl, rfl, ?_⟩
    simp only [go_sem, Nat.reduceAdd, Nat.reduceLeDiff, Nat.reduceSub, Int.reduceToNat, reduceCtorEq, wrH]
    repeat (first | refine xA ?_ | refine xB ?_ | refine xC ?_ | refine xE ?_ | refine xD ?_ | refine xK ?_ | refine xS ?_ | refine xM ?_ | refine xT ?_ | refine xF ?_ | ((first | refine xR ?_ | refine xW ?_ | refine vq_id ?_); simp only [go_sem, Nat.reduceAdd, Nat.reduceLeDiff, Nat.reduceSub, Int.reduceToNat, reduceCtorEq]) | (refine ⟨by first | omega | (intros; simp_all; done) | (intros; simp_all; omega), ?_⟩; try simp only [go_sem, Nat.reduceAdd, Nat.reduceLeDiff, Nat.reduceSub, Int.reduceToNat, reduceCtorEq]))
    refine AP.rename 2 8 rfl rfl rfl ?_
    simp only [go_sem, Nat.reduceAdd, Nat.reduceLeDiff, Nat.reduceSub, Int.reduceToNat, reduceCtorEq]
    refine AP.drawE 13 (Tree.node [] [0, 1, 2, 3, 4, 5, 6] [7] [Tree.node [0, 1, 2, 3, 4, 5] [] [8] [Tree.node [0] [9, 10, 11] [12] [Tree.node [] [] [] []]]]) (by kernel_rfl) rfl (by kernel_rfl) (by kernel_rfl) ?_
    refine vd_node ?_
    simp only [go_sem, Nat.reduceAdd, Nat.reduceLeDiff, Nat.reduceSub, Int.reduceToNat, reduceCtorEq]
    refine AQ.go (by kernel_rfl) ?_
    simp only [go_sem, Nat.reduceAdd, Nat.reduceLeDiff, Nat.reduceSub, Int.reduceToNat, reduceCtorEq]
    refine AQ.nx rfl ?_
    simp only [go_sem, Nat.reduceAdd, Nat.reduceLeDiff, Nat.reduceSub, Int.reduceToNat, reduceCtorEq]
    refine AQ.kill 8 ?_
    simp only [go_sem, Nat.reduceAdd, Nat.reduceLeDiff, Nat.reduceSub, Int.reduceToNat, reduceCtorEq]
    refine AQ.append (hnb := rfl) (rows := blkR x.recs) (es := 0) (by kernel_rfl) rfl rfl rfl (by rfl) Try.tk25 Try.sz9 (by show Option.map _ (zro Try.prog 9) = _; rw [Try.zr9]; rfl) Try.by9 (by first | rfl | (simp only [blkR_len, List.length_cons, List.length_nil]; done) | (simp only [blkR_len, List.length_cons, List.length_nil]; omega)) (by simp only [blkR_len, List.length_cons, List.length_nil]; omega) (by simp only [blkR_len, List.length_cons, List.length_nil]; omega) ?_
    simp only [go_sem, Nat.reduceAdd, Nat.reduceLeDiff, Nat.reduceSub, Int.reduceToNat, reduceCtorEq]
    refine AQ.nx rfl ?_
    simp only [go_sem, Nat.reduceAdd, Nat.reduceLeDiff, Nat.reduceSub, Int.reduceToNat, reduceCtorEq]
    refine AQ.go (by kernel_rfl) ?_
    simp only [go_sem, Nat.reduceAdd, Nat.reduceLeDiff, Nat.reduceSub, Int.reduceToNat, reduceCtorEq]
    refine AQ.nx rfl ?_
    simp only [go_sem, Nat.reduceAdd, Nat.reduceLeDiff, Nat.reduceSub, Int.reduceToNat, reduceCtorEq]
    refine AQ.done ?_
    repeat (first | refine xA ?_ | refine xB ?_ | refine xC ?_ | refine xE ?_ | refine xD ?_ | refine xK ?_ | refine xS ?_ | refine xM ?_ | refine xT ?_ | refine xF ?_ | ((first | refine xR ?_ | refine xW ?_ | refine vq_id ?_); simp only [go_sem, Nat.reduceAdd, Nat.reduceLeDiff, Nat.reduceSub, Int.reduceToNat, reduceCtorEq]) | (refine ⟨by first | omega | (intros; simp_all; done) | (intros; simp_all; omega), ?_⟩; try simp only [go_sem, Nat.reduceAdd, Nat.reduceLeDiff, Nat.reduceSub, Int.reduceToNat, reduceCtorEq]))
    refine AP.drawE 12 (Tree.node [] [0, 1, 2, 3, 4, 5, 6] [7] [Tree.node [1, 3] [8, 9, 10] [11] [Tree.node [] [] [] []]]) (by kernel_rfl) rfl (by kernel_rfl) (by kernel_rfl) ?_
    refine vd_node ?_
    simp only [go_sem, Nat.reduceAdd, Nat.reduceLeDiff, Nat.reduceSub, Int.reduceToNat, reduceCtorEq]
    repeat' (first | with_reducible exact True.intro | with_reducible refine And.intro (by omega) ?_ | with_reducible refine And.intro ?_ ?_ | omega | fail | (refine AQ.nx rfl ?_; first | (refine And.intro ?_ ?_ <;> (try simp only [go_sem, Nat.reduceAdd, Nat.reduceLeDiff, Nat.reduceSub, Int.reduceToNat, reduceCtorEq])) | simp only [go_sem, Nat.reduceAdd, Nat.reduceLeDiff, Nat.reduceSub, Int.reduceToNat, reduceCtorEq]) | refine AQ.done ?_ | (refine AQ.go (by kernel_rfl) ?_; simp only [go_sem, Nat.reduceAdd, Nat.reduceLeDiff, Nat.reduceSub, Int.reduceToNat, reduceCtorEq]; (refine AQ.nx rfl ?_; first | (refine And.intro ?_ ?_ <;> (try simp only [go_sem, Nat.reduceAdd, Nat.reduceLeDiff, Nat.reduceSub, Int.reduceToNat, reduceCtorEq])) | simp only [go_sem, Nat.reduceAdd, Nat.reduceLeDiff, Nat.reduceSub, Int.reduceToNat, reduceCtorEq])))
    refine AE.forgets [3, 4, 5, 6] rfl ?_
    simp only [go_sem, Nat.reduceAdd, Nat.reduceLeDiff, Nat.reduceSub, Int.reduceToNat, reduceCtorEq]
    refine AE.rename 7 3 rfl rfl rfl ?_
    simp only [go_sem, Nat.reduceAdd, Nat.reduceLeDiff, Nat.reduceSub, Int.reduceToNat, reduceCtorEq]
    refine AE.rename 8 4 rfl rfl rfl ?_
    simp only [go_sem, Nat.reduceAdd, Nat.reduceLeDiff, Nat.reduceSub, Int.reduceToNat, reduceCtorEq]
    refine AE.order [4, 3, 0] rfl ?_
    simp only [go_sem, Nat.reduceAdd, Nat.reduceLeDiff, Nat.reduceSub, Int.reduceToNat, reduceCtorEq]
    refine AE.fall rfl trivial ⟨?_, rfl⟩
    rw [hZ']
    have : blkR (x.recs ++ [s]) = blkR x.recs ++ [[Si s]] := by simp [blkR]
    simp only [Jn.H, Jn.cs, List.length_append, blkR_len, this]
    rfl
end Go.Proofs.Ytoafanbfminhcaa
end

section
namespace Go.Proofs.Ytoafanbfminhcaa
open Go Go.AL Go.RowKit
set_option maxRecDepth 10000
set_option maxHeartbeats 4000000
theorem blkR_plain (B : List Bs) : rowsPlain (blkR B) := fun r hr => by
  simp only [blkR, List.mem_map] at hr
  obtain ⟨s, _, rfl⟩ := hr
  rfl
theorem wrR_plain (W : List Wr) : rowsPlain (wrR W) := fun r hr => by
  simp only [wrR, List.mem_map] at hr
  obtain ⟨s, _, rfl⟩ := hr
  rfl
abbrev Jn.D (x : Jn) : Dk := ⟨x.B, x.W⟩
theorem room_spec (x : Jn) (hB : x.B.length ≤ 1000000) (hu : x.used ≤ x.B.length / 2) : PFn Try.prog 39 [.im (.pt x.ic)] (Iv (x.B.length / 2 - x.used : Nat)) := by
  have hw : IntKind.i64.wrap (((x.B.length / 2 : Nat) : Int) - (x.used : Int)) = ((x.B.length / 2 - x.used : Nat) : Int) := by
    rw [wr (by omega)]; omega
  refine ACall.walk [0, 2, 4] [] Try.func39 rfl Try.ntmps39 (by kernel_rfl) (by rfl) rfl fun W own I0 φ0 => ?_
  repeat (first | refine xA ?_ | refine xB ?_ | refine xC ?_ | refine xE ?_ | refine xD ?_ | refine xK ?_ | refine xS ?_ | refine xM ?_ | refine xT ?_ | refine xF ?_ | ((first | refine xR ?_ | refine xW ?_ | refine vq_id ?_); simp only [go_sem, Nat.reduceAdd, Nat.reduceLeDiff, Nat.reduceSub, Int.reduceToNat, reduceCtorEq]) | (refine ⟨by first | omega | (intros; simp_all; done) | (intros; simp_all; omega), ?_⟩; try simp only [go_sem, Nat.reduceAdd, Nat.reduceLeDiff, Nat.reduceSub, Int.reduceToNat, reduceCtorEq]))
  refine AP.drawE 9 (Tree.node [] [0, 2, 3, 4, 5, 6] [1] [Tree.node [2, 3, 4, 5, 6] [7, 8] [] []]) (by kernel_rfl) rfl (by kernel_rfl) (by kernel_rfl) ?_
  refine vd_node ?_
  simp only [go_sem, Nat.reduceAdd, Nat.reduceLeDiff, Nat.reduceSub, Int.reduceToNat, reduceCtorEq]
  refine AQ.fn (by kernel_rfl) rfl rfl rfl (size_spec x.B _ hB) rfl ?_
  simp only [go_sem, Nat.reduceAdd, Nat.reduceLeDiff, Nat.reduceSub, Int.reduceToNat, reduceCtorEq]
  refine AQ.nx rfl ?_
  simp only [go_sem, Nat.reduceAdd, Nat.reduceLeDiff, Nat.reduceSub, Int.reduceToNat, reduceCtorEq, hw]
  refine AQ.done ?_
  repeat (first | refine xA ?_ | refine xB ?_ | refine xC ?_ | refine xE ?_ | refine xD ?_ | refine xK ?_ | refine xS ?_ | refine xM ?_ | refine xT ?_ | refine xF ?_ | ((first | refine xR ?_ | refine xW ?_ | refine vq_id ?_); simp only [go_sem, Nat.reduceAdd, Nat.reduceLeDiff, Nat.reduceSub, Int.reduceToNat, reduceCtorEq]) | (refine ⟨by first | omega | (intros; simp_all; done) | (intros; simp_all; omega), ?_⟩; try simp only [go_sem, Nat.reduceAdd, Nat.reduceLeDiff, Nat.reduceSub, Int.reduceToNat, reduceCtorEq]))
  exact AE.ret0 rfl ⟨rfl, trivial⟩ rfl ⟨rfl, rfl⟩
theorem disk_own (x : Jn) (hd : x.D.Sz) : ACall Try.prog 17 [.im (.pt x.ic)] [] (fun r H' => H' = [(1, .vec 9 1 (blkR x.B)), (2, .vec 97 2 (wrR x.W))] ∧ r = .agg [.os 1 1 0 x.B.length, .os 2 2 0 x.W.length]) := by
  have hc := copied_own x.D hd
  refine ACall.walk [0, 2, 4] [2] Try.func17 rfl Try.ntmps17 (by kernel_rfl) (by rfl) rfl fun W own I0 φ0 => ?_
  repeat (first | refine xA ?_ | refine xB ?_ | refine xC ?_ | refine xE ?_ | refine xD ?_ | refine xK ?_ | refine xS ?_ | refine xM ?_ | refine xT ?_ | refine xF ?_ | ((first | refine xR ?_ | refine xW ?_ | refine vq_id ?_); simp only [go_sem, Nat.reduceAdd, Nat.reduceLeDiff, Nat.reduceSub, Int.reduceToNat, reduceCtorEq]) | (refine ⟨by first | omega | (intros; simp_all; done) | (intros; simp_all; omega), ?_⟩; try simp only [go_sem, Nat.reduceAdd, Nat.reduceLeDiff, Nat.reduceSub, Int.reduceToNat, reduceCtorEq]))
  refine AQ.callv (by kernel_rfl) rfl rfl rfl hc fun r' H' ⟨e1, e2⟩ => ?_
  subst e1; subst e2
  simp only [go_sem, Nat.reduceAdd, Nat.reduceLeDiff, Nat.reduceSub, Int.reduceToNat, reduceCtorEq]
  repeat (first | refine xA ?_ | refine xB ?_ | refine xC ?_ | refine xE ?_ | refine xD ?_ | refine xK ?_ | refine xS ?_ | refine xM ?_ | refine xT ?_ | refine xF ?_ | ((first | refine xR ?_ | refine xW ?_ | refine vq_id ?_); simp only [go_sem, Nat.reduceAdd, Nat.reduceLeDiff, Nat.reduceSub, Int.reduceToNat, reduceCtorEq]) | (refine ⟨by first | omega | (intros; simp_all; done) | (intros; simp_all; omega), ?_⟩; try simp only [go_sem, Nat.reduceAdd, Nat.reduceLeDiff, Nat.reduceSub, Int.reduceToNat, reduceCtorEq]))
  refine AE.rename 2 1 rfl rfl rfl ?_
  simp only [go_sem, Nat.reduceAdd, Nat.reduceLeDiff, Nat.reduceSub, Int.reduceToNat, reduceCtorEq]
  refine AE.rename 3 2 rfl rfl rfl ?_
  simp only [go_sem, Nat.reduceAdd, Nat.reduceLeDiff, Nat.reduceSub, Int.reduceToNat, reduceCtorEq]
  refine AE.order [1, 2, 0] rfl ?_
  simp only [go_sem, Nat.reduceAdd, Nat.reduceLeDiff, Nat.reduceSub, Int.reduceToNat, reduceCtorEq]
  exact AE.retD [0] rfl ⟨⟨rfl, Nat.le_of_ble_eq_true (by kernel_rfl)⟩, trivial⟩ rfl ⟨rfl, rfl⟩
theorem records_own (x : Jn) (s : Bs) (l : List Bs) (hr : x.recs = s :: l) (hl : l.length ≤ 1000000) : ACall Try.prog 46 [.im (.pt x.ic)] [] (fun r H' => H' = [(0, .vec 9 1 (blkR l))] ∧ r = .tup [Sv s, .os 0 1 0 l.length]) := by
  have hc := clone15o l (by omega)
  have hl1 : (blkR x.recs).length = l.length + 1 := by rw [hr, blkR_len]; rfl
  obtain ⟨B, W', half, recs, used, first, last, next⟩ := x
  simp only at hr hl1
  subst hr
  have ht : List.take l.length (blkR l) = blkR l := take_all' _ _ (by rw [blkR_len]; exact Nat.le_refl _)
  have hg : (blkR (s :: l)).getD 0 [] = [Si s] := rfl
  have hd : List.drop 1 (blkR (s :: l)) = blkR l := rfl
  have hb : (((l.length + 1 : Nat) : Int) == 0) = false := by simp; omega
  refine ACall.walk [0, 2, 3, 14] [] Try.func46 rfl Try.ntmps46 (by kernel_rfl) (by rfl) rfl fun W own I0 φ0 => ?_
  repeat (first | refine xA ?_ | refine xB ?_ | refine xC ?_ | refine xE ?_ | refine xD ?_ | refine xK ?_ | refine xS ?_ | refine xM ?_ | refine xT ?_ | refine xF ?_ | ((first | refine xR ?_ | refine xW ?_ | refine vq_id ?_); simp only [go_sem, Nat.reduceAdd, Nat.reduceLeDiff, Nat.reduceSub, Int.reduceToNat, reduceCtorEq, hl1, hb]) | (refine ⟨by first | omega | (intros; simp_all; done) | (intros; simp_all; omega), ?_⟩; try simp only [go_sem, Nat.reduceAdd, Nat.reduceLeDiff, Nat.reduceSub, Int.reduceToNat, reduceCtorEq, hl1, hb]))
  simp only [go_sem, Nat.reduceAdd, Nat.reduceLeDiff, Nat.reduceSub, Int.reduceToNat, reduceCtorEq]
  refine AP.drawE 16 (Tree.node [] [0, 1, 2, 3, 4, 5, 6, 7, 8, 9, 10, 11, 12] [13] [Tree.node [0, 1, 2, 3, 4, 5, 6] [14, 15] [] []]) (by kernel_rfl) rfl (by kernel_rfl) (by kernel_rfl) ?_
  refine vd_node ?_
  simp only [go_sem, Nat.reduceAdd, Nat.reduceLeDiff, Nat.reduceSub, Int.reduceToNat, reduceCtorEq, hl1, hg, hd]
  repeat (with_reducible refine And.intro (by omega) ?_)
  refine AQ.callv (by kernel_rfl) rfl rfl rfl hc fun r' H' ⟨e1, e2⟩ => ?_
  subst e1; subst e2
  simp only [go_sem, Nat.reduceAdd, Nat.reduceLeDiff, Nat.reduceSub, Int.reduceToNat, reduceCtorEq]
  refine AQ.nx rfl ?_
  simp only [go_sem, Nat.reduceAdd, Nat.reduceLeDiff, Nat.reduceSub, Int.reduceToNat, reduceCtorEq, hg, blkR_len, List.length_cons]
  repeat (with_reducible refine And.intro (by omega) ?_)
  refine AQ.done ?_
  repeat (first | refine xA ?_ | refine xB ?_ | refine xC ?_ | refine xE ?_ | refine xD ?_ | refine xK ?_ | refine xS ?_ | refine xM ?_ | refine xT ?_ | refine xF ?_ | ((first | refine xR ?_ | refine xW ?_ | refine vq_id ?_); simp only [go_sem, Nat.reduceAdd, Nat.reduceLeDiff, Nat.reduceSub, Int.reduceToNat, reduceCtorEq]) | (refine ⟨by first | omega | (intros; simp_all; done) | (intros; simp_all; omega), ?_⟩; try simp only [go_sem, Nat.reduceAdd, Nat.reduceLeDiff, Nat.reduceSub, Int.reduceToNat, reduceCtorEq]))
  exact AE.retD [] rfl ⟨rfl, rfl, trivial⟩ rfl ⟨rfl, rfl⟩
end Go.Proofs.Ytoafanbfminhcaa
end

section
namespace Go.Proofs.Ytoafanbfminhcaa
open Go Go.AL Go.RowKit
set_option maxRecDepth 10000
set_option maxHeartbeats 4000000
structure Jn.Sz (x : Jn) : Prop where
  b : x.B.length ≤ 2000
  h : x.half = 0 ∨ x.half = 1
  u : x.used ≤ x.B.length / 2
  f : x.first ≤ 4294967296
  l : x.last ≤ 4294967296
  n : x.next ≤ 4294967296
  n1 : 1 ≤ x.next
  w : x.W.length ≤ 10000
  r : x.recs.length ≤ 2000
def Jn.appE (x : Jn) (s : Bs) : Int := if 10000 < s.length then 4 else if x.B.length / 2 < x.used + nparts s ∨ 4294967296 < x.next + nparts s ∨ 10000 < x.W.length + nparts s then 8 else 0
theorem nparts_le (s : Bs) (h : s.length ≤ 10000) : nparts s ≤ 527 := by unfold nparts; omega
theorem nparts_pos (s : Bs) : 1 ≤ nparts s := by unfold nparts; omega
theorem append_long (x : Jn) (s : Bs) (hx : x.Sz) (h : 10000 < s.length) (hs : s.length ≤ 1000000) : ACall Try.prog 19 [.ob 0 0, Sv s] (x.H 1 2) (fun r H' => H' = x.H 1 2 ∧ r = Iv 4) := by
  simp only [go_sem, Nat.reduceAdd, Nat.reduceLeDiff, Nat.reduceSub, Int.reduceToNat, reduceCtorEq, Jn.H, Jn.cs]
  refine ACall.walk [0, 1, 4, 5, 7, 10, 14] [] Try.func19 rfl Try.ntmps19 (by kernel_rfl) (by rfl) rfl fun W own I0 φ0 => ?_
  repeat (first | refine xA ?_ | refine xB ?_ | refine xC ?_ | refine xE ?_ | refine xD ?_ | refine xK ?_ | refine xS ?_ | refine xM ?_ | refine xT ?_ | refine xF ?_ | ((first | refine xR ?_ | refine xW ?_ | refine vq_id ?_); simp only [go_sem, Nat.reduceAdd, Nat.reduceLeDiff, Nat.reduceSub, Int.reduceToNat, reduceCtorEq]) | (refine ⟨by first | omega | (intros; simp_all; done) | (intros; simp_all; omega), ?_⟩; try simp only [go_sem, Nat.reduceAdd, Nat.reduceLeDiff, Nat.reduceSub, Int.reduceToNat, reduceCtorEq]))
  refine AQ.fn (by kernel_rfl) rfl rfl rfl (blocksOf_spec s (by omega)) rfl ?_
  repeat (first | refine xA ?_ | refine xB ?_ | refine xC ?_ | refine xE ?_ | refine xD ?_ | refine xK ?_ | refine xS ?_ | refine xM ?_ | refine xT ?_ | refine xF ?_ | ((first | refine xR ?_ | refine xW ?_ | refine vq_id ?_); simp only [go_sem, Nat.reduceAdd, Nat.reduceLeDiff, Nat.reduceSub, Int.reduceToNat, reduceCtorEq, BA_size]) | (refine ⟨by first | omega | (intros; simp_all; done) | (intros; simp_all; omega), ?_⟩; try simp only [go_sem, Nat.reduceAdd, Nat.reduceLeDiff, Nat.reduceSub, Int.reduceToNat, reduceCtorEq, BA_size]))
  refine AP.cond_true rfl (by simp only [go_sem, Nat.reduceAdd, Nat.reduceLeDiff, Nat.reduceSub, Int.reduceToNat, reduceCtorEq]; refine congrArg (fun b => some (AV.im (IV.v (Value.bool b)))) ?_; (first | (simp only [Bool.or_eq_true, Bool.and_eq_true, Bool.not_eq_true', Bool.not_eq_false', Bool.and_eq_false_iff, Bool.or_eq_false_iff, decide_eq_true_eq, decide_eq_false_iff_not, beq_iff_eq, bne_iff_ne, beq_eq_false_iff_ne, bne_eq_false_iff_eq, ne_eq]; omega) | (simp; done) | (simp; omega) | (simp_all; done) | (simp_all; omega))) ?_
  repeat (first | refine xA ?_ | refine xB ?_ | refine xC ?_ | refine xE ?_ | refine xD ?_ | refine xK ?_ | refine xS ?_ | refine xM ?_ | refine xT ?_ | refine xF ?_ | ((first | refine xR ?_ | refine xW ?_ | refine vq_id ?_); simp only [go_sem, Nat.reduceAdd, Nat.reduceLeDiff, Nat.reduceSub, Int.reduceToNat, reduceCtorEq]) | (refine ⟨by first | omega | (intros; simp_all; done) | (intros; simp_all; omega), ?_⟩; try simp only [go_sem, Nat.reduceAdd, Nat.reduceLeDiff, Nat.reduceSub, Int.reduceToNat, reduceCtorEq]))
  exact AE.ret rfl ⟨rfl, trivial⟩ ⟨rfl, rfl⟩
theorem append_full (x : Jn) (half : Nat) (s : Bs) (hx : x.Sz) (hh : x.half = (half : Int)) (h : x.appE s = 8) : ACall Try.prog 19 [.ob 0 0, Sv s] (x.H 1 2) (fun r H' => H' = x.H 1 2 ∧ r = Iv 8) := by
  obtain ⟨hb, hhf, hu, hf, hl, hn, hn1, hw, hr⟩ := hx
  unfold Jn.appE at h
  split at h
  · cases h
  rename_i hs
  split at h
  rename_i hc
  case isFalse => cases h
  have hnp := nparts_le s (by omega)
  have hh1 := nparts_pos s
  have hsz := size_spec x.B (x.ic.drop 1) (by omega)
  obtain ⟨B, W', half', recs, used, first, last, next⟩ := x
  simp only at hb hhf hu hf hl hn hn1 hw hr hs hc hsz hh
  have w1 := wr (x := (used : Int) + (nparts s : Int)) (by omega)
  have w2 := wr (x := (next : Int) + (nparts s : Int)) (by omega)
  have w3 := wr (x := (next : Int) + (nparts s : Int) - 1) (by omega)
  have w4 := wr (x := (W'.length : Int) + (nparts s : Int)) (by omega)
  have w5 := wr (x := (nparts s : Int)) (by omega)
  subst hh
  simp only [go_sem, Nat.reduceAdd, Nat.reduceLeDiff, Nat.reduceSub, Int.reduceToNat, reduceCtorEq, Jn.H, Jn.cs]
  refine ACall.walk [0, 1, 4, 5, 7, 10, 14] [] Try.func19 rfl Try.ntmps19 (by kernel_rfl) (by rfl) rfl fun W own I0 φ0 => ?_
  repeat (first | refine xA ?_ | refine xB ?_ | refine xC ?_ | refine xE ?_ | refine xD ?_ | refine xK ?_ | refine xS ?_ | refine xM ?_ | refine xT ?_ | refine xF ?_ | ((first | refine xR ?_ | refine xW ?_ | refine vq_id ?_); simp only [go_sem, Nat.reduceAdd, Nat.reduceLeDiff, Nat.reduceSub, Int.reduceToNat, reduceCtorEq]) | (refine ⟨by first | omega | (intros; simp_all; done) | (intros; simp_all; omega), ?_⟩; try simp only [go_sem, Nat.reduceAdd, Nat.reduceLeDiff, Nat.reduceSub, Int.reduceToNat, reduceCtorEq]))
  refine AQ.fn (by kernel_rfl) rfl rfl rfl (blocksOf_spec s (by omega)) rfl ?_
  repeat (first | refine xA ?_ | refine xB ?_ | refine xC ?_ | refine xE ?_ | refine xD ?_ | refine xK ?_ | refine xS ?_ | refine xM ?_ | refine xT ?_ | refine xF ?_ | ((first | refine xR ?_ | refine xW ?_ | refine vq_id ?_); simp only [go_sem, Nat.reduceAdd, Nat.reduceLeDiff, Nat.reduceSub, Int.reduceToNat, reduceCtorEq, BA_size]) | (refine ⟨by first | omega | (intros; simp_all; done) | (intros; simp_all; omega), ?_⟩; try simp only [go_sem, Nat.reduceAdd, Nat.reduceLeDiff, Nat.reduceSub, Int.reduceToNat, reduceCtorEq, BA_size]))
  refine AP.cond_false rfl (by simp only [go_sem, Nat.reduceAdd, Nat.reduceLeDiff, Nat.reduceSub, Int.reduceToNat, reduceCtorEq]; refine congrArg (fun b => some (AV.im (IV.v (Value.bool b)))) ?_; (first | (simp only [Bool.or_eq_true, Bool.and_eq_true, Bool.not_eq_true', Bool.not_eq_false', Bool.and_eq_false_iff, Bool.or_eq_false_iff, decide_eq_true_eq, decide_eq_false_iff_not, beq_iff_eq, bne_iff_ne, beq_eq_false_iff_ne, bne_eq_false_iff_eq, ne_eq]; omega) | (simp; done) | (simp; omega) | (simp_all; done) | (simp_all; omega))) ?_
  repeat (first | refine xA ?_ | refine xB ?_ | refine xC ?_ | refine xE ?_ | refine xD ?_ | refine xK ?_ | refine xS ?_ | refine xM ?_ | refine xT ?_ | refine xF ?_ | ((first | refine xR ?_ | refine xW ?_ | refine vq_id ?_); simp only [go_sem, Nat.reduceAdd, Nat.reduceLeDiff, Nat.reduceSub, Int.reduceToNat, reduceCtorEq, BA_size]) | (refine ⟨by first | omega | (intros; simp_all; done) | (intros; simp_all; omega), ?_⟩; try simp only [go_sem, Nat.reduceAdd, Nat.reduceLeDiff, Nat.reduceSub, Int.reduceToNat, reduceCtorEq, BA_size]))
  refine AP.drawE 32 (Tree.node [] [0, 1, 2, 3, 4, 5, 6, 7] [8] [Tree.node [0, 1, 2, 3, 4, 5, 6] [9, 10, 11, 12, 13, 14, 15, 16, 17, 18, 19, 20, 21, 22, 23, 24, 25, 26, 27, 28, 29, 30, 31] [] []]) (by kernel_rfl) rfl (by kernel_rfl) (by kernel_rfl) ?_
  refine vd_node ?_
  simp only [go_sem, Nat.reduceAdd, Nat.reduceLeDiff, Nat.reduceSub, Int.reduceToNat, reduceCtorEq, w1]
  refine AQ.fnL ([.im (.pt (Jn.ic ⟨B, W', half, recs, used, first, last, next⟩))]) (by kernel_rfl) rfl rfl rfl (by ((try simp only [List.nil_append, List.append_nil, List.map_cons, List.map_nil, AV.st, constAV]); repeat (first | with_reducible exact LentC.nil | with_reducible exact LentAs.nil | with_reducible refine LentC.cons ?_ ?_ | with_reducible refine LentAs.cons ?_ ?_ | with_reducible exact Lent.im _ | with_reducible exact LentA.im _ | with_reducible refine LentA.of ?_ | with_reducible refine LentA.agg ?_ | ((with_reducible apply Lent.osw); rfl; simp only [blkR_len, wrR_len, byteR_len, List.length_append, List.length_cons, List.length_nil]) | ((with_reducible apply Lent.ob0); rfl)))) (hsz) rfl (fun _ => rfl) ?_
  simp only [go_sem, Nat.reduceAdd, Nat.reduceLeDiff, Nat.reduceSub, Int.reduceToNat, reduceCtorEq, w1]
  refine AQ.nx rfl ?_
  simp only [go_sem, Nat.reduceAdd, Nat.reduceLeDiff, Nat.reduceSub, Int.reduceToNat, reduceCtorEq, w1, w2, w3, w4, w5]
  refine And.intro (fun h => ⟨h, h⟩) (And.intro (fun h => ⟨h, h⟩) (AQ.done ?_))
  repeat (first | refine xA ?_ | refine xB ?_ | refine xC ?_ | refine xE ?_ | refine xD ?_ | refine xK ?_ | refine xS ?_ | refine xM ?_ | refine xT ?_ | refine xF ?_ | ((first | refine xR ?_ | refine xW ?_ | refine vq_id ?_); simp only [go_sem, Nat.reduceAdd, Nat.reduceLeDiff, Nat.reduceSub, Int.reduceToNat, reduceCtorEq]) | (refine ⟨by first | omega | (intros; simp_all; done) | (intros; simp_all; omega), ?_⟩; try simp only [go_sem, Nat.reduceAdd, Nat.reduceLeDiff, Nat.reduceSub, Int.reduceToNat, reduceCtorEq]))
  refine AP.cond_true rfl (by simp only [go_sem, Nat.reduceAdd, Nat.reduceLeDiff, Nat.reduceSub, Int.reduceToNat, reduceCtorEq]; refine congrArg (fun b => some (AV.im (IV.v (Value.bool b)))) ?_; (first | (simp only [Bool.or_eq_true, Bool.and_eq_true, Bool.not_eq_true', Bool.not_eq_false', Bool.and_eq_false_iff, Bool.or_eq_false_iff, decide_eq_true_eq, decide_eq_false_iff_not, beq_iff_eq, bne_iff_ne, beq_eq_false_iff_ne, bne_eq_false_iff_eq, ne_eq]; omega) | (simp; done) | (simp; omega) | (simp_all; done) | (simp_all; omega))) ?_
  repeat (first | refine xA ?_ | refine xB ?_ | refine xC ?_ | refine xE ?_ | refine xD ?_ | refine xK ?_ | refine xS ?_ | refine xM ?_ | refine xT ?_ | refine xF ?_ | ((first | refine xR ?_ | refine xW ?_ | refine vq_id ?_); simp only [go_sem, Nat.reduceAdd, Nat.reduceLeDiff, Nat.reduceSub, Int.reduceToNat, reduceCtorEq]) | (refine ⟨by first | omega | (intros; simp_all; done) | (intros; simp_all; omega), ?_⟩; try simp only [go_sem, Nat.reduceAdd, Nat.reduceLeDiff, Nat.reduceSub, Int.reduceToNat, reduceCtorEq]))
  exact AE.ret rfl ⟨rfl, trivial⟩ ⟨rfl, rfl⟩
theorem append_ok (x : Jn) (half : Nat) (s : Bs) (hx : x.Sz) (hh : x.half = (half : Int)) (h : x.appE s = 0) : ACall Try.prog 19 [.ob 0 0, Sv s] (x.H 1 2) (fun r H' => H' = (x.wrote half x.used x.last s).H 3 4 ∧ r = Iv 0) := by
  obtain ⟨hb, hhf, hu, hf, hl, hn, hn1, hw, hr⟩ := hx
  unfold Jn.appE at h
  split at h
  · cases h
  rename_i hs
  split at h
  · cases h
  rename_i hc
  have hnp := nparts_le s (by omega)
  have hwr := write_spec x half x.used x.last s (by omega) (by omega) (by omega) (by omega) (by omega) (by omega) (by omega) (by omega)
  have hh1 := nparts_pos s
  have hsz := size_spec x.B (x.ic.drop 1) (by omega)
  obtain ⟨Z, hZ⟩ : ∃ Z, (x.wrote half x.used x.last s) = Z := ⟨_, rfl⟩
  rw [hZ] at hwr ⊢
  obtain ⟨B, W', half', recs, used, first, last, next⟩ := x
  simp only at hb hhf hu hf hl hn hn1 hw hr hs hc hsz hh
  have w1 := wr (x := (used : Int) + (nparts s : Int)) (by omega)
  have w2 := wr (x := (next : Int) + (nparts s : Int)) (by omega)
  have w3 := wr (x := (next : Int) + (nparts s : Int) - 1) (by omega)
  have w4 := wr (x := (W'.length : Int) + (nparts s : Int)) (by omega)
  have w5 := wr (x := (nparts s : Int)) (by omega)
  subst hh
  simp only [go_sem, Nat.reduceAdd, Nat.reduceLeDiff, Nat.reduceSub, Int.reduceToNat, reduceCtorEq, Jn.H, Jn.cs]
  refine ACall.walk [0, 1, 4, 5, 7, 10, 14] [] Try.func19 rfl Try.ntmps19 (by kernel_rfl) (by rfl) rfl fun W own I0 φ0 => ?_
  repeat (first | refine xA ?_ | refine xB ?_ | refine xC ?_ | refine xE ?_ | refine xD ?_ | refine xK ?_ | refine xS ?_ | refine xM ?_ | refine xT ?_ | refine xF ?_ | ((first | refine xR ?_ | refine xW ?_ | refine vq_id ?_); simp only [go_sem, Nat.reduceAdd, Nat.reduceLeDiff, Nat.reduceSub, Int.reduceToNat, reduceCtorEq]) | (refine ⟨by first | omega | (intros; simp_all; done) | (intros; simp_all; omega), ?_⟩; try simp only [go_sem, Nat.reduceAdd, Nat.reduceLeDiff, Nat.reduceSub, Int.reduceToNat, reduceCtorEq]))
  refine AQ.fn (by kernel_rfl) rfl rfl rfl (blocksOf_spec s (by omega)) rfl ?_
  repeat (first | refine xA ?_ | refine xB ?_ | refine xC ?_ | refine xE ?_ | refine xD ?_ | refine xK ?_ | refine xS ?_ | refine xM ?_ | refine xT ?_ | refine xF ?_ | ((first | refine xR ?_ | refine xW ?_ | refine vq_id ?_); simp only [go_sem, Nat.reduceAdd, Nat.reduceLeDiff, Nat.reduceSub, Int.reduceToNat, reduceCtorEq, BA_size]) | (refine ⟨by first | omega | (intros; simp_all; done) | (intros; simp_all; omega), ?_⟩; try simp only [go_sem, Nat.reduceAdd, Nat.reduceLeDiff, Nat.reduceSub, Int.reduceToNat, reduceCtorEq, BA_size]))
  refine AP.cond_false rfl (by simp only [go_sem, Nat.reduceAdd, Nat.reduceLeDiff, Nat.reduceSub, Int.reduceToNat, reduceCtorEq]; refine congrArg (fun b => some (AV.im (IV.v (Value.bool b)))) ?_; (first | (simp only [Bool.or_eq_true, Bool.and_eq_true, Bool.not_eq_true', Bool.not_eq_false', Bool.and_eq_false_iff, Bool.or_eq_false_iff, decide_eq_true_eq, decide_eq_false_iff_not, beq_iff_eq, bne_iff_ne, beq_eq_false_iff_ne, bne_eq_false_iff_eq, ne_eq]; omega) | (simp; done) | (simp; omega) | (simp_all; done) | (simp_all; omega))) ?_
  repeat (first | refine xA ?_ | refine xB ?_ | refine xC ?_ | refine xE ?_ | refine xD ?_ | refine xK ?_ | refine xS ?_ | refine xM ?_ | refine xT ?_ | refine xF ?_ | ((first | refine xR ?_ | refine xW ?_ | refine vq_id ?_); simp only [go_sem, Nat.reduceAdd, Nat.reduceLeDiff, Nat.reduceSub, Int.reduceToNat, reduceCtorEq, BA_size]) | (refine ⟨by first | omega | (intros; simp_all; done) | (intros; simp_all; omega), ?_⟩; try simp only [go_sem, Nat.reduceAdd, Nat.reduceLeDiff, Nat.reduceSub, Int.reduceToNat, reduceCtorEq, BA_size]))
  refine AP.drawE 32 (Tree.node [] [0, 1, 2, 3, 4, 5, 6, 7] [8] [Tree.node [0, 1, 2, 3, 4, 5, 6] [9, 10, 11, 12, 13, 14, 15, 16, 17, 18, 19, 20, 21, 22, 23, 24, 25, 26, 27, 28, 29, 30, 31] [] []]) (by kernel_rfl) rfl (by kernel_rfl) (by kernel_rfl) ?_
  refine vd_node ?_
  simp only [go_sem, Nat.reduceAdd, Nat.reduceLeDiff, Nat.reduceSub, Int.reduceToNat, reduceCtorEq, w1]
  refine AQ.fnL ([.im (.pt (Jn.ic ⟨B, W', half, recs, used, first, last, next⟩))]) (by kernel_rfl) rfl rfl rfl (by ((try simp only [List.nil_append, List.append_nil, List.map_cons, List.map_nil, AV.st, constAV]); repeat (first | with_reducible exact LentC.nil | with_reducible exact LentAs.nil | with_reducible refine LentC.cons ?_ ?_ | with_reducible refine LentAs.cons ?_ ?_ | with_reducible exact Lent.im _ | with_reducible exact LentA.im _ | with_reducible refine LentA.of ?_ | with_reducible refine LentA.agg ?_ | ((with_reducible apply Lent.osw); rfl; simp only [blkR_len, wrR_len, byteR_len, List.length_append, List.length_cons, List.length_nil]) | ((with_reducible apply Lent.ob0); rfl)))) (hsz) rfl (fun _ => rfl) ?_
  simp only [go_sem, Nat.reduceAdd, Nat.reduceLeDiff, Nat.reduceSub, Int.reduceToNat, reduceCtorEq, w1]
  refine AQ.nx rfl ?_
  simp only [go_sem, Nat.reduceAdd, Nat.reduceLeDiff, Nat.reduceSub, Int.reduceToNat, reduceCtorEq, w1, w2, w3, w4, w5]
  refine And.intro (fun h => ⟨h, h⟩) (And.intro (fun h => ⟨h, h⟩) (AQ.done ?_))
  repeat (first | refine xA ?_ | refine xB ?_ | refine xC ?_ | refine xE ?_ | refine xD ?_ | refine xK ?_ | refine xS ?_ | refine xM ?_ | refine xT ?_ | refine xF ?_ | ((first | refine xR ?_ | refine xW ?_ | refine vq_id ?_); simp only [go_sem, Nat.reduceAdd, Nat.reduceLeDiff, Nat.reduceSub, Int.reduceToNat, reduceCtorEq]) | (refine ⟨by first | omega | (intros; simp_all; done) | (intros; simp_all; omega), ?_⟩; try simp only [go_sem, Nat.reduceAdd, Nat.reduceLeDiff, Nat.reduceSub, Int.reduceToNat, reduceCtorEq]))
  refine AP.cond_false rfl (by simp only [go_sem, Nat.reduceAdd, Nat.reduceLeDiff, Nat.reduceSub, Int.reduceToNat, reduceCtorEq]; refine congrArg (fun b => some (AV.im (IV.v (Value.bool b)))) ?_; (first | (simp only [Bool.or_eq_true, Bool.and_eq_true, Bool.not_eq_true', Bool.not_eq_false', Bool.and_eq_false_iff, Bool.or_eq_false_iff, decide_eq_true_eq, decide_eq_false_iff_not, beq_iff_eq, bne_iff_ne, beq_eq_false_iff_ne, bne_eq_false_iff_eq, ne_eq]; omega) | (simp; done) | (simp; omega) | (simp_all; done) | (simp_all; omega))) ?_
  repeat (first | refine xA ?_ | refine xB ?_ | refine xC ?_ | refine xE ?_ | refine xD ?_ | refine xK ?_ | refine xS ?_ | refine xM ?_ | refine xT ?_ | refine xF ?_ | ((first | refine xR ?_ | refine xW ?_ | refine vq_id ?_); simp only [go_sem, Nat.reduceAdd, Nat.reduceLeDiff, Nat.reduceSub, Int.reduceToNat, reduceCtorEq]) | (refine ⟨by first | omega | (intros; simp_all; done) | (intros; simp_all; omega), ?_⟩; try simp only [go_sem, Nat.reduceAdd, Nat.reduceLeDiff, Nat.reduceSub, Int.reduceToNat, reduceCtorEq]))
  refine AP.drawE 17 (Tree.node [] [0, 1, 2, 3, 4, 5, 6, 7, 8, 9, 10, 11, 12, 13, 14, 15] [16] [Tree.node [] [] [] []]) (by kernel_rfl) rfl (by kernel_rfl) (by kernel_rfl) ?_
  refine vd_node ?_
  simp only [go_sem, Nat.reduceAdd, Nat.reduceLeDiff, Nat.reduceSub, Int.reduceToNat, reduceCtorEq]
  refine AQ.callH [(2, 2), (1, 1), (0, 0)] (by kernel_rfl) rfl rfl rfl rfl rfl rfl (by exact ⟨rfl, rfl, rfl, trivial⟩) rfl hwr ?_
  rintro r H1 ⟨rfl, rfl⟩
  refine ⟨rfl, ?_⟩
  simp only [go_sem, Nat.reduceAdd, Nat.reduceLeDiff, Nat.reduceSub, Int.reduceToNat, reduceCtorEq, Jn.H, Jn.cs]
  refine AQ.nx rfl ?_
  simp only [go_sem, Nat.reduceAdd, Nat.reduceLeDiff, Nat.reduceSub, Int.reduceToNat, reduceCtorEq]
  refine AQ.done ?_
  repeat (first | refine xA ?_ | refine xB ?_ | refine xC ?_ | refine xE ?_ | refine xD ?_ | refine xK ?_ | refine xS ?_ | refine xM ?_ | refine xT ?_ | refine xF ?_ | ((first | refine xR ?_ | refine xW ?_ | refine vq_id ?_); simp only [go_sem, Nat.reduceAdd, Nat.reduceLeDiff, Nat.reduceSub, Int.reduceToNat, reduceCtorEq]) | (refine ⟨by first | omega | (intros; simp_all; done) | (intros; simp_all; omega), ?_⟩; try simp only [go_sem, Nat.reduceAdd, Nat.reduceLeDiff, Nat.reduceSub, Int.reduceToNat, reduceCtorEq]))
  refine AE.rename 6 3 rfl rfl rfl ?_
  simp only [go_sem, Nat.reduceAdd, Nat.reduceLeDiff, Nat.reduceSub, Int.reduceToNat, reduceCtorEq]
  refine AE.rename 7 4 rfl rfl rfl ?_
  simp only [go_sem, Nat.reduceAdd, Nat.reduceLeDiff, Nat.reduceSub, Int.reduceToNat, reduceCtorEq]
  exact AE.ret rfl ⟨rfl, trivial⟩ ⟨rfl, rfl⟩
theorem append_nil (s : Bs) : PFn Try.prog 19 [.im (.v (.pointer none)), Sv s] (Iv 1) := by
  refine ACall.walk [0, 1, 4, 5, 7, 10, 14] [] Try.func19 rfl Try.ntmps19 (by kernel_rfl) (by rfl) rfl fun W own I0 φ0 => ?_
  repeat (first | refine xA ?_ | refine xB ?_ | refine xC ?_ | refine xE ?_ | refine xD ?_ | refine xK ?_ | refine xS ?_ | refine xM ?_ | refine xT ?_ | refine xF ?_ | ((first | refine xR ?_ | refine xW ?_ | refine vq_id ?_); simp only [go_sem, Nat.reduceAdd, Nat.reduceLeDiff, Nat.reduceSub, Int.reduceToNat, reduceCtorEq]) | (refine ⟨by first | omega | (intros; simp_all; done) | (intros; simp_all; omega), ?_⟩; try simp only [go_sem, Nat.reduceAdd, Nat.reduceLeDiff, Nat.reduceSub, Int.reduceToNat, reduceCtorEq]))
  exact AE.ret0 rfl ⟨rfl, trivial⟩ rfl ⟨rfl, rfl⟩
def Jn.synced (x : Jn) : Jn := { x with B := x.D.syncD.B, W := [] }
theorem commit_ok (x : Jn) (hx : x.Sz) (hd : x.D.Ok) : ACall Try.prog 14 [.ob 0 0] (x.H 1 2) (fun r H' => H' = x.synced.H 3 2 ∧ r = Iv 0) := by
  obtain ⟨hb, hhf, hu, hf, hl, hn, hn1, hw, hr⟩ := hx
  have hs := sync_okN x.D ⟨by simp only; omega, by simp only; omega⟩ hd
  obtain ⟨Z, hZ⟩ : ∃ Z, x.D.syncD.B = Z := ⟨_, rfl⟩
  obtain ⟨Z2, hZ2⟩ : ∃ Z2, x.synced = Z2 := ⟨_, rfl⟩
  rw [hZ2]
  rw [hZ] at hs
  have hZ3 : Z2 = { x with B := Z, W := [] } := by rw [← hZ2, Jn.synced, hZ]
  subst hZ3
  simp only [go_sem, Nat.reduceAdd, Nat.reduceLeDiff, Nat.reduceSub, Int.reduceToNat, reduceCtorEq, Jn.H, Jn.cs]
  refine ACall.walk [0, 2, 4] [] Try.func14 rfl Try.ntmps14 (by kernel_rfl) (by rfl) rfl fun W own I0 φ0 => ?_
  repeat (first | refine xA ?_ | refine xB ?_ | refine xC ?_ | refine xE ?_ | refine xD ?_ | refine xK ?_ | refine xS ?_ | refine xM ?_ | refine xT ?_ | refine xF ?_ | ((first | refine xR ?_ | refine xW ?_ | refine vq_id ?_); simp only [go_sem, Nat.reduceAdd, Nat.reduceLeDiff, Nat.reduceSub, Int.reduceToNat, reduceCtorEq]) | (refine ⟨by first | omega | (intros; simp_all; done) | (intros; simp_all; omega), ?_⟩; try simp only [go_sem, Nat.reduceAdd, Nat.reduceLeDiff, Nat.reduceSub, Int.reduceToNat, reduceCtorEq]))
  refine AQ.freeze 1 (el := 97) (es := 2) (rows := wrR x.W) rfl (by simp only [go_sem, Nat.reduceAdd, Nat.reduceLeDiff, Nat.reduceSub, Int.reduceToNat, reduceCtorEq]; exact Nat.le_of_eq (wrR_len _).symm) (by simp only [go_sem, Nat.reduceAdd, Nat.reduceLeDiff, Nat.reduceSub, Int.reduceToNat, reduceCtorEq]; exact Nat.le_of_eq (wrR_len _).symm) ?_
  simp only [go_sem, Nat.reduceAdd, Nat.reduceLeDiff, Nat.reduceSub, Int.reduceToNat, reduceCtorEq]
  rw [take_all' (wrR x.W) _ (Nat.le_of_eq (wrR_len _))]
  refine AQ.fn (by kernel_rfl) rfl rfl rfl (hs) rfl ?_
  simp only [go_sem, Nat.reduceAdd, Nat.reduceLeDiff, Nat.reduceSub, Int.reduceToNat, reduceCtorEq]
  repeat (first | refine xA ?_ | refine xB ?_ | refine xC ?_ | refine xE ?_ | refine xD ?_ | refine xK ?_ | refine xS ?_ | refine xM ?_ | refine xT ?_ | refine xF ?_ | ((first | refine xR ?_ | refine xW ?_ | refine vq_id ?_); simp only [go_sem, Nat.reduceAdd, Nat.reduceLeDiff, Nat.reduceSub, Int.reduceToNat, reduceCtorEq]) | (refine ⟨by first | omega | (intros; simp_all; done) | (intros; simp_all; omega), ?_⟩; try simp only [go_sem, Nat.reduceAdd, Nat.reduceLeDiff, Nat.reduceSub, Int.reduceToNat, reduceCtorEq]))
  refine AE.ownCell 0 1 97 2 rfl rfl ?_
  simp only [go_sem, Nat.reduceAdd, Nat.reduceLeDiff, Nat.reduceSub, Int.reduceToNat, reduceCtorEq]
  refine AE.order [2, 3, 0] rfl ?_
  simp only [go_sem, Nat.reduceAdd, Nat.reduceLeDiff, Nat.reduceSub, Int.reduceToNat, reduceCtorEq]
  exact AE.ret rfl ⟨rfl, trivial⟩ ⟨rfl, rfl⟩
end Go.Proofs.Ytoafanbfminhcaa
end

section
namespace Go.Proofs.Ytoafanbfminhcaa
open Go Go.AL Go.RowKit
set_option maxRecDepth 10000
set_option maxHeartbeats 4000000
def Jn.compE (x : Jn) (s : Bs) : Int := if 10000 < s.length then 4 else if x.B.length / 2 < nparts s ∨ 4294967296 < x.next + nparts s then 8 else 0
theorem compact_long (x : Jn) (s : Bs) (hx : x.Sz) (h : 10000 < s.length) (hs : s.length ≤ 1000000) : ACall Try.prog 37 [.ob 0 0, Sv s] (x.H 1 2) (fun r H' => H' = x.H 1 2 ∧ r = Iv 4) := by
  simp only [go_sem, Nat.reduceAdd, Nat.reduceLeDiff, Nat.reduceSub, Int.reduceToNat, reduceCtorEq, Jn.H, Jn.cs]
  refine ACall.walk [0, 1, 4, 5, 6, 8, 11, 15] [] Try.func37 rfl Try.ntmps37 (by kernel_rfl) (by rfl) rfl fun W own I0 φ0 => ?_
  repeat (first | refine xA ?_ | refine xB ?_ | refine xC ?_ | refine xE ?_ | refine xD ?_ | refine xK ?_ | refine xS ?_ | refine xM ?_ | refine xT ?_ | refine xF ?_ | ((first | refine xR ?_ | refine xW ?_ | refine vq_id ?_); simp only [go_sem, Nat.reduceAdd, Nat.reduceLeDiff, Nat.reduceSub, Int.reduceToNat, reduceCtorEq]) | (refine ⟨by first | omega | (intros; simp_all; done) | (intros; simp_all; omega), ?_⟩; try simp only [go_sem, Nat.reduceAdd, Nat.reduceLeDiff, Nat.reduceSub, Int.reduceToNat, reduceCtorEq]))
  refine AQ.fn (by kernel_rfl) rfl rfl rfl (blocksOf_spec s (by omega)) rfl ?_
  repeat (first | refine xA ?_ | refine xB ?_ | refine xC ?_ | refine xE ?_ | refine xD ?_ | refine xK ?_ | refine xS ?_ | refine xM ?_ | refine xT ?_ | refine xF ?_ | ((first | refine xR ?_ | refine xW ?_ | refine vq_id ?_); simp only [go_sem, Nat.reduceAdd, Nat.reduceLeDiff, Nat.reduceSub, Int.reduceToNat, reduceCtorEq, BA_size]) | (refine ⟨by first | omega | (intros; simp_all; done) | (intros; simp_all; omega), ?_⟩; try simp only [go_sem, Nat.reduceAdd, Nat.reduceLeDiff, Nat.reduceSub, Int.reduceToNat, reduceCtorEq, BA_size]))
  refine AP.cond_true rfl (by simp only [go_sem, Nat.reduceAdd, Nat.reduceLeDiff, Nat.reduceSub, Int.reduceToNat, reduceCtorEq]; refine congrArg (fun b => some (AV.im (IV.v (Value.bool b)))) ?_; (first | (simp only [Bool.or_eq_true, Bool.and_eq_true, Bool.not_eq_true', Bool.not_eq_false', Bool.and_eq_false_iff, Bool.or_eq_false_iff, decide_eq_true_eq, decide_eq_false_iff_not, beq_iff_eq, bne_iff_ne, beq_eq_false_iff_ne, bne_eq_false_iff_eq, ne_eq]; omega) | (simp; done) | (simp; omega) | (simp_all; done) | (simp_all; omega))) ?_
  repeat (first | refine xA ?_ | refine xB ?_ | refine xC ?_ | refine xE ?_ | refine xD ?_ | refine xK ?_ | refine xS ?_ | refine xM ?_ | refine xT ?_ | refine xF ?_ | ((first | refine xR ?_ | refine xW ?_ | refine vq_id ?_); simp only [go_sem, Nat.reduceAdd, Nat.reduceLeDiff, Nat.reduceSub, Int.reduceToNat, reduceCtorEq]) | (refine ⟨by first | omega | (intros; simp_all; done) | (intros; simp_all; omega), ?_⟩; try simp only [go_sem, Nat.reduceAdd, Nat.reduceLeDiff, Nat.reduceSub, Int.reduceToNat, reduceCtorEq]))
  exact AE.ret rfl ⟨rfl, trivial⟩ ⟨rfl, rfl⟩
theorem compact_full (x : Jn) (s : Bs) (hx : x.Sz) (h : x.compE s = 8) : ACall Try.prog 37 [.ob 0 0, Sv s] (x.H 1 2) (fun r H' => H' = x.H 1 2 ∧ r = Iv 8) := by
  obtain ⟨hb, hhf, hu, hf, hl, hn, hn1, hw, hr⟩ := hx
  unfold Jn.compE at h
  split at h
  · cases h
  rename_i hs
  split at h
  rename_i hc
  case isFalse => cases h
  have hnp := nparts_le s (by omega)
  have hh1 := nparts_pos s
  have hsz := size_spec x.B (x.ic.drop 1) (by omega)
  obtain ⟨B, W', half', recs, used, first, last, next⟩ := x
  simp only at hb hhf hu hf hl hn hn1 hw hr hs hc hsz
  have w2 := wr (x := (next : Int) + (nparts s : Int)) (by omega)
  have w3 := wr (x := (next : Int) + (nparts s : Int) - 1) (by omega)
  have w5 := wr (x := (nparts s : Int)) (by omega)
  simp only [go_sem, Nat.reduceAdd, Nat.reduceLeDiff, Nat.reduceSub, Int.reduceToNat, reduceCtorEq, Jn.H, Jn.cs]
  refine ACall.walk [0, 1, 4, 5, 6, 8, 11, 15] [] Try.func37 rfl Try.ntmps37 (by kernel_rfl) (by rfl) rfl fun W own I0 φ0 => ?_
  repeat (first | refine xA ?_ | refine xB ?_ | refine xC ?_ | refine xE ?_ | refine xD ?_ | refine xK ?_ | refine xS ?_ | refine xM ?_ | refine xT ?_ | refine xF ?_ | ((first | refine xR ?_ | refine xW ?_ | refine vq_id ?_); simp only [go_sem, Nat.reduceAdd, Nat.reduceLeDiff, Nat.reduceSub, Int.reduceToNat, reduceCtorEq]) | (refine ⟨by first | omega | (intros; simp_all; done) | (intros; simp_all; omega), ?_⟩; try simp only [go_sem, Nat.reduceAdd, Nat.reduceLeDiff, Nat.reduceSub, Int.reduceToNat, reduceCtorEq]))
  refine AQ.fn (by kernel_rfl) rfl rfl rfl (blocksOf_spec s (by omega)) rfl ?_
  repeat (first | refine xA ?_ | refine xB ?_ | refine xC ?_ | refine xE ?_ | refine xD ?_ | refine xK ?_ | refine xS ?_ | refine xM ?_ | refine xT ?_ | refine xF ?_ | ((first | refine xR ?_ | refine xW ?_ | refine vq_id ?_); simp only [go_sem, Nat.reduceAdd, Nat.reduceLeDiff, Nat.reduceSub, Int.reduceToNat, reduceCtorEq, BA_size]) | (refine ⟨by first | omega | (intros; simp_all; done) | (intros; simp_all; omega), ?_⟩; try simp only [go_sem, Nat.reduceAdd, Nat.reduceLeDiff, Nat.reduceSub, Int.reduceToNat, reduceCtorEq, BA_size]))
  refine AP.cond_false rfl (by simp only [go_sem, Nat.reduceAdd, Nat.reduceLeDiff, Nat.reduceSub, Int.reduceToNat, reduceCtorEq]; refine congrArg (fun b => some (AV.im (IV.v (Value.bool b)))) ?_; (first | (simp only [Bool.or_eq_true, Bool.and_eq_true, Bool.not_eq_true', Bool.not_eq_false', Bool.and_eq_false_iff, Bool.or_eq_false_iff, decide_eq_true_eq, decide_eq_false_iff_not, beq_iff_eq, bne_iff_ne, beq_eq_false_iff_ne, bne_eq_false_iff_eq, ne_eq]; omega) | (simp; done) | (simp; omega) | (simp_all; done) | (simp_all; omega))) ?_
  repeat (first | refine xA ?_ | refine xB ?_ | refine xC ?_ | refine xE ?_ | refine xD ?_ | refine xK ?_ | refine xS ?_ | refine xM ?_ | refine xT ?_ | refine xF ?_ | ((first | refine xR ?_ | refine xW ?_ | refine vq_id ?_); simp only [go_sem, Nat.reduceAdd, Nat.reduceLeDiff, Nat.reduceSub, Int.reduceToNat, reduceCtorEq, BA_size]) | (refine ⟨by first | omega | (intros; simp_all; done) | (intros; simp_all; omega), ?_⟩; try simp only [go_sem, Nat.reduceAdd, Nat.reduceLeDiff, Nat.reduceSub, Int.reduceToNat, reduceCtorEq, BA_size]))
  refine AQ.fnL ([.im (.pt (Jn.ic ⟨B, W', half', recs, used, first, last, next⟩))]) (by kernel_rfl) rfl rfl rfl (by ((try simp only [List.nil_append, List.append_nil, List.map_cons, List.map_nil, AV.st, constAV]); repeat (first | with_reducible exact LentC.nil | with_reducible exact LentAs.nil | with_reducible refine LentC.cons ?_ ?_ | with_reducible refine LentAs.cons ?_ ?_ | with_reducible exact Lent.im _ | with_reducible exact LentA.im _ | with_reducible refine LentA.of ?_ | with_reducible refine LentA.agg ?_ | ((with_reducible apply Lent.osw); rfl; simp only [blkR_len, wrR_len, byteR_len, List.length_append, List.length_cons, List.length_nil]) | ((with_reducible apply Lent.ob0); rfl)))) (hsz) rfl (fun _ => rfl) ?_
  simp only [go_sem, Nat.reduceAdd, Nat.reduceLeDiff, Nat.reduceSub, Int.reduceToNat, reduceCtorEq, w2, w3, w5]
  repeat (first | refine xA ?_ | refine xB ?_ | refine xC ?_ | refine xE ?_ | refine xD ?_ | refine xK ?_ | refine xS ?_ | refine xM ?_ | refine xT ?_ | refine xF ?_ | ((first | refine xR ?_ | refine xW ?_ | refine vq_id ?_); simp only [go_sem, Nat.reduceAdd, Nat.reduceLeDiff, Nat.reduceSub, Int.reduceToNat, reduceCtorEq, w2, w3, w5]) | (refine ⟨by first | omega | (intros; simp_all; done) | (intros; simp_all; omega), ?_⟩; try simp only [go_sem, Nat.reduceAdd, Nat.reduceLeDiff, Nat.reduceSub, Int.reduceToNat, reduceCtorEq, w2, w3, w5]))
  refine AP.cond_true rfl (by simp only [go_sem, Nat.reduceAdd, Nat.reduceLeDiff, Nat.reduceSub, Int.reduceToNat, reduceCtorEq]; refine congrArg (fun b => some (AV.im (IV.v (Value.bool b)))) ?_; (first | (simp only [Bool.or_eq_true, Bool.and_eq_true, Bool.not_eq_true', Bool.not_eq_false', Bool.and_eq_false_iff, Bool.or_eq_false_iff, decide_eq_true_eq, decide_eq_false_iff_not, beq_iff_eq, bne_iff_ne, beq_eq_false_iff_ne, bne_eq_false_iff_eq, ne_eq]; omega) | (simp; done) | (simp; omega) | (simp_all; done) | (simp_all; omega))) ?_
  repeat (first | refine xA ?_ | refine xB ?_ | refine xC ?_ | refine xE ?_ | refine xD ?_ | refine xK ?_ | refine xS ?_ | refine xM ?_ | refine xT ?_ | refine xF ?_ | ((first | refine xR ?_ | refine xW ?_ | refine vq_id ?_); simp only [go_sem, Nat.reduceAdd, Nat.reduceLeDiff, Nat.reduceSub, Int.reduceToNat, reduceCtorEq]) | (refine ⟨by first | omega | (intros; simp_all; done) | (intros; simp_all; omega), ?_⟩; try simp only [go_sem, Nat.reduceAdd, Nat.reduceLeDiff, Nat.reduceSub, Int.reduceToNat, reduceCtorEq]))
  exact AE.ret rfl ⟨rfl, trivial⟩ ⟨rfl, rfl⟩
def Jn.comp0 (x : Jn) : Jn := ⟨x.D.syncD.B, [], 1 - x.half, [], 0, x.next, 0, x.next⟩
theorem compact_ok (x : Jn) (half : Nat) (s : Bs) (hx : x.Sz) (hd : x.D.Ok) (hh : 1 - x.half = (half : Int)) (h : x.compE s = 0) : ACall Try.prog 37 [.ob 0 0, Sv s] (x.H 1 2) (fun r H' => H' = (x.comp0.wrote half 0 0 s).H 3 4 ∧ r = Iv 0) := by
  obtain ⟨hb, hhf, hu, hf, hl, hn, hn1, hw, hr⟩ := hx
  have hs' := sync_okN x.D ⟨by simp only; omega, by simp only; omega⟩ hd
  have hlen : x.D.syncD.B.length = x.B.length := syncD_len x.D ((x.D.chk_ok).2 hd)
  unfold Jn.compE at h
  split at h
  · cases h
  rename_i hs
  split at h
  · cases h
  rename_i hc
  have hnp := nparts_le s (by omega)
  have hh1 := nparts_pos s
  have hsz := size_spec x.B (x.ic.drop 1) (by omega)
  have hwr := write_spec x.comp0 half 0 0 s (by omega) (by rw [Jn.comp0, hlen]; omega) (by omega) (by omega) (by rw [Jn.comp0]; simp only; omega) (by omega) (by simp [Jn.comp0]) (by simp [Jn.comp0])
  obtain ⟨Z, hZ⟩ : ∃ Z, (x.comp0.wrote half 0 0 s) = Z := ⟨_, rfl⟩
  rw [hZ] at hwr ⊢
  unfold Jn.comp0 at hwr
  rw [hh] at hwr
  obtain ⟨S, hS⟩ : ∃ S, x.D.syncD.B = S := ⟨_, rfl⟩
  rw [hS] at hwr hs'
  obtain ⟨B, W', half', recs, used, first, last, next⟩ := x
  simp only at hb hhf hu hf hl hn hn1 hw hr hs hc hsz hh hwr hs'
  have w2 := wr (x := (next : Int) + (nparts s : Int)) (by omega)
  have w3 := wr (x := (next : Int) + (nparts s : Int) - 1) (by omega)
  have w5 := wr (x := (nparts s : Int)) (by omega)
  have w7 := wr (x := (half : Int)) (by omega)
  have w6 := wr (x := (1 : Int) - half') (by omega)
  simp only [go_sem, Nat.reduceAdd, Nat.reduceLeDiff, Nat.reduceSub, Int.reduceToNat, reduceCtorEq, Jn.H, Jn.cs]
  refine ACall.walk [0, 1, 4, 5, 6, 8, 11, 15] [] Try.func37 rfl Try.ntmps37 (by kernel_rfl) (by rfl) rfl fun W own I0 φ0 => ?_
  repeat (first | refine xA ?_ | refine xB ?_ | refine xC ?_ | refine xE ?_ | refine xD ?_ | refine xK ?_ | refine xS ?_ | refine xM ?_ | refine xT ?_ | refine xF ?_ | ((first | refine xR ?_ | refine xW ?_ | refine vq_id ?_); simp only [go_sem, Nat.reduceAdd, Nat.reduceLeDiff, Nat.reduceSub, Int.reduceToNat, reduceCtorEq]) | (refine ⟨by first | omega | (intros; simp_all; done) | (intros; simp_all; omega), ?_⟩; try simp only [go_sem, Nat.reduceAdd, Nat.reduceLeDiff, Nat.reduceSub, Int.reduceToNat, reduceCtorEq]))
  refine AQ.fn (by kernel_rfl) rfl rfl rfl (blocksOf_spec s (by omega)) rfl ?_
  repeat (first | refine xA ?_ | refine xB ?_ | refine xC ?_ | refine xE ?_ | refine xD ?_ | refine xK ?_ | refine xS ?_ | refine xM ?_ | refine xT ?_ | refine xF ?_ | ((first | refine xR ?_ | refine xW ?_ | refine vq_id ?_); simp only [go_sem, Nat.reduceAdd, Nat.reduceLeDiff, Nat.reduceSub, Int.reduceToNat, reduceCtorEq, BA_size]) | (refine ⟨by first | omega | (intros; simp_all; done) | (intros; simp_all; omega), ?_⟩; try simp only [go_sem, Nat.reduceAdd, Nat.reduceLeDiff, Nat.reduceSub, Int.reduceToNat, reduceCtorEq, BA_size]))
  refine AP.cond_false rfl (by simp only [go_sem, Nat.reduceAdd, Nat.reduceLeDiff, Nat.reduceSub, Int.reduceToNat, reduceCtorEq]; refine congrArg (fun b => some (AV.im (IV.v (Value.bool b)))) ?_; (first | (simp only [Bool.or_eq_true, Bool.and_eq_true, Bool.not_eq_true', Bool.not_eq_false', Bool.and_eq_false_iff, Bool.or_eq_false_iff, decide_eq_true_eq, decide_eq_false_iff_not, beq_iff_eq, bne_iff_ne, beq_eq_false_iff_ne, bne_eq_false_iff_eq, ne_eq]; omega) | (simp; done) | (simp; omega) | (simp_all; done) | (simp_all; omega))) ?_
  repeat (first | refine xA ?_ | refine xB ?_ | refine xC ?_ | refine xE ?_ | refine xD ?_ | refine xK ?_ | refine xS ?_ | refine xM ?_ | refine xT ?_ | refine xF ?_ | ((first | refine xR ?_ | refine xW ?_ | refine vq_id ?_); simp only [go_sem, Nat.reduceAdd, Nat.reduceLeDiff, Nat.reduceSub, Int.reduceToNat, reduceCtorEq, BA_size]) | (refine ⟨by first | omega | (intros; simp_all; done) | (intros; simp_all; omega), ?_⟩; try simp only [go_sem, Nat.reduceAdd, Nat.reduceLeDiff, Nat.reduceSub, Int.reduceToNat, reduceCtorEq, BA_size]))
  refine AQ.fnL ([.im (.pt (Jn.ic ⟨B, W', half', recs, used, first, last, next⟩))]) (by kernel_rfl) rfl rfl rfl (by ((try simp only [List.nil_append, List.append_nil, List.map_cons, List.map_nil, AV.st, constAV]); repeat (first | with_reducible exact LentC.nil | with_reducible exact LentAs.nil | with_reducible refine LentC.cons ?_ ?_ | with_reducible refine LentAs.cons ?_ ?_ | with_reducible exact Lent.im _ | with_reducible exact LentA.im _ | with_reducible refine LentA.of ?_ | with_reducible refine LentA.agg ?_ | ((with_reducible apply Lent.osw); rfl; simp only [blkR_len, wrR_len, byteR_len, List.length_append, List.length_cons, List.length_nil]) | ((with_reducible apply Lent.ob0); rfl)))) (hsz) rfl (fun _ => rfl) ?_
  simp only [go_sem, Nat.reduceAdd, Nat.reduceLeDiff, Nat.reduceSub, Int.reduceToNat, reduceCtorEq, w2, w3, w5]
  repeat (first | refine xA ?_ | refine xB ?_ | refine xC ?_ | refine xE ?_ | refine xD ?_ | refine xK ?_ | refine xS ?_ | refine xM ?_ | refine xT ?_ | refine xF ?_ | ((first | refine xR ?_ | refine xW ?_ | refine vq_id ?_); simp only [go_sem, Nat.reduceAdd, Nat.reduceLeDiff, Nat.reduceSub, Int.reduceToNat, reduceCtorEq, w2, w3, w5]) | (refine ⟨by first | omega | (intros; simp_all; done) | (intros; simp_all; omega), ?_⟩; try simp only [go_sem, Nat.reduceAdd, Nat.reduceLeDiff, Nat.reduceSub, Int.reduceToNat, reduceCtorEq, w2, w3, w5]))
  refine AP.cond_false rfl (by simp only [go_sem, Nat.reduceAdd, Nat.reduceLeDiff, Nat.reduceSub, Int.reduceToNat, reduceCtorEq]; refine congrArg (fun b => some (AV.im (IV.v (Value.bool b)))) ?_; (first | (simp only [Bool.or_eq_true, Bool.and_eq_true, Bool.not_eq_true', Bool.not_eq_false', Bool.and_eq_false_iff, Bool.or_eq_false_iff, decide_eq_true_eq, decide_eq_false_iff_not, beq_iff_eq, bne_iff_ne, beq_eq_false_iff_ne, bne_eq_false_iff_eq, ne_eq]; omega) | (simp; done) | (simp; omega) | (simp_all; done) | (simp_all; omega))) ?_
  repeat (first | refine xA ?_ | refine xB ?_ | refine xC ?_ | refine xE ?_ | refine xD ?_ | refine xK ?_ | refine xS ?_ | refine xM ?_ | refine xT ?_ | refine xF ?_ | ((first | refine xR ?_ | refine xW ?_ | refine vq_id ?_); simp only [go_sem, Nat.reduceAdd, Nat.reduceLeDiff, Nat.reduceSub, Int.reduceToNat, reduceCtorEq]) | (refine ⟨by first | omega | (intros; simp_all; done) | (intros; simp_all; omega), ?_⟩; try simp only [go_sem, Nat.reduceAdd, Nat.reduceLeDiff, Nat.reduceSub, Int.reduceToNat, reduceCtorEq]))
  refine AQ.freeze 1 (el := 97) (es := 2) (rows := wrR W') rfl (by simp only [go_sem, Nat.reduceAdd, Nat.reduceLeDiff, Nat.reduceSub, Int.reduceToNat, reduceCtorEq]; exact Nat.le_of_eq (wrR_len _).symm) (by simp only [go_sem, Nat.reduceAdd, Nat.reduceLeDiff, Nat.reduceSub, Int.reduceToNat, reduceCtorEq]; exact Nat.le_of_eq (wrR_len _).symm) ?_
  simp only [go_sem, Nat.reduceAdd, Nat.reduceLeDiff, Nat.reduceSub, Int.reduceToNat, reduceCtorEq]
  rw [take_all' (wrR W') _ (Nat.le_of_eq (wrR_len _))]
  refine AQ.fn (by kernel_rfl) rfl rfl rfl (hs') rfl ?_
  simp only [go_sem, Nat.reduceAdd, Nat.reduceLeDiff, Nat.reduceSub, Int.reduceToNat, reduceCtorEq]
  repeat (first | refine xA ?_ | refine xB ?_ | refine xC ?_ | refine xE ?_ | refine xD ?_ | refine xK ?_ | refine xS ?_ | refine xM ?_ | refine xT ?_ | refine xF ?_ | ((first | refine xR ?_ | refine xW ?_ | refine vq_id ?_); simp only [go_sem, Nat.reduceAdd, Nat.reduceLeDiff, Nat.reduceSub, Int.reduceToNat, reduceCtorEq, w6, hh, w7]) | (refine ⟨by first | omega | (intros; simp_all; done) | (intros; simp_all; omega), ?_⟩; try simp only [go_sem, Nat.reduceAdd, Nat.reduceLeDiff, Nat.reduceSub, Int.reduceToNat, reduceCtorEq, w6, hh, w7]))
  refine AQ.ownCell 0 1 97 2 rfl rfl ?_
  simp only [go_sem, Nat.reduceAdd, Nat.reduceLeDiff, Nat.reduceSub, Int.reduceToNat, reduceCtorEq]
  refine AQ.ownCell 0 3 9 1 rfl rfl ?_
  simp only [go_sem, Nat.reduceAdd, Nat.reduceLeDiff, Nat.reduceSub, Int.reduceToNat, reduceCtorEq]
  refine AQ.callH [(2, 4), (1, 3), (0, 0)] (by kernel_rfl) rfl rfl rfl rfl rfl rfl (by exact ⟨rfl, rfl, rfl, trivial⟩) rfl hwr ?_
  rintro r H1 ⟨rfl, rfl⟩
  refine ⟨rfl, ?_⟩
  simp only [go_sem, Nat.reduceAdd, Nat.reduceLeDiff, Nat.reduceSub, Int.reduceToNat, reduceCtorEq, Jn.H, Jn.cs]
  repeat (first | refine xA ?_ | refine xB ?_ | refine xC ?_ | refine xE ?_ | refine xD ?_ | refine xK ?_ | refine xS ?_ | refine xM ?_ | refine xT ?_ | refine xF ?_ | ((first | refine xR ?_ | refine xW ?_ | refine vq_id ?_); simp only [go_sem, Nat.reduceAdd, Nat.reduceLeDiff, Nat.reduceSub, Int.reduceToNat, reduceCtorEq]) | (refine ⟨by first | omega | (intros; simp_all; done) | (intros; simp_all; omega), ?_⟩; try simp only [go_sem, Nat.reduceAdd, Nat.reduceLeDiff, Nat.reduceSub, Int.reduceToNat, reduceCtorEq]))
  refine AE.forgets [2] rfl ?_
  simp only [go_sem, Nat.reduceAdd, Nat.reduceLeDiff, Nat.reduceSub, Int.reduceToNat, reduceCtorEq]
  refine AE.rename 8 3 rfl rfl rfl ?_
  simp only [go_sem, Nat.reduceAdd, Nat.reduceLeDiff, Nat.reduceSub, Int.reduceToNat, reduceCtorEq]
  refine AE.rename 9 4 rfl rfl rfl ?_
  simp only [go_sem, Nat.reduceAdd, Nat.reduceLeDiff, Nat.reduceSub, Int.reduceToNat, reduceCtorEq]
  exact AE.ret rfl ⟨rfl, trivial⟩ ⟨rfl, rfl⟩
end Go.Proofs.Ytoafanbfminhcaa
end

section
namespace Go.Proofs.Ytoafanbfminhcaa
open Go Go.AL Go.RowKit
set_option maxRecDepth 10000
set_option maxHeartbeats 4000000
def mx3 (m : Nat) (s : Bs) : Nat := max (max m (n4 (s.take 4))) (n4 ((s.drop 16).take 4))
def maxN (S : List Bs) : Nat := S.foldl mx3 0
def arA (S : List Bs) : Sc := scanS (S.take (S.length / 2))
def arB (S : List Bs) : Sc := scanS (S.drop (S.length / 2))
def Sel (a b c : Sc) (h : Nat) : Prop := (h = 0 ∧ c = a ∧ a.recs ≠ [] ∧ ¬ (b.recs ≠ [] ∧ a.first < b.first)) ∨ (h = 1 ∧ c = b ∧ b.recs ≠ [] ∧ (a.recs = [] ∨ a.first < b.first))
def openJ (d : Dk) (c : Sc) (h : Nat) : Jn := ⟨d.B, d.W, h, c.recs, c.used, c.first, c.last, maxN d.syncD.B + 1⟩
theorem crash_32 (F : List Int) : ∀ (W : List Wr) (i : Nat) (B : List Bs), (∀ s ∈ B, s.length = 32) → (∀ w ∈ W, w.2.length = 32) → (∀ w ∈ W, 0 ≤ w.1 ∧ w.1 < B.length) → ∀ s ∈ crashB F W i B, s.length = 32
  | [], _, _, h, _, _ => h
  | w :: r, i, B, h, hW, hr => by
    rw [crashB]
    have h0 := hr w (by simp)
    refine crash_32 F r (i + 1) _ (fun s hs => ?_) (fun x hx => hW x (by simp [hx])) (fun x hx => by rw [List.length_set]; exact hr x (by simp [hx]))
    rcases List.mem_or_eq_of_mem_set hs with h1 | h1
    · exact h s h1
    · rw [h1]
      refine crash1_32 _ ?_ (hW w (by simp))
      have hk : w.1.toNat < B.length := by omega
      rw [List.getD_eq_getElem?_getD, List.getElem?_eq_getElem hk, Option.getD_some]
      exact h _ (List.getElem_mem hk)
theorem sync_32 (d : Dk) (hok : d.Ok) : ∀ s ∈ d.syncD.B, s.length = 32 := by
  rw [Dk.syncD, Dk.crashD, if_pos ((d.chk_ok).2 hok)]
  exact crash_32 _ _ _ _ hok.b (fun w hw => (hok.r w hw).2) (fun w hw => (hok.r w hw).1)
theorem mx3_lt (m : Nat) (s : Bs) (h : m < 4294967296) : mx3 m s < 4294967296 := by
  have h1 := n4_lt (s.take 4)
  have h2 := n4_lt ((s.drop 16).take 4)
  unfold mx3; omega
theorem maxN_lt (S : List Bs) : maxN S < 4294967296 := by
  have : ∀ (S : List Bs) (m : Nat), m < 4294967296 → S.foldl mx3 m < 4294967296 := fun S => by
    induction S with
    | nil => exact fun m h => h
    | cons s r ih => exact fun m h => ih _ (mx3_lt m s h)
  exact this S 0 (by omega)
def openR (d : Dk) (a b : Sc) (r : AV) (H' : Heap) : Prop := (a.recs = [] ∧ b.recs = [] → H' = [] ∧ r = .tup [.im (.v (.pointer none)), Iv 400]) ∧ (∀ c h, Sel a b c h → H' = (openJ d c h).H 1 2 ∧ r = .tup [.ob 0 0, Iv 0])
theorem open_walk (d : Dk) (hd : d.Sz) (hok : d.Ok) : ACall Try.prog 12 [d.v] [] (openR d (arA d.syncD.B) (arB d.syncD.B)) := by
  have hs := sync_okN d hd hok
  have hlen : d.syncD.B.length = d.B.length := syncD_len d ((d.chk_ok).2 hok)
  obtain ⟨hn4, hn2, _⟩ := okN_le hok.n
  unfold openR openJ arA arB
  have hco := copied_own d hd
  have hS32 := sync_32 d hok
  obtain ⟨S, hS⟩ : ∃ S, d.syncD.B = S := ⟨_, rfl⟩
  rw [hS] at hs hlen hS32 ⊢
  have h1 := scan_spec (S.take (S.length / 2)) (by simp; omega)
  have h2 := scan_spec (S.drop (S.length / 2)) (by simp; omega)
  have hdv : (S.length : Int).tdiv 2 = ((S.length / 2 : Nat) : Int) := rfl
  have w1 := wr (x := ((S.length / 2 : Nat) : Int)) (by omega)
  obtain ⟨a, haa⟩ : ∃ a, scanS (S.take (S.length / 2)) = a := ⟨_, rfl⟩
  obtain ⟨b, hbb⟩ : ∃ b, scanS (S.drop (S.length / 2)) = b := ⟨_, rfl⟩
  rw [haa] at h1 ⊢
  rw [hbb] at h2 ⊢
  refine ACall.walk [0, 1, 2, 3, 4, 5, 6, 7, 8, 9, 11, 18, 39, 50, 74, 75, 76, 77] [4, 7, 8, 38] Try.func12 rfl Try.ntmps12 (by kernel_rfl) (by rfl) rfl fun W own I0 φ0 => ?_
  repeat (first | refine xA ?_ | refine xB ?_ | refine xC ?_ | refine xE ?_ | refine xD ?_ | refine xK ?_ | refine xS ?_ | refine xM ?_ | refine xT ?_ | refine xF ?_ | ((first | refine xR ?_ | refine xW ?_ | refine vq_id ?_); simp only [go_sem, Nat.reduceAdd, Nat.reduceLeDiff, Nat.reduceSub, Int.reduceToNat, reduceCtorEq]) | (refine ⟨by first | omega | (intros; simp_all; done) | (intros; simp_all; omega), ?_⟩; try simp only [go_sem, Nat.reduceAdd, Nat.reduceLeDiff, Nat.reduceSub, Int.reduceToNat, reduceCtorEq]))
  refine AQ.fn (by kernel_rfl) rfl rfl rfl (hs) rfl ?_
  repeat (first | refine xA ?_ | refine xB ?_ | refine xC ?_ | refine xE ?_ | refine xD ?_ | refine xK ?_ | refine xS ?_ | refine xM ?_ | refine xT ?_ | refine xF ?_ | ((first | refine xR ?_ | refine xW ?_ | refine vq_id ?_); simp only [go_sem, Nat.reduceAdd, Nat.reduceLeDiff, Nat.reduceSub, Int.reduceToNat, reduceCtorEq, blkR_len, hdv, w1]) | (refine ⟨by first | omega | (intros; simp_all; done) | (intros; simp_all; omega), ?_⟩; try simp only [go_sem, Nat.reduceAdd, Nat.reduceLeDiff, Nat.reduceSub, Int.reduceToNat, reduceCtorEq, blkR_len, hdv, w1]))
  refine AP.cut (α := Unit) (fun _ => [(0, d.v), (1, .im (.pt [.sl 1 (blkR d.B), .sl 2 (wrR d.W)])), (2, .im (.v (.pointer none))), (3, Iv 0), (4, .ob 0 0), (5, Iv 0), (6, Iv (S.length / 2 : Nat)), (7, .ob 21 0), (8, .ob 22 0)]) (fun _ => [(24, .vec 9 1 (blkR b.recs)), (23, .vec 9 1 (blkR a.recs)), (22, .var 89 [.os 24 1 0 b.recs.length, Iv b.used, I2 b.first, I2 b.last]), (21, .var 89 [.os 23 1 0 a.recs.length, Iv a.used, I2 a.first, I2 a.last]), (0, .var 28 [.im (.sl 1 (blkR S)), .im (.v (.slice none 0 0))])]) (fun _ => True) ?_ fun _ _ => ?_
  · skip
    refine AP.drawE 14 (Tree.node [] [0, 1, 2, 3, 5, 6, 7, 8] [4, 10, 11] [Tree.node [5, 6, 7, 8] [] [9, 10, 11] [Tree.node [] [] [10, 11] [Tree.node [] [] [11] [Tree.node [] [] [12] [Tree.node [] [] [13] [Tree.node [] [] [] []]]], Tree.node [] [] [10] [Tree.node [] [] [12] [Tree.node [] [] [13] [Tree.node [] [] [] []]]]], Tree.node [5, 6, 7, 8] [] [9, 11] [Tree.node [] [] [11] [Tree.node [] [] [12] [Tree.node [] [] [13] [Tree.node [] [] [] []]]], Tree.node [5, 6, 7, 8] [] [9] [Tree.node [] [] [12] [Tree.node [] [] [13] [Tree.node [] [] [] []]]]], Tree.node [5, 6, 7, 8] [] [9, 10] [Tree.node [] [] [10] [Tree.node [] [] [12] [Tree.node [] [] [13] [Tree.node [] [] [] []]]], Tree.node [5, 6, 7, 8] [] [9] [Tree.node [] [] [12] [Tree.node [] [] [13] [Tree.node [] [] [] []]]]]], Tree.node [0, 1, 2, 3, 5, 6, 7, 8] [] [4, 11] [Tree.node [5, 6, 7, 8] [] [9, 11] [Tree.node [] [] [11] [Tree.node [] [] [12] [Tree.node [] [] [13] [Tree.node [] [] [] []]]], Tree.node [5, 6, 7, 8] [] [9] [Tree.node [] [] [12] [Tree.node [] [] [13] [Tree.node [] [] [] []]]]], Tree.node [0, 1, 2, 3, 5, 6, 7, 8] [] [4] [Tree.node [5, 6, 7, 8] [] [9] [Tree.node [] [] [12] [Tree.node [] [] [13] [Tree.node [] [] [] []]]]]], Tree.node [0, 1, 2, 3, 5, 6, 7, 8] [] [4, 10] [Tree.node [5, 6, 7, 8] [] [9, 10] [Tree.node [] [] [10] [Tree.node [] [] [12] [Tree.node [] [] [13] [Tree.node [] [] [] []]]], Tree.node [5, 6, 7, 8] [] [9] [Tree.node [] [] [12] [Tree.node [] [] [13] [Tree.node [] [] [] []]]]], Tree.node [0, 1, 2, 3, 5, 6, 7, 8] [] [4] [Tree.node [5, 6, 7, 8] [] [9] [Tree.node [] [] [12] [Tree.node [] [] [13] [Tree.node [] [] [] []]]]]]]) (by kernel_rfl) rfl (by kernel_rfl) (by kernel_rfl) ?_
    refine vd_node ?_
    simp only [go_sem, Nat.reduceAdd, Nat.reduceLeDiff, Nat.reduceSub, Int.reduceToNat, reduceCtorEq, blkR_len, blkR_take, blkR_drop]
    repeat' (first | with_reducible exact True.intro | with_reducible refine And.intro (by omega) ?_ | with_reducible refine And.intro ?_ ?_ | omega | (refine AQ.callv (by kernel_rfl) rfl rfl rfl h1 fun r' H' ⟨e1, e2⟩ => ?_; subst e1; subst e2; simp only [go_sem, Nat.reduceAdd, Nat.reduceLeDiff, Nat.reduceSub, Int.reduceToNat, reduceCtorEq]) | (refine AQ.callv (by kernel_rfl) rfl rfl rfl h2 fun r' H' ⟨e1, e2⟩ => ?_; subst e1; subst e2; simp only [go_sem, Nat.reduceAdd, Nat.reduceLeDiff, Nat.reduceSub, Int.reduceToNat, reduceCtorEq]) | (refine AQ.nx rfl ?_; first | (refine And.intro ?_ ?_ <;> (try simp only [go_sem, Nat.reduceAdd, Nat.reduceLeDiff, Nat.reduceSub, Int.reduceToNat, reduceCtorEq, blkR_len, blkR_take, blkR_drop])) | simp only [go_sem, Nat.reduceAdd, Nat.reduceLeDiff, Nat.reduceSub, Int.reduceToNat, reduceCtorEq, blkR_len, blkR_take, blkR_drop]) | refine AQ.done ?_ | (refine AQ.go (by kernel_rfl) ?_; simp only [go_sem, Nat.reduceAdd, Nat.reduceLeDiff, Nat.reduceSub, Int.reduceToNat, reduceCtorEq, blkR_len, blkR_take, blkR_drop]; (refine AQ.nx rfl ?_; first | (refine And.intro ?_ ?_ <;> (try simp only [go_sem, Nat.reduceAdd, Nat.reduceLeDiff, Nat.reduceSub, Int.reduceToNat, reduceCtorEq, blkR_len, blkR_take, blkR_drop])) | simp only [go_sem, Nat.reduceAdd, Nat.reduceLeDiff, Nat.reduceSub, Int.reduceToNat, reduceCtorEq, blkR_len, blkR_take, blkR_drop])))
    · simp only [go_sem, Nat.reduceAdd, Nat.reduceLeDiff, Nat.reduceSub, Int.reduceToNat, reduceCtorEq]; refine AE.rename 11 21 rfl rfl rfl ?_; simp only [go_sem, Nat.reduceAdd, Nat.reduceLeDiff, Nat.reduceSub, Int.reduceToNat, reduceCtorEq]; refine AE.rename 12 22 rfl rfl rfl ?_; simp only [go_sem, Nat.reduceAdd, Nat.reduceLeDiff, Nat.reduceSub, Int.reduceToNat, reduceCtorEq]; refine AE.rename 5 23 rfl rfl rfl ?_; simp only [go_sem, Nat.reduceAdd, Nat.reduceLeDiff, Nat.reduceSub, Int.reduceToNat, reduceCtorEq]; refine AE.rename 10 24 rfl rfl rfl ?_; simp only [go_sem, Nat.reduceAdd, Nat.reduceLeDiff, Nat.reduceSub, Int.reduceToNat, reduceCtorEq]; refine AE.order [24, 23, 22, 21, 0] rfl ?_; simp only [go_sem, Nat.reduceAdd, Nat.reduceLeDiff, Nat.reduceSub, Int.reduceToNat, reduceCtorEq]; exact AE.meet () trivial (by repeat (first | exact Sub.nil _ | refine Sub.cons rfl ?_)) rfl
    · simp only [go_sem, Nat.reduceAdd, Nat.reduceLeDiff, Nat.reduceSub, Int.reduceToNat, reduceCtorEq]; refine AE.rename 12 21 rfl rfl rfl ?_; simp only [go_sem, Nat.reduceAdd, Nat.reduceLeDiff, Nat.reduceSub, Int.reduceToNat, reduceCtorEq]; refine AE.rename 11 22 rfl rfl rfl ?_; simp only [go_sem, Nat.reduceAdd, Nat.reduceLeDiff, Nat.reduceSub, Int.reduceToNat, reduceCtorEq]; refine AE.rename 5 23 rfl rfl rfl ?_; simp only [go_sem, Nat.reduceAdd, Nat.reduceLeDiff, Nat.reduceSub, Int.reduceToNat, reduceCtorEq]; refine AE.rename 10 24 rfl rfl rfl ?_; simp only [go_sem, Nat.reduceAdd, Nat.reduceLeDiff, Nat.reduceSub, Int.reduceToNat, reduceCtorEq]; refine AE.order [24, 23, 22, 21, 0] rfl ?_; simp only [go_sem, Nat.reduceAdd, Nat.reduceLeDiff, Nat.reduceSub, Int.reduceToNat, reduceCtorEq]; exact AE.meet () trivial (by repeat (first | exact Sub.nil _ | refine Sub.cons rfl ?_)) rfl
    · simp only [go_sem, Nat.reduceAdd, Nat.reduceLeDiff, Nat.reduceSub, Int.reduceToNat, reduceCtorEq]; refine AE.rename 6 21 rfl rfl rfl ?_; simp only [go_sem, Nat.reduceAdd, Nat.reduceLeDiff, Nat.reduceSub, Int.reduceToNat, reduceCtorEq]; refine AE.rename 12 22 rfl rfl rfl ?_; simp only [go_sem, Nat.reduceAdd, Nat.reduceLeDiff, Nat.reduceSub, Int.reduceToNat, reduceCtorEq]; refine AE.rename 5 23 rfl rfl rfl ?_; simp only [go_sem, Nat.reduceAdd, Nat.reduceLeDiff, Nat.reduceSub, Int.reduceToNat, reduceCtorEq]; refine AE.rename 11 24 rfl rfl rfl ?_; simp only [go_sem, Nat.reduceAdd, Nat.reduceLeDiff, Nat.reduceSub, Int.reduceToNat, reduceCtorEq]; refine AE.order [24, 23, 22, 21, 0] rfl ?_; simp only [go_sem, Nat.reduceAdd, Nat.reduceLeDiff, Nat.reduceSub, Int.reduceToNat, reduceCtorEq]; exact AE.meet () trivial (by repeat (first | exact Sub.nil _ | refine Sub.cons rfl ?_)) rfl
    · simp only [go_sem, Nat.reduceAdd, Nat.reduceLeDiff, Nat.reduceSub, Int.reduceToNat, reduceCtorEq]; refine AE.rename 6 21 rfl rfl rfl ?_; simp only [go_sem, Nat.reduceAdd, Nat.reduceLeDiff, Nat.reduceSub, Int.reduceToNat, reduceCtorEq]; refine AE.rename 7 22 rfl rfl rfl ?_; simp only [go_sem, Nat.reduceAdd, Nat.reduceLeDiff, Nat.reduceSub, Int.reduceToNat, reduceCtorEq]; refine AE.rename 5 23 rfl rfl rfl ?_; simp only [go_sem, Nat.reduceAdd, Nat.reduceLeDiff, Nat.reduceSub, Int.reduceToNat, reduceCtorEq]; refine AE.rename 12 24 rfl rfl rfl ?_; simp only [go_sem, Nat.reduceAdd, Nat.reduceLeDiff, Nat.reduceSub, Int.reduceToNat, reduceCtorEq]; refine AE.order [24, 23, 22, 21, 0] rfl ?_; simp only [go_sem, Nat.reduceAdd, Nat.reduceLeDiff, Nat.reduceSub, Int.reduceToNat, reduceCtorEq]; exact AE.meet () trivial (by repeat (first | exact Sub.nil _ | refine Sub.cons rfl ?_)) rfl
    · simp only [go_sem, Nat.reduceAdd, Nat.reduceLeDiff, Nat.reduceSub, Int.reduceToNat, reduceCtorEq]; refine AE.rename 12 21 rfl rfl rfl ?_; simp only [go_sem, Nat.reduceAdd, Nat.reduceLeDiff, Nat.reduceSub, Int.reduceToNat, reduceCtorEq]; refine AE.rename 6 22 rfl rfl rfl ?_; simp only [go_sem, Nat.reduceAdd, Nat.reduceLeDiff, Nat.reduceSub, Int.reduceToNat, reduceCtorEq]; refine AE.rename 5 23 rfl rfl rfl ?_; simp only [go_sem, Nat.reduceAdd, Nat.reduceLeDiff, Nat.reduceSub, Int.reduceToNat, reduceCtorEq]; refine AE.rename 11 24 rfl rfl rfl ?_; simp only [go_sem, Nat.reduceAdd, Nat.reduceLeDiff, Nat.reduceSub, Int.reduceToNat, reduceCtorEq]; refine AE.order [24, 23, 22, 21, 0] rfl ?_; simp only [go_sem, Nat.reduceAdd, Nat.reduceLeDiff, Nat.reduceSub, Int.reduceToNat, reduceCtorEq]; exact AE.meet () trivial (by repeat (first | exact Sub.nil _ | refine Sub.cons rfl ?_)) rfl
    · simp only [go_sem, Nat.reduceAdd, Nat.reduceLeDiff, Nat.reduceSub, Int.reduceToNat, reduceCtorEq]; refine AE.rename 7 21 rfl rfl rfl ?_; simp only [go_sem, Nat.reduceAdd, Nat.reduceLeDiff, Nat.reduceSub, Int.reduceToNat, reduceCtorEq]; refine AE.rename 6 22 rfl rfl rfl ?_; simp only [go_sem, Nat.reduceAdd, Nat.reduceLeDiff, Nat.reduceSub, Int.reduceToNat, reduceCtorEq]; refine AE.rename 5 23 rfl rfl rfl ?_; simp only [go_sem, Nat.reduceAdd, Nat.reduceLeDiff, Nat.reduceSub, Int.reduceToNat, reduceCtorEq]; refine AE.rename 12 24 rfl rfl rfl ?_; simp only [go_sem, Nat.reduceAdd, Nat.reduceLeDiff, Nat.reduceSub, Int.reduceToNat, reduceCtorEq]; refine AE.order [24, 23, 22, 21, 0] rfl ?_; simp only [go_sem, Nat.reduceAdd, Nat.reduceLeDiff, Nat.reduceSub, Int.reduceToNat, reduceCtorEq]; exact AE.meet () trivial (by repeat (first | exact Sub.nil _ | refine Sub.cons rfl ?_)) rfl
    · simp only [go_sem, Nat.reduceAdd, Nat.reduceLeDiff, Nat.reduceSub, Int.reduceToNat, reduceCtorEq]; refine AE.rename 1 21 rfl rfl rfl ?_; simp only [go_sem, Nat.reduceAdd, Nat.reduceLeDiff, Nat.reduceSub, Int.reduceToNat, reduceCtorEq]; refine AE.rename 12 22 rfl rfl rfl ?_; simp only [go_sem, Nat.reduceAdd, Nat.reduceLeDiff, Nat.reduceSub, Int.reduceToNat, reduceCtorEq]; refine AE.rename 6 23 rfl rfl rfl ?_; simp only [go_sem, Nat.reduceAdd, Nat.reduceLeDiff, Nat.reduceSub, Int.reduceToNat, reduceCtorEq]; refine AE.rename 11 24 rfl rfl rfl ?_; simp only [go_sem, Nat.reduceAdd, Nat.reduceLeDiff, Nat.reduceSub, Int.reduceToNat, reduceCtorEq]; refine AE.order [24, 23, 22, 21, 0] rfl ?_; simp only [go_sem, Nat.reduceAdd, Nat.reduceLeDiff, Nat.reduceSub, Int.reduceToNat, reduceCtorEq]; exact AE.meet () trivial (by repeat (first | exact Sub.nil _ | refine Sub.cons rfl ?_)) rfl
    · simp only [go_sem, Nat.reduceAdd, Nat.reduceLeDiff, Nat.reduceSub, Int.reduceToNat, reduceCtorEq]; refine AE.rename 1 21 rfl rfl rfl ?_; simp only [go_sem, Nat.reduceAdd, Nat.reduceLeDiff, Nat.reduceSub, Int.reduceToNat, reduceCtorEq]; refine AE.rename 7 22 rfl rfl rfl ?_; simp only [go_sem, Nat.reduceAdd, Nat.reduceLeDiff, Nat.reduceSub, Int.reduceToNat, reduceCtorEq]; refine AE.rename 6 23 rfl rfl rfl ?_; simp only [go_sem, Nat.reduceAdd, Nat.reduceLeDiff, Nat.reduceSub, Int.reduceToNat, reduceCtorEq]; refine AE.rename 12 24 rfl rfl rfl ?_; simp only [go_sem, Nat.reduceAdd, Nat.reduceLeDiff, Nat.reduceSub, Int.reduceToNat, reduceCtorEq]; refine AE.order [24, 23, 22, 21, 0] rfl ?_; simp only [go_sem, Nat.reduceAdd, Nat.reduceLeDiff, Nat.reduceSub, Int.reduceToNat, reduceCtorEq]; exact AE.meet () trivial (by repeat (first | exact Sub.nil _ | refine Sub.cons rfl ?_)) rfl
    · simp only [go_sem, Nat.reduceAdd, Nat.reduceLeDiff, Nat.reduceSub, Int.reduceToNat, reduceCtorEq]; refine AE.rename 1 21 rfl rfl rfl ?_; simp only [go_sem, Nat.reduceAdd, Nat.reduceLeDiff, Nat.reduceSub, Int.reduceToNat, reduceCtorEq]; refine AE.rename 2 22 rfl rfl rfl ?_; simp only [go_sem, Nat.reduceAdd, Nat.reduceLeDiff, Nat.reduceSub, Int.reduceToNat, reduceCtorEq]; refine AE.rename 7 23 rfl rfl rfl ?_; simp only [go_sem, Nat.reduceAdd, Nat.reduceLeDiff, Nat.reduceSub, Int.reduceToNat, reduceCtorEq]; refine AE.rename 12 24 rfl rfl rfl ?_; simp only [go_sem, Nat.reduceAdd, Nat.reduceLeDiff, Nat.reduceSub, Int.reduceToNat, reduceCtorEq]; refine AE.order [24, 23, 22, 21, 0] rfl ?_; simp only [go_sem, Nat.reduceAdd, Nat.reduceLeDiff, Nat.reduceSub, Int.reduceToNat, reduceCtorEq]; exact AE.meet () trivial (by repeat (first | exact Sub.nil _ | refine Sub.cons rfl ?_)) rfl
    · simp only [go_sem, Nat.reduceAdd, Nat.reduceLeDiff, Nat.reduceSub, Int.reduceToNat, reduceCtorEq]; refine AE.rename 12 21 rfl rfl rfl ?_; simp only [go_sem, Nat.reduceAdd, Nat.reduceLeDiff, Nat.reduceSub, Int.reduceToNat, reduceCtorEq]; refine AE.rename 1 22 rfl rfl rfl ?_; simp only [go_sem, Nat.reduceAdd, Nat.reduceLeDiff, Nat.reduceSub, Int.reduceToNat, reduceCtorEq]; refine AE.rename 6 23 rfl rfl rfl ?_; simp only [go_sem, Nat.reduceAdd, Nat.reduceLeDiff, Nat.reduceSub, Int.reduceToNat, reduceCtorEq]; refine AE.rename 11 24 rfl rfl rfl ?_; simp only [go_sem, Nat.reduceAdd, Nat.reduceLeDiff, Nat.reduceSub, Int.reduceToNat, reduceCtorEq]; refine AE.order [24, 23, 22, 21, 0] rfl ?_; simp only [go_sem, Nat.reduceAdd, Nat.reduceLeDiff, Nat.reduceSub, Int.reduceToNat, reduceCtorEq]; exact AE.meet () trivial (by repeat (first | exact Sub.nil _ | refine Sub.cons rfl ?_)) rfl
    · simp only [go_sem, Nat.reduceAdd, Nat.reduceLeDiff, Nat.reduceSub, Int.reduceToNat, reduceCtorEq]; refine AE.rename 7 21 rfl rfl rfl ?_; simp only [go_sem, Nat.reduceAdd, Nat.reduceLeDiff, Nat.reduceSub, Int.reduceToNat, reduceCtorEq]; refine AE.rename 1 22 rfl rfl rfl ?_; simp only [go_sem, Nat.reduceAdd, Nat.reduceLeDiff, Nat.reduceSub, Int.reduceToNat, reduceCtorEq]; refine AE.rename 6 23 rfl rfl rfl ?_; simp only [go_sem, Nat.reduceAdd, Nat.reduceLeDiff, Nat.reduceSub, Int.reduceToNat, reduceCtorEq]; refine AE.rename 12 24 rfl rfl rfl ?_; simp only [go_sem, Nat.reduceAdd, Nat.reduceLeDiff, Nat.reduceSub, Int.reduceToNat, reduceCtorEq]; refine AE.order [24, 23, 22, 21, 0] rfl ?_; simp only [go_sem, Nat.reduceAdd, Nat.reduceLeDiff, Nat.reduceSub, Int.reduceToNat, reduceCtorEq]; exact AE.meet () trivial (by repeat (first | exact Sub.nil _ | refine Sub.cons rfl ?_)) rfl
    · simp only [go_sem, Nat.reduceAdd, Nat.reduceLeDiff, Nat.reduceSub, Int.reduceToNat, reduceCtorEq]; refine AE.rename 2 21 rfl rfl rfl ?_; simp only [go_sem, Nat.reduceAdd, Nat.reduceLeDiff, Nat.reduceSub, Int.reduceToNat, reduceCtorEq]; refine AE.rename 1 22 rfl rfl rfl ?_; simp only [go_sem, Nat.reduceAdd, Nat.reduceLeDiff, Nat.reduceSub, Int.reduceToNat, reduceCtorEq]; refine AE.rename 7 23 rfl rfl rfl ?_; simp only [go_sem, Nat.reduceAdd, Nat.reduceLeDiff, Nat.reduceSub, Int.reduceToNat, reduceCtorEq]; refine AE.rename 12 24 rfl rfl rfl ?_; simp only [go_sem, Nat.reduceAdd, Nat.reduceLeDiff, Nat.reduceSub, Int.reduceToNat, reduceCtorEq]; refine AE.order [24, 23, 22, 21, 0] rfl ?_; simp only [go_sem, Nat.reduceAdd, Nat.reduceLeDiff, Nat.reduceSub, Int.reduceToNat, reduceCtorEq]; exact AE.meet () trivial (by repeat (first | exact Sub.nil _ | refine Sub.cons rfl ?_)) rfl
  · repeat (first | refine xA ?_ | refine xB ?_ | refine xC ?_ | refine xE ?_ | refine xD ?_ | refine xK ?_ | refine xS ?_ | refine xM ?_ | refine xT ?_ | refine xF ?_ | ((first | refine xR ?_ | refine xW ?_ | refine vq_id ?_); simp only [go_sem, Nat.reduceAdd, Nat.reduceLeDiff, Nat.reduceSub, Int.reduceToNat, reduceCtorEq]) | (refine ⟨by first | omega | (intros; simp_all; done) | (intros; simp_all; omega), ?_⟩; try simp only [go_sem, Nat.reduceAdd, Nat.reduceLeDiff, Nat.reduceSub, Int.reduceToNat, reduceCtorEq]))
    refine AP.drawE 6 (Tree.node [] [0, 2] [1] [Tree.node [2] [3] [4] [Tree.node [] [5] [] []]]) (by kernel_rfl) rfl (by kernel_rfl) (by kernel_rfl) ?_
    refine vd_node ?_
    simp only [go_sem, Nat.reduceAdd, Nat.reduceLeDiff, Nat.reduceSub, Int.reduceToNat, reduceCtorEq]
    refine AQ.callv (by kernel_rfl) rfl rfl rfl hco fun r' H' ⟨e1, e2⟩ => ?_
    subst e1; subst e2
    simp only [go_sem, Nat.reduceAdd, Nat.reduceLeDiff, Nat.reduceSub, Int.reduceToNat, reduceCtorEq]
    refine AQ.nx rfl ?_
    simp only [go_sem, Nat.reduceAdd, Nat.reduceLeDiff, Nat.reduceSub, Int.reduceToNat, reduceCtorEq]
    refine AQ.go (by kernel_rfl) ?_
    simp only [go_sem, Nat.reduceAdd, Nat.reduceLeDiff, Nat.reduceSub, Int.reduceToNat, reduceCtorEq]
    refine AQ.nx rfl ?_
    simp only [go_sem, Nat.reduceAdd, Nat.reduceLeDiff, Nat.reduceSub, Int.reduceToNat, reduceCtorEq]
    refine AQ.done ?_
    simp only [go_sem, Nat.reduceAdd, Nat.reduceLeDiff, Nat.reduceSub, Int.reduceToNat, reduceCtorEq]
    refine AE.seq ?_
    refine AP.seq rfl ?_
    refine AP.cut (α := Sc × Nat) (fun x => [(2, .im (.v (.pointer none))), (3, Iv 0), (4, .ob 0 0), (9, .ob 28 0)]) (fun x => [(28, .var 93 [.im (.sl 1 (blkR d.B)), .os 27 2 0 d.W.length, Iv x.2, .os 25 1 0 x.1.recs.length, Iv x.1.used, I2 x.1.first, I2 x.1.last, I2 0]), (27, .vec 97 2 (wrR d.W)), (25, .vec 9 1 (blkR x.1.recs)), (0, .var 28 [.im (.sl 1 (blkR S)), .im (.v (.slice none 0 0))])]) (fun x => Sel a b x.1 x.2) ?_ fun ⟨c, h⟩ hsel => ?_
    · have lz : ∀ l : List Bs, l = [] → ((l.length : Int) == 0) = true := fun l h => by subst h; rfl
      have ln : ∀ l : List Bs, l ≠ [] → ((l.length : Int) == 0) = false := fun l h => by
        have := List.length_pos_iff.2 h
        simp only [beq_eq_false_iff_ne, ne_eq]; omega
      have gz : ∀ l : List Bs, l = [] → decide ((0 : Int) < (l.length : Int)) = false := fun l h => by subst h; rfl
      have gn : ∀ l : List Bs, l ≠ [] → decide ((0 : Int) < (l.length : Int)) = true := fun l h => by
        have := List.length_pos_iff.2 h
        simp only [decide_eq_true_eq]; omega
      by_cases ha0 : a.recs = []
      · have e1 := lz _ ha0
        by_cases hb0 : b.recs = []
        · have e2 := lz _ hb0
          repeat (first | refine xA ?_ | refine xB ?_ | refine xC ?_ | refine xE ?_ | refine xD ?_ | refine xK ?_ | refine xS ?_ | refine xM ?_ | refine xT ?_ | refine xF ?_ | ((first | refine xR ?_ | refine xW ?_ | refine vq_id ?_); simp only [go_sem, Nat.reduceAdd, Nat.reduceLeDiff, Nat.reduceSub, Int.reduceToNat, reduceCtorEq, blkR_len, e1, e2]) | (refine ⟨by first | omega | (intros; simp_all; done) | (intros; simp_all; omega), ?_⟩; try simp only [go_sem, Nat.reduceAdd, Nat.reduceLeDiff, Nat.reduceSub, Int.reduceToNat, reduceCtorEq, blkR_len, e1, e2]))
          refine AE.retD [28, 26, 27, 22, 21, 24, 23, 0] rfl ⟨rfl, rfl, trivial⟩ rfl ⟨fun _ => ⟨rfl, rfl⟩, fun c h hs => ?_⟩
          rcases hs with ⟨_, _, h3, _⟩ | ⟨_, _, h3, _⟩
          · exact absurd ha0 h3
          · exact absurd hb0 h3
        · have e2 := ln _ hb0
          repeat (first | refine xA ?_ | refine xB ?_ | refine xC ?_ | refine xE ?_ | refine xD ?_ | refine xK ?_ | refine xS ?_ | refine xM ?_ | refine xT ?_ | refine xF ?_ | ((first | refine xR ?_ | refine xW ?_ | refine vq_id ?_); simp only [go_sem, Nat.reduceAdd, Nat.reduceLeDiff, Nat.reduceSub, Int.reduceToNat, reduceCtorEq, blkR_len, e1, e2]) | (refine ⟨by first | omega | (intros; simp_all; done) | (intros; simp_all; omega), ?_⟩; try simp only [go_sem, Nat.reduceAdd, Nat.reduceLeDiff, Nat.reduceSub, Int.reduceToNat, reduceCtorEq, blkR_len, e1, e2]))
          refine AE.freeze 26 (el := 9) (es := 1) (rows := blkR d.B) rfl (by simp only [go_sem, Nat.reduceAdd, Nat.reduceLeDiff, Nat.reduceSub, Int.reduceToNat, reduceCtorEq, blkR_len]; first | done | trivial | omega | (simp; done) | (simp; omega)) (by simp only [go_sem, Nat.reduceAdd, Nat.reduceLeDiff, Nat.reduceSub, Int.reduceToNat, reduceCtorEq, blkR_len]; first | done | trivial | omega | (simp; done) | (simp; omega)) ?_; simp only [go_sem, Nat.reduceAdd, Nat.reduceLeDiff, Nat.reduceSub, Int.reduceToNat, reduceCtorEq, blkR_len]
          rw [take_all' (blkR d.B) _ (Nat.le_of_eq (blkR_len _))]
          refine AE.forgets [22, 21, 23] rfl ?_
          simp only [go_sem, Nat.reduceAdd, Nat.reduceLeDiff, Nat.reduceSub, Int.reduceToNat, reduceCtorEq]
          refine AE.rename 24 25 rfl rfl rfl ?_; simp only [go_sem, Nat.reduceAdd, Nat.reduceLeDiff, Nat.reduceSub, Int.reduceToNat, reduceCtorEq]
          refine AE.order [28, 27, 25, 0] rfl ?_
          simp only [go_sem, Nat.reduceAdd, Nat.reduceLeDiff, Nat.reduceSub, Int.reduceToNat, reduceCtorEq]
          exact AE.meet (b, 1) (.inr ⟨rfl, rfl, hb0, .inl ha0⟩) (by repeat (first | exact Sub.nil _ | refine Sub.cons rfl ?_)) rfl
      · have e1 := ln _ ha0
        by_cases hb0 : b.recs = []
        · have e2 := gz _ hb0
          have e3 := lz _ hb0
          repeat (first | refine xA ?_ | refine xB ?_ | refine xC ?_ | refine xE ?_ | refine xD ?_ | refine xK ?_ | refine xS ?_ | refine xM ?_ | refine xT ?_ | refine xF ?_ | ((first | refine xR ?_ | refine xW ?_ | refine vq_id ?_); simp only [go_sem, Nat.reduceAdd, Nat.reduceLeDiff, Nat.reduceSub, Int.reduceToNat, reduceCtorEq, blkR_len, e1, e2, e3]) | (refine ⟨by first | omega | (intros; simp_all; done) | (intros; simp_all; omega), ?_⟩; try simp only [go_sem, Nat.reduceAdd, Nat.reduceLeDiff, Nat.reduceSub, Int.reduceToNat, reduceCtorEq, blkR_len, e1, e2, e3]))
          refine AE.freeze 26 (el := 9) (es := 1) (rows := blkR d.B) rfl (by simp only [go_sem, Nat.reduceAdd, Nat.reduceLeDiff, Nat.reduceSub, Int.reduceToNat, reduceCtorEq, blkR_len]; first | done | trivial | omega | (simp; done) | (simp; omega)) (by simp only [go_sem, Nat.reduceAdd, Nat.reduceLeDiff, Nat.reduceSub, Int.reduceToNat, reduceCtorEq, blkR_len]; first | done | trivial | omega | (simp; done) | (simp; omega)) ?_; simp only [go_sem, Nat.reduceAdd, Nat.reduceLeDiff, Nat.reduceSub, Int.reduceToNat, reduceCtorEq, blkR_len]
          rw [take_all' (blkR d.B) _ (Nat.le_of_eq (blkR_len _))]
          refine AE.forgets [22, 21, 24] rfl ?_
          simp only [go_sem, Nat.reduceAdd, Nat.reduceLeDiff, Nat.reduceSub, Int.reduceToNat, reduceCtorEq]
          refine AE.rename 23 25 rfl rfl rfl ?_; simp only [go_sem, Nat.reduceAdd, Nat.reduceLeDiff, Nat.reduceSub, Int.reduceToNat, reduceCtorEq]
          refine AE.order [28, 27, 25, 0] rfl ?_
          simp only [go_sem, Nat.reduceAdd, Nat.reduceLeDiff, Nat.reduceSub, Int.reduceToNat, reduceCtorEq]
          exact AE.meet (a, 0) (.inl ⟨rfl, rfl, ha0, fun h => h.1 hb0⟩) (by repeat (first | exact Sub.nil _ | refine Sub.cons rfl ?_)) rfl
        · have e2 := gn _ hb0
          have e3 := ln _ hb0
          by_cases hf : a.first < b.first
          · have e4 : decide ((a.first : Int) < (b.first : Int)) = true := by simp only [decide_eq_true_eq]; omega
            repeat (first | refine xA ?_ | refine xB ?_ | refine xC ?_ | refine xE ?_ | refine xD ?_ | refine xK ?_ | refine xS ?_ | refine xM ?_ | refine xT ?_ | refine xF ?_ | ((first | refine xR ?_ | refine xW ?_ | refine vq_id ?_); simp only [go_sem, Nat.reduceAdd, Nat.reduceLeDiff, Nat.reduceSub, Int.reduceToNat, reduceCtorEq, blkR_len, e1, e2, e3, e4]) | (refine ⟨by first | omega | (intros; simp_all; done) | (intros; simp_all; omega), ?_⟩; try simp only [go_sem, Nat.reduceAdd, Nat.reduceLeDiff, Nat.reduceSub, Int.reduceToNat, reduceCtorEq, blkR_len, e1, e2, e3, e4]))
            refine AE.freeze 26 (el := 9) (es := 1) (rows := blkR d.B) rfl (by simp only [go_sem, Nat.reduceAdd, Nat.reduceLeDiff, Nat.reduceSub, Int.reduceToNat, reduceCtorEq, blkR_len]; first | done | trivial | omega | (simp; done) | (simp; omega)) (by simp only [go_sem, Nat.reduceAdd, Nat.reduceLeDiff, Nat.reduceSub, Int.reduceToNat, reduceCtorEq, blkR_len]; first | done | trivial | omega | (simp; done) | (simp; omega)) ?_; simp only [go_sem, Nat.reduceAdd, Nat.reduceLeDiff, Nat.reduceSub, Int.reduceToNat, reduceCtorEq, blkR_len]
            rw [take_all' (blkR d.B) _ (Nat.le_of_eq (blkR_len _))]
            refine AE.forgets [22, 21, 23] rfl ?_
            simp only [go_sem, Nat.reduceAdd, Nat.reduceLeDiff, Nat.reduceSub, Int.reduceToNat, reduceCtorEq]
            refine AE.rename 24 25 rfl rfl rfl ?_; simp only [go_sem, Nat.reduceAdd, Nat.reduceLeDiff, Nat.reduceSub, Int.reduceToNat, reduceCtorEq]
            refine AE.order [28, 27, 25, 0] rfl ?_
            simp only [go_sem, Nat.reduceAdd, Nat.reduceLeDiff, Nat.reduceSub, Int.reduceToNat, reduceCtorEq]
            exact AE.meet (b, 1) (.inr ⟨rfl, rfl, hb0, .inr hf⟩) (by repeat (first | exact Sub.nil _ | refine Sub.cons rfl ?_)) rfl
          · have e4 : decide ((a.first : Int) < (b.first : Int)) = false := by simp only [decide_eq_false_iff_not]; omega
            repeat (first | refine xA ?_ | refine xB ?_ | refine xC ?_ | refine xE ?_ | refine xD ?_ | refine xK ?_ | refine xS ?_ | refine xM ?_ | refine xT ?_ | refine xF ?_ | ((first | refine xR ?_ | refine xW ?_ | refine vq_id ?_); simp only [go_sem, Nat.reduceAdd, Nat.reduceLeDiff, Nat.reduceSub, Int.reduceToNat, reduceCtorEq, blkR_len, e1, e2, e3, e4]) | (refine ⟨by first | omega | (intros; simp_all; done) | (intros; simp_all; omega), ?_⟩; try simp only [go_sem, Nat.reduceAdd, Nat.reduceLeDiff, Nat.reduceSub, Int.reduceToNat, reduceCtorEq, blkR_len, e1, e2, e3, e4]))
            refine AE.freeze 26 (el := 9) (es := 1) (rows := blkR d.B) rfl (by simp only [go_sem, Nat.reduceAdd, Nat.reduceLeDiff, Nat.reduceSub, Int.reduceToNat, reduceCtorEq, blkR_len]; first | done | trivial | omega | (simp; done) | (simp; omega)) (by simp only [go_sem, Nat.reduceAdd, Nat.reduceLeDiff, Nat.reduceSub, Int.reduceToNat, reduceCtorEq, blkR_len]; first | done | trivial | omega | (simp; done) | (simp; omega)) ?_; simp only [go_sem, Nat.reduceAdd, Nat.reduceLeDiff, Nat.reduceSub, Int.reduceToNat, reduceCtorEq, blkR_len]
            rw [take_all' (blkR d.B) _ (Nat.le_of_eq (blkR_len _))]
            refine AE.forgets [22, 21, 24] rfl ?_
            simp only [go_sem, Nat.reduceAdd, Nat.reduceLeDiff, Nat.reduceSub, Int.reduceToNat, reduceCtorEq]
            refine AE.rename 23 25 rfl rfl rfl ?_; simp only [go_sem, Nat.reduceAdd, Nat.reduceLeDiff, Nat.reduceSub, Int.reduceToNat, reduceCtorEq]
            refine AE.order [28, 27, 25, 0] rfl ?_
            simp only [go_sem, Nat.reduceAdd, Nat.reduceLeDiff, Nat.reduceSub, Int.reduceToNat, reduceCtorEq]
            exact AE.meet (a, 0) (.inl ⟨rfl, rfl, ha0, fun h => hf h.2⟩) (by repeat (first | exact Sub.nil _ | refine Sub.cons rfl ?_)) rfl
    · simp only at hsel
      have hr : ∀ (r : AV) (H' : Heap), (H' = Jn.H ⟨d.B, d.W, h, c.recs, c.used, c.first, c.last, maxN S + 1⟩ 1 2 ∧ r = .tup [.ob 0 0, Iv 0]) → (a.recs = [] ∧ b.recs = [] → H' = [] ∧ r = .tup [.im (.v (.pointer none)), Iv 400]) ∧ (∀ (c : Sc) (h : Nat), Sel a b c h → H' = Jn.H ⟨d.B, d.W, h, c.recs, c.used, c.first, c.last, maxN S + 1⟩ 1 2 ∧ r = .tup [.ob 0 0, Iv 0]) := fun r H' hg => ⟨fun h0 => by
        rcases hsel with ⟨_, _, h3, _⟩ | ⟨_, _, h3, _⟩
        · exact absurd h0.1 h3
        · exact absurd h0.2 h3, fun c' h' hs' => by
        have : c' = c ∧ h' = h := by
          rcases hsel with ⟨h1, h2, h3, h4⟩ | ⟨h1, h2, h3, h4⟩ <;> rcases hs' with ⟨g1, g2, g3, g4⟩ | ⟨g1, g2, g3, g4⟩
          · exact ⟨by rw [h2, g2], by rw [h1, g1]⟩
          · exact absurd ⟨g3, g4.resolve_left h3⟩ h4
          · exact absurd ⟨h3, h4.resolve_left g3⟩ g4
          · exact ⟨by rw [h2, g2], by rw [h1, g1]⟩
        rw [this.1, this.2]; exact hg⟩
      refine AE.weaken (E' := [(2, .im (.v (.pointer none))), (3, Iv 0), (4, .ob 0 0), (9, .ob 28 0)]) ?_ (by repeat (first | exact Sub.nil _ | refine Sub.cons rfl ?_))
      obtain ⟨recs, used, first, last, hcc⟩ : ∃ r u f l, c.recs = r ∧ c.used = u ∧ c.first = f ∧ c.last = l := ⟨_, _, _, _, rfl, rfl, rfl, rfl⟩
      obtain ⟨q1, q2, q3, q4⟩ := hcc
      simp only [q1, q2, q3, q4]
      repeat (first | refine xA ?_ | refine xB ?_ | refine xC ?_ | refine xE ?_ | refine xD ?_ | refine xK ?_ | refine xS ?_ | refine xM ?_ | refine xT ?_ | refine xF ?_ | ((first | refine xR ?_ | refine xW ?_ | refine vq_id ?_); simp only [go_sem, Nat.reduceAdd, Nat.reduceLeDiff, Nat.reduceSub, Int.reduceToNat, reduceCtorEq, blkR_len]) | (refine ⟨by first | omega | (intros; simp_all; done) | (intros; simp_all; omega), ?_⟩; try simp only [go_sem, Nat.reduceAdd, Nat.reduceLeDiff, Nat.reduceSub, Int.reduceToNat, reduceCtorEq, blkR_len]))
      refine AP.loop rfl (α := Nat) (fun k => [(2, .im (.v (.pointer none))), (3, Iv 0), (4, .ob 0 0), (9, .ob 28 0), (74, .im (.sl 1 (blkR S))), (75, Iv S.length), (76, Iv k)]) (fun k => [(28, .var 93 [.im (.sl 1 (blkR d.B)), .os 27 2 0 d.W.length, Iv h, .os 25 1 0 recs.length, Iv used, I2 first, I2 last, I2 ((S.take k).foldl mx3 0 : Nat)]), (27, .vec 97 2 (wrR d.W)), (25, .vec 9 1 (blkR recs)), (0, .var 28 [.im (.sl 1 (blkR S)), .im (.v (.slice none 0 0))])]) (fun k => k ≤ S.length) (fun k => S.length - k) 0 (Nat.zero_le _) (by repeat (first | exact Sub.nil _ | refine Sub.cons rfl ?_)) rfl fun k hk => ?_
      repeat (first | refine xA ?_ | refine xB ?_ | refine xC ?_ | refine xE ?_ | refine xD ?_ | refine xK ?_ | refine xS ?_ | refine xM ?_ | refine xT ?_ | refine xF ?_ | ((first | refine xR ?_ | refine xW ?_ | refine vq_id ?_); simp only [go_sem, Nat.reduceAdd, Nat.reduceLeDiff, Nat.reduceSub, Int.reduceToNat, reduceCtorEq]) | (refine ⟨by first | omega | (intros; simp_all; done) | (intros; simp_all; omega), ?_⟩; try simp only [go_sem, Nat.reduceAdd, Nat.reduceLeDiff, Nat.reduceSub, Int.reduceToNat, reduceCtorEq]))
      refine AP.cond rfl rfl (fun hcnd => ?_) (fun hcnd => ?_)
      · have hk' : k < S.length := by simp at hcnd; omega
        have hg := blkR_get S k hk'
        obtain ⟨s, hs⟩ : ∃ s, S.getD k [] = s := ⟨_, rfl⟩
        have h32 : s.length = 32 := by
          rw [← hs, List.getD_eq_getElem?_getD, List.getElem?_eq_getElem hk', Option.getD_some]
          exact hS32 _ (List.getElem_mem hk')
        rw [hs] at hg
        repeat (first | refine xA ?_ | refine xB ?_ | refine xC ?_ | refine xE ?_ | refine xD ?_ | refine xK ?_ | refine xS ?_ | refine xM ?_ | refine xT ?_ | refine xF ?_ | ((first | refine xR ?_ | refine xW ?_ | refine vq_id ?_); simp only [go_sem, Nat.reduceAdd, Nat.reduceLeDiff, Nat.reduceSub, Int.reduceToNat, reduceCtorEq, hg, blkR_len]) | (refine ⟨by first | omega | (intros; simp_all; done) | (intros; simp_all; omega), ?_⟩; try simp only [go_sem, Nat.reduceAdd, Nat.reduceLeDiff, Nat.reduceSub, Int.reduceToNat, reduceCtorEq, hg, blkR_len]))
        refine AP.drawE 17 (Tree.node [] [0, 1, 2, 3, 4, 5, 6, 9, 10] [7, 11] [Tree.node [0, 1, 2, 3, 4, 9, 10] [] [8, 11] [Tree.node [0, 1, 2, 3, 4, 9, 10] [] [11] [Tree.node [0, 1, 2, 3, 4] [] [12] [Tree.node [0, 1, 2, 3, 4] [] [13] [Tree.node [0] [14, 15] [16] [Tree.node [] [] [] []]]]], Tree.node [0, 1, 2, 3, 4] [] [8] [Tree.node [0, 1, 2, 3, 4] [] [12] [Tree.node [0, 1, 2, 3, 4] [] [13] [Tree.node [0] [14, 15] [16] [Tree.node [] [] [] []]]]]], Tree.node [0, 1, 2, 3, 4, 5, 6] [] [7] [Tree.node [0, 1, 2, 3, 4] [] [8] [Tree.node [0, 1, 2, 3, 4] [] [12] [Tree.node [0, 1, 2, 3, 4] [] [13] [Tree.node [0] [14, 15] [16] [Tree.node [] [] [] []]]]]]]) (by kernel_rfl) rfl (by kernel_rfl) (by kernel_rfl) ?_
        refine vd_node ?_
        simp only [go_sem, Nat.reduceAdd, Nat.reduceLeDiff, Nat.reduceSub, Int.reduceToNat, reduceCtorEq, BA_size, BA_extract, h32]
        have hl1 : (s.take 4).length = 4 := by simp; omega
        have hl2 : ((s.drop 16).take 4).length = 4 := by simp; omega
        have hn1 := number4 (s.take 4) hl1
        have hn2 := number4 ((s.drop 16).take 4) hl2
        have hm : (S.take (k + 1)).foldl mx3 0 = mx3 ((S.take k).foldl mx3 0) s := by
          have : S[k] = s := by rw [← hs, List.getD_eq_getElem?_getD, List.getElem?_eq_getElem hk']; rfl
          rw [List.take_add_one, List.getElem?_eq_getElem hk', List.foldl_append, this]; rfl
        obtain ⟨m, hmm⟩ : ∃ m, (S.take k).foldl mx3 0 = m := ⟨_, rfl⟩
        rw [hmm] at hm ⊢
        have hm2 : mx3 m s = max (max m (n4 (s.take 4))) (n4 ((s.drop 16).take 4)) := rfl
        rw [hm2] at hm
        obtain ⟨n1, hn1'⟩ : ∃ m, n4 (s.take 4) = m := ⟨_, rfl⟩
        obtain ⟨n2, hn2'⟩ : ∃ m, n4 ((s.drop 16).take 4) = m := ⟨_, rfl⟩
        rw [hn1'] at hm hn1
        rw [hn2'] at hm hn2
        have hw := wr (x := (k : Int) + 1) (by omega)
        repeat' (first | with_reducible exact True.intro | with_reducible refine And.intro (by omega) ?_ | with_reducible refine And.intro ?_ ?_ | omega | (refine AQ.s2b (by kernel_rfl) rfl rfl rfl rfl ?_; simp only [go_sem, Nat.reduceAdd, Nat.reduceLeDiff, Nat.reduceSub, Int.reduceToNat, reduceCtorEq]) | (refine AQ.fn (by kernel_rfl) rfl rfl rfl (hn1) rfl ?_; simp only [go_sem, Nat.reduceAdd, Nat.reduceLeDiff, Nat.reduceSub, Int.reduceToNat, reduceCtorEq]) | (refine AQ.fn (by kernel_rfl) rfl rfl rfl (hn2) rfl ?_; simp only [go_sem, Nat.reduceAdd, Nat.reduceLeDiff, Nat.reduceSub, Int.reduceToNat, reduceCtorEq]) | (refine AQ.max3 (by kernel_rfl) rfl rfl rfl ?_; simp only [go_sem, Nat.reduceAdd, Nat.reduceLeDiff, Nat.reduceSub, Int.reduceToNat, reduceCtorEq]) | (refine AQ.nx rfl ?_; first | (refine And.intro ?_ ?_ <;> (try simp only [go_sem, Nat.reduceAdd, Nat.reduceLeDiff, Nat.reduceSub, Int.reduceToNat, reduceCtorEq, BA_size, BA_extract, h32])) | simp only [go_sem, Nat.reduceAdd, Nat.reduceLeDiff, Nat.reduceSub, Int.reduceToNat, reduceCtorEq, BA_size, BA_extract, h32]) | refine AQ.done ?_ | (refine AQ.go (by kernel_rfl) ?_; simp only [go_sem, Nat.reduceAdd, Nat.reduceLeDiff, Nat.reduceSub, Int.reduceToNat, reduceCtorEq, BA_size, BA_extract, h32]; (refine AQ.nx rfl ?_; first | (refine And.intro ?_ ?_ <;> (try simp only [go_sem, Nat.reduceAdd, Nat.reduceLeDiff, Nat.reduceSub, Int.reduceToNat, reduceCtorEq, BA_size, BA_extract, h32])) | simp only [go_sem, Nat.reduceAdd, Nat.reduceLeDiff, Nat.reduceSub, Int.reduceToNat, reduceCtorEq, BA_size, BA_extract, h32])))
        all_goals
          repeat (first | refine xA ?_ | refine xB ?_ | refine xC ?_ | refine xE ?_ | refine xD ?_ | refine xK ?_ | refine xS ?_ | refine xM ?_ | refine xT ?_ | refine xF ?_ | ((first | refine xR ?_ | refine xW ?_ | refine vq_id ?_); simp only [go_sem, Nat.reduceAdd, Nat.reduceLeDiff, Nat.reduceSub, Int.reduceToNat, reduceCtorEq, hw]) | (refine ⟨by first | omega | (intros; simp_all; done) | (intros; simp_all; omega), ?_⟩; try simp only [go_sem, Nat.reduceAdd, Nat.reduceLeDiff, Nat.reduceSub, Int.reduceToNat, reduceCtorEq, hw]))
          exact AE.round (k + 1) (by omega) (by omega) (by repeat (first | exact Sub.nil _ | refine Sub.cons rfl ?_)) (by rw [hm])
      · have hk' : k = S.length := by simp at hcnd; omega
        have hmx : S.foldl mx3 0 = maxN S := rfl
        rw [hk', List.take_length, hmx]
        have hmb := maxN_lt S
        have hw := wr (x := (maxN S : Int) + 1) (by omega)
        repeat (first | refine xA ?_ | refine xB ?_ | refine xC ?_ | refine xE ?_ | refine xD ?_ | refine xK ?_ | refine xS ?_ | refine xM ?_ | refine xT ?_ | refine xF ?_ | ((first | refine xR ?_ | refine xW ?_ | refine vq_id ?_); simp only [go_sem, Nat.reduceAdd, Nat.reduceLeDiff, Nat.reduceSub, Int.reduceToNat, reduceCtorEq, hw]) | (refine ⟨by first | omega | (intros; simp_all; done) | (intros; simp_all; omega), ?_⟩; try simp only [go_sem, Nat.reduceAdd, Nat.reduceLeDiff, Nat.reduceSub, Int.reduceToNat, reduceCtorEq, hw]))
        refine AE.forgets [0] rfl ?_
        simp only [go_sem, Nat.reduceAdd, Nat.reduceLeDiff, Nat.reduceSub, Int.reduceToNat, reduceCtorEq]
        refine AE.rename 28 0 rfl rfl rfl ?_; simp only [go_sem, Nat.reduceAdd, Nat.reduceLeDiff, Nat.reduceSub, Int.reduceToNat, reduceCtorEq]; refine AE.rename 27 1 rfl rfl rfl ?_; simp only [go_sem, Nat.reduceAdd, Nat.reduceLeDiff, Nat.reduceSub, Int.reduceToNat, reduceCtorEq]; refine AE.rename 25 2 rfl rfl rfl ?_; simp only [go_sem, Nat.reduceAdd, Nat.reduceLeDiff, Nat.reduceSub, Int.reduceToNat, reduceCtorEq]
        refine AE.order [2, 1, 0] rfl ?_
        simp only [go_sem, Nat.reduceAdd, Nat.reduceLeDiff, Nat.reduceSub, Int.reduceToNat, reduceCtorEq]
        refine AE.ret rfl ⟨rfl, rfl, trivial⟩ (hr _ _ ⟨?_, rfl⟩)
        rw [q1, q2, q3, q4]
        rfl
end Go.Proofs.Ytoafanbfminhcaa
end

section
namespace Go.Proofs.Ytoafanbfminhcaa
open Go Go.AL Go.RowKit
set_option maxRecDepth 10000
set_option maxHeartbeats 4000000
def fmtS (n : Nat) : List Bs := (newS n).set 0 (blockP 1 0 true [])
theorem newS_len (n : Nat) : (newS n).length = n := by simp [newS]
theorem format_ok (n : Nat) (hn : okN n = true) : PFn Try.prog 11 [Iv n] (.tup [Dk.v ⟨fmtS n, []⟩, Iv 0]) := by
  obtain ⟨h4, h2000, _⟩ := okN_le hn
  have hl := newS_len n
  have hset : (blkR (newS n)).set 0 (IV.v (Value.string (BA (blockP 1 0 true []))) :: List.drop 1 ((blkR (newS n)).getD 0 [])) = blkR (fmtS n) := by
    rw [blkR_get _ 0 (by omega)]; simp only [List.drop_succ_cons, List.drop_zero]; exact blkR_set _ _ _
  have hbl : (blkR (fmtS n)).length = n := by rw [blkR_len, fmtS, List.length_set, hl]
  refine ACall.walk [0, 2, 3, 4, 5, 12] [2, 4] Try.func11 rfl Try.ntmps11 (by kernel_rfl) (by rfl) rfl fun W own I0 φ0 => ?_
  repeat (first | refine xA ?_ | refine xB ?_ | refine xC ?_ | refine xE ?_ | refine xD ?_ | refine xK ?_ | refine xS ?_ | refine xM ?_ | refine xT ?_ | refine xF ?_ | ((first | refine xR ?_ | refine xW ?_ | refine vq_id ?_); simp only [go_sem, Nat.reduceAdd, Nat.reduceLeDiff, Nat.reduceSub, Int.reduceToNat, reduceCtorEq]) | (refine ⟨by first | omega | (intros; simp_all; done) | (intros; simp_all; omega), ?_⟩; try simp only [go_sem, Nat.reduceAdd, Nat.reduceLeDiff, Nat.reduceSub, Int.reduceToNat, reduceCtorEq]))
  refine AQ.callv (by kernel_rfl) rfl rfl rfl (newDisk_own n hn) fun r' H' ⟨e1, e2⟩ => ?_
  subst e1; subst e2
  simp only [go_sem, Nat.reduceAdd, Nat.reduceLeDiff, Nat.reduceSub, Int.reduceToNat, reduceCtorEq]
  repeat (first | refine xA ?_ | refine xB ?_ | refine xC ?_ | refine xE ?_ | refine xD ?_ | refine xK ?_ | refine xS ?_ | refine xM ?_ | refine xT ?_ | refine xF ?_ | ((first | refine xR ?_ | refine xW ?_ | refine vq_id ?_); simp only [go_sem, Nat.reduceAdd, Nat.reduceLeDiff, Nat.reduceSub, Int.reduceToNat, reduceCtorEq]) | (refine ⟨by first | omega | (intros; simp_all; done) | (intros; simp_all; omega), ?_⟩; try simp only [go_sem, Nat.reduceAdd, Nat.reduceLeDiff, Nat.reduceSub, Int.reduceToNat, reduceCtorEq]))
  refine AP.drawE 6 (Tree.node [] [0, 1, 2] [3] [Tree.node [0, 1] [4] [5] [Tree.node [] [] [] []]]) (by kernel_rfl) rfl (by kernel_rfl) (by kernel_rfl) ?_
  refine vd_node ?_
  simp only [go_sem, Nat.reduceAdd, Nat.reduceLeDiff, Nat.reduceSub, Int.reduceToNat, reduceCtorEq]
  refine AQ.fn (by kernel_rfl) rfl rfl rfl (bytes_spec 1 0 true [] (by decide) (by decide) (by decide)) rfl ?_
  simp only [go_sem, Nat.reduceAdd, Nat.reduceLeDiff, Nat.reduceSub, Int.reduceToNat, reduceCtorEq]
  refine AQ.nx rfl ?_
  simp only [go_sem, Nat.reduceAdd, Nat.reduceLeDiff, Nat.reduceSub, Int.reduceToNat, reduceCtorEq]
  repeat (with_reducible refine And.intro (by omega) ?_)
  refine AQ.go (by kernel_rfl) ?_
  simp only [go_sem, Nat.reduceAdd, Nat.reduceLeDiff, Nat.reduceSub, Int.reduceToNat, reduceCtorEq, hset]
  refine And.intro (by rw [blkR_len, hl]; omega) ?_
  refine AQ.nx rfl ?_
  simp only [go_sem, Nat.reduceAdd, Nat.reduceLeDiff, Nat.reduceSub, Int.reduceToNat, reduceCtorEq, hset]
  refine AQ.done ?_
  repeat (first | refine xA ?_ | refine xB ?_ | refine xC ?_ | refine xE ?_ | refine xD ?_ | refine xK ?_ | refine xS ?_ | refine xM ?_ | refine xT ?_ | refine xF ?_ | ((first | refine xR ?_ | refine xW ?_ | refine vq_id ?_); simp only [go_sem, Nat.reduceAdd, Nat.reduceLeDiff, Nat.reduceSub, Int.reduceToNat, reduceCtorEq, hbl]) | (refine ⟨by first | omega | (intros; simp_all; done) | (intros; simp_all; omega), ?_⟩; try simp only [go_sem, Nat.reduceAdd, Nat.reduceLeDiff, Nat.reduceSub, Int.reduceToNat, reduceCtorEq, hbl]))
  refine AE.freeze 2 (el := 9) (es := 1) (rows := blkR (fmtS n)) rfl (by simp only [go_sem, Nat.reduceAdd, Nat.reduceLeDiff, Nat.reduceSub, Int.reduceToNat, reduceCtorEq, hbl]; first | done | trivial | omega | (simp; done) | (simp; omega)) (by simp only [go_sem, Nat.reduceAdd, Nat.reduceLeDiff, Nat.reduceSub, Int.reduceToNat, reduceCtorEq, hbl]; first | done | trivial | omega | (simp; done) | (simp; omega)) ?_; simp only [go_sem, Nat.reduceAdd, Nat.reduceLeDiff, Nat.reduceSub, Int.reduceToNat, reduceCtorEq, hbl]
  rw [take_all' (blkR (fmtS n)) _ (Nat.le_of_eq hbl)]
  exact AE.ret0 rfl ⟨⟨rfl, Nat.le_of_ble_eq_true (by kernel_rfl)⟩, rfl, trivial⟩ rfl ⟨rfl, rfl⟩
end Go.Proofs.Ytoafanbfminhcaa
end

section
namespace Go.Proofs.Ytoafanbfminhcaa
open Go Go.AL Go.RowKit
set_option maxRecDepth 100000
set_option maxHeartbeats 4000000
def b0 : Bs := [1, 0, 0, 0, 0, 0, 0, 0, 128, 0, 0, 0, 0, 0, 0, 0, 1, 0, 0, 0, 0, 0, 0, 0, 0, 0, 0, 0, 0, 0, 0, 0]
def b1 : Bs := [2, 0, 0, 0, 1, 0, 0, 0, 129, 97, 0, 0, 0, 0, 0, 0, 2, 0, 0, 0, 0, 0, 0, 0, 0, 0, 0, 0, 0, 0, 0, 0]
def ex0 : Dk := ⟨[b0, z32, z32, z32], []⟩
theorem ex_fmt : (⟨fmtS 4, []⟩ : Dk) = ex0 := by kernel_rfl
theorem ex_ok : ex0.Ok := (ex0.chk_ok).1 (by kernel_rfl)
theorem ex_a : arA ex0.syncD.B = ⟨1, [], [[]], 1, 1, 1, false⟩ := by kernel_rfl
theorem ex_b : arB ex0.syncD.B = sc0 := by kernel_rfl
def exJ : Jn := ⟨[b0, z32, z32, z32], [], 0, [[]], 1, 1, 1, 2⟩
theorem ex_j : openJ ex0 ⟨1, [], [[]], 1, 1, 1, false⟩ 0 = exJ := by kernel_rfl
def exJ1 : Jn := ⟨[b0, z32, z32, z32], [(1, b1)], 0, [[], [97]], 2, 1, 2, 3⟩
theorem ex_j1 : exJ.wrote 0 1 1 [97] = exJ1 := by kernel_rfl
theorem ex_get : exJ1.D.getS 1 = b1 := by kernel_rfl
theorem ex_gete : exJ1.D.getE 1 = 0 := by kernel_rfl
theorem ex_sz : exJ.Sz := ⟨by decide, .inl rfl, by decide, by decide, by decide, by decide, by decide, by decide, by decide⟩
theorem awake_spec : PFn Try.prog 10 [] (Bv true) := by
  have hf := format_ok 4 (by decide)
  rw [ex_fmt] at hf
  have hop := open_walk ex0 ⟨by decide, by decide⟩ ex_ok
  rw [ex_a, ex_b] at hop
  have hop : ACall Try.prog 12 [ex0.v] [] (fun r H' => H' = exJ.H 1 2 ∧ r = .tup [.ob 0 0, Iv 0]) := hop.mono fun r H' h => by
    have := h.2 _ 0 (.inl ⟨rfl, rfl, by decide, by decide⟩)
    rw [ex_j] at this; exact this
  have hap := append_ok exJ 0 [97] ex_sz rfl (by kernel_rfl)
  rw [show exJ.used = 1 from rfl, show exJ.last = 1 from rfl, ex_j1] at hap
  have hdk := disk_own exJ1 ⟨by decide, by decide⟩
  have hgt := get_spec exJ1.D 1 ⟨by decide, by decide⟩
  rw [ex_get, ex_gete] at hgt
  have hrp := repeat_spec [0] 15 (by decide) (by decide)
  refine ACall.walk [0, 1, 2, 3, 4, 26, 38] [1] Try.func10 rfl Try.ntmps10 (by kernel_rfl) (by rfl) rfl fun W own I0 φ0 => ?_
  repeat (first | refine xA ?_ | refine xB ?_ | refine xC ?_ | refine xE ?_ | refine xD ?_ | refine xK ?_ | refine xS ?_ | refine xM ?_ | refine xT ?_ | refine xF ?_ | ((first | refine xR ?_ | refine xW ?_ | refine vq_id ?_); simp only [go_sem, Nat.reduceAdd, Nat.reduceLeDiff, Nat.reduceSub, Int.reduceToNat, reduceCtorEq]) | (refine ⟨by first | omega | (intros; simp_all; done) | (intros; simp_all; omega), ?_⟩; try simp only [go_sem, Nat.reduceAdd, Nat.reduceLeDiff, Nat.reduceSub, Int.reduceToNat, reduceCtorEq]))
  refine AQ.fn (by kernel_rfl) rfl rfl rfl (hf) rfl ?_
  repeat (first | refine xA ?_ | refine xB ?_ | refine xC ?_ | refine xE ?_ | refine xD ?_ | refine xK ?_ | refine xS ?_ | refine xM ?_ | refine xT ?_ | refine xF ?_ | ((first | refine xR ?_ | refine xW ?_ | refine vq_id ?_); simp only [go_sem, Nat.reduceAdd, Nat.reduceLeDiff, Nat.reduceSub, Int.reduceToNat, reduceCtorEq, Int.reduceBNe, blkR_len]) | (refine ⟨by first | omega | (intros; simp_all; done) | (intros; simp_all; omega), ?_⟩; try simp only [go_sem, Nat.reduceAdd, Nat.reduceLeDiff, Nat.reduceSub, Int.reduceToNat, reduceCtorEq, Int.reduceBNe, blkR_len]))
  have hL : (((ex0.B.length : Nat) : Int) != 4) = false := by decide
  have hG : (blkR ex0.B).getD 0 [] = [Si b0] := rfl
  refine AP.drawE 17 (Tree.node [] [0, 1, 2, 3, 4, 5, 6, 7, 8, 9, 10, 11, 12] [13] [Tree.node [9, 10, 11, 12] [14, 15, 16] [] []]) (by kernel_rfl) rfl (by kernel_rfl) (by kernel_rfl) ?_
  refine vd_node ?_
  simp only [go_sem, Nat.reduceAdd, Nat.reduceLeDiff, Nat.reduceSub, Int.reduceToNat, reduceCtorEq, Int.reduceBNe, blkR_len, hL, hG]
  refine And.intro (by decide) ?_
  refine AQ.guard_yes (by simp only [go_sem]) ?_
  refine AQ.fn (by kernel_rfl) rfl rfl rfl (hrp) rfl ?_
  simp only [go_sem, Nat.reduceAdd, Nat.reduceLeDiff, Nat.reduceSub, Int.reduceToNat, reduceCtorEq, Int.reduceBNe]
  refine AQ.nx rfl ?_
  simp only [go_sem, Nat.reduceAdd, Nat.reduceLeDiff, Nat.reduceSub, Int.reduceToNat, reduceCtorEq, Int.reduceBNe, blkR_len, hL, hG]
  refine And.intro (by decide) (And.intro (by decide) ?_)
  refine AQ.done ?_
  have hE : (b0 == 1 :: 0 :: 0 :: 0 :: 0 :: 0 :: 0 :: 0 :: 128 :: 0 :: 0 :: 0 :: 0 :: 0 :: 0 :: 0 :: 1 :: Lib.repeatL [0] 15) = true := by decide
  repeat (first | refine xA ?_ | refine xB ?_ | refine xC ?_ | refine xE ?_ | refine xD ?_ | refine xK ?_ | refine xS ?_ | refine xM ?_ | refine xT ?_ | refine xF ?_ | ((first | refine xR ?_ | refine xW ?_ | refine vq_id ?_); simp only [go_sem, Nat.reduceAdd, Nat.reduceLeDiff, Nat.reduceSub, Int.reduceToNat, reduceCtorEq, hE]) | (refine ⟨by first | omega | (intros; simp_all; done) | (intros; simp_all; omega), ?_⟩; try simp only [go_sem, Nat.reduceAdd, Nat.reduceLeDiff, Nat.reduceSub, Int.reduceToNat, reduceCtorEq, hE]))
  refine AQ.callv (by kernel_rfl) rfl rfl rfl hop fun r' H' ⟨e1, e2⟩ => ?_
  subst e1; subst e2
  simp only [go_sem, Nat.reduceAdd, Nat.reduceLeDiff, Nat.reduceSub, Int.reduceToNat, reduceCtorEq, Jn.H]
  repeat (first | refine xA ?_ | refine xB ?_ | refine xC ?_ | refine xE ?_ | refine xD ?_ | refine xK ?_ | refine xS ?_ | refine xM ?_ | refine xT ?_ | refine xF ?_ | ((first | refine xR ?_ | refine xW ?_ | refine vq_id ?_); simp only [go_sem, Nat.reduceAdd, Nat.reduceLeDiff, Nat.reduceSub, Int.reduceToNat, reduceCtorEq, Int.reduceBNe]) | (refine ⟨by first | omega | (intros; simp_all; done) | (intros; simp_all; omega), ?_⟩; try simp only [go_sem, Nat.reduceAdd, Nat.reduceLeDiff, Nat.reduceSub, Int.reduceToNat, reduceCtorEq, Int.reduceBNe]))
  refine AQ.guard_yes (by simp only [go_sem]) ?_
  refine AQ.callH [(2, 3), (1, 2), (0, 1)] (by kernel_rfl) rfl rfl rfl rfl rfl rfl (by exact ⟨rfl, rfl, rfl, trivial⟩) rfl hap ?_
  rintro r H1 ⟨rfl, rfl⟩
  refine ⟨rfl, ?_⟩
  simp only [go_sem, Nat.reduceAdd, Nat.reduceLeDiff, Nat.reduceSub, Int.reduceToNat, reduceCtorEq, Jn.H]
  repeat (first | refine xA ?_ | refine xB ?_ | refine xC ?_ | refine xE ?_ | refine xD ?_ | refine xK ?_ | refine xS ?_ | refine xM ?_ | refine xT ?_ | refine xF ?_ | ((first | refine xR ?_ | refine xW ?_ | refine vq_id ?_); simp only [go_sem, Nat.reduceAdd, Nat.reduceLeDiff, Nat.reduceSub, Int.reduceToNat, reduceCtorEq, Int.reduceBNe]) | (refine ⟨by first | omega | (intros; simp_all; done) | (intros; simp_all; omega), ?_⟩; try simp only [go_sem, Nat.reduceAdd, Nat.reduceLeDiff, Nat.reduceSub, Int.reduceToNat, reduceCtorEq, Int.reduceBNe]))
  refine AQ.callL ([.im (.pt exJ1.ic)]) (by kernel_rfl) rfl rfl rfl (by ((try simp only [List.nil_append, List.append_nil, List.map_cons, List.map_nil, AV.st, constAV]); repeat (first | with_reducible exact LentC.nil | with_reducible exact LentAs.nil | with_reducible refine LentC.cons ?_ ?_ | with_reducible refine LentAs.cons ?_ ?_ | with_reducible exact Lent.im _ | with_reducible exact LentA.im _ | with_reducible refine LentA.of ?_ | with_reducible refine LentA.agg ?_ | ((with_reducible apply Lent.osw); rfl; simp only [blkR_len, wrR_len, byteR_len, List.length_append, List.length_cons, List.length_nil]) | ((with_reducible apply Lent.ob0); rfl)))) (hdk) fun r1 H1 ⟨e1, e2⟩ => ?_; subst e1; subst e2; refine ⟨rfl, ⟨blkR_plain _, wrR_plain _, trivial⟩, ?_⟩
  simp only [go_sem, Nat.reduceAdd, Nat.reduceLeDiff, Nat.reduceSub, Int.reduceToNat, reduceCtorEq]
  refine AQ.go (by kernel_rfl) ?_
  simp only [go_sem, Nat.reduceAdd, Nat.reduceLeDiff, Nat.reduceSub, Int.reduceToNat, reduceCtorEq]
  refine AQ.fnL ([exJ1.D.v, Iv 1]) (by kernel_rfl) rfl rfl rfl (by ((try simp only [List.nil_append, List.append_nil, List.map_cons, List.map_nil, AV.st, constAV]); repeat (first | with_reducible exact LentC.nil | with_reducible exact LentAs.nil | with_reducible refine LentC.cons ?_ ?_ | with_reducible refine LentAs.cons ?_ ?_ | with_reducible exact Lent.im _ | with_reducible exact LentA.im _ | with_reducible refine LentA.of ?_ | with_reducible refine LentA.agg ?_ | ((with_reducible apply Lent.osw); rfl; simp only [blkR_len, wrR_len, byteR_len, List.length_append, List.length_cons, List.length_nil]) | ((with_reducible apply Lent.ob0); rfl)))) (hgt) rfl (fun _ => rfl) ?_
  simp only [go_sem, Nat.reduceAdd, Nat.reduceLeDiff, Nat.reduceSub, Int.reduceToNat, reduceCtorEq]
  repeat (first | refine xA ?_ | refine xB ?_ | refine xC ?_ | refine xE ?_ | refine xD ?_ | refine xK ?_ | refine xS ?_ | refine xM ?_ | refine xT ?_ | refine xF ?_ | ((first | refine xR ?_ | refine xW ?_ | refine vq_id ?_); simp only [go_sem, Nat.reduceAdd, Nat.reduceLeDiff, Nat.reduceSub, Int.reduceToNat, reduceCtorEq, BA_size]) | (refine ⟨by first | omega | (intros; simp_all; done) | (intros; simp_all; omega), ?_⟩; try simp only [go_sem, Nat.reduceAdd, Nat.reduceLeDiff, Nat.reduceSub, Int.reduceToNat, reduceCtorEq, BA_size]))
  exact AE.retD [1, 10, 11, 8, 7, 0] rfl ⟨rfl, trivial⟩ rfl ⟨rfl, rfl⟩
end Go.Proofs.Ytoafanbfminhcaa
end

section
namespace Go.Proofs.Ytoafanbfminhcaa
open Go Go.AL Go.RowKit
set_option maxRecDepth 10000
set_option maxHeartbeats 4000000
theorem all_own (x : Jn) (s : Bs) (l : List Bs) (hr : x.recs = s :: l) (hl : l.length ≤ 1000000) : ACall Try.prog 13 [.im (.pt x.ic)] [] (fun r H' => H' = [(1, .vec 9 1 (blkR x.recs))] ∧ r = .os 1 1 0 x.recs.length) := by
  have hc := records_own x s l hr hl
  have hrl : (blkR l).length = l.length := blkR_len l
  refine ACall.walk [0, 2, 3, 4] [11] Try.func13 rfl Try.ntmps13 (by kernel_rfl) (by rfl) rfl fun W own I0 φ0 => ?_
  repeat (first | refine xA ?_ | refine xB ?_ | refine xC ?_ | refine xE ?_ | refine xD ?_ | refine xK ?_ | refine xS ?_ | refine xM ?_ | refine xT ?_ | refine xF ?_ | ((first | refine xR ?_ | refine xW ?_ | refine vq_id ?_); simp only [go_sem, Nat.reduceAdd, Nat.reduceLeDiff, Nat.reduceSub, Int.reduceToNat, reduceCtorEq]) | (refine ⟨by first | omega | (intros; simp_all; done) | (intros; simp_all; omega), ?_⟩; try simp only [go_sem, Nat.reduceAdd, Nat.reduceLeDiff, Nat.reduceSub, Int.reduceToNat, reduceCtorEq]))
  refine AQ.callv (by kernel_rfl) rfl rfl rfl hc fun r' H' ⟨e1, e2⟩ => ?_
  subst e1; subst e2
  simp only [go_sem, Nat.reduceAdd, Nat.reduceLeDiff, Nat.reduceSub, Int.reduceToNat, reduceCtorEq]
  repeat (first | refine xA ?_ | refine xB ?_ | refine xC ?_ | refine xE ?_ | refine xD ?_ | refine xK ?_ | refine xS ?_ | refine xM ?_ | refine xT ?_ | refine xF ?_ | ((first | refine xR ?_ | refine xW ?_ | refine vq_id ?_); simp only [go_sem, Nat.reduceAdd, Nat.reduceLeDiff, Nat.reduceSub, Int.reduceToNat, reduceCtorEq]) | (refine ⟨by first | omega | (intros; simp_all; done) | (intros; simp_all; omega), ?_⟩; try simp only [go_sem, Nat.reduceAdd, Nat.reduceLeDiff, Nat.reduceSub, Int.reduceToNat, reduceCtorEq]))
  refine AQ.appendO (hnb := rfl) (rows := [[Si s]]) (rows' := blkR l) (xs := blkR l) (es := 0) (by kernel_rfl) rfl rfl rfl (by rw [hrl]; omega) (by rw [List.drop_zero]; exact take_all' _ _ (Nat.le_of_eq hrl)) rfl (by rfl) Try.tk25 Try.sz9 (by show Option.map _ (zro Try.prog 9) = _; rw [Try.zr9]; rfl) Try.by9 rfl (by rw [hrl]; simp only [List.length_cons, List.length_nil]; omega) (by rw [hrl]; simp only [List.length_cons, List.length_nil]; omega) ?_
  simp only [go_sem, Nat.reduceAdd, Nat.reduceLeDiff, Nat.reduceSub, Int.reduceToNat, reduceCtorEq]
  have hx : 1 + (blkR l).length = x.recs.length := by rw [hrl, hr, List.length_cons]; omega
  have hx2 : [Si s] :: blkR l = blkR x.recs := by rw [hr]; rfl
  rw [hx, hx2]
  refine AQ.done ?_
  repeat (first | refine xA ?_ | refine xB ?_ | refine xC ?_ | refine xE ?_ | refine xD ?_ | refine xK ?_ | refine xS ?_ | refine xM ?_ | refine xT ?_ | refine xF ?_ | ((first | refine xR ?_ | refine xW ?_ | refine vq_id ?_); simp only [go_sem, Nat.reduceAdd, Nat.reduceLeDiff, Nat.reduceSub, Int.reduceToNat, reduceCtorEq]) | (refine ⟨by first | omega | (intros; simp_all; done) | (intros; simp_all; omega), ?_⟩; try simp only [go_sem, Nat.reduceAdd, Nat.reduceLeDiff, Nat.reduceSub, Int.reduceToNat, reduceCtorEq]))
  exact AE.retD [0] rfl ⟨rfl, trivial⟩ rfl ⟨rfl, rfl⟩
structure Ac where
  k : Nat
  t : Bs
  f : List Int
abbrev Ac.v (a : Ac) : AV := .agg [.im (.v (.int .u8 a.k)), Sv a.t, Fv a.f]
abbrev Ac.r (a : Ac) : List IV := [.v (.int .u8 a.k), Si a.t, .sl 1 (intR a.f)]
def acR (l : List Ac) : List (List IV) := l.map Ac.r
theorem acR_len (l : List Ac) : (acR l).length = l.length := by simp [acR]
theorem acR_get (l : List Ac) (k : Nat) (h : k < l.length) : (acR l).getD k [] = (l.getD k ⟨0, [], []⟩).r := by
  simp [acR, List.getD_eq_getElem?_getD, h]
def longA (a : Ac) : Bool := (decide (300 < (a.t.length : Int)) && decide ((a.t.length : Int) ≤ 10000)) || decide (10100 < (a.t.length : Int)) || decide (100 < (a.f.length : Int))
theorem longA_spec (a : Ac) : PFn Try.prog 48 [a.v] (Bv (longA a)) := by
  unfold longA
  refine ACall.walk [0, 1, 2] [] Try.func48 rfl Try.ntmps48 (by kernel_rfl) (by rfl) rfl fun W own I0 φ0 => ?_
  repeat (first | refine xA ?_ | refine xB ?_ | refine xC ?_ | refine xE ?_ | refine xD ?_ | refine xK ?_ | refine xS ?_ | refine xM ?_ | refine xT ?_ | refine xF ?_ | ((first | refine xR ?_ | refine xW ?_ | refine vq_id ?_); simp only [go_sem, Nat.reduceAdd, Nat.reduceLeDiff, Nat.reduceSub, Int.reduceToNat, reduceCtorEq, BA_size, intR_len]) | (refine ⟨by first | omega | (intros; simp_all; done) | (intros; simp_all; omega), ?_⟩; try simp only [go_sem, Nat.reduceAdd, Nat.reduceLeDiff, Nat.reduceSub, Int.reduceToNat, reduceCtorEq, BA_size, intR_len]))
  exact AE.ret0 rfl ⟨rfl, trivial⟩ rfl ⟨rfl, rfl⟩
theorem idxAc (B : List Ac) (hB : B.length < 9223372036854775808) : PFn Try.prog 76 [.im (.sl 3 (acR B)), .fn 48 [] []] (Iv (idxS longA B 0)) := by
  refine ACall.walk [0, 1, 4, 5, 7, 8, 9, 16] [] Try.func76 rfl Try.ntmps76 (by kernel_rfl) (by rfl) rfl fun W own I0 φ0 => ?_
  repeat (first | refine xA ?_ | refine xB ?_ | refine xC ?_ | refine xE ?_ | refine xD ?_ | refine xK ?_ | refine xS ?_ | refine xM ?_ | refine xT ?_ | refine xF ?_ | ((first | refine xR ?_ | refine xW ?_ | refine vq_id ?_); simp only [go_sem, Nat.reduceAdd, Nat.reduceLeDiff, Nat.reduceSub, Int.reduceToNat, reduceCtorEq]) | (refine ⟨by first | omega | (intros; simp_all; done) | (intros; simp_all; omega), ?_⟩; try simp only [go_sem, Nat.reduceAdd, Nat.reduceLeDiff, Nat.reduceSub, Int.reduceToNat, reduceCtorEq]))
  refine AP.loop rfl (α := Nat) (fun k => [(0, .im (.sl 3 (acR B))), (1, .fn 48 [] []), (7, Iv (acR B).length), (8, Iv k)]) (fun _ => []) (fun k => k ≤ B.length ∧ idxS longA B 0 = idxS longA (B.drop k) k) (fun k => B.length - k) 0 ⟨by omega, rfl⟩ (by repeat (first | exact Sub.nil _ | refine Sub.cons rfl ?_)) rfl fun k ⟨hk, hi⟩ => ?_
  repeat (first | refine xA ?_ | refine xB ?_ | refine xC ?_ | refine xE ?_ | refine xD ?_ | refine xK ?_ | refine xS ?_ | refine xM ?_ | refine xT ?_ | refine xF ?_ | ((first | refine xR ?_ | refine xW ?_ | refine vq_id ?_); simp only [go_sem, Nat.reduceAdd, Nat.reduceLeDiff, Nat.reduceSub, Int.reduceToNat, reduceCtorEq, acR_len]) | (refine ⟨by first | omega | (intros; simp_all; done) | (intros; simp_all; omega), ?_⟩; try simp only [go_sem, Nat.reduceAdd, Nat.reduceLeDiff, Nat.reduceSub, Int.reduceToNat, reduceCtorEq, acR_len]))
  refine AP.cond rfl rfl (fun hc => ?_) (fun hc => ?_)
  · have hk' : k < B.length := by simp at hc; omega
    have hw := wr (x := (k : Int) + 1) (by omega)
    rw [drop_get B k ⟨0, [], []⟩ hk', idxS] at hi
    have hg := acR_get B k hk'
    repeat (first | refine xA ?_ | refine xB ?_ | refine xC ?_ | refine xE ?_ | refine xD ?_ | refine xK ?_ | refine xS ?_ | refine xM ?_ | refine xT ?_ | refine xF ?_ | ((first | refine xR ?_ | refine xW ?_ | refine vq_id ?_); simp only [go_sem, Nat.reduceAdd, Nat.reduceLeDiff, Nat.reduceSub, Int.reduceToNat, reduceCtorEq, hg, acR_len]) | (refine ⟨by first | omega | (intros; simp_all; done) | (intros; simp_all; omega), ?_⟩; try simp only [go_sem, Nat.reduceAdd, Nat.reduceLeDiff, Nat.reduceSub, Int.reduceToNat, reduceCtorEq, hg, acR_len]))
    refine AQ.callI (by kernel_rfl) rfl rfl rfl (longA_spec (B.getD k ⟨0, [], []⟩)) ?_
    repeat (first | refine xA ?_ | refine xB ?_ | refine xC ?_ | refine xE ?_ | refine xD ?_ | refine xK ?_ | refine xS ?_ | refine xM ?_ | refine xT ?_ | refine xF ?_ | ((first | refine xR ?_ | refine xW ?_ | refine vq_id ?_); simp only [go_sem, Nat.reduceAdd, Nat.reduceLeDiff, Nat.reduceSub, Int.reduceToNat, reduceCtorEq]) | (refine ⟨by first | omega | (intros; simp_all; done) | (intros; simp_all; omega), ?_⟩; try simp only [go_sem, Nat.reduceAdd, Nat.reduceLeDiff, Nat.reduceSub, Int.reduceToNat, reduceCtorEq]))
    refine AP.cond rfl rfl (fun hb => ?_) (fun hb => ?_)
    · rw [if_pos hb] at hi
      repeat (first | refine xA ?_ | refine xB ?_ | refine xC ?_ | refine xE ?_ | refine xD ?_ | refine xK ?_ | refine xS ?_ | refine xM ?_ | refine xT ?_ | refine xF ?_ | ((first | refine xR ?_ | refine xW ?_ | refine vq_id ?_); simp only [go_sem, Nat.reduceAdd, Nat.reduceLeDiff, Nat.reduceSub, Int.reduceToNat, reduceCtorEq]) | (refine ⟨by first | omega | (intros; simp_all; done) | (intros; simp_all; omega), ?_⟩; try simp only [go_sem, Nat.reduceAdd, Nat.reduceLeDiff, Nat.reduceSub, Int.reduceToNat, reduceCtorEq]))
      exact AE.ret rfl ⟨rfl, trivial⟩ ⟨rfl, by rw [hi]; rfl⟩
    · rw [if_neg (by rw [hb]; exact Bool.false_ne_true)] at hi
      repeat (first | refine xA ?_ | refine xB ?_ | refine xC ?_ | refine xE ?_ | refine xD ?_ | refine xK ?_ | refine xS ?_ | refine xM ?_ | refine xT ?_ | refine xF ?_ | ((first | refine xR ?_ | refine xW ?_ | refine vq_id ?_); simp only [go_sem, Nat.reduceAdd, Nat.reduceLeDiff, Nat.reduceSub, Int.reduceToNat, reduceCtorEq, hw]) | (refine ⟨by first | omega | (intros; simp_all; done) | (intros; simp_all; omega), ?_⟩; try simp only [go_sem, Nat.reduceAdd, Nat.reduceLeDiff, Nat.reduceSub, Int.reduceToNat, reduceCtorEq, hw]))
      exact AE.round (k + 1) ⟨by omega, hi⟩ (by omega) (by repeat (first | exact Sub.nil _ | refine Sub.cons rfl ?_)) rfl
  · have hk' : k = B.length := by simp at hc; omega
    rw [List.drop_eq_nil_of_le (by omega), idxS] at hi
    repeat (first | refine xA ?_ | refine xB ?_ | refine xC ?_ | refine xE ?_ | refine xD ?_ | refine xK ?_ | refine xS ?_ | refine xM ?_ | refine xT ?_ | refine xF ?_ | ((first | refine xR ?_ | refine xW ?_ | refine vq_id ?_); simp only [go_sem, Nat.reduceAdd, Nat.reduceLeDiff, Nat.reduceSub, Int.reduceToNat, reduceCtorEq]) | (refine ⟨by first | omega | (intros; simp_all; done) | (intros; simp_all; omega), ?_⟩; try simp only [go_sem, Nat.reduceAdd, Nat.reduceLeDiff, Nat.reduceSub, Int.reduceToNat, reduceCtorEq]))
    exact AE.ret rfl ⟨rfl, trivial⟩ ⟨rfl, by rw [hi]; rfl⟩
theorem short_spec (l : List Ac) (hl : l.length < 9223372036854775808) : PFn Try.prog 9 [.im (.sl 3 (acR l))] (Bv (decide ((l.length : Int) ≤ 40) && !l.any longA)) := by
  have ha : PFn Try.prog 47 [.im (.sl 3 (acR l)), .fn 48 [] []] (Bv (l.any longA)) := by
    refine ACall.walk [0, 1, 4] [] Try.func47 rfl Try.ntmps47 (by kernel_rfl) (by rfl) rfl fun W own I0 φ0 => ?_
    repeat (first | refine xA ?_ | refine xB ?_ | refine xC ?_ | refine xE ?_ | refine xD ?_ | refine xK ?_ | refine xS ?_ | refine xM ?_ | refine xT ?_ | refine xF ?_ | ((first | refine xR ?_ | refine xW ?_ | refine vq_id ?_); simp only [go_sem, Nat.reduceAdd, Nat.reduceLeDiff, Nat.reduceSub, Int.reduceToNat, reduceCtorEq]) | (refine ⟨by first | omega | (intros; simp_all; done) | (intros; simp_all; omega), ?_⟩; try simp only [go_sem, Nat.reduceAdd, Nat.reduceLeDiff, Nat.reduceSub, Int.reduceToNat, reduceCtorEq]))
    refine AQ.fn (by kernel_rfl) rfl rfl rfl (idxAc l hl) rfl ?_
    repeat (first | refine xA ?_ | refine xB ?_ | refine xC ?_ | refine xE ?_ | refine xD ?_ | refine xK ?_ | refine xS ?_ | refine xM ?_ | refine xT ?_ | refine xF ?_ | ((first | refine xR ?_ | refine xW ?_ | refine vq_id ?_); simp only [go_sem, Nat.reduceAdd, Nat.reduceLeDiff, Nat.reduceSub, Int.reduceToNat, reduceCtorEq, idxS_any]) | (refine ⟨by first | omega | (intros; simp_all; done) | (intros; simp_all; omega), ?_⟩; try simp only [go_sem, Nat.reduceAdd, Nat.reduceLeDiff, Nat.reduceSub, Int.reduceToNat, reduceCtorEq, idxS_any]))
    exact AE.ret0 rfl ⟨rfl, trivial⟩ rfl ⟨rfl, rfl⟩
  refine ACall.walk [0, 2] [] Try.func9 rfl Try.ntmps9 (by kernel_rfl) (by rfl) rfl fun W own I0 φ0 => ?_
  repeat (first | refine xA ?_ | refine xB ?_ | refine xC ?_ | refine xE ?_ | refine xD ?_ | refine xK ?_ | refine xS ?_ | refine xM ?_ | refine xT ?_ | refine xF ?_ | ((first | refine xR ?_ | refine xW ?_ | refine vq_id ?_); simp only [go_sem, Nat.reduceAdd, Nat.reduceLeDiff, Nat.reduceSub, Int.reduceToNat, reduceCtorEq, acR_len]) | (refine ⟨by first | omega | (intros; simp_all; done) | (intros; simp_all; omega), ?_⟩; try simp only [go_sem, Nat.reduceAdd, Nat.reduceLeDiff, Nat.reduceSub, Int.reduceToNat, reduceCtorEq, acR_len]))
  refine AQ.fn_g (by kernel_rfl) rfl rfl (fun h => by first | (simp [gs, AV.g]; done) | (simp [gs, AV.g, constAV]; done) | (simp [gs, AV.g, constAV, bw] at h ⊢; done) | (simp [bw] at h; done) | (simp [gs, AV.g, bw] at h ⊢; simp [h]; done) | (simp [gs, AV.g, bw] at h ⊢; exact h.1) | (simp [gs, AV.g]; rfl) | (simp [gs, AV.g, bw] at h ⊢; rfl) | (simp [gs, AV.g, bw] at h ⊢; simp [h]; rfl) | (simp [gs, AV.g, bw] at h ⊢; simp_all)) rfl (fun _ => ha) rfl ?_
  repeat (first | refine xA ?_ | refine xB ?_ | refine xC ?_ | refine xE ?_ | refine xD ?_ | refine xK ?_ | refine xS ?_ | refine xM ?_ | refine xT ?_ | refine xF ?_ | ((first | refine xR ?_ | refine xW ?_ | refine vq_id ?_); simp only [go_sem, Nat.reduceAdd, Nat.reduceLeDiff, Nat.reduceSub, Int.reduceToNat, reduceCtorEq]) | (refine ⟨by first | omega | (intros; simp_all; done) | (intros; simp_all; omega), ?_⟩; try simp only [go_sem, Nat.reduceAdd, Nat.reduceLeDiff, Nat.reduceSub, Int.reduceToNat, reduceCtorEq]))
  exact AE.ret0 rfl ⟨rfl, trivial⟩ rfl ⟨rfl, rfl⟩
end Go.Proofs.Ytoafanbfminhcaa
end

section
namespace Go.Proofs.Ytoafanbfminhcaa
open Go Go.AL Go.RowKit
theorem n4_eq (l : Bs) : n4 l = num4 (l.getD 0 0) (l.getD 1 0) (l.getD 2 0) (l.getD 3 0) := by unfold n4; rfl
end Go.Proofs.Ytoafanbfminhcaa
end

section
namespace Go.Proofs.Ytoafanbfminhcaa
open Go Go.AL
set_option maxRecDepth 10000
theorem n4_le4 (n : Nat) (h : n < 4294967296) : n4 (le4 n) = n := by
  rw [n4_eq]; exact num_le4 n h
def nF (s : Bs) : Nat := n4 (s.take 4)
def nB (s : Bs) : Nat := n4 ((s.drop 16).take 4)
def nL (s : Bs) : Nat := n4 ((s.drop 4).take 4)
theorem body4 (s : Bs) (h : s.length = 32) : (bodyOf s).take 4 = (s.drop 4).take 4 := by
  unfold bodyOf
  rw [List.take_append_of_le_length (by simp; omega), List.take_take]; rfl
theorem readP_some {s : Bs} {p : Pc} (h : readP s = some p) : s.length = 32 ∧ p.s = nF s ∧ p.s = nB s ∧ p.k = nL s ∧ p.s ≠ 0 := by
  unfold readP at h
  split at h
  · rename_i h32
    unfold readG at h
    split at h
    · cases h
    · rename_i hc
      split at h
      · cases h
        refine ⟨h32, rfl, ?_, ?_, ?_⟩
        · simp only [nB]; omega
        · simp only [nL]; rw [body4 s h32]
        · simp only; omega
      · cases h
  · cases h
section
variable (s k : Nat) (last : Bool) (t : Bs) (hs : s < 4294967296) (hk : k < 4294967296) (ht : t.length ≤ 19)
theorem blockP_len (ht : t.length ≤ 19) : (blockP s k last t).length = 32 := by
  have := bodyP_len k last ht
  simp only [blockP, List.length_append, List.length_take, List.length_drop, le4_len, this]; omega
theorem blockP_F (hs : s < 4294967296) (ht : t.length ≤ 19) : nF (blockP s k last t) = s := by
  unfold nF blockP
  rw [List.append_assoc, List.append_assoc, List.take_append_of_le_length (by rw [le4_len]; exact Nat.le_refl _), List.take_of_length_le (by rw [le4_len]; exact Nat.le_refl _)]
  exact n4_le4 s hs
theorem blockP_drop16 (ht : t.length ≤ 19) : (blockP s k last t).drop 16 = le4 s ++ (bodyP k last t).drop 12 := by
  have h := bodyP_len k last ht
  unfold blockP
  rw [List.append_assoc (le4 s ++ _), List.drop_append_of_le_length (by simp only [List.length_append, List.length_take, le4_len, h]; omega), List.drop_of_length_le (by simp only [List.length_append, List.length_take, le4_len, h]; omega), List.nil_append]
theorem blockP_B (hs : s < 4294967296) (ht : t.length ≤ 19) : nB (blockP s k last t) = s := by
  unfold nB
  rw [blockP_drop16 s k last t ht, List.take_append_of_le_length (by rw [le4_len]; exact Nat.le_refl _), List.take_of_length_le (by rw [le4_len]; exact Nat.le_refl _)]
  exact n4_le4 s hs
theorem blockP_body (ht : t.length ≤ 19) : bodyOf (blockP s k last t) = bodyP k last t := by
  have h := bodyP_len k last ht
  unfold bodyOf
  have h20 : (blockP s k last t).drop 20 = (bodyP k last t).drop 12 := by
    rw [show (20 : Nat) = 16 + 4 from rfl, ← List.drop_drop, blockP_drop16 s k last t ht, List.drop_append_of_le_length (by rw [le4_len]; exact Nat.le_refl _), List.drop_of_length_le (by rw [le4_len]; exact Nat.le_refl _), List.nil_append]
  have h4 : ((blockP s k last t).drop 4).take 12 = (bodyP k last t).take 12 := by
    unfold blockP
    rw [List.append_assoc, List.append_assoc, List.drop_append_of_le_length (by rw [le4_len]; exact Nat.le_refl _), List.drop_of_length_le (by rw [le4_len]; exact Nat.le_refl _), List.nil_append, List.take_append_of_le_length (by simp only [List.length_take, h]; omega), List.take_take]
    rfl
  rw [h4, h20, List.take_append_drop]
theorem lastB_nat (n : Nat) (h : n ≤ 19) (l : Bool) : (lastB n l).toNat = if l then n + 128 else n := by
  unfold lastB
  rw [UInt8.toNat_ofNat']
  split <;> omega
theorem readP_block (hs0 : s ≠ 0) (hs : s < 4294967296) (hk : k < 4294967296) (ht : t.length ≤ 19) : readP (blockP s k last t) = some ⟨s, k, last, t⟩ := by
  have h := bodyP_len k last ht
  unfold readP
  rw [if_pos (blockP_len s k last t ht), blockP_body s k last t ht]
  have e1 : n4 ((blockP s k last t).take 4) = s := blockP_F s k last t hs ht
  have e2 : n4 (((blockP s k last t).drop 16).take 4) = s := blockP_B s k last t hs ht
  have e3 : n4 ((bodyP k last t).take 4) = k := by
    unfold bodyP
    rw [List.append_assoc, List.append_assoc, List.take_append_of_le_length (by rw [le4_len]; exact Nat.le_refl _), List.take_of_length_le (by rw [le4_len]; exact Nat.le_refl _)]
    exact n4_le4 k hk
  have e4 : lenB (bodyP k last t) = if last then t.length + 128 else t.length := by
    unfold lenB bodyP
    rw [List.append_assoc, List.append_assoc, List.getD_eq_getElem?_getD, List.getElem?_append_right (by rw [le4_len]; exact Nat.le_refl _), le4_len]
    show (lastB t.length last).toNat = _
    exact lastB_nat _ ht _
  have e5 : (bodyP k last t).drop 5 = t ++ zB (19 - t.length) := by
    unfold bodyP
    rw [List.append_assoc (le4 k ++ _), List.drop_append_of_le_length (by simp [le4_len]), List.drop_of_length_le (by simp [le4_len]), List.nil_append]
  rw [e1, e2, e3, e4]
  unfold readG
  have hm : (if last then t.length + 128 else t.length) % 128 = t.length := by split <;> omega
  rw [hm, if_neg (by omega), ← List.drop_drop, e5, List.drop_left, List.take_left]
  rw [if_pos (by simp [zB])]
  congr 2
  cases last <;> simp <;> omega
end
end Go.Proofs.Ytoafanbfminhcaa
end

section
namespace Go.Proofs.Ytoafanbfminhcaa
open Go Go.AL
set_option maxRecDepth 10000
def chP : Nat → List (Option Pc) → List Pc
  | _, [] => []
  | _, none :: _ => []
  | k, some p :: r => if p.k = k then p :: chP p.s r else []
theorem chainL_P : ∀ (B : List Bs) (k : Nat), chainL k B = chP k (B.map readP)
  | [], _ => rfl
  | s :: r, k => by
    rw [chainL, List.map_cons]
    cases h : readP s with
    | none => rfl
    | some p => simp only [chP]; rw [chainL_P r p.s]
def Lkd : Nat → List Pc → Prop
  | _, [] => True
  | k, p :: r => p.k = k ∧ Lkd p.s r
def eS : Nat → List Pc → Nat
  | k, [] => k
  | _, p :: r => eS p.s r
theorem eS_app (p : Pc) : ∀ (L : List Pc) (k : Nat), eS k (L ++ [p]) = p.s
  | [], _ => rfl
  | q :: r, _ => eS_app p r q.s
theorem eS_append : ∀ (L M : List Pc) (k : Nat), eS k (L ++ M) = eS (eS k L) M
  | [], _, _ => rfl
  | q :: r, M, _ => eS_append r M q.s
theorem eS_ne : ∀ (L : List Pc) (k k' : Nat), L ≠ [] → eS k L = eS k' L
  | [], _, _, h => absurd rfl h
  | _ :: _, _, _, _ => rfl
theorem Lkd_append : ∀ (L M : List Pc) (k : Nat), Lkd k (L ++ M) ↔ Lkd k L ∧ Lkd (eS k L) M
  | [], M, k => by simp [Lkd, eS]
  | q :: r, M, k => by simp only [List.cons_append, Lkd, eS, Lkd_append r M q.s]; exact ⟨fun ⟨a, b, c⟩ => ⟨⟨a, b⟩, c⟩, fun ⟨⟨a, b⟩, c⟩ => ⟨a, b, c⟩⟩
theorem chP_app : ∀ (L : List Pc) (X : List (Option Pc)) (k : Nat), Lkd k L → chP k (L.map some ++ X) = L ++ chP (eS k L) X
  | [], _, _, _ => rfl
  | p :: r, X, k, h => by
    simp only [List.map_cons, List.cons_append, chP, if_pos h.1, eS]
    rw [chP_app r X p.s h.2]
theorem chP_lkd : ∀ (X : List (Option Pc)) (k : Nat), Lkd k (chP k X)
  | [], _ => trivial
  | none :: _, _ => trivial
  | some p :: r, k => by
    simp only [chP]
    split
    · rename_i h; exact ⟨h, chP_lkd r p.s⟩
    · trivial
theorem chP_front : ∀ (X : List (Option Pc)) (k : Nat), ∃ Y, X = (chP k X).map some ++ Y
  | [], _ => ⟨[], rfl⟩
  | none :: r, _ => ⟨none :: r, rfl⟩
  | some p :: r, k => by
    simp only [chP]
    split
    · obtain ⟨Y, hY⟩ := chP_front r p.s
      exact ⟨Y, by simp only [List.map_cons, List.cons_append]; rw [← hY]⟩
    · exact ⟨some p :: r, rfl⟩
theorem chP_mem : ∀ (X : List (Option Pc)) (k : Nat) (p : Pc), p ∈ chP k X → some p ∈ X := fun X k p h => by
  obtain ⟨Y, hY⟩ := chP_front X k
  rw [hY]
  exact List.mem_append_left _ (List.mem_map.2 ⟨p, h, rfl⟩)
def run (L : List Pc) : Sc := L.foldl Sc.step sc0
theorem scanS_run (B : List Bs) : scanS B = run (chP 0 (B.map readP)) := by rw [scanS, chainL_P]; rfl
theorem snoc_ind {α : Type} {P : List α → Prop} (h0 : P []) (h1 : ∀ l x, P l → P (l ++ [x])) (l : List α) : P l := by
  have : ∀ m : List α, P m.reverse := fun m => by
    induction m with
    | nil => exact h0
    | cons x r ih => rw [List.reverse_cons]; exact h1 _ _ ih
  have h := this l.reverse
  rwa [List.reverse_reverse] at h
structure RunI (L : List Pc) (st : Sc) : Prop where
  n : st.n = L.length
  u : st.used ≤ L.length
  t : run (L.take st.used) = ⟨st.used, [], st.recs, st.used, if st.used = 0 then 0 else st.first, st.last, false⟩
  d : ∀ p ∈ L.drop st.used, p.last = false
  l : st.last = eS 0 (L.take st.used)
  f : st.first = (L.head?.map (·.s)).getD 0
  r : st.used = 0 → st.recs = []
  q : st.used ≠ 0 → st.recs ≠ []
theorem run_inv (L : List Pc) : RunI L (run L) := by
  refine snoc_ind (P := fun L => RunI L (run L)) ?_ (fun l p ih => ?_) L
  · exact ⟨rfl, Nat.le_refl _, rfl, by simp, rfl, rfl, fun _ => rfl, fun h => absurd rfl h⟩
  · have ih : RunI l (run l) := ih
    show RunI (l ++ [p]) (run (l ++ [p]))
    have hrun : run (l ++ [p]) = (run l).step p := by rw [run, List.foldl_append]; rfl
    obtain ⟨st, hst⟩ : ∃ st, run l = st := ⟨_, rfl⟩
    rw [hst] at ih hrun
    obtain ⟨n, part, recs, used, first, last, w⟩ := st
    obtain ⟨h1, h2, h3, h4, h5, h6, h7, h8⟩ := ih
    simp only at h1 h2 h3 h4 h5 h6 h7 h8
    have hf : (if n = 0 then p.s else first) = (((l ++ [p]).head?).map (·.s)).getD 0 := by
      cases l with
      | nil => simp only [List.length_nil] at h1; rw [if_pos h1]; rfl
      | cons a r => simp only [List.length_cons] at h1; rw [if_neg (by omega), h6]; rfl
    rw [hrun, Sc.step]
    cases hl : p.last with
    | true =>
      simp only [if_true]
      have htk : (l ++ [p]).take (n + 1) = l ++ [p] := List.take_of_length_le (by simp; omega)
      refine ⟨by simp; omega, by simp; omega, ?_, ?_, ?_, hf, fun h => (by simp at h), fun _ => by simp⟩
      · simp only
        rw [htk, hrun, Sc.step, hl]
        simp only [if_true]
        rw [if_neg (show ¬ (n + 1 = 0) by omega)]
      · simp only
        rw [List.drop_of_length_le (by simp; omega)]; simp
      · simp only
        rw [htk, eS_app]
    | false =>
      simp only [Bool.false_eq_true, if_false]
      have htk : (l ++ [p]).take used = l.take used := List.take_append_of_le_length h2
      refine ⟨by simp; omega, by simp; omega, ?_, ?_, ?_, hf, h7, h8⟩
      · simp only
        rw [htk, h3]
        by_cases hu : used = 0
        · simp [hu]
        · rw [if_neg hu, if_neg hu, if_neg (by omega)]
      · simp only
        intro q hq
        rw [List.drop_append_of_le_length h2] at hq
        rcases List.mem_append.1 hq with h | h
        · exact h4 q h
        · simp only [List.mem_singleton] at h; rw [h]; exact hl
      · simp only
        rw [htk]; exact h5
theorem fold_n (M : List Pc) : ∀ a : Sc, (M.foldl Sc.step a).n = a.n + M.length := by
  induction M with
  | nil => intro a; rfl
  | cons p r ih =>
    intro a
    rw [List.foldl_cons, ih]
    have : (a.step p).n = a.n + 1 := by unfold Sc.step; split <;> rfl
    rw [this, List.length_cons]; omega
theorem fold_first (M : List Pc) : ∀ a : Sc, (M.foldl Sc.step a).first = if a.n = 0 then (M.head?.map (·.s)).getD a.first else a.first := by
  induction M with
  | nil => intro a; simp
  | cons p r ih =>
    intro a
    rw [List.foldl_cons, ih]
    have h1 : (a.step p).n = a.n + 1 := by unfold Sc.step; split <;> rfl
    have h2 : (a.step p).first = if a.n = 0 then p.s else a.first := by unfold Sc.step; split <;> rfl
    rw [h1, if_neg (by omega), h2]; rfl
theorem fold_nl (M : List Pc) : ∀ a : Sc, (∀ p ∈ M, p.last = false) → (M.foldl Sc.step a).recs = a.recs ∧ (M.foldl Sc.step a).used = a.used ∧ (M.foldl Sc.step a).last = a.last := by
  induction M with
  | nil => intro a _; exact ⟨rfl, rfl, rfl⟩
  | cons p r ih =>
    intro a h
    rw [List.foldl_cons]
    obtain ⟨h1, h2, h3⟩ := ih (a.step p) (fun q hq => h q (by simp [hq]))
    have hp := h p (by simp)
    have : (a.step p).recs = a.recs ∧ (a.step p).used = a.used ∧ (a.step p).last = a.last := by
      unfold Sc.step; rw [hp]; exact ⟨rfl, rfl, rfl⟩
    rw [h1, h2, h3]; exact this
end Go.Proofs.Ytoafanbfminhcaa
end

section
namespace Go.Proofs.Ytoafanbfminhcaa
open Go Go.AL
set_option maxRecDepth 10000
def pcs (R : Bs) (n l : Nat) : Nat → List Pc
  | 0 => []
  | j + 1 => pcs R n l j ++ [⟨n + j, if j = 0 then l else n + j - 1, partLast R j, partAt R j⟩]
theorem pcs_len (R : Bs) (n l : Nat) : ∀ j, (pcs R n l j).length = j
  | 0 => rfl
  | j + 1 => by rw [pcs, List.length_append, pcs_len R n l j]; rfl
theorem pcs_take (R : Bs) (n l : Nat) : ∀ m i, (pcs R n l m).take i = pcs R n l (min i m)
  | 0, i => by simp [pcs]
  | m + 1, i => by
    by_cases h : i ≤ m
    · rw [pcs, List.take_append_of_le_length (by rw [pcs_len]; exact h), pcs_take R n l m i, Nat.min_eq_left h, Nat.min_eq_left (by omega)]
    · rw [List.take_of_length_le (by rw [pcs_len]; omega), Nat.min_eq_right (by omega)]
theorem pcs_get (R : Bs) (n l : Nat) : ∀ m i p, (pcs R n l m)[i]? = some p → p = (⟨n + i, if i = 0 then l else n + i - 1, partLast R i, partAt R i⟩ : Pc)
  | 0, i, p, h => by simp [pcs] at h
  | m + 1, i, p, h => by
    rw [pcs] at h
    rcases Nat.lt_or_ge i m with hi | hi
    · rw [List.getElem?_append_left (by rw [pcs_len]; exact hi)] at h
      exact pcs_get R n l m i p h
    · rw [List.getElem?_append_right (by rw [pcs_len]; exact hi), pcs_len] at h
      have : i = m := by
        rcases Nat.eq_or_lt_of_le hi with e | e
        · exact e.symm
        · rw [List.getElem?_eq_none (by simp; omega)] at h; cases h
      subst this
      rw [Nat.sub_self] at h
      simp only [List.getElem?_cons_zero, Option.some.injEq] at h
      exact h.symm
theorem pcs_eS (R : Bs) (n l : Nat) (k j : Nat) : eS k (pcs R n l (j + 1)) = n + j := by rw [pcs, eS_app]
theorem pcs_lkd (R : Bs) (n l : Nat) : ∀ j, Lkd l (pcs R n l j)
  | 0 => trivial
  | j + 1 => by
    rw [pcs, Lkd_append]
    refine ⟨pcs_lkd R n l j, ?_, trivial⟩
    cases j with
    | zero => rfl
    | succ i => rw [pcs_eS]; simp only [Nat.add_eq_zero_iff, Nat.one_ne_zero, and_false, if_false]; omega
theorem part_take (R : Bs) (j : Nat) : R.take (19 * j) ++ partAt R j = R.take (19 * (j + 1)) := by
  rw [partAt, ← List.take_add]; rfl
theorem part_full (R : Bs) : R.take (19 * nparts R) = R := List.take_of_length_le (by unfold nparts; omega)
theorem fold_part (R : Bs) (n l : Nat) (b : Sc) (hb : b.part = []) : ∀ j, j < nparts R → ((pcs R n l j).foldl Sc.step b).part = R.take (19 * j) ∧ ((pcs R n l j).foldl Sc.step b).recs = b.recs ∧ ((pcs R n l j).foldl Sc.step b).used = b.used ∧ ((pcs R n l j).foldl Sc.step b).last = b.last
  | 0, _ => ⟨by simpa [pcs] using hb, rfl, rfl, rfl⟩
  | j + 1, h => by
    obtain ⟨h1, h2, h3, h4⟩ := fold_part R n l b hb j (by omega)
    rw [pcs, List.foldl_append]
    obtain ⟨a, ha⟩ : ∃ a, (pcs R n l j).foldl Sc.step b = a := ⟨_, rfl⟩
    rw [ha] at h1 h2 h3 h4 ⊢
    have hl : partLast R j = false := by unfold partLast; simp; omega
    simp only [List.foldl_cons, List.foldl_nil, Sc.step, hl, Bool.false_eq_true, if_false]
    exact ⟨by rw [h1, part_take], h2, h3, h4⟩
theorem fold_rec (R : Bs) (n l : Nat) (b : Sc) (hb : b.part = []) : ((pcs R n l (nparts R)).foldl Sc.step b).part = [] ∧ ((pcs R n l (nparts R)).foldl Sc.step b).recs = b.recs ++ [R] ∧ ((pcs R n l (nparts R)).foldl Sc.step b).used = b.n + nparts R ∧ ((pcs R n l (nparts R)).foldl Sc.step b).last = n + nparts R - 1 := by
  have hpos : 1 ≤ nparts R := by unfold nparts; omega
  obtain ⟨j, hj⟩ : ∃ j, nparts R = j + 1 := ⟨nparts R - 1, by omega⟩
  obtain ⟨h1, h2, h3, h4⟩ := fold_part R n l b hb j (by omega)
  have hn := fold_n (pcs R n l j) b
  rw [pcs_len] at hn
  have hfull := part_full R
  rw [hj] at hfull ⊢
  rw [pcs, List.foldl_append]
  obtain ⟨a, ha⟩ : ∃ a, (pcs R n l j).foldl Sc.step b = a := ⟨_, rfl⟩
  rw [ha] at h1 h2 h3 h4 hn ⊢
  have hl : partLast R j = true := by unfold partLast; simp; omega
  simp only [List.foldl_cons, List.foldl_nil, Sc.step, hl, if_true]
  refine ⟨trivial, ?_, ?_, ?_⟩
  · rw [h1, h2, part_take, hfull]
  · rw [hn]; omega
  · omega
structure Good (Rs : List Bs) (N : List Pc) : Prop where
  pre : ∀ j, ∃ r, r ≤ Rs.length ∧ ∀ b : Sc, b.part = [] → ((N.take j).foldl Sc.step b).recs = b.recs ++ Rs.take r
  part : ∀ b : Sc, b.part = [] → (N.foldl Sc.step b).part = []
  recs : ∀ b : Sc, b.part = [] → (N.foldl Sc.step b).recs = b.recs ++ Rs
  used : ∀ b : Sc, b.part = [] → (N.foldl Sc.step b).used = if N = [] then b.used else b.n + N.length
  last : ∀ b : Sc, b.part = [] → (N.foldl Sc.step b).last = if N = [] then b.last else eS 0 N
theorem Good.nil : Good [] [] := ⟨fun _ => ⟨0, Nat.le_refl _, fun b _ => by simp⟩, fun b h => h, fun b _ => by simp, fun b _ => rfl, fun b _ => rfl⟩
theorem Good.snoc {Rs : List Bs} {N : List Pc} (h : Good Rs N) (R : Bs) (n l : Nat) : Good (Rs ++ [R]) (N ++ pcs R n l (nparts R)) := by
  have hpos : 1 ≤ nparts R := by unfold nparts; omega
  have hne : N ++ pcs R n l (nparts R) ≠ [] := fun e => by
    have := congrArg List.length e
    rw [List.length_append, pcs_len] at this
    simp at this; omega
  refine ⟨fun j => ?_, fun b hb => ?_, fun b hb => ?_, fun b hb => ?_, fun b hb => ?_⟩
  · rcases Nat.le_total j N.length with hj | hj
    · obtain ⟨r, hr, hh⟩ := h.pre j
      refine ⟨r, by rw [List.length_append]; omega, fun b hb => ?_⟩
      rw [List.take_append_of_le_length hj, List.take_append_of_le_length hr]
      exact hh b hb
    · have htk : (N ++ pcs R n l (nparts R)).take j = N ++ pcs R n l (min (j - N.length) (nparts R)) := by
        rw [List.take_append, List.take_of_length_le hj, pcs_take]
      by_cases hlt : j - N.length < nparts R
      · refine ⟨Rs.length, by rw [List.length_append]; omega, fun b hb => ?_⟩
        rw [htk, List.foldl_append, Nat.min_eq_left (by omega), (fold_part R n l _ (h.part b hb) _ hlt).2.1, h.recs b hb, List.take_left]
      · refine ⟨Rs.length + 1, by rw [List.length_append]; exact Nat.le_refl _, fun b hb => ?_⟩
        rw [htk, List.foldl_append, Nat.min_eq_right (by omega), (fold_rec R n l _ (h.part b hb)).2.1, h.recs b hb, List.take_of_length_le (by simp), List.append_assoc]
  · rw [List.foldl_append]; exact (fold_rec R n l _ (h.part b hb)).1
  · rw [List.foldl_append, (fold_rec R n l _ (h.part b hb)).2.1, h.recs b hb, List.append_assoc]
  · rw [List.foldl_append, (fold_rec R n l _ (h.part b hb)).2.2.1, fold_n, if_neg hne, List.length_append, pcs_len]; omega
  · rw [List.foldl_append, (fold_rec R n l _ (h.part b hb)).2.2.2, if_neg hne]
    obtain ⟨j, hj⟩ : ∃ j, nparts R = j + 1 := ⟨nparts R - 1, by omega⟩
    rw [hj, eS_append, pcs_eS]; omega
inductive Mix : List Pc → List (Option Pc) → List (Option Pc) → Prop
  | nil (P : List (Option Pc)) : Mix [] P P
  | cons {p : Pc} {N : List Pc} {o q : Option Pc} {P Q : List (Option Pc)} (h : q = some p ∨ q = none ∨ q = o) (r : Mix N P Q) : Mix (p :: N) (o :: P) (q :: Q)
theorem mix_new {n0 : Nat} : ∀ {N : List Pc} {P Q : List (Option Pc)}, Mix N P Q → ∀ k, n0 ≤ k → Lkd k N → (∀ p ∈ N, n0 ≤ p.s) → (∀ p, some p ∈ P → p.k < n0) → ∃ j, chP k Q = N.take j
  | _, _, _, .nil P, k, hk, _, _, hP => by
    refine ⟨0, ?_⟩
    match P, hP with
    | [], _ => rfl
    | none :: r, _ => rfl
    | some p :: r, hP => simp only [chP]; have := hP p (by simp); rw [if_neg (by omega)]; rfl
  | _, _, _, .cons (p := p) (N := N) (o := o) (q := q) (P := P) (Q := Q) h r, k, hk, hl, hs, hP => by
    rcases h with h | h | h
    · obtain ⟨j, hj⟩ := mix_new r p.s (hs p (by simp)) hl.2 (fun q hq => hs q (by simp [hq])) (fun q hq => hP q (by simp [hq]))
      exact ⟨j + 1, by rw [h]; simp only [chP, if_pos hl.1, List.take_succ_cons]; rw [hj]⟩
    · exact ⟨0, by rw [h]; rfl⟩
    · refine ⟨0, ?_⟩
      rw [h]
      match o, hP with
      | none, _ => rfl
      | some p', hP => simp only [chP]; have := hP p' (by simp); rw [if_neg (by omega)]; rfl
theorem mix_old {n0 : Nat} : ∀ {N : List Pc} {P Q : List (Option Pc)}, Mix N P Q → ∀ k, k < n0 → (∀ p ∈ N, n0 ≤ p.k) → (∀ p, some p ∈ P → p.s < n0) → ∃ j, chP k Q = (chP k P).take j
  | _, _, _, .nil P, k, _, _, _ => ⟨(chP k P).length, by rw [List.take_length]⟩
  | _, _, _, .cons (p := p) (N := N) (o := o) (q := q) (P := P) (Q := Q) h r, k, hk, hs, hP => by
    rcases h with h | h | h
    · refine ⟨0, ?_⟩
      rw [h]; simp only [chP]
      have := hs p (by simp)
      rw [if_neg (by omega)]; rfl
    · exact ⟨0, by rw [h]; rfl⟩
    · rw [h]
      match o, hP with
      | none, _ => exact ⟨0, rfl⟩
      | some p', hP =>
        simp only [chP]
        split
        · obtain ⟨j, hj⟩ := mix_old r p'.s (hP p' (by simp)) (fun q hq => hs q (by simp [hq])) (fun q hq => hP q (by simp [hq]))
          exact ⟨j + 1, by rw [List.take_succ_cons, hj]⟩
        · exact ⟨0, rfl⟩
theorem Lkd_k {n0 : Nat} : ∀ {N : List Pc} {k : Nat}, Lkd k N → n0 ≤ k → (∀ p ∈ N, n0 ≤ p.s) → ∀ p ∈ N, n0 ≤ p.k
  | [], _, _, _, _, p, hp => by simp at hp
  | q :: r, k, hl, hk, hs, p, hp => by
    rcases List.mem_cons.1 hp with rfl | hp
    · rw [hl.1]; exact hk
    · exact Lkd_k hl.2 (hs q (by simp)) (fun x hx => hs x (by simp [hx])) p hp
theorem mix_all {n0 k : Nat} {N : List Pc} {P Q : List (Option Pc)} (h : Mix N P Q) (hk : k < n0) (hl : Lkd k N) (hs : ∀ p ∈ N, n0 ≤ p.s) (hP : ∀ p, some p ∈ P → p.s < n0 ∧ p.k < n0) :
    (∃ j, chP k Q = N.take j) ∨ ∃ j, chP k Q = (chP k P).take j := by
  cases h with
  | nil P => exact .inr ⟨(chP k P).length, by rw [List.take_length]⟩
  | cons h r =>
    rename_i p N o q P Q
    rcases h with h | h | h
    · left
      obtain ⟨j, hj⟩ := mix_new r p.s (hs p (by simp)) hl.2 (fun q hq => hs q (by simp [hq])) (fun q hq => (hP q (by simp [hq])).2)
      exact ⟨j + 1, by rw [h]; simp only [chP, if_pos hl.1, List.take_succ_cons]; rw [hj]⟩
    · exact .inl ⟨0, by rw [h]; rfl⟩
    · right
      rw [h]
      match o, hP with
      | none, _ => exact ⟨0, rfl⟩
      | some p', hP =>
        simp only [chP]
        split
        · obtain ⟨j, hj⟩ := mix_old r p'.s (hP p' (by simp)).1 (Lkd_k hl.2 (hs p (by simp)) (fun q hq => hs q (by simp [hq]))) (fun q hq => (hP q (by simp [hq])).1)
          exact ⟨j + 1, by rw [List.take_succ_cons, hj]⟩
        · exact ⟨0, rfl⟩
end Go.Proofs.Ytoafanbfminhcaa
end

section
namespace Go.Proofs.Ytoafanbfminhcaa
open Go Go.AL
set_option maxRecDepth 10000
abbrev Pc.b (p : Pc) : Bs := blockP p.s p.k p.last p.t
def wl : Nat → List Pc → List Wr
  | _, [] => []
  | q, p :: r => ((q : Int), p.b) :: wl (q + 1) r
theorem wl_len : ∀ (N : List Pc) (q : Nat), (wl q N).length = N.length
  | [], _ => rfl
  | _ :: r, q => by rw [wl, List.length_cons, wl_len r, List.length_cons]
theorem wl_app (M : List Pc) : ∀ (N : List Pc) (q : Nat), wl q (N ++ M) = wl q N ++ wl (q + N.length) M
  | [], q => rfl
  | p :: r, q => by
    rw [List.cons_append, wl, wl, wl_app M r (q + 1), List.cons_append, List.length_cons]
    rw [show q + 1 + r.length = q + (r.length + 1) by omega]
theorem wl_mem : ∀ (N : List Pc) (q : Nat) (w : Wr), w ∈ wl q N → ∃ p ∈ N, ∃ i, w = (((q + i : Nat) : Int), p.b) ∧ i < N.length
  | [], _, _, h => by simp [wl] at h
  | p :: r, q, w, h => by
    rw [wl] at h
    rcases List.mem_cons.1 h with h | h
    · exact ⟨p, by simp, 0, h, by simp⟩
    · obtain ⟨p', hp, i, hi, hl⟩ := wl_mem r (q + 1) w h
      exact ⟨p', by simp [hp], i + 1, by rw [hi]; congr 2; omega, by simp; omega⟩
def cz (F : List Int) : Nat → List Bs → List Pc → List Bs
  | i, o :: A, p :: N => crash1 o p.b (fateAt F i) :: cz F (i + 1) A N
  | _, A, _ => A
theorem cz_len (F : List Int) : ∀ (A : List Bs) (N : List Pc) (i : Nat), (cz F i A N).length = A.length
  | [], N, i => by cases N <;> rfl
  | o :: A, [], i => rfl
  | o :: A, p :: N, i => by rw [cz, List.length_cons, cz_len F A N, List.length_cons]
theorem crash_wl (F : List Int) : ∀ (N : List Pc) (X A : List Bs) (i : Nat), N.length ≤ A.length → crashB F (wl X.length N) i (X ++ A) = X ++ cz F i A N
  | [], X, A, i, _ => by cases A <;> rfl
  | p :: N, X, [], i, h => by simp at h
  | p :: N, X, o :: A, i, h => by
    rw [wl, crashB, cz]
    simp only [Int.toNat_natCast]
    have h1 : (X ++ o :: A).getD X.length [] = o := by simp [List.getD_eq_getElem?_getD]
    have h2 : ∀ y : Bs, (X ++ o :: A).set X.length y = (X ++ [y]) ++ A := fun y => by simp
    have := crash_wl F N (X ++ [crash1 o p.b (fateAt F i)]) A (i + 1) (by simp at h; omega)
    rw [List.length_append, List.length_cons, List.length_nil] at this
    rw [h1, h2, this, List.append_assoc]; rfl
theorem nF_take (a b : Bs) (h : 16 ≤ a.length) : nF (a.take 16 ++ b) = nF a := by
  unfold nF
  rw [List.take_append_of_le_length (by rw [List.length_take]; omega), List.take_take]; rfl
theorem nB_drop (a b : Bs) (h : a.length = 16) : nB (a ++ b.drop 16) = nB b := by
  unfold nB
  rw [List.drop_append_of_le_length (by omega), List.drop_of_length_le (by omega), List.nil_append]
theorem fate_cases (F : List Int) (k : Nat) : fateAt F k = 0 ∨ fateAt F k = 1 ∨ fateAt F k = 2 ∨ fateAt F k = 3 := by
  unfold fateAt
  split
  · unfold fate
    have h1 := Int.tmod_lt_of_pos (F.getD k 0) (show (0 : Int) < 4 by decide)
    have h2 : -4 < (F.getD k 0).tmod 4 := by
      rcases Int.le_total 0 (F.getD k 0) with h | h
      · have := Int.tmod_nonneg 4 h; omega
      · obtain ⟨m, hm⟩ := Int.eq_ofNat_of_zero_le (show 0 ≤ -(F.getD k 0) by omega)
        have e : F.getD k 0 = -(m : Int) := by omega
        rw [e, Int.neg_tmod]
        have := Int.tmod_lt_of_pos (m : Int) (show (0 : Int) < 4 by decide)
        omega
    have h3 : 0 ≤ (F.getD k 0).tmod 4 + 4 := by omega
    rw [Int.tmod_eq_emod_of_nonneg h3]
    omega
  · exact .inr (.inl rfl)
structure Pk (n0 : Nat) (p : Pc) : Prop where
  lo : n0 ≤ p.s
  hi : p.s < 4294967296
  k : p.k < p.s
  t : p.t.length ≤ 19
theorem Pk.read {n0 : Nat} {p : Pc} (h : Pk n0 p) (h0 : 1 ≤ n0) : readP p.b = some p :=
  readP_block p.s p.k p.last p.t (by have := h.lo; omega) h.hi (by have := h.k; have := h.hi; omega) h.t
theorem crash1_read {n0 : Nat} {o : Bs} {p : Pc} (h0 : 1 ≤ n0) (ho : o.length = 32) (hF : nF o < n0) (hB : nB o < n0) (hp : Pk n0 p) (f : Int) (hf : f = 0 ∨ f = 1 ∨ f = 2 ∨ f = 3) :
    readP (crash1 o p.b f) = some p ∨ readP (crash1 o p.b f) = none ∨ readP (crash1 o p.b f) = readP o := by
  have hl := blockP_len p.s p.k p.last p.t hp.t
  have e1 := blockP_F p.s p.k p.last p.t hp.hi hp.t
  have e2 := blockP_B p.s p.k p.last p.t hp.hi hp.t
  have hlo := hp.lo
  rcases hf with rfl | rfl | rfl | rfl
  · left; rw [show crash1 o p.b 0 = p.b by simp [crash1]]; exact hp.read h0
  · right; right; rw [show crash1 o p.b 1 = o by simp [crash1]]
  · right; left
    rw [show crash1 o p.b 2 = p.b.take 16 ++ o.drop 16 by simp [crash1]]
    cases hr : readP (p.b.take 16 ++ o.drop 16) with
    | none => rfl
    | some q =>
      obtain ⟨_, h2, h3, _, _⟩ := readP_some hr
      rw [nF_take _ _ (by rw [hl]; omega), e1] at h2
      rw [nB_drop _ _ (by rw [List.length_take, hl]; rfl)] at h3
      omega
  · right; left
    rw [show crash1 o p.b 3 = o.take 16 ++ p.b.drop 16 by simp [crash1]]
    cases hr : readP (o.take 16 ++ p.b.drop 16) with
    | none => rfl
    | some q =>
      obtain ⟨_, h2, h3, _, _⟩ := readP_some hr
      rw [nF_take _ _ (by rw [ho]; omega)] at h2
      rw [nB_drop _ _ (by rw [List.length_take, ho]; rfl), e2] at h3
      omega
theorem cz_mix {n0 : Nat} (h0 : 1 ≤ n0) (F : List Int) : ∀ (N : List Pc) (A : List Bs) (i : Nat), N.length ≤ A.length → (∀ s ∈ A, s.length = 32 ∧ nF s < n0 ∧ nB s < n0) → (∀ p ∈ N, Pk n0 p) → Mix N (A.map readP) ((cz F i A N).map readP)
  | [], A, i, _, _, _ => by
    have : cz F i A [] = A := by cases A <;> rfl
    rw [this]; exact .nil _
  | p :: N, [], i, h, _, _ => by simp at h
  | p :: N, o :: A, i, h, hA, hN => by
    rw [cz, List.map_cons, List.map_cons]
    obtain ⟨a1, a2, a3⟩ := hA o (by simp)
    exact .cons (crash1_read h0 a1 a2 a3 (hN p (by simp)) _ (fate_cases F i)) (cz_mix h0 F N A (i + 1) (by simp at h; omega) (fun s hs => hA s (by simp [hs])) (fun q hq => hN q (by simp [hq])))
theorem cz_zero (n : Nat) : ∀ (N : List Pc) (A : List Bs) (i : Nat), N.length ≤ A.length → i + N.length ≤ n → cz (zerosI n) i A N = N.map Pc.b ++ A.drop N.length
  | [], A, i, _, _ => by
    have : cz (zerosI n) i A [] = A := by cases A <;> rfl
    rw [this]; rfl
  | p :: N, [], i, h, _ => by simp at h
  | p :: N, o :: A, i, h, hn => by
    have hf : fateAt (zerosI n) i = 0 := by
      unfold fateAt zerosI
      rw [if_pos (by simp at hn ⊢; omega), List.getD_eq_getElem?_getD, List.getElem?_eq_getElem (by simp at hn ⊢; omega), List.getElem_replicate]
      decide
    rw [cz, hf, cz_zero n N A (i + 1) (by simp at h; omega) (by simp at hn; omega)]
    rw [show crash1 o p.b 0 = p.b by simp [crash1]]; rfl
theorem crash1_k {n0 : Nat} {o : Bs} {p : Pc} (h0 : 1 ≤ n0) (ho : o.length = 32) (hF : nF o < n0) (hB : nB o < n0) (hp : Pk n0 p) (hk : ∀ q, readP o = some q → q.k < q.s) (f : Int) (hf : f = 0 ∨ f = 1 ∨ f = 2 ∨ f = 3) : ∀ q, readP (crash1 o p.b f) = some q → q.k < q.s := fun q hq => by
  rcases crash1_read h0 ho hF hB hp f hf with h | h | h
  · rw [h] at hq; cases hq; exact hp.k
  · rw [h] at hq; cases hq
  · rw [h] at hq; exact hk q hq
theorem cz_k {n0 : Nat} (h0 : 1 ≤ n0) (F : List Int) : ∀ (N : List Pc) (A : List Bs) (i : Nat), (∀ s ∈ A, s.length = 32 ∧ nF s < n0 ∧ nB s < n0) → (∀ p ∈ N, Pk n0 p) → (∀ s ∈ A, ∀ q, readP s = some q → q.k < q.s) → ∀ s ∈ cz F i A N, ∀ q, readP s = some q → q.k < q.s
  | [], A, i, _, _, hk => by
    have : cz F i A [] = A := by cases A <;> rfl
    rw [this]; exact hk
  | p :: N, [], i, _, _, _ => by intro s hs; simp [cz] at hs
  | p :: N, o :: A, i, hA, hN, hk => by
    intro s hs
    rw [cz] at hs
    rcases List.mem_cons.1 hs with rfl | hs
    · obtain ⟨a1, a2, a3⟩ := hA o (by simp)
      exact crash1_k h0 a1 a2 a3 (hN p (by simp)) (hk o (by simp)) _ (fate_cases F i)
    · exact cz_k h0 F N A (i + 1) (fun s hs => hA s (by simp [hs])) (fun q hq => hN q (by simp [hq])) (fun s hs => hk s (by simp [hs])) s hs
theorem maxN_ge (S : List Bs) : ∀ m, m ≤ S.foldl mx3 m ∧ ∀ s ∈ S, nF s ≤ S.foldl mx3 m ∧ nB s ≤ S.foldl mx3 m := by
  induction S with
  | nil => intro m; exact ⟨Nat.le_refl _, fun s hs => by simp at hs⟩
  | cons a r ih =>
    intro m
    rw [List.foldl_cons]
    obtain ⟨h1, h2⟩ := ih (mx3 m a)
    have h3 : m ≤ mx3 m a ∧ nF a ≤ mx3 m a ∧ nB a ≤ mx3 m a := by unfold mx3 nF nB; omega
    refine ⟨by omega, fun s hs => ?_⟩
    rcases List.mem_cons.1 hs with rfl | hs
    · omega
    · exact h2 s hs
theorem maxN_mem {S : List Bs} {s : Bs} (h : s ∈ S) : nF s < maxN S + 1 ∧ nB s < maxN S + 1 := by
  have := (maxN_ge S 0).2 s h
  unfold maxN; omega
end Go.Proofs.Ytoafanbfminhcaa
end

section
namespace Go.Proofs.Ytoafanbfminhcaa
open Go Go.AL
set_option maxRecDepth 10000
theorem ws_run (sz half : Nat) (s : Bs) (a : Ws) : ∀ j, Ws.run sz half s a j = ⟨a.W ++ wl (half * sz + a.frm) (pcs s a.next a.link j), a.next + j, a.frm + j, if j = 0 then a.link else a.next + j - 1⟩
  | 0 => by simp [Ws.run, pcs, wl]
  | j + 1 => by
    rw [Ws.run, ws_run sz half s a j, Ws.step, pcs, wl_app, pcs_len]
    simp only [wl, List.append_assoc]
    congr 1
    congr 2
    congr 3
    omega
theorem wrote_eq (x : Jn) (half frm link : Nat) (s : Bs) : x.wrote half frm link s = { x with W := x.W ++ wl (half * (x.B.length / 2) + frm) (pcs s x.next link (nparts s)), recs := x.recs ++ [s], used := frm + nparts s, last := x.next + nparts s - 1, next := x.next + nparts s } := by
  unfold Jn.wrote
  rw [ws_run]
  have := nparts_pos s
  simp only [if_neg (show ¬ nparts s = 0 by omega)]
def Cpl (L : List Pc) : Prop := run L = ⟨L.length, [], (run L).recs, L.length, (run L).first, eS 0 L, false⟩
theorem Cpl.nil : Cpl [] := rfl
theorem run_app (L M : List Pc) : run (L ++ M) = M.foldl Sc.step (run L) := by rw [run, List.foldl_append]; rfl
theorem run_first (L : List Pc) : (run L).first = (L.head?.map (·.s)).getD 0 := (run_inv L).f
theorem Cpl.part {L : List Pc} (h : Cpl L) : (run L).part = [] := by rw [h]
theorem Cpl.used {L : List Pc} (h : Cpl L) : (run L).used = L.length := by rw [h]
theorem Cpl.last {L : List Pc} (h : Cpl L) : (run L).last = eS 0 L := by rw [h]
theorem Cpl.n {L : List Pc} (h : Cpl L) : (run L).n = L.length := by rw [h]
theorem good_w {Rs : List Bs} {N : List Pc} (h : Good Rs N) : N = [] ∨ ∃ M p, N = M ++ [p] ∧ p.last = true := by
  rcases List.eq_nil_or_concat N with h0 | ⟨M, p, rfl⟩
  · exact .inl h0
  · right
    refine ⟨M, p, by simp, ?_⟩
    cases hl : p.last with
    | true => rfl
    | false =>
      exfalso
      have hu := h.used sc0 rfl
      rw [List.concat_eq_append, List.foldl_append] at hu
      obtain ⟨a, ha⟩ : ∃ a, M.foldl Sc.step sc0 = a := ⟨_, rfl⟩
      have hn := fold_n M sc0
      have h2 := (run_inv M).u
      have h3 : run M = a := ha
      rw [h3] at h2
      rw [ha] at hu
      simp only [List.foldl_cons, List.foldl_nil, Sc.step, hl, Bool.false_eq_true, if_false] at hu
      rw [if_neg (by simp)] at hu
      simp only [List.length_append, List.length_cons, List.length_nil] at hu
      have : sc0.n = 0 := rfl
      omega
theorem cpl_good {L N : List Pc} {Rs : List Bs} (hL : Cpl L) (hN : Lkd (eS 0 L) N) (h : Good Rs N) : Cpl (L ++ N) ∧ (run (L ++ N)).recs = (run L).recs ++ Rs := by
  rcases good_w h with rfl | ⟨M, p, hM, hp⟩
  · refine ⟨by rw [List.append_nil]; exact hL, ?_⟩
    have := h.recs (run L) hL.part
    rw [run_app]; exact this
  · have e1 := h.part (run L) hL.part
    have e2 := h.recs (run L) hL.part
    have e3 := h.used (run L) hL.part
    have e4 := h.last (run L) hL.part
    have e5 := fold_n N (run L)
    have hne : N ≠ [] := by rw [hM]; simp
    rw [if_neg hne] at e3 e4
    have hw : (N.foldl Sc.step (run L)).w = false := by
      rw [hM, List.foldl_append]
      simp only [List.foldl_cons, List.foldl_nil, Sc.step, hp, if_true]
    refine ⟨?_, by rw [run_app]; exact e2⟩
    unfold Cpl
    rw [run_app]
    obtain ⟨a, ha⟩ : ∃ a, N.foldl Sc.step (run L) = a := ⟨_, rfl⟩
    rw [ha] at e1 e2 e3 e4 e5 hw ⊢
    obtain ⟨n, part, recs, used, first, last, w⟩ := a
    simp only at e1 e2 e3 e4 e5 hw
    rw [hL.n] at e3 e5
    rw [List.length_append, eS_append, eS_ne N (eS 0 L) 0 hne, ← e4, e1, e3, e5, hw]
theorem take_map_some {L : List Pc} {X : List (Option Pc)} {n : Nat} (h : n ≤ L.length) : L.map some ++ X = (L.take n).map some ++ ((L.drop n).map some ++ X) := by
  rw [← List.append_assoc, ← List.map_append, List.take_append_drop]
theorem base (A : List Bs) : ∃ L1 P0, A.map readP = L1.map some ++ P0 ∧ Lkd 0 L1 ∧ Cpl L1 ∧ L1.length = (scanS A).used ∧ (run L1).recs = (scanS A).recs ∧ (L1 ≠ [] → (run L1).first = (scanS A).first) ∧ eS 0 L1 = (scanS A).last ∧ ∀ p ∈ chP (eS 0 L1) P0, p.last = false := by
  obtain ⟨Y, hY⟩ := chP_front (A.map readP) 0
  obtain ⟨L, hL⟩ : ∃ L, chP 0 (A.map readP) = L := ⟨_, rfl⟩
  have hlk := chP_lkd (A.map readP) 0
  rw [hL] at hY hlk
  have hs : scanS A = run L := by rw [scanS_run, hL]
  have hi := run_inv L
  have hlen : (L.take (run L).used).length = (run L).used := by rw [List.length_take]; have := hi.u; omega
  have ht := hi.t
  have hsplit := List.take_append_drop (run L).used L
  have hlk' : Lkd 0 (L.take (run L).used) ∧ Lkd (eS 0 (L.take (run L).used)) (L.drop (run L).used) := by rw [← Lkd_append, hsplit]; exact hlk
  refine ⟨L.take (run L).used, (L.drop (run L).used).map some ++ Y, by rw [hY]; exact take_map_some hi.u, hlk'.1, ?_, by rw [hlen, hs], by rw [ht, hs], fun hne => ?_, by rw [hs, hi.l], ?_⟩
  · unfold Cpl
    rw [ht, hlen]
    simp only
    rw [← hi.l]
  · rw [ht, hs]
    simp only
    rw [if_neg]
    intro h0
    apply hne
    rw [h0]; rfl
  · have hch : chP 0 (A.map readP) = L.take (run L).used ++ chP (eS 0 (L.take (run L).used)) ((L.drop (run L).used).map some ++ Y) := by
      rw [hY, take_map_some (n := (run L).used) hi.u, chP_app _ _ _ hlk'.1]
    rw [hL] at hch
    have : chP (eS 0 (L.take (run L).used)) ((L.drop (run L).used).map some ++ Y) = L.drop (run L).used := by
      have h2 : L.take (run L).used ++ chP (eS 0 (L.take (run L).used)) ((L.drop (run L).used).map some ++ Y) = L.take (run L).used ++ L.drop (run L).used := by rw [← hch, hsplit]
      exact List.append_cancel_left h2
    rw [this]; exact hi.d
theorem scan_base {A : List Bs} {L : List Pc} {P : List (Option Pc)} (hA : A.map readP = L.map some ++ P) (hl : Lkd 0 L) (hc : Cpl L) (hn : ∀ p ∈ chP (eS 0 L) P, p.last = false) :
    (scanS A).recs = (run L).recs ∧ (scanS A).used = L.length ∧ (scanS A).last = eS 0 L ∧ (L ≠ [] → (scanS A).first = (run L).first) := by
  rw [scanS_run, hA, chP_app _ _ _ hl, run_app]
  obtain ⟨h1, h2, h3⟩ := fold_nl (chP (eS 0 L) P) (run L) hn
  have h4 := fold_first (chP (eS 0 L) P) (run L)
  refine ⟨h1, by rw [h2, hc.used], by rw [h3, hc.last], fun hne => ?_⟩
  rw [h4, hc.n, if_neg]
  intro h0; exact hne (List.length_eq_zero_iff.1 h0)
theorem chP_old {n0 k : Nat} {P : List (Option Pc)} (hk : n0 ≤ k) (h : ∀ p, some p ∈ P → p.k < n0) : chP k P = [] := by
  match P, h with
  | [], _ => rfl
  | none :: r, _ => rfl
  | some p :: r, h => simp only [chP]; have := h p (by simp); rw [if_neg (by omega)]
theorem mem_read {A : List Bs} {p : Pc} (h : some p ∈ A.map readP) : ∃ s ∈ A, readP s = some p := List.mem_map.1 h
end Go.Proofs.Ytoafanbfminhcaa
end

section
namespace Go.Proofs.Ytoafanbfminhcaa
open Go Go.AL
set_option maxRecDepth 10000
structure JI (cr : Prop) (x : Jn) (h : Nat) (C O : List Bs) (L : List Pc) (P : List (Option Pc)) (N : List Pc) (Rs : List Bs) (n0 : Nat) : Prop where
  hh : h = 0 ∨ h = 1
  half : x.half = (h : Int)
  B : x.B = if h = 0 then C ++ O else O ++ C
  len : C.length = O.length
  len2 : 2 ≤ C.length ∧ C.length ≤ 1000
  W : x.W = wl (h * C.length + L.length) N
  rd : C.map readP = L.map some ++ P
  lk : Lkd 0 L
  cp : Cpl L
  lN : Lkd (eS 0 L) N
  g : Good Rs N
  ps : ∀ i q, N[i]? = some q → q.s = n0 + i ∧ Pk n0 q
  n1 : 1 ≤ n0
  bd : ∀ s ∈ x.B, s.length = 32 ∧ nF s < n0 ∧ nB s < n0
  ks : ∀ s ∈ x.B, ∀ q, readP s = some q → q.k < q.s
  recs : x.recs = (run L).recs ++ Rs
  used : x.used = L.length + N.length
  usedle : x.used ≤ C.length
  first : x.first = (((L ++ N).head?).map (·.s)).getD 0
  last : x.last = eS (eS 0 L) N
  next : x.next = n0 + N.length
  nextle : x.next ≤ 4294967296
  wlen : N.length ≤ 10000
  oth : (scanS O).recs = [] ∨ ((scanS O).first < n0 ∧ (L ≠ [] → (scanS O).first < (run L).first))
  nl : (cr ∨ N = []) → ∀ p ∈ chP (eS 0 L) P, p.last = false
  mx : N = [] → maxN x.B + 1 = n0
  ne : x.recs ≠ []
  rl : x.recs.length ≤ x.used
section
variable {cr : Prop} {x : Jn} {h : Nat} {C O : List Bs} {L : List Pc} {P : List (Option Pc)} {N : List Pc} {Rs : List Bs} {n0 : Nat}
theorem JI.blen (j : JI cr x h C O L P N Rs n0) : x.B.length = 2 * C.length := by
  rw [j.B]
  have := j.len
  split <;> rw [List.length_append] <;> omega
theorem JI.half2 (j : JI cr x h C O L P N Rs n0) : x.B.length / 2 = C.length := by rw [j.blen]; omega
theorem JI.pk (j : JI cr x h C O L P N Rs n0) : ∀ q ∈ N, Pk n0 q := fun q hq => by
  obtain ⟨i, hi⟩ := List.mem_iff_getElem?.1 hq
  exact (j.ps i q hi).2
theorem JI.memC (j : JI cr x h C O L P N Rs n0) : ∀ s ∈ C, s ∈ x.B := fun s hs => by
  rw [j.B]; split <;> simp [hs]
theorem JI.memO (j : JI cr x h C O L P N Rs n0) : ∀ s ∈ O, s ∈ x.B := fun s hs => by
  rw [j.B]; split <;> simp [hs]
theorem JI.Lmem (j : JI cr x h C O L P N Rs n0) : ∀ p ∈ L, p.s < n0 ∧ p.k < p.s := fun p hp => by
  have : some p ∈ C.map readP := by rw [j.rd]; exact List.mem_append_left _ (List.mem_map.2 ⟨p, hp, rfl⟩)
  obtain ⟨s, hs, hr⟩ := mem_read this
  obtain ⟨_, h2, _⟩ := readP_some hr
  have := (j.bd s (j.memC s hs)).2.1
  exact ⟨by omega, j.ks s (j.memC s hs) p hr⟩
theorem JI.Pmem (j : JI cr x h C O L P N Rs n0) : ∀ p, some p ∈ P → p.s < n0 ∧ p.k < n0 := fun p hp => by
  have : some p ∈ C.map readP := by rw [j.rd]; exact List.mem_append_right _ hp
  obtain ⟨s, hs, hr⟩ := mem_read this
  obtain ⟨_, h2, _⟩ := readP_some hr
  have h3 := (j.bd s (j.memC s hs)).2.1
  have h4 := j.ks s (j.memC s hs) p hr
  exact ⟨by omega, by omega⟩
theorem eS_lt {n0 : Nat} : ∀ (L : List Pc) (k : Nat), k < n0 → (∀ p ∈ L, p.s < n0) → eS k L < n0
  | [], _, h, _ => h
  | p :: r, _, _, h => eS_lt r p.s (h p (by simp)) (fun q hq => h q (by simp [hq]))
theorem JI.eSL (j : JI cr x h C O L P N Rs n0) : eS 0 L < n0 := eS_lt L 0 (by have := j.n1; omega) (fun p hp => (j.Lmem p hp).1)
theorem JI.lastlt (j : JI cr x h C O L P N Rs n0) : x.last < x.next := by
  rw [j.last, j.next]
  refine eS_lt N _ (by have := j.eSL; omega) fun p hp => ?_
  obtain ⟨i, hi⟩ := List.mem_iff_getElem?.1 hp
  have := (j.ps i p hi).1
  have hl : i < N.length := by
    rcases Nat.lt_or_ge i N.length with h | h
    · exact h
    · rw [List.getElem?_eq_none h] at hi; cases hi
  omega
theorem JI.sz (j : JI cr x h C O L P N Rs n0) : x.Sz := by
  have h1 := j.blen
  have h2 := j.len2
  have h3 := j.usedle
  have h4 := j.nextle
  have h5 := j.lastlt
  have h6 := j.n1
  have h7 := j.next
  have h8 := j.rl
  refine ⟨by omega, ?_, by rw [j.half2]; exact h3, ?_, by omega, h4, by omega, by rw [j.W, wl_len]; exact j.wlen, by omega⟩
  · rw [j.half]; rcases j.hh with h | h <;> subst h <;> simp
  · rw [j.first]
    cases hd : (L ++ N).head? with
    | none => simp
    | some p =>
      simp only [Option.map_some, Option.getD_some]
      have hm : p ∈ L ++ N := List.mem_of_mem_head? (by rw [hd]; rfl)
      rcases List.mem_append.1 hm with hm | hm
      · have := (j.Lmem p hm).1; omega
      · have := (j.pk p hm).hi; omega
theorem JI.wmem (j : JI cr x h C O L P N Rs n0) : ∀ w ∈ x.W, (0 ≤ w.1 ∧ w.1 < x.B.length) ∧ w.2.length = 32 := fun w hw => by
  rw [j.W] at hw
  obtain ⟨p, hp, i, rfl, hi⟩ := wl_mem N _ w hw
  have h1 := j.blen
  have h2 := j.used
  have h3 := j.usedle
  refine ⟨⟨by simp only; omega, ?_⟩, blockP_len p.s p.k p.last p.t (j.pk p hp).t⟩
  simp only
  rcases j.hh with h | h <;> subst h
  · simp only [Nat.zero_mul]; omega
  · simp only [Nat.one_mul]; omega
theorem JI.ok (j : JI cr x h C O L P N Rs n0) : x.D.Ok := by
  have h1 := j.blen
  have h2 := j.len2
  refine ⟨?_, fun s hs => (j.bd s hs).1, by show x.W.length ≤ 10000; rw [j.W, wl_len]; exact j.wlen, j.wmem⟩
  show okN x.B.length = true
  unfold okN
  rw [h1]
  simp; omega
theorem pcs_good (R : Bs) (n l : Nat) (hl : l < n) (n0 : Nat) (h0 : n0 ≤ n) (hm : n + nparts R ≤ 4294967296) : ∀ i q, (pcs R n l (nparts R))[i]? = some q → q.s = n + i ∧ Pk n0 q := fun i q hq => by
  have hi : i < nparts R := by
    rcases Nat.lt_or_ge i (nparts R) with h | h
    · exact h
    · rw [List.getElem?_eq_none (by rw [pcs_len]; exact h)] at hq; cases hq
  have := pcs_get R n l _ i q hq
  subst this
  refine ⟨rfl, ⟨by simp only; omega, by simp only; omega, ?_, partAt_len R i⟩⟩
  simp only
  split <;> omega
theorem JI.append (j : JI cr x h C O L P N Rs n0) (R : Bs) (he : x.appE R = 0) : JI cr (x.wrote h x.used x.last R) h C O L P (N ++ pcs R x.next x.last (nparts R)) (Rs ++ [R]) n0 := by
  unfold Jn.appE at he
  split at he
  · cases he
  split at he
  · cases he
  rename_i hlong hfull
  rw [j.half2] at hfull
  have hpos := nparts_pos R
  have hwl : x.W.length = N.length := by rw [j.W, wl_len]
  have hlt := j.lastlt
  have hne : pcs R x.next x.last (nparts R) ≠ [] := fun e => by
    have := congrArg List.length e
    rw [pcs_len] at this; simp at this; omega
  rw [wrote_eq]
  refine ⟨j.hh, j.half, j.B, j.len, j.len2, ?_, j.rd, j.lk, j.cp, ?_, j.g.snoc R _ _, ?_, j.n1, j.bd, j.ks, ?_, ?_, ?_, ?_, ?_, ?_, ?_, ?_, j.oth, ?_, ?_, ?_, ?_⟩
  · simp only
    rw [j.W, wl_app, j.half2, j.used]
    congr 2; omega
  · rw [Lkd_append]
    refine ⟨j.lN, ?_⟩
    rw [← j.last]; exact pcs_lkd R _ _ _
  · intro i q hq
    rcases Nat.lt_or_ge i N.length with hi | hi
    · rw [List.getElem?_append_left hi] at hq; exact j.ps i q hq
    · rw [List.getElem?_append_right hi] at hq
      obtain ⟨h1, h2⟩ := pcs_good R x.next x.last hlt n0 (by rw [j.next]; omega) (by omega) _ q hq
      refine ⟨?_, h2⟩
      rw [h1, j.next]; omega
  · simp only; rw [j.recs, List.append_assoc]
  · simp only; rw [List.length_append, pcs_len, j.used]; omega
  · simp only; omega
  · simp only
    rw [j.first, ← List.append_assoc]
    cases hd : L ++ N with
    | nil =>
      exfalso
      have hr := j.ne
      have : L = [] ∧ N = [] := List.append_eq_nil_iff.1 hd
      have hg := j.g.recs sc0 rfl
      rw [this.2] at hg
      have hrs : Rs = [] := by
        have : ([] : List Bs) = [] ++ Rs := hg
        rw [List.nil_append] at this; exact this.symm
      apply hr
      rw [j.recs, this.1, hrs]; rfl
    | cons a r => rfl
  · simp only
    rw [eS_append, ← j.last]
    obtain ⟨i, hi⟩ : ∃ i, nparts R = i + 1 := ⟨nparts R - 1, by omega⟩
    rw [hi, pcs_eS]; omega
  · simp only; rw [List.length_append, pcs_len, j.next]; omega
  · simp only; omega
  · rw [List.length_append, pcs_len]; omega
  · intro hc
    refine j.nl (hc.elim .inl fun e => ?_)
    exact absurd (List.append_eq_nil_iff.1 e).2 hne
  · intro e; exact absurd (List.append_eq_nil_iff.1 e).2 hne
  · simp
  · simp only [List.length_append, List.length_cons, List.length_nil]
    have := j.rl; omega
end
end Go.Proofs.Ytoafanbfminhcaa
end

section
namespace Go.Proofs.Ytoafanbfminhcaa
open Go Go.AL
set_option maxRecDepth 10000
theorem cz_app (F : List Int) (O : List Bs) : ∀ (N : List Pc) (A : List Bs) (i : Nat), N.length ≤ A.length → cz F i (A ++ O) N = cz F i A N ++ O
  | [], A, i, _ => by
    have h : ∀ A : List Bs, cz F i A [] = A := fun A => by cases A <;> rfl
    rw [h, h]
  | p :: N, [], i, h => by simp at h
  | p :: N, o :: A, i, h => by
    rw [List.cons_append, cz, cz, cz_app F O N A (i + 1) (by simp at h; omega), List.cons_append]
theorem maxN_le {S : List Bs} {m : Nat} (h : ∀ s ∈ S, nF s ≤ m ∧ nB s ≤ m) : maxN S ≤ m := by
  have : ∀ (S : List Bs) (k : Nat), k ≤ m → (∀ s ∈ S, nF s ≤ m ∧ nB s ≤ m) → S.foldl mx3 k ≤ m := fun S => by
    induction S with
    | nil => exact fun k hk _ => hk
    | cons a r ih =>
      intro k hk hS
      refine ih _ ?_ fun s hs => hS s (by simp [hs])
      have := hS a (by simp)
      unfold nF nB at this
      unfold mx3; omega
  exact this S 0 (by omega) h
theorem scan_first_lt {A : List Bs} {m : Nat} (hm : 0 < m) (h : ∀ s ∈ A, nF s < m) : (scanS A).first < m := by
  rw [scanS_run, run_first]
  cases hd : (chP 0 (A.map readP)).head? with
  | none => simpa using hm
  | some p =>
    simp only [Option.map_some, Option.getD_some]
    have h1 := chP_mem _ _ _ (List.mem_of_mem_head? (by rw [hd]; rfl) : p ∈ chP 0 (A.map readP))
    obtain ⟨s, hs, hr⟩ := mem_read h1
    obtain ⟨_, h2, _⟩ := readP_some hr
    rw [h2]; exact h s hs
section
variable {cr : Prop} {x : Jn} {h : Nat} {C O : List Bs} {L : List Pc} {P : List (Option Pc)} {N : List Pc} {Rs : List Bs} {n0 : Nat}
def crC (F : List Int) (C : List Bs) (L N : List Pc) : List Bs := C.take L.length ++ cz F 0 (C.drop L.length) N
theorem JI.Llen (j : JI cr x h C O L P N Rs n0) : L.length + N.length ≤ C.length := by have := j.used; have := j.usedle; omega
theorem JI.crC_len (j : JI cr x h C O L P N Rs n0) (F : List Int) : (crC F C L N).length = C.length := by
  have := j.Llen
  rw [crC, List.length_append, cz_len, List.length_take, List.length_drop]; omega
theorem JI.crash (j : JI cr x h C O L P N Rs n0) (F : List Int) : crashB F x.W 0 x.B = if h = 0 then crC F C L N ++ O else O ++ crC F C L N := by
  have hl := j.Llen
  have ht : (C.take L.length).length = L.length := by rw [List.length_take]; omega
  have hsp := List.take_append_drop L.length C
  rw [j.W, j.B]
  rcases j.hh with h0 | h0 <;> subst h0
  · rw [if_pos rfl, if_pos rfl]
    have := crash_wl F N (C.take L.length) (C.drop L.length ++ O) 0 (by rw [List.length_append, List.length_drop]; omega)
    rw [ht, ← List.append_assoc, hsp, cz_app F O N _ 0 (by rw [List.length_drop]; omega), ← List.append_assoc] at this
    simp only [Nat.zero_mul, Nat.zero_add]
    exact this
  · rw [if_neg (by decide), if_neg (by decide)]
    have := crash_wl F N (O ++ C.take L.length) (C.drop L.length) 0 (by rw [List.length_drop]; omega)
    rw [List.length_append, ht, List.append_assoc, hsp, List.append_assoc] at this
    simp only [Nat.one_mul]
    rw [j.len]
    exact this
theorem JI.rdL (j : JI cr x h C O L P N Rs n0) : (C.take L.length).map readP = L.map some := by
  rw [List.map_take, j.rd, List.take_append_of_le_length (by rw [List.length_map]; exact Nat.le_refl _), List.take_of_length_le (by rw [List.length_map]; exact Nat.le_refl _)]
theorem JI.rdP (j : JI cr x h C O L P N Rs n0) : (C.drop L.length).map readP = P := by
  rw [List.map_drop, j.rd, List.drop_append_of_le_length (by rw [List.length_map]; exact Nat.le_refl _), List.drop_of_length_le (by rw [List.length_map]; exact Nat.le_refl _), List.nil_append]
theorem JI.mixed (j : JI cr x h C O L P N Rs n0) (F : List Int) : ∃ Q, (crC F C L N).map readP = L.map some ++ Q ∧ Mix N P Q := by
  have hl := j.Llen
  refine ⟨(cz F 0 (C.drop L.length) N).map readP, by rw [crC, List.map_append, j.rdL], ?_⟩
  have := cz_mix j.n1 F N (C.drop L.length) 0 (by rw [List.length_drop]; omega) (fun s hs => j.bd s (j.memC s (List.mem_of_mem_drop hs))) j.pk
  rw [j.rdP] at this
  exact this
theorem JI.crC_ks (j : JI cr x h C O L P N Rs n0) (F : List Int) : ∀ s ∈ crC F C L N, ∀ q, readP s = some q → q.k < q.s := fun s hs => by
  rw [crC] at hs
  rcases List.mem_append.1 hs with hs | hs
  · exact j.ks s (j.memC s (List.mem_of_mem_take hs))
  · exact cz_k j.n1 F N (C.drop L.length) 0 (fun s hs => j.bd s (j.memC s (List.mem_of_mem_drop hs))) j.pk (fun s hs => j.ks s (j.memC s (List.mem_of_mem_drop hs))) s hs
def syC (C : List Bs) (L N : List Pc) : List Bs := C.take L.length ++ (N.map Pc.b ++ C.drop (L.length + N.length))
theorem JI.syncC (j : JI cr x h C O L P N Rs n0) : crC (zerosI x.W.length) C L N = syC C L N := by
  have hl := j.Llen
  rw [crC, syC, cz_zero x.W.length N _ 0 (by rw [List.length_drop]; omega) (by rw [j.W, wl_len]; omega), List.drop_drop]
theorem JI.syncB (j : JI cr x h C O L P N Rs n0) : x.D.syncD.B = if h = 0 then syC C L N ++ O else O ++ syC C L N := by
  have hok : x.D.chk = 0 := (x.D.chk_ok).2 j.ok
  rw [Dk.syncD, Dk.crashD, if_pos hok]
  show crashB (zerosI x.W.length) x.W 0 x.B = _
  rw [j.crash, j.syncC]
theorem JI.rdS (j : JI cr x h C O L P N Rs n0) : (syC C L N).map readP = (L ++ N).map some ++ P.drop N.length := by
  have hb : (N.map Pc.b).map readP = N.map some := by
    rw [List.map_map]
    exact List.map_congr_left fun p hp => (j.pk p hp).read j.n1
  have hd : (C.drop (L.length + N.length)).map readP = P.drop N.length := by
    rw [← List.drop_drop, List.map_drop, j.rdP]
  rw [syC, List.map_append, List.map_append, j.rdL, hb, hd, List.map_append, List.append_assoc]
theorem JI.Nlast (j : JI cr x h C O L P N Rs n0) (hne : N ≠ []) : ∃ p ∈ N, p.s = n0 + N.length - 1 ∧ eS (eS 0 L) N = p.s := by
  rcases List.eq_nil_or_concat N with h0 | ⟨M, p, hM⟩
  · exact absurd h0 hne
  · rw [List.concat_eq_append] at hM
    refine ⟨p, by rw [hM]; simp, ?_, by rw [hM, eS_app]⟩
    have := (j.ps M.length p (by rw [hM]; simp)).1
    rw [this, hM, List.length_append, List.length_cons, List.length_nil]; omega
theorem JI.bdS (j : JI cr x h C O L P N Rs n0) : ∀ s ∈ (if h = 0 then syC C L N ++ O else O ++ syC C L N), s.length = 32 ∧ nF s < n0 + N.length ∧ nB s < n0 + N.length := fun s hs => by
  have hs : s ∈ syC C L N ∨ s ∈ O := by
    split at hs <;> rcases List.mem_append.1 hs with h | h <;> simp [h]
  have old : ∀ s, s ∈ x.B → s.length = 32 ∧ nF s < n0 + N.length ∧ nB s < n0 + N.length := fun s hs => by
    obtain ⟨a, b, c⟩ := j.bd s hs
    exact ⟨a, by omega, by omega⟩
  rcases hs with hs | hs
  · rw [syC] at hs
    rcases List.mem_append.1 hs with hs | hs
    · exact old s (j.memC s (List.mem_of_mem_take hs))
    · rcases List.mem_append.1 hs with hs | hs
      · obtain ⟨p, hp, rfl⟩ := List.mem_map.1 hs
        obtain ⟨i, hi⟩ := List.mem_iff_getElem?.1 hp
        obtain ⟨h1, h2⟩ := j.ps i p hi
        have hl : i < N.length := by
          rcases Nat.lt_or_ge i N.length with h | h
          · exact h
          · rw [List.getElem?_eq_none h] at hi; cases hi
        refine ⟨blockP_len _ _ _ _ h2.t, ?_, ?_⟩
        · rw [blockP_F _ _ _ _ h2.hi h2.t]; omega
        · rw [blockP_B _ _ _ _ h2.hi h2.t]; omega
      · exact old s (j.memC s (List.mem_of_mem_drop hs))
  · exact old s (j.memO s hs)
theorem JI.ksS (j : JI cr x h C O L P N Rs n0) : ∀ s ∈ (if h = 0 then syC C L N ++ O else O ++ syC C L N), ∀ q, readP s = some q → q.k < q.s := fun s hs => by
  have hs : s ∈ syC C L N ∨ s ∈ O := by
    split at hs <;> rcases List.mem_append.1 hs with h | h <;> simp [h]
  rcases hs with hs | hs
  · rw [← j.syncC] at hs; exact j.crC_ks _ s hs
  · exact j.ks s (j.memO s hs)
theorem JI.syC_len (j : JI cr x h C O L P N Rs n0) : (syC C L N).length = C.length := by rw [← j.syncC]; exact j.crC_len _
theorem head_app {α : Type} (l m : List α) : (l ++ m).head? = if l = [] then m.head? else l.head? := by
  cases l <;> simp
theorem JI.commit (j : JI cr x h C O L P N Rs n0) : JI cr x.synced h (syC C L N) O (L ++ N) (P.drop N.length) [] [] (n0 + N.length) := by
  obtain ⟨hcp, hrec⟩ := cpl_good j.cp j.lN j.g
  have hN1 := j.n1
  have hBS : x.synced.B = if h = 0 then syC C L N ++ O else O ++ syC C L N := j.syncB
  have e0 : ∀ k, eS k ([] : List Pc) = k := fun _ => rfl
  refine ⟨j.hh, j.half, hBS, by rw [j.syC_len]; exact j.len, by rw [j.syC_len]; exact j.len2, rfl, j.rdS, ?_, hcp, trivial, Good.nil, fun i q hq => (by simp at hq), by omega, ?_, ?_, ?_, ?_, ?_, ?_, ?_, ?_, j.nextle, by simp, ?_, ?_, ?_, j.ne, j.rl⟩
  · rw [Lkd_append]; exact ⟨j.lk, j.lN⟩
  · rw [hBS]; exact j.bdS
  · rw [hBS]; exact j.ksS
  · rw [hrec, List.append_nil]; exact j.recs
  · show x.used = _; rw [List.length_append, j.used]; rfl
  · rw [j.syC_len]; exact j.usedle
  · rw [List.append_nil]; exact j.first
  · show x.last = _; rw [e0, eS_append]; exact j.last
  · show x.next = _; rw [j.next]; rfl
  · rcases j.oth with ho | ⟨ho1, ho2⟩
    · exact .inl ho
    · refine .inr ⟨by omega, fun hne => ?_⟩
      rw [run_first, head_app]
      by_cases hL : L = []
      · rw [if_pos hL]
        cases hd : N.head? with
        | none =>
          have : N = [] := List.head?_eq_none_iff.1 hd
          exact absurd (by rw [hL, this]; rfl) hne
        | some p =>
          have := (j.pk p (List.mem_of_mem_head? (by rw [hd]; rfl))).lo
          simp only [Option.map_some, Option.getD_some]; omega
      · rw [if_neg hL, ← run_first]; exact ho2 hL
  · intro _
    by_cases hne : N = []
    · subst hne
      rw [List.append_nil]
      exact j.nl (.inr rfl)
    · obtain ⟨p, hp, hps, hes⟩ := j.Nlast hne
      have hpos : 1 ≤ N.length := List.length_pos_iff.2 hne
      rw [eS_append, hes, chP_old (n0 := n0) (k := p.s) (by omega) fun q hq => (j.Pmem q (List.mem_of_mem_drop hq)).2]
      simp
  · intro _
    by_cases hne : N = []
    · have hm := j.mx hne
      subst hne
      have : syC C L [] = C := by rw [syC]; exact List.take_append_drop _ _
      rw [hBS, this, ← j.B]; exact hm
    · obtain ⟨p, hp, hps, hes⟩ := j.Nlast hne
      have hpos : 1 ≤ N.length := List.length_pos_iff.2 hne
      have h1 : maxN x.synced.B ≤ n0 + N.length - 1 := by
        rw [hBS]
        refine maxN_le fun s hs => ?_
        obtain ⟨_, a, b⟩ := j.bdS s hs
        omega
      have hm : p.b ∈ x.synced.B := by
        rw [hBS]
        have : p.b ∈ syC C L N := by
          rw [syC]; exact List.mem_append_right _ (List.mem_append_left _ (List.mem_map.2 ⟨p, hp, rfl⟩))
        split <;> simp [this]
      have h2 := (maxN_mem hm).1
      rw [blockP_F _ _ _ _ (j.pk p hp).hi (j.pk p hp).t] at h2
      omega
end
end Go.Proofs.Ytoafanbfminhcaa
end

section
namespace Go.Proofs.Ytoafanbfminhcaa
open Go Go.AL
set_option maxRecDepth 10000
section
variable {cr : Prop} {x : Jn} {h : Nat} {C O : List Bs} {L : List Pc} {P : List (Option Pc)} {N : List Pc} {Rs : List Bs} {n0 : Nat}
theorem JI.compact (j : JI cr x h C O L P N Rs n0) (cr' : Prop) (R : Bs) (he : x.compE R = 0) (hO : cr' → ∀ p ∈ chP 0 (O.map readP), p.last = false) :
    JI cr' (x.comp0.wrote (1 - h) 0 0 R) (1 - h) O (syC C L N) [] (O.map readP) (pcs R x.next 0 (nparts R)) [R] x.next := by
  unfold Jn.compE at he
  split at he
  · cases he
  split at he
  · cases he
  rename_i hlong hfull
  rw [j.half2] at hfull
  have hpos := nparts_pos R
  have hnp := nparts_le R (by omega)
  have hn1 := j.n1
  have hnx := j.next
  have hlen : (syC C L N).length = C.length := j.syC_len
  have hne : pcs R x.next 0 (nparts R) ≠ [] := fun e => by
    have := congrArg List.length e
    rw [pcs_len] at this; simp at this; omega
  have hB : x.D.syncD.B = if 1 - h = 0 then O ++ syC C L N else syC C L N ++ O := by
    rw [j.syncB]
    rcases j.hh with h | h <;> subst h
    · rw [if_pos rfl, if_neg (by decide)]
    · rw [if_neg (by decide), if_pos rfl]
  have hBl : x.D.syncD.B.length / 2 = O.length := by
    rw [hB]
    have := j.len
    split <;> rw [List.length_append, hlen] <;> omega
  have hg := Good.nil.snoc R x.next 0
  rw [List.nil_append, List.nil_append] at hg
  have hbd : ∀ s ∈ x.D.syncD.B, s.length = 32 ∧ nF s < x.next ∧ nB s < x.next := by
    rw [j.syncB, hnx]; exact j.bdS
  rw [wrote_eq]
  refine ⟨?_, ?_, hB, ?_, ?_, ?_, rfl, trivial, Cpl.nil, ?_, hg, pcs_good R x.next 0 (by omega) x.next (Nat.le_refl _) (by omega), by omega, hbd, ?_, ?_, ?_, ?_, ?_, ?_, ?_, ?_, ?_, ?_, ?_, ?_, ?_, ?_⟩
  · rcases j.hh with h | h <;> subst h <;> simp
  · show 1 - x.half = _
    rw [j.half]
    rcases j.hh with h | h <;> subst h <;> rfl
  · rw [hlen]; exact j.len.symm
  · have := j.len2; have := j.len; omega
  · show [] ++ wl ((1 - h) * (x.D.syncD.B.length / 2) + 0) _ = _
    rw [List.nil_append, hBl]; rfl
  · exact pcs_lkd R _ _ _
  · show ∀ s ∈ x.D.syncD.B, _
    rw [j.syncB]; exact j.ksS
  · rfl
  · show 0 + nparts R = _; rw [pcs_len]; rfl
  · show 0 + nparts R ≤ _; have := j.len; omega
  · show x.next = _
    rw [List.nil_append]
    obtain ⟨i, hi⟩ : ∃ i, nparts R = i + 1 := ⟨nparts R - 1, by omega⟩
    cases hq : (pcs R x.next 0 (nparts R)).head? with
    | none => exact absurd (List.head?_eq_none_iff.1 hq) hne
    | some p =>
      rw [List.head?_eq_getElem?] at hq
      have := pcs_get R x.next 0 _ 0 p hq
      rw [this]; rfl
  · show x.next + nparts R - 1 = _
    obtain ⟨i, hi⟩ : ∃ i, nparts R = i + 1 := ⟨nparts R - 1, by omega⟩
    rw [hi, pcs_eS]; omega
  · show x.next + nparts R = _; rw [pcs_len]
  · show x.next + nparts R ≤ _; omega
  · rw [pcs_len]; omega
  · right
    refine ⟨scan_first_lt (by omega) fun s hs => ?_, fun h => absurd rfl h⟩
    refine (hbd s ?_).2.1
    rw [hB]; split <;> simp [hs]
  · intro hc
    rcases hc with hc | hc
    · exact hO hc
    · exact absurd hc hne
  · intro hc; exact absurd hc hne
  · simp [Jn.comp0]
  · show ([] ++ [R]).length ≤ 0 + nparts R
    simp; omega
theorem half_split {A B : List Bs} (h : A.length = B.length) : (A ++ B).take ((A ++ B).length / 2) = A ∧ (A ++ B).drop ((A ++ B).length / 2) = B := by
  have : (A ++ B).length / 2 = A.length := by rw [List.length_append]; omega
  rw [this]
  exact ⟨List.take_left, List.drop_left⟩
theorem ar_h {S C O : List Bs} {h : Nat} (hh : h = 0 ∨ h = 1) (hl : C.length = O.length) (hS : S = if h = 0 then C ++ O else O ++ C) : (h = 0 → arA S = scanS C ∧ arB S = scanS O) ∧ (h = 1 → arA S = scanS O ∧ arB S = scanS C) := by
  unfold arA arB
  rcases hh with h | h <;> subst h
  · rw [if_pos rfl] at hS
    subst hS
    obtain ⟨h1, h2⟩ := half_split hl
    rw [h1, h2]
    exact ⟨fun _ => ⟨rfl, rfl⟩, fun h => absurd h (by decide)⟩
  · rw [if_neg (by decide)] at hS
    subst hS
    obtain ⟨h1, h2⟩ := half_split hl.symm
    rw [h1, h2]
    exact ⟨fun h => absurd h (by decide), fun _ => ⟨rfl, rfl⟩⟩
theorem sel_cur {S C O : List Bs} {h : Nat} (hh : h = 0 ∨ h = 1) (hl : C.length = O.length) (hS : S = if h = 0 then C ++ O else O ++ C) (hne : (scanS C).recs ≠ []) (ho : (scanS O).recs = [] ∨ (scanS O).first < (scanS C).first) : Sel (arA S) (arB S) (scanS C) h := by
  obtain ⟨h0, h1⟩ := ar_h hh hl hS
  rcases hh with h | h
  · obtain ⟨e1, e2⟩ := h0 h
    rw [e1, e2]
    refine .inl ⟨h, rfl, hne, fun hc => ?_⟩
    rcases ho with ho | ho
    · exact hc.1 ho
    · omega
  · obtain ⟨e1, e2⟩ := h1 h
    rw [e1, e2]
    exact .inr ⟨h, rfl, hne, ho⟩
theorem sel_oth {S C O : List Bs} {h : Nat} (hh : h = 0 ∨ h = 1) (hl : C.length = O.length) (hS : S = if h = 0 then C ++ O else O ++ C) (hd : (scanS C).recs = []) (ho : (scanS O).recs ≠ []) : Sel (arA S) (arB S) (scanS O) (1 - h) := by
  obtain ⟨h0, h1⟩ := ar_h hh hl hS
  rcases hh with h | h
  · obtain ⟨e1, e2⟩ := h0 h
    rw [e1, e2]
    exact .inr ⟨by omega, rfl, ho, .inl hd⟩
  · obtain ⟨e1, e2⟩ := h1 h
    rw [e1, e2]
    exact .inl ⟨by omega, rfl, ho, fun hc => hc.1 hd⟩
theorem JI.Rs_nil (j : JI cr x h C O L P [] Rs n0) : Rs = [] := by
  have := j.g.recs sc0 rfl
  have h2 : ([] : List Bs) = [] ++ Rs := this
  rw [List.nil_append] at h2; exact h2.symm
theorem JI.again (j : JI cr x h C O L P [] Rs n0) : x.W = [] ∧ x.D.syncD.B = x.B ∧ Sel (arA x.B) (arB x.B) (scanS C) h ∧ openJ x.D (scanS C) h = x := by
  have hRs := j.Rs_nil
  subst hRs
  have hn := j.nl (.inr rfl)
  obtain ⟨s1, s2, s3, s4⟩ := scan_base j.rd j.lk j.cp hn
  have hr := j.recs
  rw [List.append_nil] at hr
  have hne : (scanS C).recs ≠ [] := by rw [s1, ← hr]; exact j.ne
  have hL : L ≠ [] := fun e => by
    apply j.ne
    rw [hr, e]; rfl
  have hW : x.W = [] := j.W
  have hsy : x.D.syncD.B = x.B := by
    rw [j.syncB, j.B, syC]
    have : C.take L.length ++ (([] : List Pc).map Pc.b ++ C.drop (L.length + ([] : List Pc).length)) = C := List.take_append_drop _ _
    rw [this]
  have ho : (scanS O).recs = [] ∨ (scanS O).first < (scanS C).first := by
    rcases j.oth with ho | ⟨_, ho⟩
    · exact .inl ho
    · rw [s4 hL]; exact .inr (ho hL)
  refine ⟨hW, hsy, sel_cur j.hh j.len j.B hne ho, ?_⟩
  have hm := j.mx rfl
  have hf := j.first
  rw [List.append_nil] at hf
  have hu := j.used
  have hl := j.last
  have hx := j.next
  have hhf := j.half
  unfold openJ
  rw [hsy]
  obtain ⟨B, W, half, recs, used, first, last, next⟩ := x
  simp only at hr hW hf hu hl hx hhf hm ⊢
  rw [s1, s2, s3, s4 hL, run_first, hm, hr, hf, hu, hl, hx, hhf]
  rfl
theorem JI.cut (j : JI True x h C O L P N Rs n0) (F : List Int) : ∃ r, r ≤ Rs.length ∧ (scanS (crC F C L N)).recs = (run L).recs ++ Rs.take r ∧ ((scanS (crC F C L N)).recs ≠ [] → (scanS O).recs = [] ∨ (scanS O).first < (scanS (crC F C L N)).first) := by
  obtain ⟨Q, hQ, hm⟩ := j.mixed F
  have hch : scanS (crC F C L N) = (chP (eS 0 L) Q).foldl Sc.step (run L) := by
    rw [scanS_run, hQ, chP_app _ _ _ j.lk, run_app]
  have hfst := fold_first (chP (eS 0 L) Q) (run L)
  rw [hch]
  rcases mix_all hm j.eSL j.lN (fun p hp => (j.pk p hp).lo) j.Pmem with ⟨i, hi⟩ | ⟨i, hi⟩
  · obtain ⟨r, hr, hh⟩ := j.g.pre i
    rw [hi] at hfst ⊢
    refine ⟨r, hr, hh (run L) j.cp.part, fun hne => ?_⟩
    rcases j.oth with ho | ⟨ho1, ho2⟩
    · exact .inl ho
    · right
      rw [hfst]
      by_cases hL : L = []
      · subst hL
        rw [if_pos (show (run []).n = 0 from rfl)]
        cases hd : (N.take i).head? with
        | none =>
          exfalso; apply hne
          have : N.take i = [] := List.head?_eq_none_iff.1 hd
          rw [this]; rfl
        | some p =>
          have := (j.pk p (List.mem_of_mem_take (List.mem_of_mem_head? (by rw [hd]; rfl)))).lo
          simp only [Option.map_some, Option.getD_some]; omega
      · rw [j.cp.n, if_neg (fun h0 => hL (List.length_eq_zero_iff.1 h0))]
        exact ho2 hL
  · have hnl : ∀ p ∈ chP (eS 0 L) Q, p.last = false := fun p hp => by
      rw [hi] at hp
      exact j.nl (.inl trivial) p (List.mem_of_mem_take hp)
    obtain ⟨h1, h2, h3⟩ := fold_nl _ (run L) hnl
    refine ⟨0, by omega, by rw [h1]; simp, fun hne => ?_⟩
    rcases j.oth with ho | ⟨ho1, ho2⟩
    · exact .inl ho
    · right
      have hL : L ≠ [] := fun e => by
        apply hne
        rw [h1, e]; rfl
      rw [hfst, j.cp.n, if_neg (fun h0 => hL (List.length_eq_zero_iff.1 h0))]
      exact ho2 hL
theorem cz_32 (F : List Int) : ∀ (N : List Pc) (A : List Bs) (i : Nat), (∀ s ∈ A, s.length = 32) → (∀ p ∈ N, p.t.length ≤ 19) → ∀ s ∈ cz F i A N, s.length = 32
  | [], A, i, h, _ => by
    have : cz F i A [] = A := by cases A <;> rfl
    rw [this]; exact h
  | p :: N, [], i, _, _ => by intro s hs; simp [cz] at hs
  | p :: N, o :: A, i, h, hp => by
    intro s hs
    rw [cz] at hs
    rcases List.mem_cons.1 hs with rfl | hs
    · exact crash1_32 _ (h o (by simp)) (blockP_len _ _ _ _ (hp p (by simp)))
    · exact cz_32 F N A (i + 1) (fun s hs => h s (by simp [hs])) (fun q hq => hp q (by simp [hq])) s hs
theorem JI.opened (j : JI True x h C O L P N Rs n0) (F : List Int) (hne : (scanS (crC F C L N)).recs ≠ []) :
    ∃ L' P' n', JI True (openJ (x.D.crashD F) (scanS (crC F C L N)) h) h (crC F C L N) O L' P' [] [] n' := by
  have hok : x.D.chk = 0 := (x.D.chk_ok).2 j.ok
  have hd : x.D.crashD F = ⟨if h = 0 then crC F C L N ++ O else O ++ crC F C L N, []⟩ := by
    rw [Dk.crashD, if_pos hok]
    show (⟨crashB F x.W 0 x.B, []⟩ : Dk) = _
    rw [j.crash]
  obtain ⟨r, hr, hrec, hoth⟩ := j.cut F
  have hlen := j.crC_len F
  obtain ⟨L1, P0, b1, b2, b3, b4, b5, b6, b7, b8⟩ := base (crC F C L N)
  obtain ⟨S, hS⟩ : ∃ S, (if h = 0 then crC F C L N ++ O else O ++ crC F C L N) = S := ⟨_, rfl⟩
  have mC : ∀ s ∈ crC F C L N, s ∈ S := fun s hs => by rw [← hS]; split <;> simp [hs]
  have mO : ∀ s ∈ O, s ∈ S := fun s hs => by rw [← hS]; split <;> simp [hs]
  have mS : ∀ s ∈ S, s ∈ crC F C L N ∨ s ∈ O := fun s hs => by
    rw [← hS] at hs
    split at hs <;> rcases List.mem_append.1 hs with h | h <;> simp [h]
  have h32 : ∀ s ∈ S, s.length = 32 := fun s hs => by
    rcases mS s hs with hs | hs
    · rw [crC] at hs
      rcases List.mem_append.1 hs with hs | hs
      · exact (j.bd s (j.memC s (List.mem_of_mem_take hs))).1
      · exact cz_32 F N _ 0 (fun s hs => (j.bd s (j.memC s (List.mem_of_mem_drop hs))).1) (fun p hp => (j.pk p hp).t) s hs
    · exact (j.bd s (j.memO s hs)).1
  have hks : ∀ s ∈ S, ∀ q, readP s = some q → q.k < q.s := fun s hs => by
    rcases mS s hs with hs | hs
    · exact j.crC_ks F s hs
    · exact j.ks s (j.memO s hs)
  have hsy : (⟨S, []⟩ : Dk).syncD.B = S := by
    have : (⟨S, []⟩ : Dk).chk = 0 := by
      refine (Dk.chk_ok _).2 ⟨?_, h32, by simp, fun w hw => by simp at hw⟩
      have hl : S.length = 2 * C.length := by
        rw [← hS]
        have := j.len
        split <;> rw [List.length_append, hlen] <;> omega
      have := j.len2
      show okN S.length = true
      unfold okN; rw [hl]; simp; omega
    rw [Dk.syncD, Dk.crashD, if_pos this]; rfl
  have hx : openJ (x.D.crashD F) (scanS (crC F C L N)) h = ⟨S, [], h, (scanS (crC F C L N)).recs, (scanS (crC F C L N)).used, (scanS (crC F C L N)).first, (scanS (crC F C L N)).last, maxN S + 1⟩ := by
    unfold openJ
    rw [hd, hS, hsy]
  rw [hx]
  have hL1 : L1 ≠ [] := fun e => by
    apply hne
    rw [← b5, e]; rfl
  have hul : L1.length ≤ (crC F C L N).length := by
    have := congrArg List.length b1
    rw [List.length_map, List.length_append, List.length_map] at this; omega
  have hmx := maxN_lt S
  refine ⟨L1, P0, maxN S + 1, j.hh, rfl, by rw [hS], by rw [hlen]; exact j.len, by rw [hlen]; exact j.len2, rfl, b1, b2, b3, trivial, Good.nil, fun i q hq => (by simp at hq), by omega, fun s hs => ⟨h32 s hs, maxN_mem hs⟩, hks, ?_, ?_, ?_, ?_, ?_, rfl, by simp only; omega, by simp, ?_, fun _ => b8, fun _ => rfl, hne, ?_⟩
  · rw [List.append_nil]; exact b5.symm
  · exact b4.symm
  · simp only; rw [← b4]; exact hul
  · rw [List.append_nil, ← run_first]; exact (b6 hL1).symm
  · exact b7.symm
  · rcases hoth hne with ho | ho
    · exact .inl ho
    · refine .inr ⟨scan_first_lt (by omega) fun s hs => (maxN_mem (mO s hs)).1, fun _ => by rw [b6 hL1]; exact ho⟩
  · simp only
    rw [← b4, ← b5]
    have h1 : ∀ L : List Pc, (run L).recs.length ≤ L.length := fun L => by
      refine snoc_ind (P := fun L => (run L).recs.length ≤ L.length) ?_ (fun l p ih => ?_) L
      · exact Nat.le_refl _
      · show (run (l ++ [p])).recs.length ≤ (l ++ [p]).length
        have ih : (run l).recs.length ≤ l.length := ih
        rw [run_app, List.length_append]
        simp only [List.foldl_cons, List.foldl_nil, Sc.step]
        split
        · simp; omega
        · simp only [List.length_cons, List.length_nil]; omega
    exact h1 L1
end
end Go.Proofs.Ytoafanbfminhcaa
end

section
namespace Go.Proofs.Ytoafanbfminhcaa
open Go Go.AL
set_option maxRecDepth 10000
def p0 : Pc := ⟨1, 0, true, []⟩
theorem fmt_cons (n : Nat) (hn : 1 ≤ n) : fmtS n = p0.b :: List.replicate (n - 1) z32 := by
  obtain ⟨m, rfl⟩ : ∃ m, n = m + 1 := ⟨n - 1, by omega⟩
  rw [fmtS, newS, List.replicate_succ]; rfl
theorem z_none : readP z32 = none := by
  have : (readP z32).isNone = true := by decide +kernel
  exact Option.isNone_iff_eq_none.1 this
theorem z_num : nF z32 = 0 ∧ nB z32 = 0 := by
  have h : decide (nF z32 = 0 ∧ nB z32 = 0) = true := by decide +kernel
  exact of_decide_eq_true h
def x0 (n : Nat) : Jn := ⟨fmtS n, [], 0, [[]], 1, 1, 1, 2⟩
theorem init_ji (m : Nat) (h1 : 2 ≤ m) (h2 : m ≤ 1000) : JI True (x0 (2 * m)) 0 (p0.b :: List.replicate (m - 1) z32) (List.replicate m z32) [p0] (List.replicate (m - 1) none) [] [] 2 := by
  have hB : fmtS (2 * m) = (p0.b :: List.replicate (m - 1) z32) ++ List.replicate m z32 := by
    rw [fmt_cons _ (by omega), List.cons_append, List.replicate_append_replicate]
    congr 2; omega
  have hp : readP p0.b = some p0 := readP_block 1 0 true [] (by decide) (by decide) (by decide) (by decide)
  have hO : ∀ k, (List.replicate k z32).map readP = List.replicate k none := fun k => by rw [List.map_replicate, z_none]
  have hn : ∀ k j, chP j (List.replicate k none) = [] := fun k j => by cases k <;> rfl
  have hF : nF p0.b = 1 := blockP_F 1 0 true [] (by decide) (by decide)
  have hBk : nB p0.b = 1 := blockP_B 1 0 true [] (by decide) (by decide)
  have hmem : ∀ s ∈ fmtS (2 * m), s = p0.b ∨ s = z32 := fun s hs => by
    rw [fmt_cons _ (by omega)] at hs
    rcases List.mem_cons.1 hs with h | h
    · exact .inl h
    · exact .inr (List.eq_of_mem_replicate h)
  refine ⟨.inl rfl, rfl, hB, by simp; omega, by simp; omega, rfl, ?_, ⟨rfl, trivial⟩, rfl, trivial, Good.nil, fun i q hq => (by simp at hq), by omega, ?_, ?_, rfl, rfl, ?_, rfl, rfl, rfl, by simp [x0], by simp, ?_, ?_, ?_, by simp [x0], by simp [x0]⟩
  · rw [List.map_cons, hO, hp]; rfl
  · intro s hs
    rcases hmem s hs with rfl | rfl
    · exact ⟨blockP_len 1 0 true [] (by decide), by omega, by omega⟩
    · exact ⟨by simp [z32], by have := z_num; omega, by have := z_num; omega⟩
  · intro s hs q hq
    rcases hmem s hs with rfl | rfl
    · rw [hp] at hq; cases hq; decide
    · rw [z_none] at hq; cases hq
  · simp [x0]
  · left
    rw [scanS_run, hO, hn]; rfl
  · intro _ p hp
    rw [hn] at hp; simp at hp
  · intro _
    show maxN (fmtS (2 * m)) + 1 = 2
    have a : maxN (fmtS (2 * m)) ≤ 1 := maxN_le fun s hs => by
      rcases hmem s hs with rfl | rfl
      · omega
      · have := z_num; omega
    have b := (maxN_mem (S := fmtS (2 * m)) (s := p0.b) (by rw [fmt_cons _ (by omega)]; simp)).1
    omega
end Go.Proofs.Ytoafanbfminhcaa
end
