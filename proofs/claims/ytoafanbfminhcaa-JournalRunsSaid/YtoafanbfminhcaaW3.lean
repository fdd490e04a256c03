import Derived.Test.YtoafanbfminhcaaW2
set_option linter.unusedSimpArgs false
set_option linter.unusedVariables false
set_option linter.unnecessarySimpa false
section
namespace Go.Proofs.Ytoafanbfminhcaa
open Go Go.AL Go.RowKit
set_option maxRecDepth 10000
set_option maxHeartbeats 4000000
def mx3 (m : Nat) (s : Bs) : Nat := max (max m (n4 (s.take 4))) (n4 ((s.drop 16).take 4))
def maxN (S : List Bs) : Nat := S.foldl mx3 0
def arA (S : List Bs) : Sc := scanS (S.take (S.length / 2))
def arB (S : List Bs) : Sc := scanS (S.drop (S.length / 2))
def Sel (a b c : Sc) (h : Nat) : Prop := (h = 0 ∧ c = a ∧ a.recs ≠ [] ∧ ¬ (b.recs ≠ [] ∧ a.first < b.first)) ∨ (h = 1 ∧ c = b ∧ b.recs ≠ [] ∧ (a.recs = [] ∨ a.first < b.first))
def openJ (d : Dk) (c : Sc) (h : Nat) : Jn := ⟨d.B, d.W, h, c.recs, c.used, c.first, c.last, maxN d.syncD.B + 1⟩
theorem crash_32 (F : List Int) : ∀ (W : List Wr) (i : Nat) (B : List Bs), (∀ s ∈ B, s.length = 32) → (∀ w ∈ W, w.2.length = 32) → (∀ w ∈ W, 0 ≤ w.1 ∧ w.1 < B.length) → ∀ s ∈ crashB F W i B, s.length = 32
  | [], _, _, h, _, _ => h
  | w :: r, i, B, h, hW, hr => by
    rw [crashB]
    have h0 := hr w (by simp)
    refine crash_32 F r (i + 1) _ (fun s hs => ?_) (fun x hx => hW x (by simp [hx])) (fun x hx => by rw [List.length_set]; exact hr x (by simp [hx]))
    rcases List.mem_or_eq_of_mem_set hs with h1 | h1
    · exact h s h1
    · rw [h1]
      refine crash1_32 _ ?_ (hW w (by simp))
      have hk : w.1.toNat < B.length := by omega
      rw [List.getD_eq_getElem?_getD, List.getElem?_eq_getElem hk, Option.getD_some]
      exact h _ (List.getElem_mem hk)
theorem sync_32 (d : Dk) (hok : d.Ok) : ∀ s ∈ d.syncD.B, s.length = 32 := by
  rw [Dk.syncD, Dk.crashD, if_pos ((d.chk_ok).2 hok)]
  exact crash_32 _ _ _ _ hok.b (fun w hw => (hok.r w hw).2) (fun w hw => (hok.r w hw).1)
theorem mx3_lt (m : Nat) (s : Bs) (h : m < 4294967296) : mx3 m s < 4294967296 := by
  have h1 := n4_lt (s.take 4)
  have h2 := n4_lt ((s.drop 16).take 4)
  unfold mx3; omega
theorem maxN_lt (S : List Bs) : maxN S < 4294967296 := by
  have : ∀ (S : List Bs) (m : Nat), m < 4294967296 → S.foldl mx3 m < 4294967296 := fun S => by
    induction S with
    | nil => exact fun m h => h
    | cons s r ih => exact fun m h => ih _ (mx3_lt m s h)
  exact this S 0 (by omega)
def openR (d : Dk) (a b : Sc) (r : AV) (H' : Heap) : Prop := (a.recs = [] ∧ b.recs = [] → H' = [] ∧ r = .tup [.im (.v (.pointer none)), Iv 400]) ∧ (∀ c h, Sel a b c h → H' = (openJ d c h).H 1 2 ∧ r = .tup [.ob 0 0, Iv 0])
theorem open_walk (d : Dk) (hd : d.Sz) (hok : d.Ok) : ACall Try.prog 12 [d.v] [] (openR d (arA d.syncD.B) (arB d.syncD.B)) := by
  have hs := sync_okN d hd hok
  have hlen : d.syncD.B.length = d.B.length := syncD_len d ((d.chk_ok).2 hok)
  obtain ⟨hn4, hn2, _⟩ := okN_le hok.n
  unfold openR openJ arA arB
  have hco := copied_own d hd
  have hS32 := sync_32 d hok
  obtain ⟨S, hS⟩ : ∃ S, d.syncD.B = S := ⟨_, rfl⟩
  rw [hS] at hs hlen hS32 ⊢
  have h1 := scan_spec (S.take (S.length / 2)) (by simp; omega)
  have h2 := scan_spec (S.drop (S.length / 2)) (by simp; omega)
  have hdv : (S.length : Int).tdiv 2 = ((S.length / 2 : Nat) : Int) := rfl
  have w1 := wr (x := ((S.length / 2 : Nat) : Int)) (by omega)
  obtain ⟨a, haa⟩ : ∃ a, scanS (S.take (S.length / 2)) = a := ⟨_, rfl⟩
  obtain ⟨b, hbb⟩ : ∃ b, scanS (S.drop (S.length / 2)) = b := ⟨_, rfl⟩
  rw [haa] at h1 ⊢
  rw [hbb] at h2 ⊢
  refine ACall.walk [0, 1, 2, 3, 4, 5, 6, 7, 8, 9, 11, 18, 39, 50, 74, 75, 76, 77] [4, 7, 8, 38] Try.func12 rfl Try.ntmps12 (by kernel_rfl) (by rfl) rfl fun W own I0 φ0 => ?_
  repeat (first | refine xA ?_ | refine xB ?_ | refine xC ?_ | refine xE ?_ | refine xD ?_ | refine xK ?_ | refine xS ?_ | refine xM ?_ | refine xT ?_ | refine xF ?_ | ((first | refine xR ?_ | refine xW ?_ | refine vq_id ?_); simp only [go_sem, Nat.reduceAdd, Nat.reduceLeDiff, Nat.reduceSub, Int.reduceToNat, reduceCtorEq]) | (refine ⟨by first | omega | (intros; simp_all; done) | (intros; simp_all; omega), ?_⟩; try simp only [go_sem, Nat.reduceAdd, Nat.reduceLeDiff, Nat.reduceSub, Int.reduceToNat, reduceCtorEq]))
  refine AQ.fn (by kernel_rfl) rfl rfl rfl (hs) rfl ?_
  repeat (first | refine xA ?_ | refine xB ?_ | refine xC ?_ | refine xE ?_ | refine xD ?_ | refine xK ?_ | refine xS ?_ | refine xM ?_ | refine xT ?_ | refine xF ?_ | ((first | refine xR ?_ | refine xW ?_ | refine vq_id ?_); simp only [go_sem, Nat.reduceAdd, Nat.reduceLeDiff, Nat.reduceSub, Int.reduceToNat, reduceCtorEq, blkR_len, hdv, w1]) | (refine ⟨by first | omega | (intros; simp_all; done) | (intros; simp_all; omega), ?_⟩; try simp only [go_sem, Nat.reduceAdd, Nat.reduceLeDiff, Nat.reduceSub, Int.reduceToNat, reduceCtorEq, blkR_len, hdv, w1]))
  refine AP.cut (α := Unit) (fun _ => [(0, d.v), (1, .im (.pt [.sl 1 (blkR d.B), .sl 2 (wrR d.W)])), (2, .im (.v (.pointer none))), (3, Iv 0), (4, .ob 0 0), (5, Iv 0), (6, Iv (S.length / 2 : Nat)), (7, .ob 21 0), (8, .ob 22 0)]) (fun _ => [(24, .vec 9 1 (blkR b.recs)), (23, .vec 9 1 (blkR a.recs)), (22, .var 89 [.os 24 1 0 b.recs.length, Iv b.used, I2 b.first, I2 b.last]), (21, .var 89 [.os 23 1 0 a.recs.length, Iv a.used, I2 a.first, I2 a.last]), (0, .var 28 [.im (.sl 1 (blkR S)), .im (.v (.slice none 0 0))])]) (fun _ => True) ?_ fun _ _ => ?_
  · skip
    refine AP.drawE 14 (Tree.node [] [0, 1, 2, 3, 5, 6, 7, 8] [4, 10, 11] [Tree.node [5, 6, 7, 8] [] [9, 10, 11] [Tree.node [] [] [10, 11] [Tree.node [] [] [11] [Tree.node [] [] [12] [Tree.node [] [] [13] [Tree.node [] [] [] []]]], Tree.node [] [] [10] [Tree.node [] [] [12] [Tree.node [] [] [13] [Tree.node [] [] [] []]]]], Tree.node [5, 6, 7, 8] [] [9, 11] [Tree.node [] [] [11] [Tree.node [] [] [12] [Tree.node [] [] [13] [Tree.node [] [] [] []]]], Tree.node [5, 6, 7, 8] [] [9] [Tree.node [] [] [12] [Tree.node [] [] [13] [Tree.node [] [] [] []]]]], Tree.node [5, 6, 7, 8] [] [9, 10] [Tree.node [] [] [10] [Tree.node [] [] [12] [Tree.node [] [] [13] [Tree.node [] [] [] []]]], Tree.node [5, 6, 7, 8] [] [9] [Tree.node [] [] [12] [Tree.node [] [] [13] [Tree.node [] [] [] []]]]]], Tree.node [0, 1, 2, 3, 5, 6, 7, 8] [] [4, 11] [Tree.node [5, 6, 7, 8] [] [9, 11] [Tree.node [] [] [11] [Tree.node [] [] [12] [Tree.node [] [] [13] [Tree.node [] [] [] []]]], Tree.node [5, 6, 7, 8] [] [9] [Tree.node [] [] [12] [Tree.node [] [] [13] [Tree.node [] [] [] []]]]], Tree.node [0, 1, 2, 3, 5, 6, 7, 8] [] [4] [Tree.node [5, 6, 7, 8] [] [9] [Tree.node [] [] [12] [Tree.node [] [] [13] [Tree.node [] [] [] []]]]]], Tree.node [0, 1, 2, 3, 5, 6, 7, 8] [] [4, 10] [Tree.node [5, 6, 7, 8] [] [9, 10] [Tree.node [] [] [10] [Tree.node [] [] [12] [Tree.node [] [] [13] [Tree.node [] [] [] []]]], Tree.node [5, 6, 7, 8] [] [9] [Tree.node [] [] [12] [Tree.node [] [] [13] [Tree.node [] [] [] []]]]], Tree.node [0, 1, 2, 3, 5, 6, 7, 8] [] [4] [Tree.node [5, 6, 7, 8] [] [9] [Tree.node [] [] [12] [Tree.node [] [] [13] [Tree.node [] [] [] []]]]]]]) (by kernel_rfl) rfl (by kernel_rfl) (by kernel_rfl) ?_
    refine vd_node ?_
    simp only [go_sem, Nat.reduceAdd, Nat.reduceLeDiff, Nat.reduceSub, Int.reduceToNat, reduceCtorEq, blkR_len, blkR_take, blkR_drop]
    repeat' (first | with_reducible exact True.intro | with_reducible refine And.intro (by omega) ?_ | with_reducible refine And.intro ?_ ?_ | omega | (refine AQ.callv (by kernel_rfl) rfl rfl rfl h1 fun r' H' ⟨e1, e2⟩ => ?_; subst e1; subst e2; simp only [go_sem, Nat.reduceAdd, Nat.reduceLeDiff, Nat.reduceSub, Int.reduceToNat, reduceCtorEq]) | (refine AQ.callv (by kernel_rfl) rfl rfl rfl h2 fun r' H' ⟨e1, e2⟩ => ?_; subst e1; subst e2; simp only [go_sem, Nat.reduceAdd, Nat.reduceLeDiff, Nat.reduceSub, Int.reduceToNat, reduceCtorEq]) | (refine AQ.nx rfl ?_; first | (refine And.intro ?_ ?_ <;> (try simp only [go_sem, Nat.reduceAdd, Nat.reduceLeDiff, Nat.reduceSub, Int.reduceToNat, reduceCtorEq, blkR_len, blkR_take, blkR_drop])) | simp only [go_sem, Nat.reduceAdd, Nat.reduceLeDiff, Nat.reduceSub, Int.reduceToNat, reduceCtorEq, blkR_len, blkR_take, blkR_drop]) | refine AQ.done ?_ | (refine AQ.go (by kernel_rfl) ?_; simp only [go_sem, Nat.reduceAdd, Nat.reduceLeDiff, Nat.reduceSub, Int.reduceToNat, reduceCtorEq, blkR_len, blkR_take, blkR_drop]; (refine AQ.nx rfl ?_; first | (refine And.intro ?_ ?_ <;> (try simp only [go_sem, Nat.reduceAdd, Nat.reduceLeDiff, Nat.reduceSub, Int.reduceToNat, reduceCtorEq, blkR_len, blkR_take, blkR_drop])) | simp only [go_sem, Nat.reduceAdd, Nat.reduceLeDiff, Nat.reduceSub, Int.reduceToNat, reduceCtorEq, blkR_len, blkR_take, blkR_drop])))
    · simp only [go_sem, Nat.reduceAdd, Nat.reduceLeDiff, Nat.reduceSub, Int.reduceToNat, reduceCtorEq]; refine AE.rename 11 21 rfl rfl rfl ?_; simp only [go_sem, Nat.reduceAdd, Nat.reduceLeDiff, Nat.reduceSub, Int.reduceToNat, reduceCtorEq]; refine AE.rename 12 22 rfl rfl rfl ?_; simp only [go_sem, Nat.reduceAdd, Nat.reduceLeDiff, Nat.reduceSub, Int.reduceToNat, reduceCtorEq]; refine AE.rename 5 23 rfl rfl rfl ?_; simp only [go_sem, Nat.reduceAdd, Nat.reduceLeDiff, Nat.reduceSub, Int.reduceToNat, reduceCtorEq]; refine AE.rename 10 24 rfl rfl rfl ?_; simp only [go_sem, Nat.reduceAdd, Nat.reduceLeDiff, Nat.reduceSub, Int.reduceToNat, reduceCtorEq]; refine AE.order [24, 23, 22, 21, 0] rfl ?_; simp only [go_sem, Nat.reduceAdd, Nat.reduceLeDiff, Nat.reduceSub, Int.reduceToNat, reduceCtorEq]; exact AE.meet () trivial (by repeat (first | exact Sub.nil _ | refine Sub.cons rfl ?_)) rfl
    · simp only [go_sem, Nat.reduceAdd, Nat.reduceLeDiff, Nat.reduceSub, Int.reduceToNat, reduceCtorEq]; refine AE.rename 12 21 rfl rfl rfl ?_; simp only [go_sem, Nat.reduceAdd, Nat.reduceLeDiff, Nat.reduceSub, Int.reduceToNat, reduceCtorEq]; refine AE.rename 11 22 rfl rfl rfl ?_; simp only [go_sem, Nat.reduceAdd, Nat.reduceLeDiff, Nat.reduceSub, Int.reduceToNat, reduceCtorEq]; refine AE.rename 5 23 rfl rfl rfl ?_; simp only [go_sem, Nat.reduceAdd, Nat.reduceLeDiff, Nat.reduceSub, Int.reduceToNat, reduceCtorEq]; refine AE.rename 10 24 rfl rfl rfl ?_; simp only [go_sem, Nat.reduceAdd, Nat.reduceLeDiff, Nat.reduceSub, Int.reduceToNat, reduceCtorEq]; refine AE.order [24, 23, 22, 21, 0] rfl ?_; simp only [go_sem, Nat.reduceAdd, Nat.reduceLeDiff, Nat.reduceSub, Int.reduceToNat, reduceCtorEq]; exact AE.meet () trivial (by repeat (first | exact Sub.nil _ | refine Sub.cons rfl ?_)) rfl
    · simp only [go_sem, Nat.reduceAdd, Nat.reduceLeDiff, Nat.reduceSub, Int.reduceToNat, reduceCtorEq]; refine AE.rename 6 21 rfl rfl rfl ?_; simp only [go_sem, Nat.reduceAdd, Nat.reduceLeDiff, Nat.reduceSub, Int.reduceToNat, reduceCtorEq]; refine AE.rename 12 22 rfl rfl rfl ?_; simp only [go_sem, Nat.reduceAdd, Nat.reduceLeDiff, Nat.reduceSub, Int.reduceToNat, reduceCtorEq]; refine AE.rename 5 23 rfl rfl rfl ?_; simp only [go_sem, Nat.reduceAdd, Nat.reduceLeDiff, Nat.reduceSub, Int.reduceToNat, reduceCtorEq]; refine AE.rename 11 24 rfl rfl rfl ?_; simp only [go_sem, Nat.reduceAdd, Nat.reduceLeDiff, Nat.reduceSub, Int.reduceToNat, reduceCtorEq]; refine AE.order [24, 23, 22, 21, 0] rfl ?_; simp only [go_sem, Nat.reduceAdd, Nat.reduceLeDiff, Nat.reduceSub, Int.reduceToNat, reduceCtorEq]; exact AE.meet () trivial (by repeat (first | exact Sub.nil _ | refine Sub.cons rfl ?_)) rfl
    · simp only [go_sem, Nat.reduceAdd, Nat.reduceLeDiff, Nat.reduceSub, Int.reduceToNat, reduceCtorEq]; refine AE.rename 6 21 rfl rfl rfl ?_; simp only [go_sem, Nat.reduceAdd, Nat.reduceLeDiff, Nat.reduceSub, Int.reduceToNat, reduceCtorEq]; refine AE.rename 7 22 rfl rfl rfl ?_; simp only [go_sem, Nat.reduceAdd, Nat.reduceLeDiff, Nat.reduceSub, Int.reduceToNat, reduceCtorEq]; refine AE.rename 5 23 rfl rfl rfl ?_; simp only [go_sem, Nat.reduceAdd, Nat.reduceLeDiff, Nat.reduceSub, Int.reduceToNat, reduceCtorEq]; refine AE.rename 12 24 rfl rfl rfl ?_; simp only [go_sem, Nat.reduceAdd, Nat.reduceLeDiff, Nat.reduceSub, Int.reduceToNat, reduceCtorEq]; refine AE.order [24, 23, 22, 21, 0] rfl ?_; simp only [go_sem, Nat.reduceAdd, Nat.reduceLeDiff, Nat.reduceSub, Int.reduceToNat, reduceCtorEq]; exact AE.meet () trivial (by repeat (first | exact Sub.nil _ | refine Sub.cons rfl ?_)) rfl
    · simp only [go_sem, Nat.reduceAdd, Nat.reduceLeDiff, Nat.reduceSub, Int.reduceToNat, reduceCtorEq]; refine AE.rename 12 21 rfl rfl rfl ?_; simp only [go_sem, Nat.reduceAdd, Nat.reduceLeDiff, Nat.reduceSub, Int.reduceToNat, reduceCtorEq]; refine AE.rename 6 22 rfl rfl rfl ?_; simp only [go_sem, Nat.reduceAdd, Nat.reduceLeDiff, Nat.reduceSub, Int.reduceToNat, reduceCtorEq]; refine AE.rename 5 23 rfl rfl rfl ?_; simp only [go_sem, Nat.reduceAdd, Nat.reduceLeDiff, Nat.reduceSub, Int.reduceToNat, reduceCtorEq]; refine AE.rename 11 24 rfl rfl rfl ?_; simp only [go_sem, Nat.reduceAdd, Nat.reduceLeDiff, Nat.reduceSub, Int.reduceToNat, reduceCtorEq]; refine AE.order [24, 23, 22, 21, 0] rfl ?_; simp only [go_sem, Nat.reduceAdd, Nat.reduceLeDiff, Nat.reduceSub, Int.reduceToNat, reduceCtorEq]; exact AE.meet () trivial (by repeat (first | exact Sub.nil _ | refine Sub.cons rfl ?_)) rfl
    · simp only [go_sem, Nat.reduceAdd, Nat.reduceLeDiff, Nat.reduceSub, Int.reduceToNat, reduceCtorEq]; refine AE.rename 7 21 rfl rfl rfl ?_; simp only [go_sem, Nat.reduceAdd, Nat.reduceLeDiff, Nat.reduceSub, Int.reduceToNat, reduceCtorEq]; refine AE.rename 6 22 rfl rfl rfl ?_; simp only [go_sem, Nat.reduceAdd, Nat.reduceLeDiff, Nat.reduceSub, Int.reduceToNat, reduceCtorEq]; refine AE.rename 5 23 rfl rfl rfl ?_; simp only [go_sem, Nat.reduceAdd, Nat.reduceLeDiff, Nat.reduceSub, Int.reduceToNat, reduceCtorEq]; refine AE.rename 12 24 rfl rfl rfl ?_; simp only [go_sem, Nat.reduceAdd, Nat.reduceLeDiff, Nat.reduceSub, Int.reduceToNat, reduceCtorEq]; refine AE.order [24, 23, 22, 21, 0] rfl ?_; simp only [go_sem, Nat.reduceAdd, Nat.reduceLeDiff, Nat.reduceSub, Int.reduceToNat, reduceCtorEq]; exact AE.meet () trivial (by repeat (first | exact Sub.nil _ | refine Sub.cons rfl ?_)) rfl
    · simp only [go_sem, Nat.reduceAdd, Nat.reduceLeDiff, Nat.reduceSub, Int.reduceToNat, reduceCtorEq]; refine AE.rename 1 21 rfl rfl rfl ?_; simp only [go_sem, Nat.reduceAdd, Nat.reduceLeDiff, Nat.reduceSub, Int.reduceToNat, reduceCtorEq]; refine AE.rename 12 22 rfl rfl rfl ?_; simp only [go_sem, Nat.reduceAdd, Nat.reduceLeDiff, Nat.reduceSub, Int.reduceToNat, reduceCtorEq]; refine AE.rename 6 23 rfl rfl rfl ?_; simp only [go_sem, Nat.reduceAdd, Nat.reduceLeDiff, Nat.reduceSub, Int.reduceToNat, reduceCtorEq]; refine AE.rename 11 24 rfl rfl rfl ?_; simp only [go_sem, Nat.reduceAdd, Nat.reduceLeDiff, Nat.reduceSub, Int.reduceToNat, reduceCtorEq]; refine AE.order [24, 23, 22, 21, 0] rfl ?_; simp only [go_sem, Nat.reduceAdd, Nat.reduceLeDiff, Nat.reduceSub, Int.reduceToNat, reduceCtorEq]; exact AE.meet () trivial (by repeat (first | exact Sub.nil _ | refine Sub.cons rfl ?_)) rfl
    · simp only [go_sem, Nat.reduceAdd, Nat.reduceLeDiff, Nat.reduceSub, Int.reduceToNat, reduceCtorEq]; refine AE.rename 1 21 rfl rfl rfl ?_; simp only [go_sem, Nat.reduceAdd, Nat.reduceLeDiff, Nat.reduceSub, Int.reduceToNat, reduceCtorEq]; refine AE.rename 7 22 rfl rfl rfl ?_; simp only [go_sem, Nat.reduceAdd, Nat.reduceLeDiff, Nat.reduceSub, Int.reduceToNat, reduceCtorEq]; refine AE.rename 6 23 rfl rfl rfl ?_; simp only [go_sem, Nat.reduceAdd, Nat.reduceLeDiff, Nat.reduceSub, Int.reduceToNat, reduceCtorEq]; refine AE.rename 12 24 rfl rfl rfl ?_; simp only [go_sem, Nat.reduceAdd, Nat.reduceLeDiff, Nat.reduceSub, Int.reduceToNat, reduceCtorEq]; refine AE.order [24, 23, 22, 21, 0] rfl ?_; simp only [go_sem, Nat.reduceAdd, Nat.reduceLeDiff, Nat.reduceSub, Int.reduceToNat, reduceCtorEq]; exact AE.meet () trivial (by repeat (first | exact Sub.nil _ | refine Sub.cons rfl ?_)) rfl
    · simp only [go_sem, Nat.reduceAdd, Nat.reduceLeDiff, Nat.reduceSub, Int.reduceToNat, reduceCtorEq]; refine AE.rename 1 21 rfl rfl rfl ?_; simp only [go_sem, Nat.reduceAdd, Nat.reduceLeDiff, Nat.reduceSub, Int.reduceToNat, reduceCtorEq]; refine AE.rename 2 22 rfl rfl rfl ?_; simp only [go_sem, Nat.reduceAdd, Nat.reduceLeDiff, Nat.reduceSub, Int.reduceToNat, reduceCtorEq]; refine AE.rename 7 23 rfl rfl rfl ?_; simp only [go_sem, Nat.reduceAdd, Nat.reduceLeDiff, Nat.reduceSub, Int.reduceToNat, reduceCtorEq]; refine AE.rename 12 24 rfl rfl rfl ?_; simp only [go_sem, Nat.reduceAdd, Nat.reduceLeDiff, Nat.reduceSub, Int.reduceToNat, reduceCtorEq]; refine AE.order [24, 23, 22, 21, 0] rfl ?_; simp only [go_sem, Nat.reduceAdd, Nat.reduceLeDiff, Nat.reduceSub, Int.reduceToNat, reduceCtorEq]; exact AE.meet () trivial (by repeat (first | exact Sub.nil _ | refine Sub.cons rfl ?_)) rfl
    · simp only [go_sem, Nat.reduceAdd, Nat.reduceLeDiff, Nat.reduceSub, Int.reduceToNat, reduceCtorEq]; refine AE.rename 12 21 rfl rfl rfl ?_; simp only [go_sem, Nat.reduceAdd, Nat.reduceLeDiff, Nat.reduceSub, Int.reduceToNat, reduceCtorEq]; refine AE.rename 1 22 rfl rfl rfl ?_; simp only [go_sem, Nat.reduceAdd, Nat.reduceLeDiff, Nat.reduceSub, Int.reduceToNat, reduceCtorEq]; refine AE.rename 6 23 rfl rfl rfl ?_; simp only [go_sem, Nat.reduceAdd, Nat.reduceLeDiff, Nat.reduceSub, Int.reduceToNat, reduceCtorEq]; refine AE.rename 11 24 rfl rfl rfl ?_; simp only [go_sem, Nat.reduceAdd, Nat.reduceLeDiff, Nat.reduceSub, Int.reduceToNat, reduceCtorEq]; refine AE.order [24, 23, 22, 21, 0] rfl ?_; simp only [go_sem, Nat.reduceAdd, Nat.reduceLeDiff, Nat.reduceSub, Int.reduceToNat, reduceCtorEq]; exact AE.meet () trivial (by repeat (first | exact Sub.nil _ | refine Sub.cons rfl ?_)) rfl
    · simp only [go_sem, Nat.reduceAdd, Nat.reduceLeDiff, Nat.reduceSub, Int.reduceToNat, reduceCtorEq]; refine AE.rename 7 21 rfl rfl rfl ?_; simp only [go_sem, Nat.reduceAdd, Nat.reduceLeDiff, Nat.reduceSub, Int.reduceToNat, reduceCtorEq]; refine AE.rename 1 22 rfl rfl rfl ?_; simp only [go_sem, Nat.reduceAdd, Nat.reduceLeDiff, Nat.reduceSub, Int.reduceToNat, reduceCtorEq]; refine AE.rename 6 23 rfl rfl rfl ?_; simp only [go_sem, Nat.reduceAdd, Nat.reduceLeDiff, Nat.reduceSub, Int.reduceToNat, reduceCtorEq]; refine AE.rename 12 24 rfl rfl rfl ?_; simp only [go_sem, Nat.reduceAdd, Nat.reduceLeDiff, Nat.reduceSub, Int.reduceToNat, reduceCtorEq]; refine AE.order [24, 23, 22, 21, 0] rfl ?_; simp only [go_sem, Nat.reduceAdd, Nat.reduceLeDiff, Nat.reduceSub, Int.reduceToNat, reduceCtorEq]; exact AE.meet () trivial (by repeat (first | exact Sub.nil _ | refine Sub.cons rfl ?_)) rfl
    · simp only [go_sem, Nat.reduceAdd, Nat.reduceLeDiff, Nat.reduceSub, Int.reduceToNat, reduceCtorEq]; refine AE.rename 2 21 rfl rfl rfl ?_; simp only [go_sem, Nat.reduceAdd, Nat.reduceLeDiff, Nat.reduceSub, Int.reduceToNat, reduceCtorEq]; refine AE.rename 1 22 rfl rfl rfl ?_; simp only [go_sem, Nat.reduceAdd, Nat.reduceLeDiff, Nat.reduceSub, Int.reduceToNat, reduceCtorEq]; refine AE.rename 7 23 rfl rfl rfl ?_; simp only [go_sem, Nat.reduceAdd, Nat.reduceLeDiff, Nat.reduceSub, Int.reduceToNat, reduceCtorEq]; refine AE.rename 12 24 rfl rfl rfl ?_; simp only [go_sem, Nat.reduceAdd, Nat.reduceLeDiff, Nat.reduceSub, Int.reduceToNat, reduceCtorEq]; refine AE.order [24, 23, 22, 21, 0] rfl ?_; simp only [go_sem, Nat.reduceAdd, Nat.reduceLeDiff, Nat.reduceSub, Int.reduceToNat, reduceCtorEq]; exact AE.meet () trivial (by repeat (first | exact Sub.nil _ | refine Sub.cons rfl ?_)) rfl
  · repeat (first | refine xA ?_ | refine xB ?_ | refine xC ?_ | refine xE ?_ | refine xD ?_ | refine xK ?_ | refine xS ?_ | refine xM ?_ | refine xT ?_ | refine xF ?_ | ((first | refine xR ?_ | refine xW ?_ | refine vq_id ?_); simp only [go_sem, Nat.reduceAdd, Nat.reduceLeDiff, Nat.reduceSub, Int.reduceToNat, reduceCtorEq]) | (refine ⟨by first | omega | (intros; simp_all; done) | (intros; simp_all; omega), ?_⟩; try simp only [go_sem, Nat.reduceAdd, Nat.reduceLeDiff, Nat.reduceSub, Int.reduceToNat, reduceCtorEq]))
    refine AP.drawE 6 (Tree.node [] [0, 2] [1] [Tree.node [2] [3] [4] [Tree.node [] [5] [] []]]) (by kernel_rfl) rfl (by kernel_rfl) (by kernel_rfl) ?_
    refine vd_node ?_
    simp only [go_sem, Nat.reduceAdd, Nat.reduceLeDiff, Nat.reduceSub, Int.reduceToNat, reduceCtorEq]
    refine AQ.callv (by kernel_rfl) rfl rfl rfl hco fun r' H' ⟨e1, e2⟩ => ?_
    subst e1; subst e2
    simp only [go_sem, Nat.reduceAdd, Nat.reduceLeDiff, Nat.reduceSub, Int.reduceToNat, reduceCtorEq]
    refine AQ.nx rfl ?_
    simp only [go_sem, Nat.reduceAdd, Nat.reduceLeDiff, Nat.reduceSub, Int.reduceToNat, reduceCtorEq]
    refine AQ.go (by kernel_rfl) ?_
    simp only [go_sem, Nat.reduceAdd, Nat.reduceLeDiff, Nat.reduceSub, Int.reduceToNat, reduceCtorEq]
    refine AQ.nx rfl ?_
    simp only [go_sem, Nat.reduceAdd, Nat.reduceLeDiff, Nat.reduceSub, Int.reduceToNat, reduceCtorEq]
    refine AQ.done ?_
    simp only [go_sem, Nat.reduceAdd, Nat.reduceLeDiff, Nat.reduceSub, Int.reduceToNat, reduceCtorEq]
    refine AE.seq ?_
    refine AP.seq rfl ?_
    refine AP.cut (α := Sc × Nat) (fun x => [(2, .im (.v (.pointer none))), (3, Iv 0), (4, .ob 0 0), (9, .ob 28 0)]) (fun x => [(28, .var 93 [.im (.sl 1 (blkR d.B)), .os 27 2 0 d.W.length, Iv x.2, .os 25 1 0 x.1.recs.length, Iv x.1.used, I2 x.1.first, I2 x.1.last, I2 0]), (27, .vec 97 2 (wrR d.W)), (25, .vec 9 1 (blkR x.1.recs)), (0, .var 28 [.im (.sl 1 (blkR S)), .im (.v (.slice none 0 0))])]) (fun x => Sel a b x.1 x.2) ?_ fun ⟨c, h⟩ hsel => ?_
    · have lz : ∀ l : List Bs, l = [] → ((l.length : Int) == 0) = true := fun l h => by subst h; rfl
      have ln : ∀ l : List Bs, l ≠ [] → ((l.length : Int) == 0) = false := fun l h => by
        have := List.length_pos_iff.2 h
        simp only [beq_eq_false_iff_ne, ne_eq]; omega
      have gz : ∀ l : List Bs, l = [] → decide ((0 : Int) < (l.length : Int)) = false := fun l h => by subst h; rfl
      have gn : ∀ l : List Bs, l ≠ [] → decide ((0 : Int) < (l.length : Int)) = true := fun l h => by
        have := List.length_pos_iff.2 h
        simp only [decide_eq_true_eq]; omega
      by_cases ha0 : a.recs = []
      · have e1 := lz _ ha0
        by_cases hb0 : b.recs = []
        · have e2 := lz _ hb0
          repeat (first | refine xA ?_ | refine xB ?_ | refine xC ?_ | refine xE ?_ | refine xD ?_ | refine xK ?_ | refine xS ?_ | refine xM ?_ | refine xT ?_ | refine xF ?_ | ((first | refine xR ?_ | refine xW ?_ | refine vq_id ?_); simp only [go_sem, Nat.reduceAdd, Nat.reduceLeDiff, Nat.reduceSub, Int.reduceToNat, reduceCtorEq, blkR_len, e1, e2]) | (refine ⟨by first | omega | (intros; simp_all; done) | (intros; simp_all; omega), ?_⟩; try simp only [go_sem, Nat.reduceAdd, Nat.reduceLeDiff, Nat.reduceSub, Int.reduceToNat, reduceCtorEq, blkR_len, e1, e2]))
          refine AE.retD [28, 26, 27, 22, 21, 24, 23, 0] rfl ⟨rfl, rfl, trivial⟩ rfl ⟨fun _ => ⟨rfl, rfl⟩, fun c h hs => ?_⟩
          rcases hs with ⟨_, _, h3, _⟩ | ⟨_, _, h3, _⟩
          · exact absurd ha0 h3
          · exact absurd hb0 h3
        · have e2 := ln _ hb0
          repeat (first | refine xA ?_ | refine xB ?_ | refine xC ?_ | refine xE ?_ | refine xD ?_ | refine xK ?_ | refine xS ?_ | refine xM ?_ | refine xT ?_ | refine xF ?_ | ((first | refine xR ?_ | refine xW ?_ | refine vq_id ?_); simp only [go_sem, Nat.reduceAdd, Nat.reduceLeDiff, Nat.reduceSub, Int.reduceToNat, reduceCtorEq, blkR_len, e1, e2]) | (refine ⟨by first | omega | (intros; simp_all; done) | (intros; simp_all; omega), ?_⟩; try simp only [go_sem, Nat.reduceAdd, Nat.reduceLeDiff, Nat.reduceSub, Int.reduceToNat, reduceCtorEq, blkR_len, e1, e2]))
          refine AE.freeze 26 (el := 9) (es := 1) (rows := blkR d.B) rfl (by simp only [go_sem, Nat.reduceAdd, Nat.reduceLeDiff, Nat.reduceSub, Int.reduceToNat, reduceCtorEq, blkR_len]; first | done | trivial | omega | (simp; done) | (simp; omega)) (by simp only [go_sem, Nat.reduceAdd, Nat.reduceLeDiff, Nat.reduceSub, Int.reduceToNat, reduceCtorEq, blkR_len]; first | done | trivial | omega | (simp; done) | (simp; omega)) ?_; simp only [go_sem, Nat.reduceAdd, Nat.reduceLeDiff, Nat.reduceSub, Int.reduceToNat, reduceCtorEq, blkR_len]
          rw [take_all' (blkR d.B) _ (Nat.le_of_eq (blkR_len _))]
          refine AE.forgets [22, 21, 23] rfl ?_
          simp only [go_sem, Nat.reduceAdd, Nat.reduceLeDiff, Nat.reduceSub, Int.reduceToNat, reduceCtorEq]
          refine AE.rename 24 25 rfl rfl rfl ?_; simp only [go_sem, Nat.reduceAdd, Nat.reduceLeDiff, Nat.reduceSub, Int.reduceToNat, reduceCtorEq]
          refine AE.order [28, 27, 25, 0] rfl ?_
          simp only [go_sem, Nat.reduceAdd, Nat.reduceLeDiff, Nat.reduceSub, Int.reduceToNat, reduceCtorEq]
          exact AE.meet (b, 1) (.inr ⟨rfl, rfl, hb0, .inl ha0⟩) (by repeat (first | exact Sub.nil _ | refine Sub.cons rfl ?_)) rfl
      · have e1 := ln _ ha0
        by_cases hb0 : b.recs = []
        · have e2 := gz _ hb0
          have e3 := lz _ hb0
          repeat (first | refine xA ?_ | refine xB ?_ | refine xC ?_ | refine xE ?_ | refine xD ?_ | refine xK ?_ | refine xS ?_ | refine xM ?_ | refine xT ?_ | refine xF ?_ | ((first | refine xR ?_ | refine xW ?_ | refine vq_id ?_); simp only [go_sem, Nat.reduceAdd, Nat.reduceLeDiff, Nat.reduceSub, Int.reduceToNat, reduceCtorEq, blkR_len, e1, e2, e3]) | (refine ⟨by first | omega | (intros; simp_all; done) | (intros; simp_all; omega), ?_⟩; try simp only [go_sem, Nat.reduceAdd, Nat.reduceLeDiff, Nat.reduceSub, Int.reduceToNat, reduceCtorEq, blkR_len, e1, e2, e3]))
          refine AE.freeze 26 (el := 9) (es := 1) (rows := blkR d.B) rfl (by simp only [go_sem, Nat.reduceAdd, Nat.reduceLeDiff, Nat.reduceSub, Int.reduceToNat, reduceCtorEq, blkR_len]; first | done | trivial | omega | (simp; done) | (simp; omega)) (by simp only [go_sem, Nat.reduceAdd, Nat.reduceLeDiff, Nat.reduceSub, Int.reduceToNat, reduceCtorEq, blkR_len]; first | done | trivial | omega | (simp; done) | (simp; omega)) ?_; simp only [go_sem, Nat.reduceAdd, Nat.reduceLeDiff, Nat.reduceSub, Int.reduceToNat, reduceCtorEq, blkR_len]
          rw [take_all' (blkR d.B) _ (Nat.le_of_eq (blkR_len _))]
          refine AE.forgets [22, 21, 24] rfl ?_
          simp only [go_sem, Nat.reduceAdd, Nat.reduceLeDiff, Nat.reduceSub, Int.reduceToNat, reduceCtorEq]
          refine AE.rename 23 25 rfl rfl rfl ?_; simp only [go_sem, Nat.reduceAdd, Nat.reduceLeDiff, Nat.reduceSub, Int.reduceToNat, reduceCtorEq]
          refine AE.order [28, 27, 25, 0] rfl ?_
          simp only [go_sem, Nat.reduceAdd, Nat.reduceLeDiff, Nat.reduceSub, Int.reduceToNat, reduceCtorEq]
          exact AE.meet (a, 0) (.inl ⟨rfl, rfl, ha0, fun h => h.1 hb0⟩) (by repeat (first | exact Sub.nil _ | refine Sub.cons rfl ?_)) rfl
        · have e2 := gn _ hb0
          have e3 := ln _ hb0
          by_cases hf : a.first < b.first
          · have e4 : decide ((a.first : Int) < (b.first : Int)) = true := by simp only [decide_eq_true_eq]; omega
            repeat (first | refine xA ?_ | refine xB ?_ | refine xC ?_ | refine xE ?_ | refine xD ?_ | refine xK ?_ | refine xS ?_ | refine xM ?_ | refine xT ?_ | refine xF ?_ | ((first | refine xR ?_ | refine xW ?_ | refine vq_id ?_); simp only [go_sem, Nat.reduceAdd, Nat.reduceLeDiff, Nat.reduceSub, Int.reduceToNat, reduceCtorEq, blkR_len, e1, e2, e3, e4]) | (refine ⟨by first | omega | (intros; simp_all; done) | (intros; simp_all; omega), ?_⟩; try simp only [go_sem, Nat.reduceAdd, Nat.reduceLeDiff, Nat.reduceSub, Int.reduceToNat, reduceCtorEq, blkR_len, e1, e2, e3, e4]))
            refine AE.freeze 26 (el := 9) (es := 1) (rows := blkR d.B) rfl (by simp only [go_sem, Nat.reduceAdd, Nat.reduceLeDiff, Nat.reduceSub, Int.reduceToNat, reduceCtorEq, blkR_len]; first | done | trivial | omega | (simp; done) | (simp; omega)) (by simp only [go_sem, Nat.reduceAdd, Nat.reduceLeDiff, Nat.reduceSub, Int.reduceToNat, reduceCtorEq, blkR_len]; first | done | trivial | omega | (simp; done) | (simp; omega)) ?_; simp only [go_sem, Nat.reduceAdd, Nat.reduceLeDiff, Nat.reduceSub, Int.reduceToNat, reduceCtorEq, blkR_len]
            rw [take_all' (blkR d.B) _ (Nat.le_of_eq (blkR_len _))]
            refine AE.forgets [22, 21, 23] rfl ?_
            simp only [go_sem, Nat.reduceAdd, Nat.reduceLeDiff, Nat.reduceSub, Int.reduceToNat, reduceCtorEq]
            refine AE.rename 24 25 rfl rfl rfl ?_; simp only [go_sem, Nat.reduceAdd, Nat.reduceLeDiff, Nat.reduceSub, Int.reduceToNat, reduceCtorEq]
            refine AE.order [28, 27, 25, 0] rfl ?_
            simp only [go_sem, Nat.reduceAdd, Nat.reduceLeDiff, Nat.reduceSub, Int.reduceToNat, reduceCtorEq]
            exact AE.meet (b, 1) (.inr ⟨rfl, rfl, hb0, .inr hf⟩) (by repeat (first | exact Sub.nil _ | refine Sub.cons rfl ?_)) rfl
          · have e4 : decide ((a.first : Int) < (b.first : Int)) = false := by simp only [decide_eq_false_iff_not]; omega
            repeat (first | refine xA ?_ | refine xB ?_ | refine xC ?_ | refine xE ?_ | refine xD ?_ | refine xK ?_ | refine xS ?_ | refine xM ?_ | refine xT ?_ | refine xF ?_ | ((first | refine xR ?_ | refine xW ?_ | refine vq_id ?_); simp only [go_sem, Nat.reduceAdd, Nat.reduceLeDiff, Nat.reduceSub, Int.reduceToNat, reduceCtorEq, blkR_len, e1, e2, e3, e4]) | (refine ⟨by first | omega | (intros; simp_all; done) | (intros; simp_all; omega), ?_⟩; try simp only [go_sem, Nat.reduceAdd, Nat.reduceLeDiff, Nat.reduceSub, Int.reduceToNat, reduceCtorEq, blkR_len, e1, e2, e3, e4]))
            refine AE.freeze 26 (el := 9) (es := 1) (rows := blkR d.B) rfl (by simp only [go_sem, Nat.reduceAdd, Nat.reduceLeDiff, Nat.reduceSub, Int.reduceToNat, reduceCtorEq, blkR_len]; first | done | trivial | omega | (simp; done) | (simp; omega)) (by simp only [go_sem, Nat.reduceAdd, Nat.reduceLeDiff, Nat.reduceSub, Int.reduceToNat, reduceCtorEq, blkR_len]; first | done | trivial | omega | (simp; done) | (simp; omega)) ?_; simp only [go_sem, Nat.reduceAdd, Nat.reduceLeDiff, Nat.reduceSub, Int.reduceToNat, reduceCtorEq, blkR_len]
            rw [take_all' (blkR d.B) _ (Nat.le_of_eq (blkR_len _))]
            refine AE.forgets [22, 21, 24] rfl ?_
            simp only [go_sem, Nat.reduceAdd, Nat.reduceLeDiff, Nat.reduceSub, Int.reduceToNat, reduceCtorEq]
            refine AE.rename 23 25 rfl rfl rfl ?_; simp only [go_sem, Nat.reduceAdd, Nat.reduceLeDiff, Nat.reduceSub, Int.reduceToNat, reduceCtorEq]
            refine AE.order [28, 27, 25, 0] rfl ?_
            simp only [go_sem, Nat.reduceAdd, Nat.reduceLeDiff, Nat.reduceSub, Int.reduceToNat, reduceCtorEq]
            exact AE.meet (a, 0) (.inl ⟨rfl, rfl, ha0, fun h => hf h.2⟩) (by repeat (first | exact Sub.nil _ | refine Sub.cons rfl ?_)) rfl
    · simp only at hsel
      have hr : ∀ (r : AV) (H' : Heap), (H' = Jn.H ⟨d.B, d.W, h, c.recs, c.used, c.first, c.last, maxN S + 1⟩ 1 2 ∧ r = .tup [.ob 0 0, Iv 0]) → (a.recs = [] ∧ b.recs = [] → H' = [] ∧ r = .tup [.im (.v (.pointer none)), Iv 400]) ∧ (∀ (c : Sc) (h : Nat), Sel a b c h → H' = Jn.H ⟨d.B, d.W, h, c.recs, c.used, c.first, c.last, maxN S + 1⟩ 1 2 ∧ r = .tup [.ob 0 0, Iv 0]) := fun r H' hg => ⟨fun h0 => by
        rcases hsel with ⟨_, _, h3, _⟩ | ⟨_, _, h3, _⟩
        · exact absurd h0.1 h3
        · exact absurd h0.2 h3, fun c' h' hs' => by
        have : c' = c ∧ h' = h := by
          rcases hsel with ⟨h1, h2, h3, h4⟩ | ⟨h1, h2, h3, h4⟩ <;> rcases hs' with ⟨g1, g2, g3, g4⟩ | ⟨g1, g2, g3, g4⟩
          · exact ⟨by rw [h2, g2], by rw [h1, g1]⟩
          · exact absurd ⟨g3, g4.resolve_left h3⟩ h4
          · exact absurd ⟨h3, h4.resolve_left g3⟩ g4
          · exact ⟨by rw [h2, g2], by rw [h1, g1]⟩
        rw [this.1, this.2]; exact hg⟩
      refine AE.weaken (E' := [(2, .im (.v (.pointer none))), (3, Iv 0), (4, .ob 0 0), (9, .ob 28 0)]) ?_ (by repeat (first | exact Sub.nil _ | refine Sub.cons rfl ?_))
      obtain ⟨recs, used, first, last, hcc⟩ : ∃ r u f l, c.recs = r ∧ c.used = u ∧ c.first = f ∧ c.last = l := ⟨_, _, _, _, rfl, rfl, rfl, rfl⟩
      obtain ⟨q1, q2, q3, q4⟩ := hcc
      simp only [q1, q2, q3, q4]
      repeat (first | refine xA ?_ | refine xB ?_ | refine xC ?_ | refine xE ?_ | refine xD ?_ | refine xK ?_ | refine xS ?_ | refine xM ?_ | refine xT ?_ | refine xF ?_ | ((first | refine xR ?_ | refine xW ?_ | refine vq_id ?_); simp only [go_sem, Nat.reduceAdd, Nat.reduceLeDiff, Nat.reduceSub, Int.reduceToNat, reduceCtorEq, blkR_len]) | (refine ⟨by first | omega | (intros; simp_all; done) | (intros; simp_all; omega), ?_⟩; try simp only [go_sem, Nat.reduceAdd, Nat.reduceLeDiff, Nat.reduceSub, Int.reduceToNat, reduceCtorEq, blkR_len]))
      refine AP.loop rfl (α := Nat) (fun k => [(2, .im (.v (.pointer none))), (3, Iv 0), (4, .ob 0 0), (9, .ob 28 0), (74, .im (.sl 1 (blkR S))), (75, Iv S.length), (76, Iv k)]) (fun k => [(28, .var 93 [.im (.sl 1 (blkR d.B)), .os 27 2 0 d.W.length, Iv h, .os 25 1 0 recs.length, Iv used, I2 first, I2 last, I2 ((S.take k).foldl mx3 0 : Nat)]), (27, .vec 97 2 (wrR d.W)), (25, .vec 9 1 (blkR recs)), (0, .var 28 [.im (.sl 1 (blkR S)), .im (.v (.slice none 0 0))])]) (fun k => k ≤ S.length) (fun k => S.length - k) 0 (Nat.zero_le _) (by repeat (first | exact Sub.nil _ | refine Sub.cons rfl ?_)) rfl fun k hk => ?_
      repeat (first | refine xA ?_ | refine xB ?_ | refine xC ?_ | refine xE ?_ | refine xD ?_ | refine xK ?_ | refine xS ?_ | refine xM ?_ | refine xT ?_ | refine xF ?_ | ((first | refine xR ?_ | refine xW ?_ | refine vq_id ?_); simp only [go_sem, Nat.reduceAdd, Nat.reduceLeDiff, Nat.reduceSub, Int.reduceToNat, reduceCtorEq]) | (refine ⟨by first | omega | (intros; simp_all; done) | (intros; simp_all; omega), ?_⟩; try simp only [go_sem, Nat.reduceAdd, Nat.reduceLeDiff, Nat.reduceSub, Int.reduceToNat, reduceCtorEq]))
      refine AP.cond rfl rfl (fun hcnd => ?_) (fun hcnd => ?_)
      · have hk' : k < S.length := by simp at hcnd; omega
        have hg := blkR_get S k hk'
        obtain ⟨s, hs⟩ : ∃ s, S.getD k [] = s := ⟨_, rfl⟩
        have h32 : s.length = 32 := by
          rw [← hs, List.getD_eq_getElem?_getD, List.getElem?_eq_getElem hk', Option.getD_some]
          exact hS32 _ (List.getElem_mem hk')
        rw [hs] at hg
        repeat (first | refine xA ?_ | refine xB ?_ | refine xC ?_ | refine xE ?_ | refine xD ?_ | refine xK ?_ | refine xS ?_ | refine xM ?_ | refine xT ?_ | refine xF ?_ | ((first | refine xR ?_ | refine xW ?_ | refine vq_id ?_); simp only [go_sem, Nat.reduceAdd, Nat.reduceLeDiff, Nat.reduceSub, Int.reduceToNat, reduceCtorEq, hg, blkR_len]) | (refine ⟨by first | omega | (intros; simp_all; done) | (intros; simp_all; omega), ?_⟩; try simp only [go_sem, Nat.reduceAdd, Nat.reduceLeDiff, Nat.reduceSub, Int.reduceToNat, reduceCtorEq, hg, blkR_len]))
        refine AP.drawE 17 (Tree.node [] [0, 1, 2, 3, 4, 5, 6, 9, 10] [7, 11] [Tree.node [0, 1, 2, 3, 4, 9, 10] [] [8, 11] [Tree.node [0, 1, 2, 3, 4, 9, 10] [] [11] [Tree.node [0, 1, 2, 3, 4] [] [12] [Tree.node [0, 1, 2, 3, 4] [] [13] [Tree.node [0] [14, 15] [16] [Tree.node [] [] [] []]]]], Tree.node [0, 1, 2, 3, 4] [] [8] [Tree.node [0, 1, 2, 3, 4] [] [12] [Tree.node [0, 1, 2, 3, 4] [] [13] [Tree.node [0] [14, 15] [16] [Tree.node [] [] [] []]]]]], Tree.node [0, 1, 2, 3, 4, 5, 6] [] [7] [Tree.node [0, 1, 2, 3, 4] [] [8] [Tree.node [0, 1, 2, 3, 4] [] [12] [Tree.node [0, 1, 2, 3, 4] [] [13] [Tree.node [0] [14, 15] [16] [Tree.node [] [] [] []]]]]]]) (by kernel_rfl) rfl (by kernel_rfl) (by kernel_rfl) ?_
        refine vd_node ?_
        simp only [go_sem, Nat.reduceAdd, Nat.reduceLeDiff, Nat.reduceSub, Int.reduceToNat, reduceCtorEq, BA_size, BA_extract, h32]
        have hl1 : (s.take 4).length = 4 := by simp; omega
        have hl2 : ((s.drop 16).take 4).length = 4 := by simp; omega
        have hn1 := number4 (s.take 4) hl1
        have hn2 := number4 ((s.drop 16).take 4) hl2
        have hm : (S.take (k + 1)).foldl mx3 0 = mx3 ((S.take k).foldl mx3 0) s := by
          have : S[k] = s := by rw [← hs, List.getD_eq_getElem?_getD, List.getElem?_eq_getElem hk']; rfl
          rw [List.take_add_one, List.getElem?_eq_getElem hk', List.foldl_append, this]; rfl
        obtain ⟨m, hmm⟩ : ∃ m, (S.take k).foldl mx3 0 = m := ⟨_, rfl⟩
        rw [hmm] at hm ⊢
        have hm2 : mx3 m s = max (max m (n4 (s.take 4))) (n4 ((s.drop 16).take 4)) := rfl
        rw [hm2] at hm
        obtain ⟨n1, hn1'⟩ : ∃ m, n4 (s.take 4) = m := ⟨_, rfl⟩
        obtain ⟨n2, hn2'⟩ : ∃ m, n4 ((s.drop 16).take 4) = m := ⟨_, rfl⟩
        rw [hn1'] at hm hn1
        rw [hn2'] at hm hn2
        have hw := wr (x := (k : Int) + 1) (by omega)
        repeat' (first | with_reducible exact True.intro | with_reducible refine And.intro (by omega) ?_ | with_reducible refine And.intro ?_ ?_ | omega | (refine AQ.s2b (by kernel_rfl) rfl rfl rfl rfl ?_; simp only [go_sem, Nat.reduceAdd, Nat.reduceLeDiff, Nat.reduceSub, Int.reduceToNat, reduceCtorEq]) | (refine AQ.fn (by kernel_rfl) rfl rfl rfl (hn1) rfl ?_; simp only [go_sem, Nat.reduceAdd, Nat.reduceLeDiff, Nat.reduceSub, Int.reduceToNat, reduceCtorEq]) | (refine AQ.fn (by kernel_rfl) rfl rfl rfl (hn2) rfl ?_; simp only [go_sem, Nat.reduceAdd, Nat.reduceLeDiff, Nat.reduceSub, Int.reduceToNat, reduceCtorEq]) | (refine AQ.max3 (by kernel_rfl) rfl rfl rfl ?_; simp only [go_sem, Nat.reduceAdd, Nat.reduceLeDiff, Nat.reduceSub, Int.reduceToNat, reduceCtorEq]) | (refine AQ.nx rfl ?_; first | (refine And.intro ?_ ?_ <;> (try simp only [go_sem, Nat.reduceAdd, Nat.reduceLeDiff, Nat.reduceSub, Int.reduceToNat, reduceCtorEq, BA_size, BA_extract, h32])) | simp only [go_sem, Nat.reduceAdd, Nat.reduceLeDiff, Nat.reduceSub, Int.reduceToNat, reduceCtorEq, BA_size, BA_extract, h32]) | refine AQ.done ?_ | (refine AQ.go (by kernel_rfl) ?_; simp only [go_sem, Nat.reduceAdd, Nat.reduceLeDiff, Nat.reduceSub, Int.reduceToNat, reduceCtorEq, BA_size, BA_extract, h32]; (refine AQ.nx rfl ?_; first | (refine And.intro ?_ ?_ <;> (try simp only [go_sem, Nat.reduceAdd, Nat.reduceLeDiff, Nat.reduceSub, Int.reduceToNat, reduceCtorEq, BA_size, BA_extract, h32])) | simp only [go_sem, Nat.reduceAdd, Nat.reduceLeDiff, Nat.reduceSub, Int.reduceToNat, reduceCtorEq, BA_size, BA_extract, h32])))
        all_goals
          repeat (first | refine xA ?_ | refine xB ?_ | refine xC ?_ | refine xE ?_ | refine xD ?_ | refine xK ?_ | refine xS ?_ | refine xM ?_ | refine xT ?_ | refine xF ?_ | ((first | refine xR ?_ | refine xW ?_ | refine vq_id ?_); simp only [go_sem, Nat.reduceAdd, Nat.reduceLeDiff, Nat.reduceSub, Int.reduceToNat, reduceCtorEq, hw]) | (refine ⟨by first | omega | (intros; simp_all; done) | (intros; simp_all; omega), ?_⟩; try simp only [go_sem, Nat.reduceAdd, Nat.reduceLeDiff, Nat.reduceSub, Int.reduceToNat, reduceCtorEq, hw]))
          exact AE.round (k + 1) (by omega) (by omega) (by repeat (first | exact Sub.nil _ | refine Sub.cons rfl ?_)) (by rw [hm])
      · have hk' : k = S.length := by simp at hcnd; omega
        have hmx : S.foldl mx3 0 = maxN S := rfl
        rw [hk', List.take_length, hmx]
        have hmb := maxN_lt S
        have hw := wr (x := (maxN S : Int) + 1) (by omega)
        repeat (first | refine xA ?_ | refine xB ?_ | refine xC ?_ | refine xE ?_ | refine xD ?_ | refine xK ?_ | refine xS ?_ | refine xM ?_ | refine xT ?_ | refine xF ?_ | ((first | refine xR ?_ | refine xW ?_ | refine vq_id ?_); simp only [go_sem, Nat.reduceAdd, Nat.reduceLeDiff, Nat.reduceSub, Int.reduceToNat, reduceCtorEq, hw]) | (refine ⟨by first | omega | (intros; simp_all; done) | (intros; simp_all; omega), ?_⟩; try simp only [go_sem, Nat.reduceAdd, Nat.reduceLeDiff, Nat.reduceSub, Int.reduceToNat, reduceCtorEq, hw]))
        refine AE.forgets [0] rfl ?_
        simp only [go_sem, Nat.reduceAdd, Nat.reduceLeDiff, Nat.reduceSub, Int.reduceToNat, reduceCtorEq]
        refine AE.rename 28 0 rfl rfl rfl ?_; simp only [go_sem, Nat.reduceAdd, Nat.reduceLeDiff, Nat.reduceSub, Int.reduceToNat, reduceCtorEq]; refine AE.rename 27 1 rfl rfl rfl ?_; simp only [go_sem, Nat.reduceAdd, Nat.reduceLeDiff, Nat.reduceSub, Int.reduceToNat, reduceCtorEq]; refine AE.rename 25 2 rfl rfl rfl ?_; simp only [go_sem, Nat.reduceAdd, Nat.reduceLeDiff, Nat.reduceSub, Int.reduceToNat, reduceCtorEq]
        refine AE.order [2, 1, 0] rfl ?_
        simp only [go_sem, Nat.reduceAdd, Nat.reduceLeDiff, Nat.reduceSub, Int.reduceToNat, reduceCtorEq]
        refine AE.ret rfl ⟨rfl, rfl, trivial⟩ (hr _ _ ⟨?_, rfl⟩)
        rw [q1, q2, q3, q4]
        rfl
end Go.Proofs.Ytoafanbfminhcaa
end

section
namespace Go.Proofs.Ytoafanbfminhcaa
open Go Go.AL Go.RowKit
set_option maxRecDepth 10000
set_option maxHeartbeats 4000000
def fmtS (n : Nat) : List Bs := (newS n).set 0 (blockP 1 0 true [])
theorem format_bad (n : Int) (hn : permI n = false) : PFn Try.prog 11 [Iv n] (.tup [Dk.v nilD, Iv 4]) := by
  refine ACall.walk [0, 2, 3, 4, 5, 12] [2, 4] Try.func11 rfl Try.ntmps11 (by kernel_rfl) (by rfl) rfl fun W own I0 φ0 => ?_
  repeat (first | refine xA ?_ | refine xB ?_ | refine xC ?_ | refine xE ?_ | refine xD ?_ | refine xK ?_ | refine xS ?_ | refine xM ?_ | refine xT ?_ | refine xF ?_ | ((first | refine xR ?_ | refine xW ?_ | refine vq_id ?_); simp only [go_sem, Nat.reduceAdd, Nat.reduceLeDiff, Nat.reduceSub, Int.reduceToNat, reduceCtorEq]) | (refine ⟨by first | omega | (intros; simp_all; done) | (intros; simp_all; omega), ?_⟩; try simp only [go_sem, Nat.reduceAdd, Nat.reduceLeDiff, Nat.reduceSub, Int.reduceToNat, reduceCtorEq]))
  refine AQ.fn (by kernel_rfl) rfl rfl rfl (newDisk_bad n hn) rfl ?_
  repeat (first | refine xA ?_ | refine xB ?_ | refine xC ?_ | refine xE ?_ | refine xD ?_ | refine xK ?_ | refine xS ?_ | refine xM ?_ | refine xT ?_ | refine xF ?_ | ((first | refine xR ?_ | refine xW ?_ | refine vq_id ?_); simp only [go_sem, Nat.reduceAdd, Nat.reduceLeDiff, Nat.reduceSub, Int.reduceToNat, reduceCtorEq]) | (refine ⟨by first | omega | (intros; simp_all; done) | (intros; simp_all; omega), ?_⟩; try simp only [go_sem, Nat.reduceAdd, Nat.reduceLeDiff, Nat.reduceSub, Int.reduceToNat, reduceCtorEq]))
  refine AE.cellsW 0 [.im (.sl 1 []), .im (.sl 2 [])] rfl (cellsLe.nil (cellsLe.nil (cellsLe.refl _))) ?_
  simp only [go_sem, Nat.reduceAdd, Nat.reduceLeDiff, Nat.reduceSub, Int.reduceToNat, reduceCtorEq]
  exact AE.ret0 rfl ⟨⟨rfl, Nat.le_of_ble_eq_true (by kernel_rfl)⟩, rfl, trivial⟩ rfl ⟨rfl, rfl⟩
theorem newS_len (n : Nat) : (newS n).length = n := by simp [newS]
theorem format_ok (n : Nat) (hn : okN n = true) : PFn Try.prog 11 [Iv n] (.tup [Dk.v ⟨fmtS n, []⟩, Iv 0]) := by
  obtain ⟨h4, h2000, _⟩ := okN_le hn
  have hl := newS_len n
  have hset : (blkR (newS n)).set 0 (IV.v (Value.string (BA (blockP 1 0 true []))) :: List.drop 1 ((blkR (newS n)).getD 0 [])) = blkR (fmtS n) := by
    rw [blkR_get _ 0 (by omega)]; simp only [List.drop_succ_cons, List.drop_zero]; exact blkR_set _ _ _
  have hbl : (blkR (fmtS n)).length = n := by rw [blkR_len, fmtS, List.length_set, hl]
  refine ACall.walk [0, 2, 3, 4, 5, 12] [2, 4] Try.func11 rfl Try.ntmps11 (by kernel_rfl) (by rfl) rfl fun W own I0 φ0 => ?_
  repeat (first | refine xA ?_ | refine xB ?_ | refine xC ?_ | refine xE ?_ | refine xD ?_ | refine xK ?_ | refine xS ?_ | refine xM ?_ | refine xT ?_ | refine xF ?_ | ((first | refine xR ?_ | refine xW ?_ | refine vq_id ?_); simp only [go_sem, Nat.reduceAdd, Nat.reduceLeDiff, Nat.reduceSub, Int.reduceToNat, reduceCtorEq]) | (refine ⟨by first | omega | (intros; simp_all; done) | (intros; simp_all; omega), ?_⟩; try simp only [go_sem, Nat.reduceAdd, Nat.reduceLeDiff, Nat.reduceSub, Int.reduceToNat, reduceCtorEq]))
  refine AQ.callv (by kernel_rfl) rfl rfl rfl (newDisk_own n hn) fun r' H' ⟨e1, e2⟩ => ?_
  subst e1; subst e2
  simp only [go_sem, Nat.reduceAdd, Nat.reduceLeDiff, Nat.reduceSub, Int.reduceToNat, reduceCtorEq]
  repeat (first | refine xA ?_ | refine xB ?_ | refine xC ?_ | refine xE ?_ | refine xD ?_ | refine xK ?_ | refine xS ?_ | refine xM ?_ | refine xT ?_ | refine xF ?_ | ((first | refine xR ?_ | refine xW ?_ | refine vq_id ?_); simp only [go_sem, Nat.reduceAdd, Nat.reduceLeDiff, Nat.reduceSub, Int.reduceToNat, reduceCtorEq]) | (refine ⟨by first | omega | (intros; simp_all; done) | (intros; simp_all; omega), ?_⟩; try simp only [go_sem, Nat.reduceAdd, Nat.reduceLeDiff, Nat.reduceSub, Int.reduceToNat, reduceCtorEq]))
  refine AP.drawE 6 (Tree.node [] [0, 1, 2] [3] [Tree.node [0, 1] [4] [5] [Tree.node [] [] [] []]]) (by kernel_rfl) rfl (by kernel_rfl) (by kernel_rfl) ?_
  refine vd_node ?_
  simp only [go_sem, Nat.reduceAdd, Nat.reduceLeDiff, Nat.reduceSub, Int.reduceToNat, reduceCtorEq]
  refine AQ.fn (by kernel_rfl) rfl rfl rfl (bytes_spec 1 0 true [] (by decide) (by decide) (by decide)) rfl ?_
  simp only [go_sem, Nat.reduceAdd, Nat.reduceLeDiff, Nat.reduceSub, Int.reduceToNat, reduceCtorEq]
  refine AQ.nx rfl ?_
  simp only [go_sem, Nat.reduceAdd, Nat.reduceLeDiff, Nat.reduceSub, Int.reduceToNat, reduceCtorEq]
  repeat (with_reducible refine And.intro (by omega) ?_)
  refine AQ.go (by kernel_rfl) ?_
  simp only [go_sem, Nat.reduceAdd, Nat.reduceLeDiff, Nat.reduceSub, Int.reduceToNat, reduceCtorEq, hset]
  refine And.intro (by rw [blkR_len, hl]; omega) ?_
  refine AQ.nx rfl ?_
  simp only [go_sem, Nat.reduceAdd, Nat.reduceLeDiff, Nat.reduceSub, Int.reduceToNat, reduceCtorEq, hset]
  refine AQ.done ?_
  repeat (first | refine xA ?_ | refine xB ?_ | refine xC ?_ | refine xE ?_ | refine xD ?_ | refine xK ?_ | refine xS ?_ | refine xM ?_ | refine xT ?_ | refine xF ?_ | ((first | refine xR ?_ | refine xW ?_ | refine vq_id ?_); simp only [go_sem, Nat.reduceAdd, Nat.reduceLeDiff, Nat.reduceSub, Int.reduceToNat, reduceCtorEq, hbl]) | (refine ⟨by first | omega | (intros; simp_all; done) | (intros; simp_all; omega), ?_⟩; try simp only [go_sem, Nat.reduceAdd, Nat.reduceLeDiff, Nat.reduceSub, Int.reduceToNat, reduceCtorEq, hbl]))
  refine AE.freeze 2 (el := 9) (es := 1) (rows := blkR (fmtS n)) rfl (by simp only [go_sem, Nat.reduceAdd, Nat.reduceLeDiff, Nat.reduceSub, Int.reduceToNat, reduceCtorEq, hbl]; first | done | trivial | omega | (simp; done) | (simp; omega)) (by simp only [go_sem, Nat.reduceAdd, Nat.reduceLeDiff, Nat.reduceSub, Int.reduceToNat, reduceCtorEq, hbl]; first | done | trivial | omega | (simp; done) | (simp; omega)) ?_; simp only [go_sem, Nat.reduceAdd, Nat.reduceLeDiff, Nat.reduceSub, Int.reduceToNat, reduceCtorEq, hbl]
  rw [take_all' (blkR (fmtS n)) _ (Nat.le_of_eq hbl)]
  exact AE.ret0 rfl ⟨⟨rfl, Nat.le_of_ble_eq_true (by kernel_rfl)⟩, rfl, trivial⟩ rfl ⟨rfl, rfl⟩
end Go.Proofs.Ytoafanbfminhcaa
end

section
namespace Go.Proofs.Ytoafanbfminhcaa
open Go Go.AL Go.RowKit
set_option maxRecDepth 100000
set_option maxHeartbeats 4000000
def b0 : Bs := [1, 0, 0, 0, 0, 0, 0, 0, 128, 0, 0, 0, 0, 0, 0, 0, 1, 0, 0, 0, 0, 0, 0, 0, 0, 0, 0, 0, 0, 0, 0, 0]
def b1 : Bs := [2, 0, 0, 0, 1, 0, 0, 0, 129, 97, 0, 0, 0, 0, 0, 0, 2, 0, 0, 0, 0, 0, 0, 0, 0, 0, 0, 0, 0, 0, 0, 0]
def ex0 : Dk := ⟨[b0, z32, z32, z32], []⟩
theorem ex_fmt : (⟨fmtS 4, []⟩ : Dk) = ex0 := by kernel_rfl
theorem ex_ok : ex0.Ok := (ex0.chk_ok).1 (by kernel_rfl)
theorem ex_a : arA ex0.syncD.B = ⟨1, [], [[]], 1, 1, 1, false⟩ := by kernel_rfl
theorem ex_b : arB ex0.syncD.B = sc0 := by kernel_rfl
def exJ : Jn := ⟨[b0, z32, z32, z32], [], 0, [[]], 1, 1, 1, 2⟩
theorem ex_j : openJ ex0 ⟨1, [], [[]], 1, 1, 1, false⟩ 0 = exJ := by kernel_rfl
def exJ1 : Jn := ⟨[b0, z32, z32, z32], [(1, b1)], 0, [[], [97]], 2, 1, 2, 3⟩
theorem ex_j1 : exJ.wrote 0 1 1 [97] = exJ1 := by kernel_rfl
theorem ex_get : exJ1.D.getS 1 = b1 := by kernel_rfl
theorem ex_gete : exJ1.D.getE 1 = 0 := by kernel_rfl
theorem ex_sz : exJ.Sz := ⟨by decide, .inl rfl, by decide, by decide, by decide, by decide, by decide, by decide, by decide⟩
theorem awake_spec : PFn Try.prog 10 [] (Bv true) := by
  have hf := format_ok 4 (by decide)
  rw [ex_fmt] at hf
  have hop := open_walk ex0 ⟨by decide, by decide⟩ ex_ok
  rw [ex_a, ex_b] at hop
  have hop : ACall Try.prog 12 [ex0.v] [] (fun r H' => H' = exJ.H 1 2 ∧ r = .tup [.ob 0 0, Iv 0]) := hop.mono fun r H' h => by
    have := h.2 _ 0 (.inl ⟨rfl, rfl, by decide, by decide⟩)
    rw [ex_j] at this; exact this
  have hap := append_ok exJ 0 [97] ex_sz rfl (by kernel_rfl)
  rw [show exJ.used = 1 from rfl, show exJ.last = 1 from rfl, ex_j1] at hap
  have hdk := disk_own exJ1 ⟨by decide, by decide⟩
  have hgt := get_spec exJ1.D 1 ⟨by decide, by decide⟩
  rw [ex_get, ex_gete] at hgt
  have hrp := repeat_spec [0] 15 (by decide) (by decide)
  refine ACall.walk [0, 1, 2, 3, 4, 26, 38] [1] Try.func10 rfl Try.ntmps10 (by kernel_rfl) (by rfl) rfl fun W own I0 φ0 => ?_
  repeat (first | refine xA ?_ | refine xB ?_ | refine xC ?_ | refine xE ?_ | refine xD ?_ | refine xK ?_ | refine xS ?_ | refine xM ?_ | refine xT ?_ | refine xF ?_ | ((first | refine xR ?_ | refine xW ?_ | refine vq_id ?_); simp only [go_sem, Nat.reduceAdd, Nat.reduceLeDiff, Nat.reduceSub, Int.reduceToNat, reduceCtorEq]) | (refine ⟨by first | omega | (intros; simp_all; done) | (intros; simp_all; omega), ?_⟩; try simp only [go_sem, Nat.reduceAdd, Nat.reduceLeDiff, Nat.reduceSub, Int.reduceToNat, reduceCtorEq]))
  refine AQ.fn (by kernel_rfl) rfl rfl rfl (hf) rfl ?_
  repeat (first | refine xA ?_ | refine xB ?_ | refine xC ?_ | refine xE ?_ | refine xD ?_ | refine xK ?_ | refine xS ?_ | refine xM ?_ | refine xT ?_ | refine xF ?_ | ((first | refine xR ?_ | refine xW ?_ | refine vq_id ?_); simp only [go_sem, Nat.reduceAdd, Nat.reduceLeDiff, Nat.reduceSub, Int.reduceToNat, reduceCtorEq, Int.reduceBNe, blkR_len]) | (refine ⟨by first | omega | (intros; simp_all; done) | (intros; simp_all; omega), ?_⟩; try simp only [go_sem, Nat.reduceAdd, Nat.reduceLeDiff, Nat.reduceSub, Int.reduceToNat, reduceCtorEq, Int.reduceBNe, blkR_len]))
  have hL : (((ex0.B.length : Nat) : Int) != 4) = false := by decide
  have hG : (blkR ex0.B).getD 0 [] = [Si b0] := rfl
  refine AP.drawE 17 (Tree.node [] [0, 1, 2, 3, 4, 5, 6, 7, 8, 9, 10, 11, 12] [13] [Tree.node [9, 10, 11, 12] [14, 15, 16] [] []]) (by kernel_rfl) rfl (by kernel_rfl) (by kernel_rfl) ?_
  refine vd_node ?_
  simp only [go_sem, Nat.reduceAdd, Nat.reduceLeDiff, Nat.reduceSub, Int.reduceToNat, reduceCtorEq, Int.reduceBNe, blkR_len, hL, hG]
  refine And.intro (by decide) ?_
  refine AQ.guard_yes (by simp only [go_sem]) ?_
  refine AQ.fn (by kernel_rfl) rfl rfl rfl (hrp) rfl ?_
  simp only [go_sem, Nat.reduceAdd, Nat.reduceLeDiff, Nat.reduceSub, Int.reduceToNat, reduceCtorEq, Int.reduceBNe]
  refine AQ.nx rfl ?_
  simp only [go_sem, Nat.reduceAdd, Nat.reduceLeDiff, Nat.reduceSub, Int.reduceToNat, reduceCtorEq, Int.reduceBNe, blkR_len, hL, hG]
  refine And.intro (by decide) (And.intro (by decide) ?_)
  refine AQ.done ?_
  have hE : (b0 == 1 :: 0 :: 0 :: 0 :: 0 :: 0 :: 0 :: 0 :: 128 :: 0 :: 0 :: 0 :: 0 :: 0 :: 0 :: 0 :: 1 :: Lib.repeatL [0] 15) = true := by decide
  repeat (first | refine xA ?_ | refine xB ?_ | refine xC ?_ | refine xE ?_ | refine xD ?_ | refine xK ?_ | refine xS ?_ | refine xM ?_ | refine xT ?_ | refine xF ?_ | ((first | refine xR ?_ | refine xW ?_ | refine vq_id ?_); simp only [go_sem, Nat.reduceAdd, Nat.reduceLeDiff, Nat.reduceSub, Int.reduceToNat, reduceCtorEq, hE]) | (refine ⟨by first | omega | (intros; simp_all; done) | (intros; simp_all; omega), ?_⟩; try simp only [go_sem, Nat.reduceAdd, Nat.reduceLeDiff, Nat.reduceSub, Int.reduceToNat, reduceCtorEq, hE]))
  refine AQ.callv (by kernel_rfl) rfl rfl rfl hop fun r' H' ⟨e1, e2⟩ => ?_
  subst e1; subst e2
  simp only [go_sem, Nat.reduceAdd, Nat.reduceLeDiff, Nat.reduceSub, Int.reduceToNat, reduceCtorEq, Jn.H]
  repeat (first | refine xA ?_ | refine xB ?_ | refine xC ?_ | refine xE ?_ | refine xD ?_ | refine xK ?_ | refine xS ?_ | refine xM ?_ | refine xT ?_ | refine xF ?_ | ((first | refine xR ?_ | refine xW ?_ | refine vq_id ?_); simp only [go_sem, Nat.reduceAdd, Nat.reduceLeDiff, Nat.reduceSub, Int.reduceToNat, reduceCtorEq, Int.reduceBNe]) | (refine ⟨by first | omega | (intros; simp_all; done) | (intros; simp_all; omega), ?_⟩; try simp only [go_sem, Nat.reduceAdd, Nat.reduceLeDiff, Nat.reduceSub, Int.reduceToNat, reduceCtorEq, Int.reduceBNe]))
  refine AQ.guard_yes (by simp only [go_sem]) ?_
  refine AQ.callH [(2, 3), (1, 2), (0, 1)] (by kernel_rfl) rfl rfl rfl rfl rfl rfl (by exact ⟨rfl, rfl, rfl, trivial⟩) rfl hap ?_
  rintro r H1 ⟨rfl, rfl⟩
  refine ⟨rfl, ?_⟩
  simp only [go_sem, Nat.reduceAdd, Nat.reduceLeDiff, Nat.reduceSub, Int.reduceToNat, reduceCtorEq, Jn.H]
  repeat (first | refine xA ?_ | refine xB ?_ | refine xC ?_ | refine xE ?_ | refine xD ?_ | refine xK ?_ | refine xS ?_ | refine xM ?_ | refine xT ?_ | refine xF ?_ | ((first | refine xR ?_ | refine xW ?_ | refine vq_id ?_); simp only [go_sem, Nat.reduceAdd, Nat.reduceLeDiff, Nat.reduceSub, Int.reduceToNat, reduceCtorEq, Int.reduceBNe]) | (refine ⟨by first | omega | (intros; simp_all; done) | (intros; simp_all; omega), ?_⟩; try simp only [go_sem, Nat.reduceAdd, Nat.reduceLeDiff, Nat.reduceSub, Int.reduceToNat, reduceCtorEq, Int.reduceBNe]))
  refine AQ.callL ([.im (.pt exJ1.ic)]) (by kernel_rfl) rfl rfl rfl (by ((try simp only [List.nil_append, List.append_nil, List.map_cons, List.map_nil, AV.st, constAV]); repeat (first | with_reducible exact LentC.nil | with_reducible exact LentAs.nil | with_reducible refine LentC.cons ?_ ?_ | with_reducible refine LentAs.cons ?_ ?_ | with_reducible exact Lent.im _ | with_reducible exact LentA.im _ | with_reducible refine LentA.of ?_ | with_reducible refine LentA.agg ?_ | ((with_reducible apply Lent.osw); rfl; simp only [blkR_len, wrR_len, byteR_len, List.length_append, List.length_cons, List.length_nil]) | ((with_reducible apply Lent.ob0); rfl)))) (hdk) fun r1 H1 ⟨e1, e2⟩ => ?_; subst e1; subst e2; refine ⟨rfl, ⟨blkR_plain _, wrR_plain _, trivial⟩, ?_⟩
  simp only [go_sem, Nat.reduceAdd, Nat.reduceLeDiff, Nat.reduceSub, Int.reduceToNat, reduceCtorEq]
  refine AQ.go (by kernel_rfl) ?_
  simp only [go_sem, Nat.reduceAdd, Nat.reduceLeDiff, Nat.reduceSub, Int.reduceToNat, reduceCtorEq]
  refine AQ.fnL ([exJ1.D.v, Iv 1]) (by kernel_rfl) rfl rfl rfl (by ((try simp only [List.nil_append, List.append_nil, List.map_cons, List.map_nil, AV.st, constAV]); repeat (first | with_reducible exact LentC.nil | with_reducible exact LentAs.nil | with_reducible refine LentC.cons ?_ ?_ | with_reducible refine LentAs.cons ?_ ?_ | with_reducible exact Lent.im _ | with_reducible exact LentA.im _ | with_reducible refine LentA.of ?_ | with_reducible refine LentA.agg ?_ | ((with_reducible apply Lent.osw); rfl; simp only [blkR_len, wrR_len, byteR_len, List.length_append, List.length_cons, List.length_nil]) | ((with_reducible apply Lent.ob0); rfl)))) (hgt) rfl (fun _ => rfl) ?_
  simp only [go_sem, Nat.reduceAdd, Nat.reduceLeDiff, Nat.reduceSub, Int.reduceToNat, reduceCtorEq]
  repeat (first | refine xA ?_ | refine xB ?_ | refine xC ?_ | refine xE ?_ | refine xD ?_ | refine xK ?_ | refine xS ?_ | refine xM ?_ | refine xT ?_ | refine xF ?_ | ((first | refine xR ?_ | refine xW ?_ | refine vq_id ?_); simp only [go_sem, Nat.reduceAdd, Nat.reduceLeDiff, Nat.reduceSub, Int.reduceToNat, reduceCtorEq, BA_size]) | (refine ⟨by first | omega | (intros; simp_all; done) | (intros; simp_all; omega), ?_⟩; try simp only [go_sem, Nat.reduceAdd, Nat.reduceLeDiff, Nat.reduceSub, Int.reduceToNat, reduceCtorEq, BA_size]))
  exact AE.retD [1, 10, 11, 8, 7, 0] rfl ⟨rfl, trivial⟩ rfl ⟨rfl, rfl⟩
end Go.Proofs.Ytoafanbfminhcaa
end

section
namespace Go.Proofs.Ytoafanbfminhcaa
open Go Go.AL Go.RowKit
set_option maxRecDepth 10000
set_option maxHeartbeats 4000000
structure Ac where
  k : Nat
  t : Bs
  f : List Int
abbrev Ac.v (a : Ac) : AV := .agg [.im (.v (.int .u8 a.k)), Sv a.t, Fv a.f]
abbrev Ac.r (a : Ac) : List IV := [.v (.int .u8 a.k), Si a.t, .sl 1 (intR a.f)]
def acR (l : List Ac) : List (List IV) := l.map Ac.r
theorem acR_len (l : List Ac) : (acR l).length = l.length := by simp [acR]
theorem acR_get (l : List Ac) (k : Nat) (h : k < l.length) : (acR l).getD k [] = (l.getD k ⟨0, [], []⟩).r := by
  simp [acR, List.getD_eq_getElem?_getD, h]
def longA (a : Ac) : Bool := (decide (300 < (a.t.length : Int)) && decide ((a.t.length : Int) ≤ 10000)) || decide (10100 < (a.t.length : Int)) || decide (100 < (a.f.length : Int))
theorem longA_spec (a : Ac) : PFn Try.prog 48 [a.v] (Bv (longA a)) := by
  unfold longA
  refine ACall.walk [0, 1, 2] [] Try.func48 rfl Try.ntmps48 (by kernel_rfl) (by rfl) rfl fun W own I0 φ0 => ?_
  repeat (first | refine xA ?_ | refine xB ?_ | refine xC ?_ | refine xE ?_ | refine xD ?_ | refine xK ?_ | refine xS ?_ | refine xM ?_ | refine xT ?_ | refine xF ?_ | ((first | refine xR ?_ | refine xW ?_ | refine vq_id ?_); simp only [go_sem, Nat.reduceAdd, Nat.reduceLeDiff, Nat.reduceSub, Int.reduceToNat, reduceCtorEq, BA_size, intR_len]) | (refine ⟨by first | omega | (intros; simp_all; done) | (intros; simp_all; omega), ?_⟩; try simp only [go_sem, Nat.reduceAdd, Nat.reduceLeDiff, Nat.reduceSub, Int.reduceToNat, reduceCtorEq, BA_size, intR_len]))
  exact AE.ret0 rfl ⟨rfl, trivial⟩ rfl ⟨rfl, rfl⟩
theorem idxAc (B : List Ac) (hB : B.length < 9223372036854775808) : PFn Try.prog 76 [.im (.sl 3 (acR B)), .fn 48 [] []] (Iv (idxS longA B 0)) := by
  refine ACall.walk [0, 1, 4, 5, 7, 8, 9, 16] [] Try.func76 rfl Try.ntmps76 (by kernel_rfl) (by rfl) rfl fun W own I0 φ0 => ?_
  repeat (first | refine xA ?_ | refine xB ?_ | refine xC ?_ | refine xE ?_ | refine xD ?_ | refine xK ?_ | refine xS ?_ | refine xM ?_ | refine xT ?_ | refine xF ?_ | ((first | refine xR ?_ | refine xW ?_ | refine vq_id ?_); simp only [go_sem, Nat.reduceAdd, Nat.reduceLeDiff, Nat.reduceSub, Int.reduceToNat, reduceCtorEq]) | (refine ⟨by first | omega | (intros; simp_all; done) | (intros; simp_all; omega), ?_⟩; try simp only [go_sem, Nat.reduceAdd, Nat.reduceLeDiff, Nat.reduceSub, Int.reduceToNat, reduceCtorEq]))
  refine AP.loop rfl (α := Nat) (fun k => [(0, .im (.sl 3 (acR B))), (1, .fn 48 [] []), (7, Iv (acR B).length), (8, Iv k)]) (fun _ => []) (fun k => k ≤ B.length ∧ idxS longA B 0 = idxS longA (B.drop k) k) (fun k => B.length - k) 0 ⟨by omega, rfl⟩ (by repeat (first | exact Sub.nil _ | refine Sub.cons rfl ?_)) rfl fun k ⟨hk, hi⟩ => ?_
  repeat (first | refine xA ?_ | refine xB ?_ | refine xC ?_ | refine xE ?_ | refine xD ?_ | refine xK ?_ | refine xS ?_ | refine xM ?_ | refine xT ?_ | refine xF ?_ | ((first | refine xR ?_ | refine xW ?_ | refine vq_id ?_); simp only [go_sem, Nat.reduceAdd, Nat.reduceLeDiff, Nat.reduceSub, Int.reduceToNat, reduceCtorEq, acR_len]) | (refine ⟨by first | omega | (intros; simp_all; done) | (intros; simp_all; omega), ?_⟩; try simp only [go_sem, Nat.reduceAdd, Nat.reduceLeDiff, Nat.reduceSub, Int.reduceToNat, reduceCtorEq, acR_len]))
  refine AP.cond rfl rfl (fun hc => ?_) (fun hc => ?_)
  · have hk' : k < B.length := by simp at hc; omega
    have hw := wr (x := (k : Int) + 1) (by omega)
    rw [drop_get B k ⟨0, [], []⟩ hk', idxS] at hi
    have hg := acR_get B k hk'
    repeat (first | refine xA ?_ | refine xB ?_ | refine xC ?_ | refine xE ?_ | refine xD ?_ | refine xK ?_ | refine xS ?_ | refine xM ?_ | refine xT ?_ | refine xF ?_ | ((first | refine xR ?_ | refine xW ?_ | refine vq_id ?_); simp only [go_sem, Nat.reduceAdd, Nat.reduceLeDiff, Nat.reduceSub, Int.reduceToNat, reduceCtorEq, hg, acR_len]) | (refine ⟨by first | omega | (intros; simp_all; done) | (intros; simp_all; omega), ?_⟩; try simp only [go_sem, Nat.reduceAdd, Nat.reduceLeDiff, Nat.reduceSub, Int.reduceToNat, reduceCtorEq, hg, acR_len]))
    refine AQ.callI (by kernel_rfl) rfl rfl rfl (longA_spec (B.getD k ⟨0, [], []⟩)) ?_
    repeat (first | refine xA ?_ | refine xB ?_ | refine xC ?_ | refine xE ?_ | refine xD ?_ | refine xK ?_ | refine xS ?_ | refine xM ?_ | refine xT ?_ | refine xF ?_ | ((first | refine xR ?_ | refine xW ?_ | refine vq_id ?_); simp only [go_sem, Nat.reduceAdd, Nat.reduceLeDiff, Nat.reduceSub, Int.reduceToNat, reduceCtorEq]) | (refine ⟨by first | omega | (intros; simp_all; done) | (intros; simp_all; omega), ?_⟩; try simp only [go_sem, Nat.reduceAdd, Nat.reduceLeDiff, Nat.reduceSub, Int.reduceToNat, reduceCtorEq]))
    refine AP.cond rfl rfl (fun hb => ?_) (fun hb => ?_)
    · rw [if_pos hb] at hi
      repeat (first | refine xA ?_ | refine xB ?_ | refine xC ?_ | refine xE ?_ | refine xD ?_ | refine xK ?_ | refine xS ?_ | refine xM ?_ | refine xT ?_ | refine xF ?_ | ((first | refine xR ?_ | refine xW ?_ | refine vq_id ?_); simp only [go_sem, Nat.reduceAdd, Nat.reduceLeDiff, Nat.reduceSub, Int.reduceToNat, reduceCtorEq]) | (refine ⟨by first | omega | (intros; simp_all; done) | (intros; simp_all; omega), ?_⟩; try simp only [go_sem, Nat.reduceAdd, Nat.reduceLeDiff, Nat.reduceSub, Int.reduceToNat, reduceCtorEq]))
      exact AE.ret rfl ⟨rfl, trivial⟩ ⟨rfl, by rw [hi]; rfl⟩
    · rw [if_neg (by rw [hb]; exact Bool.false_ne_true)] at hi
      repeat (first | refine xA ?_ | refine xB ?_ | refine xC ?_ | refine xE ?_ | refine xD ?_ | refine xK ?_ | refine xS ?_ | refine xM ?_ | refine xT ?_ | refine xF ?_ | ((first | refine xR ?_ | refine xW ?_ | refine vq_id ?_); simp only [go_sem, Nat.reduceAdd, Nat.reduceLeDiff, Nat.reduceSub, Int.reduceToNat, reduceCtorEq, hw]) | (refine ⟨by first | omega | (intros; simp_all; done) | (intros; simp_all; omega), ?_⟩; try simp only [go_sem, Nat.reduceAdd, Nat.reduceLeDiff, Nat.reduceSub, Int.reduceToNat, reduceCtorEq, hw]))
      exact AE.round (k + 1) ⟨by omega, hi⟩ (by omega) (by repeat (first | exact Sub.nil _ | refine Sub.cons rfl ?_)) rfl
  · have hk' : k = B.length := by simp at hc; omega
    rw [List.drop_eq_nil_of_le (by omega), idxS] at hi
    repeat (first | refine xA ?_ | refine xB ?_ | refine xC ?_ | refine xE ?_ | refine xD ?_ | refine xK ?_ | refine xS ?_ | refine xM ?_ | refine xT ?_ | refine xF ?_ | ((first | refine xR ?_ | refine xW ?_ | refine vq_id ?_); simp only [go_sem, Nat.reduceAdd, Nat.reduceLeDiff, Nat.reduceSub, Int.reduceToNat, reduceCtorEq]) | (refine ⟨by first | omega | (intros; simp_all; done) | (intros; simp_all; omega), ?_⟩; try simp only [go_sem, Nat.reduceAdd, Nat.reduceLeDiff, Nat.reduceSub, Int.reduceToNat, reduceCtorEq]))
    exact AE.ret rfl ⟨rfl, trivial⟩ ⟨rfl, by rw [hi]; rfl⟩
theorem short_spec (l : List Ac) (hl : l.length < 9223372036854775808) : PFn Try.prog 9 [.im (.sl 3 (acR l))] (Bv (decide ((l.length : Int) ≤ 40) && !l.any longA)) := by
  have ha : PFn Try.prog 47 [.im (.sl 3 (acR l)), .fn 48 [] []] (Bv (l.any longA)) := by
    refine ACall.walk [0, 1, 4] [] Try.func47 rfl Try.ntmps47 (by kernel_rfl) (by rfl) rfl fun W own I0 φ0 => ?_
    repeat (first | refine xA ?_ | refine xB ?_ | refine xC ?_ | refine xE ?_ | refine xD ?_ | refine xK ?_ | refine xS ?_ | refine xM ?_ | refine xT ?_ | refine xF ?_ | ((first | refine xR ?_ | refine xW ?_ | refine vq_id ?_); simp only [go_sem, Nat.reduceAdd, Nat.reduceLeDiff, Nat.reduceSub, Int.reduceToNat, reduceCtorEq]) | (refine ⟨by first | omega | (intros; simp_all; done) | (intros; simp_all; omega), ?_⟩; try simp only [go_sem, Nat.reduceAdd, Nat.reduceLeDiff, Nat.reduceSub, Int.reduceToNat, reduceCtorEq]))
    refine AQ.fn (by kernel_rfl) rfl rfl rfl (idxAc l hl) rfl ?_
    repeat (first | refine xA ?_ | refine xB ?_ | refine xC ?_ | refine xE ?_ | refine xD ?_ | refine xK ?_ | refine xS ?_ | refine xM ?_ | refine xT ?_ | refine xF ?_ | ((first | refine xR ?_ | refine xW ?_ | refine vq_id ?_); simp only [go_sem, Nat.reduceAdd, Nat.reduceLeDiff, Nat.reduceSub, Int.reduceToNat, reduceCtorEq, idxS_any]) | (refine ⟨by first | omega | (intros; simp_all; done) | (intros; simp_all; omega), ?_⟩; try simp only [go_sem, Nat.reduceAdd, Nat.reduceLeDiff, Nat.reduceSub, Int.reduceToNat, reduceCtorEq, idxS_any]))
    exact AE.ret0 rfl ⟨rfl, trivial⟩ rfl ⟨rfl, rfl⟩
  refine ACall.walk [0, 2] [] Try.func9 rfl Try.ntmps9 (by kernel_rfl) (by rfl) rfl fun W own I0 φ0 => ?_
  repeat (first | refine xA ?_ | refine xB ?_ | refine xC ?_ | refine xE ?_ | refine xD ?_ | refine xK ?_ | refine xS ?_ | refine xM ?_ | refine xT ?_ | refine xF ?_ | ((first | refine xR ?_ | refine xW ?_ | refine vq_id ?_); simp only [go_sem, Nat.reduceAdd, Nat.reduceLeDiff, Nat.reduceSub, Int.reduceToNat, reduceCtorEq, acR_len]) | (refine ⟨by first | omega | (intros; simp_all; done) | (intros; simp_all; omega), ?_⟩; try simp only [go_sem, Nat.reduceAdd, Nat.reduceLeDiff, Nat.reduceSub, Int.reduceToNat, reduceCtorEq, acR_len]))
  refine AQ.fn_g (by kernel_rfl) rfl rfl (fun h => by first | (simp [gs, AV.g]; done) | (simp [gs, AV.g, constAV]; done) | (simp [gs, AV.g, constAV, bw] at h ⊢; done) | (simp [bw] at h; done) | (simp [gs, AV.g, bw] at h ⊢; simp [h]; done) | (simp [gs, AV.g, bw] at h ⊢; exact h.1) | (simp [gs, AV.g]; rfl) | (simp [gs, AV.g, bw] at h ⊢; rfl) | (simp [gs, AV.g, bw] at h ⊢; simp [h]; rfl) | (simp [gs, AV.g, bw] at h ⊢; simp_all)) rfl (fun _ => ha) rfl ?_
  repeat (first | refine xA ?_ | refine xB ?_ | refine xC ?_ | refine xE ?_ | refine xD ?_ | refine xK ?_ | refine xS ?_ | refine xM ?_ | refine xT ?_ | refine xF ?_ | ((first | refine xR ?_ | refine xW ?_ | refine vq_id ?_); simp only [go_sem, Nat.reduceAdd, Nat.reduceLeDiff, Nat.reduceSub, Int.reduceToNat, reduceCtorEq]) | (refine ⟨by first | omega | (intros; simp_all; done) | (intros; simp_all; omega), ?_⟩; try simp only [go_sem, Nat.reduceAdd, Nat.reduceLeDiff, Nat.reduceSub, Int.reduceToNat, reduceCtorEq]))
  exact AE.ret0 rfl ⟨rfl, trivial⟩ rfl ⟨rfl, rfl⟩
end Go.Proofs.Ytoafanbfminhcaa
end

section
namespace Go.Proofs.Ytoafanbfminhcaa
open Go Go.AL Go.RowKit
theorem n4_eq (l : Bs) : n4 l = num4 (l.getD 0 0) (l.getD 1 0) (l.getD 2 0) (l.getD 3 0) := by unfold n4; rfl
end Go.Proofs.Ytoafanbfminhcaa
end

section
namespace Go.Proofs.Ytoafanbfminhcaa
open Go Go.AL
set_option maxRecDepth 10000
theorem n4_le4 (n : Nat) (h : n < 4294967296) : n4 (le4 n) = n := by
  rw [n4_eq]; exact num_le4 n h
def nF (s : Bs) : Nat := n4 (s.take 4)
def nB (s : Bs) : Nat := n4 ((s.drop 16).take 4)
def nL (s : Bs) : Nat := n4 ((s.drop 4).take 4)
theorem body4 (s : Bs) (h : s.length = 32) : (bodyOf s).take 4 = (s.drop 4).take 4 := by
  unfold bodyOf
  rw [List.take_append_of_le_length (by simp; omega), List.take_take]; rfl
theorem readP_some {s : Bs} {p : Pc} (h : readP s = some p) : s.length = 32 ∧ p.s = nF s ∧ p.s = nB s ∧ p.k = nL s ∧ p.s ≠ 0 := by
  unfold readP at h
  split at h
  · rename_i h32
    unfold readG at h
    split at h
    · cases h
    · rename_i hc
      split at h
      · cases h
        refine ⟨h32, rfl, ?_, ?_, ?_⟩
        · simp only [nB]; omega
        · simp only [nL]; rw [body4 s h32]
        · simp only; omega
      · cases h
  · cases h
section
variable (s k : Nat) (last : Bool) (t : Bs) (hs : s < 4294967296) (hk : k < 4294967296) (ht : t.length ≤ 19)
theorem blockP_len (ht : t.length ≤ 19) : (blockP s k last t).length = 32 := by
  have := bodyP_len k last ht
  simp only [blockP, List.length_append, List.length_take, List.length_drop, le4_len, this]; omega
theorem blockP_F (hs : s < 4294967296) (ht : t.length ≤ 19) : nF (blockP s k last t) = s := by
  unfold nF blockP
  rw [List.append_assoc, List.append_assoc, List.take_append_of_le_length (by rw [le4_len]; exact Nat.le_refl _), List.take_of_length_le (by rw [le4_len]; exact Nat.le_refl _)]
  exact n4_le4 s hs
theorem blockP_drop16 (ht : t.length ≤ 19) : (blockP s k last t).drop 16 = le4 s ++ (bodyP k last t).drop 12 := by
  have h := bodyP_len k last ht
  unfold blockP
  rw [List.append_assoc (le4 s ++ _), List.drop_append_of_le_length (by simp only [List.length_append, List.length_take, le4_len, h]; omega), List.drop_of_length_le (by simp only [List.length_append, List.length_take, le4_len, h]; omega), List.nil_append]
theorem blockP_B (hs : s < 4294967296) (ht : t.length ≤ 19) : nB (blockP s k last t) = s := by
  unfold nB
  rw [blockP_drop16 s k last t ht, List.take_append_of_le_length (by rw [le4_len]; exact Nat.le_refl _), List.take_of_length_le (by rw [le4_len]; exact Nat.le_refl _)]
  exact n4_le4 s hs
theorem blockP_body (ht : t.length ≤ 19) : bodyOf (blockP s k last t) = bodyP k last t := by
  have h := bodyP_len k last ht
  unfold bodyOf
  have h20 : (blockP s k last t).drop 20 = (bodyP k last t).drop 12 := by
    rw [show (20 : Nat) = 16 + 4 from rfl, ← List.drop_drop, blockP_drop16 s k last t ht, List.drop_append_of_le_length (by rw [le4_len]; exact Nat.le_refl _), List.drop_of_length_le (by rw [le4_len]; exact Nat.le_refl _), List.nil_append]
  have h4 : ((blockP s k last t).drop 4).take 12 = (bodyP k last t).take 12 := by
    unfold blockP
    rw [List.append_assoc, List.append_assoc, List.drop_append_of_le_length (by rw [le4_len]; exact Nat.le_refl _), List.drop_of_length_le (by rw [le4_len]; exact Nat.le_refl _), List.nil_append, List.take_append_of_le_length (by simp only [List.length_take, h]; omega), List.take_take]
    rfl
  rw [h4, h20, List.take_append_drop]
theorem lastB_nat (n : Nat) (h : n ≤ 19) (l : Bool) : (lastB n l).toNat = if l then n + 128 else n := by
  unfold lastB
  rw [UInt8.toNat_ofNat']
  split <;> omega
theorem readP_block (hs0 : s ≠ 0) (hs : s < 4294967296) (hk : k < 4294967296) (ht : t.length ≤ 19) : readP (blockP s k last t) = some ⟨s, k, last, t⟩ := by
  have h := bodyP_len k last ht
  unfold readP
  rw [if_pos (blockP_len s k last t ht), blockP_body s k last t ht]
  have e1 : n4 ((blockP s k last t).take 4) = s := blockP_F s k last t hs ht
  have e2 : n4 (((blockP s k last t).drop 16).take 4) = s := blockP_B s k last t hs ht
  have e3 : n4 ((bodyP k last t).take 4) = k := by
    unfold bodyP
    rw [List.append_assoc, List.append_assoc, List.take_append_of_le_length (by rw [le4_len]; exact Nat.le_refl _), List.take_of_length_le (by rw [le4_len]; exact Nat.le_refl _)]
    exact n4_le4 k hk
  have e4 : lenB (bodyP k last t) = if last then t.length + 128 else t.length := by
    unfold lenB bodyP
    rw [List.append_assoc, List.append_assoc, List.getD_eq_getElem?_getD, List.getElem?_append_right (by rw [le4_len]; exact Nat.le_refl _), le4_len]
    show (lastB t.length last).toNat = _
    exact lastB_nat _ ht _
  have e5 : (bodyP k last t).drop 5 = t ++ zB (19 - t.length) := by
    unfold bodyP
    rw [List.append_assoc (le4 k ++ _), List.drop_append_of_le_length (by simp [le4_len]), List.drop_of_length_le (by simp [le4_len]), List.nil_append]
  rw [e1, e2, e3, e4]
  unfold readG
  have hm : (if last then t.length + 128 else t.length) % 128 = t.length := by split <;> omega
  rw [hm, if_neg (by omega), ← List.drop_drop, e5, List.drop_left, List.take_left]
  rw [if_pos (by simp [zB])]
  congr 2
  cases last <;> simp <;> omega
end
end Go.Proofs.Ytoafanbfminhcaa
end

section
namespace Go.Proofs.Ytoafanbfminhcaa
open Go Go.AL
set_option maxRecDepth 10000
def chP : Nat → List (Option Pc) → List Pc
  | _, [] => []
  | _, none :: _ => []
  | k, some p :: r => if p.k = k then p :: chP p.s r else []
theorem chainL_P : ∀ (B : List Bs) (k : Nat), chainL k B = chP k (B.map readP)
  | [], _ => rfl
  | s :: r, k => by
    rw [chainL, List.map_cons]
    cases h : readP s with
    | none => rfl
    | some p => simp only [chP]; rw [chainL_P r p.s]
def Lkd : Nat → List Pc → Prop
  | _, [] => True
  | k, p :: r => p.k = k ∧ Lkd p.s r
def eS : Nat → List Pc → Nat
  | k, [] => k
  | _, p :: r => eS p.s r
theorem eS_app (p : Pc) : ∀ (L : List Pc) (k : Nat), eS k (L ++ [p]) = p.s
  | [], _ => rfl
  | q :: r, _ => eS_app p r q.s
theorem eS_append : ∀ (L M : List Pc) (k : Nat), eS k (L ++ M) = eS (eS k L) M
  | [], _, _ => rfl
  | q :: r, M, _ => eS_append r M q.s
theorem eS_ne : ∀ (L : List Pc) (k k' : Nat), L ≠ [] → eS k L = eS k' L
  | [], _, _, h => absurd rfl h
  | _ :: _, _, _, _ => rfl
theorem Lkd_append : ∀ (L M : List Pc) (k : Nat), Lkd k (L ++ M) ↔ Lkd k L ∧ Lkd (eS k L) M
  | [], M, k => by simp [Lkd, eS]
  | q :: r, M, k => by simp only [List.cons_append, Lkd, eS, Lkd_append r M q.s]; exact ⟨fun ⟨a, b, c⟩ => ⟨⟨a, b⟩, c⟩, fun ⟨⟨a, b⟩, c⟩ => ⟨a, b, c⟩⟩
theorem chP_app : ∀ (L : List Pc) (X : List (Option Pc)) (k : Nat), Lkd k L → chP k (L.map some ++ X) = L ++ chP (eS k L) X
  | [], _, _, _ => rfl
  | p :: r, X, k, h => by
    simp only [List.map_cons, List.cons_append, chP, if_pos h.1, eS]
    rw [chP_app r X p.s h.2]
theorem chP_lkd : ∀ (X : List (Option Pc)) (k : Nat), Lkd k (chP k X)
  | [], _ => trivial
  | none :: _, _ => trivial
  | some p :: r, k => by
    simp only [chP]
    split
    · rename_i h; exact ⟨h, chP_lkd r p.s⟩
    · trivial
theorem chP_front : ∀ (X : List (Option Pc)) (k : Nat), ∃ Y, X = (chP k X).map some ++ Y
  | [], _ => ⟨[], rfl⟩
  | none :: r, _ => ⟨none :: r, rfl⟩
  | some p :: r, k => by
    simp only [chP]
    split
    · obtain ⟨Y, hY⟩ := chP_front r p.s
      exact ⟨Y, by simp only [List.map_cons, List.cons_append]; rw [← hY]⟩
    · exact ⟨some p :: r, rfl⟩
theorem chP_mem : ∀ (X : List (Option Pc)) (k : Nat) (p : Pc), p ∈ chP k X → some p ∈ X := fun X k p h => by
  obtain ⟨Y, hY⟩ := chP_front X k
  rw [hY]
  exact List.mem_append_left _ (List.mem_map.2 ⟨p, h, rfl⟩)
def run (L : List Pc) : Sc := L.foldl Sc.step sc0
theorem scanS_run (B : List Bs) : scanS B = run (chP 0 (B.map readP)) := by rw [scanS, chainL_P]; rfl
theorem snoc_ind {α : Type} {P : List α → Prop} (h0 : P []) (h1 : ∀ l x, P l → P (l ++ [x])) (l : List α) : P l := by
  have : ∀ m : List α, P m.reverse := fun m => by
    induction m with
    | nil => exact h0
    | cons x r ih => rw [List.reverse_cons]; exact h1 _ _ ih
  have h := this l.reverse
  rwa [List.reverse_reverse] at h
structure RunI (L : List Pc) (st : Sc) : Prop where
  n : st.n = L.length
  u : st.used ≤ L.length
  t : run (L.take st.used) = ⟨st.used, [], st.recs, st.used, if st.used = 0 then 0 else st.first, st.last, false⟩
  d : ∀ p ∈ L.drop st.used, p.last = false
  l : st.last = eS 0 (L.take st.used)
  f : st.first = (L.head?.map (·.s)).getD 0
  r : st.used = 0 → st.recs = []
  q : st.used ≠ 0 → st.recs ≠ []
theorem run_inv (L : List Pc) : RunI L (run L) := by
  refine snoc_ind (P := fun L => RunI L (run L)) ?_ (fun l p ih => ?_) L
  · exact ⟨rfl, Nat.le_refl _, rfl, by simp, rfl, rfl, fun _ => rfl, fun h => absurd rfl h⟩
  · have ih : RunI l (run l) := ih
    show RunI (l ++ [p]) (run (l ++ [p]))
    have hrun : run (l ++ [p]) = (run l).step p := by rw [run, List.foldl_append]; rfl
    obtain ⟨st, hst⟩ : ∃ st, run l = st := ⟨_, rfl⟩
    rw [hst] at ih hrun
    obtain ⟨n, part, recs, used, first, last, w⟩ := st
    obtain ⟨h1, h2, h3, h4, h5, h6, h7, h8⟩ := ih
    simp only at h1 h2 h3 h4 h5 h6 h7 h8
    have hf : (if n = 0 then p.s else first) = (((l ++ [p]).head?).map (·.s)).getD 0 := by
      cases l with
      | nil => simp only [List.length_nil] at h1; rw [if_pos h1]; rfl
      | cons a r => simp only [List.length_cons] at h1; rw [if_neg (by omega), h6]; rfl
    rw [hrun, Sc.step]
    cases hl : p.last with
    | true =>
      simp only [if_true]
      have htk : (l ++ [p]).take (n + 1) = l ++ [p] := List.take_of_length_le (by simp; omega)
      refine ⟨by simp; omega, by simp; omega, ?_, ?_, ?_, hf, fun h => (by simp at h), fun _ => by simp⟩
      · simp only
        rw [htk, hrun, Sc.step, hl]
        simp only [if_true]
        rw [if_neg (show ¬ (n + 1 = 0) by omega)]
      · simp only
        rw [List.drop_of_length_le (by simp; omega)]; simp
      · simp only
        rw [htk, eS_app]
    | false =>
      simp only [Bool.false_eq_true, if_false]
      have htk : (l ++ [p]).take used = l.take used := List.take_append_of_le_length h2
      refine ⟨by simp; omega, by simp; omega, ?_, ?_, ?_, hf, h7, h8⟩
      · simp only
        rw [htk, h3]
        by_cases hu : used = 0
        · simp [hu]
        · rw [if_neg hu, if_neg hu, if_neg (by omega)]
      · simp only
        intro q hq
        rw [List.drop_append_of_le_length h2] at hq
        rcases List.mem_append.1 hq with h | h
        · exact h4 q h
        · simp only [List.mem_singleton] at h; rw [h]; exact hl
      · simp only
        rw [htk]; exact h5
theorem fold_n (M : List Pc) : ∀ a : Sc, (M.foldl Sc.step a).n = a.n + M.length := by
  induction M with
  | nil => intro a; rfl
  | cons p r ih =>
    intro a
    rw [List.foldl_cons, ih]
    have : (a.step p).n = a.n + 1 := by unfold Sc.step; split <;> rfl
    rw [this, List.length_cons]; omega
theorem fold_first (M : List Pc) : ∀ a : Sc, (M.foldl Sc.step a).first = if a.n = 0 then (M.head?.map (·.s)).getD a.first else a.first := by
  induction M with
  | nil => intro a; simp
  | cons p r ih =>
    intro a
    rw [List.foldl_cons, ih]
    have h1 : (a.step p).n = a.n + 1 := by unfold Sc.step; split <;> rfl
    have h2 : (a.step p).first = if a.n = 0 then p.s else a.first := by unfold Sc.step; split <;> rfl
    rw [h1, if_neg (by omega), h2]; rfl
theorem fold_nl (M : List Pc) : ∀ a : Sc, (∀ p ∈ M, p.last = false) → (M.foldl Sc.step a).recs = a.recs ∧ (M.foldl Sc.step a).used = a.used ∧ (M.foldl Sc.step a).last = a.last := by
  induction M with
  | nil => intro a _; exact ⟨rfl, rfl, rfl⟩
  | cons p r ih =>
    intro a h
    rw [List.foldl_cons]
    obtain ⟨h1, h2, h3⟩ := ih (a.step p) (fun q hq => h q (by simp [hq]))
    have hp := h p (by simp)
    have : (a.step p).recs = a.recs ∧ (a.step p).used = a.used ∧ (a.step p).last = a.last := by
      unfold Sc.step; rw [hp]; exact ⟨rfl, rfl, rfl⟩
    rw [h1, h2, h3]; exact this
end Go.Proofs.Ytoafanbfminhcaa
end

section
namespace Go.Proofs.Ytoafanbfminhcaa
open Go Go.AL
set_option maxRecDepth 10000
def pcs (R : Bs) (n l : Nat) : Nat → List Pc
  | 0 => []
  | j + 1 => pcs R n l j ++ [⟨n + j, if j = 0 then l else n + j - 1, partLast R j, partAt R j⟩]
theorem pcs_len (R : Bs) (n l : Nat) : ∀ j, (pcs R n l j).length = j
  | 0 => rfl
  | j + 1 => by rw [pcs, List.length_append, pcs_len R n l j]; rfl
theorem pcs_take (R : Bs) (n l : Nat) : ∀ m i, (pcs R n l m).take i = pcs R n l (min i m)
  | 0, i => by simp [pcs]
  | m + 1, i => by
    by_cases h : i ≤ m
    · rw [pcs, List.take_append_of_le_length (by rw [pcs_len]; exact h), pcs_take R n l m i, Nat.min_eq_left h, Nat.min_eq_left (by omega)]
    · rw [List.take_of_length_le (by rw [pcs_len]; omega), Nat.min_eq_right (by omega)]
theorem pcs_get (R : Bs) (n l : Nat) : ∀ m i p, (pcs R n l m)[i]? = some p → p = (⟨n + i, if i = 0 then l else n + i - 1, partLast R i, partAt R i⟩ : Pc)
  | 0, i, p, h => by simp [pcs] at h
  | m + 1, i, p, h => by
    rw [pcs] at h
    rcases Nat.lt_or_ge i m with hi | hi
    · rw [List.getElem?_append_left (by rw [pcs_len]; exact hi)] at h
      exact pcs_get R n l m i p h
    · rw [List.getElem?_append_right (by rw [pcs_len]; exact hi), pcs_len] at h
      have : i = m := by
        rcases Nat.eq_or_lt_of_le hi with e | e
        · exact e.symm
        · rw [List.getElem?_eq_none (by simp; omega)] at h; cases h
      subst this
      rw [Nat.sub_self] at h
      simp only [List.getElem?_cons_zero, Option.some.injEq] at h
      exact h.symm
theorem pcs_eS (R : Bs) (n l : Nat) (k j : Nat) : eS k (pcs R n l (j + 1)) = n + j := by rw [pcs, eS_app]
theorem pcs_lkd (R : Bs) (n l : Nat) : ∀ j, Lkd l (pcs R n l j)
  | 0 => trivial
  | j + 1 => by
    rw [pcs, Lkd_append]
    refine ⟨pcs_lkd R n l j, ?_, trivial⟩
    cases j with
    | zero => rfl
    | succ i => rw [pcs_eS]; simp only [Nat.add_eq_zero_iff, Nat.one_ne_zero, and_false, if_false]; omega
theorem part_take (R : Bs) (j : Nat) : R.take (19 * j) ++ partAt R j = R.take (19 * (j + 1)) := by
  rw [partAt, ← List.take_add]; rfl
theorem part_full (R : Bs) : R.take (19 * nparts R) = R := List.take_of_length_le (by unfold nparts; omega)
theorem fold_part (R : Bs) (n l : Nat) (b : Sc) (hb : b.part = []) : ∀ j, j < nparts R → ((pcs R n l j).foldl Sc.step b).part = R.take (19 * j) ∧ ((pcs R n l j).foldl Sc.step b).recs = b.recs ∧ ((pcs R n l j).foldl Sc.step b).used = b.used ∧ ((pcs R n l j).foldl Sc.step b).last = b.last
  | 0, _ => ⟨by simpa [pcs] using hb, rfl, rfl, rfl⟩
  | j + 1, h => by
    obtain ⟨h1, h2, h3, h4⟩ := fold_part R n l b hb j (by omega)
    rw [pcs, List.foldl_append]
    obtain ⟨a, ha⟩ : ∃ a, (pcs R n l j).foldl Sc.step b = a := ⟨_, rfl⟩
    rw [ha] at h1 h2 h3 h4 ⊢
    have hl : partLast R j = false := by unfold partLast; simp; omega
    simp only [List.foldl_cons, List.foldl_nil, Sc.step, hl, Bool.false_eq_true, if_false]
    exact ⟨by rw [h1, part_take], h2, h3, h4⟩
theorem fold_rec (R : Bs) (n l : Nat) (b : Sc) (hb : b.part = []) : ((pcs R n l (nparts R)).foldl Sc.step b).part = [] ∧ ((pcs R n l (nparts R)).foldl Sc.step b).recs = b.recs ++ [R] ∧ ((pcs R n l (nparts R)).foldl Sc.step b).used = b.n + nparts R ∧ ((pcs R n l (nparts R)).foldl Sc.step b).last = n + nparts R - 1 := by
  have hpos : 1 ≤ nparts R := by unfold nparts; omega
  obtain ⟨j, hj⟩ : ∃ j, nparts R = j + 1 := ⟨nparts R - 1, by omega⟩
  obtain ⟨h1, h2, h3, h4⟩ := fold_part R n l b hb j (by omega)
  have hn := fold_n (pcs R n l j) b
  rw [pcs_len] at hn
  have hfull := part_full R
  rw [hj] at hfull ⊢
  rw [pcs, List.foldl_append]
  obtain ⟨a, ha⟩ : ∃ a, (pcs R n l j).foldl Sc.step b = a := ⟨_, rfl⟩
  rw [ha] at h1 h2 h3 h4 hn ⊢
  have hl : partLast R j = true := by unfold partLast; simp; omega
  simp only [List.foldl_cons, List.foldl_nil, Sc.step, hl, if_true]
  refine ⟨trivial, ?_, ?_, ?_⟩
  · rw [h1, h2, part_take, hfull]
  · rw [hn]; omega
  · omega
structure Good (Rs : List Bs) (N : List Pc) : Prop where
  pre : ∀ j, ∃ r, r ≤ Rs.length ∧ ∀ b : Sc, b.part = [] → ((N.take j).foldl Sc.step b).recs = b.recs ++ Rs.take r
  part : ∀ b : Sc, b.part = [] → (N.foldl Sc.step b).part = []
  recs : ∀ b : Sc, b.part = [] → (N.foldl Sc.step b).recs = b.recs ++ Rs
  used : ∀ b : Sc, b.part = [] → (N.foldl Sc.step b).used = if N = [] then b.used else b.n + N.length
  last : ∀ b : Sc, b.part = [] → (N.foldl Sc.step b).last = if N = [] then b.last else eS 0 N
theorem Good.nil : Good [] [] := ⟨fun _ => ⟨0, Nat.le_refl _, fun b _ => by simp⟩, fun b h => h, fun b _ => by simp, fun b _ => rfl, fun b _ => rfl⟩
theorem Good.snoc {Rs : List Bs} {N : List Pc} (h : Good Rs N) (R : Bs) (n l : Nat) : Good (Rs ++ [R]) (N ++ pcs R n l (nparts R)) := by
  have hpos : 1 ≤ nparts R := by unfold nparts; omega
  have hne : N ++ pcs R n l (nparts R) ≠ [] := fun e => by
    have := congrArg List.length e
    rw [List.length_append, pcs_len] at this
    simp at this; omega
  refine ⟨fun j => ?_, fun b hb => ?_, fun b hb => ?_, fun b hb => ?_, fun b hb => ?_⟩
  · rcases Nat.le_total j N.length with hj | hj
    · obtain ⟨r, hr, hh⟩ := h.pre j
      refine ⟨r, by rw [List.length_append]; omega, fun b hb => ?_⟩
      rw [List.take_append_of_le_length hj, List.take_append_of_le_length hr]
      exact hh b hb
    · have htk : (N ++ pcs R n l (nparts R)).take j = N ++ pcs R n l (min (j - N.length) (nparts R)) := by
        rw [List.take_append, List.take_of_length_le hj, pcs_take]
      by_cases hlt : j - N.length < nparts R
      · refine ⟨Rs.length, by rw [List.length_append]; omega, fun b hb => ?_⟩
        rw [htk, List.foldl_append, Nat.min_eq_left (by omega), (fold_part R n l _ (h.part b hb) _ hlt).2.1, h.recs b hb, List.take_left]
      · refine ⟨Rs.length + 1, by rw [List.length_append]; exact Nat.le_refl _, fun b hb => ?_⟩
        rw [htk, List.foldl_append, Nat.min_eq_right (by omega), (fold_rec R n l _ (h.part b hb)).2.1, h.recs b hb, List.take_of_length_le (by simp), List.append_assoc]
  · rw [List.foldl_append]; exact (fold_rec R n l _ (h.part b hb)).1
  · rw [List.foldl_append, (fold_rec R n l _ (h.part b hb)).2.1, h.recs b hb, List.append_assoc]
  · rw [List.foldl_append, (fold_rec R n l _ (h.part b hb)).2.2.1, fold_n, if_neg hne, List.length_append, pcs_len]; omega
  · rw [List.foldl_append, (fold_rec R n l _ (h.part b hb)).2.2.2, if_neg hne]
    obtain ⟨j, hj⟩ : ∃ j, nparts R = j + 1 := ⟨nparts R - 1, by omega⟩
    rw [hj, eS_append, pcs_eS]; omega
inductive Mix : List Pc → List (Option Pc) → List (Option Pc) → Prop
  | nil (P : List (Option Pc)) : Mix [] P P
  | cons {p : Pc} {N : List Pc} {o q : Option Pc} {P Q : List (Option Pc)} (h : q = some p ∨ q = none ∨ q = o) (r : Mix N P Q) : Mix (p :: N) (o :: P) (q :: Q)
theorem mix_new {n0 : Nat} : ∀ {N : List Pc} {P Q : List (Option Pc)}, Mix N P Q → ∀ k, n0 ≤ k → Lkd k N → (∀ p ∈ N, n0 ≤ p.s) → (∀ p, some p ∈ P → p.k < n0) → ∃ j, chP k Q = N.take j
  | _, _, _, .nil P, k, hk, _, _, hP => by
    refine ⟨0, ?_⟩
    match P, hP with
    | [], _ => rfl
    | none :: r, _ => rfl
    | some p :: r, hP => simp only [chP]; have := hP p (by simp); rw [if_neg (by omega)]; rfl
  | _, _, _, .cons (p := p) (N := N) (o := o) (q := q) (P := P) (Q := Q) h r, k, hk, hl, hs, hP => by
    rcases h with h | h | h
    · obtain ⟨j, hj⟩ := mix_new r p.s (hs p (by simp)) hl.2 (fun q hq => hs q (by simp [hq])) (fun q hq => hP q (by simp [hq]))
      exact ⟨j + 1, by rw [h]; simp only [chP, if_pos hl.1, List.take_succ_cons]; rw [hj]⟩
    · exact ⟨0, by rw [h]; rfl⟩
    · refine ⟨0, ?_⟩
      rw [h]
      match o, hP with
      | none, _ => rfl
      | some p', hP => simp only [chP]; have := hP p' (by simp); rw [if_neg (by omega)]; rfl
theorem mix_old {n0 : Nat} : ∀ {N : List Pc} {P Q : List (Option Pc)}, Mix N P Q → ∀ k, k < n0 → (∀ p ∈ N, n0 ≤ p.k) → (∀ p, some p ∈ P → p.s < n0) → ∃ j, chP k Q = (chP k P).take j
  | _, _, _, .nil P, k, _, _, _ => ⟨(chP k P).length, by rw [List.take_length]⟩
  | _, _, _, .cons (p := p) (N := N) (o := o) (q := q) (P := P) (Q := Q) h r, k, hk, hs, hP => by
    rcases h with h | h | h
    · refine ⟨0, ?_⟩
      rw [h]; simp only [chP]
      have := hs p (by simp)
      rw [if_neg (by omega)]; rfl
    · exact ⟨0, by rw [h]; rfl⟩
    · rw [h]
      match o, hP with
      | none, _ => exact ⟨0, rfl⟩
      | some p', hP =>
        simp only [chP]
        split
        · obtain ⟨j, hj⟩ := mix_old r p'.s (hP p' (by simp)) (fun q hq => hs q (by simp [hq])) (fun q hq => hP q (by simp [hq]))
          exact ⟨j + 1, by rw [List.take_succ_cons, hj]⟩
        · exact ⟨0, rfl⟩
theorem Lkd_k {n0 : Nat} : ∀ {N : List Pc} {k : Nat}, Lkd k N → n0 ≤ k → (∀ p ∈ N, n0 ≤ p.s) → ∀ p ∈ N, n0 ≤ p.k
  | [], _, _, _, _, p, hp => by simp at hp
  | q :: r, k, hl, hk, hs, p, hp => by
    rcases List.mem_cons.1 hp with rfl | hp
    · rw [hl.1]; exact hk
    · exact Lkd_k hl.2 (hs q (by simp)) (fun x hx => hs x (by simp [hx])) p hp
theorem mix_all {n0 k : Nat} {N : List Pc} {P Q : List (Option Pc)} (h : Mix N P Q) (hk : k < n0) (hl : Lkd k N) (hs : ∀ p ∈ N, n0 ≤ p.s) (hP : ∀ p, some p ∈ P → p.s < n0 ∧ p.k < n0) :
    (∃ j, chP k Q = N.take j) ∨ ∃ j, chP k Q = (chP k P).take j := by
  cases h with
  | nil P => exact .inr ⟨(chP k P).length, by rw [List.take_length]⟩
  | cons h r =>
    rename_i p N o q P Q
    rcases h with h | h | h
    · left
      obtain ⟨j, hj⟩ := mix_new r p.s (hs p (by simp)) hl.2 (fun q hq => hs q (by simp [hq])) (fun q hq => (hP q (by simp [hq])).2)
      exact ⟨j + 1, by rw [h]; simp only [chP, if_pos hl.1, List.take_succ_cons]; rw [hj]⟩
    · exact .inl ⟨0, by rw [h]; rfl⟩
    · right
      rw [h]
      match o, hP with
      | none, _ => exact ⟨0, rfl⟩
      | some p', hP =>
        simp only [chP]
        split
        · obtain ⟨j, hj⟩ := mix_old r p'.s (hP p' (by simp)).1 (Lkd_k hl.2 (hs p (by simp)) (fun q hq => hs q (by simp [hq]))) (fun q hq => (hP q (by simp [hq])).1)
          exact ⟨j + 1, by rw [List.take_succ_cons, hj]⟩
        · exact ⟨0, rfl⟩
end Go.Proofs.Ytoafanbfminhcaa
end

section
namespace Go.Proofs.Ytoafanbfminhcaa
open Go Go.AL
set_option maxRecDepth 10000
abbrev Pc.b (p : Pc) : Bs := blockP p.s p.k p.last p.t
def wl : Nat → List Pc → List Wr
  | _, [] => []
  | q, p :: r => ((q : Int), p.b) :: wl (q + 1) r
theorem wl_len : ∀ (N : List Pc) (q : Nat), (wl q N).length = N.length
  | [], _ => rfl
  | _ :: r, q => by rw [wl, List.length_cons, wl_len r, List.length_cons]
theorem wl_app (M : List Pc) : ∀ (N : List Pc) (q : Nat), wl q (N ++ M) = wl q N ++ wl (q + N.length) M
  | [], q => rfl
  | p :: r, q => by
    rw [List.cons_append, wl, wl, wl_app M r (q + 1), List.cons_append, List.length_cons]
    rw [show q + 1 + r.length = q + (r.length + 1) by omega]
theorem wl_mem : ∀ (N : List Pc) (q : Nat) (w : Wr), w ∈ wl q N → ∃ p ∈ N, ∃ i, w = (((q + i : Nat) : Int), p.b) ∧ i < N.length
  | [], _, _, h => by simp [wl] at h
  | p :: r, q, w, h => by
    rw [wl] at h
    rcases List.mem_cons.1 h with h | h
    · exact ⟨p, by simp, 0, h, by simp⟩
    · obtain ⟨p', hp, i, hi, hl⟩ := wl_mem r (q + 1) w h
      exact ⟨p', by simp [hp], i + 1, by rw [hi]; congr 2; omega, by simp; omega⟩
def cz (F : List Int) : Nat → List Bs → List Pc → List Bs
  | i, o :: A, p :: N => crash1 o p.b (fateAt F i) :: cz F (i + 1) A N
  | _, A, _ => A
theorem cz_len (F : List Int) : ∀ (A : List Bs) (N : List Pc) (i : Nat), (cz F i A N).length = A.length
  | [], N, i => by cases N <;> rfl
  | o :: A, [], i => rfl
  | o :: A, p :: N, i => by rw [cz, List.length_cons, cz_len F A N, List.length_cons]
theorem crash_wl (F : List Int) : ∀ (N : List Pc) (X A : List Bs) (i : Nat), N.length ≤ A.length → crashB F (wl X.length N) i (X ++ A) = X ++ cz F i A N
  | [], X, A, i, _ => by cases A <;> rfl
  | p :: N, X, [], i, h => by simp at h
  | p :: N, X, o :: A, i, h => by
    rw [wl, crashB, cz]
    simp only [Int.toNat_natCast]
    have h1 : (X ++ o :: A).getD X.length [] = o := by simp [List.getD_eq_getElem?_getD]
    have h2 : ∀ y : Bs, (X ++ o :: A).set X.length y = (X ++ [y]) ++ A := fun y => by simp
    have := crash_wl F N (X ++ [crash1 o p.b (fateAt F i)]) A (i + 1) (by simp at h; omega)
    rw [List.length_append, List.length_cons, List.length_nil] at this
    rw [h1, h2, this, List.append_assoc]; rfl
theorem nF_take (a b : Bs) (h : 16 ≤ a.length) : nF (a.take 16 ++ b) = nF a := by
  unfold nF
  rw [List.take_append_of_le_length (by rw [List.length_take]; omega), List.take_take]; rfl
theorem nB_drop (a b : Bs) (h : a.length = 16) : nB (a ++ b.drop 16) = nB b := by
  unfold nB
  rw [List.drop_append_of_le_length (by omega), List.drop_of_length_le (by omega), List.nil_append]
theorem fate_cases (F : List Int) (k : Nat) : fateAt F k = 0 ∨ fateAt F k = 1 ∨ fateAt F k = 2 ∨ fateAt F k = 3 := by
  unfold fateAt
  split
  · unfold fate
    have h1 := Int.tmod_lt_of_pos (F.getD k 0) (show (0 : Int) < 4 by decide)
    have h2 : -4 < (F.getD k 0).tmod 4 := by
      rcases Int.le_total 0 (F.getD k 0) with h | h
      · have := Int.tmod_nonneg 4 h; omega
      · obtain ⟨m, hm⟩ := Int.eq_ofNat_of_zero_le (show 0 ≤ -(F.getD k 0) by omega)
        have e : F.getD k 0 = -(m : Int) := by omega
        rw [e, Int.neg_tmod]
        have := Int.tmod_lt_of_pos (m : Int) (show (0 : Int) < 4 by decide)
        omega
    have h3 : 0 ≤ (F.getD k 0).tmod 4 + 4 := by omega
    rw [Int.tmod_eq_emod_of_nonneg h3]
    omega
  · exact .inr (.inl rfl)
structure Pk (n0 : Nat) (p : Pc) : Prop where
  lo : n0 ≤ p.s
  hi : p.s < 4294967296
  k : p.k < p.s
  t : p.t.length ≤ 19
theorem Pk.read {n0 : Nat} {p : Pc} (h : Pk n0 p) (h0 : 1 ≤ n0) : readP p.b = some p :=
  readP_block p.s p.k p.last p.t (by have := h.lo; omega) h.hi (by have := h.k; have := h.hi; omega) h.t
theorem crash1_read {n0 : Nat} {o : Bs} {p : Pc} (h0 : 1 ≤ n0) (ho : o.length = 32) (hF : nF o < n0) (hB : nB o < n0) (hp : Pk n0 p) (f : Int) (hf : f = 0 ∨ f = 1 ∨ f = 2 ∨ f = 3) :
    readP (crash1 o p.b f) = some p ∨ readP (crash1 o p.b f) = none ∨ readP (crash1 o p.b f) = readP o := by
  have hl := blockP_len p.s p.k p.last p.t hp.t
  have e1 := blockP_F p.s p.k p.last p.t hp.hi hp.t
  have e2 := blockP_B p.s p.k p.last p.t hp.hi hp.t
  have hlo := hp.lo
  rcases hf with rfl | rfl | rfl | rfl
  · left; rw [show crash1 o p.b 0 = p.b by simp [crash1]]; exact hp.read h0
  · right; right; rw [show crash1 o p.b 1 = o by simp [crash1]]
  · right; left
    rw [show crash1 o p.b 2 = p.b.take 16 ++ o.drop 16 by simp [crash1]]
    cases hr : readP (p.b.take 16 ++ o.drop 16) with
    | none => rfl
    | some q =>
      obtain ⟨_, h2, h3, _, _⟩ := readP_some hr
      rw [nF_take _ _ (by rw [hl]; omega), e1] at h2
      rw [nB_drop _ _ (by rw [List.length_take, hl]; rfl)] at h3
      omega
  · right; left
    rw [show crash1 o p.b 3 = o.take 16 ++ p.b.drop 16 by simp [crash1]]
    cases hr : readP (o.take 16 ++ p.b.drop 16) with
    | none => rfl
    | some q =>
      obtain ⟨_, h2, h3, _, _⟩ := readP_some hr
      rw [nF_take _ _ (by rw [ho]; omega)] at h2
      rw [nB_drop _ _ (by rw [List.length_take, ho]; rfl), e2] at h3
      omega
theorem cz_mix {n0 : Nat} (h0 : 1 ≤ n0) (F : List Int) : ∀ (N : List Pc) (A : List Bs) (i : Nat), N.length ≤ A.length → (∀ s ∈ A, s.length = 32 ∧ nF s < n0 ∧ nB s < n0) → (∀ p ∈ N, Pk n0 p) → Mix N (A.map readP) ((cz F i A N).map readP)
  | [], A, i, _, _, _ => by
    have : cz F i A [] = A := by cases A <;> rfl
    rw [this]; exact .nil _
  | p :: N, [], i, h, _, _ => by simp at h
  | p :: N, o :: A, i, h, hA, hN => by
    rw [cz, List.map_cons, List.map_cons]
    obtain ⟨a1, a2, a3⟩ := hA o (by simp)
    exact .cons (crash1_read h0 a1 a2 a3 (hN p (by simp)) _ (fate_cases F i)) (cz_mix h0 F N A (i + 1) (by simp at h; omega) (fun s hs => hA s (by simp [hs])) (fun q hq => hN q (by simp [hq])))
theorem cz_zero (n : Nat) : ∀ (N : List Pc) (A : List Bs) (i : Nat), N.length ≤ A.length → i + N.length ≤ n → cz (zerosI n) i A N = N.map Pc.b ++ A.drop N.length
  | [], A, i, _, _ => by
    have : cz (zerosI n) i A [] = A := by cases A <;> rfl
    rw [this]; rfl
  | p :: N, [], i, h, _ => by simp at h
  | p :: N, o :: A, i, h, hn => by
    have hf : fateAt (zerosI n) i = 0 := by
      unfold fateAt zerosI
      rw [if_pos (by simp at hn ⊢; omega), List.getD_eq_getElem?_getD, List.getElem?_eq_getElem (by simp at hn ⊢; omega), List.getElem_replicate]
      decide
    rw [cz, hf, cz_zero n N A (i + 1) (by simp at h; omega) (by simp at hn; omega)]
    rw [show crash1 o p.b 0 = p.b by simp [crash1]]; rfl
theorem crash1_k {n0 : Nat} {o : Bs} {p : Pc} (h0 : 1 ≤ n0) (ho : o.length = 32) (hF : nF o < n0) (hB : nB o < n0) (hp : Pk n0 p) (hk : ∀ q, readP o = some q → q.k < q.s) (f : Int) (hf : f = 0 ∨ f = 1 ∨ f = 2 ∨ f = 3) : ∀ q, readP (crash1 o p.b f) = some q → q.k < q.s := fun q hq => by
  rcases crash1_read h0 ho hF hB hp f hf with h | h | h
  · rw [h] at hq; cases hq; exact hp.k
  · rw [h] at hq; cases hq
  · rw [h] at hq; exact hk q hq
theorem cz_k {n0 : Nat} (h0 : 1 ≤ n0) (F : List Int) : ∀ (N : List Pc) (A : List Bs) (i : Nat), (∀ s ∈ A, s.length = 32 ∧ nF s < n0 ∧ nB s < n0) → (∀ p ∈ N, Pk n0 p) → (∀ s ∈ A, ∀ q, readP s = some q → q.k < q.s) → ∀ s ∈ cz F i A N, ∀ q, readP s = some q → q.k < q.s
  | [], A, i, _, _, hk => by
    have : cz F i A [] = A := by cases A <;> rfl
    rw [this]; exact hk
  | p :: N, [], i, _, _, _ => by intro s hs; simp [cz] at hs
  | p :: N, o :: A, i, hA, hN, hk => by
    intro s hs
    rw [cz] at hs
    rcases List.mem_cons.1 hs with rfl | hs
    · obtain ⟨a1, a2, a3⟩ := hA o (by simp)
      exact crash1_k h0 a1 a2 a3 (hN p (by simp)) (hk o (by simp)) _ (fate_cases F i)
    · exact cz_k h0 F N A (i + 1) (fun s hs => hA s (by simp [hs])) (fun q hq => hN q (by simp [hq])) (fun s hs => hk s (by simp [hs])) s hs
theorem maxN_ge (S : List Bs) : ∀ m, m ≤ S.foldl mx3 m ∧ ∀ s ∈ S, nF s ≤ S.foldl mx3 m ∧ nB s ≤ S.foldl mx3 m := by
  induction S with
  | nil => intro m; exact ⟨Nat.le_refl _, fun s hs => by simp at hs⟩
  | cons a r ih =>
    intro m
    rw [List.foldl_cons]
    obtain ⟨h1, h2⟩ := ih (mx3 m a)
    have h3 : m ≤ mx3 m a ∧ nF a ≤ mx3 m a ∧ nB a ≤ mx3 m a := by unfold mx3 nF nB; omega
    refine ⟨by omega, fun s hs => ?_⟩
    rcases List.mem_cons.1 hs with rfl | hs
    · omega
    · exact h2 s hs
theorem maxN_mem {S : List Bs} {s : Bs} (h : s ∈ S) : nF s < maxN S + 1 ∧ nB s < maxN S + 1 := by
  have := (maxN_ge S 0).2 s h
  unfold maxN; omega
end Go.Proofs.Ytoafanbfminhcaa
end

section
namespace Go.Proofs.Ytoafanbfminhcaa
open Go Go.AL
set_option maxRecDepth 10000
theorem ws_run (sz half : Nat) (s : Bs) (a : Ws) : ∀ j, Ws.run sz half s a j = ⟨a.W ++ wl (half * sz + a.frm) (pcs s a.next a.link j), a.next + j, a.frm + j, if j = 0 then a.link else a.next + j - 1⟩
  | 0 => by simp [Ws.run, pcs, wl]
  | j + 1 => by
    rw [Ws.run, ws_run sz half s a j, Ws.step, pcs, wl_app, pcs_len]
    simp only [wl, List.append_assoc]
    congr 1
    congr 2
    congr 3
    omega
theorem wrote_eq (x : Jn) (half frm link : Nat) (s : Bs) : x.wrote half frm link s = { x with W := x.W ++ wl (half * (x.B.length / 2) + frm) (pcs s x.next link (nparts s)), recs := x.recs ++ [s], used := frm + nparts s, last := x.next + nparts s - 1, next := x.next + nparts s } := by
  unfold Jn.wrote
  rw [ws_run]
  have := nparts_pos s
  simp only [if_neg (show ¬ nparts s = 0 by omega)]
def Cpl (L : List Pc) : Prop := run L = ⟨L.length, [], (run L).recs, L.length, (run L).first, eS 0 L, false⟩
theorem Cpl.nil : Cpl [] := rfl
theorem run_app (L M : List Pc) : run (L ++ M) = M.foldl Sc.step (run L) := by rw [run, List.foldl_append]; rfl
theorem run_first (L : List Pc) : (run L).first = (L.head?.map (·.s)).getD 0 := (run_inv L).f
theorem Cpl.part {L : List Pc} (h : Cpl L) : (run L).part = [] := by rw [h]
theorem Cpl.used {L : List Pc} (h : Cpl L) : (run L).used = L.length := by rw [h]
theorem Cpl.last {L : List Pc} (h : Cpl L) : (run L).last = eS 0 L := by rw [h]
theorem Cpl.n {L : List Pc} (h : Cpl L) : (run L).n = L.length := by rw [h]
theorem good_w {Rs : List Bs} {N : List Pc} (h : Good Rs N) : N = [] ∨ ∃ M p, N = M ++ [p] ∧ p.last = true := by
  rcases List.eq_nil_or_concat N with h0 | ⟨M, p, rfl⟩
  · exact .inl h0
  · right
    refine ⟨M, p, by simp, ?_⟩
    cases hl : p.last with
    | true => rfl
    | false =>
      exfalso
      have hu := h.used sc0 rfl
      rw [List.concat_eq_append, List.foldl_append] at hu
      obtain ⟨a, ha⟩ : ∃ a, M.foldl Sc.step sc0 = a := ⟨_, rfl⟩
      have hn := fold_n M sc0
      have h2 := (run_inv M).u
      have h3 : run M = a := ha
      rw [h3] at h2
      rw [ha] at hu
      simp only [List.foldl_cons, List.foldl_nil, Sc.step, hl, Bool.false_eq_true, if_false] at hu
      rw [if_neg (by simp)] at hu
      simp only [List.length_append, List.length_cons, List.length_nil] at hu
      have : sc0.n = 0 := rfl
      omega
theorem cpl_good {L N : List Pc} {Rs : List Bs} (hL : Cpl L) (hN : Lkd (eS 0 L) N) (h : Good Rs N) : Cpl (L ++ N) ∧ (run (L ++ N)).recs = (run L).recs ++ Rs := by
  rcases good_w h with rfl | ⟨M, p, hM, hp⟩
  · refine ⟨by rw [List.append_nil]; exact hL, ?_⟩
    have := h.recs (run L) hL.part
    rw [run_app]; exact this
  · have e1 := h.part (run L) hL.part
    have e2 := h.recs (run L) hL.part
    have e3 := h.used (run L) hL.part
    have e4 := h.last (run L) hL.part
    have e5 := fold_n N (run L)
    have hne : N ≠ [] := by rw [hM]; simp
    rw [if_neg hne] at e3 e4
    have hw : (N.foldl Sc.step (run L)).w = false := by
      rw [hM, List.foldl_append]
      simp only [List.foldl_cons, List.foldl_nil, Sc.step, hp, if_true]
    refine ⟨?_, by rw [run_app]; exact e2⟩
    unfold Cpl
    rw [run_app]
    obtain ⟨a, ha⟩ : ∃ a, N.foldl Sc.step (run L) = a := ⟨_, rfl⟩
    rw [ha] at e1 e2 e3 e4 e5 hw ⊢
    obtain ⟨n, part, recs, used, first, last, w⟩ := a
    simp only at e1 e2 e3 e4 e5 hw
    rw [hL.n] at e3 e5
    rw [List.length_append, eS_append, eS_ne N (eS 0 L) 0 hne, ← e4, e1, e3, e5, hw]
theorem take_map_some {L : List Pc} {X : List (Option Pc)} {n : Nat} (h : n ≤ L.length) : L.map some ++ X = (L.take n).map some ++ ((L.drop n).map some ++ X) := by
  rw [← List.append_assoc, ← List.map_append, List.take_append_drop]
theorem base (A : List Bs) : ∃ L1 P0, A.map readP = L1.map some ++ P0 ∧ Lkd 0 L1 ∧ Cpl L1 ∧ L1.length = (scanS A).used ∧ (run L1).recs = (scanS A).recs ∧ (L1 ≠ [] → (run L1).first = (scanS A).first) ∧ eS 0 L1 = (scanS A).last ∧ ∀ p ∈ chP (eS 0 L1) P0, p.last = false := by
  obtain ⟨Y, hY⟩ := chP_front (A.map readP) 0
  obtain ⟨L, hL⟩ : ∃ L, chP 0 (A.map readP) = L := ⟨_, rfl⟩
  have hlk := chP_lkd (A.map readP) 0
  rw [hL] at hY hlk
  have hs : scanS A = run L := by rw [scanS_run, hL]
  have hi := run_inv L
  have hlen : (L.take (run L).used).length = (run L).used := by rw [List.length_take]; have := hi.u; omega
  have ht := hi.t
  have hsplit := List.take_append_drop (run L).used L
  have hlk' : Lkd 0 (L.take (run L).used) ∧ Lkd (eS 0 (L.take (run L).used)) (L.drop (run L).used) := by rw [← Lkd_append, hsplit]; exact hlk
  refine ⟨L.take (run L).used, (L.drop (run L).used).map some ++ Y, by rw [hY]; exact take_map_some hi.u, hlk'.1, ?_, by rw [hlen, hs], by rw [ht, hs], fun hne => ?_, by rw [hs, hi.l], ?_⟩
  · unfold Cpl
    rw [ht, hlen]
    simp only
    rw [← hi.l]
  · rw [ht, hs]
    simp only
    rw [if_neg]
    intro h0
    apply hne
    rw [h0]; rfl
  · have hch : chP 0 (A.map readP) = L.take (run L).used ++ chP (eS 0 (L.take (run L).used)) ((L.drop (run L).used).map some ++ Y) := by
      rw [hY, take_map_some (n := (run L).used) hi.u, chP_app _ _ _ hlk'.1]
    rw [hL] at hch
    have : chP (eS 0 (L.take (run L).used)) ((L.drop (run L).used).map some ++ Y) = L.drop (run L).used := by
      have h2 : L.take (run L).used ++ chP (eS 0 (L.take (run L).used)) ((L.drop (run L).used).map some ++ Y) = L.take (run L).used ++ L.drop (run L).used := by rw [← hch, hsplit]
      exact List.append_cancel_left h2
    rw [this]; exact hi.d
theorem scan_base {A : List Bs} {L : List Pc} {P : List (Option Pc)} (hA : A.map readP = L.map some ++ P) (hl : Lkd 0 L) (hc : Cpl L) (hn : ∀ p ∈ chP (eS 0 L) P, p.last = false) :
    (scanS A).recs = (run L).recs ∧ (scanS A).used = L.length ∧ (scanS A).last = eS 0 L ∧ (L ≠ [] → (scanS A).first = (run L).first) := by
  rw [scanS_run, hA, chP_app _ _ _ hl, run_app]
  obtain ⟨h1, h2, h3⟩ := fold_nl (chP (eS 0 L) P) (run L) hn
  have h4 := fold_first (chP (eS 0 L) P) (run L)
  refine ⟨h1, by rw [h2, hc.used], by rw [h3, hc.last], fun hne => ?_⟩
  rw [h4, hc.n, if_neg]
  intro h0; exact hne (List.length_eq_zero_iff.1 h0)
theorem chP_old {n0 k : Nat} {P : List (Option Pc)} (hk : n0 ≤ k) (h : ∀ p, some p ∈ P → p.k < n0) : chP k P = [] := by
  match P, h with
  | [], _ => rfl
  | none :: r, _ => rfl
  | some p :: r, h => simp only [chP]; have := h p (by simp); rw [if_neg (by omega)]
theorem mem_read {A : List Bs} {p : Pc} (h : some p ∈ A.map readP) : ∃ s ∈ A, readP s = some p := List.mem_map.1 h
end Go.Proofs.Ytoafanbfminhcaa
end

section
namespace Go.Proofs.Ytoafanbfminhcaa
open Go Go.AL
set_option maxRecDepth 10000
structure JI (st cr : Prop) (x : Jn) (h : Nat) (C O : List Bs) (L : List Pc) (P : List (Option Pc)) (N : List Pc) (Rs : List Bs) (n0 : Nat) : Prop where
  hh : h = 0 ∨ h = 1
  half : x.half = (h : Int)
  B : x.B = if h = 0 then C ++ O else O ++ C
  len : C.length = O.length
  len2 : 2 ≤ C.length ∧ C.length ≤ 1000
  W : x.W = wl (h * C.length + L.length) N
  rd : C.map readP = L.map some ++ P
  lk : Lkd 0 L
  cp : Cpl L
  lN : Lkd (eS 0 L) N
  g : Good Rs N
  ps : ∀ i q, N[i]? = some q → q.s = n0 + i ∧ Pk n0 q
  n1 : 1 ≤ n0
  bd : ∀ s ∈ x.B, s.length = 32 ∧ nF s < n0 ∧ nB s < n0
  ks : ∀ s ∈ x.B, ∀ q, readP s = some q → q.k < q.s
  recs : x.recs = (run L).recs ++ Rs
  used : x.used = L.length + N.length
  usedle : x.used ≤ C.length
  first : x.first = (((L ++ N).head?).map (·.s)).getD 0
  last : x.last = eS (eS 0 L) N
  next : x.next = n0 + N.length
  nextle : x.next ≤ 4294967296
  wlen : N.length ≤ 10000
  oth : st → ((scanS O).recs = [] ∨ ((scanS O).first < n0 ∧ (L ≠ [] → (scanS O).first < (run L).first ∨ (h = 0 ∧ (scanS O).first = (run L).first))))
  nl : (cr ∨ N = []) → ∀ p ∈ chP (eS 0 L) P, p.last = false
  mx : N = [] → maxN x.B + 1 = n0
  ne : x.recs ≠ []
  rl : x.recs.length ≤ x.used
  al : (run L).recs ≠ [] ∨ (scanS O).recs ≠ []
section
variable {st cr : Prop} {x : Jn} {h : Nat} {C O : List Bs} {L : List Pc} {P : List (Option Pc)} {N : List Pc} {Rs : List Bs} {n0 : Nat}
theorem JI.blen (j : JI st cr x h C O L P N Rs n0) : x.B.length = 2 * C.length := by
  rw [j.B]
  have := j.len
  split <;> rw [List.length_append] <;> omega
theorem JI.half2 (j : JI st cr x h C O L P N Rs n0) : x.B.length / 2 = C.length := by rw [j.blen]; omega
theorem JI.pk (j : JI st cr x h C O L P N Rs n0) : ∀ q ∈ N, Pk n0 q := fun q hq => by
  obtain ⟨i, hi⟩ := List.mem_iff_getElem?.1 hq
  exact (j.ps i q hi).2
theorem JI.memC (j : JI st cr x h C O L P N Rs n0) : ∀ s ∈ C, s ∈ x.B := fun s hs => by
  rw [j.B]; split <;> simp [hs]
theorem JI.memO (j : JI st cr x h C O L P N Rs n0) : ∀ s ∈ O, s ∈ x.B := fun s hs => by
  rw [j.B]; split <;> simp [hs]
theorem JI.Lmem (j : JI st cr x h C O L P N Rs n0) : ∀ p ∈ L, p.s < n0 ∧ p.k < p.s := fun p hp => by
  have : some p ∈ C.map readP := by rw [j.rd]; exact List.mem_append_left _ (List.mem_map.2 ⟨p, hp, rfl⟩)
  obtain ⟨s, hs, hr⟩ := mem_read this
  obtain ⟨_, h2, _⟩ := readP_some hr
  have := (j.bd s (j.memC s hs)).2.1
  exact ⟨by omega, j.ks s (j.memC s hs) p hr⟩
theorem JI.Pmem (j : JI st cr x h C O L P N Rs n0) : ∀ p, some p ∈ P → p.s < n0 ∧ p.k < n0 := fun p hp => by
  have : some p ∈ C.map readP := by rw [j.rd]; exact List.mem_append_right _ hp
  obtain ⟨s, hs, hr⟩ := mem_read this
  obtain ⟨_, h2, _⟩ := readP_some hr
  have h3 := (j.bd s (j.memC s hs)).2.1
  have h4 := j.ks s (j.memC s hs) p hr
  exact ⟨by omega, by omega⟩
theorem eS_lt {n0 : Nat} : ∀ (L : List Pc) (k : Nat), k < n0 → (∀ p ∈ L, p.s < n0) → eS k L < n0
  | [], _, h, _ => h
  | p :: r, _, _, h => eS_lt r p.s (h p (by simp)) (fun q hq => h q (by simp [hq]))
theorem JI.eSL (j : JI st cr x h C O L P N Rs n0) : eS 0 L < n0 := eS_lt L 0 (by have := j.n1; omega) (fun p hp => (j.Lmem p hp).1)
theorem JI.lastlt (j : JI st cr x h C O L P N Rs n0) : x.last < x.next := by
  rw [j.last, j.next]
  refine eS_lt N _ (by have := j.eSL; omega) fun p hp => ?_
  obtain ⟨i, hi⟩ := List.mem_iff_getElem?.1 hp
  have := (j.ps i p hi).1
  have hl : i < N.length := by
    rcases Nat.lt_or_ge i N.length with h | h
    · exact h
    · rw [List.getElem?_eq_none h] at hi; cases hi
  omega
theorem JI.sz (j : JI st cr x h C O L P N Rs n0) : x.Sz := by
  have h1 := j.blen
  have h2 := j.len2
  have h3 := j.usedle
  have h4 := j.nextle
  have h5 := j.lastlt
  have h6 := j.n1
  have h7 := j.next
  have h8 := j.rl
  refine ⟨by omega, ?_, by rw [j.half2]; exact h3, ?_, by omega, h4, by omega, by rw [j.W, wl_len]; exact j.wlen, by omega⟩
  · rw [j.half]; rcases j.hh with h | h <;> subst h <;> simp
  · rw [j.first]
    cases hd : (L ++ N).head? with
    | none => simp
    | some p =>
      simp only [Option.map_some, Option.getD_some]
      have hm : p ∈ L ++ N := List.mem_of_mem_head? (by rw [hd]; rfl)
      rcases List.mem_append.1 hm with hm | hm
      · have := (j.Lmem p hm).1; omega
      · have := (j.pk p hm).hi; omega
theorem JI.wmem (j : JI st cr x h C O L P N Rs n0) : ∀ w ∈ x.W, (0 ≤ w.1 ∧ w.1 < x.B.length) ∧ w.2.length = 32 := fun w hw => by
  rw [j.W] at hw
  obtain ⟨p, hp, i, rfl, hi⟩ := wl_mem N _ w hw
  have h1 := j.blen
  have h2 := j.used
  have h3 := j.usedle
  refine ⟨⟨by simp only; omega, ?_⟩, blockP_len p.s p.k p.last p.t (j.pk p hp).t⟩
  simp only
  rcases j.hh with h | h <;> subst h
  · simp only [Nat.zero_mul]; omega
  · simp only [Nat.one_mul]; omega
theorem JI.ok (j : JI st cr x h C O L P N Rs n0) : x.D.Ok := by
  have h1 := j.blen
  have h2 := j.len2
  refine ⟨?_, fun s hs => (j.bd s hs).1, by show x.W.length ≤ 10000; rw [j.W, wl_len]; exact j.wlen, j.wmem⟩
  show okN x.B.length = true
  unfold okN
  rw [h1]
  simp; omega
theorem pcs_good (R : Bs) (n l : Nat) (hl : l < n) (n0 : Nat) (h0 : n0 ≤ n) (hm : n + nparts R ≤ 4294967296) : ∀ i q, (pcs R n l (nparts R))[i]? = some q → q.s = n + i ∧ Pk n0 q := fun i q hq => by
  have hi : i < nparts R := by
    rcases Nat.lt_or_ge i (nparts R) with h | h
    · exact h
    · rw [List.getElem?_eq_none (by rw [pcs_len]; exact h)] at hq; cases hq
  have := pcs_get R n l _ i q hq
  subst this
  refine ⟨rfl, ⟨by simp only; omega, by simp only; omega, ?_, partAt_len R i⟩⟩
  simp only
  split <;> omega
theorem JI.append (j : JI st cr x h C O L P N Rs n0) (R : Bs) (he : x.appE R = 0) : JI st cr (x.wrote h x.used x.last R) h C O L P (N ++ pcs R x.next x.last (nparts R)) (Rs ++ [R]) n0 := by
  unfold Jn.appE at he
  split at he
  · cases he
  split at he
  · cases he
  rename_i hlong hfull
  rw [j.half2] at hfull
  have hpos := nparts_pos R
  have hwl : x.W.length = N.length := by rw [j.W, wl_len]
  have hlt := j.lastlt
  have hne : pcs R x.next x.last (nparts R) ≠ [] := fun e => by
    have := congrArg List.length e
    rw [pcs_len] at this; simp at this; omega
  rw [wrote_eq]
  refine ⟨j.hh, j.half, j.B, j.len, j.len2, ?_, j.rd, j.lk, j.cp, ?_, j.g.snoc R _ _, ?_, j.n1, j.bd, j.ks, ?_, ?_, ?_, ?_, ?_, ?_, ?_, ?_, j.oth, ?_, ?_, ?_, ?_, j.al⟩
  · simp only
    rw [j.W, wl_app, j.half2, j.used]
    congr 2; omega
  · rw [Lkd_append]
    refine ⟨j.lN, ?_⟩
    rw [← j.last]; exact pcs_lkd R _ _ _
  · intro i q hq
    rcases Nat.lt_or_ge i N.length with hi | hi
    · rw [List.getElem?_append_left hi] at hq; exact j.ps i q hq
    · rw [List.getElem?_append_right hi] at hq
      obtain ⟨h1, h2⟩ := pcs_good R x.next x.last hlt n0 (by rw [j.next]; omega) (by omega) _ q hq
      refine ⟨?_, h2⟩
      rw [h1, j.next]; omega
  · simp only; rw [j.recs, List.append_assoc]
  · simp only; rw [List.length_append, pcs_len, j.used]; omega
  · simp only; omega
  · simp only
    rw [j.first, ← List.append_assoc]
    cases hd : L ++ N with
    | nil =>
      exfalso
      have hr := j.ne
      have : L = [] ∧ N = [] := List.append_eq_nil_iff.1 hd
      have hg := j.g.recs sc0 rfl
      rw [this.2] at hg
      have hrs : Rs = [] := by
        have : ([] : List Bs) = [] ++ Rs := hg
        rw [List.nil_append] at this; exact this.symm
      apply hr
      rw [j.recs, this.1, hrs]; rfl
    | cons a r => rfl
  · simp only
    rw [eS_append, ← j.last]
    obtain ⟨i, hi⟩ : ∃ i, nparts R = i + 1 := ⟨nparts R - 1, by omega⟩
    rw [hi, pcs_eS]; omega
  · simp only; rw [List.length_append, pcs_len, j.next]; omega
  · simp only; omega
  · rw [List.length_append, pcs_len]; omega
  · intro hc
    refine j.nl (hc.elim .inl fun e => ?_)
    exact absurd (List.append_eq_nil_iff.1 e).2 hne
  · intro e; exact absurd (List.append_eq_nil_iff.1 e).2 hne
  · simp
  · simp only [List.length_append, List.length_cons, List.length_nil]
    have := j.rl; omega
end
end Go.Proofs.Ytoafanbfminhcaa
end

section
namespace Go.Proofs.Ytoafanbfminhcaa
open Go Go.AL
set_option maxRecDepth 10000
theorem cz_app (F : List Int) (O : List Bs) : ∀ (N : List Pc) (A : List Bs) (i : Nat), N.length ≤ A.length → cz F i (A ++ O) N = cz F i A N ++ O
  | [], A, i, _ => by
    have h : ∀ A : List Bs, cz F i A [] = A := fun A => by cases A <;> rfl
    rw [h, h]
  | p :: N, [], i, h => by simp at h
  | p :: N, o :: A, i, h => by
    rw [List.cons_append, cz, cz, cz_app F O N A (i + 1) (by simp at h; omega), List.cons_append]
theorem maxN_le {S : List Bs} {m : Nat} (h : ∀ s ∈ S, nF s ≤ m ∧ nB s ≤ m) : maxN S ≤ m := by
  have : ∀ (S : List Bs) (k : Nat), k ≤ m → (∀ s ∈ S, nF s ≤ m ∧ nB s ≤ m) → S.foldl mx3 k ≤ m := fun S => by
    induction S with
    | nil => exact fun k hk _ => hk
    | cons a r ih =>
      intro k hk hS
      refine ih _ ?_ fun s hs => hS s (by simp [hs])
      have := hS a (by simp)
      unfold nF nB at this
      unfold mx3; omega
  exact this S 0 (by omega) h
theorem scan_first_lt {A : List Bs} {m : Nat} (hm : 0 < m) (h : ∀ s ∈ A, nF s < m) : (scanS A).first < m := by
  rw [scanS_run, run_first]
  cases hd : (chP 0 (A.map readP)).head? with
  | none => simpa using hm
  | some p =>
    simp only [Option.map_some, Option.getD_some]
    have h1 := chP_mem _ _ _ (List.mem_of_mem_head? (by rw [hd]; rfl) : p ∈ chP 0 (A.map readP))
    obtain ⟨s, hs, hr⟩ := mem_read h1
    obtain ⟨_, h2, _⟩ := readP_some hr
    rw [h2]; exact h s hs
section
variable {st cr : Prop} {x : Jn} {h : Nat} {C O : List Bs} {L : List Pc} {P : List (Option Pc)} {N : List Pc} {Rs : List Bs} {n0 : Nat}
def crC (F : List Int) (C : List Bs) (L N : List Pc) : List Bs := C.take L.length ++ cz F 0 (C.drop L.length) N
theorem JI.Llen (j : JI st cr x h C O L P N Rs n0) : L.length + N.length ≤ C.length := by have := j.used; have := j.usedle; omega
theorem JI.crC_len (j : JI st cr x h C O L P N Rs n0) (F : List Int) : (crC F C L N).length = C.length := by
  have := j.Llen
  rw [crC, List.length_append, cz_len, List.length_take, List.length_drop]; omega
theorem JI.crash (j : JI st cr x h C O L P N Rs n0) (F : List Int) : crashB F x.W 0 x.B = if h = 0 then crC F C L N ++ O else O ++ crC F C L N := by
  have hl := j.Llen
  have ht : (C.take L.length).length = L.length := by rw [List.length_take]; omega
  have hsp := List.take_append_drop L.length C
  rw [j.W, j.B]
  rcases j.hh with h0 | h0 <;> subst h0
  · rw [if_pos rfl, if_pos rfl]
    have := crash_wl F N (C.take L.length) (C.drop L.length ++ O) 0 (by rw [List.length_append, List.length_drop]; omega)
    rw [ht, ← List.append_assoc, hsp, cz_app F O N _ 0 (by rw [List.length_drop]; omega), ← List.append_assoc] at this
    simp only [Nat.zero_mul, Nat.zero_add]
    exact this
  · rw [if_neg (by decide), if_neg (by decide)]
    have := crash_wl F N (O ++ C.take L.length) (C.drop L.length) 0 (by rw [List.length_drop]; omega)
    rw [List.length_append, ht, List.append_assoc, hsp, List.append_assoc] at this
    simp only [Nat.one_mul]
    rw [j.len]
    exact this
theorem JI.rdL (j : JI st cr x h C O L P N Rs n0) : (C.take L.length).map readP = L.map some := by
  rw [List.map_take, j.rd, List.take_append_of_le_length (by rw [List.length_map]; exact Nat.le_refl _), List.take_of_length_le (by rw [List.length_map]; exact Nat.le_refl _)]
theorem JI.rdP (j : JI st cr x h C O L P N Rs n0) : (C.drop L.length).map readP = P := by
  rw [List.map_drop, j.rd, List.drop_append_of_le_length (by rw [List.length_map]; exact Nat.le_refl _), List.drop_of_length_le (by rw [List.length_map]; exact Nat.le_refl _), List.nil_append]
theorem JI.mixed (j : JI st cr x h C O L P N Rs n0) (F : List Int) : ∃ Q, (crC F C L N).map readP = L.map some ++ Q ∧ Mix N P Q := by
  have hl := j.Llen
  refine ⟨(cz F 0 (C.drop L.length) N).map readP, by rw [crC, List.map_append, j.rdL], ?_⟩
  have := cz_mix j.n1 F N (C.drop L.length) 0 (by rw [List.length_drop]; omega) (fun s hs => j.bd s (j.memC s (List.mem_of_mem_drop hs))) j.pk
  rw [j.rdP] at this
  exact this
theorem JI.crC_ks (j : JI st cr x h C O L P N Rs n0) (F : List Int) : ∀ s ∈ crC F C L N, ∀ q, readP s = some q → q.k < q.s := fun s hs => by
  rw [crC] at hs
  rcases List.mem_append.1 hs with hs | hs
  · exact j.ks s (j.memC s (List.mem_of_mem_take hs))
  · exact cz_k j.n1 F N (C.drop L.length) 0 (fun s hs => j.bd s (j.memC s (List.mem_of_mem_drop hs))) j.pk (fun s hs => j.ks s (j.memC s (List.mem_of_mem_drop hs))) s hs
def syC (C : List Bs) (L N : List Pc) : List Bs := C.take L.length ++ (N.map Pc.b ++ C.drop (L.length + N.length))
theorem JI.syncC (j : JI st cr x h C O L P N Rs n0) : crC (zerosI x.W.length) C L N = syC C L N := by
  have hl := j.Llen
  rw [crC, syC, cz_zero x.W.length N _ 0 (by rw [List.length_drop]; omega) (by rw [j.W, wl_len]; omega), List.drop_drop]
theorem JI.syncB (j : JI st cr x h C O L P N Rs n0) : x.D.syncD.B = if h = 0 then syC C L N ++ O else O ++ syC C L N := by
  have hok : x.D.chk = 0 := (x.D.chk_ok).2 j.ok
  rw [Dk.syncD, Dk.crashD, if_pos hok]
  show crashB (zerosI x.W.length) x.W 0 x.B = _
  rw [j.crash, j.syncC]
theorem JI.rdS (j : JI st cr x h C O L P N Rs n0) : (syC C L N).map readP = (L ++ N).map some ++ P.drop N.length := by
  have hb : (N.map Pc.b).map readP = N.map some := by
    rw [List.map_map]
    exact List.map_congr_left fun p hp => (j.pk p hp).read j.n1
  have hd : (C.drop (L.length + N.length)).map readP = P.drop N.length := by
    rw [← List.drop_drop, List.map_drop, j.rdP]
  rw [syC, List.map_append, List.map_append, j.rdL, hb, hd, List.map_append, List.append_assoc]
theorem JI.Nlast (j : JI st cr x h C O L P N Rs n0) (hne : N ≠ []) : ∃ p ∈ N, p.s = n0 + N.length - 1 ∧ eS (eS 0 L) N = p.s := by
  rcases List.eq_nil_or_concat N with h0 | ⟨M, p, hM⟩
  · exact absurd h0 hne
  · rw [List.concat_eq_append] at hM
    refine ⟨p, by rw [hM]; simp, ?_, by rw [hM, eS_app]⟩
    have := (j.ps M.length p (by rw [hM]; simp)).1
    rw [this, hM, List.length_append, List.length_cons, List.length_nil]; omega
theorem JI.bdS (j : JI st cr x h C O L P N Rs n0) : ∀ s ∈ (if h = 0 then syC C L N ++ O else O ++ syC C L N), s.length = 32 ∧ nF s < n0 + N.length ∧ nB s < n0 + N.length := fun s hs => by
  have hs : s ∈ syC C L N ∨ s ∈ O := by
    split at hs <;> rcases List.mem_append.1 hs with h | h <;> simp [h]
  have old : ∀ s, s ∈ x.B → s.length = 32 ∧ nF s < n0 + N.length ∧ nB s < n0 + N.length := fun s hs => by
    obtain ⟨a, b, c⟩ := j.bd s hs
    exact ⟨a, by omega, by omega⟩
  rcases hs with hs | hs
  · rw [syC] at hs
    rcases List.mem_append.1 hs with hs | hs
    · exact old s (j.memC s (List.mem_of_mem_take hs))
    · rcases List.mem_append.1 hs with hs | hs
      · obtain ⟨p, hp, rfl⟩ := List.mem_map.1 hs
        obtain ⟨i, hi⟩ := List.mem_iff_getElem?.1 hp
        obtain ⟨h1, h2⟩ := j.ps i p hi
        have hl : i < N.length := by
          rcases Nat.lt_or_ge i N.length with h | h
          · exact h
          · rw [List.getElem?_eq_none h] at hi; cases hi
        refine ⟨blockP_len _ _ _ _ h2.t, ?_, ?_⟩
        · rw [blockP_F _ _ _ _ h2.hi h2.t]; omega
        · rw [blockP_B _ _ _ _ h2.hi h2.t]; omega
      · exact old s (j.memC s (List.mem_of_mem_drop hs))
  · exact old s (j.memO s hs)
theorem JI.ksS (j : JI st cr x h C O L P N Rs n0) : ∀ s ∈ (if h = 0 then syC C L N ++ O else O ++ syC C L N), ∀ q, readP s = some q → q.k < q.s := fun s hs => by
  have hs : s ∈ syC C L N ∨ s ∈ O := by
    split at hs <;> rcases List.mem_append.1 hs with h | h <;> simp [h]
  rcases hs with hs | hs
  · rw [← j.syncC] at hs; exact j.crC_ks _ s hs
  · exact j.ks s (j.memO s hs)
theorem JI.syC_len (j : JI st cr x h C O L P N Rs n0) : (syC C L N).length = C.length := by rw [← j.syncC]; exact j.crC_len _
theorem head_app {α : Type} (l m : List α) : (l ++ m).head? = if l = [] then m.head? else l.head? := by
  cases l <;> simp
theorem JI.commit (j : JI st cr x h C O L P N Rs n0) : JI st cr x.synced h (syC C L N) O (L ++ N) (P.drop N.length) [] [] (n0 + N.length) := by
  obtain ⟨hcp, hrec⟩ := cpl_good j.cp j.lN j.g
  have hN1 := j.n1
  have hBS : x.synced.B = if h = 0 then syC C L N ++ O else O ++ syC C L N := j.syncB
  have e0 : ∀ k, eS k ([] : List Pc) = k := fun _ => rfl
  refine ⟨j.hh, j.half, hBS, by rw [j.syC_len]; exact j.len, by rw [j.syC_len]; exact j.len2, rfl, j.rdS, ?_, hcp, trivial, Good.nil, fun i q hq => (by simp at hq), by omega, ?_, ?_, ?_, ?_, ?_, ?_, ?_, ?_, j.nextle, by simp, ?_, ?_, ?_, j.ne, j.rl, ?_⟩
  · rw [Lkd_append]; exact ⟨j.lk, j.lN⟩
  · rw [hBS]; exact j.bdS
  · rw [hBS]; exact j.ksS
  · rw [hrec, List.append_nil]; exact j.recs
  · show x.used = _; rw [List.length_append, j.used]; rfl
  · rw [j.syC_len]; exact j.usedle
  · rw [List.append_nil]; exact j.first
  · show x.last = _; rw [e0, eS_append]; exact j.last
  · show x.next = _; rw [j.next]; rfl
  · intro hst
    rcases j.oth hst with ho | ⟨ho1, ho2⟩
    · exact .inl ho
    · refine .inr ⟨by omega, fun hne => ?_⟩
      rw [run_first, head_app]
      by_cases hL : L = []
      · rw [if_pos hL]
        cases hd : N.head? with
        | none =>
          have : N = [] := List.head?_eq_none_iff.1 hd
          exact absurd (by rw [hL, this]; rfl) hne
        | some p =>
          have := (j.pk p (List.mem_of_mem_head? (by rw [hd]; rfl))).lo
          simp only [Option.map_some, Option.getD_some]; left; omega
      · rw [if_neg hL, ← run_first]; exact ho2 hL
  · intro _
    by_cases hne : N = []
    · subst hne
      rw [List.append_nil]
      exact j.nl (.inr rfl)
    · obtain ⟨p, hp, hps, hes⟩ := j.Nlast hne
      have hpos : 1 ≤ N.length := List.length_pos_iff.2 hne
      rw [eS_append, hes, chP_old (n0 := n0) (k := p.s) (by omega) fun q hq => (j.Pmem q (List.mem_of_mem_drop hq)).2]
      simp
  · intro _
    by_cases hne : N = []
    · have hm := j.mx hne
      subst hne
      have : syC C L [] = C := by rw [syC]; exact List.take_append_drop _ _
      rw [hBS, this, ← j.B]; exact hm
    · obtain ⟨p, hp, hps, hes⟩ := j.Nlast hne
      have hpos : 1 ≤ N.length := List.length_pos_iff.2 hne
      have h1 : maxN x.synced.B ≤ n0 + N.length - 1 := by
        rw [hBS]
        refine maxN_le fun s hs => ?_
        obtain ⟨_, a, b⟩ := j.bdS s hs
        omega
      have hm : p.b ∈ x.synced.B := by
        rw [hBS]
        have : p.b ∈ syC C L N := by
          rw [syC]; exact List.mem_append_right _ (List.mem_append_left _ (List.mem_map.2 ⟨p, hp, rfl⟩))
        split <;> simp [this]
      have h2 := (maxN_mem hm).1
      rw [blockP_F _ _ _ _ (j.pk p hp).hi (j.pk p hp).t] at h2
      omega
  · rcases j.al with ha | ha
    · left; rw [hrec]; intro e; exact ha (List.append_eq_nil_iff.1 e).1
    · exact .inr ha
end
end Go.Proofs.Ytoafanbfminhcaa
end

section
namespace Go.Proofs.Ytoafanbfminhcaa
open Go Go.AL
set_option maxRecDepth 10000
section
variable {st cr : Prop} {x : Jn} {h : Nat} {C O : List Bs} {L : List Pc} {P : List (Option Pc)} {N : List Pc} {Rs : List Bs} {n0 : Nat}
theorem scan_recs {A : List Bs} {L : List Pc} {P : List (Option Pc)} (hA : A.map readP = L.map some ++ P) (hl : Lkd 0 L) (hn : (run L).recs ≠ []) : (scanS A).recs ≠ [] := by
  rw [scanS_run, hA, chP_app _ _ _ hl, run_app]
  have : ∀ (M : List Pc) (a : Sc), a.recs ≠ [] → (M.foldl Sc.step a).recs ≠ [] := fun M => by
    induction M with
    | nil => exact fun a h => h
    | cons p r ih =>
      intro a h
      refine ih _ ?_
      unfold Sc.step
      split
      · simp
      · exact h
  exact this _ _ hn
theorem JI.compact (j : JI st cr x h C O L P N Rs n0) (cr' : Prop) (R : Bs) (he : x.compE R = 0) (hO : cr' → ∀ p ∈ chP 0 (O.map readP), p.last = false) :
    JI st cr' (x.comp0.wrote (1 - h) 0 0 R) (1 - h) O (syC C L N) [] (O.map readP) (pcs R x.next 0 (nparts R)) [R] x.next := by
  unfold Jn.compE at he
  split at he
  · cases he
  split at he
  · cases he
  rename_i hlong hfull
  rw [j.half2] at hfull
  have hpos := nparts_pos R
  have hnp := nparts_le R (by omega)
  have hn1 := j.n1
  have hnx := j.next
  have hlen : (syC C L N).length = C.length := j.syC_len
  have hne : pcs R x.next 0 (nparts R) ≠ [] := fun e => by
    have := congrArg List.length e
    rw [pcs_len] at this; simp at this; omega
  have hB : x.D.syncD.B = if 1 - h = 0 then O ++ syC C L N else syC C L N ++ O := by
    rw [j.syncB]
    rcases j.hh with h | h <;> subst h
    · rw [if_pos rfl, if_neg (by decide)]
    · rw [if_neg (by decide), if_pos rfl]
  have hBl : x.D.syncD.B.length / 2 = O.length := by
    rw [hB]
    have := j.len
    split <;> rw [List.length_append, hlen] <;> omega
  have hg := Good.nil.snoc R x.next 0
  rw [List.nil_append, List.nil_append] at hg
  have hbd : ∀ s ∈ x.D.syncD.B, s.length = 32 ∧ nF s < x.next ∧ nB s < x.next := by
    rw [j.syncB, hnx]; exact j.bdS
  rw [wrote_eq]
  refine ⟨?_, ?_, hB, ?_, ?_, ?_, rfl, trivial, Cpl.nil, ?_, hg, pcs_good R x.next 0 (by omega) x.next (Nat.le_refl _) (by omega), by omega, hbd, ?_, ?_, ?_, ?_, ?_, ?_, ?_, ?_, ?_, ?_, ?_, ?_, ?_, ?_, .inr (scan_recs j.rdS ((Lkd_append _ _ _).2 ⟨j.lk, j.lN⟩) (by rw [(cpl_good j.cp j.lN j.g).2, ← j.recs]; exact j.ne))⟩
  · rcases j.hh with h | h <;> subst h <;> simp
  · show 1 - x.half = _
    rw [j.half]
    rcases j.hh with h | h <;> subst h <;> rfl
  · rw [hlen]; exact j.len.symm
  · have := j.len2; have := j.len; omega
  · show [] ++ wl ((1 - h) * (x.D.syncD.B.length / 2) + 0) _ = _
    rw [List.nil_append, hBl]; rfl
  · exact pcs_lkd R _ _ _
  · show ∀ s ∈ x.D.syncD.B, _
    rw [j.syncB]; exact j.ksS
  · rfl
  · show 0 + nparts R = _; rw [pcs_len]; rfl
  · show 0 + nparts R ≤ _; have := j.len; omega
  · show x.next = _
    rw [List.nil_append]
    obtain ⟨i, hi⟩ : ∃ i, nparts R = i + 1 := ⟨nparts R - 1, by omega⟩
    cases hq : (pcs R x.next 0 (nparts R)).head? with
    | none => exact absurd (List.head?_eq_none_iff.1 hq) hne
    | some p =>
      rw [List.head?_eq_getElem?] at hq
      have := pcs_get R x.next 0 _ 0 p hq
      rw [this]; rfl
  · show x.next + nparts R - 1 = _
    obtain ⟨i, hi⟩ : ∃ i, nparts R = i + 1 := ⟨nparts R - 1, by omega⟩
    rw [hi, pcs_eS]; omega
  · show x.next + nparts R = _; rw [pcs_len]
  · show x.next + nparts R ≤ _; omega
  · rw [pcs_len]; omega
  · intro _; right
    refine ⟨scan_first_lt (by omega) fun s hs => ?_, fun h => absurd rfl h⟩
    refine (hbd s ?_).2.1
    rw [hB]; split <;> simp [hs]
  · intro hc
    rcases hc with hc | hc
    · exact hO hc
    · exact absurd hc hne
  · intro hc; exact absurd hc hne
  · simp [Jn.comp0]
  · show ([] ++ [R]).length ≤ 0 + nparts R
    simp; omega
theorem half_split {A B : List Bs} (h : A.length = B.length) : (A ++ B).take ((A ++ B).length / 2) = A ∧ (A ++ B).drop ((A ++ B).length / 2) = B := by
  have : (A ++ B).length / 2 = A.length := by rw [List.length_append]; omega
  rw [this]
  exact ⟨List.take_left, List.drop_left⟩
theorem ar_h {S C O : List Bs} {h : Nat} (hh : h = 0 ∨ h = 1) (hl : C.length = O.length) (hS : S = if h = 0 then C ++ O else O ++ C) : (h = 0 → arA S = scanS C ∧ arB S = scanS O) ∧ (h = 1 → arA S = scanS O ∧ arB S = scanS C) := by
  unfold arA arB
  rcases hh with h | h <;> subst h
  · rw [if_pos rfl] at hS
    subst hS
    obtain ⟨h1, h2⟩ := half_split hl
    rw [h1, h2]
    exact ⟨fun _ => ⟨rfl, rfl⟩, fun h => absurd h (by decide)⟩
  · rw [if_neg (by decide)] at hS
    subst hS
    obtain ⟨h1, h2⟩ := half_split hl.symm
    rw [h1, h2]
    exact ⟨fun h => absurd h (by decide), fun _ => ⟨rfl, rfl⟩⟩
theorem sel_cur {S C O : List Bs} {h : Nat} (hh : h = 0 ∨ h = 1) (hl : C.length = O.length) (hS : S = if h = 0 then C ++ O else O ++ C) (hne : (scanS C).recs ≠ []) (ho : (scanS O).recs = [] ∨ (scanS O).first < (scanS C).first ∨ (h = 0 ∧ (scanS O).first = (scanS C).first)) : Sel (arA S) (arB S) (scanS C) h := by
  obtain ⟨h0, h1⟩ := ar_h hh hl hS
  rcases hh with h | h
  · obtain ⟨e1, e2⟩ := h0 h
    rw [e1, e2]
    refine .inl ⟨h, rfl, hne, fun hc => ?_⟩
    rcases ho with ho | ho
    · exact hc.1 ho
    · omega
  · obtain ⟨e1, e2⟩ := h1 h
    rw [e1, e2]
    exact .inr ⟨h, rfl, hne, ho.imp id (fun g => by omega)⟩
theorem sel_oth {S C O : List Bs} {h : Nat} (hh : h = 0 ∨ h = 1) (hl : C.length = O.length) (hS : S = if h = 0 then C ++ O else O ++ C) (hd : (scanS C).recs = []) (ho : (scanS O).recs ≠ []) : Sel (arA S) (arB S) (scanS O) (1 - h) := by
  obtain ⟨h0, h1⟩ := ar_h hh hl hS
  rcases hh with h | h
  · obtain ⟨e1, e2⟩ := h0 h
    rw [e1, e2]
    exact .inr ⟨by omega, rfl, ho, .inl hd⟩
  · obtain ⟨e1, e2⟩ := h1 h
    rw [e1, e2]
    exact .inl ⟨by omega, rfl, ho, fun hc => hc.1 hd⟩
theorem JI.Rs_nil (j : JI st cr x h C O L P [] Rs n0) : Rs = [] := by
  have := j.g.recs sc0 rfl
  have h2 : ([] : List Bs) = [] ++ Rs := this
  rw [List.nil_append] at h2; exact h2.symm
theorem JI.again (j : JI True cr x h C O L P [] Rs n0) : x.W = [] ∧ x.D.syncD.B = x.B ∧ Sel (arA x.B) (arB x.B) (scanS C) h ∧ openJ x.D (scanS C) h = x := by
  have hRs := j.Rs_nil
  subst hRs
  have hn := j.nl (.inr rfl)
  obtain ⟨s1, s2, s3, s4⟩ := scan_base j.rd j.lk j.cp hn
  have hr := j.recs
  rw [List.append_nil] at hr
  have hne : (scanS C).recs ≠ [] := by rw [s1, ← hr]; exact j.ne
  have hL : L ≠ [] := fun e => by
    apply j.ne
    rw [hr, e]; rfl
  have hW : x.W = [] := j.W
  have hsy : x.D.syncD.B = x.B := by
    rw [j.syncB, j.B, syC]
    have : C.take L.length ++ (([] : List Pc).map Pc.b ++ C.drop (L.length + ([] : List Pc).length)) = C := List.take_append_drop _ _
    rw [this]
  have ho : (scanS O).recs = [] ∨ (scanS O).first < (scanS C).first ∨ (h = 0 ∧ (scanS O).first = (scanS C).first) := by
    rcases j.oth trivial with ho | ⟨_, ho⟩
    · exact .inl ho
    · rw [s4 hL]; exact .inr (ho hL)
  refine ⟨hW, hsy, sel_cur j.hh j.len j.B hne ho, ?_⟩
  have hm := j.mx rfl
  have hf := j.first
  rw [List.append_nil] at hf
  have hu := j.used
  have hl := j.last
  have hx := j.next
  have hhf := j.half
  unfold openJ
  rw [hsy]
  obtain ⟨B, W, half, recs, used, first, last, next⟩ := x
  simp only at hr hW hf hu hl hx hhf hm ⊢
  rw [s1, s2, s3, s4 hL, run_first, hm, hr, hf, hu, hl, hx, hhf]
  rfl
theorem JI.cut (j : JI True True x h C O L P N Rs n0) (F : List Int) : ∃ r, r ≤ Rs.length ∧ (scanS (crC F C L N)).recs = (run L).recs ++ Rs.take r ∧ ((scanS (crC F C L N)).recs ≠ [] → (scanS O).recs = [] ∨ (scanS O).first < (scanS (crC F C L N)).first ∨ (h = 0 ∧ (scanS O).first = (scanS (crC F C L N)).first)) := by
  obtain ⟨Q, hQ, hm⟩ := j.mixed F
  have hch : scanS (crC F C L N) = (chP (eS 0 L) Q).foldl Sc.step (run L) := by
    rw [scanS_run, hQ, chP_app _ _ _ j.lk, run_app]
  have hfst := fold_first (chP (eS 0 L) Q) (run L)
  rw [hch]
  rcases mix_all hm j.eSL j.lN (fun p hp => (j.pk p hp).lo) j.Pmem with ⟨i, hi⟩ | ⟨i, hi⟩
  · obtain ⟨r, hr, hh⟩ := j.g.pre i
    rw [hi] at hfst ⊢
    refine ⟨r, hr, hh (run L) j.cp.part, fun hne => ?_⟩
    rcases j.oth trivial with ho | ⟨ho1, ho2⟩
    · exact .inl ho
    · right
      rw [hfst]
      by_cases hL : L = []
      · subst hL
        rw [if_pos (show (run []).n = 0 from rfl)]
        cases hd : (N.take i).head? with
        | none =>
          exfalso; apply hne
          have : N.take i = [] := List.head?_eq_none_iff.1 hd
          rw [this]; rfl
        | some p =>
          have := (j.pk p (List.mem_of_mem_take (List.mem_of_mem_head? (by rw [hd]; rfl)))).lo
          simp only [Option.map_some, Option.getD_some]; left; omega
      · rw [j.cp.n, if_neg (fun h0 => hL (List.length_eq_zero_iff.1 h0))]
        exact ho2 hL
  · have hnl : ∀ p ∈ chP (eS 0 L) Q, p.last = false := fun p hp => by
      rw [hi] at hp
      exact j.nl (.inl trivial) p (List.mem_of_mem_take hp)
    obtain ⟨h1, h2, h3⟩ := fold_nl _ (run L) hnl
    refine ⟨0, by omega, by rw [h1]; simp, fun hne => ?_⟩
    rcases j.oth trivial with ho | ⟨ho1, ho2⟩
    · exact .inl ho
    · right
      have hL : L ≠ [] := fun e => by
        apply hne
        rw [h1, e]; rfl
      rw [hfst, j.cp.n, if_neg (fun h0 => hL (List.length_eq_zero_iff.1 h0))]
      exact ho2 hL
theorem cz_32 (F : List Int) : ∀ (N : List Pc) (A : List Bs) (i : Nat), (∀ s ∈ A, s.length = 32) → (∀ p ∈ N, p.t.length ≤ 19) → ∀ s ∈ cz F i A N, s.length = 32
  | [], A, i, h, _ => by
    have : cz F i A [] = A := by cases A <;> rfl
    rw [this]; exact h
  | p :: N, [], i, _, _ => by intro s hs; simp [cz] at hs
  | p :: N, o :: A, i, h, hp => by
    intro s hs
    rw [cz] at hs
    rcases List.mem_cons.1 hs with rfl | hs
    · exact crash1_32 _ (h o (by simp)) (blockP_len _ _ _ _ (hp p (by simp)))
    · exact cz_32 F N A (i + 1) (fun s hs => h s (by simp [hs])) (fun q hq => hp q (by simp [hq])) s hs
theorem JI.opened (j : JI True True x h C O L P N Rs n0) (F : List Int) (hne : (scanS (crC F C L N)).recs ≠ []) :
    ∃ L' P' n', JI True True (openJ (x.D.crashD F) (scanS (crC F C L N)) h) h (crC F C L N) O L' P' [] [] n' := by
  have hok : x.D.chk = 0 := (x.D.chk_ok).2 j.ok
  have hd : x.D.crashD F = ⟨if h = 0 then crC F C L N ++ O else O ++ crC F C L N, []⟩ := by
    rw [Dk.crashD, if_pos hok]
    show (⟨crashB F x.W 0 x.B, []⟩ : Dk) = _
    rw [j.crash]
  obtain ⟨r, hr, hrec, hoth⟩ := j.cut F
  have hlen := j.crC_len F
  obtain ⟨L1, P0, b1, b2, b3, b4, b5, b6, b7, b8⟩ := base (crC F C L N)
  obtain ⟨S, hS⟩ : ∃ S, (if h = 0 then crC F C L N ++ O else O ++ crC F C L N) = S := ⟨_, rfl⟩
  have mC : ∀ s ∈ crC F C L N, s ∈ S := fun s hs => by rw [← hS]; split <;> simp [hs]
  have mO : ∀ s ∈ O, s ∈ S := fun s hs => by rw [← hS]; split <;> simp [hs]
  have mS : ∀ s ∈ S, s ∈ crC F C L N ∨ s ∈ O := fun s hs => by
    rw [← hS] at hs
    split at hs <;> rcases List.mem_append.1 hs with h | h <;> simp [h]
  have h32 : ∀ s ∈ S, s.length = 32 := fun s hs => by
    rcases mS s hs with hs | hs
    · rw [crC] at hs
      rcases List.mem_append.1 hs with hs | hs
      · exact (j.bd s (j.memC s (List.mem_of_mem_take hs))).1
      · exact cz_32 F N _ 0 (fun s hs => (j.bd s (j.memC s (List.mem_of_mem_drop hs))).1) (fun p hp => (j.pk p hp).t) s hs
    · exact (j.bd s (j.memO s hs)).1
  have hks : ∀ s ∈ S, ∀ q, readP s = some q → q.k < q.s := fun s hs => by
    rcases mS s hs with hs | hs
    · exact j.crC_ks F s hs
    · exact j.ks s (j.memO s hs)
  have hsy : (⟨S, []⟩ : Dk).syncD.B = S := by
    have : (⟨S, []⟩ : Dk).chk = 0 := by
      refine (Dk.chk_ok _).2 ⟨?_, h32, by simp, fun w hw => by simp at hw⟩
      have hl : S.length = 2 * C.length := by
        rw [← hS]
        have := j.len
        split <;> rw [List.length_append, hlen] <;> omega
      have := j.len2
      show okN S.length = true
      unfold okN; rw [hl]; simp; omega
    rw [Dk.syncD, Dk.crashD, if_pos this]; rfl
  have hx : openJ (x.D.crashD F) (scanS (crC F C L N)) h = ⟨S, [], h, (scanS (crC F C L N)).recs, (scanS (crC F C L N)).used, (scanS (crC F C L N)).first, (scanS (crC F C L N)).last, maxN S + 1⟩ := by
    unfold openJ
    rw [hd, hS, hsy]
  rw [hx]
  have hL1 : L1 ≠ [] := fun e => by
    apply hne
    rw [← b5, e]; rfl
  have hul : L1.length ≤ (crC F C L N).length := by
    have := congrArg List.length b1
    rw [List.length_map, List.length_append, List.length_map] at this; omega
  have hmx := maxN_lt S
  refine ⟨L1, P0, maxN S + 1, j.hh, rfl, by rw [hS], by rw [hlen]; exact j.len, by rw [hlen]; exact j.len2, rfl, b1, b2, b3, trivial, Good.nil, fun i q hq => (by simp at hq), by omega, fun s hs => ⟨h32 s hs, maxN_mem hs⟩, hks, ?_, ?_, ?_, ?_, ?_, rfl, by simp only; omega, by simp, ?_, fun _ => b8, fun _ => rfl, hne, ?_, .inl (by rw [b5]; exact hne)⟩
  · rw [List.append_nil]; exact b5.symm
  · exact b4.symm
  · simp only; rw [← b4]; exact hul
  · rw [List.append_nil, ← run_first]; exact (b6 hL1).symm
  · exact b7.symm
  · intro _
    rcases hoth hne with ho | ho
    · exact .inl ho
    · refine .inr ⟨scan_first_lt (by omega) fun s hs => (maxN_mem (mO s hs)).1, fun _ => by rw [b6 hL1]; exact ho⟩
  · simp only
    rw [← b4, ← b5]
    have h1 : ∀ L : List Pc, (run L).recs.length ≤ L.length := fun L => by
      refine snoc_ind (P := fun L => (run L).recs.length ≤ L.length) ?_ (fun l p ih => ?_) L
      · exact Nat.le_refl _
      · show (run (l ++ [p])).recs.length ≤ (l ++ [p]).length
        have ih : (run l).recs.length ≤ l.length := ih
        rw [run_app, List.length_append]
        simp only [List.foldl_cons, List.foldl_nil, Sc.step]
        split
        · simp; omega
        · simp only [List.length_cons, List.length_nil]; omega
    exact h1 L1
end
end Go.Proofs.Ytoafanbfminhcaa
end

section
namespace Go.Proofs.Ytoafanbfminhcaa
open Go Go.AL
set_option maxRecDepth 10000
def p0 : Pc := ⟨1, 0, true, []⟩
theorem fmt_cons (n : Nat) (hn : 1 ≤ n) : fmtS n = p0.b :: List.replicate (n - 1) z32 := by
  obtain ⟨m, rfl⟩ : ∃ m, n = m + 1 := ⟨n - 1, by omega⟩
  rw [fmtS, newS, List.replicate_succ]; rfl
theorem z_none : readP z32 = none := by
  have : (readP z32).isNone = true := by decide +kernel
  exact Option.isNone_iff_eq_none.1 this
theorem z_num : nF z32 = 0 ∧ nB z32 = 0 := by
  have h : decide (nF z32 = 0 ∧ nB z32 = 0) = true := by decide +kernel
  exact of_decide_eq_true h
def x0 (n : Nat) : Jn := ⟨fmtS n, [], 0, [[]], 1, 1, 1, 2⟩
theorem init_ji (m : Nat) (h1 : 2 ≤ m) (h2 : m ≤ 1000) : JI True True (x0 (2 * m)) 0 (p0.b :: List.replicate (m - 1) z32) (List.replicate m z32) [p0] (List.replicate (m - 1) none) [] [] 2 := by
  have hB : fmtS (2 * m) = (p0.b :: List.replicate (m - 1) z32) ++ List.replicate m z32 := by
    rw [fmt_cons _ (by omega), List.cons_append, List.replicate_append_replicate]
    congr 2; omega
  have hp : readP p0.b = some p0 := readP_block 1 0 true [] (by decide) (by decide) (by decide) (by decide)
  have hO : ∀ k, (List.replicate k z32).map readP = List.replicate k none := fun k => by rw [List.map_replicate, z_none]
  have hn : ∀ k j, chP j (List.replicate k none) = [] := fun k j => by cases k <;> rfl
  have hF : nF p0.b = 1 := blockP_F 1 0 true [] (by decide) (by decide)
  have hBk : nB p0.b = 1 := blockP_B 1 0 true [] (by decide) (by decide)
  have hmem : ∀ s ∈ fmtS (2 * m), s = p0.b ∨ s = z32 := fun s hs => by
    rw [fmt_cons _ (by omega)] at hs
    rcases List.mem_cons.1 hs with h | h
    · exact .inl h
    · exact .inr (List.eq_of_mem_replicate h)
  refine ⟨.inl rfl, rfl, hB, by simp; omega, by simp; omega, rfl, ?_, ⟨rfl, trivial⟩, rfl, trivial, Good.nil, fun i q hq => (by simp at hq), by omega, ?_, ?_, rfl, rfl, ?_, rfl, rfl, rfl, by simp [x0], by simp, ?_, ?_, ?_, by simp [x0], by simp [x0], .inl (show ([[]] : List Bs) ≠ [] by simp)⟩
  · rw [List.map_cons, hO, hp]; rfl
  · intro s hs
    rcases hmem s hs with rfl | rfl
    · exact ⟨blockP_len 1 0 true [] (by decide), by omega, by omega⟩
    · exact ⟨by simp [z32], by have := z_num; omega, by have := z_num; omega⟩
  · intro s hs q hq
    rcases hmem s hs with rfl | rfl
    · rw [hp] at hq; cases hq; decide
    · rw [z_none] at hq; cases hq
  · simp [x0]
  · intro _; left
    rw [scanS_run, hO, hn]; rfl
  · intro _ p hp
    rw [hn] at hp; simp at hp
  · intro _
    show maxN (fmtS (2 * m)) + 1 = 2
    have a : maxN (fmtS (2 * m)) ≤ 1 := maxN_le fun s hs => by
      rcases hmem s hs with rfl | rfl
      · omega
      · have := z_num; omega
    have b := (maxN_mem (S := fmtS (2 * m)) (s := p0.b) (by rw [fmt_cons _ (by omega)]; simp)).1
    omega
end Go.Proofs.Ytoafanbfminhcaa
end

section
namespace Go.Proofs.Ytoafanbfminhcaa
open Go Go.AL
set_option maxRecDepth 10000
def KI (x : Jn) (kept : List Bs) : Prop := ∃ h C O L P N Rs n0, JI True True x h C O L P N Rs n0 ∧ kept = (run L).recs ∧ kept ≠ [] ∧ chP 0 (O.map readP) = []
theorem KI.sz {x : Jn} {kept : List Bs} (k : KI x kept) : x.Sz ∧ x.D.Ok ∧ x.recs ≠ [] ∧ x.recs.length ≤ 1000 ∧ kept.length ≤ 1000 ∧ (x.half = 0 ∨ x.half = 1) := by
  obtain ⟨h, C, O, L, P, N, Rs, n0, j, hk, _⟩ := k
  have h1 := j.rl
  have h2 := j.usedle
  have h3 := j.len2
  have h4 := j.recs
  have h5 := congrArg List.length h4
  rw [List.length_append, ← hk] at h5
  refine ⟨j.sz, j.ok, j.ne, by omega, by omega, j.sz.h⟩
theorem JI.halfN {st cr : Prop} {x : Jn} {h : Nat} {C O : List Bs} {L : List Pc} {P : List (Option Pc)} {N : List Pc} {Rs : List Bs} {n0 : Nat} (j : JI st cr x h C O L P N Rs n0) {k : Nat} (hk : x.half = (k : Int)) : k = h := by
  have := j.half; omega
theorem KI.append {x : Jn} {kept : List Bs} (k : KI x kept) (R : Bs) (he : x.appE R = 0) (h : Nat) (hh : x.half = (h : Int)) : KI (x.wrote h x.used x.last R) kept := by
  obtain ⟨h', C, O, L, P, N, Rs, n0, j, hk, hn⟩ := k
  have := j.halfN hh
  subst this
  exact ⟨_, C, O, L, P, _, _, n0, j.append R he, hk, hn⟩
theorem KI.commit {x : Jn} {kept : List Bs} (k : KI x kept) : KI x.synced x.recs := by
  obtain ⟨h', C, O, L, P, N, Rs, n0, j, hk, hn, hO⟩ := k
  have hr := (cpl_good j.cp j.lN j.g).2
  exact ⟨_, _, O, _, _, _, _, _, j.commit, by rw [hr]; exact j.recs, j.ne, hO⟩
theorem openJ_D (d : Dk) (c : Sc) (h : Nat) : (openJ d c h).D = d := rfl
theorem openJ_recs (d : Dk) (c : Sc) (h : Nat) : (openJ d c h).recs = c.recs := rfl
def Beg (l m : List Bs) : Prop := m.length ≤ l.length ∧ l.take m.length = m
theorem Beg.app (l m : List Bs) : Beg (l ++ m) l := ⟨by simp, List.take_left⟩
theorem KI.crash {x : Jn} {kept : List Bs} (k : KI x kept) (F : List Int) : ∃ c h, (x.D.crashD F).Ok ∧ Sel (arA (x.D.crashD F).syncD.B) (arB (x.D.crashD F).syncD.B) c h ∧ KI (openJ (x.D.crashD F) c h) (openJ (x.D.crashD F) c h).recs ∧ Beg (openJ (x.D.crashD F) c h).recs kept ∧ Beg x.recs (openJ (x.D.crashD F) c h).recs := by
  obtain ⟨h, C, O, L, P, N, Rs, n0, j, hk, hn, hO⟩ := k
  obtain ⟨r, hr, hrec, _⟩ := j.cut F
  have hne : (scanS (crC F C L N)).recs ≠ [] := by
    rw [hrec, ← hk]
    intro e; exact hn (List.append_eq_nil_iff.1 e).1
  obtain ⟨L', P', n', j'⟩ := j.opened F hne
  obtain ⟨_, a2, a3, _⟩ := j'.again
  rw [openJ_D] at a2
  have hrs := j'.recs
  rw [List.append_nil] at hrs
  refine ⟨scanS (crC F C L N), h, j'.ok, by rw [a2]; exact a3, ⟨h, _, O, L', P', [], [], n', j', hrs, hne, hO⟩, ?_, ?_⟩
  · rw [openJ_recs, hrec, ← hk]; exact Beg.app _ _
  · rw [openJ_recs, hrec, j.recs]
    have : (run L).recs ++ Rs = ((run L).recs ++ Rs.take r) ++ Rs.drop r := by rw [List.append_assoc, List.take_append_drop]
    rw [this]; exact Beg.app _ _
theorem KI.init (m : Nat) (h1 : 2 ≤ m) (h2 : m ≤ 1000) : KI (x0 (2 * m)) [[]] ∧ ∃ c, Sel (arA (x0 (2 * m)).D.syncD.B) (arB (x0 (2 * m)).D.syncD.B) c 0 ∧ openJ (x0 (2 * m)).D c 0 = x0 (2 * m) := by
  have j := init_ji m h1 h2
  obtain ⟨_, a2, a3, a4⟩ := j.again
  refine ⟨⟨0, _, _, _, _, _, _, _, j, rfl, by simp, ?_⟩, _, by rw [a2]; exact a3, a4⟩
  rw [List.map_replicate, z_none]
  obtain ⟨i, rfl⟩ : ∃ i, m = i + 1 := ⟨m - 1, by omega⟩
  rfl
def CI (x : Jn) (before : List Bs) (commit : Bool) : Prop := ∃ h C O L P N Rs n0, JI True True x h C O L P N Rs n0 ∧ (scanS O).recs = before ∧ before ≠ [] ∧ (commit = true → (run L).recs ≠ [])
theorem CI.sz {x : Jn} {b : List Bs} {c : Bool} (k : CI x b c) : x.Sz ∧ x.D.Ok ∧ x.recs ≠ [] ∧ x.recs.length ≤ 1000 ∧ (x.half = 0 ∨ x.half = 1) := by
  obtain ⟨h, C, O, L, P, N, Rs, n0, j, _⟩ := k
  have h1 := j.rl
  have h2 := j.usedle
  have h3 := j.len2
  exact ⟨j.sz, j.ok, j.ne, by omega, j.sz.h⟩
theorem KI.compact {x : Jn} {kept : List Bs} (k : KI x kept) (R : Bs) (he : x.compE R = 0) (h : Nat) (hh : 1 - x.half = (h : Int)) : CI (x.comp0.wrote h 0 0 R) x.recs false := by
  obtain ⟨h', C, O, L, P, N, Rs, n0, j, hk, hn, hO⟩ := k
  have e : h = 1 - h' := by have := j.half; rcases j.hh with g | g <;> subst g <;> omega
  subst e
  have jc := j.commit
  have := scan_base jc.rd jc.lk jc.cp (jc.nl (.inr rfl))
  have hr := jc.recs
  rw [List.append_nil] at hr
  exact ⟨_, _, _, _, _, _, _, _, j.compact True R he (fun _ p hp => by rw [hO] at hp; simp at hp), by rw [this.1, ← hr]; rfl, j.ne, fun h => by cases h⟩
theorem CI.append {x : Jn} {b : List Bs} {c : Bool} (k : CI x b c) (R : Bs) (he : x.appE R = 0) (h : Nat) (hh : x.half = (h : Int)) : CI (x.wrote h x.used x.last R) b c := by
  obtain ⟨h', C, O, L, P, N, Rs, n0, j, hk, hn⟩ := k
  have := j.halfN hh
  subst this
  exact ⟨_, C, O, L, P, _, _, n0, j.append R he, hk, hn⟩
theorem CI.commit {x : Jn} {b : List Bs} {c : Bool} (k : CI x b c) : CI x.synced b true := by
  obtain ⟨h', C, O, L, P, N, Rs, n0, j, hk, hn, _⟩ := k
  have hr := (cpl_good j.cp j.lN j.g).2
  exact ⟨_, _, O, _, _, _, _, _, j.commit, hk, hn, fun _ => by rw [hr, ← j.recs]; exact j.ne⟩
theorem CI.crash {x : Jn} {b : List Bs} {cm : Bool} (k : CI x b cm) (F : List Int) : ∃ c h, (x.D.crashD F).Ok ∧ Sel (arA (x.D.crashD F).syncD.B) (arB (x.D.crashD F).syncD.B) c h ∧ (openJ (x.D.crashD F) c h).Sz ∧ (openJ (x.D.crashD F) c h).recs ≠ [] ∧ (Beg x.recs (openJ (x.D.crashD F) c h).recs ∨ (cm = false ∧ (openJ (x.D.crashD F) c h).recs = b)) := by
  obtain ⟨h, C, O, L, P, N, Rs, n0, j, hk, hn, hcm⟩ := k
  obtain ⟨r, hr, hrec, _⟩ := j.cut F
  by_cases hne : (scanS (crC F C L N)).recs = []
  · have hd : x.D.crashD F = ⟨if h = 0 then crC F C L N ++ O else O ++ crC F C L N, []⟩ := by
      rw [Dk.crashD, if_pos ((x.D.chk_ok).2 j.ok)]
      show (⟨crashB F x.W 0 x.B, []⟩ : Dk) = _
      rw [j.crash]
    obtain ⟨S, hS⟩ : ∃ S, (if h = 0 then crC F C L N ++ O else O ++ crC F C L N) = S := ⟨_, rfl⟩
    have hlen := j.crC_len F
    have hl : S.length = 2 * C.length := by
      rw [← hS]
      have := j.len
      split <;> rw [List.length_append, hlen] <;> omega
    have h2 := j.len2
    have hok : (⟨S, []⟩ : Dk).Ok := by
      refine ⟨by show okN S.length = true; unfold okN; rw [hl]; simp; omega, fun s hs => ?_, by simp, fun w hw => by simp at hw⟩
      have hs : s ∈ crC F C L N ∨ s ∈ O := by
        rw [← hS] at hs
        split at hs <;> rcases List.mem_append.1 hs with h | h <;> simp [h]
      rcases hs with hs | hs
      · rw [crC] at hs
        rcases List.mem_append.1 hs with hs | hs
        · exact (j.bd s (j.memC s (List.mem_of_mem_take hs))).1
        · exact cz_32 F N _ 0 (fun s hs => (j.bd s (j.memC s (List.mem_of_mem_drop hs))).1) (fun p hp => (j.pk p hp).t) s hs
      · exact (j.bd s (j.memO s hs)).1
    have hsy : (⟨S, []⟩ : Dk).syncD.B = S := by rw [Dk.syncD, Dk.crashD, if_pos ((Dk.chk_ok _).2 hok)]; rfl
    have hsel := sel_oth (S := S) j.hh (by rw [hlen]; exact j.len) hS.symm hne (by rw [hk]; exact hn)
    rw [hd, hS]
    refine ⟨scanS O, 1 - h, hok, by rw [hsy]; exact hsel, ?_, by rw [openJ_recs, hk]; exact hn, .inr ⟨?_, by rw [openJ_recs]; exact hk⟩⟩
    · obtain ⟨L1, P0, b1, b2, b3, b4, b5, b6, b7, b8⟩ := base O
      have hm := maxN_lt S
      have hul : L1.length ≤ O.length := by
        have := congrArg List.length b1
        rw [List.length_map, List.length_append, List.length_map] at this; omega
      have hf := scan_first_lt (A := O) (m := 4294967296) (by omega) fun s _ => n4_lt _
      have hrl : (scanS O).recs.length ≤ O.length := by
        rw [← b5]
        have h1 : ∀ L : List Pc, (run L).recs.length ≤ L.length := fun L => by
          refine snoc_ind (P := fun L => (run L).recs.length ≤ L.length) ?_ (fun l p ih => ?_) L
          · exact Nat.le_refl _
          · show (run (l ++ [p])).recs.length ≤ (l ++ [p]).length
            have ih : (run l).recs.length ≤ l.length := ih
            rw [run_app, List.length_append]
            simp only [List.foldl_cons, List.foldl_nil, Sc.step]
            split
            · simp; omega
            · simp only [List.length_cons, List.length_nil]; omega
        have := h1 L1; omega
      have hla : (scanS O).last ≤ 4294967296 := by
        rw [← b7]
        have : eS 0 L1 < 4294967296 := eS_lt L1 0 (by omega) fun p hp => by
          have : some p ∈ O.map readP := by rw [b1]; exact List.mem_append_left _ (List.mem_map.2 ⟨p, hp, rfl⟩)
          obtain ⟨s, hs, hr⟩ := mem_read this
          rw [(readP_some hr).2.1]; exact n4_lt _
        omega
      have hol := j.len
      unfold openJ
      rw [hsy]
      refine ⟨by simp only; omega, ?_, by simp only; rw [← b4]; omega, by simp only; omega, hla, by simp only; omega, by simp only; omega, by simp, by simp only; omega⟩
      simp only
      rcases j.hh with g | g <;> subst g <;> simp
    · cases hc : cm with
      | false => rfl
      | true =>
        exfalso
        have := hcm hc
        rw [hrec] at hne
        exact this (List.append_eq_nil_iff.1 hne).1
  · obtain ⟨L', P', n', j'⟩ := j.opened F hne
    obtain ⟨_, a2, a3, _⟩ := j'.again
    rw [openJ_D] at a2
    refine ⟨scanS (crC F C L N), h, j'.ok, by rw [a2]; exact a3, j'.sz, hne, .inl ?_⟩
    rw [openJ_recs, hrec, j.recs]
    have : (run L).recs ++ Rs = ((run L).recs ++ Rs.take r) ++ Rs.drop r := by rw [List.append_assoc, List.take_append_drop]
    rw [this]; exact Beg.app _ _
def AI (x : Jn) : Prop := ∃ h C O L P N Rs n0, JI True False x h C O L P N Rs n0
theorem JI.weak {st cr : Prop} {x : Jn} {h : Nat} {C O : List Bs} {L : List Pc} {P : List (Option Pc)} {N : List Pc} {Rs : List Bs} {n0 : Nat} (j : JI st cr x h C O L P N Rs n0) (hn : N = [] ∨ cr) : JI st False x h C O L P N Rs n0 :=
  ⟨j.hh, j.half, j.B, j.len, j.len2, j.W, j.rd, j.lk, j.cp, j.lN, j.g, j.ps, j.n1, j.bd, j.ks, j.recs, j.used, j.usedle, j.first, j.last, j.next, j.nextle, j.wlen, j.oth, fun h => h.elim False.elim fun e => j.nl (.inr e), j.mx, j.ne, j.rl, j.al⟩
theorem AI.sz {x : Jn} (k : AI x) : x.Sz ∧ x.D.Ok ∧ x.recs ≠ [] ∧ x.recs.length ≤ 1000 ∧ (x.half = 0 ∨ x.half = 1) := by
  obtain ⟨h, C, O, L, P, N, Rs, n0, j⟩ := k
  have h1 := j.rl
  have h2 := j.usedle
  have h3 := j.len2
  exact ⟨j.sz, j.ok, j.ne, by omega, j.sz.h⟩
theorem AI.append {x : Jn} (k : AI x) (R : Bs) (he : x.appE R = 0) (h : Nat) (hh : x.half = (h : Int)) : AI (x.wrote h x.used x.last R) := by
  obtain ⟨h', C, O, L, P, N, Rs, n0, j⟩ := k
  have := j.halfN hh
  subst this
  exact ⟨_, C, O, L, P, _, _, n0, j.append R he⟩
theorem AI.commit {x : Jn} (k : AI x) : AI x.synced := by
  obtain ⟨h', C, O, L, P, N, Rs, n0, j⟩ := k
  exact ⟨_, _, _, _, _, _, _, _, j.commit⟩
theorem AI.compact {x : Jn} (k : AI x) (R : Bs) (he : x.compE R = 0) (h : Nat) (hh : 1 - x.half = (h : Int)) : AI (x.comp0.wrote h 0 0 R) := by
  obtain ⟨h', C, O, L, P, N, Rs, n0, j⟩ := k
  have e : h = 1 - h' := by have := j.half; rcases j.hh with g | g <;> subst g <;> omega
  subst e
  exact ⟨_, _, _, _, _, _, _, _, j.compact False R he (fun h => h.elim)⟩
theorem AI.again {x : Jn} (k : AI x) : x.synced.W = [] ∧ ∃ c h, Sel (arA x.synced.D.syncD.B) (arB x.synced.D.syncD.B) c h ∧ openJ x.synced.D c h = x.synced := by
  obtain ⟨h', C, O, L, P, N, Rs, n0, j⟩ := k
  obtain ⟨a1, a2, a3, a4⟩ := j.commit.again
  exact ⟨rfl, _, _, by rw [a2]; exact a3, a4⟩
theorem AI.init (m : Nat) (h1 : 2 ≤ m) (h2 : m ≤ 1000) : AI (x0 (2 * m)) := ⟨_, _, _, _, _, _, _, _, (init_ji m h1 h2).weak (.inl rfl)⟩
def RI (x : Jn) : Prop := ∃ h C O L P N Rs n0, JI True False x h C O L P N Rs n0
theorem RI.sz {x : Jn} (k : RI x) : x.Sz ∧ x.D.Ok ∧ x.recs ≠ [] ∧ x.recs.length ≤ 1000 ∧ (x.half = 0 ∨ x.half = 1) := by
  obtain ⟨h, C, O, L, P, N, Rs, n0, j⟩ := k
  have h1 := j.rl
  have h2 := j.usedle
  have h3 := j.len2
  exact ⟨j.sz, j.ok, j.ne, by omega, j.sz.h⟩
theorem RI.append {x : Jn} (k : RI x) (R : Bs) (he : x.appE R = 0) (h : Nat) (hh : x.half = (h : Int)) : RI (x.wrote h x.used x.last R) := by
  obtain ⟨h', C, O, L, P, N, Rs, n0, j⟩ := k
  have := j.halfN hh
  subst this
  exact ⟨_, C, O, L, P, _, _, n0, j.append R he⟩
theorem RI.commit {x : Jn} (k : RI x) : RI x.synced := by
  obtain ⟨h', C, O, L, P, N, Rs, n0, j⟩ := k
  exact ⟨_, _, _, _, _, _, _, _, j.commit⟩
theorem RI.compact {x : Jn} (k : RI x) (R : Bs) (he : x.compE R = 0) (h : Nat) (hh : 1 - x.half = (h : Int)) : RI (x.comp0.wrote h 0 0 R) := by
  obtain ⟨h', C, O, L, P, N, Rs, n0, j⟩ := k
  have e : h = 1 - h' := by have := j.half; rcases j.hh with g | g <;> subst g <;> omega
  subst e
  exact ⟨_, _, _, _, _, _, _, _, j.compact False R he (fun h => h.elim)⟩
theorem RI.init (m : Nat) (h1 : 2 ≤ m) (h2 : m ≤ 1000) : RI (x0 (2 * m)) := by
  obtain ⟨h, C, O, L, P, N, Rs, n0, j⟩ := AI.init m h1 h2
  exact ⟨h, C, O, L, P, N, Rs, n0, j.hh, j.half, j.B, j.len, j.len2, j.W, j.rd, j.lk, j.cp, j.lN, j.g, j.ps, j.n1, j.bd, j.ks, j.recs, j.used, j.usedle, j.first, j.last, j.next, j.nextle, j.wlen, j.oth, j.nl, j.mx, j.ne, j.rl, j.al⟩
theorem run_recs_le (L : List Pc) : (run L).recs.length ≤ L.length := by
  refine snoc_ind (P := fun L => (run L).recs.length ≤ L.length) ?_ (fun l p ih => ?_) L
  · exact Nat.le_refl _
  · show (run (l ++ [p])).recs.length ≤ (l ++ [p]).length
    have ih : (run l).recs.length ≤ l.length := ih
    rw [run_app, List.length_append]
    simp only [List.foldl_cons, List.foldl_nil, Sc.step]
    split
    · simp; omega
    · simp only [List.length_cons, List.length_nil]; omega
theorem opened_any {S C O : List Bs} {h : Nat} (hh : h = 0 ∨ h = 1) (hl : C.length = O.length) (hl2 : 2 ≤ C.length ∧ C.length ≤ 1000) (hS : S = if h = 0 then C ++ O else O ++ C) (h32 : ∀ s ∈ S, s.length = 32) (hks : ∀ s ∈ S, ∀ q, readP s = some q → q.k < q.s) (hne : (scanS C).recs ≠ []) (ho : (scanS O).recs = [] ∨ (scanS O).first < (scanS C).first ∨ (h = 0 ∧ (scanS O).first = (scanS C).first)) :
    RI (openJ ⟨S, []⟩ (scanS C) h) := by
  obtain ⟨L1, P0, b1, b2, b3, b4, b5, b6, b7, b8⟩ := base C
  have hsy : (⟨S, []⟩ : Dk).syncD.B = S := by
    have : (⟨S, []⟩ : Dk).chk = 0 := by
      refine (Dk.chk_ok _).2 ⟨?_, h32, by simp, fun w hw => by simp at hw⟩
      have hlS : S.length = 2 * C.length := by
        rw [hS]
        split <;> rw [List.length_append] <;> omega
      show okN S.length = true
      unfold okN; rw [hlS]; simp; omega
    rw [Dk.syncD, Dk.crashD, if_pos this]; rfl
  have hx : openJ ⟨S, []⟩ (scanS C) h = ⟨S, [], h, (scanS C).recs, (scanS C).used, (scanS C).first, (scanS C).last, maxN S + 1⟩ := by
    unfold openJ
    rw [hsy]
  rw [hx]
  have hL1 : L1 ≠ [] := fun e => by
    apply hne
    rw [← b5, e]; rfl
  have hul : L1.length ≤ C.length := by
    have := congrArg List.length b1
    rw [List.length_map, List.length_append, List.length_map] at this; omega
  have hmx := maxN_lt S
  refine ⟨h, C, O, L1, P0, [], [], maxN S + 1, hh, rfl, hS, hl, hl2, rfl, b1, b2, b3, trivial, Good.nil, fun i q hq => (by simp at hq), by omega, fun s hs => ⟨h32 s hs, maxN_mem hs⟩, hks, ?_, ?_, ?_, ?_, ?_, rfl, by simp only; omega, by simp, ?_, fun _ => b8, fun _ => rfl, hne, ?_, .inl (by rw [b5]; exact hne)⟩
  · rw [List.append_nil]; exact b5.symm
  · exact b4.symm
  · simp only; rw [← b4]; exact hul
  · rw [List.append_nil, ← run_first]; exact (b6 hL1).symm
  · exact b7.symm
  · intro _
    rcases ho with ho | ho
    · exact .inl ho
    · refine .inr ⟨scan_first_lt (by omega) fun s hs => (maxN_mem ?_).1, fun _ => by rw [b6 hL1]; exact ho⟩
      rw [hS]; split <;> simp [hs]
  · simp only
    rw [← b4, ← b5]
    exact run_recs_le L1
theorem sel_ex (a b : Sc) (h : a.recs ≠ [] ∨ b.recs ≠ []) : ∃ c k, Sel a b c k ∧ ((k = 0 ∧ c = a ∧ a.recs ≠ [] ∧ (b.recs = [] ∨ b.first ≤ a.first)) ∨ (k = 1 ∧ c = b ∧ b.recs ≠ [] ∧ (a.recs = [] ∨ a.first < b.first))) := by
  by_cases ha : a.recs = []
  · have hb := h.resolve_left (fun g => g ha)
    exact ⟨b, 1, .inr ⟨rfl, rfl, hb, .inl ha⟩, .inr ⟨rfl, rfl, hb, .inl ha⟩⟩
  · by_cases hb : b.recs ≠ [] ∧ a.first < b.first
    · exact ⟨b, 1, .inr ⟨rfl, rfl, hb.1, .inr hb.2⟩, .inr ⟨rfl, rfl, hb.1, .inr hb.2⟩⟩
    · refine ⟨a, 0, .inl ⟨rfl, rfl, ha, hb⟩, .inl ⟨rfl, rfl, ha, ?_⟩⟩
      by_cases hbr : b.recs = []
      · exact .inl hbr
      · right
        rcases Nat.lt_or_ge a.first b.first with g | g
        · exact absurd ⟨hbr, g⟩ hb
        · exact g
theorem RI.crash {x : Jn} (k : RI x) (F : List Int) : ∃ c h, (x.D.crashD F).Ok ∧ Sel (arA (x.D.crashD F).syncD.B) (arB (x.D.crashD F).syncD.B) c h ∧ RI (openJ (x.D.crashD F) c h) := by
  obtain ⟨h, C, O, L, P, N, Rs, n0, j⟩ := k
  have hd : x.D.crashD F = ⟨if h = 0 then crC F C L N ++ O else O ++ crC F C L N, []⟩ := by
    rw [Dk.crashD, if_pos ((x.D.chk_ok).2 j.ok)]
    show (⟨crashB F x.W 0 x.B, []⟩ : Dk) = _
    rw [j.crash]
  obtain ⟨S, hS⟩ : ∃ S, (if h = 0 then crC F C L N ++ O else O ++ crC F C L N) = S := ⟨_, rfl⟩
  have hlen := j.crC_len F
  have hl := j.len
  have h2 := j.len2
  obtain ⟨Q, hQ, hm⟩ := j.mixed F
  have hal : (scanS (crC F C L N)).recs ≠ [] ∨ (scanS O).recs ≠ [] := j.al.elim (fun ha => .inl (scan_recs hQ j.lk ha)) .inr
  have hm : ∀ s ∈ S, s ∈ crC F C L N ∨ s ∈ O := fun s hs => by
    rw [← hS] at hs
    split at hs <;> rcases List.mem_append.1 hs with h | h <;> simp [h]
  have h32 : ∀ s ∈ S, s.length = 32 := fun s hs => by
    rcases hm s hs with hs | hs
    · rw [crC] at hs
      rcases List.mem_append.1 hs with hs | hs
      · exact (j.bd s (j.memC s (List.mem_of_mem_take hs))).1
      · exact cz_32 F N _ 0 (fun s hs => (j.bd s (j.memC s (List.mem_of_mem_drop hs))).1) (fun p hp => (j.pk p hp).t) s hs
    · exact (j.bd s (j.memO s hs)).1
  have hks : ∀ s ∈ S, ∀ q, readP s = some q → q.k < q.s := fun s hs => by
    rcases hm s hs with hs | hs
    · exact j.crC_ks F s hs
    · exact j.ks s (j.memO s hs)
  have hok : (⟨S, []⟩ : Dk).Ok := by
    refine ⟨?_, h32, by simp, fun w hw => by simp at hw⟩
    have hlS : S.length = 2 * C.length := by
      rw [← hS]
      split <;> rw [List.length_append, hlen] <;> omega
    show okN S.length = true
    unfold okN; rw [hlS]; simp; omega
  have hsy : (⟨S, []⟩ : Dk).syncD.B = S := by rw [Dk.syncD, Dk.crashD, if_pos ((Dk.chk_ok _).2 hok)]; rfl
  obtain ⟨hA0, hA1⟩ := ar_h (S := S) (C := crC F C L N) (O := O) j.hh (by rw [hlen]; exact hl) hS.symm
  rw [hd, hS, hsy]
  have halAB : (arA S).recs ≠ [] ∨ (arB S).recs ≠ [] := by
    rcases j.hh with g | g
    · rw [(hA0 g).1, (hA0 g).2]; exact hal
    · rw [(hA1 g).1, (hA1 g).2]; exact hal.symm
  obtain ⟨c, k, hsel, hcase⟩ := sel_ex _ _ halAB
  refine ⟨c, k, hok, hsel, ?_⟩
  have hl' : (crC F C L N).length = O.length := by rw [hlen]; exact hl
  rcases j.hh with g | g
  · obtain ⟨ea, eb⟩ := hA0 g
    rw [if_pos g] at hS
    rcases hcase with ⟨rfl, rfl, hne, ho⟩ | ⟨rfl, rfl, hne, ho⟩
    · rw [ea, eb] at ho
      rw [ea] at hne ⊢
      exact opened_any (C := crC F C L N) (O := O) (.inl rfl) hl' (by rw [hlen]; exact h2) (by rw [if_pos rfl]; exact hS.symm) h32 hks hne (ho.imp id fun g => by omega)
    · rw [ea, eb] at ho
      rw [eb] at hne ⊢
      exact opened_any (C := O) (O := crC F C L N) (.inr rfl) hl'.symm (by omega) (by rw [if_neg (by decide)]; exact hS.symm) h32 hks hne (ho.imp id .inl)
  · obtain ⟨ea, eb⟩ := hA1 g
    rw [if_neg (by omega)] at hS
    rcases hcase with ⟨rfl, rfl, hne, ho⟩ | ⟨rfl, rfl, hne, ho⟩
    · rw [ea, eb] at ho
      rw [ea] at hne ⊢
      exact opened_any (C := O) (O := crC F C L N) (.inl rfl) hl'.symm (by omega) (by rw [if_pos rfl]; exact hS.symm) h32 hks hne (ho.imp id fun g => by omega)
    · rw [ea, eb] at ho
      rw [eb] at hne ⊢
      exact opened_any (C := crC F C L N) (O := O) (.inr rfl) hl' (by rw [hlen]; exact h2) (by rw [if_neg (by decide)]; exact hS.symm) h32 hks hne (ho.imp id .inl)
theorem RI.same {x : Jn} (k : RI x) : ∃ c h, Sel (arA x.D.syncD.B) (arB x.D.syncD.B) c h ∧ openJ x.D c h = x := by
  obtain ⟨h, C, O, L, P, N, Rs, n0, j⟩ := k
  obtain ⟨a1, a2, a3, a4⟩ := j.commit.again
  refine ⟨scanS (syC C L N), h, a3, ?_⟩
  have e1 := congrArg Jn.half a4
  have e2 := congrArg Jn.recs a4
  have e3 := congrArg Jn.used a4
  have e4 := congrArg Jn.first a4
  have e5 := congrArg Jn.last a4
  have e6 := congrArg Jn.next a4
  have hm : (openJ x.D (scanS (syC C L N)) h).next = maxN x.synced.B + 1 := rfl
  have hm2 : (openJ x.synced.D (scanS (syC C L N)) h).next = maxN x.synced.D.syncD.B + 1 := rfl
  rw [hm2, a2] at e6
  obtain ⟨B, W, half, recs, used, first, last, next⟩ := x
  unfold openJ at e1 e2 e3 e4 e5 hm ⊢
  simp only at e1 e2 e3 e4 e5 hm ⊢
  rw [e1, e2, e3, e4, e5, hm, e6]
  rfl
end Go.Proofs.Ytoafanbfminhcaa
end

section
namespace Go.Proofs.Ytoafanbfminhcaa
open Go Go.AL
set_option maxRecDepth 10000
structure OI (x : Jn) : Prop where
  sz : x.Sz
  ok : x.D.Ok
  ne : x.recs ≠ []
  rl : x.recs.length ≤ x.used
theorem okN_even {n : Nat} (h : okN n = true) : n = 2 * (n / 2) ∧ 4 ≤ n ∧ n ≤ 2000 := by
  simp only [okN, Bool.and_eq_true, decide_eq_true_eq] at h
  omega
theorem wl_ok {n q : Nat} {N : List Pc} (hq : q + N.length ≤ n) (ht : ∀ p ∈ N, p.t.length ≤ 19) : ∀ w ∈ wl q N, (0 ≤ w.1 ∧ w.1 < n) ∧ w.2.length = 32 := fun w hw => by
  obtain ⟨p, hp, i, rfl, hi⟩ := wl_mem N _ w hw
  exact ⟨⟨by simp only; omega, by simp only; omega⟩, blockP_len p.s p.k p.last p.t (ht p hp)⟩
theorem pcs_t (R : Bs) (n l j : Nat) : ∀ p ∈ pcs R n l j, p.t.length ≤ 19 := fun p hp => by
  obtain ⟨i, hi⟩ := List.mem_iff_getElem?.1 hp
  have := pcs_get R n l j i p hi
  rw [this]; exact partAt_len R i
theorem OI.append {x : Jn} (k : OI x) (R : Bs) (he : x.appE R = 0) (h : Nat) (hh : x.half = (h : Int)) : OI (x.wrote h x.used x.last R) := by
  obtain ⟨⟨b, hf, u, f, l, n, n1, w, r⟩, ⟨o1, o2, o3, o4⟩, ne, rl⟩ := k
  unfold Jn.appE at he
  split at he
  · cases he
  split at he
  · cases he
  rename_i hlong hfull
  have hpos := nparts_pos R
  obtain ⟨e1, e2, e3⟩ := okN_even o1
  rw [wrote_eq]
  have hb : x.B.length = x.D.B.length := rfl
  refine ⟨⟨b, hf, by simp only; omega, f, by simp only; omega, by simp only; omega, by simp only; omega, ?_, by simp only [List.length_append, List.length_cons, List.length_nil]; omega⟩, ⟨o1, o2, ?_, ?_⟩, by simp, by simp only [List.length_append, List.length_cons, List.length_nil]; omega⟩
  · simp only [List.length_append, wl_len, pcs_len]; omega
  · simp only [List.length_append, wl_len, pcs_len]; omega
  · intro w' hw'
    simp only at hw'
    rcases List.mem_append.1 hw' with hw' | hw'
    · exact o4 w' hw'
    · refine wl_ok (n := x.B.length) ?_ (pcs_t _ _ _ _) w' hw'
      rw [pcs_len]
      have : h = 0 ∨ h = 1 := by omega
      rcases this with g | g <;> subst g <;> omega
theorem sync_okD {d : Dk} (hok : d.Ok) : (⟨d.syncD.B, []⟩ : Dk).Ok := by
  have hc := (d.chk_ok).2 hok
  have hB : d.syncD.B = crashB (zerosI d.W.length) d.W 0 d.B := by rw [Dk.syncD, Dk.crashD, if_pos hc]
  rw [hB]
  refine ⟨by rw [crashB_len]; exact hok.n, crash_32 _ _ _ _ hok.b (fun w hw => (hok.r w hw).2) (fun w hw => (hok.r w hw).1), by simp, fun w hw => by simp at hw⟩
theorem sync_blen {d : Dk} (hok : d.Ok) : d.syncD.B.length = d.B.length := by
  rw [Dk.syncD, Dk.crashD, if_pos ((d.chk_ok).2 hok), crashB_len]
theorem OI.commit {x : Jn} (k : OI x) : OI x.synced := by
  obtain ⟨⟨b, hf, u, f, l, n, n1, w, r⟩, ok, ne, rl⟩ := k
  have hl := sync_blen ok
  have hl2 : x.synced.B.length = x.B.length := hl
  exact ⟨⟨by rw [hl2]; exact b, hf, by rw [hl2]; exact u, f, l, n, n1, by simp [Jn.synced], r⟩, sync_okD ok, ne, rl⟩
theorem OI.compact {x : Jn} (k : OI x) (R : Bs) (he : x.compE R = 0) (h : Nat) (hh : 1 - x.half = (h : Int)) : OI (x.comp0.wrote h 0 0 R) := by
  obtain ⟨⟨b, hf, u, f, l, n, n1, w, r⟩, ok, ne, rl⟩ := k
  unfold Jn.compE at he
  split at he
  · cases he
  split at he
  · cases he
  rename_i hlong hfull
  have hpos := nparts_pos R
  have hnp := nparts_le R (by omega)
  have hl := sync_blen ok
  have hl2 : x.comp0.B.length = x.B.length := hl
  obtain ⟨e1, e2, e3⟩ := okN_even ok.n
  have hsy := sync_okD ok
  have hb : x.B.length = x.D.B.length := rfl
  have hn0 : x.comp0.next = x.next := rfl
  have hW0 : x.comp0.W = [] := rfl
  have hf0 : x.comp0.first = x.next := rfl
  have hr0 : x.comp0.recs = [] := rfl
  have hh0 : x.comp0.half = 1 - x.half := rfl
  rw [wrote_eq, hW0, hr0, List.nil_append, List.nil_append]
  refine ⟨⟨by simp only; omega, by simp only; omega, by simp only; omega, by simp only; omega, by simp only; omega, by simp only; omega, by simp only; omega, by simp only [wl_len, pcs_len]; omega, by simp⟩, ⟨hsy.n, hsy.b, by simp only [wl_len, pcs_len]; omega, ?_⟩, by simp, by simp only [List.length_cons, List.length_nil]; omega⟩
  intro w' hw'
  refine wl_ok (n := x.comp0.B.length) ?_ (pcs_t _ _ _ _) w' hw'
  rw [pcs_len]
  have : h = 0 ∨ h = 1 := by omega
  rcases this with g | g <;> subst g <;> omega
theorem OI.opened {d : Dk} (hok : d.Ok) {c : Sc} {h : Nat} (hs : Sel (arA d.syncD.B) (arB d.syncD.B) c h) : OI (openJ d c h) := by
  obtain ⟨e1, e2, e3⟩ := okN_even hok.n
  have hl := sync_blen hok
  have hm := maxN_lt d.syncD.B
  obtain ⟨A, hcA, hAl, hne, hh⟩ : ∃ A : List Bs, c = scanS A ∧ A.length = d.B.length / 2 ∧ c.recs ≠ [] ∧ (h = 0 ∨ h = 1) := by
    rcases hs with ⟨g1, g2, g3, _⟩ | ⟨g1, g2, g3, _⟩
    · exact ⟨_, g2, by rw [List.length_take]; omega, by rw [g2]; exact g3, .inl g1⟩
    · exact ⟨_, g2, by rw [List.length_drop]; omega, by rw [g2]; exact g3, .inr g1⟩
  obtain ⟨L1, P0, b1, b2, b3, b4, b5, b6, b7, b8⟩ := base A
  have hul : L1.length ≤ A.length := by
    have := congrArg List.length b1
    rw [List.length_map, List.length_append, List.length_map] at this; omega
  have hf := scan_first_lt (A := A) (m := 4294967296) (by omega) fun s _ => n4_lt _
  have hrl : (scanS A).recs.length ≤ L1.length := by rw [← b5]; exact run_recs_le L1
  have hla : (scanS A).last ≤ 4294967296 := by
    rw [← b7]
    have : eS 0 L1 < 4294967296 := eS_lt L1 0 (by omega) fun p hp => by
      have : some p ∈ A.map readP := by rw [b1]; exact List.mem_append_left _ (List.mem_map.2 ⟨p, hp, rfl⟩)
      obtain ⟨s, hs, hr⟩ := mem_read this
      rw [(readP_some hr).2.1]; exact n4_lt _
    omega
  have hw := hok.w
  subst hcA
  have hB : d.B.length ≤ 2000 := by omega
  refine ⟨⟨hB, ?_, ?_, ?_, hla, ?_, ?_, hw, ?_⟩, hok, hne, ?_⟩
  · show ((h : Nat) : Int) = 0 ∨ ((h : Nat) : Int) = 1; omega
  · show (scanS A).used ≤ d.B.length / 2; omega
  · show (scanS A).first ≤ _; omega
  · show maxN d.syncD.B + 1 ≤ _; omega
  · show 1 ≤ maxN d.syncD.B + 1; omega
  · show (scanS A).recs.length ≤ 2000; omega
  · show (scanS A).recs.length ≤ (scanS A).used; omega
theorem RI.oi {x : Jn} (k : RI x) : OI x := by
  have h := k.sz
  obtain ⟨_, _, _, _, _, _, _, _, j⟩ := k
  exact ⟨h.1, h.2.1, h.2.2.1, j.rl⟩
end Go.Proofs.Ytoafanbfminhcaa
end

section
namespace Go.Proofs.Ytoafanbfminhcaa
open Go Go.AL
set_option maxRecDepth 10000
theorem scan_first {A : List Bs} (h : (scanS A).recs ≠ []) : ∃ s r, A = s :: r ∧ (scanS A).first = nF s ∧ 1 ≤ nF s := by
  rw [scanS_run] at h ⊢
  rw [run_first]
  cases A with
  | nil => exact absurd rfl h
  | cons s r =>
    refine ⟨s, r, rfl, ?_⟩
    rw [List.map_cons] at h ⊢
    cases hp : readP s with
    | none => rw [hp] at h; exact absurd rfl h
    | some p =>
      rw [hp] at h
      simp only [chP] at h ⊢
      obtain ⟨_, h2, _, _, h5⟩ := readP_some hp
      split at h
      · rename_i hk
        rw [if_pos hk]
        simp only [List.head?_cons, Option.map_some, Option.getD_some]
        exact ⟨h2, by omega⟩
      · exact absurd rfl h
abbrev Bst := Nat × Option (Nat × Sc)
def bsN (k : Nat) (s : Bst) (a : Sc) (f : Nat) : Bst := if a.recs ≠ [] ∧ s.1 < f then (f, some (k, a)) else s
def bst (a b : Sc) (f0 f1 : Nat) : Bst := bsN 1 (bsN 0 (0, none) a f0) b f1
theorem bst_sel {a b c : Sc} {f0 f1 h : Nat} (hs : Sel a b c h) (h0 : a.recs ≠ [] → a.first = f0 ∧ 1 ≤ f0) (h1 : b.recs ≠ [] → b.first = f1 ∧ 1 ≤ f1) : (bst a b f0 f1).2 = some (h, c) := by
  rcases hs with ⟨rfl, rfl, g3, g4⟩ | ⟨rfl, rfl, g3, g4⟩
  · obtain ⟨e1, e2⟩ := h0 g3
    have s1 : bsN 0 (0, none) c f0 = (f0, some (0, c)) := if_pos ⟨g3, e2⟩
    rw [bst, s1, bsN, if_neg]
    intro hb
    obtain ⟨e3, e4⟩ := h1 hb.1
    have := hb.2
    simp only at this
    exact g4 ⟨hb.1, by omega⟩
  · obtain ⟨e1, e2⟩ := h1 g3
    by_cases ha : a.recs = []
    · have s1 : bsN 0 (0, none) a f0 = (0, none) := if_neg (fun h => h.1 ha)
      rw [bst, s1, bsN, if_pos ⟨g3, e2⟩]
    · obtain ⟨e3, e4⟩ := h0 ha
      have := g4.resolve_left ha
      have s1 : bsN 0 (0, none) a f0 = (f0, some (0, a)) := if_pos ⟨ha, e4⟩
      rw [bst, s1, bsN, if_pos ⟨g3, by simp only; omega⟩]
theorem area_drop {S : List Bs} (h : S.length % 2 = 0) : (S.drop (1 * (S.length / 2))).take (S.length / 2) = S.drop (S.length / 2) := by
  rw [Nat.one_mul]
  exact List.take_of_length_le (by rw [List.length_drop]; omega)
end Go.Proofs.Ytoafanbfminhcaa
end

section
namespace Go.Proofs.Ytoafanbfminhcaa
open Go Go.AL Go.RowKit
set_option maxRecDepth 10000
set_option maxHeartbeats 4000000
abbrev Uv (n : Int) : AV := .im (.v (.int .u64 n))
def valR (s : Bs) : Nat → Nat
  | 0 => 0
  | j + 1 => valR s j * 256 + (s.getD (3 - j) 0).toNat
theorem valR_lt (s : Bs) : ∀ j, valR s j < 256 ^ j
  | 0 => by simp [valR]
  | j + 1 => by
    have := valR_lt s j
    have h2 := u8_lt (s.getD (3 - j) 0)
    rw [valR, Nat.pow_succ]; omega
theorem valR_4 (s : Bs) (h : 4 ≤ s.length) : valR s 4 = n4 (s.take 4) := by
  have g : ∀ i, i < 4 → (s.take 4).getD i 0 = s.getD i 0 := fun i hi => by
    rw [List.getD_eq_getElem?_getD, List.getElem?_take, if_pos hi, List.getD_eq_getElem?_getD]
  rw [n4_eq, g 0 (by omega), g 1 (by omega), g 2 (by omega), g 3 (by omega)]
  simp only [valR, num4, Nat.sub_zero, Nat.reduceSub]
  omega
theorem numberR_spec (s : Bs) (h : 4 ≤ s.length) (hl : s.length ≤ 1000000) : PFn Try.prog 71 [Sv s] (Uv (n4 (s.take 4))) := by
  rw [← valR_4 s h]
  obtain ⟨Z, hZ⟩ : ∃ Z, valR s 4 = Z := ⟨_, rfl⟩
  rw [hZ]
  refine ACall.walk [0, 2, 3, 4, 6] [] Try.func71 rfl Try.ntmps71 (by kernel_rfl) (by rfl) rfl fun W own I0 φ0 => ?_
  repeat (first | refine xA ?_ | refine xB ?_ | refine xC ?_ | refine xE ?_ | refine xD ?_ | refine xK ?_ | refine xS ?_ | refine xM ?_ | refine xT ?_ | refine xF ?_ | ((first | refine xR ?_ | refine xW ?_ | refine vq_id ?_); simp only [go_sem, Nat.reduceAdd, Nat.reduceLeDiff, Nat.reduceSub, Int.reduceToNat, reduceCtorEq]) | (refine ⟨by first | omega | (intros; simp_all; done) | (intros; simp_all; omega), ?_⟩; try simp only [go_sem, Nat.reduceAdd, Nat.reduceLeDiff, Nat.reduceSub, Int.reduceToNat, reduceCtorEq]))
  refine AP.loop rfl (α := Nat) (fun j => [(0, Sv s), (3, Uv (valR s j)), (4, Iv (3 - j : Int))]) (fun _ => []) (fun j => j ≤ 4) (fun j => 4 - j) 0 (by omega) (by repeat (first | exact Sub.nil _ | refine Sub.cons rfl ?_)) rfl fun j hj => ?_
  repeat (first | refine xA ?_ | refine xB ?_ | refine xC ?_ | refine xE ?_ | refine xD ?_ | refine xK ?_ | refine xS ?_ | refine xM ?_ | refine xT ?_ | refine xF ?_ | ((first | refine xR ?_ | refine xW ?_ | refine vq_id ?_); simp only [go_sem, Nat.reduceAdd, Nat.reduceLeDiff, Nat.reduceSub, Int.reduceToNat, reduceCtorEq]) | (refine ⟨by first | omega | (intros; simp_all; done) | (intros; simp_all; omega), ?_⟩; try simp only [go_sem, Nat.reduceAdd, Nat.reduceLeDiff, Nat.reduceSub, Int.reduceToNat, reduceCtorEq]))
  refine AP.cond rfl rfl (fun hc => ?_) (fun hc => ?_)
  · have hj' : j < 4 := by simp at hc; omega
    have hb := valR_lt s j
    have hp : 256 ^ j ≤ 256 ^ 3 := Nat.pow_le_pow_right (by omega) (by omega)
    have hn : ((3 : Int) - (j : Int)).toNat = 3 - j := by omega
    have hu := u8_lt (s.getD (3 - j) 0)
    have w1 := wru (x := (valR s j : Int) * 256) (by omega)
    have w2 := wru (x := ((s.getD (3 - j) 0).toNat : Int)) (by omega)
    have w3 := wru (x := (valR s j : Int) * 256 + ((s.getD (3 - j) 0).toNat : Int)) (by omega)
    have w4 := wr (x := (3 : Int) - (j : Int) - 1) (by omega)
    have hv : ((valR s (j + 1) : Nat) : Int) = (valR s j : Int) * 256 + ((s.getD (3 - j) 0).toNat : Int) := by rw [valR]; omega
    repeat (first | refine xA ?_ | refine xB ?_ | refine xC ?_ | refine xE ?_ | refine xD ?_ | refine xK ?_ | refine xS ?_ | refine xM ?_ | refine xT ?_ | refine xF ?_ | ((first | refine xR ?_ | refine xW ?_ | refine vq_id ?_); simp only [go_sem, Nat.reduceAdd, Nat.reduceLeDiff, Nat.reduceSub, Int.reduceToNat, reduceCtorEq, BA_size, BA_data, hn, w1, w2, w3, w4]) | (refine ⟨by first | omega | (intros; simp_all; done) | (intros; simp_all; omega), ?_⟩; try simp only [go_sem, Nat.reduceAdd, Nat.reduceLeDiff, Nat.reduceSub, Int.reduceToNat, reduceCtorEq, BA_size, BA_data, hn, w1, w2, w3, w4]))
    have e : (3 : Int) - ((j + 1 : Nat) : Int) = 3 - (j : Int) - 1 := by omega
    refine AE.round (j + 1) (by omega) (by omega) ?_ rfl
    simp only [hv, e]
    exact (by repeat (first | exact Sub.nil _ | refine Sub.cons rfl ?_))
  · have hj' : j = 4 := by simp at hc; omega
    subst hj'
    rw [hZ]
    repeat (first | refine xA ?_ | refine xB ?_ | refine xC ?_ | refine xE ?_ | refine xD ?_ | refine xK ?_ | refine xS ?_ | refine xM ?_ | refine xT ?_ | refine xF ?_ | ((first | refine xR ?_ | refine xW ?_ | refine vq_id ?_); simp only [go_sem, Nat.reduceAdd, Nat.reduceLeDiff, Nat.reduceSub, Int.reduceToNat, reduceCtorEq]) | (refine ⟨by first | omega | (intros; simp_all; done) | (intros; simp_all; omega), ?_⟩; try simp only [go_sem, Nat.reduceAdd, Nat.reduceLeDiff, Nat.reduceSub, Int.reduceToNat, reduceCtorEq]))
    exact AE.ret0 rfl ⟨rfl, trivial⟩ rfl ⟨rfl, rfl⟩
theorem le4_take (n j : Nat) (hj : j < 4) : (le4 n).take j ++ [UInt8.ofNat (n / 256 ^ j % 256)] = (le4 n).take (j + 1) := by
  match j, hj with
  | 0, _ => simp [le4]
  | 1, _ => simp [le4]
  | 2, _ => simp [le4]
  | 3, _ => simp [le4]
theorem byteR_app1 (l : Bs) (n : Nat) (h : n < 256) : byteR l ++ [[IV.v (Value.int .u8 (n : Int))]] = byteR (l ++ [UInt8.ofNat n]) := by
  have : (UInt8.ofNat n).toNat = n := by rw [UInt8.toNat_ofNat']; omega
  simp [byteR, this]
theorem bytesR_spec (n : Nat) (hn : n < 18446744073709551616) : PFn Try.prog 90 [Uv n] (Sv (le4 n)) := by
  refine ACall.walk [0, 2, 3, 4, 7] [] Try.func90 rfl Try.ntmps90 (by kernel_rfl) (by rfl) rfl fun W own I0 φ0 => ?_
  repeat (first | refine xA ?_ | refine xB ?_ | refine xC ?_ | refine xE ?_ | refine xD ?_ | refine xK ?_ | refine xS ?_ | refine xM ?_ | refine xT ?_ | refine xF ?_ | ((first | refine xR ?_ | refine xW ?_ | refine vq_id ?_); simp only [go_sem, Nat.reduceAdd, Nat.reduceLeDiff, Nat.reduceSub, Int.reduceToNat, reduceCtorEq]) | (refine ⟨by first | omega | (intros; simp_all; done) | (intros; simp_all; omega), ?_⟩; try simp only [go_sem, Nat.reduceAdd, Nat.reduceLeDiff, Nat.reduceSub, Int.reduceToNat, reduceCtorEq]))
  refine AP.loop rfl (α := Nat) (fun j => [(0, Uv (n / 256 ^ j : Nat)), (3, .os 0 1 0 j), (4, Iv j)]) (fun j => [(0, .vec 5 1 (byteR ((le4 n).take j)))]) (fun j => j ≤ 4) (fun j => 4 - j) 0 (by omega) (by simp only [Nat.pow_zero, Nat.div_one]; exact (by repeat (first | exact Sub.nil _ | refine Sub.cons rfl ?_))) rfl fun j hj => ?_
  repeat (first | refine xA ?_ | refine xB ?_ | refine xC ?_ | refine xE ?_ | refine xD ?_ | refine xK ?_ | refine xS ?_ | refine xM ?_ | refine xT ?_ | refine xF ?_ | ((first | refine xR ?_ | refine xW ?_ | refine vq_id ?_); simp only [go_sem, Nat.reduceAdd, Nat.reduceLeDiff, Nat.reduceSub, Int.reduceToNat, reduceCtorEq]) | (refine ⟨by first | omega | (intros; simp_all; done) | (intros; simp_all; omega), ?_⟩; try simp only [go_sem, Nat.reduceAdd, Nat.reduceLeDiff, Nat.reduceSub, Int.reduceToNat, reduceCtorEq]))
  refine AP.cond rfl rfl (fun hc => ?_) (fun hc => ?_)
  · have hj' : j < 4 := by simp at hc; omega
    have hdl : n / 256 ^ j < 18446744073709551616 := Nat.lt_of_le_of_lt (Nat.div_le_self _ _) hn
    obtain ⟨q, hq⟩ : ∃ q, n / 256 ^ j = q := ⟨_, rfl⟩
    have hq2 : n / 256 ^ (j + 1) = q / 256 := by rw [Nat.pow_succ, ← Nat.div_div_eq_div_mul, hq]
    have htk := le4_take n j hj'
    rw [hq] at hdl htk ⊢
    have e1 : ((q : Int).tmod 256) = ((q % 256 : Nat) : Int) := rfl
    have e2 : ((q : Int).tdiv 256) = ((q / 256 : Nat) : Int) := rfl
    have w1 : IntKind.u8.wrap ((q % 256 : Nat) : Int) = ((q % 256 : Nat) : Int) := by
      simp only [IntKind.wrap, IntKind.bits, IntKind.signed, Bool.false_and, Bool.false_eq_true, if_false]; omega
    have w2 := wru (x := ((q / 256 : Nat) : Int)) (by omega)
    have w3 := wr (x := (j : Int) + 1) (by omega)
    have hjl : (byteR ((le4 n).take j)).length = j := by rw [byteR_len, List.length_take, le4_len]; omega
    have hq3 : q % 256 < 256 := Nat.mod_lt _ (by omega)
    have happ := byteR_app1 ((le4 n).take j) (q % 256) hq3
    rw [htk] at happ
    repeat (first | refine xA ?_ | refine xB ?_ | refine xC ?_ | refine xE ?_ | refine xD ?_ | refine xK ?_ | refine xS ?_ | refine xM ?_ | refine xT ?_ | refine xF ?_ | ((first | refine xR ?_ | refine xW ?_ | refine vq_id ?_); simp only [go_sem, Nat.reduceAdd, Nat.reduceLeDiff, Nat.reduceSub, Int.reduceToNat, reduceCtorEq, e1, e2, w1, w2, w3]) | (refine ⟨by first | omega | (intros; simp_all; done) | (intros; simp_all; omega), ?_⟩; try simp only [go_sem, Nat.reduceAdd, Nat.reduceLeDiff, Nat.reduceSub, Int.reduceToNat, reduceCtorEq, e1, e2, w1, w2, w3]))
    refine AQ.append (hnb := rfl) (rows := byteR ((le4 n).take j)) (es := 0) (by kernel_rfl) rfl rfl rfl (by rfl) Try.tk95 Try.sz5 (by show Option.map _ (zro Try.prog 5) = _; rw [Try.zr5]; rfl) Try.by5 (by first | rfl | (simp only [hjl, List.length_cons, List.length_nil]; done) | (simp only [hjl, List.length_cons, List.length_nil]; omega)) (by simp only [hjl, List.length_cons, List.length_nil]; omega) (by simp only [hjl, List.length_cons, List.length_nil]; omega) ?_
    simp only [go_sem, Nat.reduceAdd, Nat.reduceLeDiff, Nat.reduceSub, Int.reduceToNat, reduceCtorEq, happ, hjl]
    repeat (first | refine xA ?_ | refine xB ?_ | refine xC ?_ | refine xE ?_ | refine xD ?_ | refine xK ?_ | refine xS ?_ | refine xM ?_ | refine xT ?_ | refine xF ?_ | ((first | refine xR ?_ | refine xW ?_ | refine vq_id ?_); simp only [go_sem, Nat.reduceAdd, Nat.reduceLeDiff, Nat.reduceSub, Int.reduceToNat, reduceCtorEq, e1, e2, w1, w2, w3]) | (refine ⟨by first | omega | (intros; simp_all; done) | (intros; simp_all; omega), ?_⟩; try simp only [go_sem, Nat.reduceAdd, Nat.reduceLeDiff, Nat.reduceSub, Int.reduceToNat, reduceCtorEq, e1, e2, w1, w2, w3]))
    exact AE.round (j + 1) (by omega) (by omega) (by rw [hq2]; exact (by repeat (first | exact Sub.nil _ | refine Sub.cons rfl ?_))) rfl
  · have hj' : j = 4 := by simp at hc; omega
    subst hj'
    have hz : (le4 n).take 4 = le4 n := rfl
    rw [hz]
    have u95 : (Try.prog.underlying 95).isSome = true := by kernel_rfl
    refine AP.freeze 0 (el := 5) (es := 1) (rows := byteR (le4 n)) rfl (by simp only [go_sem, Nat.reduceAdd, Nat.reduceLeDiff, Nat.reduceSub, Int.reduceToNat, reduceCtorEq, byteR_len, le4_len]; first | done | trivial | omega | (simp; done) | (simp; omega)) (by simp only [go_sem, Nat.reduceAdd, Nat.reduceLeDiff, Nat.reduceSub, Int.reduceToNat, reduceCtorEq, byteR_len, le4_len]; first | done | trivial | omega | (simp; done) | (simp; omega)) ?_; simp only [go_sem, Nat.reduceAdd, Nat.reduceLeDiff, Nat.reduceSub, Int.reduceToNat, reduceCtorEq, byteR_len, le4_len]
    rw [take_all' (byteR (le4 n)) _ (by rw [byteR_len, le4_len]; omega)]
    repeat (first | refine xA ?_ | refine xB ?_ | refine xC ?_ | refine xE ?_ | refine xD ?_ | refine xK ?_ | refine xS ?_ | refine xM ?_ | refine xT ?_ | refine xF ?_ | ((first | refine xR ?_ | refine xW ?_ | refine vq_id ?_); simp only [go_sem, Nat.reduceAdd, Nat.reduceLeDiff, Nat.reduceSub, Int.reduceToNat, reduceCtorEq, u95, byteR_back]) | (refine ⟨by first | omega | (intros; simp_all; done) | (intros; simp_all; omega), ?_⟩; try simp only [go_sem, Nat.reduceAdd, Nat.reduceLeDiff, Nat.reduceSub, Int.reduceToNat, reduceCtorEq, u95, byteR_back]))
    refine And.intro (byteR_bytes _) ?_
    refine AQ.done ?_
    repeat (first | refine xA ?_ | refine xB ?_ | refine xC ?_ | refine xE ?_ | refine xD ?_ | refine xK ?_ | refine xS ?_ | refine xM ?_ | refine xT ?_ | refine xF ?_ | ((first | refine xR ?_ | refine xW ?_ | refine vq_id ?_); simp only [go_sem, Nat.reduceAdd, Nat.reduceLeDiff, Nat.reduceSub, Int.reduceToNat, reduceCtorEq]) | (refine ⟨by first | omega | (intros; simp_all; done) | (intros; simp_all; omega), ?_⟩; try simp only [go_sem, Nat.reduceAdd, Nat.reduceLeDiff, Nat.reduceSub, Int.reduceToNat, reduceCtorEq]))
    exact AE.ret0 rfl ⟨rfl, trivial⟩ rfl ⟨rfl, rfl⟩
def readU : Option Pc → AV
  | some p => .agg [Uv p.s, Uv p.k, Bv p.last, Sv p.t, Bv true]
  | none => .agg [Uv 0, Uv 0, Bv false, Sv [], Bv false]
theorem blockR_spec (s k : Nat) (last : Bool) (t : Bs) (hs : s < 18446744073709551616) (hk : k < 18446744073709551616) (ht : t.length ≤ 19) : PFn Try.prog 75 [Uv s, Uv k, Bv last, Sv t] (Sv (blockP s k last t)) := by
  have h1 := bytesR_spec s hs
  have h2 := bytesR_spec k hk
  have hz := zeros_spec (19 - t.length) (by omega)
  have hw1 := wr (x := (t.length : Int) + 128) (by omega)
  have hw2 : IntKind.i64.wrap (19 - (t.length : Int)) = ((19 - t.length : Nat) : Int) := by rw [wr (by omega)]; omega
  have u95 : (Try.prog.underlying 95).isSome = true := by kernel_rfl
  have hb : ∀ n : Nat, n ≤ 147 → IntKind.u8.wrap (n : Int) = (n : Int) := fun n hn => by
    simp only [IntKind.wrap, IntKind.bits, IntKind.signed, Bool.false_and, Bool.false_eq_true, if_false]; omega
  cases last with
  | true =>
    have hb1 : IntKind.u8.wrap ((t.length : Int) + 128) = ((t.length + 128 : Nat) : Int) := hb (t.length + 128) (by omega)
    have hrow : ∀ r ∈ [[IV.v (Value.int .u8 ((t.length + 128 : Nat) : Int))]], isByteRow r := fun r hr => by simp at hr; exact ⟨_, hr⟩
    have hbr : byteRow [IV.v (Value.int .u8 ((t.length + 128 : Nat) : Int))] = lastB t.length true := rfl
    refine ACall.walk [0, 1, 2, 3, 8, 9, 10, 13] [] Try.func75 rfl Try.ntmps75 (by kernel_rfl) (by rfl) rfl fun W own I0 φ0 => ?_
    repeat (first | refine xA ?_ | refine xB ?_ | refine xC ?_ | refine xE ?_ | refine xD ?_ | refine xK ?_ | refine xS ?_ | refine xM ?_ | refine xT ?_ | refine xF ?_ | ((first | refine xR ?_ | refine xW ?_ | refine vq_id ?_); simp only [go_sem, Nat.reduceAdd, Nat.reduceLeDiff, Nat.reduceSub, Int.reduceToNat, reduceCtorEq, BA_size, hw1]) | (refine ⟨by first | omega | (intros; simp_all; done) | (intros; simp_all; omega), ?_⟩; try simp only [go_sem, Nat.reduceAdd, Nat.reduceLeDiff, Nat.reduceSub, Int.reduceToNat, reduceCtorEq, BA_size, hw1]))
    refine AP.cut (α := Unit) (fun _ => [(0, Uv s), (10, Sv (bodyP k true t))]) (fun _ => []) (fun _ => True) ?_ fun _ _ => ?_
    · skip
      refine AP.drawE 15 (Tree.node [] [0, 2, 3, 7, 9, 10, 11] [1, 4] [Tree.node [2, 3, 7, 9, 10, 11] [] [4, 12] [Tree.node [7, 9, 10, 11] [5, 6, 8] [12] [Tree.node [5, 6, 7, 8] [13, 14] [] []], Tree.node [2, 3, 7] [] [4] [Tree.node [7] [5, 6, 8, 13, 14] [] []]], Tree.node [0, 7, 9, 10, 11] [5] [1] [Tree.node [5, 7, 9, 10, 11] [6, 8] [12] [Tree.node [5, 6, 7, 8] [13, 14] [] []]]]) (by kernel_rfl) rfl (by kernel_rfl) (by kernel_rfl) ?_
      refine vd_node ?_
      simp only [go_sem, Nat.reduceAdd, Nat.reduceLeDiff, Nat.reduceSub, Int.reduceToNat, reduceCtorEq, BA_size, hb1, hw2]
      repeat' (first | with_reducible exact True.intro | with_reducible refine And.intro (by omega) ?_ | with_reducible refine And.intro ?_ ?_ | omega | (refine AQ.fn (by kernel_rfl) rfl rfl rfl (h2) rfl ?_; simp only [go_sem, Nat.reduceAdd, Nat.reduceLeDiff, Nat.reduceSub, Int.reduceToNat, reduceCtorEq]) | (refine AQ.fn (by kernel_rfl) rfl rfl rfl (hz) rfl ?_; simp only [go_sem, Nat.reduceAdd, Nat.reduceLeDiff, Nat.reduceSub, Int.reduceToNat, reduceCtorEq]) | exact hrow | (refine AQ.nx rfl ?_; first | (refine And.intro ?_ ?_ <;> (try simp only [go_sem, Nat.reduceAdd, Nat.reduceLeDiff, Nat.reduceSub, Int.reduceToNat, reduceCtorEq, u95, BA_size, hb1, hw2, le4_len, List.length_append, List.length_replicate])) | simp only [go_sem, Nat.reduceAdd, Nat.reduceLeDiff, Nat.reduceSub, Int.reduceToNat, reduceCtorEq, u95, BA_size, hb1, hw2, le4_len, List.length_append, List.length_replicate]) | refine AQ.done ?_ | (refine AQ.go (by kernel_rfl) ?_; simp only [go_sem, Nat.reduceAdd, Nat.reduceLeDiff, Nat.reduceSub, Int.reduceToNat, reduceCtorEq, u95, BA_size, hb1, hw2, le4_len, List.length_append, List.length_replicate]; (refine AQ.nx rfl ?_; first | (refine And.intro ?_ ?_ <;> (try simp only [go_sem, Nat.reduceAdd, Nat.reduceLeDiff, Nat.reduceSub, Int.reduceToNat, reduceCtorEq, u95, BA_size, hb1, hw2, le4_len, List.length_append, List.length_replicate])) | simp only [go_sem, Nat.reduceAdd, Nat.reduceLeDiff, Nat.reduceSub, Int.reduceToNat, reduceCtorEq, u95, BA_size, hb1, hw2, le4_len, List.length_append, List.length_replicate])))
      all_goals
        simp only [go_sem, Nat.reduceAdd, Nat.reduceLeDiff, Nat.reduceSub, Int.reduceToNat, reduceCtorEq, hbr]
        exact AE.meet () trivial (by repeat (first | exact Sub.nil _ | refine Sub.cons rfl ?_)) rfl
    · have hbl := bodyP_len k true ht
      have hbk : blockP s k true t = le4 s ++ (bodyP k true t).take 12 ++ le4 s ++ (bodyP k true t).drop 12 := rfl
      rw [hbk]
      obtain ⟨Y, hY⟩ : ∃ Y, bodyP k true t = Y := ⟨_, rfl⟩
      rw [hY] at hbl ⊢
      have htk : (Y.drop 12).take (24 - 12) = Y.drop 12 := take_all' _ _ (by rw [List.length_drop, hbl]; omega)
      have hY1 : (Y.take 12).length = 12 := by rw [List.length_take, hbl]; rfl
      have hY2 : (Y.drop 12).length = 12 := by rw [List.length_drop, hbl]
      have htk0 : (Y.drop 0).take (12 - 0) = Y.take 12 := rfl
      repeat (first | refine xA ?_ | refine xB ?_ | refine xC ?_ | refine xE ?_ | refine xD ?_ | refine xK ?_ | refine xS ?_ | refine xM ?_ | refine xT ?_ | refine xF ?_ | ((first | refine xR ?_ | refine xW ?_ | refine vq_id ?_); simp only [go_sem, Nat.reduceAdd, Nat.reduceLeDiff, Nat.reduceSub, Int.reduceToNat, reduceCtorEq]) | (refine ⟨by first | omega | (intros; simp_all; done) | (intros; simp_all; omega), ?_⟩; try simp only [go_sem, Nat.reduceAdd, Nat.reduceLeDiff, Nat.reduceSub, Int.reduceToNat, reduceCtorEq]))
      refine AP.drawE 12 (Tree.node [] [0, 2, 3, 5, 8, 9] [1] [Tree.node [2, 3, 5, 8, 9] [4] [6] [Tree.node [2, 3, 4, 8, 9] [7, 10, 11] [] []]]) (by kernel_rfl) rfl (by kernel_rfl) (by kernel_rfl) ?_
      refine vd_node ?_
      simp only [go_sem, Nat.reduceAdd, Nat.reduceLeDiff, Nat.reduceSub, Int.reduceToNat, reduceCtorEq, BA_size, BA_extract, hbl, htk, htk0]
      repeat (with_reducible refine And.intro (by omega) ?_)
      refine AQ.fn (by kernel_rfl) rfl rfl rfl (h1) rfl ?_
      simp only [go_sem, Nat.reduceAdd, Nat.reduceLeDiff, Nat.reduceSub, Int.reduceToNat, reduceCtorEq]
      refine AQ.nx rfl ?_
      simp only [go_sem, Nat.reduceAdd, Nat.reduceLeDiff, Nat.reduceSub, Int.reduceToNat, reduceCtorEq, BA_size, BA_extract, hbl, htk, htk0, le4_len, List.length_append, hY1, hY2]
      refine And.intro ⟨⟨by omega, by omega⟩, by omega, by omega⟩ ?_
      refine AQ.fn (by kernel_rfl) rfl rfl rfl (h1) rfl ?_
      simp only [go_sem, Nat.reduceAdd, Nat.reduceLeDiff, Nat.reduceSub, Int.reduceToNat, reduceCtorEq]
      refine AQ.nx rfl ?_
      simp only [go_sem, Nat.reduceAdd, Nat.reduceLeDiff, Nat.reduceSub, Int.reduceToNat, reduceCtorEq, BA_size, BA_extract, hbl, htk, htk0, le4_len, List.length_append, hY1, hY2]
      refine And.intro ⟨⟨by omega, by omega⟩, by omega, by omega⟩ ?_
      refine AQ.done ?_
      repeat (first | refine xA ?_ | refine xB ?_ | refine xC ?_ | refine xE ?_ | refine xD ?_ | refine xK ?_ | refine xS ?_ | refine xM ?_ | refine xT ?_ | refine xF ?_ | ((first | refine xR ?_ | refine xW ?_ | refine vq_id ?_); simp only [go_sem, Nat.reduceAdd, Nat.reduceLeDiff, Nat.reduceSub, Int.reduceToNat, reduceCtorEq]) | (refine ⟨by first | omega | (intros; simp_all; done) | (intros; simp_all; omega), ?_⟩; try simp only [go_sem, Nat.reduceAdd, Nat.reduceLeDiff, Nat.reduceSub, Int.reduceToNat, reduceCtorEq]))
      exact AE.ret0 rfl ⟨rfl, trivial⟩ rfl ⟨rfl, rfl⟩
  | false =>
    have hb1 : IntKind.u8.wrap (t.length : Int) = (t.length : Int) := hb t.length (by omega)
    have hrow : ∀ r ∈ [[IV.v (Value.int .u8 (t.length : Int))]], isByteRow r := fun r hr => by simp at hr; exact ⟨_, hr⟩
    have hbr : byteRow [IV.v (Value.int .u8 (t.length : Int))] = lastB t.length false := rfl
    refine ACall.walk [0, 1, 2, 3, 8, 9, 10, 13] [] Try.func75 rfl Try.ntmps75 (by kernel_rfl) (by rfl) rfl fun W own I0 φ0 => ?_
    repeat (first | refine xA ?_ | refine xB ?_ | refine xC ?_ | refine xE ?_ | refine xD ?_ | refine xK ?_ | refine xS ?_ | refine xM ?_ | refine xT ?_ | refine xF ?_ | ((first | refine xR ?_ | refine xW ?_ | refine vq_id ?_); simp only [go_sem, Nat.reduceAdd, Nat.reduceLeDiff, Nat.reduceSub, Int.reduceToNat, reduceCtorEq, BA_size, hw1]) | (refine ⟨by first | omega | (intros; simp_all; done) | (intros; simp_all; omega), ?_⟩; try simp only [go_sem, Nat.reduceAdd, Nat.reduceLeDiff, Nat.reduceSub, Int.reduceToNat, reduceCtorEq, BA_size, hw1]))
    refine AP.cut (α := Unit) (fun _ => [(0, Uv s), (10, Sv (bodyP k false t))]) (fun _ => []) (fun _ => True) ?_ fun _ _ => ?_
    · skip
      refine AP.drawE 15 (Tree.node [] [0, 2, 3, 7, 9, 10, 11] [1, 4] [Tree.node [2, 3, 7, 9, 10, 11] [] [4, 12] [Tree.node [7, 9, 10, 11] [5, 6, 8] [12] [Tree.node [5, 6, 7, 8] [13, 14] [] []], Tree.node [2, 3, 7] [] [4] [Tree.node [7] [5, 6, 8, 13, 14] [] []]], Tree.node [0, 7, 9, 10, 11] [5] [1] [Tree.node [5, 7, 9, 10, 11] [6, 8] [12] [Tree.node [5, 6, 7, 8] [13, 14] [] []]]]) (by kernel_rfl) rfl (by kernel_rfl) (by kernel_rfl) ?_
      refine vd_node ?_
      simp only [go_sem, Nat.reduceAdd, Nat.reduceLeDiff, Nat.reduceSub, Int.reduceToNat, reduceCtorEq, BA_size, hb1, hw2]
      repeat' (first | with_reducible exact True.intro | with_reducible refine And.intro (by omega) ?_ | with_reducible refine And.intro ?_ ?_ | omega | (refine AQ.fn (by kernel_rfl) rfl rfl rfl (h2) rfl ?_; simp only [go_sem, Nat.reduceAdd, Nat.reduceLeDiff, Nat.reduceSub, Int.reduceToNat, reduceCtorEq]) | (refine AQ.fn (by kernel_rfl) rfl rfl rfl (hz) rfl ?_; simp only [go_sem, Nat.reduceAdd, Nat.reduceLeDiff, Nat.reduceSub, Int.reduceToNat, reduceCtorEq]) | exact hrow | (refine AQ.nx rfl ?_; first | (refine And.intro ?_ ?_ <;> (try simp only [go_sem, Nat.reduceAdd, Nat.reduceLeDiff, Nat.reduceSub, Int.reduceToNat, reduceCtorEq, u95, BA_size, hb1, hw2, le4_len, List.length_append, List.length_replicate])) | simp only [go_sem, Nat.reduceAdd, Nat.reduceLeDiff, Nat.reduceSub, Int.reduceToNat, reduceCtorEq, u95, BA_size, hb1, hw2, le4_len, List.length_append, List.length_replicate]) | refine AQ.done ?_ | (refine AQ.go (by kernel_rfl) ?_; simp only [go_sem, Nat.reduceAdd, Nat.reduceLeDiff, Nat.reduceSub, Int.reduceToNat, reduceCtorEq, u95, BA_size, hb1, hw2, le4_len, List.length_append, List.length_replicate]; (refine AQ.nx rfl ?_; first | (refine And.intro ?_ ?_ <;> (try simp only [go_sem, Nat.reduceAdd, Nat.reduceLeDiff, Nat.reduceSub, Int.reduceToNat, reduceCtorEq, u95, BA_size, hb1, hw2, le4_len, List.length_append, List.length_replicate])) | simp only [go_sem, Nat.reduceAdd, Nat.reduceLeDiff, Nat.reduceSub, Int.reduceToNat, reduceCtorEq, u95, BA_size, hb1, hw2, le4_len, List.length_append, List.length_replicate])))
      all_goals
        simp only [go_sem, Nat.reduceAdd, Nat.reduceLeDiff, Nat.reduceSub, Int.reduceToNat, reduceCtorEq, hbr]
        exact AE.meet () trivial (by repeat (first | exact Sub.nil _ | refine Sub.cons rfl ?_)) rfl
    · have hbl := bodyP_len k false ht
      have hbk : blockP s k false t = le4 s ++ (bodyP k false t).take 12 ++ le4 s ++ (bodyP k false t).drop 12 := rfl
      rw [hbk]
      obtain ⟨Y, hY⟩ : ∃ Y, bodyP k false t = Y := ⟨_, rfl⟩
      rw [hY] at hbl ⊢
      have htk : (Y.drop 12).take (24 - 12) = Y.drop 12 := take_all' _ _ (by rw [List.length_drop, hbl]; omega)
      have hY1 : (Y.take 12).length = 12 := by rw [List.length_take, hbl]; rfl
      have hY2 : (Y.drop 12).length = 12 := by rw [List.length_drop, hbl]
      have htk0 : (Y.drop 0).take (12 - 0) = Y.take 12 := rfl
      repeat (first | refine xA ?_ | refine xB ?_ | refine xC ?_ | refine xE ?_ | refine xD ?_ | refine xK ?_ | refine xS ?_ | refine xM ?_ | refine xT ?_ | refine xF ?_ | ((first | refine xR ?_ | refine xW ?_ | refine vq_id ?_); simp only [go_sem, Nat.reduceAdd, Nat.reduceLeDiff, Nat.reduceSub, Int.reduceToNat, reduceCtorEq]) | (refine ⟨by first | omega | (intros; simp_all; done) | (intros; simp_all; omega), ?_⟩; try simp only [go_sem, Nat.reduceAdd, Nat.reduceLeDiff, Nat.reduceSub, Int.reduceToNat, reduceCtorEq]))
      refine AP.drawE 12 (Tree.node [] [0, 2, 3, 5, 8, 9] [1] [Tree.node [2, 3, 5, 8, 9] [4] [6] [Tree.node [2, 3, 4, 8, 9] [7, 10, 11] [] []]]) (by kernel_rfl) rfl (by kernel_rfl) (by kernel_rfl) ?_
      refine vd_node ?_
      simp only [go_sem, Nat.reduceAdd, Nat.reduceLeDiff, Nat.reduceSub, Int.reduceToNat, reduceCtorEq, BA_size, BA_extract, hbl, htk, htk0]
      repeat (with_reducible refine And.intro (by omega) ?_)
      refine AQ.fn (by kernel_rfl) rfl rfl rfl (h1) rfl ?_
      simp only [go_sem, Nat.reduceAdd, Nat.reduceLeDiff, Nat.reduceSub, Int.reduceToNat, reduceCtorEq]
      refine AQ.nx rfl ?_
      simp only [go_sem, Nat.reduceAdd, Nat.reduceLeDiff, Nat.reduceSub, Int.reduceToNat, reduceCtorEq, BA_size, BA_extract, hbl, htk, htk0, le4_len, List.length_append, hY1, hY2]
      refine And.intro ⟨⟨by omega, by omega⟩, by omega, by omega⟩ ?_
      refine AQ.fn (by kernel_rfl) rfl rfl rfl (h1) rfl ?_
      simp only [go_sem, Nat.reduceAdd, Nat.reduceLeDiff, Nat.reduceSub, Int.reduceToNat, reduceCtorEq]
      refine AQ.nx rfl ?_
      simp only [go_sem, Nat.reduceAdd, Nat.reduceLeDiff, Nat.reduceSub, Int.reduceToNat, reduceCtorEq, BA_size, BA_extract, hbl, htk, htk0, le4_len, List.length_append, hY1, hY2]
      refine And.intro ⟨⟨by omega, by omega⟩, by omega, by omega⟩ ?_
      refine AQ.done ?_
      repeat (first | refine xA ?_ | refine xB ?_ | refine xC ?_ | refine xE ?_ | refine xD ?_ | refine xK ?_ | refine xS ?_ | refine xM ?_ | refine xT ?_ | refine xF ?_ | ((first | refine xR ?_ | refine xW ?_ | refine vq_id ?_); simp only [go_sem, Nat.reduceAdd, Nat.reduceLeDiff, Nat.reduceSub, Int.reduceToNat, reduceCtorEq]) | (refine ⟨by first | omega | (intros; simp_all; done) | (intros; simp_all; omega), ?_⟩; try simp only [go_sem, Nat.reduceAdd, Nat.reduceLeDiff, Nat.reduceSub, Int.reduceToNat, reduceCtorEq]))
      exact AE.ret0 rfl ⟨rfl, trivial⟩ rfl ⟨rfl, rfl⟩
theorem readR_spec (s : Bs) (h : s.length = 32) : PFn Try.prog 89 [Sv s] (readU (readP s)) := by
  have hbl := bodyOf_len h
  have hlt := lenB_lt (bodyOf s)
  have hn1 := numberR_spec s (by omega) (by omega)
  have hn2 := numberR_spec (bodyOf s) (by omega) (by omega)
  have hn3 := numberR_spec (s.drop 16) (by simp; omega) (by simp; omega)
  have hr : readP s = readG (n4 (s.take 4)) (n4 ((bodyOf s).take 4)) (n4 ((s.drop 16).take 4)) (lenB (bodyOf s)) (bodyOf s) := by rw [readP, if_pos h]
  rw [hr]
  have hbo : List.take 12 (List.drop 4 s) ++ List.take 12 (List.drop 20 s) = bodyOf s := by
    unfold bodyOf; rw [take_all' (List.drop 20 s) 12 (by simp; omega)]
  obtain ⟨b, hbb⟩ : ∃ b, bodyOf s = b := ⟨_, rfl⟩
  rw [hbb] at hbl hlt hn2 hbo ⊢
  obtain ⟨k1, hk1⟩ : ∃ k, n4 (s.take 4) = k := ⟨_, rfl⟩
  obtain ⟨k2, hk2⟩ : ∃ k, n4 (b.take 4) = k := ⟨_, rfl⟩
  obtain ⟨k3, hk3⟩ : ∃ k, n4 ((s.drop 16).take 4) = k := ⟨_, rfl⟩
  rw [hk1] at hn1 ⊢
  rw [hk2] at hn2 ⊢
  rw [hk3] at hn3 ⊢
  obtain ⟨c, hcc⟩ : ∃ c, lenB b = c := ⟨_, rfl⟩
  have hc4 : (b.getD 4 0).toNat = c := hcc
  rw [hcc] at hlt ⊢
  have wc := wr (x := (c : Int)) (by omega)
  have hcm : (c : Int).tmod 128 = ((c % 128 : Nat) : Int) := rfl
  obtain ⟨n, hn⟩ : ∃ n, c % 128 = n := ⟨_, rfl⟩
  rw [hn] at hcm
  have hn128 : n < 128 := by omega
  refine ACall.walk [0, 2, 3, 4, 5, 6, 38, 43, 49] [2, 5] Try.func89 rfl Try.ntmps89 (by kernel_rfl) (by rfl) rfl fun W own I0 φ0 => ?_
  repeat (first | refine xA ?_ | refine xB ?_ | refine xC ?_ | refine xE ?_ | refine xD ?_ | refine xK ?_ | refine xS ?_ | refine xM ?_ | refine xT ?_ | refine xF ?_ | ((first | refine xR ?_ | refine xW ?_ | refine vq_id ?_); simp only [go_sem, Nat.reduceAdd, Nat.reduceLeDiff, Nat.reduceSub, Int.reduceToNat, reduceCtorEq, BA_size, BA_extract, h, hbo, hbl, BA_data, hc4, wc]) | (refine ⟨by first | omega | (intros; simp_all; done) | (intros; simp_all; omega), ?_⟩; try simp only [go_sem, Nat.reduceAdd, Nat.reduceLeDiff, Nat.reduceSub, Int.reduceToNat, reduceCtorEq, BA_size, BA_extract, h, hbo, hbl, BA_data, hc4, wc]))
  refine AQ.fn (by kernel_rfl) rfl rfl rfl (hn1) rfl ?_
  repeat (first | refine xA ?_ | refine xB ?_ | refine xC ?_ | refine xE ?_ | refine xD ?_ | refine xK ?_ | refine xS ?_ | refine xM ?_ | refine xT ?_ | refine xF ?_ | ((first | refine xR ?_ | refine xW ?_ | refine vq_id ?_); simp only [go_sem, Nat.reduceAdd, Nat.reduceLeDiff, Nat.reduceSub, Int.reduceToNat, reduceCtorEq]) | (refine ⟨by first | omega | (intros; simp_all; done) | (intros; simp_all; omega), ?_⟩; try simp only [go_sem, Nat.reduceAdd, Nat.reduceLeDiff, Nat.reduceSub, Int.reduceToNat, reduceCtorEq]))
  refine AQ.fn (by kernel_rfl) rfl rfl rfl (hn2) rfl ?_
  repeat (first | refine xA ?_ | refine xB ?_ | refine xC ?_ | refine xE ?_ | refine xD ?_ | refine xK ?_ | refine xS ?_ | refine xM ?_ | refine xT ?_ | refine xF ?_ | ((first | refine xR ?_ | refine xW ?_ | refine vq_id ?_); simp only [go_sem, Nat.reduceAdd, Nat.reduceLeDiff, Nat.reduceSub, Int.reduceToNat, reduceCtorEq, hcm]) | (refine ⟨by first | omega | (intros; simp_all; done) | (intros; simp_all; omega), ?_⟩; try simp only [go_sem, Nat.reduceAdd, Nat.reduceLeDiff, Nat.reduceSub, Int.reduceToNat, reduceCtorEq, hcm]))
  refine AP.drawE 15 (Tree.node [] [0, 1, 2, 3, 4, 5, 7, 8] [6] [Tree.node [7, 8] [9, 10, 11, 12, 13, 14] [] []]) (by kernel_rfl) rfl (by kernel_rfl) (by kernel_rfl) ?_
  refine vd_node ?_
  have ht16 : List.take 16 (List.drop 16 s) = List.drop 16 s := take_all' _ _ (by simp; omega)
  simp only [go_sem, Nat.reduceAdd, Nat.reduceLeDiff, Nat.reduceSub, Int.reduceToNat, reduceCtorEq, BA_size, BA_extract, h, ht16]
  refine And.intro (fun h => ⟨h, by omega, by omega⟩) ?_
  refine AQ.fn_g (by kernel_rfl) rfl rfl (fun h => by first | (simp [gs, AV.g]; done) | (simp [gs, AV.g, constAV]; done) | (simp [gs, AV.g, constAV, bw] at h ⊢; done) | (simp [bw] at h; done) | (simp [gs, AV.g, bw] at h ⊢; simp [h]; done) | (simp [gs, AV.g, bw] at h ⊢; exact h.1) | (simp [gs, AV.g]; rfl) | (simp [gs, AV.g, bw] at h ⊢; rfl) | (simp [gs, AV.g, bw] at h ⊢; simp [h]; rfl) | (simp [gs, AV.g, bw] at h ⊢; simp_all)) rfl (fun _ => hn3) rfl ?_
  simp only [go_sem, Nat.reduceAdd, Nat.reduceLeDiff, Nat.reduceSub, Int.reduceToNat, reduceCtorEq]
  refine AQ.nx rfl ?_
  simp only [go_sem, Nat.reduceAdd, Nat.reduceLeDiff, Nat.reduceSub, Int.reduceToNat, reduceCtorEq]
  refine And.intro (fun h => ⟨h, h⟩) ?_
  refine AQ.done ?_
  repeat (first | refine xA ?_ | refine xB ?_ | refine xC ?_ | refine xE ?_ | refine xD ?_ | refine xK ?_ | refine xS ?_ | refine xM ?_ | refine xT ?_ | refine xF ?_ | ((first | refine xR ?_ | refine xW ?_ | refine vq_id ?_); simp only [go_sem, Nat.reduceAdd, Nat.reduceLeDiff, Nat.reduceSub, Int.reduceToNat, reduceCtorEq]) | (refine ⟨by first | omega | (intros; simp_all; done) | (intros; simp_all; omega), ?_⟩; try simp only [go_sem, Nat.reduceAdd, Nat.reduceLeDiff, Nat.reduceSub, Int.reduceToNat, reduceCtorEq]))
  refine AP.cond rfl rfl (fun hcnd => ?_) (fun hcnd => ?_)
  · have hv : readG k1 k2 k3 c b = none := by
      simp only [Bool.or_eq_true, beq_iff_eq, bne_iff_ne, decide_eq_true_eq] at hcnd
      unfold readG
      rw [if_pos (by rw [hn]; omega)]
    repeat (first | refine xA ?_ | refine xB ?_ | refine xC ?_ | refine xE ?_ | refine xD ?_ | refine xK ?_ | refine xS ?_ | refine xM ?_ | refine xT ?_ | refine xF ?_ | ((first | refine xR ?_ | refine xW ?_ | refine vq_id ?_); simp only [go_sem, Nat.reduceAdd, Nat.reduceLeDiff, Nat.reduceSub, Int.reduceToNat, reduceCtorEq]) | (refine ⟨by first | omega | (intros; simp_all; done) | (intros; simp_all; omega), ?_⟩; try simp only [go_sem, Nat.reduceAdd, Nat.reduceLeDiff, Nat.reduceSub, Int.reduceToNat, reduceCtorEq]))
    rw [hv]
    exact AE.ret0 rfl ⟨⟨rfl, Nat.le_of_ble_eq_true (by kernel_rfl)⟩, trivial⟩ rfl ⟨rfl, rfl⟩
  · simp only [Bool.or_eq_false_iff, beq_eq_false_iff_ne, bne_eq_false_iff_eq, decide_eq_false_iff_not] at hcnd
    have hn19 : n ≤ 19 := by omega
    have hw5 := wr (x := 5 + (n : Int)) (by omega)
    obtain ⟨Z, hZe⟩ : ∃ Z, List.drop (5 + n) b = Z := ⟨_, rfl⟩
    have hZl : Z.length = 19 - n := by rw [← hZe, List.length_drop, hbl]; omega
    obtain ⟨T, hTe⟩ : ∃ T, List.take n (List.drop 5 b) = T := ⟨_, rfl⟩
    have hG : readG k1 k2 k3 c b = if Z.all (· == 0) then some ⟨k1, k2, decide ((128 : Int) ≤ (c : Int)), T⟩ else none := by
      unfold readG
      rw [if_neg (by rw [hn]; omega), hn, hZe, hTe]
    have hbz : ∀ k, b.getD (5 + n + k) 0 = Z.getD k 0 := fun k => by
      rw [← hZe, List.getD_eq_getElem?_getD, List.getD_eq_getElem?_getD, List.getElem?_drop]
    have h5 : ((5 : Int) + (n : Int)).toNat - 5 = n := by omega
    rw [hG]
    repeat (first | refine xA ?_ | refine xB ?_ | refine xC ?_ | refine xE ?_ | refine xD ?_ | refine xK ?_ | refine xS ?_ | refine xM ?_ | refine xT ?_ | refine xF ?_ | ((first | refine xR ?_ | refine xW ?_ | refine vq_id ?_); simp only [go_sem, Nat.reduceAdd, Nat.reduceLeDiff, Nat.reduceSub, Int.reduceToNat, reduceCtorEq, hw5]) | (refine ⟨by first | omega | (intros; simp_all; done) | (intros; simp_all; omega), ?_⟩; try simp only [go_sem, Nat.reduceAdd, Nat.reduceLeDiff, Nat.reduceSub, Int.reduceToNat, reduceCtorEq, hw5]))
    refine AP.loop rfl (α := Nat) (fun k => [(2, .ob 0 0), (3, Sv b), (4, Iv n), (5, .ob 1 0), (6, Iv (5 + n + k : Nat))]) (fun _ => [(1, .var 144 [Uv k1, Uv k2, Bv (decide ((128 : Int) ≤ (c : Int))), Sv [], Bv false]), (0, .var 144 [Uv 0, Uv 0, Bv false, Sv [], Bv false])]) (fun k => k ≤ Z.length ∧ Z.all (· == 0) = (Z.drop k).all (· == 0)) (fun k => Z.length - k) 0 ⟨by omega, rfl⟩ (by repeat (first | exact Sub.nil _ | refine Sub.cons rfl ?_)) rfl fun k ⟨hk, ha⟩ => ?_
    repeat (first | refine xA ?_ | refine xB ?_ | refine xC ?_ | refine xE ?_ | refine xD ?_ | refine xK ?_ | refine xS ?_ | refine xM ?_ | refine xT ?_ | refine xF ?_ | ((first | refine xR ?_ | refine xW ?_ | refine vq_id ?_); simp only [go_sem, Nat.reduceAdd, Nat.reduceLeDiff, Nat.reduceSub, Int.reduceToNat, reduceCtorEq]) | (refine ⟨by first | omega | (intros; simp_all; done) | (intros; simp_all; omega), ?_⟩; try simp only [go_sem, Nat.reduceAdd, Nat.reduceLeDiff, Nat.reduceSub, Int.reduceToNat, reduceCtorEq]))
    refine AP.cond rfl rfl (fun hq => ?_) (fun hq => ?_)
    · have hk' : k < Z.length := by simp at hq; omega
      have hw := wr (x := ((5 + n + k : Nat) : Int) + 1) (by omega)
      have hdr : (Z.drop k).all (· == 0) = ((Z.getD k 0 == 0) && (Z.drop (k + 1)).all (· == 0)) := by
        rw [List.drop_eq_getElem_cons hk', List.all_cons, List.getD_eq_getElem?_getD, List.getElem?_eq_getElem hk', Option.getD_some]
      repeat (first | refine xA ?_ | refine xB ?_ | refine xC ?_ | refine xE ?_ | refine xD ?_ | refine xK ?_ | refine xS ?_ | refine xM ?_ | refine xT ?_ | refine xF ?_ | ((first | refine xR ?_ | refine xW ?_ | refine vq_id ?_); simp only [go_sem, Nat.reduceAdd, Nat.reduceLeDiff, Nat.reduceSub, Int.reduceToNat, reduceCtorEq, BA_size, BA_data, hbz, hbl]) | (refine ⟨by first | omega | (intros; simp_all; done) | (intros; simp_all; omega), ?_⟩; try simp only [go_sem, Nat.reduceAdd, Nat.reduceLeDiff, Nat.reduceSub, Int.reduceToNat, reduceCtorEq, BA_size, BA_data, hbz, hbl]))
      refine AP.cond rfl rfl (fun hb => ?_) (fun hb => ?_)
      · have : Z.all (· == 0) = false := by
          rw [ha, hdr]
          have : (Z.getD k 0 == 0) = false := by
            simp only [bne_iff_ne, ne_eq] at hb
            simp only [beq_eq_false_iff_ne, ne_eq]
            intro h0; apply hb; rw [h0]; rfl
          rw [this]; rfl
        rw [this]
        repeat (first | refine xA ?_ | refine xB ?_ | refine xC ?_ | refine xE ?_ | refine xD ?_ | refine xK ?_ | refine xS ?_ | refine xM ?_ | refine xT ?_ | refine xF ?_ | ((first | refine xR ?_ | refine xW ?_ | refine vq_id ?_); simp only [go_sem, Nat.reduceAdd, Nat.reduceLeDiff, Nat.reduceSub, Int.reduceToNat, reduceCtorEq]) | (refine ⟨by first | omega | (intros; simp_all; done) | (intros; simp_all; omega), ?_⟩; try simp only [go_sem, Nat.reduceAdd, Nat.reduceLeDiff, Nat.reduceSub, Int.reduceToNat, reduceCtorEq]))
        exact AE.ret0 rfl ⟨⟨rfl, Nat.le_of_ble_eq_true (by kernel_rfl)⟩, trivial⟩ rfl ⟨rfl, rfl⟩
      · have h0 : (Z.getD k 0 == 0) = true := by
          simp only [bne_eq_false_iff_eq] at hb
          have : (Z.getD k 0).toNat = 0 := by omega
          simp only [beq_iff_eq]
          exact UInt8.toNat_inj.1 this
        repeat (first | refine xA ?_ | refine xB ?_ | refine xC ?_ | refine xE ?_ | refine xD ?_ | refine xK ?_ | refine xS ?_ | refine xM ?_ | refine xT ?_ | refine xF ?_ | ((first | refine xR ?_ | refine xW ?_ | refine vq_id ?_); simp only [go_sem, Nat.reduceAdd, Nat.reduceLeDiff, Nat.reduceSub, Int.reduceToNat, reduceCtorEq, hw]) | (refine ⟨by first | omega | (intros; simp_all; done) | (intros; simp_all; omega), ?_⟩; try simp only [go_sem, Nat.reduceAdd, Nat.reduceLeDiff, Nat.reduceSub, Int.reduceToNat, reduceCtorEq, hw]))
        exact AE.round (k + 1) ⟨by omega, by rw [ha, hdr, h0, Bool.true_and]⟩ (by omega) (by repeat (first | exact Sub.nil _ | refine Sub.cons rfl ?_)) rfl
    · have hk' : k = Z.length := by simp at hq; omega
      rw [hk', List.drop_length] at ha
      rw [ha]
      repeat (first | refine xA ?_ | refine xB ?_ | refine xC ?_ | refine xE ?_ | refine xD ?_ | refine xK ?_ | refine xS ?_ | refine xM ?_ | refine xT ?_ | refine xF ?_ | ((first | refine xR ?_ | refine xW ?_ | refine vq_id ?_); simp only [go_sem, Nat.reduceAdd, Nat.reduceLeDiff, Nat.reduceSub, Int.reduceToNat, reduceCtorEq, hw5, BA_size, BA_extract, hbl, h5, hTe]) | (refine ⟨by first | omega | (intros; simp_all; done) | (intros; simp_all; omega), ?_⟩; try simp only [go_sem, Nat.reduceAdd, Nat.reduceLeDiff, Nat.reduceSub, Int.reduceToNat, reduceCtorEq, hw5, BA_size, BA_extract, hbl, h5, hTe]))
      exact AE.ret0 rfl ⟨⟨rfl, Nat.le_of_ble_eq_true (by kernel_rfl)⟩, trivial⟩ rfl ⟨rfl, rfl⟩
end Go.Proofs.Ytoafanbfminhcaa
end

section
namespace Go.Proofs.Ytoafanbfminhcaa
open Go Go.AL Go.RowKit
theorem zeros_fate (n i : Nat) (h : i < n) : fateAt (zerosI n) i = 0 := by
  unfold fateAt zerosI
  rw [if_pos (by simpa using h), List.getD_eq_getElem?_getD, List.getElem?_eq_getElem (by simpa using h), List.getElem_replicate]
  decide
theorem crash_last (n : Nat) : ∀ (W : List Wr) (i : Nat) (B : List Bs), i + W.length ≤ n → (∀ w ∈ W, 0 ≤ w.1 ∧ w.1 < B.length) → ∀ j, j < B.length → (crashB (zerosI n) W i B).getD j [] = lastW (j : Int) W (B.getD j [])
  | [], _, _, _, _, _, _ => rfl
  | w :: r, i, B, hn, hw, j, hj => by
    simp only [List.length_cons] at hn
    have h0 := hw w (by simp)
    obtain ⟨k, hk⟩ := Int.eq_ofNat_of_zero_le h0.1
    have hkl : k < B.length := by omega
    rw [crashB, zeros_fate n i (by omega), crash_last n r (i + 1) _ (by omega) (fun x hx => by rw [List.length_set]; exact hw x (by simp [hx])) j (by simpa using hj), lastW]
    congr 1
    rw [hk, Int.toNat_natCast, show crash1 (B.getD k []) w.2 0 = w.2 by simp [crash1], List.getD_eq_getElem?_getD, List.getElem?_set]
    by_cases hjk : k = j
    · subst hjk
      rw [if_pos rfl, if_pos hkl, if_pos rfl]; rfl
    · rw [if_neg hjk, if_neg (by omega), List.getD_eq_getElem?_getD]
theorem sync_eq (d : Dk) : d.syncD = d.syncR := by
  unfold Dk.syncD Dk.crashD Dk.syncR
  by_cases h : d.chk = 0
  · rw [if_pos h, if_pos h]
    have hok := (d.chk_ok).1 h
    congr 1
    refine List.ext_getElem (by rw [crashB_len, synB_len]) fun j h1 h2 => ?_
    rw [crashB_len] at h1
    have := crash_last d.W.length d.W 0 d.B (by omega) (fun w hw => (hok.r w hw).1) j h1
    rw [List.getD_eq_getElem?_getD, List.getElem?_eq_getElem (by rw [crashB_len]; exact h1)] at this
    simp only [Option.getD_some] at this
    rw [this]
    simp [Dk.synB]
  · rw [if_neg h, if_neg h]
end Go.Proofs.Ytoafanbfminhcaa
end

section
namespace Go.Proofs.Ytoafanbfminhcaa
open Go Go.AL Go.RowKit
set_option maxRecDepth 10000
set_option maxHeartbeats 4000000
abbrev Dk.ar (d : Dk) : AV := .ar [.sl 1 (blkR d.B), .sl 2 (wrR d.W)]
theorem crashD_sz (d : Dk) (F : List Int) (hd : d.Sz) : (d.crashD F).Sz := by
  unfold Dk.crashD
  split
  · exact ⟨by rw [crashB_len]; exact hd.b, by simp⟩
  · exact ⟨by simp, by simp⟩
theorem same_self (a b : Dk) (ha : a.Sz) (h : a = b) : PFn Try.prog 25 [a.v, b.v] (Bv true) := by
  subst h
  have := same_spec a a ha ha
  simpa using this
end Go.Proofs.Ytoafanbfminhcaa
end

section
namespace Go.Proofs.Ytoafanbfminhcaa
open Go Go.AL Go.RowKit
set_option maxRecDepth 10000
set_option maxHeartbeats 4000000
abbrev Jn.rv (x : Jn) : AV := .agg [.im (.sl 1 (blkR x.B)), .im (.sl 2 (wrR x.W)), Iv x.half, Iv x.used, Uv x.last, Uv x.next, .im (.sl 1 (blkR x.recs))]
abbrev nilR : AV := .agg [.im (.sl 1 []), .im (.sl 2 []), Iv 0, Iv 0, Uv 0, Uv 0, .im (.sl 1 [])]
theorem partsR_spec (s : Bs) (h : s.length ≤ 1000000000) : PFn Try.prog 73 [Sv s] (Iv (nparts s)) := by
  have w1 := wr (x := (s.length : Int) + 18) (by omega)
  have h2 : ((s.length : Int) + 18).tdiv 19 = (((s.length + 18) / 19 : Nat) : Int) := rfl
  have w3 := wr (x := (((s.length + 18) / 19 : Nat) : Int)) (by omega)
  have h4 : (if (((s.length + 18) / 19 : Nat) : Int) < 1 then (1 : Int) else (((s.length + 18) / 19 : Nat) : Int)) = ((nparts s : Nat) : Int) := by unfold nparts; split <;> omega
  refine ACall.walk [0, 2] [] Try.func73 rfl Try.ntmps73 (by kernel_rfl) (by rfl) rfl fun W own I0 φ0 => ?_
  repeat (first | refine xA ?_ | refine xB ?_ | refine xC ?_ | refine xE ?_ | refine xD ?_ | refine xK ?_ | refine xS ?_ | refine xM ?_ | refine xT ?_ | refine xF ?_ | ((first | refine xR ?_ | refine xW ?_ | refine vq_id ?_); simp only [go_sem, Nat.reduceAdd, Nat.reduceLeDiff, Nat.reduceSub, Int.reduceToNat, reduceCtorEq, BA_size, w1, h2, w3, h4]) | (refine ⟨by first | omega | (intros; simp_all; done) | (intros; simp_all; omega), ?_⟩; try simp only [go_sem, Nat.reduceAdd, Nat.reduceLeDiff, Nat.reduceSub, Int.reduceToNat, reduceCtorEq, BA_size, w1, h2, w3, h4]))
  exact AE.ret0 rfl ⟨rfl, trivial⟩ rfl ⟨rfl, rfl⟩
theorem roomR_spec (x : Jn) (hB : x.B.length ≤ 1000000) (hu : x.used ≤ x.B.length / 2) : PFn Try.prog 72 [x.rv] (Iv (x.B.length / 2 - x.used : Nat)) := by
  have hd : (x.B.length : Int).tdiv 2 = ((x.B.length / 2 : Nat) : Int) := rfl
  have w1 := wr (x := ((x.B.length / 2 : Nat) : Int)) (by omega)
  have hw : IntKind.i64.wrap (((x.B.length / 2 : Nat) : Int) - (x.used : Int)) = ((x.B.length / 2 - x.used : Nat) : Int) := by
    rw [wr (by omega)]; omega
  refine ACall.walk [0, 1, 2] [] Try.func72 rfl Try.ntmps72 (by kernel_rfl) (by rfl) rfl fun W own I0 φ0 => ?_
  repeat (first | refine xA ?_ | refine xB ?_ | refine xC ?_ | refine xE ?_ | refine xD ?_ | refine xK ?_ | refine xS ?_ | refine xM ?_ | refine xT ?_ | refine xF ?_ | ((first | refine xR ?_ | refine xW ?_ | refine vq_id ?_); simp only [go_sem, Nat.reduceAdd, Nat.reduceLeDiff, Nat.reduceSub, Int.reduceToNat, reduceCtorEq, blkR_len, hd, w1, hw]) | (refine ⟨by first | omega | (intros; simp_all; done) | (intros; simp_all; omega), ?_⟩; try simp only [go_sem, Nat.reduceAdd, Nat.reduceLeDiff, Nat.reduceSub, Int.reduceToNat, reduceCtorEq, blkR_len, hd, w1, hw]))
  exact AE.ret0 rfl ⟨rfl, trivial⟩ rfl ⟨rfl, rfl⟩
theorem formatR_bad (n : Int) (hn : permI n = false) : PFn Try.prog 45 [Iv n] (.tup [Dk.v nilD, Iv 4]) := by
  refine ACall.walk [0, 2, 3, 4, 5, 12] [2, 4] Try.func45 rfl Try.ntmps45 (by kernel_rfl) (by rfl) rfl fun W own I0 φ0 => ?_
  repeat (first | refine xA ?_ | refine xB ?_ | refine xC ?_ | refine xE ?_ | refine xD ?_ | refine xK ?_ | refine xS ?_ | refine xM ?_ | refine xT ?_ | refine xF ?_ | ((first | refine xR ?_ | refine xW ?_ | refine vq_id ?_); simp only [go_sem, Nat.reduceAdd, Nat.reduceLeDiff, Nat.reduceSub, Int.reduceToNat, reduceCtorEq]) | (refine ⟨by first | omega | (intros; simp_all; done) | (intros; simp_all; omega), ?_⟩; try simp only [go_sem, Nat.reduceAdd, Nat.reduceLeDiff, Nat.reduceSub, Int.reduceToNat, reduceCtorEq]))
  refine AQ.fn (by kernel_rfl) rfl rfl rfl (newR_bad n hn) rfl ?_
  repeat (first | refine xA ?_ | refine xB ?_ | refine xC ?_ | refine xE ?_ | refine xD ?_ | refine xK ?_ | refine xS ?_ | refine xM ?_ | refine xT ?_ | refine xF ?_ | ((first | refine xR ?_ | refine xW ?_ | refine vq_id ?_); simp only [go_sem, Nat.reduceAdd, Nat.reduceLeDiff, Nat.reduceSub, Int.reduceToNat, reduceCtorEq]) | (refine ⟨by first | omega | (intros; simp_all; done) | (intros; simp_all; omega), ?_⟩; try simp only [go_sem, Nat.reduceAdd, Nat.reduceLeDiff, Nat.reduceSub, Int.reduceToNat, reduceCtorEq]))
  refine AE.cellsW 0 [.im (.sl 1 []), .im (.sl 2 [])] rfl (cellsLe.nil (cellsLe.nil (cellsLe.refl _))) ?_
  simp only [go_sem, Nat.reduceAdd, Nat.reduceLeDiff, Nat.reduceSub, Int.reduceToNat, reduceCtorEq]
  exact AE.ret0 rfl ⟨⟨rfl, Nat.le_of_ble_eq_true (by kernel_rfl)⟩, rfl, trivial⟩ rfl ⟨rfl, rfl⟩
theorem formatR_ok (n : Nat) (hn : okN n = true) : PFn Try.prog 45 [Iv n] (.tup [Dk.v ⟨fmtS n, []⟩, Iv 0]) := by
  obtain ⟨h4, h2000, _⟩ := okN_le hn
  have hl := newS_len n
  have hset : (blkR (newS n)).set 0 (IV.v (Value.string (BA (blockP 1 0 true []))) :: List.drop 1 ((blkR (newS n)).getD 0 [])) = blkR (fmtS n) := by
    rw [blkR_get _ 0 (by omega)]; simp only [List.drop_succ_cons, List.drop_zero]; exact blkR_set _ _ _
  have hbl : (blkR (fmtS n)).length = n := by rw [blkR_len, fmtS, List.length_set, hl]
  have hb := blockR_spec 1 0 true [] (by decide) (by decide) (by decide)
  refine ACall.walk [0, 2, 3, 4, 5, 12] [2, 4] Try.func45 rfl Try.ntmps45 (by kernel_rfl) (by rfl) rfl fun W own I0 φ0 => ?_
  repeat (first | refine xA ?_ | refine xB ?_ | refine xC ?_ | refine xE ?_ | refine xD ?_ | refine xK ?_ | refine xS ?_ | refine xM ?_ | refine xT ?_ | refine xF ?_ | ((first | refine xR ?_ | refine xW ?_ | refine vq_id ?_); simp only [go_sem, Nat.reduceAdd, Nat.reduceLeDiff, Nat.reduceSub, Int.reduceToNat, reduceCtorEq]) | (refine ⟨by first | omega | (intros; simp_all; done) | (intros; simp_all; omega), ?_⟩; try simp only [go_sem, Nat.reduceAdd, Nat.reduceLeDiff, Nat.reduceSub, Int.reduceToNat, reduceCtorEq]))
  refine AQ.callv (by kernel_rfl) rfl rfl rfl (newR_own n hn) fun r' H' ⟨e1, e2⟩ => ?_
  subst e1; subst e2
  simp only [go_sem, Nat.reduceAdd, Nat.reduceLeDiff, Nat.reduceSub, Int.reduceToNat, reduceCtorEq]
  repeat (first | refine xA ?_ | refine xB ?_ | refine xC ?_ | refine xE ?_ | refine xD ?_ | refine xK ?_ | refine xS ?_ | refine xM ?_ | refine xT ?_ | refine xF ?_ | ((first | refine xR ?_ | refine xW ?_ | refine vq_id ?_); simp only [go_sem, Nat.reduceAdd, Nat.reduceLeDiff, Nat.reduceSub, Int.reduceToNat, reduceCtorEq]) | (refine ⟨by first | omega | (intros; simp_all; done) | (intros; simp_all; omega), ?_⟩; try simp only [go_sem, Nat.reduceAdd, Nat.reduceLeDiff, Nat.reduceSub, Int.reduceToNat, reduceCtorEq]))
  refine AP.drawE 5 (Tree.node [] [0, 1] [2] [Tree.node [0, 1] [3] [4] [Tree.node [] [] [] []]]) (by kernel_rfl) rfl (by kernel_rfl) (by kernel_rfl) ?_
  refine vd_node ?_
  simp only [go_sem, Nat.reduceAdd, Nat.reduceLeDiff, Nat.reduceSub, Int.reduceToNat, reduceCtorEq]
  refine AQ.fn (by kernel_rfl) rfl rfl rfl (hb) rfl ?_
  simp only [go_sem, Nat.reduceAdd, Nat.reduceLeDiff, Nat.reduceSub, Int.reduceToNat, reduceCtorEq]
  refine AQ.nx rfl ?_
  simp only [go_sem, Nat.reduceAdd, Nat.reduceLeDiff, Nat.reduceSub, Int.reduceToNat, reduceCtorEq]
  repeat (with_reducible refine And.intro (by omega) ?_)
  refine AQ.go (by kernel_rfl) ?_
  simp only [go_sem, Nat.reduceAdd, Nat.reduceLeDiff, Nat.reduceSub, Int.reduceToNat, reduceCtorEq, hset]
  refine And.intro (by rw [blkR_len, hl]; omega) ?_
  refine AQ.nx rfl ?_
  simp only [go_sem, Nat.reduceAdd, Nat.reduceLeDiff, Nat.reduceSub, Int.reduceToNat, reduceCtorEq, hset]
  refine AQ.done ?_
  repeat (first | refine xA ?_ | refine xB ?_ | refine xC ?_ | refine xE ?_ | refine xD ?_ | refine xK ?_ | refine xS ?_ | refine xM ?_ | refine xT ?_ | refine xF ?_ | ((first | refine xR ?_ | refine xW ?_ | refine vq_id ?_); simp only [go_sem, Nat.reduceAdd, Nat.reduceLeDiff, Nat.reduceSub, Int.reduceToNat, reduceCtorEq, hbl]) | (refine ⟨by first | omega | (intros; simp_all; done) | (intros; simp_all; omega), ?_⟩; try simp only [go_sem, Nat.reduceAdd, Nat.reduceLeDiff, Nat.reduceSub, Int.reduceToNat, reduceCtorEq, hbl]))
  refine AE.freeze 3 (el := 9) (es := 1) (rows := blkR (fmtS n)) rfl (by simp only [go_sem, Nat.reduceAdd, Nat.reduceLeDiff, Nat.reduceSub, Int.reduceToNat, reduceCtorEq, hbl]; first | done | trivial | omega | (simp; done) | (simp; omega)) (by simp only [go_sem, Nat.reduceAdd, Nat.reduceLeDiff, Nat.reduceSub, Int.reduceToNat, reduceCtorEq, hbl]; first | done | trivial | omega | (simp; done) | (simp; omega)) ?_; simp only [go_sem, Nat.reduceAdd, Nat.reduceLeDiff, Nat.reduceSub, Int.reduceToNat, reduceCtorEq, hbl]
  rw [take_all' (blkR (fmtS n)) _ (Nat.le_of_eq hbl)]
  exact AE.ret0 rfl ⟨⟨rfl, Nat.le_of_ble_eq_true (by kernel_rfl)⟩, rfl, trivial⟩ rfl ⟨rfl, rfl⟩
theorem chainL_step (P : List (Option Pc)) (link i : Nat) (h : i < P.length) : chP link (P.drop i) = match P.getD i none with | some p => if p.k = link then p :: chP p.s (P.drop (i + 1)) else [] | none => [] := by
  rw [drop_get P i none h]
  cases P.getD i none with
  | none => rfl
  | some p => rfl
def arX (S : List Bs) (a : Nat) : List Bs := (S.drop (a * (S.length / 2))).take (S.length / 2)
theorem chainR_spec (d : Dk) (area : Nat) (hd : d.Ok) (ha : area ≤ 1) : PFn Try.prog 70 [d.v, Iv area] (.tup [Iv (scanS (arX d.syncD.B area)).used, Uv (scanS (arX d.syncD.B area)).last, .im (.sl 1 (blkR (scanS (arX d.syncD.B area)).recs))]) := by
  have hsz : d.Sz := ⟨by have := (okN_even hd.n).2.2; omega, by have := hd.w; omega⟩
  obtain ⟨e1, e2, e3⟩ := okN_even hd.n
  have hS32 := sync_32 d hd
  have hsl := sync_blen hd
  have hsy : d.syncD.B = d.synB := by rw [sync_eq, Dk.syncR, if_pos ((d.chk_ok).2 hd)]
  have hgt := fun j hj => getR_spec d j hj hsz
  have hget : ∀ j, j < d.B.length → lastW (j : Int) d.W (d.B.getD j []) = d.syncD.B.getD j [] := fun j hj => by
    rw [hsy]
    simp [Dk.synB, List.getD_eq_getElem?_getD, hj]
  obtain ⟨S, hS⟩ : ∃ S, d.syncD.B = S := ⟨_, rfl⟩
  rw [hS] at hS32 hsl hget ⊢
  obtain ⟨A, hA⟩ : ∃ A, arX S area = A := ⟨_, rfl⟩
  have hAl : A.length = d.B.length / 2 := by
    rw [← hA, arX, List.length_take, List.length_drop, hsl]
    rcases (show area = 0 ∨ area = 1 by omega) with h | h <;> subst h <;> omega
  have hAg : ∀ i, i < d.B.length / 2 → S.getD (area * (d.B.length / 2) + i) [] = A.getD i [] := fun i hi => by
    rw [← hA, arX, hsl, List.getD_eq_getElem?_getD, List.getD_eq_getElem?_getD, List.getElem?_take, if_pos hi, List.getElem?_drop]
  obtain ⟨Z, hZ⟩ : ∃ Z, scanS A = Z := ⟨_, rfl⟩
  rw [hA, hZ]
  have hrun : (chP 0 (A.map readP)).foldl Sc.step sc0 = Z := by rw [← hZ, scanS_run]; rfl
  have hdv : (d.B.length : Int).tdiv 2 = ((d.B.length / 2 : Nat) : Int) := rfl
  obtain ⟨k, hk⟩ : ∃ k, d.B.length / 2 = k := ⟨_, rfl⟩
  rw [hk] at hAl hAg hdv
  have w1 := wr (x := (k : Int)) (by omega)
  have hmul : (area : Int) * (k : Int) = ((area * k : Nat) : Int) := by rw [Int.natCast_mul]
  have hak : area * k ≤ 2000 := by rcases (show area = 0 ∨ area = 1 by omega) with h | h <;> subst h <;> omega
  have w2 := wr (x := ((area * k : Nat) : Int)) (by omega)
  have hin : area * k + k ≤ d.B.length := by rcases (show area = 0 ∨ area = 1 by omega) with h | h <;> subst h <;> omega
  refine ACall.walk [0, 1, 2, 4, 5, 6, 7, 8, 9, 10, 11, 12, 13, 14, 22, 41, 52] [14] Try.func70 rfl Try.ntmps70 (by kernel_rfl) (by rfl) rfl fun W own I0 φ0 => ?_
  repeat (first | refine xA ?_ | refine xB ?_ | refine xC ?_ | refine xE ?_ | refine xD ?_ | refine xK ?_ | refine xS ?_ | refine xM ?_ | refine xT ?_ | refine xF ?_ | ((first | refine xR ?_ | refine xW ?_ | refine vq_id ?_); simp only [go_sem, Nat.reduceAdd, Nat.reduceLeDiff, Nat.reduceSub, Int.reduceToNat, reduceCtorEq, blkR_len, hdv, w1]) | (refine ⟨by first | omega | (intros; simp_all; done) | (intros; simp_all; omega), ?_⟩; try simp only [go_sem, Nat.reduceAdd, Nat.reduceLeDiff, Nat.reduceSub, Int.reduceToNat, reduceCtorEq, blkR_len, hdv, w1]))
  refine AP.loop rfl (α := Nat × Sc × Nat) (fun p => [(1, Iv area), (2, .im (.pt [.sl 1 (blkR d.B), .sl 2 (wrR d.W)])), (7, Iv k), (8, Iv p.2.1.used), (9, Uv p.2.1.last), (10, .os 0 1 0 p.2.1.recs.length), (11, Uv p.2.2), (12, Sv p.2.1.part), (13, Iv p.1)]) (fun p => [(0, .vec 9 1 (blkR p.2.1.recs))]) (fun p => p.1 ≤ k ∧ (chP p.2.2 ((A.map readP).drop p.1)).foldl Sc.step p.2.1 = Z ∧ p.2.1.n = p.1 ∧ p.2.1.part.length ≤ 19 * p.1 ∧ p.2.1.recs.length ≤ p.1) (fun p => k - p.1) (0, sc0, 0) ⟨by simp only; omega, hrun, rfl, Nat.le_refl _, Nat.le_refl _⟩ (by repeat (first | exact Sub.nil _ | refine Sub.cons rfl ?_)) rfl fun ⟨i, a, link⟩ ⟨hi, hf, b0, b1, b2⟩ => ?_
  simp only at hi hf b0 b1 b2
  repeat (first | refine xA ?_ | refine xB ?_ | refine xC ?_ | refine xE ?_ | refine xD ?_ | refine xK ?_ | refine xS ?_ | refine xM ?_ | refine xT ?_ | refine xF ?_ | ((first | refine xR ?_ | refine xW ?_ | refine vq_id ?_); simp only [go_sem, Nat.reduceAdd, Nat.reduceLeDiff, Nat.reduceSub, Int.reduceToNat, reduceCtorEq]) | (refine ⟨by first | omega | (intros; simp_all; done) | (intros; simp_all; omega), ?_⟩; try simp only [go_sem, Nat.reduceAdd, Nat.reduceLeDiff, Nat.reduceSub, Int.reduceToNat, reduceCtorEq]))
  refine AP.cond rfl rfl (fun hc => ?_) (fun hc => ?_)
  · have hi' : i < k := by simp at hc; omega
    have w3 := wr (x := ((area * k + i : Nat) : Int)) (by omega)
    have hc2 : ((area * k : Nat) : Int) + (i : Int) = ((area * k + i : Nat) : Int) := by omega
    have wi := wr (x := (i : Int) + 1) (by omega)
    have hg := hgt (area * k + i) (by omega)
    rw [hget _ (by omega), hAg i hi'] at hg
    obtain ⟨s, hs⟩ : ∃ s, A.getD i [] = s := ⟨_, rfl⟩
    have hsm : s ∈ S := by
      have : A.getD i [] ∈ A := by rw [List.getD_eq_getElem?_getD, List.getElem?_eq_getElem (by omega)]; exact List.getElem_mem (by omega)
      rw [hs] at this
      rw [← hA] at this
      exact List.mem_of_mem_drop (List.mem_of_mem_take this)
    rw [hs] at hg
    have hr := readR_spec s (hS32 s hsm)
    have hst := chainL_step (A.map readP) link i (by rw [List.length_map]; omega)
    have hgm : (A.map readP).getD i none = readP s := by
      rw [← hs]
      simp only [List.getD_eq_getElem?_getD, List.getElem?_map, List.getElem?_eq_getElem (show i < A.length by omega), Option.map_some, Option.getD_some]
    rw [hgm] at hst
    rw [hst] at hf
    cases hp : readP s with
    | none =>
      rw [hp] at hr hf
      simp only [List.foldl_nil] at hf
      repeat (first | refine xA ?_ | refine xB ?_ | refine xC ?_ | refine xE ?_ | refine xD ?_ | refine xK ?_ | refine xS ?_ | refine xM ?_ | refine xT ?_ | refine xF ?_ | ((first | refine xR ?_ | refine xW ?_ | refine vq_id ?_); simp only [go_sem, Nat.reduceAdd, Nat.reduceLeDiff, Nat.reduceSub, Int.reduceToNat, reduceCtorEq, hmul, w2, hc2, w3, hc2]) | (refine ⟨by first | omega | (intros; simp_all; done) | (intros; simp_all; omega), ?_⟩; try simp only [go_sem, Nat.reduceAdd, Nat.reduceLeDiff, Nat.reduceSub, Int.reduceToNat, reduceCtorEq, hmul, w2, hc2, w3, hc2]))
      refine AQ.fn (by kernel_rfl) rfl rfl rfl (hg) rfl ?_
      simp only [go_sem, Nat.reduceAdd, Nat.reduceLeDiff, Nat.reduceSub, Int.reduceToNat, reduceCtorEq]
      refine AQ.fn (by kernel_rfl) rfl rfl rfl (hr) rfl ?_
      repeat (first | refine xA ?_ | refine xB ?_ | refine xC ?_ | refine xE ?_ | refine xD ?_ | refine xK ?_ | refine xS ?_ | refine xM ?_ | refine xT ?_ | refine xF ?_ | ((first | refine xR ?_ | refine xW ?_ | refine vq_id ?_); simp only [go_sem, Nat.reduceAdd, Nat.reduceLeDiff, Nat.reduceSub, Int.reduceToNat, reduceCtorEq, readU]) | (refine ⟨by first | omega | (intros; simp_all; done) | (intros; simp_all; omega), ?_⟩; try simp only [go_sem, Nat.reduceAdd, Nat.reduceLeDiff, Nat.reduceSub, Int.reduceToNat, reduceCtorEq, readU]))
      rw [hf]
      refine AE.freeze 0 (el := 9) (es := 1) (rows := blkR Z.recs) rfl (by simp only [go_sem, Nat.reduceAdd, Nat.reduceLeDiff, Nat.reduceSub, Int.reduceToNat, reduceCtorEq, blkR_len]; first | done | trivial | omega | (simp; done) | (simp; omega)) (by simp only [go_sem, Nat.reduceAdd, Nat.reduceLeDiff, Nat.reduceSub, Int.reduceToNat, reduceCtorEq, blkR_len]; first | done | trivial | omega | (simp; done) | (simp; omega)) ?_; simp only [go_sem, Nat.reduceAdd, Nat.reduceLeDiff, Nat.reduceSub, Int.reduceToNat, reduceCtorEq, blkR_len]
      rw [take_all' (blkR Z.recs) _ (Nat.le_of_eq (blkR_len _))]
      exact AE.ret0 rfl ⟨rfl, rfl, rfl, trivial⟩ rfl ⟨rfl, rfl⟩
    | some p =>
      rw [hp] at hr hf
      repeat (first | refine xA ?_ | refine xB ?_ | refine xC ?_ | refine xE ?_ | refine xD ?_ | refine xK ?_ | refine xS ?_ | refine xM ?_ | refine xT ?_ | refine xF ?_ | ((first | refine xR ?_ | refine xW ?_ | refine vq_id ?_); simp only [go_sem, Nat.reduceAdd, Nat.reduceLeDiff, Nat.reduceSub, Int.reduceToNat, reduceCtorEq, hmul, w2, hc2, w3, hc2]) | (refine ⟨by first | omega | (intros; simp_all; done) | (intros; simp_all; omega), ?_⟩; try simp only [go_sem, Nat.reduceAdd, Nat.reduceLeDiff, Nat.reduceSub, Int.reduceToNat, reduceCtorEq, hmul, w2, hc2, w3, hc2]))
      refine AQ.fn (by kernel_rfl) rfl rfl rfl (hg) rfl ?_
      simp only [go_sem, Nat.reduceAdd, Nat.reduceLeDiff, Nat.reduceSub, Int.reduceToNat, reduceCtorEq]
      refine AQ.fn (by kernel_rfl) rfl rfl rfl (hr) rfl ?_
      simp only [go_sem, Nat.reduceAdd, Nat.reduceLeDiff, Nat.reduceSub, Int.reduceToNat, reduceCtorEq, readU]
      repeat (first | refine xA ?_ | refine xB ?_ | refine xC ?_ | refine xE ?_ | refine xD ?_ | refine xK ?_ | refine xS ?_ | refine xM ?_ | refine xT ?_ | refine xF ?_ | ((first | refine xR ?_ | refine xW ?_ | refine vq_id ?_); simp only [go_sem, Nat.reduceAdd, Nat.reduceLeDiff, Nat.reduceSub, Int.reduceToNat, reduceCtorEq]) | (refine ⟨by first | omega | (intros; simp_all; done) | (intros; simp_all; omega), ?_⟩; try simp only [go_sem, Nat.reduceAdd, Nat.reduceLeDiff, Nat.reduceSub, Int.reduceToNat, reduceCtorEq]))
      have hpl := readP_len hp
      by_cases hkl : p.k = link
      · have hk1 : ((p.k : Int) != (link : Int)) = false := by simp [hkl]
        simp only [if_pos hkl, List.foldl_cons] at hf
        have hn1 : (a.step p).n = i + 1 := by unfold Sc.step; split <;> simp only <;> omega
        simp only [go_sem, Nat.reduceAdd, Nat.reduceLeDiff, Nat.reduceSub, Int.reduceToNat, reduceCtorEq, hk1]
        repeat (first | refine xA ?_ | refine xB ?_ | refine xC ?_ | refine xE ?_ | refine xD ?_ | refine xK ?_ | refine xS ?_ | refine xM ?_ | refine xT ?_ | refine xF ?_ | ((first | refine xR ?_ | refine xW ?_ | refine vq_id ?_); simp only [go_sem, Nat.reduceAdd, Nat.reduceLeDiff, Nat.reduceSub, Int.reduceToNat, reduceCtorEq, hk1, BA_size]) | (refine ⟨by first | omega | (intros; simp_all; done) | (intros; simp_all; omega), ?_⟩; try simp only [go_sem, Nat.reduceAdd, Nat.reduceLeDiff, Nat.reduceSub, Int.reduceToNat, reduceCtorEq, hk1, BA_size]))
        refine AP.cond rfl rfl (fun hl => ?_) (fun hl => ?_)
        · have hst2 : a.step p = ⟨a.n + 1, [], a.recs ++ [a.part ++ p.t], a.n + 1, if a.n = 0 then p.s else a.first, p.s, false⟩ := by unfold Sc.step; rw [if_pos hl]
          have hb4 : blkR a.recs ++ [[Si (a.part ++ p.t)]] = blkR (a.step p).recs := by rw [hst2]; simp [blkR]
          have hl4 : a.recs.length + 1 = (a.step p).recs.length := by rw [hst2]; simp
          have hu4 : (a.step p).used = i + 1 := by rw [hst2, b0]
          have hla4 : (a.step p).last = p.s := by rw [hst2]
          have hp4 : (a.step p).part = [] := by rw [hst2]
          repeat (first | refine xA ?_ | refine xB ?_ | refine xC ?_ | refine xE ?_ | refine xD ?_ | refine xK ?_ | refine xS ?_ | refine xM ?_ | refine xT ?_ | refine xF ?_ | ((first | refine xR ?_ | refine xW ?_ | refine vq_id ?_); simp only [go_sem, Nat.reduceAdd, Nat.reduceLeDiff, Nat.reduceSub, Int.reduceToNat, reduceCtorEq, wi]) | (refine ⟨by first | omega | (intros; simp_all; done) | (intros; simp_all; omega), ?_⟩; try simp only [go_sem, Nat.reduceAdd, Nat.reduceLeDiff, Nat.reduceSub, Int.reduceToNat, reduceCtorEq, wi]))
          refine AQ.append (hnb := rfl) (rows := blkR a.recs) (es := 0) (by kernel_rfl) rfl rfl rfl (by rfl) Try.tk25 Try.sz9 (by show Option.map _ (zro Try.prog 9) = _; rw [Try.zr9]; rfl) Try.by9 (by first | rfl | (simp only [blkR_len, List.length_cons, List.length_nil]; done) | (simp only [blkR_len, List.length_cons, List.length_nil]; omega)) (by simp only [blkR_len, List.length_cons, List.length_nil]; omega) (by simp only [blkR_len, List.length_cons, List.length_nil]; omega) ?_
          simp only [go_sem, Nat.reduceAdd, Nat.reduceLeDiff, Nat.reduceSub, Int.reduceToNat, reduceCtorEq, blkR_len]
          rw [hb4, hl4]
          repeat (first | refine xA ?_ | refine xB ?_ | refine xC ?_ | refine xE ?_ | refine xD ?_ | refine xK ?_ | refine xS ?_ | refine xM ?_ | refine xT ?_ | refine xF ?_ | ((first | refine xR ?_ | refine xW ?_ | refine vq_id ?_); simp only [go_sem, Nat.reduceAdd, Nat.reduceLeDiff, Nat.reduceSub, Int.reduceToNat, reduceCtorEq, wi]) | (refine ⟨by first | omega | (intros; simp_all; done) | (intros; simp_all; omega), ?_⟩; try simp only [go_sem, Nat.reduceAdd, Nat.reduceLeDiff, Nat.reduceSub, Int.reduceToNat, reduceCtorEq, wi]))
          refine AE.forgets [1] rfl ?_
          simp only [go_sem, Nat.reduceAdd, Nat.reduceLeDiff, Nat.reduceSub, Int.reduceToNat, reduceCtorEq]
          obtain ⟨c1, c2, c3⟩ := step_bound a p i hpl (by omega) b1 b2
          exact AE.round (i + 1, a.step p, p.s) ⟨by simp only; omega, hf, hn1, c2, c3⟩ (by simp only; omega) (by simp only [hu4, hla4, hp4]; exact (by repeat (first | exact Sub.nil _ | refine Sub.cons rfl ?_))) rfl
        · have hst2 : a.step p = ⟨a.n + 1, a.part ++ p.t, a.recs, a.used, if a.n = 0 then p.s else a.first, a.last, true⟩ := by unfold Sc.step; rw [if_neg (by rw [hl]; exact Bool.false_ne_true)]
          repeat (first | refine xA ?_ | refine xB ?_ | refine xC ?_ | refine xE ?_ | refine xD ?_ | refine xK ?_ | refine xS ?_ | refine xM ?_ | refine xT ?_ | refine xF ?_ | ((first | refine xR ?_ | refine xW ?_ | refine vq_id ?_); simp only [go_sem, Nat.reduceAdd, Nat.reduceLeDiff, Nat.reduceSub, Int.reduceToNat, reduceCtorEq, wi]) | (refine ⟨by first | omega | (intros; simp_all; done) | (intros; simp_all; omega), ?_⟩; try simp only [go_sem, Nat.reduceAdd, Nat.reduceLeDiff, Nat.reduceSub, Int.reduceToNat, reduceCtorEq, wi]))
          have hu4 : (a.step p).used = a.used := by rw [hst2]
          have hla4 : (a.step p).last = a.last := by rw [hst2]
          have hp4 : (a.step p).part = a.part ++ p.t := by rw [hst2]
          have hr4 : (a.step p).recs = a.recs := by rw [hst2]
          refine AE.forgets [1] rfl ?_
          simp only [go_sem, Nat.reduceAdd, Nat.reduceLeDiff, Nat.reduceSub, Int.reduceToNat, reduceCtorEq]
          obtain ⟨c1, c2, c3⟩ := step_bound a p i hpl (by omega) b1 b2
          exact AE.round (i + 1, a.step p, p.s) ⟨by simp only; omega, hf, hn1, c2, c3⟩ (by simp only; omega) (by simp only [hu4, hla4, hp4, hr4]; exact (by repeat (first | exact Sub.nil _ | refine Sub.cons rfl ?_))) (by simp only [hr4])
      · have hk1 : ((p.k : Int) != (link : Int)) = true := by simp; omega
        simp only [if_neg hkl, List.foldl_nil] at hf
        simp only [go_sem, Nat.reduceAdd, Nat.reduceLeDiff, Nat.reduceSub, Int.reduceToNat, reduceCtorEq, hk1]
        repeat (first | refine xA ?_ | refine xB ?_ | refine xC ?_ | refine xE ?_ | refine xD ?_ | refine xK ?_ | refine xS ?_ | refine xM ?_ | refine xT ?_ | refine xF ?_ | ((first | refine xR ?_ | refine xW ?_ | refine vq_id ?_); simp only [go_sem, Nat.reduceAdd, Nat.reduceLeDiff, Nat.reduceSub, Int.reduceToNat, reduceCtorEq, hk1]) | (refine ⟨by first | omega | (intros; simp_all; done) | (intros; simp_all; omega), ?_⟩; try simp only [go_sem, Nat.reduceAdd, Nat.reduceLeDiff, Nat.reduceSub, Int.reduceToNat, reduceCtorEq, hk1]))
        rw [hf]
        refine AE.freeze 0 (el := 9) (es := 1) (rows := blkR Z.recs) rfl (by simp only [go_sem, Nat.reduceAdd, Nat.reduceLeDiff, Nat.reduceSub, Int.reduceToNat, reduceCtorEq, blkR_len]; first | done | trivial | omega | (simp; done) | (simp; omega)) (by simp only [go_sem, Nat.reduceAdd, Nat.reduceLeDiff, Nat.reduceSub, Int.reduceToNat, reduceCtorEq, blkR_len]; first | done | trivial | omega | (simp; done) | (simp; omega)) ?_; simp only [go_sem, Nat.reduceAdd, Nat.reduceLeDiff, Nat.reduceSub, Int.reduceToNat, reduceCtorEq, blkR_len]
        rw [take_all' (blkR Z.recs) _ (Nat.le_of_eq (blkR_len _))]
        exact AE.ret0 rfl ⟨rfl, rfl, rfl, trivial⟩ rfl ⟨rfl, rfl⟩
  · have hi' : i = k := by simp at hc; omega
    have hz : (A.map readP).drop i = [] := List.drop_of_length_le (by rw [List.length_map]; omega)
    rw [hz] at hf
    have hf : a = Z := hf
    repeat (first | refine xA ?_ | refine xB ?_ | refine xC ?_ | refine xE ?_ | refine xD ?_ | refine xK ?_ | refine xS ?_ | refine xM ?_ | refine xT ?_ | refine xF ?_ | ((first | refine xR ?_ | refine xW ?_ | refine vq_id ?_); simp only [go_sem, Nat.reduceAdd, Nat.reduceLeDiff, Nat.reduceSub, Int.reduceToNat, reduceCtorEq]) | (refine ⟨by first | omega | (intros; simp_all; done) | (intros; simp_all; omega), ?_⟩; try simp only [go_sem, Nat.reduceAdd, Nat.reduceLeDiff, Nat.reduceSub, Int.reduceToNat, reduceCtorEq]))
    rw [hf]
    refine AE.freeze 0 (el := 9) (es := 1) (rows := blkR Z.recs) rfl (by simp only [go_sem, Nat.reduceAdd, Nat.reduceLeDiff, Nat.reduceSub, Int.reduceToNat, reduceCtorEq, blkR_len]; first | done | trivial | omega | (simp; done) | (simp; omega)) (by simp only [go_sem, Nat.reduceAdd, Nat.reduceLeDiff, Nat.reduceSub, Int.reduceToNat, reduceCtorEq, blkR_len]; first | done | trivial | omega | (simp; done) | (simp; omega)) ?_; simp only [go_sem, Nat.reduceAdd, Nat.reduceLeDiff, Nat.reduceSub, Int.reduceToNat, reduceCtorEq, blkR_len]
    rw [take_all' (blkR Z.recs) _ (Nat.le_of_eq (blkR_len _))]
    exact AE.ret0 rfl ⟨rfl, rfl, rfl, trivial⟩ rfl ⟨rfl, rfl⟩
end Go.Proofs.Ytoafanbfminhcaa
end
