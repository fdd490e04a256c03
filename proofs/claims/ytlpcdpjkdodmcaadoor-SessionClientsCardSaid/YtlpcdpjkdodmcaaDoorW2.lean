import Derived.Test.YtlpcdpjkdodmcaaDoorW1
import Derived.Shelf.Spec.SlicesGrow
import Derived.Test.YtlpcdpjkdodmcaaDoorCards
import Derived.Test.YtlpcdpjkdodmcaaDoorTie
import Derived.Stop.LaidErr
import Derived.Lib.LaidTab
set_option linter.unusedSimpArgs false
set_option linter.unusedVariables false
set_option linter.unnecessarySimpa false
section
namespace Go.Proofs.YtlpcdpjkdodmcaaDoor
open Go Go.AL Go.RowKit
set_option maxRecDepth 10000
set_option maxHeartbeats 4000000
def inner (k n : Nat) (l : List UInt8) : List UInt8 := UInt8.ofNat k :: (be4 n ++ l)
def frame (k n : Nat) (l : List UInt8) : List UInt8 := be4 (l.length + 9) ++ (inner k n l ++ be4 (adSum (inner k n l)))
theorem be4_len (n : Nat) : (be4 n).length = 4 := rfl
theorem adSum_lt (l : List UInt8) : adSum l < 4294967296 := by
  obtain ⟨h1, h2⟩ := ad_lt l
  unfold adSum
  omega
theorem u8k (k : Nat) : IntKind.u8.wrap (k : Int) = ((UInt8.ofNat k).toNat : Int) := u8w k
theorem msgE_ok {k n : Int} {l : List UInt8} (h : msgE k n l = 0) : 1 ≤ k ∧ k ≤ 9 ∧ 1 ≤ n ∧ n ≤ 2147483647 ∧ l.length ≤ 20000 ∧ bodyB k l = true := by
  unfold msgE at h
  split at h
  · simp at h
  split at h
  · simp at h
  split at h
  · simp at h
  split at h
  · rename_i h1 h2 h3 h4
    exact ⟨by omega, by omega, by omega, by omega, by omega, h4⟩
  · simp at h
abbrev nilS : AV := .im (.v (.slice none 0 0))
def encV (k n : Int) (l : List UInt8) : AV := if msgE k n l = 0 then .tup [.im (.sl 1 (byteR (frame k.toNat n.toNat l))), Iv 0] else .tup [nilS, Iv (msgE k n l)]
theorem encode_spec (k n : Int) (l : List UInt8) : PFn Tryd.prog 8 [.agg [Iv k, Iv n, Sv l]] (encV k n l) := by
  have hs := error_spec k n l
  unfold encV
  obtain ⟨e, he⟩ : ∃ e, msgE k n l = e := ⟨_, rfl⟩
  rw [he] at hs ⊢
  by_cases h0 : e = 0
  · subst h0
    rw [if_pos rfl]
    obtain ⟨h1, h2, h3, h4, h5, h6⟩ := msgE_ok he
    obtain ⟨K, rfl⟩ : ∃ K : Nat, k = K := ⟨k.toNat, by omega⟩
    obtain ⟨N, rfl⟩ : ∃ N : Nat, n = N := ⟨n.toNat, by omega⟩
    clear he h6
    have b1 := bytesOf_spec (l.length + 9) (by omega)
    have b2 := bytesOf_spec N (by omega)
    have w1 : IntKind.i64.wrap ((l.length : Int) + 9) = ((l.length + 9 : Nat) : Int) := wr (by omega)
    have w2 := u32w (l.length + 9) (by omega)
    have w3 := u32w N (by omega)
    have w4 := u8k K
    refine ACall.walk [0, 1, 2, 3, 4, 5, 6, 7, 8, 12] [5, 6, 8] Tryd.func8 rfl Tryd.ntmps8 (by kernel_rfl) (by rfl) rfl fun W own I0 φ0 lay => ?_
    repeat (first | refine xA ?_ | refine xB ?_ | refine xC ?_ | refine xE ?_ | refine xD ?_ | refine xK ?_ | refine xS ?_ | refine xM ?_ | refine xT ?_ | refine xF ?_ | ((first | refine xR ?_ | refine xW ?_ | refine vq_id ?_); simp only [go_sem, Nat.reduceAdd, Nat.reduceLeDiff, Nat.reduceSub, Int.reduceToNat, reduceCtorEq]) | (refine ⟨by first | omega | (intros; simp_all; done) | (intros; simp_all; omega), ?_⟩; try simp only [go_sem, Nat.reduceAdd, Nat.reduceLeDiff, Nat.reduceSub, Int.reduceToNat, reduceCtorEq]))
    refine AQ.fn (by kernel_rfl) rfl rfl rfl (hs) rfl ?_
    repeat (first | refine xA ?_ | refine xB ?_ | refine xC ?_ | refine xE ?_ | refine xD ?_ | refine xK ?_ | refine xS ?_ | refine xM ?_ | refine xT ?_ | refine xF ?_ | ((first | refine xR ?_ | refine xW ?_ | refine vq_id ?_); simp only [go_sem, Nat.reduceAdd, Nat.reduceLeDiff, Nat.reduceSub, Int.reduceToNat, reduceCtorEq]) | (refine ⟨by first | omega | (intros; simp_all; done) | (intros; simp_all; omega), ?_⟩; try simp only [go_sem, Nat.reduceAdd, Nat.reduceLeDiff, Nat.reduceSub, Int.reduceToNat, reduceCtorEq]))
    refine AP.cut (α := Unit) (fun _ => [(1, .im (.pt [Ii K, Ii N, Si l])), (5, .ob 7 0), (6, .im (.pt (A4 N)))]) (fun _ => [(7, .vec 93 1 ((A4 (l.length + 9)).map fun c => [c]))]) (fun _ => True) ?_ fun _ _ => ?_
    · skip
      refine AP.drawE 14 (Tree.node [] [0, 1, 2, 3, 4, 6, 7, 8] [5, 10, 11] [Tree.node [6, 7, 8] [] [9, 10, 11] [Tree.node [] [] [10, 11] [Tree.node [] [] [11] [Tree.node [] [] [12] [Tree.node [] [] [13] [Tree.node [] [] [] []]]], Tree.node [] [] [10] [Tree.node [] [] [12] [Tree.node [] [] [13] [Tree.node [] [] [] []]]]], Tree.node [6, 7, 8] [] [9, 11] [Tree.node [] [] [11] [Tree.node [] [] [12] [Tree.node [] [] [13] [Tree.node [] [] [] []]]], Tree.node [6, 7, 8] [] [9] [Tree.node [] [] [12] [Tree.node [] [] [13] [Tree.node [] [] [] []]]]], Tree.node [6, 7, 8] [] [9, 10] [Tree.node [] [] [10] [Tree.node [] [] [12] [Tree.node [] [] [13] [Tree.node [] [] [] []]]], Tree.node [6, 7, 8] [] [9] [Tree.node [] [] [12] [Tree.node [] [] [13] [Tree.node [] [] [] []]]]]], Tree.node [0, 1, 2, 3, 4, 6, 7, 8] [] [5, 11] [Tree.node [6, 7, 8] [] [9, 11] [Tree.node [] [] [11] [Tree.node [] [] [12] [Tree.node [] [] [13] [Tree.node [] [] [] []]]], Tree.node [6, 7, 8] [] [9] [Tree.node [] [] [12] [Tree.node [] [] [13] [Tree.node [] [] [] []]]]], Tree.node [0, 1, 2, 3, 4, 6, 7, 8] [] [5] [Tree.node [6, 7, 8] [] [9] [Tree.node [] [] [12] [Tree.node [] [] [13] [Tree.node [] [] [] []]]]]], Tree.node [0, 1, 2, 3, 4, 6, 7, 8] [] [5, 10] [Tree.node [6, 7, 8] [] [9, 10] [Tree.node [] [] [10] [Tree.node [] [] [12] [Tree.node [] [] [13] [Tree.node [] [] [] []]]], Tree.node [6, 7, 8] [] [9] [Tree.node [] [] [12] [Tree.node [] [] [13] [Tree.node [] [] [] []]]]], Tree.node [0, 1, 2, 3, 4, 6, 7, 8] [] [5] [Tree.node [6, 7, 8] [] [9] [Tree.node [] [] [12] [Tree.node [] [] [13] [Tree.node [] [] [] []]]]]]]) (by kernel_rfl) rfl (by kernel_rfl) (by kernel_rfl) ?_
      refine vd_node ?_
      simp only [go_sem, Nat.reduceAdd, Nat.reduceLeDiff, Nat.reduceSub, Int.reduceToNat, reduceCtorEq, BA_size, w1, w2, w3]
      repeat' (first | with_reducible exact True.intro | with_reducible refine And.intro (by omega) ?_ | with_reducible refine And.intro ?_ ?_ | (refine AQ.nx rfl ?_; simp only [go_sem, Nat.reduceAdd, Nat.reduceLeDiff, Nat.reduceSub, Int.reduceToNat, reduceCtorEq, BA_size, w1, w2, w3]) | (refine AQ.fn (by kernel_rfl) rfl rfl rfl (b1) rfl ?_; simp only [go_sem, Nat.reduceAdd, Nat.reduceLeDiff, Nat.reduceSub, Int.reduceToNat, reduceCtorEq]) | (refine AQ.fn (by kernel_rfl) rfl rfl rfl (b2) rfl ?_; simp only [go_sem, Nat.reduceAdd, Nat.reduceLeDiff, Nat.reduceSub, Int.reduceToNat, reduceCtorEq]) | refine AQ.done ?_ | (refine AQ.go (by kernel_rfl) ?_; simp only [go_sem, Nat.reduceAdd, Nat.reduceLeDiff, Nat.reduceSub, Int.reduceToNat, reduceCtorEq, BA_size, w1, w2, w3]; repeat (with_reducible refine And.intro (by omega) ?_); refine AQ.nx rfl ?_; simp only [go_sem, Nat.reduceAdd, Nat.reduceLeDiff, Nat.reduceSub, Int.reduceToNat, reduceCtorEq, BA_size, w1, w2, w3]))
      all_goals first
        | rfl
        | (simp only [go_sem, Nat.reduceAdd, Nat.reduceLeDiff, Nat.reduceSub, Int.reduceToNat, reduceCtorEq]; refine AE.freeze 1 (el := 93) (es := 1) (rows := (A4 N).map fun c => [c]) rfl (by simp [go_sem]) (by simp [go_sem]) ?_; simp only [go_sem, Nat.reduceAdd, Nat.reduceLeDiff, Nat.reduceSub, Int.reduceToNat, reduceCtorEq]; refine AE.rename 0 7 rfl rfl rfl ?_; simp only [go_sem, Nat.reduceAdd, Nat.reduceLeDiff, Nat.reduceSub, Int.reduceToNat, reduceCtorEq]; exact AE.meet () trivial (by repeat (first | exact Sub.nil _ | refine Sub.cons rfl ?_)) rfl)
        | (simp only [go_sem, Nat.reduceAdd, Nat.reduceLeDiff, Nat.reduceSub, Int.reduceToNat, reduceCtorEq]; refine AE.freeze 0 (el := 93) (es := 1) (rows := (A4 N).map fun c => [c]) rfl (by simp [go_sem]) (by simp [go_sem]) ?_; simp only [go_sem, Nat.reduceAdd, Nat.reduceLeDiff, Nat.reduceSub, Int.reduceToNat, reduceCtorEq]; refine AE.rename 1 7 rfl rfl rfl ?_; simp only [go_sem, Nat.reduceAdd, Nat.reduceLeDiff, Nat.reduceSub, Int.reduceToNat, reduceCtorEq]; exact AE.meet () trivial (by repeat (first | exact Sub.nil _ | refine Sub.cons rfl ?_)) rfl)
    have hr1 : ∀ m : Nat, ((A4 m).map fun c => [c]).length = 4 := fun m => rfl
    repeat (first | refine xA ?_ | refine xB ?_ | refine xC ?_ | refine xE ?_ | refine xD ?_ | refine xK ?_ | refine xS ?_ | refine xM ?_ | refine xT ?_ | refine xF ?_ | ((first | refine xR ?_ | refine xW ?_ | refine vq_id ?_); simp only [go_sem, Nat.reduceAdd, Nat.reduceLeDiff, Nat.reduceSub, Int.reduceToNat, reduceCtorEq]) | (refine ⟨by first | omega | (intros; simp_all; done) | (intros; simp_all; omega), ?_⟩; try simp only [go_sem, Nat.reduceAdd, Nat.reduceLeDiff, Nat.reduceSub, Int.reduceToNat, reduceCtorEq]))
    refine AP.drawE 7 (Tree.node [] [0, 1, 2, 3] [4] [Tree.node [0] [] [5] [Tree.node [] [6] [] []]]) (by kernel_rfl) rfl (by kernel_rfl) (by kernel_rfl) ?_
    refine vd_node ?_
    simp only [go_sem, Nat.reduceAdd, Nat.reduceLeDiff, Nat.reduceSub, Int.reduceToNat, reduceCtorEq, w4, hr1]
    repeat' (first | with_reducible exact True.intro | with_reducible refine And.intro (by omega) ?_ | with_reducible refine And.intro ?_ ?_ | (refine AQ.nx rfl ?_; simp only [go_sem, Nat.reduceAdd, Nat.reduceLeDiff, Nat.reduceSub, Int.reduceToNat, reduceCtorEq, w4, hr1]) | (refine AQ.appendG (hnb := rfl) (rows := (A4 (l.length + 9)).map fun c => [c]) (es := 0) (by kernel_rfl) rfl rfl rfl (by rfl) Tryd.tk24 Tryd.sz5 (by show Option.map _ (zro Tryd.prog 5) = _; rw [Tryd.zr5]; rfl) Tryd.by5 (by first | rfl | (simp only [hr1, List.length_append, List.length_cons, List.length_nil]; done) | (simp only [hr1, List.length_append, List.length_cons, List.length_nil]; omega)) (by simp only [hr1, List.length_append, List.length_cons, List.length_nil]; omega) (by simp only [hr1, List.length_append, List.length_cons, List.length_nil]; omega) fun el1 => ?_; simp only [go_sem, Nat.reduceAdd, Nat.reduceLeDiff, Nat.reduceSub, Int.reduceToNat, reduceCtorEq, hr1]) | refine AQ.done ?_ | (refine AQ.go (by kernel_rfl) ?_; simp only [go_sem, Nat.reduceAdd, Nat.reduceLeDiff, Nat.reduceSub, Int.reduceToNat, reduceCtorEq, w4, hr1]; repeat (with_reducible refine And.intro (by omega) ?_); refine AQ.nx rfl ?_; simp only [go_sem, Nat.reduceAdd, Nat.reduceLeDiff, Nat.reduceSub, Int.reduceToNat, reduceCtorEq, w4, hr1]))
    repeat (first | refine xA ?_ | refine xB ?_ | refine xC ?_ | refine xE ?_ | refine xD ?_ | refine xK ?_ | refine xS ?_ | refine xM ?_ | refine xT ?_ | refine xF ?_ | ((first | refine xR ?_ | refine xW ?_ | refine vq_id ?_); simp only [go_sem, Nat.reduceAdd, Nat.reduceLeDiff, Nat.reduceSub, Int.reduceToNat, reduceCtorEq]) | (refine ⟨by first | omega | (intros; simp_all; done) | (intros; simp_all; omega), ?_⟩; try simp only [go_sem, Nat.reduceAdd, Nat.reduceLeDiff, Nat.reduceSub, Int.reduceToNat, reduceCtorEq]))
    have hA : ∀ m : Nat, (A4 m).map (fun c => [c]) = byteR (be4 m) := fun m => rfl
    have hk1 : [[IV.v (Value.int .u8 ((UInt8.ofNat K).toNat : Int))]] = byteR [UInt8.ofNat K] := rfl
    have hB : ((A4 N).take 4).map (fun c => [c]) = byteR (be4 N) := rfl
    have h44 : (A4 N).length = 4 := rfl
    rw [hA, hk1, byteR_append]
    refine AP.drawE 6 (Tree.node [] [0, 1, 3, 4] [2] [Tree.node [3, 4] [] [5] [Tree.node [] [] [] []]]) (by kernel_rfl) rfl (by kernel_rfl) (by kernel_rfl) ?_
    refine vd_node ?_
    simp only [go_sem, Nat.reduceAdd, Nat.reduceLeDiff, Nat.reduceSub, Int.reduceToNat, reduceCtorEq, hB, h44]
    refine AQ.appendG (hnb := rfl) (rows := byteR (be4 (l.length + 9) ++ [UInt8.ofNat K])) (es := 0) (by kernel_rfl) rfl rfl rfl (by rfl) Tryd.tk24 Tryd.sz5 (by show Option.map _ (zro Tryd.prog 5) = _; rw [Tryd.zr5]; rfl) Tryd.by5 (by first | rfl | (simp only [byteR_len, be4_len, List.length_append, List.length_cons, List.length_nil]; done) | (simp only [byteR_len, be4_len, List.length_append, List.length_cons, List.length_nil]; omega)) (by simp only [byteR_len, be4_len, List.length_append, List.length_cons, List.length_nil]; omega) (by simp only [byteR_len, be4_len, List.length_append, List.length_cons, List.length_nil]; omega) fun el1 => ?_
    simp only [go_sem, Nat.reduceAdd, Nat.reduceLeDiff, Nat.reduceSub, Int.reduceToNat, reduceCtorEq, byteR_append, byteR_len, be4_len, List.length_append, List.length_cons, List.length_nil]
    refine AQ.nx rfl ?_
    simp only [go_sem, Nat.reduceAdd, Nat.reduceLeDiff, Nat.reduceSub, Int.reduceToNat, reduceCtorEq]
    refine AQ.appendSG (hnb := rfl) (rows := byteR (be4 (l.length + 9) ++ [UInt8.ofNat K] ++ be4 N)) (l := l) (by kernel_rfl) rfl rfl rfl (by rfl) Tryd.tk24 (by kernel_rfl) Tryd.sz5 Tryd.zr5 Tryd.by5 (by first | rfl | (simp only [byteR_len, be4_len, List.length_append, List.length_cons, List.length_nil]; done) | (simp only [byteR_len, be4_len, List.length_append, List.length_cons, List.length_nil]; omega)) (by simp only [byteR_len, be4_len, List.length_append, List.length_cons, List.length_nil]; omega) fun el1 => ?_
    simp only [go_sem, Nat.reduceAdd, Nat.reduceLeDiff, Nat.reduceSub, Int.reduceToNat, reduceCtorEq, byteR_append, byteR_len, be4_len, List.length_append, List.length_cons, List.length_nil]
    refine AQ.nx rfl ?_
    simp only [go_sem, Nat.reduceAdd, Nat.reduceLeDiff, Nat.reduceSub, Int.reduceToNat, reduceCtorEq]
    repeat (first | refine xA ?_ | refine xB ?_ | refine xC ?_ | refine xE ?_ | refine xD ?_ | refine xK ?_ | refine xS ?_ | refine xM ?_ | refine xT ?_ | refine xF ?_ | ((first | refine xR ?_ | refine xW ?_ | refine vq_id ?_); simp only [go_sem, Nat.reduceAdd, Nat.reduceLeDiff, Nat.reduceSub, Int.reduceToNat, reduceCtorEq]) | (refine ⟨by first | omega | (intros; simp_all; done) | (intros; simp_all; omega), ?_⟩; try simp only [go_sem, Nat.reduceAdd, Nat.reduceLeDiff, Nat.reduceSub, Int.reduceToNat, reduceCtorEq]))
    have hin : be4 (l.length + 9) ++ [UInt8.ofNat K] ++ be4 N ++ l = be4 (l.length + 9) ++ inner K N l := by simp [inner]
    have hil : (inner K N l).length = 5 + l.length := by simp [inner, be4_len]; omega
    have hdr : ((byteR (be4 (l.length + 9) ++ inner K N l)).drop 4).take (9 + l.length - 4) = byteR (inner K N l) := by
      rw [byteR_drop, byteR_take]
      congr 1
      rw [List.drop_append_of_le_length (by rw [be4_len]; exact Nat.le_refl _), show (be4 (l.length + 9)).drop 4 = [] from rfl, List.nil_append]
      exact List.take_of_length_le (by rw [hil]; omega)
    rw [hin]
    have hck := checksum_spec (inner K N l) (by rw [hil]; omega)
    have b3 := bytesOf_spec (adSum (inner K N l)) (adSum_lt _)
    refine AQ.fnL [.im (.sl 1 (byteR (inner K N l)))] (by kernel_rfl) rfl rfl rfl (LentAs.cons (LentA.of (by rw [← hdr]; exact Lent.os rfl (by rw [byteR_len, List.length_append, be4_len, hil]; omega))) LentAs.nil) hck rfl (fun _ => rfl) ?_
    simp only [go_sem, Nat.reduceAdd, Nat.reduceLeDiff, Nat.reduceSub, Int.reduceToNat, reduceCtorEq]
    have h4s : (A4 (adSum (inner K N l))).length = 4 := rfl
    refine AQ.fn (by kernel_rfl) rfl rfl rfl (b3) rfl ?_
    repeat (first | refine xA ?_ | refine xB ?_ | refine xC ?_ | refine xE ?_ | refine xD ?_ | refine xK ?_ | refine xS ?_ | refine xM ?_ | refine xT ?_ | refine xF ?_ | ((first | refine xR ?_ | refine xW ?_ | refine vq_id ?_); simp only [go_sem, Nat.reduceAdd, Nat.reduceLeDiff, Nat.reduceSub, Int.reduceToNat, reduceCtorEq, h4s, hr1]) | (refine ⟨by first | omega | (intros; simp_all; done) | (intros; simp_all; omega), ?_⟩; try simp only [go_sem, Nat.reduceAdd, Nat.reduceLeDiff, Nat.reduceSub, Int.reduceToNat, reduceCtorEq, h4s, hr1]))
    refine AQ.appendOG (hnb := rfl) (rows := byteR (be4 (l.length + 9) ++ inner K N l)) (rows' := byteR (be4 (adSum (inner K N l)))) (xs := byteR (be4 (adSum (inner K N l)))) (es := 0) (by kernel_rfl) rfl rfl rfl (Nat.le_refl _) rfl rfl (by rfl) Tryd.tk24 Tryd.sz5 (by show Option.map _ (zro Tryd.prog 5) = _; rw [Tryd.zr5]; rfl) Tryd.by5 (by rw [byteR_len, List.length_append, be4_len, hil]; omega) (by rw [byteR_len, byteR_len, List.length_append, be4_len, be4_len, hil]; omega) (by rw [byteR_len, byteR_len, List.length_append, be4_len, be4_len, hil]; omega) fun el1 => ?_
    repeat (first | refine xA ?_ | refine xB ?_ | refine xC ?_ | refine xE ?_ | refine xD ?_ | refine xK ?_ | refine xS ?_ | refine xM ?_ | refine xT ?_ | refine xF ?_ | ((first | refine xR ?_ | refine xW ?_ | refine vq_id ?_); simp only [go_sem, Nat.reduceAdd, Nat.reduceLeDiff, Nat.reduceSub, Int.reduceToNat, reduceCtorEq]) | (refine ⟨by first | omega | (intros; simp_all; done) | (intros; simp_all; omega), ?_⟩; try simp only [go_sem, Nat.reduceAdd, Nat.reduceLeDiff, Nat.reduceSub, Int.reduceToNat, reduceCtorEq]))
    refine AE.freeze 7 (rows := byteR (be4 (l.length + 9) ++ inner K N l) ++ byteR (be4 (adSum (inner K N l)))) rfl (by simp [go_sem]) (by simp [go_sem]) ?_
    simp only [go_sem, Nat.reduceAdd, Nat.reduceLeDiff, Nat.reduceSub, Int.reduceToNat, reduceCtorEq]
    refine AE.ret0 rfl ⟨rfl, rfl, trivial⟩ rfl ⟨rfl, ?_⟩
    simp only [tupOf, AV.st, frame, Int.toNat_natCast, byteR_append, List.drop_zero, ← List.length_append]
    rw [List.take_of_length_le (by simp [byteR_len]), List.append_assoc]
  · rw [if_neg h0]
    refine ACall.walk [0, 1, 2, 3, 4, 5, 6, 7, 8, 12] [5, 6, 8] Tryd.func8 rfl Tryd.ntmps8 (by kernel_rfl) (by rfl) rfl fun W own I0 φ0 lay => ?_
    repeat (first | refine xA ?_ | refine xB ?_ | refine xC ?_ | refine xE ?_ | refine xD ?_ | refine xK ?_ | refine xS ?_ | refine xM ?_ | refine xT ?_ | refine xF ?_ | ((first | refine xR ?_ | refine xW ?_ | refine vq_id ?_); simp only [go_sem, Nat.reduceAdd, Nat.reduceLeDiff, Nat.reduceSub, Int.reduceToNat, reduceCtorEq]) | (refine ⟨by first | omega | (intros; simp_all; done) | (intros; simp_all; omega), ?_⟩; try simp only [go_sem, Nat.reduceAdd, Nat.reduceLeDiff, Nat.reduceSub, Int.reduceToNat, reduceCtorEq]))
    refine AQ.fn (by kernel_rfl) rfl rfl rfl (hs) rfl ?_
    repeat (first | refine xA ?_ | refine xB ?_ | refine xC ?_ | refine xE ?_ | refine xD ?_ | refine xK ?_ | refine xS ?_ | refine xM ?_ | refine xT ?_ | refine xF ?_ | ((first | refine xR ?_ | refine xW ?_ | refine vq_id ?_); simp only [go_sem, Nat.reduceAdd, Nat.reduceLeDiff, Nat.reduceSub, Int.reduceToNat, reduceCtorEq]) | (refine ⟨by first | omega | (intros; simp_all; done) | (intros; simp_all; omega), ?_⟩; try simp only [go_sem, Nat.reduceAdd, Nat.reduceLeDiff, Nat.reduceSub, Int.reduceToNat, reduceCtorEq]))
    refine AP.cond rfl rfl (fun hc => ?_) (fun hc => ?_)
    · repeat (first | refine xA ?_ | refine xB ?_ | refine xC ?_ | refine xE ?_ | refine xD ?_ | refine xK ?_ | refine xS ?_ | refine xM ?_ | refine xT ?_ | refine xF ?_ | ((first | refine xR ?_ | refine xW ?_ | refine vq_id ?_); simp only [go_sem, Nat.reduceAdd, Nat.reduceLeDiff, Nat.reduceSub, Int.reduceToNat, reduceCtorEq]) | (refine ⟨by first | omega | (intros; simp_all; done) | (intros; simp_all; omega), ?_⟩; try simp only [go_sem, Nat.reduceAdd, Nat.reduceLeDiff, Nat.reduceSub, Int.reduceToNat, reduceCtorEq]))
      exact AE.ret0 rfl ⟨rfl, rfl, trivial⟩ rfl ⟨rfl, rfl⟩
    · simp at hc; exact absurd hc h0
end Go.Proofs.YtlpcdpjkdodmcaaDoor
end

section
namespace Go.Proofs.YtlpcdpjkdodmcaaDoor
open Go Go.AL Go.RowKit
set_option maxRecDepth 10000
set_option maxHeartbeats 4000000
end Go.Proofs.YtlpcdpjkdodmcaaDoor
end

section
namespace Go.Proofs.YtlpcdpjkdodmcaaDoor
open Go Go.AL Go.RowKit Go.Proofs Go.Shelf
set_option maxRecDepth 10000
set_option maxHeartbeats 4000000
end Go.Proofs.YtlpcdpjkdodmcaaDoor
end

section
namespace Go.Proofs.YtlpcdpjkdodmcaaDoor
open Go Go.AL Go.RowKit
set_option maxRecDepth 10000
set_option maxHeartbeats 4000000
end Go.Proofs.YtlpcdpjkdodmcaaDoor
end

section
namespace Go.Proofs.YtlpcdpjkdodmcaaDoor
open Go Go.AL Go.RowKit
set_option maxRecDepth 10000
set_option maxHeartbeats 4000000
abbrev Msg := Int × Int × List UInt8
end Go.Proofs.YtlpcdpjkdodmcaaDoor
end

section
namespace Go.Proofs.YtlpcdpjkdodmcaaDoor
open Go Go.AL Go.RowKit
set_option maxRecDepth 10000
set_option maxHeartbeats 4000000
end Go.Proofs.YtlpcdpjkdodmcaaDoor
end

section
namespace Go.Proofs.YtlpcdpjkdodmcaaDoor
open Go Go.AL Go.RowKit
set_option maxRecDepth 10000
set_option maxHeartbeats 4000000
theorem beq_spec (a b : List UInt8) : PFn Tryd.prog 14 [.im (.sl 1 (byteR a)), .im (.sl 1 (byteR b))] (Bv (a == b)) := by
  have ha := byteR_bytes a
  have hb := byteR_bytes b
  refine ACall.walk [0, 1, 4] [] Tryd.func14 rfl Tryd.ntmps14 (by kernel_rfl) (by rfl) rfl fun W own I0 φ0 lay => ?_
  repeat (first | refine xA ?_ | refine xB ?_ | refine xC ?_ | refine xE ?_ | refine xD ?_ | refine xK ?_ | refine xS ?_ | refine xM ?_ | refine xT ?_ | refine xF ?_ | ((first | refine xR ?_ | refine xW ?_ | refine vq_id ?_); simp only [go_sem, Nat.reduceAdd, Nat.reduceLeDiff, Nat.reduceSub, Int.reduceToNat, reduceCtorEq, Tryd.underlying24, Option.isSome_some, byteR_back]))
  refine ⟨ha, hb, ?_⟩
  repeat (first | refine xA ?_ | refine xB ?_ | refine xC ?_ | refine xE ?_ | refine xD ?_ | refine xK ?_ | refine xS ?_ | refine xM ?_ | refine xT ?_ | refine xF ?_ | ((first | refine xR ?_ | refine xW ?_ | refine vq_id ?_); simp only [go_sem, Nat.reduceAdd, Nat.reduceLeDiff, Nat.reduceSub, Int.reduceToNat, reduceCtorEq]) | (refine ⟨by first | omega | (intros; simp_all; done) | (intros; simp_all; omega), ?_⟩; try simp only [go_sem, Nat.reduceAdd, Nat.reduceLeDiff, Nat.reduceSub, Int.reduceToNat, reduceCtorEq]))
  exact AE.ret0 rfl ⟨rfl, trivial⟩ rfl ⟨rfl, rfl⟩
theorem awake_spec : PFn Tryd.prog 7 [] (Bv true) := by
  have he := encode_spec 6 1 []
  have e1 : encV 6 1 [] = .tup [.im (.sl 1 (byteR [0, 0, 0, 9, 6, 0, 0, 0, 1, 0, 36, 0, 8])), Iv 0] := by
    have h1 : msgE 6 1 [] = 0 := by decide
    have h2 : frame 6 1 [] = [0, 0, 0, 9, 6, 0, 0, 0, 1, 0, 36, 0, 8] := by decide
    unfold encV
    rw [if_pos h1]
    show AV.tup [.im (.sl 1 (byteR (frame 6 1 []))), Iv 0] = _
    rw [h2]
  rw [e1] at he
  have hb := beq_spec [0, 0, 0, 9, 6, 0, 0, 0, 1, 0, 36, 0, 8] [0, 0, 0, 9, 6, 0, 0, 0, 1, 0, 36, 0, 8]
  rw [beq_self_eq_true] at hb
  refine ACall.walk [0, 1, 2] [] Tryd.func7 rfl Tryd.ntmps7 (by kernel_rfl) (by rfl) rfl fun W own I0 φ0 lay => ?_
  repeat (first | refine xA ?_ | refine xB ?_ | refine xC ?_ | refine xE ?_ | refine xD ?_ | refine xK ?_ | refine xS ?_ | refine xM ?_ | refine xT ?_ | refine xF ?_ | ((first | refine xR ?_ | refine xW ?_ | refine vq_id ?_); simp only [go_sem, Nat.reduceAdd, Nat.reduceLeDiff, Nat.reduceSub, Int.reduceToNat, reduceCtorEq]) | (refine ⟨by first | omega | (intros; simp_all; done) | (intros; simp_all; omega), ?_⟩; try simp only [go_sem, Nat.reduceAdd, Nat.reduceLeDiff, Nat.reduceSub, Int.reduceToNat, reduceCtorEq]))
  refine AQ.fn (by kernel_rfl) rfl rfl rfl (he) rfl ?_
  repeat (first | refine xA ?_ | refine xB ?_ | refine xC ?_ | refine xE ?_ | refine xD ?_ | refine xK ?_ | refine xS ?_ | refine xM ?_ | refine xT ?_ | refine xF ?_ | ((first | refine xR ?_ | refine xW ?_ | refine vq_id ?_); simp only [go_sem, Nat.reduceAdd, Nat.reduceLeDiff, Nat.reduceSub, Int.reduceToNat, reduceCtorEq, beq_self_eq_true]) | (refine ⟨by first | omega | (intros; simp_all; done) | (intros; simp_all; omega), ?_⟩; try simp only [go_sem, Nat.reduceAdd, Nat.reduceLeDiff, Nat.reduceSub, Int.reduceToNat, reduceCtorEq, beq_self_eq_true]))
  refine AQ.guard_yes (by simp only [go_sem]) ?_
  refine AQ.go (by kernel_rfl) ?_
  simp only [go_sem, Nat.reduceAdd, Nat.reduceLeDiff, Nat.reduceSub, Int.reduceToNat, reduceCtorEq]
  refine AQ.fn_g (by kernel_rfl) rfl rfl (fun h => by first | (simp [gs, AV.g]; done) | (simp [gs, AV.g, constAV]; done) | (simp [gs, AV.g, constAV, bw] at h ⊢; done) | (simp [gs, AV.g, constAV, bw] at h ⊢; exact h) | (simp [gs, AV.g, constAV, bw] at h ⊢; simp [h]; done) | (simp [bw] at h; done) | (simp [gs, AV.g, bw] at h ⊢; simp [h]; done) | (simp [gs, AV.g, bw] at h ⊢; exact h.1) | (simp [gs, AV.g]; rfl) | (simp [gs, AV.g, bw] at h ⊢; rfl) | (simp [gs, AV.g, bw] at h ⊢; simp [h]; rfl) | (simp [gs, AV.g, bw] at h ⊢; simp_all)) rfl (fun _ => hb) rfl ?_
  repeat (first | refine xA ?_ | refine xB ?_ | refine xC ?_ | refine xE ?_ | refine xD ?_ | refine xK ?_ | refine xS ?_ | refine xM ?_ | refine xT ?_ | refine xF ?_ | ((first | refine xR ?_ | refine xW ?_ | refine vq_id ?_); simp only [go_sem, Nat.reduceAdd, Nat.reduceLeDiff, Nat.reduceSub, Int.reduceToNat, reduceCtorEq]) | (refine ⟨by first | omega | (intros; simp_all; done) | (intros; simp_all; omega), ?_⟩; try simp only [go_sem, Nat.reduceAdd, Nat.reduceLeDiff, Nat.reduceSub, Int.reduceToNat, reduceCtorEq]))
  exact AE.ret0 rfl ⟨rfl, trivial⟩ rfl ⟨rfl, rfl⟩
end Go.Proofs.YtlpcdpjkdodmcaaDoor
end

section
namespace Go.Proofs.YtlpcdpjkdodmcaaDoor
open Go Go.AL Go.RowKit
set_option maxRecDepth 100000
theorem msg_of {n : Nat} {xs : List IV} (h : Typed Tryd.prog n 23 xs) : ∃ m : Msg, xs = [Ii m.1, Ii m.2.1, Si m.2.2] ∧ m.2.2.length < 9223372036854775808 := by
  have hc : Tryd.prog.cellsOf 23 = 3 := by kernel_rfl
  have hc3 : Tryd.prog.cellsOf 3 = 1 := by kernel_rfl
  have hc9 : Tryd.prog.cellsOf 9 = 1 := by kernel_rfl
  obtain ⟨m', hlen, hf⟩ := typed_struct Tryd.underlying23 h
  rw [hc] at hlen
  match xs, hlen with
  | [a, b, c], _ =>
    have f0 := hf 0 _ rfl
    have f1 := hf 1 _ rfl
    have f2 := hf 2 _ rfl
    simp only [hc3, hc9, List.drop_zero, List.take_succ_cons, List.take_zero, List.drop_succ_cons] at f0 f1 f2
    obtain ⟨i0, e0, w0⟩ := typed_int Tryd.underlying3 f0
    obtain ⟨i1, e1, w1⟩ := typed_int Tryd.underlying3 f1
    obtain ⟨s, e2, hs⟩ := typed_str Tryd.underlying9 f2
    cases e0; cases e1; cases e2
    refine ⟨(i0, i1, s.data.toList), congrArg (fun x => [IV.v (Value.int .i64 i0), IV.v (Value.int .i64 i1), IV.v (Value.string x)]) (BA_of s), ?_⟩
    have e : s.size = s.data.size := rfl
    have e2 : s.data.toList.length = s.data.size := Array.length_toList
    unfold maxLen at hs
    show s.data.toList.length < _
    omega
theorem gSyn : Tryd.prog.globalNamed "strconv.ErrSyntax" = some 0 := by kernel_rfl
theorem gRng : Tryd.prog.globalNamed "strconv.ErrRange" = some 1 := by kernel_rfl
theorem gPow : Tryd.prog.globalNamed "internal/strconv.uint64pow10" = some 3 := by kernel_rfl
theorem gSynT : (Tryd.prog.globals[0]?).map (·.type) = some 131 := by kernel_rfl
theorem gRngT : (Tryd.prog.globals[1]?).map (·.type) = some 131 := by kernel_rfl
theorem gPowT : (Tryd.prog.globals[3]?).map (·.type) = some 181 := by kernel_rfl
theorem row177 (u : TypeId) (h : Tryd.prog.typeName? 3 u = some "*errors.errorString") : u = 177 :=
  typeName_ptr_named (nm := "errors.errorString") (by rw [show "*" ++ "errors.errorString" = "*errors.errorString" by decide]; kernel_rfl) (by kernel_rfl) (by decide) u (by rw [show "*" ++ "errors.errorString" = "*errors.errorString" by decide]; exact h)
theorem var_cells {P : Program} {W : World} {n : String} {g : Nat} {cs : Array Value} (hg : P.globalNamed n = some g) (h : W.var? P n = some cs) : g < W.heap.size ∧ ∃ T fz, W.heap[g]? = some (.cells cs T fz) := by
  unfold World.var? at h
  rw [hg, Option.bind_some] at h
  split at h
  · rename_i cs' T fz hh
    cases h
    refine ⟨?_, T, fz, hh⟩
    rcases Nat.lt_or_ge g W.heap.size with h' | h'
    · exact h'
    · rw [Array.getElem?_eq_none h'] at hh; cases hh
  · cases h
theorem vk_of {W : World} (h : laidMet Tryd.prog [("math/bits.deBruijn32tab", Rows.laid_math_bits_deBruijn32tab), ("math/bits.deBruijn64tab", Rows.laid_math_bits_deBruijn64tab), ("internal/strconv.uint64pow10", Rows.laid_internal_strconv_uint64pow10), ("strconv.ErrRange", Rows.laid_strconv_ErrRange), ("strconv.ErrSyntax", Rows.laid_strconv_ErrSyntax)] W) :
    VK Tryd.prog W (fun g => g < W.heap.size) := by
  have h3 := h.tail.tail
  have h4 := h3.tail
  have h5 := h4.tail
  intro x hx g hg
  simp only [laidVars, List.mem_cons, List.not_mem_nil, or_false] at hx
  rcases hx with rfl | rfl | rfl
  · obtain ⟨a, s, hv, _⟩ := laid_sentinel h5 gSyn gSynT Tryd.underlying131 row177 Tryd.underlying177 Tryd.underlying179 rfl rfl Tryd.underlying9 (by kernel_rfl) (by kernel_rfl)
    obtain ⟨h1, T, fz, h2⟩ := var_cells hg hv
    exact ⟨h1, _, h2, _, _, T, fz, rfl⟩
  · obtain ⟨a, s, hv, _⟩ := laid_sentinel h4 gRng gRngT Tryd.underlying131 row177 Tryd.underlying177 Tryd.underlying179 rfl rfl Tryd.underlying9 (by kernel_rfl) (by kernel_rfl)
    obtain ⟨h1, T, fz, h2⟩ := var_cells hg hv
    exact ⟨h1, _, h2, _, _, T, fz, rfl⟩
  · have ht : Lib.TabIs Tryd.prog W "internal/strconv.uint64pow10" .u64 Lib.pow10Tab := Lib.tabIs_of_head (rest := _) gPow gPowT Tryd.underlying181 Tryd.underlying161 (by kernel_rfl) (by kernel_rfl) h3
    obtain ⟨h1, T, fz, h2⟩ := var_cells hg ht
    exact ⟨h1, _, h2, T, fz, rfl⟩
def synS : ByteArray := { data := #[105, 110, 118, 97, 108, 105, 100, 32, 115, 121, 110, 116, 97, 120] }
def rngS : ByteArray := { data := #[118, 97, 108, 117, 101, 32, 111, 117, 116, 32, 111, 102, 32, 114, 97, 110, 103, 101] }
noncomputable def low : Nat := (World.holding Tryd.prog default ⟨#[], #[], []⟩).heap.size
def litCells (d : DataW Unit) : Array Value := match d with
  | .agg l => (l.map fun x => match x with
    | .lit (.int k z) => Value.int k z
    | _ => .nilIface).toArray
  | _ => #[]
def putCells (cs : Array Value) : Obj → Obj
  | .cells _ t frozen => .cells cs t frozen
  | o => o
noncomputable def laidWorld (os : Os) : World :=
  let w0 := World.holding Tryd.prog os ⟨#[.cells #[.string synS] 179, .cells #[.string rngS] 179], #[], []⟩
  { w0 with heap := ((((w0.heap.modify 0 (putCells #[.iface 177 (.pointer (some ⟨low, 0, none⟩))])).modify 1 (putCells #[.iface 177 (.pointer (some ⟨low + 1, 0, none⟩))])).modify 3 (putCells (litCells Rows.laid_internal_strconv_uint64pow10))).modify 4 (putCells (litCells Rows.laid_math_bits_deBruijn32tab))).modify 5 (putCells (litCells Rows.laid_math_bits_deBruijn64tab)) }
end Go.Proofs.YtlpcdpjkdodmcaaDoor
end

section
namespace Go.Proofs.YtlpcdpjkdodmcaaDoor
open Go Go.AL Go.RowKit
set_option maxRecDepth 10000
set_option maxHeartbeats 4000000
@[go_sem] theorem Tryd.eq71 : eqOk Tryd.prog 71 = true := by kernel_rfl
@[go_sem] theorem Tryd.eq67 : eqOk Tryd.prog 67 = true := by kernel_rfl
@[go_sem] theorem Tryd.no30 : nameOk Tryd.prog 30 = true := by kernel_rfl
@[go_sem] theorem Tryd.no23 : nameOk Tryd.prog 23 = true := by kernel_rfl
theorem ACall.told {P : Program} {f : FuncId} {xs : List AV} {H : Heap} {R R' : AV → Heap → Prop} (h : ACall P f xs H R) (hr : ∀ r H', R r H' → ∃ r', R' r' H' ∧ ∀ w φ I v, AV.den w φ I r v → AV.den w φ I r' v) : ACall P f xs H R' :=
  ⟨h.ent, fun w φ I vs hd hR hV => (h.run w φ I vs hd hR hV).mono fun _ _ ⟨r, H', φ', I', v, h1, h2, h3, h4⟩ => by
    obtain ⟨r', hr', hd'⟩ := hr _ _ h1
    exact ⟨r', H', φ', I', v, hr', h2, hd' _ _ _ _ h3, h4⟩⟩
theorem PFn.told {P : Program} {f : FuncId} {xs : List AV} {r r' : AV} (h : PFn P f xs r) (hr : ∀ w φ I v, AV.den w φ I r v → AV.den w φ I r' v) : PFn P f xs r' :=
  ACall.told h fun _ _ ⟨hH, he⟩ => ⟨r', ⟨hH, rfl⟩, by subst he; exact hr⟩
structure Rq where
  n : Int
  k : Int
  b : List UInt8
  c : Bool
  a : Bool
  ak : Int
  an : Int
  ab : List UInt8
def rqC (r : Rq) : List IV := [Ii r.n, Ii r.k, Si r.b, .v (.bool r.c), .v (.bool r.a), Ii r.ak, Ii r.an, Si r.ab]
def rqR (l : List Rq) : List (List IV) := l.map rqC
theorem rqR_len (l : List Rq) : (rqR l).length = l.length := List.length_map ..
theorem rqR_snoc (l : List Rq) (r : Rq) : rqR (l ++ [r]) = rqR l ++ [rqC r] := by simp [rqR]
theorem rqR_get (l : List Rq) (k : Nat) (h : k < l.length) : ∃ r, l[k]? = some r ∧ (rqR l).getD k [] = [Ii r.n, Ii r.k, Si r.b, .v (.bool r.c), .v (.bool r.a), Ii r.ak, Ii r.an, Si r.ab] := by
  refine ⟨l[k], List.getElem?_eq_getElem h, ?_⟩
  rw [List.getD_eq_getElem?_getD, rqR, List.getElem?_map, List.getElem?_eq_getElem h]; rfl
theorem requests_spec (l : List Rq) (hl : l.length ≤ 1000000000) : PFn Tryd.prog 29 [.im (.sl 8 (rqR l))] (.im (.sl 8 (rqR l))) := by
  refine ACall.walk [0, 2, 3, 5, 6, 7, 8, 9] [5] Tryd.func29 rfl Tryd.ntmps29 (by kernel_rfl) (by rfl) rfl fun W own I0 φ0 lay => ?_
  repeat (first | refine xA ?_ | refine xB ?_ | refine xC ?_ | refine xE ?_ | refine xD ?_ | refine xK ?_ | refine xS ?_ | refine xM ?_ | refine xT ?_ | refine xF ?_ | ((first | refine xR ?_ | refine xW ?_ | refine vq_id ?_); simp only [go_sem, Nat.reduceAdd, Nat.reduceLeDiff, Nat.reduceSub, Int.reduceToNat, reduceCtorEq, rqR_len]) | (refine ⟨by first | omega | (intros; simp_all; done) | (intros; simp_all; omega), ?_⟩; try simp only [go_sem, Nat.reduceAdd, Nat.reduceLeDiff, Nat.reduceSub, Int.reduceToNat, reduceCtorEq, rqR_len]))
  refine AP.own 3 71 8 rfl ?_
  simp only [go_sem, Nat.reduceAdd, Nat.reduceLeDiff, Nat.reduceSub, Int.reduceToNat, reduceCtorEq, rqR_len]
  refine AP.loop rfl (α := Nat) (fun k => [(3, .os 0 8 0 k), (6, .im (.sl 8 (rqR l))), (7, Iv l.length), (8, Iv k)]) (fun k => [(0, .vec 71 8 (rqR (l.take k)))]) (fun k => k ≤ l.length) (fun k => l.length - k) 0 (by simp) (by repeat (first | exact Sub.nil _ | refine Sub.cons rfl ?_)) rfl fun k hk => ?_
  have hw := wr (x := (k : Int) + 1) (by omega)
  repeat (first | refine xA ?_ | refine xB ?_ | refine xC ?_ | refine xE ?_ | refine xD ?_ | refine xK ?_ | refine xS ?_ | refine xM ?_ | refine xT ?_ | refine xF ?_ | ((first | refine xR ?_ | refine xW ?_ | refine vq_id ?_); simp only [go_sem, Nat.reduceAdd, Nat.reduceLeDiff, Nat.reduceSub, Int.reduceToNat, reduceCtorEq]) | (refine ⟨by first | omega | (intros; simp_all; done) | (intros; simp_all; omega), ?_⟩; try simp only [go_sem, Nat.reduceAdd, Nat.reduceLeDiff, Nat.reduceSub, Int.reduceToNat, reduceCtorEq]))
  refine AP.cond rfl rfl (fun hc => ?_) (fun hc => ?_)
  · have hk' : k < l.length := by simp at hc; omega
    obtain ⟨r, hm, hg⟩ := rqR_get l k hk'
    have htl : (rqR (l.take k)).length = k := by rw [rqR_len, List.length_take]; omega
    repeat (first | refine xA ?_ | refine xB ?_ | refine xC ?_ | refine xE ?_ | refine xD ?_ | refine xK ?_ | refine xS ?_ | refine xM ?_ | refine xT ?_ | refine xF ?_ | ((first | refine xR ?_ | refine xW ?_ | refine vq_id ?_); simp only [go_sem, Nat.reduceAdd, Nat.reduceLeDiff, Nat.reduceSub, Int.reduceToNat, reduceCtorEq, rqR_len, hg, hw, Int.toNat_natCast, List.map_cons, List.map_nil, List.length_cons, List.length_nil, List.take_succ_cons, List.take_zero, List.drop_zero]) | (refine ⟨by first | omega | (intros; simp_all; done) | (intros; simp_all; omega), ?_⟩; try simp only [go_sem, Nat.reduceAdd, Nat.reduceLeDiff, Nat.reduceSub, Int.reduceToNat, reduceCtorEq, rqR_len, hg, hw, Int.toNat_natCast, List.map_cons, List.map_nil, List.length_cons, List.length_nil, List.take_succ_cons, List.take_zero, List.drop_zero]))
    refine AQ.append (hnb := rfl) (rows := rqR (l.take k)) (es := 7) (by kernel_rfl) rfl rfl rfl (by rfl) Tryd.tk59 Tryd.sz71 (by show Option.map _ (zro Tryd.prog 71) = _; rw [Tryd.zr71]; rfl) Tryd.by71 htl.symm (by rw [htl]; simp only [List.length_cons, List.length_nil]; omega) (by rw [htl]; simp only [List.length_cons, List.length_nil]; omega) ?_
    repeat (first | refine xA ?_ | refine xB ?_ | refine xC ?_ | refine xE ?_ | refine xD ?_ | refine xK ?_ | refine xS ?_ | refine xM ?_ | refine xT ?_ | refine xF ?_ | ((first | refine xR ?_ | refine xW ?_ | refine vq_id ?_); simp only [go_sem, Nat.reduceAdd, Nat.reduceLeDiff, Nat.reduceSub, Int.reduceToNat, reduceCtorEq, hw, htl, List.length_cons, List.length_nil]) | (refine ⟨by first | omega | (intros; simp_all; done) | (intros; simp_all; omega), ?_⟩; try simp only [go_sem, Nat.reduceAdd, Nat.reduceLeDiff, Nat.reduceSub, Int.reduceToNat, reduceCtorEq, hw, htl, List.length_cons, List.length_nil]))
    refine AE.forgets [1] rfl ?_
    simp only [go_sem, Nat.reduceAdd, Nat.reduceLeDiff, Nat.reduceSub, Int.reduceToNat, reduceCtorEq]
    refine AE.round (k + 1) (by omega) (by omega) (by repeat (first | exact Sub.nil _ | refine Sub.cons rfl ?_)) ?_
    rw [List.take_add_one, hm, Option.toList_some, rqR_snoc]
    rfl
  · have hk' : k = l.length := by simp at hc; omega
    have hta : (rqR l).take l.length = rqR l := List.take_of_length_le (by rw [rqR_len]; exact Nat.le_refl _)
    rw [hk', List.take_length]
    repeat (first | refine xA ?_ | refine xB ?_ | refine xC ?_ | refine xE ?_ | refine xD ?_ | refine xK ?_ | refine xS ?_ | refine xM ?_ | refine xT ?_ | refine xF ?_ | ((first | refine xR ?_ | refine xW ?_ | refine vq_id ?_); simp only [go_sem, Nat.reduceAdd, Nat.reduceLeDiff, Nat.reduceSub, Int.reduceToNat, reduceCtorEq]) | (refine ⟨by first | omega | (intros; simp_all; done) | (intros; simp_all; omega), ?_⟩; try simp only [go_sem, Nat.reduceAdd, Nat.reduceLeDiff, Nat.reduceSub, Int.reduceToNat, reduceCtorEq]))
    refine AE.freeze 0 (rows := rqR l) rfl (by simp [go_sem, rqR_len]) (by simp [go_sem, rqR_len]) ?_
    simp only [go_sem, Nat.reduceAdd, Nat.reduceLeDiff, Nat.reduceSub, Int.reduceToNat, reduceCtorEq, List.drop_zero, hta]
    exact AE.ret0 rfl ⟨rfl, trivial⟩ rfl ⟨rfl, rfl⟩
theorem rqeq_spec (l : List Rq) (hl : l.length ≤ 1000000000) : PFn Tryd.prog 28 [.im (.sl 8 (rqR l)), .im (.sl 8 (rqR l))] (Bv true) := by
  refine ACall.walk [0, 1, 4, 5, 10, 12, 13, 14, 24] [] Tryd.func28 rfl Tryd.ntmps28 (by kernel_rfl) (by rfl) rfl fun W own I0 φ0 lay => ?_
  repeat (first | refine xA ?_ | refine xB ?_ | refine xC ?_ | refine xE ?_ | refine xD ?_ | refine xK ?_ | refine xS ?_ | refine xM ?_ | refine xT ?_ | refine xF ?_ | ((first | refine xR ?_ | refine xW ?_ | refine vq_id ?_); simp only [go_sem, Nat.reduceAdd, Nat.reduceLeDiff, Nat.reduceSub, Int.reduceToNat, reduceCtorEq, rqR_len, bne_self_eq_false]) | (refine ⟨by first | omega | (intros; simp_all; done) | (intros; simp_all; omega), ?_⟩; try simp only [go_sem, Nat.reduceAdd, Nat.reduceLeDiff, Nat.reduceSub, Int.reduceToNat, reduceCtorEq, rqR_len, bne_self_eq_false]))
  refine AP.loop rfl (α := Nat) (fun k => [(0, .im (.sl 8 (rqR l))), (1, .im (.sl 8 (rqR l))), (12, Iv l.length), (13, Iv k)]) (fun k => []) (fun k => k ≤ l.length) (fun k => l.length - k) 0 (by simp) (by repeat (first | exact Sub.nil _ | refine Sub.cons rfl ?_)) rfl fun k hk => ?_
  have hw := wr (x := (k : Int) + 1) (by omega)
  repeat (first | refine xA ?_ | refine xB ?_ | refine xC ?_ | refine xE ?_ | refine xD ?_ | refine xK ?_ | refine xS ?_ | refine xM ?_ | refine xT ?_ | refine xF ?_ | ((first | refine xR ?_ | refine xW ?_ | refine vq_id ?_); simp only [go_sem, Nat.reduceAdd, Nat.reduceLeDiff, Nat.reduceSub, Int.reduceToNat, reduceCtorEq]) | (refine ⟨by first | omega | (intros; simp_all; done) | (intros; simp_all; omega), ?_⟩; try simp only [go_sem, Nat.reduceAdd, Nat.reduceLeDiff, Nat.reduceSub, Int.reduceToNat, reduceCtorEq]))
  refine AP.cond rfl rfl (fun hc => ?_) (fun hc => ?_)
  · have hk' : k < l.length := by simp at hc; omega
    obtain ⟨r, hm, hg⟩ := rqR_get l k hk'
    repeat (first | refine xA ?_ | refine xB ?_ | refine xC ?_ | refine xE ?_ | refine xD ?_ | refine xK ?_ | refine xS ?_ | refine xM ?_ | refine xT ?_ | refine xF ?_ | ((first | refine xR ?_ | refine xW ?_ | refine vq_id ?_); simp only [go_sem, Nat.reduceAdd, Nat.reduceLeDiff, Nat.reduceSub, Int.reduceToNat, reduceCtorEq, rqR_len, hg, hw, Int.toNat_natCast, List.map_cons, List.map_nil, List.length_cons, List.length_nil, List.take_succ_cons, List.take_zero, List.drop_succ_cons, List.drop_zero, beq_self_eq_true, Bool.and_self, Bool.not_true]) | (refine ⟨by first | omega | (intros; simp_all; done) | (intros; simp_all; omega), ?_⟩; try simp only [go_sem, Nat.reduceAdd, Nat.reduceLeDiff, Nat.reduceSub, Int.reduceToNat, reduceCtorEq, rqR_len, hg, hw, Int.toNat_natCast, List.map_cons, List.map_nil, List.length_cons, List.length_nil, List.take_succ_cons, List.take_zero, List.drop_succ_cons, List.drop_zero, beq_self_eq_true, Bool.and_self, Bool.not_true]))
    exact AE.round (k + 1) (by omega) (by omega) (by repeat (first | exact Sub.nil _ | refine Sub.cons rfl ?_)) rfl
  · repeat (first | refine xA ?_ | refine xB ?_ | refine xC ?_ | refine xE ?_ | refine xD ?_ | refine xK ?_ | refine xS ?_ | refine xM ?_ | refine xT ?_ | refine xF ?_ | ((first | refine xR ?_ | refine xW ?_ | refine vq_id ?_); simp only [go_sem, Nat.reduceAdd, Nat.reduceLeDiff, Nat.reduceSub, Int.reduceToNat, reduceCtorEq]) | (refine ⟨by first | omega | (intros; simp_all; done) | (intros; simp_all; omega), ?_⟩; try simp only [go_sem, Nat.reduceAdd, Nat.reduceLeDiff, Nat.reduceSub, Int.reduceToNat, reduceCtorEq]))
    exact AE.ret0 rfl ⟨rfl, trivial⟩ rfl ⟨rfl, rfl⟩
theorem copied_spec (l : List Rq) (hl : l.length ≤ 1000000000) : ACall Tryd.prog 47 [.im (.sl 8 (rqR l))] [] (fun r H => r = .os 0 8 0 l.length ∧ H = [(0, .vec 71 8 (rqR l))]) := by
  refine ACall.walk [0, 2] [] Tryd.func47 rfl Tryd.ntmps47 (by kernel_rfl) (by rfl) rfl fun W own I0 φ0 lay => ?_
  repeat (first | refine xA ?_ | refine xB ?_ | refine xC ?_ | refine xE ?_ | refine xD ?_ | refine xK ?_ | refine xS ?_ | refine xM ?_ | refine xT ?_ | refine xF ?_ | ((first | refine xR ?_ | refine xW ?_ | refine vq_id ?_); simp only [go_sem, Nat.reduceAdd, Nat.reduceLeDiff, Nat.reduceSub, Int.reduceToNat, reduceCtorEq]) | (refine ⟨by first | omega | (intros; simp_all; done) | (intros; simp_all; omega), ?_⟩; try simp only [go_sem, Nat.reduceAdd, Nat.reduceLeDiff, Nat.reduceSub, Int.reduceToNat, reduceCtorEq]))
  refine AQ.append (hnb := rfl) (rows := []) (es := 7) (by kernel_rfl) rfl rfl rfl (by rfl) Tryd.tk59 Tryd.sz71 (by show Option.map _ (zro Tryd.prog 71) = _; rw [Tryd.zr71]; rfl) Tryd.by71 rfl (by simp only [rqR_len, List.length_nil]; omega) (by simp only [rqR_len, List.length_nil]; omega) ?_
  repeat (first | refine xA ?_ | refine xB ?_ | refine xC ?_ | refine xE ?_ | refine xD ?_ | refine xK ?_ | refine xS ?_ | refine xM ?_ | refine xT ?_ | refine xF ?_ | ((first | refine xR ?_ | refine xW ?_ | refine vq_id ?_); simp only [go_sem, Nat.reduceAdd, Nat.reduceLeDiff, Nat.reduceSub, Int.reduceToNat, reduceCtorEq, List.nil_append, List.length_nil, rqR_len]) | (refine ⟨by first | omega | (intros; simp_all; done) | (intros; simp_all; omega), ?_⟩; try simp only [go_sem, Nat.reduceAdd, Nat.reduceLeDiff, Nat.reduceSub, Int.reduceToNat, reduceCtorEq, List.nil_append, List.length_nil, rqR_len]))
  exact AE.ret rfl ⟨rfl, trivial⟩ ⟨by simp [tupOf, AV.st], rfl⟩
theorem cloneQ_spec (l : List Rq) (hl : l.length ≤ 1000000000) : ACall Tryd.prog 45 [.im (.sl 8 (rqR l))] [] (fun r H => r = .os 0 8 0 l.length ∧ H = [(0, .vec 67 8 (rqR l))]) := by
  rcases l with _ | ⟨q, l⟩
  · refine ACall.walk [0, 2, 4] [] Tryd.func45 rfl Tryd.ntmps45 (by kernel_rfl) (by rfl) rfl fun W own I0 φ0 lay => ?_
    refine xPP rfl ?_
    refine AP.region rfl (by kernel_rfl) ?_; simp only [go_sem, Nat.reduceAdd, Nat.reduceLeDiff, Nat.reduceSub, Int.reduceToNat, reduceCtorEq]
    refine AQ.done ?_
    refine xEP rfl ?_
    refine AP.regionN 1 rfl (by kernel_rfl) ?_; simp only [go_sem, Nat.reduceAdd, Nat.reduceLeDiff, Nat.reduceSub, Int.reduceToNat, reduceCtorEq]
    refine AQ.isnil (by kernel_rfl) rfl Tryd.tk53 fun b => ?_
    simp only [go_sem, Nat.reduceAdd, Nat.reduceLeDiff, Nat.reduceSub, Int.reduceToNat, reduceCtorEq]
    repeat (first | refine xA ?_ | refine xB ?_ | refine xC ?_ | refine xE ?_ | refine xD ?_ | refine xK ?_ | refine xS ?_ | refine xM ?_ | refine xT ?_ | refine xF ?_ | ((first | refine xR ?_ | refine xW ?_ | refine vq_id ?_); simp only [go_sem, Nat.reduceAdd, Nat.reduceLeDiff, Nat.reduceSub, Int.reduceToNat, reduceCtorEq]) | (refine ⟨by first | omega | (intros; simp_all; done) | (intros; simp_all; omega), ?_⟩; try simp only [go_sem, Nat.reduceAdd, Nat.reduceLeDiff, Nat.reduceSub, Int.reduceToNat, reduceCtorEq]))
    refine AP.cond rfl rfl (fun hb => ?_) (fun hb => ?_)
    · repeat (first | refine xA ?_ | refine xB ?_ | refine xC ?_ | refine xE ?_ | refine xD ?_ | refine xK ?_ | refine xS ?_ | refine xM ?_ | refine xT ?_ | refine xF ?_ | ((first | refine xR ?_ | refine xW ?_ | refine vq_id ?_); simp only [go_sem, Nat.reduceAdd, Nat.reduceLeDiff, Nat.reduceSub, Int.reduceToNat, reduceCtorEq]) | (refine ⟨by first | omega | (intros; simp_all; done) | (intros; simp_all; omega), ?_⟩; try simp only [go_sem, Nat.reduceAdd, Nat.reduceLeDiff, Nat.reduceSub, Int.reduceToNat, reduceCtorEq]))
      refine AE.own 2 67 8 rfl ?_
      simp only [go_sem, Nat.reduceAdd, Nat.reduceLeDiff, Nat.reduceSub, Int.reduceToNat, reduceCtorEq]
      exact AE.ret rfl ⟨rfl, trivial⟩ ⟨by simp [tupOf, AV.st], rfl⟩
    · repeat (first | refine xA ?_ | refine xB ?_ | refine xC ?_ | refine xE ?_ | refine xD ?_ | refine xK ?_ | refine xS ?_ | refine xM ?_ | refine xT ?_ | refine xF ?_ | ((first | refine xR ?_ | refine xW ?_ | refine vq_id ?_); simp only [go_sem, Nat.reduceAdd, Nat.reduceLeDiff, Nat.reduceSub, Int.reduceToNat, reduceCtorEq]) | (refine ⟨by first | omega | (intros; simp_all; done) | (intros; simp_all; omega), ?_⟩; try simp only [go_sem, Nat.reduceAdd, Nat.reduceLeDiff, Nat.reduceSub, Int.reduceToNat, reduceCtorEq]))
      refine AQ.append (hnb := rfl) (rows := []) (es := 7) (by kernel_rfl) rfl rfl rfl (by rfl) Tryd.tk53 Tryd.sz67 (by show Option.map _ (zro Tryd.prog 67) = _; rw [Tryd.zr67]; rfl) Tryd.by67 rfl (by simp only [rqR_len, List.length_nil]; omega) (by simp only [rqR_len, List.length_nil]; omega) ?_
      repeat (first | refine xA ?_ | refine xB ?_ | refine xC ?_ | refine xE ?_ | refine xD ?_ | refine xK ?_ | refine xS ?_ | refine xM ?_ | refine xT ?_ | refine xF ?_ | ((first | refine xR ?_ | refine xW ?_ | refine vq_id ?_); simp only [go_sem, Nat.reduceAdd, Nat.reduceLeDiff, Nat.reduceSub, Int.reduceToNat, reduceCtorEq, List.nil_append, List.length_nil, rqR_len]) | (refine ⟨by first | omega | (intros; simp_all; done) | (intros; simp_all; omega), ?_⟩; try simp only [go_sem, Nat.reduceAdd, Nat.reduceLeDiff, Nat.reduceSub, Int.reduceToNat, reduceCtorEq, List.nil_append, List.length_nil, rqR_len]))
      exact AE.ret rfl ⟨rfl, trivial⟩ ⟨by simp [tupOf, AV.st], rfl⟩
  · have hne : rqR (q :: l) ≠ [] := by simp [rqR]
    refine ACall.walk [0, 2, 4] [] Tryd.func45 rfl Tryd.ntmps45 (by kernel_rfl) (by rfl) rfl fun W own I0 φ0 lay => ?_
    repeat (first | refine xA ?_ | refine xB ?_ | refine xC ?_ | refine xE ?_ | refine xD ?_ | refine xK ?_ | refine xS ?_ | refine xM ?_ | refine xT ?_ | refine xF ?_ | ((first | refine xR ?_ | refine xW ?_ | refine vq_id ?_); simp only [go_sem, Nat.reduceAdd, Nat.reduceLeDiff, Nat.reduceSub, Int.reduceToNat, reduceCtorEq]))
    refine ⟨hne, ?_⟩
    repeat (first | refine xA ?_ | refine xB ?_ | refine xC ?_ | refine xE ?_ | refine xD ?_ | refine xK ?_ | refine xS ?_ | refine xM ?_ | refine xT ?_ | refine xF ?_ | ((first | refine xR ?_ | refine xW ?_ | refine vq_id ?_); simp only [go_sem, Nat.reduceAdd, Nat.reduceLeDiff, Nat.reduceSub, Int.reduceToNat, reduceCtorEq]) | (refine ⟨by first | omega | (intros; simp_all; done) | (intros; simp_all; omega), ?_⟩; try simp only [go_sem, Nat.reduceAdd, Nat.reduceLeDiff, Nat.reduceSub, Int.reduceToNat, reduceCtorEq]))
    refine AQ.append (hnb := rfl) (rows := []) (es := 7) (by kernel_rfl) rfl rfl rfl (by rfl) Tryd.tk53 Tryd.sz67 (by show Option.map _ (zro Tryd.prog 67) = _; rw [Tryd.zr67]; rfl) Tryd.by67 rfl (by simp only [rqR_len, List.length_nil]; omega) (by simp only [rqR_len, List.length_nil]; omega) ?_
    repeat (first | refine xA ?_ | refine xB ?_ | refine xC ?_ | refine xE ?_ | refine xD ?_ | refine xK ?_ | refine xS ?_ | refine xM ?_ | refine xT ?_ | refine xF ?_ | ((first | refine xR ?_ | refine xW ?_ | refine vq_id ?_); simp only [go_sem, Nat.reduceAdd, Nat.reduceLeDiff, Nat.reduceSub, Int.reduceToNat, reduceCtorEq, List.nil_append, List.length_nil, rqR_len]) | (refine ⟨by first | omega | (intros; simp_all; done) | (intros; simp_all; omega), ?_⟩; try simp only [go_sem, Nat.reduceAdd, Nat.reduceLeDiff, Nat.reduceSub, Int.reduceToNat, reduceCtorEq, List.nil_append, List.length_nil, rqR_len]))
    exact AE.ret rfl ⟨rfl, trivial⟩ ⟨by simp [tupOf, AV.st], rfl⟩
end Go.Proofs.YtlpcdpjkdodmcaaDoor
end

section
namespace Go.Proofs.YtlpcdpjkdodmcaaDoor
open Go Go.AL Go.RowKit
set_option maxRecDepth 10000
set_option maxHeartbeats 4000000
theorem client_spec (p w s : Int) (l : List Rq) (hl : l.length ≤ 1000000000) : PFn Tryd.prog 24 [.agg [Iv p, Iv w, Iv s, .im (.sl 8 (rqR l))]] (.agg [Iv p, Iv w, Iv s, .im (.sl 8 (rqR l))]) := by
  refine ACall.walk [0, 1, 2] [2] Tryd.func24 rfl Tryd.ntmps24 (by kernel_rfl) (by rfl) rfl fun W own I0 φ0 lay => ?_
  repeat (first | refine xA ?_ | refine xB ?_ | refine xC ?_ | refine xE ?_ | refine xD ?_ | refine xK ?_ | refine xS ?_ | refine xM ?_ | refine xT ?_ | refine xF ?_ | ((first | refine xR ?_ | refine xW ?_ | refine vq_id ?_); simp only [go_sem, Nat.reduceAdd, Nat.reduceLeDiff, Nat.reduceSub, Int.reduceToNat, reduceCtorEq]) | (refine ⟨by first | omega | (intros; simp_all; done) | (intros; simp_all; omega), ?_⟩; try simp only [go_sem, Nat.reduceAdd, Nat.reduceLeDiff, Nat.reduceSub, Int.reduceToNat, reduceCtorEq]))
  refine AP.drawE 11 (Tree.node [] [0, 1, 2, 3, 4, 5, 6, 7] [8] [Tree.node [0, 1, 2, 3, 4, 5] [9] [10] [Tree.node [] [] [] []]]) (by kernel_rfl) rfl (by kernel_rfl) (by kernel_rfl) ?_
  refine vd_node ?_
  simp only [go_sem, Nat.reduceAdd, Nat.reduceLeDiff, Nat.reduceSub, Int.reduceToNat, reduceCtorEq]
  repeat' (first | with_reducible exact True.intro | with_reducible refine And.intro (by omega) ?_ | with_reducible refine And.intro ?_ ?_ | (refine AQ.nx rfl ?_; simp only [go_sem, Nat.reduceAdd, Nat.reduceLeDiff, Nat.reduceSub, Int.reduceToNat, reduceCtorEq]) | (refine AQ.fn (by kernel_rfl) rfl rfl rfl (requests_spec l hl) rfl ?_; simp only [go_sem, Nat.reduceAdd, Nat.reduceLeDiff, Nat.reduceSub, Int.reduceToNat, reduceCtorEq]) | refine AQ.done ?_ | (refine AQ.go (by kernel_rfl) ?_; simp only [go_sem, Nat.reduceAdd, Nat.reduceLeDiff, Nat.reduceSub, Int.reduceToNat, reduceCtorEq]; repeat (with_reducible refine And.intro (by omega) ?_); refine AQ.nx rfl ?_; simp only [go_sem, Nat.reduceAdd, Nat.reduceLeDiff, Nat.reduceSub, Int.reduceToNat, reduceCtorEq]))
  repeat (first | refine xA ?_ | refine xB ?_ | refine xC ?_ | refine xE ?_ | refine xD ?_ | refine xK ?_ | refine xS ?_ | refine xM ?_ | refine xT ?_ | refine xF ?_ | ((first | refine xR ?_ | refine xW ?_ | refine vq_id ?_); simp only [go_sem, Nat.reduceAdd, Nat.reduceLeDiff, Nat.reduceSub, Int.reduceToNat, reduceCtorEq]) | (refine ⟨by first | omega | (intros; simp_all; done) | (intros; simp_all; omega), ?_⟩; try simp only [go_sem, Nat.reduceAdd, Nat.reduceLeDiff, Nat.reduceSub, Int.reduceToNat, reduceCtorEq]))
  exact AE.retD [0] rfl ⟨⟨rfl, Nat.le_of_ble_eq_true (by kernel_rfl)⟩, trivial⟩ rfl ⟨rfl, rfl⟩
theorem sameClient_spec (p w s : Int) (l : List Rq) (hl : l.length ≤ 1000000000) : PFn Tryd.prog 25 [.agg [Iv p, Iv w, Iv s, .im (.sl 8 (rqR l))], .agg [Iv p, Iv w, Iv s, .im (.sl 8 (rqR l))]] (Bv true) := by
  refine ACall.walk [0, 1, 2, 3, 4] [] Tryd.func25 rfl Tryd.ntmps25 (by kernel_rfl) (by rfl) rfl fun W own I0 φ0 lay => ?_
  repeat (first | refine xA ?_ | refine xB ?_ | refine xC ?_ | refine xE ?_ | refine xD ?_ | refine xK ?_ | refine xS ?_ | refine xM ?_ | refine xT ?_ | refine xF ?_ | ((first | refine xR ?_ | refine xW ?_ | refine vq_id ?_); simp only [go_sem, Nat.reduceAdd, Nat.reduceLeDiff, Nat.reduceSub, Int.reduceToNat, reduceCtorEq, beq_self_eq_true, Bool.and_self]) | (refine ⟨by first | omega | (intros; simp_all; done) | (intros; simp_all; omega), ?_⟩; try simp only [go_sem, Nat.reduceAdd, Nat.reduceLeDiff, Nat.reduceSub, Int.reduceToNat, reduceCtorEq, beq_self_eq_true, Bool.and_self]))
  refine AQ.fn_g (by kernel_rfl) rfl rfl (fun h => by first | (simp [gs, AV.g]; done) | (simp [gs, AV.g, constAV]; done) | (simp [gs, AV.g, constAV, bw] at h ⊢; done) | (simp [gs, AV.g, constAV, bw] at h ⊢; exact h) | (simp [gs, AV.g, constAV, bw] at h ⊢; simp [h]; done) | (simp [bw] at h; done) | (simp [gs, AV.g, bw] at h ⊢; simp [h]; done) | (simp [gs, AV.g, bw] at h ⊢; exact h.1) | (simp [gs, AV.g]; rfl) | (simp [gs, AV.g, bw] at h ⊢; rfl) | (simp [gs, AV.g, bw] at h ⊢; simp [h]; rfl) | (simp [gs, AV.g, bw] at h ⊢; simp_all)) rfl (fun _ => rqeq_spec l hl) rfl ?_
  repeat (first | refine xA ?_ | refine xB ?_ | refine xC ?_ | refine xE ?_ | refine xD ?_ | refine xK ?_ | refine xS ?_ | refine xM ?_ | refine xT ?_ | refine xF ?_ | ((first | refine xR ?_ | refine xW ?_ | refine vq_id ?_); simp only [go_sem, Nat.reduceAdd, Nat.reduceLeDiff, Nat.reduceSub, Int.reduceToNat, reduceCtorEq]) | (refine ⟨by first | omega | (intros; simp_all; done) | (intros; simp_all; omega), ?_⟩; try simp only [go_sem, Nat.reduceAdd, Nat.reduceLeDiff, Nat.reduceSub, Int.reduceToNat, reduceCtorEq]))
  exact AE.ret0 rfl ⟨rfl, trivial⟩ rfl ⟨rfl, rfl⟩
theorem byeQ_spec (r : Rq) : PFn Tryd.prog 88 [.agg [Iv r.n, Iv r.k, Sv r.b, Bv r.c, Bv r.a, Iv r.ak, Iv r.an, Sv r.ab]] (Bv (decide (r.k = 6))) := by
  refine ACall.walk [0, 1, 2] [] Tryd.func88 rfl Tryd.ntmps88 (by kernel_rfl) (by rfl) rfl fun W own I0 φ0 lay => ?_
  repeat (first | refine xA ?_ | refine xB ?_ | refine xC ?_ | refine xE ?_ | refine xD ?_ | refine xK ?_ | refine xS ?_ | refine xM ?_ | refine xT ?_ | refine xF ?_ | ((first | refine xR ?_ | refine xW ?_ | refine vq_id ?_); simp only [go_sem, Nat.reduceAdd, Nat.reduceLeDiff, Nat.reduceSub, Int.reduceToNat, reduceCtorEq]) | (refine ⟨by first | omega | (intros; simp_all; done) | (intros; simp_all; omega), ?_⟩; try simp only [go_sem, Nat.reduceAdd, Nat.reduceLeDiff, Nat.reduceSub, Int.reduceToNat, reduceCtorEq]))
  exact AE.ret0 rfl ⟨rfl, trivial⟩ rfl ⟨rfl, by simp only [tupOf, AV.st]; rw [Bool.beq_eq_decide_eq]⟩
def kAt (l : List Rq) (i : Nat) : Int := ((l[i]?).map (·.k)).getD 0
theorem kAt_eq {l : List Rq} {i : Nat} {r : Rq} (h : l[i]? = some r) : kAt l i = r.k := by simp [kAt, h]
theorem bye_index (l : List Rq) (hl : l.length ≤ 1000000000) : ACall Tryd.prog 55 [.im (.sl 8 (rqR l)), .fn 88 [] []] [] (fun r H => H = [] ∧ ∃ i : Int, r = Iv i ∧ ((i = -1 ∧ ∀ j, j < l.length → kAt l j ≠ 6) ∨ ∃ j : Nat, i = j ∧ j < l.length ∧ kAt l j = 6 ∧ ∀ k, k < j → kAt l k ≠ 6)) := by
  refine ACall.walk [0, 1, 4, 5, 7, 8, 9, 16] [] Tryd.func55 rfl Tryd.ntmps55 (by kernel_rfl) (by rfl) rfl fun W own I0 φ0 lay => ?_
  repeat (first | refine xA ?_ | refine xB ?_ | refine xC ?_ | refine xE ?_ | refine xD ?_ | refine xK ?_ | refine xS ?_ | refine xM ?_ | refine xT ?_ | refine xF ?_ | ((first | refine xR ?_ | refine xW ?_ | refine vq_id ?_); simp only [go_sem, Nat.reduceAdd, Nat.reduceLeDiff, Nat.reduceSub, Int.reduceToNat, reduceCtorEq, rqR_len]) | (refine ⟨by first | omega | (intros; simp_all; done) | (intros; simp_all; omega), ?_⟩; try simp only [go_sem, Nat.reduceAdd, Nat.reduceLeDiff, Nat.reduceSub, Int.reduceToNat, reduceCtorEq, rqR_len]))
  refine AP.loop rfl (α := Nat) (fun k => [(0, .im (.sl 8 (rqR l))), (1, .fn 88 [] []), (7, Iv l.length), (8, Iv k)]) (fun k => []) (fun k => k ≤ l.length ∧ ∀ j, j < k → kAt l j ≠ 6) (fun k => l.length - k) 0 (by simp) (by repeat (first | exact Sub.nil _ | refine Sub.cons rfl ?_)) rfl fun k ⟨hk, hkl⟩ => ?_
  have hw := wr (x := (k : Int) + 1) (by omega)
  repeat (first | refine xA ?_ | refine xB ?_ | refine xC ?_ | refine xE ?_ | refine xD ?_ | refine xK ?_ | refine xS ?_ | refine xM ?_ | refine xT ?_ | refine xF ?_ | ((first | refine xR ?_ | refine xW ?_ | refine vq_id ?_); simp only [go_sem, Nat.reduceAdd, Nat.reduceLeDiff, Nat.reduceSub, Int.reduceToNat, reduceCtorEq]) | (refine ⟨by first | omega | (intros; simp_all; done) | (intros; simp_all; omega), ?_⟩; try simp only [go_sem, Nat.reduceAdd, Nat.reduceLeDiff, Nat.reduceSub, Int.reduceToNat, reduceCtorEq]))
  refine AP.cond rfl rfl (fun hc => ?_) (fun hc => ?_)
  · have hk' : k < l.length := by simp at hc; omega
    obtain ⟨r, hm, hg⟩ := rqR_get l k hk'
    have hsp := byeQ_spec r
    obtain ⟨v, hv⟩ : ∃ v, decide (r.k = 6) = v := ⟨_, rfl⟩
    rw [hv] at hsp
    repeat (first | refine xA ?_ | refine xB ?_ | refine xC ?_ | refine xE ?_ | refine xD ?_ | refine xK ?_ | refine xS ?_ | refine xM ?_ | refine xT ?_ | refine xF ?_ | ((first | refine xR ?_ | refine xW ?_ | refine vq_id ?_); simp only [go_sem, Nat.reduceAdd, Nat.reduceLeDiff, Nat.reduceSub, Int.reduceToNat, reduceCtorEq, rqR_len, hg, hw, Int.toNat_natCast, List.map_cons, List.map_nil, List.length_cons, List.length_nil, List.take_succ_cons, List.take_zero, List.drop_zero]) | (refine ⟨by first | omega | (intros; simp_all; done) | (intros; simp_all; omega), ?_⟩; try simp only [go_sem, Nat.reduceAdd, Nat.reduceLeDiff, Nat.reduceSub, Int.reduceToNat, reduceCtorEq, rqR_len, hg, hw, Int.toNat_natCast, List.map_cons, List.map_nil, List.length_cons, List.length_nil, List.take_succ_cons, List.take_zero, List.drop_zero]))
    refine AQ.fnL ([.agg [Iv r.n, Iv r.k, Sv r.b, Bv r.c, Bv r.a, Iv r.ak, Iv r.an, Sv r.ab]]) (by kernel_rfl) rfl rfl rfl (by ((try simp only [List.nil_append, List.append_nil, List.cons_append, List.map_cons, List.map_nil, AV.st, constAV]); repeat (first | with_reducible exact LentC.nil | with_reducible exact LentAs.nil | with_reducible refine LentC.cons ?_ ?_ | with_reducible refine LentAs.cons ?_ ?_ | with_reducible exact Lent.im _ | with_reducible exact LentA.im _ | with_reducible refine LentA.of ?_ | with_reducible refine LentA.agg ?_ | ((with_reducible apply Lent.osw); rfl; simp only [blkR_len, wrR_len, byteR_len, List.length_append, List.length_cons, List.length_nil]) | ((with_reducible apply Lent.ob0); rfl)))) (hsp) rfl (fun _ => rfl) ?_
    repeat (first | refine xA ?_ | refine xB ?_ | refine xC ?_ | refine xE ?_ | refine xD ?_ | refine xK ?_ | refine xS ?_ | refine xM ?_ | refine xT ?_ | refine xF ?_ | ((first | refine xR ?_ | refine xW ?_ | refine vq_id ?_); simp only [go_sem, Nat.reduceAdd, Nat.reduceLeDiff, Nat.reduceSub, Int.reduceToNat, reduceCtorEq]) | (refine ⟨by first | omega | (intros; simp_all; done) | (intros; simp_all; omega), ?_⟩; try simp only [go_sem, Nat.reduceAdd, Nat.reduceLeDiff, Nat.reduceSub, Int.reduceToNat, reduceCtorEq]))
    refine AP.cond rfl rfl (fun hv2 => ?_) (fun hv2 => ?_)
    · subst hv2
      repeat (first | refine xA ?_ | refine xB ?_ | refine xC ?_ | refine xE ?_ | refine xD ?_ | refine xK ?_ | refine xS ?_ | refine xM ?_ | refine xT ?_ | refine xF ?_ | ((first | refine xR ?_ | refine xW ?_ | refine vq_id ?_); simp only [go_sem, Nat.reduceAdd, Nat.reduceLeDiff, Nat.reduceSub, Int.reduceToNat, reduceCtorEq]) | (refine ⟨by first | omega | (intros; simp_all; done) | (intros; simp_all; omega), ?_⟩; try simp only [go_sem, Nat.reduceAdd, Nat.reduceLeDiff, Nat.reduceSub, Int.reduceToNat, reduceCtorEq]))
      refine AE.ret0 rfl ⟨rfl, trivial⟩ rfl ⟨rfl, _, rfl, .inr ⟨k, rfl, hk', ?_, hkl⟩⟩
      rw [kAt_eq hm]; simpa using hv
    · subst hv2
      repeat (first | refine xA ?_ | refine xB ?_ | refine xC ?_ | refine xE ?_ | refine xD ?_ | refine xK ?_ | refine xS ?_ | refine xM ?_ | refine xT ?_ | refine xF ?_ | ((first | refine xR ?_ | refine xW ?_ | refine vq_id ?_); simp only [go_sem, Nat.reduceAdd, Nat.reduceLeDiff, Nat.reduceSub, Int.reduceToNat, reduceCtorEq, hw]) | (refine ⟨by first | omega | (intros; simp_all; done) | (intros; simp_all; omega), ?_⟩; try simp only [go_sem, Nat.reduceAdd, Nat.reduceLeDiff, Nat.reduceSub, Int.reduceToNat, reduceCtorEq, hw]))
      refine AE.round (k + 1) ⟨by omega, fun j hj => ?_⟩ (by omega) (by repeat (first | exact Sub.nil _ | refine Sub.cons rfl ?_)) rfl
      by_cases h : j = k
      · subst h; rw [kAt_eq hm]; simpa using hv
      · exact hkl j (by omega)
  · have hk' : k = l.length := by simp at hc; omega
    rw [hk'] at hkl
    repeat (first | refine xA ?_ | refine xB ?_ | refine xC ?_ | refine xE ?_ | refine xD ?_ | refine xK ?_ | refine xS ?_ | refine xM ?_ | refine xT ?_ | refine xF ?_ | ((first | refine xR ?_ | refine xW ?_ | refine vq_id ?_); simp only [go_sem, Nat.reduceAdd, Nat.reduceLeDiff, Nat.reduceSub, Int.reduceToNat, reduceCtorEq]) | (refine ⟨by first | omega | (intros; simp_all; done) | (intros; simp_all; omega), ?_⟩; try simp only [go_sem, Nat.reduceAdd, Nat.reduceLeDiff, Nat.reduceSub, Int.reduceToNat, reduceCtorEq]))
    exact AE.ret0 rfl ⟨rfl, trivial⟩ rfl ⟨rfl, _, rfl, .inl ⟨rfl, hkl⟩⟩
def byesB (p : Int) (l : List Rq) : Bool :=
  if p = 1 then decide (∀ i, i < l.length → kAt l i ≠ 6) else if p = 2 then decide (0 < l.length ∧ kAt l (l.length - 1) = 6 ∧ ∀ i, i < l.length - 1 → kAt l i ≠ 6) else decide (l.length = 0)
theorem byes_spec (p : Int) (l : List Rq) (hl : l.length ≤ 1000000000) : PFn Tryd.prog 71 [.im (.sl 8 (rqR l)), Iv p] (Bv (byesB p l)) := by
  refine ACall.walk [0, 1, 4, 5, 8, 9, 13] [] Tryd.func71 rfl Tryd.ntmps71 (by kernel_rfl) (by rfl) rfl fun W own I0 φ0 lay => ?_
  repeat (first | refine xA ?_ | refine xB ?_ | refine xC ?_ | refine xE ?_ | refine xD ?_ | refine xK ?_ | refine xS ?_ | refine xM ?_ | refine xT ?_ | refine xF ?_ | ((first | refine xR ?_ | refine xW ?_ | refine vq_id ?_); simp only [go_sem, Nat.reduceAdd, Nat.reduceLeDiff, Nat.reduceSub, Int.reduceToNat, reduceCtorEq]) | (refine ⟨by first | omega | (intros; simp_all; done) | (intros; simp_all; omega), ?_⟩; try simp only [go_sem, Nat.reduceAdd, Nat.reduceLeDiff, Nat.reduceSub, Int.reduceToNat, reduceCtorEq]))
  refine AQ.call (by kernel_rfl) rfl rfl rfl (bye_index l hl) (fun r H ⟨h1, i, h2, h3⟩ => ⟨h1, by rw [h2]; rfl⟩) fun r ⟨_, i, h2, h3⟩ => ?_
  subst h2
  repeat (first | refine xA ?_ | refine xB ?_ | refine xC ?_ | refine xE ?_ | refine xD ?_ | refine xK ?_ | refine xS ?_ | refine xM ?_ | refine xT ?_ | refine xF ?_ | ((first | refine xR ?_ | refine xW ?_ | refine vq_id ?_); simp only [go_sem, Nat.reduceAdd, Nat.reduceLeDiff, Nat.reduceSub, Int.reduceToNat, reduceCtorEq]) | (refine ⟨by first | omega | (intros; simp_all; done) | (intros; simp_all; omega), ?_⟩; try simp only [go_sem, Nat.reduceAdd, Nat.reduceLeDiff, Nat.reduceSub, Int.reduceToNat, reduceCtorEq]))
  refine AP.cond rfl rfl (fun hc => ?_) (fun hc => ?_)
  · have hp : p = 1 := by simpa using hc
    repeat (first | refine xA ?_ | refine xB ?_ | refine xC ?_ | refine xE ?_ | refine xD ?_ | refine xK ?_ | refine xS ?_ | refine xM ?_ | refine xT ?_ | refine xF ?_ | ((first | refine xR ?_ | refine xW ?_ | refine vq_id ?_); simp only [go_sem, Nat.reduceAdd, Nat.reduceLeDiff, Nat.reduceSub, Int.reduceToNat, reduceCtorEq]) | (refine ⟨by first | omega | (intros; simp_all; done) | (intros; simp_all; omega), ?_⟩; try simp only [go_sem, Nat.reduceAdd, Nat.reduceLeDiff, Nat.reduceSub, Int.reduceToNat, reduceCtorEq]))
    refine AE.ret0 rfl ⟨rfl, trivial⟩ rfl ⟨rfl, ?_⟩
    simp only [tupOf, AV.st]
    rw [byesB, if_pos hp]
    congr 4
    refine propext ⟨fun h => ?_, fun h => ?_⟩
    · rcases h3 with ⟨_, h3⟩ | ⟨j, h3, _⟩
      · exact h3
      · omega
    · rcases h3 with ⟨h3, _⟩ | ⟨j, h3, h4, h5, _⟩
      · omega
      · exact absurd h5 (h j h4)
  have hp1 : p ≠ 1 := by simpa using hc
  repeat (first | refine xA ?_ | refine xB ?_ | refine xC ?_ | refine xE ?_ | refine xD ?_ | refine xK ?_ | refine xS ?_ | refine xM ?_ | refine xT ?_ | refine xF ?_ | ((first | refine xR ?_ | refine xW ?_ | refine vq_id ?_); simp only [go_sem, Nat.reduceAdd, Nat.reduceLeDiff, Nat.reduceSub, Int.reduceToNat, reduceCtorEq]) | (refine ⟨by first | omega | (intros; simp_all; done) | (intros; simp_all; omega), ?_⟩; try simp only [go_sem, Nat.reduceAdd, Nat.reduceLeDiff, Nat.reduceSub, Int.reduceToNat, reduceCtorEq]))
  refine AP.cond rfl rfl (fun hc2 => ?_) (fun hc2 => ?_)
  · have hp : p = 2 := by simpa using hc2
    have hw := wr (x := (l.length : Int) - 1) (by omega)
    repeat (first | refine xA ?_ | refine xB ?_ | refine xC ?_ | refine xE ?_ | refine xD ?_ | refine xK ?_ | refine xS ?_ | refine xM ?_ | refine xT ?_ | refine xF ?_ | ((first | refine xR ?_ | refine xW ?_ | refine vq_id ?_); simp only [go_sem, Nat.reduceAdd, Nat.reduceLeDiff, Nat.reduceSub, Int.reduceToNat, reduceCtorEq, rqR_len, hw]) | (refine ⟨by first | omega | (intros; simp_all; done) | (intros; simp_all; omega), ?_⟩; try simp only [go_sem, Nat.reduceAdd, Nat.reduceLeDiff, Nat.reduceSub, Int.reduceToNat, reduceCtorEq, rqR_len, hw]))
    refine AE.ret0 rfl ⟨rfl, trivial⟩ rfl ⟨rfl, ?_⟩
    simp only [tupOf, AV.st]
    rw [byesB, if_neg hp1, if_pos hp]
    have e : (decide (0 ≤ i) && i == (l.length : Int) - 1) = decide (0 < l.length ∧ kAt l (l.length - 1) = 6 ∧ ∀ i, i < l.length - 1 → kAt l i ≠ 6) := by
      rw [Bool.eq_iff_iff]
      simp only [Bool.and_eq_true, decide_eq_true_eq, beq_iff_eq]
      constructor
      · rintro ⟨h1, h2⟩
        rcases h3 with ⟨h3, _⟩ | ⟨j, h3, h4, h5, h6⟩
        · omega
        · have : j = l.length - 1 := by omega
          subst this
          exact ⟨by omega, h5, h6⟩
      · rintro ⟨h1, h2, h6⟩
        rcases h3 with ⟨h3, h4⟩ | ⟨j, h3, h4, h5, h7⟩
        · exact absurd h2 (h4 _ (by omega))
        · rcases Nat.lt_trichotomy j (l.length - 1) with h | h | h
          · exact absurd h5 (h6 j h)
          · omega
          · omega
    rw [e]
  have hp2 : p ≠ 2 := by simpa using hc2
  repeat (first | refine xA ?_ | refine xB ?_ | refine xC ?_ | refine xE ?_ | refine xD ?_ | refine xK ?_ | refine xS ?_ | refine xM ?_ | refine xT ?_ | refine xF ?_ | ((first | refine xR ?_ | refine xW ?_ | refine vq_id ?_); simp only [go_sem, Nat.reduceAdd, Nat.reduceLeDiff, Nat.reduceSub, Int.reduceToNat, reduceCtorEq, rqR_len]) | (refine ⟨by first | omega | (intros; simp_all; done) | (intros; simp_all; omega), ?_⟩; try simp only [go_sem, Nat.reduceAdd, Nat.reduceLeDiff, Nat.reduceSub, Int.reduceToNat, reduceCtorEq, rqR_len]))
  refine AE.ret0 rfl ⟨rfl, trivial⟩ rfl ⟨rfl, ?_⟩
  simp only [tupOf, AV.st]
  rw [byesB, if_neg hp1, if_neg hp2]
  have e : ((l.length : Int) == 0) = decide (l.length = 0) := by
    rw [Bool.eq_iff_iff]
    simp only [decide_eq_true_eq, beq_iff_eq]
    omega
  rw [e]
theorem message_spec (r : Rq) : PFn Tryd.prog 72 [.agg [Iv r.n, Iv r.k, Sv r.b, Bv r.c, Bv r.a, Iv r.ak, Iv r.an, Sv r.ab]] (.agg [Iv r.k, Iv r.n, Sv r.b]) := by
  refine ACall.walk [0, 1, 2] [2] Tryd.func72 rfl Tryd.ntmps72 (by kernel_rfl) (by rfl) rfl fun W own I0 φ0 lay => ?_
  repeat (first | refine xA ?_ | refine xB ?_ | refine xC ?_ | refine xE ?_ | refine xD ?_ | refine xK ?_ | refine xS ?_ | refine xM ?_ | refine xT ?_ | refine xF ?_ | ((first | refine xR ?_ | refine xW ?_ | refine vq_id ?_); simp only [go_sem, Nat.reduceAdd, Nat.reduceLeDiff, Nat.reduceSub, Int.reduceToNat, reduceCtorEq]) | (refine ⟨by first | omega | (intros; simp_all; done) | (intros; simp_all; omega), ?_⟩; try simp only [go_sem, Nat.reduceAdd, Nat.reduceLeDiff, Nat.reduceSub, Int.reduceToNat, reduceCtorEq]))
  exact AE.retD [0] rfl ⟨⟨rfl, Nat.le_of_ble_eq_true (by kernel_rfl)⟩, trivial⟩ rfl ⟨rfl, rfl⟩
def plainR (r : Rq) : Prop := r.c = false ∧ r.a = false ∧ r.ak = 0 ∧ r.an = 0 ∧ r.ab = []
def rowOk (w s : Int) (n i : Nat) (r : Rq) : Prop := plainR r ∧ r.k ≤ 6 ∧ msgE r.k r.n r.b = 0 ∧ r.n = s - n + 1 + i ∧ ¬ (r.k = 1 ∧ 0 < w)
def headP (p w s : Int) : Prop := (0 ≤ p ∧ p ≤ 3) ∧ (0 ≤ w ∧ w ≤ 16) ∧ 0 ≤ s ∧ s ≤ 2147483647
def okP (p w s : Int) (l : List Rq) : Prop :=
  headP p w s ∧ byesB p l = true ∧ (∀ i r, l[i]? = some r → rowOk w s l.length i r) ∧ if p = 0 then w = 0 ∧ s = 0 else s ≠ 0 ∧ if w = 0 then s = 1 ∧ l.length = 1 ∧ kAt l 0 = 1 ∧ p = 1 else l.length ≤ w
noncomputable def okC (p w s : Int) (l : List Rq) : Bool := @decide (okP p w s l) (Classical.propDecidable _)
theorem okC_iff (p w s : Int) (l : List Rq) : okC p w s l = true ↔ okP p w s l := @decide_eq_true_iff _ (Classical.propDecidable _)
theorem okC_not {p w s : Int} {l : List Rq} (h : ¬ okP p w s l) : okC p w s l = false := by
  rw [← Bool.not_eq_true, okC_iff]; exact h
theorem okC_eq {p w s : Int} {l : List Rq} {b : Bool} (h : b = true ↔ okP p w s l) : b = okC p w s l := by
  rw [Bool.eq_iff_iff, okC_iff]; exact h
theorem valid_spec (p w s : Int) (l : List Rq) (hl : l.length ≤ 1000000000) : PFn Tryd.prog 44 [.agg [Iv p, Iv w, Iv s, .im (.sl 8 (rqR l))]] (Bv (okC p w s l)) := by
  obtain ⟨b, hb⟩ : ∃ b, (decide (p < 0) || decide (3 < p) || decide (w < 0) || decide (16 < w) || decide (s < 0) || decide (2147483647 < s)) = b := ⟨_, rfl⟩
  cases b with
  | true =>
    have hn : okC p w s l = false := okC_not fun h => by
      have := h.1
      unfold headP at this
      simp only [Bool.or_eq_true, decide_eq_true_eq] at hb
      omega
    rw [hn]
    refine ACall.walk [0, 1, 2, 3, 4, 5, 41, 43, 44, 45, 46, 94, 96, 108, 112] [4, 5] Tryd.func44 rfl Tryd.ntmps44 (by kernel_rfl) (by rfl) rfl fun W own I0 φ0 lay => ?_
    repeat (first | refine xA ?_ | refine xB ?_ | refine xC ?_ | refine xE ?_ | refine xD ?_ | refine xK ?_ | refine xS ?_ | refine xM ?_ | refine xT ?_ | refine xF ?_ | ((first | refine xR ?_ | refine xW ?_ | refine vq_id ?_); simp only [go_sem, Nat.reduceAdd, Nat.reduceLeDiff, Nat.reduceSub, Int.reduceToNat, reduceCtorEq, hb]) | (refine ⟨by first | omega | (intros; simp_all; done) | (intros; simp_all; omega), ?_⟩; try simp only [go_sem, Nat.reduceAdd, Nat.reduceLeDiff, Nat.reduceSub, Int.reduceToNat, reduceCtorEq, hb]))
    exact AE.ret0 rfl ⟨rfl, trivial⟩ rfl ⟨rfl, rfl⟩
  | false =>
    have hh : headP p w s := by
      unfold headP
      simp only [Bool.or_eq_false_iff, decide_eq_false_iff_not] at hb
      omega
    have hh' := hh
    unfold headP at hh'
    refine ACall.walk [0, 1, 2, 3, 4, 5, 41, 43, 44, 45, 46, 94, 96, 108, 112] [4, 5] Tryd.func44 rfl Tryd.ntmps44 (by kernel_rfl) (by rfl) rfl fun W own I0 φ0 lay => ?_
    repeat (first | refine xA ?_ | refine xB ?_ | refine xC ?_ | refine xE ?_ | refine xD ?_ | refine xK ?_ | refine xS ?_ | refine xM ?_ | refine xT ?_ | refine xF ?_ | ((first | refine xR ?_ | refine xW ?_ | refine vq_id ?_); simp only [go_sem, Nat.reduceAdd, Nat.reduceLeDiff, Nat.reduceSub, Int.reduceToNat, reduceCtorEq, hb]) | (refine ⟨by first | omega | (intros; simp_all; done) | (intros; simp_all; omega), ?_⟩; try simp only [go_sem, Nat.reduceAdd, Nat.reduceLeDiff, Nat.reduceSub, Int.reduceToNat, reduceCtorEq, hb]))
    refine AQ.guard_yes (by simp only [go_sem]) ?_
    refine AQ.fn_g (by kernel_rfl) rfl rfl (fun h => by first | (simp [gs, AV.g]; done) | (simp [gs, AV.g, constAV]; done) | (simp [gs, AV.g, constAV, bw] at h ⊢; done) | (simp [gs, AV.g, constAV, bw] at h ⊢; exact h) | (simp [gs, AV.g, constAV, bw] at h ⊢; simp [h]; done) | (simp [bw] at h; done) | (simp [gs, AV.g, bw] at h ⊢; simp [h]; done) | (simp [gs, AV.g, bw] at h ⊢; exact h.1) | (simp [gs, AV.g]; rfl) | (simp [gs, AV.g, bw] at h ⊢; rfl) | (simp [gs, AV.g, bw] at h ⊢; simp [h]; rfl) | (simp [gs, AV.g, bw] at h ⊢; simp_all)) rfl (fun _ => byes_spec p l hl) rfl ?_
    repeat (first | refine xA ?_ | refine xB ?_ | refine xC ?_ | refine xE ?_ | refine xD ?_ | refine xK ?_ | refine xS ?_ | refine xM ?_ | refine xT ?_ | refine xF ?_ | ((first | refine xR ?_ | refine xW ?_ | refine vq_id ?_); simp only [go_sem, Nat.reduceAdd, Nat.reduceLeDiff, Nat.reduceSub, Int.reduceToNat, reduceCtorEq, hb]) | (refine ⟨by first | omega | (intros; simp_all; done) | (intros; simp_all; omega), ?_⟩; try simp only [go_sem, Nat.reduceAdd, Nat.reduceLeDiff, Nat.reduceSub, Int.reduceToNat, reduceCtorEq, hb]))
    refine AP.cond rfl rfl (fun hby => ?_) (fun hby => ?_)
    · rw [okC_not fun h => by rw [h.2.1] at hby; cases hby]
      repeat (first | refine xA ?_ | refine xB ?_ | refine xC ?_ | refine xE ?_ | refine xD ?_ | refine xK ?_ | refine xS ?_ | refine xM ?_ | refine xT ?_ | refine xF ?_ | ((first | refine xR ?_ | refine xW ?_ | refine vq_id ?_); simp only [go_sem, Nat.reduceAdd, Nat.reduceLeDiff, Nat.reduceSub, Int.reduceToNat, reduceCtorEq]) | (refine ⟨by first | omega | (intros; simp_all; done) | (intros; simp_all; omega), ?_⟩; try simp only [go_sem, Nat.reduceAdd, Nat.reduceLeDiff, Nat.reduceSub, Int.reduceToNat, reduceCtorEq]))
      exact AE.ret0 rfl ⟨rfl, trivial⟩ rfl ⟨rfl, rfl⟩
    have hby' : byesB p l = true := by simpa using hby
    repeat (first | refine xA ?_ | refine xB ?_ | refine xC ?_ | refine xE ?_ | refine xD ?_ | refine xK ?_ | refine xS ?_ | refine xM ?_ | refine xT ?_ | refine xF ?_ | ((first | refine xR ?_ | refine xW ?_ | refine vq_id ?_); simp only [go_sem, Nat.reduceAdd, Nat.reduceLeDiff, Nat.reduceSub, Int.reduceToNat, reduceCtorEq, rqR_len]) | (refine ⟨by first | omega | (intros; simp_all; done) | (intros; simp_all; omega), ?_⟩; try simp only [go_sem, Nat.reduceAdd, Nat.reduceLeDiff, Nat.reduceSub, Int.reduceToNat, reduceCtorEq, rqR_len]))
    refine AP.loop rfl (α := Nat) (fun k => [(1, .im (.pt [Ii p, Ii w, Ii s, .sl 8 (rqR l)])), (43, .im (.sl 8 (rqR l))), (44, Iv l.length), (45, Iv k)]) (fun k => []) (fun k => k ≤ l.length ∧ ∀ i, i < k → ∀ r, l[i]? = some r → rowOk w s l.length i r) (fun k => l.length - k) 0 (by simp) (by repeat (first | exact Sub.nil _ | refine Sub.cons rfl ?_)) rfl fun k ⟨hk, hrows⟩ => ?_
    have hw := wr (x := (k : Int) + 1) (by omega)
    have hw1 := wr (x := s - (l.length : Int)) (by omega)
    have hw2 := wr (x := s - (l.length : Int) + 1) (by omega)
    have hw3 := wr (x := s - (l.length : Int) + 1 + (k : Int)) (by omega)
    repeat (first | refine xA ?_ | refine xB ?_ | refine xC ?_ | refine xE ?_ | refine xD ?_ | refine xK ?_ | refine xS ?_ | refine xM ?_ | refine xT ?_ | refine xF ?_ | ((first | refine xR ?_ | refine xW ?_ | refine vq_id ?_); simp only [go_sem, Nat.reduceAdd, Nat.reduceLeDiff, Nat.reduceSub, Int.reduceToNat, reduceCtorEq]) | (refine ⟨by first | omega | (intros; simp_all; done) | (intros; simp_all; omega), ?_⟩; try simp only [go_sem, Nat.reduceAdd, Nat.reduceLeDiff, Nat.reduceSub, Int.reduceToNat, reduceCtorEq]))
    refine AP.cond rfl rfl (fun hc => ?_) (fun hc => ?_)
    · have hk' : k < l.length := by simp at hc; omega
      obtain ⟨r, hm, hg⟩ := rqR_get l k hk'
      obtain ⟨b8, hb8⟩ : ∃ b, (!(r.c == false && (r.a == false && (r.ak == 0 && (r.an == 0 && r.ab == [])))) || decide (6 < r.k)) = b := ⟨_, rfl⟩
      cases b8 with
      | true =>
        have hno : ¬ okP p w s l := fun h => by
          obtain ⟨⟨h1, h2, h3, h4, h5⟩, h6, _⟩ := h.2.2.1 k r hm
          rw [h1, h2, h3, h4, h5] at hb8
          simp at hb8
          omega
        rw [okC_not hno]
        repeat (first | refine xA ?_ | refine xB ?_ | refine xC ?_ | refine xE ?_ | refine xD ?_ | refine xK ?_ | refine xS ?_ | refine xM ?_ | refine xT ?_ | refine xF ?_ | ((first | refine xR ?_ | refine xW ?_ | refine vq_id ?_); simp only [go_sem, Nat.reduceAdd, Nat.reduceLeDiff, Nat.reduceSub, Int.reduceToNat, reduceCtorEq, rqR_len, hg, hw, hb8, Int.toNat_natCast, List.map_cons, List.map_nil, List.length_cons, List.length_nil, List.take_succ_cons, List.take_zero, List.drop_succ_cons, List.drop_zero, beq_self_eq_true, Bool.and_self, Bool.true_and]) | (refine ⟨by first | omega | (intros; simp_all; done) | (intros; simp_all; omega), ?_⟩; try simp only [go_sem, Nat.reduceAdd, Nat.reduceLeDiff, Nat.reduceSub, Int.reduceToNat, reduceCtorEq, rqR_len, hg, hw, hb8, Int.toNat_natCast, List.map_cons, List.map_nil, List.length_cons, List.length_nil, List.take_succ_cons, List.take_zero, List.drop_succ_cons, List.drop_zero, beq_self_eq_true, Bool.and_self, Bool.true_and]))
        exact AE.ret0 rfl ⟨rfl, trivial⟩ rfl ⟨rfl, rfl⟩
      | false =>
        repeat (first | refine xA ?_ | refine xB ?_ | refine xC ?_ | refine xE ?_ | refine xD ?_ | refine xK ?_ | refine xS ?_ | refine xM ?_ | refine xT ?_ | refine xF ?_ | ((first | refine xR ?_ | refine xW ?_ | refine vq_id ?_); simp only [go_sem, Nat.reduceAdd, Nat.reduceLeDiff, Nat.reduceSub, Int.reduceToNat, reduceCtorEq, rqR_len, hg, hw, hb8, Int.toNat_natCast, List.map_cons, List.map_nil, List.length_cons, List.length_nil, List.take_succ_cons, List.take_zero, List.drop_succ_cons, List.drop_zero, beq_self_eq_true, Bool.and_self, Bool.true_and]) | (refine ⟨by first | omega | (intros; simp_all; done) | (intros; simp_all; omega), ?_⟩; try simp only [go_sem, Nat.reduceAdd, Nat.reduceLeDiff, Nat.reduceSub, Int.reduceToNat, reduceCtorEq, rqR_len, hg, hw, hb8, Int.toNat_natCast, List.map_cons, List.map_nil, List.length_cons, List.length_nil, List.take_succ_cons, List.take_zero, List.drop_succ_cons, List.drop_zero, beq_self_eq_true, Bool.and_self, Bool.true_and]))
        refine AQ.guard_yes (by simp only [go_sem]) ?_
        refine AQ.fn_g (by kernel_rfl) rfl rfl (fun h => by first | (simp [gs, AV.g]; done) | (simp [gs, AV.g, constAV]; done) | (simp [gs, AV.g, constAV, bw] at h ⊢; done) | (simp [gs, AV.g, constAV, bw] at h ⊢; exact h) | (simp [gs, AV.g, constAV, bw] at h ⊢; simp [h]; done) | (simp [bw] at h; done) | (simp [gs, AV.g, bw] at h ⊢; simp [h]; done) | (simp [gs, AV.g, bw] at h ⊢; exact h.1) | (simp [gs, AV.g]; rfl) | (simp [gs, AV.g, bw] at h ⊢; rfl) | (simp [gs, AV.g, bw] at h ⊢; simp [h]; rfl) | (simp [gs, AV.g, bw] at h ⊢; simp_all)) rfl (fun _ => message_spec r) rfl ?_
        repeat (first | refine xA ?_ | refine xB ?_ | refine xC ?_ | refine xE ?_ | refine xD ?_ | refine xK ?_ | refine xS ?_ | refine xM ?_ | refine xT ?_ | refine xF ?_ | ((first | refine xR ?_ | refine xW ?_ | refine vq_id ?_); simp only [go_sem, Nat.reduceAdd, Nat.reduceLeDiff, Nat.reduceSub, Int.reduceToNat, reduceCtorEq, hb8]) | (refine ⟨by first | omega | (intros; simp_all; done) | (intros; simp_all; omega), ?_⟩; try simp only [go_sem, Nat.reduceAdd, Nat.reduceLeDiff, Nat.reduceSub, Int.reduceToNat, reduceCtorEq, hb8]))
        refine AQ.guard_yes (by simp only [go_sem]) ?_
        refine AQ.fn_g (by kernel_rfl) rfl rfl (fun h => by first | (simp [gs, AV.g]; done) | (simp [gs, AV.g, constAV]; done) | (simp [gs, AV.g, constAV, bw] at h ⊢; done) | (simp [gs, AV.g, constAV, bw] at h ⊢; exact h) | (simp [gs, AV.g, constAV, bw] at h ⊢; simp [h]; done) | (simp [bw] at h; done) | (simp [gs, AV.g, bw] at h ⊢; simp [h]; done) | (simp [gs, AV.g, bw] at h ⊢; exact h.1) | (simp [gs, AV.g]; rfl) | (simp [gs, AV.g, bw] at h ⊢; rfl) | (simp [gs, AV.g, bw] at h ⊢; simp [h]; rfl) | (simp [gs, AV.g, bw] at h ⊢; simp_all)) rfl (fun _ => error_spec r.k r.n r.b) rfl ?_
        repeat (first | refine xA ?_ | refine xB ?_ | refine xC ?_ | refine xE ?_ | refine xD ?_ | refine xK ?_ | refine xS ?_ | refine xM ?_ | refine xT ?_ | refine xF ?_ | ((first | refine xR ?_ | refine xW ?_ | refine vq_id ?_); simp only [go_sem, Nat.reduceAdd, Nat.reduceLeDiff, Nat.reduceSub, Int.reduceToNat, reduceCtorEq, rqR_len, hb8, hw1, hw2, hw3]) | (refine ⟨by first | omega | (intros; simp_all; done) | (intros; simp_all; omega), ?_⟩; try simp only [go_sem, Nat.reduceAdd, Nat.reduceLeDiff, Nat.reduceSub, Int.reduceToNat, reduceCtorEq, rqR_len, hb8, hw1, hw2, hw3]))
        refine ⟨fun h => ⟨h, fun h2 => by rw [h, h2]; rfl⟩, ?_⟩
        repeat (first | refine xA ?_ | refine xB ?_ | refine xC ?_ | refine xE ?_ | refine xD ?_ | refine xK ?_ | refine xS ?_ | refine xM ?_ | refine xT ?_ | refine xF ?_ | ((first | refine xR ?_ | refine xW ?_ | refine vq_id ?_); simp only [go_sem, Nat.reduceAdd, Nat.reduceLeDiff, Nat.reduceSub, Int.reduceToNat, reduceCtorEq]) | (refine ⟨by first | omega | (intros; simp_all; done) | (intros; simp_all; omega), ?_⟩; try simp only [go_sem, Nat.reduceAdd, Nat.reduceLeDiff, Nat.reduceSub, Int.reduceToNat, reduceCtorEq]))
        have hb8' := hb8
        simp only [Bool.or_eq_false_iff, Bool.not_eq_false', Bool.and_eq_true, beq_iff_eq, decide_eq_false_iff_not] at hb8'
        obtain ⟨⟨h1, h2, h3, h4, h5⟩, h6⟩ := hb8'
        refine AP.cond rfl rfl (fun hrow => ?_) (fun hrow => ?_)
        · rw [okC_not fun h => by
            obtain ⟨_, _, g1, g2, g3⟩ := h.2.2.1 k r hm
            simp only [Bool.or_eq_true, Bool.and_eq_true, beq_iff_eq, bne_iff_ne, decide_eq_true_eq] at hrow
            rcases hrow with (h | h) | h
            · exact h g1
            · exact h g2
            · exact g3 h]
          repeat (first | refine xA ?_ | refine xB ?_ | refine xC ?_ | refine xE ?_ | refine xD ?_ | refine xK ?_ | refine xS ?_ | refine xM ?_ | refine xT ?_ | refine xF ?_ | ((first | refine xR ?_ | refine xW ?_ | refine vq_id ?_); simp only [go_sem, Nat.reduceAdd, Nat.reduceLeDiff, Nat.reduceSub, Int.reduceToNat, reduceCtorEq]) | (refine ⟨by first | omega | (intros; simp_all; done) | (intros; simp_all; omega), ?_⟩; try simp only [go_sem, Nat.reduceAdd, Nat.reduceLeDiff, Nat.reduceSub, Int.reduceToNat, reduceCtorEq]))
          exact AE.ret0 rfl ⟨rfl, trivial⟩ rfl ⟨rfl, rfl⟩
        repeat (first | refine xA ?_ | refine xB ?_ | refine xC ?_ | refine xE ?_ | refine xD ?_ | refine xK ?_ | refine xS ?_ | refine xM ?_ | refine xT ?_ | refine xF ?_ | ((first | refine xR ?_ | refine xW ?_ | refine vq_id ?_); simp only [go_sem, Nat.reduceAdd, Nat.reduceLeDiff, Nat.reduceSub, Int.reduceToNat, reduceCtorEq, hw]) | (refine ⟨by first | omega | (intros; simp_all; done) | (intros; simp_all; omega), ?_⟩; try simp only [go_sem, Nat.reduceAdd, Nat.reduceLeDiff, Nat.reduceSub, Int.reduceToNat, reduceCtorEq, hw]))
        simp only [Bool.or_eq_false_iff, bne_eq_false_iff_eq, Bool.and_eq_false_iff, beq_eq_false_iff_ne, decide_eq_false_iff_not] at hrow
        refine AE.forgets [0, 1] rfl ?_
        simp only [go_sem, Nat.reduceAdd, Nat.reduceLeDiff, Nat.reduceSub, Int.reduceToNat, reduceCtorEq]
        refine AE.round (k + 1) ⟨by omega, fun i hi r' hr' => ?_⟩ (by omega) (by repeat (first | exact Sub.nil _ | refine Sub.cons rfl ?_)) rfl
        by_cases hik : i = k
        · subst hik
          rw [hm] at hr'
          cases hr'
          exact ⟨⟨h1, h2, h3, h4, h5⟩, by omega, hrow.1.1, hrow.1.2, by omega⟩
        · exact hrows i (by omega) r' hr'
    · have hke : k = l.length := by simp at hc; omega
      have hall : ∀ i r, l[i]? = some r → rowOk w s l.length i r := fun i r hr => hrows i (by rw [hke]; exact (List.getElem?_eq_some_iff.1 hr).1) r hr
      repeat (first | refine xA ?_ | refine xB ?_ | refine xC ?_ | refine xE ?_ | refine xD ?_ | refine xK ?_ | refine xS ?_ | refine xM ?_ | refine xT ?_ | refine xF ?_ | ((first | refine xR ?_ | refine xW ?_ | refine vq_id ?_); simp only [go_sem, Nat.reduceAdd, Nat.reduceLeDiff, Nat.reduceSub, Int.reduceToNat, reduceCtorEq]) | (refine ⟨by first | omega | (intros; simp_all; done) | (intros; simp_all; omega), ?_⟩; try simp only [go_sem, Nat.reduceAdd, Nat.reduceLeDiff, Nat.reduceSub, Int.reduceToNat, reduceCtorEq]))
      refine AP.cond rfl rfl (fun hp => ?_) (fun hp => ?_)
      · have hp' : p = 0 := by simpa using hp
        repeat (first | refine xA ?_ | refine xB ?_ | refine xC ?_ | refine xE ?_ | refine xD ?_ | refine xK ?_ | refine xS ?_ | refine xM ?_ | refine xT ?_ | refine xF ?_ | ((first | refine xR ?_ | refine xW ?_ | refine vq_id ?_); simp only [go_sem, Nat.reduceAdd, Nat.reduceLeDiff, Nat.reduceSub, Int.reduceToNat, reduceCtorEq]) | (refine ⟨by first | omega | (intros; simp_all; done) | (intros; simp_all; omega), ?_⟩; try simp only [go_sem, Nat.reduceAdd, Nat.reduceLeDiff, Nat.reduceSub, Int.reduceToNat, reduceCtorEq]))
        refine AE.ret0 rfl ⟨rfl, trivial⟩ rfl ⟨rfl, ?_⟩
        rw [← okC_eq (b := w == 0 && s == 0) (by
          simp only [Bool.and_eq_true, beq_iff_eq]
          refine ⟨fun h => ⟨hh, hby', hall, by rw [if_pos hp']; exact h⟩, fun h => ?_⟩
          have := h.2.2.2
          rw [if_pos hp'] at this
          exact this)]
        rfl
      have hp' : p ≠ 0 := by simpa using hp
      repeat (first | refine xA ?_ | refine xB ?_ | refine xC ?_ | refine xE ?_ | refine xD ?_ | refine xK ?_ | refine xS ?_ | refine xM ?_ | refine xT ?_ | refine xF ?_ | ((first | refine xR ?_ | refine xW ?_ | refine vq_id ?_); simp only [go_sem, Nat.reduceAdd, Nat.reduceLeDiff, Nat.reduceSub, Int.reduceToNat, reduceCtorEq]) | (refine ⟨by first | omega | (intros; simp_all; done) | (intros; simp_all; omega), ?_⟩; try simp only [go_sem, Nat.reduceAdd, Nat.reduceLeDiff, Nat.reduceSub, Int.reduceToNat, reduceCtorEq]))
      refine AP.cond rfl rfl (fun hp2 => ?_) (fun hp2 => ?_)
      · have hs' : s = 0 := by simpa using hp2
        repeat (first | refine xA ?_ | refine xB ?_ | refine xC ?_ | refine xE ?_ | refine xD ?_ | refine xK ?_ | refine xS ?_ | refine xM ?_ | refine xT ?_ | refine xF ?_ | ((first | refine xR ?_ | refine xW ?_ | refine vq_id ?_); simp only [go_sem, Nat.reduceAdd, Nat.reduceLeDiff, Nat.reduceSub, Int.reduceToNat, reduceCtorEq]) | (refine ⟨by first | omega | (intros; simp_all; done) | (intros; simp_all; omega), ?_⟩; try simp only [go_sem, Nat.reduceAdd, Nat.reduceLeDiff, Nat.reduceSub, Int.reduceToNat, reduceCtorEq]))
        refine AE.ret0 rfl ⟨rfl, trivial⟩ rfl ⟨rfl, ?_⟩
        rw [okC_not fun h => by
          have := h.2.2.2
          rw [if_neg hp'] at this
          exact this.1 hs']
        rfl
      have hs' : s ≠ 0 := by simpa using hp2
      repeat (first | refine xA ?_ | refine xB ?_ | refine xC ?_ | refine xE ?_ | refine xD ?_ | refine xK ?_ | refine xS ?_ | refine xM ?_ | refine xT ?_ | refine xF ?_ | ((first | refine xR ?_ | refine xW ?_ | refine vq_id ?_); simp only [go_sem, Nat.reduceAdd, Nat.reduceLeDiff, Nat.reduceSub, Int.reduceToNat, reduceCtorEq]) | (refine ⟨by first | omega | (intros; simp_all; done) | (intros; simp_all; omega), ?_⟩; try simp only [go_sem, Nat.reduceAdd, Nat.reduceLeDiff, Nat.reduceSub, Int.reduceToNat, reduceCtorEq]))
      refine AP.cond rfl rfl (fun hp3 => ?_) (fun hp3 => ?_)
      · have hw' : w = 0 := by simpa using hp3
        cases l with
        | nil =>
          have hz : (((0 : Nat) : Int) == 1) = false := rfl
          repeat (first | refine xA ?_ | refine xB ?_ | refine xC ?_ | refine xE ?_ | refine xD ?_ | refine xK ?_ | refine xS ?_ | refine xM ?_ | refine xT ?_ | refine xF ?_ | ((first | refine xR ?_ | refine xW ?_ | refine vq_id ?_); simp only [go_sem, Nat.reduceAdd, Nat.reduceLeDiff, Nat.reduceSub, Int.reduceToNat, reduceCtorEq, rqR_len, List.length_nil, hz, Bool.and_false]) | (refine ⟨by first | omega | (intros; simp_all; done) | (intros; simp_all; omega), ?_⟩; try simp only [go_sem, Nat.reduceAdd, Nat.reduceLeDiff, Nat.reduceSub, Int.reduceToNat, reduceCtorEq, rqR_len, List.length_nil, hz, Bool.and_false]))
          refine AE.ret0 rfl ⟨rfl, trivial⟩ rfl ⟨rfl, ?_⟩
          rw [okC_not fun h => by
            have := h.2.2.2
            rw [if_neg hp', if_pos hw'] at this
            exact absurd this.2.2.1 (by simp)]
          rfl
        | cons r t =>
          have hg0 : (rqR (r :: t)).getD 0 [] = [Ii r.n, Ii r.k, Si r.b, .v (.bool r.c), .v (.bool r.a), Ii r.ak, Ii r.an, Si r.ab] := rfl
          repeat (first | refine xA ?_ | refine xB ?_ | refine xC ?_ | refine xE ?_ | refine xD ?_ | refine xK ?_ | refine xS ?_ | refine xM ?_ | refine xT ?_ | refine xF ?_ | ((first | refine xR ?_ | refine xW ?_ | refine vq_id ?_); simp only [go_sem, Nat.reduceAdd, Nat.reduceLeDiff, Nat.reduceSub, Int.reduceToNat, reduceCtorEq, rqR_len, hg0, List.map_cons, List.map_nil, List.length_cons, List.length_nil, List.take_succ_cons, List.take_zero, List.drop_succ_cons, List.drop_zero]) | (refine ⟨by first | omega | (intros; simp_all; done) | (intros; simp_all; omega), ?_⟩; try simp only [go_sem, Nat.reduceAdd, Nat.reduceLeDiff, Nat.reduceSub, Int.reduceToNat, reduceCtorEq, rqR_len, hg0, List.map_cons, List.map_nil, List.length_cons, List.length_nil, List.take_succ_cons, List.take_zero, List.drop_succ_cons, List.drop_zero]))
          refine AE.ret0 rfl ⟨rfl, trivial⟩ rfl ⟨rfl, ?_⟩
          rw [← okC_eq (b := s == 1 && ((t.length + 1 : Nat) : Int) == 1 && r.k == 1 && p == 1) (by
            have hk0 : kAt (r :: t) 0 = r.k := rfl
            simp only [Bool.and_eq_true, beq_iff_eq]
            refine ⟨fun h => ⟨hh, hby', hall, ?_⟩, fun h => ?_⟩
            · rw [if_neg hp', if_pos hw', hk0, List.length_cons]
              omega
            · have := h.2.2.2
              rw [if_neg hp', if_pos hw', hk0, List.length_cons] at this
              omega)]
          rfl
      have hw' : w ≠ 0 := by simpa using hp3
      repeat (first | refine xA ?_ | refine xB ?_ | refine xC ?_ | refine xE ?_ | refine xD ?_ | refine xK ?_ | refine xS ?_ | refine xM ?_ | refine xT ?_ | refine xF ?_ | ((first | refine xR ?_ | refine xW ?_ | refine vq_id ?_); simp only [go_sem, Nat.reduceAdd, Nat.reduceLeDiff, Nat.reduceSub, Int.reduceToNat, reduceCtorEq, rqR_len]) | (refine ⟨by first | omega | (intros; simp_all; done) | (intros; simp_all; omega), ?_⟩; try simp only [go_sem, Nat.reduceAdd, Nat.reduceLeDiff, Nat.reduceSub, Int.reduceToNat, reduceCtorEq, rqR_len]))
      refine AE.ret0 rfl ⟨rfl, trivial⟩ rfl ⟨rfl, ?_⟩
      rw [← okC_eq (b := decide ((l.length : Int) ≤ w)) (by
        simp only [decide_eq_true_eq]
        refine ⟨fun h => ⟨hh, hby', hall, by rw [if_neg hp', if_neg hw']; exact ⟨hs', h⟩⟩, fun h => ?_⟩
        have := h.2.2.2
        rw [if_neg hp', if_neg hw'] at this
        exact this.2)]
      rfl
end Go.Proofs.YtlpcdpjkdodmcaaDoor
end

section
namespace Go.Proofs.YtlpcdpjkdodmcaaDoor
open Go Go.AL Go.RowKit
def rowCk (s : Int) (n i : Nat) (r : Rq) : Prop := plainR r ∧ r.k ≤ 6 ∧ msgE r.k r.n r.b = 0 ∧ r.n = s - n + 1 + i ∧ ¬ (r.k = 1 ∧ 0 < i) ∧ ¬ (r.k = 6 ∧ i + 1 < n)
def hello (l : List Rq) : Prop := 0 < l.length ∧ kAt l 0 = 1
def byeL (l : List Rq) : Prop := 0 < l.length ∧ kAt l (l.length - 1) = 6
def ckP (p w s : Int) (l : List Rq) : Prop :=
  headP p w s ∧ (l.length : Int) ≤ s ∧ (∀ i r, l[i]? = some r → rowCk s l.length i r) ∧ if p = 0 then w = 0 ∧ s = 0 else s ≠ 0 ∧ (byeL l ↔ p = 2) ∧ ¬ (p = 3 ∧ 0 < l.length) ∧ (w = 0 → s = 1 ∧ hello l ∧ p = 1) ∧ (0 < w → ¬ hello l ∧ l.length ≤ w)
theorem kAt_of (l : List Rq) (i : Nat) (h : i < l.length) : ∃ r, l[i]? = some r ∧ kAt l i = r.k := ⟨l[i], List.getElem?_eq_getElem h, kAt_eq (List.getElem?_eq_getElem h)⟩
theorem msgE_pos {k n : Int} {b : List UInt8} (h : msgE k n b = 0) : 1 ≤ n ∧ n ≤ 2147483647 := by
  unfold msgE at h
  split at h
  · cases h
  · split at h
    · cases h
    · omega
theorem msgE_kind {k n : Int} {b : List UInt8} (h : msgE k n b = 0) : 1 ≤ k ∧ k ≤ 9 := by
  unfold msgE at h
  split at h
  · cases h
  · omega
theorem ck_ok (p w s : Int) (l : List Rq) : ckP p w s l ↔ okP p w s l := by
  constructor
  · rintro ⟨hh, hn, hr, ht⟩
    have hh' := hh
    unfold headP at hh'
    have hk6 : ∀ i, i + 1 < l.length → kAt l i ≠ 6 := fun i hi h6 => by
      obtain ⟨r, h1, h2⟩ := kAt_of l i (by omega)
      exact (hr i r h1).2.2.2.2.2 ⟨by rw [← h2]; exact h6, hi⟩
    by_cases hp : p = 0
    · rw [if_pos hp] at ht
      have hl0 : l.length = 0 := by omega
      refine ⟨hh, ?_, fun i r h => ?_, by rw [if_pos hp]; exact ht⟩
      · rw [byesB, if_neg (by omega), if_neg (by omega)]; simpa using hl0
      · have := (List.getElem?_eq_some_iff.1 h).1; omega
    · rw [if_neg hp] at ht
      obtain ⟨h1, h2, h3, h4, h5⟩ := ht
      refine ⟨hh, ?_, fun i r h => ?_, ?_⟩
      · unfold byesB
        split
        · next hp1 =>
          rw [decide_eq_true_eq]
          intro i hi
          by_cases hl : i + 1 < l.length
          · exact hk6 i hl
          · intro h6
            have : i = l.length - 1 := by omega
            subst this
            have := h2.1 ⟨by omega, h6⟩
            omega
        · split
          · next hp2 =>
            rw [decide_eq_true_eq]
            have := h2.2 hp2
            exact ⟨this.1, this.2, fun i hi => hk6 i (by omega)⟩
          · rw [decide_eq_true_eq]
            omega
      · obtain ⟨g1, g2, g3, g4, g5, g6⟩ := hr i r h
        refine ⟨g1, g2, g3, g4, fun ⟨k1, hw⟩ => ?_⟩
        by_cases hi : 0 < i
        · exact g5 ⟨k1, hi⟩
        · have : i = 0 := by omega
          subst this
          exact (h5 hw).1 ⟨(List.getElem?_eq_some_iff.1 h).1, by rw [kAt_eq h]; exact k1⟩
      · rw [if_neg hp]
        refine ⟨h1, ?_⟩
        split
        · next hw =>
          obtain ⟨k1, k2, k3⟩ := h4 hw
          exact ⟨k1, by have := k2.1; omega, k2.2, k3⟩
        · exact (h5 (by omega)).2
  · rintro ⟨hh, hb, hr, ht⟩
    have hh' := hh
    unfold headP at hh'
    have hn : (l.length : Int) ≤ s := by
      by_cases h0 : l.length = 0
      · omega
      · obtain ⟨r, h1, _⟩ := kAt_of l 0 (by omega)
        obtain ⟨_, _, g3, g4, _⟩ := hr 0 r h1
        have := msgE_pos g3
        omega
    have hb0 : p ≠ 1 → p ≠ 2 → l.length = 0 := fun h1 h2 => by
      rw [byesB, if_neg h1, if_neg h2] at hb
      simpa using hb
    have hb1 : p = 1 → ∀ i, i < l.length → kAt l i ≠ 6 := fun h1 => by
      rw [byesB, if_pos h1] at hb
      simpa using hb
    have hb2 : p = 2 → 0 < l.length ∧ kAt l (l.length - 1) = 6 ∧ ∀ i, i < l.length - 1 → kAt l i ≠ 6 := fun h1 => by
      rw [byesB, if_neg (by omega), if_pos h1, decide_eq_true_eq] at hb
      exact hb
    refine ⟨hh, hn, fun i r h => ?_, ?_⟩
    · obtain ⟨g1, g2, g3, g4, g5⟩ := hr i r h
      have hi := (List.getElem?_eq_some_iff.1 h).1
      refine ⟨g1, g2, g3, g4, fun ⟨k1, hi0⟩ => ?_, fun ⟨k6, hi1⟩ => ?_⟩
      · have hw : w = 0 := by
          rcases Int.lt_or_le 0 w with hw | hw
          · exact absurd ⟨k1, hw⟩ g5
          · omega
        by_cases hp : p = 0
        · have := hb0 (by omega) (by omega); omega
        · rw [if_neg hp, if_pos hw] at ht
          omega
      · by_cases hp1 : p = 1
        · exact hb1 hp1 i hi (by rw [kAt_eq h]; exact k6)
        · by_cases hp2 : p = 2
          · exact (hb2 hp2).2.2 i (by omega) (by rw [kAt_eq h]; exact k6)
          · have := hb0 hp1 hp2; omega
    · by_cases hp : p = 0
      · rw [if_pos hp] at ht ⊢; exact ht
      · rw [if_neg hp] at ht ⊢
        refine ⟨ht.1, ⟨fun ⟨h1, h2⟩ => ?_, fun h2 => ⟨(hb2 h2).1, (hb2 h2).2.1⟩⟩, ?_, fun hw => ?_, fun hw => ?_⟩
        · by_cases hp1 : p = 1
          · exact absurd h2 (hb1 hp1 _ (by omega))
          · by_cases hp2 : p = 2
            · exact hp2
            · have := hb0 hp1 hp2; omega
        · rintro ⟨h3, h4⟩
          have := hb0 (by omega) (by omega)
          omega
        · rw [if_pos hw] at ht
          exact ⟨ht.2.1, ⟨by omega, ht.2.2.2.1⟩, ht.2.2.2.2⟩
        · rw [if_neg (by omega)] at ht
          refine ⟨fun ⟨h1, h2⟩ => ?_, ht.2⟩
          obtain ⟨r, k1, k2⟩ := kAt_of l 0 h1
          exact (hr 0 r k1).2.2.2.2 ⟨by rw [← k2]; exact h2, hw⟩
end Go.Proofs.YtlpcdpjkdodmcaaDoor
end

section
namespace Go.Proofs.YtlpcdpjkdodmcaaDoor
open Go Go.AL Go.RowKit
set_option maxRecDepth 10000
set_option maxHeartbeats 4000000
noncomputable def ckE (p w s : Int) (l : List Rq) : Int := bif okC p w s l then 0 else 13
theorem ckE_yes {p w s : Int} {l : List Rq} (h : ckP p w s l) : ckE p w s l = 0 := by
  rw [ckE, (okC_iff p w s l).2 ((ck_ok p w s l).1 h)]; rfl
theorem ckE_no {p w s : Int} {l : List Rq} (h : ¬ ckP p w s l) : ckE p w s l = 13 := by
  rw [ckE, okC_not fun h' => h ((ck_ok p w s l).2 h')]; rfl
theorem check_spec (p w s : Int) (l : List Rq) (hl : l.length ≤ 1000000000) : PFn Tryd.prog 46 [.agg [Iv p, Iv w, Iv s, .im (.sl 8 (rqR l))]] (Iv (ckE p w s l)) := by
  refine ACall.walk [0, 1, 2, 3, 4, 5, 6, 7, 44, 47, 82, 112, 115, 123, 146, 162] [5] Tryd.func46 rfl Tryd.ntmps46 (by kernel_rfl) (by rfl) rfl fun W own I0 φ0 lay => ?_
  repeat (first | refine xA ?_ | refine xB ?_ | refine xC ?_ | refine xE ?_ | refine xD ?_ | refine xK ?_ | refine xS ?_ | refine xM ?_ | refine xT ?_ | refine xF ?_ | ((first | refine xR ?_ | refine xW ?_ | refine vq_id ?_); simp only [go_sem, Nat.reduceAdd, Nat.reduceLeDiff, Nat.reduceSub, Int.reduceToNat, reduceCtorEq, rqR_len]) | (refine ⟨by first | omega | (intros; simp_all; done) | (intros; simp_all; omega), ?_⟩; try simp only [go_sem, Nat.reduceAdd, Nat.reduceLeDiff, Nat.reduceSub, Int.reduceToNat, reduceCtorEq, rqR_len]))
  refine AP.cond rfl rfl (fun hh => ?_) (fun hh => ?_)
  · rw [ckE_no fun h => by
      have h1 := h.1
      have h2 := h.2.1
      unfold headP at h1
      simp only [Bool.or_eq_true, decide_eq_true_eq] at hh
      omega]
    repeat (first | refine xA ?_ | refine xB ?_ | refine xC ?_ | refine xE ?_ | refine xD ?_ | refine xK ?_ | refine xS ?_ | refine xM ?_ | refine xT ?_ | refine xF ?_ | ((first | refine xR ?_ | refine xW ?_ | refine vq_id ?_); simp only [go_sem, Nat.reduceAdd, Nat.reduceLeDiff, Nat.reduceSub, Int.reduceToNat, reduceCtorEq]) | (refine ⟨by first | omega | (intros; simp_all; done) | (intros; simp_all; omega), ?_⟩; try simp only [go_sem, Nat.reduceAdd, Nat.reduceLeDiff, Nat.reduceSub, Int.reduceToNat, reduceCtorEq]))
    exact AE.ret0 rfl ⟨rfl, trivial⟩ rfl ⟨rfl, rfl⟩
  have hh1 : headP p w s ∧ (l.length : Int) ≤ s := by
    unfold headP
    simp only [Bool.or_eq_false_iff, decide_eq_false_iff_not] at hh
    omega
  have hh' := hh1
  unfold headP at hh'
  repeat (first | refine xA ?_ | refine xB ?_ | refine xC ?_ | refine xE ?_ | refine xD ?_ | refine xK ?_ | refine xS ?_ | refine xM ?_ | refine xT ?_ | refine xF ?_ | ((first | refine xR ?_ | refine xW ?_ | refine vq_id ?_); simp only [go_sem, Nat.reduceAdd, Nat.reduceLeDiff, Nat.reduceSub, Int.reduceToNat, reduceCtorEq]) | (refine ⟨by first | omega | (intros; simp_all; done) | (intros; simp_all; omega), ?_⟩; try simp only [go_sem, Nat.reduceAdd, Nat.reduceLeDiff, Nat.reduceSub, Int.reduceToNat, reduceCtorEq]))
  refine AP.loop rfl (α := Nat) (fun k => [(1, .im (.pt [Ii p, Ii w, Ii s, .sl 8 (rqR l)])), (3, Iv l.length), (4, Iv k)]) (fun k => []) (fun k => k ≤ l.length ∧ ∀ i, i < k → ∀ r, l[i]? = some r → rowCk s l.length i r) (fun k => l.length - k) 0 (by simp) (by repeat (first | exact Sub.nil _ | refine Sub.cons rfl ?_)) rfl fun k ⟨hk, hrows⟩ => ?_
  have hw := wr (x := (k : Int) + 1) (by omega)
  have hw0 := wr (x := (l.length : Int) - 1) (by omega)
  have hw1 := wr (x := s - (l.length : Int)) (by omega)
  have hw2 := wr (x := s - (l.length : Int) + 1) (by omega)
  have hw3 := wr (x := s - (l.length : Int) + 1 + (k : Int)) (by omega)
  repeat (first | refine xA ?_ | refine xB ?_ | refine xC ?_ | refine xE ?_ | refine xD ?_ | refine xK ?_ | refine xS ?_ | refine xM ?_ | refine xT ?_ | refine xF ?_ | ((first | refine xR ?_ | refine xW ?_ | refine vq_id ?_); simp only [go_sem, Nat.reduceAdd, Nat.reduceLeDiff, Nat.reduceSub, Int.reduceToNat, reduceCtorEq]) | (refine ⟨by first | omega | (intros; simp_all; done) | (intros; simp_all; omega), ?_⟩; try simp only [go_sem, Nat.reduceAdd, Nat.reduceLeDiff, Nat.reduceSub, Int.reduceToNat, reduceCtorEq]))
  refine AP.cond rfl rfl (fun hc => ?_) (fun hc => ?_)
  · have hk' : k < l.length := by simp at hc; omega
    obtain ⟨r, hm, hg⟩ := rqR_get l k hk'
    obtain ⟨b3, hb3⟩ : ∃ b, decide (6 < r.k) = b := ⟨_, rfl⟩
    cases b3 with
    | true =>
      rw [ckE_no fun h => by
        have := (h.2.2.1 k r hm).2.1
        simp only [decide_eq_true_eq] at hb3
        omega]
      repeat (first | refine xA ?_ | refine xB ?_ | refine xC ?_ | refine xE ?_ | refine xD ?_ | refine xK ?_ | refine xS ?_ | refine xM ?_ | refine xT ?_ | refine xF ?_ | ((first | refine xR ?_ | refine xW ?_ | refine vq_id ?_); simp only [go_sem, Nat.reduceAdd, Nat.reduceLeDiff, Nat.reduceSub, Int.reduceToNat, reduceCtorEq, rqR_len, hg, hw, hb3, Int.toNat_natCast, List.map_cons, List.map_nil, List.length_cons, List.length_nil, List.take_succ_cons, List.take_zero, List.drop_succ_cons, List.drop_zero, beq_self_eq_true, Bool.and_self, Bool.true_and]) | (refine ⟨by first | omega | (intros; simp_all; done) | (intros; simp_all; omega), ?_⟩; try simp only [go_sem, Nat.reduceAdd, Nat.reduceLeDiff, Nat.reduceSub, Int.reduceToNat, reduceCtorEq, rqR_len, hg, hw, hb3, Int.toNat_natCast, List.map_cons, List.map_nil, List.length_cons, List.length_nil, List.take_succ_cons, List.take_zero, List.drop_succ_cons, List.drop_zero, beq_self_eq_true, Bool.and_self, Bool.true_and]))
      exact AE.ret0 rfl ⟨rfl, trivial⟩ rfl ⟨rfl, rfl⟩
    | false =>
      repeat (first | refine xA ?_ | refine xB ?_ | refine xC ?_ | refine xE ?_ | refine xD ?_ | refine xK ?_ | refine xS ?_ | refine xM ?_ | refine xT ?_ | refine xF ?_ | ((first | refine xR ?_ | refine xW ?_ | refine vq_id ?_); simp only [go_sem, Nat.reduceAdd, Nat.reduceLeDiff, Nat.reduceSub, Int.reduceToNat, reduceCtorEq, rqR_len, hg, hw, hb3, Int.toNat_natCast, List.map_cons, List.map_nil, List.length_cons, List.length_nil, List.take_succ_cons, List.take_zero, List.drop_succ_cons, List.drop_zero, beq_self_eq_true, Bool.and_self, Bool.true_and]) | (refine ⟨by first | omega | (intros; simp_all; done) | (intros; simp_all; omega), ?_⟩; try simp only [go_sem, Nat.reduceAdd, Nat.reduceLeDiff, Nat.reduceSub, Int.reduceToNat, reduceCtorEq, rqR_len, hg, hw, hb3, Int.toNat_natCast, List.map_cons, List.map_nil, List.length_cons, List.length_nil, List.take_succ_cons, List.take_zero, List.drop_succ_cons, List.drop_zero, beq_self_eq_true, Bool.and_self, Bool.true_and]))
      refine AQ.strip ?_
      simp only [go_sem, Nat.reduceAdd, Nat.reduceLeDiff, Nat.reduceSub, Int.reduceToNat, reduceCtorEq]
      refine AQ.guard_yes (by simp only [go_sem]) ?_
      refine AQ.go (by kernel_rfl) ?_
      simp only [go_sem, Nat.reduceAdd, Nat.reduceLeDiff, Nat.reduceSub, Int.reduceToNat, reduceCtorEq]
      refine AQ.guard_yes (by simp only [go_sem]) ?_
      refine AQ.fn_g (by kernel_rfl) rfl rfl (fun h => by first | (simp [gs, AV.g]; done) | (simp [gs, AV.g, constAV]; done) | (simp [gs, AV.g, constAV, bw] at h ⊢; done) | (simp [gs, AV.g, constAV, bw] at h ⊢; exact h) | (simp [gs, AV.g, constAV, bw] at h ⊢; simp [h]; done) | (simp [bw] at h; done) | (simp [gs, AV.g, bw] at h ⊢; simp [h]; done) | (simp [gs, AV.g, bw] at h ⊢; exact h.1) | (simp [gs, AV.g]; rfl) | (simp [gs, AV.g, bw] at h ⊢; rfl) | (simp [gs, AV.g, bw] at h ⊢; simp [h]; rfl) | (simp [gs, AV.g, bw] at h ⊢; simp_all)) rfl (fun _ => wrong_ref r.k r.n r.b) rfl ?_
      repeat (first | refine xA ?_ | refine xB ?_ | refine xC ?_ | refine xE ?_ | refine xD ?_ | refine xK ?_ | refine xS ?_ | refine xM ?_ | refine xT ?_ | refine xF ?_ | ((first | refine xR ?_ | refine xW ?_ | refine vq_id ?_); simp only [go_sem, Nat.reduceAdd, Nat.reduceLeDiff, Nat.reduceSub, Int.reduceToNat, reduceCtorEq, rqR_len, hb3, hw0, hw1, hw2, hw3]) | (refine ⟨by first | omega | (intros; simp_all; done) | (intros; simp_all; omega), ?_⟩; try simp only [go_sem, Nat.reduceAdd, Nat.reduceLeDiff, Nat.reduceSub, Int.reduceToNat, reduceCtorEq, rqR_len, hb3, hw0, hw1, hw2, hw3]))
      refine AP.cond rfl rfl (fun hr1 => ?_) (fun hr1 => ?_)
      · rw [ckE_no fun h => by
          obtain ⟨⟨c1, c2, c3, c4, c5⟩, _, g1, _⟩ := h.2.2.1 k r hm
          rw [c1, c2, c3, c4, c5, g1] at hr1
          exact absurd hr1 (by decide)]
        repeat (first | refine xA ?_ | refine xB ?_ | refine xC ?_ | refine xE ?_ | refine xD ?_ | refine xK ?_ | refine xS ?_ | refine xM ?_ | refine xT ?_ | refine xF ?_ | ((first | refine xR ?_ | refine xW ?_ | refine vq_id ?_); simp only [go_sem, Nat.reduceAdd, Nat.reduceLeDiff, Nat.reduceSub, Int.reduceToNat, reduceCtorEq]) | (refine ⟨by first | omega | (intros; simp_all; done) | (intros; simp_all; omega), ?_⟩; try simp only [go_sem, Nat.reduceAdd, Nat.reduceLeDiff, Nat.reduceSub, Int.reduceToNat, reduceCtorEq]))
        exact AE.ret0 rfl ⟨rfl, trivial⟩ rfl ⟨rfl, rfl⟩
      simp only [Bool.or_eq_false_iff, bne_eq_false_iff_eq, Bool.not_eq_false', Bool.and_eq_true, beq_iff_eq] at hr1
      obtain ⟨⟨⟨g1, c1⟩, c2⟩, c3, c4, c5⟩ := hr1
      repeat (first | refine xA ?_ | refine xB ?_ | refine xC ?_ | refine xE ?_ | refine xD ?_ | refine xK ?_ | refine xS ?_ | refine xM ?_ | refine xT ?_ | refine xF ?_ | ((first | refine xR ?_ | refine xW ?_ | refine vq_id ?_); simp only [go_sem, Nat.reduceAdd, Nat.reduceLeDiff, Nat.reduceSub, Int.reduceToNat, reduceCtorEq, rqR_len, hw0, hw1, hw2, hw3]) | (refine ⟨by first | omega | (intros; simp_all; done) | (intros; simp_all; omega), ?_⟩; try simp only [go_sem, Nat.reduceAdd, Nat.reduceLeDiff, Nat.reduceSub, Int.reduceToNat, reduceCtorEq, rqR_len, hw0, hw1, hw2, hw3]))
      refine AP.cond rfl rfl (fun hr2 => ?_) (fun hr2 => ?_)
      · rw [ckE_no fun h => by
          obtain ⟨_, _, _, g2, g3, g4⟩ := h.2.2.1 k r hm
          simp only [Bool.or_eq_true, Bool.and_eq_true, beq_iff_eq, bne_iff_ne, decide_eq_true_eq] at hr2
          rcases hr2 with (h | h) | h
          · exact h g2
          · exact g3 ⟨h.1, by omega⟩
          · exact g4 ⟨h.1, by omega⟩]
        repeat (first | refine xA ?_ | refine xB ?_ | refine xC ?_ | refine xE ?_ | refine xD ?_ | refine xK ?_ | refine xS ?_ | refine xM ?_ | refine xT ?_ | refine xF ?_ | ((first | refine xR ?_ | refine xW ?_ | refine vq_id ?_); simp only [go_sem, Nat.reduceAdd, Nat.reduceLeDiff, Nat.reduceSub, Int.reduceToNat, reduceCtorEq]) | (refine ⟨by first | omega | (intros; simp_all; done) | (intros; simp_all; omega), ?_⟩; try simp only [go_sem, Nat.reduceAdd, Nat.reduceLeDiff, Nat.reduceSub, Int.reduceToNat, reduceCtorEq]))
        exact AE.ret0 rfl ⟨rfl, trivial⟩ rfl ⟨rfl, rfl⟩
      simp only [Bool.or_eq_false_iff, bne_eq_false_iff_eq, Bool.and_eq_false_iff, beq_eq_false_iff_ne, decide_eq_false_iff_not] at hr2
      simp only [decide_eq_false_iff_not] at hb3
      repeat (first | refine xA ?_ | refine xB ?_ | refine xC ?_ | refine xE ?_ | refine xD ?_ | refine xK ?_ | refine xS ?_ | refine xM ?_ | refine xT ?_ | refine xF ?_ | ((first | refine xR ?_ | refine xW ?_ | refine vq_id ?_); simp only [go_sem, Nat.reduceAdd, Nat.reduceLeDiff, Nat.reduceSub, Int.reduceToNat, reduceCtorEq, hw]) | (refine ⟨by first | omega | (intros; simp_all; done) | (intros; simp_all; omega), ?_⟩; try simp only [go_sem, Nat.reduceAdd, Nat.reduceLeDiff, Nat.reduceSub, Int.reduceToNat, reduceCtorEq, hw]))
      refine AE.forgets [0] rfl ?_
      simp only [go_sem, Nat.reduceAdd, Nat.reduceLeDiff, Nat.reduceSub, Int.reduceToNat, reduceCtorEq]
      refine AE.round (k + 1) ⟨by omega, fun i hi r' hr' => ?_⟩ (by omega) (by repeat (first | exact Sub.nil _ | refine Sub.cons rfl ?_)) rfl
      by_cases hik : i = k
      · subst hik
        rw [hm] at hr'
        cases hr'
        exact ⟨⟨c1, c2, c3, c4, c5⟩, by omega, g1, hr2.1.1, by omega, by omega⟩
      · exact hrows i (by omega) r' hr'
  · have hke : k = l.length := by simp at hc; omega
    have hall : ∀ i r, l[i]? = some r → rowCk s l.length i r := fun i r hr => hrows i (by rw [hke]; exact (List.getElem?_eq_some_iff.1 hr).1) r hr
    repeat (first | refine xA ?_ | refine xB ?_ | refine xC ?_ | refine xE ?_ | refine xD ?_ | refine xK ?_ | refine xS ?_ | refine xM ?_ | refine xT ?_ | refine xF ?_ | ((first | refine xR ?_ | refine xW ?_ | refine vq_id ?_); simp only [go_sem, Nat.reduceAdd, Nat.reduceLeDiff, Nat.reduceSub, Int.reduceToNat, reduceCtorEq]) | (refine ⟨by first | omega | (intros; simp_all; done) | (intros; simp_all; omega), ?_⟩; try simp only [go_sem, Nat.reduceAdd, Nat.reduceLeDiff, Nat.reduceSub, Int.reduceToNat, reduceCtorEq]))
    refine AP.cond rfl rfl (fun hp => ?_) (fun hp => ?_)
    · repeat (first | refine xA ?_ | refine xB ?_ | refine xC ?_ | refine xE ?_ | refine xD ?_ | refine xK ?_ | refine xS ?_ | refine xM ?_ | refine xT ?_ | refine xF ?_ | ((first | refine xR ?_ | refine xW ?_ | refine vq_id ?_); simp only [go_sem, Nat.reduceAdd, Nat.reduceLeDiff, Nat.reduceSub, Int.reduceToNat, reduceCtorEq]) | (refine ⟨by first | omega | (intros; simp_all; done) | (intros; simp_all; omega), ?_⟩; try simp only [go_sem, Nat.reduceAdd, Nat.reduceLeDiff, Nat.reduceSub, Int.reduceToNat, reduceCtorEq]))
      have hp' : p = 0 := by simpa using hp
      refine AP.cond rfl rfl (fun hp4 => ?_) (fun hp4 => ?_)
      · rw [ckE_no fun h => by
          have := h.2.2.2
          rw [if_pos hp'] at this
          rw [this.1, this.2] at hp4
          exact absurd hp4 (by decide)]
        repeat (first | refine xA ?_ | refine xB ?_ | refine xC ?_ | refine xE ?_ | refine xD ?_ | refine xK ?_ | refine xS ?_ | refine xM ?_ | refine xT ?_ | refine xF ?_ | ((first | refine xR ?_ | refine xW ?_ | refine vq_id ?_); simp only [go_sem, Nat.reduceAdd, Nat.reduceLeDiff, Nat.reduceSub, Int.reduceToNat, reduceCtorEq]) | (refine ⟨by first | omega | (intros; simp_all; done) | (intros; simp_all; omega), ?_⟩; try simp only [go_sem, Nat.reduceAdd, Nat.reduceLeDiff, Nat.reduceSub, Int.reduceToNat, reduceCtorEq]))
        exact AE.ret0 rfl ⟨rfl, trivial⟩ rfl ⟨rfl, rfl⟩
      · rw [ckE_yes ⟨hh1.1, hh1.2, hall, by rw [if_pos hp']; simpa using hp4⟩]
        repeat (first | refine xA ?_ | refine xB ?_ | refine xC ?_ | refine xE ?_ | refine xD ?_ | refine xK ?_ | refine xS ?_ | refine xM ?_ | refine xT ?_ | refine xF ?_ | ((first | refine xR ?_ | refine xW ?_ | refine vq_id ?_); simp only [go_sem, Nat.reduceAdd, Nat.reduceLeDiff, Nat.reduceSub, Int.reduceToNat, reduceCtorEq]) | (refine ⟨by first | omega | (intros; simp_all; done) | (intros; simp_all; omega), ?_⟩; try simp only [go_sem, Nat.reduceAdd, Nat.reduceLeDiff, Nat.reduceSub, Int.reduceToNat, reduceCtorEq]))
        exact AE.ret0 rfl ⟨rfl, trivial⟩ rfl ⟨rfl, rfl⟩
    have hp' : p ≠ 0 := by simpa using hp
    refine xPP rfl ?_
    refine AP.cut (α := Bool) (fun h => [(1, .im (.pt [Ii p, Ii w, Ii s, .sl 8 (rqR l)])), (3, Iv l.length), (6, Bv h)]) (fun _ => []) (fun h => h = true ↔ hello l) ?_ fun h6 hh6 => ?_
    · cases l with
      | nil =>
        have hz : decide (((0 : Nat) : Int) > 0) = false := rfl
        repeat (first | refine xA ?_ | refine xB ?_ | refine xC ?_ | refine xE ?_ | refine xD ?_ | refine xK ?_ | refine xS ?_ | refine xM ?_ | refine xT ?_ | refine xF ?_ | ((first | refine xR ?_ | refine xW ?_ | refine vq_id ?_); simp only [go_sem, Nat.reduceAdd, Nat.reduceLeDiff, Nat.reduceSub, Int.reduceToNat, reduceCtorEq, rqR_len, List.length_nil, hz, Bool.false_and, Bool.and_false]) | (refine ⟨by first | omega | (intros; simp_all; done) | (intros; simp_all; omega), ?_⟩; try simp only [go_sem, Nat.reduceAdd, Nat.reduceLeDiff, Nat.reduceSub, Int.reduceToNat, reduceCtorEq, rqR_len, List.length_nil, hz, Bool.false_and, Bool.and_false]))
        exact AE.meet false (by simp [hello]) (by repeat (first | exact Sub.nil _ | refine Sub.cons rfl ?_)) rfl
      | cons r t =>
        have hg0 : (rqR (r :: t)).getD 0 [] = [Ii r.n, Ii r.k, Si r.b, .v (.bool r.c), .v (.bool r.a), Ii r.ak, Ii r.an, Si r.ab] := rfl
        have hz : decide (((t.length + 1 : Nat) : Int) > 0) = true := by simp
        repeat (first | refine xA ?_ | refine xB ?_ | refine xC ?_ | refine xE ?_ | refine xD ?_ | refine xK ?_ | refine xS ?_ | refine xM ?_ | refine xT ?_ | refine xF ?_ | ((first | refine xR ?_ | refine xW ?_ | refine vq_id ?_); simp only [go_sem, Nat.reduceAdd, Nat.reduceLeDiff, Nat.reduceSub, Int.reduceToNat, reduceCtorEq, rqR_len, hg0, hz, Int.toNat_natCast, List.map_cons, List.map_nil, List.length_cons, List.length_nil, List.take_succ_cons, List.take_zero, List.drop_succ_cons, List.drop_zero, Bool.true_and]) | (refine ⟨by first | omega | (intros; simp_all; done) | (intros; simp_all; omega), ?_⟩; try simp only [go_sem, Nat.reduceAdd, Nat.reduceLeDiff, Nat.reduceSub, Int.reduceToNat, reduceCtorEq, rqR_len, hg0, hz, Int.toNat_natCast, List.map_cons, List.map_nil, List.length_cons, List.length_nil, List.take_succ_cons, List.take_zero, List.drop_succ_cons, List.drop_zero, Bool.true_and]))
        exact AE.meet (r.k == 1) (by have : kAt (r :: t) 0 = r.k := rfl; simp [hello, this]) (by repeat (first | exact Sub.nil _ | refine Sub.cons rfl ?_)) rfl
    refine xEP rfl ?_
    refine AP.cut (α := Bool) (fun h => [(1, .im (.pt [Ii p, Ii w, Ii s, .sl 8 (rqR l)])), (3, Iv l.length), (6, Bv h6), (7, Bv h)]) (fun _ => []) (fun h => h = true ↔ byeL l) ?_ fun h7 hh7 => ?_
    · cases l with
      | nil =>
        have hz : decide (((0 : Nat) : Int) > 0) = false := rfl
        repeat (first | refine xA ?_ | refine xB ?_ | refine xC ?_ | refine xE ?_ | refine xD ?_ | refine xK ?_ | refine xS ?_ | refine xM ?_ | refine xT ?_ | refine xF ?_ | ((first | refine xR ?_ | refine xW ?_ | refine vq_id ?_); simp only [go_sem, Nat.reduceAdd, Nat.reduceLeDiff, Nat.reduceSub, Int.reduceToNat, reduceCtorEq, rqR_len, List.length_nil, hz, Bool.false_and, Bool.and_false]) | (refine ⟨by first | omega | (intros; simp_all; done) | (intros; simp_all; omega), ?_⟩; try simp only [go_sem, Nat.reduceAdd, Nat.reduceLeDiff, Nat.reduceSub, Int.reduceToNat, reduceCtorEq, rqR_len, List.length_nil, hz, Bool.false_and, Bool.and_false]))
        exact AE.meet false (by simp [byeL]) (by repeat (first | exact Sub.nil _ | refine Sub.cons rfl ?_)) rfl
      | cons r t =>
        obtain ⟨r2, hm2, hg2⟩ := rqR_get (r :: t) t.length (by simp)
        rw [List.length_cons] at hw0
        have hw00 : ((t.length + 1 : Nat) : Int) - 1 = (t.length : Nat) := by omega
        rw [hw00] at hw0
        have hz : decide (((t.length + 1 : Nat) : Int) > 0) = true := by simp
        repeat (first | refine xA ?_ | refine xB ?_ | refine xC ?_ | refine xE ?_ | refine xD ?_ | refine xK ?_ | refine xS ?_ | refine xM ?_ | refine xT ?_ | refine xF ?_ | ((first | refine xR ?_ | refine xW ?_ | refine vq_id ?_); simp only [go_sem, Nat.reduceAdd, Nat.reduceLeDiff, Nat.reduceSub, Int.reduceToNat, reduceCtorEq, rqR_len, hg2, hz, hw0, hw00, Int.toNat_natCast, List.map_cons, List.map_nil, List.length_cons, List.length_nil, List.take_succ_cons, List.take_zero, List.drop_succ_cons, List.drop_zero, Bool.true_and]) | (refine ⟨by first | omega | (intros; simp_all; done) | (intros; simp_all; omega), ?_⟩; try simp only [go_sem, Nat.reduceAdd, Nat.reduceLeDiff, Nat.reduceSub, Int.reduceToNat, reduceCtorEq, rqR_len, hg2, hz, hw0, hw00, Int.toNat_natCast, List.map_cons, List.map_nil, List.length_cons, List.length_nil, List.take_succ_cons, List.take_zero, List.drop_succ_cons, List.drop_zero, Bool.true_and]))
        exact AE.meet (r2.k == 6) (by simp [byeL, kAt_eq hm2]) (by repeat (first | exact Sub.nil _ | refine Sub.cons rfl ?_)) rfl
    repeat (first | refine xA ?_ | refine xB ?_ | refine xC ?_ | refine xE ?_ | refine xD ?_ | refine xK ?_ | refine xS ?_ | refine xM ?_ | refine xT ?_ | refine xF ?_ | ((first | refine xR ?_ | refine xW ?_ | refine vq_id ?_); simp only [go_sem, Nat.reduceAdd, Nat.reduceLeDiff, Nat.reduceSub, Int.reduceToNat, reduceCtorEq]) | (refine ⟨by first | omega | (intros; simp_all; done) | (intros; simp_all; omega), ?_⟩; try simp only [go_sem, Nat.reduceAdd, Nat.reduceLeDiff, Nat.reduceSub, Int.reduceToNat, reduceCtorEq]))
    refine AP.cut (α := Bool) (fun b => [(1, .im (.pt [Ii p, Ii w, Ii s, .sl 8 (rqR l)])), (3, Iv l.length), (6, Bv h6), (7, Bv h7), (146, Bv b)]) (fun _ => []) (fun b => b = true ↔ (s = 0 ∨ ¬ (byeL l ↔ p = 2) ∨ (p = 3 ∧ 0 < l.length))) ?_ fun b hb => ?_
    · skip
      refine AP.cond rfl rfl (fun hs => ?_) (fun hs => ?_)
      · repeat (first | refine xA ?_ | refine xB ?_ | refine xC ?_ | refine xE ?_ | refine xD ?_ | refine xK ?_ | refine xS ?_ | refine xM ?_ | refine xT ?_ | refine xF ?_ | ((first | refine xR ?_ | refine xW ?_ | refine vq_id ?_); simp only [go_sem, Nat.reduceAdd, Nat.reduceLeDiff, Nat.reduceSub, Int.reduceToNat, reduceCtorEq]) | (refine ⟨by first | omega | (intros; simp_all; done) | (intros; simp_all; omega), ?_⟩; try simp only [go_sem, Nat.reduceAdd, Nat.reduceLeDiff, Nat.reduceSub, Int.reduceToNat, reduceCtorEq]))
        exact AE.meet (s == 0) (by rw [hs]; simp at hs; simp [hs]) (by repeat (first | exact Sub.nil _ | refine Sub.cons rfl ?_)) rfl
      have hs' : s ≠ 0 := by simpa using hs
      repeat (first | refine xA ?_ | refine xB ?_ | refine xC ?_ | refine xE ?_ | refine xD ?_ | refine xK ?_ | refine xS ?_ | refine xM ?_ | refine xT ?_ | refine xF ?_ | ((first | refine xR ?_ | refine xW ?_ | refine vq_id ?_); simp only [go_sem, Nat.reduceAdd, Nat.reduceLeDiff, Nat.reduceSub, Int.reduceToNat, reduceCtorEq]) | (refine ⟨by first | omega | (intros; simp_all; done) | (intros; simp_all; omega), ?_⟩; try simp only [go_sem, Nat.reduceAdd, Nat.reduceLeDiff, Nat.reduceSub, Int.reduceToNat, reduceCtorEq]))
      refine AP.cond rfl rfl (fun hb => ?_) (fun hb => ?_)
      · repeat (first | refine xA ?_ | refine xB ?_ | refine xC ?_ | refine xE ?_ | refine xD ?_ | refine xK ?_ | refine xS ?_ | refine xM ?_ | refine xT ?_ | refine xF ?_ | ((first | refine xR ?_ | refine xW ?_ | refine vq_id ?_); simp only [go_sem, Nat.reduceAdd, Nat.reduceLeDiff, Nat.reduceSub, Int.reduceToNat, reduceCtorEq]) | (refine ⟨by first | omega | (intros; simp_all; done) | (intros; simp_all; omega), ?_⟩; try simp only [go_sem, Nat.reduceAdd, Nat.reduceLeDiff, Nat.reduceSub, Int.reduceToNat, reduceCtorEq]))
        exact AE.meet (h7 != (p == 2)) (by rw [← hh7, hb]; refine ⟨fun _ => .inr (.inl ?_), fun _ => rfl⟩; cases h7 <;> simpa using hb) (by repeat (first | exact Sub.nil _ | refine Sub.cons rfl ?_)) rfl
      repeat (first | refine xA ?_ | refine xB ?_ | refine xC ?_ | refine xE ?_ | refine xD ?_ | refine xK ?_ | refine xS ?_ | refine xM ?_ | refine xT ?_ | refine xF ?_ | ((first | refine xR ?_ | refine xW ?_ | refine vq_id ?_); simp only [go_sem, Nat.reduceAdd, Nat.reduceLeDiff, Nat.reduceSub, Int.reduceToNat, reduceCtorEq]) | (refine ⟨by first | omega | (intros; simp_all; done) | (intros; simp_all; omega), ?_⟩; try simp only [go_sem, Nat.reduceAdd, Nat.reduceLeDiff, Nat.reduceSub, Int.reduceToNat, reduceCtorEq]))
      refine AE.meet (p == 3 && decide (0 < (l.length : Int))) ?_ (by repeat (first | exact Sub.nil _ | refine Sub.cons rfl ?_)) rfl
      rw [← hh7]
      have hb' : (h7 = true ↔ p = 2) := by cases h7 <;> simpa using hb
      simp [hs', hb']
    repeat (first | refine xA ?_ | refine xB ?_ | refine xC ?_ | refine xE ?_ | refine xD ?_ | refine xK ?_ | refine xS ?_ | refine xM ?_ | refine xT ?_ | refine xF ?_ | ((first | refine xR ?_ | refine xW ?_ | refine vq_id ?_); simp only [go_sem, Nat.reduceAdd, Nat.reduceLeDiff, Nat.reduceSub, Int.reduceToNat, reduceCtorEq]) | (refine ⟨by first | omega | (intros; simp_all; done) | (intros; simp_all; omega), ?_⟩; try simp only [go_sem, Nat.reduceAdd, Nat.reduceLeDiff, Nat.reduceSub, Int.reduceToNat, reduceCtorEq]))
    refine AP.cond rfl rfl (fun hb1 => ?_) (fun hb1 => ?_)
    · rw [ckE_no fun h => by
        have := h.2.2.2
        rw [if_neg hp'] at this
        rcases hb.1 hb1 with h1 | h1 | h1
        · exact this.1 h1
        · exact h1 this.2.1
        · exact this.2.2.1 h1]
      repeat (first | refine xA ?_ | refine xB ?_ | refine xC ?_ | refine xE ?_ | refine xD ?_ | refine xK ?_ | refine xS ?_ | refine xM ?_ | refine xT ?_ | refine xF ?_ | ((first | refine xR ?_ | refine xW ?_ | refine vq_id ?_); simp only [go_sem, Nat.reduceAdd, Nat.reduceLeDiff, Nat.reduceSub, Int.reduceToNat, reduceCtorEq]) | (refine ⟨by first | omega | (intros; simp_all; done) | (intros; simp_all; omega), ?_⟩; try simp only [go_sem, Nat.reduceAdd, Nat.reduceLeDiff, Nat.reduceSub, Int.reduceToNat, reduceCtorEq]))
      exact AE.ret0 rfl ⟨rfl, trivial⟩ rfl ⟨rfl, rfl⟩
    have hb' : ¬ (s = 0 ∨ ¬ (byeL l ↔ p = 2) ∨ (p = 3 ∧ 0 < l.length)) := fun h => by rw [hb.2 h] at hb1; cases hb1
    have hb2 : s ≠ 0 := fun h => hb' (.inl h)
    have hb3 : byeL l ↔ p = 2 := Classical.byContradiction fun h => hb' (.inr (.inl h))
    have hb4 : ¬ (p = 3 ∧ 0 < l.length) := fun h => hb' (.inr (.inr h))
    repeat (first | refine xA ?_ | refine xB ?_ | refine xC ?_ | refine xE ?_ | refine xD ?_ | refine xK ?_ | refine xS ?_ | refine xM ?_ | refine xT ?_ | refine xF ?_ | ((first | refine xR ?_ | refine xW ?_ | refine vq_id ?_); simp only [go_sem, Nat.reduceAdd, Nat.reduceLeDiff, Nat.reduceSub, Int.reduceToNat, reduceCtorEq]) | (refine ⟨by first | omega | (intros; simp_all; done) | (intros; simp_all; omega), ?_⟩; try simp only [go_sem, Nat.reduceAdd, Nat.reduceLeDiff, Nat.reduceSub, Int.reduceToNat, reduceCtorEq]))
    refine AP.cond rfl rfl (fun ht => ?_) (fun ht => ?_)
    · rw [ckE_no fun h => by
        have := h.2.2.2
        rw [if_neg hp'] at this
        simp only [Bool.and_eq_true, beq_iff_eq] at ht
        obtain ⟨k1, k2, k3⟩ := this.2.2.2.1 ht.1
        have ht2 := ht.2
        rw [k1, hh6.2 k2, k3] at ht2
        exact absurd ht2 (by decide)]
      repeat (first | refine xA ?_ | refine xB ?_ | refine xC ?_ | refine xE ?_ | refine xD ?_ | refine xK ?_ | refine xS ?_ | refine xM ?_ | refine xT ?_ | refine xF ?_ | ((first | refine xR ?_ | refine xW ?_ | refine vq_id ?_); simp only [go_sem, Nat.reduceAdd, Nat.reduceLeDiff, Nat.reduceSub, Int.reduceToNat, reduceCtorEq]) | (refine ⟨by first | omega | (intros; simp_all; done) | (intros; simp_all; omega), ?_⟩; try simp only [go_sem, Nat.reduceAdd, Nat.reduceLeDiff, Nat.reduceSub, Int.reduceToNat, reduceCtorEq]))
      refine AP.cond rfl rfl (fun ht' => ?_) (fun ht' => ?_)
      · repeat (first | refine xA ?_ | refine xB ?_ | refine xC ?_ | refine xE ?_ | refine xD ?_ | refine xK ?_ | refine xS ?_ | refine xM ?_ | refine xT ?_ | refine xF ?_ | ((first | refine xR ?_ | refine xW ?_ | refine vq_id ?_); simp only [go_sem, Nat.reduceAdd, Nat.reduceLeDiff, Nat.reduceSub, Int.reduceToNat, reduceCtorEq]) | (refine ⟨by first | omega | (intros; simp_all; done) | (intros; simp_all; omega), ?_⟩; try simp only [go_sem, Nat.reduceAdd, Nat.reduceLeDiff, Nat.reduceSub, Int.reduceToNat, reduceCtorEq]))
        exact AE.ret0 rfl ⟨rfl, trivial⟩ rfl ⟨rfl, rfl⟩
      · rw [ht] at ht'; cases ht'
    repeat (first | refine xA ?_ | refine xB ?_ | refine xC ?_ | refine xE ?_ | refine xD ?_ | refine xK ?_ | refine xS ?_ | refine xM ?_ | refine xT ?_ | refine xF ?_ | ((first | refine xR ?_ | refine xW ?_ | refine vq_id ?_); simp only [go_sem, Nat.reduceAdd, Nat.reduceLeDiff, Nat.reduceSub, Int.reduceToNat, reduceCtorEq]) | (refine ⟨by first | omega | (intros; simp_all; done) | (intros; simp_all; omega), ?_⟩; try simp only [go_sem, Nat.reduceAdd, Nat.reduceLeDiff, Nat.reduceSub, Int.reduceToNat, reduceCtorEq]))
    refine AP.cond rfl rfl (fun ht2 => ?_) (fun ht2 => ?_)
    · rw [ckE_no fun h => by
        have := h.2.2.2
        rw [if_neg hp'] at this
        simp only [Bool.and_eq_true, Bool.or_eq_true, decide_eq_true_eq] at ht2
        obtain ⟨k1, k2⟩ := this.2.2.2.2 ht2.1
        rcases ht2.2 with h | h
        · exact k1 (hh6.1 h)
        · omega]
      repeat (first | refine xA ?_ | refine xB ?_ | refine xC ?_ | refine xE ?_ | refine xD ?_ | refine xK ?_ | refine xS ?_ | refine xM ?_ | refine xT ?_ | refine xF ?_ | ((first | refine xR ?_ | refine xW ?_ | refine vq_id ?_); simp only [go_sem, Nat.reduceAdd, Nat.reduceLeDiff, Nat.reduceSub, Int.reduceToNat, reduceCtorEq]) | (refine ⟨by first | omega | (intros; simp_all; done) | (intros; simp_all; omega), ?_⟩; try simp only [go_sem, Nat.reduceAdd, Nat.reduceLeDiff, Nat.reduceSub, Int.reduceToNat, reduceCtorEq]))
      exact AE.ret0 rfl ⟨rfl, trivial⟩ rfl ⟨rfl, rfl⟩
    have hck : ckP p w s l := by
      refine ⟨hh1.1, hh1.2, hall, ?_⟩
      rw [if_neg hp']
      refine ⟨hb2, hb3, hb4, fun hw0 => ?_, fun hw0 => ?_⟩
      · subst hw0
        simp only [beq_self_eq_true, Bool.true_and, Bool.or_eq_false_iff, bne_eq_false_iff_eq, Bool.not_eq_false'] at ht
        exact ⟨ht.1.1, hh6.1 ht.1.2, ht.2⟩
      · simp only [hw0, decide_true, Bool.true_and, Bool.or_eq_false_iff, decide_eq_false_iff_not] at ht2
        exact ⟨fun h => by rw [hh6.2 h] at ht2; exact absurd ht2.1 (by decide), by omega⟩
    rw [ckE_yes hck]
    repeat (first | refine xA ?_ | refine xB ?_ | refine xC ?_ | refine xE ?_ | refine xD ?_ | refine xK ?_ | refine xS ?_ | refine xM ?_ | refine xT ?_ | refine xF ?_ | ((first | refine xR ?_ | refine xW ?_ | refine vq_id ?_); simp only [go_sem, Nat.reduceAdd, Nat.reduceLeDiff, Nat.reduceSub, Int.reduceToNat, reduceCtorEq]) | (refine ⟨by first | omega | (intros; simp_all; done) | (intros; simp_all; omega), ?_⟩; try simp only [go_sem, Nat.reduceAdd, Nat.reduceLeDiff, Nat.reduceSub, Int.reduceToNat, reduceCtorEq]))
    exact AE.ret0 rfl ⟨rfl, trivial⟩ rfl ⟨rfl, rfl⟩
end Go.Proofs.YtlpcdpjkdodmcaaDoor
end

section
namespace Go.Proofs.YtlpcdpjkdodmcaaDoor
open Go Go.AL Go.RowKit
set_option maxRecDepth 10000
set_option maxHeartbeats 4000000
def stepK (p k : Int) : Int := if k = 1 then 1 else if k = 6 then 2 else p
def chainE (p w s : Int) (l : List Rq) (k : Int) (t : List UInt8) : Int :=
  if decide (2 ≤ p) = true then 14 else if (p == 0 && k != 1 || p == 1 && (decide (k < 2) || decide (6 < k))) = true then 411 else if (p == 1 && (w == 0 || decide (w ≤ (l.length : Int)))) = true then 413 else if (s == 2147483647) = true then 8 else msgE k (s + 1) t
noncomputable def sendE (p w s : Int) (l : List Rq) (k : Int) (t : List UInt8) : Int := if okC p w s l = false then 13 else chainE p w s l k t
def newR (s k : Int) (t : List UInt8) : Rq := ⟨s + 1, k, t, false, false, 0, 0, []⟩
def retS (e p w s : Int) (l : List Rq) (k : Int) (t : List UInt8) : AV :=
  if e = 0 then .tup [.agg [Iv (stepK p k), Iv w, Iv (s + 1), .im (.sl 8 (rqR (l ++ [newR s k t])))], .agg [Iv k, Iv (s + 1), Sv t], Iv 0]
  else .tup [.agg [Iv 0, Iv 0, Iv 0, nilS], .agg [Iv 0, Iv 0, Sv []], Iv e]
noncomputable def sendV (p w s : Int) (l : List Rq) (k : Int) (t : List UInt8) : AV := retS (sendE p w s l k t) p w s l k t
theorem send_spec (p w s : Int) (l : List Rq) (hl : l.length ≤ 100000000) (k : Int) (t : List UInt8) : PFn Tryd.prog 22 [.agg [Iv p, Iv w, Iv s, .im (.sl 8 (rqR l))], Iv k, Sv t] (sendV p w s l k t) := by
  obtain ⟨s1, hs1⟩ : ∃ s1, IntKind.i64.wrap (s + 1) = s1 := ⟨_, rfl⟩
  have hs2 : okC p w s l = true → s1 = s + 1 := fun h => by
    have := ((okC_iff p w s l).1 h).1
    unfold headP at this
    rw [← hs1]
    exact wr (by omega)
  refine ACall.walk [0, 1, 2, 3, 6, 7, 8, 9, 10, 19, 23, 27, 48, 65, 70, 89, 90, 93] [3, 6, 7, 9] Tryd.func22 rfl Tryd.ntmps22 (by kernel_rfl) (by rfl) rfl fun W own I0 φ0 lay => ?_
  refine xPP rfl ?_
  refine AP.region rfl (by kernel_rfl) ?_; simp only [go_sem, Nat.reduceAdd, Nat.reduceLeDiff, Nat.reduceSub, Int.reduceToNat, reduceCtorEq, hs1]
  refine AQ.done ?_
  refine xEP rfl ?_
  refine AP.region rfl (by kernel_rfl) ?_; simp only [go_sem, Nat.reduceAdd, Nat.reduceLeDiff, Nat.reduceSub, Int.reduceToNat, reduceCtorEq, hs1]
  refine AQ.done ?_
  refine xEP rfl ?_
  refine AP.region rfl (by kernel_rfl) ?_; simp only [go_sem, Nat.reduceAdd, Nat.reduceLeDiff, Nat.reduceSub, Int.reduceToNat, reduceCtorEq, hs1]
  refine AQ.done ?_
  refine AE.seq ?_
  refine AP.seq rfl ?_
  refine AP.cut (α := Unit) (fun _ => [(1, Iv k), (2, Sv t), (3, .ob 0 0), (6, .ob 1 0), (7, .ob 2 0), (8, Iv 0), (9, .ob 3 0), (10, Iv (sendE p w s l k t))]) (fun _ => [(3, .var 23 [Iv k, Iv s1, Sv t]), (2, .var 23 [Iv 0, Iv 0, Sv []]), (1, .var 55 [Iv 0, Iv 0, Iv 0, nilS]), (0, .var 55 [Iv p, Iv w, Iv s, .im (.sl 8 (rqR l))])]) (fun _ => True) ?_ fun _ _ => ?_
  · repeat (first | refine xA ?_ | refine xB ?_ | refine xC ?_ | refine xE ?_ | refine xD ?_ | refine xK ?_ | refine xS ?_ | refine xM ?_ | refine xT ?_ | refine xF ?_ | ((first | refine xR ?_ | refine xW ?_ | refine vq_id ?_); simp only [go_sem, Nat.reduceAdd, Nat.reduceLeDiff, Nat.reduceSub, Int.reduceToNat, reduceCtorEq]) | (refine ⟨by first | omega | (intros; simp_all; done) | (intros; simp_all; omega), ?_⟩; try simp only [go_sem, Nat.reduceAdd, Nat.reduceLeDiff, Nat.reduceSub, Int.reduceToNat, reduceCtorEq]))
    refine AQ.fn (by kernel_rfl) rfl rfl rfl (valid_spec p w s l (by omega)) rfl ?_
    repeat (first | refine xA ?_ | refine xB ?_ | refine xC ?_ | refine xE ?_ | refine xD ?_ | refine xK ?_ | refine xS ?_ | refine xM ?_ | refine xT ?_ | refine xF ?_ | ((first | refine xR ?_ | refine xW ?_ | refine vq_id ?_); simp only [go_sem, Nat.reduceAdd, Nat.reduceLeDiff, Nat.reduceSub, Int.reduceToNat, reduceCtorEq]) | (refine ⟨by first | omega | (intros; simp_all; done) | (intros; simp_all; omega), ?_⟩; try simp only [go_sem, Nat.reduceAdd, Nat.reduceLeDiff, Nat.reduceSub, Int.reduceToNat, reduceCtorEq]))
    refine AP.cond rfl rfl (fun h1 => ?_) (fun h1 => ?_)
    · have e : sendE p w s l k t = 13 := by rw [sendE, if_pos (by simpa using h1)]
      rw [e]
      repeat (first | refine xA ?_ | refine xB ?_ | refine xC ?_ | refine xE ?_ | refine xD ?_ | refine xK ?_ | refine xS ?_ | refine xM ?_ | refine xT ?_ | refine xF ?_ | ((first | refine xR ?_ | refine xW ?_ | refine vq_id ?_); simp only [go_sem, Nat.reduceAdd, Nat.reduceLeDiff, Nat.reduceSub, Int.reduceToNat, reduceCtorEq]) | (refine ⟨by first | omega | (intros; simp_all; done) | (intros; simp_all; omega), ?_⟩; try simp only [go_sem, Nat.reduceAdd, Nat.reduceLeDiff, Nat.reduceSub, Int.reduceToNat, reduceCtorEq]))
      exact AE.meet () trivial (by repeat (first | exact Sub.nil _ | refine Sub.cons rfl ?_)) rfl
    have h1' : okC p w s l = true := by simpa using h1
    have hs3 := hs2 h1'
    rw [sendE, if_neg (by rw [h1']; decide), chainE]
    repeat (first | refine xA ?_ | refine xB ?_ | refine xC ?_ | refine xE ?_ | refine xD ?_ | refine xK ?_ | refine xS ?_ | refine xM ?_ | refine xT ?_ | refine xF ?_ | ((first | refine xR ?_ | refine xW ?_ | refine vq_id ?_); simp only [go_sem, Nat.reduceAdd, Nat.reduceLeDiff, Nat.reduceSub, Int.reduceToNat, reduceCtorEq]) | (refine ⟨by first | omega | (intros; simp_all; done) | (intros; simp_all; omega), ?_⟩; try simp only [go_sem, Nat.reduceAdd, Nat.reduceLeDiff, Nat.reduceSub, Int.reduceToNat, reduceCtorEq]))
    refine AP.cond rfl rfl (fun h2 => ?_) (fun h2 => ?_)
    · rw [if_pos h2]
      repeat (first | refine xA ?_ | refine xB ?_ | refine xC ?_ | refine xE ?_ | refine xD ?_ | refine xK ?_ | refine xS ?_ | refine xM ?_ | refine xT ?_ | refine xF ?_ | ((first | refine xR ?_ | refine xW ?_ | refine vq_id ?_); simp only [go_sem, Nat.reduceAdd, Nat.reduceLeDiff, Nat.reduceSub, Int.reduceToNat, reduceCtorEq]) | (refine ⟨by first | omega | (intros; simp_all; done) | (intros; simp_all; omega), ?_⟩; try simp only [go_sem, Nat.reduceAdd, Nat.reduceLeDiff, Nat.reduceSub, Int.reduceToNat, reduceCtorEq]))
      exact AE.meet () trivial (by repeat (first | exact Sub.nil _ | refine Sub.cons rfl ?_)) rfl
    rw [if_neg (by rw [h2]; decide)]
    repeat (first | refine xA ?_ | refine xB ?_ | refine xC ?_ | refine xE ?_ | refine xD ?_ | refine xK ?_ | refine xS ?_ | refine xM ?_ | refine xT ?_ | refine xF ?_ | ((first | refine xR ?_ | refine xW ?_ | refine vq_id ?_); simp only [go_sem, Nat.reduceAdd, Nat.reduceLeDiff, Nat.reduceSub, Int.reduceToNat, reduceCtorEq]) | (refine ⟨by first | omega | (intros; simp_all; done) | (intros; simp_all; omega), ?_⟩; try simp only [go_sem, Nat.reduceAdd, Nat.reduceLeDiff, Nat.reduceSub, Int.reduceToNat, reduceCtorEq]))
    refine AP.cond rfl rfl (fun h3 => ?_) (fun h3 => ?_)
    · rw [if_pos h3]
      repeat (first | refine xA ?_ | refine xB ?_ | refine xC ?_ | refine xE ?_ | refine xD ?_ | refine xK ?_ | refine xS ?_ | refine xM ?_ | refine xT ?_ | refine xF ?_ | ((first | refine xR ?_ | refine xW ?_ | refine vq_id ?_); simp only [go_sem, Nat.reduceAdd, Nat.reduceLeDiff, Nat.reduceSub, Int.reduceToNat, reduceCtorEq]) | (refine ⟨by first | omega | (intros; simp_all; done) | (intros; simp_all; omega), ?_⟩; try simp only [go_sem, Nat.reduceAdd, Nat.reduceLeDiff, Nat.reduceSub, Int.reduceToNat, reduceCtorEq]))
      exact AE.meet () trivial (by repeat (first | exact Sub.nil _ | refine Sub.cons rfl ?_)) rfl
    rw [if_neg (by rw [h3]; decide)]
    repeat (first | refine xA ?_ | refine xB ?_ | refine xC ?_ | refine xE ?_ | refine xD ?_ | refine xK ?_ | refine xS ?_ | refine xM ?_ | refine xT ?_ | refine xF ?_ | ((first | refine xR ?_ | refine xW ?_ | refine vq_id ?_); simp only [go_sem, Nat.reduceAdd, Nat.reduceLeDiff, Nat.reduceSub, Int.reduceToNat, reduceCtorEq, rqR_len]) | (refine ⟨by first | omega | (intros; simp_all; done) | (intros; simp_all; omega), ?_⟩; try simp only [go_sem, Nat.reduceAdd, Nat.reduceLeDiff, Nat.reduceSub, Int.reduceToNat, reduceCtorEq, rqR_len]))
    refine AP.cond rfl rfl (fun h4 => ?_) (fun h4 => ?_)
    · rw [if_pos h4]
      repeat (first | refine xA ?_ | refine xB ?_ | refine xC ?_ | refine xE ?_ | refine xD ?_ | refine xK ?_ | refine xS ?_ | refine xM ?_ | refine xT ?_ | refine xF ?_ | ((first | refine xR ?_ | refine xW ?_ | refine vq_id ?_); simp only [go_sem, Nat.reduceAdd, Nat.reduceLeDiff, Nat.reduceSub, Int.reduceToNat, reduceCtorEq]) | (refine ⟨by first | omega | (intros; simp_all; done) | (intros; simp_all; omega), ?_⟩; try simp only [go_sem, Nat.reduceAdd, Nat.reduceLeDiff, Nat.reduceSub, Int.reduceToNat, reduceCtorEq]))
      exact AE.meet () trivial (by repeat (first | exact Sub.nil _ | refine Sub.cons rfl ?_)) rfl
    rw [if_neg (by rw [h4]; decide)]
    repeat (first | refine xA ?_ | refine xB ?_ | refine xC ?_ | refine xE ?_ | refine xD ?_ | refine xK ?_ | refine xS ?_ | refine xM ?_ | refine xT ?_ | refine xF ?_ | ((first | refine xR ?_ | refine xW ?_ | refine vq_id ?_); simp only [go_sem, Nat.reduceAdd, Nat.reduceLeDiff, Nat.reduceSub, Int.reduceToNat, reduceCtorEq]) | (refine ⟨by first | omega | (intros; simp_all; done) | (intros; simp_all; omega), ?_⟩; try simp only [go_sem, Nat.reduceAdd, Nat.reduceLeDiff, Nat.reduceSub, Int.reduceToNat, reduceCtorEq]))
    refine AP.cond rfl rfl (fun h5 => ?_) (fun h5 => ?_)
    · rw [if_pos h5]
      repeat (first | refine xA ?_ | refine xB ?_ | refine xC ?_ | refine xE ?_ | refine xD ?_ | refine xK ?_ | refine xS ?_ | refine xM ?_ | refine xT ?_ | refine xF ?_ | ((first | refine xR ?_ | refine xW ?_ | refine vq_id ?_); simp only [go_sem, Nat.reduceAdd, Nat.reduceLeDiff, Nat.reduceSub, Int.reduceToNat, reduceCtorEq]) | (refine ⟨by first | omega | (intros; simp_all; done) | (intros; simp_all; omega), ?_⟩; try simp only [go_sem, Nat.reduceAdd, Nat.reduceLeDiff, Nat.reduceSub, Int.reduceToNat, reduceCtorEq]))
      exact AE.meet () trivial (by repeat (first | exact Sub.nil _ | refine Sub.cons rfl ?_)) rfl
    rw [if_neg (by rw [h5]; decide)]
    repeat (first | refine xA ?_ | refine xB ?_ | refine xC ?_ | refine xE ?_ | refine xD ?_ | refine xK ?_ | refine xS ?_ | refine xM ?_ | refine xT ?_ | refine xF ?_ | ((first | refine xR ?_ | refine xW ?_ | refine vq_id ?_); simp only [go_sem, Nat.reduceAdd, Nat.reduceLeDiff, Nat.reduceSub, Int.reduceToNat, reduceCtorEq]) | (refine ⟨by first | omega | (intros; simp_all; done) | (intros; simp_all; omega), ?_⟩; try simp only [go_sem, Nat.reduceAdd, Nat.reduceLeDiff, Nat.reduceSub, Int.reduceToNat, reduceCtorEq]))
    refine AQ.fn (by kernel_rfl) rfl rfl rfl (error_spec k s1 t) rfl ?_
    repeat (first | refine xA ?_ | refine xB ?_ | refine xC ?_ | refine xE ?_ | refine xD ?_ | refine xK ?_ | refine xS ?_ | refine xM ?_ | refine xT ?_ | refine xF ?_ | ((first | refine xR ?_ | refine xW ?_ | refine vq_id ?_); simp only [go_sem, Nat.reduceAdd, Nat.reduceLeDiff, Nat.reduceSub, Int.reduceToNat, reduceCtorEq]) | (refine ⟨by first | omega | (intros; simp_all; done) | (intros; simp_all; omega), ?_⟩; try simp only [go_sem, Nat.reduceAdd, Nat.reduceLeDiff, Nat.reduceSub, Int.reduceToNat, reduceCtorEq]))
    rw [← hs3]
    exact AE.meet () trivial (by repeat (first | exact Sub.nil _ | refine Sub.cons rfl ?_)) rfl
  repeat (first | refine xA ?_ | refine xB ?_ | refine xC ?_ | refine xE ?_ | refine xD ?_ | refine xK ?_ | refine xS ?_ | refine xM ?_ | refine xT ?_ | refine xF ?_ | ((first | refine xR ?_ | refine xW ?_ | refine vq_id ?_); simp only [go_sem, Nat.reduceAdd, Nat.reduceLeDiff, Nat.reduceSub, Int.reduceToNat, reduceCtorEq]) | (refine ⟨by first | omega | (intros; simp_all; done) | (intros; simp_all; omega), ?_⟩; try simp only [go_sem, Nat.reduceAdd, Nat.reduceLeDiff, Nat.reduceSub, Int.reduceToNat, reduceCtorEq]))
  refine AP.cond rfl rfl (fun he => ?_) (fun he => ?_)
  · rw [sendV, retS, if_neg (by simpa using he)]
    repeat (first | refine xA ?_ | refine xB ?_ | refine xC ?_ | refine xE ?_ | refine xD ?_ | refine xK ?_ | refine xS ?_ | refine xM ?_ | refine xT ?_ | refine xF ?_ | ((first | refine xR ?_ | refine xW ?_ | refine vq_id ?_); simp only [go_sem, Nat.reduceAdd, Nat.reduceLeDiff, Nat.reduceSub, Int.reduceToNat, reduceCtorEq]) | (refine ⟨by first | omega | (intros; simp_all; done) | (intros; simp_all; omega), ?_⟩; try simp only [go_sem, Nat.reduceAdd, Nat.reduceLeDiff, Nat.reduceSub, Int.reduceToNat, reduceCtorEq]))
    exact AE.retD [3, 2, 1, 0] rfl ⟨⟨rfl, Nat.le_of_ble_eq_true (by kernel_rfl)⟩, ⟨rfl, Nat.le_of_ble_eq_true (by kernel_rfl)⟩, rfl, trivial⟩ rfl ⟨rfl, rfl⟩
  have he' : sendE p w s l k t = 0 := by simpa using he
  rw [sendV, retS, if_pos he']
  have hok : okC p w s l = true := by
    rcases Bool.eq_false_or_eq_true (okC p w s l) with h | h
    · exact h
    · rw [sendE, if_pos h] at he'; cases he'
  have hs3 := hs2 hok
  subst hs3
  repeat (first | refine xA ?_ | refine xB ?_ | refine xC ?_ | refine xE ?_ | refine xD ?_ | refine xK ?_ | refine xS ?_ | refine xM ?_ | refine xT ?_ | refine xF ?_ | ((first | refine xR ?_ | refine xW ?_ | refine vq_id ?_); simp only [go_sem, Nat.reduceAdd, Nat.reduceLeDiff, Nat.reduceSub, Int.reduceToNat, reduceCtorEq, hs1]) | (refine ⟨by first | omega | (intros; simp_all; done) | (intros; simp_all; omega), ?_⟩; try simp only [go_sem, Nat.reduceAdd, Nat.reduceLeDiff, Nat.reduceSub, Int.reduceToNat, reduceCtorEq, hs1]))
  have hta : (rqR l ++ [rqC (newR s k t)]).take (l.length + 1) = rqR (l ++ [newR s k t]) := by
    rw [← rqR_snoc]; exact List.take_of_length_le (by rw [rqR_len, List.length_append]; exact Nat.le_refl _)
  refine AP.cut (α := Unit) (fun _ => [(1, Iv k), (2, Sv t), (3, .ob 0 0), (6, .ob 1 0), (7, .ob 2 0), (9, .ob 3 0)]) (fun _ => [(3, .var 23 [Iv k, Iv (s + 1), Sv t]), (2, .var 23 [Iv 0, Iv 0, Sv []]), (1, .var 55 [Iv 0, Iv 0, Iv 0, nilS]), (0, .var 55 [Iv p, Iv w, Iv (s + 1), .im (.sl 8 (rqR (l ++ [newR s k t])))])]) (fun _ => True) ?_ fun _ _ => ?_
  · skip
    refine AP.drawE 12 (Tree.node [] [0, 1, 3, 4, 5, 6, 7] [2, 8] [Tree.node [3, 4, 5, 6, 7] [] [8] [Tree.node [] [] [9] [Tree.node [] [10] [11] [Tree.node [] [] [] []]]], Tree.node [0, 1] [] [2] [Tree.node [] [] [9] [Tree.node [] [10] [11] [Tree.node [] [] [] []]]]]) (by kernel_rfl) rfl (by kernel_rfl) (by kernel_rfl) ?_
    refine vd_node ?_
    simp only [go_sem, Nat.reduceAdd, Nat.reduceLeDiff, Nat.reduceSub, Int.reduceToNat, reduceCtorEq]
    repeat' (first | with_reducible exact True.intro | with_reducible refine And.intro (by omega) ?_ | with_reducible refine And.intro ?_ ?_ | (refine AQ.nx rfl ?_; simp only [go_sem, Nat.reduceAdd, Nat.reduceLeDiff, Nat.reduceSub, Int.reduceToNat, reduceCtorEq]) | (refine AQ.callv (by kernel_rfl) rfl rfl rfl (cloneQ_spec l (by omega)) fun r' H' ⟨e1, e2⟩ => ?_; subst e1; subst e2; simp only [go_sem, Nat.reduceAdd, Nat.reduceLeDiff, Nat.reduceSub, Int.reduceToNat, reduceCtorEq]) | (refine AQ.append (hnb := rfl) (rows := rqR l) (es := 7) (by kernel_rfl) rfl rfl rfl (by rfl) Tryd.tk53 Tryd.sz67 (by show Option.map _ (zro Tryd.prog 67) = _; rw [Tryd.zr67]; rfl) Tryd.by67 (by rw [rqR_len]) (by rw [rqR_len]; simp only [List.length_cons, List.length_nil]; omega) (by rw [rqR_len]; simp only [List.length_cons, List.length_nil]; omega) ?_; simp only [go_sem, Nat.reduceAdd, Nat.reduceLeDiff, Nat.reduceSub, Int.reduceToNat, reduceCtorEq, rqR_len, List.length_cons, List.length_nil]) | refine AQ.done ?_ | (refine AQ.go (by kernel_rfl) ?_; simp only [go_sem, Nat.reduceAdd, Nat.reduceLeDiff, Nat.reduceSub, Int.reduceToNat, reduceCtorEq]; repeat (with_reducible refine And.intro (by omega) ?_); refine AQ.nx rfl ?_; simp only [go_sem, Nat.reduceAdd, Nat.reduceLeDiff, Nat.reduceSub, Int.reduceToNat, reduceCtorEq]))
    all_goals
      refine AE.freeze 4 (rows := rqR l ++ [rqC (newR s k t)]) rfl (by simp [go_sem, rqR_len]) (by simp [go_sem, rqR_len]) ?_
      simp only [go_sem, Nat.reduceAdd, Nat.reduceLeDiff, Nat.reduceSub, Int.reduceToNat, reduceCtorEq, List.drop_zero, hta]
      exact AE.meet () trivial (by repeat (first | exact Sub.nil _ | refine Sub.cons rfl ?_)) rfl
  repeat (first | refine xA ?_ | refine xB ?_ | refine xC ?_ | refine xE ?_ | refine xD ?_ | refine xK ?_ | refine xS ?_ | refine xM ?_ | refine xT ?_ | refine xF ?_ | ((first | refine xR ?_ | refine xW ?_ | refine vq_id ?_); simp only [go_sem, Nat.reduceAdd, Nat.reduceLeDiff, Nat.reduceSub, Int.reduceToNat, reduceCtorEq]) | (refine ⟨by first | omega | (intros; simp_all; done) | (intros; simp_all; omega), ?_⟩; try simp only [go_sem, Nat.reduceAdd, Nat.reduceLeDiff, Nat.reduceSub, Int.reduceToNat, reduceCtorEq]))
  refine AP.cond rfl rfl (fun hk1 => ?_) (fun hk1 => ?_)
  · have hk1' : k = 1 := by simpa using hk1
    rw [stepK, if_pos hk1']
    repeat (first | refine xA ?_ | refine xB ?_ | refine xC ?_ | refine xE ?_ | refine xD ?_ | refine xK ?_ | refine xS ?_ | refine xM ?_ | refine xT ?_ | refine xF ?_ | ((first | refine xR ?_ | refine xW ?_ | refine vq_id ?_); simp only [go_sem, Nat.reduceAdd, Nat.reduceLeDiff, Nat.reduceSub, Int.reduceToNat, reduceCtorEq]) | (refine ⟨by first | omega | (intros; simp_all; done) | (intros; simp_all; omega), ?_⟩; try simp only [go_sem, Nat.reduceAdd, Nat.reduceLeDiff, Nat.reduceSub, Int.reduceToNat, reduceCtorEq]))
    refine AP.drawE 5 (Tree.node [] [0, 1] [2] [Tree.node [1] [] [3] [Tree.node [] [4] [] []]]) (by kernel_rfl) rfl (by kernel_rfl) (by kernel_rfl) ?_
    refine vd_node ?_
    simp only [go_sem, Nat.reduceAdd, Nat.reduceLeDiff, Nat.reduceSub, Int.reduceToNat, reduceCtorEq]
    repeat' (first | with_reducible exact True.intro | with_reducible refine And.intro (by omega) ?_ | with_reducible refine And.intro ?_ ?_ | (refine AQ.nx rfl ?_; simp only [go_sem, Nat.reduceAdd, Nat.reduceLeDiff, Nat.reduceSub, Int.reduceToNat, reduceCtorEq]) | refine AQ.skip (by kernel_rfl) rfl ?_ | refine AQ.done ?_ | (refine AQ.go (by kernel_rfl) ?_; simp only [go_sem, Nat.reduceAdd, Nat.reduceLeDiff, Nat.reduceSub, Int.reduceToNat, reduceCtorEq]; repeat (with_reducible refine And.intro (by omega) ?_); refine AQ.nx rfl ?_; simp only [go_sem, Nat.reduceAdd, Nat.reduceLeDiff, Nat.reduceSub, Int.reduceToNat, reduceCtorEq]))
    all_goals
      repeat (first | refine xA ?_ | refine xB ?_ | refine xC ?_ | refine xE ?_ | refine xD ?_ | refine xK ?_ | refine xS ?_ | refine xM ?_ | refine xT ?_ | refine xF ?_ | ((first | refine xR ?_ | refine xW ?_ | refine vq_id ?_); simp only [go_sem, Nat.reduceAdd, Nat.reduceLeDiff, Nat.reduceSub, Int.reduceToNat, reduceCtorEq]) | (refine ⟨by first | omega | (intros; simp_all; done) | (intros; simp_all; omega), ?_⟩; try simp only [go_sem, Nat.reduceAdd, Nat.reduceLeDiff, Nat.reduceSub, Int.reduceToNat, reduceCtorEq]))
      exact AE.retD [3, 2, 1, 0] rfl ⟨⟨rfl, Nat.le_of_ble_eq_true (by kernel_rfl)⟩, ⟨rfl, Nat.le_of_ble_eq_true (by kernel_rfl)⟩, rfl, trivial⟩ rfl ⟨rfl, rfl⟩
  have hk1' : k ≠ 1 := by simpa using hk1
  rw [stepK, if_neg hk1']
  repeat (first | refine xA ?_ | refine xB ?_ | refine xC ?_ | refine xE ?_ | refine xD ?_ | refine xK ?_ | refine xS ?_ | refine xM ?_ | refine xT ?_ | refine xF ?_ | ((first | refine xR ?_ | refine xW ?_ | refine vq_id ?_); simp only [go_sem, Nat.reduceAdd, Nat.reduceLeDiff, Nat.reduceSub, Int.reduceToNat, reduceCtorEq]) | (refine ⟨by first | omega | (intros; simp_all; done) | (intros; simp_all; omega), ?_⟩; try simp only [go_sem, Nat.reduceAdd, Nat.reduceLeDiff, Nat.reduceSub, Int.reduceToNat, reduceCtorEq]))
  refine AP.cond rfl rfl (fun hk2 => ?_) (fun hk2 => ?_)
  · have hk2' : k = 6 := by simpa using hk2
    rw [if_pos hk2']
    repeat (first | refine xA ?_ | refine xB ?_ | refine xC ?_ | refine xE ?_ | refine xD ?_ | refine xK ?_ | refine xS ?_ | refine xM ?_ | refine xT ?_ | refine xF ?_ | ((first | refine xR ?_ | refine xW ?_ | refine vq_id ?_); simp only [go_sem, Nat.reduceAdd, Nat.reduceLeDiff, Nat.reduceSub, Int.reduceToNat, reduceCtorEq]) | (refine ⟨by first | omega | (intros; simp_all; done) | (intros; simp_all; omega), ?_⟩; try simp only [go_sem, Nat.reduceAdd, Nat.reduceLeDiff, Nat.reduceSub, Int.reduceToNat, reduceCtorEq]))
    refine AP.drawE 5 (Tree.node [] [0, 1] [2] [Tree.node [1] [] [3] [Tree.node [] [4] [] []]]) (by kernel_rfl) rfl (by kernel_rfl) (by kernel_rfl) ?_
    refine vd_node ?_
    simp only [go_sem, Nat.reduceAdd, Nat.reduceLeDiff, Nat.reduceSub, Int.reduceToNat, reduceCtorEq]
    repeat' (first | with_reducible exact True.intro | with_reducible refine And.intro (by omega) ?_ | with_reducible refine And.intro ?_ ?_ | (refine AQ.nx rfl ?_; simp only [go_sem, Nat.reduceAdd, Nat.reduceLeDiff, Nat.reduceSub, Int.reduceToNat, reduceCtorEq]) | refine AQ.skip (by kernel_rfl) rfl ?_ | refine AQ.done ?_ | (refine AQ.go (by kernel_rfl) ?_; simp only [go_sem, Nat.reduceAdd, Nat.reduceLeDiff, Nat.reduceSub, Int.reduceToNat, reduceCtorEq]; repeat (with_reducible refine And.intro (by omega) ?_); refine AQ.nx rfl ?_; simp only [go_sem, Nat.reduceAdd, Nat.reduceLeDiff, Nat.reduceSub, Int.reduceToNat, reduceCtorEq]))
    all_goals
      repeat (first | refine xA ?_ | refine xB ?_ | refine xC ?_ | refine xE ?_ | refine xD ?_ | refine xK ?_ | refine xS ?_ | refine xM ?_ | refine xT ?_ | refine xF ?_ | ((first | refine xR ?_ | refine xW ?_ | refine vq_id ?_); simp only [go_sem, Nat.reduceAdd, Nat.reduceLeDiff, Nat.reduceSub, Int.reduceToNat, reduceCtorEq]) | (refine ⟨by first | omega | (intros; simp_all; done) | (intros; simp_all; omega), ?_⟩; try simp only [go_sem, Nat.reduceAdd, Nat.reduceLeDiff, Nat.reduceSub, Int.reduceToNat, reduceCtorEq]))
      exact AE.retD [3, 2, 1, 0] rfl ⟨⟨rfl, Nat.le_of_ble_eq_true (by kernel_rfl)⟩, ⟨rfl, Nat.le_of_ble_eq_true (by kernel_rfl)⟩, rfl, trivial⟩ rfl ⟨rfl, rfl⟩
  have hk2' : k ≠ 6 := by simpa using hk2
  rw [if_neg hk2']
  repeat (first | refine xA ?_ | refine xB ?_ | refine xC ?_ | refine xE ?_ | refine xD ?_ | refine xK ?_ | refine xS ?_ | refine xM ?_ | refine xT ?_ | refine xF ?_ | ((first | refine xR ?_ | refine xW ?_ | refine vq_id ?_); simp only [go_sem, Nat.reduceAdd, Nat.reduceLeDiff, Nat.reduceSub, Int.reduceToNat, reduceCtorEq]) | (refine ⟨by first | omega | (intros; simp_all; done) | (intros; simp_all; omega), ?_⟩; try simp only [go_sem, Nat.reduceAdd, Nat.reduceLeDiff, Nat.reduceSub, Int.reduceToNat, reduceCtorEq]))
  refine AP.drawE 5 (Tree.node [] [0, 1] [2] [Tree.node [1] [] [3] [Tree.node [] [4] [] []]]) (by kernel_rfl) rfl (by kernel_rfl) (by kernel_rfl) ?_
  refine vd_node ?_
  simp only [go_sem, Nat.reduceAdd, Nat.reduceLeDiff, Nat.reduceSub, Int.reduceToNat, reduceCtorEq]
  repeat' (first | with_reducible exact True.intro | with_reducible refine And.intro (by omega) ?_ | with_reducible refine And.intro ?_ ?_ | (refine AQ.nx rfl ?_; simp only [go_sem, Nat.reduceAdd, Nat.reduceLeDiff, Nat.reduceSub, Int.reduceToNat, reduceCtorEq]) | refine AQ.skip (by kernel_rfl) rfl ?_ | refine AQ.done ?_ | (refine AQ.go (by kernel_rfl) ?_; simp only [go_sem, Nat.reduceAdd, Nat.reduceLeDiff, Nat.reduceSub, Int.reduceToNat, reduceCtorEq]; repeat (with_reducible refine And.intro (by omega) ?_); refine AQ.nx rfl ?_; simp only [go_sem, Nat.reduceAdd, Nat.reduceLeDiff, Nat.reduceSub, Int.reduceToNat, reduceCtorEq]))
  all_goals
    repeat (first | refine xA ?_ | refine xB ?_ | refine xC ?_ | refine xE ?_ | refine xD ?_ | refine xK ?_ | refine xS ?_ | refine xM ?_ | refine xT ?_ | refine xF ?_ | ((first | refine xR ?_ | refine xW ?_ | refine vq_id ?_); simp only [go_sem, Nat.reduceAdd, Nat.reduceLeDiff, Nat.reduceSub, Int.reduceToNat, reduceCtorEq]) | (refine ⟨by first | omega | (intros; simp_all; done) | (intros; simp_all; omega), ?_⟩; try simp only [go_sem, Nat.reduceAdd, Nat.reduceLeDiff, Nat.reduceSub, Int.reduceToNat, reduceCtorEq]))
    exact AE.retD [3, 2, 1, 0] rfl ⟨⟨rfl, Nat.le_of_ble_eq_true (by kernel_rfl)⟩, ⟨rfl, Nat.le_of_ble_eq_true (by kernel_rfl)⟩, rfl, trivial⟩ rfl ⟨rfl, rfl⟩
theorem send_ref (p w s : Int) (l : List Rq) (hl : l.length ≤ 100000000) (k : Int) (t : List UInt8) : PFn Tryd.prog 23 [.agg [Iv p, Iv w, Iv s, .im (.sl 8 (rqR l))], Iv k, Sv t] (sendV p w s l k t) := by
  refine ACall.walk [0, 1, 2, 3, 6, 7, 8, 9, 10, 11, 15, 25, 36, 59, 78, 87, 106, 107, 110] [3, 6, 7, 10] Tryd.func23 rfl Tryd.ntmps23 (by kernel_rfl) (by rfl) rfl fun W own I0 φ0 lay => ?_
  repeat (first | refine xA ?_ | refine xB ?_ | refine xC ?_ | refine xE ?_ | refine xD ?_ | refine xK ?_ | refine xS ?_ | refine xM ?_ | refine xT ?_ | refine xF ?_ | ((first | refine xR ?_ | refine xW ?_ | refine vq_id ?_); simp only [go_sem, Nat.reduceAdd, Nat.reduceLeDiff, Nat.reduceSub, Int.reduceToNat, reduceCtorEq]) | (refine ⟨by first | omega | (intros; simp_all; done) | (intros; simp_all; omega), ?_⟩; try simp only [go_sem, Nat.reduceAdd, Nat.reduceLeDiff, Nat.reduceSub, Int.reduceToNat, reduceCtorEq]))
  refine AQ.fn (by kernel_rfl) rfl rfl rfl (check_spec p w s l (by omega)) rfl ?_
  repeat (first | refine xA ?_ | refine xB ?_ | refine xC ?_ | refine xE ?_ | refine xD ?_ | refine xK ?_ | refine xS ?_ | refine xM ?_ | refine xT ?_ | refine xF ?_ | ((first | refine xR ?_ | refine xW ?_ | refine vq_id ?_); simp only [go_sem, Nat.reduceAdd, Nat.reduceLeDiff, Nat.reduceSub, Int.reduceToNat, reduceCtorEq]) | (refine ⟨by first | omega | (intros; simp_all; done) | (intros; simp_all; omega), ?_⟩; try simp only [go_sem, Nat.reduceAdd, Nat.reduceLeDiff, Nat.reduceSub, Int.reduceToNat, reduceCtorEq]))
  unfold sendV sendE ckE
  refine AP.cond rfl rfl (fun h1 => ?_) (fun h1 => ?_)
  · have h1' : okC p w s l = false := by
      rcases Bool.eq_false_or_eq_true (okC p w s l) with h | h
      · rw [h] at h1; exact absurd h1 (by decide)
      · exact h
    rw [h1', if_pos rfl, retS, if_neg (by decide)]
    repeat (first | refine xA ?_ | refine xB ?_ | refine xC ?_ | refine xE ?_ | refine xD ?_ | refine xK ?_ | refine xS ?_ | refine xM ?_ | refine xT ?_ | refine xF ?_ | ((first | refine xR ?_ | refine xW ?_ | refine vq_id ?_); simp only [go_sem, Nat.reduceAdd, Nat.reduceLeDiff, Nat.reduceSub, Int.reduceToNat, reduceCtorEq]) | (refine ⟨by first | omega | (intros; simp_all; done) | (intros; simp_all; omega), ?_⟩; try simp only [go_sem, Nat.reduceAdd, Nat.reduceLeDiff, Nat.reduceSub, Int.reduceToNat, reduceCtorEq]))
    exact AE.retD [2, 1, 0] rfl ⟨⟨rfl, Nat.le_of_ble_eq_true (by kernel_rfl)⟩, ⟨rfl, Nat.le_of_ble_eq_true (by kernel_rfl)⟩, rfl, trivial⟩ rfl ⟨rfl, rfl⟩
  have h1' : okC p w s l = true := by
    rcases Bool.eq_false_or_eq_true (okC p w s l) with h | h
    · exact h
    · rw [h] at h1; exact absurd h1 (by decide)
  have hd := ((okC_iff p w s l).1 h1').1
  unfold headP at hd
  have hs1 : IntKind.i64.wrap (s + 1) = s + 1 := wr (by omega)
  have hp2 : decide (2 ≤ p) = (p == 2 || p == 3) := by
    rw [Bool.eq_iff_iff]
    simp only [decide_eq_true_eq, Bool.or_eq_true, beq_iff_eq]
    omega
  rw [h1', if_neg (by decide), chainE, hp2]
  repeat (first | refine xA ?_ | refine xB ?_ | refine xC ?_ | refine xE ?_ | refine xD ?_ | refine xK ?_ | refine xS ?_ | refine xM ?_ | refine xT ?_ | refine xF ?_ | ((first | refine xR ?_ | refine xW ?_ | refine vq_id ?_); simp only [go_sem, Nat.reduceAdd, Nat.reduceLeDiff, Nat.reduceSub, Int.reduceToNat, reduceCtorEq, hs1]) | (refine ⟨by first | omega | (intros; simp_all; done) | (intros; simp_all; omega), ?_⟩; try simp only [go_sem, Nat.reduceAdd, Nat.reduceLeDiff, Nat.reduceSub, Int.reduceToNat, reduceCtorEq, hs1]))
  refine AP.cond rfl rfl (fun h2 => ?_) (fun h2 => ?_)
  · rw [if_pos h2, retS, if_neg (by decide)]
    repeat (first | refine xA ?_ | refine xB ?_ | refine xC ?_ | refine xE ?_ | refine xD ?_ | refine xK ?_ | refine xS ?_ | refine xM ?_ | refine xT ?_ | refine xF ?_ | ((first | refine xR ?_ | refine xW ?_ | refine vq_id ?_); simp only [go_sem, Nat.reduceAdd, Nat.reduceLeDiff, Nat.reduceSub, Int.reduceToNat, reduceCtorEq]) | (refine ⟨by first | omega | (intros; simp_all; done) | (intros; simp_all; omega), ?_⟩; try simp only [go_sem, Nat.reduceAdd, Nat.reduceLeDiff, Nat.reduceSub, Int.reduceToNat, reduceCtorEq]))
    exact AE.retD [3, 2, 1, 0] rfl ⟨⟨rfl, Nat.le_of_ble_eq_true (by kernel_rfl)⟩, ⟨rfl, Nat.le_of_ble_eq_true (by kernel_rfl)⟩, rfl, trivial⟩ rfl ⟨rfl, rfl⟩
  rw [if_neg (by rw [h2]; decide)]
  repeat (first | refine xA ?_ | refine xB ?_ | refine xC ?_ | refine xE ?_ | refine xD ?_ | refine xK ?_ | refine xS ?_ | refine xM ?_ | refine xT ?_ | refine xF ?_ | ((first | refine xR ?_ | refine xW ?_ | refine vq_id ?_); simp only [go_sem, Nat.reduceAdd, Nat.reduceLeDiff, Nat.reduceSub, Int.reduceToNat, reduceCtorEq, rqR_len]) | (refine ⟨by first | omega | (intros; simp_all; done) | (intros; simp_all; omega), ?_⟩; try simp only [go_sem, Nat.reduceAdd, Nat.reduceLeDiff, Nat.reduceSub, Int.reduceToNat, reduceCtorEq, rqR_len]))
  refine AP.cond rfl rfl (fun h3 => ?_) (fun h3 => ?_)
  · rw [if_pos h3, retS, if_neg (by decide)]
    repeat (first | refine xA ?_ | refine xB ?_ | refine xC ?_ | refine xE ?_ | refine xD ?_ | refine xK ?_ | refine xS ?_ | refine xM ?_ | refine xT ?_ | refine xF ?_ | ((first | refine xR ?_ | refine xW ?_ | refine vq_id ?_); simp only [go_sem, Nat.reduceAdd, Nat.reduceLeDiff, Nat.reduceSub, Int.reduceToNat, reduceCtorEq]) | (refine ⟨by first | omega | (intros; simp_all; done) | (intros; simp_all; omega), ?_⟩; try simp only [go_sem, Nat.reduceAdd, Nat.reduceLeDiff, Nat.reduceSub, Int.reduceToNat, reduceCtorEq]))
    exact AE.retD [3, 2, 1, 0] rfl ⟨⟨rfl, Nat.le_of_ble_eq_true (by kernel_rfl)⟩, ⟨rfl, Nat.le_of_ble_eq_true (by kernel_rfl)⟩, rfl, trivial⟩ rfl ⟨rfl, rfl⟩
  rw [if_neg (by rw [h3]; decide)]
  repeat (first | refine xA ?_ | refine xB ?_ | refine xC ?_ | refine xE ?_ | refine xD ?_ | refine xK ?_ | refine xS ?_ | refine xM ?_ | refine xT ?_ | refine xF ?_ | ((first | refine xR ?_ | refine xW ?_ | refine vq_id ?_); simp only [go_sem, Nat.reduceAdd, Nat.reduceLeDiff, Nat.reduceSub, Int.reduceToNat, reduceCtorEq, rqR_len]) | (refine ⟨by first | omega | (intros; simp_all; done) | (intros; simp_all; omega), ?_⟩; try simp only [go_sem, Nat.reduceAdd, Nat.reduceLeDiff, Nat.reduceSub, Int.reduceToNat, reduceCtorEq, rqR_len]))
  refine AP.cond rfl rfl (fun h4 => ?_) (fun h4 => ?_)
  · rw [if_pos h4, retS, if_neg (by decide)]
    repeat (first | refine xA ?_ | refine xB ?_ | refine xC ?_ | refine xE ?_ | refine xD ?_ | refine xK ?_ | refine xS ?_ | refine xM ?_ | refine xT ?_ | refine xF ?_ | ((first | refine xR ?_ | refine xW ?_ | refine vq_id ?_); simp only [go_sem, Nat.reduceAdd, Nat.reduceLeDiff, Nat.reduceSub, Int.reduceToNat, reduceCtorEq]) | (refine ⟨by first | omega | (intros; simp_all; done) | (intros; simp_all; omega), ?_⟩; try simp only [go_sem, Nat.reduceAdd, Nat.reduceLeDiff, Nat.reduceSub, Int.reduceToNat, reduceCtorEq]))
    exact AE.retD [3, 2, 1, 0] rfl ⟨⟨rfl, Nat.le_of_ble_eq_true (by kernel_rfl)⟩, ⟨rfl, Nat.le_of_ble_eq_true (by kernel_rfl)⟩, rfl, trivial⟩ rfl ⟨rfl, rfl⟩
  rw [if_neg (by rw [h4]; decide)]
  repeat (first | refine xA ?_ | refine xB ?_ | refine xC ?_ | refine xE ?_ | refine xD ?_ | refine xK ?_ | refine xS ?_ | refine xM ?_ | refine xT ?_ | refine xF ?_ | ((first | refine xR ?_ | refine xW ?_ | refine vq_id ?_); simp only [go_sem, Nat.reduceAdd, Nat.reduceLeDiff, Nat.reduceSub, Int.reduceToNat, reduceCtorEq, rqR_len]) | (refine ⟨by first | omega | (intros; simp_all; done) | (intros; simp_all; omega), ?_⟩; try simp only [go_sem, Nat.reduceAdd, Nat.reduceLeDiff, Nat.reduceSub, Int.reduceToNat, reduceCtorEq, rqR_len]))
  refine AP.cond rfl rfl (fun h5 => ?_) (fun h5 => ?_)
  · rw [if_pos h5, retS, if_neg (by decide)]
    repeat (first | refine xA ?_ | refine xB ?_ | refine xC ?_ | refine xE ?_ | refine xD ?_ | refine xK ?_ | refine xS ?_ | refine xM ?_ | refine xT ?_ | refine xF ?_ | ((first | refine xR ?_ | refine xW ?_ | refine vq_id ?_); simp only [go_sem, Nat.reduceAdd, Nat.reduceLeDiff, Nat.reduceSub, Int.reduceToNat, reduceCtorEq]) | (refine ⟨by first | omega | (intros; simp_all; done) | (intros; simp_all; omega), ?_⟩; try simp only [go_sem, Nat.reduceAdd, Nat.reduceLeDiff, Nat.reduceSub, Int.reduceToNat, reduceCtorEq]))
    exact AE.retD [3, 2, 1, 0] rfl ⟨⟨rfl, Nat.le_of_ble_eq_true (by kernel_rfl)⟩, ⟨rfl, Nat.le_of_ble_eq_true (by kernel_rfl)⟩, rfl, trivial⟩ rfl ⟨rfl, rfl⟩
  rw [if_neg (by rw [h5]; decide)]
  repeat (first | refine xA ?_ | refine xB ?_ | refine xC ?_ | refine xE ?_ | refine xD ?_ | refine xK ?_ | refine xS ?_ | refine xM ?_ | refine xT ?_ | refine xF ?_ | ((first | refine xR ?_ | refine xW ?_ | refine vq_id ?_); simp only [go_sem, Nat.reduceAdd, Nat.reduceLeDiff, Nat.reduceSub, Int.reduceToNat, reduceCtorEq, rqR_len]) | (refine ⟨by first | omega | (intros; simp_all; done) | (intros; simp_all; omega), ?_⟩; try simp only [go_sem, Nat.reduceAdd, Nat.reduceLeDiff, Nat.reduceSub, Int.reduceToNat, reduceCtorEq, rqR_len]))
  refine AQ.fn (by kernel_rfl) rfl rfl rfl (wrong_ref k (s + 1) t) rfl ?_
  repeat (first | refine xA ?_ | refine xB ?_ | refine xC ?_ | refine xE ?_ | refine xD ?_ | refine xK ?_ | refine xS ?_ | refine xM ?_ | refine xT ?_ | refine xF ?_ | ((first | refine xR ?_ | refine xW ?_ | refine vq_id ?_); simp only [go_sem, Nat.reduceAdd, Nat.reduceLeDiff, Nat.reduceSub, Int.reduceToNat, reduceCtorEq]) | (refine ⟨by first | omega | (intros; simp_all; done) | (intros; simp_all; omega), ?_⟩; try simp only [go_sem, Nat.reduceAdd, Nat.reduceLeDiff, Nat.reduceSub, Int.reduceToNat, reduceCtorEq]))
  refine AP.cond rfl rfl (fun h6 => ?_) (fun h6 => ?_)
  · have h6' : msgE k (s + 1) t ≠ 0 := by simpa using h6
    rw [retS, if_neg h6']
    repeat (first | refine xA ?_ | refine xB ?_ | refine xC ?_ | refine xE ?_ | refine xD ?_ | refine xK ?_ | refine xS ?_ | refine xM ?_ | refine xT ?_ | refine xF ?_ | ((first | refine xR ?_ | refine xW ?_ | refine vq_id ?_); simp only [go_sem, Nat.reduceAdd, Nat.reduceLeDiff, Nat.reduceSub, Int.reduceToNat, reduceCtorEq]) | (refine ⟨by first | omega | (intros; simp_all; done) | (intros; simp_all; omega), ?_⟩; try simp only [go_sem, Nat.reduceAdd, Nat.reduceLeDiff, Nat.reduceSub, Int.reduceToNat, reduceCtorEq]))
    exact AE.retD [3, 2, 1, 0] rfl ⟨⟨rfl, Nat.le_of_ble_eq_true (by kernel_rfl)⟩, ⟨rfl, Nat.le_of_ble_eq_true (by kernel_rfl)⟩, rfl, trivial⟩ rfl ⟨rfl, rfl⟩
  have h6' : msgE k (s + 1) t = 0 := by simpa using h6
  rw [h6', retS, if_pos rfl]
  repeat (first | refine xA ?_ | refine xB ?_ | refine xC ?_ | refine xE ?_ | refine xD ?_ | refine xK ?_ | refine xS ?_ | refine xM ?_ | refine xT ?_ | refine xF ?_ | ((first | refine xR ?_ | refine xW ?_ | refine vq_id ?_); simp only [go_sem, Nat.reduceAdd, Nat.reduceLeDiff, Nat.reduceSub, Int.reduceToNat, reduceCtorEq]) | (refine ⟨by first | omega | (intros; simp_all; done) | (intros; simp_all; omega), ?_⟩; try simp only [go_sem, Nat.reduceAdd, Nat.reduceLeDiff, Nat.reduceSub, Int.reduceToNat, reduceCtorEq]))
  have hta : (rqR l ++ [rqC (newR s k t)]).take (l.length + 1) = rqR (l ++ [newR s k t]) := by
    rw [← rqR_snoc]; exact List.take_of_length_le (by rw [rqR_len, List.length_append]; exact Nat.le_refl _)
  refine AP.cut (α := Unit) (fun _ => [(1, Iv k), (2, Sv t), (3, .ob 0 0), (6, .ob 1 0), (7, .ob 2 0), (10, .ob 3 0)]) (fun _ => [(3, .var 30 [Iv k, Iv (s + 1), Sv t]), (2, .var 30 [Iv 0, Iv 0, Sv []]), (1, .var 61 [Iv 0, Iv 0, Iv 0, nilS]), (0, .var 61 [Iv p, Iv w, Iv s, .im (.sl 8 (rqR (l ++ [newR s k t])))])]) (fun _ => True) ?_ fun _ _ => ?_
  · skip
    refine AP.drawE 12 (Tree.node [] [0, 1, 3, 4, 5, 6, 7] [2, 8] [Tree.node [3, 4, 5, 6, 7] [] [8] [Tree.node [] [] [9] [Tree.node [] [10] [11] [Tree.node [] [] [] []]]], Tree.node [0, 1] [] [2] [Tree.node [] [] [9] [Tree.node [] [10] [11] [Tree.node [] [] [] []]]]]) (by kernel_rfl) rfl (by kernel_rfl) (by kernel_rfl) ?_
    refine vd_node ?_
    simp only [go_sem, Nat.reduceAdd, Nat.reduceLeDiff, Nat.reduceSub, Int.reduceToNat, reduceCtorEq]
    repeat' (first | with_reducible exact True.intro | with_reducible refine And.intro (by omega) ?_ | with_reducible refine And.intro ?_ ?_ | (refine AQ.nx rfl ?_; simp only [go_sem, Nat.reduceAdd, Nat.reduceLeDiff, Nat.reduceSub, Int.reduceToNat, reduceCtorEq]) | (refine AQ.callv (by kernel_rfl) rfl rfl rfl (copied_spec l (by omega)) fun r' H' ⟨e1, e2⟩ => ?_; subst e1; subst e2; simp only [go_sem, Nat.reduceAdd, Nat.reduceLeDiff, Nat.reduceSub, Int.reduceToNat, reduceCtorEq]) | (refine AQ.append (hnb := rfl) (rows := rqR l) (es := 7) (by kernel_rfl) rfl rfl rfl (by rfl) Tryd.tk59 Tryd.sz71 (by show Option.map _ (zro Tryd.prog 71) = _; rw [Tryd.zr71]; rfl) Tryd.by71 (by rw [rqR_len]) (by rw [rqR_len]; simp only [List.length_cons, List.length_nil]; omega) (by rw [rqR_len]; simp only [List.length_cons, List.length_nil]; omega) ?_; simp only [go_sem, Nat.reduceAdd, Nat.reduceLeDiff, Nat.reduceSub, Int.reduceToNat, reduceCtorEq, rqR_len, List.length_cons, List.length_nil]) | refine AQ.done ?_ | (refine AQ.go (by kernel_rfl) ?_; simp only [go_sem, Nat.reduceAdd, Nat.reduceLeDiff, Nat.reduceSub, Int.reduceToNat, reduceCtorEq]; repeat (with_reducible refine And.intro (by omega) ?_); refine AQ.nx rfl ?_; simp only [go_sem, Nat.reduceAdd, Nat.reduceLeDiff, Nat.reduceSub, Int.reduceToNat, reduceCtorEq]))
    all_goals
      refine AE.freeze 4 (rows := rqR l ++ [rqC (newR s k t)]) rfl (by simp [go_sem, rqR_len]) (by simp [go_sem, rqR_len]) ?_
      simp only [go_sem, Nat.reduceAdd, Nat.reduceLeDiff, Nat.reduceSub, Int.reduceToNat, reduceCtorEq, List.drop_zero, hta]
      exact AE.meet () trivial (by repeat (first | exact Sub.nil _ | refine Sub.cons rfl ?_)) rfl
  repeat (first | refine xA ?_ | refine xB ?_ | refine xC ?_ | refine xE ?_ | refine xD ?_ | refine xK ?_ | refine xS ?_ | refine xM ?_ | refine xT ?_ | refine xF ?_ | ((first | refine xR ?_ | refine xW ?_ | refine vq_id ?_); simp only [go_sem, Nat.reduceAdd, Nat.reduceLeDiff, Nat.reduceSub, Int.reduceToNat, reduceCtorEq, hs1]) | (refine ⟨by first | omega | (intros; simp_all; done) | (intros; simp_all; omega), ?_⟩; try simp only [go_sem, Nat.reduceAdd, Nat.reduceLeDiff, Nat.reduceSub, Int.reduceToNat, reduceCtorEq, hs1]))
  refine AP.cond rfl rfl (fun hk1 => ?_) (fun hk1 => ?_)
  · have hk1' : k = 1 := by simpa using hk1
    rw [stepK, if_pos hk1']
    repeat (first | refine xA ?_ | refine xB ?_ | refine xC ?_ | refine xE ?_ | refine xD ?_ | refine xK ?_ | refine xS ?_ | refine xM ?_ | refine xT ?_ | refine xF ?_ | ((first | refine xR ?_ | refine xW ?_ | refine vq_id ?_); simp only [go_sem, Nat.reduceAdd, Nat.reduceLeDiff, Nat.reduceSub, Int.reduceToNat, reduceCtorEq]) | (refine ⟨by first | omega | (intros; simp_all; done) | (intros; simp_all; omega), ?_⟩; try simp only [go_sem, Nat.reduceAdd, Nat.reduceLeDiff, Nat.reduceSub, Int.reduceToNat, reduceCtorEq]))
    refine AP.drawE 5 (Tree.node [] [0, 1] [2] [Tree.node [1] [] [3] [Tree.node [] [4] [] []]]) (by kernel_rfl) rfl (by kernel_rfl) (by kernel_rfl) ?_
    refine vd_node ?_
    simp only [go_sem, Nat.reduceAdd, Nat.reduceLeDiff, Nat.reduceSub, Int.reduceToNat, reduceCtorEq]
    repeat' (first | with_reducible exact True.intro | with_reducible refine And.intro (by omega) ?_ | with_reducible refine And.intro ?_ ?_ | (refine AQ.nx rfl ?_; simp only [go_sem, Nat.reduceAdd, Nat.reduceLeDiff, Nat.reduceSub, Int.reduceToNat, reduceCtorEq]) | refine AQ.skip (by kernel_rfl) rfl ?_ | refine AQ.done ?_ | (refine AQ.go (by kernel_rfl) ?_; simp only [go_sem, Nat.reduceAdd, Nat.reduceLeDiff, Nat.reduceSub, Int.reduceToNat, reduceCtorEq]; repeat (with_reducible refine And.intro (by omega) ?_); refine AQ.nx rfl ?_; simp only [go_sem, Nat.reduceAdd, Nat.reduceLeDiff, Nat.reduceSub, Int.reduceToNat, reduceCtorEq]))
    all_goals
      repeat (first | refine xA ?_ | refine xB ?_ | refine xC ?_ | refine xE ?_ | refine xD ?_ | refine xK ?_ | refine xS ?_ | refine xM ?_ | refine xT ?_ | refine xF ?_ | ((first | refine xR ?_ | refine xW ?_ | refine vq_id ?_); simp only [go_sem, Nat.reduceAdd, Nat.reduceLeDiff, Nat.reduceSub, Int.reduceToNat, reduceCtorEq]) | (refine ⟨by first | omega | (intros; simp_all; done) | (intros; simp_all; omega), ?_⟩; try simp only [go_sem, Nat.reduceAdd, Nat.reduceLeDiff, Nat.reduceSub, Int.reduceToNat, reduceCtorEq]))
      exact AE.retD [3, 2, 1, 0] rfl ⟨⟨rfl, Nat.le_of_ble_eq_true (by kernel_rfl)⟩, ⟨rfl, Nat.le_of_ble_eq_true (by kernel_rfl)⟩, rfl, trivial⟩ rfl ⟨rfl, rfl⟩
  have hk1' : k ≠ 1 := by simpa using hk1
  rw [stepK, if_neg hk1']
  repeat (first | refine xA ?_ | refine xB ?_ | refine xC ?_ | refine xE ?_ | refine xD ?_ | refine xK ?_ | refine xS ?_ | refine xM ?_ | refine xT ?_ | refine xF ?_ | ((first | refine xR ?_ | refine xW ?_ | refine vq_id ?_); simp only [go_sem, Nat.reduceAdd, Nat.reduceLeDiff, Nat.reduceSub, Int.reduceToNat, reduceCtorEq]) | (refine ⟨by first | omega | (intros; simp_all; done) | (intros; simp_all; omega), ?_⟩; try simp only [go_sem, Nat.reduceAdd, Nat.reduceLeDiff, Nat.reduceSub, Int.reduceToNat, reduceCtorEq]))
  refine AP.cond rfl rfl (fun hk2 => ?_) (fun hk2 => ?_)
  · have hk2' : k = 6 := by simpa using hk2
    rw [if_pos hk2']
    repeat (first | refine xA ?_ | refine xB ?_ | refine xC ?_ | refine xE ?_ | refine xD ?_ | refine xK ?_ | refine xS ?_ | refine xM ?_ | refine xT ?_ | refine xF ?_ | ((first | refine xR ?_ | refine xW ?_ | refine vq_id ?_); simp only [go_sem, Nat.reduceAdd, Nat.reduceLeDiff, Nat.reduceSub, Int.reduceToNat, reduceCtorEq]) | (refine ⟨by first | omega | (intros; simp_all; done) | (intros; simp_all; omega), ?_⟩; try simp only [go_sem, Nat.reduceAdd, Nat.reduceLeDiff, Nat.reduceSub, Int.reduceToNat, reduceCtorEq]))
    refine AP.drawE 5 (Tree.node [] [0, 1] [2] [Tree.node [1] [] [3] [Tree.node [] [4] [] []]]) (by kernel_rfl) rfl (by kernel_rfl) (by kernel_rfl) ?_
    refine vd_node ?_
    simp only [go_sem, Nat.reduceAdd, Nat.reduceLeDiff, Nat.reduceSub, Int.reduceToNat, reduceCtorEq]
    repeat' (first | with_reducible exact True.intro | with_reducible refine And.intro (by omega) ?_ | with_reducible refine And.intro ?_ ?_ | (refine AQ.nx rfl ?_; simp only [go_sem, Nat.reduceAdd, Nat.reduceLeDiff, Nat.reduceSub, Int.reduceToNat, reduceCtorEq]) | refine AQ.skip (by kernel_rfl) rfl ?_ | refine AQ.done ?_ | (refine AQ.go (by kernel_rfl) ?_; simp only [go_sem, Nat.reduceAdd, Nat.reduceLeDiff, Nat.reduceSub, Int.reduceToNat, reduceCtorEq]; repeat (with_reducible refine And.intro (by omega) ?_); refine AQ.nx rfl ?_; simp only [go_sem, Nat.reduceAdd, Nat.reduceLeDiff, Nat.reduceSub, Int.reduceToNat, reduceCtorEq]))
    all_goals
      repeat (first | refine xA ?_ | refine xB ?_ | refine xC ?_ | refine xE ?_ | refine xD ?_ | refine xK ?_ | refine xS ?_ | refine xM ?_ | refine xT ?_ | refine xF ?_ | ((first | refine xR ?_ | refine xW ?_ | refine vq_id ?_); simp only [go_sem, Nat.reduceAdd, Nat.reduceLeDiff, Nat.reduceSub, Int.reduceToNat, reduceCtorEq]) | (refine ⟨by first | omega | (intros; simp_all; done) | (intros; simp_all; omega), ?_⟩; try simp only [go_sem, Nat.reduceAdd, Nat.reduceLeDiff, Nat.reduceSub, Int.reduceToNat, reduceCtorEq]))
      exact AE.retD [3, 2, 1, 0] rfl ⟨⟨rfl, Nat.le_of_ble_eq_true (by kernel_rfl)⟩, ⟨rfl, Nat.le_of_ble_eq_true (by kernel_rfl)⟩, rfl, trivial⟩ rfl ⟨rfl, rfl⟩
  have hk2' : k ≠ 6 := by simpa using hk2
  rw [if_neg hk2']
  repeat (first | refine xA ?_ | refine xB ?_ | refine xC ?_ | refine xE ?_ | refine xD ?_ | refine xK ?_ | refine xS ?_ | refine xM ?_ | refine xT ?_ | refine xF ?_ | ((first | refine xR ?_ | refine xW ?_ | refine vq_id ?_); simp only [go_sem, Nat.reduceAdd, Nat.reduceLeDiff, Nat.reduceSub, Int.reduceToNat, reduceCtorEq]) | (refine ⟨by first | omega | (intros; simp_all; done) | (intros; simp_all; omega), ?_⟩; try simp only [go_sem, Nat.reduceAdd, Nat.reduceLeDiff, Nat.reduceSub, Int.reduceToNat, reduceCtorEq]))
  refine AP.drawE 5 (Tree.node [] [0, 1] [2] [Tree.node [1] [] [3] [Tree.node [] [4] [] []]]) (by kernel_rfl) rfl (by kernel_rfl) (by kernel_rfl) ?_
  refine vd_node ?_
  simp only [go_sem, Nat.reduceAdd, Nat.reduceLeDiff, Nat.reduceSub, Int.reduceToNat, reduceCtorEq]
  repeat' (first | with_reducible exact True.intro | with_reducible refine And.intro (by omega) ?_ | with_reducible refine And.intro ?_ ?_ | (refine AQ.nx rfl ?_; simp only [go_sem, Nat.reduceAdd, Nat.reduceLeDiff, Nat.reduceSub, Int.reduceToNat, reduceCtorEq]) | refine AQ.skip (by kernel_rfl) rfl ?_ | refine AQ.done ?_ | (refine AQ.go (by kernel_rfl) ?_; simp only [go_sem, Nat.reduceAdd, Nat.reduceLeDiff, Nat.reduceSub, Int.reduceToNat, reduceCtorEq]; repeat (with_reducible refine And.intro (by omega) ?_); refine AQ.nx rfl ?_; simp only [go_sem, Nat.reduceAdd, Nat.reduceLeDiff, Nat.reduceSub, Int.reduceToNat, reduceCtorEq]))
  all_goals
    repeat (first | refine xA ?_ | refine xB ?_ | refine xC ?_ | refine xE ?_ | refine xD ?_ | refine xK ?_ | refine xS ?_ | refine xM ?_ | refine xT ?_ | refine xF ?_ | ((first | refine xR ?_ | refine xW ?_ | refine vq_id ?_); simp only [go_sem, Nat.reduceAdd, Nat.reduceLeDiff, Nat.reduceSub, Int.reduceToNat, reduceCtorEq]) | (refine ⟨by first | omega | (intros; simp_all; done) | (intros; simp_all; omega), ?_⟩; try simp only [go_sem, Nat.reduceAdd, Nat.reduceLeDiff, Nat.reduceSub, Int.reduceToNat, reduceCtorEq]))
    exact AE.retD [3, 2, 1, 0] rfl ⟨⟨rfl, Nat.le_of_ble_eq_true (by kernel_rfl)⟩, ⟨rfl, Nat.le_of_ble_eq_true (by kernel_rfl)⟩, rfl, trivial⟩ rfl ⟨rfl, rfl⟩
end Go.Proofs.YtlpcdpjkdodmcaaDoor
end

section
namespace Go.Proofs.YtlpcdpjkdodmcaaDoor
open Go Go.AL Go.RowKit
set_option maxRecDepth 10000
set_option maxHeartbeats 4000000
theorem welcome_facts {n : Int} {t : List UInt8} (h : msgE 7 n t = 0) : t.length ≤ 10 ∧ (∀ c ∈ t, isDig c = true) ∧ digs t ≤ 16 ∧ 1 ≤ digs t ∧ atoiV t = ((digs t : Int), true) := by
  have hb : numR 1 16 t = true := by
    unfold msgE at h
    split at h
    · cases h
    · split at h
      · cases h
      · split at h
        · cases h
        · split at h
          · rename_i hb
            simpa [bodyB] using hb
          · cases h
  unfold numR badHead at hb
  simp only [Bool.and_eq_true, Bool.not_eq_true', Bool.or_eq_false_iff, decide_eq_false_iff_not, decide_eq_true_eq, List.all_eq_true] at hb
  obtain ⟨⟨⟨⟨⟨h1, h2⟩, _⟩, h3⟩, h4⟩, h5⟩ := hb
  refine ⟨by omega, h3, by omega, by omega, atoi_digs t h3 (fun e => h1 (by rw [e]; rfl)) (by omega)⟩
theorem value_spec (l : List UInt8) (hl : l.length ≤ 10) (hd : ∀ c ∈ l, isDig c = true) : PFn Tryd.prog 50 [Sv l] (Iv (digs l)) := by
  refine ACall.walk [0, 2, 3, 4, 8] [] Tryd.func50 rfl Tryd.ntmps50 (by kernel_rfl) (by rfl) rfl fun W own I0 φ0 lay => ?_
  repeat (first | refine xA ?_ | refine xB ?_ | refine xC ?_ | refine xE ?_ | refine xD ?_ | refine xK ?_ | refine xS ?_ | refine xM ?_ | refine xT ?_ | refine xF ?_ | ((first | refine xR ?_ | refine xW ?_ | refine vq_id ?_); simp only [go_sem, Nat.reduceAdd, Nat.reduceLeDiff, Nat.reduceSub, Int.reduceToNat, reduceCtorEq]) | (refine ⟨by first | omega | (intros; simp_all; done) | (intros; simp_all; omega), ?_⟩; try simp only [go_sem, Nat.reduceAdd, Nat.reduceLeDiff, Nat.reduceSub, Int.reduceToNat, reduceCtorEq]))
  refine AP.loop rfl (α := Nat) (fun k => [(0, Sv l), (3, Iv (digs (l.take k))), (4, Iv k)]) (fun k => []) (fun k => k ≤ l.length) (fun k => l.length - k) 0 (by simp) (by repeat (first | exact Sub.nil _ | refine Sub.cons rfl ?_)) rfl fun k hk => ?_
  have hw := wr (x := (k : Int) + 1) (by omega)
  repeat (first | refine xA ?_ | refine xB ?_ | refine xC ?_ | refine xE ?_ | refine xD ?_ | refine xK ?_ | refine xS ?_ | refine xM ?_ | refine xT ?_ | refine xF ?_ | ((first | refine xR ?_ | refine xW ?_ | refine vq_id ?_); simp only [go_sem, Nat.reduceAdd, Nat.reduceLeDiff, Nat.reduceSub, Int.reduceToNat, reduceCtorEq, BA_size]) | (refine ⟨by first | omega | (intros; simp_all; done) | (intros; simp_all; omega), ?_⟩; try simp only [go_sem, Nat.reduceAdd, Nat.reduceLeDiff, Nat.reduceSub, Int.reduceToNat, reduceCtorEq, BA_size]))
  refine AP.cond rfl rfl (fun hc2 => ?_) (fun hc2 => ?_)
  · have hk' : k < l.length := by simp at hc2; omega
    obtain ⟨c, hcc⟩ : ∃ c, l.getD k 0 = c := ⟨_, rfl⟩
    have hb := c.toNat_lt
    have hcd : 48 ≤ c.toNat ∧ c.toNat ≤ 57 := by
      have := hd c (by rw [← hcc, List.getD_eq_getElem?_getD, List.getElem?_eq_getElem hk']; exact List.getElem_mem hk')
      simpa [isDig] using this
    have hst := digs_step l k hk'
    rw [hcc] at hst
    have hlt := digs_lt10 (l.take k) (fun c hc => hd c (List.mem_of_mem_take hc)) (by rw [List.length_take]; omega)
    have w1 := wr (x := 10 * (digs (l.take k) : Int)) (by omega)
    have w2 : IntKind.u8.wrap ((c.toNat : Int) - 48) = ((c.toNat - 48 : Nat) : Int) := by
      simp only [IntKind.wrap, IntKind.bits, IntKind.signed, Bool.false_and, Bool.false_eq_true, if_false]
      omega
    have w3 := wr (x := ((c.toNat - 48 : Nat) : Int)) (by omega)
    have w4 : IntKind.i64.wrap (10 * (digs (l.take k) : Int) + ((c.toNat - 48 : Nat) : Int)) = ((10 * digs (l.take k) + (c.toNat - 48) : Nat) : Int) := by rw [wr (by omega)]; omega
    repeat (first | refine xA ?_ | refine xB ?_ | refine xC ?_ | refine xE ?_ | refine xD ?_ | refine xK ?_ | refine xS ?_ | refine xM ?_ | refine xT ?_ | refine xF ?_ | ((first | refine xR ?_ | refine xW ?_ | refine vq_id ?_); simp only [go_sem, Nat.reduceAdd, Nat.reduceLeDiff, Nat.reduceSub, Int.reduceToNat, reduceCtorEq, BA_size, hcc, Int.toNat_natCast, hw, w1, w2, w3, w4]) | (refine ⟨by first | omega | (intros; simp_all; done) | (intros; simp_all; omega), ?_⟩; try simp only [go_sem, Nat.reduceAdd, Nat.reduceLeDiff, Nat.reduceSub, Int.reduceToNat, reduceCtorEq, BA_size, hcc, Int.toNat_natCast, hw, w1, w2, w3, w4]))
    refine AE.round (k + 1) (by omega) (by omega) ?_ rfl
    rw [hst]
    exact (by repeat (first | exact Sub.nil _ | refine Sub.cons rfl ?_))
  · have hke : k = l.length := by simp at hc2; omega
    rw [hke, List.take_length]
    repeat (first | refine xA ?_ | refine xB ?_ | refine xC ?_ | refine xE ?_ | refine xD ?_ | refine xK ?_ | refine xS ?_ | refine xM ?_ | refine xT ?_ | refine xF ?_ | ((first | refine xR ?_ | refine xW ?_ | refine vq_id ?_); simp only [go_sem, Nat.reduceAdd, Nat.reduceLeDiff, Nat.reduceSub, Int.reduceToNat, reduceCtorEq]) | (refine ⟨by first | omega | (intros; simp_all; done) | (intros; simp_all; omega), ?_⟩; try simp only [go_sem, Nat.reduceAdd, Nat.reduceLeDiff, Nat.reduceSub, Int.reduceToNat, reduceCtorEq]))
    exact AE.ret0 rfl ⟨rfl, trivial⟩ rfl ⟨rfl, rfl⟩
def failV (e : Int) : AV := .tup [.agg [Iv 0, Iv 0, Iv 0, nilS], .agg [Iv 0, Iv 0, Sv [], Bv false, Bv false, Iv 0, Iv 0, Sv []], Iv e]
theorem fail_spec (e : Int) : PFn Tryd.prog 48 [Iv e] (.tup [.agg [Iv 0, Iv 0, Iv 0, nilS], .agg [Iv 0, Iv 0, Sv [], Bv false, Bv false, Iv 0, Iv 0, Sv []], Iv e]) := by
  refine ACall.walk [0, 2, 3, 4] [2, 3] Tryd.func48 rfl Tryd.ntmps48 (by kernel_rfl) (by rfl) rfl fun W own I0 φ0 lay => ?_
  repeat (first | refine xA ?_ | refine xB ?_ | refine xC ?_ | refine xE ?_ | refine xD ?_ | refine xK ?_ | refine xS ?_ | refine xM ?_ | refine xT ?_ | refine xF ?_ | ((first | refine xR ?_ | refine xW ?_ | refine vq_id ?_); simp only [go_sem, Nat.reduceAdd, Nat.reduceLeDiff, Nat.reduceSub, Int.reduceToNat, reduceCtorEq]) | (refine ⟨by first | omega | (intros; simp_all; done) | (intros; simp_all; omega), ?_⟩; try simp only [go_sem, Nat.reduceAdd, Nat.reduceLeDiff, Nat.reduceSub, Int.reduceToNat, reduceCtorEq]))
  exact AE.retD [1, 0] rfl ⟨⟨rfl, Nat.le_of_ble_eq_true (by kernel_rfl)⟩, ⟨rfl, Nat.le_of_ble_eq_true (by kernel_rfl)⟩, rfl, trivial⟩ rfl ⟨rfl, rfl⟩
def hdQ (l : List Rq) : Rq := l.headD ⟨0, 0, [], false, false, 0, 0, []⟩
noncomputable def recE (p w s : Int) (l : List Rq) (K N : Int) (t : List UInt8) : Int :=
  if okC p w s l = false then 13 else if msgE K N t ≠ 0 then msgE K N t else if l.length = 0 then 412 else if ((hdQ l).n != N) = true then 412 else if ((hdQ l).k == 1 && K != 7 || (hdQ l).k != 1 && K != 8 && K != 9) = true then 411 else 0
def pStep (p k : Int) : Int := if k = 1 then p else if k = 6 then 3 else p
def wStep (w k : Int) (t : List UInt8) : Int := if k = 1 then (digs t : Int) else w
def recR (e p w s : Int) (l : List Rq) (t : List UInt8) : AV :=
  if e ≠ 0 then failV e else .tup [.agg [Iv (pStep p (hdQ l).k), Iv (wStep w (hdQ l).k t), Iv s, .im (.sl 8 (rqR l.tail))], .agg [Iv (hdQ l).n, Iv (hdQ l).k, Sv (hdQ l).b, Bv (hdQ l).c, Bv (hdQ l).a, Iv (hdQ l).ak, Iv (hdQ l).an, Sv (hdQ l).ab], Iv 0]
noncomputable def recV (p w s : Int) (l : List Rq) (K N : Int) (t : List UInt8) : AV := recR (recE p w s l K N t) p w s l t
theorem receive_spec (p w s : Int) (l : List Rq) (hl : l.length ≤ 100000000) (K N : Int) (t : List UInt8) : PFn Tryd.prog 26 [.agg [Iv p, Iv w, Iv s, .im (.sl 8 (rqR l))], .agg [Iv K, Iv N, Sv t]] (recV p w s l K N t) := by
  refine ACall.walk [0, 1, 2, 3, 4, 5, 6, 7, 8, 9, 12, 21, 41, 73, 85, 86, 96] [2, 4, 5, 9] Tryd.func26 rfl Tryd.ntmps26 (by kernel_rfl) (by rfl) rfl fun W own I0 φ0 lay => ?_
  repeat (first | refine xA ?_ | refine xB ?_ | refine xC ?_ | refine xE ?_ | refine xD ?_ | refine xK ?_ | refine xS ?_ | refine xM ?_ | refine xT ?_ | refine xF ?_ | ((first | refine xR ?_ | refine xW ?_ | refine vq_id ?_); simp only [go_sem, Nat.reduceAdd, Nat.reduceLeDiff, Nat.reduceSub, Int.reduceToNat, reduceCtorEq]) | (refine ⟨by first | omega | (intros; simp_all; done) | (intros; simp_all; omega), ?_⟩; try simp only [go_sem, Nat.reduceAdd, Nat.reduceLeDiff, Nat.reduceSub, Int.reduceToNat, reduceCtorEq]))
  refine AQ.fn (by kernel_rfl) rfl rfl rfl (valid_spec p w s l (by omega)) rfl ?_
  repeat (first | refine xA ?_ | refine xB ?_ | refine xC ?_ | refine xE ?_ | refine xD ?_ | refine xK ?_ | refine xS ?_ | refine xM ?_ | refine xT ?_ | refine xF ?_ | ((first | refine xR ?_ | refine xW ?_ | refine vq_id ?_); simp only [go_sem, Nat.reduceAdd, Nat.reduceLeDiff, Nat.reduceSub, Int.reduceToNat, reduceCtorEq]) | (refine ⟨by first | omega | (intros; simp_all; done) | (intros; simp_all; omega), ?_⟩; try simp only [go_sem, Nat.reduceAdd, Nat.reduceLeDiff, Nat.reduceSub, Int.reduceToNat, reduceCtorEq]))
  unfold recV recE
  refine AP.cond rfl rfl (fun h1 => ?_) (fun h1 => ?_)
  · have h1' : okC p w s l = false := by simpa using h1
    rw [if_pos h1', recR, if_pos (by decide)]
    repeat (first | refine xA ?_ | refine xB ?_ | refine xC ?_ | refine xE ?_ | refine xD ?_ | refine xK ?_ | refine xS ?_ | refine xM ?_ | refine xT ?_ | refine xF ?_ | ((first | refine xR ?_ | refine xW ?_ | refine vq_id ?_); simp only [go_sem, Nat.reduceAdd, Nat.reduceLeDiff, Nat.reduceSub, Int.reduceToNat, reduceCtorEq]) | (refine ⟨by first | omega | (intros; simp_all; done) | (intros; simp_all; omega), ?_⟩; try simp only [go_sem, Nat.reduceAdd, Nat.reduceLeDiff, Nat.reduceSub, Int.reduceToNat, reduceCtorEq]))
    refine AQ.fnL ([Iv 13]) (by kernel_rfl) rfl rfl rfl (by ((try simp only [List.nil_append, List.append_nil, List.cons_append, List.map_cons, List.map_nil, AV.st, constAV]); repeat (first | with_reducible exact LentC.nil | with_reducible exact LentAs.nil | with_reducible refine LentC.cons ?_ ?_ | with_reducible refine LentAs.cons ?_ ?_ | with_reducible exact Lent.im _ | with_reducible exact LentA.im _ | with_reducible refine LentA.of ?_ | with_reducible refine LentA.agg ?_ | ((with_reducible apply Lent.osw); rfl; simp only [blkR_len, wrR_len, byteR_len, List.length_append, List.length_cons, List.length_nil]) | ((with_reducible apply Lent.ob0); rfl)))) (fail_spec 13) rfl (fun _ => rfl) ?_
    repeat (first | refine xA ?_ | refine xB ?_ | refine xC ?_ | refine xE ?_ | refine xD ?_ | refine xK ?_ | refine xS ?_ | refine xM ?_ | refine xT ?_ | refine xF ?_ | ((first | refine xR ?_ | refine xW ?_ | refine vq_id ?_); simp only [go_sem, Nat.reduceAdd, Nat.reduceLeDiff, Nat.reduceSub, Int.reduceToNat, reduceCtorEq]) | (refine ⟨by first | omega | (intros; simp_all; done) | (intros; simp_all; omega), ?_⟩; try simp only [go_sem, Nat.reduceAdd, Nat.reduceLeDiff, Nat.reduceSub, Int.reduceToNat, reduceCtorEq]))
    exact AE.retD [2, 1, 0] rfl ⟨⟨rfl, Nat.le_of_ble_eq_true (by kernel_rfl)⟩, ⟨rfl, Nat.le_of_ble_eq_true (by kernel_rfl)⟩, rfl, trivial⟩ rfl ⟨rfl, rfl⟩
  have h1' : okC p w s l = true := by simpa using h1
  rw [if_neg (by rw [h1']; decide)]
  repeat (first | refine xA ?_ | refine xB ?_ | refine xC ?_ | refine xE ?_ | refine xD ?_ | refine xK ?_ | refine xS ?_ | refine xM ?_ | refine xT ?_ | refine xF ?_ | ((first | refine xR ?_ | refine xW ?_ | refine vq_id ?_); simp only [go_sem, Nat.reduceAdd, Nat.reduceLeDiff, Nat.reduceSub, Int.reduceToNat, reduceCtorEq]) | (refine ⟨by first | omega | (intros; simp_all; done) | (intros; simp_all; omega), ?_⟩; try simp only [go_sem, Nat.reduceAdd, Nat.reduceLeDiff, Nat.reduceSub, Int.reduceToNat, reduceCtorEq]))
  refine AQ.fn (by kernel_rfl) rfl rfl rfl (error_spec K N t) rfl ?_
  repeat (first | refine xA ?_ | refine xB ?_ | refine xC ?_ | refine xE ?_ | refine xD ?_ | refine xK ?_ | refine xS ?_ | refine xM ?_ | refine xT ?_ | refine xF ?_ | ((first | refine xR ?_ | refine xW ?_ | refine vq_id ?_); simp only [go_sem, Nat.reduceAdd, Nat.reduceLeDiff, Nat.reduceSub, Int.reduceToNat, reduceCtorEq]) | (refine ⟨by first | omega | (intros; simp_all; done) | (intros; simp_all; omega), ?_⟩; try simp only [go_sem, Nat.reduceAdd, Nat.reduceLeDiff, Nat.reduceSub, Int.reduceToNat, reduceCtorEq]))
  refine AP.cond rfl rfl (fun h2 => ?_) (fun h2 => ?_)
  · have h2' : msgE K N t ≠ 0 := by simpa using h2
    rw [if_pos h2', recR, if_pos h2']
    repeat (first | refine xA ?_ | refine xB ?_ | refine xC ?_ | refine xE ?_ | refine xD ?_ | refine xK ?_ | refine xS ?_ | refine xM ?_ | refine xT ?_ | refine xF ?_ | ((first | refine xR ?_ | refine xW ?_ | refine vq_id ?_); simp only [go_sem, Nat.reduceAdd, Nat.reduceLeDiff, Nat.reduceSub, Int.reduceToNat, reduceCtorEq]) | (refine ⟨by first | omega | (intros; simp_all; done) | (intros; simp_all; omega), ?_⟩; try simp only [go_sem, Nat.reduceAdd, Nat.reduceLeDiff, Nat.reduceSub, Int.reduceToNat, reduceCtorEq]))
    refine AQ.fnL ([Iv (msgE K N t)]) (by kernel_rfl) rfl rfl rfl (by ((try simp only [List.nil_append, List.append_nil, List.cons_append, List.map_cons, List.map_nil, AV.st, constAV]); repeat (first | with_reducible exact LentC.nil | with_reducible exact LentAs.nil | with_reducible refine LentC.cons ?_ ?_ | with_reducible refine LentAs.cons ?_ ?_ | with_reducible exact Lent.im _ | with_reducible exact LentA.im _ | with_reducible refine LentA.of ?_ | with_reducible refine LentA.agg ?_ | ((with_reducible apply Lent.osw); rfl; simp only [blkR_len, wrR_len, byteR_len, List.length_append, List.length_cons, List.length_nil]) | ((with_reducible apply Lent.ob0); rfl)))) (fail_spec (msgE K N t)) rfl (fun _ => rfl) ?_
    repeat (first | refine xA ?_ | refine xB ?_ | refine xC ?_ | refine xE ?_ | refine xD ?_ | refine xK ?_ | refine xS ?_ | refine xM ?_ | refine xT ?_ | refine xF ?_ | ((first | refine xR ?_ | refine xW ?_ | refine vq_id ?_); simp only [go_sem, Nat.reduceAdd, Nat.reduceLeDiff, Nat.reduceSub, Int.reduceToNat, reduceCtorEq]) | (refine ⟨by first | omega | (intros; simp_all; done) | (intros; simp_all; omega), ?_⟩; try simp only [go_sem, Nat.reduceAdd, Nat.reduceLeDiff, Nat.reduceSub, Int.reduceToNat, reduceCtorEq]))
    exact AE.retD [2, 1, 0] rfl ⟨⟨rfl, Nat.le_of_ble_eq_true (by kernel_rfl)⟩, ⟨rfl, Nat.le_of_ble_eq_true (by kernel_rfl)⟩, rfl, trivial⟩ rfl ⟨rfl, rfl⟩
  have h2' : msgE K N t = 0 := by simpa using h2
  rw [if_neg (by rw [h2']; decide)]
  cases l with
  | nil =>
    rw [if_pos (by rfl), recR, if_pos (by decide)]
    repeat (first | refine xA ?_ | refine xB ?_ | refine xC ?_ | refine xE ?_ | refine xD ?_ | refine xK ?_ | refine xS ?_ | refine xM ?_ | refine xT ?_ | refine xF ?_ | ((first | refine xR ?_ | refine xW ?_ | refine vq_id ?_); simp only [go_sem, Nat.reduceAdd, Nat.reduceLeDiff, Nat.reduceSub, Int.reduceToNat, reduceCtorEq, rqR_len]) | (refine ⟨by first | omega | (intros; simp_all; done) | (intros; simp_all; omega), ?_⟩; try simp only [go_sem, Nat.reduceAdd, Nat.reduceLeDiff, Nat.reduceSub, Int.reduceToNat, reduceCtorEq, rqR_len]))
    refine AQ.fnL ([Iv 412]) (by kernel_rfl) rfl rfl rfl (by ((try simp only [List.nil_append, List.append_nil, List.cons_append, List.map_cons, List.map_nil, AV.st, constAV]); repeat (first | with_reducible exact LentC.nil | with_reducible exact LentAs.nil | with_reducible refine LentC.cons ?_ ?_ | with_reducible refine LentAs.cons ?_ ?_ | with_reducible exact Lent.im _ | with_reducible exact LentA.im _ | with_reducible refine LentA.of ?_ | with_reducible refine LentA.agg ?_ | ((with_reducible apply Lent.osw); rfl; simp only [blkR_len, wrR_len, byteR_len, List.length_append, List.length_cons, List.length_nil]) | ((with_reducible apply Lent.ob0); rfl)))) (fail_spec 412) rfl (fun _ => rfl) ?_
    repeat (first | refine xA ?_ | refine xB ?_ | refine xC ?_ | refine xE ?_ | refine xD ?_ | refine xK ?_ | refine xS ?_ | refine xM ?_ | refine xT ?_ | refine xF ?_ | ((first | refine xR ?_ | refine xW ?_ | refine vq_id ?_); simp only [go_sem, Nat.reduceAdd, Nat.reduceLeDiff, Nat.reduceSub, Int.reduceToNat, reduceCtorEq]) | (refine ⟨by first | omega | (intros; simp_all; done) | (intros; simp_all; omega), ?_⟩; try simp only [go_sem, Nat.reduceAdd, Nat.reduceLeDiff, Nat.reduceSub, Int.reduceToNat, reduceCtorEq]))
    exact AE.retD [2, 1, 0] rfl ⟨⟨rfl, Nat.le_of_ble_eq_true (by kernel_rfl)⟩, ⟨rfl, Nat.le_of_ble_eq_true (by kernel_rfl)⟩, rfl, trivial⟩ rfl ⟨rfl, rfl⟩
  | cons q tl =>
    simp only [List.length_cons] at hl
    have hq : hdQ (q :: tl) = q := rfl
    have ht : (q :: tl).tail = tl := rfl
    rw [if_neg (by simp), hq]
    have hg0 : (rqR (q :: tl)).getD 0 [] = [Ii q.n, Ii q.k, Si q.b, .v (.bool q.c), .v (.bool q.a), Ii q.ak, Ii q.an, Si q.ab] := rfl
    have hd1 : (rqR (q :: tl)).drop 1 = rqR tl := rfl
    have hz : (((tl.length + 1 : Nat) : Int) == 0) = false := by rw [beq_eq_false_iff_ne]; omega
    repeat (first | refine xA ?_ | refine xB ?_ | refine xC ?_ | refine xE ?_ | refine xD ?_ | refine xK ?_ | refine xS ?_ | refine xM ?_ | refine xT ?_ | refine xF ?_ | ((first | refine xR ?_ | refine xW ?_ | refine vq_id ?_); simp only [go_sem, Nat.reduceAdd, Nat.reduceLeDiff, Nat.reduceSub, Int.reduceToNat, reduceCtorEq, rqR_len, List.length_cons, hz, hg0, List.map_cons, List.map_nil, List.length_nil, List.take_succ_cons, List.take_zero, List.drop_succ_cons, List.drop_zero, Bool.false_or, Bool.not_false]) | (refine ⟨by first | omega | (intros; simp_all; done) | (intros; simp_all; omega), ?_⟩; try simp only [go_sem, Nat.reduceAdd, Nat.reduceLeDiff, Nat.reduceSub, Int.reduceToNat, reduceCtorEq, rqR_len, List.length_cons, hz, hg0, List.map_cons, List.map_nil, List.length_nil, List.take_succ_cons, List.take_zero, List.drop_succ_cons, List.drop_zero, Bool.false_or, Bool.not_false]))
    refine AP.cond rfl rfl (fun h3 => ?_) (fun h3 => ?_)
    · rw [if_pos h3, recR, if_pos (by decide)]
      repeat (first | refine xA ?_ | refine xB ?_ | refine xC ?_ | refine xE ?_ | refine xD ?_ | refine xK ?_ | refine xS ?_ | refine xM ?_ | refine xT ?_ | refine xF ?_ | ((first | refine xR ?_ | refine xW ?_ | refine vq_id ?_); simp only [go_sem, Nat.reduceAdd, Nat.reduceLeDiff, Nat.reduceSub, Int.reduceToNat, reduceCtorEq]) | (refine ⟨by first | omega | (intros; simp_all; done) | (intros; simp_all; omega), ?_⟩; try simp only [go_sem, Nat.reduceAdd, Nat.reduceLeDiff, Nat.reduceSub, Int.reduceToNat, reduceCtorEq]))
      refine AQ.fnL ([Iv 412]) (by kernel_rfl) rfl rfl rfl (by ((try simp only [List.nil_append, List.append_nil, List.cons_append, List.map_cons, List.map_nil, AV.st, constAV]); repeat (first | with_reducible exact LentC.nil | with_reducible exact LentAs.nil | with_reducible refine LentC.cons ?_ ?_ | with_reducible refine LentAs.cons ?_ ?_ | with_reducible exact Lent.im _ | with_reducible exact LentA.im _ | with_reducible refine LentA.of ?_ | with_reducible refine LentA.agg ?_ | ((with_reducible apply Lent.osw); rfl; simp only [blkR_len, wrR_len, byteR_len, List.length_append, List.length_cons, List.length_nil]) | ((with_reducible apply Lent.ob0); rfl)))) (fail_spec 412) rfl (fun _ => rfl) ?_
      repeat (first | refine xA ?_ | refine xB ?_ | refine xC ?_ | refine xE ?_ | refine xD ?_ | refine xK ?_ | refine xS ?_ | refine xM ?_ | refine xT ?_ | refine xF ?_ | ((first | refine xR ?_ | refine xW ?_ | refine vq_id ?_); simp only [go_sem, Nat.reduceAdd, Nat.reduceLeDiff, Nat.reduceSub, Int.reduceToNat, reduceCtorEq]) | (refine ⟨by first | omega | (intros; simp_all; done) | (intros; simp_all; omega), ?_⟩; try simp only [go_sem, Nat.reduceAdd, Nat.reduceLeDiff, Nat.reduceSub, Int.reduceToNat, reduceCtorEq]))
      exact AE.retD [2, 1, 0] rfl ⟨⟨rfl, Nat.le_of_ble_eq_true (by kernel_rfl)⟩, ⟨rfl, Nat.le_of_ble_eq_true (by kernel_rfl)⟩, rfl, trivial⟩ rfl ⟨rfl, rfl⟩
    rw [if_neg (by rw [h3]; decide)]
    repeat (first | refine xA ?_ | refine xB ?_ | refine xC ?_ | refine xE ?_ | refine xD ?_ | refine xK ?_ | refine xS ?_ | refine xM ?_ | refine xT ?_ | refine xF ?_ | ((first | refine xR ?_ | refine xW ?_ | refine vq_id ?_); simp only [go_sem, Nat.reduceAdd, Nat.reduceLeDiff, Nat.reduceSub, Int.reduceToNat, reduceCtorEq, rqR_len, List.length_cons, hz, hg0, List.map_cons, List.map_nil, List.length_nil, List.take_succ_cons, List.take_zero, List.drop_succ_cons, List.drop_zero]) | (refine ⟨by first | omega | (intros; simp_all; done) | (intros; simp_all; omega), ?_⟩; try simp only [go_sem, Nat.reduceAdd, Nat.reduceLeDiff, Nat.reduceSub, Int.reduceToNat, reduceCtorEq, rqR_len, List.length_cons, hz, hg0, List.map_cons, List.map_nil, List.length_nil, List.take_succ_cons, List.take_zero, List.drop_succ_cons, List.drop_zero]))
    refine AP.cond rfl rfl (fun h4 => ?_) (fun h4 => ?_)
    · rw [if_pos h4, recR, if_pos (by decide)]
      repeat (first | refine xA ?_ | refine xB ?_ | refine xC ?_ | refine xE ?_ | refine xD ?_ | refine xK ?_ | refine xS ?_ | refine xM ?_ | refine xT ?_ | refine xF ?_ | ((first | refine xR ?_ | refine xW ?_ | refine vq_id ?_); simp only [go_sem, Nat.reduceAdd, Nat.reduceLeDiff, Nat.reduceSub, Int.reduceToNat, reduceCtorEq]) | (refine ⟨by first | omega | (intros; simp_all; done) | (intros; simp_all; omega), ?_⟩; try simp only [go_sem, Nat.reduceAdd, Nat.reduceLeDiff, Nat.reduceSub, Int.reduceToNat, reduceCtorEq]))
      refine AQ.fnL ([Iv 411]) (by kernel_rfl) rfl rfl rfl (by ((try simp only [List.nil_append, List.append_nil, List.cons_append, List.map_cons, List.map_nil, AV.st, constAV]); repeat (first | with_reducible exact LentC.nil | with_reducible exact LentAs.nil | with_reducible refine LentC.cons ?_ ?_ | with_reducible refine LentAs.cons ?_ ?_ | with_reducible exact Lent.im _ | with_reducible exact LentA.im _ | with_reducible refine LentA.of ?_ | with_reducible refine LentA.agg ?_ | ((with_reducible apply Lent.osw); rfl; simp only [blkR_len, wrR_len, byteR_len, List.length_append, List.length_cons, List.length_nil]) | ((with_reducible apply Lent.ob0); rfl)))) (fail_spec 411) rfl (fun _ => rfl) ?_
      repeat (first | refine xA ?_ | refine xB ?_ | refine xC ?_ | refine xE ?_ | refine xD ?_ | refine xK ?_ | refine xS ?_ | refine xM ?_ | refine xT ?_ | refine xF ?_ | ((first | refine xR ?_ | refine xW ?_ | refine vq_id ?_); simp only [go_sem, Nat.reduceAdd, Nat.reduceLeDiff, Nat.reduceSub, Int.reduceToNat, reduceCtorEq]) | (refine ⟨by first | omega | (intros; simp_all; done) | (intros; simp_all; omega), ?_⟩; try simp only [go_sem, Nat.reduceAdd, Nat.reduceLeDiff, Nat.reduceSub, Int.reduceToNat, reduceCtorEq]))
      exact AE.retD [3, 2, 1, 0] rfl ⟨⟨rfl, Nat.le_of_ble_eq_true (by kernel_rfl)⟩, ⟨rfl, Nat.le_of_ble_eq_true (by kernel_rfl)⟩, rfl, trivial⟩ rfl ⟨rfl, rfl⟩
    rw [if_neg (by rw [h4]; decide), recR, if_neg (by decide), hq, ht]
    repeat (first | refine xA ?_ | refine xB ?_ | refine xC ?_ | refine xE ?_ | refine xD ?_ | refine xK ?_ | refine xS ?_ | refine xM ?_ | refine xT ?_ | refine xF ?_ | ((first | refine xR ?_ | refine xW ?_ | refine vq_id ?_); simp only [go_sem, Nat.reduceAdd, Nat.reduceLeDiff, Nat.reduceSub, Int.reduceToNat, reduceCtorEq, rqR_len, hd1, List.length_cons, hz, hg0, List.map_cons, List.map_nil, List.length_nil, List.take_succ_cons, List.take_zero, List.drop_succ_cons, List.drop_zero]) | (refine ⟨by first | omega | (intros; simp_all; done) | (intros; simp_all; omega), ?_⟩; try simp only [go_sem, Nat.reduceAdd, Nat.reduceLeDiff, Nat.reduceSub, Int.reduceToNat, reduceCtorEq, rqR_len, hd1, List.length_cons, hz, hg0, List.map_cons, List.map_nil, List.length_nil, List.take_succ_cons, List.take_zero, List.drop_succ_cons, List.drop_zero]))
    refine AQ.callv (by kernel_rfl) rfl rfl rfl (cloneQ_spec tl (by omega)) fun r' H' ⟨e1, e2⟩ => ?_
    subst e1
    subst e2
    simp only [go_sem, Nat.reduceAdd, Nat.reduceLeDiff, Nat.reduceSub, Int.reduceToNat, reduceCtorEq]
    refine AQ.done ?_
    have hta : (rqR tl).take tl.length = rqR tl := List.take_of_length_le (by rw [rqR_len]; exact Nat.le_refl _)
    refine AE.freeze 4 (rows := rqR tl) rfl (by simp [go_sem, rqR_len]) (by simp [go_sem, rqR_len]) ?_
    simp only [go_sem, Nat.reduceAdd, Nat.reduceLeDiff, Nat.reduceSub, Int.reduceToNat, reduceCtorEq, List.drop_zero, hta]
    repeat (first | refine xA ?_ | refine xB ?_ | refine xC ?_ | refine xE ?_ | refine xD ?_ | refine xK ?_ | refine xS ?_ | refine xM ?_ | refine xT ?_ | refine xF ?_ | ((first | refine xR ?_ | refine xW ?_ | refine vq_id ?_); simp only [go_sem, Nat.reduceAdd, Nat.reduceLeDiff, Nat.reduceSub, Int.reduceToNat, reduceCtorEq]) | (refine ⟨by first | omega | (intros; simp_all; done) | (intros; simp_all; omega), ?_⟩; try simp only [go_sem, Nat.reduceAdd, Nat.reduceLeDiff, Nat.reduceSub, Int.reduceToNat, reduceCtorEq]))
    refine AP.cond rfl rfl (fun hk1 => ?_) (fun hk1 => ?_)
    · have hk1' : q.k = 1 := by simpa using hk1
      have hK : K = 7 := by
        rw [hk1'] at h4
        simpa using h4
      subst hK
      obtain ⟨w1, w2, w3, w4, w5⟩ := welcome_facts h2'
      have hn := number_spec 1 16 t (by omega)
      rw [w5] at hn
      rw [pStep, if_pos hk1', wStep, if_pos hk1']
      repeat (first | refine xA ?_ | refine xB ?_ | refine xC ?_ | refine xE ?_ | refine xD ?_ | refine xK ?_ | refine xS ?_ | refine xM ?_ | refine xT ?_ | refine xF ?_ | ((first | refine xR ?_ | refine xW ?_ | refine vq_id ?_); simp only [go_sem, Nat.reduceAdd, Nat.reduceLeDiff, Nat.reduceSub, Int.reduceToNat, reduceCtorEq]) | (refine ⟨by first | omega | (intros; simp_all; done) | (intros; simp_all; omega), ?_⟩; try simp only [go_sem, Nat.reduceAdd, Nat.reduceLeDiff, Nat.reduceSub, Int.reduceToNat, reduceCtorEq]))
      refine AQ.fn (by kernel_rfl) rfl rfl rfl (hn) rfl ?_
      repeat (first | refine xA ?_ | refine xB ?_ | refine xC ?_ | refine xE ?_ | refine xD ?_ | refine xK ?_ | refine xS ?_ | refine xM ?_ | refine xT ?_ | refine xF ?_ | ((first | refine xR ?_ | refine xW ?_ | refine vq_id ?_); simp only [go_sem, Nat.reduceAdd, Nat.reduceLeDiff, Nat.reduceSub, Int.reduceToNat, reduceCtorEq]) | (refine ⟨by first | omega | (intros; simp_all; done) | (intros; simp_all; omega), ?_⟩; try simp only [go_sem, Nat.reduceAdd, Nat.reduceLeDiff, Nat.reduceSub, Int.reduceToNat, reduceCtorEq]))
      refine AP.drawE 5 (Tree.node [] [0, 1] [2] [Tree.node [1] [] [3] [Tree.node [] [4] [] []]]) (by kernel_rfl) rfl (by kernel_rfl) (by kernel_rfl) ?_
      refine vd_node ?_
      simp only [go_sem, Nat.reduceAdd, Nat.reduceLeDiff, Nat.reduceSub, Int.reduceToNat, reduceCtorEq]
      repeat' (first | with_reducible exact True.intro | with_reducible refine And.intro (by omega) ?_ | with_reducible refine And.intro ?_ ?_ | (refine AQ.nx rfl ?_; simp only [go_sem, Nat.reduceAdd, Nat.reduceLeDiff, Nat.reduceSub, Int.reduceToNat, reduceCtorEq]) | refine AQ.skip (by kernel_rfl) rfl ?_ | refine AQ.done ?_ | (refine AQ.go (by kernel_rfl) ?_; simp only [go_sem, Nat.reduceAdd, Nat.reduceLeDiff, Nat.reduceSub, Int.reduceToNat, reduceCtorEq]; repeat (with_reducible refine And.intro (by omega) ?_); refine AQ.nx rfl ?_; simp only [go_sem, Nat.reduceAdd, Nat.reduceLeDiff, Nat.reduceSub, Int.reduceToNat, reduceCtorEq]))
      all_goals
        repeat (first | refine xA ?_ | refine xB ?_ | refine xC ?_ | refine xE ?_ | refine xD ?_ | refine xK ?_ | refine xS ?_ | refine xM ?_ | refine xT ?_ | refine xF ?_ | ((first | refine xR ?_ | refine xW ?_ | refine vq_id ?_); simp only [go_sem, Nat.reduceAdd, Nat.reduceLeDiff, Nat.reduceSub, Int.reduceToNat, reduceCtorEq]) | (refine ⟨by first | omega | (intros; simp_all; done) | (intros; simp_all; omega), ?_⟩; try simp only [go_sem, Nat.reduceAdd, Nat.reduceLeDiff, Nat.reduceSub, Int.reduceToNat, reduceCtorEq]))
        exact AE.retD [3, 2, 1, 0] rfl ⟨⟨rfl, Nat.le_of_ble_eq_true (by kernel_rfl)⟩, ⟨rfl, Nat.le_of_ble_eq_true (by kernel_rfl)⟩, rfl, trivial⟩ rfl ⟨rfl, rfl⟩
    have hk1' : q.k ≠ 1 := by simpa using hk1
    rw [pStep, if_neg hk1', wStep, if_neg hk1']
    repeat (first | refine xA ?_ | refine xB ?_ | refine xC ?_ | refine xE ?_ | refine xD ?_ | refine xK ?_ | refine xS ?_ | refine xM ?_ | refine xT ?_ | refine xF ?_ | ((first | refine xR ?_ | refine xW ?_ | refine vq_id ?_); simp only [go_sem, Nat.reduceAdd, Nat.reduceLeDiff, Nat.reduceSub, Int.reduceToNat, reduceCtorEq]) | (refine ⟨by first | omega | (intros; simp_all; done) | (intros; simp_all; omega), ?_⟩; try simp only [go_sem, Nat.reduceAdd, Nat.reduceLeDiff, Nat.reduceSub, Int.reduceToNat, reduceCtorEq]))
    refine AP.cond rfl rfl (fun hk2 => ?_) (fun hk2 => ?_)
    · have hk2' : q.k = 6 := by simpa using hk2
      rw [if_pos hk2']
      repeat (first | refine xA ?_ | refine xB ?_ | refine xC ?_ | refine xE ?_ | refine xD ?_ | refine xK ?_ | refine xS ?_ | refine xM ?_ | refine xT ?_ | refine xF ?_ | ((first | refine xR ?_ | refine xW ?_ | refine vq_id ?_); simp only [go_sem, Nat.reduceAdd, Nat.reduceLeDiff, Nat.reduceSub, Int.reduceToNat, reduceCtorEq]) | (refine ⟨by first | omega | (intros; simp_all; done) | (intros; simp_all; omega), ?_⟩; try simp only [go_sem, Nat.reduceAdd, Nat.reduceLeDiff, Nat.reduceSub, Int.reduceToNat, reduceCtorEq]))
      refine AP.drawE 5 (Tree.node [] [0, 1] [2] [Tree.node [1] [] [3] [Tree.node [] [4] [] []]]) (by kernel_rfl) rfl (by kernel_rfl) (by kernel_rfl) ?_
      refine vd_node ?_
      simp only [go_sem, Nat.reduceAdd, Nat.reduceLeDiff, Nat.reduceSub, Int.reduceToNat, reduceCtorEq]
      repeat' (first | with_reducible exact True.intro | with_reducible refine And.intro (by omega) ?_ | with_reducible refine And.intro ?_ ?_ | (refine AQ.nx rfl ?_; simp only [go_sem, Nat.reduceAdd, Nat.reduceLeDiff, Nat.reduceSub, Int.reduceToNat, reduceCtorEq]) | refine AQ.skip (by kernel_rfl) rfl ?_ | refine AQ.done ?_ | (refine AQ.go (by kernel_rfl) ?_; simp only [go_sem, Nat.reduceAdd, Nat.reduceLeDiff, Nat.reduceSub, Int.reduceToNat, reduceCtorEq]; repeat (with_reducible refine And.intro (by omega) ?_); refine AQ.nx rfl ?_; simp only [go_sem, Nat.reduceAdd, Nat.reduceLeDiff, Nat.reduceSub, Int.reduceToNat, reduceCtorEq]))
      all_goals
        repeat (first | refine xA ?_ | refine xB ?_ | refine xC ?_ | refine xE ?_ | refine xD ?_ | refine xK ?_ | refine xS ?_ | refine xM ?_ | refine xT ?_ | refine xF ?_ | ((first | refine xR ?_ | refine xW ?_ | refine vq_id ?_); simp only [go_sem, Nat.reduceAdd, Nat.reduceLeDiff, Nat.reduceSub, Int.reduceToNat, reduceCtorEq]) | (refine ⟨by first | omega | (intros; simp_all; done) | (intros; simp_all; omega), ?_⟩; try simp only [go_sem, Nat.reduceAdd, Nat.reduceLeDiff, Nat.reduceSub, Int.reduceToNat, reduceCtorEq]))
        exact AE.retD [3, 2, 1, 0] rfl ⟨⟨rfl, Nat.le_of_ble_eq_true (by kernel_rfl)⟩, ⟨rfl, Nat.le_of_ble_eq_true (by kernel_rfl)⟩, rfl, trivial⟩ rfl ⟨rfl, rfl⟩
    have hk2' : q.k ≠ 6 := by simpa using hk2
    rw [if_neg hk2']
    repeat (first | refine xA ?_ | refine xB ?_ | refine xC ?_ | refine xE ?_ | refine xD ?_ | refine xK ?_ | refine xS ?_ | refine xM ?_ | refine xT ?_ | refine xF ?_ | ((first | refine xR ?_ | refine xW ?_ | refine vq_id ?_); simp only [go_sem, Nat.reduceAdd, Nat.reduceLeDiff, Nat.reduceSub, Int.reduceToNat, reduceCtorEq]) | (refine ⟨by first | omega | (intros; simp_all; done) | (intros; simp_all; omega), ?_⟩; try simp only [go_sem, Nat.reduceAdd, Nat.reduceLeDiff, Nat.reduceSub, Int.reduceToNat, reduceCtorEq]))
    refine AP.drawE 5 (Tree.node [] [0, 1] [2] [Tree.node [1] [] [3] [Tree.node [] [4] [] []]]) (by kernel_rfl) rfl (by kernel_rfl) (by kernel_rfl) ?_
    refine vd_node ?_
    simp only [go_sem, Nat.reduceAdd, Nat.reduceLeDiff, Nat.reduceSub, Int.reduceToNat, reduceCtorEq]
    repeat' (first | with_reducible exact True.intro | with_reducible refine And.intro (by omega) ?_ | with_reducible refine And.intro ?_ ?_ | (refine AQ.nx rfl ?_; simp only [go_sem, Nat.reduceAdd, Nat.reduceLeDiff, Nat.reduceSub, Int.reduceToNat, reduceCtorEq]) | refine AQ.skip (by kernel_rfl) rfl ?_ | refine AQ.done ?_ | (refine AQ.go (by kernel_rfl) ?_; simp only [go_sem, Nat.reduceAdd, Nat.reduceLeDiff, Nat.reduceSub, Int.reduceToNat, reduceCtorEq]; repeat (with_reducible refine And.intro (by omega) ?_); refine AQ.nx rfl ?_; simp only [go_sem, Nat.reduceAdd, Nat.reduceLeDiff, Nat.reduceSub, Int.reduceToNat, reduceCtorEq]))
    all_goals
      repeat (first | refine xA ?_ | refine xB ?_ | refine xC ?_ | refine xE ?_ | refine xD ?_ | refine xK ?_ | refine xS ?_ | refine xM ?_ | refine xT ?_ | refine xF ?_ | ((first | refine xR ?_ | refine xW ?_ | refine vq_id ?_); simp only [go_sem, Nat.reduceAdd, Nat.reduceLeDiff, Nat.reduceSub, Int.reduceToNat, reduceCtorEq]) | (refine ⟨by first | omega | (intros; simp_all; done) | (intros; simp_all; omega), ?_⟩; try simp only [go_sem, Nat.reduceAdd, Nat.reduceLeDiff, Nat.reduceSub, Int.reduceToNat, reduceCtorEq]))
      exact AE.retD [3, 2, 1, 0] rfl ⟨⟨rfl, Nat.le_of_ble_eq_true (by kernel_rfl)⟩, ⟨rfl, Nat.le_of_ble_eq_true (by kernel_rfl)⟩, rfl, trivial⟩ rfl ⟨rfl, rfl⟩
end Go.Proofs.YtlpcdpjkdodmcaaDoor
end

section
namespace Go.Proofs.YtlpcdpjkdodmcaaDoor
open Go Go.AL Go.RowKit
set_option maxRecDepth 10000
set_option maxHeartbeats 4000000
theorem receive_ref (p w s : Int) (l : List Rq) (hl : l.length ≤ 100000000) (K N : Int) (t : List UInt8) : PFn Tryd.prog 27 [.agg [Iv p, Iv w, Iv s, .im (.sl 8 (rqR l))], .agg [Iv K, Iv N, Sv t]] (recV p w s l K N t) := by
  refine ACall.walk [0, 1, 2, 3, 4, 5, 6, 7, 8, 9, 13, 20, 37, 55, 64, 65, 71] [2, 4, 5, 9] Tryd.func27 rfl Tryd.ntmps27 (by kernel_rfl) (by rfl) rfl fun W own I0 φ0 lay => ?_
  repeat (first | refine xA ?_ | refine xB ?_ | refine xC ?_ | refine xE ?_ | refine xD ?_ | refine xK ?_ | refine xS ?_ | refine xM ?_ | refine xT ?_ | refine xF ?_ | ((first | refine xR ?_ | refine xW ?_ | refine vq_id ?_); simp only [go_sem, Nat.reduceAdd, Nat.reduceLeDiff, Nat.reduceSub, Int.reduceToNat, reduceCtorEq]) | (refine ⟨by first | omega | (intros; simp_all; done) | (intros; simp_all; omega), ?_⟩; try simp only [go_sem, Nat.reduceAdd, Nat.reduceLeDiff, Nat.reduceSub, Int.reduceToNat, reduceCtorEq]))
  refine AQ.fn (by kernel_rfl) rfl rfl rfl (check_spec p w s l (by omega)) rfl ?_
  repeat (first | refine xA ?_ | refine xB ?_ | refine xC ?_ | refine xE ?_ | refine xD ?_ | refine xK ?_ | refine xS ?_ | refine xM ?_ | refine xT ?_ | refine xF ?_ | ((first | refine xR ?_ | refine xW ?_ | refine vq_id ?_); simp only [go_sem, Nat.reduceAdd, Nat.reduceLeDiff, Nat.reduceSub, Int.reduceToNat, reduceCtorEq]) | (refine ⟨by first | omega | (intros; simp_all; done) | (intros; simp_all; omega), ?_⟩; try simp only [go_sem, Nat.reduceAdd, Nat.reduceLeDiff, Nat.reduceSub, Int.reduceToNat, reduceCtorEq]))
  unfold recV recE ckE
  refine AP.cond rfl rfl (fun h1 => ?_) (fun h1 => ?_)
  · have h1' : okC p w s l = false := by
      rcases Bool.eq_false_or_eq_true (okC p w s l) with h | h
      · rw [h] at h1; exact absurd h1 (by decide)
      · exact h
    rw [h1', if_pos rfl, recR, if_pos (by decide)]
    repeat (first | refine xA ?_ | refine xB ?_ | refine xC ?_ | refine xE ?_ | refine xD ?_ | refine xK ?_ | refine xS ?_ | refine xM ?_ | refine xT ?_ | refine xF ?_ | ((first | refine xR ?_ | refine xW ?_ | refine vq_id ?_); simp only [go_sem, Nat.reduceAdd, Nat.reduceLeDiff, Nat.reduceSub, Int.reduceToNat, reduceCtorEq]) | (refine ⟨by first | omega | (intros; simp_all; done) | (intros; simp_all; omega), ?_⟩; try simp only [go_sem, Nat.reduceAdd, Nat.reduceLeDiff, Nat.reduceSub, Int.reduceToNat, reduceCtorEq]))
    exact AE.retD [2, 1, 0] rfl ⟨⟨rfl, Nat.le_of_ble_eq_true (by kernel_rfl)⟩, ⟨rfl, Nat.le_of_ble_eq_true (by kernel_rfl)⟩, rfl, trivial⟩ rfl ⟨rfl, rfl⟩
  have h1' : okC p w s l = true := by
    rcases Bool.eq_false_or_eq_true (okC p w s l) with h | h
    · exact h
    · rw [h] at h1; exact absurd h1 (by decide)
  rw [h1', if_neg (by decide)]
  repeat (first | refine xA ?_ | refine xB ?_ | refine xC ?_ | refine xE ?_ | refine xD ?_ | refine xK ?_ | refine xS ?_ | refine xM ?_ | refine xT ?_ | refine xF ?_ | ((first | refine xR ?_ | refine xW ?_ | refine vq_id ?_); simp only [go_sem, Nat.reduceAdd, Nat.reduceLeDiff, Nat.reduceSub, Int.reduceToNat, reduceCtorEq]) | (refine ⟨by first | omega | (intros; simp_all; done) | (intros; simp_all; omega), ?_⟩; try simp only [go_sem, Nat.reduceAdd, Nat.reduceLeDiff, Nat.reduceSub, Int.reduceToNat, reduceCtorEq]))
  refine AQ.fn (by kernel_rfl) rfl rfl rfl (wrong_ref K N t) rfl ?_
  repeat (first | refine xA ?_ | refine xB ?_ | refine xC ?_ | refine xE ?_ | refine xD ?_ | refine xK ?_ | refine xS ?_ | refine xM ?_ | refine xT ?_ | refine xF ?_ | ((first | refine xR ?_ | refine xW ?_ | refine vq_id ?_); simp only [go_sem, Nat.reduceAdd, Nat.reduceLeDiff, Nat.reduceSub, Int.reduceToNat, reduceCtorEq]) | (refine ⟨by first | omega | (intros; simp_all; done) | (intros; simp_all; omega), ?_⟩; try simp only [go_sem, Nat.reduceAdd, Nat.reduceLeDiff, Nat.reduceSub, Int.reduceToNat, reduceCtorEq]))
  refine AP.cond rfl rfl (fun h2 => ?_) (fun h2 => ?_)
  · have h2' : msgE K N t ≠ 0 := by simpa using h2
    rw [if_pos h2', recR, if_pos h2']
    repeat (first | refine xA ?_ | refine xB ?_ | refine xC ?_ | refine xE ?_ | refine xD ?_ | refine xK ?_ | refine xS ?_ | refine xM ?_ | refine xT ?_ | refine xF ?_ | ((first | refine xR ?_ | refine xW ?_ | refine vq_id ?_); simp only [go_sem, Nat.reduceAdd, Nat.reduceLeDiff, Nat.reduceSub, Int.reduceToNat, reduceCtorEq]) | (refine ⟨by first | omega | (intros; simp_all; done) | (intros; simp_all; omega), ?_⟩; try simp only [go_sem, Nat.reduceAdd, Nat.reduceLeDiff, Nat.reduceSub, Int.reduceToNat, reduceCtorEq]))
    exact AE.retD [2, 1, 0] rfl ⟨⟨rfl, Nat.le_of_ble_eq_true (by kernel_rfl)⟩, ⟨rfl, Nat.le_of_ble_eq_true (by kernel_rfl)⟩, rfl, trivial⟩ rfl ⟨rfl, rfl⟩
  have h2' : msgE K N t = 0 := by simpa using h2
  rw [if_neg (by rw [h2']; decide)]
  cases l with
  | nil =>
    rw [if_pos (by rfl), recR, if_pos (by decide)]
    repeat (first | refine xA ?_ | refine xB ?_ | refine xC ?_ | refine xE ?_ | refine xD ?_ | refine xK ?_ | refine xS ?_ | refine xM ?_ | refine xT ?_ | refine xF ?_ | ((first | refine xR ?_ | refine xW ?_ | refine vq_id ?_); simp only [go_sem, Nat.reduceAdd, Nat.reduceLeDiff, Nat.reduceSub, Int.reduceToNat, reduceCtorEq, rqR_len]) | (refine ⟨by first | omega | (intros; simp_all; done) | (intros; simp_all; omega), ?_⟩; try simp only [go_sem, Nat.reduceAdd, Nat.reduceLeDiff, Nat.reduceSub, Int.reduceToNat, reduceCtorEq, rqR_len]))
    exact AE.retD [2, 1, 0] rfl ⟨⟨rfl, Nat.le_of_ble_eq_true (by kernel_rfl)⟩, ⟨rfl, Nat.le_of_ble_eq_true (by kernel_rfl)⟩, rfl, trivial⟩ rfl ⟨rfl, rfl⟩
  | cons q tl =>
    simp only [List.length_cons] at hl
    have hq : hdQ (q :: tl) = q := rfl
    have ht : (q :: tl).tail = tl := rfl
    rw [if_neg (by simp), hq]
    have hg0 : (rqR (q :: tl)).getD 0 [] = [Ii q.n, Ii q.k, Si q.b, .v (.bool q.c), .v (.bool q.a), Ii q.ak, Ii q.an, Si q.ab] := rfl
    have hd1 : (rqR (q :: tl)).drop 1 = rqR tl := rfl
    have hz : (((tl.length + 1 : Nat) : Int) == 0) = false := by rw [beq_eq_false_iff_ne]; omega
    repeat (first | refine xA ?_ | refine xB ?_ | refine xC ?_ | refine xE ?_ | refine xD ?_ | refine xK ?_ | refine xS ?_ | refine xM ?_ | refine xT ?_ | refine xF ?_ | ((first | refine xR ?_ | refine xW ?_ | refine vq_id ?_); simp only [go_sem, Nat.reduceAdd, Nat.reduceLeDiff, Nat.reduceSub, Int.reduceToNat, reduceCtorEq, rqR_len, List.length_cons, hz, hg0, List.map_cons, List.map_nil, List.length_nil, List.take_succ_cons, List.take_zero, List.drop_succ_cons, List.drop_zero, Bool.false_or, Bool.not_false]) | (refine ⟨by first | omega | (intros; simp_all; done) | (intros; simp_all; omega), ?_⟩; try simp only [go_sem, Nat.reduceAdd, Nat.reduceLeDiff, Nat.reduceSub, Int.reduceToNat, reduceCtorEq, rqR_len, List.length_cons, hz, hg0, List.map_cons, List.map_nil, List.length_nil, List.take_succ_cons, List.take_zero, List.drop_succ_cons, List.drop_zero, Bool.false_or, Bool.not_false]))
    have e3 : (N != q.n) = (q.n != N) := by rw [Bool.eq_iff_iff]; simp only [bne_iff_ne]; omega
    refine AP.cond rfl rfl (fun h3 => ?_) (fun h3 => ?_)
    · rw [e3] at h3
      rw [if_pos h3, recR, if_pos (by decide)]
      repeat (first | refine xA ?_ | refine xB ?_ | refine xC ?_ | refine xE ?_ | refine xD ?_ | refine xK ?_ | refine xS ?_ | refine xM ?_ | refine xT ?_ | refine xF ?_ | ((first | refine xR ?_ | refine xW ?_ | refine vq_id ?_); simp only [go_sem, Nat.reduceAdd, Nat.reduceLeDiff, Nat.reduceSub, Int.reduceToNat, reduceCtorEq]) | (refine ⟨by first | omega | (intros; simp_all; done) | (intros; simp_all; omega), ?_⟩; try simp only [go_sem, Nat.reduceAdd, Nat.reduceLeDiff, Nat.reduceSub, Int.reduceToNat, reduceCtorEq]))
      exact AE.retD [2, 1, 0] rfl ⟨⟨rfl, Nat.le_of_ble_eq_true (by kernel_rfl)⟩, ⟨rfl, Nat.le_of_ble_eq_true (by kernel_rfl)⟩, rfl, trivial⟩ rfl ⟨rfl, rfl⟩
    rw [e3] at h3
    rw [if_neg (by rw [h3]; decide)]
    repeat (first | refine xA ?_ | refine xB ?_ | refine xC ?_ | refine xE ?_ | refine xD ?_ | refine xK ?_ | refine xS ?_ | refine xM ?_ | refine xT ?_ | refine xF ?_ | ((first | refine xR ?_ | refine xW ?_ | refine vq_id ?_); simp only [go_sem, Nat.reduceAdd, Nat.reduceLeDiff, Nat.reduceSub, Int.reduceToNat, reduceCtorEq, rqR_len, List.length_cons, hz, hg0, List.map_cons, List.map_nil, List.length_nil, List.take_succ_cons, List.take_zero, List.drop_succ_cons, List.drop_zero]) | (refine ⟨by first | omega | (intros; simp_all; done) | (intros; simp_all; omega), ?_⟩; try simp only [go_sem, Nat.reduceAdd, Nat.reduceLeDiff, Nat.reduceSub, Int.reduceToNat, reduceCtorEq, rqR_len, List.length_cons, hz, hg0, List.map_cons, List.map_nil, List.length_nil, List.take_succ_cons, List.take_zero, List.drop_succ_cons, List.drop_zero]))
    have hK := msgE_kind h2'
    have e4 : ((q.k == 1) != (K == 7) || decide (K < 7)) = (q.k == 1 && K != 7 || q.k != 1 && K != 8 && K != 9) := by
      rw [Bool.eq_iff_iff]
      by_cases hq1 : q.k = 1
      · simp [hq1]; omega
      · have : (q.k == 1) = false := by simpa using hq1
        simp [this, hq1]; omega
    refine AP.cond rfl rfl (fun h4 => ?_) (fun h4 => ?_)
    · rw [e4] at h4
      rw [if_pos h4, recR, if_pos (by decide)]
      repeat (first | refine xA ?_ | refine xB ?_ | refine xC ?_ | refine xE ?_ | refine xD ?_ | refine xK ?_ | refine xS ?_ | refine xM ?_ | refine xT ?_ | refine xF ?_ | ((first | refine xR ?_ | refine xW ?_ | refine vq_id ?_); simp only [go_sem, Nat.reduceAdd, Nat.reduceLeDiff, Nat.reduceSub, Int.reduceToNat, reduceCtorEq]) | (refine ⟨by first | omega | (intros; simp_all; done) | (intros; simp_all; omega), ?_⟩; try simp only [go_sem, Nat.reduceAdd, Nat.reduceLeDiff, Nat.reduceSub, Int.reduceToNat, reduceCtorEq]))
      exact AE.retD [3, 2, 1, 0] rfl ⟨⟨rfl, Nat.le_of_ble_eq_true (by kernel_rfl)⟩, ⟨rfl, Nat.le_of_ble_eq_true (by kernel_rfl)⟩, rfl, trivial⟩ rfl ⟨rfl, rfl⟩
    rw [e4] at h4
    rw [if_neg (by rw [h4]; decide), recR, if_neg (by decide), hq, ht]
    repeat (first | refine xA ?_ | refine xB ?_ | refine xC ?_ | refine xE ?_ | refine xD ?_ | refine xK ?_ | refine xS ?_ | refine xM ?_ | refine xT ?_ | refine xF ?_ | ((first | refine xR ?_ | refine xW ?_ | refine vq_id ?_); simp only [go_sem, Nat.reduceAdd, Nat.reduceLeDiff, Nat.reduceSub, Int.reduceToNat, reduceCtorEq, rqR_len, hd1, List.length_cons, hz, hg0, List.map_cons, List.map_nil, List.length_nil, List.take_succ_cons, List.take_zero, List.drop_succ_cons, List.drop_zero]) | (refine ⟨by first | omega | (intros; simp_all; done) | (intros; simp_all; omega), ?_⟩; try simp only [go_sem, Nat.reduceAdd, Nat.reduceLeDiff, Nat.reduceSub, Int.reduceToNat, reduceCtorEq, rqR_len, hd1, List.length_cons, hz, hg0, List.map_cons, List.map_nil, List.length_nil, List.take_succ_cons, List.take_zero, List.drop_succ_cons, List.drop_zero]))
    refine AQ.callv (by kernel_rfl) rfl rfl rfl (copied_spec tl (by omega)) fun r' H' ⟨e1, e2⟩ => ?_
    subst e1
    subst e2
    simp only [go_sem, Nat.reduceAdd, Nat.reduceLeDiff, Nat.reduceSub, Int.reduceToNat, reduceCtorEq]
    refine AQ.done ?_
    have hta : (rqR tl).take tl.length = rqR tl := List.take_of_length_le (by rw [rqR_len]; exact Nat.le_refl _)
    refine AE.freeze 4 (rows := rqR tl) rfl (by simp [go_sem, rqR_len]) (by simp [go_sem, rqR_len]) ?_
    simp only [go_sem, Nat.reduceAdd, Nat.reduceLeDiff, Nat.reduceSub, Int.reduceToNat, reduceCtorEq, List.drop_zero, hta]
    repeat (first | refine xA ?_ | refine xB ?_ | refine xC ?_ | refine xE ?_ | refine xD ?_ | refine xK ?_ | refine xS ?_ | refine xM ?_ | refine xT ?_ | refine xF ?_ | ((first | refine xR ?_ | refine xW ?_ | refine vq_id ?_); simp only [go_sem, Nat.reduceAdd, Nat.reduceLeDiff, Nat.reduceSub, Int.reduceToNat, reduceCtorEq]) | (refine ⟨by first | omega | (intros; simp_all; done) | (intros; simp_all; omega), ?_⟩; try simp only [go_sem, Nat.reduceAdd, Nat.reduceLeDiff, Nat.reduceSub, Int.reduceToNat, reduceCtorEq]))
    refine AP.cond rfl rfl (fun hk1 => ?_) (fun hk1 => ?_)
    · have hk1' : q.k = 1 := by simpa using hk1
      have hK : K = 7 := by
        rw [hk1'] at h4
        simpa using h4
      subst hK
      obtain ⟨w1, w2, w3, w4, w5⟩ := welcome_facts h2'
      rw [pStep, if_pos hk1', wStep, if_pos hk1']
      repeat (first | refine xA ?_ | refine xB ?_ | refine xC ?_ | refine xE ?_ | refine xD ?_ | refine xK ?_ | refine xS ?_ | refine xM ?_ | refine xT ?_ | refine xF ?_ | ((first | refine xR ?_ | refine xW ?_ | refine vq_id ?_); simp only [go_sem, Nat.reduceAdd, Nat.reduceLeDiff, Nat.reduceSub, Int.reduceToNat, reduceCtorEq]) | (refine ⟨by first | omega | (intros; simp_all; done) | (intros; simp_all; omega), ?_⟩; try simp only [go_sem, Nat.reduceAdd, Nat.reduceLeDiff, Nat.reduceSub, Int.reduceToNat, reduceCtorEq]))
      refine AQ.fn (by kernel_rfl) rfl rfl rfl (value_spec t w1 w2) rfl ?_
      repeat (first | refine xA ?_ | refine xB ?_ | refine xC ?_ | refine xE ?_ | refine xD ?_ | refine xK ?_ | refine xS ?_ | refine xM ?_ | refine xT ?_ | refine xF ?_ | ((first | refine xR ?_ | refine xW ?_ | refine vq_id ?_); simp only [go_sem, Nat.reduceAdd, Nat.reduceLeDiff, Nat.reduceSub, Int.reduceToNat, reduceCtorEq]) | (refine ⟨by first | omega | (intros; simp_all; done) | (intros; simp_all; omega), ?_⟩; try simp only [go_sem, Nat.reduceAdd, Nat.reduceLeDiff, Nat.reduceSub, Int.reduceToNat, reduceCtorEq]))
      refine AP.drawE 5 (Tree.node [] [0, 1] [2] [Tree.node [1] [] [3] [Tree.node [] [4] [] []]]) (by kernel_rfl) rfl (by kernel_rfl) (by kernel_rfl) ?_
      refine vd_node ?_
      simp only [go_sem, Nat.reduceAdd, Nat.reduceLeDiff, Nat.reduceSub, Int.reduceToNat, reduceCtorEq]
      repeat' (first | with_reducible exact True.intro | with_reducible refine And.intro (by omega) ?_ | with_reducible refine And.intro ?_ ?_ | (refine AQ.nx rfl ?_; simp only [go_sem, Nat.reduceAdd, Nat.reduceLeDiff, Nat.reduceSub, Int.reduceToNat, reduceCtorEq]) | refine AQ.skip (by kernel_rfl) rfl ?_ | refine AQ.done ?_ | (refine AQ.go (by kernel_rfl) ?_; simp only [go_sem, Nat.reduceAdd, Nat.reduceLeDiff, Nat.reduceSub, Int.reduceToNat, reduceCtorEq]; repeat (with_reducible refine And.intro (by omega) ?_); refine AQ.nx rfl ?_; simp only [go_sem, Nat.reduceAdd, Nat.reduceLeDiff, Nat.reduceSub, Int.reduceToNat, reduceCtorEq]))
      all_goals
        repeat (first | refine xA ?_ | refine xB ?_ | refine xC ?_ | refine xE ?_ | refine xD ?_ | refine xK ?_ | refine xS ?_ | refine xM ?_ | refine xT ?_ | refine xF ?_ | ((first | refine xR ?_ | refine xW ?_ | refine vq_id ?_); simp only [go_sem, Nat.reduceAdd, Nat.reduceLeDiff, Nat.reduceSub, Int.reduceToNat, reduceCtorEq]) | (refine ⟨by first | omega | (intros; simp_all; done) | (intros; simp_all; omega), ?_⟩; try simp only [go_sem, Nat.reduceAdd, Nat.reduceLeDiff, Nat.reduceSub, Int.reduceToNat, reduceCtorEq]))
        exact AE.retD [3, 2, 1, 0] rfl ⟨⟨rfl, Nat.le_of_ble_eq_true (by kernel_rfl)⟩, ⟨rfl, Nat.le_of_ble_eq_true (by kernel_rfl)⟩, rfl, trivial⟩ rfl ⟨rfl, rfl⟩
    have hk1' : q.k ≠ 1 := by simpa using hk1
    rw [pStep, if_neg hk1', wStep, if_neg hk1']
    repeat (first | refine xA ?_ | refine xB ?_ | refine xC ?_ | refine xE ?_ | refine xD ?_ | refine xK ?_ | refine xS ?_ | refine xM ?_ | refine xT ?_ | refine xF ?_ | ((first | refine xR ?_ | refine xW ?_ | refine vq_id ?_); simp only [go_sem, Nat.reduceAdd, Nat.reduceLeDiff, Nat.reduceSub, Int.reduceToNat, reduceCtorEq]) | (refine ⟨by first | omega | (intros; simp_all; done) | (intros; simp_all; omega), ?_⟩; try simp only [go_sem, Nat.reduceAdd, Nat.reduceLeDiff, Nat.reduceSub, Int.reduceToNat, reduceCtorEq]))
    refine AP.cond rfl rfl (fun hk2 => ?_) (fun hk2 => ?_)
    · have hk2' : q.k = 6 := by simpa using hk2
      rw [if_pos hk2']
      repeat (first | refine xA ?_ | refine xB ?_ | refine xC ?_ | refine xE ?_ | refine xD ?_ | refine xK ?_ | refine xS ?_ | refine xM ?_ | refine xT ?_ | refine xF ?_ | ((first | refine xR ?_ | refine xW ?_ | refine vq_id ?_); simp only [go_sem, Nat.reduceAdd, Nat.reduceLeDiff, Nat.reduceSub, Int.reduceToNat, reduceCtorEq]) | (refine ⟨by first | omega | (intros; simp_all; done) | (intros; simp_all; omega), ?_⟩; try simp only [go_sem, Nat.reduceAdd, Nat.reduceLeDiff, Nat.reduceSub, Int.reduceToNat, reduceCtorEq]))
      refine AP.drawE 5 (Tree.node [] [0, 1] [2] [Tree.node [1] [] [3] [Tree.node [] [4] [] []]]) (by kernel_rfl) rfl (by kernel_rfl) (by kernel_rfl) ?_
      refine vd_node ?_
      simp only [go_sem, Nat.reduceAdd, Nat.reduceLeDiff, Nat.reduceSub, Int.reduceToNat, reduceCtorEq]
      repeat' (first | with_reducible exact True.intro | with_reducible refine And.intro (by omega) ?_ | with_reducible refine And.intro ?_ ?_ | (refine AQ.nx rfl ?_; simp only [go_sem, Nat.reduceAdd, Nat.reduceLeDiff, Nat.reduceSub, Int.reduceToNat, reduceCtorEq]) | refine AQ.skip (by kernel_rfl) rfl ?_ | refine AQ.done ?_ | (refine AQ.go (by kernel_rfl) ?_; simp only [go_sem, Nat.reduceAdd, Nat.reduceLeDiff, Nat.reduceSub, Int.reduceToNat, reduceCtorEq]; repeat (with_reducible refine And.intro (by omega) ?_); refine AQ.nx rfl ?_; simp only [go_sem, Nat.reduceAdd, Nat.reduceLeDiff, Nat.reduceSub, Int.reduceToNat, reduceCtorEq]))
      all_goals
        repeat (first | refine xA ?_ | refine xB ?_ | refine xC ?_ | refine xE ?_ | refine xD ?_ | refine xK ?_ | refine xS ?_ | refine xM ?_ | refine xT ?_ | refine xF ?_ | ((first | refine xR ?_ | refine xW ?_ | refine vq_id ?_); simp only [go_sem, Nat.reduceAdd, Nat.reduceLeDiff, Nat.reduceSub, Int.reduceToNat, reduceCtorEq]) | (refine ⟨by first | omega | (intros; simp_all; done) | (intros; simp_all; omega), ?_⟩; try simp only [go_sem, Nat.reduceAdd, Nat.reduceLeDiff, Nat.reduceSub, Int.reduceToNat, reduceCtorEq]))
        exact AE.retD [3, 2, 1, 0] rfl ⟨⟨rfl, Nat.le_of_ble_eq_true (by kernel_rfl)⟩, ⟨rfl, Nat.le_of_ble_eq_true (by kernel_rfl)⟩, rfl, trivial⟩ rfl ⟨rfl, rfl⟩
    have hk2' : q.k ≠ 6 := by simpa using hk2
    rw [if_neg hk2']
    repeat (first | refine xA ?_ | refine xB ?_ | refine xC ?_ | refine xE ?_ | refine xD ?_ | refine xK ?_ | refine xS ?_ | refine xM ?_ | refine xT ?_ | refine xF ?_ | ((first | refine xR ?_ | refine xW ?_ | refine vq_id ?_); simp only [go_sem, Nat.reduceAdd, Nat.reduceLeDiff, Nat.reduceSub, Int.reduceToNat, reduceCtorEq]) | (refine ⟨by first | omega | (intros; simp_all; done) | (intros; simp_all; omega), ?_⟩; try simp only [go_sem, Nat.reduceAdd, Nat.reduceLeDiff, Nat.reduceSub, Int.reduceToNat, reduceCtorEq]))
    refine AP.drawE 5 (Tree.node [] [0, 1] [2] [Tree.node [1] [] [3] [Tree.node [] [4] [] []]]) (by kernel_rfl) rfl (by kernel_rfl) (by kernel_rfl) ?_
    refine vd_node ?_
    simp only [go_sem, Nat.reduceAdd, Nat.reduceLeDiff, Nat.reduceSub, Int.reduceToNat, reduceCtorEq]
    repeat' (first | with_reducible exact True.intro | with_reducible refine And.intro (by omega) ?_ | with_reducible refine And.intro ?_ ?_ | (refine AQ.nx rfl ?_; simp only [go_sem, Nat.reduceAdd, Nat.reduceLeDiff, Nat.reduceSub, Int.reduceToNat, reduceCtorEq]) | refine AQ.skip (by kernel_rfl) rfl ?_ | refine AQ.done ?_ | (refine AQ.go (by kernel_rfl) ?_; simp only [go_sem, Nat.reduceAdd, Nat.reduceLeDiff, Nat.reduceSub, Int.reduceToNat, reduceCtorEq]; repeat (with_reducible refine And.intro (by omega) ?_); refine AQ.nx rfl ?_; simp only [go_sem, Nat.reduceAdd, Nat.reduceLeDiff, Nat.reduceSub, Int.reduceToNat, reduceCtorEq]))
    all_goals
      repeat (first | refine xA ?_ | refine xB ?_ | refine xC ?_ | refine xE ?_ | refine xD ?_ | refine xK ?_ | refine xS ?_ | refine xM ?_ | refine xT ?_ | refine xF ?_ | ((first | refine xR ?_ | refine xW ?_ | refine vq_id ?_); simp only [go_sem, Nat.reduceAdd, Nat.reduceLeDiff, Nat.reduceSub, Int.reduceToNat, reduceCtorEq]) | (refine ⟨by first | omega | (intros; simp_all; done) | (intros; simp_all; omega), ?_⟩; try simp only [go_sem, Nat.reduceAdd, Nat.reduceLeDiff, Nat.reduceSub, Int.reduceToNat, reduceCtorEq]))
      exact AE.retD [3, 2, 1, 0] rfl ⟨⟨rfl, Nat.le_of_ble_eq_true (by kernel_rfl)⟩, ⟨rfl, Nat.le_of_ble_eq_true (by kernel_rfl)⟩, rfl, trivial⟩ rfl ⟨rfl, rfl⟩
end Go.Proofs.YtlpcdpjkdodmcaaDoor
end

section
namespace Go.Proofs.YtlpcdpjkdodmcaaDoor
open Go Go.AL Go.RowKit
set_option maxRecDepth 10000
set_option maxHeartbeats 4000000
theorem told_c {a b c : AV} {y z : AV} (w : World) (φ : Phi) (I : Nat → Prop) (v : Value) (h : AV.den w φ I (.tup [.agg [a, b, c, nilS], y, z]) v) : AV.den w φ I (.tup [.agg [a, b, c, .im (.sl 8 (rqR []))], y, z]) v := by
  simp only [AV.den, AV.dens] at h ⊢
  obtain ⟨us, ⟨u, us1, rfl, ⟨vs, ⟨v1, vs1, rfl, h1, v2, vs2, rfl, h2, v3, vs3, rfl, h3, v4, vs4, rfl, h4, h5⟩, rfl, hone⟩, hr⟩, hv⟩ := h
  exact ⟨_, ⟨_, _, rfl, ⟨_, ⟨_, _, rfl, h1, _, _, rfl, h2, _, _, rfl, h3, _, _, rfl, nil_sl h4, h5⟩, rfl, hone⟩, hr⟩, hv⟩
theorem send_both (p w s : Int) (l : List Rq) (hl : l.length ≤ 100000000) (k : Int) (t : List UInt8) : ∃ p' w' s' l' k' n' t' e, List.length l' ≤ l.length + 1 ∧
    PFn Tryd.prog 22 [.agg [Iv p, Iv w, Iv s, .im (.sl 8 (rqR l))], Iv k, Sv t] (.tup [.agg [Iv p', Iv w', Iv s', .im (.sl 8 (rqR l'))], .agg [Iv k', Iv n', Sv t'], Iv e]) ∧
    PFn Tryd.prog 23 [.agg [Iv p, Iv w, Iv s, .im (.sl 8 (rqR l))], Iv k, Sv t] (.tup [.agg [Iv p', Iv w', Iv s', .im (.sl 8 (rqR l'))], .agg [Iv k', Iv n', Sv t'], Iv e]) := by
  have h1 := send_spec p w s l hl k t
  have h2 := send_ref p w s l hl k t
  unfold sendV retS at h1 h2
  split at h1
  · rename_i he
    rw [if_pos he] at h2
    exact ⟨_, _, _, _, _, _, _, _, by simp, h1, h2⟩
  · rename_i he
    rw [if_neg he] at h2
    exact ⟨0, 0, 0, [], 0, 0, [], _, by simp, PFn.told h1 told_c, PFn.told h2 told_c⟩
theorem receive_both (p w s : Int) (l : List Rq) (hl : l.length ≤ 100000000) (K N : Int) (t : List UInt8) : ∃ p' w' s' l' e, ∃ q : Rq, List.length l' ≤ l.length ∧
    PFn Tryd.prog 26 [.agg [Iv p, Iv w, Iv s, .im (.sl 8 (rqR l))], .agg [Iv K, Iv N, Sv t]] (.tup [.agg [Iv p', Iv w', Iv s', .im (.sl 8 (rqR l'))], .agg [Iv q.n, Iv q.k, Sv q.b, Bv q.c, Bv q.a, Iv q.ak, Iv q.an, Sv q.ab], Iv e]) ∧
    PFn Tryd.prog 27 [.agg [Iv p, Iv w, Iv s, .im (.sl 8 (rqR l))], .agg [Iv K, Iv N, Sv t]] (.tup [.agg [Iv p', Iv w', Iv s', .im (.sl 8 (rqR l'))], .agg [Iv q.n, Iv q.k, Sv q.b, Bv q.c, Bv q.a, Iv q.ak, Iv q.an, Sv q.ab], Iv e]) := by
  have h1 := receive_spec p w s l hl K N t
  have h2 := receive_ref p w s l hl K N t
  unfold recV recR failV at h1 h2
  split at h1
  · rename_i he
    rw [if_pos he] at h2
    exact ⟨0, 0, 0, [], _, ⟨0, 0, [], false, false, 0, 0, []⟩, by simp, PFn.told h1 told_c, PFn.told h2 told_c⟩
  · rename_i he
    rw [if_neg he] at h2
    exact ⟨_, _, _, _, _, _, by simp, h1, h2⟩
theorem few_spec (l : List Rq) : PFn Tryd.prog 21 [.im (.sl 8 (rqR l))] (Bv (decide ((l.length : Int) ≤ 40))) := by
  refine ACall.walk [0, 2] [] Tryd.func21 rfl Tryd.ntmps21 (by kernel_rfl) (by rfl) rfl fun W own I0 φ0 lay => ?_
  repeat (first | refine xA ?_ | refine xB ?_ | refine xC ?_ | refine xE ?_ | refine xD ?_ | refine xK ?_ | refine xS ?_ | refine xM ?_ | refine xT ?_ | refine xF ?_ | ((first | refine xR ?_ | refine xW ?_ | refine vq_id ?_); simp only [go_sem, Nat.reduceAdd, Nat.reduceLeDiff, Nat.reduceSub, Int.reduceToNat, reduceCtorEq, rqR_len]) | (refine ⟨by first | omega | (intros; simp_all; done) | (intros; simp_all; omega), ?_⟩; try simp only [go_sem, Nat.reduceAdd, Nat.reduceLeDiff, Nat.reduceSub, Int.reduceToNat, reduceCtorEq, rqR_len]))
  exact AE.ret0 rfl ⟨rfl, trivial⟩ rfl ⟨rfl, rfl⟩
theorem clients_walk (p w s : Int) (l : List Rq) (k : Int) (t : List UInt8) (K N : Int) (T : List UInt8) : PFn Tryd.prog 5 [.ar [Ii p, Ii w, Ii s, .sl 8 (rqR l)], Iv k, Sv t, .ar [Ii K, Ii N, Si T]] (Bv true) := by
  refine ACall.walk [0, 1, 2, 3, 4, 7, 8, 9, 10, 11, 12, 13, 14, 15, 16, 20, 53] [9, 10, 12, 13, 15, 16] Tryd.func5 rfl Tryd.ntmps5 (by kernel_rfl) (by rfl) rfl fun W own I0 φ0 lay => ?_
  repeat (first | refine xA ?_ | refine xB ?_ | refine xC ?_ | refine xE ?_ | refine xD ?_ | refine xK ?_ | refine xS ?_ | refine xM ?_ | refine xT ?_ | refine xF ?_ | ((first | refine xR ?_ | refine xW ?_ | refine vq_id ?_); simp only [go_sem, Nat.reduceAdd, Nat.reduceLeDiff, Nat.reduceSub, Int.reduceToNat, reduceCtorEq]) | (refine ⟨by first | omega | (intros; simp_all; done) | (intros; simp_all; omega), ?_⟩; try simp only [go_sem, Nat.reduceAdd, Nat.reduceLeDiff, Nat.reduceSub, Int.reduceToNat, reduceCtorEq]))
  refine AQ.fn (by kernel_rfl) rfl rfl rfl (few_spec l) rfl ?_
  repeat (first | refine xA ?_ | refine xB ?_ | refine xC ?_ | refine xE ?_ | refine xD ?_ | refine xK ?_ | refine xS ?_ | refine xM ?_ | refine xT ?_ | refine xF ?_ | ((first | refine xR ?_ | refine xW ?_ | refine vq_id ?_); simp only [go_sem, Nat.reduceAdd, Nat.reduceLeDiff, Nat.reduceSub, Int.reduceToNat, reduceCtorEq]) | (refine ⟨by first | omega | (intros; simp_all; done) | (intros; simp_all; omega), ?_⟩; try simp only [go_sem, Nat.reduceAdd, Nat.reduceLeDiff, Nat.reduceSub, Int.reduceToNat, reduceCtorEq]))
  refine AP.cond rfl rfl (fun hf => ?_) (fun hf => ?_)
  · repeat (first | refine xA ?_ | refine xB ?_ | refine xC ?_ | refine xE ?_ | refine xD ?_ | refine xK ?_ | refine xS ?_ | refine xM ?_ | refine xT ?_ | refine xF ?_ | ((first | refine xR ?_ | refine xW ?_ | refine vq_id ?_); simp only [go_sem, Nat.reduceAdd, Nat.reduceLeDiff, Nat.reduceSub, Int.reduceToNat, reduceCtorEq]) | (refine ⟨by first | omega | (intros; simp_all; done) | (intros; simp_all; omega), ?_⟩; try simp only [go_sem, Nat.reduceAdd, Nat.reduceLeDiff, Nat.reduceSub, Int.reduceToNat, reduceCtorEq]))
    refine AQ.fn (by kernel_rfl) rfl rfl rfl (awake_spec) rfl ?_
    repeat (first | refine xA ?_ | refine xB ?_ | refine xC ?_ | refine xE ?_ | refine xD ?_ | refine xK ?_ | refine xS ?_ | refine xM ?_ | refine xT ?_ | refine xF ?_ | ((first | refine xR ?_ | refine xW ?_ | refine vq_id ?_); simp only [go_sem, Nat.reduceAdd, Nat.reduceLeDiff, Nat.reduceSub, Int.reduceToNat, reduceCtorEq]) | (refine ⟨by first | omega | (intros; simp_all; done) | (intros; simp_all; omega), ?_⟩; try simp only [go_sem, Nat.reduceAdd, Nat.reduceLeDiff, Nat.reduceSub, Int.reduceToNat, reduceCtorEq]))
    exact AE.ret0 rfl ⟨rfl, trivial⟩ rfl ⟨rfl, rfl⟩
  have hl : l.length ≤ 40 := by simp at hf; omega
  obtain ⟨p1, w1, s1, l1, k1, n1, t1, e1, hl1, hs, hs'⟩ := send_both p w s l (by omega) k t
  obtain ⟨p2, w2, s2, l2, e2, q, hl2, hr, hr'⟩ := receive_both p w s l (by omega) K N T
  have hc := client_spec p w s l (by omega)
  have hc1 := client_spec p1 w1 s1 l1 (by omega)
  have hc2 := client_spec p2 w2 s2 l2 (by omega)
  have hsc1 := sameClient_spec p1 w1 s1 l1 (by omega)
  have hsc2 := sameClient_spec p2 w2 s2 l2 (by omega)
  have hq := requests_spec [q] (by simp)
  have hq2 := rqeq_spec [q] (by simp)
  repeat (first | refine xA ?_ | refine xB ?_ | refine xC ?_ | refine xE ?_ | refine xD ?_ | refine xK ?_ | refine xS ?_ | refine xM ?_ | refine xT ?_ | refine xF ?_ | ((first | refine xR ?_ | refine xW ?_ | refine vq_id ?_); simp only [go_sem, Nat.reduceAdd, Nat.reduceLeDiff, Nat.reduceSub, Int.reduceToNat, reduceCtorEq]) | (refine ⟨by first | omega | (intros; simp_all; done) | (intros; simp_all; omega), ?_⟩; try simp only [go_sem, Nat.reduceAdd, Nat.reduceLeDiff, Nat.reduceSub, Int.reduceToNat, reduceCtorEq]))
  refine AQ.fn (by kernel_rfl) rfl rfl rfl (hs) rfl ?_
  repeat (first | refine xA ?_ | refine xB ?_ | refine xC ?_ | refine xE ?_ | refine xD ?_ | refine xK ?_ | refine xS ?_ | refine xM ?_ | refine xT ?_ | refine xF ?_ | ((first | refine xR ?_ | refine xW ?_ | refine vq_id ?_); simp only [go_sem, Nat.reduceAdd, Nat.reduceLeDiff, Nat.reduceSub, Int.reduceToNat, reduceCtorEq]) | (refine ⟨by first | omega | (intros; simp_all; done) | (intros; simp_all; omega), ?_⟩; try simp only [go_sem, Nat.reduceAdd, Nat.reduceLeDiff, Nat.reduceSub, Int.reduceToNat, reduceCtorEq]))
  refine AQ.fn (by kernel_rfl) rfl rfl rfl (hc) rfl ?_
  repeat (first | refine xA ?_ | refine xB ?_ | refine xC ?_ | refine xE ?_ | refine xD ?_ | refine xK ?_ | refine xS ?_ | refine xM ?_ | refine xT ?_ | refine xF ?_ | ((first | refine xR ?_ | refine xW ?_ | refine vq_id ?_); simp only [go_sem, Nat.reduceAdd, Nat.reduceLeDiff, Nat.reduceSub, Int.reduceToNat, reduceCtorEq]) | (refine ⟨by first | omega | (intros; simp_all; done) | (intros; simp_all; omega), ?_⟩; try simp only [go_sem, Nat.reduceAdd, Nat.reduceLeDiff, Nat.reduceSub, Int.reduceToNat, reduceCtorEq]))
  refine AQ.fn (by kernel_rfl) rfl rfl rfl (hs') rfl ?_
  repeat (first | refine xA ?_ | refine xB ?_ | refine xC ?_ | refine xE ?_ | refine xD ?_ | refine xK ?_ | refine xS ?_ | refine xM ?_ | refine xT ?_ | refine xF ?_ | ((first | refine xR ?_ | refine xW ?_ | refine vq_id ?_); simp only [go_sem, Nat.reduceAdd, Nat.reduceLeDiff, Nat.reduceSub, Int.reduceToNat, reduceCtorEq]) | (refine ⟨by first | omega | (intros; simp_all; done) | (intros; simp_all; omega), ?_⟩; try simp only [go_sem, Nat.reduceAdd, Nat.reduceLeDiff, Nat.reduceSub, Int.reduceToNat, reduceCtorEq]))
  refine AP.drawE 15 (Tree.node [] [0, 2] [1] [Tree.node [2] [] [3] [Tree.node [] [4, 5, 6, 7, 8, 9, 10, 11, 12, 13, 14] [] []]]) (by kernel_rfl) rfl (by kernel_rfl) (by kernel_rfl) ?_
  refine vd_node ?_
  simp only [go_sem, Nat.reduceAdd, Nat.reduceLeDiff, Nat.reduceSub, Int.reduceToNat, reduceCtorEq]
  repeat' (first | with_reducible exact True.intro | with_reducible refine And.intro (by omega) ?_ | with_reducible refine And.intro ?_ ?_ | (refine AQ.nx rfl ?_; simp only [go_sem, Nat.reduceAdd, Nat.reduceLeDiff, Nat.reduceSub, Int.reduceToNat, reduceCtorEq, beq_self_eq_true, Bool.and_self, bne_self_eq_false, Bool.or_self, Bool.not_true, Bool.not_false]) | (refine AQ.fn (by kernel_rfl) rfl rfl rfl (hc1) rfl ?_; simp only [go_sem, Nat.reduceAdd, Nat.reduceLeDiff, Nat.reduceSub, Int.reduceToNat, reduceCtorEq]) | (refine AQ.fn (by kernel_rfl) rfl rfl rfl (hsc1) rfl ?_; simp only [go_sem, Nat.reduceAdd, Nat.reduceLeDiff, Nat.reduceSub, Int.reduceToNat, reduceCtorEq]) | refine AQ.done ?_ | (refine AQ.go (by kernel_rfl) ?_; simp only [go_sem, Nat.reduceAdd, Nat.reduceLeDiff, Nat.reduceSub, Int.reduceToNat, reduceCtorEq, beq_self_eq_true, Bool.and_self, bne_self_eq_false, Bool.or_self, Bool.not_true, Bool.not_false]; repeat (with_reducible refine And.intro (by omega) ?_); refine AQ.nx rfl ?_; simp only [go_sem, Nat.reduceAdd, Nat.reduceLeDiff, Nat.reduceSub, Int.reduceToNat, reduceCtorEq, beq_self_eq_true, Bool.and_self, bne_self_eq_false, Bool.or_self, Bool.not_true, Bool.not_false]))
  repeat (first | refine xA ?_ | refine xB ?_ | refine xC ?_ | refine xE ?_ | refine xD ?_ | refine xK ?_ | refine xS ?_ | refine xM ?_ | refine xT ?_ | refine xF ?_ | ((first | refine xR ?_ | refine xW ?_ | refine vq_id ?_); simp only [go_sem, Nat.reduceAdd, Nat.reduceLeDiff, Nat.reduceSub, Int.reduceToNat, reduceCtorEq, beq_self_eq_true, Bool.and_self, bne_self_eq_false, Bool.or_self, Bool.not_true, Bool.not_false]) | (refine ⟨by first | omega | (intros; simp_all; done) | (intros; simp_all; omega), ?_⟩; try simp only [go_sem, Nat.reduceAdd, Nat.reduceLeDiff, Nat.reduceSub, Int.reduceToNat, reduceCtorEq, beq_self_eq_true, Bool.and_self, bne_self_eq_false, Bool.or_self, Bool.not_true, Bool.not_false]))
  refine AQ.fn (by kernel_rfl) rfl rfl rfl (hr) rfl ?_
  repeat (first | refine xA ?_ | refine xB ?_ | refine xC ?_ | refine xE ?_ | refine xD ?_ | refine xK ?_ | refine xS ?_ | refine xM ?_ | refine xT ?_ | refine xF ?_ | ((first | refine xR ?_ | refine xW ?_ | refine vq_id ?_); simp only [go_sem, Nat.reduceAdd, Nat.reduceLeDiff, Nat.reduceSub, Int.reduceToNat, reduceCtorEq]) | (refine ⟨by first | omega | (intros; simp_all; done) | (intros; simp_all; omega), ?_⟩; try simp only [go_sem, Nat.reduceAdd, Nat.reduceLeDiff, Nat.reduceSub, Int.reduceToNat, reduceCtorEq]))
  refine AP.cut (α := Unit) (fun _ => [(9, .ob 0 0), (11, Iv e2), (12, .ob 2 0), (14, Iv e2), (15, .ob 4 0), (16, .ob 5 0)]) (fun _ => [(5, .var 71 [Iv q.n, Iv q.k, Sv q.b, Bv q.c, Bv q.a, Iv q.ak, Iv q.an, Sv q.ab]), (4, .var 67 [Iv q.n, Iv q.k, Sv q.b, Bv q.c, Bv q.a, Iv q.ak, Iv q.an, Sv q.ab]), (3, .var 30 [Iv k1, Iv n1, Sv t1]), (2, .var 61 [Iv p2, Iv w2, Iv s2, .im (.sl 8 (rqR l2))]), (1, .var 23 [Iv k1, Iv n1, Sv t1]), (0, .var 55 [Iv p2, Iv w2, Iv s2, .im (.sl 8 (rqR l2))])]) (fun _ => True) ?_ fun _ _ => ?_
  · skip
    refine AP.drawE 12 (Tree.node [] [0, 2] [1, 8] [Tree.node [2] [] [3, 8] [Tree.node [] [4, 5, 6, 7] [8] [Tree.node [4, 5, 6, 7] [] [9] [Tree.node [6, 7] [] [10] [Tree.node [7] [] [11] [Tree.node [] [] [] []]]]], Tree.node [2] [] [3] [Tree.node [] [4, 5, 6, 7] [9] [Tree.node [6, 7] [] [10] [Tree.node [7] [] [11] [Tree.node [] [] [] []]]]]], Tree.node [0, 2] [] [1] [Tree.node [2] [] [3] [Tree.node [] [4, 5, 6, 7] [9] [Tree.node [6, 7] [] [10] [Tree.node [7] [] [11] [Tree.node [] [] [] []]]]]]]) (by kernel_rfl) rfl (by kernel_rfl) (by kernel_rfl) ?_
    refine vd_node ?_
    simp only [go_sem, Nat.reduceAdd, Nat.reduceLeDiff, Nat.reduceSub, Int.reduceToNat, reduceCtorEq]
    repeat' (first | with_reducible exact True.intro | with_reducible refine And.intro (by omega) ?_ | with_reducible refine And.intro ?_ ?_ | (refine AQ.nx rfl ?_; simp only [go_sem, Nat.reduceAdd, Nat.reduceLeDiff, Nat.reduceSub, Int.reduceToNat, reduceCtorEq]) | (refine AQ.fn (by kernel_rfl) rfl rfl rfl (hc) rfl ?_; simp only [go_sem, Nat.reduceAdd, Nat.reduceLeDiff, Nat.reduceSub, Int.reduceToNat, reduceCtorEq]) | (refine AQ.fn (by kernel_rfl) rfl rfl rfl (hr') rfl ?_; simp only [go_sem, Nat.reduceAdd, Nat.reduceLeDiff, Nat.reduceSub, Int.reduceToNat, reduceCtorEq]) | refine AQ.done ?_ | (refine AQ.go (by kernel_rfl) ?_; simp only [go_sem, Nat.reduceAdd, Nat.reduceLeDiff, Nat.reduceSub, Int.reduceToNat, reduceCtorEq]; repeat (with_reducible refine And.intro (by omega) ?_); refine AQ.nx rfl ?_; simp only [go_sem, Nat.reduceAdd, Nat.reduceLeDiff, Nat.reduceSub, Int.reduceToNat, reduceCtorEq]))
    all_goals exact AE.meet () trivial (by repeat (first | exact Sub.nil _ | refine Sub.cons rfl ?_)) rfl
  refine xEP rfl ?_
  refine AP.drawE 21 (Tree.node [] [0, 2] [1] [Tree.node [2] [] [3] [Tree.node [] [4, 5, 8] [6, 9] [Tree.node [8] [] [7, 9] [Tree.node [8] [] [9] [Tree.node [] [] [10] [Tree.node [] [11, 12, 13, 14, 15, 16, 17] [18] [Tree.node [] [19] [20] [Tree.node [] [] [] []]]]], Tree.node [] [] [7] [Tree.node [] [] [10] [Tree.node [] [11, 12, 13, 14, 15, 16, 17] [18] [Tree.node [] [19] [20] [Tree.node [] [] [] []]]]]], Tree.node [5] [] [6] [Tree.node [] [] [7] [Tree.node [] [] [10] [Tree.node [] [11, 12, 13, 14, 15, 16, 17] [18] [Tree.node [] [19] [20] [Tree.node [] [] [] []]]]]]]]]) (by kernel_rfl) rfl (by kernel_rfl) (by kernel_rfl) ?_
  refine vd_node ?_
  simp only [go_sem, Nat.reduceAdd, Nat.reduceLeDiff, Nat.reduceSub, Int.reduceToNat, reduceCtorEq]
  refine AQ.fn (by kernel_rfl) rfl rfl rfl (hc2) rfl ?_
  simp only [go_sem, Nat.reduceAdd, Nat.reduceLeDiff, Nat.reduceSub, Int.reduceToNat, reduceCtorEq]
  refine AQ.nx rfl ?_
  simp only [go_sem, Nat.reduceAdd, Nat.reduceLeDiff, Nat.reduceSub, Int.reduceToNat, reduceCtorEq]
  refine AQ.fn (by kernel_rfl) rfl rfl rfl (hsc2) rfl ?_
  simp only [go_sem, Nat.reduceAdd, Nat.reduceLeDiff, Nat.reduceSub, Int.reduceToNat, reduceCtorEq]
  refine AQ.nx rfl ?_
  simp only [go_sem, Nat.reduceAdd, Nat.reduceLeDiff, Nat.reduceSub, Int.reduceToNat, reduceCtorEq, beq_self_eq_true, Bool.and_self, bne_self_eq_false, Bool.or_self, Bool.not_true, Bool.not_false]
  refine And.intro ?_ ?_
  · refine AQ.guard_yes (by simp only [go_sem]) ?_
    refine AQ.effS (by kernel_rfl) rfl ?_
    simp only [go_sem, Nat.reduceAdd, Nat.reduceLeDiff, Nat.reduceSub, Int.reduceToNat, reduceCtorEq]
    refine AQ.nx rfl ?_
    simp only [go_sem, Nat.reduceAdd, Nat.reduceLeDiff, Nat.reduceSub, Int.reduceToNat, reduceCtorEq, beq_self_eq_true, Bool.and_self, bne_self_eq_false, Bool.or_self, Bool.not_true, Bool.not_false]
    refine And.intro ?_ ?_
    · refine AQ.guard_yes (by simp only [go_sem]) ?_
      refine AQ.fn (by kernel_rfl) rfl rfl rfl (hq) rfl ?_
      simp only [go_sem, Nat.reduceAdd, Nat.reduceLeDiff, Nat.reduceSub, Int.reduceToNat, reduceCtorEq]
      refine AQ.nx rfl ?_
      simp only [go_sem, Nat.reduceAdd, Nat.reduceLeDiff, Nat.reduceSub, Int.reduceToNat, reduceCtorEq, beq_self_eq_true, Bool.and_self, bne_self_eq_false, Bool.or_self, Bool.not_true, Bool.not_false]
      refine AQ.guard_yes (by simp only [go_sem]) ?_
      refine AQ.effS (by kernel_rfl) rfl ?_
      simp only [go_sem, Nat.reduceAdd, Nat.reduceLeDiff, Nat.reduceSub, Int.reduceToNat, reduceCtorEq]
      refine AQ.nx rfl ?_
      simp only [go_sem, Nat.reduceAdd, Nat.reduceLeDiff, Nat.reduceSub, Int.reduceToNat, reduceCtorEq, beq_self_eq_true, Bool.and_self, bne_self_eq_false, Bool.or_self, Bool.not_true, Bool.not_false]
      refine AQ.guard_yes (by simp only [go_sem]) ?_
      refine AQ.fn (by kernel_rfl) rfl rfl rfl (hq2) rfl ?_
      simp only [go_sem, Nat.reduceAdd, Nat.reduceLeDiff, Nat.reduceSub, Int.reduceToNat, reduceCtorEq]
      refine AQ.nx rfl ?_
      simp only [go_sem, Nat.reduceAdd, Nat.reduceLeDiff, Nat.reduceSub, Int.reduceToNat, reduceCtorEq, beq_self_eq_true, Bool.and_self, bne_self_eq_false, Bool.or_self, Bool.not_true, Bool.not_false]
      refine AQ.guard_yes (by simp only [go_sem]) ?_
      refine AQ.fn (by kernel_rfl) rfl rfl rfl (awake_spec) rfl ?_
      simp only [go_sem, Nat.reduceAdd, Nat.reduceLeDiff, Nat.reduceSub, Int.reduceToNat, reduceCtorEq]
      refine AQ.nx rfl ?_
      simp only [go_sem, Nat.reduceAdd, Nat.reduceLeDiff, Nat.reduceSub, Int.reduceToNat, reduceCtorEq, beq_self_eq_true, Bool.and_self, bne_self_eq_false, Bool.or_self, Bool.not_true, Bool.not_false]
      refine AQ.go (by kernel_rfl) ?_
      simp only [go_sem, Nat.reduceAdd, Nat.reduceLeDiff, Nat.reduceSub, Int.reduceToNat, reduceCtorEq]
      refine AQ.nx rfl ?_
      simp only [go_sem, Nat.reduceAdd, Nat.reduceLeDiff, Nat.reduceSub, Int.reduceToNat, reduceCtorEq]
      refine AQ.done ?_
      repeat (first | refine xA ?_ | refine xB ?_ | refine xC ?_ | refine xE ?_ | refine xD ?_ | refine xK ?_ | refine xS ?_ | refine xM ?_ | refine xT ?_ | refine xF ?_ | ((first | refine xR ?_ | refine xW ?_ | refine vq_id ?_); simp only [go_sem, Nat.reduceAdd, Nat.reduceLeDiff, Nat.reduceSub, Int.reduceToNat, reduceCtorEq]) | (refine ⟨by first | omega | (intros; simp_all; done) | (intros; simp_all; omega), ?_⟩; try simp only [go_sem, Nat.reduceAdd, Nat.reduceLeDiff, Nat.reduceSub, Int.reduceToNat, reduceCtorEq]))
      exact AE.retD [5, 4, 3, 2, 1, 0] rfl ⟨rfl, trivial⟩ rfl ⟨rfl, rfl⟩
    · refine AQ.guard_yes (by simp only [go_sem]) ?_
      refine AQ.effS (by kernel_rfl) rfl ?_
      simp only [go_sem, Nat.reduceAdd, Nat.reduceLeDiff, Nat.reduceSub, Int.reduceToNat, reduceCtorEq]
      refine AQ.nx rfl ?_
      simp only [go_sem, Nat.reduceAdd, Nat.reduceLeDiff, Nat.reduceSub, Int.reduceToNat, reduceCtorEq, beq_self_eq_true, Bool.and_self, bne_self_eq_false, Bool.or_self, Bool.not_true, Bool.not_false]
      refine AQ.guard_yes (by simp only [go_sem]) ?_
      refine AQ.fn (by kernel_rfl) rfl rfl rfl (hq) rfl ?_
      simp only [go_sem, Nat.reduceAdd, Nat.reduceLeDiff, Nat.reduceSub, Int.reduceToNat, reduceCtorEq]
      refine AQ.nx rfl ?_
      simp only [go_sem, Nat.reduceAdd, Nat.reduceLeDiff, Nat.reduceSub, Int.reduceToNat, reduceCtorEq, beq_self_eq_true, Bool.and_self, bne_self_eq_false, Bool.or_self, Bool.not_true, Bool.not_false]
      refine AQ.guard_yes (by simp only [go_sem]) ?_
      refine AQ.fn (by kernel_rfl) rfl rfl rfl (hq2) rfl ?_
      simp only [go_sem, Nat.reduceAdd, Nat.reduceLeDiff, Nat.reduceSub, Int.reduceToNat, reduceCtorEq]
      refine AQ.nx rfl ?_
      simp only [go_sem, Nat.reduceAdd, Nat.reduceLeDiff, Nat.reduceSub, Int.reduceToNat, reduceCtorEq, beq_self_eq_true, Bool.and_self, bne_self_eq_false, Bool.or_self, Bool.not_true, Bool.not_false]
      refine AQ.guard_yes (by simp only [go_sem]) ?_
      refine AQ.fn (by kernel_rfl) rfl rfl rfl (awake_spec) rfl ?_
      simp only [go_sem, Nat.reduceAdd, Nat.reduceLeDiff, Nat.reduceSub, Int.reduceToNat, reduceCtorEq]
      refine AQ.nx rfl ?_
      simp only [go_sem, Nat.reduceAdd, Nat.reduceLeDiff, Nat.reduceSub, Int.reduceToNat, reduceCtorEq, beq_self_eq_true, Bool.and_self, bne_self_eq_false, Bool.or_self, Bool.not_true, Bool.not_false]
      refine AQ.go (by kernel_rfl) ?_
      simp only [go_sem, Nat.reduceAdd, Nat.reduceLeDiff, Nat.reduceSub, Int.reduceToNat, reduceCtorEq]
      refine AQ.nx rfl ?_
      simp only [go_sem, Nat.reduceAdd, Nat.reduceLeDiff, Nat.reduceSub, Int.reduceToNat, reduceCtorEq]
      refine AQ.done ?_
      repeat (first | refine xA ?_ | refine xB ?_ | refine xC ?_ | refine xE ?_ | refine xD ?_ | refine xK ?_ | refine xS ?_ | refine xM ?_ | refine xT ?_ | refine xF ?_ | ((first | refine xR ?_ | refine xW ?_ | refine vq_id ?_); simp only [go_sem, Nat.reduceAdd, Nat.reduceLeDiff, Nat.reduceSub, Int.reduceToNat, reduceCtorEq]) | (refine ⟨by first | omega | (intros; simp_all; done) | (intros; simp_all; omega), ?_⟩; try simp only [go_sem, Nat.reduceAdd, Nat.reduceLeDiff, Nat.reduceSub, Int.reduceToNat, reduceCtorEq]))
      exact AE.retD [5, 4, 3, 2, 1, 0] rfl ⟨rfl, trivial⟩ rfl ⟨rfl, rfl⟩
  · refine AQ.guard_yes (by simp only [go_sem]) ?_
    refine AQ.effS (by kernel_rfl) rfl ?_
    simp only [go_sem, Nat.reduceAdd, Nat.reduceLeDiff, Nat.reduceSub, Int.reduceToNat, reduceCtorEq]
    refine AQ.nx rfl ?_
    simp only [go_sem, Nat.reduceAdd, Nat.reduceLeDiff, Nat.reduceSub, Int.reduceToNat, reduceCtorEq, beq_self_eq_true, Bool.and_self, bne_self_eq_false, Bool.or_self, Bool.not_true, Bool.not_false]
    refine AQ.guard_yes (by simp only [go_sem]) ?_
    refine AQ.effS (by kernel_rfl) rfl ?_
    simp only [go_sem, Nat.reduceAdd, Nat.reduceLeDiff, Nat.reduceSub, Int.reduceToNat, reduceCtorEq]
    refine AQ.nx rfl ?_
    simp only [go_sem, Nat.reduceAdd, Nat.reduceLeDiff, Nat.reduceSub, Int.reduceToNat, reduceCtorEq, beq_self_eq_true, Bool.and_self, bne_self_eq_false, Bool.or_self, Bool.not_true, Bool.not_false]
    refine AQ.guard_yes (by simp only [go_sem]) ?_
    refine AQ.fn (by kernel_rfl) rfl rfl rfl (hq) rfl ?_
    simp only [go_sem, Nat.reduceAdd, Nat.reduceLeDiff, Nat.reduceSub, Int.reduceToNat, reduceCtorEq]
    refine AQ.nx rfl ?_
    simp only [go_sem, Nat.reduceAdd, Nat.reduceLeDiff, Nat.reduceSub, Int.reduceToNat, reduceCtorEq, beq_self_eq_true, Bool.and_self, bne_self_eq_false, Bool.or_self, Bool.not_true, Bool.not_false]
    refine AQ.guard_yes (by simp only [go_sem]) ?_
    refine AQ.fn (by kernel_rfl) rfl rfl rfl (hq2) rfl ?_
    simp only [go_sem, Nat.reduceAdd, Nat.reduceLeDiff, Nat.reduceSub, Int.reduceToNat, reduceCtorEq]
    refine AQ.nx rfl ?_
    simp only [go_sem, Nat.reduceAdd, Nat.reduceLeDiff, Nat.reduceSub, Int.reduceToNat, reduceCtorEq, beq_self_eq_true, Bool.and_self, bne_self_eq_false, Bool.or_self, Bool.not_true, Bool.not_false]
    refine AQ.guard_yes (by simp only [go_sem]) ?_
    refine AQ.fn (by kernel_rfl) rfl rfl rfl (awake_spec) rfl ?_
    simp only [go_sem, Nat.reduceAdd, Nat.reduceLeDiff, Nat.reduceSub, Int.reduceToNat, reduceCtorEq]
    refine AQ.nx rfl ?_
    simp only [go_sem, Nat.reduceAdd, Nat.reduceLeDiff, Nat.reduceSub, Int.reduceToNat, reduceCtorEq, beq_self_eq_true, Bool.and_self, bne_self_eq_false, Bool.or_self, Bool.not_true, Bool.not_false]
    refine AQ.go (by kernel_rfl) ?_
    simp only [go_sem, Nat.reduceAdd, Nat.reduceLeDiff, Nat.reduceSub, Int.reduceToNat, reduceCtorEq]
    refine AQ.nx rfl ?_
    simp only [go_sem, Nat.reduceAdd, Nat.reduceLeDiff, Nat.reduceSub, Int.reduceToNat, reduceCtorEq]
    refine AQ.done ?_
    repeat (first | refine xA ?_ | refine xB ?_ | refine xC ?_ | refine xE ?_ | refine xD ?_ | refine xK ?_ | refine xS ?_ | refine xM ?_ | refine xT ?_ | refine xF ?_ | ((first | refine xR ?_ | refine xW ?_ | refine vq_id ?_); simp only [go_sem, Nat.reduceAdd, Nat.reduceLeDiff, Nat.reduceSub, Int.reduceToNat, reduceCtorEq]) | (refine ⟨by first | omega | (intros; simp_all; done) | (intros; simp_all; omega), ?_⟩; try simp only [go_sem, Nat.reduceAdd, Nat.reduceLeDiff, Nat.reduceSub, Int.reduceToNat, reduceCtorEq]))
    exact AE.retD [5, 4, 3, 2, 1, 0] rfl ⟨rfl, trivial⟩ rfl ⟨rfl, rfl⟩
end Go.Proofs.YtlpcdpjkdodmcaaDoor
end
