import Derived.Test.YtlpcdpjkdodmcaaGreatDoorW1
import Derived.Test.YtlpcdpjkdodmcaaGreatDoorCards
import Derived.Test.YtlpcdpjkdodmcaaGreatDoorTie
import Derived.Stop.LaidErr
import Derived.Lib.LaidTab
set_option linter.unusedSimpArgs false
set_option linter.unusedVariables false
set_option linter.unnecessarySimpa false
section
namespace Go.Proofs.YtlpcdpjkdodmcaaGreatDoor
open Go Go.AL Go.RowKit
set_option maxRecDepth 10000
set_option maxHeartbeats 4000000
def inner (k n : Nat) (l : List UInt8) : List UInt8 := UInt8.ofNat k :: (be4 n ++ l)
def frame (k n : Nat) (l : List UInt8) : List UInt8 := be4 (l.length + 9) ++ (inner k n l ++ be4 (adSum (inner k n l)))
theorem be4_len (n : Nat) : (be4 n).length = 4 := rfl
theorem adSum_lt (l : List UInt8) : adSum l < 4294967296 := by
  obtain ⟨h1, h2⟩ := ad_lt l
  unfold adSum
  omega
theorem u8k (k : Nat) : IntKind.u8.wrap (k : Int) = ((UInt8.ofNat k).toNat : Int) := u8w k
theorem msgE_ok {k n : Int} {l : List UInt8} (h : msgE k n l = 0) : 1 ≤ k ∧ k ≤ 9 ∧ 1 ≤ n ∧ n ≤ 2147483647 ∧ l.length ≤ 20000 ∧ bodyB k l = true := by
  unfold msgE at h
  split at h
  · simp at h
  split at h
  · simp at h
  split at h
  · simp at h
  split at h
  · rename_i h1 h2 h3 h4
    exact ⟨by omega, by omega, by omega, by omega, by omega, h4⟩
  · simp at h
abbrev nilS : AV := .im (.v (.slice none 0 0))
def encV (k n : Int) (l : List UInt8) : AV := if msgE k n l = 0 then .tup [.im (.sl 1 (byteR (frame k.toNat n.toNat l))), Iv 0] else .tup [nilS, Iv (msgE k n l)]
theorem encode_spec (k n : Int) (l : List UInt8) : PFn Tryz.prog 27 [.agg [Iv k, Iv n, Sv l]] (encV k n l) := by
  have hs := error_spec k n l
  unfold encV
  obtain ⟨e, he⟩ : ∃ e, msgE k n l = e := ⟨_, rfl⟩
  rw [he] at hs ⊢
  by_cases h0 : e = 0
  · subst h0
    rw [if_pos rfl]
    obtain ⟨h1, h2, h3, h4, h5, h6⟩ := msgE_ok he
    obtain ⟨K, rfl⟩ : ∃ K : Nat, k = K := ⟨k.toNat, by omega⟩
    obtain ⟨N, rfl⟩ : ∃ N : Nat, n = N := ⟨n.toNat, by omega⟩
    clear he h6
    have b1 := bytesOf_spec (l.length + 9) (by omega)
    have b2 := bytesOf_spec N (by omega)
    have w1 : IntKind.i64.wrap ((l.length : Int) + 9) = ((l.length + 9 : Nat) : Int) := wr (by omega)
    have w2 := u32w (l.length + 9) (by omega)
    have w3 := u32w N (by omega)
    have w4 := u8k K
    refine ACall.walk [0, 1, 2, 3, 4, 5, 6, 7, 8, 12] [5, 6, 8] Tryz.func27 rfl Tryz.ntmps27 (by kernel_rfl) (by rfl) rfl fun W own I0 φ0 lay => ?_
    repeat (first | refine xA ?_ | refine xB ?_ | refine xC ?_ | refine xE ?_ | refine xD ?_ | refine xK ?_ | refine xS ?_ | refine xM ?_ | refine xT ?_ | refine xF ?_ | ((first | refine xR ?_ | refine xW ?_ | refine vq_id ?_); simp only [go_sem, Nat.reduceAdd, Nat.reduceLeDiff, Nat.reduceSub, Int.reduceToNat, reduceCtorEq]) | (refine ⟨by first | omega | (intros; simp_all; done) | (intros; simp_all; omega), ?_⟩; try simp only [go_sem, Nat.reduceAdd, Nat.reduceLeDiff, Nat.reduceSub, Int.reduceToNat, reduceCtorEq]))
    refine AQ.fn (by kernel_rfl) rfl rfl rfl (hs) rfl ?_
    repeat (first | refine xA ?_ | refine xB ?_ | refine xC ?_ | refine xE ?_ | refine xD ?_ | refine xK ?_ | refine xS ?_ | refine xM ?_ | refine xT ?_ | refine xF ?_ | ((first | refine xR ?_ | refine xW ?_ | refine vq_id ?_); simp only [go_sem, Nat.reduceAdd, Nat.reduceLeDiff, Nat.reduceSub, Int.reduceToNat, reduceCtorEq]) | (refine ⟨by first | omega | (intros; simp_all; done) | (intros; simp_all; omega), ?_⟩; try simp only [go_sem, Nat.reduceAdd, Nat.reduceLeDiff, Nat.reduceSub, Int.reduceToNat, reduceCtorEq]))
    refine AP.cut (α := Unit) (fun _ => [(1, .im (.pt [Ii K, Ii N, Si l])), (5, .ob 7 0), (6, .im (.pt (A4 N)))]) (fun _ => [(7, .vec 108 1 ((A4 (l.length + 9)).map fun c => [c]))]) (fun _ => True) ?_ fun _ _ => ?_
    · skip
      refine AP.drawE 14 (Tree.node [] [0, 1, 2, 3, 4, 6, 7, 8] [5, 10, 11] [Tree.node [6, 7, 8] [] [9, 10, 11] [Tree.node [] [] [10, 11] [Tree.node [] [] [11] [Tree.node [] [] [12] [Tree.node [] [] [13] [Tree.node [] [] [] []]]], Tree.node [] [] [10] [Tree.node [] [] [12] [Tree.node [] [] [13] [Tree.node [] [] [] []]]]], Tree.node [6, 7, 8] [] [9, 11] [Tree.node [] [] [11] [Tree.node [] [] [12] [Tree.node [] [] [13] [Tree.node [] [] [] []]]], Tree.node [6, 7, 8] [] [9] [Tree.node [] [] [12] [Tree.node [] [] [13] [Tree.node [] [] [] []]]]], Tree.node [6, 7, 8] [] [9, 10] [Tree.node [] [] [10] [Tree.node [] [] [12] [Tree.node [] [] [13] [Tree.node [] [] [] []]]], Tree.node [6, 7, 8] [] [9] [Tree.node [] [] [12] [Tree.node [] [] [13] [Tree.node [] [] [] []]]]]], Tree.node [0, 1, 2, 3, 4, 6, 7, 8] [] [5, 11] [Tree.node [6, 7, 8] [] [9, 11] [Tree.node [] [] [11] [Tree.node [] [] [12] [Tree.node [] [] [13] [Tree.node [] [] [] []]]], Tree.node [6, 7, 8] [] [9] [Tree.node [] [] [12] [Tree.node [] [] [13] [Tree.node [] [] [] []]]]], Tree.node [0, 1, 2, 3, 4, 6, 7, 8] [] [5] [Tree.node [6, 7, 8] [] [9] [Tree.node [] [] [12] [Tree.node [] [] [13] [Tree.node [] [] [] []]]]]], Tree.node [0, 1, 2, 3, 4, 6, 7, 8] [] [5, 10] [Tree.node [6, 7, 8] [] [9, 10] [Tree.node [] [] [10] [Tree.node [] [] [12] [Tree.node [] [] [13] [Tree.node [] [] [] []]]], Tree.node [6, 7, 8] [] [9] [Tree.node [] [] [12] [Tree.node [] [] [13] [Tree.node [] [] [] []]]]], Tree.node [0, 1, 2, 3, 4, 6, 7, 8] [] [5] [Tree.node [6, 7, 8] [] [9] [Tree.node [] [] [12] [Tree.node [] [] [13] [Tree.node [] [] [] []]]]]]]) (by kernel_rfl) rfl (by kernel_rfl) (by kernel_rfl) ?_
      refine vd_node ?_
      simp only [go_sem, Nat.reduceAdd, Nat.reduceLeDiff, Nat.reduceSub, Int.reduceToNat, reduceCtorEq, BA_size, w1, w2, w3]
      repeat' (first | with_reducible exact True.intro | with_reducible refine And.intro (by omega) ?_ | with_reducible refine And.intro ?_ ?_ | (refine AQ.nx rfl ?_; simp only [go_sem, Nat.reduceAdd, Nat.reduceLeDiff, Nat.reduceSub, Int.reduceToNat, reduceCtorEq, BA_size, w1, w2, w3]) | (refine AQ.fn (by kernel_rfl) rfl rfl rfl (b1) rfl ?_; simp only [go_sem, Nat.reduceAdd, Nat.reduceLeDiff, Nat.reduceSub, Int.reduceToNat, reduceCtorEq]) | (refine AQ.fn (by kernel_rfl) rfl rfl rfl (b2) rfl ?_; simp only [go_sem, Nat.reduceAdd, Nat.reduceLeDiff, Nat.reduceSub, Int.reduceToNat, reduceCtorEq]) | refine AQ.done ?_ | (refine AQ.go (by kernel_rfl) ?_; simp only [go_sem, Nat.reduceAdd, Nat.reduceLeDiff, Nat.reduceSub, Int.reduceToNat, reduceCtorEq, BA_size, w1, w2, w3]; repeat (with_reducible refine And.intro (by omega) ?_); refine AQ.nx rfl ?_; simp only [go_sem, Nat.reduceAdd, Nat.reduceLeDiff, Nat.reduceSub, Int.reduceToNat, reduceCtorEq, BA_size, w1, w2, w3]))
      all_goals first
        | rfl
        | (simp only [go_sem, Nat.reduceAdd, Nat.reduceLeDiff, Nat.reduceSub, Int.reduceToNat, reduceCtorEq]; refine AE.freeze 1 (el := 108) (es := 1) (rows := (A4 N).map fun c => [c]) rfl (by simp [go_sem]) (by simp [go_sem]) ?_; simp only [go_sem, Nat.reduceAdd, Nat.reduceLeDiff, Nat.reduceSub, Int.reduceToNat, reduceCtorEq]; refine AE.rename 0 7 rfl rfl rfl ?_; simp only [go_sem, Nat.reduceAdd, Nat.reduceLeDiff, Nat.reduceSub, Int.reduceToNat, reduceCtorEq]; exact AE.meet () trivial (by repeat (first | exact Sub.nil _ | refine Sub.cons rfl ?_)) rfl)
        | (simp only [go_sem, Nat.reduceAdd, Nat.reduceLeDiff, Nat.reduceSub, Int.reduceToNat, reduceCtorEq]; refine AE.freeze 0 (el := 108) (es := 1) (rows := (A4 N).map fun c => [c]) rfl (by simp [go_sem]) (by simp [go_sem]) ?_; simp only [go_sem, Nat.reduceAdd, Nat.reduceLeDiff, Nat.reduceSub, Int.reduceToNat, reduceCtorEq]; refine AE.rename 1 7 rfl rfl rfl ?_; simp only [go_sem, Nat.reduceAdd, Nat.reduceLeDiff, Nat.reduceSub, Int.reduceToNat, reduceCtorEq]; exact AE.meet () trivial (by repeat (first | exact Sub.nil _ | refine Sub.cons rfl ?_)) rfl)
    have hr1 : ∀ m : Nat, ((A4 m).map fun c => [c]).length = 4 := fun m => rfl
    repeat (first | refine xA ?_ | refine xB ?_ | refine xC ?_ | refine xE ?_ | refine xD ?_ | refine xK ?_ | refine xS ?_ | refine xM ?_ | refine xT ?_ | refine xF ?_ | ((first | refine xR ?_ | refine xW ?_ | refine vq_id ?_); simp only [go_sem, Nat.reduceAdd, Nat.reduceLeDiff, Nat.reduceSub, Int.reduceToNat, reduceCtorEq]) | (refine ⟨by first | omega | (intros; simp_all; done) | (intros; simp_all; omega), ?_⟩; try simp only [go_sem, Nat.reduceAdd, Nat.reduceLeDiff, Nat.reduceSub, Int.reduceToNat, reduceCtorEq]))
    refine AP.drawE 7 (Tree.node [] [0, 1, 2, 3] [4] [Tree.node [0] [] [5] [Tree.node [] [6] [] []]]) (by kernel_rfl) rfl (by kernel_rfl) (by kernel_rfl) ?_
    refine vd_node ?_
    simp only [go_sem, Nat.reduceAdd, Nat.reduceLeDiff, Nat.reduceSub, Int.reduceToNat, reduceCtorEq, w4, hr1]
    repeat' (first | with_reducible exact True.intro | with_reducible refine And.intro (by omega) ?_ | with_reducible refine And.intro ?_ ?_ | (refine AQ.nx rfl ?_; simp only [go_sem, Nat.reduceAdd, Nat.reduceLeDiff, Nat.reduceSub, Int.reduceToNat, reduceCtorEq, w4, hr1]) | (refine AQ.appendG (hnb := rfl) (rows := (A4 (l.length + 9)).map fun c => [c]) (es := 0) (by kernel_rfl) rfl rfl rfl (by rfl) Tryz.tk76 Tryz.sz5 (by show Option.map _ (zro Tryz.prog 5) = _; rw [Tryz.zr5]; rfl) Tryz.by5 (by first | rfl | (simp only [hr1, List.length_append, List.length_cons, List.length_nil]; done) | (simp only [hr1, List.length_append, List.length_cons, List.length_nil]; omega)) (by simp only [hr1, List.length_append, List.length_cons, List.length_nil]; omega) (by simp only [hr1, List.length_append, List.length_cons, List.length_nil]; omega) fun el1 => ?_; simp only [go_sem, Nat.reduceAdd, Nat.reduceLeDiff, Nat.reduceSub, Int.reduceToNat, reduceCtorEq, hr1]) | refine AQ.done ?_ | (refine AQ.go (by kernel_rfl) ?_; simp only [go_sem, Nat.reduceAdd, Nat.reduceLeDiff, Nat.reduceSub, Int.reduceToNat, reduceCtorEq, w4, hr1]; repeat (with_reducible refine And.intro (by omega) ?_); refine AQ.nx rfl ?_; simp only [go_sem, Nat.reduceAdd, Nat.reduceLeDiff, Nat.reduceSub, Int.reduceToNat, reduceCtorEq, w4, hr1]))
    repeat (first | refine xA ?_ | refine xB ?_ | refine xC ?_ | refine xE ?_ | refine xD ?_ | refine xK ?_ | refine xS ?_ | refine xM ?_ | refine xT ?_ | refine xF ?_ | ((first | refine xR ?_ | refine xW ?_ | refine vq_id ?_); simp only [go_sem, Nat.reduceAdd, Nat.reduceLeDiff, Nat.reduceSub, Int.reduceToNat, reduceCtorEq]) | (refine ⟨by first | omega | (intros; simp_all; done) | (intros; simp_all; omega), ?_⟩; try simp only [go_sem, Nat.reduceAdd, Nat.reduceLeDiff, Nat.reduceSub, Int.reduceToNat, reduceCtorEq]))
    have hA : ∀ m : Nat, (A4 m).map (fun c => [c]) = byteR (be4 m) := fun m => rfl
    have hk1 : [[IV.v (Value.int .u8 ((UInt8.ofNat K).toNat : Int))]] = byteR [UInt8.ofNat K] := rfl
    have hB : ((A4 N).take 4).map (fun c => [c]) = byteR (be4 N) := rfl
    have h44 : (A4 N).length = 4 := rfl
    rw [hA, hk1, byteR_append]
    refine AP.drawE 6 (Tree.node [] [0, 1, 3, 4] [2] [Tree.node [3, 4] [] [5] [Tree.node [] [] [] []]]) (by kernel_rfl) rfl (by kernel_rfl) (by kernel_rfl) ?_
    refine vd_node ?_
    simp only [go_sem, Nat.reduceAdd, Nat.reduceLeDiff, Nat.reduceSub, Int.reduceToNat, reduceCtorEq, hB, h44]
    refine AQ.appendG (hnb := rfl) (rows := byteR (be4 (l.length + 9) ++ [UInt8.ofNat K])) (es := 0) (by kernel_rfl) rfl rfl rfl (by rfl) Tryz.tk76 Tryz.sz5 (by show Option.map _ (zro Tryz.prog 5) = _; rw [Tryz.zr5]; rfl) Tryz.by5 (by first | rfl | (simp only [byteR_len, be4_len, List.length_append, List.length_cons, List.length_nil]; done) | (simp only [byteR_len, be4_len, List.length_append, List.length_cons, List.length_nil]; omega)) (by simp only [byteR_len, be4_len, List.length_append, List.length_cons, List.length_nil]; omega) (by simp only [byteR_len, be4_len, List.length_append, List.length_cons, List.length_nil]; omega) fun el1 => ?_
    simp only [go_sem, Nat.reduceAdd, Nat.reduceLeDiff, Nat.reduceSub, Int.reduceToNat, reduceCtorEq, byteR_append, byteR_len, be4_len, List.length_append, List.length_cons, List.length_nil]
    refine AQ.nx rfl ?_
    simp only [go_sem, Nat.reduceAdd, Nat.reduceLeDiff, Nat.reduceSub, Int.reduceToNat, reduceCtorEq]
    refine AQ.appendSG (hnb := rfl) (rows := byteR (be4 (l.length + 9) ++ [UInt8.ofNat K] ++ be4 N)) (l := l) (by kernel_rfl) rfl rfl rfl (by rfl) Tryz.tk76 (by kernel_rfl) Tryz.sz5 Tryz.zr5 Tryz.by5 (by first | rfl | (simp only [byteR_len, be4_len, List.length_append, List.length_cons, List.length_nil]; done) | (simp only [byteR_len, be4_len, List.length_append, List.length_cons, List.length_nil]; omega)) (by simp only [byteR_len, be4_len, List.length_append, List.length_cons, List.length_nil]; omega) fun el1 => ?_
    simp only [go_sem, Nat.reduceAdd, Nat.reduceLeDiff, Nat.reduceSub, Int.reduceToNat, reduceCtorEq, byteR_append, byteR_len, be4_len, List.length_append, List.length_cons, List.length_nil]
    refine AQ.nx rfl ?_
    simp only [go_sem, Nat.reduceAdd, Nat.reduceLeDiff, Nat.reduceSub, Int.reduceToNat, reduceCtorEq]
    repeat (first | refine xA ?_ | refine xB ?_ | refine xC ?_ | refine xE ?_ | refine xD ?_ | refine xK ?_ | refine xS ?_ | refine xM ?_ | refine xT ?_ | refine xF ?_ | ((first | refine xR ?_ | refine xW ?_ | refine vq_id ?_); simp only [go_sem, Nat.reduceAdd, Nat.reduceLeDiff, Nat.reduceSub, Int.reduceToNat, reduceCtorEq]) | (refine ⟨by first | omega | (intros; simp_all; done) | (intros; simp_all; omega), ?_⟩; try simp only [go_sem, Nat.reduceAdd, Nat.reduceLeDiff, Nat.reduceSub, Int.reduceToNat, reduceCtorEq]))
    have hin : be4 (l.length + 9) ++ [UInt8.ofNat K] ++ be4 N ++ l = be4 (l.length + 9) ++ inner K N l := by simp [inner]
    have hil : (inner K N l).length = 5 + l.length := by simp [inner, be4_len]; omega
    have hdr : ((byteR (be4 (l.length + 9) ++ inner K N l)).drop 4).take (9 + l.length - 4) = byteR (inner K N l) := by
      rw [byteR_drop, byteR_take]
      congr 1
      rw [List.drop_append_of_le_length (by rw [be4_len]; exact Nat.le_refl _), show (be4 (l.length + 9)).drop 4 = [] from rfl, List.nil_append]
      exact List.take_of_length_le (by rw [hil]; omega)
    rw [hin]
    have hck := checksum_spec (inner K N l) (by rw [hil]; omega)
    have b3 := bytesOf_spec (adSum (inner K N l)) (adSum_lt _)
    refine AQ.fnL [.im (.sl 1 (byteR (inner K N l)))] (by kernel_rfl) rfl rfl rfl (LentAs.cons (LentA.of (by rw [← hdr]; exact Lent.os rfl (by rw [byteR_len, List.length_append, be4_len, hil]; omega))) LentAs.nil) hck rfl (fun _ => rfl) ?_
    simp only [go_sem, Nat.reduceAdd, Nat.reduceLeDiff, Nat.reduceSub, Int.reduceToNat, reduceCtorEq]
    have h4s : (A4 (adSum (inner K N l))).length = 4 := rfl
    refine AQ.fn (by kernel_rfl) rfl rfl rfl (b3) rfl ?_
    repeat (first | refine xA ?_ | refine xB ?_ | refine xC ?_ | refine xE ?_ | refine xD ?_ | refine xK ?_ | refine xS ?_ | refine xM ?_ | refine xT ?_ | refine xF ?_ | ((first | refine xR ?_ | refine xW ?_ | refine vq_id ?_); simp only [go_sem, Nat.reduceAdd, Nat.reduceLeDiff, Nat.reduceSub, Int.reduceToNat, reduceCtorEq, h4s, hr1]) | (refine ⟨by first | omega | (intros; simp_all; done) | (intros; simp_all; omega), ?_⟩; try simp only [go_sem, Nat.reduceAdd, Nat.reduceLeDiff, Nat.reduceSub, Int.reduceToNat, reduceCtorEq, h4s, hr1]))
    refine AQ.appendOG (hnb := rfl) (rows := byteR (be4 (l.length + 9) ++ inner K N l)) (rows' := byteR (be4 (adSum (inner K N l)))) (xs := byteR (be4 (adSum (inner K N l)))) (es := 0) (by kernel_rfl) rfl rfl rfl (Nat.le_refl _) rfl rfl (by rfl) Tryz.tk76 Tryz.sz5 (by show Option.map _ (zro Tryz.prog 5) = _; rw [Tryz.zr5]; rfl) Tryz.by5 (by rw [byteR_len, List.length_append, be4_len, hil]; omega) (by rw [byteR_len, byteR_len, List.length_append, be4_len, be4_len, hil]; omega) (by rw [byteR_len, byteR_len, List.length_append, be4_len, be4_len, hil]; omega) fun el1 => ?_
    repeat (first | refine xA ?_ | refine xB ?_ | refine xC ?_ | refine xE ?_ | refine xD ?_ | refine xK ?_ | refine xS ?_ | refine xM ?_ | refine xT ?_ | refine xF ?_ | ((first | refine xR ?_ | refine xW ?_ | refine vq_id ?_); simp only [go_sem, Nat.reduceAdd, Nat.reduceLeDiff, Nat.reduceSub, Int.reduceToNat, reduceCtorEq]) | (refine ⟨by first | omega | (intros; simp_all; done) | (intros; simp_all; omega), ?_⟩; try simp only [go_sem, Nat.reduceAdd, Nat.reduceLeDiff, Nat.reduceSub, Int.reduceToNat, reduceCtorEq]))
    refine AE.freeze 7 (rows := byteR (be4 (l.length + 9) ++ inner K N l) ++ byteR (be4 (adSum (inner K N l)))) rfl (by simp [go_sem]) (by simp [go_sem]) ?_
    simp only [go_sem, Nat.reduceAdd, Nat.reduceLeDiff, Nat.reduceSub, Int.reduceToNat, reduceCtorEq]
    refine AE.ret0 rfl ⟨rfl, rfl, trivial⟩ rfl ⟨rfl, ?_⟩
    simp only [tupOf, AV.st, frame, Int.toNat_natCast, byteR_append, List.drop_zero, ← List.length_append]
    rw [List.take_of_length_le (by simp [byteR_len]), List.append_assoc]
  · rw [if_neg h0]
    refine ACall.walk [0, 1, 2, 3, 4, 5, 6, 7, 8, 12] [5, 6, 8] Tryz.func27 rfl Tryz.ntmps27 (by kernel_rfl) (by rfl) rfl fun W own I0 φ0 lay => ?_
    repeat (first | refine xA ?_ | refine xB ?_ | refine xC ?_ | refine xE ?_ | refine xD ?_ | refine xK ?_ | refine xS ?_ | refine xM ?_ | refine xT ?_ | refine xF ?_ | ((first | refine xR ?_ | refine xW ?_ | refine vq_id ?_); simp only [go_sem, Nat.reduceAdd, Nat.reduceLeDiff, Nat.reduceSub, Int.reduceToNat, reduceCtorEq]) | (refine ⟨by first | omega | (intros; simp_all; done) | (intros; simp_all; omega), ?_⟩; try simp only [go_sem, Nat.reduceAdd, Nat.reduceLeDiff, Nat.reduceSub, Int.reduceToNat, reduceCtorEq]))
    refine AQ.fn (by kernel_rfl) rfl rfl rfl (hs) rfl ?_
    repeat (first | refine xA ?_ | refine xB ?_ | refine xC ?_ | refine xE ?_ | refine xD ?_ | refine xK ?_ | refine xS ?_ | refine xM ?_ | refine xT ?_ | refine xF ?_ | ((first | refine xR ?_ | refine xW ?_ | refine vq_id ?_); simp only [go_sem, Nat.reduceAdd, Nat.reduceLeDiff, Nat.reduceSub, Int.reduceToNat, reduceCtorEq]) | (refine ⟨by first | omega | (intros; simp_all; done) | (intros; simp_all; omega), ?_⟩; try simp only [go_sem, Nat.reduceAdd, Nat.reduceLeDiff, Nat.reduceSub, Int.reduceToNat, reduceCtorEq]))
    refine AP.cond rfl rfl (fun hc => ?_) (fun hc => ?_)
    · repeat (first | refine xA ?_ | refine xB ?_ | refine xC ?_ | refine xE ?_ | refine xD ?_ | refine xK ?_ | refine xS ?_ | refine xM ?_ | refine xT ?_ | refine xF ?_ | ((first | refine xR ?_ | refine xW ?_ | refine vq_id ?_); simp only [go_sem, Nat.reduceAdd, Nat.reduceLeDiff, Nat.reduceSub, Int.reduceToNat, reduceCtorEq]) | (refine ⟨by first | omega | (intros; simp_all; done) | (intros; simp_all; omega), ?_⟩; try simp only [go_sem, Nat.reduceAdd, Nat.reduceLeDiff, Nat.reduceSub, Int.reduceToNat, reduceCtorEq]))
      exact AE.ret0 rfl ⟨rfl, rfl, trivial⟩ rfl ⟨rfl, rfl⟩
    · simp at hc; exact absurd hc h0
end Go.Proofs.YtlpcdpjkdodmcaaGreatDoor
end

section
namespace Go.Proofs.YtlpcdpjkdodmcaaGreatDoor
open Go Go.AL Go.RowKit
set_option maxRecDepth 10000
set_option maxHeartbeats 4000000
abbrev Msg := Int × Int × List UInt8
def msgR (l : List Msg) : List (List IV) := l.map fun m => [Ii m.1, Ii m.2.1, Si m.2.2]
theorem msgR_len (l : List Msg) : (msgR l).length = l.length := by simp [msgR]
theorem msgR_snoc (l : List Msg) (m : Msg) : msgR l ++ [[Ii m.1, Ii m.2.1, Si m.2.2]] = msgR (l ++ [m]) := by simp [msgR]
end Go.Proofs.YtlpcdpjkdodmcaaGreatDoor
end

section
namespace Go.Proofs.YtlpcdpjkdodmcaaGreatDoor
open Go Go.AL Go.RowKit
set_option maxRecDepth 10000
set_option maxHeartbeats 4000000
theorem beq_spec (a b : List UInt8) : PFn Tryz.prog 28 [.im (.sl 1 (byteR a)), .im (.sl 1 (byteR b))] (Bv (a == b)) := by
  have ha := byteR_bytes a
  have hb := byteR_bytes b
  refine ACall.walk [0, 1, 4] [] Tryz.func28 rfl Tryz.ntmps28 (by kernel_rfl) (by rfl) rfl fun W own I0 φ0 lay => ?_
  repeat (first | refine xA ?_ | refine xB ?_ | refine xC ?_ | refine xE ?_ | refine xD ?_ | refine xK ?_ | refine xS ?_ | refine xM ?_ | refine xT ?_ | refine xF ?_ | ((first | refine xR ?_ | refine xW ?_ | refine vq_id ?_); simp only [go_sem, Nat.reduceAdd, Nat.reduceLeDiff, Nat.reduceSub, Int.reduceToNat, reduceCtorEq, Tryz.underlying76, Option.isSome_some, byteR_back]))
  refine ⟨ha, hb, ?_⟩
  repeat (first | refine xA ?_ | refine xB ?_ | refine xC ?_ | refine xE ?_ | refine xD ?_ | refine xK ?_ | refine xS ?_ | refine xM ?_ | refine xT ?_ | refine xF ?_ | ((first | refine xR ?_ | refine xW ?_ | refine vq_id ?_); simp only [go_sem, Nat.reduceAdd, Nat.reduceLeDiff, Nat.reduceSub, Int.reduceToNat, reduceCtorEq]) | (refine ⟨by first | omega | (intros; simp_all; done) | (intros; simp_all; omega), ?_⟩; try simp only [go_sem, Nat.reduceAdd, Nat.reduceLeDiff, Nat.reduceSub, Int.reduceToNat, reduceCtorEq]))
  exact AE.ret0 rfl ⟨rfl, trivial⟩ rfl ⟨rfl, rfl⟩
theorem msgR_get (l : List Msg) (k : Nat) (h : k < l.length) : ∃ m, l[k]? = some m ∧ (msgR l).getD k [] = [Ii m.1, Ii m.2.1, Si m.2.2] := by
  refine ⟨l[k], List.getElem?_eq_getElem h, ?_⟩
  rw [List.getD_eq_getElem?_getD, msgR, List.getElem?_map, List.getElem?_eq_getElem h]; rfl
theorem awake_spec : PFn Tryz.prog 6 [] (Bv true) := by
  have he := encode_spec 6 1 []
  have e1 : encV 6 1 [] = .tup [.im (.sl 1 (byteR [0, 0, 0, 9, 6, 0, 0, 0, 1, 0, 36, 0, 8])), Iv 0] := by
    have h1 : msgE 6 1 [] = 0 := by decide
    have h2 : frame 6 1 [] = [0, 0, 0, 9, 6, 0, 0, 0, 1, 0, 36, 0, 8] := by decide
    unfold encV
    rw [if_pos h1]
    show AV.tup [.im (.sl 1 (byteR (frame 6 1 []))), Iv 0] = _
    rw [h2]
  rw [e1] at he
  have hb := beq_spec [0, 0, 0, 9, 6, 0, 0, 0, 1, 0, 36, 0, 8] [0, 0, 0, 9, 6, 0, 0, 0, 1, 0, 36, 0, 8]
  rw [beq_self_eq_true] at hb
  refine ACall.walk [0, 1, 2] [] Tryz.func6 rfl Tryz.ntmps6 (by kernel_rfl) (by rfl) rfl fun W own I0 φ0 lay => ?_
  repeat (first | refine xA ?_ | refine xB ?_ | refine xC ?_ | refine xE ?_ | refine xD ?_ | refine xK ?_ | refine xS ?_ | refine xM ?_ | refine xT ?_ | refine xF ?_ | ((first | refine xR ?_ | refine xW ?_ | refine vq_id ?_); simp only [go_sem, Nat.reduceAdd, Nat.reduceLeDiff, Nat.reduceSub, Int.reduceToNat, reduceCtorEq]) | (refine ⟨by first | omega | (intros; simp_all; done) | (intros; simp_all; omega), ?_⟩; try simp only [go_sem, Nat.reduceAdd, Nat.reduceLeDiff, Nat.reduceSub, Int.reduceToNat, reduceCtorEq]))
  refine AQ.fn (by kernel_rfl) rfl rfl rfl (he) rfl ?_
  repeat (first | refine xA ?_ | refine xB ?_ | refine xC ?_ | refine xE ?_ | refine xD ?_ | refine xK ?_ | refine xS ?_ | refine xM ?_ | refine xT ?_ | refine xF ?_ | ((first | refine xR ?_ | refine xW ?_ | refine vq_id ?_); simp only [go_sem, Nat.reduceAdd, Nat.reduceLeDiff, Nat.reduceSub, Int.reduceToNat, reduceCtorEq, beq_self_eq_true]) | (refine ⟨by first | omega | (intros; simp_all; done) | (intros; simp_all; omega), ?_⟩; try simp only [go_sem, Nat.reduceAdd, Nat.reduceLeDiff, Nat.reduceSub, Int.reduceToNat, reduceCtorEq, beq_self_eq_true]))
  refine AQ.guard_yes (by simp only [go_sem]) ?_
  refine AQ.go (by kernel_rfl) ?_
  simp only [go_sem, Nat.reduceAdd, Nat.reduceLeDiff, Nat.reduceSub, Int.reduceToNat, reduceCtorEq]
  refine AQ.fn_g (by kernel_rfl) rfl rfl (fun h => by first | (simp [gs, AV.g]; done) | (simp [gs, AV.g, constAV]; done) | (simp [gs, AV.g, constAV, bw] at h ⊢; done) | (simp [gs, AV.g, constAV, bw] at h ⊢; exact h) | (simp [gs, AV.g, constAV, bw] at h ⊢; simp [h]; done) | (simp [bw] at h; done) | (simp [gs, AV.g, bw] at h ⊢; simp [h]; done) | (simp [gs, AV.g, bw] at h ⊢; exact h.1) | (simp [gs, AV.g]; rfl) | (simp [gs, AV.g, bw] at h ⊢; rfl) | (simp [gs, AV.g, bw] at h ⊢; simp [h]; rfl) | (simp [gs, AV.g, bw] at h ⊢; simp_all)) rfl (fun _ => hb) rfl ?_
  repeat (first | refine xA ?_ | refine xB ?_ | refine xC ?_ | refine xE ?_ | refine xD ?_ | refine xK ?_ | refine xS ?_ | refine xM ?_ | refine xT ?_ | refine xF ?_ | ((first | refine xR ?_ | refine xW ?_ | refine vq_id ?_); simp only [go_sem, Nat.reduceAdd, Nat.reduceLeDiff, Nat.reduceSub, Int.reduceToNat, reduceCtorEq]) | (refine ⟨by first | omega | (intros; simp_all; done) | (intros; simp_all; omega), ?_⟩; try simp only [go_sem, Nat.reduceAdd, Nat.reduceLeDiff, Nat.reduceSub, Int.reduceToNat, reduceCtorEq]))
  exact AE.ret0 rfl ⟨rfl, trivial⟩ rfl ⟨rfl, rfl⟩
end Go.Proofs.YtlpcdpjkdodmcaaGreatDoor
end

section
namespace Go.Proofs.YtlpcdpjkdodmcaaGreatDoor
open Go Go.AL Go.RowKit
set_option maxRecDepth 100000
theorem u8_nat {i : Int} (h : (Lit.int .u8 i).wf = true) : ∃ b : UInt8, i = b.toNat := by
  simp [Lit.wf, IntKind.min, IntKind.max, IntKind.bits, IntKind.signed] at h
  exact ⟨UInt8.ofNat i.toNat, by rw [UInt8.toNat_ofNat']; omega⟩
theorem gSyn : Tryz.prog.globalNamed "strconv.ErrSyntax" = some 1 := by kernel_rfl
theorem gRng : Tryz.prog.globalNamed "strconv.ErrRange" = some 2 := by kernel_rfl
theorem gPow : Tryz.prog.globalNamed "internal/strconv.uint64pow10" = some 0 := by kernel_rfl
theorem gSynT : (Tryz.prog.globals[1]?).map (·.type) = some 116 := by kernel_rfl
theorem gRngT : (Tryz.prog.globals[2]?).map (·.type) = some 116 := by kernel_rfl
theorem gPowT : (Tryz.prog.globals[0]?).map (·.type) = some 158 := by kernel_rfl
theorem row177 (u : TypeId) (h : Tryz.prog.typeName? 3 u = some "*errors.errorString") : u = 171 :=
  typeName_ptr_named (nm := "errors.errorString") (by rw [show "*" ++ "errors.errorString" = "*errors.errorString" by decide]; kernel_rfl) (by kernel_rfl) (by decide) u (by rw [show "*" ++ "errors.errorString" = "*errors.errorString" by decide]; exact h)
theorem var_cells {P : Program} {W : World} {n : String} {g : Nat} {cs : Array Value} (hg : P.globalNamed n = some g) (h : W.var? P n = some cs) : g < W.heap.size ∧ ∃ T fz, W.heap[g]? = some (.cells cs T fz) := by
  unfold World.var? at h
  rw [hg, Option.bind_some] at h
  split at h
  · rename_i cs' T fz hh
    cases h
    refine ⟨?_, T, fz, hh⟩
    rcases Nat.lt_or_ge g W.heap.size with h' | h'
    · exact h'
    · rw [Array.getElem?_eq_none h'] at hh; cases hh
  · cases h
theorem vk_of {W : World} (h : laidMet Tryz.prog [("math/bits.deBruijn32tab", Rows.laid_math_bits_deBruijn32tab), ("math/bits.deBruijn64tab", Rows.laid_math_bits_deBruijn64tab), ("internal/strconv.uint64pow10", Rows.laid_internal_strconv_uint64pow10), ("strconv.ErrRange", Rows.laid_strconv_ErrRange), ("strconv.ErrSyntax", Rows.laid_strconv_ErrSyntax)] W) :
    VK Tryz.prog W (fun g => g < W.heap.size) := by
  have h3 := h.tail.tail
  have h4 := h3.tail
  have h5 := h4.tail
  intro x hx g hg
  simp only [laidVars, List.mem_cons, List.not_mem_nil, or_false] at hx
  rcases hx with rfl | rfl | rfl
  · obtain ⟨a, s, hv, _⟩ := laid_sentinel h5 gSyn gSynT Tryz.underlying116 row177 Tryz.underlying171 Tryz.underlying173 rfl rfl Tryz.underlying9 (by kernel_rfl) (by kernel_rfl)
    obtain ⟨h1, T, fz, h2⟩ := var_cells hg hv
    exact ⟨h1, _, h2, _, _, T, fz, rfl⟩
  · obtain ⟨a, s, hv, _⟩ := laid_sentinel h4 gRng gRngT Tryz.underlying116 row177 Tryz.underlying171 Tryz.underlying173 rfl rfl Tryz.underlying9 (by kernel_rfl) (by kernel_rfl)
    obtain ⟨h1, T, fz, h2⟩ := var_cells hg hv
    exact ⟨h1, _, h2, _, _, T, fz, rfl⟩
  · have ht : Lib.TabIs Tryz.prog W "internal/strconv.uint64pow10" .u64 Lib.pow10Tab := Lib.tabIs_of_head (rest := _) gPow gPowT Tryz.underlying158 Tryz.underlying144 (by kernel_rfl) (by kernel_rfl) h3
    obtain ⟨h1, T, fz, h2⟩ := var_cells hg ht
    exact ⟨h1, _, h2, T, fz, rfl⟩
def synS : ByteArray := { data := #[105, 110, 118, 97, 108, 105, 100, 32, 115, 121, 110, 116, 97, 120] }
def rngS : ByteArray := { data := #[118, 97, 108, 117, 101, 32, 111, 117, 116, 32, 111, 102, 32, 114, 97, 110, 103, 101] }
noncomputable def low : Nat := (World.holding Tryz.prog default ⟨#[], #[], []⟩).heap.size
def litCells (d : DataW Unit) : Array Value := match d with
  | .agg l => (l.map fun x => match x with
    | .lit (.int k z) => Value.int k z
    | _ => .nilIface).toArray
  | _ => #[]
def putCells (cs : Array Value) : Obj → Obj
  | .cells _ t frozen => .cells cs t frozen
  | o => o
noncomputable def laidWorld (os : Os) : World :=
  let w0 := World.holding Tryz.prog os ⟨#[.cells #[.string synS] 173, .cells #[.string rngS] 173], #[], []⟩
  { w0 with heap := ((((w0.heap.modify 1 (putCells #[.iface 171 (.pointer (some ⟨low, 0, none⟩))])).modify 2 (putCells #[.iface 171 (.pointer (some ⟨low + 1, 0, none⟩))])).modify 0 (putCells (litCells Rows.laid_internal_strconv_uint64pow10))).modify 4 (putCells (litCells Rows.laid_math_bits_deBruijn32tab))).modify 5 (putCells (litCells Rows.laid_math_bits_deBruijn64tab)) }
end Go.Proofs.YtlpcdpjkdodmcaaGreatDoor
end

section
namespace Go.Proofs.YtlpcdpjkdodmcaaGreatDoor
open Go Go.AL Go.RowKit
set_option maxRecDepth 10000
set_option maxHeartbeats 4000000
@[go_sem] theorem Tryz.eq58 : eqOk Tryz.prog 58 = true := by kernel_rfl
@[go_sem] theorem Tryz.eq82 : eqOk Tryz.prog 82 = true := by kernel_rfl
@[go_sem] theorem Tryz.no47 : nameOk Tryz.prog 47 = true := by kernel_rfl
@[go_sem] theorem Tryz.no26 : nameOk Tryz.prog 26 = true := by kernel_rfl
theorem ACall.told {P : Program} {f : FuncId} {xs : List AV} {H : Heap} {R R' : AV → Heap → Prop} (h : ACall P f xs H R) (hr : ∀ r H', R r H' → ∃ r', R' r' H' ∧ ∀ w φ I v, AV.den w φ I r v → AV.den w φ I r' v) : ACall P f xs H R' :=
  ⟨h.ent, fun w φ I vs hd hR hV => (h.run w φ I vs hd hR hV).mono fun _ _ ⟨r, H', φ', I', v, h1, h2, h3, h4⟩ => by
    obtain ⟨r', hr', hd'⟩ := hr _ _ h1
    exact ⟨r', H', φ', I', v, hr', h2, hd' _ _ _ _ h3, h4⟩⟩
theorem PFn.told {P : Program} {f : FuncId} {xs : List AV} {r r' : AV} (h : PFn P f xs r) (hr : ∀ w φ I v, AV.den w φ I r v → AV.den w φ I r' v) : PFn P f xs r' :=
  ACall.told h fun _ _ ⟨hH, he⟩ => ⟨r', ⟨hH, rfl⟩, by subst he; exact hr⟩
structure Rq where
  n : Int
  k : Int
  b : List UInt8
  c : Bool
  a : Bool
  ak : Int
  an : Int
  ab : List UInt8
def rqC (r : Rq) : List IV := [Ii r.n, Ii r.k, Si r.b, .v (.bool r.c), .v (.bool r.a), Ii r.ak, Ii r.an, Si r.ab]
def rqR (l : List Rq) : List (List IV) := l.map rqC
theorem rqR_len (l : List Rq) : (rqR l).length = l.length := List.length_map ..
theorem rqR_snoc (l : List Rq) (r : Rq) : rqR (l ++ [r]) = rqR l ++ [rqC r] := by simp [rqR]
theorem rqR_get (l : List Rq) (k : Nat) (h : k < l.length) : ∃ r, l[k]? = some r ∧ (rqR l).getD k [] = [Ii r.n, Ii r.k, Si r.b, .v (.bool r.c), .v (.bool r.a), Ii r.ak, Ii r.an, Si r.ab] := by
  refine ⟨l[k], List.getElem?_eq_getElem h, ?_⟩
  rw [List.getD_eq_getElem?_getD, rqR, List.getElem?_map, List.getElem?_eq_getElem h]; rfl
theorem requests_spec (l : List Rq) (hl : l.length ≤ 1000000000) : PFn Tryz.prog 22 [.im (.sl 8 (rqR l))] (.im (.sl 8 (rqR l))) := by
  refine ACall.walk [0, 2, 3, 5, 6, 7, 8, 9] [5] Tryz.func22 rfl Tryz.ntmps22 (by kernel_rfl) (by rfl) rfl fun W own I0 φ0 lay => ?_
  repeat (first | refine xA ?_ | refine xB ?_ | refine xC ?_ | refine xE ?_ | refine xD ?_ | refine xK ?_ | refine xS ?_ | refine xM ?_ | refine xT ?_ | refine xF ?_ | ((first | refine xR ?_ | refine xW ?_ | refine vq_id ?_); simp only [go_sem, Nat.reduceAdd, Nat.reduceLeDiff, Nat.reduceSub, Int.reduceToNat, reduceCtorEq, rqR_len]) | (refine ⟨by first | omega | (intros; simp_all; done) | (intros; simp_all; omega), ?_⟩; try simp only [go_sem, Nat.reduceAdd, Nat.reduceLeDiff, Nat.reduceSub, Int.reduceToNat, reduceCtorEq, rqR_len]))
  refine AP.own 3 58 8 rfl ?_
  simp only [go_sem, Nat.reduceAdd, Nat.reduceLeDiff, Nat.reduceSub, Int.reduceToNat, reduceCtorEq, rqR_len]
  refine AP.loop rfl (α := Nat) (fun k => [(3, .os 0 8 0 k), (6, .im (.sl 8 (rqR l))), (7, Iv l.length), (8, Iv k)]) (fun k => [(0, .vec 58 8 (rqR (l.take k)))]) (fun k => k ≤ l.length) (fun k => l.length - k) 0 (by simp) (by repeat (first | exact Sub.nil _ | refine Sub.cons rfl ?_)) rfl fun k hk => ?_
  have hw := wr (x := (k : Int) + 1) (by omega)
  repeat (first | refine xA ?_ | refine xB ?_ | refine xC ?_ | refine xE ?_ | refine xD ?_ | refine xK ?_ | refine xS ?_ | refine xM ?_ | refine xT ?_ | refine xF ?_ | ((first | refine xR ?_ | refine xW ?_ | refine vq_id ?_); simp only [go_sem, Nat.reduceAdd, Nat.reduceLeDiff, Nat.reduceSub, Int.reduceToNat, reduceCtorEq]) | (refine ⟨by first | omega | (intros; simp_all; done) | (intros; simp_all; omega), ?_⟩; try simp only [go_sem, Nat.reduceAdd, Nat.reduceLeDiff, Nat.reduceSub, Int.reduceToNat, reduceCtorEq]))
  refine AP.cond rfl rfl (fun hc => ?_) (fun hc => ?_)
  · have hk' : k < l.length := by simp at hc; omega
    obtain ⟨r, hm, hg⟩ := rqR_get l k hk'
    have htl : (rqR (l.take k)).length = k := by rw [rqR_len, List.length_take]; omega
    repeat (first | refine xA ?_ | refine xB ?_ | refine xC ?_ | refine xE ?_ | refine xD ?_ | refine xK ?_ | refine xS ?_ | refine xM ?_ | refine xT ?_ | refine xF ?_ | ((first | refine xR ?_ | refine xW ?_ | refine vq_id ?_); simp only [go_sem, Nat.reduceAdd, Nat.reduceLeDiff, Nat.reduceSub, Int.reduceToNat, reduceCtorEq, rqR_len, hg, hw, Int.toNat_natCast, List.map_cons, List.map_nil, List.length_cons, List.length_nil, List.take_succ_cons, List.take_zero, List.drop_zero]) | (refine ⟨by first | omega | (intros; simp_all; done) | (intros; simp_all; omega), ?_⟩; try simp only [go_sem, Nat.reduceAdd, Nat.reduceLeDiff, Nat.reduceSub, Int.reduceToNat, reduceCtorEq, rqR_len, hg, hw, Int.toNat_natCast, List.map_cons, List.map_nil, List.length_cons, List.length_nil, List.take_succ_cons, List.take_zero, List.drop_zero]))
    refine AQ.append (hnb := rfl) (rows := rqR (l.take k)) (es := 7) (by kernel_rfl) rfl rfl rfl (by rfl) Tryz.tk32 Tryz.sz58 (by show Option.map _ (zro Tryz.prog 58) = _; rw [Tryz.zr58]; rfl) Tryz.by58 htl.symm (by rw [htl]; simp only [List.length_cons, List.length_nil]; omega) (by rw [htl]; simp only [List.length_cons, List.length_nil]; omega) ?_
    repeat (first | refine xA ?_ | refine xB ?_ | refine xC ?_ | refine xE ?_ | refine xD ?_ | refine xK ?_ | refine xS ?_ | refine xM ?_ | refine xT ?_ | refine xF ?_ | ((first | refine xR ?_ | refine xW ?_ | refine vq_id ?_); simp only [go_sem, Nat.reduceAdd, Nat.reduceLeDiff, Nat.reduceSub, Int.reduceToNat, reduceCtorEq, hw, htl, List.length_cons, List.length_nil]) | (refine ⟨by first | omega | (intros; simp_all; done) | (intros; simp_all; omega), ?_⟩; try simp only [go_sem, Nat.reduceAdd, Nat.reduceLeDiff, Nat.reduceSub, Int.reduceToNat, reduceCtorEq, hw, htl, List.length_cons, List.length_nil]))
    refine AE.forgets [1] rfl ?_
    simp only [go_sem, Nat.reduceAdd, Nat.reduceLeDiff, Nat.reduceSub, Int.reduceToNat, reduceCtorEq]
    refine AE.round (k + 1) (by omega) (by omega) (by repeat (first | exact Sub.nil _ | refine Sub.cons rfl ?_)) ?_
    rw [List.take_add_one, hm, Option.toList_some, rqR_snoc]
    rfl
  · have hk' : k = l.length := by simp at hc; omega
    have hta : (rqR l).take l.length = rqR l := List.take_of_length_le (by rw [rqR_len]; exact Nat.le_refl _)
    rw [hk', List.take_length]
    repeat (first | refine xA ?_ | refine xB ?_ | refine xC ?_ | refine xE ?_ | refine xD ?_ | refine xK ?_ | refine xS ?_ | refine xM ?_ | refine xT ?_ | refine xF ?_ | ((first | refine xR ?_ | refine xW ?_ | refine vq_id ?_); simp only [go_sem, Nat.reduceAdd, Nat.reduceLeDiff, Nat.reduceSub, Int.reduceToNat, reduceCtorEq]) | (refine ⟨by first | omega | (intros; simp_all; done) | (intros; simp_all; omega), ?_⟩; try simp only [go_sem, Nat.reduceAdd, Nat.reduceLeDiff, Nat.reduceSub, Int.reduceToNat, reduceCtorEq]))
    refine AE.freeze 0 (rows := rqR l) rfl (by simp [go_sem, rqR_len]) (by simp [go_sem, rqR_len]) ?_
    simp only [go_sem, Nat.reduceAdd, Nat.reduceLeDiff, Nat.reduceSub, Int.reduceToNat, reduceCtorEq, List.drop_zero, hta]
    exact AE.ret0 rfl ⟨rfl, trivial⟩ rfl ⟨rfl, rfl⟩
theorem cloneQ_spec (l : List Rq) (hl : l.length ≤ 1000000000) : ACall Tryz.prog 37 [.im (.sl 8 (rqR l))] [] (fun r H => r = .os 0 8 0 l.length ∧ H = [(0, .vec 82 8 (rqR l))]) := by
  rcases l with _ | ⟨q, l⟩
  · refine ACall.walk [0, 2, 4] [] Tryz.func37 rfl Tryz.ntmps37 (by kernel_rfl) (by rfl) rfl fun W own I0 φ0 lay => ?_
    refine xPP rfl ?_
    refine AP.region rfl (by kernel_rfl) ?_; simp only [go_sem, Nat.reduceAdd, Nat.reduceLeDiff, Nat.reduceSub, Int.reduceToNat, reduceCtorEq]
    refine AQ.done ?_
    refine xEP rfl ?_
    refine AP.regionN 1 rfl (by kernel_rfl) ?_; simp only [go_sem, Nat.reduceAdd, Nat.reduceLeDiff, Nat.reduceSub, Int.reduceToNat, reduceCtorEq]
    refine AQ.isnil (by kernel_rfl) rfl Tryz.tk22 fun b => ?_
    simp only [go_sem, Nat.reduceAdd, Nat.reduceLeDiff, Nat.reduceSub, Int.reduceToNat, reduceCtorEq]
    repeat (first | refine xA ?_ | refine xB ?_ | refine xC ?_ | refine xE ?_ | refine xD ?_ | refine xK ?_ | refine xS ?_ | refine xM ?_ | refine xT ?_ | refine xF ?_ | ((first | refine xR ?_ | refine xW ?_ | refine vq_id ?_); simp only [go_sem, Nat.reduceAdd, Nat.reduceLeDiff, Nat.reduceSub, Int.reduceToNat, reduceCtorEq]) | (refine ⟨by first | omega | (intros; simp_all; done) | (intros; simp_all; omega), ?_⟩; try simp only [go_sem, Nat.reduceAdd, Nat.reduceLeDiff, Nat.reduceSub, Int.reduceToNat, reduceCtorEq]))
    refine AP.cond rfl rfl (fun hb => ?_) (fun hb => ?_)
    · repeat (first | refine xA ?_ | refine xB ?_ | refine xC ?_ | refine xE ?_ | refine xD ?_ | refine xK ?_ | refine xS ?_ | refine xM ?_ | refine xT ?_ | refine xF ?_ | ((first | refine xR ?_ | refine xW ?_ | refine vq_id ?_); simp only [go_sem, Nat.reduceAdd, Nat.reduceLeDiff, Nat.reduceSub, Int.reduceToNat, reduceCtorEq]) | (refine ⟨by first | omega | (intros; simp_all; done) | (intros; simp_all; omega), ?_⟩; try simp only [go_sem, Nat.reduceAdd, Nat.reduceLeDiff, Nat.reduceSub, Int.reduceToNat, reduceCtorEq]))
      refine AE.own 2 82 8 rfl ?_
      simp only [go_sem, Nat.reduceAdd, Nat.reduceLeDiff, Nat.reduceSub, Int.reduceToNat, reduceCtorEq]
      exact AE.ret rfl ⟨rfl, trivial⟩ ⟨by simp [tupOf, AV.st], rfl⟩
    · repeat (first | refine xA ?_ | refine xB ?_ | refine xC ?_ | refine xE ?_ | refine xD ?_ | refine xK ?_ | refine xS ?_ | refine xM ?_ | refine xT ?_ | refine xF ?_ | ((first | refine xR ?_ | refine xW ?_ | refine vq_id ?_); simp only [go_sem, Nat.reduceAdd, Nat.reduceLeDiff, Nat.reduceSub, Int.reduceToNat, reduceCtorEq]) | (refine ⟨by first | omega | (intros; simp_all; done) | (intros; simp_all; omega), ?_⟩; try simp only [go_sem, Nat.reduceAdd, Nat.reduceLeDiff, Nat.reduceSub, Int.reduceToNat, reduceCtorEq]))
      refine AQ.append (hnb := rfl) (rows := []) (es := 7) (by kernel_rfl) rfl rfl rfl (by rfl) Tryz.tk22 Tryz.sz82 (by show Option.map _ (zro Tryz.prog 82) = _; rw [Tryz.zr82]; rfl) Tryz.by82 rfl (by simp only [rqR_len, List.length_nil]; omega) (by simp only [rqR_len, List.length_nil]; omega) ?_
      repeat (first | refine xA ?_ | refine xB ?_ | refine xC ?_ | refine xE ?_ | refine xD ?_ | refine xK ?_ | refine xS ?_ | refine xM ?_ | refine xT ?_ | refine xF ?_ | ((first | refine xR ?_ | refine xW ?_ | refine vq_id ?_); simp only [go_sem, Nat.reduceAdd, Nat.reduceLeDiff, Nat.reduceSub, Int.reduceToNat, reduceCtorEq, List.nil_append, List.length_nil, rqR_len]) | (refine ⟨by first | omega | (intros; simp_all; done) | (intros; simp_all; omega), ?_⟩; try simp only [go_sem, Nat.reduceAdd, Nat.reduceLeDiff, Nat.reduceSub, Int.reduceToNat, reduceCtorEq, List.nil_append, List.length_nil, rqR_len]))
      exact AE.ret rfl ⟨rfl, trivial⟩ ⟨by simp [tupOf, AV.st], rfl⟩
  · have hne : rqR (q :: l) ≠ [] := by simp [rqR]
    refine ACall.walk [0, 2, 4] [] Tryz.func37 rfl Tryz.ntmps37 (by kernel_rfl) (by rfl) rfl fun W own I0 φ0 lay => ?_
    repeat (first | refine xA ?_ | refine xB ?_ | refine xC ?_ | refine xE ?_ | refine xD ?_ | refine xK ?_ | refine xS ?_ | refine xM ?_ | refine xT ?_ | refine xF ?_ | ((first | refine xR ?_ | refine xW ?_ | refine vq_id ?_); simp only [go_sem, Nat.reduceAdd, Nat.reduceLeDiff, Nat.reduceSub, Int.reduceToNat, reduceCtorEq]))
    refine ⟨hne, ?_⟩
    repeat (first | refine xA ?_ | refine xB ?_ | refine xC ?_ | refine xE ?_ | refine xD ?_ | refine xK ?_ | refine xS ?_ | refine xM ?_ | refine xT ?_ | refine xF ?_ | ((first | refine xR ?_ | refine xW ?_ | refine vq_id ?_); simp only [go_sem, Nat.reduceAdd, Nat.reduceLeDiff, Nat.reduceSub, Int.reduceToNat, reduceCtorEq]) | (refine ⟨by first | omega | (intros; simp_all; done) | (intros; simp_all; omega), ?_⟩; try simp only [go_sem, Nat.reduceAdd, Nat.reduceLeDiff, Nat.reduceSub, Int.reduceToNat, reduceCtorEq]))
    refine AQ.append (hnb := rfl) (rows := []) (es := 7) (by kernel_rfl) rfl rfl rfl (by rfl) Tryz.tk22 Tryz.sz82 (by show Option.map _ (zro Tryz.prog 82) = _; rw [Tryz.zr82]; rfl) Tryz.by82 rfl (by simp only [rqR_len, List.length_nil]; omega) (by simp only [rqR_len, List.length_nil]; omega) ?_
    repeat (first | refine xA ?_ | refine xB ?_ | refine xC ?_ | refine xE ?_ | refine xD ?_ | refine xK ?_ | refine xS ?_ | refine xM ?_ | refine xT ?_ | refine xF ?_ | ((first | refine xR ?_ | refine xW ?_ | refine vq_id ?_); simp only [go_sem, Nat.reduceAdd, Nat.reduceLeDiff, Nat.reduceSub, Int.reduceToNat, reduceCtorEq, List.nil_append, List.length_nil, rqR_len]) | (refine ⟨by first | omega | (intros; simp_all; done) | (intros; simp_all; omega), ?_⟩; try simp only [go_sem, Nat.reduceAdd, Nat.reduceLeDiff, Nat.reduceSub, Int.reduceToNat, reduceCtorEq, List.nil_append, List.length_nil, rqR_len]))
    exact AE.ret rfl ⟨rfl, trivial⟩ ⟨by simp [tupOf, AV.st], rfl⟩
end Go.Proofs.YtlpcdpjkdodmcaaGreatDoor
end

section
namespace Go.Proofs.YtlpcdpjkdodmcaaGreatDoor
open Go Go.AL Go.RowKit
set_option maxRecDepth 10000
set_option maxHeartbeats 4000000
theorem client_spec (p w s : Int) (l : List Rq) (hl : l.length ≤ 1000000000) : PFn Tryz.prog 26 [.agg [Iv p, Iv w, Iv s, .im (.sl 8 (rqR l))]] (.agg [Iv p, Iv w, Iv s, .im (.sl 8 (rqR l))]) := by
  refine ACall.walk [0, 1, 2] [2] Tryz.func26 rfl Tryz.ntmps26 (by kernel_rfl) (by rfl) rfl fun W own I0 φ0 lay => ?_
  repeat (first | refine xA ?_ | refine xB ?_ | refine xC ?_ | refine xE ?_ | refine xD ?_ | refine xK ?_ | refine xS ?_ | refine xM ?_ | refine xT ?_ | refine xF ?_ | ((first | refine xR ?_ | refine xW ?_ | refine vq_id ?_); simp only [go_sem, Nat.reduceAdd, Nat.reduceLeDiff, Nat.reduceSub, Int.reduceToNat, reduceCtorEq]) | (refine ⟨by first | omega | (intros; simp_all; done) | (intros; simp_all; omega), ?_⟩; try simp only [go_sem, Nat.reduceAdd, Nat.reduceLeDiff, Nat.reduceSub, Int.reduceToNat, reduceCtorEq]))
  refine AP.drawE 11 (Tree.node [] [0, 1, 2, 3, 4, 5, 6, 7] [8] [Tree.node [0, 1, 2, 3, 4, 5] [9] [10] [Tree.node [] [] [] []]]) (by kernel_rfl) rfl (by kernel_rfl) (by kernel_rfl) ?_
  refine vd_node ?_
  simp only [go_sem, Nat.reduceAdd, Nat.reduceLeDiff, Nat.reduceSub, Int.reduceToNat, reduceCtorEq]
  repeat' (first | with_reducible exact True.intro | with_reducible refine And.intro (by omega) ?_ | with_reducible refine And.intro ?_ ?_ | (refine AQ.nx rfl ?_; simp only [go_sem, Nat.reduceAdd, Nat.reduceLeDiff, Nat.reduceSub, Int.reduceToNat, reduceCtorEq]) | (refine AQ.fn (by kernel_rfl) rfl rfl rfl (requests_spec l hl) rfl ?_; simp only [go_sem, Nat.reduceAdd, Nat.reduceLeDiff, Nat.reduceSub, Int.reduceToNat, reduceCtorEq]) | refine AQ.done ?_ | (refine AQ.go (by kernel_rfl) ?_; simp only [go_sem, Nat.reduceAdd, Nat.reduceLeDiff, Nat.reduceSub, Int.reduceToNat, reduceCtorEq]; repeat (with_reducible refine And.intro (by omega) ?_); refine AQ.nx rfl ?_; simp only [go_sem, Nat.reduceAdd, Nat.reduceLeDiff, Nat.reduceSub, Int.reduceToNat, reduceCtorEq]))
  repeat (first | refine xA ?_ | refine xB ?_ | refine xC ?_ | refine xE ?_ | refine xD ?_ | refine xK ?_ | refine xS ?_ | refine xM ?_ | refine xT ?_ | refine xF ?_ | ((first | refine xR ?_ | refine xW ?_ | refine vq_id ?_); simp only [go_sem, Nat.reduceAdd, Nat.reduceLeDiff, Nat.reduceSub, Int.reduceToNat, reduceCtorEq]) | (refine ⟨by first | omega | (intros; simp_all; done) | (intros; simp_all; omega), ?_⟩; try simp only [go_sem, Nat.reduceAdd, Nat.reduceLeDiff, Nat.reduceSub, Int.reduceToNat, reduceCtorEq]))
  exact AE.retD [0] rfl ⟨⟨rfl, Nat.le_of_ble_eq_true (by kernel_rfl)⟩, trivial⟩ rfl ⟨rfl, rfl⟩
theorem byeQ_spec (r : Rq) : PFn Tryz.prog 57 [.agg [Iv r.n, Iv r.k, Sv r.b, Bv r.c, Bv r.a, Iv r.ak, Iv r.an, Sv r.ab]] (Bv (decide (r.k = 6))) := by
  refine ACall.walk [0, 1, 2] [] Tryz.func57 rfl Tryz.ntmps57 (by kernel_rfl) (by rfl) rfl fun W own I0 φ0 lay => ?_
  repeat (first | refine xA ?_ | refine xB ?_ | refine xC ?_ | refine xE ?_ | refine xD ?_ | refine xK ?_ | refine xS ?_ | refine xM ?_ | refine xT ?_ | refine xF ?_ | ((first | refine xR ?_ | refine xW ?_ | refine vq_id ?_); simp only [go_sem, Nat.reduceAdd, Nat.reduceLeDiff, Nat.reduceSub, Int.reduceToNat, reduceCtorEq]) | (refine ⟨by first | omega | (intros; simp_all; done) | (intros; simp_all; omega), ?_⟩; try simp only [go_sem, Nat.reduceAdd, Nat.reduceLeDiff, Nat.reduceSub, Int.reduceToNat, reduceCtorEq]))
  exact AE.ret0 rfl ⟨rfl, trivial⟩ rfl ⟨rfl, by simp only [tupOf, AV.st]; rw [Bool.beq_eq_decide_eq]⟩
def kAt (l : List Rq) (i : Nat) : Int := ((l[i]?).map (·.k)).getD 0
theorem kAt_eq {l : List Rq} {i : Nat} {r : Rq} (h : l[i]? = some r) : kAt l i = r.k := by simp [kAt, h]
theorem bye_index (l : List Rq) (hl : l.length ≤ 1000000000) : ACall Tryz.prog 39 [.im (.sl 8 (rqR l)), .fn 57 [] []] [] (fun r H => H = [] ∧ ∃ i : Int, r = Iv i ∧ ((i = -1 ∧ ∀ j, j < l.length → kAt l j ≠ 6) ∨ ∃ j : Nat, i = j ∧ j < l.length ∧ kAt l j = 6 ∧ ∀ k, k < j → kAt l k ≠ 6)) := by
  refine ACall.walk [0, 1, 4, 5, 7, 8, 9, 16] [] Tryz.func39 rfl Tryz.ntmps39 (by kernel_rfl) (by rfl) rfl fun W own I0 φ0 lay => ?_
  repeat (first | refine xA ?_ | refine xB ?_ | refine xC ?_ | refine xE ?_ | refine xD ?_ | refine xK ?_ | refine xS ?_ | refine xM ?_ | refine xT ?_ | refine xF ?_ | ((first | refine xR ?_ | refine xW ?_ | refine vq_id ?_); simp only [go_sem, Nat.reduceAdd, Nat.reduceLeDiff, Nat.reduceSub, Int.reduceToNat, reduceCtorEq, rqR_len]) | (refine ⟨by first | omega | (intros; simp_all; done) | (intros; simp_all; omega), ?_⟩; try simp only [go_sem, Nat.reduceAdd, Nat.reduceLeDiff, Nat.reduceSub, Int.reduceToNat, reduceCtorEq, rqR_len]))
  refine AP.loop rfl (α := Nat) (fun k => [(0, .im (.sl 8 (rqR l))), (1, .fn 57 [] []), (7, Iv l.length), (8, Iv k)]) (fun k => []) (fun k => k ≤ l.length ∧ ∀ j, j < k → kAt l j ≠ 6) (fun k => l.length - k) 0 (by simp) (by repeat (first | exact Sub.nil _ | refine Sub.cons rfl ?_)) rfl fun k ⟨hk, hkl⟩ => ?_
  have hw := wr (x := (k : Int) + 1) (by omega)
  repeat (first | refine xA ?_ | refine xB ?_ | refine xC ?_ | refine xE ?_ | refine xD ?_ | refine xK ?_ | refine xS ?_ | refine xM ?_ | refine xT ?_ | refine xF ?_ | ((first | refine xR ?_ | refine xW ?_ | refine vq_id ?_); simp only [go_sem, Nat.reduceAdd, Nat.reduceLeDiff, Nat.reduceSub, Int.reduceToNat, reduceCtorEq]) | (refine ⟨by first | omega | (intros; simp_all; done) | (intros; simp_all; omega), ?_⟩; try simp only [go_sem, Nat.reduceAdd, Nat.reduceLeDiff, Nat.reduceSub, Int.reduceToNat, reduceCtorEq]))
  refine AP.cond rfl rfl (fun hc => ?_) (fun hc => ?_)
  · have hk' : k < l.length := by simp at hc; omega
    obtain ⟨r, hm, hg⟩ := rqR_get l k hk'
    have hsp := byeQ_spec r
    obtain ⟨v, hv⟩ : ∃ v, decide (r.k = 6) = v := ⟨_, rfl⟩
    rw [hv] at hsp
    repeat (first | refine xA ?_ | refine xB ?_ | refine xC ?_ | refine xE ?_ | refine xD ?_ | refine xK ?_ | refine xS ?_ | refine xM ?_ | refine xT ?_ | refine xF ?_ | ((first | refine xR ?_ | refine xW ?_ | refine vq_id ?_); simp only [go_sem, Nat.reduceAdd, Nat.reduceLeDiff, Nat.reduceSub, Int.reduceToNat, reduceCtorEq, rqR_len, hg, hw, Int.toNat_natCast, List.map_cons, List.map_nil, List.length_cons, List.length_nil, List.take_succ_cons, List.take_zero, List.drop_zero]) | (refine ⟨by first | omega | (intros; simp_all; done) | (intros; simp_all; omega), ?_⟩; try simp only [go_sem, Nat.reduceAdd, Nat.reduceLeDiff, Nat.reduceSub, Int.reduceToNat, reduceCtorEq, rqR_len, hg, hw, Int.toNat_natCast, List.map_cons, List.map_nil, List.length_cons, List.length_nil, List.take_succ_cons, List.take_zero, List.drop_zero]))
    refine AQ.fnL ([.agg [Iv r.n, Iv r.k, Sv r.b, Bv r.c, Bv r.a, Iv r.ak, Iv r.an, Sv r.ab]]) (by kernel_rfl) rfl rfl rfl (by ((try simp only [List.nil_append, List.append_nil, List.cons_append, List.map_cons, List.map_nil, AV.st, constAV]); repeat (first | with_reducible exact LentC.nil | with_reducible exact LentAs.nil | with_reducible refine LentC.cons ?_ ?_ | with_reducible refine LentAs.cons ?_ ?_ | with_reducible exact Lent.im _ | with_reducible exact LentA.im _ | with_reducible refine LentA.of ?_ | with_reducible refine LentA.agg ?_ | ((with_reducible apply Lent.osw); rfl; simp only [blkR_len, wrR_len, byteR_len, List.length_append, List.length_cons, List.length_nil]) | ((with_reducible apply Lent.ob0); rfl)))) (hsp) rfl (fun _ => rfl) ?_
    repeat (first | refine xA ?_ | refine xB ?_ | refine xC ?_ | refine xE ?_ | refine xD ?_ | refine xK ?_ | refine xS ?_ | refine xM ?_ | refine xT ?_ | refine xF ?_ | ((first | refine xR ?_ | refine xW ?_ | refine vq_id ?_); simp only [go_sem, Nat.reduceAdd, Nat.reduceLeDiff, Nat.reduceSub, Int.reduceToNat, reduceCtorEq]) | (refine ⟨by first | omega | (intros; simp_all; done) | (intros; simp_all; omega), ?_⟩; try simp only [go_sem, Nat.reduceAdd, Nat.reduceLeDiff, Nat.reduceSub, Int.reduceToNat, reduceCtorEq]))
    refine AP.cond rfl rfl (fun hv2 => ?_) (fun hv2 => ?_)
    · subst hv2
      repeat (first | refine xA ?_ | refine xB ?_ | refine xC ?_ | refine xE ?_ | refine xD ?_ | refine xK ?_ | refine xS ?_ | refine xM ?_ | refine xT ?_ | refine xF ?_ | ((first | refine xR ?_ | refine xW ?_ | refine vq_id ?_); simp only [go_sem, Nat.reduceAdd, Nat.reduceLeDiff, Nat.reduceSub, Int.reduceToNat, reduceCtorEq]) | (refine ⟨by first | omega | (intros; simp_all; done) | (intros; simp_all; omega), ?_⟩; try simp only [go_sem, Nat.reduceAdd, Nat.reduceLeDiff, Nat.reduceSub, Int.reduceToNat, reduceCtorEq]))
      refine AE.ret0 rfl ⟨rfl, trivial⟩ rfl ⟨rfl, _, rfl, .inr ⟨k, rfl, hk', ?_, hkl⟩⟩
      rw [kAt_eq hm]; simpa using hv
    · subst hv2
      repeat (first | refine xA ?_ | refine xB ?_ | refine xC ?_ | refine xE ?_ | refine xD ?_ | refine xK ?_ | refine xS ?_ | refine xM ?_ | refine xT ?_ | refine xF ?_ | ((first | refine xR ?_ | refine xW ?_ | refine vq_id ?_); simp only [go_sem, Nat.reduceAdd, Nat.reduceLeDiff, Nat.reduceSub, Int.reduceToNat, reduceCtorEq, hw]) | (refine ⟨by first | omega | (intros; simp_all; done) | (intros; simp_all; omega), ?_⟩; try simp only [go_sem, Nat.reduceAdd, Nat.reduceLeDiff, Nat.reduceSub, Int.reduceToNat, reduceCtorEq, hw]))
      refine AE.round (k + 1) ⟨by omega, fun j hj => ?_⟩ (by omega) (by repeat (first | exact Sub.nil _ | refine Sub.cons rfl ?_)) rfl
      by_cases h : j = k
      · subst h; rw [kAt_eq hm]; simpa using hv
      · exact hkl j (by omega)
  · have hk' : k = l.length := by simp at hc; omega
    rw [hk'] at hkl
    repeat (first | refine xA ?_ | refine xB ?_ | refine xC ?_ | refine xE ?_ | refine xD ?_ | refine xK ?_ | refine xS ?_ | refine xM ?_ | refine xT ?_ | refine xF ?_ | ((first | refine xR ?_ | refine xW ?_ | refine vq_id ?_); simp only [go_sem, Nat.reduceAdd, Nat.reduceLeDiff, Nat.reduceSub, Int.reduceToNat, reduceCtorEq]) | (refine ⟨by first | omega | (intros; simp_all; done) | (intros; simp_all; omega), ?_⟩; try simp only [go_sem, Nat.reduceAdd, Nat.reduceLeDiff, Nat.reduceSub, Int.reduceToNat, reduceCtorEq]))
    exact AE.ret0 rfl ⟨rfl, trivial⟩ rfl ⟨rfl, _, rfl, .inl ⟨rfl, hkl⟩⟩
def byesB (p : Int) (l : List Rq) : Bool :=
  if p = 1 then decide (∀ i, i < l.length → kAt l i ≠ 6) else if p = 2 then decide (0 < l.length ∧ kAt l (l.length - 1) = 6 ∧ ∀ i, i < l.length - 1 → kAt l i ≠ 6) else decide (l.length = 0)
theorem byes_spec (p : Int) (l : List Rq) (hl : l.length ≤ 1000000000) : PFn Tryz.prog 29 [.im (.sl 8 (rqR l)), Iv p] (Bv (byesB p l)) := by
  refine ACall.walk [0, 1, 4, 5, 8, 9, 13] [] Tryz.func29 rfl Tryz.ntmps29 (by kernel_rfl) (by rfl) rfl fun W own I0 φ0 lay => ?_
  repeat (first | refine xA ?_ | refine xB ?_ | refine xC ?_ | refine xE ?_ | refine xD ?_ | refine xK ?_ | refine xS ?_ | refine xM ?_ | refine xT ?_ | refine xF ?_ | ((first | refine xR ?_ | refine xW ?_ | refine vq_id ?_); simp only [go_sem, Nat.reduceAdd, Nat.reduceLeDiff, Nat.reduceSub, Int.reduceToNat, reduceCtorEq]) | (refine ⟨by first | omega | (intros; simp_all; done) | (intros; simp_all; omega), ?_⟩; try simp only [go_sem, Nat.reduceAdd, Nat.reduceLeDiff, Nat.reduceSub, Int.reduceToNat, reduceCtorEq]))
  refine AQ.call (by kernel_rfl) rfl rfl rfl (bye_index l hl) (fun r H ⟨h1, i, h2, h3⟩ => ⟨h1, by rw [h2]; rfl⟩) fun r ⟨_, i, h2, h3⟩ => ?_
  subst h2
  repeat (first | refine xA ?_ | refine xB ?_ | refine xC ?_ | refine xE ?_ | refine xD ?_ | refine xK ?_ | refine xS ?_ | refine xM ?_ | refine xT ?_ | refine xF ?_ | ((first | refine xR ?_ | refine xW ?_ | refine vq_id ?_); simp only [go_sem, Nat.reduceAdd, Nat.reduceLeDiff, Nat.reduceSub, Int.reduceToNat, reduceCtorEq]) | (refine ⟨by first | omega | (intros; simp_all; done) | (intros; simp_all; omega), ?_⟩; try simp only [go_sem, Nat.reduceAdd, Nat.reduceLeDiff, Nat.reduceSub, Int.reduceToNat, reduceCtorEq]))
  refine AP.cond rfl rfl (fun hc => ?_) (fun hc => ?_)
  · have hp : p = 1 := by simpa using hc
    repeat (first | refine xA ?_ | refine xB ?_ | refine xC ?_ | refine xE ?_ | refine xD ?_ | refine xK ?_ | refine xS ?_ | refine xM ?_ | refine xT ?_ | refine xF ?_ | ((first | refine xR ?_ | refine xW ?_ | refine vq_id ?_); simp only [go_sem, Nat.reduceAdd, Nat.reduceLeDiff, Nat.reduceSub, Int.reduceToNat, reduceCtorEq]) | (refine ⟨by first | omega | (intros; simp_all; done) | (intros; simp_all; omega), ?_⟩; try simp only [go_sem, Nat.reduceAdd, Nat.reduceLeDiff, Nat.reduceSub, Int.reduceToNat, reduceCtorEq]))
    refine AE.ret0 rfl ⟨rfl, trivial⟩ rfl ⟨rfl, ?_⟩
    simp only [tupOf, AV.st]
    rw [byesB, if_pos hp]
    congr 4
    refine propext ⟨fun h => ?_, fun h => ?_⟩
    · rcases h3 with ⟨_, h3⟩ | ⟨j, h3, _⟩
      · exact h3
      · omega
    · rcases h3 with ⟨h3, _⟩ | ⟨j, h3, h4, h5, _⟩
      · omega
      · exact absurd h5 (h j h4)
  have hp1 : p ≠ 1 := by simpa using hc
  repeat (first | refine xA ?_ | refine xB ?_ | refine xC ?_ | refine xE ?_ | refine xD ?_ | refine xK ?_ | refine xS ?_ | refine xM ?_ | refine xT ?_ | refine xF ?_ | ((first | refine xR ?_ | refine xW ?_ | refine vq_id ?_); simp only [go_sem, Nat.reduceAdd, Nat.reduceLeDiff, Nat.reduceSub, Int.reduceToNat, reduceCtorEq]) | (refine ⟨by first | omega | (intros; simp_all; done) | (intros; simp_all; omega), ?_⟩; try simp only [go_sem, Nat.reduceAdd, Nat.reduceLeDiff, Nat.reduceSub, Int.reduceToNat, reduceCtorEq]))
  refine AP.cond rfl rfl (fun hc2 => ?_) (fun hc2 => ?_)
  · have hp : p = 2 := by simpa using hc2
    have hw := wr (x := (l.length : Int) - 1) (by omega)
    repeat (first | refine xA ?_ | refine xB ?_ | refine xC ?_ | refine xE ?_ | refine xD ?_ | refine xK ?_ | refine xS ?_ | refine xM ?_ | refine xT ?_ | refine xF ?_ | ((first | refine xR ?_ | refine xW ?_ | refine vq_id ?_); simp only [go_sem, Nat.reduceAdd, Nat.reduceLeDiff, Nat.reduceSub, Int.reduceToNat, reduceCtorEq, rqR_len, hw]) | (refine ⟨by first | omega | (intros; simp_all; done) | (intros; simp_all; omega), ?_⟩; try simp only [go_sem, Nat.reduceAdd, Nat.reduceLeDiff, Nat.reduceSub, Int.reduceToNat, reduceCtorEq, rqR_len, hw]))
    refine AE.ret0 rfl ⟨rfl, trivial⟩ rfl ⟨rfl, ?_⟩
    simp only [tupOf, AV.st]
    rw [byesB, if_neg hp1, if_pos hp]
    have e : (decide (0 ≤ i) && i == (l.length : Int) - 1) = decide (0 < l.length ∧ kAt l (l.length - 1) = 6 ∧ ∀ i, i < l.length - 1 → kAt l i ≠ 6) := by
      rw [Bool.eq_iff_iff]
      simp only [Bool.and_eq_true, decide_eq_true_eq, beq_iff_eq]
      constructor
      · rintro ⟨h1, h2⟩
        rcases h3 with ⟨h3, _⟩ | ⟨j, h3, h4, h5, h6⟩
        · omega
        · have : j = l.length - 1 := by omega
          subst this
          exact ⟨by omega, h5, h6⟩
      · rintro ⟨h1, h2, h6⟩
        rcases h3 with ⟨h3, h4⟩ | ⟨j, h3, h4, h5, h7⟩
        · exact absurd h2 (h4 _ (by omega))
        · rcases Nat.lt_trichotomy j (l.length - 1) with h | h | h
          · exact absurd h5 (h6 j h)
          · omega
          · omega
    rw [e]
  have hp2 : p ≠ 2 := by simpa using hc2
  repeat (first | refine xA ?_ | refine xB ?_ | refine xC ?_ | refine xE ?_ | refine xD ?_ | refine xK ?_ | refine xS ?_ | refine xM ?_ | refine xT ?_ | refine xF ?_ | ((first | refine xR ?_ | refine xW ?_ | refine vq_id ?_); simp only [go_sem, Nat.reduceAdd, Nat.reduceLeDiff, Nat.reduceSub, Int.reduceToNat, reduceCtorEq, rqR_len]) | (refine ⟨by first | omega | (intros; simp_all; done) | (intros; simp_all; omega), ?_⟩; try simp only [go_sem, Nat.reduceAdd, Nat.reduceLeDiff, Nat.reduceSub, Int.reduceToNat, reduceCtorEq, rqR_len]))
  refine AE.ret0 rfl ⟨rfl, trivial⟩ rfl ⟨rfl, ?_⟩
  simp only [tupOf, AV.st]
  rw [byesB, if_neg hp1, if_neg hp2]
  have e : ((l.length : Int) == 0) = decide (l.length = 0) := by
    rw [Bool.eq_iff_iff]
    simp only [decide_eq_true_eq, beq_iff_eq]
    omega
  rw [e]
theorem message_spec (r : Rq) : PFn Tryz.prog 58 [.agg [Iv r.n, Iv r.k, Sv r.b, Bv r.c, Bv r.a, Iv r.ak, Iv r.an, Sv r.ab]] (.agg [Iv r.k, Iv r.n, Sv r.b]) := by
  refine ACall.walk [0, 1, 2] [2] Tryz.func58 rfl Tryz.ntmps58 (by kernel_rfl) (by rfl) rfl fun W own I0 φ0 lay => ?_
  repeat (first | refine xA ?_ | refine xB ?_ | refine xC ?_ | refine xE ?_ | refine xD ?_ | refine xK ?_ | refine xS ?_ | refine xM ?_ | refine xT ?_ | refine xF ?_ | ((first | refine xR ?_ | refine xW ?_ | refine vq_id ?_); simp only [go_sem, Nat.reduceAdd, Nat.reduceLeDiff, Nat.reduceSub, Int.reduceToNat, reduceCtorEq]) | (refine ⟨by first | omega | (intros; simp_all; done) | (intros; simp_all; omega), ?_⟩; try simp only [go_sem, Nat.reduceAdd, Nat.reduceLeDiff, Nat.reduceSub, Int.reduceToNat, reduceCtorEq]))
  exact AE.retD [0] rfl ⟨⟨rfl, Nat.le_of_ble_eq_true (by kernel_rfl)⟩, trivial⟩ rfl ⟨rfl, rfl⟩
def plainR (r : Rq) : Prop := r.c = false ∧ r.a = false ∧ r.ak = 0 ∧ r.an = 0 ∧ r.ab = []
def rowOk (w s : Int) (n i : Nat) (r : Rq) : Prop := plainR r ∧ r.k ≤ 6 ∧ msgE r.k r.n r.b = 0 ∧ r.n = s - n + 1 + i ∧ ¬ (r.k = 1 ∧ 0 < w)
def headP (p w s : Int) : Prop := (0 ≤ p ∧ p ≤ 3) ∧ (0 ≤ w ∧ w ≤ 16) ∧ 0 ≤ s ∧ s ≤ 2147483647
def okP (p w s : Int) (l : List Rq) : Prop :=
  headP p w s ∧ byesB p l = true ∧ (∀ i r, l[i]? = some r → rowOk w s l.length i r) ∧ if p = 0 then w = 0 ∧ s = 0 else s ≠ 0 ∧ if w = 0 then s = 1 ∧ l.length = 1 ∧ kAt l 0 = 1 ∧ p = 1 else l.length ≤ w
noncomputable def okC (p w s : Int) (l : List Rq) : Bool := @decide (okP p w s l) (Classical.propDecidable _)
theorem okC_iff (p w s : Int) (l : List Rq) : okC p w s l = true ↔ okP p w s l := @decide_eq_true_iff _ (Classical.propDecidable _)
theorem okC_not {p w s : Int} {l : List Rq} (h : ¬ okP p w s l) : okC p w s l = false := by
  rw [← Bool.not_eq_true, okC_iff]; exact h
theorem okC_eq {p w s : Int} {l : List Rq} {b : Bool} (h : b = true ↔ okP p w s l) : b = okC p w s l := by
  rw [Bool.eq_iff_iff, okC_iff]; exact h
theorem valid_spec (p w s : Int) (l : List Rq) (hl : l.length ≤ 1000000000) : PFn Tryz.prog 72 [.agg [Iv p, Iv w, Iv s, .im (.sl 8 (rqR l))]] (Bv (okC p w s l)) := by
  obtain ⟨b, hb⟩ : ∃ b, (decide (p < 0) || decide (3 < p) || decide (w < 0) || decide (16 < w) || decide (s < 0) || decide (2147483647 < s)) = b := ⟨_, rfl⟩
  cases b with
  | true =>
    have hn : okC p w s l = false := okC_not fun h => by
      have := h.1
      unfold headP at this
      simp only [Bool.or_eq_true, decide_eq_true_eq] at hb
      omega
    rw [hn]
    refine ACall.walk [0, 1, 2, 3, 4, 5, 41, 43, 44, 45, 46, 94, 96, 108, 112] [4, 5] Tryz.func72 rfl Tryz.ntmps72 (by kernel_rfl) (by rfl) rfl fun W own I0 φ0 lay => ?_
    repeat (first | refine xA ?_ | refine xB ?_ | refine xC ?_ | refine xE ?_ | refine xD ?_ | refine xK ?_ | refine xS ?_ | refine xM ?_ | refine xT ?_ | refine xF ?_ | ((first | refine xR ?_ | refine xW ?_ | refine vq_id ?_); simp only [go_sem, Nat.reduceAdd, Nat.reduceLeDiff, Nat.reduceSub, Int.reduceToNat, reduceCtorEq, hb]) | (refine ⟨by first | omega | (intros; simp_all; done) | (intros; simp_all; omega), ?_⟩; try simp only [go_sem, Nat.reduceAdd, Nat.reduceLeDiff, Nat.reduceSub, Int.reduceToNat, reduceCtorEq, hb]))
    exact AE.ret0 rfl ⟨rfl, trivial⟩ rfl ⟨rfl, rfl⟩
  | false =>
    have hh : headP p w s := by
      unfold headP
      simp only [Bool.or_eq_false_iff, decide_eq_false_iff_not] at hb
      omega
    have hh' := hh
    unfold headP at hh'
    refine ACall.walk [0, 1, 2, 3, 4, 5, 41, 43, 44, 45, 46, 94, 96, 108, 112] [4, 5] Tryz.func72 rfl Tryz.ntmps72 (by kernel_rfl) (by rfl) rfl fun W own I0 φ0 lay => ?_
    repeat (first | refine xA ?_ | refine xB ?_ | refine xC ?_ | refine xE ?_ | refine xD ?_ | refine xK ?_ | refine xS ?_ | refine xM ?_ | refine xT ?_ | refine xF ?_ | ((first | refine xR ?_ | refine xW ?_ | refine vq_id ?_); simp only [go_sem, Nat.reduceAdd, Nat.reduceLeDiff, Nat.reduceSub, Int.reduceToNat, reduceCtorEq, hb]) | (refine ⟨by first | omega | (intros; simp_all; done) | (intros; simp_all; omega), ?_⟩; try simp only [go_sem, Nat.reduceAdd, Nat.reduceLeDiff, Nat.reduceSub, Int.reduceToNat, reduceCtorEq, hb]))
    refine AQ.guard_yes (by simp only [go_sem]) ?_
    refine AQ.fn_g (by kernel_rfl) rfl rfl (fun h => by first | (simp [gs, AV.g]; done) | (simp [gs, AV.g, constAV]; done) | (simp [gs, AV.g, constAV, bw] at h ⊢; done) | (simp [gs, AV.g, constAV, bw] at h ⊢; exact h) | (simp [gs, AV.g, constAV, bw] at h ⊢; simp [h]; done) | (simp [bw] at h; done) | (simp [gs, AV.g, bw] at h ⊢; simp [h]; done) | (simp [gs, AV.g, bw] at h ⊢; exact h.1) | (simp [gs, AV.g]; rfl) | (simp [gs, AV.g, bw] at h ⊢; rfl) | (simp [gs, AV.g, bw] at h ⊢; simp [h]; rfl) | (simp [gs, AV.g, bw] at h ⊢; simp_all)) rfl (fun _ => byes_spec p l hl) rfl ?_
    repeat (first | refine xA ?_ | refine xB ?_ | refine xC ?_ | refine xE ?_ | refine xD ?_ | refine xK ?_ | refine xS ?_ | refine xM ?_ | refine xT ?_ | refine xF ?_ | ((first | refine xR ?_ | refine xW ?_ | refine vq_id ?_); simp only [go_sem, Nat.reduceAdd, Nat.reduceLeDiff, Nat.reduceSub, Int.reduceToNat, reduceCtorEq, hb]) | (refine ⟨by first | omega | (intros; simp_all; done) | (intros; simp_all; omega), ?_⟩; try simp only [go_sem, Nat.reduceAdd, Nat.reduceLeDiff, Nat.reduceSub, Int.reduceToNat, reduceCtorEq, hb]))
    refine AP.cond rfl rfl (fun hby => ?_) (fun hby => ?_)
    · rw [okC_not fun h => by rw [h.2.1] at hby; cases hby]
      repeat (first | refine xA ?_ | refine xB ?_ | refine xC ?_ | refine xE ?_ | refine xD ?_ | refine xK ?_ | refine xS ?_ | refine xM ?_ | refine xT ?_ | refine xF ?_ | ((first | refine xR ?_ | refine xW ?_ | refine vq_id ?_); simp only [go_sem, Nat.reduceAdd, Nat.reduceLeDiff, Nat.reduceSub, Int.reduceToNat, reduceCtorEq]) | (refine ⟨by first | omega | (intros; simp_all; done) | (intros; simp_all; omega), ?_⟩; try simp only [go_sem, Nat.reduceAdd, Nat.reduceLeDiff, Nat.reduceSub, Int.reduceToNat, reduceCtorEq]))
      exact AE.ret0 rfl ⟨rfl, trivial⟩ rfl ⟨rfl, rfl⟩
    have hby' : byesB p l = true := by simpa using hby
    repeat (first | refine xA ?_ | refine xB ?_ | refine xC ?_ | refine xE ?_ | refine xD ?_ | refine xK ?_ | refine xS ?_ | refine xM ?_ | refine xT ?_ | refine xF ?_ | ((first | refine xR ?_ | refine xW ?_ | refine vq_id ?_); simp only [go_sem, Nat.reduceAdd, Nat.reduceLeDiff, Nat.reduceSub, Int.reduceToNat, reduceCtorEq, rqR_len]) | (refine ⟨by first | omega | (intros; simp_all; done) | (intros; simp_all; omega), ?_⟩; try simp only [go_sem, Nat.reduceAdd, Nat.reduceLeDiff, Nat.reduceSub, Int.reduceToNat, reduceCtorEq, rqR_len]))
    refine AP.loop rfl (α := Nat) (fun k => [(1, .im (.pt [Ii p, Ii w, Ii s, .sl 8 (rqR l)])), (43, .im (.sl 8 (rqR l))), (44, Iv l.length), (45, Iv k)]) (fun k => []) (fun k => k ≤ l.length ∧ ∀ i, i < k → ∀ r, l[i]? = some r → rowOk w s l.length i r) (fun k => l.length - k) 0 (by simp) (by repeat (first | exact Sub.nil _ | refine Sub.cons rfl ?_)) rfl fun k ⟨hk, hrows⟩ => ?_
    have hw := wr (x := (k : Int) + 1) (by omega)
    have hw1 := wr (x := s - (l.length : Int)) (by omega)
    have hw2 := wr (x := s - (l.length : Int) + 1) (by omega)
    have hw3 := wr (x := s - (l.length : Int) + 1 + (k : Int)) (by omega)
    repeat (first | refine xA ?_ | refine xB ?_ | refine xC ?_ | refine xE ?_ | refine xD ?_ | refine xK ?_ | refine xS ?_ | refine xM ?_ | refine xT ?_ | refine xF ?_ | ((first | refine xR ?_ | refine xW ?_ | refine vq_id ?_); simp only [go_sem, Nat.reduceAdd, Nat.reduceLeDiff, Nat.reduceSub, Int.reduceToNat, reduceCtorEq]) | (refine ⟨by first | omega | (intros; simp_all; done) | (intros; simp_all; omega), ?_⟩; try simp only [go_sem, Nat.reduceAdd, Nat.reduceLeDiff, Nat.reduceSub, Int.reduceToNat, reduceCtorEq]))
    refine AP.cond rfl rfl (fun hc => ?_) (fun hc => ?_)
    · have hk' : k < l.length := by simp at hc; omega
      obtain ⟨r, hm, hg⟩ := rqR_get l k hk'
      obtain ⟨b8, hb8⟩ : ∃ b, (!(r.c == false && (r.a == false && (r.ak == 0 && (r.an == 0 && r.ab == [])))) || decide (6 < r.k)) = b := ⟨_, rfl⟩
      cases b8 with
      | true =>
        have hno : ¬ okP p w s l := fun h => by
          obtain ⟨⟨h1, h2, h3, h4, h5⟩, h6, _⟩ := h.2.2.1 k r hm
          rw [h1, h2, h3, h4, h5] at hb8
          simp at hb8
          omega
        rw [okC_not hno]
        repeat (first | refine xA ?_ | refine xB ?_ | refine xC ?_ | refine xE ?_ | refine xD ?_ | refine xK ?_ | refine xS ?_ | refine xM ?_ | refine xT ?_ | refine xF ?_ | ((first | refine xR ?_ | refine xW ?_ | refine vq_id ?_); simp only [go_sem, Nat.reduceAdd, Nat.reduceLeDiff, Nat.reduceSub, Int.reduceToNat, reduceCtorEq, rqR_len, hg, hw, hb8, Int.toNat_natCast, List.map_cons, List.map_nil, List.length_cons, List.length_nil, List.take_succ_cons, List.take_zero, List.drop_succ_cons, List.drop_zero, beq_self_eq_true, Bool.and_self, Bool.true_and]) | (refine ⟨by first | omega | (intros; simp_all; done) | (intros; simp_all; omega), ?_⟩; try simp only [go_sem, Nat.reduceAdd, Nat.reduceLeDiff, Nat.reduceSub, Int.reduceToNat, reduceCtorEq, rqR_len, hg, hw, hb8, Int.toNat_natCast, List.map_cons, List.map_nil, List.length_cons, List.length_nil, List.take_succ_cons, List.take_zero, List.drop_succ_cons, List.drop_zero, beq_self_eq_true, Bool.and_self, Bool.true_and]))
        exact AE.ret0 rfl ⟨rfl, trivial⟩ rfl ⟨rfl, rfl⟩
      | false =>
        repeat (first | refine xA ?_ | refine xB ?_ | refine xC ?_ | refine xE ?_ | refine xD ?_ | refine xK ?_ | refine xS ?_ | refine xM ?_ | refine xT ?_ | refine xF ?_ | ((first | refine xR ?_ | refine xW ?_ | refine vq_id ?_); simp only [go_sem, Nat.reduceAdd, Nat.reduceLeDiff, Nat.reduceSub, Int.reduceToNat, reduceCtorEq, rqR_len, hg, hw, hb8, Int.toNat_natCast, List.map_cons, List.map_nil, List.length_cons, List.length_nil, List.take_succ_cons, List.take_zero, List.drop_succ_cons, List.drop_zero, beq_self_eq_true, Bool.and_self, Bool.true_and]) | (refine ⟨by first | omega | (intros; simp_all; done) | (intros; simp_all; omega), ?_⟩; try simp only [go_sem, Nat.reduceAdd, Nat.reduceLeDiff, Nat.reduceSub, Int.reduceToNat, reduceCtorEq, rqR_len, hg, hw, hb8, Int.toNat_natCast, List.map_cons, List.map_nil, List.length_cons, List.length_nil, List.take_succ_cons, List.take_zero, List.drop_succ_cons, List.drop_zero, beq_self_eq_true, Bool.and_self, Bool.true_and]))
        refine AQ.guard_yes (by simp only [go_sem]) ?_
        refine AQ.fn_g (by kernel_rfl) rfl rfl (fun h => by first | (simp [gs, AV.g]; done) | (simp [gs, AV.g, constAV]; done) | (simp [gs, AV.g, constAV, bw] at h ⊢; done) | (simp [gs, AV.g, constAV, bw] at h ⊢; exact h) | (simp [gs, AV.g, constAV, bw] at h ⊢; simp [h]; done) | (simp [bw] at h; done) | (simp [gs, AV.g, bw] at h ⊢; simp [h]; done) | (simp [gs, AV.g, bw] at h ⊢; exact h.1) | (simp [gs, AV.g]; rfl) | (simp [gs, AV.g, bw] at h ⊢; rfl) | (simp [gs, AV.g, bw] at h ⊢; simp [h]; rfl) | (simp [gs, AV.g, bw] at h ⊢; simp_all)) rfl (fun _ => message_spec r) rfl ?_
        repeat (first | refine xA ?_ | refine xB ?_ | refine xC ?_ | refine xE ?_ | refine xD ?_ | refine xK ?_ | refine xS ?_ | refine xM ?_ | refine xT ?_ | refine xF ?_ | ((first | refine xR ?_ | refine xW ?_ | refine vq_id ?_); simp only [go_sem, Nat.reduceAdd, Nat.reduceLeDiff, Nat.reduceSub, Int.reduceToNat, reduceCtorEq, hb8]) | (refine ⟨by first | omega | (intros; simp_all; done) | (intros; simp_all; omega), ?_⟩; try simp only [go_sem, Nat.reduceAdd, Nat.reduceLeDiff, Nat.reduceSub, Int.reduceToNat, reduceCtorEq, hb8]))
        refine AQ.guard_yes (by simp only [go_sem]) ?_
        refine AQ.fn_g (by kernel_rfl) rfl rfl (fun h => by first | (simp [gs, AV.g]; done) | (simp [gs, AV.g, constAV]; done) | (simp [gs, AV.g, constAV, bw] at h ⊢; done) | (simp [gs, AV.g, constAV, bw] at h ⊢; exact h) | (simp [gs, AV.g, constAV, bw] at h ⊢; simp [h]; done) | (simp [bw] at h; done) | (simp [gs, AV.g, bw] at h ⊢; simp [h]; done) | (simp [gs, AV.g, bw] at h ⊢; exact h.1) | (simp [gs, AV.g]; rfl) | (simp [gs, AV.g, bw] at h ⊢; rfl) | (simp [gs, AV.g, bw] at h ⊢; simp [h]; rfl) | (simp [gs, AV.g, bw] at h ⊢; simp_all)) rfl (fun _ => error_spec r.k r.n r.b) rfl ?_
        repeat (first | refine xA ?_ | refine xB ?_ | refine xC ?_ | refine xE ?_ | refine xD ?_ | refine xK ?_ | refine xS ?_ | refine xM ?_ | refine xT ?_ | refine xF ?_ | ((first | refine xR ?_ | refine xW ?_ | refine vq_id ?_); simp only [go_sem, Nat.reduceAdd, Nat.reduceLeDiff, Nat.reduceSub, Int.reduceToNat, reduceCtorEq, rqR_len, hb8, hw1, hw2, hw3]) | (refine ⟨by first | omega | (intros; simp_all; done) | (intros; simp_all; omega), ?_⟩; try simp only [go_sem, Nat.reduceAdd, Nat.reduceLeDiff, Nat.reduceSub, Int.reduceToNat, reduceCtorEq, rqR_len, hb8, hw1, hw2, hw3]))
        refine ⟨fun h => ⟨h, fun h2 => by rw [h, h2]; rfl⟩, ?_⟩
        repeat (first | refine xA ?_ | refine xB ?_ | refine xC ?_ | refine xE ?_ | refine xD ?_ | refine xK ?_ | refine xS ?_ | refine xM ?_ | refine xT ?_ | refine xF ?_ | ((first | refine xR ?_ | refine xW ?_ | refine vq_id ?_); simp only [go_sem, Nat.reduceAdd, Nat.reduceLeDiff, Nat.reduceSub, Int.reduceToNat, reduceCtorEq]) | (refine ⟨by first | omega | (intros; simp_all; done) | (intros; simp_all; omega), ?_⟩; try simp only [go_sem, Nat.reduceAdd, Nat.reduceLeDiff, Nat.reduceSub, Int.reduceToNat, reduceCtorEq]))
        have hb8' := hb8
        simp only [Bool.or_eq_false_iff, Bool.not_eq_false', Bool.and_eq_true, beq_iff_eq, decide_eq_false_iff_not] at hb8'
        obtain ⟨⟨h1, h2, h3, h4, h5⟩, h6⟩ := hb8'
        refine AP.cond rfl rfl (fun hrow => ?_) (fun hrow => ?_)
        · rw [okC_not fun h => by
            obtain ⟨_, _, g1, g2, g3⟩ := h.2.2.1 k r hm
            simp only [Bool.or_eq_true, Bool.and_eq_true, beq_iff_eq, bne_iff_ne, decide_eq_true_eq] at hrow
            rcases hrow with (h | h) | h
            · exact h g1
            · exact h g2
            · exact g3 h]
          repeat (first | refine xA ?_ | refine xB ?_ | refine xC ?_ | refine xE ?_ | refine xD ?_ | refine xK ?_ | refine xS ?_ | refine xM ?_ | refine xT ?_ | refine xF ?_ | ((first | refine xR ?_ | refine xW ?_ | refine vq_id ?_); simp only [go_sem, Nat.reduceAdd, Nat.reduceLeDiff, Nat.reduceSub, Int.reduceToNat, reduceCtorEq]) | (refine ⟨by first | omega | (intros; simp_all; done) | (intros; simp_all; omega), ?_⟩; try simp only [go_sem, Nat.reduceAdd, Nat.reduceLeDiff, Nat.reduceSub, Int.reduceToNat, reduceCtorEq]))
          exact AE.ret0 rfl ⟨rfl, trivial⟩ rfl ⟨rfl, rfl⟩
        repeat (first | refine xA ?_ | refine xB ?_ | refine xC ?_ | refine xE ?_ | refine xD ?_ | refine xK ?_ | refine xS ?_ | refine xM ?_ | refine xT ?_ | refine xF ?_ | ((first | refine xR ?_ | refine xW ?_ | refine vq_id ?_); simp only [go_sem, Nat.reduceAdd, Nat.reduceLeDiff, Nat.reduceSub, Int.reduceToNat, reduceCtorEq, hw]) | (refine ⟨by first | omega | (intros; simp_all; done) | (intros; simp_all; omega), ?_⟩; try simp only [go_sem, Nat.reduceAdd, Nat.reduceLeDiff, Nat.reduceSub, Int.reduceToNat, reduceCtorEq, hw]))
        simp only [Bool.or_eq_false_iff, bne_eq_false_iff_eq, Bool.and_eq_false_iff, beq_eq_false_iff_ne, decide_eq_false_iff_not] at hrow
        refine AE.forgets [0, 1] rfl ?_
        simp only [go_sem, Nat.reduceAdd, Nat.reduceLeDiff, Nat.reduceSub, Int.reduceToNat, reduceCtorEq]
        refine AE.round (k + 1) ⟨by omega, fun i hi r' hr' => ?_⟩ (by omega) (by repeat (first | exact Sub.nil _ | refine Sub.cons rfl ?_)) rfl
        by_cases hik : i = k
        · subst hik
          rw [hm] at hr'
          cases hr'
          exact ⟨⟨h1, h2, h3, h4, h5⟩, by omega, hrow.1.1, hrow.1.2, by omega⟩
        · exact hrows i (by omega) r' hr'
    · have hke : k = l.length := by simp at hc; omega
      have hall : ∀ i r, l[i]? = some r → rowOk w s l.length i r := fun i r hr => hrows i (by rw [hke]; exact (List.getElem?_eq_some_iff.1 hr).1) r hr
      repeat (first | refine xA ?_ | refine xB ?_ | refine xC ?_ | refine xE ?_ | refine xD ?_ | refine xK ?_ | refine xS ?_ | refine xM ?_ | refine xT ?_ | refine xF ?_ | ((first | refine xR ?_ | refine xW ?_ | refine vq_id ?_); simp only [go_sem, Nat.reduceAdd, Nat.reduceLeDiff, Nat.reduceSub, Int.reduceToNat, reduceCtorEq]) | (refine ⟨by first | omega | (intros; simp_all; done) | (intros; simp_all; omega), ?_⟩; try simp only [go_sem, Nat.reduceAdd, Nat.reduceLeDiff, Nat.reduceSub, Int.reduceToNat, reduceCtorEq]))
      refine AP.cond rfl rfl (fun hp => ?_) (fun hp => ?_)
      · have hp' : p = 0 := by simpa using hp
        repeat (first | refine xA ?_ | refine xB ?_ | refine xC ?_ | refine xE ?_ | refine xD ?_ | refine xK ?_ | refine xS ?_ | refine xM ?_ | refine xT ?_ | refine xF ?_ | ((first | refine xR ?_ | refine xW ?_ | refine vq_id ?_); simp only [go_sem, Nat.reduceAdd, Nat.reduceLeDiff, Nat.reduceSub, Int.reduceToNat, reduceCtorEq]) | (refine ⟨by first | omega | (intros; simp_all; done) | (intros; simp_all; omega), ?_⟩; try simp only [go_sem, Nat.reduceAdd, Nat.reduceLeDiff, Nat.reduceSub, Int.reduceToNat, reduceCtorEq]))
        refine AE.ret0 rfl ⟨rfl, trivial⟩ rfl ⟨rfl, ?_⟩
        rw [← okC_eq (b := w == 0 && s == 0) (by
          simp only [Bool.and_eq_true, beq_iff_eq]
          refine ⟨fun h => ⟨hh, hby', hall, by rw [if_pos hp']; exact h⟩, fun h => ?_⟩
          have := h.2.2.2
          rw [if_pos hp'] at this
          exact this)]
        rfl
      have hp' : p ≠ 0 := by simpa using hp
      repeat (first | refine xA ?_ | refine xB ?_ | refine xC ?_ | refine xE ?_ | refine xD ?_ | refine xK ?_ | refine xS ?_ | refine xM ?_ | refine xT ?_ | refine xF ?_ | ((first | refine xR ?_ | refine xW ?_ | refine vq_id ?_); simp only [go_sem, Nat.reduceAdd, Nat.reduceLeDiff, Nat.reduceSub, Int.reduceToNat, reduceCtorEq]) | (refine ⟨by first | omega | (intros; simp_all; done) | (intros; simp_all; omega), ?_⟩; try simp only [go_sem, Nat.reduceAdd, Nat.reduceLeDiff, Nat.reduceSub, Int.reduceToNat, reduceCtorEq]))
      refine AP.cond rfl rfl (fun hp2 => ?_) (fun hp2 => ?_)
      · have hs' : s = 0 := by simpa using hp2
        repeat (first | refine xA ?_ | refine xB ?_ | refine xC ?_ | refine xE ?_ | refine xD ?_ | refine xK ?_ | refine xS ?_ | refine xM ?_ | refine xT ?_ | refine xF ?_ | ((first | refine xR ?_ | refine xW ?_ | refine vq_id ?_); simp only [go_sem, Nat.reduceAdd, Nat.reduceLeDiff, Nat.reduceSub, Int.reduceToNat, reduceCtorEq]) | (refine ⟨by first | omega | (intros; simp_all; done) | (intros; simp_all; omega), ?_⟩; try simp only [go_sem, Nat.reduceAdd, Nat.reduceLeDiff, Nat.reduceSub, Int.reduceToNat, reduceCtorEq]))
        refine AE.ret0 rfl ⟨rfl, trivial⟩ rfl ⟨rfl, ?_⟩
        rw [okC_not fun h => by
          have := h.2.2.2
          rw [if_neg hp'] at this
          exact this.1 hs']
        rfl
      have hs' : s ≠ 0 := by simpa using hp2
      repeat (first | refine xA ?_ | refine xB ?_ | refine xC ?_ | refine xE ?_ | refine xD ?_ | refine xK ?_ | refine xS ?_ | refine xM ?_ | refine xT ?_ | refine xF ?_ | ((first | refine xR ?_ | refine xW ?_ | refine vq_id ?_); simp only [go_sem, Nat.reduceAdd, Nat.reduceLeDiff, Nat.reduceSub, Int.reduceToNat, reduceCtorEq]) | (refine ⟨by first | omega | (intros; simp_all; done) | (intros; simp_all; omega), ?_⟩; try simp only [go_sem, Nat.reduceAdd, Nat.reduceLeDiff, Nat.reduceSub, Int.reduceToNat, reduceCtorEq]))
      refine AP.cond rfl rfl (fun hp3 => ?_) (fun hp3 => ?_)
      · have hw' : w = 0 := by simpa using hp3
        cases l with
        | nil =>
          have hz : (((0 : Nat) : Int) == 1) = false := rfl
          repeat (first | refine xA ?_ | refine xB ?_ | refine xC ?_ | refine xE ?_ | refine xD ?_ | refine xK ?_ | refine xS ?_ | refine xM ?_ | refine xT ?_ | refine xF ?_ | ((first | refine xR ?_ | refine xW ?_ | refine vq_id ?_); simp only [go_sem, Nat.reduceAdd, Nat.reduceLeDiff, Nat.reduceSub, Int.reduceToNat, reduceCtorEq, rqR_len, List.length_nil, hz, Bool.and_false]) | (refine ⟨by first | omega | (intros; simp_all; done) | (intros; simp_all; omega), ?_⟩; try simp only [go_sem, Nat.reduceAdd, Nat.reduceLeDiff, Nat.reduceSub, Int.reduceToNat, reduceCtorEq, rqR_len, List.length_nil, hz, Bool.and_false]))
          refine AE.ret0 rfl ⟨rfl, trivial⟩ rfl ⟨rfl, ?_⟩
          rw [okC_not fun h => by
            have := h.2.2.2
            rw [if_neg hp', if_pos hw'] at this
            exact absurd this.2.2.1 (by simp)]
          rfl
        | cons r t =>
          have hg0 : (rqR (r :: t)).getD 0 [] = [Ii r.n, Ii r.k, Si r.b, .v (.bool r.c), .v (.bool r.a), Ii r.ak, Ii r.an, Si r.ab] := rfl
          repeat (first | refine xA ?_ | refine xB ?_ | refine xC ?_ | refine xE ?_ | refine xD ?_ | refine xK ?_ | refine xS ?_ | refine xM ?_ | refine xT ?_ | refine xF ?_ | ((first | refine xR ?_ | refine xW ?_ | refine vq_id ?_); simp only [go_sem, Nat.reduceAdd, Nat.reduceLeDiff, Nat.reduceSub, Int.reduceToNat, reduceCtorEq, rqR_len, hg0, List.map_cons, List.map_nil, List.length_cons, List.length_nil, List.take_succ_cons, List.take_zero, List.drop_succ_cons, List.drop_zero]) | (refine ⟨by first | omega | (intros; simp_all; done) | (intros; simp_all; omega), ?_⟩; try simp only [go_sem, Nat.reduceAdd, Nat.reduceLeDiff, Nat.reduceSub, Int.reduceToNat, reduceCtorEq, rqR_len, hg0, List.map_cons, List.map_nil, List.length_cons, List.length_nil, List.take_succ_cons, List.take_zero, List.drop_succ_cons, List.drop_zero]))
          refine AE.ret0 rfl ⟨rfl, trivial⟩ rfl ⟨rfl, ?_⟩
          rw [← okC_eq (b := s == 1 && ((t.length + 1 : Nat) : Int) == 1 && r.k == 1 && p == 1) (by
            have hk0 : kAt (r :: t) 0 = r.k := rfl
            simp only [Bool.and_eq_true, beq_iff_eq]
            refine ⟨fun h => ⟨hh, hby', hall, ?_⟩, fun h => ?_⟩
            · rw [if_neg hp', if_pos hw', hk0, List.length_cons]
              omega
            · have := h.2.2.2
              rw [if_neg hp', if_pos hw', hk0, List.length_cons] at this
              omega)]
          rfl
      have hw' : w ≠ 0 := by simpa using hp3
      repeat (first | refine xA ?_ | refine xB ?_ | refine xC ?_ | refine xE ?_ | refine xD ?_ | refine xK ?_ | refine xS ?_ | refine xM ?_ | refine xT ?_ | refine xF ?_ | ((first | refine xR ?_ | refine xW ?_ | refine vq_id ?_); simp only [go_sem, Nat.reduceAdd, Nat.reduceLeDiff, Nat.reduceSub, Int.reduceToNat, reduceCtorEq, rqR_len]) | (refine ⟨by first | omega | (intros; simp_all; done) | (intros; simp_all; omega), ?_⟩; try simp only [go_sem, Nat.reduceAdd, Nat.reduceLeDiff, Nat.reduceSub, Int.reduceToNat, reduceCtorEq, rqR_len]))
      refine AE.ret0 rfl ⟨rfl, trivial⟩ rfl ⟨rfl, ?_⟩
      rw [← okC_eq (b := decide ((l.length : Int) ≤ w)) (by
        simp only [decide_eq_true_eq]
        refine ⟨fun h => ⟨hh, hby', hall, by rw [if_neg hp', if_neg hw']; exact ⟨hs', h⟩⟩, fun h => ?_⟩
        have := h.2.2.2
        rw [if_neg hp', if_neg hw'] at this
        exact this.2)]
      rfl
end Go.Proofs.YtlpcdpjkdodmcaaGreatDoor
end

section
namespace Go.Proofs.YtlpcdpjkdodmcaaGreatDoor
open Go Go.AL Go.RowKit
def rowCk (s : Int) (n i : Nat) (r : Rq) : Prop := plainR r ∧ r.k ≤ 6 ∧ msgE r.k r.n r.b = 0 ∧ r.n = s - n + 1 + i ∧ ¬ (r.k = 1 ∧ 0 < i) ∧ ¬ (r.k = 6 ∧ i + 1 < n)
def hello (l : List Rq) : Prop := 0 < l.length ∧ kAt l 0 = 1
def byeL (l : List Rq) : Prop := 0 < l.length ∧ kAt l (l.length - 1) = 6
def ckP (p w s : Int) (l : List Rq) : Prop :=
  headP p w s ∧ (l.length : Int) ≤ s ∧ (∀ i r, l[i]? = some r → rowCk s l.length i r) ∧ if p = 0 then w = 0 ∧ s = 0 else s ≠ 0 ∧ (byeL l ↔ p = 2) ∧ ¬ (p = 3 ∧ 0 < l.length) ∧ (w = 0 → s = 1 ∧ hello l ∧ p = 1) ∧ (0 < w → ¬ hello l ∧ l.length ≤ w)
theorem kAt_of (l : List Rq) (i : Nat) (h : i < l.length) : ∃ r, l[i]? = some r ∧ kAt l i = r.k := ⟨l[i], List.getElem?_eq_getElem h, kAt_eq (List.getElem?_eq_getElem h)⟩
theorem msgE_pos {k n : Int} {b : List UInt8} (h : msgE k n b = 0) : 1 ≤ n ∧ n ≤ 2147483647 := by
  unfold msgE at h
  split at h
  · cases h
  · split at h
    · cases h
    · omega
theorem ck_ok (p w s : Int) (l : List Rq) : ckP p w s l ↔ okP p w s l := by
  constructor
  · rintro ⟨hh, hn, hr, ht⟩
    have hh' := hh
    unfold headP at hh'
    have hk6 : ∀ i, i + 1 < l.length → kAt l i ≠ 6 := fun i hi h6 => by
      obtain ⟨r, h1, h2⟩ := kAt_of l i (by omega)
      exact (hr i r h1).2.2.2.2.2 ⟨by rw [← h2]; exact h6, hi⟩
    by_cases hp : p = 0
    · rw [if_pos hp] at ht
      have hl0 : l.length = 0 := by omega
      refine ⟨hh, ?_, fun i r h => ?_, by rw [if_pos hp]; exact ht⟩
      · rw [byesB, if_neg (by omega), if_neg (by omega)]; simpa using hl0
      · have := (List.getElem?_eq_some_iff.1 h).1; omega
    · rw [if_neg hp] at ht
      obtain ⟨h1, h2, h3, h4, h5⟩ := ht
      refine ⟨hh, ?_, fun i r h => ?_, ?_⟩
      · unfold byesB
        split
        · next hp1 =>
          rw [decide_eq_true_eq]
          intro i hi
          by_cases hl : i + 1 < l.length
          · exact hk6 i hl
          · intro h6
            have : i = l.length - 1 := by omega
            subst this
            have := h2.1 ⟨by omega, h6⟩
            omega
        · split
          · next hp2 =>
            rw [decide_eq_true_eq]
            have := h2.2 hp2
            exact ⟨this.1, this.2, fun i hi => hk6 i (by omega)⟩
          · rw [decide_eq_true_eq]
            omega
      · obtain ⟨g1, g2, g3, g4, g5, g6⟩ := hr i r h
        refine ⟨g1, g2, g3, g4, fun ⟨k1, hw⟩ => ?_⟩
        by_cases hi : 0 < i
        · exact g5 ⟨k1, hi⟩
        · have : i = 0 := by omega
          subst this
          exact (h5 hw).1 ⟨(List.getElem?_eq_some_iff.1 h).1, by rw [kAt_eq h]; exact k1⟩
      · rw [if_neg hp]
        refine ⟨h1, ?_⟩
        split
        · next hw =>
          obtain ⟨k1, k2, k3⟩ := h4 hw
          exact ⟨k1, by have := k2.1; omega, k2.2, k3⟩
        · exact (h5 (by omega)).2
  · rintro ⟨hh, hb, hr, ht⟩
    have hh' := hh
    unfold headP at hh'
    have hn : (l.length : Int) ≤ s := by
      by_cases h0 : l.length = 0
      · omega
      · obtain ⟨r, h1, _⟩ := kAt_of l 0 (by omega)
        obtain ⟨_, _, g3, g4, _⟩ := hr 0 r h1
        have := msgE_pos g3
        omega
    have hb0 : p ≠ 1 → p ≠ 2 → l.length = 0 := fun h1 h2 => by
      rw [byesB, if_neg h1, if_neg h2] at hb
      simpa using hb
    have hb1 : p = 1 → ∀ i, i < l.length → kAt l i ≠ 6 := fun h1 => by
      rw [byesB, if_pos h1] at hb
      simpa using hb
    have hb2 : p = 2 → 0 < l.length ∧ kAt l (l.length - 1) = 6 ∧ ∀ i, i < l.length - 1 → kAt l i ≠ 6 := fun h1 => by
      rw [byesB, if_neg (by omega), if_pos h1, decide_eq_true_eq] at hb
      exact hb
    refine ⟨hh, hn, fun i r h => ?_, ?_⟩
    · obtain ⟨g1, g2, g3, g4, g5⟩ := hr i r h
      have hi := (List.getElem?_eq_some_iff.1 h).1
      refine ⟨g1, g2, g3, g4, fun ⟨k1, hi0⟩ => ?_, fun ⟨k6, hi1⟩ => ?_⟩
      · have hw : w = 0 := by
          rcases Int.lt_or_le 0 w with hw | hw
          · exact absurd ⟨k1, hw⟩ g5
          · omega
        by_cases hp : p = 0
        · have := hb0 (by omega) (by omega); omega
        · rw [if_neg hp, if_pos hw] at ht
          omega
      · by_cases hp1 : p = 1
        · exact hb1 hp1 i hi (by rw [kAt_eq h]; exact k6)
        · by_cases hp2 : p = 2
          · exact (hb2 hp2).2.2 i (by omega) (by rw [kAt_eq h]; exact k6)
          · have := hb0 hp1 hp2; omega
    · by_cases hp : p = 0
      · rw [if_pos hp] at ht ⊢; exact ht
      · rw [if_neg hp] at ht ⊢
        refine ⟨ht.1, ⟨fun ⟨h1, h2⟩ => ?_, fun h2 => ⟨(hb2 h2).1, (hb2 h2).2.1⟩⟩, ?_, fun hw => ?_, fun hw => ?_⟩
        · by_cases hp1 : p = 1
          · exact absurd h2 (hb1 hp1 _ (by omega))
          · by_cases hp2 : p = 2
            · exact hp2
            · have := hb0 hp1 hp2; omega
        · rintro ⟨h3, h4⟩
          have := hb0 (by omega) (by omega)
          omega
        · rw [if_pos hw] at ht
          exact ⟨ht.2.1, ⟨by omega, ht.2.2.2.1⟩, ht.2.2.2.2⟩
        · rw [if_neg (by omega)] at ht
          refine ⟨fun ⟨h1, h2⟩ => ?_, ht.2⟩
          obtain ⟨r, k1, k2⟩ := kAt_of l 0 h1
          exact (hr 0 r k1).2.2.2.2 ⟨by rw [← k2]; exact h2, hw⟩
end Go.Proofs.YtlpcdpjkdodmcaaGreatDoor
end

section
namespace Go.Proofs.YtlpcdpjkdodmcaaGreatDoor
open Go Go.AL Go.RowKit
set_option maxRecDepth 10000
set_option maxHeartbeats 4000000
noncomputable def ckE (p w s : Int) (l : List Rq) : Int := bif okC p w s l then 0 else 13
theorem ckE_yes {p w s : Int} {l : List Rq} (h : ckP p w s l) : ckE p w s l = 0 := by
  rw [ckE, (okC_iff p w s l).2 ((ck_ok p w s l).1 h)]; rfl
theorem ckE_no {p w s : Int} {l : List Rq} (h : ¬ ckP p w s l) : ckE p w s l = 13 := by
  rw [ckE, okC_not fun h' => h ((ck_ok p w s l).2 h')]; rfl
theorem check_spec (p w s : Int) (l : List Rq) (hl : l.length ≤ 1000000000) : PFn Tryz.prog 25 [.agg [Iv p, Iv w, Iv s, .im (.sl 8 (rqR l))]] (Iv (ckE p w s l)) := by
  refine ACall.walk [0, 1, 2, 3, 4, 5, 6, 7, 44, 47, 82, 112, 115, 123, 146, 162] [5] Tryz.func25 rfl Tryz.ntmps25 (by kernel_rfl) (by rfl) rfl fun W own I0 φ0 lay => ?_
  repeat (first | refine xA ?_ | refine xB ?_ | refine xC ?_ | refine xE ?_ | refine xD ?_ | refine xK ?_ | refine xS ?_ | refine xM ?_ | refine xT ?_ | refine xF ?_ | ((first | refine xR ?_ | refine xW ?_ | refine vq_id ?_); simp only [go_sem, Nat.reduceAdd, Nat.reduceLeDiff, Nat.reduceSub, Int.reduceToNat, reduceCtorEq, rqR_len]) | (refine ⟨by first | omega | (intros; simp_all; done) | (intros; simp_all; omega), ?_⟩; try simp only [go_sem, Nat.reduceAdd, Nat.reduceLeDiff, Nat.reduceSub, Int.reduceToNat, reduceCtorEq, rqR_len]))
  refine AP.cond rfl rfl (fun hh => ?_) (fun hh => ?_)
  · rw [ckE_no fun h => by
      have h1 := h.1
      have h2 := h.2.1
      unfold headP at h1
      simp only [Bool.or_eq_true, decide_eq_true_eq] at hh
      omega]
    repeat (first | refine xA ?_ | refine xB ?_ | refine xC ?_ | refine xE ?_ | refine xD ?_ | refine xK ?_ | refine xS ?_ | refine xM ?_ | refine xT ?_ | refine xF ?_ | ((first | refine xR ?_ | refine xW ?_ | refine vq_id ?_); simp only [go_sem, Nat.reduceAdd, Nat.reduceLeDiff, Nat.reduceSub, Int.reduceToNat, reduceCtorEq]) | (refine ⟨by first | omega | (intros; simp_all; done) | (intros; simp_all; omega), ?_⟩; try simp only [go_sem, Nat.reduceAdd, Nat.reduceLeDiff, Nat.reduceSub, Int.reduceToNat, reduceCtorEq]))
    exact AE.ret0 rfl ⟨rfl, trivial⟩ rfl ⟨rfl, rfl⟩
  have hh1 : headP p w s ∧ (l.length : Int) ≤ s := by
    unfold headP
    simp only [Bool.or_eq_false_iff, decide_eq_false_iff_not] at hh
    omega
  have hh' := hh1
  unfold headP at hh'
  repeat (first | refine xA ?_ | refine xB ?_ | refine xC ?_ | refine xE ?_ | refine xD ?_ | refine xK ?_ | refine xS ?_ | refine xM ?_ | refine xT ?_ | refine xF ?_ | ((first | refine xR ?_ | refine xW ?_ | refine vq_id ?_); simp only [go_sem, Nat.reduceAdd, Nat.reduceLeDiff, Nat.reduceSub, Int.reduceToNat, reduceCtorEq]) | (refine ⟨by first | omega | (intros; simp_all; done) | (intros; simp_all; omega), ?_⟩; try simp only [go_sem, Nat.reduceAdd, Nat.reduceLeDiff, Nat.reduceSub, Int.reduceToNat, reduceCtorEq]))
  refine AP.loop rfl (α := Nat) (fun k => [(1, .im (.pt [Ii p, Ii w, Ii s, .sl 8 (rqR l)])), (3, Iv l.length), (4, Iv k)]) (fun k => []) (fun k => k ≤ l.length ∧ ∀ i, i < k → ∀ r, l[i]? = some r → rowCk s l.length i r) (fun k => l.length - k) 0 (by simp) (by repeat (first | exact Sub.nil _ | refine Sub.cons rfl ?_)) rfl fun k ⟨hk, hrows⟩ => ?_
  have hw := wr (x := (k : Int) + 1) (by omega)
  have hw0 := wr (x := (l.length : Int) - 1) (by omega)
  have hw1 := wr (x := s - (l.length : Int)) (by omega)
  have hw2 := wr (x := s - (l.length : Int) + 1) (by omega)
  have hw3 := wr (x := s - (l.length : Int) + 1 + (k : Int)) (by omega)
  repeat (first | refine xA ?_ | refine xB ?_ | refine xC ?_ | refine xE ?_ | refine xD ?_ | refine xK ?_ | refine xS ?_ | refine xM ?_ | refine xT ?_ | refine xF ?_ | ((first | refine xR ?_ | refine xW ?_ | refine vq_id ?_); simp only [go_sem, Nat.reduceAdd, Nat.reduceLeDiff, Nat.reduceSub, Int.reduceToNat, reduceCtorEq]) | (refine ⟨by first | omega | (intros; simp_all; done) | (intros; simp_all; omega), ?_⟩; try simp only [go_sem, Nat.reduceAdd, Nat.reduceLeDiff, Nat.reduceSub, Int.reduceToNat, reduceCtorEq]))
  refine AP.cond rfl rfl (fun hc => ?_) (fun hc => ?_)
  · have hk' : k < l.length := by simp at hc; omega
    obtain ⟨r, hm, hg⟩ := rqR_get l k hk'
    obtain ⟨b3, hb3⟩ : ∃ b, decide (6 < r.k) = b := ⟨_, rfl⟩
    cases b3 with
    | true =>
      rw [ckE_no fun h => by
        have := (h.2.2.1 k r hm).2.1
        simp only [decide_eq_true_eq] at hb3
        omega]
      repeat (first | refine xA ?_ | refine xB ?_ | refine xC ?_ | refine xE ?_ | refine xD ?_ | refine xK ?_ | refine xS ?_ | refine xM ?_ | refine xT ?_ | refine xF ?_ | ((first | refine xR ?_ | refine xW ?_ | refine vq_id ?_); simp only [go_sem, Nat.reduceAdd, Nat.reduceLeDiff, Nat.reduceSub, Int.reduceToNat, reduceCtorEq, rqR_len, hg, hw, hb3, Int.toNat_natCast, List.map_cons, List.map_nil, List.length_cons, List.length_nil, List.take_succ_cons, List.take_zero, List.drop_succ_cons, List.drop_zero, beq_self_eq_true, Bool.and_self, Bool.true_and]) | (refine ⟨by first | omega | (intros; simp_all; done) | (intros; simp_all; omega), ?_⟩; try simp only [go_sem, Nat.reduceAdd, Nat.reduceLeDiff, Nat.reduceSub, Int.reduceToNat, reduceCtorEq, rqR_len, hg, hw, hb3, Int.toNat_natCast, List.map_cons, List.map_nil, List.length_cons, List.length_nil, List.take_succ_cons, List.take_zero, List.drop_succ_cons, List.drop_zero, beq_self_eq_true, Bool.and_self, Bool.true_and]))
      exact AE.ret0 rfl ⟨rfl, trivial⟩ rfl ⟨rfl, rfl⟩
    | false =>
      repeat (first | refine xA ?_ | refine xB ?_ | refine xC ?_ | refine xE ?_ | refine xD ?_ | refine xK ?_ | refine xS ?_ | refine xM ?_ | refine xT ?_ | refine xF ?_ | ((first | refine xR ?_ | refine xW ?_ | refine vq_id ?_); simp only [go_sem, Nat.reduceAdd, Nat.reduceLeDiff, Nat.reduceSub, Int.reduceToNat, reduceCtorEq, rqR_len, hg, hw, hb3, Int.toNat_natCast, List.map_cons, List.map_nil, List.length_cons, List.length_nil, List.take_succ_cons, List.take_zero, List.drop_succ_cons, List.drop_zero, beq_self_eq_true, Bool.and_self, Bool.true_and]) | (refine ⟨by first | omega | (intros; simp_all; done) | (intros; simp_all; omega), ?_⟩; try simp only [go_sem, Nat.reduceAdd, Nat.reduceLeDiff, Nat.reduceSub, Int.reduceToNat, reduceCtorEq, rqR_len, hg, hw, hb3, Int.toNat_natCast, List.map_cons, List.map_nil, List.length_cons, List.length_nil, List.take_succ_cons, List.take_zero, List.drop_succ_cons, List.drop_zero, beq_self_eq_true, Bool.and_self, Bool.true_and]))
      refine AQ.strip ?_
      simp only [go_sem, Nat.reduceAdd, Nat.reduceLeDiff, Nat.reduceSub, Int.reduceToNat, reduceCtorEq]
      refine AQ.guard_yes (by simp only [go_sem]) ?_
      refine AQ.go (by kernel_rfl) ?_
      simp only [go_sem, Nat.reduceAdd, Nat.reduceLeDiff, Nat.reduceSub, Int.reduceToNat, reduceCtorEq]
      refine AQ.guard_yes (by simp only [go_sem]) ?_
      refine AQ.fn_g (by kernel_rfl) rfl rfl (fun h => by first | (simp [gs, AV.g]; done) | (simp [gs, AV.g, constAV]; done) | (simp [gs, AV.g, constAV, bw] at h ⊢; done) | (simp [gs, AV.g, constAV, bw] at h ⊢; exact h) | (simp [gs, AV.g, constAV, bw] at h ⊢; simp [h]; done) | (simp [bw] at h; done) | (simp [gs, AV.g, bw] at h ⊢; simp [h]; done) | (simp [gs, AV.g, bw] at h ⊢; exact h.1) | (simp [gs, AV.g]; rfl) | (simp [gs, AV.g, bw] at h ⊢; rfl) | (simp [gs, AV.g, bw] at h ⊢; simp [h]; rfl) | (simp [gs, AV.g, bw] at h ⊢; simp_all)) rfl (fun _ => wrong_ref r.k r.n r.b) rfl ?_
      repeat (first | refine xA ?_ | refine xB ?_ | refine xC ?_ | refine xE ?_ | refine xD ?_ | refine xK ?_ | refine xS ?_ | refine xM ?_ | refine xT ?_ | refine xF ?_ | ((first | refine xR ?_ | refine xW ?_ | refine vq_id ?_); simp only [go_sem, Nat.reduceAdd, Nat.reduceLeDiff, Nat.reduceSub, Int.reduceToNat, reduceCtorEq, rqR_len, hb3, hw0, hw1, hw2, hw3]) | (refine ⟨by first | omega | (intros; simp_all; done) | (intros; simp_all; omega), ?_⟩; try simp only [go_sem, Nat.reduceAdd, Nat.reduceLeDiff, Nat.reduceSub, Int.reduceToNat, reduceCtorEq, rqR_len, hb3, hw0, hw1, hw2, hw3]))
      refine AP.cond rfl rfl (fun hr1 => ?_) (fun hr1 => ?_)
      · rw [ckE_no fun h => by
          obtain ⟨⟨c1, c2, c3, c4, c5⟩, _, g1, _⟩ := h.2.2.1 k r hm
          rw [c1, c2, c3, c4, c5, g1] at hr1
          exact absurd hr1 (by decide)]
        repeat (first | refine xA ?_ | refine xB ?_ | refine xC ?_ | refine xE ?_ | refine xD ?_ | refine xK ?_ | refine xS ?_ | refine xM ?_ | refine xT ?_ | refine xF ?_ | ((first | refine xR ?_ | refine xW ?_ | refine vq_id ?_); simp only [go_sem, Nat.reduceAdd, Nat.reduceLeDiff, Nat.reduceSub, Int.reduceToNat, reduceCtorEq]) | (refine ⟨by first | omega | (intros; simp_all; done) | (intros; simp_all; omega), ?_⟩; try simp only [go_sem, Nat.reduceAdd, Nat.reduceLeDiff, Nat.reduceSub, Int.reduceToNat, reduceCtorEq]))
        exact AE.ret0 rfl ⟨rfl, trivial⟩ rfl ⟨rfl, rfl⟩
      simp only [Bool.or_eq_false_iff, bne_eq_false_iff_eq, Bool.not_eq_false', Bool.and_eq_true, beq_iff_eq] at hr1
      obtain ⟨⟨⟨g1, c1⟩, c2⟩, c3, c4, c5⟩ := hr1
      repeat (first | refine xA ?_ | refine xB ?_ | refine xC ?_ | refine xE ?_ | refine xD ?_ | refine xK ?_ | refine xS ?_ | refine xM ?_ | refine xT ?_ | refine xF ?_ | ((first | refine xR ?_ | refine xW ?_ | refine vq_id ?_); simp only [go_sem, Nat.reduceAdd, Nat.reduceLeDiff, Nat.reduceSub, Int.reduceToNat, reduceCtorEq, rqR_len, hw0, hw1, hw2, hw3]) | (refine ⟨by first | omega | (intros; simp_all; done) | (intros; simp_all; omega), ?_⟩; try simp only [go_sem, Nat.reduceAdd, Nat.reduceLeDiff, Nat.reduceSub, Int.reduceToNat, reduceCtorEq, rqR_len, hw0, hw1, hw2, hw3]))
      refine AP.cond rfl rfl (fun hr2 => ?_) (fun hr2 => ?_)
      · rw [ckE_no fun h => by
          obtain ⟨_, _, _, g2, g3, g4⟩ := h.2.2.1 k r hm
          simp only [Bool.or_eq_true, Bool.and_eq_true, beq_iff_eq, bne_iff_ne, decide_eq_true_eq] at hr2
          rcases hr2 with (h | h) | h
          · exact h g2
          · exact g3 ⟨h.1, by omega⟩
          · exact g4 ⟨h.1, by omega⟩]
        repeat (first | refine xA ?_ | refine xB ?_ | refine xC ?_ | refine xE ?_ | refine xD ?_ | refine xK ?_ | refine xS ?_ | refine xM ?_ | refine xT ?_ | refine xF ?_ | ((first | refine xR ?_ | refine xW ?_ | refine vq_id ?_); simp only [go_sem, Nat.reduceAdd, Nat.reduceLeDiff, Nat.reduceSub, Int.reduceToNat, reduceCtorEq]) | (refine ⟨by first | omega | (intros; simp_all; done) | (intros; simp_all; omega), ?_⟩; try simp only [go_sem, Nat.reduceAdd, Nat.reduceLeDiff, Nat.reduceSub, Int.reduceToNat, reduceCtorEq]))
        exact AE.ret0 rfl ⟨rfl, trivial⟩ rfl ⟨rfl, rfl⟩
      simp only [Bool.or_eq_false_iff, bne_eq_false_iff_eq, Bool.and_eq_false_iff, beq_eq_false_iff_ne, decide_eq_false_iff_not] at hr2
      simp only [decide_eq_false_iff_not] at hb3
      repeat (first | refine xA ?_ | refine xB ?_ | refine xC ?_ | refine xE ?_ | refine xD ?_ | refine xK ?_ | refine xS ?_ | refine xM ?_ | refine xT ?_ | refine xF ?_ | ((first | refine xR ?_ | refine xW ?_ | refine vq_id ?_); simp only [go_sem, Nat.reduceAdd, Nat.reduceLeDiff, Nat.reduceSub, Int.reduceToNat, reduceCtorEq, hw]) | (refine ⟨by first | omega | (intros; simp_all; done) | (intros; simp_all; omega), ?_⟩; try simp only [go_sem, Nat.reduceAdd, Nat.reduceLeDiff, Nat.reduceSub, Int.reduceToNat, reduceCtorEq, hw]))
      refine AE.forgets [0] rfl ?_
      simp only [go_sem, Nat.reduceAdd, Nat.reduceLeDiff, Nat.reduceSub, Int.reduceToNat, reduceCtorEq]
      refine AE.round (k + 1) ⟨by omega, fun i hi r' hr' => ?_⟩ (by omega) (by repeat (first | exact Sub.nil _ | refine Sub.cons rfl ?_)) rfl
      by_cases hik : i = k
      · subst hik
        rw [hm] at hr'
        cases hr'
        exact ⟨⟨c1, c2, c3, c4, c5⟩, by omega, g1, hr2.1.1, by omega, by omega⟩
      · exact hrows i (by omega) r' hr'
  · have hke : k = l.length := by simp at hc; omega
    have hall : ∀ i r, l[i]? = some r → rowCk s l.length i r := fun i r hr => hrows i (by rw [hke]; exact (List.getElem?_eq_some_iff.1 hr).1) r hr
    repeat (first | refine xA ?_ | refine xB ?_ | refine xC ?_ | refine xE ?_ | refine xD ?_ | refine xK ?_ | refine xS ?_ | refine xM ?_ | refine xT ?_ | refine xF ?_ | ((first | refine xR ?_ | refine xW ?_ | refine vq_id ?_); simp only [go_sem, Nat.reduceAdd, Nat.reduceLeDiff, Nat.reduceSub, Int.reduceToNat, reduceCtorEq]) | (refine ⟨by first | omega | (intros; simp_all; done) | (intros; simp_all; omega), ?_⟩; try simp only [go_sem, Nat.reduceAdd, Nat.reduceLeDiff, Nat.reduceSub, Int.reduceToNat, reduceCtorEq]))
    refine AP.cond rfl rfl (fun hp => ?_) (fun hp => ?_)
    · repeat (first | refine xA ?_ | refine xB ?_ | refine xC ?_ | refine xE ?_ | refine xD ?_ | refine xK ?_ | refine xS ?_ | refine xM ?_ | refine xT ?_ | refine xF ?_ | ((first | refine xR ?_ | refine xW ?_ | refine vq_id ?_); simp only [go_sem, Nat.reduceAdd, Nat.reduceLeDiff, Nat.reduceSub, Int.reduceToNat, reduceCtorEq]) | (refine ⟨by first | omega | (intros; simp_all; done) | (intros; simp_all; omega), ?_⟩; try simp only [go_sem, Nat.reduceAdd, Nat.reduceLeDiff, Nat.reduceSub, Int.reduceToNat, reduceCtorEq]))
      have hp' : p = 0 := by simpa using hp
      refine AP.cond rfl rfl (fun hp4 => ?_) (fun hp4 => ?_)
      · rw [ckE_no fun h => by
          have := h.2.2.2
          rw [if_pos hp'] at this
          rw [this.1, this.2] at hp4
          exact absurd hp4 (by decide)]
        repeat (first | refine xA ?_ | refine xB ?_ | refine xC ?_ | refine xE ?_ | refine xD ?_ | refine xK ?_ | refine xS ?_ | refine xM ?_ | refine xT ?_ | refine xF ?_ | ((first | refine xR ?_ | refine xW ?_ | refine vq_id ?_); simp only [go_sem, Nat.reduceAdd, Nat.reduceLeDiff, Nat.reduceSub, Int.reduceToNat, reduceCtorEq]) | (refine ⟨by first | omega | (intros; simp_all; done) | (intros; simp_all; omega), ?_⟩; try simp only [go_sem, Nat.reduceAdd, Nat.reduceLeDiff, Nat.reduceSub, Int.reduceToNat, reduceCtorEq]))
        exact AE.ret0 rfl ⟨rfl, trivial⟩ rfl ⟨rfl, rfl⟩
      · rw [ckE_yes ⟨hh1.1, hh1.2, hall, by rw [if_pos hp']; simpa using hp4⟩]
        repeat (first | refine xA ?_ | refine xB ?_ | refine xC ?_ | refine xE ?_ | refine xD ?_ | refine xK ?_ | refine xS ?_ | refine xM ?_ | refine xT ?_ | refine xF ?_ | ((first | refine xR ?_ | refine xW ?_ | refine vq_id ?_); simp only [go_sem, Nat.reduceAdd, Nat.reduceLeDiff, Nat.reduceSub, Int.reduceToNat, reduceCtorEq]) | (refine ⟨by first | omega | (intros; simp_all; done) | (intros; simp_all; omega), ?_⟩; try simp only [go_sem, Nat.reduceAdd, Nat.reduceLeDiff, Nat.reduceSub, Int.reduceToNat, reduceCtorEq]))
        exact AE.ret0 rfl ⟨rfl, trivial⟩ rfl ⟨rfl, rfl⟩
    have hp' : p ≠ 0 := by simpa using hp
    refine xPP rfl ?_
    refine AP.cut (α := Bool) (fun h => [(1, .im (.pt [Ii p, Ii w, Ii s, .sl 8 (rqR l)])), (3, Iv l.length), (6, Bv h)]) (fun _ => []) (fun h => h = true ↔ hello l) ?_ fun h6 hh6 => ?_
    · cases l with
      | nil =>
        have hz : decide (((0 : Nat) : Int) > 0) = false := rfl
        repeat (first | refine xA ?_ | refine xB ?_ | refine xC ?_ | refine xE ?_ | refine xD ?_ | refine xK ?_ | refine xS ?_ | refine xM ?_ | refine xT ?_ | refine xF ?_ | ((first | refine xR ?_ | refine xW ?_ | refine vq_id ?_); simp only [go_sem, Nat.reduceAdd, Nat.reduceLeDiff, Nat.reduceSub, Int.reduceToNat, reduceCtorEq, rqR_len, List.length_nil, hz, Bool.false_and, Bool.and_false]) | (refine ⟨by first | omega | (intros; simp_all; done) | (intros; simp_all; omega), ?_⟩; try simp only [go_sem, Nat.reduceAdd, Nat.reduceLeDiff, Nat.reduceSub, Int.reduceToNat, reduceCtorEq, rqR_len, List.length_nil, hz, Bool.false_and, Bool.and_false]))
        exact AE.meet false (by simp [hello]) (by repeat (first | exact Sub.nil _ | refine Sub.cons rfl ?_)) rfl
      | cons r t =>
        have hg0 : (rqR (r :: t)).getD 0 [] = [Ii r.n, Ii r.k, Si r.b, .v (.bool r.c), .v (.bool r.a), Ii r.ak, Ii r.an, Si r.ab] := rfl
        have hz : decide (((t.length + 1 : Nat) : Int) > 0) = true := by simp
        repeat (first | refine xA ?_ | refine xB ?_ | refine xC ?_ | refine xE ?_ | refine xD ?_ | refine xK ?_ | refine xS ?_ | refine xM ?_ | refine xT ?_ | refine xF ?_ | ((first | refine xR ?_ | refine xW ?_ | refine vq_id ?_); simp only [go_sem, Nat.reduceAdd, Nat.reduceLeDiff, Nat.reduceSub, Int.reduceToNat, reduceCtorEq, rqR_len, hg0, hz, Int.toNat_natCast, List.map_cons, List.map_nil, List.length_cons, List.length_nil, List.take_succ_cons, List.take_zero, List.drop_succ_cons, List.drop_zero, Bool.true_and]) | (refine ⟨by first | omega | (intros; simp_all; done) | (intros; simp_all; omega), ?_⟩; try simp only [go_sem, Nat.reduceAdd, Nat.reduceLeDiff, Nat.reduceSub, Int.reduceToNat, reduceCtorEq, rqR_len, hg0, hz, Int.toNat_natCast, List.map_cons, List.map_nil, List.length_cons, List.length_nil, List.take_succ_cons, List.take_zero, List.drop_succ_cons, List.drop_zero, Bool.true_and]))
        exact AE.meet (r.k == 1) (by have : kAt (r :: t) 0 = r.k := rfl; simp [hello, this]) (by repeat (first | exact Sub.nil _ | refine Sub.cons rfl ?_)) rfl
    refine xEP rfl ?_
    refine AP.cut (α := Bool) (fun h => [(1, .im (.pt [Ii p, Ii w, Ii s, .sl 8 (rqR l)])), (3, Iv l.length), (6, Bv h6), (7, Bv h)]) (fun _ => []) (fun h => h = true ↔ byeL l) ?_ fun h7 hh7 => ?_
    · cases l with
      | nil =>
        have hz : decide (((0 : Nat) : Int) > 0) = false := rfl
        repeat (first | refine xA ?_ | refine xB ?_ | refine xC ?_ | refine xE ?_ | refine xD ?_ | refine xK ?_ | refine xS ?_ | refine xM ?_ | refine xT ?_ | refine xF ?_ | ((first | refine xR ?_ | refine xW ?_ | refine vq_id ?_); simp only [go_sem, Nat.reduceAdd, Nat.reduceLeDiff, Nat.reduceSub, Int.reduceToNat, reduceCtorEq, rqR_len, List.length_nil, hz, Bool.false_and, Bool.and_false]) | (refine ⟨by first | omega | (intros; simp_all; done) | (intros; simp_all; omega), ?_⟩; try simp only [go_sem, Nat.reduceAdd, Nat.reduceLeDiff, Nat.reduceSub, Int.reduceToNat, reduceCtorEq, rqR_len, List.length_nil, hz, Bool.false_and, Bool.and_false]))
        exact AE.meet false (by simp [byeL]) (by repeat (first | exact Sub.nil _ | refine Sub.cons rfl ?_)) rfl
      | cons r t =>
        obtain ⟨r2, hm2, hg2⟩ := rqR_get (r :: t) t.length (by simp)
        rw [List.length_cons] at hw0
        have hw00 : ((t.length + 1 : Nat) : Int) - 1 = (t.length : Nat) := by omega
        rw [hw00] at hw0
        have hz : decide (((t.length + 1 : Nat) : Int) > 0) = true := by simp
        repeat (first | refine xA ?_ | refine xB ?_ | refine xC ?_ | refine xE ?_ | refine xD ?_ | refine xK ?_ | refine xS ?_ | refine xM ?_ | refine xT ?_ | refine xF ?_ | ((first | refine xR ?_ | refine xW ?_ | refine vq_id ?_); simp only [go_sem, Nat.reduceAdd, Nat.reduceLeDiff, Nat.reduceSub, Int.reduceToNat, reduceCtorEq, rqR_len, hg2, hz, hw0, hw00, Int.toNat_natCast, List.map_cons, List.map_nil, List.length_cons, List.length_nil, List.take_succ_cons, List.take_zero, List.drop_succ_cons, List.drop_zero, Bool.true_and]) | (refine ⟨by first | omega | (intros; simp_all; done) | (intros; simp_all; omega), ?_⟩; try simp only [go_sem, Nat.reduceAdd, Nat.reduceLeDiff, Nat.reduceSub, Int.reduceToNat, reduceCtorEq, rqR_len, hg2, hz, hw0, hw00, Int.toNat_natCast, List.map_cons, List.map_nil, List.length_cons, List.length_nil, List.take_succ_cons, List.take_zero, List.drop_succ_cons, List.drop_zero, Bool.true_and]))
        exact AE.meet (r2.k == 6) (by simp [byeL, kAt_eq hm2]) (by repeat (first | exact Sub.nil _ | refine Sub.cons rfl ?_)) rfl
    repeat (first | refine xA ?_ | refine xB ?_ | refine xC ?_ | refine xE ?_ | refine xD ?_ | refine xK ?_ | refine xS ?_ | refine xM ?_ | refine xT ?_ | refine xF ?_ | ((first | refine xR ?_ | refine xW ?_ | refine vq_id ?_); simp only [go_sem, Nat.reduceAdd, Nat.reduceLeDiff, Nat.reduceSub, Int.reduceToNat, reduceCtorEq]) | (refine ⟨by first | omega | (intros; simp_all; done) | (intros; simp_all; omega), ?_⟩; try simp only [go_sem, Nat.reduceAdd, Nat.reduceLeDiff, Nat.reduceSub, Int.reduceToNat, reduceCtorEq]))
    refine AP.cut (α := Bool) (fun b => [(1, .im (.pt [Ii p, Ii w, Ii s, .sl 8 (rqR l)])), (3, Iv l.length), (6, Bv h6), (7, Bv h7), (146, Bv b)]) (fun _ => []) (fun b => b = true ↔ (s = 0 ∨ ¬ (byeL l ↔ p = 2) ∨ (p = 3 ∧ 0 < l.length))) ?_ fun b hb => ?_
    · skip
      refine AP.cond rfl rfl (fun hs => ?_) (fun hs => ?_)
      · repeat (first | refine xA ?_ | refine xB ?_ | refine xC ?_ | refine xE ?_ | refine xD ?_ | refine xK ?_ | refine xS ?_ | refine xM ?_ | refine xT ?_ | refine xF ?_ | ((first | refine xR ?_ | refine xW ?_ | refine vq_id ?_); simp only [go_sem, Nat.reduceAdd, Nat.reduceLeDiff, Nat.reduceSub, Int.reduceToNat, reduceCtorEq]) | (refine ⟨by first | omega | (intros; simp_all; done) | (intros; simp_all; omega), ?_⟩; try simp only [go_sem, Nat.reduceAdd, Nat.reduceLeDiff, Nat.reduceSub, Int.reduceToNat, reduceCtorEq]))
        exact AE.meet (s == 0) (by rw [hs]; simp at hs; simp [hs]) (by repeat (first | exact Sub.nil _ | refine Sub.cons rfl ?_)) rfl
      have hs' : s ≠ 0 := by simpa using hs
      repeat (first | refine xA ?_ | refine xB ?_ | refine xC ?_ | refine xE ?_ | refine xD ?_ | refine xK ?_ | refine xS ?_ | refine xM ?_ | refine xT ?_ | refine xF ?_ | ((first | refine xR ?_ | refine xW ?_ | refine vq_id ?_); simp only [go_sem, Nat.reduceAdd, Nat.reduceLeDiff, Nat.reduceSub, Int.reduceToNat, reduceCtorEq]) | (refine ⟨by first | omega | (intros; simp_all; done) | (intros; simp_all; omega), ?_⟩; try simp only [go_sem, Nat.reduceAdd, Nat.reduceLeDiff, Nat.reduceSub, Int.reduceToNat, reduceCtorEq]))
      refine AP.cond rfl rfl (fun hb => ?_) (fun hb => ?_)
      · repeat (first | refine xA ?_ | refine xB ?_ | refine xC ?_ | refine xE ?_ | refine xD ?_ | refine xK ?_ | refine xS ?_ | refine xM ?_ | refine xT ?_ | refine xF ?_ | ((first | refine xR ?_ | refine xW ?_ | refine vq_id ?_); simp only [go_sem, Nat.reduceAdd, Nat.reduceLeDiff, Nat.reduceSub, Int.reduceToNat, reduceCtorEq]) | (refine ⟨by first | omega | (intros; simp_all; done) | (intros; simp_all; omega), ?_⟩; try simp only [go_sem, Nat.reduceAdd, Nat.reduceLeDiff, Nat.reduceSub, Int.reduceToNat, reduceCtorEq]))
        exact AE.meet (h7 != (p == 2)) (by rw [← hh7, hb]; refine ⟨fun _ => .inr (.inl ?_), fun _ => rfl⟩; cases h7 <;> simpa using hb) (by repeat (first | exact Sub.nil _ | refine Sub.cons rfl ?_)) rfl
      repeat (first | refine xA ?_ | refine xB ?_ | refine xC ?_ | refine xE ?_ | refine xD ?_ | refine xK ?_ | refine xS ?_ | refine xM ?_ | refine xT ?_ | refine xF ?_ | ((first | refine xR ?_ | refine xW ?_ | refine vq_id ?_); simp only [go_sem, Nat.reduceAdd, Nat.reduceLeDiff, Nat.reduceSub, Int.reduceToNat, reduceCtorEq]) | (refine ⟨by first | omega | (intros; simp_all; done) | (intros; simp_all; omega), ?_⟩; try simp only [go_sem, Nat.reduceAdd, Nat.reduceLeDiff, Nat.reduceSub, Int.reduceToNat, reduceCtorEq]))
      refine AE.meet (p == 3 && decide (0 < (l.length : Int))) ?_ (by repeat (first | exact Sub.nil _ | refine Sub.cons rfl ?_)) rfl
      rw [← hh7]
      have hb' : (h7 = true ↔ p = 2) := by cases h7 <;> simpa using hb
      simp [hs', hb']
    repeat (first | refine xA ?_ | refine xB ?_ | refine xC ?_ | refine xE ?_ | refine xD ?_ | refine xK ?_ | refine xS ?_ | refine xM ?_ | refine xT ?_ | refine xF ?_ | ((first | refine xR ?_ | refine xW ?_ | refine vq_id ?_); simp only [go_sem, Nat.reduceAdd, Nat.reduceLeDiff, Nat.reduceSub, Int.reduceToNat, reduceCtorEq]) | (refine ⟨by first | omega | (intros; simp_all; done) | (intros; simp_all; omega), ?_⟩; try simp only [go_sem, Nat.reduceAdd, Nat.reduceLeDiff, Nat.reduceSub, Int.reduceToNat, reduceCtorEq]))
    refine AP.cond rfl rfl (fun hb1 => ?_) (fun hb1 => ?_)
    · rw [ckE_no fun h => by
        have := h.2.2.2
        rw [if_neg hp'] at this
        rcases hb.1 hb1 with h1 | h1 | h1
        · exact this.1 h1
        · exact h1 this.2.1
        · exact this.2.2.1 h1]
      repeat (first | refine xA ?_ | refine xB ?_ | refine xC ?_ | refine xE ?_ | refine xD ?_ | refine xK ?_ | refine xS ?_ | refine xM ?_ | refine xT ?_ | refine xF ?_ | ((first | refine xR ?_ | refine xW ?_ | refine vq_id ?_); simp only [go_sem, Nat.reduceAdd, Nat.reduceLeDiff, Nat.reduceSub, Int.reduceToNat, reduceCtorEq]) | (refine ⟨by first | omega | (intros; simp_all; done) | (intros; simp_all; omega), ?_⟩; try simp only [go_sem, Nat.reduceAdd, Nat.reduceLeDiff, Nat.reduceSub, Int.reduceToNat, reduceCtorEq]))
      exact AE.ret0 rfl ⟨rfl, trivial⟩ rfl ⟨rfl, rfl⟩
    have hb' : ¬ (s = 0 ∨ ¬ (byeL l ↔ p = 2) ∨ (p = 3 ∧ 0 < l.length)) := fun h => by rw [hb.2 h] at hb1; cases hb1
    have hb2 : s ≠ 0 := fun h => hb' (.inl h)
    have hb3 : byeL l ↔ p = 2 := Classical.byContradiction fun h => hb' (.inr (.inl h))
    have hb4 : ¬ (p = 3 ∧ 0 < l.length) := fun h => hb' (.inr (.inr h))
    repeat (first | refine xA ?_ | refine xB ?_ | refine xC ?_ | refine xE ?_ | refine xD ?_ | refine xK ?_ | refine xS ?_ | refine xM ?_ | refine xT ?_ | refine xF ?_ | ((first | refine xR ?_ | refine xW ?_ | refine vq_id ?_); simp only [go_sem, Nat.reduceAdd, Nat.reduceLeDiff, Nat.reduceSub, Int.reduceToNat, reduceCtorEq]) | (refine ⟨by first | omega | (intros; simp_all; done) | (intros; simp_all; omega), ?_⟩; try simp only [go_sem, Nat.reduceAdd, Nat.reduceLeDiff, Nat.reduceSub, Int.reduceToNat, reduceCtorEq]))
    refine AP.cond rfl rfl (fun ht => ?_) (fun ht => ?_)
    · rw [ckE_no fun h => by
        have := h.2.2.2
        rw [if_neg hp'] at this
        simp only [Bool.and_eq_true, beq_iff_eq] at ht
        obtain ⟨k1, k2, k3⟩ := this.2.2.2.1 ht.1
        have ht2 := ht.2
        rw [k1, hh6.2 k2, k3] at ht2
        exact absurd ht2 (by decide)]
      repeat (first | refine xA ?_ | refine xB ?_ | refine xC ?_ | refine xE ?_ | refine xD ?_ | refine xK ?_ | refine xS ?_ | refine xM ?_ | refine xT ?_ | refine xF ?_ | ((first | refine xR ?_ | refine xW ?_ | refine vq_id ?_); simp only [go_sem, Nat.reduceAdd, Nat.reduceLeDiff, Nat.reduceSub, Int.reduceToNat, reduceCtorEq]) | (refine ⟨by first | omega | (intros; simp_all; done) | (intros; simp_all; omega), ?_⟩; try simp only [go_sem, Nat.reduceAdd, Nat.reduceLeDiff, Nat.reduceSub, Int.reduceToNat, reduceCtorEq]))
      refine AP.cond rfl rfl (fun ht' => ?_) (fun ht' => ?_)
      · repeat (first | refine xA ?_ | refine xB ?_ | refine xC ?_ | refine xE ?_ | refine xD ?_ | refine xK ?_ | refine xS ?_ | refine xM ?_ | refine xT ?_ | refine xF ?_ | ((first | refine xR ?_ | refine xW ?_ | refine vq_id ?_); simp only [go_sem, Nat.reduceAdd, Nat.reduceLeDiff, Nat.reduceSub, Int.reduceToNat, reduceCtorEq]) | (refine ⟨by first | omega | (intros; simp_all; done) | (intros; simp_all; omega), ?_⟩; try simp only [go_sem, Nat.reduceAdd, Nat.reduceLeDiff, Nat.reduceSub, Int.reduceToNat, reduceCtorEq]))
        exact AE.ret0 rfl ⟨rfl, trivial⟩ rfl ⟨rfl, rfl⟩
      · rw [ht] at ht'; cases ht'
    repeat (first | refine xA ?_ | refine xB ?_ | refine xC ?_ | refine xE ?_ | refine xD ?_ | refine xK ?_ | refine xS ?_ | refine xM ?_ | refine xT ?_ | refine xF ?_ | ((first | refine xR ?_ | refine xW ?_ | refine vq_id ?_); simp only [go_sem, Nat.reduceAdd, Nat.reduceLeDiff, Nat.reduceSub, Int.reduceToNat, reduceCtorEq]) | (refine ⟨by first | omega | (intros; simp_all; done) | (intros; simp_all; omega), ?_⟩; try simp only [go_sem, Nat.reduceAdd, Nat.reduceLeDiff, Nat.reduceSub, Int.reduceToNat, reduceCtorEq]))
    refine AP.cond rfl rfl (fun ht2 => ?_) (fun ht2 => ?_)
    · rw [ckE_no fun h => by
        have := h.2.2.2
        rw [if_neg hp'] at this
        simp only [Bool.and_eq_true, Bool.or_eq_true, decide_eq_true_eq] at ht2
        obtain ⟨k1, k2⟩ := this.2.2.2.2 ht2.1
        rcases ht2.2 with h | h
        · exact k1 (hh6.1 h)
        · omega]
      repeat (first | refine xA ?_ | refine xB ?_ | refine xC ?_ | refine xE ?_ | refine xD ?_ | refine xK ?_ | refine xS ?_ | refine xM ?_ | refine xT ?_ | refine xF ?_ | ((first | refine xR ?_ | refine xW ?_ | refine vq_id ?_); simp only [go_sem, Nat.reduceAdd, Nat.reduceLeDiff, Nat.reduceSub, Int.reduceToNat, reduceCtorEq]) | (refine ⟨by first | omega | (intros; simp_all; done) | (intros; simp_all; omega), ?_⟩; try simp only [go_sem, Nat.reduceAdd, Nat.reduceLeDiff, Nat.reduceSub, Int.reduceToNat, reduceCtorEq]))
      exact AE.ret0 rfl ⟨rfl, trivial⟩ rfl ⟨rfl, rfl⟩
    have hck : ckP p w s l := by
      refine ⟨hh1.1, hh1.2, hall, ?_⟩
      rw [if_neg hp']
      refine ⟨hb2, hb3, hb4, fun hw0 => ?_, fun hw0 => ?_⟩
      · subst hw0
        simp only [beq_self_eq_true, Bool.true_and, Bool.or_eq_false_iff, bne_eq_false_iff_eq, Bool.not_eq_false'] at ht
        exact ⟨ht.1.1, hh6.1 ht.1.2, ht.2⟩
      · simp only [hw0, decide_true, Bool.true_and, Bool.or_eq_false_iff, decide_eq_false_iff_not] at ht2
        exact ⟨fun h => by rw [hh6.2 h] at ht2; exact absurd ht2.1 (by decide), by omega⟩
    rw [ckE_yes hck]
    repeat (first | refine xA ?_ | refine xB ?_ | refine xC ?_ | refine xE ?_ | refine xD ?_ | refine xK ?_ | refine xS ?_ | refine xM ?_ | refine xT ?_ | refine xF ?_ | ((first | refine xR ?_ | refine xW ?_ | refine vq_id ?_); simp only [go_sem, Nat.reduceAdd, Nat.reduceLeDiff, Nat.reduceSub, Int.reduceToNat, reduceCtorEq]) | (refine ⟨by first | omega | (intros; simp_all; done) | (intros; simp_all; omega), ?_⟩; try simp only [go_sem, Nat.reduceAdd, Nat.reduceLeDiff, Nat.reduceSub, Int.reduceToNat, reduceCtorEq]))
    exact AE.ret0 rfl ⟨rfl, trivial⟩ rfl ⟨rfl, rfl⟩
end Go.Proofs.YtlpcdpjkdodmcaaGreatDoor
end

section
namespace Go.Proofs.YtlpcdpjkdodmcaaGreatDoor
open Go Go.AL Go.RowKit
set_option maxRecDepth 10000
set_option maxHeartbeats 4000000
def stepK (p k : Int) : Int := if k = 1 then 1 else if k = 6 then 2 else p
def chainE (p w s : Int) (l : List Rq) (k : Int) (t : List UInt8) : Int :=
  if decide (2 ≤ p) = true then 14 else if (p == 0 && k != 1 || p == 1 && (decide (k < 2) || decide (6 < k))) = true then 411 else if (p == 1 && (w == 0 || decide (w ≤ (l.length : Int)))) = true then 413 else if (s == 2147483647) = true then 8 else msgE k (s + 1) t
noncomputable def sendE (p w s : Int) (l : List Rq) (k : Int) (t : List UInt8) : Int := if okC p w s l = false then 13 else chainE p w s l k t
def newR (s k : Int) (t : List UInt8) : Rq := ⟨s + 1, k, t, false, false, 0, 0, []⟩
def retS (e p w s : Int) (l : List Rq) (k : Int) (t : List UInt8) : AV :=
  if e = 0 then .tup [.agg [Iv (stepK p k), Iv w, Iv (s + 1), .im (.sl 8 (rqR (l ++ [newR s k t])))], .agg [Iv k, Iv (s + 1), Sv t], Iv 0]
  else .tup [.agg [Iv 0, Iv 0, Iv 0, nilS], .agg [Iv 0, Iv 0, Sv []], Iv e]
noncomputable def sendV (p w s : Int) (l : List Rq) (k : Int) (t : List UInt8) : AV := retS (sendE p w s l k t) p w s l k t
theorem send_spec (p w s : Int) (l : List Rq) (hl : l.length ≤ 100000000) (k : Int) (t : List UInt8) : PFn Tryz.prog 53 [.agg [Iv p, Iv w, Iv s, .im (.sl 8 (rqR l))], Iv k, Sv t] (sendV p w s l k t) := by
  obtain ⟨s1, hs1⟩ : ∃ s1, IntKind.i64.wrap (s + 1) = s1 := ⟨_, rfl⟩
  have hs2 : okC p w s l = true → s1 = s + 1 := fun h => by
    have := ((okC_iff p w s l).1 h).1
    unfold headP at this
    rw [← hs1]
    exact wr (by omega)
  refine ACall.walk [0, 1, 2, 3, 6, 7, 8, 9, 10, 19, 23, 27, 48, 65, 70, 89, 90, 93] [3, 6, 7, 9] Tryz.func53 rfl Tryz.ntmps53 (by kernel_rfl) (by rfl) rfl fun W own I0 φ0 lay => ?_
  refine xPP rfl ?_
  refine AP.region rfl (by kernel_rfl) ?_; simp only [go_sem, Nat.reduceAdd, Nat.reduceLeDiff, Nat.reduceSub, Int.reduceToNat, reduceCtorEq, hs1]
  refine AQ.done ?_
  refine xEP rfl ?_
  refine AP.region rfl (by kernel_rfl) ?_; simp only [go_sem, Nat.reduceAdd, Nat.reduceLeDiff, Nat.reduceSub, Int.reduceToNat, reduceCtorEq, hs1]
  refine AQ.done ?_
  refine xEP rfl ?_
  refine AP.region rfl (by kernel_rfl) ?_; simp only [go_sem, Nat.reduceAdd, Nat.reduceLeDiff, Nat.reduceSub, Int.reduceToNat, reduceCtorEq, hs1]
  refine AQ.done ?_
  refine AE.seq ?_
  refine AP.seq rfl ?_
  refine AP.cut (α := Unit) (fun _ => [(1, Iv k), (2, Sv t), (3, .ob 0 0), (6, .ob 1 0), (7, .ob 2 0), (8, Iv 0), (9, .ob 3 0), (10, Iv (sendE p w s l k t))]) (fun _ => [(3, .var 26 [Iv k, Iv s1, Sv t]), (2, .var 26 [Iv 0, Iv 0, Sv []]), (1, .var 64 [Iv 0, Iv 0, Iv 0, nilS]), (0, .var 64 [Iv p, Iv w, Iv s, .im (.sl 8 (rqR l))])]) (fun _ => True) ?_ fun _ _ => ?_
  · repeat (first | refine xA ?_ | refine xB ?_ | refine xC ?_ | refine xE ?_ | refine xD ?_ | refine xK ?_ | refine xS ?_ | refine xM ?_ | refine xT ?_ | refine xF ?_ | ((first | refine xR ?_ | refine xW ?_ | refine vq_id ?_); simp only [go_sem, Nat.reduceAdd, Nat.reduceLeDiff, Nat.reduceSub, Int.reduceToNat, reduceCtorEq]) | (refine ⟨by first | omega | (intros; simp_all; done) | (intros; simp_all; omega), ?_⟩; try simp only [go_sem, Nat.reduceAdd, Nat.reduceLeDiff, Nat.reduceSub, Int.reduceToNat, reduceCtorEq]))
    refine AQ.fn (by kernel_rfl) rfl rfl rfl (valid_spec p w s l (by omega)) rfl ?_
    repeat (first | refine xA ?_ | refine xB ?_ | refine xC ?_ | refine xE ?_ | refine xD ?_ | refine xK ?_ | refine xS ?_ | refine xM ?_ | refine xT ?_ | refine xF ?_ | ((first | refine xR ?_ | refine xW ?_ | refine vq_id ?_); simp only [go_sem, Nat.reduceAdd, Nat.reduceLeDiff, Nat.reduceSub, Int.reduceToNat, reduceCtorEq]) | (refine ⟨by first | omega | (intros; simp_all; done) | (intros; simp_all; omega), ?_⟩; try simp only [go_sem, Nat.reduceAdd, Nat.reduceLeDiff, Nat.reduceSub, Int.reduceToNat, reduceCtorEq]))
    refine AP.cond rfl rfl (fun h1 => ?_) (fun h1 => ?_)
    · have e : sendE p w s l k t = 13 := by rw [sendE, if_pos (by simpa using h1)]
      rw [e]
      repeat (first | refine xA ?_ | refine xB ?_ | refine xC ?_ | refine xE ?_ | refine xD ?_ | refine xK ?_ | refine xS ?_ | refine xM ?_ | refine xT ?_ | refine xF ?_ | ((first | refine xR ?_ | refine xW ?_ | refine vq_id ?_); simp only [go_sem, Nat.reduceAdd, Nat.reduceLeDiff, Nat.reduceSub, Int.reduceToNat, reduceCtorEq]) | (refine ⟨by first | omega | (intros; simp_all; done) | (intros; simp_all; omega), ?_⟩; try simp only [go_sem, Nat.reduceAdd, Nat.reduceLeDiff, Nat.reduceSub, Int.reduceToNat, reduceCtorEq]))
      exact AE.meet () trivial (by repeat (first | exact Sub.nil _ | refine Sub.cons rfl ?_)) rfl
    have h1' : okC p w s l = true := by simpa using h1
    have hs3 := hs2 h1'
    rw [sendE, if_neg (by rw [h1']; decide), chainE]
    repeat (first | refine xA ?_ | refine xB ?_ | refine xC ?_ | refine xE ?_ | refine xD ?_ | refine xK ?_ | refine xS ?_ | refine xM ?_ | refine xT ?_ | refine xF ?_ | ((first | refine xR ?_ | refine xW ?_ | refine vq_id ?_); simp only [go_sem, Nat.reduceAdd, Nat.reduceLeDiff, Nat.reduceSub, Int.reduceToNat, reduceCtorEq]) | (refine ⟨by first | omega | (intros; simp_all; done) | (intros; simp_all; omega), ?_⟩; try simp only [go_sem, Nat.reduceAdd, Nat.reduceLeDiff, Nat.reduceSub, Int.reduceToNat, reduceCtorEq]))
    refine AP.cond rfl rfl (fun h2 => ?_) (fun h2 => ?_)
    · rw [if_pos h2]
      repeat (first | refine xA ?_ | refine xB ?_ | refine xC ?_ | refine xE ?_ | refine xD ?_ | refine xK ?_ | refine xS ?_ | refine xM ?_ | refine xT ?_ | refine xF ?_ | ((first | refine xR ?_ | refine xW ?_ | refine vq_id ?_); simp only [go_sem, Nat.reduceAdd, Nat.reduceLeDiff, Nat.reduceSub, Int.reduceToNat, reduceCtorEq]) | (refine ⟨by first | omega | (intros; simp_all; done) | (intros; simp_all; omega), ?_⟩; try simp only [go_sem, Nat.reduceAdd, Nat.reduceLeDiff, Nat.reduceSub, Int.reduceToNat, reduceCtorEq]))
      exact AE.meet () trivial (by repeat (first | exact Sub.nil _ | refine Sub.cons rfl ?_)) rfl
    rw [if_neg (by rw [h2]; decide)]
    repeat (first | refine xA ?_ | refine xB ?_ | refine xC ?_ | refine xE ?_ | refine xD ?_ | refine xK ?_ | refine xS ?_ | refine xM ?_ | refine xT ?_ | refine xF ?_ | ((first | refine xR ?_ | refine xW ?_ | refine vq_id ?_); simp only [go_sem, Nat.reduceAdd, Nat.reduceLeDiff, Nat.reduceSub, Int.reduceToNat, reduceCtorEq]) | (refine ⟨by first | omega | (intros; simp_all; done) | (intros; simp_all; omega), ?_⟩; try simp only [go_sem, Nat.reduceAdd, Nat.reduceLeDiff, Nat.reduceSub, Int.reduceToNat, reduceCtorEq]))
    refine AP.cond rfl rfl (fun h3 => ?_) (fun h3 => ?_)
    · rw [if_pos h3]
      repeat (first | refine xA ?_ | refine xB ?_ | refine xC ?_ | refine xE ?_ | refine xD ?_ | refine xK ?_ | refine xS ?_ | refine xM ?_ | refine xT ?_ | refine xF ?_ | ((first | refine xR ?_ | refine xW ?_ | refine vq_id ?_); simp only [go_sem, Nat.reduceAdd, Nat.reduceLeDiff, Nat.reduceSub, Int.reduceToNat, reduceCtorEq]) | (refine ⟨by first | omega | (intros; simp_all; done) | (intros; simp_all; omega), ?_⟩; try simp only [go_sem, Nat.reduceAdd, Nat.reduceLeDiff, Nat.reduceSub, Int.reduceToNat, reduceCtorEq]))
      exact AE.meet () trivial (by repeat (first | exact Sub.nil _ | refine Sub.cons rfl ?_)) rfl
    rw [if_neg (by rw [h3]; decide)]
    repeat (first | refine xA ?_ | refine xB ?_ | refine xC ?_ | refine xE ?_ | refine xD ?_ | refine xK ?_ | refine xS ?_ | refine xM ?_ | refine xT ?_ | refine xF ?_ | ((first | refine xR ?_ | refine xW ?_ | refine vq_id ?_); simp only [go_sem, Nat.reduceAdd, Nat.reduceLeDiff, Nat.reduceSub, Int.reduceToNat, reduceCtorEq, rqR_len]) | (refine ⟨by first | omega | (intros; simp_all; done) | (intros; simp_all; omega), ?_⟩; try simp only [go_sem, Nat.reduceAdd, Nat.reduceLeDiff, Nat.reduceSub, Int.reduceToNat, reduceCtorEq, rqR_len]))
    refine AP.cond rfl rfl (fun h4 => ?_) (fun h4 => ?_)
    · rw [if_pos h4]
      repeat (first | refine xA ?_ | refine xB ?_ | refine xC ?_ | refine xE ?_ | refine xD ?_ | refine xK ?_ | refine xS ?_ | refine xM ?_ | refine xT ?_ | refine xF ?_ | ((first | refine xR ?_ | refine xW ?_ | refine vq_id ?_); simp only [go_sem, Nat.reduceAdd, Nat.reduceLeDiff, Nat.reduceSub, Int.reduceToNat, reduceCtorEq]) | (refine ⟨by first | omega | (intros; simp_all; done) | (intros; simp_all; omega), ?_⟩; try simp only [go_sem, Nat.reduceAdd, Nat.reduceLeDiff, Nat.reduceSub, Int.reduceToNat, reduceCtorEq]))
      exact AE.meet () trivial (by repeat (first | exact Sub.nil _ | refine Sub.cons rfl ?_)) rfl
    rw [if_neg (by rw [h4]; decide)]
    repeat (first | refine xA ?_ | refine xB ?_ | refine xC ?_ | refine xE ?_ | refine xD ?_ | refine xK ?_ | refine xS ?_ | refine xM ?_ | refine xT ?_ | refine xF ?_ | ((first | refine xR ?_ | refine xW ?_ | refine vq_id ?_); simp only [go_sem, Nat.reduceAdd, Nat.reduceLeDiff, Nat.reduceSub, Int.reduceToNat, reduceCtorEq]) | (refine ⟨by first | omega | (intros; simp_all; done) | (intros; simp_all; omega), ?_⟩; try simp only [go_sem, Nat.reduceAdd, Nat.reduceLeDiff, Nat.reduceSub, Int.reduceToNat, reduceCtorEq]))
    refine AP.cond rfl rfl (fun h5 => ?_) (fun h5 => ?_)
    · rw [if_pos h5]
      repeat (first | refine xA ?_ | refine xB ?_ | refine xC ?_ | refine xE ?_ | refine xD ?_ | refine xK ?_ | refine xS ?_ | refine xM ?_ | refine xT ?_ | refine xF ?_ | ((first | refine xR ?_ | refine xW ?_ | refine vq_id ?_); simp only [go_sem, Nat.reduceAdd, Nat.reduceLeDiff, Nat.reduceSub, Int.reduceToNat, reduceCtorEq]) | (refine ⟨by first | omega | (intros; simp_all; done) | (intros; simp_all; omega), ?_⟩; try simp only [go_sem, Nat.reduceAdd, Nat.reduceLeDiff, Nat.reduceSub, Int.reduceToNat, reduceCtorEq]))
      exact AE.meet () trivial (by repeat (first | exact Sub.nil _ | refine Sub.cons rfl ?_)) rfl
    rw [if_neg (by rw [h5]; decide)]
    repeat (first | refine xA ?_ | refine xB ?_ | refine xC ?_ | refine xE ?_ | refine xD ?_ | refine xK ?_ | refine xS ?_ | refine xM ?_ | refine xT ?_ | refine xF ?_ | ((first | refine xR ?_ | refine xW ?_ | refine vq_id ?_); simp only [go_sem, Nat.reduceAdd, Nat.reduceLeDiff, Nat.reduceSub, Int.reduceToNat, reduceCtorEq]) | (refine ⟨by first | omega | (intros; simp_all; done) | (intros; simp_all; omega), ?_⟩; try simp only [go_sem, Nat.reduceAdd, Nat.reduceLeDiff, Nat.reduceSub, Int.reduceToNat, reduceCtorEq]))
    refine AQ.fn (by kernel_rfl) rfl rfl rfl (error_spec k s1 t) rfl ?_
    repeat (first | refine xA ?_ | refine xB ?_ | refine xC ?_ | refine xE ?_ | refine xD ?_ | refine xK ?_ | refine xS ?_ | refine xM ?_ | refine xT ?_ | refine xF ?_ | ((first | refine xR ?_ | refine xW ?_ | refine vq_id ?_); simp only [go_sem, Nat.reduceAdd, Nat.reduceLeDiff, Nat.reduceSub, Int.reduceToNat, reduceCtorEq]) | (refine ⟨by first | omega | (intros; simp_all; done) | (intros; simp_all; omega), ?_⟩; try simp only [go_sem, Nat.reduceAdd, Nat.reduceLeDiff, Nat.reduceSub, Int.reduceToNat, reduceCtorEq]))
    rw [← hs3]
    exact AE.meet () trivial (by repeat (first | exact Sub.nil _ | refine Sub.cons rfl ?_)) rfl
  repeat (first | refine xA ?_ | refine xB ?_ | refine xC ?_ | refine xE ?_ | refine xD ?_ | refine xK ?_ | refine xS ?_ | refine xM ?_ | refine xT ?_ | refine xF ?_ | ((first | refine xR ?_ | refine xW ?_ | refine vq_id ?_); simp only [go_sem, Nat.reduceAdd, Nat.reduceLeDiff, Nat.reduceSub, Int.reduceToNat, reduceCtorEq]) | (refine ⟨by first | omega | (intros; simp_all; done) | (intros; simp_all; omega), ?_⟩; try simp only [go_sem, Nat.reduceAdd, Nat.reduceLeDiff, Nat.reduceSub, Int.reduceToNat, reduceCtorEq]))
  refine AP.cond rfl rfl (fun he => ?_) (fun he => ?_)
  · rw [sendV, retS, if_neg (by simpa using he)]
    repeat (first | refine xA ?_ | refine xB ?_ | refine xC ?_ | refine xE ?_ | refine xD ?_ | refine xK ?_ | refine xS ?_ | refine xM ?_ | refine xT ?_ | refine xF ?_ | ((first | refine xR ?_ | refine xW ?_ | refine vq_id ?_); simp only [go_sem, Nat.reduceAdd, Nat.reduceLeDiff, Nat.reduceSub, Int.reduceToNat, reduceCtorEq]) | (refine ⟨by first | omega | (intros; simp_all; done) | (intros; simp_all; omega), ?_⟩; try simp only [go_sem, Nat.reduceAdd, Nat.reduceLeDiff, Nat.reduceSub, Int.reduceToNat, reduceCtorEq]))
    exact AE.retD [3, 2, 1, 0] rfl ⟨⟨rfl, Nat.le_of_ble_eq_true (by kernel_rfl)⟩, ⟨rfl, Nat.le_of_ble_eq_true (by kernel_rfl)⟩, rfl, trivial⟩ rfl ⟨rfl, rfl⟩
  have he' : sendE p w s l k t = 0 := by simpa using he
  rw [sendV, retS, if_pos he']
  have hok : okC p w s l = true := by
    rcases Bool.eq_false_or_eq_true (okC p w s l) with h | h
    · exact h
    · rw [sendE, if_pos h] at he'; cases he'
  have hs3 := hs2 hok
  subst hs3
  repeat (first | refine xA ?_ | refine xB ?_ | refine xC ?_ | refine xE ?_ | refine xD ?_ | refine xK ?_ | refine xS ?_ | refine xM ?_ | refine xT ?_ | refine xF ?_ | ((first | refine xR ?_ | refine xW ?_ | refine vq_id ?_); simp only [go_sem, Nat.reduceAdd, Nat.reduceLeDiff, Nat.reduceSub, Int.reduceToNat, reduceCtorEq, hs1]) | (refine ⟨by first | omega | (intros; simp_all; done) | (intros; simp_all; omega), ?_⟩; try simp only [go_sem, Nat.reduceAdd, Nat.reduceLeDiff, Nat.reduceSub, Int.reduceToNat, reduceCtorEq, hs1]))
  have hta : (rqR l ++ [rqC (newR s k t)]).take (l.length + 1) = rqR (l ++ [newR s k t]) := by
    rw [← rqR_snoc]; exact List.take_of_length_le (by rw [rqR_len, List.length_append]; exact Nat.le_refl _)
  refine AP.cut (α := Unit) (fun _ => [(1, Iv k), (2, Sv t), (3, .ob 0 0), (6, .ob 1 0), (7, .ob 2 0), (9, .ob 3 0)]) (fun _ => [(3, .var 26 [Iv k, Iv (s + 1), Sv t]), (2, .var 26 [Iv 0, Iv 0, Sv []]), (1, .var 64 [Iv 0, Iv 0, Iv 0, nilS]), (0, .var 64 [Iv p, Iv w, Iv (s + 1), .im (.sl 8 (rqR (l ++ [newR s k t])))])]) (fun _ => True) ?_ fun _ _ => ?_
  · skip
    refine AP.drawE 12 (Tree.node [] [0, 1, 3, 4, 5, 6, 7] [2, 8] [Tree.node [3, 4, 5, 6, 7] [] [8] [Tree.node [] [] [9] [Tree.node [] [10] [11] [Tree.node [] [] [] []]]], Tree.node [0, 1] [] [2] [Tree.node [] [] [9] [Tree.node [] [10] [11] [Tree.node [] [] [] []]]]]) (by kernel_rfl) rfl (by kernel_rfl) (by kernel_rfl) ?_
    refine vd_node ?_
    simp only [go_sem, Nat.reduceAdd, Nat.reduceLeDiff, Nat.reduceSub, Int.reduceToNat, reduceCtorEq]
    repeat' (first | with_reducible exact True.intro | with_reducible refine And.intro (by omega) ?_ | with_reducible refine And.intro ?_ ?_ | (refine AQ.nx rfl ?_; simp only [go_sem, Nat.reduceAdd, Nat.reduceLeDiff, Nat.reduceSub, Int.reduceToNat, reduceCtorEq]) | (refine AQ.callv (by kernel_rfl) rfl rfl rfl (cloneQ_spec l (by omega)) fun r' H' ⟨e1, e2⟩ => ?_; subst e1; subst e2; simp only [go_sem, Nat.reduceAdd, Nat.reduceLeDiff, Nat.reduceSub, Int.reduceToNat, reduceCtorEq]) | (refine AQ.append (hnb := rfl) (rows := rqR l) (es := 7) (by kernel_rfl) rfl rfl rfl (by rfl) Tryz.tk22 Tryz.sz82 (by show Option.map _ (zro Tryz.prog 82) = _; rw [Tryz.zr82]; rfl) Tryz.by82 (by rw [rqR_len]) (by rw [rqR_len]; simp only [List.length_cons, List.length_nil]; omega) (by rw [rqR_len]; simp only [List.length_cons, List.length_nil]; omega) ?_; simp only [go_sem, Nat.reduceAdd, Nat.reduceLeDiff, Nat.reduceSub, Int.reduceToNat, reduceCtorEq, rqR_len, List.length_cons, List.length_nil]) | refine AQ.done ?_ | (refine AQ.go (by kernel_rfl) ?_; simp only [go_sem, Nat.reduceAdd, Nat.reduceLeDiff, Nat.reduceSub, Int.reduceToNat, reduceCtorEq]; repeat (with_reducible refine And.intro (by omega) ?_); refine AQ.nx rfl ?_; simp only [go_sem, Nat.reduceAdd, Nat.reduceLeDiff, Nat.reduceSub, Int.reduceToNat, reduceCtorEq]))
    all_goals
      refine AE.freeze 4 (rows := rqR l ++ [rqC (newR s k t)]) rfl (by simp [go_sem, rqR_len]) (by simp [go_sem, rqR_len]) ?_
      simp only [go_sem, Nat.reduceAdd, Nat.reduceLeDiff, Nat.reduceSub, Int.reduceToNat, reduceCtorEq, List.drop_zero, hta]
      exact AE.meet () trivial (by repeat (first | exact Sub.nil _ | refine Sub.cons rfl ?_)) rfl
  repeat (first | refine xA ?_ | refine xB ?_ | refine xC ?_ | refine xE ?_ | refine xD ?_ | refine xK ?_ | refine xS ?_ | refine xM ?_ | refine xT ?_ | refine xF ?_ | ((first | refine xR ?_ | refine xW ?_ | refine vq_id ?_); simp only [go_sem, Nat.reduceAdd, Nat.reduceLeDiff, Nat.reduceSub, Int.reduceToNat, reduceCtorEq]) | (refine ⟨by first | omega | (intros; simp_all; done) | (intros; simp_all; omega), ?_⟩; try simp only [go_sem, Nat.reduceAdd, Nat.reduceLeDiff, Nat.reduceSub, Int.reduceToNat, reduceCtorEq]))
  refine AP.cond rfl rfl (fun hk1 => ?_) (fun hk1 => ?_)
  · have hk1' : k = 1 := by simpa using hk1
    rw [stepK, if_pos hk1']
    repeat (first | refine xA ?_ | refine xB ?_ | refine xC ?_ | refine xE ?_ | refine xD ?_ | refine xK ?_ | refine xS ?_ | refine xM ?_ | refine xT ?_ | refine xF ?_ | ((first | refine xR ?_ | refine xW ?_ | refine vq_id ?_); simp only [go_sem, Nat.reduceAdd, Nat.reduceLeDiff, Nat.reduceSub, Int.reduceToNat, reduceCtorEq]) | (refine ⟨by first | omega | (intros; simp_all; done) | (intros; simp_all; omega), ?_⟩; try simp only [go_sem, Nat.reduceAdd, Nat.reduceLeDiff, Nat.reduceSub, Int.reduceToNat, reduceCtorEq]))
    refine AP.drawE 5 (Tree.node [] [0, 1] [2] [Tree.node [1] [] [3] [Tree.node [] [4] [] []]]) (by kernel_rfl) rfl (by kernel_rfl) (by kernel_rfl) ?_
    refine vd_node ?_
    simp only [go_sem, Nat.reduceAdd, Nat.reduceLeDiff, Nat.reduceSub, Int.reduceToNat, reduceCtorEq]
    repeat' (first | with_reducible exact True.intro | with_reducible refine And.intro (by omega) ?_ | with_reducible refine And.intro ?_ ?_ | (refine AQ.nx rfl ?_; simp only [go_sem, Nat.reduceAdd, Nat.reduceLeDiff, Nat.reduceSub, Int.reduceToNat, reduceCtorEq]) | refine AQ.skip (by kernel_rfl) rfl ?_ | refine AQ.done ?_ | (refine AQ.go (by kernel_rfl) ?_; simp only [go_sem, Nat.reduceAdd, Nat.reduceLeDiff, Nat.reduceSub, Int.reduceToNat, reduceCtorEq]; repeat (with_reducible refine And.intro (by omega) ?_); refine AQ.nx rfl ?_; simp only [go_sem, Nat.reduceAdd, Nat.reduceLeDiff, Nat.reduceSub, Int.reduceToNat, reduceCtorEq]))
    all_goals
      repeat (first | refine xA ?_ | refine xB ?_ | refine xC ?_ | refine xE ?_ | refine xD ?_ | refine xK ?_ | refine xS ?_ | refine xM ?_ | refine xT ?_ | refine xF ?_ | ((first | refine xR ?_ | refine xW ?_ | refine vq_id ?_); simp only [go_sem, Nat.reduceAdd, Nat.reduceLeDiff, Nat.reduceSub, Int.reduceToNat, reduceCtorEq]) | (refine ⟨by first | omega | (intros; simp_all; done) | (intros; simp_all; omega), ?_⟩; try simp only [go_sem, Nat.reduceAdd, Nat.reduceLeDiff, Nat.reduceSub, Int.reduceToNat, reduceCtorEq]))
      exact AE.retD [3, 2, 1, 0] rfl ⟨⟨rfl, Nat.le_of_ble_eq_true (by kernel_rfl)⟩, ⟨rfl, Nat.le_of_ble_eq_true (by kernel_rfl)⟩, rfl, trivial⟩ rfl ⟨rfl, rfl⟩
  have hk1' : k ≠ 1 := by simpa using hk1
  rw [stepK, if_neg hk1']
  repeat (first | refine xA ?_ | refine xB ?_ | refine xC ?_ | refine xE ?_ | refine xD ?_ | refine xK ?_ | refine xS ?_ | refine xM ?_ | refine xT ?_ | refine xF ?_ | ((first | refine xR ?_ | refine xW ?_ | refine vq_id ?_); simp only [go_sem, Nat.reduceAdd, Nat.reduceLeDiff, Nat.reduceSub, Int.reduceToNat, reduceCtorEq]) | (refine ⟨by first | omega | (intros; simp_all; done) | (intros; simp_all; omega), ?_⟩; try simp only [go_sem, Nat.reduceAdd, Nat.reduceLeDiff, Nat.reduceSub, Int.reduceToNat, reduceCtorEq]))
  refine AP.cond rfl rfl (fun hk2 => ?_) (fun hk2 => ?_)
  · have hk2' : k = 6 := by simpa using hk2
    rw [if_pos hk2']
    repeat (first | refine xA ?_ | refine xB ?_ | refine xC ?_ | refine xE ?_ | refine xD ?_ | refine xK ?_ | refine xS ?_ | refine xM ?_ | refine xT ?_ | refine xF ?_ | ((first | refine xR ?_ | refine xW ?_ | refine vq_id ?_); simp only [go_sem, Nat.reduceAdd, Nat.reduceLeDiff, Nat.reduceSub, Int.reduceToNat, reduceCtorEq]) | (refine ⟨by first | omega | (intros; simp_all; done) | (intros; simp_all; omega), ?_⟩; try simp only [go_sem, Nat.reduceAdd, Nat.reduceLeDiff, Nat.reduceSub, Int.reduceToNat, reduceCtorEq]))
    refine AP.drawE 5 (Tree.node [] [0, 1] [2] [Tree.node [1] [] [3] [Tree.node [] [4] [] []]]) (by kernel_rfl) rfl (by kernel_rfl) (by kernel_rfl) ?_
    refine vd_node ?_
    simp only [go_sem, Nat.reduceAdd, Nat.reduceLeDiff, Nat.reduceSub, Int.reduceToNat, reduceCtorEq]
    repeat' (first | with_reducible exact True.intro | with_reducible refine And.intro (by omega) ?_ | with_reducible refine And.intro ?_ ?_ | (refine AQ.nx rfl ?_; simp only [go_sem, Nat.reduceAdd, Nat.reduceLeDiff, Nat.reduceSub, Int.reduceToNat, reduceCtorEq]) | refine AQ.skip (by kernel_rfl) rfl ?_ | refine AQ.done ?_ | (refine AQ.go (by kernel_rfl) ?_; simp only [go_sem, Nat.reduceAdd, Nat.reduceLeDiff, Nat.reduceSub, Int.reduceToNat, reduceCtorEq]; repeat (with_reducible refine And.intro (by omega) ?_); refine AQ.nx rfl ?_; simp only [go_sem, Nat.reduceAdd, Nat.reduceLeDiff, Nat.reduceSub, Int.reduceToNat, reduceCtorEq]))
    all_goals
      repeat (first | refine xA ?_ | refine xB ?_ | refine xC ?_ | refine xE ?_ | refine xD ?_ | refine xK ?_ | refine xS ?_ | refine xM ?_ | refine xT ?_ | refine xF ?_ | ((first | refine xR ?_ | refine xW ?_ | refine vq_id ?_); simp only [go_sem, Nat.reduceAdd, Nat.reduceLeDiff, Nat.reduceSub, Int.reduceToNat, reduceCtorEq]) | (refine ⟨by first | omega | (intros; simp_all; done) | (intros; simp_all; omega), ?_⟩; try simp only [go_sem, Nat.reduceAdd, Nat.reduceLeDiff, Nat.reduceSub, Int.reduceToNat, reduceCtorEq]))
      exact AE.retD [3, 2, 1, 0] rfl ⟨⟨rfl, Nat.le_of_ble_eq_true (by kernel_rfl)⟩, ⟨rfl, Nat.le_of_ble_eq_true (by kernel_rfl)⟩, rfl, trivial⟩ rfl ⟨rfl, rfl⟩
  have hk2' : k ≠ 6 := by simpa using hk2
  rw [if_neg hk2']
  repeat (first | refine xA ?_ | refine xB ?_ | refine xC ?_ | refine xE ?_ | refine xD ?_ | refine xK ?_ | refine xS ?_ | refine xM ?_ | refine xT ?_ | refine xF ?_ | ((first | refine xR ?_ | refine xW ?_ | refine vq_id ?_); simp only [go_sem, Nat.reduceAdd, Nat.reduceLeDiff, Nat.reduceSub, Int.reduceToNat, reduceCtorEq]) | (refine ⟨by first | omega | (intros; simp_all; done) | (intros; simp_all; omega), ?_⟩; try simp only [go_sem, Nat.reduceAdd, Nat.reduceLeDiff, Nat.reduceSub, Int.reduceToNat, reduceCtorEq]))
  refine AP.drawE 5 (Tree.node [] [0, 1] [2] [Tree.node [1] [] [3] [Tree.node [] [4] [] []]]) (by kernel_rfl) rfl (by kernel_rfl) (by kernel_rfl) ?_
  refine vd_node ?_
  simp only [go_sem, Nat.reduceAdd, Nat.reduceLeDiff, Nat.reduceSub, Int.reduceToNat, reduceCtorEq]
  repeat' (first | with_reducible exact True.intro | with_reducible refine And.intro (by omega) ?_ | with_reducible refine And.intro ?_ ?_ | (refine AQ.nx rfl ?_; simp only [go_sem, Nat.reduceAdd, Nat.reduceLeDiff, Nat.reduceSub, Int.reduceToNat, reduceCtorEq]) | refine AQ.skip (by kernel_rfl) rfl ?_ | refine AQ.done ?_ | (refine AQ.go (by kernel_rfl) ?_; simp only [go_sem, Nat.reduceAdd, Nat.reduceLeDiff, Nat.reduceSub, Int.reduceToNat, reduceCtorEq]; repeat (with_reducible refine And.intro (by omega) ?_); refine AQ.nx rfl ?_; simp only [go_sem, Nat.reduceAdd, Nat.reduceLeDiff, Nat.reduceSub, Int.reduceToNat, reduceCtorEq]))
  all_goals
    repeat (first | refine xA ?_ | refine xB ?_ | refine xC ?_ | refine xE ?_ | refine xD ?_ | refine xK ?_ | refine xS ?_ | refine xM ?_ | refine xT ?_ | refine xF ?_ | ((first | refine xR ?_ | refine xW ?_ | refine vq_id ?_); simp only [go_sem, Nat.reduceAdd, Nat.reduceLeDiff, Nat.reduceSub, Int.reduceToNat, reduceCtorEq]) | (refine ⟨by first | omega | (intros; simp_all; done) | (intros; simp_all; omega), ?_⟩; try simp only [go_sem, Nat.reduceAdd, Nat.reduceLeDiff, Nat.reduceSub, Int.reduceToNat, reduceCtorEq]))
    exact AE.retD [3, 2, 1, 0] rfl ⟨⟨rfl, Nat.le_of_ble_eq_true (by kernel_rfl)⟩, ⟨rfl, Nat.le_of_ble_eq_true (by kernel_rfl)⟩, rfl, trivial⟩ rfl ⟨rfl, rfl⟩
end Go.Proofs.YtlpcdpjkdodmcaaGreatDoor
end

section
namespace Go.Proofs.YtlpcdpjkdodmcaaGreatDoor
open Go Go.AL Go.RowKit
set_option maxRecDepth 10000
set_option maxHeartbeats 4000000
theorem welcome_facts {n : Int} {t : List UInt8} (h : msgE 7 n t = 0) : t.length ≤ 10 ∧ (∀ c ∈ t, isDig c = true) ∧ digs t ≤ 16 ∧ 1 ≤ digs t ∧ atoiV t = ((digs t : Int), true) := by
  have hb : numR 1 16 t = true := by
    unfold msgE at h
    split at h
    · cases h
    · split at h
      · cases h
      · split at h
        · cases h
        · split at h
          · rename_i hb
            simpa [bodyB] using hb
          · cases h
  unfold numR badHead at hb
  simp only [Bool.and_eq_true, Bool.not_eq_true', Bool.or_eq_false_iff, decide_eq_false_iff_not, decide_eq_true_eq, List.all_eq_true] at hb
  obtain ⟨⟨⟨⟨⟨h1, h2⟩, _⟩, h3⟩, h4⟩, h5⟩ := hb
  refine ⟨by omega, h3, by omega, by omega, atoi_digs t h3 (fun e => h1 (by rw [e]; rfl)) (by omega)⟩
def failV (e : Int) : AV := .tup [.agg [Iv 0, Iv 0, Iv 0, nilS], .agg [Iv 0, Iv 0, Sv [], Bv false, Bv false, Iv 0, Iv 0, Sv []], Iv e]
theorem fail_spec (e : Int) : PFn Tryz.prog 88 [Iv e] (.tup [.agg [Iv 0, Iv 0, Iv 0, nilS], .agg [Iv 0, Iv 0, Sv [], Bv false, Bv false, Iv 0, Iv 0, Sv []], Iv e]) := by
  refine ACall.walk [0, 2, 3, 4] [2, 3] Tryz.func88 rfl Tryz.ntmps88 (by kernel_rfl) (by rfl) rfl fun W own I0 φ0 lay => ?_
  repeat (first | refine xA ?_ | refine xB ?_ | refine xC ?_ | refine xE ?_ | refine xD ?_ | refine xK ?_ | refine xS ?_ | refine xM ?_ | refine xT ?_ | refine xF ?_ | ((first | refine xR ?_ | refine xW ?_ | refine vq_id ?_); simp only [go_sem, Nat.reduceAdd, Nat.reduceLeDiff, Nat.reduceSub, Int.reduceToNat, reduceCtorEq]) | (refine ⟨by first | omega | (intros; simp_all; done) | (intros; simp_all; omega), ?_⟩; try simp only [go_sem, Nat.reduceAdd, Nat.reduceLeDiff, Nat.reduceSub, Int.reduceToNat, reduceCtorEq]))
  exact AE.retD [1, 0] rfl ⟨⟨rfl, Nat.le_of_ble_eq_true (by kernel_rfl)⟩, ⟨rfl, Nat.le_of_ble_eq_true (by kernel_rfl)⟩, rfl, trivial⟩ rfl ⟨rfl, rfl⟩
def hdQ (l : List Rq) : Rq := l.headD ⟨0, 0, [], false, false, 0, 0, []⟩
noncomputable def recE (p w s : Int) (l : List Rq) (K N : Int) (t : List UInt8) : Int :=
  if okC p w s l = false then 13 else if msgE K N t ≠ 0 then msgE K N t else if l.length = 0 then 412 else if ((hdQ l).n != N) = true then 412 else if ((hdQ l).k == 1 && K != 7 || (hdQ l).k != 1 && K != 8 && K != 9) = true then 411 else 0
def pStep (p k : Int) : Int := if k = 1 then p else if k = 6 then 3 else p
def wStep (w k : Int) (t : List UInt8) : Int := if k = 1 then (digs t : Int) else w
def recR (e p w s : Int) (l : List Rq) (t : List UInt8) : AV :=
  if e ≠ 0 then failV e else .tup [.agg [Iv (pStep p (hdQ l).k), Iv (wStep w (hdQ l).k t), Iv s, .im (.sl 8 (rqR l.tail))], .agg [Iv (hdQ l).n, Iv (hdQ l).k, Sv (hdQ l).b, Bv (hdQ l).c, Bv (hdQ l).a, Iv (hdQ l).ak, Iv (hdQ l).an, Sv (hdQ l).ab], Iv 0]
noncomputable def recV (p w s : Int) (l : List Rq) (K N : Int) (t : List UInt8) : AV := recR (recE p w s l K N t) p w s l t
theorem receive_spec (p w s : Int) (l : List Rq) (hl : l.length ≤ 100000000) (K N : Int) (t : List UInt8) : PFn Tryz.prog 73 [.agg [Iv p, Iv w, Iv s, .im (.sl 8 (rqR l))], .agg [Iv K, Iv N, Sv t]] (recV p w s l K N t) := by
  refine ACall.walk [0, 1, 2, 3, 4, 5, 6, 7, 8, 9, 12, 21, 41, 73, 85, 86, 96] [2, 4, 5, 9] Tryz.func73 rfl Tryz.ntmps73 (by kernel_rfl) (by rfl) rfl fun W own I0 φ0 lay => ?_
  repeat (first | refine xA ?_ | refine xB ?_ | refine xC ?_ | refine xE ?_ | refine xD ?_ | refine xK ?_ | refine xS ?_ | refine xM ?_ | refine xT ?_ | refine xF ?_ | ((first | refine xR ?_ | refine xW ?_ | refine vq_id ?_); simp only [go_sem, Nat.reduceAdd, Nat.reduceLeDiff, Nat.reduceSub, Int.reduceToNat, reduceCtorEq]) | (refine ⟨by first | omega | (intros; simp_all; done) | (intros; simp_all; omega), ?_⟩; try simp only [go_sem, Nat.reduceAdd, Nat.reduceLeDiff, Nat.reduceSub, Int.reduceToNat, reduceCtorEq]))
  refine AQ.fn (by kernel_rfl) rfl rfl rfl (valid_spec p w s l (by omega)) rfl ?_
  repeat (first | refine xA ?_ | refine xB ?_ | refine xC ?_ | refine xE ?_ | refine xD ?_ | refine xK ?_ | refine xS ?_ | refine xM ?_ | refine xT ?_ | refine xF ?_ | ((first | refine xR ?_ | refine xW ?_ | refine vq_id ?_); simp only [go_sem, Nat.reduceAdd, Nat.reduceLeDiff, Nat.reduceSub, Int.reduceToNat, reduceCtorEq]) | (refine ⟨by first | omega | (intros; simp_all; done) | (intros; simp_all; omega), ?_⟩; try simp only [go_sem, Nat.reduceAdd, Nat.reduceLeDiff, Nat.reduceSub, Int.reduceToNat, reduceCtorEq]))
  unfold recV recE
  refine AP.cond rfl rfl (fun h1 => ?_) (fun h1 => ?_)
  · have h1' : okC p w s l = false := by simpa using h1
    rw [if_pos h1', recR, if_pos (by decide)]
    repeat (first | refine xA ?_ | refine xB ?_ | refine xC ?_ | refine xE ?_ | refine xD ?_ | refine xK ?_ | refine xS ?_ | refine xM ?_ | refine xT ?_ | refine xF ?_ | ((first | refine xR ?_ | refine xW ?_ | refine vq_id ?_); simp only [go_sem, Nat.reduceAdd, Nat.reduceLeDiff, Nat.reduceSub, Int.reduceToNat, reduceCtorEq]) | (refine ⟨by first | omega | (intros; simp_all; done) | (intros; simp_all; omega), ?_⟩; try simp only [go_sem, Nat.reduceAdd, Nat.reduceLeDiff, Nat.reduceSub, Int.reduceToNat, reduceCtorEq]))
    refine AQ.fnL ([Iv 13]) (by kernel_rfl) rfl rfl rfl (by ((try simp only [List.nil_append, List.append_nil, List.cons_append, List.map_cons, List.map_nil, AV.st, constAV]); repeat (first | with_reducible exact LentC.nil | with_reducible exact LentAs.nil | with_reducible refine LentC.cons ?_ ?_ | with_reducible refine LentAs.cons ?_ ?_ | with_reducible exact Lent.im _ | with_reducible exact LentA.im _ | with_reducible refine LentA.of ?_ | with_reducible refine LentA.agg ?_ | ((with_reducible apply Lent.osw); rfl; simp only [blkR_len, wrR_len, byteR_len, List.length_append, List.length_cons, List.length_nil]) | ((with_reducible apply Lent.ob0); rfl)))) (fail_spec 13) rfl (fun _ => rfl) ?_
    repeat (first | refine xA ?_ | refine xB ?_ | refine xC ?_ | refine xE ?_ | refine xD ?_ | refine xK ?_ | refine xS ?_ | refine xM ?_ | refine xT ?_ | refine xF ?_ | ((first | refine xR ?_ | refine xW ?_ | refine vq_id ?_); simp only [go_sem, Nat.reduceAdd, Nat.reduceLeDiff, Nat.reduceSub, Int.reduceToNat, reduceCtorEq]) | (refine ⟨by first | omega | (intros; simp_all; done) | (intros; simp_all; omega), ?_⟩; try simp only [go_sem, Nat.reduceAdd, Nat.reduceLeDiff, Nat.reduceSub, Int.reduceToNat, reduceCtorEq]))
    exact AE.retD [2, 1, 0] rfl ⟨⟨rfl, Nat.le_of_ble_eq_true (by kernel_rfl)⟩, ⟨rfl, Nat.le_of_ble_eq_true (by kernel_rfl)⟩, rfl, trivial⟩ rfl ⟨rfl, rfl⟩
  have h1' : okC p w s l = true := by simpa using h1
  rw [if_neg (by rw [h1']; decide)]
  repeat (first | refine xA ?_ | refine xB ?_ | refine xC ?_ | refine xE ?_ | refine xD ?_ | refine xK ?_ | refine xS ?_ | refine xM ?_ | refine xT ?_ | refine xF ?_ | ((first | refine xR ?_ | refine xW ?_ | refine vq_id ?_); simp only [go_sem, Nat.reduceAdd, Nat.reduceLeDiff, Nat.reduceSub, Int.reduceToNat, reduceCtorEq]) | (refine ⟨by first | omega | (intros; simp_all; done) | (intros; simp_all; omega), ?_⟩; try simp only [go_sem, Nat.reduceAdd, Nat.reduceLeDiff, Nat.reduceSub, Int.reduceToNat, reduceCtorEq]))
  refine AQ.fn (by kernel_rfl) rfl rfl rfl (error_spec K N t) rfl ?_
  repeat (first | refine xA ?_ | refine xB ?_ | refine xC ?_ | refine xE ?_ | refine xD ?_ | refine xK ?_ | refine xS ?_ | refine xM ?_ | refine xT ?_ | refine xF ?_ | ((first | refine xR ?_ | refine xW ?_ | refine vq_id ?_); simp only [go_sem, Nat.reduceAdd, Nat.reduceLeDiff, Nat.reduceSub, Int.reduceToNat, reduceCtorEq]) | (refine ⟨by first | omega | (intros; simp_all; done) | (intros; simp_all; omega), ?_⟩; try simp only [go_sem, Nat.reduceAdd, Nat.reduceLeDiff, Nat.reduceSub, Int.reduceToNat, reduceCtorEq]))
  refine AP.cond rfl rfl (fun h2 => ?_) (fun h2 => ?_)
  · have h2' : msgE K N t ≠ 0 := by simpa using h2
    rw [if_pos h2', recR, if_pos h2']
    repeat (first | refine xA ?_ | refine xB ?_ | refine xC ?_ | refine xE ?_ | refine xD ?_ | refine xK ?_ | refine xS ?_ | refine xM ?_ | refine xT ?_ | refine xF ?_ | ((first | refine xR ?_ | refine xW ?_ | refine vq_id ?_); simp only [go_sem, Nat.reduceAdd, Nat.reduceLeDiff, Nat.reduceSub, Int.reduceToNat, reduceCtorEq]) | (refine ⟨by first | omega | (intros; simp_all; done) | (intros; simp_all; omega), ?_⟩; try simp only [go_sem, Nat.reduceAdd, Nat.reduceLeDiff, Nat.reduceSub, Int.reduceToNat, reduceCtorEq]))
    refine AQ.fnL ([Iv (msgE K N t)]) (by kernel_rfl) rfl rfl rfl (by ((try simp only [List.nil_append, List.append_nil, List.cons_append, List.map_cons, List.map_nil, AV.st, constAV]); repeat (first | with_reducible exact LentC.nil | with_reducible exact LentAs.nil | with_reducible refine LentC.cons ?_ ?_ | with_reducible refine LentAs.cons ?_ ?_ | with_reducible exact Lent.im _ | with_reducible exact LentA.im _ | with_reducible refine LentA.of ?_ | with_reducible refine LentA.agg ?_ | ((with_reducible apply Lent.osw); rfl; simp only [blkR_len, wrR_len, byteR_len, List.length_append, List.length_cons, List.length_nil]) | ((with_reducible apply Lent.ob0); rfl)))) (fail_spec (msgE K N t)) rfl (fun _ => rfl) ?_
    repeat (first | refine xA ?_ | refine xB ?_ | refine xC ?_ | refine xE ?_ | refine xD ?_ | refine xK ?_ | refine xS ?_ | refine xM ?_ | refine xT ?_ | refine xF ?_ | ((first | refine xR ?_ | refine xW ?_ | refine vq_id ?_); simp only [go_sem, Nat.reduceAdd, Nat.reduceLeDiff, Nat.reduceSub, Int.reduceToNat, reduceCtorEq]) | (refine ⟨by first | omega | (intros; simp_all; done) | (intros; simp_all; omega), ?_⟩; try simp only [go_sem, Nat.reduceAdd, Nat.reduceLeDiff, Nat.reduceSub, Int.reduceToNat, reduceCtorEq]))
    exact AE.retD [2, 1, 0] rfl ⟨⟨rfl, Nat.le_of_ble_eq_true (by kernel_rfl)⟩, ⟨rfl, Nat.le_of_ble_eq_true (by kernel_rfl)⟩, rfl, trivial⟩ rfl ⟨rfl, rfl⟩
  have h2' : msgE K N t = 0 := by simpa using h2
  rw [if_neg (by rw [h2']; decide)]
  cases l with
  | nil =>
    rw [if_pos (by rfl), recR, if_pos (by decide)]
    repeat (first | refine xA ?_ | refine xB ?_ | refine xC ?_ | refine xE ?_ | refine xD ?_ | refine xK ?_ | refine xS ?_ | refine xM ?_ | refine xT ?_ | refine xF ?_ | ((first | refine xR ?_ | refine xW ?_ | refine vq_id ?_); simp only [go_sem, Nat.reduceAdd, Nat.reduceLeDiff, Nat.reduceSub, Int.reduceToNat, reduceCtorEq, rqR_len]) | (refine ⟨by first | omega | (intros; simp_all; done) | (intros; simp_all; omega), ?_⟩; try simp only [go_sem, Nat.reduceAdd, Nat.reduceLeDiff, Nat.reduceSub, Int.reduceToNat, reduceCtorEq, rqR_len]))
    refine AQ.fnL ([Iv 412]) (by kernel_rfl) rfl rfl rfl (by ((try simp only [List.nil_append, List.append_nil, List.cons_append, List.map_cons, List.map_nil, AV.st, constAV]); repeat (first | with_reducible exact LentC.nil | with_reducible exact LentAs.nil | with_reducible refine LentC.cons ?_ ?_ | with_reducible refine LentAs.cons ?_ ?_ | with_reducible exact Lent.im _ | with_reducible exact LentA.im _ | with_reducible refine LentA.of ?_ | with_reducible refine LentA.agg ?_ | ((with_reducible apply Lent.osw); rfl; simp only [blkR_len, wrR_len, byteR_len, List.length_append, List.length_cons, List.length_nil]) | ((with_reducible apply Lent.ob0); rfl)))) (fail_spec 412) rfl (fun _ => rfl) ?_
    repeat (first | refine xA ?_ | refine xB ?_ | refine xC ?_ | refine xE ?_ | refine xD ?_ | refine xK ?_ | refine xS ?_ | refine xM ?_ | refine xT ?_ | refine xF ?_ | ((first | refine xR ?_ | refine xW ?_ | refine vq_id ?_); simp only [go_sem, Nat.reduceAdd, Nat.reduceLeDiff, Nat.reduceSub, Int.reduceToNat, reduceCtorEq]) | (refine ⟨by first | omega | (intros; simp_all; done) | (intros; simp_all; omega), ?_⟩; try simp only [go_sem, Nat.reduceAdd, Nat.reduceLeDiff, Nat.reduceSub, Int.reduceToNat, reduceCtorEq]))
    exact AE.retD [2, 1, 0] rfl ⟨⟨rfl, Nat.le_of_ble_eq_true (by kernel_rfl)⟩, ⟨rfl, Nat.le_of_ble_eq_true (by kernel_rfl)⟩, rfl, trivial⟩ rfl ⟨rfl, rfl⟩
  | cons q tl =>
    simp only [List.length_cons] at hl
    have hq : hdQ (q :: tl) = q := rfl
    have ht : (q :: tl).tail = tl := rfl
    rw [if_neg (by simp), hq]
    have hg0 : (rqR (q :: tl)).getD 0 [] = [Ii q.n, Ii q.k, Si q.b, .v (.bool q.c), .v (.bool q.a), Ii q.ak, Ii q.an, Si q.ab] := rfl
    have hd1 : (rqR (q :: tl)).drop 1 = rqR tl := rfl
    have hz : (((tl.length + 1 : Nat) : Int) == 0) = false := by rw [beq_eq_false_iff_ne]; omega
    repeat (first | refine xA ?_ | refine xB ?_ | refine xC ?_ | refine xE ?_ | refine xD ?_ | refine xK ?_ | refine xS ?_ | refine xM ?_ | refine xT ?_ | refine xF ?_ | ((first | refine xR ?_ | refine xW ?_ | refine vq_id ?_); simp only [go_sem, Nat.reduceAdd, Nat.reduceLeDiff, Nat.reduceSub, Int.reduceToNat, reduceCtorEq, rqR_len, List.length_cons, hz, hg0, List.map_cons, List.map_nil, List.length_nil, List.take_succ_cons, List.take_zero, List.drop_succ_cons, List.drop_zero, Bool.false_or, Bool.not_false]) | (refine ⟨by first | omega | (intros; simp_all; done) | (intros; simp_all; omega), ?_⟩; try simp only [go_sem, Nat.reduceAdd, Nat.reduceLeDiff, Nat.reduceSub, Int.reduceToNat, reduceCtorEq, rqR_len, List.length_cons, hz, hg0, List.map_cons, List.map_nil, List.length_nil, List.take_succ_cons, List.take_zero, List.drop_succ_cons, List.drop_zero, Bool.false_or, Bool.not_false]))
    refine AP.cond rfl rfl (fun h3 => ?_) (fun h3 => ?_)
    · rw [if_pos h3, recR, if_pos (by decide)]
      repeat (first | refine xA ?_ | refine xB ?_ | refine xC ?_ | refine xE ?_ | refine xD ?_ | refine xK ?_ | refine xS ?_ | refine xM ?_ | refine xT ?_ | refine xF ?_ | ((first | refine xR ?_ | refine xW ?_ | refine vq_id ?_); simp only [go_sem, Nat.reduceAdd, Nat.reduceLeDiff, Nat.reduceSub, Int.reduceToNat, reduceCtorEq]) | (refine ⟨by first | omega | (intros; simp_all; done) | (intros; simp_all; omega), ?_⟩; try simp only [go_sem, Nat.reduceAdd, Nat.reduceLeDiff, Nat.reduceSub, Int.reduceToNat, reduceCtorEq]))
      refine AQ.fnL ([Iv 412]) (by kernel_rfl) rfl rfl rfl (by ((try simp only [List.nil_append, List.append_nil, List.cons_append, List.map_cons, List.map_nil, AV.st, constAV]); repeat (first | with_reducible exact LentC.nil | with_reducible exact LentAs.nil | with_reducible refine LentC.cons ?_ ?_ | with_reducible refine LentAs.cons ?_ ?_ | with_reducible exact Lent.im _ | with_reducible exact LentA.im _ | with_reducible refine LentA.of ?_ | with_reducible refine LentA.agg ?_ | ((with_reducible apply Lent.osw); rfl; simp only [blkR_len, wrR_len, byteR_len, List.length_append, List.length_cons, List.length_nil]) | ((with_reducible apply Lent.ob0); rfl)))) (fail_spec 412) rfl (fun _ => rfl) ?_
      repeat (first | refine xA ?_ | refine xB ?_ | refine xC ?_ | refine xE ?_ | refine xD ?_ | refine xK ?_ | refine xS ?_ | refine xM ?_ | refine xT ?_ | refine xF ?_ | ((first | refine xR ?_ | refine xW ?_ | refine vq_id ?_); simp only [go_sem, Nat.reduceAdd, Nat.reduceLeDiff, Nat.reduceSub, Int.reduceToNat, reduceCtorEq]) | (refine ⟨by first | omega | (intros; simp_all; done) | (intros; simp_all; omega), ?_⟩; try simp only [go_sem, Nat.reduceAdd, Nat.reduceLeDiff, Nat.reduceSub, Int.reduceToNat, reduceCtorEq]))
      exact AE.retD [2, 1, 0] rfl ⟨⟨rfl, Nat.le_of_ble_eq_true (by kernel_rfl)⟩, ⟨rfl, Nat.le_of_ble_eq_true (by kernel_rfl)⟩, rfl, trivial⟩ rfl ⟨rfl, rfl⟩
    rw [if_neg (by rw [h3]; decide)]
    repeat (first | refine xA ?_ | refine xB ?_ | refine xC ?_ | refine xE ?_ | refine xD ?_ | refine xK ?_ | refine xS ?_ | refine xM ?_ | refine xT ?_ | refine xF ?_ | ((first | refine xR ?_ | refine xW ?_ | refine vq_id ?_); simp only [go_sem, Nat.reduceAdd, Nat.reduceLeDiff, Nat.reduceSub, Int.reduceToNat, reduceCtorEq, rqR_len, List.length_cons, hz, hg0, List.map_cons, List.map_nil, List.length_nil, List.take_succ_cons, List.take_zero, List.drop_succ_cons, List.drop_zero]) | (refine ⟨by first | omega | (intros; simp_all; done) | (intros; simp_all; omega), ?_⟩; try simp only [go_sem, Nat.reduceAdd, Nat.reduceLeDiff, Nat.reduceSub, Int.reduceToNat, reduceCtorEq, rqR_len, List.length_cons, hz, hg0, List.map_cons, List.map_nil, List.length_nil, List.take_succ_cons, List.take_zero, List.drop_succ_cons, List.drop_zero]))
    refine AP.cond rfl rfl (fun h4 => ?_) (fun h4 => ?_)
    · rw [if_pos h4, recR, if_pos (by decide)]
      repeat (first | refine xA ?_ | refine xB ?_ | refine xC ?_ | refine xE ?_ | refine xD ?_ | refine xK ?_ | refine xS ?_ | refine xM ?_ | refine xT ?_ | refine xF ?_ | ((first | refine xR ?_ | refine xW ?_ | refine vq_id ?_); simp only [go_sem, Nat.reduceAdd, Nat.reduceLeDiff, Nat.reduceSub, Int.reduceToNat, reduceCtorEq]) | (refine ⟨by first | omega | (intros; simp_all; done) | (intros; simp_all; omega), ?_⟩; try simp only [go_sem, Nat.reduceAdd, Nat.reduceLeDiff, Nat.reduceSub, Int.reduceToNat, reduceCtorEq]))
      refine AQ.fnL ([Iv 411]) (by kernel_rfl) rfl rfl rfl (by ((try simp only [List.nil_append, List.append_nil, List.cons_append, List.map_cons, List.map_nil, AV.st, constAV]); repeat (first | with_reducible exact LentC.nil | with_reducible exact LentAs.nil | with_reducible refine LentC.cons ?_ ?_ | with_reducible refine LentAs.cons ?_ ?_ | with_reducible exact Lent.im _ | with_reducible exact LentA.im _ | with_reducible refine LentA.of ?_ | with_reducible refine LentA.agg ?_ | ((with_reducible apply Lent.osw); rfl; simp only [blkR_len, wrR_len, byteR_len, List.length_append, List.length_cons, List.length_nil]) | ((with_reducible apply Lent.ob0); rfl)))) (fail_spec 411) rfl (fun _ => rfl) ?_
      repeat (first | refine xA ?_ | refine xB ?_ | refine xC ?_ | refine xE ?_ | refine xD ?_ | refine xK ?_ | refine xS ?_ | refine xM ?_ | refine xT ?_ | refine xF ?_ | ((first | refine xR ?_ | refine xW ?_ | refine vq_id ?_); simp only [go_sem, Nat.reduceAdd, Nat.reduceLeDiff, Nat.reduceSub, Int.reduceToNat, reduceCtorEq]) | (refine ⟨by first | omega | (intros; simp_all; done) | (intros; simp_all; omega), ?_⟩; try simp only [go_sem, Nat.reduceAdd, Nat.reduceLeDiff, Nat.reduceSub, Int.reduceToNat, reduceCtorEq]))
      exact AE.retD [3, 2, 1, 0] rfl ⟨⟨rfl, Nat.le_of_ble_eq_true (by kernel_rfl)⟩, ⟨rfl, Nat.le_of_ble_eq_true (by kernel_rfl)⟩, rfl, trivial⟩ rfl ⟨rfl, rfl⟩
    rw [if_neg (by rw [h4]; decide), recR, if_neg (by decide), hq, ht]
    repeat (first | refine xA ?_ | refine xB ?_ | refine xC ?_ | refine xE ?_ | refine xD ?_ | refine xK ?_ | refine xS ?_ | refine xM ?_ | refine xT ?_ | refine xF ?_ | ((first | refine xR ?_ | refine xW ?_ | refine vq_id ?_); simp only [go_sem, Nat.reduceAdd, Nat.reduceLeDiff, Nat.reduceSub, Int.reduceToNat, reduceCtorEq, rqR_len, hd1, List.length_cons, hz, hg0, List.map_cons, List.map_nil, List.length_nil, List.take_succ_cons, List.take_zero, List.drop_succ_cons, List.drop_zero]) | (refine ⟨by first | omega | (intros; simp_all; done) | (intros; simp_all; omega), ?_⟩; try simp only [go_sem, Nat.reduceAdd, Nat.reduceLeDiff, Nat.reduceSub, Int.reduceToNat, reduceCtorEq, rqR_len, hd1, List.length_cons, hz, hg0, List.map_cons, List.map_nil, List.length_nil, List.take_succ_cons, List.take_zero, List.drop_succ_cons, List.drop_zero]))
    refine AQ.callv (by kernel_rfl) rfl rfl rfl (cloneQ_spec tl (by omega)) fun r' H' ⟨e1, e2⟩ => ?_
    subst e1
    subst e2
    simp only [go_sem, Nat.reduceAdd, Nat.reduceLeDiff, Nat.reduceSub, Int.reduceToNat, reduceCtorEq]
    refine AQ.done ?_
    have hta : (rqR tl).take tl.length = rqR tl := List.take_of_length_le (by rw [rqR_len]; exact Nat.le_refl _)
    refine AE.freeze 4 (rows := rqR tl) rfl (by simp [go_sem, rqR_len]) (by simp [go_sem, rqR_len]) ?_
    simp only [go_sem, Nat.reduceAdd, Nat.reduceLeDiff, Nat.reduceSub, Int.reduceToNat, reduceCtorEq, List.drop_zero, hta]
    repeat (first | refine xA ?_ | refine xB ?_ | refine xC ?_ | refine xE ?_ | refine xD ?_ | refine xK ?_ | refine xS ?_ | refine xM ?_ | refine xT ?_ | refine xF ?_ | ((first | refine xR ?_ | refine xW ?_ | refine vq_id ?_); simp only [go_sem, Nat.reduceAdd, Nat.reduceLeDiff, Nat.reduceSub, Int.reduceToNat, reduceCtorEq]) | (refine ⟨by first | omega | (intros; simp_all; done) | (intros; simp_all; omega), ?_⟩; try simp only [go_sem, Nat.reduceAdd, Nat.reduceLeDiff, Nat.reduceSub, Int.reduceToNat, reduceCtorEq]))
    refine AP.cond rfl rfl (fun hk1 => ?_) (fun hk1 => ?_)
    · have hk1' : q.k = 1 := by simpa using hk1
      have hK : K = 7 := by
        rw [hk1'] at h4
        simpa using h4
      subst hK
      obtain ⟨w1, w2, w3, w4, w5⟩ := welcome_facts h2'
      have hn := number_spec 1 16 t (by omega)
      rw [w5] at hn
      rw [pStep, if_pos hk1', wStep, if_pos hk1']
      repeat (first | refine xA ?_ | refine xB ?_ | refine xC ?_ | refine xE ?_ | refine xD ?_ | refine xK ?_ | refine xS ?_ | refine xM ?_ | refine xT ?_ | refine xF ?_ | ((first | refine xR ?_ | refine xW ?_ | refine vq_id ?_); simp only [go_sem, Nat.reduceAdd, Nat.reduceLeDiff, Nat.reduceSub, Int.reduceToNat, reduceCtorEq]) | (refine ⟨by first | omega | (intros; simp_all; done) | (intros; simp_all; omega), ?_⟩; try simp only [go_sem, Nat.reduceAdd, Nat.reduceLeDiff, Nat.reduceSub, Int.reduceToNat, reduceCtorEq]))
      refine AQ.fn (by kernel_rfl) rfl rfl rfl (hn) rfl ?_
      repeat (first | refine xA ?_ | refine xB ?_ | refine xC ?_ | refine xE ?_ | refine xD ?_ | refine xK ?_ | refine xS ?_ | refine xM ?_ | refine xT ?_ | refine xF ?_ | ((first | refine xR ?_ | refine xW ?_ | refine vq_id ?_); simp only [go_sem, Nat.reduceAdd, Nat.reduceLeDiff, Nat.reduceSub, Int.reduceToNat, reduceCtorEq]) | (refine ⟨by first | omega | (intros; simp_all; done) | (intros; simp_all; omega), ?_⟩; try simp only [go_sem, Nat.reduceAdd, Nat.reduceLeDiff, Nat.reduceSub, Int.reduceToNat, reduceCtorEq]))
      refine AP.drawE 5 (Tree.node [] [0, 1] [2] [Tree.node [1] [] [3] [Tree.node [] [4] [] []]]) (by kernel_rfl) rfl (by kernel_rfl) (by kernel_rfl) ?_
      refine vd_node ?_
      simp only [go_sem, Nat.reduceAdd, Nat.reduceLeDiff, Nat.reduceSub, Int.reduceToNat, reduceCtorEq]
      repeat' (first | with_reducible exact True.intro | with_reducible refine And.intro (by omega) ?_ | with_reducible refine And.intro ?_ ?_ | (refine AQ.nx rfl ?_; simp only [go_sem, Nat.reduceAdd, Nat.reduceLeDiff, Nat.reduceSub, Int.reduceToNat, reduceCtorEq]) | refine AQ.skip (by kernel_rfl) rfl ?_ | refine AQ.done ?_ | (refine AQ.go (by kernel_rfl) ?_; simp only [go_sem, Nat.reduceAdd, Nat.reduceLeDiff, Nat.reduceSub, Int.reduceToNat, reduceCtorEq]; repeat (with_reducible refine And.intro (by omega) ?_); refine AQ.nx rfl ?_; simp only [go_sem, Nat.reduceAdd, Nat.reduceLeDiff, Nat.reduceSub, Int.reduceToNat, reduceCtorEq]))
      all_goals
        repeat (first | refine xA ?_ | refine xB ?_ | refine xC ?_ | refine xE ?_ | refine xD ?_ | refine xK ?_ | refine xS ?_ | refine xM ?_ | refine xT ?_ | refine xF ?_ | ((first | refine xR ?_ | refine xW ?_ | refine vq_id ?_); simp only [go_sem, Nat.reduceAdd, Nat.reduceLeDiff, Nat.reduceSub, Int.reduceToNat, reduceCtorEq]) | (refine ⟨by first | omega | (intros; simp_all; done) | (intros; simp_all; omega), ?_⟩; try simp only [go_sem, Nat.reduceAdd, Nat.reduceLeDiff, Nat.reduceSub, Int.reduceToNat, reduceCtorEq]))
        exact AE.retD [3, 2, 1, 0] rfl ⟨⟨rfl, Nat.le_of_ble_eq_true (by kernel_rfl)⟩, ⟨rfl, Nat.le_of_ble_eq_true (by kernel_rfl)⟩, rfl, trivial⟩ rfl ⟨rfl, rfl⟩
    have hk1' : q.k ≠ 1 := by simpa using hk1
    rw [pStep, if_neg hk1', wStep, if_neg hk1']
    repeat (first | refine xA ?_ | refine xB ?_ | refine xC ?_ | refine xE ?_ | refine xD ?_ | refine xK ?_ | refine xS ?_ | refine xM ?_ | refine xT ?_ | refine xF ?_ | ((first | refine xR ?_ | refine xW ?_ | refine vq_id ?_); simp only [go_sem, Nat.reduceAdd, Nat.reduceLeDiff, Nat.reduceSub, Int.reduceToNat, reduceCtorEq]) | (refine ⟨by first | omega | (intros; simp_all; done) | (intros; simp_all; omega), ?_⟩; try simp only [go_sem, Nat.reduceAdd, Nat.reduceLeDiff, Nat.reduceSub, Int.reduceToNat, reduceCtorEq]))
    refine AP.cond rfl rfl (fun hk2 => ?_) (fun hk2 => ?_)
    · have hk2' : q.k = 6 := by simpa using hk2
      rw [if_pos hk2']
      repeat (first | refine xA ?_ | refine xB ?_ | refine xC ?_ | refine xE ?_ | refine xD ?_ | refine xK ?_ | refine xS ?_ | refine xM ?_ | refine xT ?_ | refine xF ?_ | ((first | refine xR ?_ | refine xW ?_ | refine vq_id ?_); simp only [go_sem, Nat.reduceAdd, Nat.reduceLeDiff, Nat.reduceSub, Int.reduceToNat, reduceCtorEq]) | (refine ⟨by first | omega | (intros; simp_all; done) | (intros; simp_all; omega), ?_⟩; try simp only [go_sem, Nat.reduceAdd, Nat.reduceLeDiff, Nat.reduceSub, Int.reduceToNat, reduceCtorEq]))
      refine AP.drawE 5 (Tree.node [] [0, 1] [2] [Tree.node [1] [] [3] [Tree.node [] [4] [] []]]) (by kernel_rfl) rfl (by kernel_rfl) (by kernel_rfl) ?_
      refine vd_node ?_
      simp only [go_sem, Nat.reduceAdd, Nat.reduceLeDiff, Nat.reduceSub, Int.reduceToNat, reduceCtorEq]
      repeat' (first | with_reducible exact True.intro | with_reducible refine And.intro (by omega) ?_ | with_reducible refine And.intro ?_ ?_ | (refine AQ.nx rfl ?_; simp only [go_sem, Nat.reduceAdd, Nat.reduceLeDiff, Nat.reduceSub, Int.reduceToNat, reduceCtorEq]) | refine AQ.skip (by kernel_rfl) rfl ?_ | refine AQ.done ?_ | (refine AQ.go (by kernel_rfl) ?_; simp only [go_sem, Nat.reduceAdd, Nat.reduceLeDiff, Nat.reduceSub, Int.reduceToNat, reduceCtorEq]; repeat (with_reducible refine And.intro (by omega) ?_); refine AQ.nx rfl ?_; simp only [go_sem, Nat.reduceAdd, Nat.reduceLeDiff, Nat.reduceSub, Int.reduceToNat, reduceCtorEq]))
      all_goals
        repeat (first | refine xA ?_ | refine xB ?_ | refine xC ?_ | refine xE ?_ | refine xD ?_ | refine xK ?_ | refine xS ?_ | refine xM ?_ | refine xT ?_ | refine xF ?_ | ((first | refine xR ?_ | refine xW ?_ | refine vq_id ?_); simp only [go_sem, Nat.reduceAdd, Nat.reduceLeDiff, Nat.reduceSub, Int.reduceToNat, reduceCtorEq]) | (refine ⟨by first | omega | (intros; simp_all; done) | (intros; simp_all; omega), ?_⟩; try simp only [go_sem, Nat.reduceAdd, Nat.reduceLeDiff, Nat.reduceSub, Int.reduceToNat, reduceCtorEq]))
        exact AE.retD [3, 2, 1, 0] rfl ⟨⟨rfl, Nat.le_of_ble_eq_true (by kernel_rfl)⟩, ⟨rfl, Nat.le_of_ble_eq_true (by kernel_rfl)⟩, rfl, trivial⟩ rfl ⟨rfl, rfl⟩
    have hk2' : q.k ≠ 6 := by simpa using hk2
    rw [if_neg hk2']
    repeat (first | refine xA ?_ | refine xB ?_ | refine xC ?_ | refine xE ?_ | refine xD ?_ | refine xK ?_ | refine xS ?_ | refine xM ?_ | refine xT ?_ | refine xF ?_ | ((first | refine xR ?_ | refine xW ?_ | refine vq_id ?_); simp only [go_sem, Nat.reduceAdd, Nat.reduceLeDiff, Nat.reduceSub, Int.reduceToNat, reduceCtorEq]) | (refine ⟨by first | omega | (intros; simp_all; done) | (intros; simp_all; omega), ?_⟩; try simp only [go_sem, Nat.reduceAdd, Nat.reduceLeDiff, Nat.reduceSub, Int.reduceToNat, reduceCtorEq]))
    refine AP.drawE 5 (Tree.node [] [0, 1] [2] [Tree.node [1] [] [3] [Tree.node [] [4] [] []]]) (by kernel_rfl) rfl (by kernel_rfl) (by kernel_rfl) ?_
    refine vd_node ?_
    simp only [go_sem, Nat.reduceAdd, Nat.reduceLeDiff, Nat.reduceSub, Int.reduceToNat, reduceCtorEq]
    repeat' (first | with_reducible exact True.intro | with_reducible refine And.intro (by omega) ?_ | with_reducible refine And.intro ?_ ?_ | (refine AQ.nx rfl ?_; simp only [go_sem, Nat.reduceAdd, Nat.reduceLeDiff, Nat.reduceSub, Int.reduceToNat, reduceCtorEq]) | refine AQ.skip (by kernel_rfl) rfl ?_ | refine AQ.done ?_ | (refine AQ.go (by kernel_rfl) ?_; simp only [go_sem, Nat.reduceAdd, Nat.reduceLeDiff, Nat.reduceSub, Int.reduceToNat, reduceCtorEq]; repeat (with_reducible refine And.intro (by omega) ?_); refine AQ.nx rfl ?_; simp only [go_sem, Nat.reduceAdd, Nat.reduceLeDiff, Nat.reduceSub, Int.reduceToNat, reduceCtorEq]))
    all_goals
      repeat (first | refine xA ?_ | refine xB ?_ | refine xC ?_ | refine xE ?_ | refine xD ?_ | refine xK ?_ | refine xS ?_ | refine xM ?_ | refine xT ?_ | refine xF ?_ | ((first | refine xR ?_ | refine xW ?_ | refine vq_id ?_); simp only [go_sem, Nat.reduceAdd, Nat.reduceLeDiff, Nat.reduceSub, Int.reduceToNat, reduceCtorEq]) | (refine ⟨by first | omega | (intros; simp_all; done) | (intros; simp_all; omega), ?_⟩; try simp only [go_sem, Nat.reduceAdd, Nat.reduceLeDiff, Nat.reduceSub, Int.reduceToNat, reduceCtorEq]))
      exact AE.retD [3, 2, 1, 0] rfl ⟨⟨rfl, Nat.le_of_ble_eq_true (by kernel_rfl)⟩, ⟨rfl, Nat.le_of_ble_eq_true (by kernel_rfl)⟩, rfl, trivial⟩ rfl ⟨rfl, rfl⟩
end Go.Proofs.YtlpcdpjkdodmcaaGreatDoor
end

section
namespace Go.Proofs.YtlpcdpjkdodmcaaGreatDoor
open Go Go.AL Go.RowKit
set_option maxRecDepth 100000
theorem str_of {n : Nat} {xs : List IV} (h : Typed Tryz.prog n 9 xs) : ∃ l : List UInt8, xs = [Si l] := by
  obtain ⟨s, rfl, _⟩ := typed_str Tryz.underlying9 h
  exact ⟨s.data.toList, congrArg (fun x => [IV.v (Value.string x)]) (BA_of s)⟩
end Go.Proofs.YtlpcdpjkdodmcaaGreatDoor
end

section
namespace Go.Proofs.YtlpcdpjkdodmcaaGreatDoor
open Go Go.AL Go.RowKit
set_option maxRecDepth 10000
set_option maxHeartbeats 4000000
def workB (k : Int) : Bool := decide (2 ≤ k) && decide (k ≤ 4)
theorem work_spec (r : Rq) : PFn Tryz.prog 41 [.agg [Iv r.n, Iv r.k, Sv r.b, Bv r.c, Bv r.a, Iv r.ak, Iv r.an, Sv r.ab]] (Bv (workB r.k)) := by
  refine ACall.walk [0, 1, 2] [] Tryz.func41 rfl Tryz.ntmps41 (by kernel_rfl) (by rfl) rfl fun W own I0 φ0 lay => ?_
  repeat (first | refine xA ?_ | refine xB ?_ | refine xC ?_ | refine xE ?_ | refine xD ?_ | refine xK ?_ | refine xS ?_ | refine xM ?_ | refine xT ?_ | refine xF ?_ | ((first | refine xR ?_ | refine xW ?_ | refine vq_id ?_); simp only [go_sem, Nat.reduceAdd, Nat.reduceLeDiff, Nat.reduceSub, Int.reduceToNat, reduceCtorEq]) | (refine ⟨by first | omega | (intros; simp_all; done) | (intros; simp_all; omega), ?_⟩; try simp only [go_sem, Nat.reduceAdd, Nat.reduceLeDiff, Nat.reduceSub, Int.reduceToNat, reduceCtorEq]))
  exact AE.ret0 rfl ⟨rfl, trivial⟩ rfl ⟨rfl, rfl⟩
def rvB (r : Rq) : Bool :=
  !(decide (r.k < 2) || decide (6 < r.k) || msgE r.k r.n r.b != 0) && !(r.c && (!r.a || !workB r.k)) &&
    (bif r.a then (r.ak == 8 || r.ak == 9) && r.an == r.n && msgE r.ak r.an r.ab == 0 else workB r.k && (r.ak == 0 && (r.an == 0 && r.ab == [])))
theorem rv_spec (r : Rq) : PFn Tryz.prog 30 [.agg [Iv r.n, Iv r.k, Sv r.b, Bv r.c, Bv r.a, Iv r.ak, Iv r.an, Sv r.ab]] (Bv (rvB r)) := by
  unfold rvB
  obtain ⟨n, k, b, c, a, ak, an, ab⟩ := r
  simp only
  have hm := message_spec ⟨n, k, b, c, a, ak, an, ab⟩
  have hk := work_spec ⟨n, k, b, c, a, ak, an, ab⟩
  have he := error_spec k n b
  have he2 := error_spec ak an ab
  simp only at hm hk
  obtain ⟨hd, hhd⟩ : ∃ hd, (decide (k < 2) || decide (6 < k)) = hd := ⟨_, rfl⟩
  rw [hhd]
  cases hd with
  | true =>
    refine ACall.walk [0, 1, 2, 16, 28, 31] [] Tryz.func30 rfl Tryz.ntmps30 (by kernel_rfl) (by rfl) rfl fun W own I0 φ0 lay => ?_
    repeat (first | refine xA ?_ | refine xB ?_ | refine xC ?_ | refine xE ?_ | refine xD ?_ | refine xK ?_ | refine xS ?_ | refine xM ?_ | refine xT ?_ | refine xF ?_ | ((first | refine xR ?_ | refine xW ?_ | refine vq_id ?_); simp only [go_sem, Nat.reduceAdd, Nat.reduceLeDiff, Nat.reduceSub, Int.reduceToNat, reduceCtorEq, hhd]) | (refine ⟨by first | omega | (intros; simp_all; done) | (intros; simp_all; omega), ?_⟩; try simp only [go_sem, Nat.reduceAdd, Nat.reduceLeDiff, Nat.reduceSub, Int.reduceToNat, reduceCtorEq, hhd]))
    exact AE.ret0 rfl ⟨rfl, trivial⟩ rfl ⟨rfl, rfl⟩
  | false =>
    refine ACall.walk [0, 1, 2, 16, 28, 31] [] Tryz.func30 rfl Tryz.ntmps30 (by kernel_rfl) (by rfl) rfl fun W own I0 φ0 lay => ?_
    repeat (first | refine xA ?_ | refine xB ?_ | refine xC ?_ | refine xE ?_ | refine xD ?_ | refine xK ?_ | refine xS ?_ | refine xM ?_ | refine xT ?_ | refine xF ?_ | ((first | refine xR ?_ | refine xW ?_ | refine vq_id ?_); simp only [go_sem, Nat.reduceAdd, Nat.reduceLeDiff, Nat.reduceSub, Int.reduceToNat, reduceCtorEq, hhd]) | (refine ⟨by first | omega | (intros; simp_all; done) | (intros; simp_all; omega), ?_⟩; try simp only [go_sem, Nat.reduceAdd, Nat.reduceLeDiff, Nat.reduceSub, Int.reduceToNat, reduceCtorEq, hhd]))
    refine AQ.guard_yes (by simp only [go_sem]) ?_
    refine AQ.fn_g (by kernel_rfl) rfl rfl (fun h => by first | (simp [gs, AV.g]; done) | (simp [gs, AV.g, constAV]; done) | (simp [gs, AV.g, constAV, bw] at h ⊢; done) | (simp [gs, AV.g, constAV, bw] at h ⊢; exact h) | (simp [gs, AV.g, constAV, bw] at h ⊢; simp [h]; done) | (simp [bw] at h; done) | (simp [gs, AV.g, bw] at h ⊢; simp [h]; done) | (simp [gs, AV.g, bw] at h ⊢; exact h.1) | (simp [gs, AV.g]; rfl) | (simp [gs, AV.g, bw] at h ⊢; rfl) | (simp [gs, AV.g, bw] at h ⊢; simp [h]; rfl) | (simp [gs, AV.g, bw] at h ⊢; simp_all)) rfl (fun _ => hm) rfl ?_
    repeat (first | refine xA ?_ | refine xB ?_ | refine xC ?_ | refine xE ?_ | refine xD ?_ | refine xK ?_ | refine xS ?_ | refine xM ?_ | refine xT ?_ | refine xF ?_ | ((first | refine xR ?_ | refine xW ?_ | refine vq_id ?_); simp only [go_sem, Nat.reduceAdd, Nat.reduceLeDiff, Nat.reduceSub, Int.reduceToNat, reduceCtorEq, hhd]) | (refine ⟨by first | omega | (intros; simp_all; done) | (intros; simp_all; omega), ?_⟩; try simp only [go_sem, Nat.reduceAdd, Nat.reduceLeDiff, Nat.reduceSub, Int.reduceToNat, reduceCtorEq, hhd]))
    refine AQ.guard_yes (by simp only [go_sem]) ?_
    refine AQ.fn_g (by kernel_rfl) rfl rfl (fun h => by first | (simp [gs, AV.g]; done) | (simp [gs, AV.g, constAV]; done) | (simp [gs, AV.g, constAV, bw] at h ⊢; done) | (simp [gs, AV.g, constAV, bw] at h ⊢; exact h) | (simp [gs, AV.g, constAV, bw] at h ⊢; simp [h]; done) | (simp [bw] at h; done) | (simp [gs, AV.g, bw] at h ⊢; simp [h]; done) | (simp [gs, AV.g, bw] at h ⊢; exact h.1) | (simp [gs, AV.g]; rfl) | (simp [gs, AV.g, bw] at h ⊢; rfl) | (simp [gs, AV.g, bw] at h ⊢; simp [h]; rfl) | (simp [gs, AV.g, bw] at h ⊢; simp_all)) rfl (fun _ => he) rfl ?_
    repeat (first | refine xA ?_ | refine xB ?_ | refine xC ?_ | refine xE ?_ | refine xD ?_ | refine xK ?_ | refine xS ?_ | refine xM ?_ | refine xT ?_ | refine xF ?_ | ((first | refine xR ?_ | refine xW ?_ | refine vq_id ?_); simp only [go_sem, Nat.reduceAdd, Nat.reduceLeDiff, Nat.reduceSub, Int.reduceToNat, reduceCtorEq, hhd]) | (refine ⟨by first | omega | (intros; simp_all; done) | (intros; simp_all; omega), ?_⟩; try simp only [go_sem, Nat.reduceAdd, Nat.reduceLeDiff, Nat.reduceSub, Int.reduceToNat, reduceCtorEq, hhd]))
    refine AP.cond rfl rfl (fun h1 => ?_) (fun h1 => ?_)
    · rw [h1]
      repeat (first | refine xA ?_ | refine xB ?_ | refine xC ?_ | refine xE ?_ | refine xD ?_ | refine xK ?_ | refine xS ?_ | refine xM ?_ | refine xT ?_ | refine xF ?_ | ((first | refine xR ?_ | refine xW ?_ | refine vq_id ?_); simp only [go_sem, Nat.reduceAdd, Nat.reduceLeDiff, Nat.reduceSub, Int.reduceToNat, reduceCtorEq]) | (refine ⟨by first | omega | (intros; simp_all; done) | (intros; simp_all; omega), ?_⟩; try simp only [go_sem, Nat.reduceAdd, Nat.reduceLeDiff, Nat.reduceSub, Int.reduceToNat, reduceCtorEq]))
      exact AE.ret0 rfl ⟨rfl, trivial⟩ rfl ⟨rfl, rfl⟩
    rw [h1]
    obtain ⟨cw, hcw⟩ : ∃ v, workB k = v := ⟨_, rfl⟩
    rw [hcw] at hk ⊢
    cases a with
    | true =>
      cases c with
      | true =>
        repeat (first | refine xA ?_ | refine xB ?_ | refine xC ?_ | refine xE ?_ | refine xD ?_ | refine xK ?_ | refine xS ?_ | refine xM ?_ | refine xT ?_ | refine xF ?_ | ((first | refine xR ?_ | refine xW ?_ | refine vq_id ?_); simp only [go_sem, Nat.reduceAdd, Nat.reduceLeDiff, Nat.reduceSub, Int.reduceToNat, reduceCtorEq]) | (refine ⟨by first | omega | (intros; simp_all; done) | (intros; simp_all; omega), ?_⟩; try simp only [go_sem, Nat.reduceAdd, Nat.reduceLeDiff, Nat.reduceSub, Int.reduceToNat, reduceCtorEq]))
        refine AQ.guard_yes (by simp only [go_sem]) ?_
        refine AQ.fn_g (by kernel_rfl) rfl rfl (fun h => by first | (simp [gs, AV.g]; done) | (simp [gs, AV.g, constAV]; done) | (simp [gs, AV.g, constAV, bw] at h ⊢; done) | (simp [gs, AV.g, constAV, bw] at h ⊢; exact h) | (simp [gs, AV.g, constAV, bw] at h ⊢; simp [h]; done) | (simp [bw] at h; done) | (simp [gs, AV.g, bw] at h ⊢; simp [h]; done) | (simp [gs, AV.g, bw] at h ⊢; exact h.1) | (simp [gs, AV.g]; rfl) | (simp [gs, AV.g, bw] at h ⊢; rfl) | (simp [gs, AV.g, bw] at h ⊢; simp [h]; rfl) | (simp [gs, AV.g, bw] at h ⊢; simp_all)) rfl (fun _ => hk) rfl ?_
        repeat (first | refine xA ?_ | refine xB ?_ | refine xC ?_ | refine xE ?_ | refine xD ?_ | refine xK ?_ | refine xS ?_ | refine xM ?_ | refine xT ?_ | refine xF ?_ | ((first | refine xR ?_ | refine xW ?_ | refine vq_id ?_); simp only [go_sem, Nat.reduceAdd, Nat.reduceLeDiff, Nat.reduceSub, Int.reduceToNat, reduceCtorEq]) | (refine ⟨by first | omega | (intros; simp_all; done) | (intros; simp_all; omega), ?_⟩; try simp only [go_sem, Nat.reduceAdd, Nat.reduceLeDiff, Nat.reduceSub, Int.reduceToNat, reduceCtorEq]))
        cases cw with
        | false =>
          repeat (first | refine xA ?_ | refine xB ?_ | refine xC ?_ | refine xE ?_ | refine xD ?_ | refine xK ?_ | refine xS ?_ | refine xM ?_ | refine xT ?_ | refine xF ?_ | ((first | refine xR ?_ | refine xW ?_ | refine vq_id ?_); simp only [go_sem, Nat.reduceAdd, Nat.reduceLeDiff, Nat.reduceSub, Int.reduceToNat, reduceCtorEq]) | (refine ⟨by first | omega | (intros; simp_all; done) | (intros; simp_all; omega), ?_⟩; try simp only [go_sem, Nat.reduceAdd, Nat.reduceLeDiff, Nat.reduceSub, Int.reduceToNat, reduceCtorEq]))
          exact AE.ret0 rfl ⟨rfl, trivial⟩ rfl ⟨rfl, rfl⟩
        | true =>
          skip
          obtain ⟨g, hg⟩ : ∃ v, ((ak == 8 || ak == 9) && an == n) = v := ⟨_, rfl⟩
          rw [hg]
          cases g with
          | true =>
            repeat (first | refine xA ?_ | refine xB ?_ | refine xC ?_ | refine xE ?_ | refine xD ?_ | refine xK ?_ | refine xS ?_ | refine xM ?_ | refine xT ?_ | refine xF ?_ | ((first | refine xR ?_ | refine xW ?_ | refine vq_id ?_); simp only [go_sem, Nat.reduceAdd, Nat.reduceLeDiff, Nat.reduceSub, Int.reduceToNat, reduceCtorEq, hg]) | (refine ⟨by first | omega | (intros; simp_all; done) | (intros; simp_all; omega), ?_⟩; try simp only [go_sem, Nat.reduceAdd, Nat.reduceLeDiff, Nat.reduceSub, Int.reduceToNat, reduceCtorEq, hg]))
            refine AQ.guard_yes (by simp only [go_sem]) ?_
            refine AQ.fn_g (by kernel_rfl) rfl rfl (fun h => by first | (simp [gs, AV.g]; done) | (simp [gs, AV.g, constAV]; done) | (simp [gs, AV.g, constAV, bw] at h ⊢; done) | (simp [gs, AV.g, constAV, bw] at h ⊢; exact h) | (simp [gs, AV.g, constAV, bw] at h ⊢; simp [h]; done) | (simp [bw] at h; done) | (simp [gs, AV.g, bw] at h ⊢; simp [h]; done) | (simp [gs, AV.g, bw] at h ⊢; exact h.1) | (simp [gs, AV.g]; rfl) | (simp [gs, AV.g, bw] at h ⊢; rfl) | (simp [gs, AV.g, bw] at h ⊢; simp [h]; rfl) | (simp [gs, AV.g, bw] at h ⊢; simp_all)) rfl (fun _ => he2) rfl ?_
            repeat (first | refine xA ?_ | refine xB ?_ | refine xC ?_ | refine xE ?_ | refine xD ?_ | refine xK ?_ | refine xS ?_ | refine xM ?_ | refine xT ?_ | refine xF ?_ | ((first | refine xR ?_ | refine xW ?_ | refine vq_id ?_); simp only [go_sem, Nat.reduceAdd, Nat.reduceLeDiff, Nat.reduceSub, Int.reduceToNat, reduceCtorEq]) | (refine ⟨by first | omega | (intros; simp_all; done) | (intros; simp_all; omega), ?_⟩; try simp only [go_sem, Nat.reduceAdd, Nat.reduceLeDiff, Nat.reduceSub, Int.reduceToNat, reduceCtorEq]))
            exact AE.ret0 rfl ⟨rfl, trivial⟩ rfl ⟨rfl, rfl⟩
          | false =>
            repeat (first | refine xA ?_ | refine xB ?_ | refine xC ?_ | refine xE ?_ | refine xD ?_ | refine xK ?_ | refine xS ?_ | refine xM ?_ | refine xT ?_ | refine xF ?_ | ((first | refine xR ?_ | refine xW ?_ | refine vq_id ?_); simp only [go_sem, Nat.reduceAdd, Nat.reduceLeDiff, Nat.reduceSub, Int.reduceToNat, reduceCtorEq, hg]) | (refine ⟨by first | omega | (intros; simp_all; done) | (intros; simp_all; omega), ?_⟩; try simp only [go_sem, Nat.reduceAdd, Nat.reduceLeDiff, Nat.reduceSub, Int.reduceToNat, reduceCtorEq, hg]))
            exact AE.ret0 rfl ⟨rfl, trivial⟩ rfl ⟨rfl, rfl⟩
      | false =>
        obtain ⟨g, hg⟩ : ∃ v, ((ak == 8 || ak == 9) && an == n) = v := ⟨_, rfl⟩
        rw [hg]
        cases g with
        | true =>
          repeat (first | refine xA ?_ | refine xB ?_ | refine xC ?_ | refine xE ?_ | refine xD ?_ | refine xK ?_ | refine xS ?_ | refine xM ?_ | refine xT ?_ | refine xF ?_ | ((first | refine xR ?_ | refine xW ?_ | refine vq_id ?_); simp only [go_sem, Nat.reduceAdd, Nat.reduceLeDiff, Nat.reduceSub, Int.reduceToNat, reduceCtorEq, hg]) | (refine ⟨by first | omega | (intros; simp_all; done) | (intros; simp_all; omega), ?_⟩; try simp only [go_sem, Nat.reduceAdd, Nat.reduceLeDiff, Nat.reduceSub, Int.reduceToNat, reduceCtorEq, hg]))
          refine AQ.guard_yes (by simp only [go_sem]) ?_
          refine AQ.fn_g (by kernel_rfl) rfl rfl (fun h => by first | (simp [gs, AV.g]; done) | (simp [gs, AV.g, constAV]; done) | (simp [gs, AV.g, constAV, bw] at h ⊢; done) | (simp [gs, AV.g, constAV, bw] at h ⊢; exact h) | (simp [gs, AV.g, constAV, bw] at h ⊢; simp [h]; done) | (simp [bw] at h; done) | (simp [gs, AV.g, bw] at h ⊢; simp [h]; done) | (simp [gs, AV.g, bw] at h ⊢; exact h.1) | (simp [gs, AV.g]; rfl) | (simp [gs, AV.g, bw] at h ⊢; rfl) | (simp [gs, AV.g, bw] at h ⊢; simp [h]; rfl) | (simp [gs, AV.g, bw] at h ⊢; simp_all)) rfl (fun _ => he2) rfl ?_
          repeat (first | refine xA ?_ | refine xB ?_ | refine xC ?_ | refine xE ?_ | refine xD ?_ | refine xK ?_ | refine xS ?_ | refine xM ?_ | refine xT ?_ | refine xF ?_ | ((first | refine xR ?_ | refine xW ?_ | refine vq_id ?_); simp only [go_sem, Nat.reduceAdd, Nat.reduceLeDiff, Nat.reduceSub, Int.reduceToNat, reduceCtorEq]) | (refine ⟨by first | omega | (intros; simp_all; done) | (intros; simp_all; omega), ?_⟩; try simp only [go_sem, Nat.reduceAdd, Nat.reduceLeDiff, Nat.reduceSub, Int.reduceToNat, reduceCtorEq]))
          exact AE.ret0 rfl ⟨rfl, trivial⟩ rfl ⟨rfl, rfl⟩
        | false =>
          repeat (first | refine xA ?_ | refine xB ?_ | refine xC ?_ | refine xE ?_ | refine xD ?_ | refine xK ?_ | refine xS ?_ | refine xM ?_ | refine xT ?_ | refine xF ?_ | ((first | refine xR ?_ | refine xW ?_ | refine vq_id ?_); simp only [go_sem, Nat.reduceAdd, Nat.reduceLeDiff, Nat.reduceSub, Int.reduceToNat, reduceCtorEq, hg]) | (refine ⟨by first | omega | (intros; simp_all; done) | (intros; simp_all; omega), ?_⟩; try simp only [go_sem, Nat.reduceAdd, Nat.reduceLeDiff, Nat.reduceSub, Int.reduceToNat, reduceCtorEq, hg]))
          exact AE.ret0 rfl ⟨rfl, trivial⟩ rfl ⟨rfl, rfl⟩
    | false =>
      cases c with
      | true =>
        repeat (first | refine xA ?_ | refine xB ?_ | refine xC ?_ | refine xE ?_ | refine xD ?_ | refine xK ?_ | refine xS ?_ | refine xM ?_ | refine xT ?_ | refine xF ?_ | ((first | refine xR ?_ | refine xW ?_ | refine vq_id ?_); simp only [go_sem, Nat.reduceAdd, Nat.reduceLeDiff, Nat.reduceSub, Int.reduceToNat, reduceCtorEq]) | (refine ⟨by first | omega | (intros; simp_all; done) | (intros; simp_all; omega), ?_⟩; try simp only [go_sem, Nat.reduceAdd, Nat.reduceLeDiff, Nat.reduceSub, Int.reduceToNat, reduceCtorEq]))
        exact AE.ret0 rfl ⟨rfl, trivial⟩ rfl ⟨rfl, rfl⟩
      | false =>
        repeat (first | refine xA ?_ | refine xB ?_ | refine xC ?_ | refine xE ?_ | refine xD ?_ | refine xK ?_ | refine xS ?_ | refine xM ?_ | refine xT ?_ | refine xF ?_ | ((first | refine xR ?_ | refine xW ?_ | refine vq_id ?_); simp only [go_sem, Nat.reduceAdd, Nat.reduceLeDiff, Nat.reduceSub, Int.reduceToNat, reduceCtorEq]) | (refine ⟨by first | omega | (intros; simp_all; done) | (intros; simp_all; omega), ?_⟩; try simp only [go_sem, Nat.reduceAdd, Nat.reduceLeDiff, Nat.reduceSub, Int.reduceToNat, reduceCtorEq]))
        refine AQ.fn (by kernel_rfl) rfl rfl rfl (hk) rfl ?_
        cases cw with
        | false =>
          repeat (first | refine xA ?_ | refine xB ?_ | refine xC ?_ | refine xE ?_ | refine xD ?_ | refine xK ?_ | refine xS ?_ | refine xM ?_ | refine xT ?_ | refine xF ?_ | ((first | refine xR ?_ | refine xW ?_ | refine vq_id ?_); simp only [go_sem, Nat.reduceAdd, Nat.reduceLeDiff, Nat.reduceSub, Int.reduceToNat, reduceCtorEq]) | (refine ⟨by first | omega | (intros; simp_all; done) | (intros; simp_all; omega), ?_⟩; try simp only [go_sem, Nat.reduceAdd, Nat.reduceLeDiff, Nat.reduceSub, Int.reduceToNat, reduceCtorEq]))
          exact AE.ret0 rfl ⟨rfl, trivial⟩ rfl ⟨rfl, rfl⟩
        | true =>
          repeat (first | refine xA ?_ | refine xB ?_ | refine xC ?_ | refine xE ?_ | refine xD ?_ | refine xK ?_ | refine xS ?_ | refine xM ?_ | refine xT ?_ | refine xF ?_ | ((first | refine xR ?_ | refine xW ?_ | refine vq_id ?_); simp only [go_sem, Nat.reduceAdd, Nat.reduceLeDiff, Nat.reduceSub, Int.reduceToNat, reduceCtorEq]) | (refine ⟨by first | omega | (intros; simp_all; done) | (intros; simp_all; omega), ?_⟩; try simp only [go_sem, Nat.reduceAdd, Nat.reduceLeDiff, Nat.reduceSub, Int.reduceToNat, reduceCtorEq]))
          exact AE.ret0 rfl ⟨rfl, trivial⟩ rfl ⟨rfl, rfl⟩
def srvHead (p w n : Int) (l : List Rq) : Prop := (0 ≤ p ∧ p ≤ 3) ∧ (1 ≤ w ∧ w ≤ 16) ∧ (1 ≤ n ∧ n ≤ 2147483647) ∧ (l.length : Int) ≤ w
def nAt (l : List Rq) (i : Nat) : Int := ((l[i]?).map (·.n)).getD 0
theorem nAt_eq {l : List Rq} {i : Nat} {r : Rq} (h : l[i]? = some r) : nAt l i = r.n := by simp [nAt, h]
def srvRow (n : Int) (l : List Rq) (i : Nat) (r : Rq) : Prop := rvB r = true ∧ r.n < n ∧ (i = 0 → r.a = false) ∧ (0 < i → nAt l (i - 1) < r.n)
def srvP (p : Int) (nm : List UInt8) (w n : Int) (l : List Rq) : Prop :=
  srvHead p w n l ∧ byesB p l = true ∧ (∀ i r, l[i]? = some r → srvRow n l i r) ∧ if p = 0 then nm = [] ∧ n = 1 else onlyOk nm [2, 3] = true ∧ 1 < n
noncomputable def srvC (p : Int) (nm : List UInt8) (w n : Int) (l : List Rq) : Bool := @decide (srvP p nm w n l) (Classical.propDecidable _)
theorem srvC_iff (p : Int) (nm : List UInt8) (w n : Int) (l : List Rq) : srvC p nm w n l = true ↔ srvP p nm w n l := @decide_eq_true_iff _ (Classical.propDecidable _)
noncomputable def srvE (p : Int) (nm : List UInt8) (w n : Int) (l : List Rq) : Int := bif srvC p nm w n l then 0 else 13
theorem srvE_of {p : Int} {nm : List UInt8} {w n : Int} {l : List Rq} {b : Bool} (h : b = true ↔ srvP p nm w n l) : srvE p nm w n l = bif b then 0 else 13 := by
  have : srvC p nm w n l = b := by rw [Bool.eq_iff_iff, srvC_iff, h]
  rw [srvE, this]
theorem rows_step {A : Prop} {l : List Rq} {n : Int} {k : Nat} {r : Rq} (hm : l[k]? = some r) {c v : Bool} (hrows : c = true ↔ A ∧ ∀ i, i < k → ∀ r, l[i]? = some r → srvRow n l i r) (hv : v = true ↔ c = true ∧ srvRow n l k r) :
    v = true ↔ A ∧ ∀ i, i < k + 1 → ∀ r, l[i]? = some r → srvRow n l i r := by
  rw [hv, hrows]
  constructor
  · rintro ⟨⟨hA, h⟩, hr⟩
    refine ⟨hA, fun i hi r' hr' => ?_⟩
    by_cases hik : i = k
    · subst hik
      rw [hm] at hr'
      cases hr'
      exact hr
    · exact h i (by omega) r' hr'
  · rintro ⟨hA, h⟩
    exact ⟨⟨hA, fun i hi => h i (by omega)⟩, h k (by omega) r hm⟩
theorem chk_spec (p : Int) (nm : List UInt8) (w n : Int) (l : List Rq) (hl : l.length ≤ 1000000000) (hnm : nm.length ≤ 1000000000000) : PFn Tryz.prog 9 [.agg [Iv p, Sv nm, Iv w, Iv n, .im (.sl 8 (rqR l))]] (Iv (srvE p nm w n l)) := by
  obtain ⟨b, hb⟩ : ∃ b, (decide (0 ≤ p) && decide (p ≤ 3) && decide (1 ≤ w) && decide (w ≤ 16) && decide (1 ≤ n) && decide (n ≤ 2147483647) && decide ((l.length : Int) ≤ w)) = b := ⟨_, rfl⟩
  have hh : b = true ↔ srvHead p w n l := by
    rw [← hb]
    unfold srvHead
    simp only [Bool.and_eq_true, decide_eq_true_eq]
    omega
  refine ACall.walk [0, 1, 2, 3, 4, 5, 50, 51, 52, 53, 97, 121] [5] Tryz.func9 rfl Tryz.ntmps9 (by kernel_rfl) (by rfl) rfl fun W own I0 φ0 lay => ?_
  refine xPP rfl ?_
  refine AP.region rfl (by kernel_rfl) ?_; simp only [go_sem, Nat.reduceAdd, Nat.reduceLeDiff, Nat.reduceSub, Int.reduceToNat, reduceCtorEq]
  refine AQ.done ?_
  refine xEP rfl ?_
  refine AP.cut (α := Bool) (fun b => [(1, .im (.pt [Ii p, .v (.string (BA nm)), Ii w, Ii n, .sl 8 (rqR l)])), (3, Bv b)]) (fun _ => []) (fun b => b = true ↔ (srvHead p w n l ∧ byesB p l = true)) ?_ fun b0 hb0 => ?_
  · cases b with
    | true =>
      repeat (first | refine xA ?_ | refine xB ?_ | refine xC ?_ | refine xE ?_ | refine xD ?_ | refine xK ?_ | refine xS ?_ | refine xM ?_ | refine xT ?_ | refine xF ?_ | ((first | refine xR ?_ | refine xW ?_ | refine vq_id ?_); simp only [go_sem, Nat.reduceAdd, Nat.reduceLeDiff, Nat.reduceSub, Int.reduceToNat, reduceCtorEq, rqR_len, hb]) | (refine ⟨by first | omega | (intros; simp_all; done) | (intros; simp_all; omega), ?_⟩; try simp only [go_sem, Nat.reduceAdd, Nat.reduceLeDiff, Nat.reduceSub, Int.reduceToNat, reduceCtorEq, rqR_len, hb]))
      refine AQ.guard_yes (by simp only [go_sem]) ?_
      refine AQ.fn_g (by kernel_rfl) rfl rfl (fun h => by first | (simp [gs, AV.g]; done) | (simp [gs, AV.g, constAV]; done) | (simp [gs, AV.g, constAV, bw] at h ⊢; done) | (simp [gs, AV.g, constAV, bw] at h ⊢; exact h) | (simp [gs, AV.g, constAV, bw] at h ⊢; simp [h]; done) | (simp [bw] at h; done) | (simp [gs, AV.g, bw] at h ⊢; simp [h]; done) | (simp [gs, AV.g, bw] at h ⊢; exact h.1) | (simp [gs, AV.g]; rfl) | (simp [gs, AV.g, bw] at h ⊢; rfl) | (simp [gs, AV.g, bw] at h ⊢; simp [h]; rfl) | (simp [gs, AV.g, bw] at h ⊢; simp_all)) rfl (fun _ => byes_spec p l hl) rfl ?_
      repeat (first | refine xA ?_ | refine xB ?_ | refine xC ?_ | refine xE ?_ | refine xD ?_ | refine xK ?_ | refine xS ?_ | refine xM ?_ | refine xT ?_ | refine xF ?_ | ((first | refine xR ?_ | refine xW ?_ | refine vq_id ?_); simp only [go_sem, Nat.reduceAdd, Nat.reduceLeDiff, Nat.reduceSub, Int.reduceToNat, reduceCtorEq, rqR_len, hb]) | (refine ⟨by first | omega | (intros; simp_all; done) | (intros; simp_all; omega), ?_⟩; try simp only [go_sem, Nat.reduceAdd, Nat.reduceLeDiff, Nat.reduceSub, Int.reduceToNat, reduceCtorEq, rqR_len, hb]))
      exact AE.meet (byesB p l) (by rw [← hh]; simp) (by repeat (first | exact Sub.nil _ | refine Sub.cons rfl ?_)) rfl
    | false =>
      repeat (first | refine xA ?_ | refine xB ?_ | refine xC ?_ | refine xE ?_ | refine xD ?_ | refine xK ?_ | refine xS ?_ | refine xM ?_ | refine xT ?_ | refine xF ?_ | ((first | refine xR ?_ | refine xW ?_ | refine vq_id ?_); simp only [go_sem, Nat.reduceAdd, Nat.reduceLeDiff, Nat.reduceSub, Int.reduceToNat, reduceCtorEq, rqR_len, hb]) | (refine ⟨by first | omega | (intros; simp_all; done) | (intros; simp_all; omega), ?_⟩; try simp only [go_sem, Nat.reduceAdd, Nat.reduceLeDiff, Nat.reduceSub, Int.reduceToNat, reduceCtorEq, rqR_len, hb]))
      exact AE.meet false (by rw [← hh]; simp) (by repeat (first | exact Sub.nil _ | refine Sub.cons rfl ?_)) rfl
  repeat (first | refine xA ?_ | refine xB ?_ | refine xC ?_ | refine xE ?_ | refine xD ?_ | refine xK ?_ | refine xS ?_ | refine xM ?_ | refine xT ?_ | refine xF ?_ | ((first | refine xR ?_ | refine xW ?_ | refine vq_id ?_); simp only [go_sem, Nat.reduceAdd, Nat.reduceLeDiff, Nat.reduceSub, Int.reduceToNat, reduceCtorEq, rqR_len]) | (refine ⟨by first | omega | (intros; simp_all; done) | (intros; simp_all; omega), ?_⟩; try simp only [go_sem, Nat.reduceAdd, Nat.reduceLeDiff, Nat.reduceSub, Int.reduceToNat, reduceCtorEq, rqR_len]))
  refine AP.loop rfl (α := Nat × Bool) (fun q => [(1, .im (.pt [Ii p, .v (.string (BA nm)), Ii w, Ii n, .sl 8 (rqR l)])), (3, Bv q.2), (50, .im (.sl 8 (rqR l))), (51, Iv l.length), (52, Iv q.1)]) (fun _ => []) (fun q => q.1 ≤ l.length ∧ (q.2 = true ↔ (srvHead p w n l ∧ byesB p l = true) ∧ ∀ i, i < q.1 → ∀ r, l[i]? = some r → srvRow n l i r)) (fun q => l.length - q.1) (0, b0) (by simpa using hb0) (by repeat (first | exact Sub.nil _ | refine Sub.cons rfl ?_)) rfl fun ⟨k, c⟩ ⟨hk, hrows⟩ => ?_
  simp only at hk hrows
  have hw := wr (x := (k : Int) + 1) (by omega)
  repeat (first | refine xA ?_ | refine xB ?_ | refine xC ?_ | refine xE ?_ | refine xD ?_ | refine xK ?_ | refine xS ?_ | refine xM ?_ | refine xT ?_ | refine xF ?_ | ((first | refine xR ?_ | refine xW ?_ | refine vq_id ?_); simp only [go_sem, Nat.reduceAdd, Nat.reduceLeDiff, Nat.reduceSub, Int.reduceToNat, reduceCtorEq]) | (refine ⟨by first | omega | (intros; simp_all; done) | (intros; simp_all; omega), ?_⟩; try simp only [go_sem, Nat.reduceAdd, Nat.reduceLeDiff, Nat.reduceSub, Int.reduceToNat, reduceCtorEq]))
  refine AP.cond rfl rfl (fun hc => ?_) (fun hc => ?_)
  · have hk' : k < l.length := by simp at hc; omega
    obtain ⟨r, hm, hg⟩ := rqR_get l k hk'
    cases k with
    | zero =>
      have hw0 : IntKind.i64.wrap (((0 : Nat) : Int) - 1) = -1 := by decide
      have hz : (((0 : Nat) : Int) == 0) = true := rfl
      have hz2 : decide (0 < ((0 : Nat) : Int)) = false := rfl
      have hn1 : (-1 : Int).toNat = 0 := rfl
      cases c with
      | false =>
        repeat (first | refine xA ?_ | refine xB ?_ | refine xC ?_ | refine xE ?_ | refine xD ?_ | refine xK ?_ | refine xS ?_ | refine xM ?_ | refine xT ?_ | refine xF ?_ | ((first | refine xR ?_ | refine xW ?_ | refine vq_id ?_); simp only [go_sem, Nat.reduceAdd, Nat.reduceLeDiff, Nat.reduceSub, Int.reduceToNat, reduceCtorEq, rqR_len, hg, hw, Int.toNat_natCast, List.map_cons, List.map_nil, List.length_cons, List.length_nil, List.take_succ_cons, List.take_zero, List.drop_succ_cons, List.drop_zero]) | (refine ⟨by first | omega | (intros; simp_all; done) | (intros; simp_all; omega), ?_⟩; try simp only [go_sem, Nat.reduceAdd, Nat.reduceLeDiff, Nat.reduceSub, Int.reduceToNat, reduceCtorEq, rqR_len, hg, hw, Int.toNat_natCast, List.map_cons, List.map_nil, List.length_cons, List.length_nil, List.take_succ_cons, List.take_zero, List.drop_succ_cons, List.drop_zero]))
        refine AP.drawE 38 (Tree.node [] [0, 1, 2] [3] [Tree.node [] [4, 5, 6, 7, 8, 9, 10, 11, 12, 13, 14, 15, 16, 17, 18, 19, 20, 21, 22, 23, 24, 25, 26, 27, 28, 29, 30, 31, 32, 33, 34, 35, 36] [37] [Tree.node [] [] [] []]]) (by kernel_rfl) rfl (by kernel_rfl) (by kernel_rfl) ?_
        refine vd_node ?_
        simp only [go_sem, Nat.reduceAdd, Nat.reduceLeDiff, Nat.reduceSub, Int.reduceToNat, reduceCtorEq]
        repeat' (first | with_reducible exact True.intro | with_reducible refine And.intro (by omega) ?_ | with_reducible refine And.intro ?_ ?_ | (refine AQ.nx rfl ?_; simp only [go_sem, Nat.reduceAdd, Nat.reduceLeDiff, Nat.reduceSub, Int.reduceToNat, reduceCtorEq, false_imp_iff, and_true, true_and, and_self, rqR_len, hw0,  hz, hz2, hn1, hg, Int.toNat_natCast, List.map_cons, List.map_nil, List.length_cons, List.length_nil, List.take_succ_cons, List.take_zero, List.drop_succ_cons, List.drop_zero]) | refine AQ.skip (by kernel_rfl) rfl ?_; simp only [go_sem, Nat.reduceAdd, Nat.reduceLeDiff, Nat.reduceSub, Int.reduceToNat, reduceCtorEq] | refine AQ.done ?_ | (refine AQ.go (by kernel_rfl) ?_; simp only [go_sem, Nat.reduceAdd, Nat.reduceLeDiff, Nat.reduceSub, Int.reduceToNat, reduceCtorEq, false_imp_iff, and_true, true_and, and_self, rqR_len, hw0,  hz, hz2, hn1, hg, Int.toNat_natCast, List.map_cons, List.map_nil, List.length_cons, List.length_nil, List.take_succ_cons, List.take_zero, List.drop_succ_cons, List.drop_zero]; repeat (with_reducible refine And.intro (by omega) ?_); refine AQ.nx rfl ?_; simp only [go_sem, Nat.reduceAdd, Nat.reduceLeDiff, Nat.reduceSub, Int.reduceToNat, reduceCtorEq, false_imp_iff, and_true, true_and, and_self, rqR_len, hw0,  hz, hz2, hn1, hg, Int.toNat_natCast, List.map_cons, List.map_nil, List.length_cons, List.length_nil, List.take_succ_cons, List.take_zero, List.drop_succ_cons, List.drop_zero]))
        repeat (first | refine xA ?_ | refine xB ?_ | refine xC ?_ | refine xE ?_ | refine xD ?_ | refine xK ?_ | refine xS ?_ | refine xM ?_ | refine xT ?_ | refine xF ?_ | ((first | refine xR ?_ | refine xW ?_ | refine vq_id ?_); simp only [go_sem, Nat.reduceAdd, Nat.reduceLeDiff, Nat.reduceSub, Int.reduceToNat, reduceCtorEq, hw]) | (refine ⟨by first | omega | (intros; simp_all; done) | (intros; simp_all; omega), ?_⟩; try simp only [go_sem, Nat.reduceAdd, Nat.reduceLeDiff, Nat.reduceSub, Int.reduceToNat, reduceCtorEq, hw]))
        refine AE.forgets [0] rfl ?_
        simp only [go_sem, Nat.reduceAdd, Nat.reduceLeDiff, Nat.reduceSub, Int.reduceToNat, reduceCtorEq]
        exact AE.round (1, false) ⟨by omega, rows_step hm hrows (by simp)⟩ (by show l.length - 1 < l.length - 0; omega) (by repeat (first | exact Sub.nil _ | refine Sub.cons rfl ?_)) rfl
      | true =>
        obtain ⟨v, hv⟩ : ∃ v, rvB r = v := ⟨_, rfl⟩
        have hrv := rv_spec r
        rw [hv] at hrv
        repeat (first | refine xA ?_ | refine xB ?_ | refine xC ?_ | refine xE ?_ | refine xD ?_ | refine xK ?_ | refine xS ?_ | refine xM ?_ | refine xT ?_ | refine xF ?_ | ((first | refine xR ?_ | refine xW ?_ | refine vq_id ?_); simp only [go_sem, Nat.reduceAdd, Nat.reduceLeDiff, Nat.reduceSub, Int.reduceToNat, reduceCtorEq, rqR_len, hg, hw, Int.toNat_natCast, List.map_cons, List.map_nil, List.length_cons, List.length_nil, List.take_succ_cons, List.take_zero, List.drop_succ_cons, List.drop_zero]) | (refine ⟨by first | omega | (intros; simp_all; done) | (intros; simp_all; omega), ?_⟩; try simp only [go_sem, Nat.reduceAdd, Nat.reduceLeDiff, Nat.reduceSub, Int.reduceToNat, reduceCtorEq, rqR_len, hg, hw, Int.toNat_natCast, List.map_cons, List.map_nil, List.length_cons, List.length_nil, List.take_succ_cons, List.take_zero, List.drop_succ_cons, List.drop_zero]))
        refine AP.drawE 38 (Tree.node [] [0, 1, 2] [3] [Tree.node [] [4, 5, 6, 7, 8, 9, 10, 11, 12, 13, 14, 15, 16, 17, 18, 19, 20, 21, 22, 23, 24, 25, 26, 27, 28, 29, 30, 31, 32, 33, 34, 35, 36] [37] [Tree.node [] [] [] []]]) (by kernel_rfl) rfl (by kernel_rfl) (by kernel_rfl) ?_
        refine vd_node ?_
        simp only [go_sem, Nat.reduceAdd, Nat.reduceLeDiff, Nat.reduceSub, Int.reduceToNat, reduceCtorEq]
        repeat' (first | with_reducible exact True.intro | with_reducible refine And.intro (by omega) ?_ | with_reducible refine And.intro ?_ ?_ | (refine AQ.nx rfl ?_; simp only [go_sem, Nat.reduceAdd, Nat.reduceLeDiff, Nat.reduceSub, Int.reduceToNat, reduceCtorEq, false_imp_iff, and_true, true_and, and_self, rqR_len, hw0,  hz, hz2, hn1, hg, Int.toNat_natCast, List.map_cons, List.map_nil, List.length_cons, List.length_nil, List.take_succ_cons, List.take_zero, List.drop_succ_cons, List.drop_zero]) | refine AQ.fn_g (by kernel_rfl) rfl rfl (fun h => by first | (simp [gs, AV.g]; done) | (simp [gs, AV.g, constAV]; done) | (simp [gs, AV.g, constAV, bw] at h ⊢; done) | (simp [gs, AV.g, constAV, bw] at h ⊢; exact h) | (simp [gs, AV.g, constAV, bw] at h ⊢; simp [h]; done) | (simp [bw] at h; done) | (simp [gs, AV.g, bw] at h ⊢; simp [h]; done) | (simp [gs, AV.g, bw] at h ⊢; exact h.1) | (simp [gs, AV.g]; rfl) | (simp [gs, AV.g, bw] at h ⊢; rfl) | (simp [gs, AV.g, bw] at h ⊢; simp [h]; rfl) | (simp [gs, AV.g, bw] at h ⊢; simp_all)) rfl (fun _ => hrv) rfl ?_; simp only [go_sem, Nat.reduceAdd, Nat.reduceLeDiff, Nat.reduceSub, Int.reduceToNat, reduceCtorEq] | refine AQ.done ?_ | (refine AQ.go (by kernel_rfl) ?_; simp only [go_sem, Nat.reduceAdd, Nat.reduceLeDiff, Nat.reduceSub, Int.reduceToNat, reduceCtorEq, false_imp_iff, and_true, true_and, and_self, rqR_len, hw0,  hz, hz2, hn1, hg, Int.toNat_natCast, List.map_cons, List.map_nil, List.length_cons, List.length_nil, List.take_succ_cons, List.take_zero, List.drop_succ_cons, List.drop_zero]; repeat (with_reducible refine And.intro (by omega) ?_); refine AQ.nx rfl ?_; simp only [go_sem, Nat.reduceAdd, Nat.reduceLeDiff, Nat.reduceSub, Int.reduceToNat, reduceCtorEq, false_imp_iff, and_true, true_and, and_self, rqR_len, hw0,  hz, hz2, hn1, hg, Int.toNat_natCast, List.map_cons, List.map_nil, List.length_cons, List.length_nil, List.take_succ_cons, List.take_zero, List.drop_succ_cons, List.drop_zero]))
        · exact fun h => ⟨h, fun h2 => by rw [h, h2]; rfl⟩
        repeat (first | refine xA ?_ | refine xB ?_ | refine xC ?_ | refine xE ?_ | refine xD ?_ | refine xK ?_ | refine xS ?_ | refine xM ?_ | refine xT ?_ | refine xF ?_ | ((first | refine xR ?_ | refine xW ?_ | refine vq_id ?_); simp only [go_sem, Nat.reduceAdd, Nat.reduceLeDiff, Nat.reduceSub, Int.reduceToNat, reduceCtorEq, hw]) | (refine ⟨by first | omega | (intros; simp_all; done) | (intros; simp_all; omega), ?_⟩; try simp only [go_sem, Nat.reduceAdd, Nat.reduceLeDiff, Nat.reduceSub, Int.reduceToNat, reduceCtorEq, hw]))
        refine AE.forgets [0] rfl ?_
        simp only [go_sem, Nat.reduceAdd, Nat.reduceLeDiff, Nat.reduceSub, Int.reduceToNat, reduceCtorEq]
        exact AE.round (1, v && decide (r.n < n) && !r.a) ⟨by omega, rows_step hm hrows (by simp [srvRow, hv, and_assoc])⟩ (by show l.length - 1 < l.length - 0; omega) (by repeat (first | exact Sub.nil _ | refine Sub.cons rfl ?_)) rfl
    | succ j =>
      obtain ⟨r0, hm0, hg0⟩ := rqR_get l j (by omega)
      have hw0 : IntKind.i64.wrap (((j + 1 : Nat) : Int) - 1) = (j : Nat) := by rw [wr (by omega)]; omega
      have hz : (((j + 1 : Nat) : Int) == 0) = false := by rw [beq_eq_false_iff_ne]; omega
      have hz2 : decide (0 < ((j + 1 : Nat) : Int)) = true := by rw [decide_eq_true_eq]; omega
      cases c with
      | false =>
        repeat (first | refine xA ?_ | refine xB ?_ | refine xC ?_ | refine xE ?_ | refine xD ?_ | refine xK ?_ | refine xS ?_ | refine xM ?_ | refine xT ?_ | refine xF ?_ | ((first | refine xR ?_ | refine xW ?_ | refine vq_id ?_); simp only [go_sem, Nat.reduceAdd, Nat.reduceLeDiff, Nat.reduceSub, Int.reduceToNat, reduceCtorEq, rqR_len, hg, hw, Int.toNat_natCast, List.map_cons, List.map_nil, List.length_cons, List.length_nil, List.take_succ_cons, List.take_zero, List.drop_succ_cons, List.drop_zero]) | (refine ⟨by first | omega | (intros; simp_all; done) | (intros; simp_all; omega), ?_⟩; try simp only [go_sem, Nat.reduceAdd, Nat.reduceLeDiff, Nat.reduceSub, Int.reduceToNat, reduceCtorEq, rqR_len, hg, hw, Int.toNat_natCast, List.map_cons, List.map_nil, List.length_cons, List.length_nil, List.take_succ_cons, List.take_zero, List.drop_succ_cons, List.drop_zero]))
        refine AP.drawE 38 (Tree.node [] [0, 1, 2] [3] [Tree.node [] [4, 5, 6, 7, 8, 9, 10, 11, 12, 13, 14, 15, 16, 17, 18, 19, 20, 21, 22, 23, 24, 25, 26, 27, 28, 29, 30, 31, 32, 33, 34, 35, 36] [37] [Tree.node [] [] [] []]]) (by kernel_rfl) rfl (by kernel_rfl) (by kernel_rfl) ?_
        refine vd_node ?_
        simp only [go_sem, Nat.reduceAdd, Nat.reduceLeDiff, Nat.reduceSub, Int.reduceToNat, reduceCtorEq]
        repeat' (first | with_reducible exact True.intro | with_reducible refine And.intro (by omega) ?_ | with_reducible refine And.intro ?_ ?_ | (refine AQ.nx rfl ?_; simp only [go_sem, Nat.reduceAdd, Nat.reduceLeDiff, Nat.reduceSub, Int.reduceToNat, reduceCtorEq, false_imp_iff, and_true, true_and, and_self, rqR_len, hw0,  hz, hz2, hg0, hg, Int.toNat_natCast, List.map_cons, List.map_nil, List.length_cons, List.length_nil, List.take_succ_cons, List.take_zero, List.drop_succ_cons, List.drop_zero]) | refine AQ.skip (by kernel_rfl) rfl ?_; simp only [go_sem, Nat.reduceAdd, Nat.reduceLeDiff, Nat.reduceSub, Int.reduceToNat, reduceCtorEq] | refine AQ.done ?_ | (refine AQ.go (by kernel_rfl) ?_; simp only [go_sem, Nat.reduceAdd, Nat.reduceLeDiff, Nat.reduceSub, Int.reduceToNat, reduceCtorEq, false_imp_iff, and_true, true_and, and_self, rqR_len, hw0,  hz, hz2, hg0, hg, Int.toNat_natCast, List.map_cons, List.map_nil, List.length_cons, List.length_nil, List.take_succ_cons, List.take_zero, List.drop_succ_cons, List.drop_zero]; repeat (with_reducible refine And.intro (by omega) ?_); refine AQ.nx rfl ?_; simp only [go_sem, Nat.reduceAdd, Nat.reduceLeDiff, Nat.reduceSub, Int.reduceToNat, reduceCtorEq, false_imp_iff, and_true, true_and, and_self, rqR_len, hw0,  hz, hz2, hg0, hg, Int.toNat_natCast, List.map_cons, List.map_nil, List.length_cons, List.length_nil, List.take_succ_cons, List.take_zero, List.drop_succ_cons, List.drop_zero]))
        repeat (first | refine xA ?_ | refine xB ?_ | refine xC ?_ | refine xE ?_ | refine xD ?_ | refine xK ?_ | refine xS ?_ | refine xM ?_ | refine xT ?_ | refine xF ?_ | ((first | refine xR ?_ | refine xW ?_ | refine vq_id ?_); simp only [go_sem, Nat.reduceAdd, Nat.reduceLeDiff, Nat.reduceSub, Int.reduceToNat, reduceCtorEq, hw]) | (refine ⟨by first | omega | (intros; simp_all; done) | (intros; simp_all; omega), ?_⟩; try simp only [go_sem, Nat.reduceAdd, Nat.reduceLeDiff, Nat.reduceSub, Int.reduceToNat, reduceCtorEq, hw]))
        refine AE.forgets [0] rfl ?_
        simp only [go_sem, Nat.reduceAdd, Nat.reduceLeDiff, Nat.reduceSub, Int.reduceToNat, reduceCtorEq]
        exact AE.round (j + 1 + 1, false) ⟨by show j + 1 + 1 ≤ l.length; omega, rows_step hm hrows (by simp)⟩ (by show l.length - (j + 1 + 1) < l.length - (j + 1); omega) (by repeat (first | exact Sub.nil _ | refine Sub.cons rfl ?_)) rfl
      | true =>
        obtain ⟨v, hv⟩ : ∃ v, rvB r = v := ⟨_, rfl⟩
        have hrv := rv_spec r
        rw [hv] at hrv
        repeat (first | refine xA ?_ | refine xB ?_ | refine xC ?_ | refine xE ?_ | refine xD ?_ | refine xK ?_ | refine xS ?_ | refine xM ?_ | refine xT ?_ | refine xF ?_ | ((first | refine xR ?_ | refine xW ?_ | refine vq_id ?_); simp only [go_sem, Nat.reduceAdd, Nat.reduceLeDiff, Nat.reduceSub, Int.reduceToNat, reduceCtorEq, rqR_len, hg, hw, Int.toNat_natCast, List.map_cons, List.map_nil, List.length_cons, List.length_nil, List.take_succ_cons, List.take_zero, List.drop_succ_cons, List.drop_zero]) | (refine ⟨by first | omega | (intros; simp_all; done) | (intros; simp_all; omega), ?_⟩; try simp only [go_sem, Nat.reduceAdd, Nat.reduceLeDiff, Nat.reduceSub, Int.reduceToNat, reduceCtorEq, rqR_len, hg, hw, Int.toNat_natCast, List.map_cons, List.map_nil, List.length_cons, List.length_nil, List.take_succ_cons, List.take_zero, List.drop_succ_cons, List.drop_zero]))
        refine AP.drawE 38 (Tree.node [] [0, 1, 2] [3] [Tree.node [] [4, 5, 6, 7, 8, 9, 10, 11, 12, 13, 14, 15, 16, 17, 18, 19, 20, 21, 22, 23, 24, 25, 26, 27, 28, 29, 30, 31, 32, 33, 34, 35, 36] [37] [Tree.node [] [] [] []]]) (by kernel_rfl) rfl (by kernel_rfl) (by kernel_rfl) ?_
        refine vd_node ?_
        simp only [go_sem, Nat.reduceAdd, Nat.reduceLeDiff, Nat.reduceSub, Int.reduceToNat, reduceCtorEq]
        repeat' (first | with_reducible exact True.intro | with_reducible refine And.intro (by omega) ?_ | with_reducible refine And.intro ?_ ?_ | (refine AQ.nx rfl ?_; simp only [go_sem, Nat.reduceAdd, Nat.reduceLeDiff, Nat.reduceSub, Int.reduceToNat, reduceCtorEq, false_imp_iff, and_true, true_and, and_self, rqR_len, hw0,  hz, hz2, hg0, hg, Int.toNat_natCast, List.map_cons, List.map_nil, List.length_cons, List.length_nil, List.take_succ_cons, List.take_zero, List.drop_succ_cons, List.drop_zero]) | refine AQ.fn_g (by kernel_rfl) rfl rfl (fun h => by first | (simp [gs, AV.g]; done) | (simp [gs, AV.g, constAV]; done) | (simp [gs, AV.g, constAV, bw] at h ⊢; done) | (simp [gs, AV.g, constAV, bw] at h ⊢; exact h) | (simp [gs, AV.g, constAV, bw] at h ⊢; simp [h]; done) | (simp [bw] at h; done) | (simp [gs, AV.g, bw] at h ⊢; simp [h]; done) | (simp [gs, AV.g, bw] at h ⊢; exact h.1) | (simp [gs, AV.g]; rfl) | (simp [gs, AV.g, bw] at h ⊢; rfl) | (simp [gs, AV.g, bw] at h ⊢; simp [h]; rfl) | (simp [gs, AV.g, bw] at h ⊢; simp_all)) rfl (fun _ => hrv) rfl ?_; simp only [go_sem, Nat.reduceAdd, Nat.reduceLeDiff, Nat.reduceSub, Int.reduceToNat, reduceCtorEq] | refine AQ.done ?_ | (refine AQ.go (by kernel_rfl) ?_; simp only [go_sem, Nat.reduceAdd, Nat.reduceLeDiff, Nat.reduceSub, Int.reduceToNat, reduceCtorEq, false_imp_iff, and_true, true_and, and_self, rqR_len, hw0,  hz, hz2, hg0, hg, Int.toNat_natCast, List.map_cons, List.map_nil, List.length_cons, List.length_nil, List.take_succ_cons, List.take_zero, List.drop_succ_cons, List.drop_zero]; repeat (with_reducible refine And.intro (by omega) ?_); refine AQ.nx rfl ?_; simp only [go_sem, Nat.reduceAdd, Nat.reduceLeDiff, Nat.reduceSub, Int.reduceToNat, reduceCtorEq, false_imp_iff, and_true, true_and, and_self, rqR_len, hw0,  hz, hz2, hg0, hg, Int.toNat_natCast, List.map_cons, List.map_nil, List.length_cons, List.length_nil, List.take_succ_cons, List.take_zero, List.drop_succ_cons, List.drop_zero]))
        · exact fun h => ⟨h, h, by omega, by omega⟩
        repeat (first | refine xA ?_ | refine xB ?_ | refine xC ?_ | refine xE ?_ | refine xD ?_ | refine xK ?_ | refine xS ?_ | refine xM ?_ | refine xT ?_ | refine xF ?_ | ((first | refine xR ?_ | refine xW ?_ | refine vq_id ?_); simp only [go_sem, Nat.reduceAdd, Nat.reduceLeDiff, Nat.reduceSub, Int.reduceToNat, reduceCtorEq, hw]) | (refine ⟨by first | omega | (intros; simp_all; done) | (intros; simp_all; omega), ?_⟩; try simp only [go_sem, Nat.reduceAdd, Nat.reduceLeDiff, Nat.reduceSub, Int.reduceToNat, reduceCtorEq, hw]))
        refine AE.forgets [0] rfl ?_
        simp only [go_sem, Nat.reduceAdd, Nat.reduceLeDiff, Nat.reduceSub, Int.reduceToNat, reduceCtorEq]
        exact AE.round (j + 1 + 1, v && decide (r.n < n) && decide (r0.n < r.n)) ⟨by show j + 1 + 1 ≤ l.length; omega, rows_step hm hrows (by simp [srvRow, hv, and_assoc, nAt_eq hm0])⟩ (by show l.length - (j + 1 + 1) < l.length - (j + 1); omega) (by repeat (first | exact Sub.nil _ | refine Sub.cons rfl ?_)) rfl
  have hke : k = l.length := by simp at hc; omega
  have hrows' : c = true ↔ (srvHead p w n l ∧ byesB p l = true) ∧ ∀ i r, l[i]? = some r → srvRow n l i r := by
    rw [hrows]
    constructor
    · rintro ⟨h1, h2⟩
      exact ⟨h1, fun i r hr => h2 i (by rw [hke]; exact (List.getElem?_eq_some_iff.1 hr).1) r hr⟩
    · rintro ⟨h1, h2⟩
      exact ⟨h1, fun i _ r hr => h2 i r hr⟩
  repeat (first | refine xA ?_ | refine xB ?_ | refine xC ?_ | refine xE ?_ | refine xD ?_ | refine xK ?_ | refine xS ?_ | refine xM ?_ | refine xT ?_ | refine xF ?_ | ((first | refine xR ?_ | refine xW ?_ | refine vq_id ?_); simp only [go_sem, Nat.reduceAdd, Nat.reduceLeDiff, Nat.reduceSub, Int.reduceToNat, reduceCtorEq]) | (refine ⟨by first | omega | (intros; simp_all; done) | (intros; simp_all; omega), ?_⟩; try simp only [go_sem, Nat.reduceAdd, Nat.reduceLeDiff, Nat.reduceSub, Int.reduceToNat, reduceCtorEq]))
  refine AP.cond rfl rfl (fun hp => ?_) (fun hp => ?_)
  · have hp' : p = 0 := by simpa using hp
    have e := srvE_of (p := p) (nm := nm) (w := w) (n := n) (l := l) (b := c && (nm == []) && (n == 1)) (by
      simp only [Bool.and_eq_true, hrows', beq_iff_eq, srvP, if_pos hp']
      simp only [and_assoc])
    rw [e]
    repeat (first | refine xA ?_ | refine xB ?_ | refine xC ?_ | refine xE ?_ | refine xD ?_ | refine xK ?_ | refine xS ?_ | refine xM ?_ | refine xT ?_ | refine xF ?_ | ((first | refine xR ?_ | refine xW ?_ | refine vq_id ?_); simp only [go_sem, Nat.reduceAdd, Nat.reduceLeDiff, Nat.reduceSub, Int.reduceToNat, reduceCtorEq]) | (refine ⟨by first | omega | (intros; simp_all; done) | (intros; simp_all; omega), ?_⟩; try simp only [go_sem, Nat.reduceAdd, Nat.reduceLeDiff, Nat.reduceSub, Int.reduceToNat, reduceCtorEq]))
    refine AP.cond rfl rfl (fun h1 => ?_) (fun h1 => ?_)
    · have h1' : (c && nm == [] && n == 1) = false := (by rwa [Bool.not_eq_true'] at h1)
      rw [h1']
      repeat (first | refine xA ?_ | refine xB ?_ | refine xC ?_ | refine xE ?_ | refine xD ?_ | refine xK ?_ | refine xS ?_ | refine xM ?_ | refine xT ?_ | refine xF ?_ | ((first | refine xR ?_ | refine xW ?_ | refine vq_id ?_); simp only [go_sem, Nat.reduceAdd, Nat.reduceLeDiff, Nat.reduceSub, Int.reduceToNat, reduceCtorEq]) | (refine ⟨by first | omega | (intros; simp_all; done) | (intros; simp_all; omega), ?_⟩; try simp only [go_sem, Nat.reduceAdd, Nat.reduceLeDiff, Nat.reduceSub, Int.reduceToNat, reduceCtorEq]))
      exact AE.ret0 rfl ⟨rfl, trivial⟩ rfl ⟨rfl, rfl⟩
    · have h1' : (c && nm == [] && n == 1) = true := (by rwa [Bool.not_eq_false'] at h1)
      rw [h1']
      repeat (first | refine xA ?_ | refine xB ?_ | refine xC ?_ | refine xE ?_ | refine xD ?_ | refine xK ?_ | refine xS ?_ | refine xM ?_ | refine xT ?_ | refine xF ?_ | ((first | refine xR ?_ | refine xW ?_ | refine vq_id ?_); simp only [go_sem, Nat.reduceAdd, Nat.reduceLeDiff, Nat.reduceSub, Int.reduceToNat, reduceCtorEq]) | (refine ⟨by first | omega | (intros; simp_all; done) | (intros; simp_all; omega), ?_⟩; try simp only [go_sem, Nat.reduceAdd, Nat.reduceLeDiff, Nat.reduceSub, Int.reduceToNat, reduceCtorEq]))
      exact AE.ret0 rfl ⟨rfl, trivial⟩ rfl ⟨rfl, rfl⟩
  have hp' : p ≠ 0 := by simpa using hp
  have hs := isSymbol_spec nm hnm
  have e := srvE_of (p := p) (nm := nm) (w := w) (n := n) (l := l) (b := c && onlyOk nm [2, 3] && decide (1 < n)) (by
    simp only [Bool.and_eq_true, hrows', decide_eq_true_eq, srvP, if_neg hp']
    simp only [and_assoc])
  rw [e]
  cases c with
  | false =>
    repeat (first | refine xA ?_ | refine xB ?_ | refine xC ?_ | refine xE ?_ | refine xD ?_ | refine xK ?_ | refine xS ?_ | refine xM ?_ | refine xT ?_ | refine xF ?_ | ((first | refine xR ?_ | refine xW ?_ | refine vq_id ?_); simp only [go_sem, Nat.reduceAdd, Nat.reduceLeDiff, Nat.reduceSub, Int.reduceToNat, reduceCtorEq]) | (refine ⟨by first | omega | (intros; simp_all; done) | (intros; simp_all; omega), ?_⟩; try simp only [go_sem, Nat.reduceAdd, Nat.reduceLeDiff, Nat.reduceSub, Int.reduceToNat, reduceCtorEq]))
    exact AE.ret0 rfl ⟨rfl, trivial⟩ rfl ⟨rfl, rfl⟩
  | true =>
    repeat (first | refine xA ?_ | refine xB ?_ | refine xC ?_ | refine xE ?_ | refine xD ?_ | refine xK ?_ | refine xS ?_ | refine xM ?_ | refine xT ?_ | refine xF ?_ | ((first | refine xR ?_ | refine xW ?_ | refine vq_id ?_); simp only [go_sem, Nat.reduceAdd, Nat.reduceLeDiff, Nat.reduceSub, Int.reduceToNat, reduceCtorEq]) | (refine ⟨by first | omega | (intros; simp_all; done) | (intros; simp_all; omega), ?_⟩; try simp only [go_sem, Nat.reduceAdd, Nat.reduceLeDiff, Nat.reduceSub, Int.reduceToNat, reduceCtorEq]))
    refine AQ.guard_yes (by simp only [go_sem]) ?_
    refine AQ.fn_g (by kernel_rfl) rfl rfl (fun h => by first | (simp [gs, AV.g]; done) | (simp [gs, AV.g, constAV]; done) | (simp [gs, AV.g, constAV, bw] at h ⊢; done) | (simp [gs, AV.g, constAV, bw] at h ⊢; exact h) | (simp [gs, AV.g, constAV, bw] at h ⊢; simp [h]; done) | (simp [bw] at h; done) | (simp [gs, AV.g, bw] at h ⊢; simp [h]; done) | (simp [gs, AV.g, bw] at h ⊢; exact h.1) | (simp [gs, AV.g]; rfl) | (simp [gs, AV.g, bw] at h ⊢; rfl) | (simp [gs, AV.g, bw] at h ⊢; simp [h]; rfl) | (simp [gs, AV.g, bw] at h ⊢; simp_all)) rfl (fun _ => hs) rfl ?_
    repeat (first | refine xA ?_ | refine xB ?_ | refine xC ?_ | refine xE ?_ | refine xD ?_ | refine xK ?_ | refine xS ?_ | refine xM ?_ | refine xT ?_ | refine xF ?_ | ((first | refine xR ?_ | refine xW ?_ | refine vq_id ?_); simp only [go_sem, Nat.reduceAdd, Nat.reduceLeDiff, Nat.reduceSub, Int.reduceToNat, reduceCtorEq]) | (refine ⟨by first | omega | (intros; simp_all; done) | (intros; simp_all; omega), ?_⟩; try simp only [go_sem, Nat.reduceAdd, Nat.reduceLeDiff, Nat.reduceSub, Int.reduceToNat, reduceCtorEq]))
    refine AP.cond rfl rfl (fun h1 => ?_) (fun h1 => ?_)
    · have h1' : (onlyOk nm [2, 3] && decide (1 < n)) = false := (by rwa [Bool.not_eq_true'] at h1)
      rw [h1']
      repeat (first | refine xA ?_ | refine xB ?_ | refine xC ?_ | refine xE ?_ | refine xD ?_ | refine xK ?_ | refine xS ?_ | refine xM ?_ | refine xT ?_ | refine xF ?_ | ((first | refine xR ?_ | refine xW ?_ | refine vq_id ?_); simp only [go_sem, Nat.reduceAdd, Nat.reduceLeDiff, Nat.reduceSub, Int.reduceToNat, reduceCtorEq]) | (refine ⟨by first | omega | (intros; simp_all; done) | (intros; simp_all; omega), ?_⟩; try simp only [go_sem, Nat.reduceAdd, Nat.reduceLeDiff, Nat.reduceSub, Int.reduceToNat, reduceCtorEq]))
      exact AE.ret0 rfl ⟨rfl, trivial⟩ rfl ⟨rfl, rfl⟩
    · have h1' : (onlyOk nm [2, 3] && decide (1 < n)) = true := (by rwa [Bool.not_eq_false'] at h1)
      rw [h1']
      repeat (first | refine xA ?_ | refine xB ?_ | refine xC ?_ | refine xE ?_ | refine xD ?_ | refine xK ?_ | refine xS ?_ | refine xM ?_ | refine xT ?_ | refine xF ?_ | ((first | refine xR ?_ | refine xW ?_ | refine vq_id ?_); simp only [go_sem, Nat.reduceAdd, Nat.reduceLeDiff, Nat.reduceSub, Int.reduceToNat, reduceCtorEq]) | (refine ⟨by first | omega | (intros; simp_all; done) | (intros; simp_all; omega), ?_⟩; try simp only [go_sem, Nat.reduceAdd, Nat.reduceLeDiff, Nat.reduceSub, Int.reduceToNat, reduceCtorEq]))
      exact AE.ret0 rfl ⟨rfl, trivial⟩ rfl ⟨rfl, rfl⟩
end Go.Proofs.YtlpcdpjkdodmcaaGreatDoor
end

section
namespace Go.Proofs.YtlpcdpjkdodmcaaGreatDoor
open Go Go.AL Go.RowKit
set_option maxRecDepth 10000
set_option maxHeartbeats 4000000
def rdy : Int → List Rq → Int × List Rq × List Msg
  | p, [] => (p, [], [])
  | p, r :: l => if r.a = true then ((rdy (if r.k = 6 then 3 else p) l).1, (rdy (if r.k = 6 then 3 else p) l).2.1, (r.ak, r.an, r.ab) :: (rdy (if r.k = 6 then 3 else p) l).2.2) else (p, r :: l, [])
abbrev srvO (p : Int) (nm : List UInt8) (w n : Int) (l : List Rq) : Ob := .var 24 [Iv p, Sv nm, Iv w, Iv n, .im (.sl 8 (rqR l))]
theorem ready_spec (p : Int) (nm : List UInt8) (w n : Int) (l : List Rq) : ACall Tryz.prog 70 [.ob 0 0] [(0, srvO p nm w n l)] (fun r H' => r = .fn 84 [] [.ob 1 0] ∧ H' = [(1, .var 138 [.ob 0 0]), (0, srvO p nm w n l)]) := by
  refine ACall.walk [0, 1, 2] [1] Tryz.func70 rfl Tryz.ntmps70 (by kernel_rfl) (by rfl) rfl fun W own I0 φ0 lay => ?_
  repeat (first | refine xA ?_ | refine xB ?_ | refine xC ?_ | refine xE ?_ | refine xD ?_ | refine xK ?_ | refine xS ?_ | refine xM ?_ | refine xT ?_ | refine xF ?_ | ((first | refine xR ?_ | refine xW ?_ | refine vq_id ?_); simp only [go_sem, Nat.reduceAdd, Nat.reduceLeDiff, Nat.reduceSub, Int.reduceToNat, reduceCtorEq]) | (refine ⟨by first | omega | (intros; simp_all; done) | (intros; simp_all; omega), ?_⟩; try simp only [go_sem, Nat.reduceAdd, Nat.reduceLeDiff, Nat.reduceSub, Int.reduceToNat, reduceCtorEq]))
  exact AE.ret rfl ⟨rfl, trivial⟩ ⟨rfl, rfl⟩
noncomputable abbrev rdH (q : Nat) (p : Int) (nm : List UInt8) (w n : Int) (l : List Rq) (outs : List Msg) : Heap :=
  [(4, .lp q 13 .ready Tryz.f83 [0, 1, 0, 1] [7] [(2, .ob 2 0)]), (3, .vec 26 3 (msgR outs)), (2, .var 41 [.os 3 3 0 outs.length]), (1, .var 138 [.ob 0 0]), (0, srvO p nm w n l)]
theorem seq_round (q : Nat) (r : Rq) (p : Int) (nm : List UInt8) (w n : Int) (l : List Rq) (outs : List Msg) (hl : outs.length ≤ 1000000000) (a b : Int) (c : List UInt8) :
    YCallN Tryz.prog 3 q [.agg [Iv a, Iv b, Sv c]] ((5, .var 82 [.im (Ii r.n), .im (Ii r.k), .im (Si r.b), .im (.v (.bool r.c)), .im (.v (.bool true)), .im (Ii r.ak), .im (Ii r.an), .im (Si r.ab)]) :: rdH q p nm w n l outs) (fun z H' => z = Bv true ∧ H' = (5, .var 82 [.im (Ii r.n), .im (Ii r.k), .im (Si r.b), .im (.v (.bool r.c)), .im (.v (.bool true)), .im (Ii r.ak), .im (Ii r.an), .im (Si r.ab)]) :: rdH q p nm w n l (outs ++ [(a, b, c)])) := by
  refine YCallN.walk (b := 4) [0, 1, 2, 4, 5, 6, 7] [] rfl rfl rfl fun w0 own I0 φ0 lay => ?_
  simp only [go_sem, Nat.reduceAdd, Nat.reduceLeDiff, Nat.reduceSub, Int.reduceToNat, reduceCtorEq, zipP]
  repeat (first | refine xA ?_ | refine xB ?_ | refine xC ?_ | refine xE ?_ | refine xD ?_ | refine xK ?_ | refine xS ?_ | refine xM ?_ | refine xT ?_ | refine xF ?_ | ((first | refine xR ?_ | refine xW ?_ | refine vq_id ?_); simp only [go_sem, Nat.reduceAdd, Nat.reduceLeDiff, Nat.reduceSub, Int.reduceToNat, reduceCtorEq]) | (refine ⟨by first | omega | (intros; simp_all; done) | (intros; simp_all; omega), ?_⟩; try simp only [go_sem, Nat.reduceAdd, Nat.reduceLeDiff, Nat.reduceSub, Int.reduceToNat, reduceCtorEq]))
  refine AE.begin (b := 4) rfl rfl _ ?_
  simp only [go_sem, Nat.reduceAdd, Nat.reduceLeDiff, Nat.reduceSub, Int.reduceToNat, reduceCtorEq]
  repeat (first | refine xA ?_ | refine xB ?_ | refine xC ?_ | refine xE ?_ | refine xD ?_ | refine xK ?_ | refine xS ?_ | refine xM ?_ | refine xT ?_ | refine xF ?_ | ((first | refine xR ?_ | refine xW ?_ | refine vq_id ?_); simp only [go_sem, Nat.reduceAdd, Nat.reduceLeDiff, Nat.reduceSub, Int.reduceToNat, reduceCtorEq]) | (refine ⟨by first | omega | (intros; simp_all; done) | (intros; simp_all; omega), ?_⟩; try simp only [go_sem, Nat.reduceAdd, Nat.reduceLeDiff, Nat.reduceSub, Int.reduceToNat, reduceCtorEq]))
  refine AQ.kill 3 ?_
  simp only [go_sem, Nat.reduceAdd, Nat.reduceLeDiff, Nat.reduceSub, Int.reduceToNat, reduceCtorEq]
  refine AQ.append (hnb := rfl) (rows := msgR outs) (es := 2) (by kernel_rfl) rfl rfl rfl (by rfl) Tryz.tk41 Tryz.sz26 (by show Option.map _ (zro Tryz.prog 26) = _; rw [Tryz.zr26]; rfl) Tryz.by26 (by rw [msgR_len]) (by rw [msgR_len]; simp only [List.length_cons, List.length_nil]; omega) (by rw [msgR_len]; simp only [List.length_cons, List.length_nil]; omega) ?_
  simp only [go_sem, Nat.reduceAdd, Nat.reduceLeDiff, Nat.reduceSub, Int.reduceToNat, reduceCtorEq, msgR_len, List.length_cons, List.length_nil]
  repeat (first | refine xA ?_ | refine xB ?_ | refine xC ?_ | refine xE ?_ | refine xD ?_ | refine xK ?_ | refine xS ?_ | refine xM ?_ | refine xT ?_ | refine xF ?_ | ((first | refine xR ?_ | refine xW ?_ | refine vq_id ?_); simp only [go_sem, Nat.reduceAdd, Nat.reduceLeDiff, Nat.reduceSub, Int.reduceToNat, reduceCtorEq]) | (refine ⟨by first | omega | (intros; simp_all; done) | (intros; simp_all; omega), ?_⟩; try simp only [go_sem, Nat.reduceAdd, Nat.reduceLeDiff, Nat.reduceSub, Int.reduceToNat, reduceCtorEq]))
  refine AE.forgets [6] rfl ?_
  simp only [go_sem, Nat.reduceAdd, Nat.reduceLeDiff, Nat.reduceSub, Int.reduceToNat, reduceCtorEq]
  refine AE.roundEnd (b := 4) rfl ⟨rfl, ?_⟩
  simp only [hset, rdH, show msgR (outs ++ [(a, b, c)]) = msgR outs ++ [[Ii a, Ii b, Si c]] from by simp [msgR], List.length_append, List.length_cons, List.length_nil]
  rfl
theorem rd_walk (q : Nat) (p : Int) (nm : List UInt8) (w n : Int) (l : List Rq) (hl : l.length ≤ 1000000) :
    ACallN Tryz.prog 3 84 [Yl q, .ob 1 0] (rdH q p nm w n l []) (fun _ H' => H' = rdH q (rdy p l).1 nm w n (rdy p l).2.1 (rdy p l).2.2) := by
  refine ACallN.walk [0, 1, 3, 18, 35, 43] [3] Tryz.func84 rfl Tryz.ntmps84 (by kernel_rfl) (by rfl) fun W own I0 φ0 lay => ?_
  repeat (first | refine xA ?_ | refine xB ?_ | refine xC ?_ | refine xE ?_ | refine xD ?_ | refine xK ?_ | refine xS ?_ | refine xM ?_ | refine xT ?_ | refine xF ?_ | ((first | refine xR ?_ | refine xW ?_ | refine vq_id ?_); simp only [go_sem, Nat.reduceAdd, Nat.reduceLeDiff, Nat.reduceSub, Int.reduceToNat, reduceCtorEq]) | (refine ⟨by first | omega | (intros; simp_all; done) | (intros; simp_all; omega), ?_⟩; try simp only [go_sem, Nat.reduceAdd, Nat.reduceLeDiff, Nat.reduceSub, Int.reduceToNat, reduceCtorEq]))
  refine AP.loop rfl (α := Int × List Rq × List Msg) (fun s => [(0, Yl q), (1, .ob 1 0)]) (fun s => rdH q s.1 nm w n s.2.1 s.2.2) (fun s => (rdy s.1 s.2.1).1 = (rdy p l).1 ∧ (rdy s.1 s.2.1).2.1 = (rdy p l).2.1 ∧ s.2.2 ++ (rdy s.1 s.2.1).2.2 = (rdy p l).2.2 ∧ s.2.1.length + s.2.2.length ≤ 1000000) (fun s => s.2.1.length) (p, l, []) ⟨rfl, rfl, rfl, by simpa using hl⟩ (by repeat (first | exact Sub.nil _ | refine Sub.cons rfl ?_)) rfl fun ⟨p1, l1, o1⟩ ⟨h1, h2, h3, h4⟩ => ?_
  simp only at h1 h2 h3 h4
  cases l1 with
  | nil =>
    repeat (first | refine xA ?_ | refine xB ?_ | refine xC ?_ | refine xE ?_ | refine xD ?_ | refine xK ?_ | refine xS ?_ | refine xM ?_ | refine xT ?_ | refine xF ?_ | ((first | refine xR ?_ | refine xW ?_ | refine vq_id ?_); simp only [go_sem, Nat.reduceAdd, Nat.reduceLeDiff, Nat.reduceSub, Int.reduceToNat, reduceCtorEq, rqR_len, List.length_nil]) | (refine ⟨by first | omega | (intros; simp_all; done) | (intros; simp_all; omega), ?_⟩; try simp only [go_sem, Nat.reduceAdd, Nat.reduceLeDiff, Nat.reduceSub, Int.reduceToNat, reduceCtorEq, rqR_len, List.length_nil]))
    refine AE.fall rfl trivial ?_
    simp only [rdy, List.append_nil] at h1 h2 h3
    rw [h1, ← h2, h3]
  | cons r tl =>
    have hg0 : (rqR (r :: tl)).getD 0 [] = [Ii r.n, Ii r.k, Si r.b, .v (.bool r.c), .v (.bool r.a), Ii r.ak, Ii r.an, Si r.ab] := rfl
    have hd1 : (rqR (r :: tl)).drop 1 = rqR tl := rfl
    have hz : decide (0 < ((tl.length + 1 : Nat) : Int)) = true := by simp
    obtain ⟨a, ha⟩ : ∃ a, r.a = a := ⟨_, rfl⟩
    cases a with
    | false =>
      repeat (first | refine xA ?_ | refine xB ?_ | refine xC ?_ | refine xE ?_ | refine xD ?_ | refine xK ?_ | refine xS ?_ | refine xM ?_ | refine xT ?_ | refine xF ?_ | ((first | refine xR ?_ | refine xW ?_ | refine vq_id ?_); simp only [go_sem, Nat.reduceAdd, Nat.reduceLeDiff, Nat.reduceSub, Int.reduceToNat, reduceCtorEq, rqR_len, ha, List.length_cons, hz, hg0, List.map_cons, List.map_nil, List.length_nil, List.take_succ_cons, List.take_zero, List.drop_succ_cons, List.drop_zero]) | (refine ⟨by first | omega | (intros; simp_all; done) | (intros; simp_all; omega), ?_⟩; try simp only [go_sem, Nat.reduceAdd, Nat.reduceLeDiff, Nat.reduceSub, Int.reduceToNat, reduceCtorEq, rqR_len, ha, List.length_cons, hz, hg0, List.map_cons, List.map_nil, List.length_nil, List.take_succ_cons, List.take_zero, List.drop_succ_cons, List.drop_zero]))
      refine AE.fall rfl trivial ?_
      have e : rdy p1 (r :: tl) = (p1, r :: tl, []) := by rw [rdy, if_neg (by rw [ha]; decide)]
      rw [e] at h1 h2 h3
      simp only [List.append_nil] at h1 h2 h3
      rw [h1, ← h2, h3]
    | true =>
      simp only [List.length_cons] at h4
      have e : rdy p1 (r :: tl) = ((rdy (if r.k = 6 then 3 else p1) tl).1, (rdy (if r.k = 6 then 3 else p1) tl).2.1, (r.ak, r.an, r.ab) :: (rdy (if r.k = 6 then 3 else p1) tl).2.2) := by rw [rdy, if_pos ha]
      rw [e] at h1 h2 h3
      simp only at h1 h2 h3
      repeat (first | refine xA ?_ | refine xB ?_ | refine xC ?_ | refine xE ?_ | refine xD ?_ | refine xK ?_ | refine xS ?_ | refine xM ?_ | refine xT ?_ | refine xF ?_ | ((first | refine xR ?_ | refine xW ?_ | refine vq_id ?_); simp only [go_sem, Nat.reduceAdd, Nat.reduceLeDiff, Nat.reduceSub, Int.reduceToNat, reduceCtorEq, rqR_len, ha, hd1, List.length_cons, hz, hg0, List.map_cons, List.map_nil, List.length_nil, List.take_succ_cons, List.take_zero, List.drop_succ_cons, List.drop_zero]) | (refine ⟨by first | omega | (intros; simp_all; done) | (intros; simp_all; omega), ?_⟩; try simp only [go_sem, Nat.reduceAdd, Nat.reduceLeDiff, Nat.reduceSub, Int.reduceToNat, reduceCtorEq, rqR_len, ha, hd1, List.length_cons, hz, hg0, List.map_cons, List.map_nil, List.length_nil, List.take_succ_cons, List.take_zero, List.drop_succ_cons, List.drop_zero]))
      refine AP.drawE 9 (Tree.node [] [0, 1, 2, 3, 4, 5, 6, 7] [8] [Tree.node [] [] [] []]) (by kernel_rfl) rfl (by kernel_rfl) (by kernel_rfl) ?_
      refine vd_node ?_
      simp only [go_sem, Nat.reduceAdd, Nat.reduceLeDiff, Nat.reduceSub, Int.reduceToNat, reduceCtorEq, rqR_len, hd1, rdH, List.length_cons]
      refine ⟨⟨by omega, by omega⟩, ?_⟩
      repeat' (first | with_reducible exact True.intro | with_reducible refine And.intro (by omega) ?_ | with_reducible refine And.intro ?_ ?_ | (refine AQ.nx rfl ?_; simp only [go_sem, Nat.reduceAdd, Nat.reduceLeDiff, Nat.reduceSub, Int.reduceToNat, reduceCtorEq, hd1]) | refine AQ.skip (by kernel_rfl) rfl ?_ | refine AQ.done ?_ | (refine AQ.go (by kernel_rfl) ?_; simp only [go_sem, Nat.reduceAdd, Nat.reduceLeDiff, Nat.reduceSub, Int.reduceToNat, reduceCtorEq, hd1]; repeat (with_reducible refine And.intro (by omega) ?_); refine AQ.nx rfl ?_; simp only [go_sem, Nat.reduceAdd, Nat.reduceLeDiff, Nat.reduceSub, Int.reduceToNat, reduceCtorEq, hd1]))
      repeat (first | refine xA ?_ | refine xB ?_ | refine xC ?_ | refine xE ?_ | refine xD ?_ | refine xK ?_ | refine xS ?_ | refine xM ?_ | refine xT ?_ | refine xF ?_ | ((first | refine xR ?_ | refine xW ?_ | refine vq_id ?_); simp only [go_sem, Nat.reduceAdd, Nat.reduceLeDiff, Nat.reduceSub, Int.reduceToNat, reduceCtorEq]) | (refine ⟨by first | omega | (intros; simp_all; done) | (intros; simp_all; omega), ?_⟩; try simp only [go_sem, Nat.reduceAdd, Nat.reduceLeDiff, Nat.reduceSub, Int.reduceToNat, reduceCtorEq]))
      refine AP.cond rfl rfl (fun hk6 => ?_) (fun hk6 => ?_)
      · have hk6' : r.k = 6 := by simpa using hk6
        rw [if_pos hk6'] at h1 h2 h3
        have hy := seq_round q r 3 nm w n tl o1 (by omega) r.ak r.an r.ab
        repeat (first | refine xA ?_ | refine xB ?_ | refine xC ?_ | refine xE ?_ | refine xD ?_ | refine xK ?_ | refine xS ?_ | refine xM ?_ | refine xT ?_ | refine xF ?_ | ((first | refine xR ?_ | refine xW ?_ | refine vq_id ?_); simp only [go_sem, Nat.reduceAdd, Nat.reduceLeDiff, Nat.reduceSub, Int.reduceToNat, reduceCtorEq]) | (refine ⟨by first | omega | (intros; simp_all; done) | (intros; simp_all; omega), ?_⟩; try simp only [go_sem, Nat.reduceAdd, Nat.reduceLeDiff, Nat.reduceSub, Int.reduceToNat, reduceCtorEq]))
        refine AQ.yieldN 3 rfl (by kernel_rfl) rfl ⟨rfl, rfl⟩ rfl rfl hy (fun r H' h => by rw [h.2]; exact lowSame.of _ _ _ rfl) fun r H' h => ?_
        obtain ⟨rfl, rfl⟩ := h
        simp only [go_sem, Nat.reduceAdd, Nat.reduceLeDiff, Nat.reduceSub, Int.reduceToNat, reduceCtorEq]
        refine AQ.go (by kernel_rfl) ?_
        simp only [go_sem, Nat.reduceAdd, Nat.reduceLeDiff, Nat.reduceSub, Int.reduceToNat, reduceCtorEq]
        repeat (first | refine xA ?_ | refine xB ?_ | refine xC ?_ | refine xE ?_ | refine xD ?_ | refine xK ?_ | refine xS ?_ | refine xM ?_ | refine xT ?_ | refine xF ?_ | ((first | refine xR ?_ | refine xW ?_ | refine vq_id ?_); simp only [go_sem, Nat.reduceAdd, Nat.reduceLeDiff, Nat.reduceSub, Int.reduceToNat, reduceCtorEq]) | (refine ⟨by first | omega | (intros; simp_all; done) | (intros; simp_all; omega), ?_⟩; try simp only [go_sem, Nat.reduceAdd, Nat.reduceLeDiff, Nat.reduceSub, Int.reduceToNat, reduceCtorEq]))
        refine AE.forgets [5] rfl ?_
        simp only [go_sem, Nat.reduceAdd, Nat.reduceLeDiff, Nat.reduceSub, Int.reduceToNat, reduceCtorEq]
        refine AE.round (3, tl, o1 ++ [(r.ak, r.an, r.ab)]) ⟨h1, h2, ?_, ?_⟩ ?_ (by repeat (first | exact Sub.nil _ | refine Sub.cons rfl ?_)) rfl
        · rw [← h3, List.append_assoc]; rfl
        · simp only [List.length_append, List.length_cons, List.length_nil]; omega
        · simp only [List.length_cons]; omega
      have hk6' : r.k ≠ 6 := by simpa using hk6
      rw [if_neg hk6'] at h1 h2 h3
      have hy := seq_round q r p1 nm w n tl o1 (by omega) r.ak r.an r.ab
      repeat (first | refine xA ?_ | refine xB ?_ | refine xC ?_ | refine xE ?_ | refine xD ?_ | refine xK ?_ | refine xS ?_ | refine xM ?_ | refine xT ?_ | refine xF ?_ | ((first | refine xR ?_ | refine xW ?_ | refine vq_id ?_); simp only [go_sem, Nat.reduceAdd, Nat.reduceLeDiff, Nat.reduceSub, Int.reduceToNat, reduceCtorEq]) | (refine ⟨by first | omega | (intros; simp_all; done) | (intros; simp_all; omega), ?_⟩; try simp only [go_sem, Nat.reduceAdd, Nat.reduceLeDiff, Nat.reduceSub, Int.reduceToNat, reduceCtorEq]))
      refine AQ.yieldN 3 rfl (by kernel_rfl) rfl ⟨rfl, rfl⟩ rfl rfl hy (fun r H' h => by rw [h.2]; exact lowSame.of _ _ _ rfl) fun r H' h => ?_
      obtain ⟨rfl, rfl⟩ := h
      simp only [go_sem, Nat.reduceAdd, Nat.reduceLeDiff, Nat.reduceSub, Int.reduceToNat, reduceCtorEq]
      refine AQ.go (by kernel_rfl) ?_
      simp only [go_sem, Nat.reduceAdd, Nat.reduceLeDiff, Nat.reduceSub, Int.reduceToNat, reduceCtorEq]
      repeat (first | refine xA ?_ | refine xB ?_ | refine xC ?_ | refine xE ?_ | refine xD ?_ | refine xK ?_ | refine xS ?_ | refine xM ?_ | refine xT ?_ | refine xF ?_ | ((first | refine xR ?_ | refine xW ?_ | refine vq_id ?_); simp only [go_sem, Nat.reduceAdd, Nat.reduceLeDiff, Nat.reduceSub, Int.reduceToNat, reduceCtorEq]) | (refine ⟨by first | omega | (intros; simp_all; done) | (intros; simp_all; omega), ?_⟩; try simp only [go_sem, Nat.reduceAdd, Nat.reduceLeDiff, Nat.reduceSub, Int.reduceToNat, reduceCtorEq]))
      refine AE.forgets [5] rfl ?_
      simp only [go_sem, Nat.reduceAdd, Nat.reduceLeDiff, Nat.reduceSub, Int.reduceToNat, reduceCtorEq]
      refine AE.round (p1, tl, o1 ++ [(r.ak, r.an, r.ab)]) ⟨h1, h2, ?_, ?_⟩ ?_ (by repeat (first | exact Sub.nil _ | refine Sub.cons rfl ?_)) rfl
      · rw [← h3, List.append_assoc]; rfl
      · simp only [List.length_append, List.length_cons, List.length_nil]; omega
      · simp only [List.length_cons]; omega
end Go.Proofs.YtlpcdpjkdodmcaaGreatDoor
end

section
namespace Go.Proofs.YtlpcdpjkdodmcaaGreatDoor
open Go Go.AL Go.RowKit
set_option maxRecDepth 10000
set_option maxHeartbeats 4000000
theorem rdy_len : ∀ (p : Int) (l : List Rq), (rdy p l).2.1.length ≤ l.length ∧ (rdy p l).2.2.length ≤ l.length
  | p, [] => by simp [rdy]
  | p, r :: l => by
    have := rdy_len (if r.k = 6 then 3 else p) l
    rw [rdy]
    split
    · simp only [List.length_cons]; omega
    · simp
theorem seq_spec (p : Int) (nm : List UInt8) (w n : Int) (l : List Rq) (hl : l.length ≤ 1000000) : ACall Tryz.prog 83 [nilS, .fn 84 [] [.ob 1 0]] [(1, .var 138 [.ob 0 0]), (0, srvO p nm w n l)]
    (fun z H' => z = .im (.sl 3 (msgR (rdy p l).2.2)) ∧ H' = [(1, .var 138 [.ob 0 0]), (0, srvO (rdy p l).1 nm w n (rdy p l).2.1)]) := by
  have hw := fun q => rd_walk q p nm w n l hl
  obtain ⟨⟨p2, l2, o2⟩, hz⟩ : ∃ z, rdy p l = z := ⟨_, rfl⟩
  rw [hz] at hw ⊢
  simp only at hw ⊢
  refine ACall.walk [0, 1, 2, 4, 5, 6, 7] [2, 5] Tryz.func83 rfl Tryz.ntmps83 (by kernel_rfl) (by rfl) rfl fun W own I0 φ0 lay => ?_
  repeat (first | refine xA ?_ | refine xB ?_ | refine xC ?_ | refine xE ?_ | refine xD ?_ | refine xK ?_ | refine xS ?_ | refine xM ?_ | refine xT ?_ | refine xF ?_ | ((first | refine xR ?_ | refine xW ?_ | refine vq_id ?_); simp only [go_sem, Nat.reduceAdd, Nat.reduceLeDiff, Nat.reduceSub, Int.reduceToNat, reduceCtorEq]) | (refine ⟨by first | omega | (intros; simp_all; done) | (intros; simp_all; omega), ?_⟩; try simp only [go_sem, Nat.reduceAdd, Nat.reduceLeDiff, Nat.reduceSub, Int.reduceToNat, reduceCtorEq]))
  refine AP.ownCell 2 0 26 3 rfl rfl ?_
  simp only [go_sem, Nat.reduceAdd, Nat.reduceLeDiff, Nat.reduceSub, Int.reduceToNat, reduceCtorEq]
  refine AP.rangeB 3 0 4 [(2, .ob 2 0)] (R := fun q _ H' => H' = rdH q p2 nm w n l2 o2) rfl rfl (by kernel_rfl) (by repeat (first | exact Sub.nil _ | refine Sub.cons rfl ?_)) trivial rfl (fun q => hw q) (fun q z H' hR => ?_)
  subst hR
  refine ⟨lowSame.of _ _ _ rfl, .ready, _, rfl, rfl, ?_⟩
  simp only [go_sem, Nat.reduceAdd, Nat.reduceLeDiff, Nat.reduceSub, Int.reduceToNat, reduceCtorEq, rdH]
  repeat (first | refine xA ?_ | refine xB ?_ | refine xC ?_ | refine xE ?_ | refine xD ?_ | refine xK ?_ | refine xS ?_ | refine xM ?_ | refine xT ?_ | refine xF ?_ | ((first | refine xR ?_ | refine xW ?_ | refine vq_id ?_); simp only [go_sem, Nat.reduceAdd, Nat.reduceLeDiff, Nat.reduceSub, Int.reduceToNat, reduceCtorEq]) | (refine ⟨by first | omega | (intros; simp_all; done) | (intros; simp_all; omega), ?_⟩; try simp only [go_sem, Nat.reduceAdd, Nat.reduceLeDiff, Nat.reduceSub, Int.reduceToNat, reduceCtorEq]))
  have hta : (msgR o2).take o2.length = msgR o2 := List.take_of_length_le (by rw [msgR_len]; exact Nat.le_refl _)
  refine AE.freeze 3 (rows := msgR o2) rfl (by simp [go_sem, msgR_len]) (by simp [go_sem, msgR_len]) ?_
  simp only [go_sem, Nat.reduceAdd, Nat.reduceLeDiff, Nat.reduceSub, Int.reduceToNat, reduceCtorEq, List.drop_zero, hta]
  exact AE.retD [2] rfl ⟨rfl, trivial⟩ rfl ⟨rfl, rfl⟩
theorem collect_spec (p : Int) (nm : List UInt8) (w n : Int) (l : List Rq) (hl : l.length ≤ 1000000) : ACall Tryz.prog 69 [.fn 84 [] [.ob 1 0]] [(1, .var 138 [.ob 0 0]), (0, srvO p nm w n l)]
    (fun z H' => z = .im (.sl 3 (msgR (rdy p l).2.2)) ∧ H' = [(1, .var 138 [.ob 0 0]), (0, srvO (rdy p l).1 nm w n (rdy p l).2.1)]) := by
  refine ACall.walk [0, 2] [] Tryz.func69 rfl Tryz.ntmps69 (by kernel_rfl) (by rfl) rfl fun W own I0 φ0 lay => ?_
  repeat (first | refine xA ?_ | refine xB ?_ | refine xC ?_ | refine xE ?_ | refine xD ?_ | refine xK ?_ | refine xS ?_ | refine xM ?_ | refine xT ?_ | refine xF ?_ | ((first | refine xR ?_ | refine xW ?_ | refine vq_id ?_); simp only [go_sem, Nat.reduceAdd, Nat.reduceLeDiff, Nat.reduceSub, Int.reduceToNat, reduceCtorEq]) | (refine ⟨by first | omega | (intros; simp_all; done) | (intros; simp_all; omega), ?_⟩; try simp only [go_sem, Nat.reduceAdd, Nat.reduceLeDiff, Nat.reduceSub, Int.reduceToNat, reduceCtorEq]))
  refine AQ.callH [(1, 1), (0, 0)] (by kernel_rfl) rfl rfl rfl rfl rfl rfl (by first | rfl | trivial | simp [passes]) rfl (seq_spec p nm w n l hl) fun z H1 ⟨h1, h2⟩ => ?_
  subst h1
  subst h2
  refine ⟨rfl, ?_⟩
  simp only [go_sem, Nat.reduceAdd, Nat.reduceLeDiff, Nat.reduceSub, Int.reduceToNat, reduceCtorEq]
  repeat (first | refine xA ?_ | refine xB ?_ | refine xC ?_ | refine xE ?_ | refine xD ?_ | refine xK ?_ | refine xS ?_ | refine xM ?_ | refine xT ?_ | refine xF ?_ | ((first | refine xR ?_ | refine xW ?_ | refine vq_id ?_); simp only [go_sem, Nat.reduceAdd, Nat.reduceLeDiff, Nat.reduceSub, Int.reduceToNat, reduceCtorEq]) | (refine ⟨by first | omega | (intros; simp_all; done) | (intros; simp_all; omega), ?_⟩; try simp only [go_sem, Nat.reduceAdd, Nat.reduceLeDiff, Nat.reduceSub, Int.reduceToNat, reduceCtorEq]))
  exact AE.ret rfl ⟨rfl, trivial⟩ ⟨rfl, rfl⟩
theorem sent_spec (p : Int) (nm : List UInt8) (w n : Int) (l : List Rq) (hl : l.length ≤ 1000000) : PFn Tryz.prog 42 [.agg [Iv p, Sv nm, Iv w, Iv n, .im (.sl 8 (rqR l))]]
    (.tup [.agg [Iv (rdy p l).1, Sv nm, Iv w, Iv n, .im (.sl 8 (rqR (rdy p l).2.1))], .im (.sl 3 (msgR (rdy p l).2.2)), Iv 0]) := by
  have hlen := rdy_len p l
  have hc := collect_spec p nm w n l hl
  obtain ⟨⟨p2, l2, o2⟩, hz⟩ : ∃ z, rdy p l = z := ⟨_, rfl⟩
  rw [hz] at hc hlen ⊢
  simp only at hc hlen ⊢
  refine ACall.walk [0, 1, 2, 3, 4, 5] [1, 2] Tryz.func42 rfl Tryz.ntmps42 (by kernel_rfl) (by rfl) rfl fun W own I0 φ0 lay => ?_
  repeat (first | refine xA ?_ | refine xB ?_ | refine xC ?_ | refine xE ?_ | refine xD ?_ | refine xK ?_ | refine xS ?_ | refine xM ?_ | refine xT ?_ | refine xF ?_ | ((first | refine xR ?_ | refine xW ?_ | refine vq_id ?_); simp only [go_sem, Nat.reduceAdd, Nat.reduceLeDiff, Nat.reduceSub, Int.reduceToNat, reduceCtorEq]) | (refine ⟨by first | omega | (intros; simp_all; done) | (intros; simp_all; omega), ?_⟩; try simp only [go_sem, Nat.reduceAdd, Nat.reduceLeDiff, Nat.reduceSub, Int.reduceToNat, reduceCtorEq]))
  refine AQ.callH [(0, 0)] (by kernel_rfl) rfl rfl rfl rfl rfl rfl (by exact ⟨rfl, trivial⟩) rfl (ready_spec p nm w n l) fun z H1 ⟨h1, h2⟩ => ?_
  subst h1
  subst h2
  refine ⟨rfl, ?_⟩
  simp only [go_sem, Nat.reduceAdd, Nat.reduceLeDiff, Nat.reduceSub, Int.reduceToNat, reduceCtorEq]
  refine AQ.callH [(1, 3), (0, 0)] (by kernel_rfl) rfl rfl rfl rfl rfl rfl (by exact ⟨rfl, rfl, trivial⟩) rfl hc fun z H1 ⟨h1, h2⟩ => ?_
  subst h1
  subst h2
  refine ⟨rfl, ?_⟩
  simp only [go_sem, Nat.reduceAdd, Nat.reduceLeDiff, Nat.reduceSub, Int.reduceToNat, reduceCtorEq]
  repeat (first | refine xA ?_ | refine xB ?_ | refine xC ?_ | refine xE ?_ | refine xD ?_ | refine xK ?_ | refine xS ?_ | refine xM ?_ | refine xT ?_ | refine xF ?_ | ((first | refine xR ?_ | refine xW ?_ | refine vq_id ?_); simp only [go_sem, Nat.reduceAdd, Nat.reduceLeDiff, Nat.reduceSub, Int.reduceToNat, reduceCtorEq]) | (refine ⟨by first | omega | (intros; simp_all; done) | (intros; simp_all; omega), ?_⟩; try simp only [go_sem, Nat.reduceAdd, Nat.reduceLeDiff, Nat.reduceSub, Int.reduceToNat, reduceCtorEq]))
  refine AQ.callv (by kernel_rfl) rfl rfl rfl (cloneQ_spec l2 (by omega)) fun r' H' ⟨e1, e2⟩ => ?_
  subst e1
  subst e2
  simp only [go_sem, Nat.reduceAdd, Nat.reduceLeDiff, Nat.reduceSub, Int.reduceToNat, reduceCtorEq]
  refine AQ.done ?_
  have hta : (rqR l2).take l2.length = rqR l2 := List.take_of_length_le (by rw [rqR_len]; exact Nat.le_refl _)
  refine AE.freeze 4 (rows := rqR l2) rfl (by simp [go_sem, rqR_len]) (by simp [go_sem, rqR_len]) ?_
  simp only [go_sem, Nat.reduceAdd, Nat.reduceLeDiff, Nat.reduceSub, Int.reduceToNat, reduceCtorEq, List.drop_zero, hta]
  repeat (first | refine xA ?_ | refine xB ?_ | refine xC ?_ | refine xE ?_ | refine xD ?_ | refine xK ?_ | refine xS ?_ | refine xM ?_ | refine xT ?_ | refine xF ?_ | ((first | refine xR ?_ | refine xW ?_ | refine vq_id ?_); simp only [go_sem, Nat.reduceAdd, Nat.reduceLeDiff, Nat.reduceSub, Int.reduceToNat, reduceCtorEq]) | (refine ⟨by first | omega | (intros; simp_all; done) | (intros; simp_all; omega), ?_⟩; try simp only [go_sem, Nat.reduceAdd, Nat.reduceLeDiff, Nat.reduceSub, Int.reduceToNat, reduceCtorEq]))
  exact AE.retD [3, 1, 0] rfl ⟨⟨rfl, Nat.le_of_ble_eq_true (by kernel_rfl)⟩, rfl, rfl, trivial⟩ rfl ⟨rfl, rfl⟩
end Go.Proofs.YtlpcdpjkdodmcaaGreatDoor
end
