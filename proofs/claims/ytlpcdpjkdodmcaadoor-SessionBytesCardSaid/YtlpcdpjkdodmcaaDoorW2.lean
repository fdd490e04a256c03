import Derived.Test.YtlpcdpjkdodmcaaDoorW1
import Derived.Test.YtlpcdpjkdodmcaaDoorCards
import Derived.Test.YtlpcdpjkdodmcaaDoorTie
import Derived.Stop.LaidErr
import Derived.Lib.LaidTab
set_option linter.unusedSimpArgs false
set_option linter.unusedVariables false
set_option linter.unnecessarySimpa false
section
namespace Go.Proofs.YtlpcdpjkdodmcaaDoor
open Go Go.AL Go.RowKit
set_option maxRecDepth 10000
set_option maxHeartbeats 4000000
abbrev Msg := Int × Int × List UInt8
def msgR (l : List Msg) : List (List IV) := l.map fun m => [Ii m.1, Ii m.2.1, Si m.2.2]
theorem msgR_len (l : List Msg) : (msgR l).length = l.length := by simp [msgR]
theorem msgR_snoc (l : List Msg) (m : Msg) : msgR l ++ [[Ii m.1, Ii m.2.1, Si m.2.2]] = msgR (l ++ [m]) := by simp [msgR]
theorem dec_n (l : List UInt8) : ∃ n : Nat, (decV l).2.1 = n ∧ (n = 0 ∨ 13 ≤ n ∧ n ≤ l.length) := by
  unfold decV
  split
  · exact ⟨0, rfl, .inl rfl⟩
  split
  · exact ⟨0, rfl, .inl rfl⟩
  split
  · exact ⟨0, rfl, .inl rfl⟩
  split
  · exact ⟨0, rfl, .inl rfl⟩
  split
  · exact ⟨0, rfl, .inl rfl⟩
  · exact ⟨of4 l + 4, rfl, .inr ⟨by omega, by omega⟩⟩
def feed (rest : List UInt8) (acc : List Msg) : List UInt8 × List Msg × Int :=
  if (decV rest).2.2 ≠ 0 then ([], [], (decV rest).2.2)
  else if h : (decV rest).2.1.toNat = 0 ∨ rest.length = 0 then (rest, acc, 0)
  else feed (rest.drop (decV rest).2.1.toNat) (acc ++ [(decV rest).1])
termination_by rest.length
decreasing_by rw [List.length_drop]; omega
def feedA (r : List UInt8 × List Msg × Int) : AV := if r.2.2 ≠ 0 then .tup [.agg [nilS], nilS, Iv r.2.2] else .tup [.agg [.im (.sl 1 (byteR r.1))], .im (.sl 3 (msgR r.2.1)), Iv 0]
theorem feed_spec (a b : List UInt8) (hl : a.length + b.length ≤ 1000000000) : PFn Tryd.prog 12 [.agg [.im (.sl 1 (byteR a))], .im (.sl 1 (byteR b))] (feedA (feed (a ++ b) [])) := by
  have hcc := concat_spec [a, b] (by simp) (by simp; omega)
  have hfl : [a, b].flatten = a ++ b := by simp
  rw [hfl] at hcc
  refine ACall.walk [0, 1, 2, 4, 5, 6, 7, 8, 9, 10, 11, 24, 28] [4, 9] Tryd.func12 rfl Tryd.ntmps12 (by kernel_rfl) (by rfl) rfl fun W own I0 φ0 lay => ?_
  repeat (first | refine xA ?_ | refine xB ?_ | refine xC ?_ | refine xE ?_ | refine xD ?_ | refine xK ?_ | refine xS ?_ | refine xM ?_ | refine xT ?_ | refine xF ?_ | ((first | refine xR ?_ | refine xW ?_ | refine vq_id ?_); simp only [go_sem, Nat.reduceAdd, Nat.reduceLeDiff, Nat.reduceSub, Int.reduceToNat, reduceCtorEq]) | (refine ⟨by first | omega | (intros; simp_all; done) | (intros; simp_all; omega), ?_⟩; try simp only [go_sem, Nat.reduceAdd, Nat.reduceLeDiff, Nat.reduceSub, Int.reduceToNat, reduceCtorEq]))
  refine AQ.fn (by kernel_rfl) rfl rfl rfl (hcc) rfl ?_
  repeat (first | refine xA ?_ | refine xB ?_ | refine xC ?_ | refine xE ?_ | refine xD ?_ | refine xK ?_ | refine xS ?_ | refine xM ?_ | refine xT ?_ | refine xF ?_ | ((first | refine xR ?_ | refine xW ?_ | refine vq_id ?_); simp only [go_sem, Nat.reduceAdd, Nat.reduceLeDiff, Nat.reduceSub, Int.reduceToNat, reduceCtorEq]) | (refine ⟨by first | omega | (intros; simp_all; done) | (intros; simp_all; omega), ?_⟩; try simp only [go_sem, Nat.reduceAdd, Nat.reduceLeDiff, Nat.reduceSub, Int.reduceToNat, reduceCtorEq]))
  refine AP.own 8 23 3 rfl ?_
  simp only [go_sem, Nat.reduceAdd, Nat.reduceLeDiff, Nat.reduceSub, Int.reduceToNat, reduceCtorEq]
  refine AP.loop rfl (α := List UInt8 × List Msg) (fun p => [(4, .ob 0 0), (7, .im (.sl 1 (byteR p.1))), (8, .os 1 3 0 p.2.length)]) (fun p => [(1, .vec 23 3 (msgR p.2)), (0, .var 36 [nilS])]) (fun p => feed p.1 p.2 = feed (a ++ b) [] ∧ p.2.length + p.1.length ≤ 1000000000) (fun p => p.1.length) (a ++ b, []) (by simp; omega) (by repeat (first | exact Sub.nil _ | refine Sub.cons rfl ?_)) rfl fun ⟨rest, acc⟩ ⟨hf, hb⟩ => ?_
  simp only at hf hb
  have hd := decode_spec rest (by omega)
  obtain ⟨n, hn, hn2⟩ := dec_n rest
  rw [feed] at hf
  obtain ⟨⟨⟨k, N, t⟩, n', e⟩, hdv⟩ : ∃ d, decV rest = d := ⟨_, rfl⟩
  rw [hdv] at hd hn hf
  simp only at hn hf
  subst hn
  repeat (first | refine xA ?_ | refine xB ?_ | refine xC ?_ | refine xE ?_ | refine xD ?_ | refine xK ?_ | refine xS ?_ | refine xM ?_ | refine xT ?_ | refine xF ?_ | ((first | refine xR ?_ | refine xW ?_ | refine vq_id ?_); simp only [go_sem, Nat.reduceAdd, Nat.reduceLeDiff, Nat.reduceSub, Int.reduceToNat, reduceCtorEq]) | (refine ⟨by first | omega | (intros; simp_all; done) | (intros; simp_all; omega), ?_⟩; try simp only [go_sem, Nat.reduceAdd, Nat.reduceLeDiff, Nat.reduceSub, Int.reduceToNat, reduceCtorEq]))
  refine AQ.fn (by kernel_rfl) rfl rfl rfl (hd) rfl ?_
  repeat (first | refine xA ?_ | refine xB ?_ | refine xC ?_ | refine xE ?_ | refine xD ?_ | refine xK ?_ | refine xS ?_ | refine xM ?_ | refine xT ?_ | refine xF ?_ | ((first | refine xR ?_ | refine xW ?_ | refine vq_id ?_); simp only [go_sem, Nat.reduceAdd, Nat.reduceLeDiff, Nat.reduceSub, Int.reduceToNat, reduceCtorEq]) | (refine ⟨by first | omega | (intros; simp_all; done) | (intros; simp_all; omega), ?_⟩; try simp only [go_sem, Nat.reduceAdd, Nat.reduceLeDiff, Nat.reduceSub, Int.reduceToNat, reduceCtorEq]))
  refine AP.cond rfl rfl (fun hc => ?_) (fun hc => ?_)
  · have h : e ≠ 0 := by simpa using hc
    rw [if_pos h] at hf
    rw [← hf]
    repeat (first | refine xA ?_ | refine xB ?_ | refine xC ?_ | refine xE ?_ | refine xD ?_ | refine xK ?_ | refine xS ?_ | refine xM ?_ | refine xT ?_ | refine xF ?_ | ((first | refine xR ?_ | refine xW ?_ | refine vq_id ?_); simp only [go_sem, Nat.reduceAdd, Nat.reduceLeDiff, Nat.reduceSub, Int.reduceToNat, reduceCtorEq]) | (refine ⟨by first | omega | (intros; simp_all; done) | (intros; simp_all; omega), ?_⟩; try simp only [go_sem, Nat.reduceAdd, Nat.reduceLeDiff, Nat.reduceSub, Int.reduceToNat, reduceCtorEq]))
    refine AE.ret0 rfl ⟨⟨rfl, Nat.le_of_ble_eq_true (by kernel_rfl)⟩, rfl, rfl, trivial⟩ rfl ⟨rfl, ?_⟩
    rw [feedA, if_pos h]
    rfl
  have h : ¬ e ≠ 0 := by simpa using hc
  rw [if_neg h] at hf
  repeat (first | refine xA ?_ | refine xB ?_ | refine xC ?_ | refine xE ?_ | refine xD ?_ | refine xK ?_ | refine xS ?_ | refine xM ?_ | refine xT ?_ | refine xF ?_ | ((first | refine xR ?_ | refine xW ?_ | refine vq_id ?_); simp only [go_sem, Nat.reduceAdd, Nat.reduceLeDiff, Nat.reduceSub, Int.reduceToNat, reduceCtorEq]) | (refine ⟨by first | omega | (intros; simp_all; done) | (intros; simp_all; omega), ?_⟩; try simp only [go_sem, Nat.reduceAdd, Nat.reduceLeDiff, Nat.reduceSub, Int.reduceToNat, reduceCtorEq]))
  refine AP.cond rfl rfl (fun hc2 => ?_) (fun hc2 => ?_)
  · have h0 : n = 0 := by simp at hc2; omega
    subst h0
    rw [dif_pos (.inl rfl)] at hf
    rw [← hf]
    have hta : (msgR acc).take acc.length = msgR acc := List.take_of_length_le (by rw [msgR_len]; exact Nat.le_refl _)
    repeat (first | refine xA ?_ | refine xB ?_ | refine xC ?_ | refine xE ?_ | refine xD ?_ | refine xK ?_ | refine xS ?_ | refine xM ?_ | refine xT ?_ | refine xF ?_ | ((first | refine xR ?_ | refine xW ?_ | refine vq_id ?_); simp only [go_sem, Nat.reduceAdd, Nat.reduceLeDiff, Nat.reduceSub, Int.reduceToNat, reduceCtorEq]) | (refine ⟨by first | omega | (intros; simp_all; done) | (intros; simp_all; omega), ?_⟩; try simp only [go_sem, Nat.reduceAdd, Nat.reduceLeDiff, Nat.reduceSub, Int.reduceToNat, reduceCtorEq]))
    refine AE.freeze 1 (rows := msgR acc) rfl (by simp [go_sem, msgR_len]) (by simp [go_sem, msgR_len]) ?_
    simp only [go_sem, Nat.reduceAdd, Nat.reduceLeDiff, Nat.reduceSub, Int.reduceToNat, reduceCtorEq, List.drop_zero, hta]
    refine AE.ret0 rfl ⟨⟨rfl, Nat.le_of_ble_eq_true (by kernel_rfl)⟩, rfl, rfl, trivial⟩ rfl ⟨rfl, ?_⟩
    rw [feedA, if_neg (by simp)]
    rfl
  have h0 : 13 ≤ n ∧ n ≤ rest.length := by simp at hc2; omega
  rw [dif_neg (by simp only [Int.toNat_natCast]; omega), Int.toNat_natCast] at hf
  repeat (first | refine xA ?_ | refine xB ?_ | refine xC ?_ | refine xE ?_ | refine xD ?_ | refine xK ?_ | refine xS ?_ | refine xM ?_ | refine xT ?_ | refine xF ?_ | ((first | refine xR ?_ | refine xW ?_ | refine vq_id ?_); simp only [go_sem, Nat.reduceAdd, Nat.reduceLeDiff, Nat.reduceSub, Int.reduceToNat, reduceCtorEq]) | (refine ⟨by first | omega | (intros; simp_all; done) | (intros; simp_all; omega), ?_⟩; try simp only [go_sem, Nat.reduceAdd, Nat.reduceLeDiff, Nat.reduceSub, Int.reduceToNat, reduceCtorEq]))
  refine AP.drawE 8 (Tree.node [] [0, 1, 4, 5, 6] [2] [Tree.node [0, 4, 5, 6] [] [3] [Tree.node [4, 5, 6] [] [7] [Tree.node [4, 5, 6] [] [] []]]]) (by kernel_rfl) rfl (by kernel_rfl) (by kernel_rfl) ?_
  refine vd_node ?_
  simp only [go_sem, Nat.reduceAdd, Nat.reduceLeDiff, Nat.reduceSub, Int.reduceToNat, reduceCtorEq, byteR_drop, Int.toNat_natCast, byteR_len]
  refine ⟨⟨by omega, by omega⟩, ?_⟩
  repeat' (first | with_reducible exact True.intro | with_reducible refine And.intro (by omega) ?_ | with_reducible refine And.intro ?_ ?_ | (refine AQ.nx rfl ?_; simp only [go_sem, Nat.reduceAdd, Nat.reduceLeDiff, Nat.reduceSub, Int.reduceToNat, reduceCtorEq, byteR_drop, Int.toNat_natCast, byteR_len]) | (refine AQ.append (hnb := rfl) (rows := msgR acc) (es := 2) (by kernel_rfl) rfl rfl rfl (by rfl) Tryd.tk37 Tryd.sz23 (by show Option.map _ (zro Tryd.prog 23) = _; rw [Tryd.zr23]; rfl) Tryd.by23 (by rw [msgR_len]) (by rw [msgR_len]; simp only [List.length_cons, List.length_nil]; omega) (by rw [msgR_len]; simp only [List.length_cons, List.length_nil]; omega) ?_; simp only [go_sem, Nat.reduceAdd, Nat.reduceLeDiff, Nat.reduceSub, Int.reduceToNat, reduceCtorEq, msgR_len, List.length_cons, List.length_nil]) | refine AQ.done ?_ | (refine AQ.go (by kernel_rfl) ?_; simp only [go_sem, Nat.reduceAdd, Nat.reduceLeDiff, Nat.reduceSub, Int.reduceToNat, reduceCtorEq, byteR_drop, Int.toNat_natCast, byteR_len]; repeat (with_reducible refine And.intro (by omega) ?_); refine AQ.nx rfl ?_; simp only [go_sem, Nat.reduceAdd, Nat.reduceLeDiff, Nat.reduceSub, Int.reduceToNat, reduceCtorEq, byteR_drop, Int.toNat_natCast, byteR_len]))
  all_goals
    repeat (first | refine xA ?_ | refine xB ?_ | refine xC ?_ | refine xE ?_ | refine xD ?_ | refine xK ?_ | refine xS ?_ | refine xM ?_ | refine xT ?_ | refine xF ?_ | ((first | refine xR ?_ | refine xW ?_ | refine vq_id ?_); simp only [go_sem, Nat.reduceAdd, Nat.reduceLeDiff, Nat.reduceSub, Int.reduceToNat, reduceCtorEq, byteR_drop, Int.toNat_natCast, byteR_len]) | (refine ⟨by first | omega | (intros; simp_all; done) | (intros; simp_all; omega), ?_⟩; try simp only [go_sem, Nat.reduceAdd, Nat.reduceLeDiff, Nat.reduceSub, Int.reduceToNat, reduceCtorEq, byteR_drop, Int.toNat_natCast, byteR_len]))
    refine AE.forgets [2] rfl ?_
    simp only [go_sem, Nat.reduceAdd, Nat.reduceLeDiff, Nat.reduceSub, Int.reduceToNat, reduceCtorEq, byteR_drop, Int.toNat_natCast, byteR_len]
    refine AE.round (rest.drop n, acc ++ [(k, N, t)]) ⟨hf, ?_⟩ ?_ ?_ ?_
    · simp only [List.length_append, List.length_drop, List.length_cons, List.length_nil]; omega
    · simp only [List.length_drop]; omega
    · simp only [List.length_append, List.length_cons, List.length_nil]; exact (by repeat (first | exact Sub.nil _ | refine Sub.cons rfl ?_))
    · rw [← msgR_snoc]
end Go.Proofs.YtlpcdpjkdodmcaaDoor
end

section
namespace Go.Proofs.YtlpcdpjkdodmcaaDoor
open Go Go.AL Go.RowKit
set_option maxRecDepth 10000
set_option maxHeartbeats 4000000
end Go.Proofs.YtlpcdpjkdodmcaaDoor
end

section
namespace Go.Proofs.YtlpcdpjkdodmcaaDoor
open Go Go.AL Go.RowKit
set_option maxRecDepth 10000
set_option maxHeartbeats 4000000
theorem beq_spec (a b : List UInt8) : PFn Tryd.prog 14 [.im (.sl 1 (byteR a)), .im (.sl 1 (byteR b))] (Bv (a == b)) := by
  have ha := byteR_bytes a
  have hb := byteR_bytes b
  refine ACall.walk [0, 1, 4] [] Tryd.func14 rfl Tryd.ntmps14 (by kernel_rfl) (by rfl) rfl fun W own I0 φ0 lay => ?_
  repeat (first | refine xA ?_ | refine xB ?_ | refine xC ?_ | refine xE ?_ | refine xD ?_ | refine xK ?_ | refine xS ?_ | refine xM ?_ | refine xT ?_ | refine xF ?_ | ((first | refine xR ?_ | refine xW ?_ | refine vq_id ?_); simp only [go_sem, Nat.reduceAdd, Nat.reduceLeDiff, Nat.reduceSub, Int.reduceToNat, reduceCtorEq, Tryd.underlying24, Option.isSome_some, byteR_back]))
  refine ⟨ha, hb, ?_⟩
  repeat (first | refine xA ?_ | refine xB ?_ | refine xC ?_ | refine xE ?_ | refine xD ?_ | refine xK ?_ | refine xS ?_ | refine xM ?_ | refine xT ?_ | refine xF ?_ | ((first | refine xR ?_ | refine xW ?_ | refine vq_id ?_); simp only [go_sem, Nat.reduceAdd, Nat.reduceLeDiff, Nat.reduceSub, Int.reduceToNat, reduceCtorEq]) | (refine ⟨by first | omega | (intros; simp_all; done) | (intros; simp_all; omega), ?_⟩; try simp only [go_sem, Nat.reduceAdd, Nat.reduceLeDiff, Nat.reduceSub, Int.reduceToNat, reduceCtorEq]))
  exact AE.ret0 rfl ⟨rfl, trivial⟩ rfl ⟨rfl, rfl⟩
theorem msgR_get (l : List Msg) (k : Nat) (h : k < l.length) : ∃ m, l[k]? = some m ∧ (msgR l).getD k [] = [Ii m.1, Ii m.2.1, Si m.2.2] := by
  refine ⟨l[k], List.getElem?_eq_getElem h, ?_⟩
  rw [List.getD_eq_getElem?_getD, msgR, List.getElem?_map, List.getElem?_eq_getElem h]; rfl
theorem awake_spec : PFn Tryd.prog 7 [] (Bv true) := by
  have he := encode_spec 6 1 []
  have e1 : encV 6 1 [] = .tup [.im (.sl 1 (byteR [0, 0, 0, 9, 6, 0, 0, 0, 1, 0, 36, 0, 8])), Iv 0] := by
    have h1 : msgE 6 1 [] = 0 := by decide
    have h2 : frame 6 1 [] = [0, 0, 0, 9, 6, 0, 0, 0, 1, 0, 36, 0, 8] := by decide
    unfold encV
    rw [if_pos h1]
    show AV.tup [.im (.sl 1 (byteR (frame 6 1 []))), Iv 0] = _
    rw [h2]
  rw [e1] at he
  have hb := beq_spec [0, 0, 0, 9, 6, 0, 0, 0, 1, 0, 36, 0, 8] [0, 0, 0, 9, 6, 0, 0, 0, 1, 0, 36, 0, 8]
  rw [beq_self_eq_true] at hb
  refine ACall.walk [0, 1, 2] [] Tryd.func7 rfl Tryd.ntmps7 (by kernel_rfl) (by rfl) rfl fun W own I0 φ0 lay => ?_
  repeat (first | refine xA ?_ | refine xB ?_ | refine xC ?_ | refine xE ?_ | refine xD ?_ | refine xK ?_ | refine xS ?_ | refine xM ?_ | refine xT ?_ | refine xF ?_ | ((first | refine xR ?_ | refine xW ?_ | refine vq_id ?_); simp only [go_sem, Nat.reduceAdd, Nat.reduceLeDiff, Nat.reduceSub, Int.reduceToNat, reduceCtorEq]) | (refine ⟨by first | omega | (intros; simp_all; done) | (intros; simp_all; omega), ?_⟩; try simp only [go_sem, Nat.reduceAdd, Nat.reduceLeDiff, Nat.reduceSub, Int.reduceToNat, reduceCtorEq]))
  refine AQ.fn (by kernel_rfl) rfl rfl rfl (he) rfl ?_
  repeat (first | refine xA ?_ | refine xB ?_ | refine xC ?_ | refine xE ?_ | refine xD ?_ | refine xK ?_ | refine xS ?_ | refine xM ?_ | refine xT ?_ | refine xF ?_ | ((first | refine xR ?_ | refine xW ?_ | refine vq_id ?_); simp only [go_sem, Nat.reduceAdd, Nat.reduceLeDiff, Nat.reduceSub, Int.reduceToNat, reduceCtorEq, beq_self_eq_true]) | (refine ⟨by first | omega | (intros; simp_all; done) | (intros; simp_all; omega), ?_⟩; try simp only [go_sem, Nat.reduceAdd, Nat.reduceLeDiff, Nat.reduceSub, Int.reduceToNat, reduceCtorEq, beq_self_eq_true]))
  refine AQ.guard_yes (by simp only [go_sem]) ?_
  refine AQ.go (by kernel_rfl) ?_
  simp only [go_sem, Nat.reduceAdd, Nat.reduceLeDiff, Nat.reduceSub, Int.reduceToNat, reduceCtorEq]
  refine AQ.fn_g (by kernel_rfl) rfl rfl (fun h => by first | (simp [gs, AV.g]; done) | (simp [gs, AV.g, constAV]; done) | (simp [gs, AV.g, constAV, bw] at h ⊢; done) | (simp [gs, AV.g, constAV, bw] at h ⊢; exact h) | (simp [gs, AV.g, constAV, bw] at h ⊢; simp [h]; done) | (simp [bw] at h; done) | (simp [gs, AV.g, bw] at h ⊢; simp [h]; done) | (simp [gs, AV.g, bw] at h ⊢; exact h.1) | (simp [gs, AV.g]; rfl) | (simp [gs, AV.g, bw] at h ⊢; rfl) | (simp [gs, AV.g, bw] at h ⊢; simp [h]; rfl) | (simp [gs, AV.g, bw] at h ⊢; simp_all)) rfl (fun _ => hb) rfl ?_
  repeat (first | refine xA ?_ | refine xB ?_ | refine xC ?_ | refine xE ?_ | refine xD ?_ | refine xK ?_ | refine xS ?_ | refine xM ?_ | refine xT ?_ | refine xF ?_ | ((first | refine xR ?_ | refine xW ?_ | refine vq_id ?_); simp only [go_sem, Nat.reduceAdd, Nat.reduceLeDiff, Nat.reduceSub, Int.reduceToNat, reduceCtorEq]) | (refine ⟨by first | omega | (intros; simp_all; done) | (intros; simp_all; omega), ?_⟩; try simp only [go_sem, Nat.reduceAdd, Nat.reduceLeDiff, Nat.reduceSub, Int.reduceToNat, reduceCtorEq]))
  exact AE.ret0 rfl ⟨rfl, trivial⟩ rfl ⟨rfl, rfl⟩
end Go.Proofs.YtlpcdpjkdodmcaaDoor
end

section
namespace Go.Proofs.YtlpcdpjkdodmcaaDoor
open Go Go.AL Go.RowKit
set_option maxRecDepth 100000
theorem u8_nat {i : Int} (h : (Lit.int .u8 i).wf = true) : ∃ b : UInt8, i = b.toNat := by
  simp [Lit.wf, IntKind.min, IntKind.max, IntKind.bits, IntKind.signed] at h
  exact ⟨UInt8.ofNat i.toNat, by rw [UInt8.toNat_ofNat']; omega⟩
theorem msg_of {n : Nat} {xs : List IV} (h : Typed Tryd.prog n 23 xs) : ∃ m : Msg, xs = [Ii m.1, Ii m.2.1, Si m.2.2] ∧ m.2.2.length < 9223372036854775808 := by
  have hc : Tryd.prog.cellsOf 23 = 3 := by kernel_rfl
  have hc3 : Tryd.prog.cellsOf 3 = 1 := by kernel_rfl
  have hc9 : Tryd.prog.cellsOf 9 = 1 := by kernel_rfl
  obtain ⟨m', hlen, hf⟩ := typed_struct Tryd.underlying23 h
  rw [hc] at hlen
  match xs, hlen with
  | [a, b, c], _ =>
    have f0 := hf 0 _ rfl
    have f1 := hf 1 _ rfl
    have f2 := hf 2 _ rfl
    simp only [hc3, hc9, List.drop_zero, List.take_succ_cons, List.take_zero, List.drop_succ_cons] at f0 f1 f2
    obtain ⟨i0, e0, w0⟩ := typed_int Tryd.underlying3 f0
    obtain ⟨i1, e1, w1⟩ := typed_int Tryd.underlying3 f1
    obtain ⟨s, e2, hs⟩ := typed_str Tryd.underlying9 f2
    cases e0; cases e1; cases e2
    refine ⟨(i0, i1, s.data.toList), congrArg (fun x => [IV.v (Value.int .i64 i0), IV.v (Value.int .i64 i1), IV.v (Value.string x)]) (BA_of s), ?_⟩
    have e : s.size = s.data.size := rfl
    have e2 : s.data.toList.length = s.data.size := Array.length_toList
    unfold maxLen at hs
    show s.data.toList.length < _
    omega
theorem gSyn : Tryd.prog.globalNamed "strconv.ErrSyntax" = some 0 := by kernel_rfl
theorem gRng : Tryd.prog.globalNamed "strconv.ErrRange" = some 1 := by kernel_rfl
theorem gPow : Tryd.prog.globalNamed "internal/strconv.uint64pow10" = some 3 := by kernel_rfl
theorem gSynT : (Tryd.prog.globals[0]?).map (·.type) = some 131 := by kernel_rfl
theorem gRngT : (Tryd.prog.globals[1]?).map (·.type) = some 131 := by kernel_rfl
theorem gPowT : (Tryd.prog.globals[3]?).map (·.type) = some 181 := by kernel_rfl
theorem row177 (u : TypeId) (h : Tryd.prog.typeName? 3 u = some "*errors.errorString") : u = 177 :=
  typeName_ptr_named (nm := "errors.errorString") (by rw [show "*" ++ "errors.errorString" = "*errors.errorString" by decide]; kernel_rfl) (by kernel_rfl) (by decide) u (by rw [show "*" ++ "errors.errorString" = "*errors.errorString" by decide]; exact h)
theorem var_cells {P : Program} {W : World} {n : String} {g : Nat} {cs : Array Value} (hg : P.globalNamed n = some g) (h : W.var? P n = some cs) : g < W.heap.size ∧ ∃ T fz, W.heap[g]? = some (.cells cs T fz) := by
  unfold World.var? at h
  rw [hg, Option.bind_some] at h
  split at h
  · rename_i cs' T fz hh
    cases h
    refine ⟨?_, T, fz, hh⟩
    rcases Nat.lt_or_ge g W.heap.size with h' | h'
    · exact h'
    · rw [Array.getElem?_eq_none h'] at hh; cases hh
  · cases h
theorem vk_of {W : World} (h : laidMet Tryd.prog [("math/bits.deBruijn32tab", Rows.laid_math_bits_deBruijn32tab), ("math/bits.deBruijn64tab", Rows.laid_math_bits_deBruijn64tab), ("internal/strconv.uint64pow10", Rows.laid_internal_strconv_uint64pow10), ("strconv.ErrRange", Rows.laid_strconv_ErrRange), ("strconv.ErrSyntax", Rows.laid_strconv_ErrSyntax)] W) :
    VK Tryd.prog W (fun g => g < W.heap.size) := by
  have h3 := h.tail.tail
  have h4 := h3.tail
  have h5 := h4.tail
  intro x hx g hg
  simp only [laidVars, List.mem_cons, List.not_mem_nil, or_false] at hx
  rcases hx with rfl | rfl | rfl
  · obtain ⟨a, s, hv, _⟩ := laid_sentinel h5 gSyn gSynT Tryd.underlying131 row177 Tryd.underlying177 Tryd.underlying179 rfl rfl Tryd.underlying9 (by kernel_rfl) (by kernel_rfl)
    obtain ⟨h1, T, fz, h2⟩ := var_cells hg hv
    exact ⟨h1, _, h2, _, _, T, fz, rfl⟩
  · obtain ⟨a, s, hv, _⟩ := laid_sentinel h4 gRng gRngT Tryd.underlying131 row177 Tryd.underlying177 Tryd.underlying179 rfl rfl Tryd.underlying9 (by kernel_rfl) (by kernel_rfl)
    obtain ⟨h1, T, fz, h2⟩ := var_cells hg hv
    exact ⟨h1, _, h2, _, _, T, fz, rfl⟩
  · have ht : Lib.TabIs Tryd.prog W "internal/strconv.uint64pow10" .u64 Lib.pow10Tab := Lib.tabIs_of_head (rest := _) gPow gPowT Tryd.underlying181 Tryd.underlying161 (by kernel_rfl) (by kernel_rfl) h3
    obtain ⟨h1, T, fz, h2⟩ := var_cells hg ht
    exact ⟨h1, _, h2, T, fz, rfl⟩
def synS : ByteArray := { data := #[105, 110, 118, 97, 108, 105, 100, 32, 115, 121, 110, 116, 97, 120] }
def rngS : ByteArray := { data := #[118, 97, 108, 117, 101, 32, 111, 117, 116, 32, 111, 102, 32, 114, 97, 110, 103, 101] }
noncomputable def low : Nat := (World.holding Tryd.prog default ⟨#[], #[], []⟩).heap.size
def litCells (d : DataW Unit) : Array Value := match d with
  | .agg l => (l.map fun x => match x with
    | .lit (.int k z) => Value.int k z
    | _ => .nilIface).toArray
  | _ => #[]
def putCells (cs : Array Value) : Obj → Obj
  | .cells _ t frozen => .cells cs t frozen
  | o => o
noncomputable def laidWorld (os : Os) : World :=
  let w0 := World.holding Tryd.prog os ⟨#[.cells #[.string synS] 179, .cells #[.string rngS] 179], #[], []⟩
  { w0 with heap := ((((w0.heap.modify 0 (putCells #[.iface 177 (.pointer (some ⟨low, 0, none⟩))])).modify 1 (putCells #[.iface 177 (.pointer (some ⟨low + 1, 0, none⟩))])).modify 3 (putCells (litCells Rows.laid_internal_strconv_uint64pow10))).modify 4 (putCells (litCells Rows.laid_math_bits_deBruijn32tab))).modify 5 (putCells (litCells Rows.laid_math_bits_deBruijn64tab)) }
end Go.Proofs.YtlpcdpjkdodmcaaDoor
end

section
namespace Go.Proofs.YtlpcdpjkdodmcaaDoor
open Go Go.AL
theorem of4_be4 (n : Nat) (x : List UInt8) (h : n < 4294967296) : of4 (be4 n ++ x) = n := by
  show (UInt8.ofNat (n / 16777216)).toNat * 16777216 + (UInt8.ofNat (n / 65536)).toNat * 65536 + (UInt8.ofNat (n / 256)).toNat * 256 + (UInt8.ofNat n).toNat = n
  simp only [UInt8.toNat_ofNat']
  omega
def okM (m : Msg) : Bool := decide (msgE m.1 m.2.1 m.2.2 = 0)
def frM (m : Msg) : List UInt8 := frame m.1.toNat m.2.1.toNat m.2.2
theorem inner_len (k n : Nat) (l : List UInt8) : (inner k n l).length = 5 + l.length := by simp [inner, be4_len]; omega
theorem frame_len (k n : Nat) (l : List UInt8) : (frame k n l).length = l.length + 13 := by
  simp only [frame, List.length_append, be4_len, inner_len]; omega
theorem frM_len (m : Msg) : (frM m).length = m.2.2.length + 13 := frame_len _ _ _
theorem drop_at (a b : List UInt8) (n : Nat) (h : a.length = n) : (a ++ b).drop n = b := by rw [← h]; exact List.drop_left
theorem take_at (a b : List UInt8) (n : Nat) (h : a.length = n) : (a ++ b).take n = a := by rw [← h]; exact List.take_left
theorem dec_shape (N : Nat) (I S : List UInt8) (hN : N < 4294967296) (hI : I.length + 4 = N) :
    of4 (be4 N ++ (I ++ S)) = N ∧ mid (be4 N ++ (I ++ S)) N = I ∧ (be4 N ++ (I ++ S)).drop N = S := by
  have e : be4 N ++ (I ++ S) = (be4 N ++ I) ++ S := (List.append_assoc _ _ _).symm
  have hl : (be4 N ++ I).length = N := by rw [List.length_append, be4_len]; omega
  refine ⟨of4_be4 N _ hN, ?_, ?_⟩
  · rw [mid, e, take_at _ _ _ hl]
    exact drop_at _ _ _ (be4_len N)
  · rw [e]; exact drop_at _ _ _ hl
theorem dec_frame (m : Msg) (x : List UInt8) (h : okM m = true) : decV (frM m ++ x) = (m, (((frM m).length : Nat) : Int), (0 : Int)) := by
  have h0 : msgE m.1 m.2.1 m.2.2 = 0 := of_decide_eq_true h
  obtain ⟨k, n, l⟩ := m
  simp only at h0
  obtain ⟨h1, h2, h3, h4, h5, h6⟩ := msgE_ok h0
  obtain ⟨K, rfl⟩ : ∃ K : Nat, k = K := ⟨k.toNat, by omega⟩
  obtain ⟨N, rfl⟩ : ∃ N : Nat, n = N := ⟨n.toNat, by omega⟩
  have hlen := frM_len ((K : Int), (N : Int), l)
  simp only at hlen
  have hX : frM ((K : Int), (N : Int), l) ++ x = be4 (l.length + 9) ++ (inner K N l ++ (be4 (adSum (inner K N l)) ++ x)) := by
    simp [frM, frame]
  obtain ⟨e1, e2, e3⟩ := dec_shape (l.length + 9) (inner K N l) (be4 (adSum (inner K N l)) ++ x) (by omega) (by rw [inner_len]; omega)
  rw [← hX] at e1 e2 e3
  have hXl : (frM ((K : Int), (N : Int), l) ++ x).length = l.length + 13 + x.length := by rw [List.length_append, hlen]
  have hs : of4 (be4 (adSum (inner K N l)) ++ x) = adSum (inner K N l) := of4_be4 _ _ (adSum_lt _)
  have hk : msgK (inner K N l) = K := by
    show (UInt8.ofNat K).toNat = K
    rw [UInt8.toNat_ofNat']; omega
  have hn : msgN (inner K N l) = N := of4_be4 N l (by omega)
  have hb : msgB (inner K N l) = l := rfl
  unfold decV
  rw [e1, e2, e3, hs, hk, hn, hb, if_neg (by omega), if_neg (by omega), if_neg (by omega), if_neg (by simp), if_neg (by simp [h0]), hlen]
theorem dec_short (m : Msg) (p q : List UInt8) (h : okM m = true) (hp : p ++ q = frM m) (hq : q ≠ []) : decV p = ((0, 0, []), 0, 0) := by
  have h0 : msgE m.1 m.2.1 m.2.2 = 0 := of_decide_eq_true h
  obtain ⟨h1, h2, h3, h4, h5, h6⟩ := msgE_ok h0
  have hlen := frM_len m
  have hl : p.length + q.length = m.2.2.length + 13 := by rw [← List.length_append, hp, hlen]
  have hq0 : 0 < q.length := List.length_pos_iff.2 hq
  unfold decV
  by_cases h7 : p.length < 4
  · rw [if_pos h7]
  · have e : of4 p = m.2.2.length + 9 := by
      have e1 : of4 ((p ++ q).take 4) = of4 (p.take 4) := by rw [List.take_append_of_le_length (by omega)]
      rw [of4_take _ _ (Nat.le_refl _), of4_take _ _ (Nat.le_refl _), hp] at e1
      rw [← e1]
      exact of4_be4 _ _ (by omega)
    rw [if_neg h7, e, if_neg (by omega), if_pos (by omega)]
def frMs (l : List Msg) : List UInt8 := (l.map frM).flatten
theorem frMs_cons (m : Msg) (l : List Msg) : frMs (m :: l) = frM m ++ frMs l := by simp [frMs]
theorem feed_part : ∀ (l : List Msg) (p q : List UInt8) (acc : List Msg), (∀ m ∈ l, okM m = true) → p ++ q = frMs l → ∃ a b r, l = a ++ b ∧ feed p acc = (r, acc ++ a, 0) ∧ r ++ q = frMs b
  | [], p, q, acc, _, hp => by
    have : p = [] ∧ q = [] := by
      have : (p ++ q).length = 0 := by rw [hp]; rfl
      rw [List.length_append] at this
      exact ⟨List.eq_nil_of_length_eq_zero (by omega), List.eq_nil_of_length_eq_zero (by omega)⟩
    obtain ⟨rfl, rfl⟩ := this
    refine ⟨[], [], [], rfl, ?_, rfl⟩
    rw [feed]
    have e : decV [] = ((0, 0, []), 0, 0) := rfl
    rw [e, if_neg (by simp), dif_pos (.inl rfl), List.append_nil]
  | m :: l, p, q, acc, hok, hp => by
    have hm := hok m (by simp)
    rw [frMs_cons] at hp
    rcases Nat.lt_or_ge p.length (frM m).length with h | h
    · -- the frame is not complete
      obtain ⟨q1, hq1⟩ : ∃ q1, p ++ q1 = frM m := by
        refine ⟨(frM m).drop p.length, ?_⟩
        have e : (p ++ q).take p.length = (frM m ++ frMs l).take p.length := by rw [hp]
        rw [List.take_left, List.take_append_of_le_length (Nat.le_of_lt h)] at e
        conv => lhs; rw [e]
        have e2 : ((frM m).take p.length).length = p.length := by rw [List.length_take]; omega
        rw [e2]
        exact List.take_append_drop _ _
      have hq0 : q1 ≠ [] := by
        rintro rfl
        rw [List.append_nil] at hq1
        rw [hq1] at h; omega
      refine ⟨[], m :: l, p, rfl, ?_, by rw [frMs_cons]; exact hp⟩
      rw [feed, dec_short m p q1 hm hq1 hq0, if_neg (by simp), dif_pos (.inl rfl), List.append_nil]
    · obtain ⟨p1, rfl⟩ : ∃ p1, p = frM m ++ p1 := by
        refine ⟨p.drop (frM m).length, ?_⟩
        have e : (p ++ q).take (frM m).length = (frM m ++ frMs l).take (frM m).length := by rw [hp]
        rw [List.take_left, List.take_append_of_le_length h] at e
        conv => rhs; rw [← e]
        have e2 : (p.take (frM m).length).length = (frM m).length := by rw [List.length_take]; omega
        rw [e2]
        exact (List.take_append_drop _ _).symm
      have hp2 : p1 ++ q = frMs l := by
        rw [List.append_assoc] at hp
        exact List.append_cancel_left hp
      obtain ⟨a, b, r, h1, h2, h3⟩ := feed_part l p1 q (acc ++ [m]) (fun x hx => hok x (by simp [hx])) hp2
      refine ⟨m :: a, b, r, by rw [h1]; rfl, ?_, h3⟩
      have hl13 := frM_len m
      rw [feed, dec_frame m p1 hm]
      simp only [Int.toNat_natCast]
      rw [if_neg (by simp), dif_neg (by rw [List.length_append]; omega), List.drop_left, h2, List.append_assoc]
      rfl
theorem feed_all (l : List Msg) (acc : List Msg) (hok : ∀ m ∈ l, okM m = true) : feed (frMs l) acc = ([], acc ++ l, 0) := by
  obtain ⟨a, b, r, h1, h2, h3⟩ := feed_part l (frMs l) [] acc hok (List.append_nil _)
  rw [List.append_nil] at h3
  have hb : b = [] := by
    match b, h1, h3 with
    | [], _, _ => rfl
    | m :: b, h1, h3 =>
      exfalso
      -- what is left would hold a whole frame
      have hm := hok m (by rw [h1]; simp)
      have hpre : ∀ (n : Nat) (p : List UInt8) (acc : List Msg), p.length ≤ n → ∀ r s, feed p acc = (r, s, 0) → decV r = decV r ∧ ((decV r).2.1 = 0 ∨ r.length = 0) := by
        intro n
        induction n with
        | zero =>
          intro p acc hn r s hf
          have : p = [] := List.eq_nil_of_length_eq_zero (by omega)
          subst this
          rw [feed] at hf
          have e : decV [] = ((0, 0, []), 0, 0) := rfl
          rw [e, if_neg (by simp), dif_pos (.inl rfl)] at hf
          cases hf
          exact ⟨rfl, .inr rfl⟩
        | succ n ih =>
          intro p acc hn r s hf
          rw [feed] at hf
          split at hf
          · rename_i h0
            simp only [Prod.mk.injEq] at hf
            exact absurd hf.2.2 h0
          · obtain ⟨k, hk, hk2⟩ := dec_n p
            rw [hk, Int.toNat_natCast] at hf
            split at hf
            · rename_i h0
              simp only [Prod.mk.injEq] at hf
              obtain ⟨rfl, _⟩ := hf
              refine ⟨rfl, ?_⟩
              rcases h0 with h0 | h0
              · left; rw [hk, h0]; rfl
              · exact .inr h0
            · rename_i h0
              exact ih _ _ (by rw [List.length_drop]; omega) r s hf
      obtain ⟨_, h4⟩ := hpre _ (frMs l) acc (Nat.le_refl _) r _ h2
      rw [h3, frMs_cons, dec_frame m _ hm] at h4
      have hl13 := frM_len m
      rcases h4 with h4 | h4
      · simp only at h4; omega
      · rw [List.length_append] at h4; omega
  subst hb
  rw [List.append_nil] at h1
  subst h1
  rw [h2, h3]
  rfl
theorem feed_two (l : List Msg) (hok : ∀ m ∈ l, okM m = true) (k : Nat) : ∃ a b r, l = a ++ b ∧ feed ((frMs l).take k) [] = (r, a, 0) ∧ feed (r ++ (frMs l).drop k) [] = ([], b, 0) := by
  obtain ⟨a, b, r, h1, h2, h3⟩ := feed_part l ((frMs l).take k) ((frMs l).drop k) [] hok (List.take_append_drop _ _)
  refine ⟨a, b, r, h1, by simpa using h2, ?_⟩
  rw [h3]
  have := feed_all b [] (fun m hm => hok m (by rw [h1]; simp [hm]))
  simpa using this
end Go.Proofs.YtlpcdpjkdodmcaaDoor
end

section
namespace Go.Proofs.YtlpcdpjkdodmcaaDoor
open Go Go.AL
def sumB (l : List UInt8) : Nat := (l.map UInt8.toNat).sum
theorem ad_sum : ∀ (l : List UInt8) (s : Nat × Nat), (l.foldl adStep s).1 % 65521 = (s.1 + sumB l) % 65521
  | [], s => by simp [sumB]
  | x :: l, s => by
    rw [List.foldl_cons, ad_sum l (adStep s x)]
    simp only [adStep, sumB, List.map_cons, List.sum_cons]
    omega
theorem adSum_mod (l : List UInt8) : adSum l % 65536 = (1 + sumB l) % 65521 := by
  have h1 := ad_sum l (1, 0)
  obtain ⟨h2, h3⟩ := ad_lt l
  have e : (l.foldl adStep (1, 0)) = ad l := rfl
  rw [e] at h1
  simp only at h1
  unfold adSum
  omega
theorem sumB_set : ∀ (l : List UInt8) (i : Nat) (o : UInt8), i < l.length → sumB (l.set i o) + (l.getD i 0).toNat = sumB l + o.toNat
  | [], _, _, h => by simp at h
  | x :: l, 0, o, _ => by simp [sumB]; omega
  | x :: l, i + 1, o, h => by
    have := sumB_set l i o (by simpa using h)
    simp only [List.set_cons_succ, sumB, List.map_cons, List.sum_cons, List.getD_cons_succ] at this ⊢
    omega
theorem adSum_set (l : List UInt8) (i : Nat) (o : UInt8) (hi : i < l.length) (ho : l.getD i 0 ≠ o) : adSum (l.set i o) ≠ adSum l := by
  intro h
  have h1 := adSum_mod l
  have h2 := adSum_mod (l.set i o)
  rw [h] at h2
  have h3 := sumB_set l i o hi
  have h4 := o.toNat_lt
  have h5 := (l.getD i 0).toNat_lt
  have h6 : (l.getD i 0).toNat = o.toNat := by omega
  exact ho (UInt8.toNat_inj.1 h6)
theorem of4_set (s : Nat) (i : Nat) (o : UInt8) (hi : i < 4) (hs : s < 4294967296) (ho : (be4 s).getD i 0 ≠ o) : of4 ((be4 s).set i o) ≠ s := by
  have h4 := o.toNat_lt
  have hne : ((be4 s).getD i 0).toNat ≠ o.toNat := fun h => ho (UInt8.toNat_inj.1 h)
  have h0 : i = 0 ∨ i = 1 ∨ i = 2 ∨ i = 3 := by omega
  rcases h0 with rfl | rfl | rfl | rfl
  · have hne : (UInt8.ofNat (s / 16777216)).toNat ≠ o.toNat := hne
    show o.toNat * 16777216 + (UInt8.ofNat (s / 65536)).toNat * 65536 + (UInt8.ofNat (s / 256)).toNat * 256 + (UInt8.ofNat s).toNat ≠ s
    simp only [UInt8.toNat_ofNat'] at hne ⊢
    omega
  · have hne : (UInt8.ofNat (s / 65536)).toNat ≠ o.toNat := hne
    show (UInt8.ofNat (s / 16777216)).toNat * 16777216 + o.toNat * 65536 + (UInt8.ofNat (s / 256)).toNat * 256 + (UInt8.ofNat s).toNat ≠ s
    simp only [UInt8.toNat_ofNat'] at hne ⊢
    omega
  · have hne : (UInt8.ofNat (s / 256)).toNat ≠ o.toNat := hne
    show (UInt8.ofNat (s / 16777216)).toNat * 16777216 + (UInt8.ofNat (s / 65536)).toNat * 65536 + o.toNat * 256 + (UInt8.ofNat s).toNat ≠ s
    simp only [UInt8.toNat_ofNat'] at hne ⊢
    omega
  · have hne : (UInt8.ofNat s).toNat ≠ o.toNat := hne
    show (UInt8.ofNat (s / 16777216)).toNat * 16777216 + (UInt8.ofNat (s / 65536)).toNat * 65536 + (UInt8.ofNat (s / 256)).toNat * 256 + o.toNat ≠ s
    simp only [UInt8.toNat_ofNat'] at hne ⊢
    omega
theorem getD_app (a b : List UInt8) (i : Nat) : (a ++ b).getD (a.length + i) 0 = b.getD i 0 := by
  rw [List.getD_eq_getElem?_getD, List.getD_eq_getElem?_getD, List.getElem?_append_right (by omega), Nat.add_sub_cancel_left]
theorem getD_app_lt (a b : List UInt8) (i : Nat) (h : i < a.length) : (a ++ b).getD i 0 = a.getD i 0 := by
  rw [List.getD_eq_getElem?_getD, List.getD_eq_getElem?_getD, List.getElem?_append_left h]
theorem dec_spoilt (m : Msg) (j : Nat) (o : UInt8) (h : okM m = true) (hj : 4 ≤ j) (hj2 : j < (frM m).length) (ho : (frM m).getD j 0 ≠ o) : decV ((frM m).set j o) = ((0, 0, []), 0, 410) := by
  have h0 : msgE m.1 m.2.1 m.2.2 = 0 := of_decide_eq_true h
  obtain ⟨h1, h2, h3, h4, h5, h6⟩ := msgE_ok h0
  have hlen := frM_len m
  have hX : frM m = be4 (m.2.2.length + 9) ++ (inner m.1.toNat m.2.1.toNat m.2.2 ++ be4 (adSum (inner m.1.toNat m.2.1.toNat m.2.2))) := rfl
  generalize hI : inner m.1.toNat m.2.1.toNat m.2.2 = I at hX
  have hIl : I.length = 5 + m.2.2.length := by rw [← hI]; exact inner_len _ _ _
  obtain ⟨i, rfl⟩ : ∃ i, j = (be4 (m.2.2.length + 9)).length + i := ⟨j - 4, by rw [be4_len]; omega⟩
  have key : ∀ I' S' : List UInt8, I'.length = I.length → S'.length = 4 → of4 S' ≠ adSum I' → decV (be4 (m.2.2.length + 9) ++ (I' ++ S')) = ((0, 0, []), 0, 410) := fun I' S' hl hS hne => by
    obtain ⟨e1, e2, e3⟩ := dec_shape (m.2.2.length + 9) I' S' (by omega) (by omega)
    have hl2 : (be4 (m.2.2.length + 9) ++ (I' ++ S')).length = m.2.2.length + 13 := by rw [List.length_append, List.length_append, be4_len]; omega
    unfold decV
    rw [e1, e2, e3, if_neg (by omega), if_neg (by omega), if_neg (by omega), if_pos hne]
  rw [hX] at ho ⊢
  rw [getD_app] at ho
  rw [List.set_append, if_neg (by omega), Nat.add_sub_cancel_left]
  rcases Nat.lt_or_ge i I.length with h7 | h7
  · rw [getD_app_lt _ _ _ h7] at ho
    rw [List.set_append, if_pos h7]
    refine key _ _ (by rw [List.length_set]) rfl ?_
    have e : of4 (be4 (adSum I)) = adSum I := by have := of4_be4 (adSum I) [] (adSum_lt _); rwa [List.append_nil] at this
    rw [e]
    exact (adSum_set I i o h7 ho).symm
  · obtain ⟨i', rfl⟩ : ∃ i', i = I.length + i' := ⟨i - I.length, by omega⟩
    rw [getD_app] at ho
    rw [List.set_append, if_neg (by omega), Nat.add_sub_cancel_left]
    refine key _ _ rfl (by rw [List.length_set]; rfl) (of4_set _ i' o ?_ (adSum_lt _) ho)
    rw [be4_len] at hj2
    omega
end Go.Proofs.YtlpcdpjkdodmcaaDoor
end

section
namespace Go.Proofs.YtlpcdpjkdodmcaaDoor
open Go Go.AL Go.RowKit
set_option maxRecDepth 10000
set_option maxHeartbeats 4000000
theorem ACall.args {P : Program} {f : FuncId} {xs ys : List AV} {H : Heap} {R : AV → Heap → Prop} (hd : ∀ (w : World) (φ : Phi) (I : Nat → Prop) (us : List Value), AV.dens w φ I xs us → AV.dens w φ I ys us) (h : ACall P f ys H R) : ACall P f xs H R :=
  ⟨h.ent, fun w φ I vs hv hR hV => h.run w φ I vs (hd w φ I vs hv) hR hV⟩
theorem agg_nil {w : World} {φ : Phi} {I : Nat → Prop} {x : AV} {us : List Value} (h : AV.dens w φ I [.agg [nilS], x] us) : AV.dens w φ I [.agg [.im (.sl 1 (byteR []))], x] us := by
  simp only [AV.dens, AV.den] at h ⊢
  obtain ⟨u, us', rfl, ⟨us2, ⟨v, us3, rfl, hv, rfl⟩, rfl, hone⟩, hx⟩ := h
  exact ⟨_, us', rfl, ⟨_, ⟨v, [], rfl, nil_sl hv, rfl⟩, rfl, hone⟩, hx⟩
theorem feed_own (a b : List UInt8) (hl : a.length + b.length ≤ 1000000000) (R : List UInt8) (L : List Msg) (hR : feed (a ++ b) [] = (R, L, 0)) :
    ACall Tryd.prog 12 [.agg [.im (.sl 1 (byteR a))], .im (.sl 1 (byteR b))] [] (fun r H => r = .tup [.agg [.im (.sl 1 (byteR R))], .os 1 3 0 L.length, Iv 0] ∧ H = [(1, .vec 23 3 (msgR L))]) := by
  have hcc := concat_spec [a, b] (by simp) (by simp; omega)
  have hfl : [a, b].flatten = a ++ b := by simp
  rw [hfl] at hcc
  refine ACall.walk [0, 1, 2, 4, 5, 6, 7, 8, 9, 10, 11, 24, 28] [4, 9] Tryd.func12 rfl Tryd.ntmps12 (by kernel_rfl) (by rfl) rfl fun W own I0 φ0 lay => ?_
  repeat (first | refine xA ?_ | refine xB ?_ | refine xC ?_ | refine xE ?_ | refine xD ?_ | refine xK ?_ | refine xS ?_ | refine xM ?_ | refine xT ?_ | refine xF ?_ | ((first | refine xR ?_ | refine xW ?_ | refine vq_id ?_); simp only [go_sem, Nat.reduceAdd, Nat.reduceLeDiff, Nat.reduceSub, Int.reduceToNat, reduceCtorEq]) | (refine ⟨by first | omega | (intros; simp_all; done) | (intros; simp_all; omega), ?_⟩; try simp only [go_sem, Nat.reduceAdd, Nat.reduceLeDiff, Nat.reduceSub, Int.reduceToNat, reduceCtorEq]))
  refine AQ.fn (by kernel_rfl) rfl rfl rfl (hcc) rfl ?_
  repeat (first | refine xA ?_ | refine xB ?_ | refine xC ?_ | refine xE ?_ | refine xD ?_ | refine xK ?_ | refine xS ?_ | refine xM ?_ | refine xT ?_ | refine xF ?_ | ((first | refine xR ?_ | refine xW ?_ | refine vq_id ?_); simp only [go_sem, Nat.reduceAdd, Nat.reduceLeDiff, Nat.reduceSub, Int.reduceToNat, reduceCtorEq]) | (refine ⟨by first | omega | (intros; simp_all; done) | (intros; simp_all; omega), ?_⟩; try simp only [go_sem, Nat.reduceAdd, Nat.reduceLeDiff, Nat.reduceSub, Int.reduceToNat, reduceCtorEq]))
  refine AP.own 8 23 3 rfl ?_
  simp only [go_sem, Nat.reduceAdd, Nat.reduceLeDiff, Nat.reduceSub, Int.reduceToNat, reduceCtorEq]
  refine AP.loop rfl (α := List UInt8 × List Msg) (fun p => [(4, .ob 0 0), (7, .im (.sl 1 (byteR p.1))), (8, .os 1 3 0 p.2.length)]) (fun p => [(1, .vec 23 3 (msgR p.2)), (0, .var 36 [nilS])]) (fun p => feed p.1 p.2 = (R, L, 0) ∧ p.2.length + p.1.length ≤ 1000000000) (fun p => p.1.length) (a ++ b, []) ⟨hR, by simp; omega⟩ (by repeat (first | exact Sub.nil _ | refine Sub.cons rfl ?_)) rfl fun ⟨rest, acc⟩ ⟨hf, hb⟩ => ?_
  simp only at hf hb
  have hd := decode_spec rest (by omega)
  obtain ⟨n, hn, hn2⟩ := dec_n rest
  rw [feed] at hf
  obtain ⟨⟨⟨k, N, t⟩, n', e⟩, hdv⟩ : ∃ d, decV rest = d := ⟨_, rfl⟩
  rw [hdv] at hd hn hf
  simp only at hn hf
  subst hn
  repeat (first | refine xA ?_ | refine xB ?_ | refine xC ?_ | refine xE ?_ | refine xD ?_ | refine xK ?_ | refine xS ?_ | refine xM ?_ | refine xT ?_ | refine xF ?_ | ((first | refine xR ?_ | refine xW ?_ | refine vq_id ?_); simp only [go_sem, Nat.reduceAdd, Nat.reduceLeDiff, Nat.reduceSub, Int.reduceToNat, reduceCtorEq]) | (refine ⟨by first | omega | (intros; simp_all; done) | (intros; simp_all; omega), ?_⟩; try simp only [go_sem, Nat.reduceAdd, Nat.reduceLeDiff, Nat.reduceSub, Int.reduceToNat, reduceCtorEq]))
  refine AQ.fn (by kernel_rfl) rfl rfl rfl (hd) rfl ?_
  repeat (first | refine xA ?_ | refine xB ?_ | refine xC ?_ | refine xE ?_ | refine xD ?_ | refine xK ?_ | refine xS ?_ | refine xM ?_ | refine xT ?_ | refine xF ?_ | ((first | refine xR ?_ | refine xW ?_ | refine vq_id ?_); simp only [go_sem, Nat.reduceAdd, Nat.reduceLeDiff, Nat.reduceSub, Int.reduceToNat, reduceCtorEq]) | (refine ⟨by first | omega | (intros; simp_all; done) | (intros; simp_all; omega), ?_⟩; try simp only [go_sem, Nat.reduceAdd, Nat.reduceLeDiff, Nat.reduceSub, Int.reduceToNat, reduceCtorEq]))
  refine AP.cond rfl rfl (fun hc => ?_) (fun hc => ?_)
  · have h : e ≠ 0 := by simpa using hc
    rw [if_pos h] at hf
    simp only [Prod.mk.injEq] at hf
    exact absurd hf.2.2 h
  have h : ¬ e ≠ 0 := by simpa using hc
  rw [if_neg h] at hf
  repeat (first | refine xA ?_ | refine xB ?_ | refine xC ?_ | refine xE ?_ | refine xD ?_ | refine xK ?_ | refine xS ?_ | refine xM ?_ | refine xT ?_ | refine xF ?_ | ((first | refine xR ?_ | refine xW ?_ | refine vq_id ?_); simp only [go_sem, Nat.reduceAdd, Nat.reduceLeDiff, Nat.reduceSub, Int.reduceToNat, reduceCtorEq]) | (refine ⟨by first | omega | (intros; simp_all; done) | (intros; simp_all; omega), ?_⟩; try simp only [go_sem, Nat.reduceAdd, Nat.reduceLeDiff, Nat.reduceSub, Int.reduceToNat, reduceCtorEq]))
  refine AP.cond rfl rfl (fun hc2 => ?_) (fun hc2 => ?_)
  · have h0 : n = 0 := by simp at hc2; omega
    subst h0
    rw [dif_pos (.inl rfl)] at hf
    simp only [Prod.mk.injEq] at hf
    obtain ⟨rfl, rfl, _⟩ := hf
    repeat (first | refine xA ?_ | refine xB ?_ | refine xC ?_ | refine xE ?_ | refine xD ?_ | refine xK ?_ | refine xS ?_ | refine xM ?_ | refine xT ?_ | refine xF ?_ | ((first | refine xR ?_ | refine xW ?_ | refine vq_id ?_); simp only [go_sem, Nat.reduceAdd, Nat.reduceLeDiff, Nat.reduceSub, Int.reduceToNat, reduceCtorEq]) | (refine ⟨by first | omega | (intros; simp_all; done) | (intros; simp_all; omega), ?_⟩; try simp only [go_sem, Nat.reduceAdd, Nat.reduceLeDiff, Nat.reduceSub, Int.reduceToNat, reduceCtorEq]))
    exact AE.retD [2, 0] rfl ⟨⟨rfl, Nat.le_of_ble_eq_true (by kernel_rfl)⟩, rfl, rfl, trivial⟩ rfl ⟨rfl, rfl⟩
  have h0 : 13 ≤ n ∧ n ≤ rest.length := by simp at hc2; omega
  rw [dif_neg (by simp only [Int.toNat_natCast]; omega), Int.toNat_natCast] at hf
  repeat (first | refine xA ?_ | refine xB ?_ | refine xC ?_ | refine xE ?_ | refine xD ?_ | refine xK ?_ | refine xS ?_ | refine xM ?_ | refine xT ?_ | refine xF ?_ | ((first | refine xR ?_ | refine xW ?_ | refine vq_id ?_); simp only [go_sem, Nat.reduceAdd, Nat.reduceLeDiff, Nat.reduceSub, Int.reduceToNat, reduceCtorEq]) | (refine ⟨by first | omega | (intros; simp_all; done) | (intros; simp_all; omega), ?_⟩; try simp only [go_sem, Nat.reduceAdd, Nat.reduceLeDiff, Nat.reduceSub, Int.reduceToNat, reduceCtorEq]))
  refine AP.drawE 8 (Tree.node [] [0, 1, 4, 5, 6] [2] [Tree.node [0, 4, 5, 6] [] [3] [Tree.node [4, 5, 6] [] [7] [Tree.node [4, 5, 6] [] [] []]]]) (by kernel_rfl) rfl (by kernel_rfl) (by kernel_rfl) ?_
  refine vd_node ?_
  simp only [go_sem, Nat.reduceAdd, Nat.reduceLeDiff, Nat.reduceSub, Int.reduceToNat, reduceCtorEq, byteR_drop, Int.toNat_natCast, byteR_len]
  refine ⟨⟨by omega, by omega⟩, ?_⟩
  repeat' (first | with_reducible exact True.intro | with_reducible refine And.intro (by omega) ?_ | with_reducible refine And.intro ?_ ?_ | (refine AQ.nx rfl ?_; simp only [go_sem, Nat.reduceAdd, Nat.reduceLeDiff, Nat.reduceSub, Int.reduceToNat, reduceCtorEq, byteR_drop, Int.toNat_natCast, byteR_len]) | (refine AQ.append (hnb := rfl) (rows := msgR acc) (es := 2) (by kernel_rfl) rfl rfl rfl (by rfl) Tryd.tk37 Tryd.sz23 (by show Option.map _ (zro Tryd.prog 23) = _; rw [Tryd.zr23]; rfl) Tryd.by23 (by rw [msgR_len]) (by rw [msgR_len]; simp only [List.length_cons, List.length_nil]; omega) (by rw [msgR_len]; simp only [List.length_cons, List.length_nil]; omega) ?_; simp only [go_sem, Nat.reduceAdd, Nat.reduceLeDiff, Nat.reduceSub, Int.reduceToNat, reduceCtorEq, msgR_len, List.length_cons, List.length_nil]) | refine AQ.done ?_ | (refine AQ.go (by kernel_rfl) ?_; simp only [go_sem, Nat.reduceAdd, Nat.reduceLeDiff, Nat.reduceSub, Int.reduceToNat, reduceCtorEq, byteR_drop, Int.toNat_natCast, byteR_len]; repeat (with_reducible refine And.intro (by omega) ?_); refine AQ.nx rfl ?_; simp only [go_sem, Nat.reduceAdd, Nat.reduceLeDiff, Nat.reduceSub, Int.reduceToNat, reduceCtorEq, byteR_drop, Int.toNat_natCast, byteR_len]))
  all_goals
    repeat (first | refine xA ?_ | refine xB ?_ | refine xC ?_ | refine xE ?_ | refine xD ?_ | refine xK ?_ | refine xS ?_ | refine xM ?_ | refine xT ?_ | refine xF ?_ | ((first | refine xR ?_ | refine xW ?_ | refine vq_id ?_); simp only [go_sem, Nat.reduceAdd, Nat.reduceLeDiff, Nat.reduceSub, Int.reduceToNat, reduceCtorEq, byteR_drop, Int.toNat_natCast, byteR_len]) | (refine ⟨by first | omega | (intros; simp_all; done) | (intros; simp_all; omega), ?_⟩; try simp only [go_sem, Nat.reduceAdd, Nat.reduceLeDiff, Nat.reduceSub, Int.reduceToNat, reduceCtorEq, byteR_drop, Int.toNat_natCast, byteR_len]))
    refine AE.forgets [2] rfl ?_
    simp only [go_sem, Nat.reduceAdd, Nat.reduceLeDiff, Nat.reduceSub, Int.reduceToNat, reduceCtorEq, byteR_drop, Int.toNat_natCast, byteR_len]
    refine AE.round (rest.drop n, acc ++ [(k, N, t)]) ⟨hf, ?_⟩ ?_ ?_ ?_
    · simp only [List.length_append, List.length_drop, List.length_cons, List.length_nil]; omega
    · simp only [List.length_drop]; omega
    · simp only [List.length_append, List.length_cons, List.length_nil]; exact (by repeat (first | exact Sub.nil _ | refine Sub.cons rfl ?_))
    · rw [← msgR_snoc]
def long (m : Msg) : Bool := decide (200 < m.2.2.length)
theorem long_spec (m : Msg) : PFn Tryd.prog 18 [.agg [Iv m.1, Iv m.2.1, Sv m.2.2]] (Bv (long m)) := by
  refine ACall.walk [0, 1, 2] [] Tryd.func18 rfl Tryd.ntmps18 (by kernel_rfl) (by rfl) rfl fun W own I0 φ0 lay => ?_
  repeat (first | refine xA ?_ | refine xB ?_ | refine xC ?_ | refine xE ?_ | refine xD ?_ | refine xK ?_ | refine xS ?_ | refine xM ?_ | refine xT ?_ | refine xF ?_ | ((first | refine xR ?_ | refine xW ?_ | refine vq_id ?_); simp only [go_sem, Nat.reduceAdd, Nat.reduceLeDiff, Nat.reduceSub, Int.reduceToNat, reduceCtorEq, BA_size]) | (refine ⟨by first | omega | (intros; simp_all; done) | (intros; simp_all; omega), ?_⟩; try simp only [go_sem, Nat.reduceAdd, Nat.reduceLeDiff, Nat.reduceSub, Int.reduceToNat, reduceCtorEq, BA_size]))
  refine AE.ret0 rfl ⟨rfl, trivial⟩ rfl ⟨rfl, ?_⟩
  simp only [tupOf, AV.st, long]
  congr 4
  exact propext (by omega)
theorem anyl_index (l : List Msg) (hl : l.length ≤ 1000000000) : ACall Tryd.prog 43 [.im (.sl 3 (msgR l)), .fn 18 [] []] [] (fun r H => H = [] ∧ ∃ i : Int, r = Iv i ∧ (decide (0 ≤ i)) = l.any long) := by
  refine ACall.walk [0, 1, 4, 5, 7, 8, 9, 16] [] Tryd.func43 rfl Tryd.ntmps43 (by kernel_rfl) (by rfl) rfl fun W own I0 φ0 lay => ?_
  repeat (first | refine xA ?_ | refine xB ?_ | refine xC ?_ | refine xE ?_ | refine xD ?_ | refine xK ?_ | refine xS ?_ | refine xM ?_ | refine xT ?_ | refine xF ?_ | ((first | refine xR ?_ | refine xW ?_ | refine vq_id ?_); simp only [go_sem, Nat.reduceAdd, Nat.reduceLeDiff, Nat.reduceSub, Int.reduceToNat, reduceCtorEq, msgR_len]) | (refine ⟨by first | omega | (intros; simp_all; done) | (intros; simp_all; omega), ?_⟩; try simp only [go_sem, Nat.reduceAdd, Nat.reduceLeDiff, Nat.reduceSub, Int.reduceToNat, reduceCtorEq, msgR_len]))
  refine AP.loop rfl (α := Nat) (fun k => [(0, .im (.sl 3 (msgR l))), (1, .fn 18 [] []), (7, Iv l.length), (8, Iv k)]) (fun k => []) (fun k => k ≤ l.length ∧ (l.take k).any long = false) (fun k => l.length - k) 0 (by simp) (by repeat (first | exact Sub.nil _ | refine Sub.cons rfl ?_)) rfl fun k ⟨hk, hkl⟩ => ?_
  have hw := wr (x := (k : Int) + 1) (by omega)
  repeat (first | refine xA ?_ | refine xB ?_ | refine xC ?_ | refine xE ?_ | refine xD ?_ | refine xK ?_ | refine xS ?_ | refine xM ?_ | refine xT ?_ | refine xF ?_ | ((first | refine xR ?_ | refine xW ?_ | refine vq_id ?_); simp only [go_sem, Nat.reduceAdd, Nat.reduceLeDiff, Nat.reduceSub, Int.reduceToNat, reduceCtorEq]) | (refine ⟨by first | omega | (intros; simp_all; done) | (intros; simp_all; omega), ?_⟩; try simp only [go_sem, Nat.reduceAdd, Nat.reduceLeDiff, Nat.reduceSub, Int.reduceToNat, reduceCtorEq]))
  refine AP.cond rfl rfl (fun hc => ?_) (fun hc => ?_)
  · have hk' : k < l.length := by simp at hc; omega
    obtain ⟨⟨a, b, t⟩, hm, hg⟩ := msgR_get l k hk'
    have hsp := long_spec (a, b, t)
    obtain ⟨v, hv⟩ : ∃ v, long (a, b, t) = v := ⟨_, rfl⟩
    rw [hv] at hsp
    repeat (first | refine xA ?_ | refine xB ?_ | refine xC ?_ | refine xE ?_ | refine xD ?_ | refine xK ?_ | refine xS ?_ | refine xM ?_ | refine xT ?_ | refine xF ?_ | ((first | refine xR ?_ | refine xW ?_ | refine vq_id ?_); simp only [go_sem, Nat.reduceAdd, Nat.reduceLeDiff, Nat.reduceSub, Int.reduceToNat, reduceCtorEq, msgR_len, hg, hw, Int.toNat_natCast, List.map_cons, List.map_nil, List.length_cons, List.length_nil, List.take_succ_cons, List.take_zero, List.drop_zero]) | (refine ⟨by first | omega | (intros; simp_all; done) | (intros; simp_all; omega), ?_⟩; try simp only [go_sem, Nat.reduceAdd, Nat.reduceLeDiff, Nat.reduceSub, Int.reduceToNat, reduceCtorEq, msgR_len, hg, hw, Int.toNat_natCast, List.map_cons, List.map_nil, List.length_cons, List.length_nil, List.take_succ_cons, List.take_zero, List.drop_zero]))
    refine AQ.fnL ([.agg [Iv a, Iv b, Sv t]]) (by kernel_rfl) rfl rfl rfl (by ((try simp only [List.nil_append, List.append_nil, List.cons_append, List.map_cons, List.map_nil, AV.st, constAV]); repeat (first | with_reducible exact LentC.nil | with_reducible exact LentAs.nil | with_reducible refine LentC.cons ?_ ?_ | with_reducible refine LentAs.cons ?_ ?_ | with_reducible exact Lent.im _ | with_reducible exact LentA.im _ | with_reducible refine LentA.of ?_ | with_reducible refine LentA.agg ?_ | ((with_reducible apply Lent.osw); rfl; simp only [blkR_len, wrR_len, byteR_len, List.length_append, List.length_cons, List.length_nil]) | ((with_reducible apply Lent.ob0); rfl)))) (hsp) rfl (fun _ => rfl) ?_
    repeat (first | refine xA ?_ | refine xB ?_ | refine xC ?_ | refine xE ?_ | refine xD ?_ | refine xK ?_ | refine xS ?_ | refine xM ?_ | refine xT ?_ | refine xF ?_ | ((first | refine xR ?_ | refine xW ?_ | refine vq_id ?_); simp only [go_sem, Nat.reduceAdd, Nat.reduceLeDiff, Nat.reduceSub, Int.reduceToNat, reduceCtorEq]) | (refine ⟨by first | omega | (intros; simp_all; done) | (intros; simp_all; omega), ?_⟩; try simp only [go_sem, Nat.reduceAdd, Nat.reduceLeDiff, Nat.reduceSub, Int.reduceToNat, reduceCtorEq]))
    refine AP.cond rfl rfl (fun hv2 => ?_) (fun hv2 => ?_)
    · subst hv2
      repeat (first | refine xA ?_ | refine xB ?_ | refine xC ?_ | refine xE ?_ | refine xD ?_ | refine xK ?_ | refine xS ?_ | refine xM ?_ | refine xT ?_ | refine xF ?_ | ((first | refine xR ?_ | refine xW ?_ | refine vq_id ?_); simp only [go_sem, Nat.reduceAdd, Nat.reduceLeDiff, Nat.reduceSub, Int.reduceToNat, reduceCtorEq]) | (refine ⟨by first | omega | (intros; simp_all; done) | (intros; simp_all; omega), ?_⟩; try simp only [go_sem, Nat.reduceAdd, Nat.reduceLeDiff, Nat.reduceSub, Int.reduceToNat, reduceCtorEq]))
      refine AE.ret0 rfl ⟨rfl, trivial⟩ rfl ⟨rfl, _, rfl, ?_⟩
      have : l.any long = true := List.any_eq_true.2 ⟨(a, b, t), List.mem_of_getElem? hm, hv⟩
      rw [this]; simp
    · subst hv2
      repeat (first | refine xA ?_ | refine xB ?_ | refine xC ?_ | refine xE ?_ | refine xD ?_ | refine xK ?_ | refine xS ?_ | refine xM ?_ | refine xT ?_ | refine xF ?_ | ((first | refine xR ?_ | refine xW ?_ | refine vq_id ?_); simp only [go_sem, Nat.reduceAdd, Nat.reduceLeDiff, Nat.reduceSub, Int.reduceToNat, reduceCtorEq, hw]) | (refine ⟨by first | omega | (intros; simp_all; done) | (intros; simp_all; omega), ?_⟩; try simp only [go_sem, Nat.reduceAdd, Nat.reduceLeDiff, Nat.reduceSub, Int.reduceToNat, reduceCtorEq, hw]))
      refine AE.round (k + 1) ⟨by omega, ?_⟩ (by omega) (by repeat (first | exact Sub.nil _ | refine Sub.cons rfl ?_)) rfl
      rw [List.take_add_one, hm, Option.toList_some, List.any_append, hkl]
      simp [hv]
  · have hk' : k = l.length := by simp at hc; omega
    rw [hk', List.take_length] at hkl
    repeat (first | refine xA ?_ | refine xB ?_ | refine xC ?_ | refine xE ?_ | refine xD ?_ | refine xK ?_ | refine xS ?_ | refine xM ?_ | refine xT ?_ | refine xF ?_ | ((first | refine xR ?_ | refine xW ?_ | refine vq_id ?_); simp only [go_sem, Nat.reduceAdd, Nat.reduceLeDiff, Nat.reduceSub, Int.reduceToNat, reduceCtorEq]) | (refine ⟨by first | omega | (intros; simp_all; done) | (intros; simp_all; omega), ?_⟩; try simp only [go_sem, Nat.reduceAdd, Nat.reduceLeDiff, Nat.reduceSub, Int.reduceToNat, reduceCtorEq]))
    refine AE.ret0 rfl ⟨rfl, trivial⟩ rfl ⟨rfl, _, rfl, ?_⟩
    rw [hkl]; rfl
theorem anyl_spec (l : List Msg) (hl : l.length ≤ 1000000000) : PFn Tryd.prog 17 [.im (.sl 3 (msgR l)), .fn 18 [] []] (Bv (l.any long)) := by
  refine ACall.walk [0, 1, 4] [] Tryd.func17 rfl Tryd.ntmps17 (by kernel_rfl) (by rfl) rfl fun W own I0 φ0 lay => ?_
  repeat (first | refine xA ?_ | refine xB ?_ | refine xC ?_ | refine xE ?_ | refine xD ?_ | refine xK ?_ | refine xS ?_ | refine xM ?_ | refine xT ?_ | refine xF ?_ | ((first | refine xR ?_ | refine xW ?_ | refine vq_id ?_); simp only [go_sem, Nat.reduceAdd, Nat.reduceLeDiff, Nat.reduceSub, Int.reduceToNat, reduceCtorEq]) | (refine ⟨by first | omega | (intros; simp_all; done) | (intros; simp_all; omega), ?_⟩; try simp only [go_sem, Nat.reduceAdd, Nat.reduceLeDiff, Nat.reduceSub, Int.reduceToNat, reduceCtorEq]))
  refine AQ.call (by kernel_rfl) rfl rfl rfl (anyl_index l hl) (fun r H ⟨h1, i, h2, h3⟩ => ⟨h1, by rw [h2]; rfl⟩) fun r ⟨_, i, h2, h3⟩ => ?_
  subst h2
  repeat (first | refine xA ?_ | refine xB ?_ | refine xC ?_ | refine xE ?_ | refine xD ?_ | refine xK ?_ | refine xS ?_ | refine xM ?_ | refine xT ?_ | refine xF ?_ | ((first | refine xR ?_ | refine xW ?_ | refine vq_id ?_); simp only [go_sem, Nat.reduceAdd, Nat.reduceLeDiff, Nat.reduceSub, Int.reduceToNat, reduceCtorEq, h3]) | (refine ⟨by first | omega | (intros; simp_all; done) | (intros; simp_all; omega), ?_⟩; try simp only [go_sem, Nat.reduceAdd, Nat.reduceLeDiff, Nat.reduceSub, Int.reduceToNat, reduceCtorEq, h3]))
  exact AE.ret0 rfl ⟨rfl, trivial⟩ rfl ⟨rfl, rfl⟩
theorem clone_own (l : List UInt8) (hn : l ≠ []) (hl : l.length ≤ 1000000000) : ACall Tryd.prog 19 [.im (.sl 1 (byteR l))] [] (fun r H => r = .os 0 1 0 l.length ∧ H = [(0, .vec 5 1 (byteR l))]) := by
  have hne : byteR l ≠ [] := by simpa [byteR] using hn
  refine ACall.walk [0, 2, 4] [] Tryd.func19 rfl Tryd.ntmps19 (by kernel_rfl) (by rfl) rfl fun W own I0 φ0 lay => ?_
  repeat (first | refine xA ?_ | refine xB ?_ | refine xC ?_ | refine xE ?_ | refine xD ?_ | refine xK ?_ | refine xS ?_ | refine xM ?_ | refine xT ?_ | refine xF ?_ | ((first | refine xR ?_ | refine xW ?_ | refine vq_id ?_); simp only [go_sem, Nat.reduceAdd, Nat.reduceLeDiff, Nat.reduceSub, Int.reduceToNat, reduceCtorEq]))
  refine ⟨hne, ?_⟩
  repeat (first | refine xA ?_ | refine xB ?_ | refine xC ?_ | refine xE ?_ | refine xD ?_ | refine xK ?_ | refine xS ?_ | refine xM ?_ | refine xT ?_ | refine xF ?_ | ((first | refine xR ?_ | refine xW ?_ | refine vq_id ?_); simp only [go_sem, Nat.reduceAdd, Nat.reduceLeDiff, Nat.reduceSub, Int.reduceToNat, reduceCtorEq]) | (refine ⟨by first | omega | (intros; simp_all; done) | (intros; simp_all; omega), ?_⟩; try simp only [go_sem, Nat.reduceAdd, Nat.reduceLeDiff, Nat.reduceSub, Int.reduceToNat, reduceCtorEq]))
  refine AQ.append (hnb := rfl) (rows := []) (es := 0) (by kernel_rfl) rfl rfl rfl (by rfl) Tryd.tk24 Tryd.sz5 (by show Option.map _ (zro Tryd.prog 5) = _; rw [Tryd.zr5]; rfl) Tryd.by5 rfl (by simp only [byteR_len, List.length_nil]; omega) (by simp only [byteR_len, List.length_nil]; omega) ?_
  repeat (first | refine xA ?_ | refine xB ?_ | refine xC ?_ | refine xE ?_ | refine xD ?_ | refine xK ?_ | refine xS ?_ | refine xM ?_ | refine xT ?_ | refine xF ?_ | ((first | refine xR ?_ | refine xW ?_ | refine vq_id ?_); simp only [go_sem, Nat.reduceAdd, Nat.reduceLeDiff, Nat.reduceSub, Int.reduceToNat, reduceCtorEq, List.nil_append, List.length_nil, byteR_len]) | (refine ⟨by first | omega | (intros; simp_all; done) | (intros; simp_all; omega), ?_⟩; try simp only [go_sem, Nat.reduceAdd, Nat.reduceLeDiff, Nat.reduceSub, Int.reduceToNat, reduceCtorEq, List.nil_append, List.length_nil, byteR_len]))
  exact AE.ret rfl ⟨rfl, trivial⟩ ⟨by simp [tupOf, AV.st], rfl⟩
theorem meqS_spec (l : List Msg) (hl : l.length ≤ 1000000000) : PFn Tryd.prog 20 [.im (.sl 3 (msgR l)), .im (.sl 3 (msgR l))] (Bv true) := by
  refine ACall.walk [0, 1, 4, 5, 10, 12, 13, 14, 24] [] Tryd.func20 rfl Tryd.ntmps20 (by kernel_rfl) (by rfl) rfl fun W own I0 φ0 lay => ?_
  repeat (first | refine xA ?_ | refine xB ?_ | refine xC ?_ | refine xE ?_ | refine xD ?_ | refine xK ?_ | refine xS ?_ | refine xM ?_ | refine xT ?_ | refine xF ?_ | ((first | refine xR ?_ | refine xW ?_ | refine vq_id ?_); simp only [go_sem, Nat.reduceAdd, Nat.reduceLeDiff, Nat.reduceSub, Int.reduceToNat, reduceCtorEq, msgR_len, bne_self_eq_false]) | (refine ⟨by first | omega | (intros; simp_all; done) | (intros; simp_all; omega), ?_⟩; try simp only [go_sem, Nat.reduceAdd, Nat.reduceLeDiff, Nat.reduceSub, Int.reduceToNat, reduceCtorEq, msgR_len, bne_self_eq_false]))
  refine AP.loop rfl (α := Nat) (fun k => [(0, .im (.sl 3 (msgR l))), (1, .im (.sl 3 (msgR l))), (12, Iv l.length), (13, Iv k)]) (fun k => []) (fun k => k ≤ l.length) (fun k => l.length - k) 0 (by simp) (by repeat (first | exact Sub.nil _ | refine Sub.cons rfl ?_)) rfl fun k hk => ?_
  have hw := wr (x := (k : Int) + 1) (by omega)
  repeat (first | refine xA ?_ | refine xB ?_ | refine xC ?_ | refine xE ?_ | refine xD ?_ | refine xK ?_ | refine xS ?_ | refine xM ?_ | refine xT ?_ | refine xF ?_ | ((first | refine xR ?_ | refine xW ?_ | refine vq_id ?_); simp only [go_sem, Nat.reduceAdd, Nat.reduceLeDiff, Nat.reduceSub, Int.reduceToNat, reduceCtorEq]) | (refine ⟨by first | omega | (intros; simp_all; done) | (intros; simp_all; omega), ?_⟩; try simp only [go_sem, Nat.reduceAdd, Nat.reduceLeDiff, Nat.reduceSub, Int.reduceToNat, reduceCtorEq]))
  refine AP.cond rfl rfl (fun hc => ?_) (fun hc => ?_)
  · have hk' : k < l.length := by simp at hc; omega
    obtain ⟨⟨a, b, t⟩, hm, hg⟩ := msgR_get l k hk'
    repeat (first | refine xA ?_ | refine xB ?_ | refine xC ?_ | refine xE ?_ | refine xD ?_ | refine xK ?_ | refine xS ?_ | refine xM ?_ | refine xT ?_ | refine xF ?_ | ((first | refine xR ?_ | refine xW ?_ | refine vq_id ?_); simp only [go_sem, Nat.reduceAdd, Nat.reduceLeDiff, Nat.reduceSub, Int.reduceToNat, reduceCtorEq, msgR_len, hg, hw, Int.toNat_natCast, List.map_cons, List.map_nil, List.length_cons, List.length_nil, List.take_succ_cons, List.take_zero, List.drop_zero, beq_self_eq_true, Bool.and_self, Bool.not_true]) | (refine ⟨by first | omega | (intros; simp_all; done) | (intros; simp_all; omega), ?_⟩; try simp only [go_sem, Nat.reduceAdd, Nat.reduceLeDiff, Nat.reduceSub, Int.reduceToNat, reduceCtorEq, msgR_len, hg, hw, Int.toNat_natCast, List.map_cons, List.map_nil, List.length_cons, List.length_nil, List.take_succ_cons, List.take_zero, List.drop_zero, beq_self_eq_true, Bool.and_self, Bool.not_true]))
    exact AE.round (k + 1) (by omega) (by omega) (by repeat (first | exact Sub.nil _ | refine Sub.cons rfl ?_)) rfl
  · repeat (first | refine xA ?_ | refine xB ?_ | refine xC ?_ | refine xE ?_ | refine xD ?_ | refine xK ?_ | refine xS ?_ | refine xM ?_ | refine xT ?_ | refine xF ?_ | ((first | refine xR ?_ | refine xW ?_ | refine vq_id ?_); simp only [go_sem, Nat.reduceAdd, Nat.reduceLeDiff, Nat.reduceSub, Int.reduceToNat, reduceCtorEq]) | (refine ⟨by first | omega | (intros; simp_all; done) | (intros; simp_all; omega), ?_⟩; try simp only [go_sem, Nat.reduceAdd, Nat.reduceLeDiff, Nat.reduceSub, Int.reduceToNat, reduceCtorEq]))
    exact AE.ret0 rfl ⟨rfl, trivial⟩ rfl ⟨rfl, rfl⟩
end Go.Proofs.YtlpcdpjkdodmcaaDoor
end

section
namespace Go.Proofs.YtlpcdpjkdodmcaaDoor
open Go Go.AL Go.RowKit
set_option maxRecDepth 10000
set_option maxHeartbeats 4000000
def good (l : List Msg) : List Msg := l.filter okM
theorem good_ok (l : List Msg) : ∀ m ∈ good l, okM m = true := fun m hm => (List.mem_filter.1 hm).2
theorem good_step (l : List Msg) (k : Nat) (m : Msg) (h : l[k]? = some m) : good (l.take (k + 1)) = if okM m then good (l.take k) ++ [m] else good (l.take k) := by
  rw [List.take_add_one, h, Option.toList_some, good, List.filter_append]
  by_cases hm : okM m = true
  · rw [if_pos hm, List.filter_cons_of_pos hm]; rfl
  · rw [if_neg hm, List.filter_cons_of_neg hm, List.filter_nil, List.append_nil]; rfl
theorem frMs_snoc (l : List Msg) (m : Msg) : frMs (l ++ [m]) = frMs l ++ frM m := by simp [frMs]
theorem frMs_len (l : List Msg) (h : ∀ m ∈ l, m.2.2.length ≤ 200) : (frMs l).length ≤ 213 * l.length := by
  induction l with
  | nil => simp [frMs]
  | cons m l ih =>
    rw [frMs_cons, List.length_append, frM_len, List.length_cons]
    have := h m (by simp)
    have := ih fun x hx => h x (by simp [hx])
    omega
theorem good_len (l : List Msg) : (good l).length ≤ l.length := List.length_filter_le _ _
theorem encV_ok (m : Msg) (h : okM m = true) : encV m.1 m.2.1 m.2.2 = .tup [.im (.sl 1 (byteR (frM m))), Iv 0] := by
  unfold encV
  rw [if_pos (of_decide_eq_true h)]
  rfl
theorem encV_bad (m : Msg) (h : ¬ okM m = true) : ∃ e, e ≠ 0 ∧ encV m.1 m.2.1 m.2.2 = .tup [nilS, Iv e] := by
  have h' : ¬ msgE m.1 m.2.1 m.2.2 = 0 := fun e => h (decide_eq_true e)
  unfold encV
  rw [if_neg h']
  exact ⟨_, h', rfl⟩
theorem byteR_set (l : List UInt8) (j : Nat) (o : UInt8) : (byteR l).set j [.v (.int .u8 o.toNat)] = byteR (l.set j o) := by
  simp [byteR, List.map_set]
theorem feed_rest : ∀ (n : Nat) (rest : List UInt8) (acc : List Msg), rest.length ≤ n → (feed rest acc).1.length ≤ rest.length
  | n, rest, acc, hn => by
    rw [feed]
    split
    · simp
    · split
      · exact Nat.le_refl _
      · rename_i h
        obtain ⟨k, hk, hk2⟩ := dec_n rest
        rw [hk, Int.toNat_natCast] at h ⊢
        match n, hn with
        | 0, hn => omega
        | n + 1, hn =>
          have := feed_rest n (rest.drop k) (acc ++ [(decV rest).1]) (by rw [List.length_drop]; omega)
          rw [List.length_drop] at this
          omega
theorem bytes_walk (L : List Msg) (c a : Nat) (o : UInt8) (hc0 : c < 65536) (ha0 : a < 65536) (hL0 : L.length < 9223372036854775808) : PFn Tryd.prog 4 [.im (.sl 3 (msgR L)), .im (.v (.int .u16 c)), .im (.v (.int .u16 a)), .im (.v (.int .u8 o.toNat))] (Bv true) := by
  by_cases hL : 20 < L.length
  · refine ACall.walk [0, 1, 2, 3, 8, 9, 10, 12, 13, 14, 15, 16, 17, 18, 19, 22, 23, 24, 25, 26, 27, 34, 36, 37, 38, 39, 48, 67, 80, 94, 119] [12, 15, 20, 24] Tryd.func4 rfl Tryd.ntmps4 (by kernel_rfl) (by rfl) rfl fun W own I0 φ0 lay => ?_
    have hd : decide (20 < (L.length : Int)) = true := by simp; omega
    repeat (first | refine xA ?_ | refine xB ?_ | refine xC ?_ | refine xE ?_ | refine xD ?_ | refine xK ?_ | refine xS ?_ | refine xM ?_ | refine xT ?_ | refine xF ?_ | ((first | refine xR ?_ | refine xW ?_ | refine vq_id ?_); simp only [go_sem, Nat.reduceAdd, Nat.reduceLeDiff, Nat.reduceSub, Int.reduceToNat, reduceCtorEq, msgR_len, hd]) | (refine ⟨by first | omega | (intros; simp_all; done) | (intros; simp_all; omega), ?_⟩; try simp only [go_sem, Nat.reduceAdd, Nat.reduceLeDiff, Nat.reduceSub, Int.reduceToNat, reduceCtorEq, msgR_len, hd]))
    refine AQ.fn (by kernel_rfl) rfl rfl rfl (awake_spec) rfl ?_
    repeat (first | refine xA ?_ | refine xB ?_ | refine xC ?_ | refine xE ?_ | refine xD ?_ | refine xK ?_ | refine xS ?_ | refine xM ?_ | refine xT ?_ | refine xF ?_ | ((first | refine xR ?_ | refine xW ?_ | refine vq_id ?_); simp only [go_sem, Nat.reduceAdd, Nat.reduceLeDiff, Nat.reduceSub, Int.reduceToNat, reduceCtorEq]) | (refine ⟨by first | omega | (intros; simp_all; done) | (intros; simp_all; omega), ?_⟩; try simp only [go_sem, Nat.reduceAdd, Nat.reduceLeDiff, Nat.reduceSub, Int.reduceToNat, reduceCtorEq]))
    exact AE.ret0 rfl ⟨rfl, trivial⟩ rfl ⟨rfl, rfl⟩
  have hany := anyl_spec L (by omega)
  obtain ⟨v, hv⟩ : ∃ v, L.any long = v := ⟨_, rfl⟩
  rw [hv] at hany
  refine ACall.walk [0, 1, 2, 3, 8, 9, 10, 12, 13, 14, 15, 16, 17, 18, 19, 22, 23, 24, 25, 26, 27, 34, 36, 37, 38, 39, 48, 67, 80, 94, 119] [12, 15, 20, 24] Tryd.func4 rfl Tryd.ntmps4 (by kernel_rfl) (by rfl) rfl fun W own I0 φ0 lay => ?_
  have hd : decide (20 < (L.length : Int)) = false := by simp; omega
  repeat (first | refine xA ?_ | refine xB ?_ | refine xC ?_ | refine xE ?_ | refine xD ?_ | refine xK ?_ | refine xS ?_ | refine xM ?_ | refine xT ?_ | refine xF ?_ | ((first | refine xR ?_ | refine xW ?_ | refine vq_id ?_); simp only [go_sem, Nat.reduceAdd, Nat.reduceLeDiff, Nat.reduceSub, Int.reduceToNat, reduceCtorEq, msgR_len, hd]) | (refine ⟨by first | omega | (intros; simp_all; done) | (intros; simp_all; omega), ?_⟩; try simp only [go_sem, Nat.reduceAdd, Nat.reduceLeDiff, Nat.reduceSub, Int.reduceToNat, reduceCtorEq, msgR_len, hd]))
  refine AQ.fn_g (by kernel_rfl) rfl rfl (fun h => by first | (simp [gs, AV.g]; done) | (simp [gs, AV.g, constAV]; done) | (simp [gs, AV.g, constAV, bw] at h ⊢; done) | (simp [gs, AV.g, constAV, bw] at h ⊢; exact h) | (simp [gs, AV.g, constAV, bw] at h ⊢; simp [h]; done) | (simp [bw] at h; done) | (simp [gs, AV.g, bw] at h ⊢; simp [h]; done) | (simp [gs, AV.g, bw] at h ⊢; exact h.1) | (simp [gs, AV.g]; rfl) | (simp [gs, AV.g, bw] at h ⊢; rfl) | (simp [gs, AV.g, bw] at h ⊢; simp [h]; rfl) | (simp [gs, AV.g, bw] at h ⊢; simp_all)) rfl (fun _ => hany) rfl ?_
  repeat (first | refine xA ?_ | refine xB ?_ | refine xC ?_ | refine xE ?_ | refine xD ?_ | refine xK ?_ | refine xS ?_ | refine xM ?_ | refine xT ?_ | refine xF ?_ | ((first | refine xR ?_ | refine xW ?_ | refine vq_id ?_); simp only [go_sem, Nat.reduceAdd, Nat.reduceLeDiff, Nat.reduceSub, Int.reduceToNat, reduceCtorEq]) | (refine ⟨by first | omega | (intros; simp_all; done) | (intros; simp_all; omega), ?_⟩; try simp only [go_sem, Nat.reduceAdd, Nat.reduceLeDiff, Nat.reduceSub, Int.reduceToNat, reduceCtorEq]))
  refine AP.cond rfl rfl (fun hv2 => ?_) (fun hv2 => ?_)
  · repeat (first | refine xA ?_ | refine xB ?_ | refine xC ?_ | refine xE ?_ | refine xD ?_ | refine xK ?_ | refine xS ?_ | refine xM ?_ | refine xT ?_ | refine xF ?_ | ((first | refine xR ?_ | refine xW ?_ | refine vq_id ?_); simp only [go_sem, Nat.reduceAdd, Nat.reduceLeDiff, Nat.reduceSub, Int.reduceToNat, reduceCtorEq]) | (refine ⟨by first | omega | (intros; simp_all; done) | (intros; simp_all; omega), ?_⟩; try simp only [go_sem, Nat.reduceAdd, Nat.reduceLeDiff, Nat.reduceSub, Int.reduceToNat, reduceCtorEq]))
    refine AQ.fn (by kernel_rfl) rfl rfl rfl (awake_spec) rfl ?_
    repeat (first | refine xA ?_ | refine xB ?_ | refine xC ?_ | refine xE ?_ | refine xD ?_ | refine xK ?_ | refine xS ?_ | refine xM ?_ | refine xT ?_ | refine xF ?_ | ((first | refine xR ?_ | refine xW ?_ | refine vq_id ?_); simp only [go_sem, Nat.reduceAdd, Nat.reduceLeDiff, Nat.reduceSub, Int.reduceToNat, reduceCtorEq]) | (refine ⟨by first | omega | (intros; simp_all; done) | (intros; simp_all; omega), ?_⟩; try simp only [go_sem, Nat.reduceAdd, Nat.reduceLeDiff, Nat.reduceSub, Int.reduceToNat, reduceCtorEq]))
    exact AE.ret0 rfl ⟨rfl, trivial⟩ rfl ⟨rfl, rfl⟩
  subst hv2
  have hsm : ∀ m ∈ L, m.2.2.length ≤ 200 := fun m hm => by
    have := List.any_eq_false.1 hv m hm
    simp [long] at this
    exact this
  have hgs : ∀ k, ∀ m ∈ good (L.take k), m.2.2.length ≤ 200 := fun k m hm => hsm m (List.mem_of_mem_take (List.mem_filter.1 hm).1)
  have hgl : ∀ k, (good (L.take k)).length ≤ 20 := fun k => by
    have := good_len (L.take k)
    rw [List.length_take] at this
    omega
  have hfl : ∀ k, (frMs (good (L.take k))).length ≤ 4260 := fun k => by
    have := frMs_len _ (hgs k)
    have := hgl k
    omega
  repeat (first | refine xA ?_ | refine xB ?_ | refine xC ?_ | refine xE ?_ | refine xD ?_ | refine xK ?_ | refine xS ?_ | refine xM ?_ | refine xT ?_ | refine xF ?_ | ((first | refine xR ?_ | refine xW ?_ | refine vq_id ?_); simp only [go_sem, Nat.reduceAdd, Nat.reduceLeDiff, Nat.reduceSub, Int.reduceToNat, reduceCtorEq]) | (refine ⟨by first | omega | (intros; simp_all; done) | (intros; simp_all; omega), ?_⟩; try simp only [go_sem, Nat.reduceAdd, Nat.reduceLeDiff, Nat.reduceSub, Int.reduceToNat, reduceCtorEq]))
  refine AP.own 9 5 1 rfl ?_
  simp only [go_sem, Nat.reduceAdd, Nat.reduceLeDiff, Nat.reduceSub, Int.reduceToNat, reduceCtorEq]
  refine AP.own 10 23 3 rfl ?_
  simp only [go_sem, Nat.reduceAdd, Nat.reduceLeDiff, Nat.reduceSub, Int.reduceToNat, reduceCtorEq]
  refine AP.loop rfl (α := Nat) (fun k => [(1, .im (.v (.int .u16 c))), (2, .im (.v (.int .u16 a))), (3, .im (.v (.int .u8 o.toNat))), (9, .os 0 1 0 (frMs (good (L.take k))).length), (10, .os 1 3 0 (good (L.take k)).length), (36, .im (.sl 3 (msgR L))), (37, Iv L.length), (38, Iv k)]) (fun k => [(1, .vec 23 3 (msgR (good (L.take k)))), (0, .vec 5 1 (byteR (frMs (good (L.take k)))))]) (fun k => k ≤ L.length) (fun k => L.length - k) 0 (by simp) (by rw [show L.length = (msgR L).length from (msgR_len L).symm]; exact (by repeat (first | exact Sub.nil _ | refine Sub.cons rfl ?_))) rfl fun k hk => ?_
  have hw := wr (x := (k : Int) + 1) (by omega)
  repeat (first | refine xA ?_ | refine xB ?_ | refine xC ?_ | refine xE ?_ | refine xD ?_ | refine xK ?_ | refine xS ?_ | refine xM ?_ | refine xT ?_ | refine xF ?_ | ((first | refine xR ?_ | refine xW ?_ | refine vq_id ?_); simp only [go_sem, Nat.reduceAdd, Nat.reduceLeDiff, Nat.reduceSub, Int.reduceToNat, reduceCtorEq]) | (refine ⟨by first | omega | (intros; simp_all; done) | (intros; simp_all; omega), ?_⟩; try simp only [go_sem, Nat.reduceAdd, Nat.reduceLeDiff, Nat.reduceSub, Int.reduceToNat, reduceCtorEq]))
  refine AP.cond rfl rfl (fun hc => ?_) (fun hc => ?_)
  · have hk' : k < L.length := by simp at hc; omega
    obtain ⟨m, hm, hg⟩ := msgR_get L k hk'
    have hst := good_step L k m hm
    have hen := encode_spec m.1 m.2.1 m.2.2
    repeat (first | refine xA ?_ | refine xB ?_ | refine xC ?_ | refine xE ?_ | refine xD ?_ | refine xK ?_ | refine xS ?_ | refine xM ?_ | refine xT ?_ | refine xF ?_ | ((first | refine xR ?_ | refine xW ?_ | refine vq_id ?_); simp only [go_sem, Nat.reduceAdd, Nat.reduceLeDiff, Nat.reduceSub, Int.reduceToNat, reduceCtorEq, msgR_len, hg, Int.toNat_natCast, List.map_cons, List.map_nil, List.length_cons, List.length_nil, List.take_succ_cons, List.take_zero, List.drop_zero]) | (refine ⟨by first | omega | (intros; simp_all; done) | (intros; simp_all; omega), ?_⟩; try simp only [go_sem, Nat.reduceAdd, Nat.reduceLeDiff, Nat.reduceSub, Int.reduceToNat, reduceCtorEq, msgR_len, hg, Int.toNat_natCast, List.map_cons, List.map_nil, List.length_cons, List.length_nil, List.take_succ_cons, List.take_zero, List.drop_zero]))
    by_cases hok : okM m = true
    · rw [encV_ok m hok] at hen
      rw [if_pos hok] at hst
      have hml := hsm m (List.mem_of_getElem? hm)
      have hfm := frM_len m
      have hdec := decode_spec (frM m) (by omega)
      have hdv : decV (frM m) = (m, (((frM m).length : Nat) : Int), (0 : Int)) := by
        have := dec_frame m [] hok
        rwa [List.append_nil] at this
      rw [hdv] at hdec
      have w1 := wr (x := (a : Int)) (by omega)
      have w2 := wr (x := ((frM m).length : Int) - 4) (by omega)
      obtain ⟨j, hj⟩ : ∃ j, 4 + a % ((frM m).length - 4) = j := ⟨_, rfl⟩
      have hj1 : 4 ≤ j ∧ j < (frM m).length := by
        have := Nat.mod_lt a (show 0 < (frM m).length - 4 by omega)
        omega
      have w3 : IntKind.i64.wrap (4 + (a : Int).tmod (((frM m).length : Int) - 4)) = (j : Int) := by
        have e : (a : Int).tmod (((frM m).length : Int) - 4) = ((a % ((frM m).length - 4) : Nat) : Int) := by
          rw [Int.tmod_eq_emod_of_nonneg (by omega)]
          rw [show (((frM m).length : Int) - 4) = (((frM m).length - 4 : Nat) : Int) by omega, Int.natCast_emod]
        rw [e, wr (by omega)]
        omega
      have hne0 : ((frM m).length : Int) - 4 ≠ 0 := by omega
      have hbg := byteR_get (frM m) j hj1.2
      refine AQ.fn (by kernel_rfl) rfl rfl rfl (hen) rfl ?_
      repeat (first | refine xA ?_ | refine xB ?_ | refine xC ?_ | refine xE ?_ | refine xD ?_ | refine xK ?_ | refine xS ?_ | refine xM ?_ | refine xT ?_ | refine xF ?_ | ((first | refine xR ?_ | refine xW ?_ | refine vq_id ?_); simp only [go_sem, Nat.reduceAdd, Nat.reduceLeDiff, Nat.reduceSub, Int.reduceToNat, reduceCtorEq]) | (refine ⟨by first | omega | (intros; simp_all; done) | (intros; simp_all; omega), ?_⟩; try simp only [go_sem, Nat.reduceAdd, Nat.reduceLeDiff, Nat.reduceSub, Int.reduceToNat, reduceCtorEq]))
      refine AQ.fn (by kernel_rfl) rfl rfl rfl (hdec) rfl ?_
      repeat (first | refine xA ?_ | refine xB ?_ | refine xC ?_ | refine xE ?_ | refine xD ?_ | refine xK ?_ | refine xS ?_ | refine xM ?_ | refine xT ?_ | refine xF ?_ | ((first | refine xR ?_ | refine xW ?_ | refine vq_id ?_); simp only [go_sem, Nat.reduceAdd, Nat.reduceLeDiff, Nat.reduceSub, Int.reduceToNat, reduceCtorEq, byteR_len, bne_self_eq_false, beq_self_eq_true, Bool.and_self, Bool.not_true, w1, w2, w3, hbg, Int.toNat_natCast]) | (refine ⟨by first | omega | (intros; simp_all; done) | (intros; simp_all; omega), ?_⟩; try simp only [go_sem, Nat.reduceAdd, Nat.reduceLeDiff, Nat.reduceSub, Int.reduceToNat, reduceCtorEq, byteR_len, bne_self_eq_false, beq_self_eq_true, Bool.and_self, Bool.not_true, w1, w2, w3, hbg, Int.toNat_natCast]))
      have hfk := hfl k
      have hgk := hgl k
      refine AP.cond rfl rfl (fun hs => ?_) (fun hs => ?_)
      · have hne : (frM m).getD j 0 ≠ o := by rintro rfl; simp at hs
        have hds := decode_spec ((frM m).set j o) (by rw [List.length_set]; omega)
        rw [dec_spoilt m j o hok hj1.1 hj1.2 hne] at hds
        have hcl := clone_own (frM m) (fun e => by rw [e] at hfm; simp at hfm) (by omega)
        repeat (first | refine xA ?_ | refine xB ?_ | refine xC ?_ | refine xE ?_ | refine xD ?_ | refine xK ?_ | refine xS ?_ | refine xM ?_ | refine xT ?_ | refine xF ?_ | ((first | refine xR ?_ | refine xW ?_ | refine vq_id ?_); simp only [go_sem, Nat.reduceAdd, Nat.reduceLeDiff, Nat.reduceSub, Int.reduceToNat, reduceCtorEq]) | (refine ⟨by first | omega | (intros; simp_all; done) | (intros; simp_all; omega), ?_⟩; try simp only [go_sem, Nat.reduceAdd, Nat.reduceLeDiff, Nat.reduceSub, Int.reduceToNat, reduceCtorEq]))
        refine AQ.callv (by kernel_rfl) rfl rfl rfl hcl fun r' H' ⟨e1, e2⟩ => ?_
        subst e1; subst e2
        repeat (first | refine xA ?_ | refine xB ?_ | refine xC ?_ | refine xE ?_ | refine xD ?_ | refine xK ?_ | refine xS ?_ | refine xM ?_ | refine xT ?_ | refine xF ?_ | ((first | refine xR ?_ | refine xW ?_ | refine vq_id ?_); simp only [go_sem, Nat.reduceAdd, Nat.reduceLeDiff, Nat.reduceSub, Int.reduceToNat, reduceCtorEq, byteR_len, Int.toNat_natCast, hbg, setRowI, List.take_zero, List.nil_append, List.length_cons, List.length_nil, List.drop_succ_cons, List.drop_nil, List.append_nil, byteR_set]) | (refine ⟨by first | omega | (intros; simp_all; done) | (intros; simp_all; omega), ?_⟩; try simp only [go_sem, Nat.reduceAdd, Nat.reduceLeDiff, Nat.reduceSub, Int.reduceToNat, reduceCtorEq, byteR_len, Int.toNat_natCast, hbg, setRowI, List.take_zero, List.nil_append, List.length_cons, List.length_nil, List.drop_succ_cons, List.drop_nil, List.append_nil, byteR_set]))
        refine AQ.fnL [.im (.sl 1 (byteR ((frM m).set j o)))] (by kernel_rfl) rfl rfl rfl (LentAs.cons (LentA.of (Lent.osw rfl (by rw [byteR_len, List.length_set]))) LentAs.nil) hds rfl (fun _ => rfl) ?_
        repeat (first | refine xA ?_ | refine xB ?_ | refine xC ?_ | refine xE ?_ | refine xD ?_ | refine xK ?_ | refine xS ?_ | refine xM ?_ | refine xT ?_ | refine xF ?_ | ((first | refine xR ?_ | refine xW ?_ | refine vq_id ?_); simp only [go_sem, Nat.reduceAdd, Nat.reduceLeDiff, Nat.reduceSub, Int.reduceToNat, reduceCtorEq, bne_self_eq_false]) | (refine ⟨by first | omega | (intros; simp_all; done) | (intros; simp_all; omega), ?_⟩; try simp only [go_sem, Nat.reduceAdd, Nat.reduceLeDiff, Nat.reduceSub, Int.reduceToNat, reduceCtorEq, bne_self_eq_false]))
        refine AQ.append (hnb := rfl) (rows := byteR (frMs (good (L.take k)))) (es := 0) (by kernel_rfl) rfl rfl rfl (by rfl) Tryd.tk24 Tryd.sz5 (by show Option.map _ (zro Tryd.prog 5) = _; rw [Tryd.zr5]; rfl) Tryd.by5 (by rw [byteR_len]) (by rw [byteR_len, byteR_len]; omega) (by rw [byteR_len, byteR_len]; omega) ?_
        repeat (first | refine xA ?_ | refine xB ?_ | refine xC ?_ | refine xE ?_ | refine xD ?_ | refine xK ?_ | refine xS ?_ | refine xM ?_ | refine xT ?_ | refine xF ?_ | ((first | refine xR ?_ | refine xW ?_ | refine vq_id ?_); simp only [go_sem, Nat.reduceAdd, Nat.reduceLeDiff, Nat.reduceSub, Int.reduceToNat, reduceCtorEq, byteR_append, byteR_len]) | (refine ⟨by first | omega | (intros; simp_all; done) | (intros; simp_all; omega), ?_⟩; try simp only [go_sem, Nat.reduceAdd, Nat.reduceLeDiff, Nat.reduceSub, Int.reduceToNat, reduceCtorEq, byteR_append, byteR_len]))
        refine AQ.append (hnb := rfl) (rows := msgR (good (L.take k))) (es := 2) (by kernel_rfl) rfl rfl rfl (by rfl) Tryd.tk37 Tryd.sz23 (by show Option.map _ (zro Tryd.prog 23) = _; rw [Tryd.zr23]; rfl) Tryd.by23 (by rw [msgR_len]) (by rw [msgR_len]; simp only [List.length_cons, List.length_nil]; omega) (by rw [msgR_len]; simp only [List.length_cons, List.length_nil]; omega) ?_
        repeat (first | refine xA ?_ | refine xB ?_ | refine xC ?_ | refine xE ?_ | refine xD ?_ | refine xK ?_ | refine xS ?_ | refine xM ?_ | refine xT ?_ | refine xF ?_ | ((first | refine xR ?_ | refine xW ?_ | refine vq_id ?_); simp only [go_sem, Nat.reduceAdd, Nat.reduceLeDiff, Nat.reduceSub, Int.reduceToNat, reduceCtorEq, hw, msgR_len, List.length_cons, List.length_nil]) | (refine ⟨by first | omega | (intros; simp_all; done) | (intros; simp_all; omega), ?_⟩; try simp only [go_sem, Nat.reduceAdd, Nat.reduceLeDiff, Nat.reduceSub, Int.reduceToNat, reduceCtorEq, hw, msgR_len, List.length_cons, List.length_nil]))
        refine AE.forgets [5, 4, 3, 2] rfl ?_
        simp only [go_sem, Nat.reduceAdd, Nat.reduceLeDiff, Nat.reduceSub, Int.reduceToNat, reduceCtorEq]
        refine AE.round (k + 1) (by omega) (by omega) ?_ ?_
        · rw [hst, frMs_snoc, List.length_append, List.length_append, List.length_singleton]; exact (by repeat (first | exact Sub.nil _ | refine Sub.cons rfl ?_))
        · rw [hst, frMs_snoc, ← msgR_snoc]
      · repeat (first | refine xA ?_ | refine xB ?_ | refine xC ?_ | refine xE ?_ | refine xD ?_ | refine xK ?_ | refine xS ?_ | refine xM ?_ | refine xT ?_ | refine xF ?_ | ((first | refine xR ?_ | refine xW ?_ | refine vq_id ?_); simp only [go_sem, Nat.reduceAdd, Nat.reduceLeDiff, Nat.reduceSub, Int.reduceToNat, reduceCtorEq]) | (refine ⟨by first | omega | (intros; simp_all; done) | (intros; simp_all; omega), ?_⟩; try simp only [go_sem, Nat.reduceAdd, Nat.reduceLeDiff, Nat.reduceSub, Int.reduceToNat, reduceCtorEq]))
        refine AQ.append (hnb := rfl) (rows := byteR (frMs (good (L.take k)))) (es := 0) (by kernel_rfl) rfl rfl rfl (by rfl) Tryd.tk24 Tryd.sz5 (by show Option.map _ (zro Tryd.prog 5) = _; rw [Tryd.zr5]; rfl) Tryd.by5 (by rw [byteR_len]) (by rw [byteR_len, byteR_len]; omega) (by rw [byteR_len, byteR_len]; omega) ?_
        repeat (first | refine xA ?_ | refine xB ?_ | refine xC ?_ | refine xE ?_ | refine xD ?_ | refine xK ?_ | refine xS ?_ | refine xM ?_ | refine xT ?_ | refine xF ?_ | ((first | refine xR ?_ | refine xW ?_ | refine vq_id ?_); simp only [go_sem, Nat.reduceAdd, Nat.reduceLeDiff, Nat.reduceSub, Int.reduceToNat, reduceCtorEq, byteR_append, byteR_len]) | (refine ⟨by first | omega | (intros; simp_all; done) | (intros; simp_all; omega), ?_⟩; try simp only [go_sem, Nat.reduceAdd, Nat.reduceLeDiff, Nat.reduceSub, Int.reduceToNat, reduceCtorEq, byteR_append, byteR_len]))
        refine AQ.append (hnb := rfl) (rows := msgR (good (L.take k))) (es := 2) (by kernel_rfl) rfl rfl rfl (by rfl) Tryd.tk37 Tryd.sz23 (by show Option.map _ (zro Tryd.prog 23) = _; rw [Tryd.zr23]; rfl) Tryd.by23 (by rw [msgR_len]) (by rw [msgR_len]; simp only [List.length_cons, List.length_nil]; omega) (by rw [msgR_len]; simp only [List.length_cons, List.length_nil]; omega) ?_
        repeat (first | refine xA ?_ | refine xB ?_ | refine xC ?_ | refine xE ?_ | refine xD ?_ | refine xK ?_ | refine xS ?_ | refine xM ?_ | refine xT ?_ | refine xF ?_ | ((first | refine xR ?_ | refine xW ?_ | refine vq_id ?_); simp only [go_sem, Nat.reduceAdd, Nat.reduceLeDiff, Nat.reduceSub, Int.reduceToNat, reduceCtorEq, hw, msgR_len, List.length_cons, List.length_nil]) | (refine ⟨by first | omega | (intros; simp_all; done) | (intros; simp_all; omega), ?_⟩; try simp only [go_sem, Nat.reduceAdd, Nat.reduceLeDiff, Nat.reduceSub, Int.reduceToNat, reduceCtorEq, hw, msgR_len, List.length_cons, List.length_nil]))
        refine AE.forgets [3, 2] rfl ?_
        simp only [go_sem, Nat.reduceAdd, Nat.reduceLeDiff, Nat.reduceSub, Int.reduceToNat, reduceCtorEq]
        refine AE.round (k + 1) (by omega) (by omega) ?_ ?_
        · rw [hst, frMs_snoc, List.length_append, List.length_append, List.length_singleton]; exact (by repeat (first | exact Sub.nil _ | refine Sub.cons rfl ?_))
        · rw [hst, frMs_snoc, ← msgR_snoc]
    · obtain ⟨e, he0, he⟩ := encV_bad m hok
      rw [he] at hen
      rw [if_neg hok] at hst
      refine AQ.fn (by kernel_rfl) rfl rfl rfl (hen) rfl ?_
      repeat (first | refine xA ?_ | refine xB ?_ | refine xC ?_ | refine xE ?_ | refine xD ?_ | refine xK ?_ | refine xS ?_ | refine xM ?_ | refine xT ?_ | refine xF ?_ | ((first | refine xR ?_ | refine xW ?_ | refine vq_id ?_); simp only [go_sem, Nat.reduceAdd, Nat.reduceLeDiff, Nat.reduceSub, Int.reduceToNat, reduceCtorEq]) | (refine ⟨by first | omega | (intros; simp_all; done) | (intros; simp_all; omega), ?_⟩; try simp only [go_sem, Nat.reduceAdd, Nat.reduceLeDiff, Nat.reduceSub, Int.reduceToNat, reduceCtorEq]))
      refine AP.cond rfl rfl (fun hc2 => ?_) (fun hc2 => ?_)
      · repeat (first | refine xA ?_ | refine xB ?_ | refine xC ?_ | refine xE ?_ | refine xD ?_ | refine xK ?_ | refine xS ?_ | refine xM ?_ | refine xT ?_ | refine xF ?_ | ((first | refine xR ?_ | refine xW ?_ | refine vq_id ?_); simp only [go_sem, Nat.reduceAdd, Nat.reduceLeDiff, Nat.reduceSub, Int.reduceToNat, reduceCtorEq, hw]) | (refine ⟨by first | omega | (intros; simp_all; done) | (intros; simp_all; omega), ?_⟩; try simp only [go_sem, Nat.reduceAdd, Nat.reduceLeDiff, Nat.reduceSub, Int.reduceToNat, reduceCtorEq, hw]))
        refine AE.forgets [2] rfl ?_
        simp only [go_sem, Nat.reduceAdd, Nat.reduceLeDiff, Nat.reduceSub, Int.reduceToNat, reduceCtorEq]
        refine AE.round (k + 1) (by omega) (by omega) ?_ ?_
        · rw [hst]; exact (by repeat (first | exact Sub.nil _ | refine Sub.cons rfl ?_))
        · rw [hst]
      · simp at hc2; exact absurd hc2 he0
  have hk' : k = L.length := by simp at hc; omega
  subst hk'
  have hfk := hfl L.length
  have hgk := hgl L.length
  rw [List.take_length] at hfk hgk ⊢
  obtain ⟨A, hA⟩ : ∃ A, frMs (good L) = A := ⟨_, rfl⟩
  obtain ⟨kk, hkk⟩ : ∃ kk, c % (A.length + 1) = kk := ⟨_, rfl⟩
  have hkk2 : kk ≤ A.length := by
    have := Nat.mod_lt c (show 0 < A.length + 1 by omega)
    omega
  obtain ⟨f1, f2, r, hsp, hf1, hf2⟩ := feed_two (good L) (good_ok L) kk
  rw [hA] at hf1 hf2 hfk ⊢
  have hlr : r.length ≤ A.length := by
    have := feed_rest _ (A.take kk) [] (Nat.le_refl _)
    rw [hf1, List.length_take] at this
    simp only at this
    omega
  have hta : (byteR A).take A.length = byteR A := List.take_of_length_le (by rw [byteR_len]; exact Nat.le_refl _)
  have ho1 := ACall.args (fun w φ I us => agg_nil) (feed_own [] (A.take kk) (by rw [List.length_take, List.length_nil]; omega) r f1 (by rw [List.nil_append]; exact hf1))
  have ho2 := feed_spec r (A.drop kk) (by rw [List.length_drop]; omega)
  rw [hf2] at ho2
  have e2 : feedA ([], f2, 0) = .tup [.agg [.im (.sl 1 (byteR []))], .im (.sl 3 (msgR f2)), Iv 0] := by rw [feedA, if_neg (by simp)]
  rw [e2] at ho2
  have w1 := wr (x := (c : Int)) (by omega)
  have w2 : IntKind.i64.wrap ((A.length : Int) + 1) = ((A.length + 1 : Nat) : Int) := wr (by omega)
  have w3 : (c : Int).tmod ((A.length + 1 : Nat) : Int) = (kk : Int) := by
    rw [Int.tmod_eq_emod_of_nonneg (by omega), ← Int.natCast_emod, hkk]
  have hne0 : ((A.length + 1 : Nat) : Int) ≠ 0 := by omega
  have hlen : f1.length + f2.length ≤ 20 := by
    have := congrArg List.length hsp
    rw [List.length_append] at this
    omega
  have hme := meqS_spec (good L) (by omega)
  refine xA ?_
  simp only [go_sem, Nat.reduceAdd, Nat.reduceLeDiff, Nat.reduceSub, Int.reduceToNat, reduceCtorEq]
  refine AP.freeze 0 (rows := byteR A) rfl (by simp [go_sem]) (by simp [go_sem, byteR_len]) ?_
  simp only [go_sem, Nat.reduceAdd, Nat.reduceLeDiff, Nat.reduceSub, Int.reduceToNat, reduceCtorEq, List.drop_zero, hta]
  repeat (first | refine xA ?_ | refine xB ?_ | refine xC ?_ | refine xE ?_ | refine xD ?_ | refine xK ?_ | refine xS ?_ | refine xM ?_ | refine xT ?_ | refine xF ?_ | ((first | refine xR ?_ | refine xW ?_ | refine vq_id ?_); simp only [go_sem, Nat.reduceAdd, Nat.reduceLeDiff, Nat.reduceSub, Int.reduceToNat, reduceCtorEq, byteR_len, byteR_take, w1, w2, w3, Int.toNat_natCast]) | (refine ⟨by first | omega | (intros; simp_all; done) | (intros; simp_all; omega), ?_⟩; try simp only [go_sem, Nat.reduceAdd, Nat.reduceLeDiff, Nat.reduceSub, Int.reduceToNat, reduceCtorEq, byteR_len, byteR_take, w1, w2, w3, Int.toNat_natCast]))
  refine AQ.callv (by kernel_rfl) rfl rfl rfl ho1 fun r' H' ⟨e1, e2⟩ => ?_
  subst e1; subst e2
  repeat (first | refine xA ?_ | refine xB ?_ | refine xC ?_ | refine xE ?_ | refine xD ?_ | refine xK ?_ | refine xS ?_ | refine xM ?_ | refine xT ?_ | refine xF ?_ | ((first | refine xR ?_ | refine xW ?_ | refine vq_id ?_); simp only [go_sem, Nat.reduceAdd, Nat.reduceLeDiff, Nat.reduceSub, Int.reduceToNat, reduceCtorEq, bne_self_eq_false]) | (refine ⟨by first | omega | (intros; simp_all; done) | (intros; simp_all; omega), ?_⟩; try simp only [go_sem, Nat.reduceAdd, Nat.reduceLeDiff, Nat.reduceSub, Int.reduceToNat, reduceCtorEq, bne_self_eq_false]))
  refine AP.cut (α := Unit) (fun _ => [(10, .os 1 3 0 (good L).length), (24, .ob 4 0), (25, .os 3 3 0 f1.length), (26, Iv 0), (27, .im (.sl 3 (msgR f2)))]) (fun _ => [(4, .var 36 [.im (.sl 1 (byteR []))]), (3, .vec 23 3 (msgR f1)), (1, .vec 23 3 (msgR (good L)))]) (fun _ => True) ?_ fun _ _ => ?_
  · skip
    refine AP.drawE 12 (Tree.node [] [0, 1, 2, 3] [4] [Tree.node [] [5, 6, 7, 8] [9] [Tree.node [7, 8] [10, 11] [] []]]) (by kernel_rfl) rfl (by kernel_rfl) (by kernel_rfl) ?_
    refine vd_node ?_
    simp only [go_sem, Nat.reduceAdd, Nat.reduceLeDiff, Nat.reduceSub, Int.reduceToNat, reduceCtorEq, byteR_drop, byteR_len, Int.toNat_natCast]
    refine ⟨⟨by omega, by omega⟩, ?_⟩
    repeat' (first | with_reducible exact True.intro | with_reducible refine And.intro (by omega) ?_ | with_reducible refine And.intro ?_ ?_ | (refine AQ.nx rfl ?_; simp only [go_sem, Nat.reduceAdd, Nat.reduceLeDiff, Nat.reduceSub, Int.reduceToNat, reduceCtorEq, byteR_drop, byteR_len, Int.toNat_natCast]) | (refine AQ.fn (by kernel_rfl) rfl rfl rfl (ho2) rfl ?_; simp only [go_sem, Nat.reduceAdd, Nat.reduceLeDiff, Nat.reduceSub, Int.reduceToNat, reduceCtorEq]) | refine AQ.done ?_ | (refine AQ.go (by kernel_rfl) ?_; simp only [go_sem, Nat.reduceAdd, Nat.reduceLeDiff, Nat.reduceSub, Int.reduceToNat, reduceCtorEq, byteR_drop, byteR_len, Int.toNat_natCast]; repeat (with_reducible refine And.intro (by omega) ?_); refine AQ.nx rfl ?_; simp only [go_sem, Nat.reduceAdd, Nat.reduceLeDiff, Nat.reduceSub, Int.reduceToNat, reduceCtorEq, byteR_drop, byteR_len, Int.toNat_natCast]))
    all_goals (simp only [go_sem, Nat.reduceAdd, Nat.reduceLeDiff, Nat.reduceSub, Int.reduceToNat, reduceCtorEq]; exact AE.meet () trivial (by repeat (first | exact Sub.nil _ | refine Sub.cons rfl ?_)) rfl)
  have hz0 : (((0 : Nat) : Int) == 0) = true := rfl
  repeat (first | refine xA ?_ | refine xB ?_ | refine xC ?_ | refine xE ?_ | refine xD ?_ | refine xK ?_ | refine xS ?_ | refine xM ?_ | refine xT ?_ | refine xF ?_ | ((first | refine xR ?_ | refine xW ?_ | refine vq_id ?_); simp only [go_sem, Nat.reduceAdd, Nat.reduceLeDiff, Nat.reduceSub, Int.reduceToNat, reduceCtorEq, beq_self_eq_true, Bool.and_self, byteR_len, List.length_nil, hz0]) | (refine ⟨by first | omega | (intros; simp_all; done) | (intros; simp_all; omega), ?_⟩; try simp only [go_sem, Nat.reduceAdd, Nat.reduceLeDiff, Nat.reduceSub, Int.reduceToNat, reduceCtorEq, beq_self_eq_true, Bool.and_self, byteR_len, List.length_nil, hz0]))
  refine AQ.strip ?_
  simp only [go_sem, Nat.reduceAdd, Nat.reduceLeDiff, Nat.reduceSub, Int.reduceToNat, reduceCtorEq]
  refine AQ.guard_yes (by simp only [go_sem]) ?_
  refine AQ.append (hnb := rfl) (rows := msgR f1) (es := 2) (by kernel_rfl) rfl rfl rfl (by rfl) Tryd.tk37 Tryd.sz23 (by show Option.map _ (zro Tryd.prog 23) = _; rw [Tryd.zr23]; rfl) Tryd.by23 (by rw [msgR_len]) (by rw [msgR_len, msgR_len]; omega) (by rw [msgR_len, msgR_len]; omega) ?_
  have hap : msgR f1 ++ msgR f2 = msgR (good L) := by rw [hsp]; simp [msgR]
  have hgl2 : (msgR f1).length + (msgR f2).length = (good L).length := by rw [msgR_len, msgR_len, ← List.length_append, ← hsp]
  rw [hap, hgl2]
  repeat (first | refine xA ?_ | refine xB ?_ | refine xC ?_ | refine xE ?_ | refine xD ?_ | refine xK ?_ | refine xS ?_ | refine xM ?_ | refine xT ?_ | refine xF ?_ | ((first | refine xR ?_ | refine xW ?_ | refine vq_id ?_); simp only [go_sem, Nat.reduceAdd, Nat.reduceLeDiff, Nat.reduceSub, Int.reduceToNat, reduceCtorEq]) | (refine ⟨by first | omega | (intros; simp_all; done) | (intros; simp_all; omega), ?_⟩; try simp only [go_sem, Nat.reduceAdd, Nat.reduceLeDiff, Nat.reduceSub, Int.reduceToNat, reduceCtorEq]))
  refine AQ.strip ?_
  simp only [go_sem, Nat.reduceAdd, Nat.reduceLeDiff, Nat.reduceSub, Int.reduceToNat, reduceCtorEq]
  refine AQ.guard_yes (by simp only [go_sem]) ?_
  refine AQ.fnL [.im (.sl 3 (msgR (good L))), .im (.sl 3 (msgR (good L)))] (by kernel_rfl) rfl rfl rfl (LentAs.cons (LentA.of (Lent.osw rfl (by rw [msgR_len]))) (LentAs.cons (LentA.of (Lent.osw rfl (by rw [msgR_len]))) LentAs.nil)) hme rfl (fun _ => rfl) ?_
  repeat (first | refine xA ?_ | refine xB ?_ | refine xC ?_ | refine xE ?_ | refine xD ?_ | refine xK ?_ | refine xS ?_ | refine xM ?_ | refine xT ?_ | refine xF ?_ | ((first | refine xR ?_ | refine xW ?_ | refine vq_id ?_); simp only [go_sem, Nat.reduceAdd, Nat.reduceLeDiff, Nat.reduceSub, Int.reduceToNat, reduceCtorEq]) | (refine ⟨by first | omega | (intros; simp_all; done) | (intros; simp_all; omega), ?_⟩; try simp only [go_sem, Nat.reduceAdd, Nat.reduceLeDiff, Nat.reduceSub, Int.reduceToNat, reduceCtorEq]))
  refine AQ.fn_g (by kernel_rfl) rfl rfl (fun h => by first | (simp [gs, AV.g]; done) | (simp [gs, AV.g, constAV]; done) | (simp [gs, AV.g, constAV, bw] at h ⊢; done) | (simp [gs, AV.g, constAV, bw] at h ⊢; exact h) | (simp [gs, AV.g, constAV, bw] at h ⊢; simp [h]; done) | (simp [bw] at h; done) | (simp [gs, AV.g, bw] at h ⊢; simp [h]; done) | (simp [gs, AV.g, bw] at h ⊢; exact h.1) | (simp [gs, AV.g]; rfl) | (simp [gs, AV.g, bw] at h ⊢; rfl) | (simp [gs, AV.g, bw] at h ⊢; simp [h]; rfl) | (simp [gs, AV.g, bw] at h ⊢; simp_all)) rfl (fun _ => awake_spec) rfl ?_
  repeat (first | refine xA ?_ | refine xB ?_ | refine xC ?_ | refine xE ?_ | refine xD ?_ | refine xK ?_ | refine xS ?_ | refine xM ?_ | refine xT ?_ | refine xF ?_ | ((first | refine xR ?_ | refine xW ?_ | refine vq_id ?_); simp only [go_sem, Nat.reduceAdd, Nat.reduceLeDiff, Nat.reduceSub, Int.reduceToNat, reduceCtorEq]) | (refine ⟨by first | omega | (intros; simp_all; done) | (intros; simp_all; omega), ?_⟩; try simp only [go_sem, Nat.reduceAdd, Nat.reduceLeDiff, Nat.reduceSub, Int.reduceToNat, reduceCtorEq]))
  exact AE.ret0 rfl ⟨rfl, trivial⟩ rfl ⟨rfl, rfl⟩
end Go.Proofs.YtlpcdpjkdodmcaaDoor
end

section
namespace Go.Proofs.YtlpcdpjkdodmcaaDoor
open Go Go.AL Go.RowKit
set_option maxRecDepth 100000
theorem u8_of {i : Int} (h : (Lit.int .u8 i).wf = true) : ∃ b : UInt8, i = b.toNat := u8_nat h
theorem u16_nat {i : Int} (h : (Lit.int .u16 i).wf = true) : ∃ n : Nat, i = n ∧ n < 65536 := by
  simp [Lit.wf, IntKind.min, IntKind.max, IntKind.bits, IntKind.signed] at h
  exact ⟨i.toNat, by omega, by omega⟩
theorem msgs_of {n : Nat} {xs : List IV} (h : Typed Tryd.prog n 37 xs) : ∃ l : List Msg, xs = [.sl 3 (msgR l)] ∧ l.length < 9223372036854775808 := by
  have hc : Tryd.prog.cellsOf 23 = 3 := by kernel_rfl
  obtain ⟨rows, m, rfl, hr, hrow⟩ := typed_slice Tryd.underlying37 h
  obtain ⟨l, rfl, _⟩ := rows_of (p := fun _ : Msg => True) (f := fun m => [Ii m.1, Ii m.2.1, Si m.2.2]) rows fun r hr => by
    obtain ⟨m', rfl, _⟩ := msg_of (hrow r hr)
    exact ⟨m', rfl, trivial⟩
  refine ⟨l, by rw [hc]; rfl, ?_⟩
  rw [List.length_map] at hr
  unfold maxLen at hr
  omega
end Go.Proofs.YtlpcdpjkdodmcaaDoor
end
