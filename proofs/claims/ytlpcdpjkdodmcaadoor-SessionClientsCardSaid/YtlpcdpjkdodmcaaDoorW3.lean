import Derived.Test.YtlpcdpjkdodmcaaDoorW2
set_option linter.unusedSimpArgs false
set_option linter.unusedVariables false
set_option linter.unnecessarySimpa false
section
namespace Go.Proofs.YtlpcdpjkdodmcaaDoor
open Go Go.AL Go.RowKit
set_option maxRecDepth 100000
theorem str_of {n : Nat} {xs : List IV} (h : Typed Tryd.prog n 9 xs) : ∃ l : List UInt8, xs = [Si l] := by
  obtain ⟨s, rfl, _⟩ := typed_str Tryd.underlying9 h
  exact ⟨s.data.toList, congrArg (fun x => [IV.v (Value.string x)]) (BA_of s)⟩
theorem rq_of {n : Nat} {xs : List IV} (h : Typed Tryd.prog n 67 xs) : ∃ r : Rq, xs = rqC r := by
  have hc : Tryd.prog.cellsOf 67 = 8 := by kernel_rfl
  have hc3 : Tryd.prog.cellsOf 3 = 1 := by kernel_rfl
  have hc4 : Tryd.prog.cellsOf 4 = 1 := by kernel_rfl
  have hc9 : Tryd.prog.cellsOf 9 = 1 := by kernel_rfl
  have hc23 : Tryd.prog.cellsOf 23 = 3 := by kernel_rfl
  obtain ⟨m', hlen, hf⟩ := typed_struct Tryd.underlying67 h
  rw [hc] at hlen
  match xs, hlen with
  | [a, b, c, d, e, f, g, i], _ =>
    have f0 := hf 0 _ rfl
    have f1 := hf 1 _ rfl
    have f2 := hf 2 _ rfl
    have f3 := hf 3 _ rfl
    have f4 := hf 4 _ rfl
    have f5 := hf 5 _ rfl
    simp only [hc3, hc4, hc9, hc23, List.drop_zero, List.take_succ_cons, List.take_zero, List.drop_succ_cons] at f0 f1 f2 f3 f4 f5
    obtain ⟨i0, e0, w0⟩ := typed_int Tryd.underlying3 f0
    obtain ⟨i1, e1, w1⟩ := typed_int Tryd.underlying3 f1
    obtain ⟨s, e2⟩ := str_of f2
    obtain ⟨b3, e3⟩ := typed_bool Tryd.underlying4 f3
    obtain ⟨b4, e4⟩ := typed_bool Tryd.underlying4 f4
    obtain ⟨m, e5, _⟩ := msg_of f5
    cases e0; cases e1; cases e2; cases e3; cases e4; cases e5
    exact ⟨⟨i0, i1, s, b3, b4, m.1, m.2.1, m.2.2⟩, rfl⟩
theorem rqs_of {n : Nat} {xs : List IV} (h : Typed Tryd.prog n 53 xs) : ∃ l : List Rq, xs = [.sl 8 (rqR l)] ∧ l.length < 9223372036854775808 := by
  have hc : Tryd.prog.cellsOf 67 = 8 := by kernel_rfl
  obtain ⟨rows, m, rfl, hr, hrow⟩ := typed_slice Tryd.underlying53 h
  obtain ⟨l, rfl, _⟩ := rows_of (p := fun _ : Rq => True) (f := rqC) rows fun r hr => by
    obtain ⟨r', rfl⟩ := rq_of (hrow r hr)
    exact ⟨r', rfl, trivial⟩
  refine ⟨l, by rw [hc]; rfl, ?_⟩
  rw [List.length_map] at hr
  unfold maxLen at hr
  omega
theorem client_of {n : Nat} {xs : List IV} (h : Typed Tryd.prog n 55 xs) : ∃ p w s, ∃ l : List Rq, xs = [Ii p, Ii w, Ii s, .sl 8 (rqR l)] ∧ l.length < 9223372036854775808 := by
  have hc : Tryd.prog.cellsOf 55 = 4 := by kernel_rfl
  have hc3 : Tryd.prog.cellsOf 3 = 1 := by kernel_rfl
  have hc53 : Tryd.prog.cellsOf 53 = 1 := by kernel_rfl
  obtain ⟨m', hlen, hf⟩ := typed_struct Tryd.underlying55 h
  rw [hc] at hlen
  match xs, hlen with
  | [a, b, c, d], _ =>
    have f0 := hf 0 _ rfl
    have f1 := hf 1 _ rfl
    have f2 := hf 2 _ rfl
    have f3 := hf 3 _ rfl
    simp only [hc3, hc53, List.drop_zero, List.take_succ_cons, List.take_zero, List.drop_succ_cons] at f0 f1 f2 f3
    obtain ⟨i0, e0, w0⟩ := typed_int Tryd.underlying3 f0
    obtain ⟨i1, e1, w1⟩ := typed_int Tryd.underlying3 f1
    obtain ⟨i2, e2, w2⟩ := typed_int Tryd.underlying3 f2
    obtain ⟨l, e3, hl⟩ := rqs_of f3
    cases e0; cases e1; cases e2; cases e3
    exact ⟨i0, i1, i2, l, rfl, hl⟩
end Go.Proofs.YtlpcdpjkdodmcaaDoor
end
