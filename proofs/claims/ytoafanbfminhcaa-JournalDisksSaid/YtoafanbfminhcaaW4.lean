import Derived.Test.YtoafanbfminhcaaW3
set_option linter.unusedSimpArgs false
set_option linter.unusedVariables false
set_option linter.unnecessarySimpa false
section
namespace Go.Proofs.Ytoafanbfminhcaa
open Go Go.AL Go.RowKit
set_option maxRecDepth 100000
theorem strs_of {n : Nat} {xs : List IV} (h : Typed Try.prog n 25 xs) : ∃ l : List Bs, xs = [.sl 1 (blkR l)] ∧ l.length < 9223372036854775808 := by
  have hc : Try.prog.cellsOf 9 = 1 := by kernel_rfl
  obtain ⟨rows, m, rfl, hr, hrow⟩ := typed_slice Try.underlying25 h
  obtain ⟨l, rfl, _⟩ := rows_of (p := fun _ : Bs => True) (f := fun s => [Si s]) rows fun r hr => by
    obtain ⟨s, rfl, _⟩ := typed_str Try.underlying9 (hrow r hr)
    exact ⟨s.data.toList, congrArg (fun x => [IV.v (Value.string x)]) (BA_of s), trivial⟩
  refine ⟨l, by rw [hc]; rfl, ?_⟩
  rw [List.length_map] at hr
  unfold maxLen at hr
  omega
theorem wrs_of {n : Nat} {xs : List IV} (h : Typed Try.prog n 46 xs) : ∃ l : List Wr, xs = [.sl 2 (wrR l)] ∧ l.length < 9223372036854775808 := by
  have hc : Try.prog.cellsOf 101 = 2 := by kernel_rfl
  have hc3 : Try.prog.cellsOf 3 = 1 := by kernel_rfl
  have hc9 : Try.prog.cellsOf 9 = 1 := by kernel_rfl
  obtain ⟨rows, m, rfl, hr, hrow⟩ := typed_slice Try.underlying46 h
  obtain ⟨l, rfl, _⟩ := rows_of (p := fun _ : Wr => True) (f := fun w => [Ii w.1, Si w.2]) rows fun r hr => by
    obtain ⟨m', hlen, hf⟩ := typed_struct Try.underlying101 (hrow r hr)
    rw [hc] at hlen
    match r, hlen with
    | [a, b], _ =>
      have f0 := hf 0 _ rfl
      have f1 := hf 1 _ rfl
      simp only [hc3, hc9, List.drop_zero, List.take_succ_cons, List.take_zero, List.drop_succ_cons] at f0 f1
      obtain ⟨i0, e0, w0⟩ := typed_int Try.underlying3 f0
      obtain ⟨s, e1, _⟩ := typed_str Try.underlying9 f1
      cases e0; cases e1
      exact ⟨(i0, s.data.toList), congrArg (fun x => [IV.v (Value.int .i64 i0), IV.v (Value.string x)]) (BA_of s), trivial⟩
  refine ⟨l, by rw [hc]; rfl, ?_⟩
  rw [List.length_map] at hr
  unfold maxLen at hr
  omega
theorem ints_of {n : Nat} {xs : List IV} (h : Typed Try.prog n 36 xs) : ∃ l : List Int, xs = [.sl 1 (intR l)] ∧ l.length < 9223372036854775808 := by
  have hc : Try.prog.cellsOf 3 = 1 := by kernel_rfl
  obtain ⟨rows, m, rfl, hr, hrow⟩ := typed_slice Try.underlying36 h
  obtain ⟨l, rfl, _⟩ := rows_of (p := fun _ : Int => True) (f := fun i => [Ii i]) rows fun r hr => by
    obtain ⟨i, rfl, _⟩ := typed_int Try.underlying3 (hrow r hr)
    exact ⟨i, rfl, trivial⟩
  refine ⟨l, by rw [hc]; rfl, ?_⟩
  rw [List.length_map] at hr
  unfold maxLen at hr
  omega
theorem disk_of {n : Nat} {xs : List IV} (h : Typed Try.prog n 48 xs) : ∃ d : Dk, xs = [.sl 1 (blkR d.B), .sl 2 (wrR d.W)] ∧ d.B.length < 9223372036854775808 ∧ d.W.length < 9223372036854775808 := by
  have hc : Try.prog.cellsOf 48 = 2 := by kernel_rfl
  have hc25 : Try.prog.cellsOf 25 = 1 := by kernel_rfl
  have hc46 : Try.prog.cellsOf 46 = 1 := by kernel_rfl
  obtain ⟨m', hlen, hf⟩ := typed_struct Try.underlying48 h
  rw [hc] at hlen
  match xs, hlen with
  | [a, b], _ =>
    have f0 := hf 0 _ rfl
    have f1 := hf 1 _ rfl
    simp only [hc25, hc46, List.drop_zero, List.take_succ_cons, List.take_zero, List.drop_succ_cons] at f0 f1
    obtain ⟨B, e0, h0⟩ := strs_of f0
    obtain ⟨W, e1, h1⟩ := wrs_of f1
    cases e0; cases e1
    exact ⟨⟨B, W⟩, rfl, h0, h1⟩
theorem few_bounds {d : Dk} (h : fewD d = true) : d.Sz := by
  simp only [fewD, Bool.and_eq_true, decide_eq_true_eq] at h
  exact ⟨by omega, by omega⟩
theorem disks_walk (d : Dk) (n : Int) (s : Bs) (F : List Int) (hb : d.B.length < 9223372036854775808) (hw : d.W.length < 9223372036854775808) : PFn Try.prog 4 [d.ar, Iv n, Sv s, Fv F] (Bv true) := by
  cases h : (fewD d && decide ((s.length : Int) ≤ 60) && decide ((F.length : Int) ≤ 80)) with
  | false => exact disks_few d n s F h hb hw
  | true => exact disks_go d n s F h (few_bounds (by simp only [Bool.and_eq_true] at h; exact h.1.1))
end Go.Proofs.Ytoafanbfminhcaa
end
