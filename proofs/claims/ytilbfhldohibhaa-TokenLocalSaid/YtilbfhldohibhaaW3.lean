import Derived.Test.YtilbfhldohibhaaW2
import Derived.Lib.Strings
import Derived.Lib.Walk
import Derived.Lib.BufferWrite
import Derived.Lib.UnsafeStr
import Derived.Lib.Hide
import Derived.Laws.MakeOwn
set_option linter.unusedSimpArgs false
set_option linter.unusedVariables false
set_option linter.unnecessarySimpa false
namespace Go.Proofs.Ytilbfhldohibhaa
open Go Go.AL Go.RowKit
set_option maxHeartbeats 4000000 in
set_option maxRecDepth 100000 in
theorem clone48 (s : ByteArray) (w : World) (hlim : s.size ≤ 281474976710656) :
    Calls Try.prog 48 #[.string s] w fun e w' => e = .returned (.string s) ∧ Below w.heap.size w w' := by
  have i5 : (Try.prog.info? 5).map (fun i => (i.zero, i.size, i.bytes)) = some (some (Value.int IntKind.u8 0), 1, 1) := by kernel_rfl
  by_cases h0 : s.size = 0
  · have hs : s = ⟨#[]⟩ := by
      apply ByteArray.ext
      exact Array.eq_empty_of_size_eq_zero h0
    subst hs
    go_enter Try.func48, Try.ntmps48
    go_wp2
    go_ret
    exact ⟨rfl, Below.refl _ _⟩
  · obtain ⟨i0, hi, hz0, hz1, hz2⟩ := info_parts i5
    have hinfo : (Try.prog.info? 5).map (·.size) = some 1 := by rw [hi]; simp [hz1]
    have hco : Try.prog.cellsOf 5 = 1 := by simp [Program.cellsOf, hi, hz1]
    -- 'make([]byte, len(s))', for the walk to take; what it lays under a name
    obtain ⟨M, hM⟩ : ∃ M, M = madeCells (Value.int .u8 0).cells (((s.size : Nat) : Int).toNat * i0.size) := ⟨_, rfl⟩
    have hMs : M.size = s.size := by rw [hM, size_madeCells, hz1]; simp
    have hmk : ∀ W : World, (Instr.makeSlice 52 (.int .i64 (s.size : Int)) (.int .i64 (s.size : Int))).run Try.prog W = .ok (.slice (some ⟨W.heap.size, 0, none⟩) s.size s.size) (W.alloc (.cells M 5)) := fun W => by
      have h := run_make (P := Try.prog) W 52 5 i0 (.int .u8 0) Try.underlying52 hi hz0 .i64 .i64 (s.size : Int) (s.size : Int) (by omega) (by omega) (by rw [hz2]; omega) (by omega)
      rw [← hM] at h
      simpa using h
    clear hM
    -- 'copy(b, s)'
    have hcp := Lib.run_copy_row_string (P := Try.prog) (w.alloc (.cells M 5)) 52 9 3 5 w.heap.size 0 s.size s.size s M 5 Try.underlying52 hinfo (heap_alloc_new w _) (Nat.le_refl _) (by omega)
    obtain ⟨Y, hY⟩ : ∃ Y, Y = (M.toList.take 0 ++ Lib.byteCells s.data.toList ++ M.toList.drop (0 + s.size)).toArray := ⟨_, rfl⟩
    rw [← hY] at hcp
    have hYl : Y.toList = Lib.byteCells s.data.toList := by
      rw [hY, List.toList_toArray, List.take_zero, List.nil_append, List.drop_of_length_le (by rw [Array.length_toList]; omega), List.append_nil]
    have hYs : Y.size = s.size := by rw [← Array.length_toList, hYl, Lib.byteCells_length, ← Lib.size_eq]
    have hgY : ((w.alloc (.cells M 5)).setRow w.heap.size Y).heap[w.heap.size]? = some (.cells Y 5 (0, 0)) := setRow_heap _ _ M _ 5 (0, 0) (heap_alloc_new w _)
    -- 'unsafe.String(&b[0], len(b))'
    have hne : s.data.toList ≠ [] := fun e => h0 (by rw [Lib.size_eq, e]; rfl)
    have hUS := Lib.run_unsafeString_row (P := Try.prog) ((w.alloc (.cells M 5)).setRow w.heap.size Y) 67 3 9 5 Try.underlying67 hco w.heap.size Y.size (by unfold World.shape?; rw [hgY]) s.data.toList hne (by rw [← Lib.size_eq]; omega) (by rw [← Lib.size_eq]; omega)
      (fun j x hx => Lib.cells_of_row hgY Y.size j _ (by rw [List.take_of_length_le (by rw [Array.length_toList]; exact Nat.le_refl _), hYl]; simp [Lib.byteCells, hx]))
    rw [← Lib.size_eq] at hUS
    clear hY
    go_enter Try.func48, Try.ntmps48
    go_wp2
    go_ret
    have hb1 : Below w.heap.size w (w.alloc (.cells M 5)) := (Below.refl _ w).alloc (Nat.le_refl _) _
    have hb2 : Below w.heap.size (w.alloc (.cells M 5)) ((w.alloc (.cells M 5)).setRow w.heap.size Y) := ⟨rfl, rfl, rfl, by simp, fun k hk => setRow_other _ _ _ _ (by omega)⟩
    exact ⟨rfl, Lib.below_freeze (hb1.trans hb2) (p := ⟨w.heap.size, 0, none⟩) (Nat.le_refl _) _⟩


theorem clone48_spec (s : ByteArray) (h : s.size ≤ 1000000000000) : PFn Try.prog 48 [.im (.v (.string s))] (.im (.v (.string s))) := by
  refine PFn.of_below (by rfl) rfl fun w φ I vs hd _ => ?_
  simp only [AV.dens, AV.den, IV.den] at hd
  obtain ⟨u, us, rfl, ⟨rfl, _⟩, rfl⟩ := hd
  refine (clone48 s w (by omega)).mono fun e w' ⟨he, hb⟩ => ⟨_, he, ?_, hb⟩
  simp only [AV.den, IV.den]
  exact ⟨trivial, rfl⟩
theorem clone_spec (s : ByteArray) (h : s.size ≤ 1000000000000) : PFn Try.prog 36 [.im (.v (.string s))] (.im (.v (.string s))) := by
  refine ACall.walk [0, 2] [] Try.func36 rfl Try.ntmps36 (by kernel_rfl) (by rfl) rfl fun w own I0 φ0 => ?_
  repeat (first | refine AP.seq rfl ?_ | refine AE.seq ?_ | refine AP.block rfl ?_ | refine AP.scope rfl ?_ | refine AP.label rfl ?_ | refine AE.sc ?_ | refine AE.sc_exit ?_ | refine AE.sc_ret ?_ | refine AP.skip rfl ?_ | refine AP.ret rfl ?_ | refine AP.exit rfl ?_ | refine AE.seq_exit ?_ | refine AE.seq_ret ?_ | refine AE.blk ?_ | refine AE.blk_exit ?_ | refine AE.blk_exit_ne rfl ?_ | refine AE.blk_ret ?_ | refine AE.lp_exit ?_ | refine AE.lp_ret ?_ | refine AQ.done ?_ | refine AP.cond_true rfl rfl ?_ | refine AP.cond_false rfl rfl ?_ | (refine AP.region rfl (by kernel_rfl) ?_; simp only [go_sem, Nat.reduceAdd, reduceCtorEq]) | (refine vq_id ?_; simp only [go_sem, Nat.reduceAdd, reduceCtorEq]) | (refine ⟨by first | omega | (intros; simp_all; done) | (intros; simp_all; omega), ?_⟩; try simp only [go_sem, Nat.reduceAdd, reduceCtorEq]))
  refine AQ.fn (by kernel_rfl) rfl rfl rfl (clone48_spec s h) rfl ?_
  repeat (first | refine AP.seq rfl ?_ | refine AE.seq ?_ | refine AP.block rfl ?_ | refine AP.scope rfl ?_ | refine AP.label rfl ?_ | refine AE.sc ?_ | refine AE.sc_exit ?_ | refine AE.sc_ret ?_ | refine AP.skip rfl ?_ | refine AP.ret rfl ?_ | refine AP.exit rfl ?_ | refine AE.seq_exit ?_ | refine AE.seq_ret ?_ | refine AE.blk ?_ | refine AE.blk_exit ?_ | refine AE.blk_exit_ne rfl ?_ | refine AE.blk_ret ?_ | refine AE.lp_exit ?_ | refine AE.lp_ret ?_ | refine AQ.done ?_ | refine AP.cond_true rfl rfl ?_ | refine AP.cond_false rfl rfl ?_ | (refine AP.region rfl (by kernel_rfl) ?_; simp only [go_sem, Nat.reduceAdd, reduceCtorEq]) | (refine vq_id ?_; simp only [go_sem, Nat.reduceAdd, reduceCtorEq]) | (refine ⟨by first | omega | (intros; simp_all; done) | (intros; simp_all; omega), ?_⟩; try simp only [go_sem, Nat.reduceAdd, reduceCtorEq]))
  exact AE.ret rfl ⟨rfl, trivial⟩ ⟨rfl, rfl⟩
end Go.Proofs.Ytilbfhldohibhaa
