import Derived.Test.YtilbfhldohibhaaW1
set_option linter.unusedSimpArgs false
set_option linter.unusedVariables false
set_option linter.unnecessarySimpa false
namespace Go.Proofs.Ytilbfhldohibhaa
open Go Go.AL
set_option maxRecDepth 10000
def rowsI (k : IntKind) (l : List Int) : List (List IV) := l.map fun x => [.v (.int k x)]
theorem rowsI_len (k : IntKind) (l : List Int) : (rowsI k l).length = l.length := by simp [rowsI]
theorem rowsI_get (k : IntKind) (l : List Int) (i : Nat) (h : i < l.length) : (rowsI k l).getD i [] = [.v (.int k (l.getD i 0))] := by simp [rowsI, List.getD_eq_getElem?_getD, h]
attribute [go_sem] rowsI_len
def idx (l : List Int) (x : Int) : Int := if x ∈ l then l.idxOf x else -1
theorem idx_at (l : List Int) (x : Int) (k : Nat) (h : x ∉ l.take k) (hk : k < l.length) (e : x = l.getD k 0) : idx l x = k := by
  have hm : x ∈ l := by rw [e, List.getD_eq_getElem?_getD, List.getElem?_eq_getElem hk]; simp
  unfold idx
  rw [if_pos hm]
  have h1 : l.idxOf x < l.length := List.idxOf_lt_length_of_mem hm
  have h2 : ¬ l.idxOf x < k := fun hlt => h (by
    rw [List.mem_take_iff_getElem]
    exact ⟨l.idxOf x, by omega, by simp⟩)
  have h3 : l.idxOf x ≤ k := by
    rw [List.getD_eq_getElem?_getD, List.getElem?_eq_getElem hk] at e
    simp at e
    rcases Nat.lt_or_ge k (l.idxOf x) with h' | h'
    · have := List.not_of_lt_findIdx h'
      simp [← e] at this
    · exact h'
  omega
theorem take_step (l : List Int) (x : Int) (k : Nat) (h : x ∉ l.take k) (hk : k < l.length) (e : ¬ x = l.getD k 0) : x ∉ l.take (k + 1) := by
  rw [List.take_add_one, List.getElem?_eq_getElem hk]
  intro hm
  rw [List.getD_eq_getElem?_getD, List.getElem?_eq_getElem hk] at e
  rcases List.mem_append.1 hm with hm | hm
  · exact h hm
  · simp at hm e; exact e hm
theorem index_spec (l : List Int) (x : Int) (hl : l.length ≤ 1000000000) : PFn Try.prog 53 [.im (.sl 1 (rowsI .u8 l)), .im (.v (.int .u8 x))] (Iv (idx l x)) := by
  refine ACall.walk [0, 1, 4, 5, 7, 8, 9, 16] [] Try.func53 rfl Try.ntmps53 (by kernel_rfl) (by rfl) rfl fun w own I0 φ0 => ?_
  repeat (first | refine AP.seq rfl ?_ | refine AE.seq ?_ | refine AP.block rfl ?_ | refine AP.scope rfl ?_ | refine AP.label rfl ?_ | refine AE.sc ?_ | refine AE.sc_exit ?_ | refine AE.sc_ret ?_ | refine AP.skip rfl ?_ | refine AP.ret rfl ?_ | refine AP.exit rfl ?_ | refine AE.seq_exit ?_ | refine AE.seq_ret ?_ | refine AE.blk ?_ | refine AE.blk_exit ?_ | refine AE.blk_exit_ne rfl ?_ | refine AE.blk_ret ?_ | refine AE.lp_exit ?_ | refine AE.lp_ret ?_ | refine AQ.done ?_ | refine AP.cond_true rfl rfl ?_ | refine AP.cond_false rfl rfl ?_ | (refine AP.region rfl (by kernel_rfl) ?_; simp only [go_sem, Nat.reduceAdd, reduceCtorEq]) | (refine vq_id ?_; simp only [go_sem, Nat.reduceAdd, reduceCtorEq]) | (refine ⟨by first | omega | (intros; simp_all; done) | (intros; simp_all; omega), ?_⟩; try simp only [go_sem, Nat.reduceAdd, reduceCtorEq]))
  refine AP.loop rfl (α := Nat) (fun k => [(0, .im (.sl 1 (rowsI .u8 l))), (1, .im (.v (.int .u8 x))), (7, Iv l.length), (8, Iv k)]) (fun k => []) (fun k => k ≤ l.length ∧ x ∉ l.take k) (fun k => l.length - k) 0 (by simp) (Sub.cons rfl (Sub.cons rfl (Sub.cons rfl (Sub.cons rfl (Sub.nil _))))) (by simp) fun k hk => ?_
  obtain ⟨hk, hx⟩ := hk
  have hw := wr (x := (k : Int) + 1) (by omega)
  repeat (first | refine AP.seq rfl ?_ | refine AE.seq ?_ | refine AP.block rfl ?_ | refine AP.scope rfl ?_ | refine AP.label rfl ?_ | refine AE.sc ?_ | refine AE.sc_exit ?_ | refine AE.sc_ret ?_ | refine AP.skip rfl ?_ | refine AP.ret rfl ?_ | refine AP.exit rfl ?_ | refine AE.seq_exit ?_ | refine AE.seq_ret ?_ | refine AE.blk ?_ | refine AE.blk_exit ?_ | refine AE.blk_exit_ne rfl ?_ | refine AE.blk_ret ?_ | refine AE.lp_exit ?_ | refine AE.lp_ret ?_ | refine AQ.done ?_ | refine AP.cond_true rfl rfl ?_ | refine AP.cond_false rfl rfl ?_ | (refine AP.region rfl (by kernel_rfl) ?_; simp only [go_sem, Nat.reduceAdd, reduceCtorEq, hw]) | (refine vq_id ?_; simp only [go_sem, Nat.reduceAdd, reduceCtorEq, hw]) | (refine ⟨by first | omega | (intros; simp_all; done) | (intros; simp_all; omega), ?_⟩; try simp only [go_sem, Nat.reduceAdd, reduceCtorEq, hw]))
  refine AP.cond rfl rfl (fun hc => ?_) (fun hc => ?_)
  · have hk' : k < l.length := by simp at hc; omega
    repeat (first | refine AP.seq rfl ?_ | refine AE.seq ?_ | refine AP.block rfl ?_ | refine AP.scope rfl ?_ | refine AP.label rfl ?_ | refine AE.sc ?_ | refine AE.sc_exit ?_ | refine AE.sc_ret ?_ | refine AP.skip rfl ?_ | refine AP.ret rfl ?_ | refine AP.exit rfl ?_ | refine AE.seq_exit ?_ | refine AE.seq_ret ?_ | refine AE.blk ?_ | refine AE.blk_exit ?_ | refine AE.blk_exit_ne rfl ?_ | refine AE.blk_ret ?_ | refine AE.lp_exit ?_ | refine AE.lp_ret ?_ | refine AQ.done ?_ | refine AP.cond_true rfl rfl ?_ | refine AP.cond_false rfl rfl ?_ | (refine AP.region rfl (by kernel_rfl) ?_; simp only [go_sem, Nat.reduceAdd, reduceCtorEq, hw, rowsI_get .u8 _ _ hk']) | (refine vq_id ?_; simp only [go_sem, Nat.reduceAdd, reduceCtorEq, hw, rowsI_get .u8 _ _ hk']) | (refine ⟨by first | omega | (intros; simp_all; done) | (intros; simp_all; omega), ?_⟩; try simp only [go_sem, Nat.reduceAdd, reduceCtorEq, hw, rowsI_get .u8 _ _ hk']))
    refine AP.cond rfl rfl (fun h1 => ?_) (fun h1 => ?_)
    · repeat (first | refine AP.seq rfl ?_ | refine AE.seq ?_ | refine AP.block rfl ?_ | refine AP.scope rfl ?_ | refine AP.label rfl ?_ | refine AE.sc ?_ | refine AE.sc_exit ?_ | refine AE.sc_ret ?_ | refine AP.skip rfl ?_ | refine AP.ret rfl ?_ | refine AP.exit rfl ?_ | refine AE.seq_exit ?_ | refine AE.seq_ret ?_ | refine AE.blk ?_ | refine AE.blk_exit ?_ | refine AE.blk_exit_ne rfl ?_ | refine AE.blk_ret ?_ | refine AE.lp_exit ?_ | refine AE.lp_ret ?_ | refine AQ.done ?_ | refine AP.cond_true rfl rfl ?_ | refine AP.cond_false rfl rfl ?_ | (refine AP.region rfl (by kernel_rfl) ?_; simp only [go_sem, Nat.reduceAdd, reduceCtorEq, hw]) | (refine vq_id ?_; simp only [go_sem, Nat.reduceAdd, reduceCtorEq, hw]) | (refine ⟨by first | omega | (intros; simp_all; done) | (intros; simp_all; omega), ?_⟩; try simp only [go_sem, Nat.reduceAdd, reduceCtorEq, hw]))
      exact AE.ret rfl ⟨rfl, trivial⟩ ⟨rfl, by rw [idx_at l x k hx hk' (by simpa using h1)]; rfl⟩
    · repeat (first | refine AP.seq rfl ?_ | refine AE.seq ?_ | refine AP.block rfl ?_ | refine AP.scope rfl ?_ | refine AP.label rfl ?_ | refine AE.sc ?_ | refine AE.sc_exit ?_ | refine AE.sc_ret ?_ | refine AP.skip rfl ?_ | refine AP.ret rfl ?_ | refine AP.exit rfl ?_ | refine AE.seq_exit ?_ | refine AE.seq_ret ?_ | refine AE.blk ?_ | refine AE.blk_exit ?_ | refine AE.blk_exit_ne rfl ?_ | refine AE.blk_ret ?_ | refine AE.lp_exit ?_ | refine AE.lp_ret ?_ | refine AQ.done ?_ | refine AP.cond_true rfl rfl ?_ | refine AP.cond_false rfl rfl ?_ | (refine AP.region rfl (by kernel_rfl) ?_; simp only [go_sem, Nat.reduceAdd, reduceCtorEq, hw]) | (refine vq_id ?_; simp only [go_sem, Nat.reduceAdd, reduceCtorEq, hw]) | (refine ⟨by first | omega | (intros; simp_all; done) | (intros; simp_all; omega), ?_⟩; try simp only [go_sem, Nat.reduceAdd, reduceCtorEq, hw]))
      exact AE.round (k + 1) ⟨by omega, take_step l x k hx hk' (by simpa using h1)⟩ (by omega) (Sub.cons rfl (Sub.cons rfl (Sub.cons rfl (Sub.cons rfl (Sub.nil _))))) rfl
  · repeat (first | refine AP.seq rfl ?_ | refine AE.seq ?_ | refine AP.block rfl ?_ | refine AP.scope rfl ?_ | refine AP.label rfl ?_ | refine AE.sc ?_ | refine AE.sc_exit ?_ | refine AE.sc_ret ?_ | refine AP.skip rfl ?_ | refine AP.ret rfl ?_ | refine AP.exit rfl ?_ | refine AE.seq_exit ?_ | refine AE.seq_ret ?_ | refine AE.blk ?_ | refine AE.blk_exit ?_ | refine AE.blk_exit_ne rfl ?_ | refine AE.blk_ret ?_ | refine AE.lp_exit ?_ | refine AE.lp_ret ?_ | refine AQ.done ?_ | refine AP.cond_true rfl rfl ?_ | refine AP.cond_false rfl rfl ?_ | (refine AP.region rfl (by kernel_rfl) ?_; simp only [go_sem, Nat.reduceAdd, reduceCtorEq]) | (refine vq_id ?_; simp only [go_sem, Nat.reduceAdd, reduceCtorEq]) | (refine ⟨by first | omega | (intros; simp_all; done) | (intros; simp_all; omega), ?_⟩; try simp only [go_sem, Nat.reduceAdd, reduceCtorEq]))
    refine AE.ret rfl ⟨rfl, trivial⟩ ⟨rfl, ?_⟩
    have : ¬ x ∈ l := by
      have hk' : k = l.length := by simp at hc; omega
      rw [hk', List.take_length] at hx; exact hx
    simp [idx, this, tupOf, AV.st]
theorem contains_spec (l : List Int) (x : Int) (hl : l.length ≤ 1000000000) : PFn Try.prog 50 [.im (.sl 1 (rowsI .u8 l)), .im (.v (.int .u8 x))] (Bv (decide (x ∈ l))) := by
  refine ACall.walk [0, 1, 4] [] Try.func50 rfl Try.ntmps50 (by kernel_rfl) (by rfl) rfl fun w own I0 φ0 => ?_
  repeat (first | refine AP.seq rfl ?_ | refine AE.seq ?_ | refine AP.block rfl ?_ | refine AP.scope rfl ?_ | refine AP.label rfl ?_ | refine AE.sc ?_ | refine AE.sc_exit ?_ | refine AE.sc_ret ?_ | refine AP.skip rfl ?_ | refine AP.ret rfl ?_ | refine AP.exit rfl ?_ | refine AE.seq_exit ?_ | refine AE.seq_ret ?_ | refine AE.blk ?_ | refine AE.blk_exit ?_ | refine AE.blk_exit_ne rfl ?_ | refine AE.blk_ret ?_ | refine AE.lp_exit ?_ | refine AE.lp_ret ?_ | refine AQ.done ?_ | refine AP.cond_true rfl rfl ?_ | refine AP.cond_false rfl rfl ?_ | (refine AP.region rfl (by kernel_rfl) ?_; simp only [go_sem, Nat.reduceAdd, reduceCtorEq]) | (refine vq_id ?_; simp only [go_sem, Nat.reduceAdd, reduceCtorEq]) | (refine ⟨by first | omega | (intros; simp_all; done) | (intros; simp_all; omega), ?_⟩; try simp only [go_sem, Nat.reduceAdd, reduceCtorEq]))
  refine AQ.fn (by kernel_rfl) rfl rfl rfl (index_spec l x hl) rfl ?_
  repeat (first | refine AP.seq rfl ?_ | refine AE.seq ?_ | refine AP.block rfl ?_ | refine AP.scope rfl ?_ | refine AP.label rfl ?_ | refine AE.sc ?_ | refine AE.sc_exit ?_ | refine AE.sc_ret ?_ | refine AP.skip rfl ?_ | refine AP.ret rfl ?_ | refine AP.exit rfl ?_ | refine AE.seq_exit ?_ | refine AE.seq_ret ?_ | refine AE.blk ?_ | refine AE.blk_exit ?_ | refine AE.blk_exit_ne rfl ?_ | refine AE.blk_ret ?_ | refine AE.lp_exit ?_ | refine AE.lp_ret ?_ | refine AQ.done ?_ | refine AP.cond_true rfl rfl ?_ | refine AP.cond_false rfl rfl ?_ | (refine AP.region rfl (by kernel_rfl) ?_; simp only [go_sem, Nat.reduceAdd, reduceCtorEq]) | (refine vq_id ?_; simp only [go_sem, Nat.reduceAdd, reduceCtorEq]) | (refine ⟨by first | omega | (intros; simp_all; done) | (intros; simp_all; omega), ?_⟩; try simp only [go_sem, Nat.reduceAdd, reduceCtorEq]))
  refine AE.ret rfl ⟨rfl, trivial⟩ ⟨rfl, ?_⟩
  simp only [tupOf, idx]
  split
  · simp [*, AV.st]
  · simp [*, AV.st]
end Go.Proofs.Ytilbfhldohibhaa
