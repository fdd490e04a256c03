import Derived.Test.YtilbfhldohibhaaAl2
import Derived.Test.YtilbfhldohibhaaChecked
import Derived.KernelRfl
import Derived.Lib.Strings
import Derived.Lib.Walk
import Derived.Lib.BufferWrite
import Derived.Lib.UnsafeStr
import Derived.Lib.Hide
import Derived.Laws.MakeOwn
set_option linter.unusedSimpArgs false
set_option linter.unusedVariables false
set_option linter.unnecessarySimpa false
section

end

section
/- The facts of the types of this translation, in the form that the rules of the walk ask for. Each is a closed fact of the loaded program. -/
namespace Go.Proofs.Ytilbfhldohibhaa
open Go Go.AL
@[go_sem] theorem Try.tk3 : tk Try.prog 3 = .int .i64 := by kernel_rfl
@[go_sem] theorem Try.sz3 : sz Try.prog 3 = some 1 := by kernel_rfl
@[go_sem] theorem Try.by3 : by' Try.prog 3 = some 8 := by kernel_rfl
@[go_sem] theorem Try.un3 : (Try.prog.underlying 3).isSome = true := by kernel_rfl
@[go_sem] theorem Try.zr3 : zro Try.prog 3 = some ([.int .i64 0]) := by kernel_rfl
@[go_sem] theorem Try.tk4 : tk Try.prog 4 = .bool := by kernel_rfl
@[go_sem] theorem Try.sz4 : sz Try.prog 4 = some 1 := by kernel_rfl
@[go_sem] theorem Try.by4 : by' Try.prog 4 = some 1 := by kernel_rfl
@[go_sem] theorem Try.un4 : (Try.prog.underlying 4).isSome = true := by kernel_rfl
@[go_sem] theorem Try.zr4 : zro Try.prog 4 = some ([.bool false]) := by kernel_rfl
@[go_sem] theorem Try.tk5 : tk Try.prog 5 = .int .u8 := by kernel_rfl
@[go_sem] theorem Try.sz5 : sz Try.prog 5 = some 1 := by kernel_rfl
@[go_sem] theorem Try.by5 : by' Try.prog 5 = some 1 := by kernel_rfl
@[go_sem] theorem Try.un5 : (Try.prog.underlying 5).isSome = true := by kernel_rfl
@[go_sem] theorem Try.zr5 : zro Try.prog 5 = some ([.int .u8 0]) := by kernel_rfl
@[go_sem] theorem Try.tk9 : tk Try.prog 9 = .str := by kernel_rfl
@[go_sem] theorem Try.sz9 : sz Try.prog 9 = some 1 := by kernel_rfl
@[go_sem] theorem Try.by9 : by' Try.prog 9 = some 16 := by kernel_rfl
@[go_sem] theorem Try.un9 : (Try.prog.underlying 9).isSome = true := by kernel_rfl
@[go_sem] theorem Try.zr9 : zro Try.prog 9 = some ([.string ⟨#[]⟩]) := by kernel_rfl
@[go_sem] theorem Try.tk20 : tk Try.prog 20 = .iface := by kernel_rfl
@[go_sem] theorem Try.sz20 : sz Try.prog 20 = some 1 := by kernel_rfl
@[go_sem] theorem Try.by20 : by' Try.prog 20 = some 16 := by kernel_rfl
@[go_sem] theorem Try.zr20 : zro Try.prog 20 = some ([.nilIface]) := by kernel_rfl
@[go_sem] theorem Try.tk21 : tk Try.prog 21 = .int .i32 := by kernel_rfl
@[go_sem] theorem Try.sz21 : sz Try.prog 21 = some 1 := by kernel_rfl
@[go_sem] theorem Try.by21 : by' Try.prog 21 = some 4 := by kernel_rfl
@[go_sem] theorem Try.un21 : (Try.prog.underlying 21).isSome = true := by kernel_rfl
@[go_sem] theorem Try.zr21 : zro Try.prog 21 = some ([.int .i32 0]) := by kernel_rfl
@[go_sem] theorem Try.tk23 : tk Try.prog 23 = .slice 9 := by kernel_rfl
@[go_sem] theorem Try.sz23 : sz Try.prog 23 = some 1 := by kernel_rfl
@[go_sem] theorem Try.by23 : by' Try.prog 23 = some 24 := by kernel_rfl
@[go_sem] theorem Try.zr23 : zro Try.prog 23 = some ([.slice none 0 0]) := by kernel_rfl
@[go_sem] theorem Try.tk24 : tk Try.prog 24 = .slice 29 := by kernel_rfl
@[go_sem] theorem Try.sz24 : sz Try.prog 24 = some 1 := by kernel_rfl
@[go_sem] theorem Try.by24 : by' Try.prog 24 = some 24 := by kernel_rfl
@[go_sem] theorem Try.zr24 : zro Try.prog 24 = some ([.slice none 0 0]) := by kernel_rfl
@[go_sem] theorem Try.tk25 : tk Try.prog 25 = .int .i64 := by kernel_rfl
@[go_sem] theorem Try.sz25 : sz Try.prog 25 = some 1 := by kernel_rfl
@[go_sem] theorem Try.by25 : by' Try.prog 25 = some 8 := by kernel_rfl
@[go_sem] theorem Try.un25 : (Try.prog.underlying 25).isSome = true := by kernel_rfl
@[go_sem] theorem Try.zr25 : zro Try.prog 25 = some ([.int .i64 0]) := by kernel_rfl
@[go_sem] theorem Try.tk29 : tk Try.prog 29 = .struct [(0, 9), (1, 3)] := by kernel_rfl
@[go_sem] theorem Try.sz29 : sz Try.prog 29 = some 2 := by kernel_rfl
@[go_sem] theorem Try.by29 : by' Try.prog 29 = some 24 := by kernel_rfl
@[go_sem] theorem Try.eq29 : eqOk Try.prog 29 = true := by kernel_rfl
@[go_sem] theorem Try.zr29 : zro Try.prog 29 = some ([.string ⟨#[]⟩, .int .i64 0]) := by kernel_rfl
@[go_sem] theorem Try.tk47 : tk Try.prog 47 = .arr 256 5 := by kernel_rfl
@[go_sem] theorem Try.sz47 : sz Try.prog 47 = some 256 := by kernel_rfl
@[go_sem] theorem Try.by47 : by' Try.prog 47 = some 256 := by kernel_rfl
@[go_sem] theorem Try.eq47 : eqOk Try.prog 47 = true := by kernel_rfl
@[go_sem] theorem Try.zr47 : zro Try.prog 47 = some (List.replicate 256 (.int .u8 0)) := by kernel_rfl
@[go_sem] theorem Try.tk50 : tk Try.prog 50 = .func := by kernel_rfl
@[go_sem] theorem Try.sz50 : sz Try.prog 50 = some 1 := by kernel_rfl
@[go_sem] theorem Try.by50 : by' Try.prog 50 = some 8 := by kernel_rfl
@[go_sem] theorem Try.zr50 : zro Try.prog 50 = some ([.nilFunc]) := by kernel_rfl
@[go_sem] theorem Try.tk51 : tk Try.prog 51 = .arr 2 5 := by kernel_rfl
@[go_sem] theorem Try.sz51 : sz Try.prog 51 = some 2 := by kernel_rfl
@[go_sem] theorem Try.by51 : by' Try.prog 51 = some 2 := by kernel_rfl
@[go_sem] theorem Try.eq51 : eqOk Try.prog 51 = true := by kernel_rfl
@[go_sem] theorem Try.zr51 : zro Try.prog 51 = some ([.int .u8 0, .int .u8 0]) := by kernel_rfl
@[go_sem] theorem Try.tk52 : tk Try.prog 52 = .slice 5 := by kernel_rfl
@[go_sem] theorem Try.sz52 : sz Try.prog 52 = some 1 := by kernel_rfl
@[go_sem] theorem Try.by52 : by' Try.prog 52 = some 24 := by kernel_rfl
@[go_sem] theorem Try.zr52 : zro Try.prog 52 = some ([.slice none 0 0]) := by kernel_rfl
@[go_sem] theorem Try.tk56 : tk Try.prog 56 = .ptr 58 := by kernel_rfl
@[go_sem] theorem Try.sz56 : sz Try.prog 56 = some 1 := by kernel_rfl
@[go_sem] theorem Try.by56 : by' Try.prog 56 = some 8 := by kernel_rfl
@[go_sem] theorem Try.zr56 : zro Try.prog 56 = some ([.pointer none]) := by kernel_rfl
@[go_sem] theorem Try.tk58 : tk Try.prog 58 = .struct [(0, 56), (1, 52)] := by kernel_rfl
@[go_sem] theorem Try.sz58 : sz Try.prog 58 = some 2 := by kernel_rfl
@[go_sem] theorem Try.by58 : by' Try.prog 58 = some 32 := by kernel_rfl
@[go_sem] theorem Try.zr58 : zro Try.prog 58 = some ([.pointer none, .slice none 0 0]) := by kernel_rfl
@[go_sem] theorem Try.tk61 : tk Try.prog 61 = .iface := by kernel_rfl
@[go_sem] theorem Try.sz61 : sz Try.prog 61 = some 1 := by kernel_rfl
@[go_sem] theorem Try.by61 : by' Try.prog 61 = some 16 := by kernel_rfl
@[go_sem] theorem Try.zr61 : zro Try.prog 61 = some ([.nilIface]) := by kernel_rfl
@[go_sem] theorem Try.tk67 : tk Try.prog 67 = .ptr 5 := by kernel_rfl
@[go_sem] theorem Try.sz67 : sz Try.prog 67 = some 1 := by kernel_rfl
@[go_sem] theorem Try.by67 : by' Try.prog 67 = some 8 := by kernel_rfl
@[go_sem] theorem Try.zr67 : zro Try.prog 67 = some ([.pointer none]) := by kernel_rfl
@[go_sem] theorem Try.tk69 : tk Try.prog 69 = .other := by kernel_rfl
@[go_sem] theorem Try.sz69 : sz Try.prog 69 = some 1 := by kernel_rfl
@[go_sem] theorem Try.by69 : by' Try.prog 69 = some 8 := by kernel_rfl
@[go_sem] theorem Try.zr69 : zro Try.prog 69 = some ([.pointer none]) := by kernel_rfl
end Go.Proofs.Ytilbfhldohibhaa
end

section
namespace Go.Proofs.Ytilbfhldohibhaa
open Go Go.AL
set_option maxRecDepth 10000
/-- the class of a byte -/
def cls (b : Nat) : Int := if b = 32 ∨ (9 ≤ b ∧ b ≤ 13 ∧ b ≠ 11) then 1 else if b = 36 then 4 else if (48 ≤ b ∧ b ≤ 57) ∨ (65 ≤ b ∧ b ≤ 90) ∨ (97 ≤ b ∧ b ≤ 122) ∨ b = 45 ∨ b = 95 ∨ b = 46 then 2 else if 32 < b ∧ b ≤ 126 then 3 else 0
def clsAr : List IV := colF .u8 256 fun j => cls j
theorem tab_set (k : Nat) (v : Int) (hv : cls k = v) : (rowsF .u8 256 fun j => if j < k then cls j else 0).set k [.v (.int .u8 v)] = rowsF .u8 256 fun j => if j < k + 1 then cls j else 0 := by
  refine rowsF_set .u8 _ _ v fun j _ => ?_
  by_cases h : j = k
  · subst h; simp [hv]
  · by_cases h' : j < k
    · have : j < k + 1 := by omega
      simp [h, h', this]
    · have : ¬ j < k + 1 := by omega
      simp [h, h', this]
theorem tab_same (k : Nat) (hv : cls k = 0) : (rowsF .u8 256 fun j => if j < k then cls j else 0) = rowsF .u8 256 fun j => if j < k + 1 then cls j else 0 := by
  refine rowsF_congr .u8 _ _ fun j _ => ?_
  by_cases h : j = k
  · subst h; simp [hv]
  · by_cases h' : j < k
    · have : j < k + 1 := by omega
      simp [h', this]
    · have : ¬ j < k + 1 := by omega
      simp [h', this]
theorem classes_spec : PFn Try.prog 35 [] (.ar clsAr) := by
  refine ACall.walk [0, 1, 2, 3, 4, 8, 25, 30, 67] [0] Try.func35 rfl Try.ntmps35 (by kernel_rfl) (by rfl) rfl fun w own I0 φ0 => ?_
  repeat (first | refine AP.seq rfl ?_ | refine AE.seq ?_ | refine AP.block rfl ?_ | refine AP.scope rfl ?_ | refine AP.label rfl ?_ | refine AE.sc ?_ | refine AE.sc_exit ?_ | refine AE.sc_ret ?_ | refine AP.skip rfl ?_ | refine AP.ret rfl ?_ | refine AP.exit rfl ?_ | refine AE.seq_exit ?_ | refine AE.seq_ret ?_ | refine AE.blk ?_ | refine AE.blk_exit ?_ | refine AE.blk_exit_ne rfl ?_ | refine AE.blk_ret ?_ | refine AE.lp_exit ?_ | refine AE.lp_ret ?_ | refine AQ.done ?_ | refine AQ.s2b (by kernel_rfl) rfl rfl rfl rfl ?_ | refine AQ.mark (by kernel_rfl) rfl rfl rfl rfl rfl rfl rfl ?_ | refine AP.cond_true rfl rfl ?_ | refine AP.cond_false rfl rfl ?_ | (refine AP.region rfl (by kernel_rfl) ?_; simp only [go_sem, Nat.reduceAdd, reduceCtorEq]) | (refine vq_id ?_; simp only [go_sem, Nat.reduceAdd, reduceCtorEq]) | (refine ⟨by first | omega | (intros; simp_all; done) | (intros; simp_all; omega), ?_⟩; try simp only [go_sem, Nat.reduceAdd, reduceCtorEq]))
  refine AP.loop rfl (α := Nat) (fun k => [(0, .ob 0 0), (3, .im (.v (.int .i64 k)))]) (fun k => [(0, .vec 47 1 (rowsF .u8 256 fun j => if j < k then cls j else 0))]) (fun k => k ≤ 256) (fun k => 256 - k) 0 (by simp) (Sub.cons rfl (Sub.cons rfl (Sub.nil _))) (by simp) fun k hk => ?_
  have hw := wr (x := (k : Int) + 1) (by omega)
  repeat (first | refine AP.seq rfl ?_ | refine AE.seq ?_ | refine AP.block rfl ?_ | refine AP.scope rfl ?_ | refine AP.label rfl ?_ | refine AE.sc ?_ | refine AE.sc_exit ?_ | refine AE.sc_ret ?_ | refine AP.skip rfl ?_ | refine AP.ret rfl ?_ | refine AP.exit rfl ?_ | refine AE.seq_exit ?_ | refine AE.seq_ret ?_ | refine AE.blk ?_ | refine AE.blk_exit ?_ | refine AE.blk_exit_ne rfl ?_ | refine AE.blk_ret ?_ | refine AE.lp_exit ?_ | refine AE.lp_ret ?_ | refine AQ.done ?_ | refine AQ.s2b (by kernel_rfl) rfl rfl rfl rfl ?_ | refine AQ.mark (by kernel_rfl) rfl rfl rfl rfl rfl rfl rfl ?_ | refine AP.cond_true rfl rfl ?_ | refine AP.cond_false rfl rfl ?_ | (refine AP.region rfl (by kernel_rfl) ?_; simp only [go_sem, Nat.reduceAdd, reduceCtorEq, hw]) | (refine vq_id ?_; simp only [go_sem, Nat.reduceAdd, reduceCtorEq, hw]) | (refine ⟨by first | omega | (intros; simp_all; done) | (intros; simp_all; omega), ?_⟩; try simp only [go_sem, Nat.reduceAdd, reduceCtorEq, hw]))
  refine AP.cond rfl rfl (fun hc => ?_) (fun hc => ?_)
  · have hk' : k < 256 := by simp at hc; omega
    have hu : IntKind.u8.wrap (k : Int) = k := by simp [IntKind.wrap, IntKind.bits, IntKind.signed]; omega
    have fin : ∀ v : Int, cls k = v → _ := fun v hv => congrArg (fun x => [(0, Ob.vec 47 1 x)]) (tab_set k v hv)
    repeat (first | refine AP.seq rfl ?_ | refine AE.seq ?_ | refine AP.block rfl ?_ | refine AP.scope rfl ?_ | refine AP.label rfl ?_ | refine AE.sc ?_ | refine AE.sc_exit ?_ | refine AE.sc_ret ?_ | refine AP.skip rfl ?_ | refine AP.ret rfl ?_ | refine AP.exit rfl ?_ | refine AE.seq_exit ?_ | refine AE.seq_ret ?_ | refine AE.blk ?_ | refine AE.blk_exit ?_ | refine AE.blk_exit_ne rfl ?_ | refine AE.blk_ret ?_ | refine AE.lp_exit ?_ | refine AE.lp_ret ?_ | refine AQ.done ?_ | refine AQ.s2b (by kernel_rfl) rfl rfl rfl rfl ?_ | refine AQ.mark (by kernel_rfl) rfl rfl rfl rfl rfl rfl rfl ?_ | refine AP.cond_true rfl rfl ?_ | refine AP.cond_false rfl rfl ?_ | (refine AP.region rfl (by kernel_rfl) ?_; simp only [go_sem, Nat.reduceAdd, reduceCtorEq, hw, hu, rowsF_get .u8 _ hk']) | (refine vq_id ?_; simp only [go_sem, Nat.reduceAdd, reduceCtorEq, hw, hu, rowsF_get .u8 _ hk']) | (refine ⟨by first | omega | (intros; simp_all; done) | (intros; simp_all; omega), ?_⟩; try simp only [go_sem, Nat.reduceAdd, reduceCtorEq, hw, hu, rowsF_get .u8 _ hk']))
    refine AP.cond rfl rfl (fun h1 => ?_) (fun h1 => ?_)
    · repeat (first | refine AP.seq rfl ?_ | refine AE.seq ?_ | refine AP.block rfl ?_ | refine AP.scope rfl ?_ | refine AP.label rfl ?_ | refine AE.sc ?_ | refine AE.sc_exit ?_ | refine AE.sc_ret ?_ | refine AP.skip rfl ?_ | refine AP.ret rfl ?_ | refine AP.exit rfl ?_ | refine AE.seq_exit ?_ | refine AE.seq_ret ?_ | refine AE.blk ?_ | refine AE.blk_exit ?_ | refine AE.blk_exit_ne rfl ?_ | refine AE.blk_ret ?_ | refine AE.lp_exit ?_ | refine AE.lp_ret ?_ | refine AQ.done ?_ | refine AQ.s2b (by kernel_rfl) rfl rfl rfl rfl ?_ | refine AQ.mark (by kernel_rfl) rfl rfl rfl rfl rfl rfl rfl ?_ | refine AP.cond_true rfl rfl ?_ | refine AP.cond_false rfl rfl ?_ | (refine AP.region rfl (by kernel_rfl) ?_; simp only [go_sem, Nat.reduceAdd, reduceCtorEq, hw, hu, rowsF_get .u8 _ hk']) | (refine vq_id ?_; simp only [go_sem, Nat.reduceAdd, reduceCtorEq, hw, hu, rowsF_get .u8 _ hk']) | (refine ⟨by first | omega | (intros; simp_all; done) | (intros; simp_all; omega), ?_⟩; try simp only [go_sem, Nat.reduceAdd, reduceCtorEq, hw, hu, rowsF_get .u8 _ hk']))
      exact AE.round (k + 1) (by omega) (by omega) (Sub.cons rfl (Sub.cons rfl (Sub.nil _))) (fin 1 (by simp at h1; unfold cls; grind))
    · repeat (first | refine AP.seq rfl ?_ | refine AE.seq ?_ | refine AP.block rfl ?_ | refine AP.scope rfl ?_ | refine AP.label rfl ?_ | refine AE.sc ?_ | refine AE.sc_exit ?_ | refine AE.sc_ret ?_ | refine AP.skip rfl ?_ | refine AP.ret rfl ?_ | refine AP.exit rfl ?_ | refine AE.seq_exit ?_ | refine AE.seq_ret ?_ | refine AE.blk ?_ | refine AE.blk_exit ?_ | refine AE.blk_exit_ne rfl ?_ | refine AE.blk_ret ?_ | refine AE.lp_exit ?_ | refine AE.lp_ret ?_ | refine AQ.done ?_ | refine AQ.s2b (by kernel_rfl) rfl rfl rfl rfl ?_ | refine AQ.mark (by kernel_rfl) rfl rfl rfl rfl rfl rfl rfl ?_ | refine AP.cond_true rfl rfl ?_ | refine AP.cond_false rfl rfl ?_ | (refine AP.region rfl (by kernel_rfl) ?_; simp only [go_sem, Nat.reduceAdd, reduceCtorEq, hw, hu, rowsF_get .u8 _ hk']) | (refine vq_id ?_; simp only [go_sem, Nat.reduceAdd, reduceCtorEq, hw, hu, rowsF_get .u8 _ hk']) | (refine ⟨by first | omega | (intros; simp_all; done) | (intros; simp_all; omega), ?_⟩; try simp only [go_sem, Nat.reduceAdd, reduceCtorEq, hw, hu, rowsF_get .u8 _ hk']))
      refine AP.cond rfl rfl (fun h2 => ?_) (fun h2 => ?_)
      · repeat (first | refine AP.seq rfl ?_ | refine AE.seq ?_ | refine AP.block rfl ?_ | refine AP.scope rfl ?_ | refine AP.label rfl ?_ | refine AE.sc ?_ | refine AE.sc_exit ?_ | refine AE.sc_ret ?_ | refine AP.skip rfl ?_ | refine AP.ret rfl ?_ | refine AP.exit rfl ?_ | refine AE.seq_exit ?_ | refine AE.seq_ret ?_ | refine AE.blk ?_ | refine AE.blk_exit ?_ | refine AE.blk_exit_ne rfl ?_ | refine AE.blk_ret ?_ | refine AE.lp_exit ?_ | refine AE.lp_ret ?_ | refine AQ.done ?_ | refine AQ.s2b (by kernel_rfl) rfl rfl rfl rfl ?_ | refine AQ.mark (by kernel_rfl) rfl rfl rfl rfl rfl rfl rfl ?_ | refine AP.cond_true rfl rfl ?_ | refine AP.cond_false rfl rfl ?_ | (refine AP.region rfl (by kernel_rfl) ?_; simp only [go_sem, Nat.reduceAdd, reduceCtorEq, hw, hu, rowsF_get .u8 _ hk']) | (refine vq_id ?_; simp only [go_sem, Nat.reduceAdd, reduceCtorEq, hw, hu, rowsF_get .u8 _ hk']) | (refine ⟨by first | omega | (intros; simp_all; done) | (intros; simp_all; omega), ?_⟩; try simp only [go_sem, Nat.reduceAdd, reduceCtorEq, hw, hu, rowsF_get .u8 _ hk']))
        exact AE.round (k + 1) (by omega) (by omega) (Sub.cons rfl (Sub.cons rfl (Sub.nil _))) (fin 4 (by simp at h1 h2; unfold cls; grind))
      · repeat (first | refine AP.seq rfl ?_ | refine AE.seq ?_ | refine AP.block rfl ?_ | refine AP.scope rfl ?_ | refine AP.label rfl ?_ | refine AE.sc ?_ | refine AE.sc_exit ?_ | refine AE.sc_ret ?_ | refine AP.skip rfl ?_ | refine AP.ret rfl ?_ | refine AP.exit rfl ?_ | refine AE.seq_exit ?_ | refine AE.seq_ret ?_ | refine AE.blk ?_ | refine AE.blk_exit ?_ | refine AE.blk_exit_ne rfl ?_ | refine AE.blk_ret ?_ | refine AE.lp_exit ?_ | refine AE.lp_ret ?_ | refine AQ.done ?_ | refine AQ.s2b (by kernel_rfl) rfl rfl rfl rfl ?_ | refine AQ.mark (by kernel_rfl) rfl rfl rfl rfl rfl rfl rfl ?_ | refine AP.cond_true rfl rfl ?_ | refine AP.cond_false rfl rfl ?_ | (refine AP.region rfl (by kernel_rfl) ?_; simp only [go_sem, Nat.reduceAdd, reduceCtorEq, hw, hu, rowsF_get .u8 _ hk']) | (refine vq_id ?_; simp only [go_sem, Nat.reduceAdd, reduceCtorEq, hw, hu, rowsF_get .u8 _ hk']) | (refine ⟨by first | omega | (intros; simp_all; done) | (intros; simp_all; omega), ?_⟩; try simp only [go_sem, Nat.reduceAdd, reduceCtorEq, hw, hu, rowsF_get .u8 _ hk']))
        refine AP.cond rfl rfl (fun h3 => ?_) (fun h3 => ?_)
        · repeat (first | refine AP.seq rfl ?_ | refine AE.seq ?_ | refine AP.block rfl ?_ | refine AP.scope rfl ?_ | refine AP.label rfl ?_ | refine AE.sc ?_ | refine AE.sc_exit ?_ | refine AE.sc_ret ?_ | refine AP.skip rfl ?_ | refine AP.ret rfl ?_ | refine AP.exit rfl ?_ | refine AE.seq_exit ?_ | refine AE.seq_ret ?_ | refine AE.blk ?_ | refine AE.blk_exit ?_ | refine AE.blk_exit_ne rfl ?_ | refine AE.blk_ret ?_ | refine AE.lp_exit ?_ | refine AE.lp_ret ?_ | refine AQ.done ?_ | refine AQ.s2b (by kernel_rfl) rfl rfl rfl rfl ?_ | refine AQ.mark (by kernel_rfl) rfl rfl rfl rfl rfl rfl rfl ?_ | refine AP.cond_true rfl rfl ?_ | refine AP.cond_false rfl rfl ?_ | (refine AP.region rfl (by kernel_rfl) ?_; simp only [go_sem, Nat.reduceAdd, reduceCtorEq, hw, hu, rowsF_get .u8 _ hk']) | (refine vq_id ?_; simp only [go_sem, Nat.reduceAdd, reduceCtorEq, hw, hu, rowsF_get .u8 _ hk']) | (refine ⟨by first | omega | (intros; simp_all; done) | (intros; simp_all; omega), ?_⟩; try simp only [go_sem, Nat.reduceAdd, reduceCtorEq, hw, hu, rowsF_get .u8 _ hk']))
          exact AE.round (k + 1) (by omega) (by omega) (Sub.cons rfl (Sub.cons rfl (Sub.nil _))) (fin 2 (by simp at h1 h2 h3; unfold cls; grind))
        · repeat (first | refine AP.seq rfl ?_ | refine AE.seq ?_ | refine AP.block rfl ?_ | refine AP.scope rfl ?_ | refine AP.label rfl ?_ | refine AE.sc ?_ | refine AE.sc_exit ?_ | refine AE.sc_ret ?_ | refine AP.skip rfl ?_ | refine AP.ret rfl ?_ | refine AP.exit rfl ?_ | refine AE.seq_exit ?_ | refine AE.seq_ret ?_ | refine AE.blk ?_ | refine AE.blk_exit ?_ | refine AE.blk_exit_ne rfl ?_ | refine AE.blk_ret ?_ | refine AE.lp_exit ?_ | refine AE.lp_ret ?_ | refine AQ.done ?_ | refine AQ.s2b (by kernel_rfl) rfl rfl rfl rfl ?_ | refine AQ.mark (by kernel_rfl) rfl rfl rfl rfl rfl rfl rfl ?_ | refine AP.cond_true rfl rfl ?_ | refine AP.cond_false rfl rfl ?_ | (refine AP.region rfl (by kernel_rfl) ?_; simp only [go_sem, Nat.reduceAdd, reduceCtorEq, hw, hu, rowsF_get .u8 _ hk']) | (refine vq_id ?_; simp only [go_sem, Nat.reduceAdd, reduceCtorEq, hw, hu, rowsF_get .u8 _ hk']) | (refine ⟨by first | omega | (intros; simp_all; done) | (intros; simp_all; omega), ?_⟩; try simp only [go_sem, Nat.reduceAdd, reduceCtorEq, hw, hu, rowsF_get .u8 _ hk']))
          refine AP.cond rfl rfl (fun h4 => ?_) (fun h4 => ?_)
          · repeat (first | refine AP.seq rfl ?_ | refine AE.seq ?_ | refine AP.block rfl ?_ | refine AP.scope rfl ?_ | refine AP.label rfl ?_ | refine AE.sc ?_ | refine AE.sc_exit ?_ | refine AE.sc_ret ?_ | refine AP.skip rfl ?_ | refine AP.ret rfl ?_ | refine AP.exit rfl ?_ | refine AE.seq_exit ?_ | refine AE.seq_ret ?_ | refine AE.blk ?_ | refine AE.blk_exit ?_ | refine AE.blk_exit_ne rfl ?_ | refine AE.blk_ret ?_ | refine AE.lp_exit ?_ | refine AE.lp_ret ?_ | refine AQ.done ?_ | refine AQ.s2b (by kernel_rfl) rfl rfl rfl rfl ?_ | refine AQ.mark (by kernel_rfl) rfl rfl rfl rfl rfl rfl rfl ?_ | refine AP.cond_true rfl rfl ?_ | refine AP.cond_false rfl rfl ?_ | (refine AP.region rfl (by kernel_rfl) ?_; simp only [go_sem, Nat.reduceAdd, reduceCtorEq, hw, hu, rowsF_get .u8 _ hk']) | (refine vq_id ?_; simp only [go_sem, Nat.reduceAdd, reduceCtorEq, hw, hu, rowsF_get .u8 _ hk']) | (refine ⟨by first | omega | (intros; simp_all; done) | (intros; simp_all; omega), ?_⟩; try simp only [go_sem, Nat.reduceAdd, reduceCtorEq, hw, hu, rowsF_get .u8 _ hk']))
            exact AE.round (k + 1) (by omega) (by omega) (Sub.cons rfl (Sub.cons rfl (Sub.nil _))) (fin 3 (by simp at h1 h2 h3 h4; unfold cls; grind))
          · repeat (first | refine AP.seq rfl ?_ | refine AE.seq ?_ | refine AP.block rfl ?_ | refine AP.scope rfl ?_ | refine AP.label rfl ?_ | refine AE.sc ?_ | refine AE.sc_exit ?_ | refine AE.sc_ret ?_ | refine AP.skip rfl ?_ | refine AP.ret rfl ?_ | refine AP.exit rfl ?_ | refine AE.seq_exit ?_ | refine AE.seq_ret ?_ | refine AE.blk ?_ | refine AE.blk_exit ?_ | refine AE.blk_exit_ne rfl ?_ | refine AE.blk_ret ?_ | refine AE.lp_exit ?_ | refine AE.lp_ret ?_ | refine AQ.done ?_ | refine AQ.s2b (by kernel_rfl) rfl rfl rfl rfl ?_ | refine AQ.mark (by kernel_rfl) rfl rfl rfl rfl rfl rfl rfl ?_ | refine AP.cond_true rfl rfl ?_ | refine AP.cond_false rfl rfl ?_ | (refine AP.region rfl (by kernel_rfl) ?_; simp only [go_sem, Nat.reduceAdd, reduceCtorEq, hw, hu, rowsF_get .u8 _ hk']) | (refine vq_id ?_; simp only [go_sem, Nat.reduceAdd, reduceCtorEq, hw, hu, rowsF_get .u8 _ hk']) | (refine ⟨by first | omega | (intros; simp_all; done) | (intros; simp_all; omega), ?_⟩; try simp only [go_sem, Nat.reduceAdd, reduceCtorEq, hw, hu, rowsF_get .u8 _ hk']))
            exact AE.round (k + 1) (by omega) (by omega) (Sub.cons rfl (Sub.cons rfl (Sub.nil _))) (congrArg (fun x => [(0, Ob.vec 47 1 x)]) (tab_same k (by simp at h1 h2 h3 h4; unfold cls; grind)))
  · repeat (first | refine AP.seq rfl ?_ | refine AE.seq ?_ | refine AP.block rfl ?_ | refine AP.scope rfl ?_ | refine AP.label rfl ?_ | refine AE.sc ?_ | refine AE.sc_exit ?_ | refine AE.sc_ret ?_ | refine AP.skip rfl ?_ | refine AP.ret rfl ?_ | refine AP.exit rfl ?_ | refine AE.seq_exit ?_ | refine AE.seq_ret ?_ | refine AE.blk ?_ | refine AE.blk_exit ?_ | refine AE.blk_exit_ne rfl ?_ | refine AE.blk_ret ?_ | refine AE.lp_exit ?_ | refine AE.lp_ret ?_ | refine AQ.done ?_ | refine AQ.s2b (by kernel_rfl) rfl rfl rfl rfl ?_ | refine AQ.mark (by kernel_rfl) rfl rfl rfl rfl rfl rfl rfl ?_ | refine AP.cond_true rfl rfl ?_ | refine AP.cond_false rfl rfl ?_ | (refine AP.region rfl (by kernel_rfl) ?_; simp only [go_sem, Nat.reduceAdd, reduceCtorEq]) | (refine vq_id ?_; simp only [go_sem, Nat.reduceAdd, reduceCtorEq]) | (refine ⟨by first | omega | (intros; simp_all; done) | (intros; simp_all; omega), ?_⟩; try simp only [go_sem, Nat.reduceAdd, reduceCtorEq]))
    refine AE.ret0 rfl ⟨⟨rfl, by rw [rowsF_flat, colF_len]; kernel_rfl⟩, trivial⟩ rfl ⟨rfl, ?_⟩
    simp only [tupOf, rowsF_flat, clsAr]
    rw [colF_congr]
    intro j hj
    have : j < k := by simp at hc; omega
    simp [this]
end Go.Proofs.Ytilbfhldohibhaa
end

section
namespace Go.Proofs.Ytilbfhldohibhaa
open Go Go.AL
set_option maxRecDepth 10000
def rowsI (k : IntKind) (l : List Int) : List (List IV) := l.map fun x => [.v (.int k x)]
theorem rowsI_len (k : IntKind) (l : List Int) : (rowsI k l).length = l.length := by simp [rowsI]
theorem rowsI_get (k : IntKind) (l : List Int) (i : Nat) (h : i < l.length) : (rowsI k l).getD i [] = [.v (.int k (l.getD i 0))] := by simp [rowsI, List.getD_eq_getElem?_getD, h]
attribute [go_sem] rowsI_len
def idx (l : List Int) (x : Int) : Int := if x ∈ l then l.idxOf x else -1
theorem idx_at (l : List Int) (x : Int) (k : Nat) (h : x ∉ l.take k) (hk : k < l.length) (e : x = l.getD k 0) : idx l x = k := by
  have hm : x ∈ l := by rw [e, List.getD_eq_getElem?_getD, List.getElem?_eq_getElem hk]; simp
  unfold idx
  rw [if_pos hm]
  have h1 : l.idxOf x < l.length := List.idxOf_lt_length_of_mem hm
  have h2 : ¬ l.idxOf x < k := fun hlt => h (by
    rw [List.mem_take_iff_getElem]
    exact ⟨l.idxOf x, by omega, by simp⟩)
  have h3 : l.idxOf x ≤ k := by
    rw [List.getD_eq_getElem?_getD, List.getElem?_eq_getElem hk] at e
    simp at e
    rcases Nat.lt_or_ge k (l.idxOf x) with h' | h'
    · have := List.not_of_lt_findIdx h'
      simp [← e] at this
    · exact h'
  omega
theorem take_step (l : List Int) (x : Int) (k : Nat) (h : x ∉ l.take k) (hk : k < l.length) (e : ¬ x = l.getD k 0) : x ∉ l.take (k + 1) := by
  rw [List.take_add_one, List.getElem?_eq_getElem hk]
  intro hm
  rw [List.getD_eq_getElem?_getD, List.getElem?_eq_getElem hk] at e
  rcases List.mem_append.1 hm with hm | hm
  · exact h hm
  · simp at hm e; exact e hm
theorem index_spec (l : List Int) (x : Int) (hl : l.length ≤ 1000000000) : PFn Try.prog 53 [.im (.sl 1 (rowsI .u8 l)), .im (.v (.int .u8 x))] (Iv (idx l x)) := by
  refine ACall.walk [0, 1, 4, 5, 7, 8, 9, 16] [] Try.func53 rfl Try.ntmps53 (by kernel_rfl) (by rfl) rfl fun w own I0 φ0 => ?_
  repeat (first | refine AP.seq rfl ?_ | refine AE.seq ?_ | refine AP.block rfl ?_ | refine AP.scope rfl ?_ | refine AP.label rfl ?_ | refine AE.sc ?_ | refine AE.sc_exit ?_ | refine AE.sc_ret ?_ | refine AP.skip rfl ?_ | refine AP.ret rfl ?_ | refine AP.exit rfl ?_ | refine AE.seq_exit ?_ | refine AE.seq_ret ?_ | refine AE.blk ?_ | refine AE.blk_exit ?_ | refine AE.blk_exit_ne rfl ?_ | refine AE.blk_ret ?_ | refine AE.lp_exit ?_ | refine AE.lp_ret ?_ | refine AQ.done ?_ | refine AQ.s2b (by kernel_rfl) rfl rfl rfl rfl ?_ | refine AQ.mark (by kernel_rfl) rfl rfl rfl rfl rfl rfl rfl ?_ | refine AP.cond_true rfl rfl ?_ | refine AP.cond_false rfl rfl ?_ | (refine AP.region rfl (by kernel_rfl) ?_; simp only [go_sem, Nat.reduceAdd, reduceCtorEq]) | (refine vq_id ?_; simp only [go_sem, Nat.reduceAdd, reduceCtorEq]) | (refine ⟨by first | omega | (intros; simp_all; done) | (intros; simp_all; omega), ?_⟩; try simp only [go_sem, Nat.reduceAdd, reduceCtorEq]))
  refine AP.loop rfl (α := Nat) (fun k => [(0, .im (.sl 1 (rowsI .u8 l))), (1, .im (.v (.int .u8 x))), (7, Iv l.length), (8, Iv k)]) (fun k => []) (fun k => k ≤ l.length ∧ x ∉ l.take k) (fun k => l.length - k) 0 (by simp) (Sub.cons rfl (Sub.cons rfl (Sub.cons rfl (Sub.cons rfl (Sub.nil _))))) (by simp) fun k hk => ?_
  obtain ⟨hk, hx⟩ := hk
  have hw := wr (x := (k : Int) + 1) (by omega)
  repeat (first | refine AP.seq rfl ?_ | refine AE.seq ?_ | refine AP.block rfl ?_ | refine AP.scope rfl ?_ | refine AP.label rfl ?_ | refine AE.sc ?_ | refine AE.sc_exit ?_ | refine AE.sc_ret ?_ | refine AP.skip rfl ?_ | refine AP.ret rfl ?_ | refine AP.exit rfl ?_ | refine AE.seq_exit ?_ | refine AE.seq_ret ?_ | refine AE.blk ?_ | refine AE.blk_exit ?_ | refine AE.blk_exit_ne rfl ?_ | refine AE.blk_ret ?_ | refine AE.lp_exit ?_ | refine AE.lp_ret ?_ | refine AQ.done ?_ | refine AQ.s2b (by kernel_rfl) rfl rfl rfl rfl ?_ | refine AQ.mark (by kernel_rfl) rfl rfl rfl rfl rfl rfl rfl ?_ | refine AP.cond_true rfl rfl ?_ | refine AP.cond_false rfl rfl ?_ | (refine AP.region rfl (by kernel_rfl) ?_; simp only [go_sem, Nat.reduceAdd, reduceCtorEq, hw]) | (refine vq_id ?_; simp only [go_sem, Nat.reduceAdd, reduceCtorEq, hw]) | (refine ⟨by first | omega | (intros; simp_all; done) | (intros; simp_all; omega), ?_⟩; try simp only [go_sem, Nat.reduceAdd, reduceCtorEq, hw]))
  refine AP.cond rfl rfl (fun hc => ?_) (fun hc => ?_)
  · have hk' : k < l.length := by simp at hc; omega
    repeat (first | refine AP.seq rfl ?_ | refine AE.seq ?_ | refine AP.block rfl ?_ | refine AP.scope rfl ?_ | refine AP.label rfl ?_ | refine AE.sc ?_ | refine AE.sc_exit ?_ | refine AE.sc_ret ?_ | refine AP.skip rfl ?_ | refine AP.ret rfl ?_ | refine AP.exit rfl ?_ | refine AE.seq_exit ?_ | refine AE.seq_ret ?_ | refine AE.blk ?_ | refine AE.blk_exit ?_ | refine AE.blk_exit_ne rfl ?_ | refine AE.blk_ret ?_ | refine AE.lp_exit ?_ | refine AE.lp_ret ?_ | refine AQ.done ?_ | refine AQ.s2b (by kernel_rfl) rfl rfl rfl rfl ?_ | refine AQ.mark (by kernel_rfl) rfl rfl rfl rfl rfl rfl rfl ?_ | refine AP.cond_true rfl rfl ?_ | refine AP.cond_false rfl rfl ?_ | (refine AP.region rfl (by kernel_rfl) ?_; simp only [go_sem, Nat.reduceAdd, reduceCtorEq, hw, rowsI_get .u8 _ _ hk']) | (refine vq_id ?_; simp only [go_sem, Nat.reduceAdd, reduceCtorEq, hw, rowsI_get .u8 _ _ hk']) | (refine ⟨by first | omega | (intros; simp_all; done) | (intros; simp_all; omega), ?_⟩; try simp only [go_sem, Nat.reduceAdd, reduceCtorEq, hw, rowsI_get .u8 _ _ hk']))
    refine AP.cond rfl rfl (fun h1 => ?_) (fun h1 => ?_)
    · repeat (first | refine AP.seq rfl ?_ | refine AE.seq ?_ | refine AP.block rfl ?_ | refine AP.scope rfl ?_ | refine AP.label rfl ?_ | refine AE.sc ?_ | refine AE.sc_exit ?_ | refine AE.sc_ret ?_ | refine AP.skip rfl ?_ | refine AP.ret rfl ?_ | refine AP.exit rfl ?_ | refine AE.seq_exit ?_ | refine AE.seq_ret ?_ | refine AE.blk ?_ | refine AE.blk_exit ?_ | refine AE.blk_exit_ne rfl ?_ | refine AE.blk_ret ?_ | refine AE.lp_exit ?_ | refine AE.lp_ret ?_ | refine AQ.done ?_ | refine AQ.s2b (by kernel_rfl) rfl rfl rfl rfl ?_ | refine AQ.mark (by kernel_rfl) rfl rfl rfl rfl rfl rfl rfl ?_ | refine AP.cond_true rfl rfl ?_ | refine AP.cond_false rfl rfl ?_ | (refine AP.region rfl (by kernel_rfl) ?_; simp only [go_sem, Nat.reduceAdd, reduceCtorEq, hw]) | (refine vq_id ?_; simp only [go_sem, Nat.reduceAdd, reduceCtorEq, hw]) | (refine ⟨by first | omega | (intros; simp_all; done) | (intros; simp_all; omega), ?_⟩; try simp only [go_sem, Nat.reduceAdd, reduceCtorEq, hw]))
      exact AE.ret rfl ⟨rfl, trivial⟩ ⟨rfl, by rw [idx_at l x k hx hk' (by simpa using h1)]; rfl⟩
    · repeat (first | refine AP.seq rfl ?_ | refine AE.seq ?_ | refine AP.block rfl ?_ | refine AP.scope rfl ?_ | refine AP.label rfl ?_ | refine AE.sc ?_ | refine AE.sc_exit ?_ | refine AE.sc_ret ?_ | refine AP.skip rfl ?_ | refine AP.ret rfl ?_ | refine AP.exit rfl ?_ | refine AE.seq_exit ?_ | refine AE.seq_ret ?_ | refine AE.blk ?_ | refine AE.blk_exit ?_ | refine AE.blk_exit_ne rfl ?_ | refine AE.blk_ret ?_ | refine AE.lp_exit ?_ | refine AE.lp_ret ?_ | refine AQ.done ?_ | refine AQ.s2b (by kernel_rfl) rfl rfl rfl rfl ?_ | refine AQ.mark (by kernel_rfl) rfl rfl rfl rfl rfl rfl rfl ?_ | refine AP.cond_true rfl rfl ?_ | refine AP.cond_false rfl rfl ?_ | (refine AP.region rfl (by kernel_rfl) ?_; simp only [go_sem, Nat.reduceAdd, reduceCtorEq, hw]) | (refine vq_id ?_; simp only [go_sem, Nat.reduceAdd, reduceCtorEq, hw]) | (refine ⟨by first | omega | (intros; simp_all; done) | (intros; simp_all; omega), ?_⟩; try simp only [go_sem, Nat.reduceAdd, reduceCtorEq, hw]))
      exact AE.round (k + 1) ⟨by omega, take_step l x k hx hk' (by simpa using h1)⟩ (by omega) (Sub.cons rfl (Sub.cons rfl (Sub.cons rfl (Sub.cons rfl (Sub.nil _))))) rfl
  · repeat (first | refine AP.seq rfl ?_ | refine AE.seq ?_ | refine AP.block rfl ?_ | refine AP.scope rfl ?_ | refine AP.label rfl ?_ | refine AE.sc ?_ | refine AE.sc_exit ?_ | refine AE.sc_ret ?_ | refine AP.skip rfl ?_ | refine AP.ret rfl ?_ | refine AP.exit rfl ?_ | refine AE.seq_exit ?_ | refine AE.seq_ret ?_ | refine AE.blk ?_ | refine AE.blk_exit ?_ | refine AE.blk_exit_ne rfl ?_ | refine AE.blk_ret ?_ | refine AE.lp_exit ?_ | refine AE.lp_ret ?_ | refine AQ.done ?_ | refine AQ.s2b (by kernel_rfl) rfl rfl rfl rfl ?_ | refine AQ.mark (by kernel_rfl) rfl rfl rfl rfl rfl rfl rfl ?_ | refine AP.cond_true rfl rfl ?_ | refine AP.cond_false rfl rfl ?_ | (refine AP.region rfl (by kernel_rfl) ?_; simp only [go_sem, Nat.reduceAdd, reduceCtorEq]) | (refine vq_id ?_; simp only [go_sem, Nat.reduceAdd, reduceCtorEq]) | (refine ⟨by first | omega | (intros; simp_all; done) | (intros; simp_all; omega), ?_⟩; try simp only [go_sem, Nat.reduceAdd, reduceCtorEq]))
    refine AE.ret rfl ⟨rfl, trivial⟩ ⟨rfl, ?_⟩
    have : ¬ x ∈ l := by
      have hk' : k = l.length := by simp at hc; omega
      rw [hk', List.take_length] at hx; exact hx
    simp [idx, this, tupOf, AV.st]
theorem contains_spec (l : List Int) (x : Int) (hl : l.length ≤ 1000000000) : PFn Try.prog 50 [.im (.sl 1 (rowsI .u8 l)), .im (.v (.int .u8 x))] (Bv (decide (x ∈ l))) := by
  refine ACall.walk [0, 1, 4] [] Try.func50 rfl Try.ntmps50 (by kernel_rfl) (by rfl) rfl fun w own I0 φ0 => ?_
  repeat (first | refine AP.seq rfl ?_ | refine AE.seq ?_ | refine AP.block rfl ?_ | refine AP.scope rfl ?_ | refine AP.label rfl ?_ | refine AE.sc ?_ | refine AE.sc_exit ?_ | refine AE.sc_ret ?_ | refine AP.skip rfl ?_ | refine AP.ret rfl ?_ | refine AP.exit rfl ?_ | refine AE.seq_exit ?_ | refine AE.seq_ret ?_ | refine AE.blk ?_ | refine AE.blk_exit ?_ | refine AE.blk_exit_ne rfl ?_ | refine AE.blk_ret ?_ | refine AE.lp_exit ?_ | refine AE.lp_ret ?_ | refine AQ.done ?_ | refine AQ.s2b (by kernel_rfl) rfl rfl rfl rfl ?_ | refine AQ.mark (by kernel_rfl) rfl rfl rfl rfl rfl rfl rfl ?_ | refine AP.cond_true rfl rfl ?_ | refine AP.cond_false rfl rfl ?_ | (refine AP.region rfl (by kernel_rfl) ?_; simp only [go_sem, Nat.reduceAdd, reduceCtorEq]) | (refine vq_id ?_; simp only [go_sem, Nat.reduceAdd, reduceCtorEq]) | (refine ⟨by first | omega | (intros; simp_all; done) | (intros; simp_all; omega), ?_⟩; try simp only [go_sem, Nat.reduceAdd, reduceCtorEq]))
  refine AQ.fn (by kernel_rfl) rfl rfl rfl (index_spec l x hl) rfl ?_
  repeat (first | refine AP.seq rfl ?_ | refine AE.seq ?_ | refine AP.block rfl ?_ | refine AP.scope rfl ?_ | refine AP.label rfl ?_ | refine AE.sc ?_ | refine AE.sc_exit ?_ | refine AE.sc_ret ?_ | refine AP.skip rfl ?_ | refine AP.ret rfl ?_ | refine AP.exit rfl ?_ | refine AE.seq_exit ?_ | refine AE.seq_ret ?_ | refine AE.blk ?_ | refine AE.blk_exit ?_ | refine AE.blk_exit_ne rfl ?_ | refine AE.blk_ret ?_ | refine AE.lp_exit ?_ | refine AE.lp_ret ?_ | refine AQ.done ?_ | refine AQ.s2b (by kernel_rfl) rfl rfl rfl rfl ?_ | refine AQ.mark (by kernel_rfl) rfl rfl rfl rfl rfl rfl rfl ?_ | refine AP.cond_true rfl rfl ?_ | refine AP.cond_false rfl rfl ?_ | (refine AP.region rfl (by kernel_rfl) ?_; simp only [go_sem, Nat.reduceAdd, reduceCtorEq]) | (refine vq_id ?_; simp only [go_sem, Nat.reduceAdd, reduceCtorEq]) | (refine ⟨by first | omega | (intros; simp_all; done) | (intros; simp_all; omega), ?_⟩; try simp only [go_sem, Nat.reduceAdd, reduceCtorEq]))
  refine AE.ret rfl ⟨rfl, trivial⟩ ⟨rfl, ?_⟩
  simp only [tupOf, idx]
  split
  · simp [*, AV.st]
  · simp [*, AV.st]
end Go.Proofs.Ytilbfhldohibhaa
end

section
namespace Go.Proofs.Ytilbfhldohibhaa
open Go Go.AL Go.RowKit
set_option maxHeartbeats 4000000 in
set_option maxRecDepth 100000 in
theorem clone48 (s : ByteArray) (w : World) (hlim : s.size ≤ 281474976710656) :
    Calls Try.prog 48 #[.string s] w fun e w' => e = .returned (.string s) ∧ Below w.heap.size w w' := by
  have i5 : (Try.prog.info? 5).map (fun i => (i.zero, i.size, i.bytes)) = some (some (Value.int IntKind.u8 0), 1, 1) := by kernel_rfl
  by_cases h0 : s.size = 0
  · have hs : s = ⟨#[]⟩ := by
      apply ByteArray.ext
      exact Array.eq_empty_of_size_eq_zero h0
    subst hs
    go_enter Try.func48, Try.ntmps48
    go_wp2
    go_ret
    exact ⟨rfl, Below.refl _ _⟩
  · obtain ⟨i0, hi, hz0, hz1, hz2⟩ := info_parts i5
    have hinfo : (Try.prog.info? 5).map (·.size) = some 1 := by rw [hi]; simp [hz1]
    have hco : Try.prog.cellsOf 5 = 1 := by simp [Program.cellsOf, hi, hz1]
    -- 'make([]byte, len(s))', for the walk to take; what it lays under a name
    obtain ⟨M, hM⟩ : ∃ M, M = madeCells (Value.int .u8 0).cells (((s.size : Nat) : Int).toNat * i0.size) := ⟨_, rfl⟩
    have hMs : M.size = s.size := by rw [hM, size_madeCells, hz1]; simp
    have hmk : ∀ W : World, (Instr.makeSlice 52 (.int .i64 (s.size : Int)) (.int .i64 (s.size : Int))).run Try.prog W = .ok (.slice (some ⟨W.heap.size, 0, none⟩) s.size s.size) (W.alloc (.cells M 5)) := fun W => by
      have h := run_make (P := Try.prog) W 52 5 i0 (.int .u8 0) Try.underlying52 hi hz0 .i64 .i64 (s.size : Int) (s.size : Int) (by omega) (by omega) (by rw [hz2]; omega) (by omega)
      rw [← hM] at h
      simpa using h
    clear hM
    -- 'copy(b, s)'
    have hcp := Lib.run_copy_row_string (P := Try.prog) (w.alloc (.cells M 5)) 52 9 3 5 w.heap.size 0 s.size s.size s M 5 Try.underlying52 hinfo (heap_alloc_new w _) (Nat.le_refl _) (by omega)
    obtain ⟨Y, hY⟩ : ∃ Y, Y = (M.toList.take 0 ++ Lib.byteCells s.data.toList ++ M.toList.drop (0 + s.size)).toArray := ⟨_, rfl⟩
    rw [← hY] at hcp
    have hYl : Y.toList = Lib.byteCells s.data.toList := by
      rw [hY, List.toList_toArray, List.take_zero, List.nil_append, List.drop_of_length_le (by rw [Array.length_toList]; omega), List.append_nil]
    have hYs : Y.size = s.size := by rw [← Array.length_toList, hYl, Lib.byteCells_length, ← Lib.size_eq]
    have hgY : ((w.alloc (.cells M 5)).setRow w.heap.size Y).heap[w.heap.size]? = some (.cells Y 5 (0, 0)) := setRow_heap _ _ M _ 5 (0, 0) (heap_alloc_new w _)
    -- 'unsafe.String(&b[0], len(b))'
    have hne : s.data.toList ≠ [] := fun e => h0 (by rw [Lib.size_eq, e]; rfl)
    have hUS := Lib.run_unsafeString_row (P := Try.prog) ((w.alloc (.cells M 5)).setRow w.heap.size Y) 67 3 9 5 Try.underlying67 hco w.heap.size Y.size (by unfold World.shape?; rw [hgY]) s.data.toList hne (by rw [← Lib.size_eq]; omega) (by rw [← Lib.size_eq]; omega)
      (fun j x hx => Lib.cells_of_row hgY Y.size j _ (by rw [List.take_of_length_le (by rw [Array.length_toList]; exact Nat.le_refl _), hYl]; simp [Lib.byteCells, hx]))
    rw [← Lib.size_eq] at hUS
    clear hY
    go_enter Try.func48, Try.ntmps48
    go_wp2
    go_ret
    have hb1 : Below w.heap.size w (w.alloc (.cells M 5)) := (Below.refl _ w).alloc (Nat.le_refl _) _
    have hb2 : Below w.heap.size (w.alloc (.cells M 5)) ((w.alloc (.cells M 5)).setRow w.heap.size Y) := ⟨rfl, rfl, rfl, by simp, fun k hk => setRow_other _ _ _ _ (by omega)⟩
    exact ⟨rfl, Lib.below_freeze (hb1.trans hb2) (p := ⟨w.heap.size, 0, none⟩) (Nat.le_refl _) _⟩


theorem clone48_spec (s : ByteArray) (h : s.size ≤ 1000000000000) : PFn Try.prog 48 [.im (.v (.string s))] (.im (.v (.string s))) := by
  refine PFn.of_below (by rfl) rfl fun w φ I vs hd _ => ?_
  simp only [AV.dens, AV.den, IV.den] at hd
  obtain ⟨u, us, rfl, ⟨rfl, _⟩, rfl⟩ := hd
  refine (clone48 s w (by omega)).mono fun e w' ⟨he, hb⟩ => ⟨_, he, ?_, hb⟩
  simp only [AV.den, IV.den]
  exact ⟨trivial, rfl⟩
theorem clone_spec (s : ByteArray) (h : s.size ≤ 1000000000000) : PFn Try.prog 36 [.im (.v (.string s))] (.im (.v (.string s))) := by
  refine ACall.walk [0, 2] [] Try.func36 rfl Try.ntmps36 (by kernel_rfl) (by rfl) rfl fun w own I0 φ0 => ?_
  repeat (first | refine AP.seq rfl ?_ | refine AE.seq ?_ | refine AP.block rfl ?_ | refine AP.scope rfl ?_ | refine AP.label rfl ?_ | refine AE.sc ?_ | refine AE.sc_exit ?_ | refine AE.sc_ret ?_ | refine AP.skip rfl ?_ | refine AP.ret rfl ?_ | refine AP.exit rfl ?_ | refine AE.seq_exit ?_ | refine AE.seq_ret ?_ | refine AE.blk ?_ | refine AE.blk_exit ?_ | refine AE.blk_exit_ne rfl ?_ | refine AE.blk_ret ?_ | refine AE.lp_exit ?_ | refine AE.lp_ret ?_ | refine AQ.done ?_ | refine AQ.s2b (by kernel_rfl) rfl rfl rfl rfl ?_ | refine AQ.mark (by kernel_rfl) rfl rfl rfl rfl rfl rfl rfl ?_ | refine AP.cond_true rfl rfl ?_ | refine AP.cond_false rfl rfl ?_ | (refine AP.region rfl (by kernel_rfl) ?_; simp only [go_sem, Nat.reduceAdd, reduceCtorEq]) | (refine vq_id ?_; simp only [go_sem, Nat.reduceAdd, reduceCtorEq]) | (refine ⟨by first | omega | (intros; simp_all; done) | (intros; simp_all; omega), ?_⟩; try simp only [go_sem, Nat.reduceAdd, reduceCtorEq]))
  refine AQ.fn (by kernel_rfl) rfl rfl rfl (clone48_spec s h) rfl ?_
  repeat (first | refine AP.seq rfl ?_ | refine AE.seq ?_ | refine AP.block rfl ?_ | refine AP.scope rfl ?_ | refine AP.label rfl ?_ | refine AE.sc ?_ | refine AE.sc_exit ?_ | refine AE.sc_ret ?_ | refine AP.skip rfl ?_ | refine AP.ret rfl ?_ | refine AP.exit rfl ?_ | refine AE.seq_exit ?_ | refine AE.seq_ret ?_ | refine AE.blk ?_ | refine AE.blk_exit ?_ | refine AE.blk_exit_ne rfl ?_ | refine AE.blk_ret ?_ | refine AE.lp_exit ?_ | refine AE.lp_ret ?_ | refine AQ.done ?_ | refine AQ.s2b (by kernel_rfl) rfl rfl rfl rfl ?_ | refine AQ.mark (by kernel_rfl) rfl rfl rfl rfl rfl rfl rfl ?_ | refine AP.cond_true rfl rfl ?_ | refine AP.cond_false rfl rfl ?_ | (refine AP.region rfl (by kernel_rfl) ?_; simp only [go_sem, Nat.reduceAdd, reduceCtorEq]) | (refine vq_id ?_; simp only [go_sem, Nat.reduceAdd, reduceCtorEq]) | (refine ⟨by first | omega | (intros; simp_all; done) | (intros; simp_all; omega), ?_⟩; try simp only [go_sem, Nat.reduceAdd, reduceCtorEq]))
  exact AE.ret rfl ⟨rfl, trivial⟩ ⟨rfl, rfl⟩
end Go.Proofs.Ytilbfhldohibhaa
end

section
namespace Go.Proofs.Ytilbfhldohibhaa
open Go Go.AL Go.RowKit
set_option maxRecDepth 10000
def tabRows : List (List IV) := rowsF .u8 256 fun j => cls j
theorem tab_get (b : UInt8) : tabRows.getD b.toNat [] = [.v (.int .u8 (cls b.toNat))] := rowsF_get .u8 _ b.toNat_lt
theorem cls_map : clsAr.map (fun c => [c]) = tabRows := colF_rows _ _ _
theorem tabRows_len : tabRows.length = 256 := rowsF_len _ _ _
theorem clsAr_len : clsAr.length = 256 := colF_len _ _ _
attribute [go_sem] tab_get tabRows_len clsAr_len cls_map
theorem all_step (t : List UInt8) (p : UInt8 → Bool) (k : Nat) (hk : k < t.length) (h : (t.take k).all p = true) (h' : p (t.getD k 0) = true) : (t.take (k + 1)).all p = true := by
  rw [List.take_add_one, List.getElem?_eq_getElem hk, List.all_append, h]
  rw [List.getD_eq_getElem?_getD, List.getElem?_eq_getElem hk] at h'
  simpa using h'
theorem all_no (t : List UInt8) (p : UInt8 → Bool) (k : Nat) (hk : k < t.length) (h' : p (t.getD k 0) = false) : t.all p = false := by
  rw [List.getD_eq_getElem?_getD, List.getElem?_eq_getElem hk] at h'
  rw [List.all_eq_false]
  exact ⟨t[k], List.getElem_mem hk, by simpa using h'⟩
def onlyOk (t : List UInt8) (l : List Int) : Bool := !(t == []) && decide (t.length ≤ 60) && t.all fun b => decide (cls b.toNat ∈ l)
theorem only_spec (t : List UInt8) (l : List Int) (hl : l.length ≤ 1000000000) (ht : t.length ≤ 1000000000000) : PFn Try.prog 42 [Sv t, .im (.sl 1 (rowsI .u8 l))] (Bv (onlyOk t l)) := by
  refine ACall.walk [0, 1, 4, 5, 6, 13, 16, 17, 18, 27] [5] Try.func42 rfl Try.ntmps42 (by kernel_rfl) (by rfl) rfl fun w own I0 φ0 => ?_
  repeat (first | refine AP.seq rfl ?_ | refine AE.seq ?_ | refine AP.block rfl ?_ | refine AP.scope rfl ?_ | refine AP.label rfl ?_ | refine AE.sc ?_ | refine AE.sc_exit ?_ | refine AE.sc_ret ?_ | refine AP.skip rfl ?_ | refine AP.ret rfl ?_ | refine AP.exit rfl ?_ | refine AE.seq_exit ?_ | refine AE.seq_ret ?_ | refine AE.blk ?_ | refine AE.blk_exit ?_ | refine AE.blk_exit_ne rfl ?_ | refine AE.blk_ret ?_ | refine AE.lp_exit ?_ | refine AE.lp_ret ?_ | refine AQ.done ?_ | refine AQ.s2b (by kernel_rfl) rfl rfl rfl rfl ?_ | refine AQ.mark (by kernel_rfl) rfl rfl rfl rfl rfl rfl rfl ?_ | refine AP.cond_true rfl rfl ?_ | refine AP.cond_false rfl rfl ?_ | (refine AP.region rfl (by kernel_rfl) ?_; simp only [go_sem, Nat.reduceAdd, reduceCtorEq]) | (refine vq_id ?_; simp only [go_sem, Nat.reduceAdd, reduceCtorEq]) | (refine ⟨by first | omega | (intros; simp_all; done) | (intros; simp_all; omega), ?_⟩; try simp only [go_sem, Nat.reduceAdd, reduceCtorEq]))
  refine AP.cond rfl rfl (fun h1 => ?_) (fun h1 => ?_)
  · repeat (first | refine AP.seq rfl ?_ | refine AE.seq ?_ | refine AP.block rfl ?_ | refine AP.scope rfl ?_ | refine AP.label rfl ?_ | refine AE.sc ?_ | refine AE.sc_exit ?_ | refine AE.sc_ret ?_ | refine AP.skip rfl ?_ | refine AP.ret rfl ?_ | refine AP.exit rfl ?_ | refine AE.seq_exit ?_ | refine AE.seq_ret ?_ | refine AE.blk ?_ | refine AE.blk_exit ?_ | refine AE.blk_exit_ne rfl ?_ | refine AE.blk_ret ?_ | refine AE.lp_exit ?_ | refine AE.lp_ret ?_ | refine AQ.done ?_ | refine AQ.s2b (by kernel_rfl) rfl rfl rfl rfl ?_ | refine AQ.mark (by kernel_rfl) rfl rfl rfl rfl rfl rfl rfl ?_ | refine AP.cond_true rfl rfl ?_ | refine AP.cond_false rfl rfl ?_ | (refine AP.region rfl (by kernel_rfl) ?_; simp only [go_sem, Nat.reduceAdd, reduceCtorEq]) | (refine vq_id ?_; simp only [go_sem, Nat.reduceAdd, reduceCtorEq]) | (refine ⟨by first | omega | (intros; simp_all; done) | (intros; simp_all; omega), ?_⟩; try simp only [go_sem, Nat.reduceAdd, reduceCtorEq]))
    refine AE.ret rfl ⟨rfl, trivial⟩ ⟨rfl, ?_⟩
    have : onlyOk t l = false := by
      simp only [onlyOk, Bool.or_eq_true, decide_eq_true_eq] at h1 ⊢
      rcases h1 with h1 | h1
      · simp [h1]
      · have : ¬ t.length ≤ 60 := by omega
        simp [this]
    rw [this]; rfl
  · have ha : (t == []) = false ∧ t.length ≤ 60 := by simp at h1 ⊢; exact ⟨h1.1, by omega⟩
    repeat (first | refine AP.seq rfl ?_ | refine AE.seq ?_ | refine AP.block rfl ?_ | refine AP.scope rfl ?_ | refine AP.label rfl ?_ | refine AE.sc ?_ | refine AE.sc_exit ?_ | refine AE.sc_ret ?_ | refine AP.skip rfl ?_ | refine AP.ret rfl ?_ | refine AP.exit rfl ?_ | refine AE.seq_exit ?_ | refine AE.seq_ret ?_ | refine AE.blk ?_ | refine AE.blk_exit ?_ | refine AE.blk_exit_ne rfl ?_ | refine AE.blk_ret ?_ | refine AE.lp_exit ?_ | refine AE.lp_ret ?_ | refine AQ.done ?_ | refine AQ.s2b (by kernel_rfl) rfl rfl rfl rfl ?_ | refine AQ.mark (by kernel_rfl) rfl rfl rfl rfl rfl rfl rfl ?_ | refine AP.cond_true rfl rfl ?_ | refine AP.cond_false rfl rfl ?_ | (refine AP.region rfl (by kernel_rfl) ?_; simp only [go_sem, Nat.reduceAdd, reduceCtorEq]) | (refine vq_id ?_; simp only [go_sem, Nat.reduceAdd, reduceCtorEq]) | (refine ⟨by first | omega | (intros; simp_all; done) | (intros; simp_all; omega), ?_⟩; try simp only [go_sem, Nat.reduceAdd, reduceCtorEq]))
    refine AQ.fn (by kernel_rfl) rfl rfl rfl classes_spec rfl ?_
    repeat (first | refine AP.seq rfl ?_ | refine AE.seq ?_ | refine AP.block rfl ?_ | refine AP.scope rfl ?_ | refine AP.label rfl ?_ | refine AE.sc ?_ | refine AE.sc_exit ?_ | refine AE.sc_ret ?_ | refine AP.skip rfl ?_ | refine AP.ret rfl ?_ | refine AP.exit rfl ?_ | refine AE.seq_exit ?_ | refine AE.seq_ret ?_ | refine AE.blk ?_ | refine AE.blk_exit ?_ | refine AE.blk_exit_ne rfl ?_ | refine AE.blk_ret ?_ | refine AE.lp_exit ?_ | refine AE.lp_ret ?_ | refine AQ.done ?_ | refine AQ.s2b (by kernel_rfl) rfl rfl rfl rfl ?_ | refine AQ.mark (by kernel_rfl) rfl rfl rfl rfl rfl rfl rfl ?_ | refine AP.cond_true rfl rfl ?_ | refine AP.cond_false rfl rfl ?_ | (refine AP.region rfl (by kernel_rfl) ?_; simp only [go_sem, Nat.reduceAdd, reduceCtorEq]) | (refine vq_id ?_; simp only [go_sem, Nat.reduceAdd, reduceCtorEq]) | (refine ⟨by first | omega | (intros; simp_all; done) | (intros; simp_all; omega), ?_⟩; try simp only [go_sem, Nat.reduceAdd, reduceCtorEq]))
    refine AP.loop rfl (α := Nat) (fun k => [(0, Sv t), (1, .im (.sl 1 (rowsI .u8 l))), (5, .ob 0 0), (16, Iv t.length), (17, Iv k)]) (fun k => [(0, .vec 47 1 tabRows)]) (fun k => k ≤ t.length ∧ ((t.take k).all fun b => decide (cls b.toNat ∈ l)) = true) (fun k => t.length - k) 0 (by simp) (Sub.cons rfl (Sub.cons rfl (Sub.cons rfl (Sub.cons rfl (Sub.cons rfl (Sub.nil _)))))) (by simp) fun k hk => ?_
    obtain ⟨hk, hx⟩ := hk
    have hw := wr (x := (k : Int) + 1) (by omega)
    repeat (first | refine AP.seq rfl ?_ | refine AE.seq ?_ | refine AP.block rfl ?_ | refine AP.scope rfl ?_ | refine AP.label rfl ?_ | refine AE.sc ?_ | refine AE.sc_exit ?_ | refine AE.sc_ret ?_ | refine AP.skip rfl ?_ | refine AP.ret rfl ?_ | refine AP.exit rfl ?_ | refine AE.seq_exit ?_ | refine AE.seq_ret ?_ | refine AE.blk ?_ | refine AE.blk_exit ?_ | refine AE.blk_exit_ne rfl ?_ | refine AE.blk_ret ?_ | refine AE.lp_exit ?_ | refine AE.lp_ret ?_ | refine AQ.done ?_ | refine AQ.s2b (by kernel_rfl) rfl rfl rfl rfl ?_ | refine AQ.mark (by kernel_rfl) rfl rfl rfl rfl rfl rfl rfl ?_ | refine AP.cond_true rfl rfl ?_ | refine AP.cond_false rfl rfl ?_ | (refine AP.region rfl (by kernel_rfl) ?_; simp only [go_sem, Nat.reduceAdd, reduceCtorEq, hw]) | (refine vq_id ?_; simp only [go_sem, Nat.reduceAdd, reduceCtorEq, hw]) | (refine ⟨by first | omega | (intros; simp_all; done) | (intros; simp_all; omega), ?_⟩; try simp only [go_sem, Nat.reduceAdd, reduceCtorEq, hw]))
    refine AP.cond rfl rfl (fun hc => ?_) (fun hc => ?_)
    · have hk' : k < t.length := by simp at hc; omega
      have hb := (t.getD k 0).toNat_lt
      repeat (first | refine AP.seq rfl ?_ | refine AE.seq ?_ | refine AP.block rfl ?_ | refine AP.scope rfl ?_ | refine AP.label rfl ?_ | refine AE.sc ?_ | refine AE.sc_exit ?_ | refine AE.sc_ret ?_ | refine AP.skip rfl ?_ | refine AP.ret rfl ?_ | refine AP.exit rfl ?_ | refine AE.seq_exit ?_ | refine AE.seq_ret ?_ | refine AE.blk ?_ | refine AE.blk_exit ?_ | refine AE.blk_exit_ne rfl ?_ | refine AE.blk_ret ?_ | refine AE.lp_exit ?_ | refine AE.lp_ret ?_ | refine AQ.done ?_ | refine AQ.s2b (by kernel_rfl) rfl rfl rfl rfl ?_ | refine AQ.mark (by kernel_rfl) rfl rfl rfl rfl rfl rfl rfl ?_ | refine AP.cond_true rfl rfl ?_ | refine AP.cond_false rfl rfl ?_ | (refine AP.region rfl (by kernel_rfl) ?_; simp only [go_sem, Nat.reduceAdd, reduceCtorEq, hw]) | (refine vq_id ?_; simp only [go_sem, Nat.reduceAdd, reduceCtorEq, hw]) | (refine ⟨by first | omega | (intros; simp_all; done) | (intros; simp_all; omega), ?_⟩; try simp only [go_sem, Nat.reduceAdd, reduceCtorEq, hw]))
      refine AQ.fn (by kernel_rfl) rfl rfl rfl (contains_spec l (cls (t.getD k 0).toNat) hl) rfl ?_
      repeat (first | refine AP.seq rfl ?_ | refine AE.seq ?_ | refine AP.block rfl ?_ | refine AP.scope rfl ?_ | refine AP.label rfl ?_ | refine AE.sc ?_ | refine AE.sc_exit ?_ | refine AE.sc_ret ?_ | refine AP.skip rfl ?_ | refine AP.ret rfl ?_ | refine AP.exit rfl ?_ | refine AE.seq_exit ?_ | refine AE.seq_ret ?_ | refine AE.blk ?_ | refine AE.blk_exit ?_ | refine AE.blk_exit_ne rfl ?_ | refine AE.blk_ret ?_ | refine AE.lp_exit ?_ | refine AE.lp_ret ?_ | refine AQ.done ?_ | refine AQ.s2b (by kernel_rfl) rfl rfl rfl rfl ?_ | refine AQ.mark (by kernel_rfl) rfl rfl rfl rfl rfl rfl rfl ?_ | refine AP.cond_true rfl rfl ?_ | refine AP.cond_false rfl rfl ?_ | (refine AP.region rfl (by kernel_rfl) ?_; simp only [go_sem, Nat.reduceAdd, reduceCtorEq, hw]) | (refine vq_id ?_; simp only [go_sem, Nat.reduceAdd, reduceCtorEq, hw]) | (refine ⟨by first | omega | (intros; simp_all; done) | (intros; simp_all; omega), ?_⟩; try simp only [go_sem, Nat.reduceAdd, reduceCtorEq, hw]))
      refine AP.cond rfl rfl (fun h2 => ?_) (fun h2 => ?_)
      · repeat (first | refine AP.seq rfl ?_ | refine AE.seq ?_ | refine AP.block rfl ?_ | refine AP.scope rfl ?_ | refine AP.label rfl ?_ | refine AE.sc ?_ | refine AE.sc_exit ?_ | refine AE.sc_ret ?_ | refine AP.skip rfl ?_ | refine AP.ret rfl ?_ | refine AP.exit rfl ?_ | refine AE.seq_exit ?_ | refine AE.seq_ret ?_ | refine AE.blk ?_ | refine AE.blk_exit ?_ | refine AE.blk_exit_ne rfl ?_ | refine AE.blk_ret ?_ | refine AE.lp_exit ?_ | refine AE.lp_ret ?_ | refine AQ.done ?_ | refine AQ.s2b (by kernel_rfl) rfl rfl rfl rfl ?_ | refine AQ.mark (by kernel_rfl) rfl rfl rfl rfl rfl rfl rfl ?_ | refine AP.cond_true rfl rfl ?_ | refine AP.cond_false rfl rfl ?_ | (refine AP.region rfl (by kernel_rfl) ?_; simp only [go_sem, Nat.reduceAdd, reduceCtorEq, hw]) | (refine vq_id ?_; simp only [go_sem, Nat.reduceAdd, reduceCtorEq, hw]) | (refine ⟨by first | omega | (intros; simp_all; done) | (intros; simp_all; omega), ?_⟩; try simp only [go_sem, Nat.reduceAdd, reduceCtorEq, hw]))
        refine AE.ret0 rfl ⟨rfl, trivial⟩ rfl ⟨rfl, ?_⟩
        have : onlyOk t l = false := by
          rw [onlyOk, all_no t _ k hk' (by simpa using h2)]; simp
        rw [this]; rfl
      · repeat (first | refine AP.seq rfl ?_ | refine AE.seq ?_ | refine AP.block rfl ?_ | refine AP.scope rfl ?_ | refine AP.label rfl ?_ | refine AE.sc ?_ | refine AE.sc_exit ?_ | refine AE.sc_ret ?_ | refine AP.skip rfl ?_ | refine AP.ret rfl ?_ | refine AP.exit rfl ?_ | refine AE.seq_exit ?_ | refine AE.seq_ret ?_ | refine AE.blk ?_ | refine AE.blk_exit ?_ | refine AE.blk_exit_ne rfl ?_ | refine AE.blk_ret ?_ | refine AE.lp_exit ?_ | refine AE.lp_ret ?_ | refine AQ.done ?_ | refine AQ.s2b (by kernel_rfl) rfl rfl rfl rfl ?_ | refine AQ.mark (by kernel_rfl) rfl rfl rfl rfl rfl rfl rfl ?_ | refine AP.cond_true rfl rfl ?_ | refine AP.cond_false rfl rfl ?_ | (refine AP.region rfl (by kernel_rfl) ?_; simp only [go_sem, Nat.reduceAdd, reduceCtorEq, hw]) | (refine vq_id ?_; simp only [go_sem, Nat.reduceAdd, reduceCtorEq, hw]) | (refine ⟨by first | omega | (intros; simp_all; done) | (intros; simp_all; omega), ?_⟩; try simp only [go_sem, Nat.reduceAdd, reduceCtorEq, hw]))
        exact AE.round (k + 1) ⟨by omega, all_step t _ k hk' hx (by simpa using h2)⟩ (by omega) (Sub.cons rfl (Sub.cons rfl (Sub.cons rfl (Sub.cons rfl (Sub.cons rfl (Sub.nil _)))))) rfl
    · repeat (first | refine AP.seq rfl ?_ | refine AE.seq ?_ | refine AP.block rfl ?_ | refine AP.scope rfl ?_ | refine AP.label rfl ?_ | refine AE.sc ?_ | refine AE.sc_exit ?_ | refine AE.sc_ret ?_ | refine AP.skip rfl ?_ | refine AP.ret rfl ?_ | refine AP.exit rfl ?_ | refine AE.seq_exit ?_ | refine AE.seq_ret ?_ | refine AE.blk ?_ | refine AE.blk_exit ?_ | refine AE.blk_exit_ne rfl ?_ | refine AE.blk_ret ?_ | refine AE.lp_exit ?_ | refine AE.lp_ret ?_ | refine AQ.done ?_ | refine AQ.s2b (by kernel_rfl) rfl rfl rfl rfl ?_ | refine AQ.mark (by kernel_rfl) rfl rfl rfl rfl rfl rfl rfl ?_ | refine AP.cond_true rfl rfl ?_ | refine AP.cond_false rfl rfl ?_ | (refine AP.region rfl (by kernel_rfl) ?_; simp only [go_sem, Nat.reduceAdd, reduceCtorEq, hw]) | (refine vq_id ?_; simp only [go_sem, Nat.reduceAdd, reduceCtorEq, hw]) | (refine ⟨by first | omega | (intros; simp_all; done) | (intros; simp_all; omega), ?_⟩; try simp only [go_sem, Nat.reduceAdd, reduceCtorEq, hw]))
      refine AE.ret0 rfl ⟨rfl, trivial⟩ rfl ⟨rfl, ?_⟩
      have hk' : k = t.length := by simp at hc; omega
      rw [hk', List.take_length] at hx
      have : onlyOk t l = true := by rw [onlyOk, hx]; simp [ha]
      rw [this]; rfl
theorem isLabel_spec (t : List UInt8) (ht : t.length ≤ 1000000000000) : PFn Try.prog 22 [Sv t] (Bv (onlyOk t [2])) := by
  refine ACall.walk [0, 2] [] Try.func22 rfl Try.ntmps22 (by kernel_rfl) (by rfl) rfl fun w own I0 φ0 => ?_
  repeat (first | refine AP.seq rfl ?_ | refine AE.seq ?_ | refine AP.block rfl ?_ | refine AP.scope rfl ?_ | refine AP.label rfl ?_ | refine AE.sc ?_ | refine AE.sc_exit ?_ | refine AE.sc_ret ?_ | refine AP.skip rfl ?_ | refine AP.ret rfl ?_ | refine AP.exit rfl ?_ | refine AE.seq_exit ?_ | refine AE.seq_ret ?_ | refine AE.blk ?_ | refine AE.blk_exit ?_ | refine AE.blk_exit_ne rfl ?_ | refine AE.blk_ret ?_ | refine AE.lp_exit ?_ | refine AE.lp_ret ?_ | refine AQ.done ?_ | refine AQ.s2b (by kernel_rfl) rfl rfl rfl rfl ?_ | refine AQ.mark (by kernel_rfl) rfl rfl rfl rfl rfl rfl rfl ?_ | refine AP.cond_true rfl rfl ?_ | refine AP.cond_false rfl rfl ?_ | (refine AP.region rfl (by kernel_rfl) ?_; simp only [go_sem, Nat.reduceAdd, reduceCtorEq]) | (refine vq_id ?_; simp only [go_sem, Nat.reduceAdd, reduceCtorEq]) | (refine ⟨by first | omega | (intros; simp_all; done) | (intros; simp_all; omega), ?_⟩; try simp only [go_sem, Nat.reduceAdd, reduceCtorEq]))
  refine AQ.fn (by kernel_rfl) rfl rfl rfl (only_spec t [2] (by simp) ht) rfl ?_
  repeat (first | refine AP.seq rfl ?_ | refine AE.seq ?_ | refine AP.block rfl ?_ | refine AP.scope rfl ?_ | refine AP.label rfl ?_ | refine AE.sc ?_ | refine AE.sc_exit ?_ | refine AE.sc_ret ?_ | refine AP.skip rfl ?_ | refine AP.ret rfl ?_ | refine AP.exit rfl ?_ | refine AE.seq_exit ?_ | refine AE.seq_ret ?_ | refine AE.blk ?_ | refine AE.blk_exit ?_ | refine AE.blk_exit_ne rfl ?_ | refine AE.blk_ret ?_ | refine AE.lp_exit ?_ | refine AE.lp_ret ?_ | refine AQ.done ?_ | refine AQ.s2b (by kernel_rfl) rfl rfl rfl rfl ?_ | refine AQ.mark (by kernel_rfl) rfl rfl rfl rfl rfl rfl rfl ?_ | refine AP.cond_true rfl rfl ?_ | refine AP.cond_false rfl rfl ?_ | (refine AP.region rfl (by kernel_rfl) ?_; simp only [go_sem, Nat.reduceAdd, reduceCtorEq]) | (refine vq_id ?_; simp only [go_sem, Nat.reduceAdd, reduceCtorEq]) | (refine ⟨by first | omega | (intros; simp_all; done) | (intros; simp_all; omega), ?_⟩; try simp only [go_sem, Nat.reduceAdd, reduceCtorEq]))
  exact AE.ret rfl ⟨rfl, trivial⟩ ⟨rfl, rfl⟩
end Go.Proofs.Ytilbfhldohibhaa
end

section
namespace Go.Proofs.Ytilbfhldohibhaa
open Go Go.AL Go.RowKit
set_option maxRecDepth 10000
/-- a line ends at i -/
def brk (t : List UInt8) (i : Nat) : Bool := (t.getD i 0).toNat == 10 || ((t.getD i 0).toNat == 13 && !(decide (i + 1 < t.length) && (t.getD (i + 1) 0).toNat == 10))
def lin (t : List UInt8) : Nat → Nat
  | 0 => 1
  | i + 1 => if brk t i then lin t i + 1 else lin t i
def beg (t : List UInt8) : Nat → Nat
  | 0 => 0
  | i + 1 => if brk t i then i + 1 else beg t i
theorem lin_le (t : List UInt8) (i : Nat) : 1 ≤ lin t i ∧ lin t i ≤ i + 1 := by
  induction i with
  | zero => simp [lin]
  | succ i ih => simp only [lin]; split <;> omega
theorem beg_le (t : List UInt8) (i : Nat) : beg t i ≤ i := by
  induction i with
  | zero => simp [beg]
  | succ i ih => simp only [beg]; split <;> omega
def posOf (t : List UInt8) (a : Int) : AV := if 0 ≤ a ∧ a ≤ t.length then .tup [Iv (lin t a.toNat), Iv (a.toNat - beg t a.toNat + 1), Iv 0] else .tup [Iv 0, Iv 0, Iv 3]
theorem brk_eq (t : List UInt8) (k : Nat) (hk : k < t.length) : (((t.getD k 0).toNat : Int) == 10 || ((t.getD k 0).toNat : Int) == 13 && ((k : Int) + 1 == (t.length : Int) || ((t.getD ((k : Int) + 1).toNat 0).toNat : Int) != 10)) = brk t k := by
  rw [Int.toNat_natCast_add_one]
  rw [Bool.eq_iff_iff]
  simp only [brk, Bool.or_eq_true, Bool.and_eq_true, beq_iff_eq, bne_iff_ne, Bool.not_eq_true', Bool.and_eq_false_iff, decide_eq_false_iff_not, beq_eq_false_iff_ne]
  omega
theorem position_spec (t : List UInt8) (a : Int) (ht : t.length ≤ 1000000) : PFn Try.prog 12 [Sv t, Iv a] (posOf t a) := by
  refine ACall.walk [0, 1, 4, 5, 6, 7, 8, 9, 17, 18, 19, 20, 46] [] Try.func12 rfl Try.ntmps12 (by kernel_rfl) (by rfl) rfl fun w own I0 φ0 => ?_
  repeat (first | refine AP.seq rfl ?_ | refine AE.seq ?_ | refine AP.block rfl ?_ | refine AP.scope rfl ?_ | refine AP.label rfl ?_ | refine AE.sc ?_ | refine AE.sc_exit ?_ | refine AE.sc_ret ?_ | refine AP.skip rfl ?_ | refine AP.ret rfl ?_ | refine AP.exit rfl ?_ | refine AE.seq_exit ?_ | refine AE.seq_ret ?_ | refine AE.blk ?_ | refine AE.blk_exit ?_ | refine AE.blk_exit_ne rfl ?_ | refine AE.blk_ret ?_ | refine AE.lp_exit ?_ | refine AE.lp_ret ?_ | refine AQ.done ?_ | refine AQ.s2b (by kernel_rfl) rfl rfl rfl rfl ?_ | refine AQ.mark (by kernel_rfl) rfl rfl rfl rfl rfl rfl rfl ?_ | refine AP.cond_true rfl rfl ?_ | refine AP.cond_false rfl rfl ?_ | (refine AP.region rfl (by kernel_rfl) ?_; simp only [go_sem, Nat.reduceAdd, reduceCtorEq]) | (refine vq_id ?_; simp only [go_sem, Nat.reduceAdd, reduceCtorEq]) | (refine ⟨by first | omega | (intros; simp_all; done) | (intros; simp_all; omega), ?_⟩; try simp only [go_sem, Nat.reduceAdd, reduceCtorEq]))
  refine AP.cond rfl rfl (fun h1 => ?_) (fun h1 => ?_)
  · repeat (first | refine AP.seq rfl ?_ | refine AE.seq ?_ | refine AP.block rfl ?_ | refine AP.scope rfl ?_ | refine AP.label rfl ?_ | refine AE.sc ?_ | refine AE.sc_exit ?_ | refine AE.sc_ret ?_ | refine AP.skip rfl ?_ | refine AP.ret rfl ?_ | refine AP.exit rfl ?_ | refine AE.seq_exit ?_ | refine AE.seq_ret ?_ | refine AE.blk ?_ | refine AE.blk_exit ?_ | refine AE.blk_exit_ne rfl ?_ | refine AE.blk_ret ?_ | refine AE.lp_exit ?_ | refine AE.lp_ret ?_ | refine AQ.done ?_ | refine AQ.s2b (by kernel_rfl) rfl rfl rfl rfl ?_ | refine AQ.mark (by kernel_rfl) rfl rfl rfl rfl rfl rfl rfl ?_ | refine AP.cond_true rfl rfl ?_ | refine AP.cond_false rfl rfl ?_ | (refine AP.region rfl (by kernel_rfl) ?_; simp only [go_sem, Nat.reduceAdd, reduceCtorEq]) | (refine vq_id ?_; simp only [go_sem, Nat.reduceAdd, reduceCtorEq]) | (refine ⟨by first | omega | (intros; simp_all; done) | (intros; simp_all; omega), ?_⟩; try simp only [go_sem, Nat.reduceAdd, reduceCtorEq]))
    refine AE.ret rfl ⟨rfl, rfl, rfl, trivial⟩ ⟨rfl, ?_⟩
    have : ¬ (0 ≤ a ∧ a ≤ t.length) := by simp at h1; omega
    rw [posOf, if_neg this]; rfl
  · have ha : 0 ≤ a ∧ a ≤ t.length := by simp at h1; omega
    obtain ⟨n, rfl⟩ := Int.eq_ofNat_of_zero_le ha.1
    repeat (first | refine AP.seq rfl ?_ | refine AE.seq ?_ | refine AP.block rfl ?_ | refine AP.scope rfl ?_ | refine AP.label rfl ?_ | refine AE.sc ?_ | refine AE.sc_exit ?_ | refine AE.sc_ret ?_ | refine AP.skip rfl ?_ | refine AP.ret rfl ?_ | refine AP.exit rfl ?_ | refine AE.seq_exit ?_ | refine AE.seq_ret ?_ | refine AE.blk ?_ | refine AE.blk_exit ?_ | refine AE.blk_exit_ne rfl ?_ | refine AE.blk_ret ?_ | refine AE.lp_exit ?_ | refine AE.lp_ret ?_ | refine AQ.done ?_ | refine AQ.s2b (by kernel_rfl) rfl rfl rfl rfl ?_ | refine AQ.mark (by kernel_rfl) rfl rfl rfl rfl rfl rfl rfl ?_ | refine AP.cond_true rfl rfl ?_ | refine AP.cond_false rfl rfl ?_ | (refine AP.region rfl (by kernel_rfl) ?_; simp only [go_sem, Nat.reduceAdd, reduceCtorEq]) | (refine vq_id ?_; simp only [go_sem, Nat.reduceAdd, reduceCtorEq]) | (refine ⟨by first | omega | (intros; simp_all; done) | (intros; simp_all; omega), ?_⟩; try simp only [go_sem, Nat.reduceAdd, reduceCtorEq]))
    refine AP.loop rfl (α := Nat) (fun k => [(0, Sv t), (1, Iv n), (4, Iv (lin t k)), (7, Iv (beg t k)), (18, Iv n), (19, Iv k)]) (fun k => []) (fun k => k ≤ n) (fun k => n - k) 0 (by simp) (Sub.cons rfl (Sub.cons rfl (Sub.cons rfl (Sub.cons rfl (Sub.cons rfl (Sub.cons rfl (Sub.nil _))))))) (by simp) fun k hk => ?_
    have hw := wr (x := (k : Int) + 1) (by omega)
    have hl := lin_le t k
    have hwl := wr (x := (lin t k : Int) + 1) (by omega)
    repeat (first | refine AP.seq rfl ?_ | refine AE.seq ?_ | refine AP.block rfl ?_ | refine AP.scope rfl ?_ | refine AP.label rfl ?_ | refine AE.sc ?_ | refine AE.sc_exit ?_ | refine AE.sc_ret ?_ | refine AP.skip rfl ?_ | refine AP.ret rfl ?_ | refine AP.exit rfl ?_ | refine AE.seq_exit ?_ | refine AE.seq_ret ?_ | refine AE.blk ?_ | refine AE.blk_exit ?_ | refine AE.blk_exit_ne rfl ?_ | refine AE.blk_ret ?_ | refine AE.lp_exit ?_ | refine AE.lp_ret ?_ | refine AQ.done ?_ | refine AQ.s2b (by kernel_rfl) rfl rfl rfl rfl ?_ | refine AQ.mark (by kernel_rfl) rfl rfl rfl rfl rfl rfl rfl ?_ | refine AP.cond_true rfl rfl ?_ | refine AP.cond_false rfl rfl ?_ | (refine AP.region rfl (by kernel_rfl) ?_; simp only [go_sem, Nat.reduceAdd, reduceCtorEq, hw, hwl]) | (refine vq_id ?_; simp only [go_sem, Nat.reduceAdd, reduceCtorEq, hw, hwl]) | (refine ⟨by first | omega | (intros; simp_all; done) | (intros; simp_all; omega), ?_⟩; try simp only [go_sem, Nat.reduceAdd, reduceCtorEq, hw, hwl]))
    refine AP.cond rfl rfl (fun hc => ?_) (fun hc => ?_)
    · have hk' : k < n := by simp at hc; omega
      repeat (first | refine AP.seq rfl ?_ | refine AE.seq ?_ | refine AP.block rfl ?_ | refine AP.scope rfl ?_ | refine AP.label rfl ?_ | refine AE.sc ?_ | refine AE.sc_exit ?_ | refine AE.sc_ret ?_ | refine AP.skip rfl ?_ | refine AP.ret rfl ?_ | refine AP.exit rfl ?_ | refine AE.seq_exit ?_ | refine AE.seq_ret ?_ | refine AE.blk ?_ | refine AE.blk_exit ?_ | refine AE.blk_exit_ne rfl ?_ | refine AE.blk_ret ?_ | refine AE.lp_exit ?_ | refine AE.lp_ret ?_ | refine AQ.done ?_ | refine AQ.s2b (by kernel_rfl) rfl rfl rfl rfl ?_ | refine AQ.mark (by kernel_rfl) rfl rfl rfl rfl rfl rfl rfl ?_ | refine AP.cond_true rfl rfl ?_ | refine AP.cond_false rfl rfl ?_ | (refine AP.region rfl (by kernel_rfl) ?_; simp only [go_sem, Nat.reduceAdd, reduceCtorEq, hw, hwl]) | (refine vq_id ?_; simp only [go_sem, Nat.reduceAdd, reduceCtorEq, hw, hwl]) | (refine ⟨by first | omega | (intros; simp_all; done) | (intros; simp_all; omega), ?_⟩; try simp only [go_sem, Nat.reduceAdd, reduceCtorEq, hw, hwl]))
      refine AP.cond (b := brk t k) rfl (by simp only [← brk_eq t k (by omega)]; rfl) (fun h2 => ?_) (fun h2 => ?_)
      · repeat (first | refine AP.seq rfl ?_ | refine AE.seq ?_ | refine AP.block rfl ?_ | refine AP.scope rfl ?_ | refine AP.label rfl ?_ | refine AE.sc ?_ | refine AE.sc_exit ?_ | refine AE.sc_ret ?_ | refine AP.skip rfl ?_ | refine AP.ret rfl ?_ | refine AP.exit rfl ?_ | refine AE.seq_exit ?_ | refine AE.seq_ret ?_ | refine AE.blk ?_ | refine AE.blk_exit ?_ | refine AE.blk_exit_ne rfl ?_ | refine AE.blk_ret ?_ | refine AE.lp_exit ?_ | refine AE.lp_ret ?_ | refine AQ.done ?_ | refine AQ.s2b (by kernel_rfl) rfl rfl rfl rfl ?_ | refine AQ.mark (by kernel_rfl) rfl rfl rfl rfl rfl rfl rfl ?_ | refine AP.cond_true rfl rfl ?_ | refine AP.cond_false rfl rfl ?_ | (refine AP.region rfl (by kernel_rfl) ?_; simp only [go_sem, Nat.reduceAdd, reduceCtorEq, hw, hwl]) | (refine vq_id ?_; simp only [go_sem, Nat.reduceAdd, reduceCtorEq, hw, hwl]) | (refine ⟨by first | omega | (intros; simp_all; done) | (intros; simp_all; omega), ?_⟩; try simp only [go_sem, Nat.reduceAdd, reduceCtorEq, hw, hwl]))
        exact AE.round (k + 1) (by omega) (by omega) (Sub.cons rfl (Sub.cons rfl (Sub.cons (by simp [lin, h2]; rfl) (Sub.cons (by simp [beg, h2]; rfl) (Sub.cons rfl (Sub.cons rfl (Sub.nil _))))))) rfl
      · repeat (first | refine AP.seq rfl ?_ | refine AE.seq ?_ | refine AP.block rfl ?_ | refine AP.scope rfl ?_ | refine AP.label rfl ?_ | refine AE.sc ?_ | refine AE.sc_exit ?_ | refine AE.sc_ret ?_ | refine AP.skip rfl ?_ | refine AP.ret rfl ?_ | refine AP.exit rfl ?_ | refine AE.seq_exit ?_ | refine AE.seq_ret ?_ | refine AE.blk ?_ | refine AE.blk_exit ?_ | refine AE.blk_exit_ne rfl ?_ | refine AE.blk_ret ?_ | refine AE.lp_exit ?_ | refine AE.lp_ret ?_ | refine AQ.done ?_ | refine AQ.s2b (by kernel_rfl) rfl rfl rfl rfl ?_ | refine AQ.mark (by kernel_rfl) rfl rfl rfl rfl rfl rfl rfl ?_ | refine AP.cond_true rfl rfl ?_ | refine AP.cond_false rfl rfl ?_ | (refine AP.region rfl (by kernel_rfl) ?_; simp only [go_sem, Nat.reduceAdd, reduceCtorEq, hw, hwl]) | (refine vq_id ?_; simp only [go_sem, Nat.reduceAdd, reduceCtorEq, hw, hwl]) | (refine ⟨by first | omega | (intros; simp_all; done) | (intros; simp_all; omega), ?_⟩; try simp only [go_sem, Nat.reduceAdd, reduceCtorEq, hw, hwl]))
        exact AE.round (k + 1) (by omega) (by omega) (Sub.cons rfl (Sub.cons rfl (Sub.cons (by simp [lin, h2]; rfl) (Sub.cons (by simp [beg, h2]; rfl) (Sub.cons rfl (Sub.cons rfl (Sub.nil _))))))) rfl
    · have hk' : k = n := by simp at hc; omega
      subst hk'
      have hb := beg_le t k
      have hw1 := wr (x := (k : Int) - beg t k) (by omega)
      have hw2 := wr (x := (k : Int) - beg t k + 1) (by omega)
      repeat (first | refine AP.seq rfl ?_ | refine AE.seq ?_ | refine AP.block rfl ?_ | refine AP.scope rfl ?_ | refine AP.label rfl ?_ | refine AE.sc ?_ | refine AE.sc_exit ?_ | refine AE.sc_ret ?_ | refine AP.skip rfl ?_ | refine AP.ret rfl ?_ | refine AP.exit rfl ?_ | refine AE.seq_exit ?_ | refine AE.seq_ret ?_ | refine AE.blk ?_ | refine AE.blk_exit ?_ | refine AE.blk_exit_ne rfl ?_ | refine AE.blk_ret ?_ | refine AE.lp_exit ?_ | refine AE.lp_ret ?_ | refine AQ.done ?_ | refine AQ.s2b (by kernel_rfl) rfl rfl rfl rfl ?_ | refine AQ.mark (by kernel_rfl) rfl rfl rfl rfl rfl rfl rfl ?_ | refine AP.cond_true rfl rfl ?_ | refine AP.cond_false rfl rfl ?_ | (refine AP.region rfl (by kernel_rfl) ?_; simp only [go_sem, Nat.reduceAdd, reduceCtorEq, hw, hw1, hw2]) | (refine vq_id ?_; simp only [go_sem, Nat.reduceAdd, reduceCtorEq, hw, hw1, hw2]) | (refine ⟨by first | omega | (intros; simp_all; done) | (intros; simp_all; omega), ?_⟩; try simp only [go_sem, Nat.reduceAdd, reduceCtorEq, hw, hw1, hw2]))
      refine AE.ret rfl ⟨rfl, rfl, rfl, trivial⟩ ⟨rfl, ?_⟩
      rw [posOf, if_pos ha]; rfl
end Go.Proofs.Ytilbfhldohibhaa
end

section
namespace Go.Proofs.Ytilbfhldohibhaa
open Go Go.AL Go.RowKit
set_option maxRecDepth 10000
theorem brk_eq2 (t : List UInt8) (k : Nat) (hk : k < t.length) : (((t.getD k 0).toNat : Int) == 10 || ((t.getD k 0).toNat : Int) == 13 && !(decide ((k : Int) + 1 < (t.length : Int)) && ((t.getD ((k : Int) + 1).toNat 0).toNat : Int) == 10)) = brk t k := by
  rw [Int.toNat_natCast_add_one]
  rw [Bool.eq_iff_iff]
  simp only [brk, Bool.or_eq_true, Bool.and_eq_true, beq_iff_eq, bne_iff_ne, Bool.not_eq_true', Bool.and_eq_false_iff, decide_eq_false_iff_not, beq_eq_false_iff_ne]
  omega
theorem position_ref (t : List UInt8) (a : Int) (ht : t.length ≤ 1000000) : PFn Try.prog 13 [Sv t, Iv a] (posOf t a) := by
  refine ACall.walk [0, 1, 4, 5, 6, 7, 8, 9, 10, 18, 21, 51] [] Try.func13 rfl Try.ntmps13 (by kernel_rfl) (by rfl) rfl fun w own I0 φ0 => ?_
  repeat (first | refine AP.seq rfl ?_ | refine AE.seq ?_ | refine AP.block rfl ?_ | refine AP.scope rfl ?_ | refine AP.label rfl ?_ | refine AE.sc ?_ | refine AE.sc_exit ?_ | refine AE.sc_ret ?_ | refine AP.skip rfl ?_ | refine AP.ret rfl ?_ | refine AP.exit rfl ?_ | refine AE.seq_exit ?_ | refine AE.seq_ret ?_ | refine AE.blk ?_ | refine AE.blk_exit ?_ | refine AE.blk_exit_ne rfl ?_ | refine AE.blk_ret ?_ | refine AE.lp_exit ?_ | refine AE.lp_ret ?_ | refine AQ.done ?_ | refine AP.cond_true rfl rfl ?_ | refine AP.cond_false rfl rfl ?_ | (refine AP.region rfl (by kernel_rfl) ?_; simp only [go_sem, Nat.reduceAdd, reduceCtorEq]) | (refine vq_id ?_; simp only [go_sem, Nat.reduceAdd, reduceCtorEq]) | (refine ⟨by first | omega | (intros; simp_all; done) | (intros; simp_all; omega), ?_⟩; try simp only [go_sem, Nat.reduceAdd, reduceCtorEq]))
  refine AP.cond rfl rfl (fun h1 => ?_) (fun h1 => ?_)
  · repeat (first | refine AP.seq rfl ?_ | refine AE.seq ?_ | refine AP.block rfl ?_ | refine AP.scope rfl ?_ | refine AP.label rfl ?_ | refine AE.sc ?_ | refine AE.sc_exit ?_ | refine AE.sc_ret ?_ | refine AP.skip rfl ?_ | refine AP.ret rfl ?_ | refine AP.exit rfl ?_ | refine AE.seq_exit ?_ | refine AE.seq_ret ?_ | refine AE.blk ?_ | refine AE.blk_exit ?_ | refine AE.blk_exit_ne rfl ?_ | refine AE.blk_ret ?_ | refine AE.lp_exit ?_ | refine AE.lp_ret ?_ | refine AQ.done ?_ | refine AP.cond_true rfl rfl ?_ | refine AP.cond_false rfl rfl ?_ | (refine AP.region rfl (by kernel_rfl) ?_; simp only [go_sem, Nat.reduceAdd, reduceCtorEq]) | (refine vq_id ?_; simp only [go_sem, Nat.reduceAdd, reduceCtorEq]) | (refine ⟨by first | omega | (intros; simp_all; done) | (intros; simp_all; omega), ?_⟩; try simp only [go_sem, Nat.reduceAdd, reduceCtorEq]))
    refine AE.ret rfl ⟨rfl, rfl, rfl, trivial⟩ ⟨rfl, ?_⟩
    have : ¬ (0 ≤ a ∧ a ≤ t.length) := by simp at h1; omega
    rw [posOf, if_neg this]; rfl
  · have ha : 0 ≤ a ∧ a ≤ t.length := by simp at h1; omega
    obtain ⟨n, rfl⟩ := Int.eq_ofNat_of_zero_le ha.1
    repeat (first | refine AP.seq rfl ?_ | refine AE.seq ?_ | refine AP.block rfl ?_ | refine AP.scope rfl ?_ | refine AP.label rfl ?_ | refine AE.sc ?_ | refine AE.sc_exit ?_ | refine AE.sc_ret ?_ | refine AP.skip rfl ?_ | refine AP.ret rfl ?_ | refine AP.exit rfl ?_ | refine AE.seq_exit ?_ | refine AE.seq_ret ?_ | refine AE.blk ?_ | refine AE.blk_exit ?_ | refine AE.blk_exit_ne rfl ?_ | refine AE.blk_ret ?_ | refine AE.lp_exit ?_ | refine AE.lp_ret ?_ | refine AQ.done ?_ | refine AP.cond_true rfl rfl ?_ | refine AP.cond_false rfl rfl ?_ | (refine AP.region rfl (by kernel_rfl) ?_; simp only [go_sem, Nat.reduceAdd, reduceCtorEq]) | (refine vq_id ?_; simp only [go_sem, Nat.reduceAdd, reduceCtorEq]) | (refine ⟨by first | omega | (intros; simp_all; done) | (intros; simp_all; omega), ?_⟩; try simp only [go_sem, Nat.reduceAdd, reduceCtorEq]))
    refine AP.loop rfl (α := Nat) (fun k => [(0, Sv t), (1, Iv n), (7, Iv (lin t k)), (8, Iv (k - beg t k + 1)), (9, Iv k)]) (fun k => []) (fun k => k ≤ n) (fun k => n - k) 0 (by simp) (Sub.cons rfl (Sub.cons rfl (Sub.cons rfl (Sub.cons rfl (Sub.cons rfl (Sub.nil _)))))) (by simp) fun k hk => ?_
    have hw := wr (x := (k : Int) + 1) (by omega)
    have hl := lin_le t k
    have hb := beg_le t k
    have hwl := wr (x := (lin t k : Int) + 1) (by omega)
    have hwc := wr (x := (k : Int) - beg t k + 1 + 1) (by omega)
    repeat (first | refine AP.seq rfl ?_ | refine AE.seq ?_ | refine AP.block rfl ?_ | refine AP.scope rfl ?_ | refine AP.label rfl ?_ | refine AE.sc ?_ | refine AE.sc_exit ?_ | refine AE.sc_ret ?_ | refine AP.skip rfl ?_ | refine AP.ret rfl ?_ | refine AP.exit rfl ?_ | refine AE.seq_exit ?_ | refine AE.seq_ret ?_ | refine AE.blk ?_ | refine AE.blk_exit ?_ | refine AE.blk_exit_ne rfl ?_ | refine AE.blk_ret ?_ | refine AE.lp_exit ?_ | refine AE.lp_ret ?_ | refine AQ.done ?_ | refine AP.cond_true rfl rfl ?_ | refine AP.cond_false rfl rfl ?_ | (refine AP.region rfl (by kernel_rfl) ?_; simp only [go_sem, Nat.reduceAdd, reduceCtorEq, hw, hwl, hwc]) | (refine vq_id ?_; simp only [go_sem, Nat.reduceAdd, reduceCtorEq, hw, hwl, hwc]) | (refine ⟨by first | omega | (intros; simp_all; done) | (intros; simp_all; omega), ?_⟩; try simp only [go_sem, Nat.reduceAdd, reduceCtorEq, hw, hwl, hwc]))
    refine AP.cond rfl rfl (fun hc => ?_) (fun hc => ?_)
    · have hk' : k < n := by simp at hc; omega
      repeat (first | refine AP.seq rfl ?_ | refine AE.seq ?_ | refine AP.block rfl ?_ | refine AP.scope rfl ?_ | refine AP.label rfl ?_ | refine AE.sc ?_ | refine AE.sc_exit ?_ | refine AE.sc_ret ?_ | refine AP.skip rfl ?_ | refine AP.ret rfl ?_ | refine AP.exit rfl ?_ | refine AE.seq_exit ?_ | refine AE.seq_ret ?_ | refine AE.blk ?_ | refine AE.blk_exit ?_ | refine AE.blk_exit_ne rfl ?_ | refine AE.blk_ret ?_ | refine AE.lp_exit ?_ | refine AE.lp_ret ?_ | refine AQ.done ?_ | refine AP.cond_true rfl rfl ?_ | refine AP.cond_false rfl rfl ?_ | (refine AP.region rfl (by kernel_rfl) ?_; simp only [go_sem, Nat.reduceAdd, reduceCtorEq, hw, hwl, hwc]) | (refine vq_id ?_; simp only [go_sem, Nat.reduceAdd, reduceCtorEq, hw, hwl, hwc]) | (refine ⟨by first | omega | (intros; simp_all; done) | (intros; simp_all; omega), ?_⟩; try simp only [go_sem, Nat.reduceAdd, reduceCtorEq, hw, hwl, hwc]))
      refine AP.cond (b := brk t k) rfl (by simp only [← brk_eq2 t k (by omega)]; rfl) (fun h2 => ?_) (fun h2 => ?_)
      · repeat (first | refine AP.seq rfl ?_ | refine AE.seq ?_ | refine AP.block rfl ?_ | refine AP.scope rfl ?_ | refine AP.label rfl ?_ | refine AE.sc ?_ | refine AE.sc_exit ?_ | refine AE.sc_ret ?_ | refine AP.skip rfl ?_ | refine AP.ret rfl ?_ | refine AP.exit rfl ?_ | refine AE.seq_exit ?_ | refine AE.seq_ret ?_ | refine AE.blk ?_ | refine AE.blk_exit ?_ | refine AE.blk_exit_ne rfl ?_ | refine AE.blk_ret ?_ | refine AE.lp_exit ?_ | refine AE.lp_ret ?_ | refine AQ.done ?_ | refine AP.cond_true rfl rfl ?_ | refine AP.cond_false rfl rfl ?_ | (refine AP.region rfl (by kernel_rfl) ?_; simp only [go_sem, Nat.reduceAdd, reduceCtorEq, hw, hwl, hwc]) | (refine vq_id ?_; simp only [go_sem, Nat.reduceAdd, reduceCtorEq, hw, hwl, hwc]) | (refine ⟨by first | omega | (intros; simp_all; done) | (intros; simp_all; omega), ?_⟩; try simp only [go_sem, Nat.reduceAdd, reduceCtorEq, hw, hwl, hwc]))
        exact AE.round (k + 1) (by omega) (by omega) (Sub.cons rfl (Sub.cons rfl (Sub.cons (by simp [lin, h2]; rfl) (Sub.cons (by simp [beg, h2]; rfl) (Sub.cons rfl (Sub.nil _)))))) rfl
      · repeat (first | refine AP.seq rfl ?_ | refine AE.seq ?_ | refine AP.block rfl ?_ | refine AP.scope rfl ?_ | refine AP.label rfl ?_ | refine AE.sc ?_ | refine AE.sc_exit ?_ | refine AE.sc_ret ?_ | refine AP.skip rfl ?_ | refine AP.ret rfl ?_ | refine AP.exit rfl ?_ | refine AE.seq_exit ?_ | refine AE.seq_ret ?_ | refine AE.blk ?_ | refine AE.blk_exit ?_ | refine AE.blk_exit_ne rfl ?_ | refine AE.blk_ret ?_ | refine AE.lp_exit ?_ | refine AE.lp_ret ?_ | refine AQ.done ?_ | refine AP.cond_true rfl rfl ?_ | refine AP.cond_false rfl rfl ?_ | (refine AP.region rfl (by kernel_rfl) ?_; simp only [go_sem, Nat.reduceAdd, reduceCtorEq, hw, hwl, hwc]) | (refine vq_id ?_; simp only [go_sem, Nat.reduceAdd, reduceCtorEq, hw, hwl, hwc]) | (refine ⟨by first | omega | (intros; simp_all; done) | (intros; simp_all; omega), ?_⟩; try simp only [go_sem, Nat.reduceAdd, reduceCtorEq, hw, hwl, hwc]))
        exact AE.round (k + 1) (by omega) (by omega) (Sub.cons rfl (Sub.cons rfl (Sub.cons (by simp [lin, h2]; rfl) (Sub.cons (by simp [beg, h2]; rw [show (k : Int) + 1 - beg t k + 1 = k - beg t k + 1 + 1 by omega]; rfl) (Sub.cons rfl (Sub.nil _)))))) rfl
    · have hk' : k = n := by simp at hc; omega
      subst hk'
      repeat (first | refine AP.seq rfl ?_ | refine AE.seq ?_ | refine AP.block rfl ?_ | refine AP.scope rfl ?_ | refine AP.label rfl ?_ | refine AE.sc ?_ | refine AE.sc_exit ?_ | refine AE.sc_ret ?_ | refine AP.skip rfl ?_ | refine AP.ret rfl ?_ | refine AP.exit rfl ?_ | refine AE.seq_exit ?_ | refine AE.seq_ret ?_ | refine AE.blk ?_ | refine AE.blk_exit ?_ | refine AE.blk_exit_ne rfl ?_ | refine AE.blk_ret ?_ | refine AE.lp_exit ?_ | refine AE.lp_ret ?_ | refine AQ.done ?_ | refine AP.cond_true rfl rfl ?_ | refine AP.cond_false rfl rfl ?_ | (refine AP.region rfl (by kernel_rfl) ?_; simp only [go_sem, Nat.reduceAdd, reduceCtorEq, hw]) | (refine vq_id ?_; simp only [go_sem, Nat.reduceAdd, reduceCtorEq, hw]) | (refine ⟨by first | omega | (intros; simp_all; done) | (intros; simp_all; omega), ?_⟩; try simp only [go_sem, Nat.reduceAdd, reduceCtorEq, hw]))
      refine AE.ret rfl ⟨rfl, rfl, rfl, trivial⟩ ⟨rfl, ?_⟩
      rw [posOf, if_pos ha]; rfl
end Go.Proofs.Ytilbfhldohibhaa
end

section
namespace Go.Proofs.Ytilbfhldohibhaa
open Go Go.AL Go.RowKit
set_option maxRecDepth 10000
abbrev Tok := List UInt8 × Nat
def sp (b : UInt8) : Bool := cls b.toNat == 1
/-- a byte ahead of a text with tokens r -/
def push (b : UInt8) (o : Nat) : List UInt8 → List Tok → List Tok
  | [], _ => [([b], o)]
  | c :: _, r => if sp c then ([b], o) :: r else match r with
    | (x, _) :: r => (b :: x, o) :: r
    | [] => []
/-- the tokens of a text that begins at an offset -/
def toks : List UInt8 → Nat → List Tok
  | [], _ => []
  | b :: l, o => if sp b then toks l (o + 1) else push b o l (toks l (o + 1))
theorem toks_sp {b : UInt8} {l : List UInt8} {o : Nat} (h : sp b = true) : toks (b :: l) o = toks l (o + 1) := by simp only [toks, h, if_true]
theorem toks_last {b : UInt8} {o : Nat} (h : sp b = false) : toks [b] o = [([b], o)] := by simp [toks, h, push]
theorem toks_end {b c : UInt8} {l : List UInt8} {o : Nat} (h : sp b = false) (h' : sp c = true) : toks (b :: c :: l) o = ([b], o) :: toks (c :: l) (o + 1) := by
  rw [toks, h]; simp [h', push]
theorem toks_more {b c : UInt8} {l : List UInt8} {o : Nat} (h : sp b = false) (h' : sp c = false) {x : List UInt8} {o' : Nat} {r : List Tok} (e : toks (c :: l) (o + 1) = (x, o') :: r) : toks (b :: c :: l) o = (b :: x, o) :: r := by
  rw [toks, h, e]; simp [h', push]
/-- a word, and what stands behind it -/
theorem toks_word : ∀ (x : List UInt8) (l : List UInt8) (o : Nat), x ≠ [] → (∀ b ∈ x, sp b = false) → (∀ c l', l = c :: l' → sp c = true) → toks (x ++ l) o = (x, o) :: toks l (o + x.length)
  | [], _, _, h, _, _ => absurd rfl h
  | [b], [], o, _, hx, _ => by rw [List.append_nil, toks_last (hx b (by simp))]; rfl
  | [b], c :: l, o, _, hx, hl => by exact toks_end (hx b (by simp)) (hl c l rfl)
  | b :: c :: x, l, o, _, hx, hl => by
    have := toks_word (c :: x) l (o + 1) (by simp) (fun d hd => hx d (List.mem_cons_of_mem _ hd)) hl
    rw [List.cons_append] at this
    rw [List.cons_append, List.cons_append, toks_more (hx b (by simp)) (hx c (by simp)) this]
    rw [show o + 1 + (c :: x).length = o + (b :: c :: x).length by simp; omega]
def okT (t : List UInt8) : Bool := t.all fun b => !(cls b.toNat == 0)
def badAt (t : List UInt8) : Nat := t.findIdx fun b => cls b.toNat == 0
def tokRow (k : Tok) : List IV := [Si k.1, Ii k.2]
def tokRows (l : List Tok) : List (List IV) := l.map tokRow
theorem tokRows_len (l : List Tok) : (tokRows l).length = l.length := by simp [tokRows]
attribute [go_sem] tokRows_len
def scanOf (t : List UInt8) : AV := if okT t then .tup [.im (.sl 2 (tokRows (toks t 0))), Iv 0, Iv 0] else .tup [.im (.sl 2 []), Iv (badAt t), Iv 30]
theorem drop_cons (t : List UInt8) (i : Nat) (h : i < t.length) : t.drop i = t.getD i 0 :: t.drop (i + 1) := by
  rw [List.drop_eq_getElem_cons h, List.getD_eq_getElem?_getD, List.getElem?_eq_getElem h]; rfl
theorem bad_at (t : List UInt8) (k : Nat) (hk : k < t.length) (h : ((t.take k).all fun b => !(cls b.toNat == 0)) = true) (h' : (cls (t.getD k 0).toNat == 0) = true) : badAt t = k := by
  unfold badAt
  rw [List.findIdx_eq hk]
  rw [List.getD_eq_getElem?_getD, List.getElem?_eq_getElem hk] at h'
  refine ⟨h', fun j hj => ?_⟩
  rw [List.all_eq_true] at h
  have := h t[j] (by rw [List.mem_take_iff_getElem]; exact ⟨j, by omega, rfl⟩)
  simpa using this
end Go.Proofs.Ytilbfhldohibhaa
end

section
namespace Go.Proofs.Ytilbfhldohibhaa
open Go Go.AL Go.RowKit
set_option maxRecDepth 10000
set_option maxHeartbeats 4000000
theorem word_step (t : List UInt8) (k e : Nat) (hke : k ≤ e) (he : e < t.length) (h : ∀ b ∈ (t.drop k).take (e - k), sp b = false) (h' : sp (t.getD e 0) = false) : ∀ b ∈ (t.drop k).take (e + 1 - k), sp b = false := by
  intro b hb
  rw [show e + 1 - k = e - k + 1 by omega, List.take_add_one] at hb
  rcases List.mem_append.1 hb with hb | hb
  · exact h b hb
  · rw [List.getElem?_drop, show k + (e - k) = e by omega, List.getElem?_eq_getElem he] at hb
    rw [List.getD_eq_getElem?_getD, List.getElem?_eq_getElem he] at h'
    simp at hb
    rw [hb]; exact h'
theorem scan_spec (t : List UInt8) (ht : t.length ≤ 7000) : PFn Try.prog 10 [Sv t] (scanOf t) := by
  refine ACall.walk [0, 2, 3, 4, 5, 6, 7, 8, 9, 12, 15, 16, 17, 24, 38, 41, 46, 63] [5] Try.func10 rfl Try.ntmps10 (by kernel_rfl) (by rfl) rfl fun w own I0 φ0 => ?_
  repeat (first | refine AP.seq rfl ?_ | refine AE.seq ?_ | refine AP.block rfl ?_ | refine AP.scope rfl ?_ | refine AP.label rfl ?_ | refine AE.sc ?_ | refine AE.sc_exit ?_ | refine AE.sc_ret ?_ | refine AP.skip rfl ?_ | refine AP.ret rfl ?_ | refine AP.exit rfl ?_ | refine AE.seq_exit ?_ | refine AE.seq_ret ?_ | refine AE.blk ?_ | refine AE.blk_exit ?_ | refine AE.blk_exit_ne rfl ?_ | refine AE.blk_ret ?_ | refine AE.lp_exit ?_ | refine AE.lp_ret ?_ | refine AQ.done ?_ | refine AQ.s2b (by kernel_rfl) rfl rfl rfl rfl ?_ | refine AQ.mark (by kernel_rfl) rfl rfl rfl rfl rfl rfl rfl ?_ | refine AP.cond_true rfl rfl ?_ | refine AP.cond_false rfl rfl ?_ | (refine AP.region rfl (by kernel_rfl) ?_; simp only [go_sem, Nat.reduceAdd, reduceCtorEq]) | (refine vq_id ?_; simp only [go_sem, Nat.reduceAdd, reduceCtorEq]) | (refine ⟨by first | omega | (intros; simp_all; done) | (intros; simp_all; omega), ?_⟩; try simp only [go_sem, Nat.reduceAdd, reduceCtorEq]))
  have h1 : ¬ ((40000 : Int) < t.length) := by omega
  refine AP.cond_false rfl (by rw [← decide_eq_false h1]; rfl) ?_
  repeat (first | refine AP.seq rfl ?_ | refine AE.seq ?_ | refine AP.block rfl ?_ | refine AP.scope rfl ?_ | refine AP.label rfl ?_ | refine AE.sc ?_ | refine AE.sc_exit ?_ | refine AE.sc_ret ?_ | refine AP.skip rfl ?_ | refine AP.ret rfl ?_ | refine AP.exit rfl ?_ | refine AE.seq_exit ?_ | refine AE.seq_ret ?_ | refine AE.blk ?_ | refine AE.blk_exit ?_ | refine AE.blk_exit_ne rfl ?_ | refine AE.blk_ret ?_ | refine AE.lp_exit ?_ | refine AE.lp_ret ?_ | refine AQ.done ?_ | refine AQ.s2b (by kernel_rfl) rfl rfl rfl rfl ?_ | refine AQ.mark (by kernel_rfl) rfl rfl rfl rfl rfl rfl rfl ?_ | refine AP.cond_true rfl rfl ?_ | refine AP.cond_false rfl rfl ?_ | (refine AP.region rfl (by kernel_rfl) ?_; simp only [go_sem, Nat.reduceAdd, reduceCtorEq]) | (refine vq_id ?_; simp only [go_sem, Nat.reduceAdd, reduceCtorEq]) | (refine ⟨by first | omega | (intros; simp_all; done) | (intros; simp_all; omega), ?_⟩; try simp only [go_sem, Nat.reduceAdd, reduceCtorEq]))
  refine AQ.fn (by kernel_rfl) rfl rfl rfl classes_spec rfl ?_
  repeat (first | refine AP.seq rfl ?_ | refine AE.seq ?_ | refine AP.block rfl ?_ | refine AP.scope rfl ?_ | refine AP.label rfl ?_ | refine AE.sc ?_ | refine AE.sc_exit ?_ | refine AE.sc_ret ?_ | refine AP.skip rfl ?_ | refine AP.ret rfl ?_ | refine AP.exit rfl ?_ | refine AE.seq_exit ?_ | refine AE.seq_ret ?_ | refine AE.blk ?_ | refine AE.blk_exit ?_ | refine AE.blk_exit_ne rfl ?_ | refine AE.blk_ret ?_ | refine AE.lp_exit ?_ | refine AE.lp_ret ?_ | refine AQ.done ?_ | refine AQ.s2b (by kernel_rfl) rfl rfl rfl rfl ?_ | refine AQ.mark (by kernel_rfl) rfl rfl rfl rfl rfl rfl rfl ?_ | refine AP.cond_true rfl rfl ?_ | refine AP.cond_false rfl rfl ?_ | (refine AP.region rfl (by kernel_rfl) ?_; simp only [go_sem, Nat.reduceAdd, reduceCtorEq]) | (refine vq_id ?_; simp only [go_sem, Nat.reduceAdd, reduceCtorEq]) | (refine ⟨by first | omega | (intros; simp_all; done) | (intros; simp_all; omega), ?_⟩; try simp only [go_sem, Nat.reduceAdd, reduceCtorEq]))
  refine AP.loop rfl (α := Nat) (fun k => [(0, Sv t), (5, .ob 0 0), (15, Iv t.length), (16, Iv k)]) (fun k => [(0, .vec 47 1 tabRows)]) (fun k => k ≤ t.length ∧ ((t.take k).all fun b => !(cls b.toNat == 0)) = true) (fun k => t.length - k) 0 (by simp) (Sub.cons rfl (Sub.cons rfl (Sub.cons rfl (Sub.cons rfl (Sub.nil _))))) (by simp) fun k hk => ?_
  obtain ⟨hk, hx⟩ := hk
  have hw := wr (x := (k : Int) + 1) (by omega)
  repeat (first | refine AP.seq rfl ?_ | refine AE.seq ?_ | refine AP.block rfl ?_ | refine AP.scope rfl ?_ | refine AP.label rfl ?_ | refine AE.sc ?_ | refine AE.sc_exit ?_ | refine AE.sc_ret ?_ | refine AP.skip rfl ?_ | refine AP.ret rfl ?_ | refine AP.exit rfl ?_ | refine AE.seq_exit ?_ | refine AE.seq_ret ?_ | refine AE.blk ?_ | refine AE.blk_exit ?_ | refine AE.blk_exit_ne rfl ?_ | refine AE.blk_ret ?_ | refine AE.lp_exit ?_ | refine AE.lp_ret ?_ | refine AQ.done ?_ | refine AQ.s2b (by kernel_rfl) rfl rfl rfl rfl ?_ | refine AQ.mark (by kernel_rfl) rfl rfl rfl rfl rfl rfl rfl ?_ | refine AP.cond_true rfl rfl ?_ | refine AP.cond_false rfl rfl ?_ | (refine AP.region rfl (by kernel_rfl) ?_; simp only [go_sem, Nat.reduceAdd, reduceCtorEq, hw]) | (refine vq_id ?_; simp only [go_sem, Nat.reduceAdd, reduceCtorEq, hw]) | (refine ⟨by first | omega | (intros; simp_all; done) | (intros; simp_all; omega), ?_⟩; try simp only [go_sem, Nat.reduceAdd, reduceCtorEq, hw]))
  refine AP.cond rfl rfl (fun hc => ?_) (fun hc => ?_)
  · have hk' : k < t.length := by simp at hc; omega
    have hb := (t.getD k 0).toNat_lt
    repeat (first | refine AP.seq rfl ?_ | refine AE.seq ?_ | refine AP.block rfl ?_ | refine AP.scope rfl ?_ | refine AP.label rfl ?_ | refine AE.sc ?_ | refine AE.sc_exit ?_ | refine AE.sc_ret ?_ | refine AP.skip rfl ?_ | refine AP.ret rfl ?_ | refine AP.exit rfl ?_ | refine AE.seq_exit ?_ | refine AE.seq_ret ?_ | refine AE.blk ?_ | refine AE.blk_exit ?_ | refine AE.blk_exit_ne rfl ?_ | refine AE.blk_ret ?_ | refine AE.lp_exit ?_ | refine AE.lp_ret ?_ | refine AQ.done ?_ | refine AQ.s2b (by kernel_rfl) rfl rfl rfl rfl ?_ | refine AQ.mark (by kernel_rfl) rfl rfl rfl rfl rfl rfl rfl ?_ | refine AP.cond_true rfl rfl ?_ | refine AP.cond_false rfl rfl ?_ | (refine AP.region rfl (by kernel_rfl) ?_; simp only [go_sem, Nat.reduceAdd, reduceCtorEq, hw]) | (refine vq_id ?_; simp only [go_sem, Nat.reduceAdd, reduceCtorEq, hw]) | (refine ⟨by first | omega | (intros; simp_all; done) | (intros; simp_all; omega), ?_⟩; try simp only [go_sem, Nat.reduceAdd, reduceCtorEq, hw]))
    refine AP.cond rfl rfl (fun h2 => ?_) (fun h2 => ?_)
    · repeat (first | refine AP.seq rfl ?_ | refine AE.seq ?_ | refine AP.block rfl ?_ | refine AP.scope rfl ?_ | refine AP.label rfl ?_ | refine AE.sc ?_ | refine AE.sc_exit ?_ | refine AE.sc_ret ?_ | refine AP.skip rfl ?_ | refine AP.ret rfl ?_ | refine AP.exit rfl ?_ | refine AE.seq_exit ?_ | refine AE.seq_ret ?_ | refine AE.blk ?_ | refine AE.blk_exit ?_ | refine AE.blk_exit_ne rfl ?_ | refine AE.blk_ret ?_ | refine AE.lp_exit ?_ | refine AE.lp_ret ?_ | refine AQ.done ?_ | refine AQ.s2b (by kernel_rfl) rfl rfl rfl rfl ?_ | refine AQ.mark (by kernel_rfl) rfl rfl rfl rfl rfl rfl rfl ?_ | refine AP.cond_true rfl rfl ?_ | refine AP.cond_false rfl rfl ?_ | (refine AP.region rfl (by kernel_rfl) ?_; simp only [go_sem, Nat.reduceAdd, reduceCtorEq, hw]) | (refine vq_id ?_; simp only [go_sem, Nat.reduceAdd, reduceCtorEq, hw]) | (refine ⟨by first | omega | (intros; simp_all; done) | (intros; simp_all; omega), ?_⟩; try simp only [go_sem, Nat.reduceAdd, reduceCtorEq, hw]))
      refine AE.nilsl 2 2 rfl ?_
      refine AE.ret0 rfl ⟨rfl, rfl, rfl, trivial⟩ rfl ⟨rfl, ?_⟩
      have : okT t = false := all_no t _ k hk' (by rw [h2]; rfl)
      rw [scanOf, this, bad_at t k hk' hx h2]; rfl
    · repeat (first | refine AP.seq rfl ?_ | refine AE.seq ?_ | refine AP.block rfl ?_ | refine AP.scope rfl ?_ | refine AP.label rfl ?_ | refine AE.sc ?_ | refine AE.sc_exit ?_ | refine AE.sc_ret ?_ | refine AP.skip rfl ?_ | refine AP.ret rfl ?_ | refine AP.exit rfl ?_ | refine AE.seq_exit ?_ | refine AE.seq_ret ?_ | refine AE.blk ?_ | refine AE.blk_exit ?_ | refine AE.blk_exit_ne rfl ?_ | refine AE.blk_ret ?_ | refine AE.lp_exit ?_ | refine AE.lp_ret ?_ | refine AQ.done ?_ | refine AQ.s2b (by kernel_rfl) rfl rfl rfl rfl ?_ | refine AQ.mark (by kernel_rfl) rfl rfl rfl rfl rfl rfl rfl ?_ | refine AP.cond_true rfl rfl ?_ | refine AP.cond_false rfl rfl ?_ | (refine AP.region rfl (by kernel_rfl) ?_; simp only [go_sem, Nat.reduceAdd, reduceCtorEq, hw]) | (refine vq_id ?_; simp only [go_sem, Nat.reduceAdd, reduceCtorEq, hw]) | (refine ⟨by first | omega | (intros; simp_all; done) | (intros; simp_all; omega), ?_⟩; try simp only [go_sem, Nat.reduceAdd, reduceCtorEq, hw]))
      exact AE.round (k + 1) ⟨by omega, all_step t _ k hk' hx (by rw [h2]; rfl)⟩ (by omega) (Sub.cons rfl (Sub.cons rfl (Sub.cons rfl (Sub.cons rfl (Sub.nil _))))) rfl
  · have hk' : k = t.length := by simp at hc; omega
    rw [hk', List.take_length] at hx
    repeat (first | refine AP.seq rfl ?_ | refine AE.seq ?_ | refine AP.block rfl ?_ | refine AP.scope rfl ?_ | refine AP.label rfl ?_ | refine AE.sc ?_ | refine AE.sc_exit ?_ | refine AE.sc_ret ?_ | refine AP.skip rfl ?_ | refine AP.ret rfl ?_ | refine AP.exit rfl ?_ | refine AE.seq_exit ?_ | refine AE.seq_ret ?_ | refine AE.blk ?_ | refine AE.blk_exit ?_ | refine AE.blk_exit_ne rfl ?_ | refine AE.blk_ret ?_ | refine AE.lp_exit ?_ | refine AE.lp_ret ?_ | refine AQ.done ?_ | refine AQ.s2b (by kernel_rfl) rfl rfl rfl rfl ?_ | refine AQ.mark (by kernel_rfl) rfl rfl rfl rfl rfl rfl rfl ?_ | refine AP.cond_true rfl rfl ?_ | refine AP.cond_false rfl rfl ?_ | (refine AP.region rfl (by kernel_rfl) ?_; simp only [go_sem, Nat.reduceAdd, reduceCtorEq, hw]) | (refine vq_id ?_; simp only [go_sem, Nat.reduceAdd, reduceCtorEq, hw]) | (refine ⟨by first | omega | (intros; simp_all; done) | (intros; simp_all; omega), ?_⟩; try simp only [go_sem, Nat.reduceAdd, reduceCtorEq, hw]))
    refine AP.own 7 29 2 rfl ?_
    refine AP.loop rfl (α := Nat × List Tok) (fun p => [(0, Sv t), (5, .ob 0 0), (7, .os 1 2 0 p.2.length), (8, Iv p.1)]) (fun p => [(1, .vec 29 2 (tokRows p.2)), (0, .vec 47 1 tabRows)]) (fun p => p.1 ≤ t.length ∧ p.2.length ≤ p.1 ∧ toks t 0 = p.2 ++ toks (t.drop p.1) p.1) (fun p => t.length - p.1) (0, []) (by simp) (Sub.cons rfl (Sub.cons rfl (Sub.cons rfl (Sub.cons rfl (Sub.nil _))))) (by rfl) fun p hp => ?_
    obtain ⟨a0, out⟩ := p
    obtain ⟨ha0, hout, htk⟩ := hp
    simp only at ha0 hout htk
    repeat (first | refine AP.seq rfl ?_ | refine AE.seq ?_ | refine AP.block rfl ?_ | refine AP.scope rfl ?_ | refine AP.label rfl ?_ | refine AE.sc ?_ | refine AE.sc_exit ?_ | refine AE.sc_ret ?_ | refine AP.skip rfl ?_ | refine AP.ret rfl ?_ | refine AP.exit rfl ?_ | refine AE.seq_exit ?_ | refine AE.seq_ret ?_ | refine AE.blk ?_ | refine AE.blk_exit ?_ | refine AE.blk_exit_ne rfl ?_ | refine AE.blk_ret ?_ | refine AE.lp_exit ?_ | refine AE.lp_ret ?_ | refine AQ.done ?_ | refine AQ.s2b (by kernel_rfl) rfl rfl rfl rfl ?_ | refine AQ.mark (by kernel_rfl) rfl rfl rfl rfl rfl rfl rfl ?_ | refine AP.cond_true rfl rfl ?_ | refine AP.cond_false rfl rfl ?_ | (refine AP.region rfl (by kernel_rfl) ?_; simp only [go_sem, Nat.reduceAdd, reduceCtorEq]) | (refine vq_id ?_; simp only [go_sem, Nat.reduceAdd, reduceCtorEq]) | (refine ⟨by first | omega | (intros; simp_all; done) | (intros; simp_all; omega), ?_⟩; try simp only [go_sem, Nat.reduceAdd, reduceCtorEq]))
    refine AP.loop rfl (α := Nat) (fun k => [(0, Sv t), (5, .ob 0 0), (7, .os 1 2 0 out.length), (8, Iv k)]) (fun _ => [(1, .vec 29 2 (tokRows out)), (0, .vec 47 1 tabRows)]) (fun k => a0 ≤ k ∧ k ≤ t.length ∧ toks t 0 = out ++ toks (t.drop k) k) (fun k => t.length - k) a0 ⟨by omega, ha0, htk⟩ (Sub.cons rfl (Sub.cons rfl (Sub.cons rfl (Sub.cons rfl (Sub.nil _))))) (by rfl) fun k hk => ?_
    obtain ⟨hak, hk, htk⟩ := hk
    have hw := wr (x := (k : Int) + 1) (by omega)
    have hb := (t.getD k 0).toNat_lt
    repeat (first | refine AP.seq rfl ?_ | refine AE.seq ?_ | refine AP.block rfl ?_ | refine AP.scope rfl ?_ | refine AP.label rfl ?_ | refine AE.sc ?_ | refine AE.sc_exit ?_ | refine AE.sc_ret ?_ | refine AP.skip rfl ?_ | refine AP.ret rfl ?_ | refine AP.exit rfl ?_ | refine AE.seq_exit ?_ | refine AE.seq_ret ?_ | refine AE.blk ?_ | refine AE.blk_exit ?_ | refine AE.blk_exit_ne rfl ?_ | refine AE.blk_ret ?_ | refine AE.lp_exit ?_ | refine AE.lp_ret ?_ | refine AQ.done ?_ | refine AQ.s2b (by kernel_rfl) rfl rfl rfl rfl ?_ | refine AQ.mark (by kernel_rfl) rfl rfl rfl rfl rfl rfl rfl ?_ | refine AP.cond_true rfl rfl ?_ | refine AP.cond_false rfl rfl ?_ | (refine AP.region rfl (by kernel_rfl) ?_; simp only [go_sem, Nat.reduceAdd, reduceCtorEq, hw]) | (refine vq_id ?_; simp only [go_sem, Nat.reduceAdd, reduceCtorEq, hw]) | (refine ⟨by first | omega | (intros; simp_all; done) | (intros; simp_all; omega), ?_⟩; try simp only [go_sem, Nat.reduceAdd, reduceCtorEq, hw]))
    refine AP.cond rfl rfl (fun hc => ?_) (fun hc => ?_)
    · simp only [Bool.and_eq_true, decide_eq_true_eq] at hc
      have hk' : k < t.length := by omega
      repeat (first | refine AP.seq rfl ?_ | refine AE.seq ?_ | refine AP.block rfl ?_ | refine AP.scope rfl ?_ | refine AP.label rfl ?_ | refine AE.sc ?_ | refine AE.sc_exit ?_ | refine AE.sc_ret ?_ | refine AP.skip rfl ?_ | refine AP.ret rfl ?_ | refine AP.exit rfl ?_ | refine AE.seq_exit ?_ | refine AE.seq_ret ?_ | refine AE.blk ?_ | refine AE.blk_exit ?_ | refine AE.blk_exit_ne rfl ?_ | refine AE.blk_ret ?_ | refine AE.lp_exit ?_ | refine AE.lp_ret ?_ | refine AQ.done ?_ | refine AQ.s2b (by kernel_rfl) rfl rfl rfl rfl ?_ | refine AQ.mark (by kernel_rfl) rfl rfl rfl rfl rfl rfl rfl ?_ | refine AP.cond_true rfl rfl ?_ | refine AP.cond_false rfl rfl ?_ | (refine AP.region rfl (by kernel_rfl) ?_; simp only [go_sem, Nat.reduceAdd, reduceCtorEq, hw]) | (refine vq_id ?_; simp only [go_sem, Nat.reduceAdd, reduceCtorEq, hw]) | (refine ⟨by first | omega | (intros; simp_all; done) | (intros; simp_all; omega), ?_⟩; try simp only [go_sem, Nat.reduceAdd, reduceCtorEq, hw]))
      refine AE.round (k + 1) ⟨by omega, by omega, ?_⟩ (by omega) (Sub.cons rfl (Sub.cons rfl (Sub.cons rfl (Sub.cons rfl (Sub.nil _))))) rfl
      rw [htk, drop_cons t k hk', toks_sp hc.2]
    · repeat (first | refine AP.seq rfl ?_ | refine AE.seq ?_ | refine AP.block rfl ?_ | refine AP.scope rfl ?_ | refine AP.label rfl ?_ | refine AE.sc ?_ | refine AE.sc_exit ?_ | refine AE.sc_ret ?_ | refine AP.skip rfl ?_ | refine AP.ret rfl ?_ | refine AP.exit rfl ?_ | refine AE.seq_exit ?_ | refine AE.seq_ret ?_ | refine AE.blk ?_ | refine AE.blk_exit ?_ | refine AE.blk_exit_ne rfl ?_ | refine AE.blk_ret ?_ | refine AE.lp_exit ?_ | refine AE.lp_ret ?_ | refine AQ.done ?_ | refine AQ.s2b (by kernel_rfl) rfl rfl rfl rfl ?_ | refine AQ.mark (by kernel_rfl) rfl rfl rfl rfl rfl rfl rfl ?_ | refine AP.cond_true rfl rfl ?_ | refine AP.cond_false rfl rfl ?_ | (refine AP.region rfl (by kernel_rfl) ?_; simp only [go_sem, Nat.reduceAdd, reduceCtorEq, hw]) | (refine vq_id ?_; simp only [go_sem, Nat.reduceAdd, reduceCtorEq, hw]) | (refine ⟨by first | omega | (intros; simp_all; done) | (intros; simp_all; omega), ?_⟩; try simp only [go_sem, Nat.reduceAdd, reduceCtorEq, hw]))
      refine AP.cond rfl rfl (fun h2 => ?_) (fun h2 => ?_)
      · have hk' : k = t.length := by simp at h2; omega
        repeat (first | refine AP.seq rfl ?_ | refine AE.seq ?_ | refine AP.block rfl ?_ | refine AP.scope rfl ?_ | refine AP.label rfl ?_ | refine AE.sc ?_ | refine AE.sc_exit ?_ | refine AE.sc_ret ?_ | refine AP.skip rfl ?_ | refine AP.ret rfl ?_ | refine AP.exit rfl ?_ | refine AE.seq_exit ?_ | refine AE.seq_ret ?_ | refine AE.blk ?_ | refine AE.blk_exit ?_ | refine AE.blk_exit_ne rfl ?_ | refine AE.blk_ret ?_ | refine AE.lp_exit ?_ | refine AE.lp_ret ?_ | refine AQ.done ?_ | refine AQ.s2b (by kernel_rfl) rfl rfl rfl rfl ?_ | refine AQ.mark (by kernel_rfl) rfl rfl rfl rfl rfl rfl rfl ?_ | refine AP.cond_true rfl rfl ?_ | refine AP.cond_false rfl rfl ?_ | (refine AP.region rfl (by kernel_rfl) ?_; simp only [go_sem, Nat.reduceAdd, reduceCtorEq]) | (refine vq_id ?_; simp only [go_sem, Nat.reduceAdd, reduceCtorEq]) | (refine ⟨by first | omega | (intros; simp_all; done) | (intros; simp_all; omega), ?_⟩; try simp only [go_sem, Nat.reduceAdd, reduceCtorEq]))
        simp only [go_sem, Nat.reduceAdd, reduceCtorEq]
        refine AE.freeze 1 (el := 29) (es := 2) (rows := tokRows out) rfl (by simp only [go_sem, Nat.reduceAdd, reduceCtorEq]) (by simp only [go_sem, Nat.reduceAdd, reduceCtorEq]; try (simp; done)) ?_
        refine AE.ret0 rfl ⟨rfl, rfl, rfl, trivial⟩ rfl ⟨rfl, ?_⟩
        have e1 : okT t = true := hx
        have e2 : toks t 0 = out := by rw [htk, hk', List.drop_length, toks, List.append_nil]
        rw [scanOf, e1, if_pos rfl, e2]
        have e3 : ((tokRows out).drop 0).take out.length = tokRows out := by rw [List.drop_zero, ← tokRows_len out, List.take_length]
        show AV.tup [.im (.sl 2 (((tokRows out).drop 0).take out.length)), Iv 0, Iv 0] = _
        rw [e3]
      · have hk' : k < t.length := by simp at h2; omega
        have hsp : sp (t.getD k 0) = false := by
          simp only [Bool.and_eq_false_iff, decide_eq_false_iff_not] at hc
          rcases hc with hc | hc
          · omega
          · exact hc
        repeat (first | refine AP.seq rfl ?_ | refine AE.seq ?_ | refine AP.block rfl ?_ | refine AP.scope rfl ?_ | refine AP.label rfl ?_ | refine AE.sc ?_ | refine AE.sc_exit ?_ | refine AE.sc_ret ?_ | refine AP.skip rfl ?_ | refine AP.ret rfl ?_ | refine AP.exit rfl ?_ | refine AE.seq_exit ?_ | refine AE.seq_ret ?_ | refine AE.blk ?_ | refine AE.blk_exit ?_ | refine AE.blk_exit_ne rfl ?_ | refine AE.blk_ret ?_ | refine AE.lp_exit ?_ | refine AE.lp_ret ?_ | refine AQ.done ?_ | refine AQ.s2b (by kernel_rfl) rfl rfl rfl rfl ?_ | refine AQ.mark (by kernel_rfl) rfl rfl rfl rfl rfl rfl rfl ?_ | refine AP.cond_true rfl rfl ?_ | refine AP.cond_false rfl rfl ?_ | (refine AP.region rfl (by kernel_rfl) ?_; simp only [go_sem, Nat.reduceAdd, reduceCtorEq]) | (refine vq_id ?_; simp only [go_sem, Nat.reduceAdd, reduceCtorEq]) | (refine ⟨by first | omega | (intros; simp_all; done) | (intros; simp_all; omega), ?_⟩; try simp only [go_sem, Nat.reduceAdd, reduceCtorEq]))
        refine AP.cond_false rfl (by rw [← show ((out.length : Int) == 8000) = false by simp; omega]; rfl) ?_
        repeat (first | refine AP.seq rfl ?_ | refine AE.seq ?_ | refine AP.block rfl ?_ | refine AP.scope rfl ?_ | refine AP.label rfl ?_ | refine AE.sc ?_ | refine AE.sc_exit ?_ | refine AE.sc_ret ?_ | refine AP.skip rfl ?_ | refine AP.ret rfl ?_ | refine AP.exit rfl ?_ | refine AE.seq_exit ?_ | refine AE.seq_ret ?_ | refine AE.blk ?_ | refine AE.blk_exit ?_ | refine AE.blk_exit_ne rfl ?_ | refine AE.blk_ret ?_ | refine AE.lp_exit ?_ | refine AE.lp_ret ?_ | refine AQ.done ?_ | refine AQ.s2b (by kernel_rfl) rfl rfl rfl rfl ?_ | refine AQ.mark (by kernel_rfl) rfl rfl rfl rfl rfl rfl rfl ?_ | refine AP.cond_true rfl rfl ?_ | refine AP.cond_false rfl rfl ?_ | (refine AP.region rfl (by kernel_rfl) ?_; simp only [go_sem, Nat.reduceAdd, reduceCtorEq]) | (refine vq_id ?_; simp only [go_sem, Nat.reduceAdd, reduceCtorEq]) | (refine ⟨by first | omega | (intros; simp_all; done) | (intros; simp_all; omega), ?_⟩; try simp only [go_sem, Nat.reduceAdd, reduceCtorEq]))
        refine AP.loop rfl (α := Nat) (fun e => [(0, Sv t), (5, .ob 0 0), (7, .os 1 2 0 out.length), (8, Iv k), (9, Iv e)]) (fun _ => [(1, .vec 29 2 (tokRows out)), (0, .vec 47 1 tabRows)]) (fun e => k ≤ e ∧ e ≤ t.length ∧ ∀ b ∈ (t.drop k).take (e - k), sp b = false) (fun e => t.length - e) k ⟨by omega, hk, by simp⟩ (Sub.cons rfl (Sub.cons rfl (Sub.cons rfl (Sub.cons rfl (Sub.cons rfl (Sub.nil _)))))) (by rfl) fun e he => ?_
        obtain ⟨hke, he, hwd⟩ := he
        have hw2 := wr (x := (e : Int) + 1) (by omega)
        have hb2 := (t.getD e 0).toNat_lt
        repeat (first | refine AP.seq rfl ?_ | refine AE.seq ?_ | refine AP.block rfl ?_ | refine AP.scope rfl ?_ | refine AP.label rfl ?_ | refine AE.sc ?_ | refine AE.sc_exit ?_ | refine AE.sc_ret ?_ | refine AP.skip rfl ?_ | refine AP.ret rfl ?_ | refine AP.exit rfl ?_ | refine AE.seq_exit ?_ | refine AE.seq_ret ?_ | refine AE.blk ?_ | refine AE.blk_exit ?_ | refine AE.blk_exit_ne rfl ?_ | refine AE.blk_ret ?_ | refine AE.lp_exit ?_ | refine AE.lp_ret ?_ | refine AQ.done ?_ | refine AQ.s2b (by kernel_rfl) rfl rfl rfl rfl ?_ | refine AQ.mark (by kernel_rfl) rfl rfl rfl rfl rfl rfl rfl ?_ | refine AP.cond_true rfl rfl ?_ | refine AP.cond_false rfl rfl ?_ | (refine AP.region rfl (by kernel_rfl) ?_; simp only [go_sem, Nat.reduceAdd, reduceCtorEq, hw2]) | (refine vq_id ?_; simp only [go_sem, Nat.reduceAdd, reduceCtorEq, hw2]) | (refine ⟨by first | omega | (intros; simp_all; done) | (intros; simp_all; omega), ?_⟩; try simp only [go_sem, Nat.reduceAdd, reduceCtorEq, hw2]))
        refine AP.cond rfl rfl (fun h3 => ?_) (fun h3 => ?_)
        · simp only [Bool.and_eq_true, decide_eq_true_eq] at h3
          have he' : e < t.length := by omega
          repeat (first | refine AP.seq rfl ?_ | refine AE.seq ?_ | refine AP.block rfl ?_ | refine AP.scope rfl ?_ | refine AP.label rfl ?_ | refine AE.sc ?_ | refine AE.sc_exit ?_ | refine AE.sc_ret ?_ | refine AP.skip rfl ?_ | refine AP.ret rfl ?_ | refine AP.exit rfl ?_ | refine AE.seq_exit ?_ | refine AE.seq_ret ?_ | refine AE.blk ?_ | refine AE.blk_exit ?_ | refine AE.blk_exit_ne rfl ?_ | refine AE.blk_ret ?_ | refine AE.lp_exit ?_ | refine AE.lp_ret ?_ | refine AQ.done ?_ | refine AQ.s2b (by kernel_rfl) rfl rfl rfl rfl ?_ | refine AQ.mark (by kernel_rfl) rfl rfl rfl rfl rfl rfl rfl ?_ | refine AP.cond_true rfl rfl ?_ | refine AP.cond_false rfl rfl ?_ | (refine AP.region rfl (by kernel_rfl) ?_; simp only [go_sem, Nat.reduceAdd, reduceCtorEq, hw2]) | (refine vq_id ?_; simp only [go_sem, Nat.reduceAdd, reduceCtorEq, hw2]) | (refine ⟨by first | omega | (intros; simp_all; done) | (intros; simp_all; omega), ?_⟩; try simp only [go_sem, Nat.reduceAdd, reduceCtorEq, hw2]))
          refine AE.round (e + 1) ⟨by omega, by omega, ?_⟩ (by omega) (Sub.cons rfl (Sub.cons rfl (Sub.cons rfl (Sub.cons rfl (Sub.cons rfl (Sub.nil _)))))) rfl
          exact word_step t k e hke he' hwd (by simpa [sp] using h3.2)
        · repeat (first | refine AP.seq rfl ?_ | refine AE.seq ?_ | refine AP.block rfl ?_ | refine AP.scope rfl ?_ | refine AP.label rfl ?_ | refine AE.sc ?_ | refine AE.sc_exit ?_ | refine AE.sc_ret ?_ | refine AP.skip rfl ?_ | refine AP.ret rfl ?_ | refine AP.exit rfl ?_ | refine AE.seq_exit ?_ | refine AE.seq_ret ?_ | refine AE.blk ?_ | refine AE.blk_exit ?_ | refine AE.blk_exit_ne rfl ?_ | refine AE.blk_ret ?_ | refine AE.lp_exit ?_ | refine AE.lp_ret ?_ | refine AQ.done ?_ | refine AQ.s2b (by kernel_rfl) rfl rfl rfl rfl ?_ | refine AQ.mark (by kernel_rfl) rfl rfl rfl rfl rfl rfl rfl ?_ | refine AP.cond_true rfl rfl ?_ | refine AP.cond_false rfl rfl ?_ | (refine AP.region rfl (by kernel_rfl) ?_; simp only [go_sem, Nat.reduceAdd, reduceCtorEq, hw2]) | (refine vq_id ?_; simp only [go_sem, Nat.reduceAdd, reduceCtorEq, hw2]) | (refine ⟨by first | omega | (intros; simp_all; done) | (intros; simp_all; omega), ?_⟩; try simp only [go_sem, Nat.reduceAdd, reduceCtorEq, hw2]))
          refine AQ.fn (by kernel_rfl) rfl rfl rfl (clone_spec _ (by rw [BA_size, List.length_take, List.length_drop]; omega)) rfl ?_
          repeat (first | refine AP.seq rfl ?_ | refine AE.seq ?_ | refine AP.block rfl ?_ | refine AP.scope rfl ?_ | refine AP.label rfl ?_ | refine AE.sc ?_ | refine AE.sc_exit ?_ | refine AE.sc_ret ?_ | refine AP.skip rfl ?_ | refine AP.ret rfl ?_ | refine AP.exit rfl ?_ | refine AE.seq_exit ?_ | refine AE.seq_ret ?_ | refine AE.blk ?_ | refine AE.blk_exit ?_ | refine AE.blk_exit_ne rfl ?_ | refine AE.blk_ret ?_ | refine AE.lp_exit ?_ | refine AE.lp_ret ?_ | refine AQ.done ?_ | refine AQ.s2b (by kernel_rfl) rfl rfl rfl rfl ?_ | refine AQ.mark (by kernel_rfl) rfl rfl rfl rfl rfl rfl rfl ?_ | refine AP.cond_true rfl rfl ?_ | refine AP.cond_false rfl rfl ?_ | (refine AP.region rfl (by kernel_rfl) ?_; simp only [go_sem, Nat.reduceAdd, reduceCtorEq, hw2]) | (refine vq_id ?_; simp only [go_sem, Nat.reduceAdd, reduceCtorEq, hw2]) | (refine ⟨by first | omega | (intros; simp_all; done) | (intros; simp_all; omega), ?_⟩; try simp only [go_sem, Nat.reduceAdd, reduceCtorEq, hw2]))
          have hlt : k < e := by
            rcases Nat.lt_or_ge k e with h | h
            · exact h
            · have : e = k := by omega
              subst this
              simp only [Bool.and_eq_false_iff, decide_eq_false_iff_not, bne_eq_false_iff_eq] at h3
              rcases h3 with h3 | h3
              · omega
              · have : sp (t.getD e 0) = true := by unfold sp; rw [h3]; rfl
                rw [this] at hsp; cases hsp
          refine AQ.append (hnb := rfl) (rows := tokRows out) (xs := tokRows [((t.drop k).take (e - k), k)]) (es := 1) (by kernel_rfl) rfl rfl rfl rfl Try.tk24 Try.sz29 (by rw [Try.zr29]; rfl) Try.by29 (tokRows_len out).symm (by simp only [tokRows_len, List.length_cons, List.length_nil]; omega) (by simp only [tokRows_len, List.length_cons, List.length_nil]; omega) ?_
          repeat (first | refine AP.seq rfl ?_ | refine AE.seq ?_ | refine AP.block rfl ?_ | refine AP.scope rfl ?_ | refine AP.label rfl ?_ | refine AE.sc ?_ | refine AE.sc_exit ?_ | refine AE.sc_ret ?_ | refine AP.skip rfl ?_ | refine AP.ret rfl ?_ | refine AP.exit rfl ?_ | refine AE.seq_exit ?_ | refine AE.seq_ret ?_ | refine AE.blk ?_ | refine AE.blk_exit ?_ | refine AE.blk_exit_ne rfl ?_ | refine AE.blk_ret ?_ | refine AE.lp_exit ?_ | refine AE.lp_ret ?_ | refine AQ.done ?_ | refine AQ.s2b (by kernel_rfl) rfl rfl rfl rfl ?_ | refine AQ.mark (by kernel_rfl) rfl rfl rfl rfl rfl rfl rfl ?_ | refine AP.cond_true rfl rfl ?_ | refine AP.cond_false rfl rfl ?_ | (refine AP.region rfl (by kernel_rfl) ?_; simp only [go_sem, Nat.reduceAdd, reduceCtorEq]) | (refine vq_id ?_; simp only [go_sem, Nat.reduceAdd, reduceCtorEq]) | (refine ⟨by first | omega | (intros; simp_all; done) | (intros; simp_all; omega), ?_⟩; try simp only [go_sem, Nat.reduceAdd, reduceCtorEq]))
          refine AE.round (e, out ++ [((t.drop k).take (e - k), k)]) ⟨he, ?_, ?_⟩ (by simp only; omega) (Sub.cons rfl (Sub.cons rfl (Sub.cons ?_ (Sub.cons rfl (Sub.nil _))))) ?_
          · simp only [List.length_append, List.length_cons, List.length_nil]; omega
          · have hd : t.drop k = (t.drop k).take (e - k) ++ t.drop e := by
              conv => lhs; rw [← List.take_append_drop (e - k) (t.drop k)]
              rw [List.drop_drop, show k + (e - k) = e by omega]
            have hl : ((t.drop k).take (e - k)).length = e - k := by rw [List.length_take, List.length_drop]; omega
            rw [htk, List.append_assoc]
            congr 1
            conv => lhs; rw [hd]
            rw [toks_word _ _ _ (fun h => by rw [h] at hl; simp at hl; omega) hwd (fun c l' hcl => ?_), hl, show k + (e - k) = e by omega]
            · rfl
            · have he' : e < t.length := by
                rcases Nat.lt_or_ge e t.length with h | h
                · exact h
                · rw [List.drop_of_length_le h] at hcl; cases hcl
              rw [drop_cons t e he'] at hcl
              injection hcl with hcl _
              subst hcl
              simp only [Bool.and_eq_false_iff, decide_eq_false_iff_not, bne_eq_false_iff_eq] at h3
              rcases h3 with h3 | h3
              · omega
              · unfold sp; rw [h3]; rfl
          · simp only [List.length_append, List.length_cons, List.length_nil]; rfl
          · simp only [tokRows, List.map_append]
end Go.Proofs.Ytilbfhldohibhaa
end

section
namespace Go.Proofs.Ytilbfhldohibhaa
open Go Go.AL Go.RowKit
set_option maxRecDepth 10000
set_option maxHeartbeats 4000000
def pr (b : UInt8) : Bool := !(cls b.toNat == 0) && !(sp b)
theorem byte_all {p : Nat → Bool} (h : (List.range 256).all p = true) (b : UInt8) : p b.toNat = true := by
  rw [List.all_eq_true] at h
  exact h _ (List.mem_range.2 b.toNat_lt)
theorem sp_eq (b : UInt8) : sp b = ((b.toNat : Int) == 32 || (b.toNat : Int) == 9 || (b.toNat : Int) == 13 || (b.toNat : Int) == 10 || (b.toNat : Int) == 12) := by
  have := byte_all (p := fun n => (cls n == 1) == ((n : Int) == 32 || (n : Int) == 9 || (n : Int) == 13 || (n : Int) == 10 || (n : Int) == 12)) (by decide +kernel) b
  rw [beq_iff_eq] at this
  exact this
theorem pr_eq (b : UInt8) : pr b = (decide (33 ≤ (b.toNat : Int)) && decide ((b.toNat : Int) ≤ 126)) := by
  have := byte_all (p := fun n => (!(cls n == 0) && !(cls n == 1)) == (decide (33 ≤ (n : Int)) && decide ((n : Int) ≤ 126))) (by decide +kernel) b
  rw [beq_iff_eq] at this
  exact this
theorem space_spec (b : UInt8) : PFn Try.prog 37 [.im (.v (.int .u8 b.toNat))] (Bv (sp b)) := by
  refine ACall.walk [0, 2] [] Try.func37 rfl Try.ntmps37 (by kernel_rfl) (by rfl) rfl fun w own I0 φ0 => ?_
  repeat (first | refine AP.seq rfl ?_ | refine AE.seq ?_ | refine AP.block rfl ?_ | refine AP.scope rfl ?_ | refine AP.label rfl ?_ | refine AE.sc ?_ | refine AE.sc_exit ?_ | refine AE.sc_ret ?_ | refine AP.skip rfl ?_ | refine AP.ret rfl ?_ | refine AP.exit rfl ?_ | refine AE.seq_exit ?_ | refine AE.seq_ret ?_ | refine AE.blk ?_ | refine AE.blk_exit ?_ | refine AE.blk_exit_ne rfl ?_ | refine AE.blk_ret ?_ | refine AE.lp_exit ?_ | refine AE.lp_ret ?_ | refine AQ.done ?_ | refine AQ.s2b (by kernel_rfl) rfl rfl rfl rfl ?_ | refine AQ.mark (by kernel_rfl) rfl rfl rfl rfl rfl rfl rfl ?_ | refine AP.cond_true rfl rfl ?_ | refine AP.cond_false rfl rfl ?_ | (refine AP.region rfl (by kernel_rfl) ?_; simp only [go_sem, Nat.reduceAdd, reduceCtorEq]) | (refine vq_id ?_; simp only [go_sem, Nat.reduceAdd, reduceCtorEq]) | (refine ⟨by first | omega | (intros; simp_all; done) | (intros; simp_all; omega), ?_⟩; try simp only [go_sem, Nat.reduceAdd, reduceCtorEq]))
  refine AE.ret rfl ⟨rfl, trivial⟩ ⟨rfl, ?_⟩
  rw [sp_eq]; rfl
theorem printable_spec (b : UInt8) : PFn Try.prog 38 [.im (.v (.int .u8 b.toNat))] (Bv (pr b)) := by
  refine ACall.walk [0, 2] [] Try.func38 rfl Try.ntmps38 (by kernel_rfl) (by rfl) rfl fun w own I0 φ0 => ?_
  repeat (first | refine AP.seq rfl ?_ | refine AE.seq ?_ | refine AP.block rfl ?_ | refine AP.scope rfl ?_ | refine AP.label rfl ?_ | refine AE.sc ?_ | refine AE.sc_exit ?_ | refine AE.sc_ret ?_ | refine AP.skip rfl ?_ | refine AP.ret rfl ?_ | refine AP.exit rfl ?_ | refine AE.seq_exit ?_ | refine AE.seq_ret ?_ | refine AE.blk ?_ | refine AE.blk_exit ?_ | refine AE.blk_exit_ne rfl ?_ | refine AE.blk_ret ?_ | refine AE.lp_exit ?_ | refine AE.lp_ret ?_ | refine AQ.done ?_ | refine AQ.s2b (by kernel_rfl) rfl rfl rfl rfl ?_ | refine AQ.mark (by kernel_rfl) rfl rfl rfl rfl rfl rfl rfl ?_ | refine AP.cond_true rfl rfl ?_ | refine AP.cond_false rfl rfl ?_ | (refine AP.region rfl (by kernel_rfl) ?_; simp only [go_sem, Nat.reduceAdd, reduceCtorEq]) | (refine vq_id ?_; simp only [go_sem, Nat.reduceAdd, reduceCtorEq]) | (refine ⟨by first | omega | (intros; simp_all; done) | (intros; simp_all; omega), ?_⟩; try simp only [go_sem, Nat.reduceAdd, reduceCtorEq]))
  refine AE.ret rfl ⟨rfl, trivial⟩ ⟨rfl, ?_⟩
  rw [pr_eq]; rfl
theorem bad_eq (b : UInt8) : (!(sp b) && !(pr b)) = (cls b.toNat == 0) := by
  have := byte_all (p := fun n => (!(cls n == 1) && !(!(cls n == 0) && !(cls n == 1))) == (cls n == 0)) (by decide +kernel) b
  rw [beq_iff_eq] at this
  exact this
theorem pr_sp {b : UInt8} (h : pr b = true) : sp b = false := by
  unfold pr at h
  simp only [Bool.and_eq_true, Bool.not_eq_true'] at h
  exact h.2
theorem ok_pr {t : List UInt8} (h : okT t = true) (k : Nat) (hk : k < t.length) (hs : sp (t.getD k 0) = false) : pr (t.getD k 0) = true := by
  unfold okT at h
  rw [List.all_eq_true] at h
  have h2 := h (t.getD k 0) (by rw [List.getD_eq_getElem?_getD, List.getElem?_eq_getElem hk]; simp)
  unfold pr
  rw [h2, hs]; rfl
theorem tok_step (t : List UInt8) (k e : Nat) (out : List Tok) (hlt : k < e) (he : e ≤ t.length) (hwd : ∀ b ∈ (t.drop k).take (e - k), sp b = false) (hend : e < t.length → sp (t.getD e 0) = true)
    (htk : toks t 0 = out ++ toks (t.drop k) k) : toks t 0 = (out ++ [((t.drop k).take (e - k), k)]) ++ toks (t.drop e) e := by
  have hd : t.drop k = (t.drop k).take (e - k) ++ t.drop e := by
    conv => lhs; rw [← List.take_append_drop (e - k) (t.drop k)]
    rw [List.drop_drop, show k + (e - k) = e by omega]
  have hl : ((t.drop k).take (e - k)).length = e - k := by rw [List.length_take, List.length_drop]; omega
  rw [htk, List.append_assoc]
  congr 1
  conv => lhs; rw [hd]
  rw [toks_word _ _ _ (fun h => by rw [h] at hl; simp at hl; omega) hwd (fun c l' hcl => ?_), hl, show k + (e - k) = e by omega]
  · rfl
  · have he' : e < t.length := by
      rcases Nat.lt_or_ge e t.length with h | h
      · exact h
      · rw [List.drop_of_length_le h] at hcl; cases hcl
    rw [drop_cons t e he'] at hcl
    injection hcl with hcl _
    subst hcl
    exact hend he'
theorem scan_ref (t : List UInt8) (ht : t.length ≤ 7000) : PFn Try.prog 14 [Sv t] (scanOf t) := by
  refine ACall.walk [0, 2, 3, 4, 5, 6, 7, 8, 11, 15, 29, 35, 39, 52, 57] [] Try.func14 rfl Try.ntmps14 (by kernel_rfl) (by rfl) rfl fun w own I0 φ0 => ?_
  repeat (first | refine AP.seq rfl ?_ | refine AE.seq ?_ | refine AP.block rfl ?_ | refine AP.scope rfl ?_ | refine AP.label rfl ?_ | refine AE.sc ?_ | refine AE.sc_exit ?_ | refine AE.sc_ret ?_ | refine AP.skip rfl ?_ | refine AP.ret rfl ?_ | refine AP.exit rfl ?_ | refine AE.seq_exit ?_ | refine AE.seq_ret ?_ | refine AE.blk ?_ | refine AE.blk_exit ?_ | refine AE.blk_exit_ne rfl ?_ | refine AE.blk_ret ?_ | refine AE.lp_exit ?_ | refine AE.lp_ret ?_ | refine AQ.done ?_ | refine AQ.s2b (by kernel_rfl) rfl rfl rfl rfl ?_ | refine AQ.mark (by kernel_rfl) rfl rfl rfl rfl rfl rfl rfl ?_ | refine AP.cond_true rfl rfl ?_ | refine AP.cond_false rfl rfl ?_ | (refine AP.region rfl (by kernel_rfl) ?_; simp only [go_sem, Nat.reduceAdd, reduceCtorEq]) | (refine vq_id ?_; simp only [go_sem, Nat.reduceAdd, reduceCtorEq]) | (refine ⟨by first | omega | (intros; simp_all; done) | (intros; simp_all; omega), ?_⟩; try simp only [go_sem, Nat.reduceAdd, reduceCtorEq]))
  have h1 : ¬ ((40000 : Int) < t.length) := by omega
  refine AP.cond_false rfl (by rw [← decide_eq_false h1]; rfl) ?_
  repeat (first | refine AP.seq rfl ?_ | refine AE.seq ?_ | refine AP.block rfl ?_ | refine AP.scope rfl ?_ | refine AP.label rfl ?_ | refine AE.sc ?_ | refine AE.sc_exit ?_ | refine AE.sc_ret ?_ | refine AP.skip rfl ?_ | refine AP.ret rfl ?_ | refine AP.exit rfl ?_ | refine AE.seq_exit ?_ | refine AE.seq_ret ?_ | refine AE.blk ?_ | refine AE.blk_exit ?_ | refine AE.blk_exit_ne rfl ?_ | refine AE.blk_ret ?_ | refine AE.lp_exit ?_ | refine AE.lp_ret ?_ | refine AQ.done ?_ | refine AQ.s2b (by kernel_rfl) rfl rfl rfl rfl ?_ | refine AQ.mark (by kernel_rfl) rfl rfl rfl rfl rfl rfl rfl ?_ | refine AP.cond_true rfl rfl ?_ | refine AP.cond_false rfl rfl ?_ | (refine AP.region rfl (by kernel_rfl) ?_; simp only [go_sem, Nat.reduceAdd, reduceCtorEq]) | (refine vq_id ?_; simp only [go_sem, Nat.reduceAdd, reduceCtorEq]) | (refine ⟨by first | omega | (intros; simp_all; done) | (intros; simp_all; omega), ?_⟩; try simp only [go_sem, Nat.reduceAdd, reduceCtorEq]))
  refine AP.loop rfl (α := Nat) (fun k => [(0, Sv t), (5, Iv k)]) (fun k => []) (fun k => k ≤ t.length ∧ ((t.take k).all fun b => !(cls b.toNat == 0)) = true) (fun k => t.length - k) 0 (by simp) (Sub.cons rfl (Sub.cons rfl (Sub.nil _))) (by simp) fun k hk => ?_
  obtain ⟨hk, hx⟩ := hk
  have hw := wr (x := (k : Int) + 1) (by omega)
  repeat (first | refine AP.seq rfl ?_ | refine AE.seq ?_ | refine AP.block rfl ?_ | refine AP.scope rfl ?_ | refine AP.label rfl ?_ | refine AE.sc ?_ | refine AE.sc_exit ?_ | refine AE.sc_ret ?_ | refine AP.skip rfl ?_ | refine AP.ret rfl ?_ | refine AP.exit rfl ?_ | refine AE.seq_exit ?_ | refine AE.seq_ret ?_ | refine AE.blk ?_ | refine AE.blk_exit ?_ | refine AE.blk_exit_ne rfl ?_ | refine AE.blk_ret ?_ | refine AE.lp_exit ?_ | refine AE.lp_ret ?_ | refine AQ.done ?_ | refine AQ.s2b (by kernel_rfl) rfl rfl rfl rfl ?_ | refine AQ.mark (by kernel_rfl) rfl rfl rfl rfl rfl rfl rfl ?_ | refine AP.cond_true rfl rfl ?_ | refine AP.cond_false rfl rfl ?_ | (refine AP.region rfl (by kernel_rfl) ?_; simp only [go_sem, Nat.reduceAdd, reduceCtorEq, hw]) | (refine vq_id ?_; simp only [go_sem, Nat.reduceAdd, reduceCtorEq, hw]) | (refine ⟨by first | omega | (intros; simp_all; done) | (intros; simp_all; omega), ?_⟩; try simp only [go_sem, Nat.reduceAdd, reduceCtorEq, hw]))
  refine AP.cond rfl rfl (fun hc => ?_) (fun hc => ?_)
  · have hk' : k < t.length := by simp at hc; omega
    repeat (first | refine AP.seq rfl ?_ | refine AE.seq ?_ | refine AP.block rfl ?_ | refine AP.scope rfl ?_ | refine AP.label rfl ?_ | refine AE.sc ?_ | refine AE.sc_exit ?_ | refine AE.sc_ret ?_ | refine AP.skip rfl ?_ | refine AP.ret rfl ?_ | refine AP.exit rfl ?_ | refine AE.seq_exit ?_ | refine AE.seq_ret ?_ | refine AE.blk ?_ | refine AE.blk_exit ?_ | refine AE.blk_exit_ne rfl ?_ | refine AE.blk_ret ?_ | refine AE.lp_exit ?_ | refine AE.lp_ret ?_ | refine AQ.done ?_ | refine AQ.s2b (by kernel_rfl) rfl rfl rfl rfl ?_ | refine AQ.mark (by kernel_rfl) rfl rfl rfl rfl rfl rfl rfl ?_ | refine AP.cond_true rfl rfl ?_ | refine AP.cond_false rfl rfl ?_ | (refine AP.region rfl (by kernel_rfl) ?_; simp only [go_sem, Nat.reduceAdd, reduceCtorEq, hw]) | (refine vq_id ?_; simp only [go_sem, Nat.reduceAdd, reduceCtorEq, hw]) | (refine ⟨by first | omega | (intros; simp_all; done) | (intros; simp_all; omega), ?_⟩; try simp only [go_sem, Nat.reduceAdd, reduceCtorEq, hw]))
    refine AQ.fn (by kernel_rfl) rfl rfl rfl (space_spec (t.getD k 0)) rfl ?_
    repeat (first | refine AP.seq rfl ?_ | refine AE.seq ?_ | refine AP.block rfl ?_ | refine AP.scope rfl ?_ | refine AP.label rfl ?_ | refine AE.sc ?_ | refine AE.sc_exit ?_ | refine AE.sc_ret ?_ | refine AP.skip rfl ?_ | refine AP.ret rfl ?_ | refine AP.exit rfl ?_ | refine AE.seq_exit ?_ | refine AE.seq_ret ?_ | refine AE.blk ?_ | refine AE.blk_exit ?_ | refine AE.blk_exit_ne rfl ?_ | refine AE.blk_ret ?_ | refine AE.lp_exit ?_ | refine AE.lp_ret ?_ | refine AQ.done ?_ | refine AQ.s2b (by kernel_rfl) rfl rfl rfl rfl ?_ | refine AQ.mark (by kernel_rfl) rfl rfl rfl rfl rfl rfl rfl ?_ | refine AP.cond_true rfl rfl ?_ | refine AP.cond_false rfl rfl ?_ | (refine AP.region rfl (by kernel_rfl) ?_; simp only [go_sem, Nat.reduceAdd, reduceCtorEq, hw]) | (refine vq_id ?_; simp only [go_sem, Nat.reduceAdd, reduceCtorEq, hw]) | (refine ⟨by first | omega | (intros; simp_all; done) | (intros; simp_all; omega), ?_⟩; try simp only [go_sem, Nat.reduceAdd, reduceCtorEq, hw]))
    refine AQ.fn_g (by kernel_rfl) rfl rfl (fun h => by simpa [gs, AV.g, bw] using h) rfl (fun _ => printable_spec (t.getD k 0)) rfl ?_
    repeat (first | refine AP.seq rfl ?_ | refine AE.seq ?_ | refine AP.block rfl ?_ | refine AP.scope rfl ?_ | refine AP.label rfl ?_ | refine AE.sc ?_ | refine AE.sc_exit ?_ | refine AE.sc_ret ?_ | refine AP.skip rfl ?_ | refine AP.ret rfl ?_ | refine AP.exit rfl ?_ | refine AE.seq_exit ?_ | refine AE.seq_ret ?_ | refine AE.blk ?_ | refine AE.blk_exit ?_ | refine AE.blk_exit_ne rfl ?_ | refine AE.blk_ret ?_ | refine AE.lp_exit ?_ | refine AE.lp_ret ?_ | refine AQ.done ?_ | refine AQ.s2b (by kernel_rfl) rfl rfl rfl rfl ?_ | refine AQ.mark (by kernel_rfl) rfl rfl rfl rfl rfl rfl rfl ?_ | refine AP.cond_true rfl rfl ?_ | refine AP.cond_false rfl rfl ?_ | (refine AP.region rfl (by kernel_rfl) ?_; simp only [go_sem, Nat.reduceAdd, reduceCtorEq, hw, bad_eq]) | (refine vq_id ?_; simp only [go_sem, Nat.reduceAdd, reduceCtorEq, hw, bad_eq]) | (refine ⟨by first | omega | (intros; simp_all; done) | (intros; simp_all; omega), ?_⟩; try simp only [go_sem, Nat.reduceAdd, reduceCtorEq, hw, bad_eq]))
    refine AP.cond rfl rfl (fun h2 => ?_) (fun h2 => ?_)
    · repeat (first | refine AP.seq rfl ?_ | refine AE.seq ?_ | refine AP.block rfl ?_ | refine AP.scope rfl ?_ | refine AP.label rfl ?_ | refine AE.sc ?_ | refine AE.sc_exit ?_ | refine AE.sc_ret ?_ | refine AP.skip rfl ?_ | refine AP.ret rfl ?_ | refine AP.exit rfl ?_ | refine AE.seq_exit ?_ | refine AE.seq_ret ?_ | refine AE.blk ?_ | refine AE.blk_exit ?_ | refine AE.blk_exit_ne rfl ?_ | refine AE.blk_ret ?_ | refine AE.lp_exit ?_ | refine AE.lp_ret ?_ | refine AQ.done ?_ | refine AQ.s2b (by kernel_rfl) rfl rfl rfl rfl ?_ | refine AQ.mark (by kernel_rfl) rfl rfl rfl rfl rfl rfl rfl ?_ | refine AP.cond_true rfl rfl ?_ | refine AP.cond_false rfl rfl ?_ | (refine AP.region rfl (by kernel_rfl) ?_; simp only [go_sem, Nat.reduceAdd, reduceCtorEq, hw]) | (refine vq_id ?_; simp only [go_sem, Nat.reduceAdd, reduceCtorEq, hw]) | (refine ⟨by first | omega | (intros; simp_all; done) | (intros; simp_all; omega), ?_⟩; try simp only [go_sem, Nat.reduceAdd, reduceCtorEq, hw]))
      refine AE.nilsl 2 2 rfl ?_
      refine AE.ret0 rfl ⟨rfl, rfl, rfl, trivial⟩ rfl ⟨rfl, ?_⟩
      have : okT t = false := all_no t _ k hk' (by rw [h2]; rfl)
      rw [scanOf, this, bad_at t k hk' hx h2]; rfl
    · repeat (first | refine AP.seq rfl ?_ | refine AE.seq ?_ | refine AP.block rfl ?_ | refine AP.scope rfl ?_ | refine AP.label rfl ?_ | refine AE.sc ?_ | refine AE.sc_exit ?_ | refine AE.sc_ret ?_ | refine AP.skip rfl ?_ | refine AP.ret rfl ?_ | refine AP.exit rfl ?_ | refine AE.seq_exit ?_ | refine AE.seq_ret ?_ | refine AE.blk ?_ | refine AE.blk_exit ?_ | refine AE.blk_exit_ne rfl ?_ | refine AE.blk_ret ?_ | refine AE.lp_exit ?_ | refine AE.lp_ret ?_ | refine AQ.done ?_ | refine AQ.s2b (by kernel_rfl) rfl rfl rfl rfl ?_ | refine AQ.mark (by kernel_rfl) rfl rfl rfl rfl rfl rfl rfl ?_ | refine AP.cond_true rfl rfl ?_ | refine AP.cond_false rfl rfl ?_ | (refine AP.region rfl (by kernel_rfl) ?_; simp only [go_sem, Nat.reduceAdd, reduceCtorEq, hw]) | (refine vq_id ?_; simp only [go_sem, Nat.reduceAdd, reduceCtorEq, hw]) | (refine ⟨by first | omega | (intros; simp_all; done) | (intros; simp_all; omega), ?_⟩; try simp only [go_sem, Nat.reduceAdd, reduceCtorEq, hw]))
      exact AE.round (k + 1) ⟨by omega, all_step t _ k hk' hx (by rw [h2]; rfl)⟩ (by omega) (Sub.cons rfl (Sub.cons rfl (Sub.nil _))) rfl
  · have hk' : k = t.length := by simp at hc; omega
    rw [hk', List.take_length] at hx
    repeat (first | refine AP.seq rfl ?_ | refine AE.seq ?_ | refine AP.block rfl ?_ | refine AP.scope rfl ?_ | refine AP.label rfl ?_ | refine AE.sc ?_ | refine AE.sc_exit ?_ | refine AE.sc_ret ?_ | refine AP.skip rfl ?_ | refine AP.ret rfl ?_ | refine AP.exit rfl ?_ | refine AE.seq_exit ?_ | refine AE.seq_ret ?_ | refine AE.blk ?_ | refine AE.blk_exit ?_ | refine AE.blk_exit_ne rfl ?_ | refine AE.blk_ret ?_ | refine AE.lp_exit ?_ | refine AE.lp_ret ?_ | refine AQ.done ?_ | refine AQ.s2b (by kernel_rfl) rfl rfl rfl rfl ?_ | refine AQ.mark (by kernel_rfl) rfl rfl rfl rfl rfl rfl rfl ?_ | refine AP.cond_true rfl rfl ?_ | refine AP.cond_false rfl rfl ?_ | (refine AP.region rfl (by kernel_rfl) ?_; simp only [go_sem, Nat.reduceAdd, reduceCtorEq, hw]) | (refine vq_id ?_; simp only [go_sem, Nat.reduceAdd, reduceCtorEq, hw]) | (refine ⟨by first | omega | (intros; simp_all; done) | (intros; simp_all; omega), ?_⟩; try simp only [go_sem, Nat.reduceAdd, reduceCtorEq, hw]))
    refine AP.loop rfl (α := Nat × List Tok) (fun p => [(0, Sv t), (6, .os 0 2 0 p.2.length), (7, Iv p.1)]) (fun p => [(0, .vec 29 2 (tokRows p.2))]) (fun p => p.1 ≤ t.length ∧ p.2.length ≤ p.1 ∧ toks t 0 = p.2 ++ toks (t.drop p.1) p.1) (fun p => t.length - p.1) (0, []) (by simp) (Sub.cons rfl (Sub.cons rfl (Sub.cons rfl (Sub.nil _)))) (by rfl) fun p hp => ?_
    obtain ⟨k, out⟩ := p
    obtain ⟨hk, hout, htk⟩ := hp
    simp only at hk hout htk
    have hw := wr (x := (k : Int) + 1) (by omega)
    have hb := (t.getD k 0).toNat_lt
    repeat (first | refine AP.seq rfl ?_ | refine AE.seq ?_ | refine AP.block rfl ?_ | refine AP.scope rfl ?_ | refine AP.label rfl ?_ | refine AE.sc ?_ | refine AE.sc_exit ?_ | refine AE.sc_ret ?_ | refine AP.skip rfl ?_ | refine AP.ret rfl ?_ | refine AP.exit rfl ?_ | refine AE.seq_exit ?_ | refine AE.seq_ret ?_ | refine AE.blk ?_ | refine AE.blk_exit ?_ | refine AE.blk_exit_ne rfl ?_ | refine AE.blk_ret ?_ | refine AE.lp_exit ?_ | refine AE.lp_ret ?_ | refine AQ.done ?_ | refine AQ.s2b (by kernel_rfl) rfl rfl rfl rfl ?_ | refine AQ.mark (by kernel_rfl) rfl rfl rfl rfl rfl rfl rfl ?_ | refine AP.cond_true rfl rfl ?_ | refine AP.cond_false rfl rfl ?_ | (refine AP.region rfl (by kernel_rfl) ?_; simp only [go_sem, Nat.reduceAdd, reduceCtorEq, hw]) | (refine vq_id ?_; simp only [go_sem, Nat.reduceAdd, reduceCtorEq, hw]) | (refine ⟨by first | omega | (intros; simp_all; done) | (intros; simp_all; omega), ?_⟩; try simp only [go_sem, Nat.reduceAdd, reduceCtorEq, hw]))
    refine AP.cond rfl rfl (fun hc => ?_) (fun hc => ?_)
    · have hk' : k < t.length := by simp at hc; omega
      repeat (first | refine AP.seq rfl ?_ | refine AE.seq ?_ | refine AP.block rfl ?_ | refine AP.scope rfl ?_ | refine AP.label rfl ?_ | refine AE.sc ?_ | refine AE.sc_exit ?_ | refine AE.sc_ret ?_ | refine AP.skip rfl ?_ | refine AP.ret rfl ?_ | refine AP.exit rfl ?_ | refine AE.seq_exit ?_ | refine AE.seq_ret ?_ | refine AE.blk ?_ | refine AE.blk_exit ?_ | refine AE.blk_exit_ne rfl ?_ | refine AE.blk_ret ?_ | refine AE.lp_exit ?_ | refine AE.lp_ret ?_ | refine AQ.done ?_ | refine AQ.s2b (by kernel_rfl) rfl rfl rfl rfl ?_ | refine AQ.mark (by kernel_rfl) rfl rfl rfl rfl rfl rfl rfl ?_ | refine AP.cond_true rfl rfl ?_ | refine AP.cond_false rfl rfl ?_ | (refine AP.region rfl (by kernel_rfl) ?_; simp only [go_sem, Nat.reduceAdd, reduceCtorEq, hw]) | (refine vq_id ?_; simp only [go_sem, Nat.reduceAdd, reduceCtorEq, hw]) | (refine ⟨by first | omega | (intros; simp_all; done) | (intros; simp_all; omega), ?_⟩; try simp only [go_sem, Nat.reduceAdd, reduceCtorEq, hw]))
      refine AQ.fn (by kernel_rfl) rfl rfl rfl (space_spec (t.getD k 0)) rfl ?_
      repeat (first | refine AP.seq rfl ?_ | refine AE.seq ?_ | refine AP.block rfl ?_ | refine AP.scope rfl ?_ | refine AP.label rfl ?_ | refine AE.sc ?_ | refine AE.sc_exit ?_ | refine AE.sc_ret ?_ | refine AP.skip rfl ?_ | refine AP.ret rfl ?_ | refine AP.exit rfl ?_ | refine AE.seq_exit ?_ | refine AE.seq_ret ?_ | refine AE.blk ?_ | refine AE.blk_exit ?_ | refine AE.blk_exit_ne rfl ?_ | refine AE.blk_ret ?_ | refine AE.lp_exit ?_ | refine AE.lp_ret ?_ | refine AQ.done ?_ | refine AQ.s2b (by kernel_rfl) rfl rfl rfl rfl ?_ | refine AQ.mark (by kernel_rfl) rfl rfl rfl rfl rfl rfl rfl ?_ | refine AP.cond_true rfl rfl ?_ | refine AP.cond_false rfl rfl ?_ | (refine AP.region rfl (by kernel_rfl) ?_; simp only [go_sem, Nat.reduceAdd, reduceCtorEq, hw]) | (refine vq_id ?_; simp only [go_sem, Nat.reduceAdd, reduceCtorEq, hw]) | (refine ⟨by first | omega | (intros; simp_all; done) | (intros; simp_all; omega), ?_⟩; try simp only [go_sem, Nat.reduceAdd, reduceCtorEq, hw]))
      refine AP.cond rfl rfl (fun h2 => ?_) (fun h2 => ?_)
      · repeat (first | refine AP.seq rfl ?_ | refine AE.seq ?_ | refine AP.block rfl ?_ | refine AP.scope rfl ?_ | refine AP.label rfl ?_ | refine AE.sc ?_ | refine AE.sc_exit ?_ | refine AE.sc_ret ?_ | refine AP.skip rfl ?_ | refine AP.ret rfl ?_ | refine AP.exit rfl ?_ | refine AE.seq_exit ?_ | refine AE.seq_ret ?_ | refine AE.blk ?_ | refine AE.blk_exit ?_ | refine AE.blk_exit_ne rfl ?_ | refine AE.blk_ret ?_ | refine AE.lp_exit ?_ | refine AE.lp_ret ?_ | refine AQ.done ?_ | refine AQ.s2b (by kernel_rfl) rfl rfl rfl rfl ?_ | refine AQ.mark (by kernel_rfl) rfl rfl rfl rfl rfl rfl rfl ?_ | refine AP.cond_true rfl rfl ?_ | refine AP.cond_false rfl rfl ?_ | (refine AP.region rfl (by kernel_rfl) ?_; simp only [go_sem, Nat.reduceAdd, reduceCtorEq, hw]) | (refine vq_id ?_; simp only [go_sem, Nat.reduceAdd, reduceCtorEq, hw]) | (refine ⟨by first | omega | (intros; simp_all; done) | (intros; simp_all; omega), ?_⟩; try simp only [go_sem, Nat.reduceAdd, reduceCtorEq, hw]))
        refine AE.round (k + 1, out) ⟨by simp only; omega, by simp only; omega, ?_⟩ (by simp only; omega) (Sub.cons rfl (Sub.cons rfl (Sub.cons rfl (Sub.nil _)))) rfl
        rw [htk, drop_cons t k hk', toks_sp h2]
      · repeat (first | refine AP.seq rfl ?_ | refine AE.seq ?_ | refine AP.block rfl ?_ | refine AP.scope rfl ?_ | refine AP.label rfl ?_ | refine AE.sc ?_ | refine AE.sc_exit ?_ | refine AE.sc_ret ?_ | refine AP.skip rfl ?_ | refine AP.ret rfl ?_ | refine AP.exit rfl ?_ | refine AE.seq_exit ?_ | refine AE.seq_ret ?_ | refine AE.blk ?_ | refine AE.blk_exit ?_ | refine AE.blk_exit_ne rfl ?_ | refine AE.blk_ret ?_ | refine AE.lp_exit ?_ | refine AE.lp_ret ?_ | refine AQ.done ?_ | refine AQ.s2b (by kernel_rfl) rfl rfl rfl rfl ?_ | refine AQ.mark (by kernel_rfl) rfl rfl rfl rfl rfl rfl rfl ?_ | refine AP.cond_true rfl rfl ?_ | refine AP.cond_false rfl rfl ?_ | (refine AP.region rfl (by kernel_rfl) ?_; simp only [go_sem, Nat.reduceAdd, reduceCtorEq, hw]) | (refine vq_id ?_; simp only [go_sem, Nat.reduceAdd, reduceCtorEq, hw]) | (refine ⟨by first | omega | (intros; simp_all; done) | (intros; simp_all; omega), ?_⟩; try simp only [go_sem, Nat.reduceAdd, reduceCtorEq, hw]))
        refine AP.loop rfl (α := Nat) (fun e => [(0, Sv t), (6, .os 0 2 0 out.length), (7, Iv k), (8, Iv e)]) (fun _ => [(0, .vec 29 2 (tokRows out))]) (fun e => k ≤ e ∧ e ≤ t.length ∧ ∀ b ∈ (t.drop k).take (e - k), sp b = false) (fun e => t.length - e) k ⟨by omega, hk, by simp⟩ (Sub.cons rfl (Sub.cons rfl (Sub.cons rfl (Sub.cons rfl (Sub.nil _))))) (by rfl) fun e he => ?_
        obtain ⟨hke, he, hwd⟩ := he
        have hw2 := wr (x := (e : Int) + 1) (by omega)
        have hb2 := (t.getD e 0).toNat_lt
        repeat (first | refine AP.seq rfl ?_ | refine AE.seq ?_ | refine AP.block rfl ?_ | refine AP.scope rfl ?_ | refine AP.label rfl ?_ | refine AE.sc ?_ | refine AE.sc_exit ?_ | refine AE.sc_ret ?_ | refine AP.skip rfl ?_ | refine AP.ret rfl ?_ | refine AP.exit rfl ?_ | refine AE.seq_exit ?_ | refine AE.seq_ret ?_ | refine AE.blk ?_ | refine AE.blk_exit ?_ | refine AE.blk_exit_ne rfl ?_ | refine AE.blk_ret ?_ | refine AE.lp_exit ?_ | refine AE.lp_ret ?_ | refine AQ.done ?_ | refine AQ.s2b (by kernel_rfl) rfl rfl rfl rfl ?_ | refine AQ.mark (by kernel_rfl) rfl rfl rfl rfl rfl rfl rfl ?_ | refine AP.cond_true rfl rfl ?_ | refine AP.cond_false rfl rfl ?_ | (refine AP.region rfl (by kernel_rfl) ?_; simp only [go_sem, Nat.reduceAdd, reduceCtorEq, hw2]) | (refine vq_id ?_; simp only [go_sem, Nat.reduceAdd, reduceCtorEq, hw2]) | (refine ⟨by first | omega | (intros; simp_all; done) | (intros; simp_all; omega), ?_⟩; try simp only [go_sem, Nat.reduceAdd, reduceCtorEq, hw2]))
        refine AQ.fn_g (by kernel_rfl) rfl rfl (fun h => by simpa [gs, AV.g, bw] using h) rfl (fun _ => printable_spec (t.getD e 0)) rfl ?_
        repeat (first | refine AP.seq rfl ?_ | refine AE.seq ?_ | refine AP.block rfl ?_ | refine AP.scope rfl ?_ | refine AP.label rfl ?_ | refine AE.sc ?_ | refine AE.sc_exit ?_ | refine AE.sc_ret ?_ | refine AP.skip rfl ?_ | refine AP.ret rfl ?_ | refine AP.exit rfl ?_ | refine AE.seq_exit ?_ | refine AE.seq_ret ?_ | refine AE.blk ?_ | refine AE.blk_exit ?_ | refine AE.blk_exit_ne rfl ?_ | refine AE.blk_ret ?_ | refine AE.lp_exit ?_ | refine AE.lp_ret ?_ | refine AQ.done ?_ | refine AQ.s2b (by kernel_rfl) rfl rfl rfl rfl ?_ | refine AQ.mark (by kernel_rfl) rfl rfl rfl rfl rfl rfl rfl ?_ | refine AP.cond_true rfl rfl ?_ | refine AP.cond_false rfl rfl ?_ | (refine AP.region rfl (by kernel_rfl) ?_; simp only [go_sem, Nat.reduceAdd, reduceCtorEq, hw2]) | (refine vq_id ?_; simp only [go_sem, Nat.reduceAdd, reduceCtorEq, hw2]) | (refine ⟨by first | omega | (intros; simp_all; done) | (intros; simp_all; omega), ?_⟩; try simp only [go_sem, Nat.reduceAdd, reduceCtorEq, hw2]))
        refine AP.cond rfl rfl (fun h3 => ?_) (fun h3 => ?_)
        · simp only [Bool.and_eq_true, decide_eq_true_eq] at h3
          have he' : e < t.length := by omega
          repeat (first | refine AP.seq rfl ?_ | refine AE.seq ?_ | refine AP.block rfl ?_ | refine AP.scope rfl ?_ | refine AP.label rfl ?_ | refine AE.sc ?_ | refine AE.sc_exit ?_ | refine AE.sc_ret ?_ | refine AP.skip rfl ?_ | refine AP.ret rfl ?_ | refine AP.exit rfl ?_ | refine AE.seq_exit ?_ | refine AE.seq_ret ?_ | refine AE.blk ?_ | refine AE.blk_exit ?_ | refine AE.blk_exit_ne rfl ?_ | refine AE.blk_ret ?_ | refine AE.lp_exit ?_ | refine AE.lp_ret ?_ | refine AQ.done ?_ | refine AQ.s2b (by kernel_rfl) rfl rfl rfl rfl ?_ | refine AQ.mark (by kernel_rfl) rfl rfl rfl rfl rfl rfl rfl ?_ | refine AP.cond_true rfl rfl ?_ | refine AP.cond_false rfl rfl ?_ | (refine AP.region rfl (by kernel_rfl) ?_; simp only [go_sem, Nat.reduceAdd, reduceCtorEq, hw2]) | (refine vq_id ?_; simp only [go_sem, Nat.reduceAdd, reduceCtorEq, hw2]) | (refine ⟨by first | omega | (intros; simp_all; done) | (intros; simp_all; omega), ?_⟩; try simp only [go_sem, Nat.reduceAdd, reduceCtorEq, hw2]))
          refine AE.round (e + 1) ⟨by omega, by omega, ?_⟩ (by omega) (Sub.cons rfl (Sub.cons rfl (Sub.cons rfl (Sub.cons rfl (Sub.nil _))))) rfl
          exact word_step t k e hke he' hwd (pr_sp h3.2)
        · repeat (first | refine AP.seq rfl ?_ | refine AE.seq ?_ | refine AP.block rfl ?_ | refine AP.scope rfl ?_ | refine AP.label rfl ?_ | refine AE.sc ?_ | refine AE.sc_exit ?_ | refine AE.sc_ret ?_ | refine AP.skip rfl ?_ | refine AP.ret rfl ?_ | refine AP.exit rfl ?_ | refine AE.seq_exit ?_ | refine AE.seq_ret ?_ | refine AE.blk ?_ | refine AE.blk_exit ?_ | refine AE.blk_exit_ne rfl ?_ | refine AE.blk_ret ?_ | refine AE.lp_exit ?_ | refine AE.lp_ret ?_ | refine AQ.done ?_ | refine AQ.s2b (by kernel_rfl) rfl rfl rfl rfl ?_ | refine AQ.mark (by kernel_rfl) rfl rfl rfl rfl rfl rfl rfl ?_ | refine AP.cond_true rfl rfl ?_ | refine AP.cond_false rfl rfl ?_ | (refine AP.region rfl (by kernel_rfl) ?_; simp only [go_sem, Nat.reduceAdd, reduceCtorEq, hw2]) | (refine vq_id ?_; simp only [go_sem, Nat.reduceAdd, reduceCtorEq, hw2]) | (refine ⟨by first | omega | (intros; simp_all; done) | (intros; simp_all; omega), ?_⟩; try simp only [go_sem, Nat.reduceAdd, reduceCtorEq, hw2]))
          refine AP.cond_false rfl (by rw [← show ((out.length : Int) == 8000) = false by simp; omega]; rfl) ?_
          repeat (first | refine AP.seq rfl ?_ | refine AE.seq ?_ | refine AP.block rfl ?_ | refine AP.scope rfl ?_ | refine AP.label rfl ?_ | refine AE.sc ?_ | refine AE.sc_exit ?_ | refine AE.sc_ret ?_ | refine AP.skip rfl ?_ | refine AP.ret rfl ?_ | refine AP.exit rfl ?_ | refine AE.seq_exit ?_ | refine AE.seq_ret ?_ | refine AE.blk ?_ | refine AE.blk_exit ?_ | refine AE.blk_exit_ne rfl ?_ | refine AE.blk_ret ?_ | refine AE.lp_exit ?_ | refine AE.lp_ret ?_ | refine AQ.done ?_ | refine AQ.s2b (by kernel_rfl) rfl rfl rfl rfl ?_ | refine AQ.mark (by kernel_rfl) rfl rfl rfl rfl rfl rfl rfl ?_ | refine AP.cond_true rfl rfl ?_ | refine AP.cond_false rfl rfl ?_ | (refine AP.region rfl (by kernel_rfl) ?_; simp only [go_sem, Nat.reduceAdd, reduceCtorEq, hw2]) | (refine vq_id ?_; simp only [go_sem, Nat.reduceAdd, reduceCtorEq, hw2]) | (refine ⟨by first | omega | (intros; simp_all; done) | (intros; simp_all; omega), ?_⟩; try simp only [go_sem, Nat.reduceAdd, reduceCtorEq, hw2]))
          have hpe : e < t.length → sp (t.getD e 0) = true := fun hlt => by
            cases hs : sp (t.getD e 0) with
            | true => rfl
            | false =>
              rw [ok_pr hx e hlt hs] at h3
              simp at h3
              omega
          have hlt : k < e := by
            rcases Nat.lt_or_ge k e with h | h
            · exact h
            · have : e = k := by omega
              subst this
              rw [hpe hk'] at h2; cases h2
          refine AQ.append (hnb := rfl) (rows := tokRows out) (xs := tokRows [((t.drop k).take (e - k), k)]) (es := 1) (by kernel_rfl) rfl rfl rfl rfl Try.tk24 Try.sz29 (by rw [Try.zr29]; rfl) Try.by29 (tokRows_len out).symm (by simp only [tokRows_len, List.length_cons, List.length_nil]; omega) (by simp only [tokRows_len, List.length_cons, List.length_nil]; omega) ?_
          repeat (first | refine AP.seq rfl ?_ | refine AE.seq ?_ | refine AP.block rfl ?_ | refine AP.scope rfl ?_ | refine AP.label rfl ?_ | refine AE.sc ?_ | refine AE.sc_exit ?_ | refine AE.sc_ret ?_ | refine AP.skip rfl ?_ | refine AP.ret rfl ?_ | refine AP.exit rfl ?_ | refine AE.seq_exit ?_ | refine AE.seq_ret ?_ | refine AE.blk ?_ | refine AE.blk_exit ?_ | refine AE.blk_exit_ne rfl ?_ | refine AE.blk_ret ?_ | refine AE.lp_exit ?_ | refine AE.lp_ret ?_ | refine AQ.done ?_ | refine AQ.s2b (by kernel_rfl) rfl rfl rfl rfl ?_ | refine AQ.mark (by kernel_rfl) rfl rfl rfl rfl rfl rfl rfl ?_ | refine AP.cond_true rfl rfl ?_ | refine AP.cond_false rfl rfl ?_ | (refine AP.region rfl (by kernel_rfl) ?_; simp only [go_sem, Nat.reduceAdd, reduceCtorEq]) | (refine vq_id ?_; simp only [go_sem, Nat.reduceAdd, reduceCtorEq]) | (refine ⟨by first | omega | (intros; simp_all; done) | (intros; simp_all; omega), ?_⟩; try simp only [go_sem, Nat.reduceAdd, reduceCtorEq]))
          refine AE.round (e, out ++ [((t.drop k).take (e - k), k)]) ⟨he, ?_, tok_step t k e out hlt he hwd hpe htk⟩ (by simp only; omega) (Sub.cons rfl (Sub.cons ?_ (Sub.cons rfl (Sub.nil _)))) ?_
          · simp only [List.length_append, List.length_cons, List.length_nil]; omega
          · simp only [List.length_append, List.length_cons, List.length_nil]; rfl
          · simp only [tokRows, List.map_append]
    · have hk' : k = t.length := by simp at hc; omega
      repeat (first | refine AP.seq rfl ?_ | refine AE.seq ?_ | refine AP.block rfl ?_ | refine AP.scope rfl ?_ | refine AP.label rfl ?_ | refine AE.sc ?_ | refine AE.sc_exit ?_ | refine AE.sc_ret ?_ | refine AP.skip rfl ?_ | refine AP.ret rfl ?_ | refine AP.exit rfl ?_ | refine AE.seq_exit ?_ | refine AE.seq_ret ?_ | refine AE.blk ?_ | refine AE.blk_exit ?_ | refine AE.blk_exit_ne rfl ?_ | refine AE.blk_ret ?_ | refine AE.lp_exit ?_ | refine AE.lp_ret ?_ | refine AQ.done ?_ | refine AQ.s2b (by kernel_rfl) rfl rfl rfl rfl ?_ | refine AQ.mark (by kernel_rfl) rfl rfl rfl rfl rfl rfl rfl ?_ | refine AP.cond_true rfl rfl ?_ | refine AP.cond_false rfl rfl ?_ | (refine AP.region rfl (by kernel_rfl) ?_; simp only [go_sem, Nat.reduceAdd, reduceCtorEq, hw]) | (refine vq_id ?_; simp only [go_sem, Nat.reduceAdd, reduceCtorEq, hw]) | (refine ⟨by first | omega | (intros; simp_all; done) | (intros; simp_all; omega), ?_⟩; try simp only [go_sem, Nat.reduceAdd, reduceCtorEq, hw]))
      simp only [go_sem, Nat.reduceAdd, reduceCtorEq]
      refine AE.freeze 0 (el := 29) (es := 2) (rows := tokRows out) rfl (by simp only [go_sem, Nat.reduceAdd, reduceCtorEq]) (by simp only [go_sem, Nat.reduceAdd, reduceCtorEq]; try (simp; done)) ?_
      refine AE.ret0 rfl ⟨rfl, rfl, rfl, trivial⟩ rfl ⟨rfl, ?_⟩
      have e1 : okT t = true := hx
      have e2 : toks t 0 = out := by rw [htk, hk', List.drop_length, toks, List.append_nil]
      rw [scanOf, e1, if_pos rfl, e2]
      have e3 : ((tokRows out).drop 0).take out.length = tokRows out := by rw [List.drop_zero, ← tokRows_len out, List.take_length]
      show AV.tup [.im (.sl 2 (((tokRows out).drop 0).take out.length)), Iv 0, Iv 0] = _
      rw [e3]
end Go.Proofs.Ytilbfhldohibhaa
end

section
namespace Go.Proofs.Ytilbfhldohibhaa
open Go Go.AL Go.RowKit
set_option maxRecDepth 10000
set_option maxHeartbeats 4000000
theorem tokRows_get (l : List Tok) (k : Nat) (h : k < l.length) : (tokRows l).getD k [] = [Si (l.getD k ([], 0)).1, Ii (l.getD k ([], 0)).2] := by
  simp [tokRows, List.getD_eq_getElem?_getD, h, tokRow]
def strRows (l : List (List UInt8)) : List (List IV) := l.map fun s => [Si s]
theorem strRows_len (l : List (List UInt8)) : (strRows l).length = l.length := by simp [strRows]
theorem strRows_get (l : List (List UInt8)) (k : Nat) (h : k < l.length) : (strRows l).getD k [] = [Si (l.getD k [])] := by
  simp [strRows, List.getD_eq_getElem?_getD, h]
attribute [go_sem] strRows_len
theorem eq_toks (l : List Tok) (hl : l.length ≤ 1000000000) : PFn Try.prog 11 [.im (.sl 2 (tokRows l)), .im (.sl 2 (tokRows l))] (Bv true) := by
  refine ACall.walk [0, 1, 4, 5, 10, 12, 13, 14, 24] [] Try.func11 rfl Try.ntmps11 (by kernel_rfl) (by rfl) rfl fun w own I0 φ0 => ?_
  repeat (first | refine AP.seq rfl ?_ | refine AE.seq ?_ | refine AP.block rfl ?_ | refine AP.scope rfl ?_ | refine AP.label rfl ?_ | refine AE.sc ?_ | refine AE.sc_exit ?_ | refine AE.sc_ret ?_ | refine AP.skip rfl ?_ | refine AP.ret rfl ?_ | refine AP.exit rfl ?_ | refine AE.seq_exit ?_ | refine AE.seq_ret ?_ | refine AE.blk ?_ | refine AE.blk_exit ?_ | refine AE.blk_exit_ne rfl ?_ | refine AE.blk_ret ?_ | refine AE.lp_exit ?_ | refine AE.lp_ret ?_ | refine AQ.done ?_ | refine AQ.s2b (by kernel_rfl) rfl rfl rfl rfl ?_ | refine AQ.mark (by kernel_rfl) rfl rfl rfl rfl rfl rfl rfl ?_ | refine AP.cond_true rfl rfl ?_ | refine AP.cond_false rfl rfl ?_ | (refine AP.region rfl (by kernel_rfl) ?_; simp only [go_sem, Nat.reduceAdd, reduceCtorEq, bne_self_eq_false]) | (refine vq_id ?_; simp only [go_sem, Nat.reduceAdd, reduceCtorEq, bne_self_eq_false]) | (refine ⟨by first | omega | (intros; simp_all; done) | (intros; simp_all; omega), ?_⟩; try simp only [go_sem, Nat.reduceAdd, reduceCtorEq, bne_self_eq_false]))
  refine AP.loop rfl (α := Nat) (fun k => [(0, .im (.sl 2 (tokRows l))), (1, .im (.sl 2 (tokRows l))), (12, Iv l.length), (13, Iv k)]) (fun k => []) (fun k => k ≤ l.length) (fun k => l.length - k) 0 (by simp) (Sub.cons rfl (Sub.cons rfl (Sub.cons rfl (Sub.cons rfl (Sub.nil _))))) (by simp) fun k hk => ?_
  have hw := wr (x := (k : Int) + 1) (by omega)
  repeat (first | refine AP.seq rfl ?_ | refine AE.seq ?_ | refine AP.block rfl ?_ | refine AP.scope rfl ?_ | refine AP.label rfl ?_ | refine AE.sc ?_ | refine AE.sc_exit ?_ | refine AE.sc_ret ?_ | refine AP.skip rfl ?_ | refine AP.ret rfl ?_ | refine AP.exit rfl ?_ | refine AE.seq_exit ?_ | refine AE.seq_ret ?_ | refine AE.blk ?_ | refine AE.blk_exit ?_ | refine AE.blk_exit_ne rfl ?_ | refine AE.blk_ret ?_ | refine AE.lp_exit ?_ | refine AE.lp_ret ?_ | refine AQ.done ?_ | refine AQ.s2b (by kernel_rfl) rfl rfl rfl rfl ?_ | refine AQ.mark (by kernel_rfl) rfl rfl rfl rfl rfl rfl rfl ?_ | refine AP.cond_true rfl rfl ?_ | refine AP.cond_false rfl rfl ?_ | (refine AP.region rfl (by kernel_rfl) ?_; simp only [go_sem, Nat.reduceAdd, reduceCtorEq, hw]) | (refine vq_id ?_; simp only [go_sem, Nat.reduceAdd, reduceCtorEq, hw]) | (refine ⟨by first | omega | (intros; simp_all; done) | (intros; simp_all; omega), ?_⟩; try simp only [go_sem, Nat.reduceAdd, reduceCtorEq, hw]))
  refine AP.cond rfl rfl (fun hc => ?_) (fun hc => ?_)
  · have hk' : k < l.length := by simp at hc; omega
    repeat (first | refine AP.seq rfl ?_ | refine AE.seq ?_ | refine AP.block rfl ?_ | refine AP.scope rfl ?_ | refine AP.label rfl ?_ | refine AE.sc ?_ | refine AE.sc_exit ?_ | refine AE.sc_ret ?_ | refine AP.skip rfl ?_ | refine AP.ret rfl ?_ | refine AP.exit rfl ?_ | refine AE.seq_exit ?_ | refine AE.seq_ret ?_ | refine AE.blk ?_ | refine AE.blk_exit ?_ | refine AE.blk_exit_ne rfl ?_ | refine AE.blk_ret ?_ | refine AE.lp_exit ?_ | refine AE.lp_ret ?_ | refine AQ.done ?_ | refine AQ.s2b (by kernel_rfl) rfl rfl rfl rfl ?_ | refine AQ.mark (by kernel_rfl) rfl rfl rfl rfl rfl rfl rfl ?_ | refine AP.cond_true rfl rfl ?_ | refine AP.cond_false rfl rfl ?_ | (refine AP.region rfl (by kernel_rfl) ?_; simp only [go_sem, Nat.reduceAdd, reduceCtorEq, hw]) | (refine vq_id ?_; simp only [go_sem, Nat.reduceAdd, reduceCtorEq, hw]) | (refine ⟨by first | omega | (intros; simp_all; done) | (intros; simp_all; omega), ?_⟩; try simp only [go_sem, Nat.reduceAdd, reduceCtorEq, hw]))
    refine AP.draw 9 [] (by kernel_rfl) rfl (by kernel_rfl) (by kernel_rfl) ?_
    simp only [go_sem, Nat.reduceAdd, reduceCtorEq, tokRows_get l k hk', beq_self_eq_true]
    refine ⟨by omega, by omega, by omega, by omega, ?_⟩
    repeat (first | refine AP.seq rfl ?_ | refine AE.seq ?_ | refine AP.block rfl ?_ | refine AP.scope rfl ?_ | refine AP.label rfl ?_ | refine AE.sc ?_ | refine AE.sc_exit ?_ | refine AE.sc_ret ?_ | refine AP.skip rfl ?_ | refine AP.ret rfl ?_ | refine AP.exit rfl ?_ | refine AE.seq_exit ?_ | refine AE.seq_ret ?_ | refine AE.blk ?_ | refine AE.blk_exit ?_ | refine AE.blk_exit_ne rfl ?_ | refine AE.blk_ret ?_ | refine AE.lp_exit ?_ | refine AE.lp_ret ?_ | refine AQ.done ?_ | refine AQ.s2b (by kernel_rfl) rfl rfl rfl rfl ?_ | refine AQ.mark (by kernel_rfl) rfl rfl rfl rfl rfl rfl rfl ?_ | refine AP.cond_true rfl rfl ?_ | refine AP.cond_false rfl rfl ?_ | (refine AP.region rfl (by kernel_rfl) ?_; simp only [go_sem, Nat.reduceAdd, reduceCtorEq, hw]) | (refine vq_id ?_; simp only [go_sem, Nat.reduceAdd, reduceCtorEq, hw]) | (refine ⟨by first | omega | (intros; simp_all; done) | (intros; simp_all; omega), ?_⟩; try simp only [go_sem, Nat.reduceAdd, reduceCtorEq, hw]))
    exact AE.round (k + 1) (by omega) (by omega) (Sub.cons rfl (Sub.cons rfl (Sub.cons rfl (Sub.cons rfl (Sub.nil _))))) rfl
  · repeat (first | refine AP.seq rfl ?_ | refine AE.seq ?_ | refine AP.block rfl ?_ | refine AP.scope rfl ?_ | refine AP.label rfl ?_ | refine AE.sc ?_ | refine AE.sc_exit ?_ | refine AE.sc_ret ?_ | refine AP.skip rfl ?_ | refine AP.ret rfl ?_ | refine AP.exit rfl ?_ | refine AE.seq_exit ?_ | refine AE.seq_ret ?_ | refine AE.blk ?_ | refine AE.blk_exit ?_ | refine AE.blk_exit_ne rfl ?_ | refine AE.blk_ret ?_ | refine AE.lp_exit ?_ | refine AE.lp_ret ?_ | refine AQ.done ?_ | refine AQ.s2b (by kernel_rfl) rfl rfl rfl rfl ?_ | refine AQ.mark (by kernel_rfl) rfl rfl rfl rfl rfl rfl rfl ?_ | refine AP.cond_true rfl rfl ?_ | refine AP.cond_false rfl rfl ?_ | (refine AP.region rfl (by kernel_rfl) ?_; simp only [go_sem, Nat.reduceAdd, reduceCtorEq]) | (refine vq_id ?_; simp only [go_sem, Nat.reduceAdd, reduceCtorEq]) | (refine ⟨by first | omega | (intros; simp_all; done) | (intros; simp_all; omega), ?_⟩; try simp only [go_sem, Nat.reduceAdd, reduceCtorEq]))
    exact AE.ret rfl ⟨rfl, trivial⟩ ⟨rfl, rfl⟩
theorem eq_strs (l : List (List UInt8)) (hl : l.length ≤ 1000000000) : PFn Try.prog 15 [.im (.sl 1 (strRows l)), .im (.sl 1 (strRows l))] (Bv true) := by
  refine ACall.walk [0, 1, 4, 5, 10, 12, 13, 14, 24] [] Try.func15 rfl Try.ntmps15 (by kernel_rfl) (by rfl) rfl fun w own I0 φ0 => ?_
  repeat (first | refine AP.seq rfl ?_ | refine AE.seq ?_ | refine AP.block rfl ?_ | refine AP.scope rfl ?_ | refine AP.label rfl ?_ | refine AE.sc ?_ | refine AE.sc_exit ?_ | refine AE.sc_ret ?_ | refine AP.skip rfl ?_ | refine AP.ret rfl ?_ | refine AP.exit rfl ?_ | refine AE.seq_exit ?_ | refine AE.seq_ret ?_ | refine AE.blk ?_ | refine AE.blk_exit ?_ | refine AE.blk_exit_ne rfl ?_ | refine AE.blk_ret ?_ | refine AE.lp_exit ?_ | refine AE.lp_ret ?_ | refine AQ.done ?_ | refine AQ.s2b (by kernel_rfl) rfl rfl rfl rfl ?_ | refine AQ.mark (by kernel_rfl) rfl rfl rfl rfl rfl rfl rfl ?_ | refine AP.cond_true rfl rfl ?_ | refine AP.cond_false rfl rfl ?_ | (refine AP.region rfl (by kernel_rfl) ?_; simp only [go_sem, Nat.reduceAdd, reduceCtorEq, bne_self_eq_false]) | (refine vq_id ?_; simp only [go_sem, Nat.reduceAdd, reduceCtorEq, bne_self_eq_false]) | (refine ⟨by first | omega | (intros; simp_all; done) | (intros; simp_all; omega), ?_⟩; try simp only [go_sem, Nat.reduceAdd, reduceCtorEq, bne_self_eq_false]))
  refine AP.loop rfl (α := Nat) (fun k => [(0, .im (.sl 1 (strRows l))), (1, .im (.sl 1 (strRows l))), (12, Iv l.length), (13, Iv k)]) (fun k => []) (fun k => k ≤ l.length) (fun k => l.length - k) 0 (by simp) (Sub.cons rfl (Sub.cons rfl (Sub.cons rfl (Sub.cons rfl (Sub.nil _))))) (by simp) fun k hk => ?_
  have hw := wr (x := (k : Int) + 1) (by omega)
  repeat (first | refine AP.seq rfl ?_ | refine AE.seq ?_ | refine AP.block rfl ?_ | refine AP.scope rfl ?_ | refine AP.label rfl ?_ | refine AE.sc ?_ | refine AE.sc_exit ?_ | refine AE.sc_ret ?_ | refine AP.skip rfl ?_ | refine AP.ret rfl ?_ | refine AP.exit rfl ?_ | refine AE.seq_exit ?_ | refine AE.seq_ret ?_ | refine AE.blk ?_ | refine AE.blk_exit ?_ | refine AE.blk_exit_ne rfl ?_ | refine AE.blk_ret ?_ | refine AE.lp_exit ?_ | refine AE.lp_ret ?_ | refine AQ.done ?_ | refine AQ.s2b (by kernel_rfl) rfl rfl rfl rfl ?_ | refine AQ.mark (by kernel_rfl) rfl rfl rfl rfl rfl rfl rfl ?_ | refine AP.cond_true rfl rfl ?_ | refine AP.cond_false rfl rfl ?_ | (refine AP.region rfl (by kernel_rfl) ?_; simp only [go_sem, Nat.reduceAdd, reduceCtorEq, hw]) | (refine vq_id ?_; simp only [go_sem, Nat.reduceAdd, reduceCtorEq, hw]) | (refine ⟨by first | omega | (intros; simp_all; done) | (intros; simp_all; omega), ?_⟩; try simp only [go_sem, Nat.reduceAdd, reduceCtorEq, hw]))
  refine AP.cond rfl rfl (fun hc => ?_) (fun hc => ?_)
  · have hk' : k < l.length := by simp at hc; omega
    repeat (first | refine AP.seq rfl ?_ | refine AE.seq ?_ | refine AP.block rfl ?_ | refine AP.scope rfl ?_ | refine AP.label rfl ?_ | refine AE.sc ?_ | refine AE.sc_exit ?_ | refine AE.sc_ret ?_ | refine AP.skip rfl ?_ | refine AP.ret rfl ?_ | refine AP.exit rfl ?_ | refine AE.seq_exit ?_ | refine AE.seq_ret ?_ | refine AE.blk ?_ | refine AE.blk_exit ?_ | refine AE.blk_exit_ne rfl ?_ | refine AE.blk_ret ?_ | refine AE.lp_exit ?_ | refine AE.lp_ret ?_ | refine AQ.done ?_ | refine AQ.s2b (by kernel_rfl) rfl rfl rfl rfl ?_ | refine AQ.mark (by kernel_rfl) rfl rfl rfl rfl rfl rfl rfl ?_ | refine AP.cond_true rfl rfl ?_ | refine AP.cond_false rfl rfl ?_ | (refine AP.region rfl (by kernel_rfl) ?_; simp only [go_sem, Nat.reduceAdd, reduceCtorEq, hw]) | (refine vq_id ?_; simp only [go_sem, Nat.reduceAdd, reduceCtorEq, hw]) | (refine ⟨by first | omega | (intros; simp_all; done) | (intros; simp_all; omega), ?_⟩; try simp only [go_sem, Nat.reduceAdd, reduceCtorEq, hw]))
    refine AP.draw 9 [] (by kernel_rfl) rfl (by kernel_rfl) (by kernel_rfl) ?_
    simp only [go_sem, Nat.reduceAdd, reduceCtorEq, strRows_get l k hk', beq_self_eq_true]
    refine ⟨by omega, by omega, by omega, by omega, ?_⟩
    repeat (first | refine AP.seq rfl ?_ | refine AE.seq ?_ | refine AP.block rfl ?_ | refine AP.scope rfl ?_ | refine AP.label rfl ?_ | refine AE.sc ?_ | refine AE.sc_exit ?_ | refine AE.sc_ret ?_ | refine AP.skip rfl ?_ | refine AP.ret rfl ?_ | refine AP.exit rfl ?_ | refine AE.seq_exit ?_ | refine AE.seq_ret ?_ | refine AE.blk ?_ | refine AE.blk_exit ?_ | refine AE.blk_exit_ne rfl ?_ | refine AE.blk_ret ?_ | refine AE.lp_exit ?_ | refine AE.lp_ret ?_ | refine AQ.done ?_ | refine AQ.s2b (by kernel_rfl) rfl rfl rfl rfl ?_ | refine AQ.mark (by kernel_rfl) rfl rfl rfl rfl rfl rfl rfl ?_ | refine AP.cond_true rfl rfl ?_ | refine AP.cond_false rfl rfl ?_ | (refine AP.region rfl (by kernel_rfl) ?_; simp only [go_sem, Nat.reduceAdd, reduceCtorEq, hw]) | (refine vq_id ?_; simp only [go_sem, Nat.reduceAdd, reduceCtorEq, hw]) | (refine ⟨by first | omega | (intros; simp_all; done) | (intros; simp_all; omega), ?_⟩; try simp only [go_sem, Nat.reduceAdd, reduceCtorEq, hw]))
    exact AE.round (k + 1) (by omega) (by omega) (Sub.cons rfl (Sub.cons rfl (Sub.cons rfl (Sub.cons rfl (Sub.nil _))))) rfl
  · repeat (first | refine AP.seq rfl ?_ | refine AE.seq ?_ | refine AP.block rfl ?_ | refine AP.scope rfl ?_ | refine AP.label rfl ?_ | refine AE.sc ?_ | refine AE.sc_exit ?_ | refine AE.sc_ret ?_ | refine AP.skip rfl ?_ | refine AP.ret rfl ?_ | refine AP.exit rfl ?_ | refine AE.seq_exit ?_ | refine AE.seq_ret ?_ | refine AE.blk ?_ | refine AE.blk_exit ?_ | refine AE.blk_exit_ne rfl ?_ | refine AE.blk_ret ?_ | refine AE.lp_exit ?_ | refine AE.lp_ret ?_ | refine AQ.done ?_ | refine AQ.s2b (by kernel_rfl) rfl rfl rfl rfl ?_ | refine AQ.mark (by kernel_rfl) rfl rfl rfl rfl rfl rfl rfl ?_ | refine AP.cond_true rfl rfl ?_ | refine AP.cond_false rfl rfl ?_ | (refine AP.region rfl (by kernel_rfl) ?_; simp only [go_sem, Nat.reduceAdd, reduceCtorEq]) | (refine vq_id ?_; simp only [go_sem, Nat.reduceAdd, reduceCtorEq]) | (refine ⟨by first | omega | (intros; simp_all; done) | (intros; simp_all; omega), ?_⟩; try simp only [go_sem, Nat.reduceAdd, reduceCtorEq]))
    exact AE.ret rfl ⟨rfl, trivial⟩ ⟨rfl, rfl⟩
def texts (l : List Tok) : List (List UInt8) := l.map Prod.fst
theorem texts_take_len (l : List Tok) (k : Nat) (hk : k ≤ l.length) : (strRows (texts (l.take k))).length = k := by
  rw [strRows_len, texts, List.length_map, List.length_take]; omega
theorem texts_step (l : List Tok) (k : Nat) (hk : k < l.length) : strRows (texts (l.take (k + 1))) = strRows (texts (l.take k)) ++ strRows [(l.getD k ([], 0)).1] := by
  have e : (l.getD k ([], 0)) = l[k] := by rw [List.getD_eq_getElem?_getD, List.getElem?_eq_getElem hk]; rfl
  rw [e, List.take_add_one, List.getElem?_eq_getElem hk]
  simp only [strRows, texts, List.map_append, Option.toList_some, List.map_cons, List.map_nil]
theorem texts_ref (l : List Tok) (hl : l.length ≤ 1000000000) : PFn Try.prog 17 [.im (.sl 2 (tokRows l))] (.im (.sl 1 (strRows (texts l)))) := by
  refine ACall.walk [0, 2, 3, 4, 9] [] Try.func17 rfl Try.ntmps17 (by kernel_rfl) (by rfl) rfl fun w own I0 φ0 => ?_
  repeat (first | refine AP.seq rfl ?_ | refine AE.seq ?_ | refine AP.block rfl ?_ | refine AP.scope rfl ?_ | refine AP.label rfl ?_ | refine AE.sc ?_ | refine AE.sc_exit ?_ | refine AE.sc_ret ?_ | refine AP.skip rfl ?_ | refine AP.ret rfl ?_ | refine AP.exit rfl ?_ | refine AE.seq_exit ?_ | refine AE.seq_ret ?_ | refine AE.blk ?_ | refine AE.blk_exit ?_ | refine AE.blk_exit_ne rfl ?_ | refine AE.blk_ret ?_ | refine AE.lp_exit ?_ | refine AE.lp_ret ?_ | refine AQ.done ?_ | refine AQ.s2b (by kernel_rfl) rfl rfl rfl rfl ?_ | refine AQ.mark (by kernel_rfl) rfl rfl rfl rfl rfl rfl rfl ?_ | refine AP.cond_true rfl rfl ?_ | refine AP.cond_false rfl rfl ?_ | (refine AP.region rfl (by kernel_rfl) ?_; simp only [go_sem, Nat.reduceAdd, reduceCtorEq]) | (refine vq_id ?_; simp only [go_sem, Nat.reduceAdd, reduceCtorEq]) | (refine ⟨by first | omega | (intros; simp_all; done) | (intros; simp_all; omega), ?_⟩; try simp only [go_sem, Nat.reduceAdd, reduceCtorEq]))
  refine AP.loop rfl (α := Nat) (fun k => [(0, .im (.sl 2 (tokRows l))), (3, .os 0 1 0 k), (4, Iv k)]) (fun k => [(0, .vec 9 1 (strRows (texts (l.take k))))]) (fun k => k ≤ l.length) (fun k => l.length - k) 0 (by simp) (Sub.cons rfl (Sub.cons rfl (Sub.cons rfl (Sub.nil _)))) (by rfl) fun k hk => ?_
  have hw := wr (x := (k : Int) + 1) (by omega)
  repeat (first | refine AP.seq rfl ?_ | refine AE.seq ?_ | refine AP.block rfl ?_ | refine AP.scope rfl ?_ | refine AP.label rfl ?_ | refine AE.sc ?_ | refine AE.sc_exit ?_ | refine AE.sc_ret ?_ | refine AP.skip rfl ?_ | refine AP.ret rfl ?_ | refine AP.exit rfl ?_ | refine AE.seq_exit ?_ | refine AE.seq_ret ?_ | refine AE.blk ?_ | refine AE.blk_exit ?_ | refine AE.blk_exit_ne rfl ?_ | refine AE.blk_ret ?_ | refine AE.lp_exit ?_ | refine AE.lp_ret ?_ | refine AQ.done ?_ | refine AQ.s2b (by kernel_rfl) rfl rfl rfl rfl ?_ | refine AQ.mark (by kernel_rfl) rfl rfl rfl rfl rfl rfl rfl ?_ | refine AP.cond_true rfl rfl ?_ | refine AP.cond_false rfl rfl ?_ | (refine AP.region rfl (by kernel_rfl) ?_; simp only [go_sem, Nat.reduceAdd, reduceCtorEq, hw]) | (refine vq_id ?_; simp only [go_sem, Nat.reduceAdd, reduceCtorEq, hw]) | (refine ⟨by first | omega | (intros; simp_all; done) | (intros; simp_all; omega), ?_⟩; try simp only [go_sem, Nat.reduceAdd, reduceCtorEq, hw]))
  refine AP.cond rfl rfl (fun hc => ?_) (fun hc => ?_)
  · have hk' : k < l.length := by simp at hc; omega
    repeat (first | refine AP.seq rfl ?_ | refine AE.seq ?_ | refine AP.block rfl ?_ | refine AP.scope rfl ?_ | refine AP.label rfl ?_ | refine AE.sc ?_ | refine AE.sc_exit ?_ | refine AE.sc_ret ?_ | refine AP.skip rfl ?_ | refine AP.ret rfl ?_ | refine AP.exit rfl ?_ | refine AE.seq_exit ?_ | refine AE.seq_ret ?_ | refine AE.blk ?_ | refine AE.blk_exit ?_ | refine AE.blk_exit_ne rfl ?_ | refine AE.blk_ret ?_ | refine AE.lp_exit ?_ | refine AE.lp_ret ?_ | refine AQ.done ?_ | refine AQ.s2b (by kernel_rfl) rfl rfl rfl rfl ?_ | refine AQ.mark (by kernel_rfl) rfl rfl rfl rfl rfl rfl rfl ?_ | refine AP.cond_true rfl rfl ?_ | refine AP.cond_false rfl rfl ?_ | (refine AP.region rfl (by kernel_rfl) ?_; simp only [go_sem, Nat.reduceAdd, reduceCtorEq, hw, tokRows_get l k hk']) | (refine vq_id ?_; simp only [go_sem, Nat.reduceAdd, reduceCtorEq, hw, tokRows_get l k hk']) | (refine ⟨by first | omega | (intros; simp_all; done) | (intros; simp_all; omega), ?_⟩; try simp only [go_sem, Nat.reduceAdd, reduceCtorEq, hw, tokRows_get l k hk']))
    refine AQ.append (hnb := rfl) (rows := strRows (texts (l.take k))) (xs := strRows [(l.getD k ([], 0)).1]) (es := 0) (by kernel_rfl) rfl rfl rfl (by rfl) Try.tk23 Try.sz9 (by rw [Try.zr9]; rfl) Try.by9 (by rw [texts_take_len l k hk]) (by rw [texts_take_len l k hk, strRows_len]; simp only [List.length_cons, List.length_nil]; omega) (by rw [texts_take_len l k hk, strRows_len]; simp only [List.length_cons, List.length_nil]; omega) ?_
    repeat (first | refine AP.seq rfl ?_ | refine AE.seq ?_ | refine AP.block rfl ?_ | refine AP.scope rfl ?_ | refine AP.label rfl ?_ | refine AE.sc ?_ | refine AE.sc_exit ?_ | refine AE.sc_ret ?_ | refine AP.skip rfl ?_ | refine AP.ret rfl ?_ | refine AP.exit rfl ?_ | refine AE.seq_exit ?_ | refine AE.seq_ret ?_ | refine AE.blk ?_ | refine AE.blk_exit ?_ | refine AE.blk_exit_ne rfl ?_ | refine AE.blk_ret ?_ | refine AE.lp_exit ?_ | refine AE.lp_ret ?_ | refine AQ.done ?_ | refine AQ.s2b (by kernel_rfl) rfl rfl rfl rfl ?_ | refine AQ.mark (by kernel_rfl) rfl rfl rfl rfl rfl rfl rfl ?_ | refine AP.cond_true rfl rfl ?_ | refine AP.cond_false rfl rfl ?_ | (refine AP.region rfl (by kernel_rfl) ?_; simp only [go_sem, Nat.reduceAdd, reduceCtorEq, hw, texts_take_len l k hk]) | (refine vq_id ?_; simp only [go_sem, Nat.reduceAdd, reduceCtorEq, hw, texts_take_len l k hk]) | (refine ⟨by first | omega | (intros; simp_all; done) | (intros; simp_all; omega), ?_⟩; try simp only [go_sem, Nat.reduceAdd, reduceCtorEq, hw, texts_take_len l k hk]))
    exact AE.round (k + 1) (by omega) (by omega) (Sub.cons rfl (Sub.cons rfl (Sub.cons rfl (Sub.nil _)))) (by rw [texts_step l k hk'])
  · repeat (first | refine AP.seq rfl ?_ | refine AE.seq ?_ | refine AP.block rfl ?_ | refine AP.scope rfl ?_ | refine AP.label rfl ?_ | refine AE.sc ?_ | refine AE.sc_exit ?_ | refine AE.sc_ret ?_ | refine AP.skip rfl ?_ | refine AP.ret rfl ?_ | refine AP.exit rfl ?_ | refine AE.seq_exit ?_ | refine AE.seq_ret ?_ | refine AE.blk ?_ | refine AE.blk_exit ?_ | refine AE.blk_exit_ne rfl ?_ | refine AE.blk_ret ?_ | refine AE.lp_exit ?_ | refine AE.lp_ret ?_ | refine AQ.done ?_ | refine AQ.s2b (by kernel_rfl) rfl rfl rfl rfl ?_ | refine AQ.mark (by kernel_rfl) rfl rfl rfl rfl rfl rfl rfl ?_ | refine AP.cond_true rfl rfl ?_ | refine AP.cond_false rfl rfl ?_ | (refine AP.region rfl (by kernel_rfl) ?_; simp only [go_sem, Nat.reduceAdd, reduceCtorEq]) | (refine vq_id ?_; simp only [go_sem, Nat.reduceAdd, reduceCtorEq]) | (refine ⟨by first | omega | (intros; simp_all; done) | (intros; simp_all; omega), ?_⟩; try simp only [go_sem, Nat.reduceAdd, reduceCtorEq]))
    simp only [go_sem, Nat.reduceAdd, reduceCtorEq]
    have hk' : k = l.length := by simp at hc; omega
    subst hk'
    rw [List.take_length]
    refine AE.freeze 0 (el := 9) (es := 1) (rows := strRows (texts l)) rfl (by simp only [go_sem, Nat.reduceAdd, reduceCtorEq]) (by simp only [go_sem, Nat.reduceAdd, reduceCtorEq]; try (simp [texts]; done)) ?_
    refine AE.ret0 rfl ⟨rfl, trivial⟩ rfl ⟨rfl, ?_⟩
    show AV.im (.sl 1 (((strRows (texts l)).drop 0).take l.length)) = _
    rw [List.drop_zero, List.take_of_length_le (by rw [strRows_len, texts, List.length_map]; exact Nat.le_refl _)]
theorem texts_spec (l : List Tok) (hl : l.length ≤ 1000000000) : PFn Try.prog 16 [.im (.sl 2 (tokRows l))] (.im (.sl 1 (strRows (texts l)))) := by
  refine ACall.walk [0, 2, 3, 5, 6, 7, 8, 9] [5] Try.func16 rfl Try.ntmps16 (by kernel_rfl) (by rfl) rfl fun w own I0 φ0 => ?_
  repeat (first | refine AP.seq rfl ?_ | refine AE.seq ?_ | refine AP.block rfl ?_ | refine AP.scope rfl ?_ | refine AP.label rfl ?_ | refine AE.sc ?_ | refine AE.sc_exit ?_ | refine AE.sc_ret ?_ | refine AP.skip rfl ?_ | refine AP.ret rfl ?_ | refine AP.exit rfl ?_ | refine AE.seq_exit ?_ | refine AE.seq_ret ?_ | refine AE.blk ?_ | refine AE.blk_exit ?_ | refine AE.blk_exit_ne rfl ?_ | refine AE.blk_ret ?_ | refine AE.lp_exit ?_ | refine AE.lp_ret ?_ | refine AQ.done ?_ | refine AQ.s2b (by kernel_rfl) rfl rfl rfl rfl ?_ | refine AQ.mark (by kernel_rfl) rfl rfl rfl rfl rfl rfl rfl ?_ | refine AP.cond_true rfl rfl ?_ | refine AP.cond_false rfl rfl ?_ | (refine AP.region rfl (by kernel_rfl) ?_; simp only [go_sem, Nat.reduceAdd, reduceCtorEq]) | (refine vq_id ?_; simp only [go_sem, Nat.reduceAdd, reduceCtorEq]) | (refine ⟨by first | omega | (intros; simp_all; done) | (intros; simp_all; omega), ?_⟩; try simp only [go_sem, Nat.reduceAdd, reduceCtorEq]))
  refine AP.own 3 9 1 rfl ?_
  refine AP.loop rfl (α := Nat) (fun k => [(6, .im (.sl 2 (tokRows l))), (3, .os 0 1 0 k), (7, Iv l.length), (8, Iv k)]) (fun k => [(0, .vec 9 1 (strRows (texts (l.take k))))]) (fun k => k ≤ l.length) (fun k => l.length - k) 0 (by simp) (Sub.cons rfl (Sub.cons rfl (Sub.cons rfl (Sub.cons rfl (Sub.nil _))))) (by rfl) fun k hk => ?_
  have hw := wr (x := (k : Int) + 1) (by omega)
  repeat (first | refine AP.seq rfl ?_ | refine AE.seq ?_ | refine AP.block rfl ?_ | refine AP.scope rfl ?_ | refine AP.label rfl ?_ | refine AE.sc ?_ | refine AE.sc_exit ?_ | refine AE.sc_ret ?_ | refine AP.skip rfl ?_ | refine AP.ret rfl ?_ | refine AP.exit rfl ?_ | refine AE.seq_exit ?_ | refine AE.seq_ret ?_ | refine AE.blk ?_ | refine AE.blk_exit ?_ | refine AE.blk_exit_ne rfl ?_ | refine AE.blk_ret ?_ | refine AE.lp_exit ?_ | refine AE.lp_ret ?_ | refine AQ.done ?_ | refine AQ.s2b (by kernel_rfl) rfl rfl rfl rfl ?_ | refine AQ.mark (by kernel_rfl) rfl rfl rfl rfl rfl rfl rfl ?_ | refine AP.cond_true rfl rfl ?_ | refine AP.cond_false rfl rfl ?_ | (refine AP.region rfl (by kernel_rfl) ?_; simp only [go_sem, Nat.reduceAdd, reduceCtorEq, hw]) | (refine vq_id ?_; simp only [go_sem, Nat.reduceAdd, reduceCtorEq, hw]) | (refine ⟨by first | omega | (intros; simp_all; done) | (intros; simp_all; omega), ?_⟩; try simp only [go_sem, Nat.reduceAdd, reduceCtorEq, hw]))
  refine AP.cond rfl rfl (fun hc => ?_) (fun hc => ?_)
  · have hk' : k < l.length := by simp at hc; omega
    repeat (first | refine AP.seq rfl ?_ | refine AE.seq ?_ | refine AP.block rfl ?_ | refine AP.scope rfl ?_ | refine AP.label rfl ?_ | refine AE.sc ?_ | refine AE.sc_exit ?_ | refine AE.sc_ret ?_ | refine AP.skip rfl ?_ | refine AP.ret rfl ?_ | refine AP.exit rfl ?_ | refine AE.seq_exit ?_ | refine AE.seq_ret ?_ | refine AE.blk ?_ | refine AE.blk_exit ?_ | refine AE.blk_exit_ne rfl ?_ | refine AE.blk_ret ?_ | refine AE.lp_exit ?_ | refine AE.lp_ret ?_ | refine AQ.done ?_ | refine AQ.s2b (by kernel_rfl) rfl rfl rfl rfl ?_ | refine AQ.mark (by kernel_rfl) rfl rfl rfl rfl rfl rfl rfl ?_ | refine AP.cond_true rfl rfl ?_ | refine AP.cond_false rfl rfl ?_ | (refine AP.region rfl (by kernel_rfl) ?_; simp only [go_sem, Nat.reduceAdd, reduceCtorEq, hw, tokRows_get l k hk']) | (refine vq_id ?_; simp only [go_sem, Nat.reduceAdd, reduceCtorEq, hw, tokRows_get l k hk']) | (refine ⟨by first | omega | (intros; simp_all; done) | (intros; simp_all; omega), ?_⟩; try simp only [go_sem, Nat.reduceAdd, reduceCtorEq, hw, tokRows_get l k hk']))
    refine AQ.append (hnb := rfl) (rows := strRows (texts (l.take k))) (xs := strRows [(l.getD k ([], 0)).1]) (es := 0) (by kernel_rfl) rfl rfl rfl (by rfl) Try.tk23 Try.sz9 (by rw [Try.zr9]; rfl) Try.by9 (by rw [texts_take_len l k hk]) (by rw [texts_take_len l k hk, strRows_len]; simp only [List.length_cons, List.length_nil]; omega) (by rw [texts_take_len l k hk, strRows_len]; simp only [List.length_cons, List.length_nil]; omega) ?_
    repeat (first | refine AP.seq rfl ?_ | refine AE.seq ?_ | refine AP.block rfl ?_ | refine AP.scope rfl ?_ | refine AP.label rfl ?_ | refine AE.sc ?_ | refine AE.sc_exit ?_ | refine AE.sc_ret ?_ | refine AP.skip rfl ?_ | refine AP.ret rfl ?_ | refine AP.exit rfl ?_ | refine AE.seq_exit ?_ | refine AE.seq_ret ?_ | refine AE.blk ?_ | refine AE.blk_exit ?_ | refine AE.blk_exit_ne rfl ?_ | refine AE.blk_ret ?_ | refine AE.lp_exit ?_ | refine AE.lp_ret ?_ | refine AQ.done ?_ | refine AQ.s2b (by kernel_rfl) rfl rfl rfl rfl ?_ | refine AQ.mark (by kernel_rfl) rfl rfl rfl rfl rfl rfl rfl ?_ | refine AP.cond_true rfl rfl ?_ | refine AP.cond_false rfl rfl ?_ | (refine AP.region rfl (by kernel_rfl) ?_; simp only [go_sem, Nat.reduceAdd, reduceCtorEq, hw, texts_take_len l k hk]) | (refine vq_id ?_; simp only [go_sem, Nat.reduceAdd, reduceCtorEq, hw, texts_take_len l k hk]) | (refine ⟨by first | omega | (intros; simp_all; done) | (intros; simp_all; omega), ?_⟩; try simp only [go_sem, Nat.reduceAdd, reduceCtorEq, hw, texts_take_len l k hk]))
    refine AE.forget 1 rfl ?_
    exact AE.round (k + 1) (by omega) (by omega) (Sub.cons rfl (Sub.cons rfl (Sub.cons rfl (Sub.cons rfl (Sub.nil _))))) (by rw [texts_step l k hk']; rfl)
  · repeat (first | refine AP.seq rfl ?_ | refine AE.seq ?_ | refine AP.block rfl ?_ | refine AP.scope rfl ?_ | refine AP.label rfl ?_ | refine AE.sc ?_ | refine AE.sc_exit ?_ | refine AE.sc_ret ?_ | refine AP.skip rfl ?_ | refine AP.ret rfl ?_ | refine AP.exit rfl ?_ | refine AE.seq_exit ?_ | refine AE.seq_ret ?_ | refine AE.blk ?_ | refine AE.blk_exit ?_ | refine AE.blk_exit_ne rfl ?_ | refine AE.blk_ret ?_ | refine AE.lp_exit ?_ | refine AE.lp_ret ?_ | refine AQ.done ?_ | refine AQ.s2b (by kernel_rfl) rfl rfl rfl rfl ?_ | refine AQ.mark (by kernel_rfl) rfl rfl rfl rfl rfl rfl rfl ?_ | refine AP.cond_true rfl rfl ?_ | refine AP.cond_false rfl rfl ?_ | (refine AP.region rfl (by kernel_rfl) ?_; simp only [go_sem, Nat.reduceAdd, reduceCtorEq]) | (refine vq_id ?_; simp only [go_sem, Nat.reduceAdd, reduceCtorEq]) | (refine ⟨by first | omega | (intros; simp_all; done) | (intros; simp_all; omega), ?_⟩; try simp only [go_sem, Nat.reduceAdd, reduceCtorEq]))
    simp only [go_sem, Nat.reduceAdd, reduceCtorEq]
    have hk' : k = l.length := by simp at hc; omega
    subst hk'
    rw [List.take_length]
    refine AE.freeze 0 (el := 9) (es := 1) (rows := strRows (texts l)) rfl (by simp only [go_sem, Nat.reduceAdd, reduceCtorEq]) (by simp only [go_sem, Nat.reduceAdd, reduceCtorEq]; try (simp [texts]; done)) ?_
    refine AE.ret0 rfl ⟨rfl, trivial⟩ rfl ⟨rfl, ?_⟩
    show AV.im (.sl 1 (((strRows (texts l)).drop 0).take l.length)) = _
    rw [List.drop_zero, List.take_of_length_le (by rw [strRows_len, texts, List.length_map]; exact Nat.le_refl _)]
end Go.Proofs.Ytilbfhldohibhaa
end

section
namespace Go.Proofs.Ytilbfhldohibhaa
open Go Go.AL Go.RowKit
set_option maxRecDepth 10000
set_option maxHeartbeats 1000000
/-! IsKeyword, Keywords -/
def marksL : List UInt8 := [99, 118, 102, 101, 100, 97, 112, 46, 61, 123, 125, 40, 41, 91, 93]
theorem marks_spec : PFn Try.prog 40 [] (.im (.sl 1 (byteR marksL))) := by
  refine ACall.walk [0] [1] Try.func40 rfl Try.ntmps40 (by kernel_rfl) (by rfl) rfl fun w own I0 φ0 => ?_
  repeat (first | refine AP.seq rfl ?_ | refine AE.seq ?_ | refine AP.block rfl ?_ | refine AP.scope rfl ?_ | refine AP.label rfl ?_ | refine AE.sc ?_ | refine AE.sc_exit ?_ | refine AE.sc_ret ?_ | refine AP.skip rfl ?_ | refine AP.ret rfl ?_ | refine AP.exit rfl ?_ | refine AE.seq_exit ?_ | refine AE.seq_ret ?_ | refine AE.blk ?_ | refine AE.blk_exit ?_ | refine AE.blk_exit_ne rfl ?_ | refine AE.blk_ret ?_ | refine AE.lp_exit ?_ | refine AE.lp_ret ?_ | refine AQ.done ?_ | refine AQ.s2b (by kernel_rfl) rfl rfl rfl rfl ?_ | refine AQ.mark (by kernel_rfl) rfl rfl rfl rfl rfl rfl rfl ?_ | refine AP.cond_true rfl rfl ?_ | refine AP.cond_false rfl rfl ?_ | (refine AP.region rfl (by kernel_rfl) ?_; simp only [go_sem, Nat.reduceAdd, reduceCtorEq]) | (refine vq_id ?_; simp only [go_sem, Nat.reduceAdd, reduceCtorEq]) | (refine ⟨by first | omega | (intros; simp_all; done) | (intros; simp_all; omega), ?_⟩; try simp only [go_sem, Nat.reduceAdd, reduceCtorEq]))
  exact AE.ret rfl ⟨rfl, trivial⟩ ⟨rfl, rfl⟩
/-- the first place with p, -1 without one -/
def idxP (p : UInt8 → Bool) : List UInt8 → Int
  | [] => -1
  | b :: l => if p b then 0 else match idxP p l with
    | -1 => -1
    | n => n + 1
def fidx (p : UInt8 → Bool) (l : List UInt8) : Int := if l.any p then (l.findIdx p : Int) else -1
theorem fidx_at (p : UInt8 → Bool) (l : List UInt8) (k : Nat) (hk : k < l.length) (hx : (l.take k).any p = false) (h : p (l.getD k 0) = true) : fidx p l = k := by
  rw [List.getD_eq_getElem?_getD, List.getElem?_eq_getElem hk] at h
  have ha : l.any p = true := List.any_eq_true.2 ⟨l[k], List.getElem_mem hk, h⟩
  unfold fidx
  rw [if_pos ha]
  congr 1
  rw [List.findIdx_eq hk]
  refine ⟨h, fun j hj => ?_⟩
  rw [List.any_eq_false] at hx
  have := hx l[j] (List.mem_take_iff_getElem.2 ⟨j, by omega, rfl⟩)
  simpa using this
theorem any_step (p : UInt8 → Bool) (l : List UInt8) (k : Nat) (hk : k < l.length) (hx : (l.take k).any p = false) (h : p (l.getD k 0) = false) : (l.take (k + 1)).any p = false := by
  rw [List.take_add_one, List.getElem?_eq_getElem hk, List.any_append, hx]
  rw [List.getD_eq_getElem?_getD, List.getElem?_eq_getElem hk] at h
  simpa using h
theorem indexFunc_spec (l : List UInt8) (p : UInt8 → Bool) (f : FuncId) (fs caps : List AV) (Hc : Heap) (hl : l.length ≤ 1000000000)
    (hf : ∀ b ∈ l, ACall Try.prog f (fs ++ [.im (.v (.int .u8 b.toNat))] ++ caps) Hc (fun r H' => H' = Hc ∧ r = Bv (p b))) :
    ACall Try.prog 49 [.im (.sl 1 (byteR l)), .fn f fs caps] Hc (fun r H' => H' = Hc ∧ r = Iv (fidx p l)) := by
  refine ACall.walk [0, 1, 4, 5, 7, 8, 9, 16] [] Try.func49 rfl Try.ntmps49 (by kernel_rfl) (by rfl) rfl fun w own I0 φ0 => ?_
  repeat (first | refine AP.seq rfl ?_ | refine AE.seq ?_ | refine AP.block rfl ?_ | refine AP.scope rfl ?_ | refine AP.label rfl ?_ | refine AE.sc ?_ | refine AE.sc_exit ?_ | refine AE.sc_ret ?_ | refine AP.skip rfl ?_ | refine AP.ret rfl ?_ | refine AP.exit rfl ?_ | refine AE.seq_exit ?_ | refine AE.seq_ret ?_ | refine AE.blk ?_ | refine AE.blk_exit ?_ | refine AE.blk_exit_ne rfl ?_ | refine AE.blk_ret ?_ | refine AE.lp_exit ?_ | refine AE.lp_ret ?_ | refine AQ.done ?_ | refine AQ.s2b (by kernel_rfl) rfl rfl rfl rfl ?_ | refine AQ.mark (by kernel_rfl) rfl rfl rfl rfl rfl rfl rfl ?_ | refine AP.cond_true rfl rfl ?_ | refine AP.cond_false rfl rfl ?_ | (refine AP.region rfl (by kernel_rfl) ?_; simp only [go_sem, Nat.reduceAdd, reduceCtorEq, byteR_len]) | (refine vq_id ?_; simp only [go_sem, Nat.reduceAdd, reduceCtorEq, byteR_len]) | (refine ⟨by first | omega | (intros; simp_all; done) | (intros; simp_all; omega), ?_⟩; try simp only [go_sem, Nat.reduceAdd, reduceCtorEq, byteR_len]))
  refine AP.loop rfl (α := Nat) (fun k => [(0, .im (.sl 1 (byteR l))), (1, .fn f fs caps), (7, Iv l.length), (8, Iv k)]) (fun k => Hc) (fun k => k ≤ l.length ∧ (l.take k).any p = false) (fun k => l.length - k) 0 (by simp) (by repeat (first | exact Sub.nil _ | refine Sub.cons rfl ?_)) rfl fun k hk => ?_
  obtain ⟨hk, hx⟩ := hk
  have hw := wr (x := (k : Int) + 1) (by omega)
  repeat (first | refine AP.seq rfl ?_ | refine AE.seq ?_ | refine AP.block rfl ?_ | refine AP.scope rfl ?_ | refine AP.label rfl ?_ | refine AE.sc ?_ | refine AE.sc_exit ?_ | refine AE.sc_ret ?_ | refine AP.skip rfl ?_ | refine AP.ret rfl ?_ | refine AP.exit rfl ?_ | refine AE.seq_exit ?_ | refine AE.seq_ret ?_ | refine AE.blk ?_ | refine AE.blk_exit ?_ | refine AE.blk_exit_ne rfl ?_ | refine AE.blk_ret ?_ | refine AE.lp_exit ?_ | refine AE.lp_ret ?_ | refine AQ.done ?_ | refine AQ.s2b (by kernel_rfl) rfl rfl rfl rfl ?_ | refine AQ.mark (by kernel_rfl) rfl rfl rfl rfl rfl rfl rfl ?_ | refine AP.cond_true rfl rfl ?_ | refine AP.cond_false rfl rfl ?_ | (refine AP.region rfl (by kernel_rfl) ?_; simp only [go_sem, Nat.reduceAdd, reduceCtorEq, hw]) | (refine vq_id ?_; simp only [go_sem, Nat.reduceAdd, reduceCtorEq, hw]) | (refine ⟨by first | omega | (intros; simp_all; done) | (intros; simp_all; omega), ?_⟩; try simp only [go_sem, Nat.reduceAdd, reduceCtorEq, hw]))
  refine AP.cond rfl rfl (fun hc => ?_) (fun hc => ?_)
  · have hk' : k < l.length := by simp at hc; omega
    repeat (first | refine AP.seq rfl ?_ | refine AE.seq ?_ | refine AP.block rfl ?_ | refine AP.scope rfl ?_ | refine AP.label rfl ?_ | refine AE.sc ?_ | refine AE.sc_exit ?_ | refine AE.sc_ret ?_ | refine AP.skip rfl ?_ | refine AP.ret rfl ?_ | refine AP.exit rfl ?_ | refine AE.seq_exit ?_ | refine AE.seq_ret ?_ | refine AE.blk ?_ | refine AE.blk_exit ?_ | refine AE.blk_exit_ne rfl ?_ | refine AE.blk_ret ?_ | refine AE.lp_exit ?_ | refine AE.lp_ret ?_ | refine AQ.done ?_ | refine AQ.s2b (by kernel_rfl) rfl rfl rfl rfl ?_ | refine AQ.mark (by kernel_rfl) rfl rfl rfl rfl rfl rfl rfl ?_ | refine AP.cond_true rfl rfl ?_ | refine AP.cond_false rfl rfl ?_ | (refine AP.region rfl (by kernel_rfl) ?_; simp only [go_sem, Nat.reduceAdd, reduceCtorEq, hw, byteR_len, byteR_get _ _ hk']) | (refine vq_id ?_; simp only [go_sem, Nat.reduceAdd, reduceCtorEq, hw, byteR_len, byteR_get _ _ hk']) | (refine ⟨by first | omega | (intros; simp_all; done) | (intros; simp_all; omega), ?_⟩; try simp only [go_sem, Nat.reduceAdd, reduceCtorEq, hw, byteR_len, byteR_get _ _ hk']))
    refine AQ.callI (by kernel_rfl) rfl rfl rfl (hf (l.getD k 0) (by rw [List.getD_eq_getElem?_getD, List.getElem?_eq_getElem hk']; exact List.getElem_mem hk')) ?_
    repeat (first | refine AP.seq rfl ?_ | refine AE.seq ?_ | refine AP.block rfl ?_ | refine AP.scope rfl ?_ | refine AP.label rfl ?_ | refine AE.sc ?_ | refine AE.sc_exit ?_ | refine AE.sc_ret ?_ | refine AP.skip rfl ?_ | refine AP.ret rfl ?_ | refine AP.exit rfl ?_ | refine AE.seq_exit ?_ | refine AE.seq_ret ?_ | refine AE.blk ?_ | refine AE.blk_exit ?_ | refine AE.blk_exit_ne rfl ?_ | refine AE.blk_ret ?_ | refine AE.lp_exit ?_ | refine AE.lp_ret ?_ | refine AQ.done ?_ | refine AQ.s2b (by kernel_rfl) rfl rfl rfl rfl ?_ | refine AQ.mark (by kernel_rfl) rfl rfl rfl rfl rfl rfl rfl ?_ | refine AP.cond_true rfl rfl ?_ | refine AP.cond_false rfl rfl ?_ | (refine AP.region rfl (by kernel_rfl) ?_; simp only [go_sem, Nat.reduceAdd, reduceCtorEq, hw]) | (refine vq_id ?_; simp only [go_sem, Nat.reduceAdd, reduceCtorEq, hw]) | (refine ⟨by first | omega | (intros; simp_all; done) | (intros; simp_all; omega), ?_⟩; try simp only [go_sem, Nat.reduceAdd, reduceCtorEq, hw]))
    refine AP.cond rfl rfl (fun h2 => ?_) (fun h2 => ?_)
    · repeat (first | refine AP.seq rfl ?_ | refine AE.seq ?_ | refine AP.block rfl ?_ | refine AP.scope rfl ?_ | refine AP.label rfl ?_ | refine AE.sc ?_ | refine AE.sc_exit ?_ | refine AE.sc_ret ?_ | refine AP.skip rfl ?_ | refine AP.ret rfl ?_ | refine AP.exit rfl ?_ | refine AE.seq_exit ?_ | refine AE.seq_ret ?_ | refine AE.blk ?_ | refine AE.blk_exit ?_ | refine AE.blk_exit_ne rfl ?_ | refine AE.blk_ret ?_ | refine AE.lp_exit ?_ | refine AE.lp_ret ?_ | refine AQ.done ?_ | refine AQ.s2b (by kernel_rfl) rfl rfl rfl rfl ?_ | refine AQ.mark (by kernel_rfl) rfl rfl rfl rfl rfl rfl rfl ?_ | refine AP.cond_true rfl rfl ?_ | refine AP.cond_false rfl rfl ?_ | (refine AP.region rfl (by kernel_rfl) ?_; simp only [go_sem, Nat.reduceAdd, reduceCtorEq, hw]) | (refine vq_id ?_; simp only [go_sem, Nat.reduceAdd, reduceCtorEq, hw]) | (refine ⟨by first | omega | (intros; simp_all; done) | (intros; simp_all; omega), ?_⟩; try simp only [go_sem, Nat.reduceAdd, reduceCtorEq, hw]))
      exact AE.ret rfl ⟨rfl, trivial⟩ ⟨rfl, by rw [fidx_at p l k hk' hx h2]; rfl⟩
    · repeat (first | refine AP.seq rfl ?_ | refine AE.seq ?_ | refine AP.block rfl ?_ | refine AP.scope rfl ?_ | refine AP.label rfl ?_ | refine AE.sc ?_ | refine AE.sc_exit ?_ | refine AE.sc_ret ?_ | refine AP.skip rfl ?_ | refine AP.ret rfl ?_ | refine AP.exit rfl ?_ | refine AE.seq_exit ?_ | refine AE.seq_ret ?_ | refine AE.blk ?_ | refine AE.blk_exit ?_ | refine AE.blk_exit_ne rfl ?_ | refine AE.blk_ret ?_ | refine AE.lp_exit ?_ | refine AE.lp_ret ?_ | refine AQ.done ?_ | refine AQ.s2b (by kernel_rfl) rfl rfl rfl rfl ?_ | refine AQ.mark (by kernel_rfl) rfl rfl rfl rfl rfl rfl rfl ?_ | refine AP.cond_true rfl rfl ?_ | refine AP.cond_false rfl rfl ?_ | (refine AP.region rfl (by kernel_rfl) ?_; simp only [go_sem, Nat.reduceAdd, reduceCtorEq, hw]) | (refine vq_id ?_; simp only [go_sem, Nat.reduceAdd, reduceCtorEq, hw]) | (refine ⟨by first | omega | (intros; simp_all; done) | (intros; simp_all; omega), ?_⟩; try simp only [go_sem, Nat.reduceAdd, reduceCtorEq, hw]))
      exact AE.round (k + 1) ⟨by omega, any_step p l k hk' hx h2⟩ (by omega) (by repeat (first | exact Sub.nil _ | refine Sub.cons rfl ?_)) rfl
  · repeat (first | refine AP.seq rfl ?_ | refine AE.seq ?_ | refine AP.block rfl ?_ | refine AP.scope rfl ?_ | refine AP.label rfl ?_ | refine AE.sc ?_ | refine AE.sc_exit ?_ | refine AE.sc_ret ?_ | refine AP.skip rfl ?_ | refine AP.ret rfl ?_ | refine AP.exit rfl ?_ | refine AE.seq_exit ?_ | refine AE.seq_ret ?_ | refine AE.blk ?_ | refine AE.blk_exit ?_ | refine AE.blk_exit_ne rfl ?_ | refine AE.blk_ret ?_ | refine AE.lp_exit ?_ | refine AE.lp_ret ?_ | refine AQ.done ?_ | refine AQ.s2b (by kernel_rfl) rfl rfl rfl rfl ?_ | refine AQ.mark (by kernel_rfl) rfl rfl rfl rfl rfl rfl rfl ?_ | refine AP.cond_true rfl rfl ?_ | refine AP.cond_false rfl rfl ?_ | (refine AP.region rfl (by kernel_rfl) ?_; simp only [go_sem, Nat.reduceAdd, reduceCtorEq, hw]) | (refine vq_id ?_; simp only [go_sem, Nat.reduceAdd, reduceCtorEq, hw]) | (refine ⟨by first | omega | (intros; simp_all; done) | (intros; simp_all; omega), ?_⟩; try simp only [go_sem, Nat.reduceAdd, reduceCtorEq, hw]))
    have hk' : k = l.length := by simp at hc; omega
    rw [hk', List.take_length] at hx
    exact AE.ret rfl ⟨rfl, trivial⟩ ⟨rfl, by rw [fidx, hx]; rfl⟩
theorem containsFunc_spec (l : List UInt8) (p : UInt8 → Bool) (f : FuncId) (fs caps : List AV) (Hc : Heap) (hl : l.length ≤ 1000000000)
    (hf : ∀ b ∈ l, ACall Try.prog f (fs ++ [.im (.v (.int .u8 b.toNat))] ++ caps) Hc (fun r H' => H' = Hc ∧ r = Bv (p b))) :
    ACall Try.prog 39 [.im (.sl 1 (byteR l)), .fn f fs caps] Hc (fun r H' => H' = Hc ∧ r = Bv (l.any p)) := by
  refine ACall.walk [0, 1, 4] [] Try.func39 rfl Try.ntmps39 (by kernel_rfl) (by rfl) rfl fun w own I0 φ0 => ?_
  repeat (first | refine AP.seq rfl ?_ | refine AE.seq ?_ | refine AP.block rfl ?_ | refine AP.scope rfl ?_ | refine AP.label rfl ?_ | refine AE.sc ?_ | refine AE.sc_exit ?_ | refine AE.sc_ret ?_ | refine AP.skip rfl ?_ | refine AP.ret rfl ?_ | refine AP.exit rfl ?_ | refine AE.seq_exit ?_ | refine AE.seq_ret ?_ | refine AE.blk ?_ | refine AE.blk_exit ?_ | refine AE.blk_exit_ne rfl ?_ | refine AE.blk_ret ?_ | refine AE.lp_exit ?_ | refine AE.lp_ret ?_ | refine AQ.done ?_ | refine AQ.s2b (by kernel_rfl) rfl rfl rfl rfl ?_ | refine AQ.mark (by kernel_rfl) rfl rfl rfl rfl rfl rfl rfl ?_ | refine AP.cond_true rfl rfl ?_ | refine AP.cond_false rfl rfl ?_ | (refine AP.region rfl (by kernel_rfl) ?_; simp only [go_sem, Nat.reduceAdd, reduceCtorEq]) | (refine vq_id ?_; simp only [go_sem, Nat.reduceAdd, reduceCtorEq]) | (refine ⟨by first | omega | (intros; simp_all; done) | (intros; simp_all; omega), ?_⟩; try simp only [go_sem, Nat.reduceAdd, reduceCtorEq]))
  refine AQ.callI (by kernel_rfl) rfl rfl rfl (indexFunc_spec l p f fs caps Hc hl hf) ?_
  repeat (first | refine AP.seq rfl ?_ | refine AE.seq ?_ | refine AP.block rfl ?_ | refine AP.scope rfl ?_ | refine AP.label rfl ?_ | refine AE.sc ?_ | refine AE.sc_exit ?_ | refine AE.sc_ret ?_ | refine AP.skip rfl ?_ | refine AP.ret rfl ?_ | refine AP.exit rfl ?_ | refine AE.seq_exit ?_ | refine AE.seq_ret ?_ | refine AE.blk ?_ | refine AE.blk_exit ?_ | refine AE.blk_exit_ne rfl ?_ | refine AE.blk_ret ?_ | refine AE.lp_exit ?_ | refine AE.lp_ret ?_ | refine AQ.done ?_ | refine AQ.s2b (by kernel_rfl) rfl rfl rfl rfl ?_ | refine AQ.mark (by kernel_rfl) rfl rfl rfl rfl rfl rfl rfl ?_ | refine AP.cond_true rfl rfl ?_ | refine AP.cond_false rfl rfl ?_ | (refine AP.region rfl (by kernel_rfl) ?_; simp only [go_sem, Nat.reduceAdd, reduceCtorEq]) | (refine vq_id ?_; simp only [go_sem, Nat.reduceAdd, reduceCtorEq]) | (refine ⟨by first | omega | (intros; simp_all; done) | (intros; simp_all; omega), ?_⟩; try simp only [go_sem, Nat.reduceAdd, reduceCtorEq]))
  refine AE.ret rfl ⟨rfl, trivial⟩ ⟨rfl, ?_⟩
  have : decide (0 ≤ fidx p l) = l.any p := by
    unfold fidx
    cases h : l.any p <;> simp
  rw [← this]; rfl
end Go.Proofs.Ytilbfhldohibhaa
end

section
namespace Go.Proofs.Ytilbfhldohibhaa
open Go Go.AL Go.RowKit
set_option maxRecDepth 10000
set_option maxHeartbeats 1000000
theorem kwClos (x y m : UInt8) : ACall Try.prog 41 [.im (.v (.int .u8 m.toNat)), .ob 0 0] [(0, .vec 51 1 (byteR [x, y]))] (fun r H' => H' = [(0, .vec 51 1 (byteR [x, y]))] ∧ r = Bv ((x.toNat : Int) == 36 && (y.toNat : Int) == m.toNat)) := by
  refine ACall.walk [0, 1, 3] [] Try.func41 rfl Try.ntmps41 (by kernel_rfl) (by rfl) rfl fun w own I0 φ0 => ?_
  repeat (first | refine AP.seq rfl ?_ | refine AE.seq ?_ | refine AP.block rfl ?_ | refine AP.scope rfl ?_ | refine AP.label rfl ?_ | refine AE.sc ?_ | refine AE.sc_exit ?_ | refine AE.sc_ret ?_ | refine AP.skip rfl ?_ | refine AP.ret rfl ?_ | refine AP.exit rfl ?_ | refine AE.seq_exit ?_ | refine AE.seq_ret ?_ | refine AE.blk ?_ | refine AE.blk_exit ?_ | refine AE.blk_exit_ne rfl ?_ | refine AE.blk_ret ?_ | refine AE.lp_exit ?_ | refine AE.lp_ret ?_ | refine AQ.done ?_ | refine AQ.s2b (by kernel_rfl) rfl rfl rfl rfl ?_ | refine AQ.mark (by kernel_rfl) rfl rfl rfl rfl rfl rfl rfl ?_ | refine AP.cond_true rfl rfl ?_ | refine AP.cond_false rfl rfl ?_ | (refine AP.region rfl (by kernel_rfl) ?_; simp only [go_sem, Nat.reduceAdd, reduceCtorEq, byteR_flat, List.map_cons, List.map_nil, List.length_cons, List.length_nil, List.range, List.range.loop]) | (refine vq_id ?_; simp only [go_sem, Nat.reduceAdd, reduceCtorEq, byteR_flat, List.map_cons, List.map_nil, List.length_cons, List.length_nil, List.range, List.range.loop]) | (refine ⟨by first | omega | (intros; simp_all; done) | (intros; simp_all; omega), ?_⟩; try simp only [go_sem, Nat.reduceAdd, reduceCtorEq, byteR_flat, List.map_cons, List.map_nil, List.length_cons, List.length_nil, List.range, List.range.loop]))
  exact AE.ret rfl ⟨rfl, trivial⟩ ⟨rfl, by simp [tupOf, AV.st]⟩
def isKw (t : List UInt8) : Bool := marksL.any fun m => [36, m] == t
theorem u8_eq (x : UInt8) (n : UInt8) : ((x.toNat : Int) == n.toNat) = (x == n) := by
  rw [Bool.eq_iff_iff, beq_iff_eq, beq_iff_eq]
  constructor
  · intro h; exact UInt8.toNat_inj.1 (by omega)
  · rintro rfl; rfl
theorem isKw_two (x y : UInt8) : isKw [x, y] = marksL.any fun m => (x.toNat : Int) == 36 && (y.toNat : Int) == m.toNat := by
  unfold isKw
  congr 1
  funext m
  rw [u8_eq y m, show ((x.toNat : Int) == 36) = ((x.toNat : Int) == (36 : UInt8).toNat) from rfl, u8_eq x 36]
  rw [Bool.eq_iff_iff]
  simp only [Bool.and_eq_true, beq_iff_eq, List.cons.injEq, and_true]
  constructor <;> rintro ⟨h1, h2⟩ <;> exact ⟨h1.symm, h2.symm⟩
theorem isKeyword_spec (t : List UInt8) (ht : t.length ≤ 1000000000000) : PFn Try.prog 20 [Sv t] (Bv (isKw t)) := by
  refine ACall.walk [0, 2, 3, 6] [3] Try.func20 rfl Try.ntmps20 (by kernel_rfl) (by rfl) rfl fun w own I0 φ0 => ?_
  repeat (first | refine AP.seq rfl ?_ | refine AE.seq ?_ | refine AP.block rfl ?_ | refine AP.scope rfl ?_ | refine AP.label rfl ?_ | refine AE.sc ?_ | refine AE.sc_exit ?_ | refine AE.sc_ret ?_ | refine AP.skip rfl ?_ | refine AP.ret rfl ?_ | refine AP.exit rfl ?_ | refine AE.seq_exit ?_ | refine AE.seq_ret ?_ | refine AE.blk ?_ | refine AE.blk_exit ?_ | refine AE.blk_exit_ne rfl ?_ | refine AE.blk_ret ?_ | refine AE.lp_exit ?_ | refine AE.lp_ret ?_ | refine AQ.done ?_ | refine AQ.s2b (by kernel_rfl) rfl rfl rfl rfl ?_ | refine AQ.mark (by kernel_rfl) rfl rfl rfl rfl rfl rfl rfl ?_ | refine AP.cond_true rfl rfl ?_ | refine AP.cond_false rfl rfl ?_ | (refine AP.region rfl (by kernel_rfl) ?_; simp only [go_sem, Nat.reduceAdd, reduceCtorEq]) | (refine vq_id ?_; simp only [go_sem, Nat.reduceAdd, reduceCtorEq]) | (refine ⟨by first | omega | (intros; simp_all; done) | (intros; simp_all; omega), ?_⟩; try simp only [go_sem, Nat.reduceAdd, reduceCtorEq]))
  refine AP.cond rfl rfl (fun hc => ?_) (fun hc => ?_)
  · repeat (first | refine AP.seq rfl ?_ | refine AE.seq ?_ | refine AP.block rfl ?_ | refine AP.scope rfl ?_ | refine AP.label rfl ?_ | refine AE.sc ?_ | refine AE.sc_exit ?_ | refine AE.sc_ret ?_ | refine AP.skip rfl ?_ | refine AP.ret rfl ?_ | refine AP.exit rfl ?_ | refine AE.seq_exit ?_ | refine AE.seq_ret ?_ | refine AE.blk ?_ | refine AE.blk_exit ?_ | refine AE.blk_exit_ne rfl ?_ | refine AE.blk_ret ?_ | refine AE.lp_exit ?_ | refine AE.lp_ret ?_ | refine AQ.done ?_ | refine AQ.s2b (by kernel_rfl) rfl rfl rfl rfl ?_ | refine AQ.mark (by kernel_rfl) rfl rfl rfl rfl rfl rfl rfl ?_ | refine AP.cond_true rfl rfl ?_ | refine AP.cond_false rfl rfl ?_ | (refine AP.region rfl (by kernel_rfl) ?_; simp only [go_sem, Nat.reduceAdd, reduceCtorEq]) | (refine vq_id ?_; simp only [go_sem, Nat.reduceAdd, reduceCtorEq]) | (refine ⟨by first | omega | (intros; simp_all; done) | (intros; simp_all; omega), ?_⟩; try simp only [go_sem, Nat.reduceAdd, reduceCtorEq]))
    refine AE.ret rfl ⟨rfl, trivial⟩ ⟨rfl, ?_⟩
    have : isKw t = false := by
      simp only [bne_iff_ne, ne_eq] at hc
      unfold isKw
      rw [List.any_eq_false]
      intro m _ h
      rw [beq_iff_eq] at h
      subst h
      exact hc rfl
    rw [this]; rfl
  · have h2 : t.length = 2 := by simp at hc; omega
    match t, h2 with
    | [x, y], _ =>
      repeat (first | refine AP.seq rfl ?_ | refine AE.seq ?_ | refine AP.block rfl ?_ | refine AP.scope rfl ?_ | refine AP.label rfl ?_ | refine AE.sc ?_ | refine AE.sc_exit ?_ | refine AE.sc_ret ?_ | refine AP.skip rfl ?_ | refine AP.ret rfl ?_ | refine AP.exit rfl ?_ | refine AE.seq_exit ?_ | refine AE.seq_ret ?_ | refine AE.blk ?_ | refine AE.blk_exit ?_ | refine AE.blk_exit_ne rfl ?_ | refine AE.blk_ret ?_ | refine AE.lp_exit ?_ | refine AE.lp_ret ?_ | refine AQ.done ?_ | refine AQ.s2b (by kernel_rfl) rfl rfl rfl rfl ?_ | refine AQ.mark (by kernel_rfl) rfl rfl rfl rfl rfl rfl rfl ?_ | refine AP.cond_true rfl rfl ?_ | refine AP.cond_false rfl rfl ?_ | (refine AP.region rfl (by kernel_rfl) ?_; simp only [go_sem, Nat.reduceAdd, reduceCtorEq, byteR_flat, byteR_len, List.map_cons, List.map_nil, List.length_cons, List.length_nil]) | (refine vq_id ?_; simp only [go_sem, Nat.reduceAdd, reduceCtorEq, byteR_flat, byteR_len, List.map_cons, List.map_nil, List.length_cons, List.length_nil]) | (refine ⟨by first | omega | (intros; simp_all; done) | (intros; simp_all; omega), ?_⟩; try simp only [go_sem, Nat.reduceAdd, reduceCtorEq, byteR_flat, byteR_len, List.map_cons, List.map_nil, List.length_cons, List.length_nil]))
      have e : [[IV.v (Value.int IntKind.u8 x.toNat)], [IV.v (Value.int IntKind.u8 y.toNat)]] = byteR [x, y] := rfl
      refine AQ.fn (by kernel_rfl) rfl rfl rfl (marks_spec) rfl ?_
      repeat (first | refine AP.seq rfl ?_ | refine AE.seq ?_ | refine AP.block rfl ?_ | refine AP.scope rfl ?_ | refine AP.label rfl ?_ | refine AE.sc ?_ | refine AE.sc_exit ?_ | refine AE.sc_ret ?_ | refine AP.skip rfl ?_ | refine AP.ret rfl ?_ | refine AP.exit rfl ?_ | refine AE.seq_exit ?_ | refine AE.seq_ret ?_ | refine AE.blk ?_ | refine AE.blk_exit ?_ | refine AE.blk_exit_ne rfl ?_ | refine AE.blk_ret ?_ | refine AE.lp_exit ?_ | refine AE.lp_ret ?_ | refine AQ.done ?_ | refine AQ.s2b (by kernel_rfl) rfl rfl rfl rfl ?_ | refine AQ.mark (by kernel_rfl) rfl rfl rfl rfl rfl rfl rfl ?_ | refine AP.cond_true rfl rfl ?_ | refine AP.cond_false rfl rfl ?_ | (refine AP.region rfl (by kernel_rfl) ?_; simp only [go_sem, Nat.reduceAdd, reduceCtorEq]) | (refine vq_id ?_; simp only [go_sem, Nat.reduceAdd, reduceCtorEq]) | (refine ⟨by first | omega | (intros; simp_all; done) | (intros; simp_all; omega), ?_⟩; try simp only [go_sem, Nat.reduceAdd, reduceCtorEq]))
      refine AQ.callI (by kernel_rfl) rfl rfl rfl (containsFunc_spec marksL _ 41 [] [.ob 0 0] _ (by decide) (fun m _ => kwClos x y m)) ?_
      repeat (first | refine AP.seq rfl ?_ | refine AE.seq ?_ | refine AP.block rfl ?_ | refine AP.scope rfl ?_ | refine AP.label rfl ?_ | refine AE.sc ?_ | refine AE.sc_exit ?_ | refine AE.sc_ret ?_ | refine AP.skip rfl ?_ | refine AP.ret rfl ?_ | refine AP.exit rfl ?_ | refine AE.seq_exit ?_ | refine AE.seq_ret ?_ | refine AE.blk ?_ | refine AE.blk_exit ?_ | refine AE.blk_exit_ne rfl ?_ | refine AE.blk_ret ?_ | refine AE.lp_exit ?_ | refine AE.lp_ret ?_ | refine AQ.done ?_ | refine AQ.s2b (by kernel_rfl) rfl rfl rfl rfl ?_ | refine AQ.mark (by kernel_rfl) rfl rfl rfl rfl rfl rfl rfl ?_ | refine AP.cond_true rfl rfl ?_ | refine AP.cond_false rfl rfl ?_ | (refine AP.region rfl (by kernel_rfl) ?_; simp only [go_sem, Nat.reduceAdd, reduceCtorEq]) | (refine vq_id ?_; simp only [go_sem, Nat.reduceAdd, reduceCtorEq]) | (refine ⟨by first | omega | (intros; simp_all; done) | (intros; simp_all; omega), ?_⟩; try simp only [go_sem, Nat.reduceAdd, reduceCtorEq]))
      exact AE.ret0 rfl ⟨rfl, trivial⟩ rfl ⟨rfl, by rw [isKw_two]; rfl⟩
def kwRows (l : List UInt8) : List (List UInt8) := l.map fun c => [36, c]
theorem keywords_ref : PFn Try.prog 29 [] (.im (.sl 1 (strRows (kwRows marksL)))) := by
  refine ACall.walk [0] [] Try.func29 rfl Try.ntmps29 (by kernel_rfl) (by rfl) rfl fun w own I0 φ0 => ?_
  repeat (first | refine AP.seq rfl ?_ | refine AE.seq ?_ | refine AP.block rfl ?_ | refine AP.scope rfl ?_ | refine AP.label rfl ?_ | refine AE.sc ?_ | refine AE.sc_exit ?_ | refine AE.sc_ret ?_ | refine AP.skip rfl ?_ | refine AP.ret rfl ?_ | refine AP.exit rfl ?_ | refine AE.seq_exit ?_ | refine AE.seq_ret ?_ | refine AE.blk ?_ | refine AE.blk_exit ?_ | refine AE.blk_exit_ne rfl ?_ | refine AE.blk_ret ?_ | refine AE.lp_exit ?_ | refine AE.lp_ret ?_ | refine AQ.done ?_ | refine AQ.s2b (by kernel_rfl) rfl rfl rfl rfl ?_ | refine AQ.mark (by kernel_rfl) rfl rfl rfl rfl rfl rfl rfl ?_ | refine AP.cond_true rfl rfl ?_ | refine AP.cond_false rfl rfl ?_ | (refine AP.region rfl (by kernel_rfl) ?_; simp only [go_sem, Nat.reduceAdd, reduceCtorEq]) | (refine vq_id ?_; simp only [go_sem, Nat.reduceAdd, reduceCtorEq]) | (refine ⟨by first | omega | (intros; simp_all; done) | (intros; simp_all; omega), ?_⟩; try simp only [go_sem, Nat.reduceAdd, reduceCtorEq]))
  exact AE.ret rfl ⟨rfl, trivial⟩ ⟨rfl, rfl⟩
theorem isKeyword_ref (t : List UInt8) (ht : t.length ≤ 1000000000000) : PFn Try.prog 21 [Sv t] (Bv (isKw t)) := by
  refine ACall.walk [0, 2, 3, 4, 9, 17] [] Try.func21 rfl Try.ntmps21 (by kernel_rfl) (by rfl) rfl fun w own I0 φ0 => ?_
  repeat (first | refine AP.seq rfl ?_ | refine AE.seq ?_ | refine AP.block rfl ?_ | refine AP.scope rfl ?_ | refine AP.label rfl ?_ | refine AE.sc ?_ | refine AE.sc_exit ?_ | refine AE.sc_ret ?_ | refine AP.skip rfl ?_ | refine AP.ret rfl ?_ | refine AP.exit rfl ?_ | refine AE.seq_exit ?_ | refine AE.seq_ret ?_ | refine AE.blk ?_ | refine AE.blk_exit ?_ | refine AE.blk_exit_ne rfl ?_ | refine AE.blk_ret ?_ | refine AE.lp_exit ?_ | refine AE.lp_ret ?_ | refine AQ.done ?_ | refine AQ.s2b (by kernel_rfl) rfl rfl rfl rfl ?_ | refine AQ.mark (by kernel_rfl) rfl rfl rfl rfl rfl rfl rfl ?_ | refine AP.cond_true rfl rfl ?_ | refine AP.cond_false rfl rfl ?_ | (refine AP.region rfl (by kernel_rfl) ?_; simp only [go_sem, Nat.reduceAdd, reduceCtorEq]) | (refine vq_id ?_; simp only [go_sem, Nat.reduceAdd, reduceCtorEq]) | (refine ⟨by first | omega | (intros; simp_all; done) | (intros; simp_all; omega), ?_⟩; try simp only [go_sem, Nat.reduceAdd, reduceCtorEq]))
  refine AQ.fn (by kernel_rfl) rfl rfl rfl (keywords_ref) rfl ?_
  repeat (first | refine AP.seq rfl ?_ | refine AE.seq ?_ | refine AP.block rfl ?_ | refine AP.scope rfl ?_ | refine AP.label rfl ?_ | refine AE.sc ?_ | refine AE.sc_exit ?_ | refine AE.sc_ret ?_ | refine AP.skip rfl ?_ | refine AP.ret rfl ?_ | refine AP.exit rfl ?_ | refine AE.seq_exit ?_ | refine AE.seq_ret ?_ | refine AE.blk ?_ | refine AE.blk_exit ?_ | refine AE.blk_exit_ne rfl ?_ | refine AE.blk_ret ?_ | refine AE.lp_exit ?_ | refine AE.lp_ret ?_ | refine AQ.done ?_ | refine AQ.s2b (by kernel_rfl) rfl rfl rfl rfl ?_ | refine AQ.mark (by kernel_rfl) rfl rfl rfl rfl rfl rfl rfl ?_ | refine AP.cond_true rfl rfl ?_ | refine AP.cond_false rfl rfl ?_ | (refine AP.region rfl (by kernel_rfl) ?_; simp only [go_sem, Nat.reduceAdd, reduceCtorEq, strRows_len]) | (refine vq_id ?_; simp only [go_sem, Nat.reduceAdd, reduceCtorEq, strRows_len]) | (refine ⟨by first | omega | (intros; simp_all; done) | (intros; simp_all; omega), ?_⟩; try simp only [go_sem, Nat.reduceAdd, reduceCtorEq, strRows_len]))
  have hlen : (kwRows marksL).length = 15 := rfl
  refine AP.loop rfl (α := Nat) (fun k => [(0, Sv t), (3, .im (.sl 1 (strRows (kwRows marksL)))), (4, Iv k)]) (fun k => []) (fun k => k ≤ 15 ∧ ((kwRows marksL).take k).any (fun s => s == t) = false) (fun k => 15 - k) 0 (by simp) (by repeat (first | exact Sub.nil _ | refine Sub.cons rfl ?_)) rfl fun k hk => ?_
  obtain ⟨hk, hx⟩ := hk
  have hw := wr (x := (k : Int) + 1) (by omega)
  repeat (first | refine AP.seq rfl ?_ | refine AE.seq ?_ | refine AP.block rfl ?_ | refine AP.scope rfl ?_ | refine AP.label rfl ?_ | refine AE.sc ?_ | refine AE.sc_exit ?_ | refine AE.sc_ret ?_ | refine AP.skip rfl ?_ | refine AP.ret rfl ?_ | refine AP.exit rfl ?_ | refine AE.seq_exit ?_ | refine AE.seq_ret ?_ | refine AE.blk ?_ | refine AE.blk_exit ?_ | refine AE.blk_exit_ne rfl ?_ | refine AE.blk_ret ?_ | refine AE.lp_exit ?_ | refine AE.lp_ret ?_ | refine AQ.done ?_ | refine AQ.s2b (by kernel_rfl) rfl rfl rfl rfl ?_ | refine AQ.mark (by kernel_rfl) rfl rfl rfl rfl rfl rfl rfl ?_ | refine AP.cond_true rfl rfl ?_ | refine AP.cond_false rfl rfl ?_ | (refine AP.region rfl (by kernel_rfl) ?_; simp only [go_sem, Nat.reduceAdd, reduceCtorEq, hw, strRows_len, hlen]) | (refine vq_id ?_; simp only [go_sem, Nat.reduceAdd, reduceCtorEq, hw, strRows_len, hlen]) | (refine ⟨by first | omega | (intros; simp_all; done) | (intros; simp_all; omega), ?_⟩; try simp only [go_sem, Nat.reduceAdd, reduceCtorEq, hw, strRows_len, hlen]))
  refine AP.cond rfl rfl (fun hc => ?_) (fun hc => ?_)
  · have hk' : k < 15 := by simp at hc; omega
    repeat (first | refine AP.seq rfl ?_ | refine AE.seq ?_ | refine AP.block rfl ?_ | refine AP.scope rfl ?_ | refine AP.label rfl ?_ | refine AE.sc ?_ | refine AE.sc_exit ?_ | refine AE.sc_ret ?_ | refine AP.skip rfl ?_ | refine AP.ret rfl ?_ | refine AP.exit rfl ?_ | refine AE.seq_exit ?_ | refine AE.seq_ret ?_ | refine AE.blk ?_ | refine AE.blk_exit ?_ | refine AE.blk_exit_ne rfl ?_ | refine AE.blk_ret ?_ | refine AE.lp_exit ?_ | refine AE.lp_ret ?_ | refine AQ.done ?_ | refine AQ.s2b (by kernel_rfl) rfl rfl rfl rfl ?_ | refine AQ.mark (by kernel_rfl) rfl rfl rfl rfl rfl rfl rfl ?_ | refine AP.cond_true rfl rfl ?_ | refine AP.cond_false rfl rfl ?_ | (refine AP.region rfl (by kernel_rfl) ?_; simp only [go_sem, Nat.reduceAdd, reduceCtorEq, hw, strRows_len, hlen, strRows_get _ _ (show k < (kwRows marksL).length from hk')]) | (refine vq_id ?_; simp only [go_sem, Nat.reduceAdd, reduceCtorEq, hw, strRows_len, hlen, strRows_get _ _ (show k < (kwRows marksL).length from hk')]) | (refine ⟨by first | omega | (intros; simp_all; done) | (intros; simp_all; omega), ?_⟩; try simp only [go_sem, Nat.reduceAdd, reduceCtorEq, hw, strRows_len, hlen, strRows_get _ _ (show k < (kwRows marksL).length from hk')]))
    refine AP.cond rfl rfl (fun h2 => ?_) (fun h2 => ?_)
    · repeat (first | refine AP.seq rfl ?_ | refine AE.seq ?_ | refine AP.block rfl ?_ | refine AP.scope rfl ?_ | refine AP.label rfl ?_ | refine AE.sc ?_ | refine AE.sc_exit ?_ | refine AE.sc_ret ?_ | refine AP.skip rfl ?_ | refine AP.ret rfl ?_ | refine AP.exit rfl ?_ | refine AE.seq_exit ?_ | refine AE.seq_ret ?_ | refine AE.blk ?_ | refine AE.blk_exit ?_ | refine AE.blk_exit_ne rfl ?_ | refine AE.blk_ret ?_ | refine AE.lp_exit ?_ | refine AE.lp_ret ?_ | refine AQ.done ?_ | refine AQ.s2b (by kernel_rfl) rfl rfl rfl rfl ?_ | refine AQ.mark (by kernel_rfl) rfl rfl rfl rfl rfl rfl rfl ?_ | refine AP.cond_true rfl rfl ?_ | refine AP.cond_false rfl rfl ?_ | (refine AP.region rfl (by kernel_rfl) ?_; simp only [go_sem, Nat.reduceAdd, reduceCtorEq, hw]) | (refine vq_id ?_; simp only [go_sem, Nat.reduceAdd, reduceCtorEq, hw]) | (refine ⟨by first | omega | (intros; simp_all; done) | (intros; simp_all; omega), ?_⟩; try simp only [go_sem, Nat.reduceAdd, reduceCtorEq, hw]))
      refine AE.ret rfl ⟨rfl, trivial⟩ ⟨rfl, ?_⟩
      have : isKw t = true := by
        unfold isKw
        rw [beq_iff_eq] at h2
        have hm : t ∈ kwRows marksL := by
          rw [← h2, List.getD_eq_getElem?_getD, List.getElem?_eq_getElem (show k < (kwRows marksL).length from hk')]
          exact List.getElem_mem _
        obtain ⟨m, hm1, hm2⟩ := List.mem_map.1 hm
        rw [List.any_eq_true]
        exact ⟨m, hm1, by rw [hm2]; simp⟩
      rw [this]; rfl
    · repeat (first | refine AP.seq rfl ?_ | refine AE.seq ?_ | refine AP.block rfl ?_ | refine AP.scope rfl ?_ | refine AP.label rfl ?_ | refine AE.sc ?_ | refine AE.sc_exit ?_ | refine AE.sc_ret ?_ | refine AP.skip rfl ?_ | refine AP.ret rfl ?_ | refine AP.exit rfl ?_ | refine AE.seq_exit ?_ | refine AE.seq_ret ?_ | refine AE.blk ?_ | refine AE.blk_exit ?_ | refine AE.blk_exit_ne rfl ?_ | refine AE.blk_ret ?_ | refine AE.lp_exit ?_ | refine AE.lp_ret ?_ | refine AQ.done ?_ | refine AQ.s2b (by kernel_rfl) rfl rfl rfl rfl ?_ | refine AQ.mark (by kernel_rfl) rfl rfl rfl rfl rfl rfl rfl ?_ | refine AP.cond_true rfl rfl ?_ | refine AP.cond_false rfl rfl ?_ | (refine AP.region rfl (by kernel_rfl) ?_; simp only [go_sem, Nat.reduceAdd, reduceCtorEq, hw]) | (refine vq_id ?_; simp only [go_sem, Nat.reduceAdd, reduceCtorEq, hw]) | (refine ⟨by first | omega | (intros; simp_all; done) | (intros; simp_all; omega), ?_⟩; try simp only [go_sem, Nat.reduceAdd, reduceCtorEq, hw]))
      refine AE.round (k + 1) ⟨by omega, ?_⟩ (by omega) (by repeat (first | exact Sub.nil _ | refine Sub.cons rfl ?_)) rfl
      rw [List.take_add_one, List.getElem?_eq_getElem (show k < (kwRows marksL).length from hk'), List.any_append, hx]
      rw [List.getD_eq_getElem?_getD, List.getElem?_eq_getElem (show k < (kwRows marksL).length from hk')] at h2
      simpa using h2
  · repeat (first | refine AP.seq rfl ?_ | refine AE.seq ?_ | refine AP.block rfl ?_ | refine AP.scope rfl ?_ | refine AP.label rfl ?_ | refine AE.sc ?_ | refine AE.sc_exit ?_ | refine AE.sc_ret ?_ | refine AP.skip rfl ?_ | refine AP.ret rfl ?_ | refine AP.exit rfl ?_ | refine AE.seq_exit ?_ | refine AE.seq_ret ?_ | refine AE.blk ?_ | refine AE.blk_exit ?_ | refine AE.blk_exit_ne rfl ?_ | refine AE.blk_ret ?_ | refine AE.lp_exit ?_ | refine AE.lp_ret ?_ | refine AQ.done ?_ | refine AQ.s2b (by kernel_rfl) rfl rfl rfl rfl ?_ | refine AQ.mark (by kernel_rfl) rfl rfl rfl rfl rfl rfl rfl ?_ | refine AP.cond_true rfl rfl ?_ | refine AP.cond_false rfl rfl ?_ | (refine AP.region rfl (by kernel_rfl) ?_; simp only [go_sem, Nat.reduceAdd, reduceCtorEq, hw]) | (refine vq_id ?_; simp only [go_sem, Nat.reduceAdd, reduceCtorEq, hw]) | (refine ⟨by first | omega | (intros; simp_all; done) | (intros; simp_all; omega), ?_⟩; try simp only [go_sem, Nat.reduceAdd, reduceCtorEq, hw]))
    refine AE.ret rfl ⟨rfl, trivial⟩ ⟨rfl, ?_⟩
    have hk' : k = 15 := by simp at hc; omega
    have : isKw t = false := by
      rw [hk', show (kwRows marksL).take 15 = kwRows marksL from rfl, kwRows, List.any_map] at hx
      exact hx
    rw [this]; rfl
theorem wrap_i32 (n : Int) (h : 0 ≤ n ∧ n < 256) : IntKind.i32.wrap n = n := by simp [IntKind.wrap, IntKind.bits, IntKind.signed]; omega
theorem enc_ascii (c : UInt8) (h : c.toNat < 128) : Utf8.encode (c.toNat : Int) = BA [c] := by
  have hv : Utf8.valid (c.toNat : Int) = true := by simp [Utf8.valid]; omega
  simp only [Utf8.encode, hv, if_true, Int.toNat_natCast]
  rw [if_pos (by omega)]
  simp [BA]
theorem marks_lt (k : Nat) (hk : k < 15) : (marksL.getD k 0).toNat < 128 := by
  have : (List.range 15).all (fun k => decide ((marksL.getD k 0).toNat < 128)) = true := by decide +kernel
  rw [List.all_eq_true] at this
  simpa using this k (List.mem_range.2 hk)
theorem keywords_spec : PFn Try.prog 28 [] (.im (.sl 1 (strRows (kwRows marksL)))) := by
  refine ACall.walk [0, 1, 3, 4, 5, 6, 7] [] Try.func28 rfl Try.ntmps28 (by kernel_rfl) (by rfl) rfl fun w own I0 φ0 => ?_
  repeat (first | refine AP.seq rfl ?_ | refine AE.seq ?_ | refine AP.block rfl ?_ | refine AP.scope rfl ?_ | refine AP.label rfl ?_ | refine AE.sc ?_ | refine AE.sc_exit ?_ | refine AE.sc_ret ?_ | refine AP.skip rfl ?_ | refine AP.ret rfl ?_ | refine AP.exit rfl ?_ | refine AE.seq_exit ?_ | refine AE.seq_ret ?_ | refine AE.blk ?_ | refine AE.blk_exit ?_ | refine AE.blk_exit_ne rfl ?_ | refine AE.blk_ret ?_ | refine AE.lp_exit ?_ | refine AE.lp_ret ?_ | refine AQ.done ?_ | refine AQ.s2b (by kernel_rfl) rfl rfl rfl rfl ?_ | refine AQ.mark (by kernel_rfl) rfl rfl rfl rfl rfl rfl rfl ?_ | refine AP.cond_true rfl rfl ?_ | refine AP.cond_false rfl rfl ?_ | (refine AP.region rfl (by kernel_rfl) ?_; simp only [go_sem, Nat.reduceAdd, reduceCtorEq]) | (refine vq_id ?_; simp only [go_sem, Nat.reduceAdd, reduceCtorEq]) | (refine ⟨by first | omega | (intros; simp_all; done) | (intros; simp_all; omega), ?_⟩; try simp only [go_sem, Nat.reduceAdd, reduceCtorEq]))
  refine AQ.fn (by kernel_rfl) rfl rfl rfl (marks_spec) rfl ?_
  repeat (first | refine AP.seq rfl ?_ | refine AE.seq ?_ | refine AP.block rfl ?_ | refine AP.scope rfl ?_ | refine AP.label rfl ?_ | refine AE.sc ?_ | refine AE.sc_exit ?_ | refine AE.sc_ret ?_ | refine AP.skip rfl ?_ | refine AP.ret rfl ?_ | refine AP.exit rfl ?_ | refine AE.seq_exit ?_ | refine AE.seq_ret ?_ | refine AE.blk ?_ | refine AE.blk_exit ?_ | refine AE.blk_exit_ne rfl ?_ | refine AE.blk_ret ?_ | refine AE.lp_exit ?_ | refine AE.lp_ret ?_ | refine AQ.done ?_ | refine AQ.s2b (by kernel_rfl) rfl rfl rfl rfl ?_ | refine AQ.mark (by kernel_rfl) rfl rfl rfl rfl rfl rfl rfl ?_ | refine AP.cond_true rfl rfl ?_ | refine AP.cond_false rfl rfl ?_ | (refine AP.region rfl (by kernel_rfl) ?_; simp only [go_sem, Nat.reduceAdd, reduceCtorEq, byteR_len]) | (refine vq_id ?_; simp only [go_sem, Nat.reduceAdd, reduceCtorEq, byteR_len]) | (refine ⟨by first | omega | (intros; simp_all; done) | (intros; simp_all; omega), ?_⟩; try simp only [go_sem, Nat.reduceAdd, reduceCtorEq, byteR_len]))
  refine AP.own 1 9 1 rfl ?_
  refine AP.loop rfl (α := Nat) (fun k => [(1, .os 0 1 0 k), (4, .im (.sl 1 (byteR marksL))), (5, Iv 15), (6, Iv k)]) (fun k => [(0, .vec 9 1 (strRows (kwRows (marksL.take k))))]) (fun k => k ≤ 15) (fun k => 15 - k) 0 (by simp) (by repeat (first | exact Sub.nil _ | refine Sub.cons rfl ?_)) rfl fun k hk => ?_
  have hw := wr (x := (k : Int) + 1) (by omega)
  have hlen : (strRows (kwRows (marksL.take k))).length = k := by rw [strRows_len, kwRows, List.length_map, List.length_take]; show min k 15 = k; omega
  repeat (first | refine AP.seq rfl ?_ | refine AE.seq ?_ | refine AP.block rfl ?_ | refine AP.scope rfl ?_ | refine AP.label rfl ?_ | refine AE.sc ?_ | refine AE.sc_exit ?_ | refine AE.sc_ret ?_ | refine AP.skip rfl ?_ | refine AP.ret rfl ?_ | refine AP.exit rfl ?_ | refine AE.seq_exit ?_ | refine AE.seq_ret ?_ | refine AE.blk ?_ | refine AE.blk_exit ?_ | refine AE.blk_exit_ne rfl ?_ | refine AE.blk_ret ?_ | refine AE.lp_exit ?_ | refine AE.lp_ret ?_ | refine AQ.done ?_ | refine AQ.s2b (by kernel_rfl) rfl rfl rfl rfl ?_ | refine AQ.mark (by kernel_rfl) rfl rfl rfl rfl rfl rfl rfl ?_ | refine AP.cond_true rfl rfl ?_ | refine AP.cond_false rfl rfl ?_ | (refine AP.region rfl (by kernel_rfl) ?_; simp only [go_sem, Nat.reduceAdd, reduceCtorEq, hw]) | (refine vq_id ?_; simp only [go_sem, Nat.reduceAdd, reduceCtorEq, hw]) | (refine ⟨by first | omega | (intros; simp_all; done) | (intros; simp_all; omega), ?_⟩; try simp only [go_sem, Nat.reduceAdd, reduceCtorEq, hw]))
  refine AP.cond rfl rfl (fun hc => ?_) (fun hc => ?_)
  · have hk' : k < 15 := by simp at hc; omega
    have hb := (marksL.getD k 0).toNat_lt
    have hu : IntKind.i32.wrap ((marksL.getD k 0).toNat : Int) = ((marksL.getD k 0).toNat : Int) := wrap_i32 _ (by omega)
    have hml : marksL.length = 15 := rfl
    repeat (first | refine AP.seq rfl ?_ | refine AE.seq ?_ | refine AP.block rfl ?_ | refine AP.scope rfl ?_ | refine AP.label rfl ?_ | refine AE.sc ?_ | refine AE.sc_exit ?_ | refine AE.sc_ret ?_ | refine AP.skip rfl ?_ | refine AP.ret rfl ?_ | refine AP.exit rfl ?_ | refine AE.seq_exit ?_ | refine AE.seq_ret ?_ | refine AE.blk ?_ | refine AE.blk_exit ?_ | refine AE.blk_exit_ne rfl ?_ | refine AE.blk_ret ?_ | refine AE.lp_exit ?_ | refine AE.lp_ret ?_ | refine AQ.done ?_ | refine AQ.s2b (by kernel_rfl) rfl rfl rfl rfl ?_ | refine AQ.mark (by kernel_rfl) rfl rfl rfl rfl rfl rfl rfl ?_ | refine AP.cond_true rfl rfl ?_ | refine AP.cond_false rfl rfl ?_ | (refine AP.region rfl (by kernel_rfl) ?_; simp only [go_sem, Nat.reduceAdd, reduceCtorEq, hw, hml, byteR_len, byteR_get marksL k (show k < marksL.length from hk'), hu, enc_ascii _ (marks_lt k hk')]) | (refine vq_id ?_; simp only [go_sem, Nat.reduceAdd, reduceCtorEq, hw, hml, byteR_len, byteR_get marksL k (show k < marksL.length from hk'), hu, enc_ascii _ (marks_lt k hk')]) | (refine ⟨by first | omega | (intros; simp_all; done) | (intros; simp_all; omega), ?_⟩; try simp only [go_sem, Nat.reduceAdd, reduceCtorEq, hw, hml, byteR_len, byteR_get marksL k (show k < marksL.length from hk'), hu, enc_ascii _ (marks_lt k hk')]))
    refine AQ.append (hnb := rfl) (rows := strRows (kwRows (marksL.take k))) (xs := [[Si [36, marksL.getD k 0]]]) (es := 0) (by kernel_rfl) rfl rfl rfl rfl Try.tk23 Try.sz9 (by rw [Try.zr9]; rfl) Try.by9 hlen.symm (by simp only [hlen, List.length_cons, List.length_nil]; omega) (by simp only [hlen, List.length_cons, List.length_nil]; omega) ?_
    have hlen2 : (kwRows (marksL.take k)).length = k := by rw [← strRows_len]; exact hlen
    repeat (first | refine AP.seq rfl ?_ | refine AE.seq ?_ | refine AP.block rfl ?_ | refine AP.scope rfl ?_ | refine AP.label rfl ?_ | refine AE.sc ?_ | refine AE.sc_exit ?_ | refine AE.sc_ret ?_ | refine AP.skip rfl ?_ | refine AP.ret rfl ?_ | refine AP.exit rfl ?_ | refine AE.seq_exit ?_ | refine AE.seq_ret ?_ | refine AE.blk ?_ | refine AE.blk_exit ?_ | refine AE.blk_exit_ne rfl ?_ | refine AE.blk_ret ?_ | refine AE.lp_exit ?_ | refine AE.lp_ret ?_ | refine AQ.done ?_ | refine AQ.s2b (by kernel_rfl) rfl rfl rfl rfl ?_ | refine AQ.mark (by kernel_rfl) rfl rfl rfl rfl rfl rfl rfl ?_ | refine AP.cond_true rfl rfl ?_ | refine AP.cond_false rfl rfl ?_ | (refine AP.region rfl (by kernel_rfl) ?_; simp only [go_sem, Nat.reduceAdd, reduceCtorEq, hw, hlen2]) | (refine vq_id ?_; simp only [go_sem, Nat.reduceAdd, reduceCtorEq, hw, hlen2]) | (refine ⟨by first | omega | (intros; simp_all; done) | (intros; simp_all; omega), ?_⟩; try simp only [go_sem, Nat.reduceAdd, reduceCtorEq, hw, hlen2]))
    refine AE.round (k + 1) (by omega) (by omega) (by repeat (first | exact Sub.nil _ | refine Sub.cons rfl ?_)) ?_
    have e : strRows (kwRows (marksL.take k)) ++ [[Si [36, marksL.getD k 0]]] = strRows (kwRows (marksL.take (k + 1))) := by
      rw [List.take_add_one, List.getElem?_eq_getElem (show k < marksL.length from hk'), List.getD_eq_getElem?_getD, List.getElem?_eq_getElem (show k < marksL.length from hk'), Option.toList_some]
      simp only [strRows, kwRows, List.map_append]
      rfl
    rw [e]
  · repeat (first | refine AP.seq rfl ?_ | refine AE.seq ?_ | refine AP.block rfl ?_ | refine AP.scope rfl ?_ | refine AP.label rfl ?_ | refine AE.sc ?_ | refine AE.sc_exit ?_ | refine AE.sc_ret ?_ | refine AP.skip rfl ?_ | refine AP.ret rfl ?_ | refine AP.exit rfl ?_ | refine AE.seq_exit ?_ | refine AE.seq_ret ?_ | refine AE.blk ?_ | refine AE.blk_exit ?_ | refine AE.blk_exit_ne rfl ?_ | refine AE.blk_ret ?_ | refine AE.lp_exit ?_ | refine AE.lp_ret ?_ | refine AQ.done ?_ | refine AQ.s2b (by kernel_rfl) rfl rfl rfl rfl ?_ | refine AQ.mark (by kernel_rfl) rfl rfl rfl rfl rfl rfl rfl ?_ | refine AP.cond_true rfl rfl ?_ | refine AP.cond_false rfl rfl ?_ | (refine AP.region rfl (by kernel_rfl) ?_; simp only [go_sem, Nat.reduceAdd, reduceCtorEq, hw]) | (refine vq_id ?_; simp only [go_sem, Nat.reduceAdd, reduceCtorEq, hw]) | (refine ⟨by first | omega | (intros; simp_all; done) | (intros; simp_all; omega), ?_⟩; try simp only [go_sem, Nat.reduceAdd, reduceCtorEq, hw]))
    have hk' : k = 15 := by simp at hc; omega
    subst hk'
    simp only [go_sem, Nat.reduceAdd, reduceCtorEq]
    refine AE.freeze 0 (el := 9) (es := 1) (rows := strRows (kwRows (marksL.take 15))) rfl (by simp only [go_sem, Nat.reduceAdd, reduceCtorEq]) (by simp only [go_sem, Nat.reduceAdd, reduceCtorEq]; try (first | (simp; done) | decide)) ?_
    exact AE.ret0 rfl ⟨rfl, trivial⟩ rfl ⟨rfl, rfl⟩
end Go.Proofs.Ytilbfhldohibhaa
end
