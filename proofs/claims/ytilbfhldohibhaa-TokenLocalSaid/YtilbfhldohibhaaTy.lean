/- The facts of the types of this translation, in the form that the rules of the walk ask for. Each is a closed fact of the loaded program. -/
import Derived.Test.YtilbfhldohibhaaCore
import Derived.Test.YtilbfhldohibhaaChecked
import Derived.KernelRfl
set_option linter.unusedSimpArgs false
set_option linter.unusedVariables false
set_option linter.unnecessarySimpa false
namespace Go.Proofs.Ytilbfhldohibhaa
open Go Go.AL
@[go_sem] theorem Try.tk3 : tk Try.prog 3 = .int .i64 := by kernel_rfl
@[go_sem] theorem Try.sz3 : sz Try.prog 3 = some 1 := by kernel_rfl
@[go_sem] theorem Try.by3 : by' Try.prog 3 = some 8 := by kernel_rfl
@[go_sem] theorem Try.un3 : (Try.prog.underlying 3).isSome = true := by kernel_rfl
@[go_sem] theorem Try.zr3 : zro Try.prog 3 = some ([.int .i64 0]) := by kernel_rfl
@[go_sem] theorem Try.tk4 : tk Try.prog 4 = .bool := by kernel_rfl
@[go_sem] theorem Try.sz4 : sz Try.prog 4 = some 1 := by kernel_rfl
@[go_sem] theorem Try.by4 : by' Try.prog 4 = some 1 := by kernel_rfl
@[go_sem] theorem Try.un4 : (Try.prog.underlying 4).isSome = true := by kernel_rfl
@[go_sem] theorem Try.zr4 : zro Try.prog 4 = some ([.bool false]) := by kernel_rfl
@[go_sem] theorem Try.tk5 : tk Try.prog 5 = .int .u8 := by kernel_rfl
@[go_sem] theorem Try.sz5 : sz Try.prog 5 = some 1 := by kernel_rfl
@[go_sem] theorem Try.by5 : by' Try.prog 5 = some 1 := by kernel_rfl
@[go_sem] theorem Try.un5 : (Try.prog.underlying 5).isSome = true := by kernel_rfl
@[go_sem] theorem Try.zr5 : zro Try.prog 5 = some ([.int .u8 0]) := by kernel_rfl
@[go_sem] theorem Try.tk9 : tk Try.prog 9 = .str := by kernel_rfl
@[go_sem] theorem Try.sz9 : sz Try.prog 9 = some 1 := by kernel_rfl
@[go_sem] theorem Try.by9 : by' Try.prog 9 = some 16 := by kernel_rfl
@[go_sem] theorem Try.un9 : (Try.prog.underlying 9).isSome = true := by kernel_rfl
@[go_sem] theorem Try.zr9 : zro Try.prog 9 = some ([.string ⟨#[]⟩]) := by kernel_rfl
@[go_sem] theorem Try.tk20 : tk Try.prog 20 = .iface := by kernel_rfl
@[go_sem] theorem Try.sz20 : sz Try.prog 20 = some 1 := by kernel_rfl
@[go_sem] theorem Try.by20 : by' Try.prog 20 = some 16 := by kernel_rfl
@[go_sem] theorem Try.zr20 : zro Try.prog 20 = some ([.nilIface]) := by kernel_rfl
@[go_sem] theorem Try.tk21 : tk Try.prog 21 = .int .i32 := by kernel_rfl
@[go_sem] theorem Try.sz21 : sz Try.prog 21 = some 1 := by kernel_rfl
@[go_sem] theorem Try.by21 : by' Try.prog 21 = some 4 := by kernel_rfl
@[go_sem] theorem Try.un21 : (Try.prog.underlying 21).isSome = true := by kernel_rfl
@[go_sem] theorem Try.zr21 : zro Try.prog 21 = some ([.int .i32 0]) := by kernel_rfl
@[go_sem] theorem Try.tk23 : tk Try.prog 23 = .slice 9 := by kernel_rfl
@[go_sem] theorem Try.sz23 : sz Try.prog 23 = some 1 := by kernel_rfl
@[go_sem] theorem Try.by23 : by' Try.prog 23 = some 24 := by kernel_rfl
@[go_sem] theorem Try.zr23 : zro Try.prog 23 = some ([.slice none 0 0]) := by kernel_rfl
@[go_sem] theorem Try.tk24 : tk Try.prog 24 = .slice 29 := by kernel_rfl
@[go_sem] theorem Try.sz24 : sz Try.prog 24 = some 1 := by kernel_rfl
@[go_sem] theorem Try.by24 : by' Try.prog 24 = some 24 := by kernel_rfl
@[go_sem] theorem Try.zr24 : zro Try.prog 24 = some ([.slice none 0 0]) := by kernel_rfl
@[go_sem] theorem Try.tk25 : tk Try.prog 25 = .int .i64 := by kernel_rfl
@[go_sem] theorem Try.sz25 : sz Try.prog 25 = some 1 := by kernel_rfl
@[go_sem] theorem Try.by25 : by' Try.prog 25 = some 8 := by kernel_rfl
@[go_sem] theorem Try.un25 : (Try.prog.underlying 25).isSome = true := by kernel_rfl
@[go_sem] theorem Try.zr25 : zro Try.prog 25 = some ([.int .i64 0]) := by kernel_rfl
@[go_sem] theorem Try.tk29 : tk Try.prog 29 = .struct [(0, 9), (1, 3)] := by kernel_rfl
@[go_sem] theorem Try.sz29 : sz Try.prog 29 = some 2 := by kernel_rfl
@[go_sem] theorem Try.by29 : by' Try.prog 29 = some 24 := by kernel_rfl
@[go_sem] theorem Try.eq29 : eqOk Try.prog 29 = true := by kernel_rfl
@[go_sem] theorem Try.zr29 : zro Try.prog 29 = some ([.string ⟨#[]⟩, .int .i64 0]) := by kernel_rfl
@[go_sem] theorem Try.tk47 : tk Try.prog 47 = .arr 256 5 := by kernel_rfl
@[go_sem] theorem Try.sz47 : sz Try.prog 47 = some 256 := by kernel_rfl
@[go_sem] theorem Try.by47 : by' Try.prog 47 = some 256 := by kernel_rfl
@[go_sem] theorem Try.eq47 : eqOk Try.prog 47 = true := by kernel_rfl
@[go_sem] theorem Try.zr47 : zro Try.prog 47 = some (List.replicate 256 (.int .u8 0)) := by kernel_rfl
@[go_sem] theorem Try.tk50 : tk Try.prog 50 = .func := by kernel_rfl
@[go_sem] theorem Try.sz50 : sz Try.prog 50 = some 1 := by kernel_rfl
@[go_sem] theorem Try.by50 : by' Try.prog 50 = some 8 := by kernel_rfl
@[go_sem] theorem Try.zr50 : zro Try.prog 50 = some ([.nilFunc]) := by kernel_rfl
@[go_sem] theorem Try.tk51 : tk Try.prog 51 = .arr 2 5 := by kernel_rfl
@[go_sem] theorem Try.sz51 : sz Try.prog 51 = some 2 := by kernel_rfl
@[go_sem] theorem Try.by51 : by' Try.prog 51 = some 2 := by kernel_rfl
@[go_sem] theorem Try.eq51 : eqOk Try.prog 51 = true := by kernel_rfl
@[go_sem] theorem Try.zr51 : zro Try.prog 51 = some ([.int .u8 0, .int .u8 0]) := by kernel_rfl
@[go_sem] theorem Try.tk52 : tk Try.prog 52 = .slice 5 := by kernel_rfl
@[go_sem] theorem Try.sz52 : sz Try.prog 52 = some 1 := by kernel_rfl
@[go_sem] theorem Try.by52 : by' Try.prog 52 = some 24 := by kernel_rfl
@[go_sem] theorem Try.zr52 : zro Try.prog 52 = some ([.slice none 0 0]) := by kernel_rfl
@[go_sem] theorem Try.tk56 : tk Try.prog 56 = .ptr 58 := by kernel_rfl
@[go_sem] theorem Try.sz56 : sz Try.prog 56 = some 1 := by kernel_rfl
@[go_sem] theorem Try.by56 : by' Try.prog 56 = some 8 := by kernel_rfl
@[go_sem] theorem Try.zr56 : zro Try.prog 56 = some ([.pointer none]) := by kernel_rfl
@[go_sem] theorem Try.tk58 : tk Try.prog 58 = .struct [(0, 56), (1, 52)] := by kernel_rfl
@[go_sem] theorem Try.sz58 : sz Try.prog 58 = some 2 := by kernel_rfl
@[go_sem] theorem Try.by58 : by' Try.prog 58 = some 32 := by kernel_rfl
@[go_sem] theorem Try.zr58 : zro Try.prog 58 = some ([.pointer none, .slice none 0 0]) := by kernel_rfl
@[go_sem] theorem Try.tk61 : tk Try.prog 61 = .iface := by kernel_rfl
@[go_sem] theorem Try.sz61 : sz Try.prog 61 = some 1 := by kernel_rfl
@[go_sem] theorem Try.by61 : by' Try.prog 61 = some 16 := by kernel_rfl
@[go_sem] theorem Try.zr61 : zro Try.prog 61 = some ([.nilIface]) := by kernel_rfl
@[go_sem] theorem Try.tk67 : tk Try.prog 67 = .ptr 5 := by kernel_rfl
@[go_sem] theorem Try.sz67 : sz Try.prog 67 = some 1 := by kernel_rfl
@[go_sem] theorem Try.by67 : by' Try.prog 67 = some 8 := by kernel_rfl
@[go_sem] theorem Try.zr67 : zro Try.prog 67 = some ([.pointer none]) := by kernel_rfl
@[go_sem] theorem Try.tk69 : tk Try.prog 69 = .other := by kernel_rfl
@[go_sem] theorem Try.sz69 : sz Try.prog 69 = some 1 := by kernel_rfl
@[go_sem] theorem Try.by69 : by' Try.prog 69 = some 8 := by kernel_rfl
@[go_sem] theorem Try.zr69 : zro Try.prog 69 = some ([.pointer none]) := by kernel_rfl
end Go.Proofs.Ytilbfhldohibhaa
