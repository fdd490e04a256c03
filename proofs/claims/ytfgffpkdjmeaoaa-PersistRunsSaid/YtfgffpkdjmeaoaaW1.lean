import Derived.Test.YtfgffpkdjmeaoaaAl3
import Derived.Test.YtfgffpkdjmeaoaaChecked
import Derived.KernelRfl
set_option linter.unusedSimpArgs false
set_option linter.unusedVariables false
set_option linter.unnecessarySimpa false
section

end

section
/- The facts of the types of this translation, in the form that the rules of the walk ask for. Each is a closed fact of the loaded program. -/
namespace Go.Proofs.Ytfgffpkdjmeaoaa
open Go Go.AL
@[go_sem] theorem Try.tk1 : tk Try.prog 1 = .func := by kernel_rfl
@[go_sem] theorem Try.sz1 : sz Try.prog 1 = some 1 := by kernel_rfl
@[go_sem] theorem Try.by1 : by' Try.prog 1 = some 8 := by kernel_rfl
@[go_sem] theorem Try.zr1 : zro Try.prog 1 = some ([.nilFunc]) := by kernel_rfl
@[go_sem] theorem Try.tk2 : tk Try.prog 2 = .int .i64 := by kernel_rfl
@[go_sem] theorem Try.sz2 : sz Try.prog 2 = some 1 := by kernel_rfl
@[go_sem] theorem Try.by2 : by' Try.prog 2 = some 8 := by kernel_rfl
@[go_sem] theorem Try.un2 : (Try.prog.underlying 2).isSome = true := by kernel_rfl
@[go_sem] theorem Try.zr2 : zro Try.prog 2 = some ([.int .i64 0]) := by kernel_rfl
@[go_sem] theorem Try.tk3 : tk Try.prog 3 = .int .i64 := by kernel_rfl
@[go_sem] theorem Try.sz3 : sz Try.prog 3 = some 1 := by kernel_rfl
@[go_sem] theorem Try.by3 : by' Try.prog 3 = some 8 := by kernel_rfl
@[go_sem] theorem Try.un3 : (Try.prog.underlying 3).isSome = true := by kernel_rfl
@[go_sem] theorem Try.zr3 : zro Try.prog 3 = some ([.int .i64 0]) := by kernel_rfl
@[go_sem] theorem Try.tk4 : tk Try.prog 4 = .bool := by kernel_rfl
@[go_sem] theorem Try.sz4 : sz Try.prog 4 = some 1 := by kernel_rfl
@[go_sem] theorem Try.by4 : by' Try.prog 4 = some 1 := by kernel_rfl
@[go_sem] theorem Try.un4 : (Try.prog.underlying 4).isSome = true := by kernel_rfl
@[go_sem] theorem Try.zr4 : zro Try.prog 4 = some ([.bool false]) := by kernel_rfl
@[go_sem] theorem Try.tk5 : tk Try.prog 5 = .int .u8 := by kernel_rfl
@[go_sem] theorem Try.sz5 : sz Try.prog 5 = some 1 := by kernel_rfl
@[go_sem] theorem Try.by5 : by' Try.prog 5 = some 1 := by kernel_rfl
@[go_sem] theorem Try.un5 : (Try.prog.underlying 5).isSome = true := by kernel_rfl
@[go_sem] theorem Try.zr5 : zro Try.prog 5 = some ([.int .u8 0]) := by kernel_rfl
@[go_sem] theorem Try.tk6 : tk Try.prog 6 = .int .u8 := by kernel_rfl
@[go_sem] theorem Try.sz6 : sz Try.prog 6 = some 1 := by kernel_rfl
@[go_sem] theorem Try.by6 : by' Try.prog 6 = some 1 := by kernel_rfl
@[go_sem] theorem Try.un6 : (Try.prog.underlying 6).isSome = true := by kernel_rfl
@[go_sem] theorem Try.zr6 : zro Try.prog 6 = some ([.int .u8 0]) := by kernel_rfl
@[go_sem] theorem Try.tk7 : tk Try.prog 7 = .struct [(0, 2), (1, 3), (2, 4), (3, 6)] := by kernel_rfl
@[go_sem] theorem Try.sz7 : sz Try.prog 7 = some 4 := by kernel_rfl
@[go_sem] theorem Try.by7 : by' Try.prog 7 = some 24 := by kernel_rfl
@[go_sem] theorem Try.eq7 : eqOk Try.prog 7 = true := by kernel_rfl
@[go_sem] theorem Try.zr7 : zro Try.prog 7 = some ([.int .i64 0, .int .i64 0, .bool false, .int .u8 0]) := by kernel_rfl
@[go_sem] theorem Try.tk8 : tk Try.prog 8 = .struct [(0, 2), (1, 3), (2, 4), (3, 6)] := by kernel_rfl
@[go_sem] theorem Try.sz8 : sz Try.prog 8 = some 4 := by kernel_rfl
@[go_sem] theorem Try.by8 : by' Try.prog 8 = some 24 := by kernel_rfl
@[go_sem] theorem Try.eq8 : eqOk Try.prog 8 = true := by kernel_rfl
@[go_sem] theorem Try.zr8 : zro Try.prog 8 = some ([.int .i64 0, .int .i64 0, .bool false, .int .u8 0]) := by kernel_rfl
@[go_sem] theorem Try.tk9 : tk Try.prog 9 = .str := by kernel_rfl
@[go_sem] theorem Try.sz9 : sz Try.prog 9 = some 1 := by kernel_rfl
@[go_sem] theorem Try.by9 : by' Try.prog 9 = some 16 := by kernel_rfl
@[go_sem] theorem Try.un9 : (Try.prog.underlying 9).isSome = true := by kernel_rfl
@[go_sem] theorem Try.zr9 : zro Try.prog 9 = some ([.string ⟨#[]⟩]) := by kernel_rfl
@[go_sem] theorem Try.tk10 : tk Try.prog 10 = .str := by kernel_rfl
@[go_sem] theorem Try.sz10 : sz Try.prog 10 = some 1 := by kernel_rfl
@[go_sem] theorem Try.by10 : by' Try.prog 10 = some 16 := by kernel_rfl
@[go_sem] theorem Try.un10 : (Try.prog.underlying 10).isSome = true := by kernel_rfl
@[go_sem] theorem Try.zr10 : zro Try.prog 10 = some ([.string ⟨#[]⟩]) := by kernel_rfl
@[go_sem] theorem Try.tk11 : tk Try.prog 11 = .str := by kernel_rfl
@[go_sem] theorem Try.sz11 : sz Try.prog 11 = some 1 := by kernel_rfl
@[go_sem] theorem Try.by11 : by' Try.prog 11 = some 16 := by kernel_rfl
@[go_sem] theorem Try.un11 : (Try.prog.underlying 11).isSome = true := by kernel_rfl
@[go_sem] theorem Try.zr11 : zro Try.prog 11 = some ([.string ⟨#[]⟩]) := by kernel_rfl
@[go_sem] theorem Try.tk12 : tk Try.prog 12 = .int .u64 := by kernel_rfl
@[go_sem] theorem Try.sz12 : sz Try.prog 12 = some 1 := by kernel_rfl
@[go_sem] theorem Try.by12 : by' Try.prog 12 = some 8 := by kernel_rfl
@[go_sem] theorem Try.un12 : (Try.prog.underlying 12).isSome = true := by kernel_rfl
@[go_sem] theorem Try.zr12 : zro Try.prog 12 = some ([.int .u64 0]) := by kernel_rfl
@[go_sem] theorem Try.tk13 : tk Try.prog 13 = .struct [(0, 9), (1, 12)] := by kernel_rfl
@[go_sem] theorem Try.sz13 : sz Try.prog 13 = some 2 := by kernel_rfl
@[go_sem] theorem Try.by13 : by' Try.prog 13 = some 24 := by kernel_rfl
@[go_sem] theorem Try.zr13 : zro Try.prog 13 = some ([.string ⟨#[]⟩, .int .u64 0]) := by kernel_rfl
@[go_sem] theorem Try.tk14 : tk Try.prog 14 = .struct [(0, 9), (1, 12)] := by kernel_rfl
@[go_sem] theorem Try.sz14 : sz Try.prog 14 = some 2 := by kernel_rfl
@[go_sem] theorem Try.by14 : by' Try.prog 14 = some 24 := by kernel_rfl
@[go_sem] theorem Try.zr14 : zro Try.prog 14 = some ([.string ⟨#[]⟩, .int .u64 0]) := by kernel_rfl
@[go_sem] theorem Try.tk15 : tk Try.prog 15 = .ptr 160 := by kernel_rfl
@[go_sem] theorem Try.sz15 : sz Try.prog 15 = some 1 := by kernel_rfl
@[go_sem] theorem Try.by15 : by' Try.prog 15 = some 8 := by kernel_rfl
@[go_sem] theorem Try.zr15 : zro Try.prog 15 = some ([.pointer none]) := by kernel_rfl
@[go_sem] theorem Try.tk16 : tk Try.prog 16 = .ptr 163 := by kernel_rfl
@[go_sem] theorem Try.sz16 : sz Try.prog 16 = some 1 := by kernel_rfl
@[go_sem] theorem Try.by16 : by' Try.prog 16 = some 8 := by kernel_rfl
@[go_sem] theorem Try.zr16 : zro Try.prog 16 = some ([.pointer none]) := by kernel_rfl
@[go_sem] theorem Try.tk17 : tk Try.prog 17 = .ptr 172 := by kernel_rfl
@[go_sem] theorem Try.sz17 : sz Try.prog 17 = some 1 := by kernel_rfl
@[go_sem] theorem Try.by17 : by' Try.prog 17 = some 8 := by kernel_rfl
@[go_sem] theorem Try.zr17 : zro Try.prog 17 = some ([.pointer none]) := by kernel_rfl
@[go_sem] theorem Try.tk18 : tk Try.prog 18 = .struct [(0, 17)] := by kernel_rfl
@[go_sem] theorem Try.sz18 : sz Try.prog 18 = some 1 := by kernel_rfl
@[go_sem] theorem Try.by18 : by' Try.prog 18 = some 8 := by kernel_rfl
@[go_sem] theorem Try.zr18 : zro Try.prog 18 = some ([.pointer none]) := by kernel_rfl
@[go_sem] theorem Try.tk19 : tk Try.prog 19 = .struct [(0, 17)] := by kernel_rfl
@[go_sem] theorem Try.sz19 : sz Try.prog 19 = some 1 := by kernel_rfl
@[go_sem] theorem Try.by19 : by' Try.prog 19 = some 8 := by kernel_rfl
@[go_sem] theorem Try.zr19 : zro Try.prog 19 = some ([.pointer none]) := by kernel_rfl
@[go_sem] theorem Try.tk20 : tk Try.prog 20 = .iface := by kernel_rfl
@[go_sem] theorem Try.sz20 : sz Try.prog 20 = some 1 := by kernel_rfl
@[go_sem] theorem Try.by20 : by' Try.prog 20 = some 16 := by kernel_rfl
@[go_sem] theorem Try.zr20 : zro Try.prog 20 = some ([.nilIface]) := by kernel_rfl
@[go_sem] theorem Try.tk21 : tk Try.prog 21 = .int .i32 := by kernel_rfl
@[go_sem] theorem Try.sz21 : sz Try.prog 21 = some 1 := by kernel_rfl
@[go_sem] theorem Try.by21 : by' Try.prog 21 = some 4 := by kernel_rfl
@[go_sem] theorem Try.un21 : (Try.prog.underlying 21).isSome = true := by kernel_rfl
@[go_sem] theorem Try.zr21 : zro Try.prog 21 = some ([.int .i32 0]) := by kernel_rfl
@[go_sem] theorem Try.tk22 : tk Try.prog 22 = .slice 3 := by kernel_rfl
@[go_sem] theorem Try.sz22 : sz Try.prog 22 = some 1 := by kernel_rfl
@[go_sem] theorem Try.by22 : by' Try.prog 22 = some 24 := by kernel_rfl
@[go_sem] theorem Try.zr22 : zro Try.prog 22 = some ([.slice none 0 0]) := by kernel_rfl
@[go_sem] theorem Try.tk23 : tk Try.prog 23 = .func := by kernel_rfl
@[go_sem] theorem Try.sz23 : sz Try.prog 23 = some 1 := by kernel_rfl
@[go_sem] theorem Try.by23 : by' Try.prog 23 = some 8 := by kernel_rfl
@[go_sem] theorem Try.zr23 : zro Try.prog 23 = some ([.nilFunc]) := by kernel_rfl
@[go_sem] theorem Try.tk24 : tk Try.prog 24 = .ptr 146 := by kernel_rfl
@[go_sem] theorem Try.sz24 : sz Try.prog 24 = some 1 := by kernel_rfl
@[go_sem] theorem Try.by24 : by' Try.prog 24 = some 8 := by kernel_rfl
@[go_sem] theorem Try.zr24 : zro Try.prog 24 = some ([.pointer none]) := by kernel_rfl
@[go_sem] theorem Try.tk25 : tk Try.prog 25 = .struct [(0, 24)] := by kernel_rfl
@[go_sem] theorem Try.sz25 : sz Try.prog 25 = some 1 := by kernel_rfl
@[go_sem] theorem Try.by25 : by' Try.prog 25 = some 8 := by kernel_rfl
@[go_sem] theorem Try.zr25 : zro Try.prog 25 = some ([.pointer none]) := by kernel_rfl
@[go_sem] theorem Try.tk26 : tk Try.prog 26 = .struct [(0, 24)] := by kernel_rfl
@[go_sem] theorem Try.sz26 : sz Try.prog 26 = some 1 := by kernel_rfl
@[go_sem] theorem Try.by26 : by' Try.prog 26 = some 8 := by kernel_rfl
@[go_sem] theorem Try.zr26 : zro Try.prog 26 = some ([.pointer none]) := by kernel_rfl
@[go_sem] theorem Try.tk27 : tk Try.prog 27 = .map 3 3 := by kernel_rfl
@[go_sem] theorem Try.sz27 : sz Try.prog 27 = some 1 := by kernel_rfl
@[go_sem] theorem Try.by27 : by' Try.prog 27 = some 8 := by kernel_rfl
@[go_sem] theorem Try.zr27 : zro Try.prog 27 = some ([.map none]) := by kernel_rfl
@[go_sem] theorem Try.tk28 : tk Try.prog 28 = .func := by kernel_rfl
@[go_sem] theorem Try.sz28 : sz Try.prog 28 = some 1 := by kernel_rfl
@[go_sem] theorem Try.by28 : by' Try.prog 28 = some 8 := by kernel_rfl
@[go_sem] theorem Try.zr28 : zro Try.prog 28 = some ([.nilFunc]) := by kernel_rfl
@[go_sem] theorem Try.tk29 : tk Try.prog 29 = .func := by kernel_rfl
@[go_sem] theorem Try.sz29 : sz Try.prog 29 = some 1 := by kernel_rfl
@[go_sem] theorem Try.by29 : by' Try.prog 29 = some 8 := by kernel_rfl
@[go_sem] theorem Try.zr29 : zro Try.prog 29 = some ([.nilFunc]) := by kernel_rfl
@[go_sem] theorem Try.tk30 : tk Try.prog 30 = .func := by kernel_rfl
@[go_sem] theorem Try.sz30 : sz Try.prog 30 = some 1 := by kernel_rfl
@[go_sem] theorem Try.by30 : by' Try.prog 30 = some 8 := by kernel_rfl
@[go_sem] theorem Try.zr30 : zro Try.prog 30 = some ([.nilFunc]) := by kernel_rfl
@[go_sem] theorem Try.tk31 : tk Try.prog 31 = .func := by kernel_rfl
@[go_sem] theorem Try.sz31 : sz Try.prog 31 = some 1 := by kernel_rfl
@[go_sem] theorem Try.by31 : by' Try.prog 31 = some 8 := by kernel_rfl
@[go_sem] theorem Try.zr31 : zro Try.prog 31 = some ([.nilFunc]) := by kernel_rfl
@[go_sem] theorem Try.tk32 : tk Try.prog 32 = .func := by kernel_rfl
@[go_sem] theorem Try.sz32 : sz Try.prog 32 = some 1 := by kernel_rfl
@[go_sem] theorem Try.by32 : by' Try.prog 32 = some 8 := by kernel_rfl
@[go_sem] theorem Try.zr32 : zro Try.prog 32 = some ([.nilFunc]) := by kernel_rfl
@[go_sem] theorem Try.tk33 : tk Try.prog 33 = .slice 36 := by kernel_rfl
@[go_sem] theorem Try.sz33 : sz Try.prog 33 = some 1 := by kernel_rfl
@[go_sem] theorem Try.by33 : by' Try.prog 33 = some 24 := by kernel_rfl
@[go_sem] theorem Try.zr33 : zro Try.prog 33 = some ([.slice none 0 0]) := by kernel_rfl
@[go_sem] theorem Try.tk34 : tk Try.prog 34 = .int .u16 := by kernel_rfl
@[go_sem] theorem Try.sz34 : sz Try.prog 34 = some 1 := by kernel_rfl
@[go_sem] theorem Try.by34 : by' Try.prog 34 = some 2 := by kernel_rfl
@[go_sem] theorem Try.un34 : (Try.prog.underlying 34).isSome = true := by kernel_rfl
@[go_sem] theorem Try.zr34 : zro Try.prog 34 = some ([.int .u16 0]) := by kernel_rfl
@[go_sem] theorem Try.tk35 : tk Try.prog 35 = .struct [(0, 5), (1, 34), (2, 3)] := by kernel_rfl
@[go_sem] theorem Try.sz35 : sz Try.prog 35 = some 3 := by kernel_rfl
@[go_sem] theorem Try.by35 : by' Try.prog 35 = some 16 := by kernel_rfl
@[go_sem] theorem Try.eq35 : eqOk Try.prog 35 = true := by kernel_rfl
@[go_sem] theorem Try.zr35 : zro Try.prog 35 = some ([.int .u8 0, .int .u16 0, .int .i64 0]) := by kernel_rfl
@[go_sem] theorem Try.tk36 : tk Try.prog 36 = .struct [(0, 5), (1, 34), (2, 3)] := by kernel_rfl
@[go_sem] theorem Try.sz36 : sz Try.prog 36 = some 3 := by kernel_rfl
@[go_sem] theorem Try.by36 : by' Try.prog 36 = some 16 := by kernel_rfl
@[go_sem] theorem Try.eq36 : eqOk Try.prog 36 = true := by kernel_rfl
@[go_sem] theorem Try.zr36 : zro Try.prog 36 = some ([.int .u8 0, .int .u16 0, .int .i64 0]) := by kernel_rfl
@[go_sem] theorem Try.tk37 : tk Try.prog 37 = .ptr 113 := by kernel_rfl
@[go_sem] theorem Try.sz37 : sz Try.prog 37 = some 1 := by kernel_rfl
@[go_sem] theorem Try.by37 : by' Try.prog 37 = some 8 := by kernel_rfl
@[go_sem] theorem Try.zr37 : zro Try.prog 37 = some ([.pointer none]) := by kernel_rfl
@[go_sem] theorem Try.tk38 : tk Try.prog 38 = .func := by kernel_rfl
@[go_sem] theorem Try.sz38 : sz Try.prog 38 = some 1 := by kernel_rfl
@[go_sem] theorem Try.by38 : by' Try.prog 38 = some 8 := by kernel_rfl
@[go_sem] theorem Try.zr38 : zro Try.prog 38 = some ([.nilFunc]) := by kernel_rfl
@[go_sem] theorem Try.tk39 : tk Try.prog 39 = .struct [(0, 22), (1, 3)] := by kernel_rfl
@[go_sem] theorem Try.sz39 : sz Try.prog 39 = some 2 := by kernel_rfl
@[go_sem] theorem Try.by39 : by' Try.prog 39 = some 32 := by kernel_rfl
@[go_sem] theorem Try.zr39 : zro Try.prog 39 = some ([.slice none 0 0, .int .i64 0]) := by kernel_rfl
@[go_sem] theorem Try.tk40 : tk Try.prog 40 = .struct [(0, 22), (1, 3)] := by kernel_rfl
@[go_sem] theorem Try.sz40 : sz Try.prog 40 = some 2 := by kernel_rfl
@[go_sem] theorem Try.by40 : by' Try.prog 40 = some 32 := by kernel_rfl
@[go_sem] theorem Try.zr40 : zro Try.prog 40 = some ([.slice none 0 0, .int .i64 0]) := by kernel_rfl
@[go_sem] theorem Try.tk41 : tk Try.prog 41 = .int .i64 := by kernel_rfl
@[go_sem] theorem Try.sz41 : sz Try.prog 41 = some 1 := by kernel_rfl
@[go_sem] theorem Try.by41 : by' Try.prog 41 = some 8 := by kernel_rfl
@[go_sem] theorem Try.un41 : (Try.prog.underlying 41).isSome = true := by kernel_rfl
@[go_sem] theorem Try.zr41 : zro Try.prog 41 = some ([.int .i64 0]) := by kernel_rfl
@[go_sem] theorem Try.tk42 : tk Try.prog 42 = .func := by kernel_rfl
@[go_sem] theorem Try.sz42 : sz Try.prog 42 = some 1 := by kernel_rfl
@[go_sem] theorem Try.by42 : by' Try.prog 42 = some 8 := by kernel_rfl
@[go_sem] theorem Try.zr42 : zro Try.prog 42 = some ([.nilFunc]) := by kernel_rfl
@[go_sem] theorem Try.tk44 : tk Try.prog 44 = .func := by kernel_rfl
@[go_sem] theorem Try.sz44 : sz Try.prog 44 = some 1 := by kernel_rfl
@[go_sem] theorem Try.by44 : by' Try.prog 44 = some 8 := by kernel_rfl
@[go_sem] theorem Try.zr44 : zro Try.prog 44 = some ([.nilFunc]) := by kernel_rfl
@[go_sem] theorem Try.tk45 : tk Try.prog 45 = .func := by kernel_rfl
@[go_sem] theorem Try.sz45 : sz Try.prog 45 = some 1 := by kernel_rfl
@[go_sem] theorem Try.by45 : by' Try.prog 45 = some 8 := by kernel_rfl
@[go_sem] theorem Try.zr45 : zro Try.prog 45 = some ([.nilFunc]) := by kernel_rfl
@[go_sem] theorem Try.tk46 : tk Try.prog 46 = .func := by kernel_rfl
@[go_sem] theorem Try.sz46 : sz Try.prog 46 = some 1 := by kernel_rfl
@[go_sem] theorem Try.by46 : by' Try.prog 46 = some 8 := by kernel_rfl
@[go_sem] theorem Try.zr46 : zro Try.prog 46 = some ([.nilFunc]) := by kernel_rfl
@[go_sem] theorem Try.tk47 : tk Try.prog 47 = .func := by kernel_rfl
@[go_sem] theorem Try.sz47 : sz Try.prog 47 = some 1 := by kernel_rfl
@[go_sem] theorem Try.by47 : by' Try.prog 47 = some 8 := by kernel_rfl
@[go_sem] theorem Try.zr47 : zro Try.prog 47 = some ([.nilFunc]) := by kernel_rfl
@[go_sem] theorem Try.tk48 : tk Try.prog 48 = .func := by kernel_rfl
@[go_sem] theorem Try.sz48 : sz Try.prog 48 = some 1 := by kernel_rfl
@[go_sem] theorem Try.by48 : by' Try.prog 48 = some 8 := by kernel_rfl
@[go_sem] theorem Try.zr48 : zro Try.prog 48 = some ([.nilFunc]) := by kernel_rfl
@[go_sem] theorem Try.tk50 : tk Try.prog 50 = .func := by kernel_rfl
@[go_sem] theorem Try.sz50 : sz Try.prog 50 = some 1 := by kernel_rfl
@[go_sem] theorem Try.by50 : by' Try.prog 50 = some 8 := by kernel_rfl
@[go_sem] theorem Try.zr50 : zro Try.prog 50 = some ([.nilFunc]) := by kernel_rfl
@[go_sem] theorem Try.tk51 : tk Try.prog 51 = .func := by kernel_rfl
@[go_sem] theorem Try.sz51 : sz Try.prog 51 = some 1 := by kernel_rfl
@[go_sem] theorem Try.by51 : by' Try.prog 51 = some 8 := by kernel_rfl
@[go_sem] theorem Try.zr51 : zro Try.prog 51 = some ([.nilFunc]) := by kernel_rfl
@[go_sem] theorem Try.tk52 : tk Try.prog 52 = .slice 67 := by kernel_rfl
@[go_sem] theorem Try.sz52 : sz Try.prog 52 = some 1 := by kernel_rfl
@[go_sem] theorem Try.by52 : by' Try.prog 52 = some 24 := by kernel_rfl
@[go_sem] theorem Try.zr52 : zro Try.prog 52 = some ([.slice none 0 0]) := by kernel_rfl
@[go_sem] theorem Try.tk53 : tk Try.prog 53 = .ptr 117 := by kernel_rfl
@[go_sem] theorem Try.sz53 : sz Try.prog 53 = some 1 := by kernel_rfl
@[go_sem] theorem Try.by53 : by' Try.prog 53 = some 8 := by kernel_rfl
@[go_sem] theorem Try.zr53 : zro Try.prog 53 = some ([.pointer none]) := by kernel_rfl
@[go_sem] theorem Try.tk55 : tk Try.prog 55 = .func := by kernel_rfl
@[go_sem] theorem Try.sz55 : sz Try.prog 55 = some 1 := by kernel_rfl
@[go_sem] theorem Try.by55 : by' Try.prog 55 = some 8 := by kernel_rfl
@[go_sem] theorem Try.zr55 : zro Try.prog 55 = some ([.nilFunc]) := by kernel_rfl
@[go_sem] theorem Try.tk56 : tk Try.prog 56 = .slice 22 := by kernel_rfl
@[go_sem] theorem Try.sz56 : sz Try.prog 56 = some 1 := by kernel_rfl
@[go_sem] theorem Try.by56 : by' Try.prog 56 = some 24 := by kernel_rfl
@[go_sem] theorem Try.zr56 : zro Try.prog 56 = some ([.slice none 0 0]) := by kernel_rfl
@[go_sem] theorem Try.tk57 : tk Try.prog 57 = .struct [(0, 22), (1, 56)] := by kernel_rfl
@[go_sem] theorem Try.sz57 : sz Try.prog 57 = some 2 := by kernel_rfl
@[go_sem] theorem Try.by57 : by' Try.prog 57 = some 48 := by kernel_rfl
@[go_sem] theorem Try.zr57 : zro Try.prog 57 = some ([.slice none 0 0, .slice none 0 0]) := by kernel_rfl
@[go_sem] theorem Try.tk58 : tk Try.prog 58 = .struct [(0, 22), (1, 56)] := by kernel_rfl
@[go_sem] theorem Try.sz58 : sz Try.prog 58 = some 2 := by kernel_rfl
@[go_sem] theorem Try.by58 : by' Try.prog 58 = some 48 := by kernel_rfl
@[go_sem] theorem Try.zr58 : zro Try.prog 58 = some ([.slice none 0 0, .slice none 0 0]) := by kernel_rfl
@[go_sem] theorem Try.tk60 : tk Try.prog 60 = .func := by kernel_rfl
@[go_sem] theorem Try.sz60 : sz Try.prog 60 = some 1 := by kernel_rfl
@[go_sem] theorem Try.by60 : by' Try.prog 60 = some 8 := by kernel_rfl
@[go_sem] theorem Try.zr60 : zro Try.prog 60 = some ([.nilFunc]) := by kernel_rfl
@[go_sem] theorem Try.tk62 : tk Try.prog 62 = .func := by kernel_rfl
@[go_sem] theorem Try.sz62 : sz Try.prog 62 = some 1 := by kernel_rfl
@[go_sem] theorem Try.by62 : by' Try.prog 62 = some 8 := by kernel_rfl
@[go_sem] theorem Try.zr62 : zro Try.prog 62 = some ([.nilFunc]) := by kernel_rfl
@[go_sem] theorem Try.tk64 : tk Try.prog 64 = .func := by kernel_rfl
@[go_sem] theorem Try.sz64 : sz Try.prog 64 = some 1 := by kernel_rfl
@[go_sem] theorem Try.by64 : by' Try.prog 64 = some 8 := by kernel_rfl
@[go_sem] theorem Try.zr64 : zro Try.prog 64 = some ([.nilFunc]) := by kernel_rfl
@[go_sem] theorem Try.tk65 : tk Try.prog 65 = .func := by kernel_rfl
@[go_sem] theorem Try.sz65 : sz Try.prog 65 = some 1 := by kernel_rfl
@[go_sem] theorem Try.by65 : by' Try.prog 65 = some 8 := by kernel_rfl
@[go_sem] theorem Try.zr65 : zro Try.prog 65 = some ([.nilFunc]) := by kernel_rfl
@[go_sem] theorem Try.tk66 : tk Try.prog 66 = .struct [(0, 5), (1, 3), (2, 3)] := by kernel_rfl
@[go_sem] theorem Try.sz66 : sz Try.prog 66 = some 3 := by kernel_rfl
@[go_sem] theorem Try.by66 : by' Try.prog 66 = some 24 := by kernel_rfl
@[go_sem] theorem Try.eq66 : eqOk Try.prog 66 = true := by kernel_rfl
@[go_sem] theorem Try.zr66 : zro Try.prog 66 = some ([.int .u8 0, .int .i64 0, .int .i64 0]) := by kernel_rfl
@[go_sem] theorem Try.tk67 : tk Try.prog 67 = .struct [(0, 5), (1, 3), (2, 3)] := by kernel_rfl
@[go_sem] theorem Try.sz67 : sz Try.prog 67 = some 3 := by kernel_rfl
@[go_sem] theorem Try.by67 : by' Try.prog 67 = some 24 := by kernel_rfl
@[go_sem] theorem Try.eq67 : eqOk Try.prog 67 = true := by kernel_rfl
@[go_sem] theorem Try.zr67 : zro Try.prog 67 = some ([.int .u8 0, .int .i64 0, .int .i64 0]) := by kernel_rfl
@[go_sem] theorem Try.tk69 : tk Try.prog 69 = .func := by kernel_rfl
@[go_sem] theorem Try.sz69 : sz Try.prog 69 = some 1 := by kernel_rfl
@[go_sem] theorem Try.by69 : by' Try.prog 69 = some 8 := by kernel_rfl
@[go_sem] theorem Try.zr69 : zro Try.prog 69 = some ([.nilFunc]) := by kernel_rfl
@[go_sem] theorem Try.tk70 : tk Try.prog 70 = .func := by kernel_rfl
@[go_sem] theorem Try.sz70 : sz Try.prog 70 = some 1 := by kernel_rfl
@[go_sem] theorem Try.by70 : by' Try.prog 70 = some 8 := by kernel_rfl
@[go_sem] theorem Try.zr70 : zro Try.prog 70 = some ([.nilFunc]) := by kernel_rfl
@[go_sem] theorem Try.tk71 : tk Try.prog 71 = .func := by kernel_rfl
@[go_sem] theorem Try.sz71 : sz Try.prog 71 = some 1 := by kernel_rfl
@[go_sem] theorem Try.by71 : by' Try.prog 71 = some 8 := by kernel_rfl
@[go_sem] theorem Try.zr71 : zro Try.prog 71 = some ([.nilFunc]) := by kernel_rfl
@[go_sem] theorem Try.tk72 : tk Try.prog 72 = .func := by kernel_rfl
@[go_sem] theorem Try.sz72 : sz Try.prog 72 = some 1 := by kernel_rfl
@[go_sem] theorem Try.by72 : by' Try.prog 72 = some 8 := by kernel_rfl
@[go_sem] theorem Try.zr72 : zro Try.prog 72 = some ([.nilFunc]) := by kernel_rfl
@[go_sem] theorem Try.tk73 : tk Try.prog 73 = .func := by kernel_rfl
@[go_sem] theorem Try.sz73 : sz Try.prog 73 = some 1 := by kernel_rfl
@[go_sem] theorem Try.by73 : by' Try.prog 73 = some 8 := by kernel_rfl
@[go_sem] theorem Try.zr73 : zro Try.prog 73 = some ([.nilFunc]) := by kernel_rfl
@[go_sem] theorem Try.tk74 : tk Try.prog 74 = .func := by kernel_rfl
@[go_sem] theorem Try.sz74 : sz Try.prog 74 = some 1 := by kernel_rfl
@[go_sem] theorem Try.by74 : by' Try.prog 74 = some 8 := by kernel_rfl
@[go_sem] theorem Try.zr74 : zro Try.prog 74 = some ([.nilFunc]) := by kernel_rfl
@[go_sem] theorem Try.tk75 : tk Try.prog 75 = .slice 76 := by kernel_rfl
@[go_sem] theorem Try.sz75 : sz Try.prog 75 = some 1 := by kernel_rfl
@[go_sem] theorem Try.by75 : by' Try.prog 75 = some 24 := by kernel_rfl
@[go_sem] theorem Try.zr75 : zro Try.prog 75 = some ([.slice none 0 0]) := by kernel_rfl
@[go_sem] theorem Try.tk76 : tk Try.prog 76 = .arr 2 5 := by kernel_rfl
@[go_sem] theorem Try.sz76 : sz Try.prog 76 = some 2 := by kernel_rfl
@[go_sem] theorem Try.by76 : by' Try.prog 76 = some 2 := by kernel_rfl
@[go_sem] theorem Try.eq76 : eqOk Try.prog 76 = true := by kernel_rfl
@[go_sem] theorem Try.zr76 : zro Try.prog 76 = some ([.int .u8 0, .int .u8 0]) := by kernel_rfl
@[go_sem] theorem Try.tk77 : tk Try.prog 77 = .func := by kernel_rfl
@[go_sem] theorem Try.sz77 : sz Try.prog 77 = some 1 := by kernel_rfl
@[go_sem] theorem Try.by77 : by' Try.prog 77 = some 8 := by kernel_rfl
@[go_sem] theorem Try.zr77 : zro Try.prog 77 = some ([.nilFunc]) := by kernel_rfl
@[go_sem] theorem Try.tk78 : tk Try.prog 78 = .slice 85 := by kernel_rfl
@[go_sem] theorem Try.sz78 : sz Try.prog 78 = some 1 := by kernel_rfl
@[go_sem] theorem Try.by78 : by' Try.prog 78 = some 24 := by kernel_rfl
@[go_sem] theorem Try.zr78 : zro Try.prog 78 = some ([.slice none 0 0]) := by kernel_rfl
@[go_sem] theorem Try.tk79 : tk Try.prog 79 = .func := by kernel_rfl
@[go_sem] theorem Try.sz79 : sz Try.prog 79 = some 1 := by kernel_rfl
@[go_sem] theorem Try.by79 : by' Try.prog 79 = some 8 := by kernel_rfl
@[go_sem] theorem Try.zr79 : zro Try.prog 79 = some ([.nilFunc]) := by kernel_rfl
@[go_sem] theorem Try.tk80 : tk Try.prog 80 = .ptr 143 := by kernel_rfl
@[go_sem] theorem Try.sz80 : sz Try.prog 80 = some 1 := by kernel_rfl
@[go_sem] theorem Try.by80 : by' Try.prog 80 = some 8 := by kernel_rfl
@[go_sem] theorem Try.zr80 : zro Try.prog 80 = some ([.pointer none]) := by kernel_rfl
@[go_sem] theorem Try.tk81 : tk Try.prog 81 = .struct [(0, 80)] := by kernel_rfl
@[go_sem] theorem Try.sz81 : sz Try.prog 81 = some 1 := by kernel_rfl
@[go_sem] theorem Try.by81 : by' Try.prog 81 = some 8 := by kernel_rfl
@[go_sem] theorem Try.zr81 : zro Try.prog 81 = some ([.pointer none]) := by kernel_rfl
@[go_sem] theorem Try.tk82 : tk Try.prog 82 = .struct [(0, 80)] := by kernel_rfl
@[go_sem] theorem Try.sz82 : sz Try.prog 82 = some 1 := by kernel_rfl
@[go_sem] theorem Try.by82 : by' Try.prog 82 = some 8 := by kernel_rfl
@[go_sem] theorem Try.zr82 : zro Try.prog 82 = some ([.pointer none]) := by kernel_rfl
@[go_sem] theorem Try.tk83 : tk Try.prog 83 = .slice 82 := by kernel_rfl
@[go_sem] theorem Try.sz83 : sz Try.prog 83 = some 1 := by kernel_rfl
@[go_sem] theorem Try.by83 : by' Try.prog 83 = some 24 := by kernel_rfl
@[go_sem] theorem Try.zr83 : zro Try.prog 83 = some ([.slice none 0 0]) := by kernel_rfl
@[go_sem] theorem Try.tk84 : tk Try.prog 84 = .struct [(0, 5), (1, 5), (2, 5), (3, 9), (4, 3)] := by kernel_rfl
@[go_sem] theorem Try.sz84 : sz Try.prog 84 = some 5 := by kernel_rfl
@[go_sem] theorem Try.by84 : by' Try.prog 84 = some 32 := by kernel_rfl
@[go_sem] theorem Try.eq84 : eqOk Try.prog 84 = true := by kernel_rfl
@[go_sem] theorem Try.zr84 : zro Try.prog 84 = some ([.int .u8 0, .int .u8 0, .int .u8 0, .string ⟨#[]⟩, .int .i64 0]) := by kernel_rfl
@[go_sem] theorem Try.tk85 : tk Try.prog 85 = .struct [(0, 5), (1, 5), (2, 5), (3, 9), (4, 3)] := by kernel_rfl
@[go_sem] theorem Try.sz85 : sz Try.prog 85 = some 5 := by kernel_rfl
@[go_sem] theorem Try.by85 : by' Try.prog 85 = some 32 := by kernel_rfl
@[go_sem] theorem Try.eq85 : eqOk Try.prog 85 = true := by kernel_rfl
@[go_sem] theorem Try.zr85 : zro Try.prog 85 = some ([.int .u8 0, .int .u8 0, .int .u8 0, .string ⟨#[]⟩, .int .i64 0]) := by kernel_rfl
@[go_sem] theorem Try.tk86 : tk Try.prog 86 = .func := by kernel_rfl
@[go_sem] theorem Try.sz86 : sz Try.prog 86 = some 1 := by kernel_rfl
@[go_sem] theorem Try.by86 : by' Try.prog 86 = some 8 := by kernel_rfl
@[go_sem] theorem Try.zr86 : zro Try.prog 86 = some ([.nilFunc]) := by kernel_rfl
@[go_sem] theorem Try.tk87 : tk Try.prog 87 = .slice 88 := by kernel_rfl
@[go_sem] theorem Try.sz87 : sz Try.prog 87 = some 1 := by kernel_rfl
@[go_sem] theorem Try.by87 : by' Try.prog 87 = some 24 := by kernel_rfl
@[go_sem] theorem Try.zr87 : zro Try.prog 87 = some ([.slice none 0 0]) := by kernel_rfl
@[go_sem] theorem Try.tk88 : tk Try.prog 88 = .slice 97 := by kernel_rfl
@[go_sem] theorem Try.sz88 : sz Try.prog 88 = some 1 := by kernel_rfl
@[go_sem] theorem Try.by88 : by' Try.prog 88 = some 24 := by kernel_rfl
@[go_sem] theorem Try.zr88 : zro Try.prog 88 = some ([.slice none 0 0]) := by kernel_rfl
@[go_sem] theorem Try.tk89 : tk Try.prog 89 = .func := by kernel_rfl
@[go_sem] theorem Try.sz89 : sz Try.prog 89 = some 1 := by kernel_rfl
@[go_sem] theorem Try.by89 : by' Try.prog 89 = some 8 := by kernel_rfl
@[go_sem] theorem Try.zr89 : zro Try.prog 89 = some ([.nilFunc]) := by kernel_rfl
@[go_sem] theorem Try.tk90 : tk Try.prog 90 = .func := by kernel_rfl
@[go_sem] theorem Try.sz90 : sz Try.prog 90 = some 1 := by kernel_rfl
@[go_sem] theorem Try.by90 : by' Try.prog 90 = some 8 := by kernel_rfl
@[go_sem] theorem Try.zr90 : zro Try.prog 90 = some ([.nilFunc]) := by kernel_rfl
@[go_sem] theorem Try.tk92 : tk Try.prog 92 = .func := by kernel_rfl
@[go_sem] theorem Try.sz92 : sz Try.prog 92 = some 1 := by kernel_rfl
@[go_sem] theorem Try.by92 : by' Try.prog 92 = some 8 := by kernel_rfl
@[go_sem] theorem Try.zr92 : zro Try.prog 92 = some ([.nilFunc]) := by kernel_rfl
@[go_sem] theorem Try.tk94 : tk Try.prog 94 = .func := by kernel_rfl
@[go_sem] theorem Try.sz94 : sz Try.prog 94 = some 1 := by kernel_rfl
@[go_sem] theorem Try.by94 : by' Try.prog 94 = some 8 := by kernel_rfl
@[go_sem] theorem Try.zr94 : zro Try.prog 94 = some ([.nilFunc]) := by kernel_rfl
@[go_sem] theorem Try.tk95 : tk Try.prog 95 = .func := by kernel_rfl
@[go_sem] theorem Try.sz95 : sz Try.prog 95 = some 1 := by kernel_rfl
@[go_sem] theorem Try.by95 : by' Try.prog 95 = some 8 := by kernel_rfl
@[go_sem] theorem Try.zr95 : zro Try.prog 95 = some ([.nilFunc]) := by kernel_rfl
@[go_sem] theorem Try.tk96 : tk Try.prog 96 = .struct [(0, 9), (1, 3)] := by kernel_rfl
@[go_sem] theorem Try.sz96 : sz Try.prog 96 = some 2 := by kernel_rfl
@[go_sem] theorem Try.by96 : by' Try.prog 96 = some 24 := by kernel_rfl
@[go_sem] theorem Try.eq96 : eqOk Try.prog 96 = true := by kernel_rfl
@[go_sem] theorem Try.zr96 : zro Try.prog 96 = some ([.string ⟨#[]⟩, .int .i64 0]) := by kernel_rfl
@[go_sem] theorem Try.tk97 : tk Try.prog 97 = .struct [(0, 9), (1, 3)] := by kernel_rfl
@[go_sem] theorem Try.sz97 : sz Try.prog 97 = some 2 := by kernel_rfl
@[go_sem] theorem Try.by97 : by' Try.prog 97 = some 24 := by kernel_rfl
@[go_sem] theorem Try.eq97 : eqOk Try.prog 97 = true := by kernel_rfl
@[go_sem] theorem Try.zr97 : zro Try.prog 97 = some ([.string ⟨#[]⟩, .int .i64 0]) := by kernel_rfl
@[go_sem] theorem Try.tk98 : tk Try.prog 98 = .func := by kernel_rfl
@[go_sem] theorem Try.sz98 : sz Try.prog 98 = some 1 := by kernel_rfl
@[go_sem] theorem Try.by98 : by' Try.prog 98 = some 8 := by kernel_rfl
@[go_sem] theorem Try.zr98 : zro Try.prog 98 = some ([.nilFunc]) := by kernel_rfl
@[go_sem] theorem Try.tk99 : tk Try.prog 99 = .func := by kernel_rfl
@[go_sem] theorem Try.sz99 : sz Try.prog 99 = some 1 := by kernel_rfl
@[go_sem] theorem Try.by99 : by' Try.prog 99 = some 8 := by kernel_rfl
@[go_sem] theorem Try.zr99 : zro Try.prog 99 = some ([.nilFunc]) := by kernel_rfl
@[go_sem] theorem Try.tk101 : tk Try.prog 101 = .func := by kernel_rfl
@[go_sem] theorem Try.sz101 : sz Try.prog 101 = some 1 := by kernel_rfl
@[go_sem] theorem Try.by101 : by' Try.prog 101 = some 8 := by kernel_rfl
@[go_sem] theorem Try.zr101 : zro Try.prog 101 = some ([.nilFunc]) := by kernel_rfl
@[go_sem] theorem Try.tk102 : tk Try.prog 102 = .func := by kernel_rfl
@[go_sem] theorem Try.sz102 : sz Try.prog 102 = some 1 := by kernel_rfl
@[go_sem] theorem Try.by102 : by' Try.prog 102 = some 8 := by kernel_rfl
@[go_sem] theorem Try.zr102 : zro Try.prog 102 = some ([.nilFunc]) := by kernel_rfl
@[go_sem] theorem Try.tk103 : tk Try.prog 103 = .func := by kernel_rfl
@[go_sem] theorem Try.sz103 : sz Try.prog 103 = some 1 := by kernel_rfl
@[go_sem] theorem Try.by103 : by' Try.prog 103 = some 8 := by kernel_rfl
@[go_sem] theorem Try.zr103 : zro Try.prog 103 = some ([.nilFunc]) := by kernel_rfl
@[go_sem] theorem Try.tk105 : tk Try.prog 105 = .func := by kernel_rfl
@[go_sem] theorem Try.sz105 : sz Try.prog 105 = some 1 := by kernel_rfl
@[go_sem] theorem Try.by105 : by' Try.prog 105 = some 8 := by kernel_rfl
@[go_sem] theorem Try.zr105 : zro Try.prog 105 = some ([.nilFunc]) := by kernel_rfl
@[go_sem] theorem Try.tk106 : tk Try.prog 106 = .func := by kernel_rfl
@[go_sem] theorem Try.sz106 : sz Try.prog 106 = some 1 := by kernel_rfl
@[go_sem] theorem Try.by106 : by' Try.prog 106 = some 8 := by kernel_rfl
@[go_sem] theorem Try.zr106 : zro Try.prog 106 = some ([.nilFunc]) := by kernel_rfl
@[go_sem] theorem Try.tk107 : tk Try.prog 107 = .func := by kernel_rfl
@[go_sem] theorem Try.sz107 : sz Try.prog 107 = some 1 := by kernel_rfl
@[go_sem] theorem Try.by107 : by' Try.prog 107 = some 8 := by kernel_rfl
@[go_sem] theorem Try.zr107 : zro Try.prog 107 = some ([.nilFunc]) := by kernel_rfl
@[go_sem] theorem Try.tk108 : tk Try.prog 108 = .func := by kernel_rfl
@[go_sem] theorem Try.sz108 : sz Try.prog 108 = some 1 := by kernel_rfl
@[go_sem] theorem Try.by108 : by' Try.prog 108 = some 8 := by kernel_rfl
@[go_sem] theorem Try.zr108 : zro Try.prog 108 = some ([.nilFunc]) := by kernel_rfl
@[go_sem] theorem Try.tk109 : tk Try.prog 109 = .func := by kernel_rfl
@[go_sem] theorem Try.sz109 : sz Try.prog 109 = some 1 := by kernel_rfl
@[go_sem] theorem Try.by109 : by' Try.prog 109 = some 8 := by kernel_rfl
@[go_sem] theorem Try.zr109 : zro Try.prog 109 = some ([.nilFunc]) := by kernel_rfl
@[go_sem] theorem Try.tk110 : tk Try.prog 110 = .struct [(0, 22)] := by kernel_rfl
@[go_sem] theorem Try.sz110 : sz Try.prog 110 = some 1 := by kernel_rfl
@[go_sem] theorem Try.by110 : by' Try.prog 110 = some 24 := by kernel_rfl
@[go_sem] theorem Try.zr110 : zro Try.prog 110 = some ([.slice none 0 0]) := by kernel_rfl
@[go_sem] theorem Try.tk111 : tk Try.prog 111 = .struct [(0, 22)] := by kernel_rfl
@[go_sem] theorem Try.sz111 : sz Try.prog 111 = some 1 := by kernel_rfl
@[go_sem] theorem Try.by111 : by' Try.prog 111 = some 24 := by kernel_rfl
@[go_sem] theorem Try.zr111 : zro Try.prog 111 = some ([.slice none 0 0]) := by kernel_rfl
@[go_sem] theorem Try.tk112 : tk Try.prog 112 = .struct [(0, 111), (1, 3)] := by kernel_rfl
@[go_sem] theorem Try.sz112 : sz Try.prog 112 = some 2 := by kernel_rfl
@[go_sem] theorem Try.by112 : by' Try.prog 112 = some 32 := by kernel_rfl
@[go_sem] theorem Try.zr112 : zro Try.prog 112 = some ([.slice none 0 0, .int .i64 0]) := by kernel_rfl
@[go_sem] theorem Try.tk113 : tk Try.prog 113 = .struct [(0, 111), (1, 3)] := by kernel_rfl
@[go_sem] theorem Try.sz113 : sz Try.prog 113 = some 2 := by kernel_rfl
@[go_sem] theorem Try.by113 : by' Try.prog 113 = some 32 := by kernel_rfl
@[go_sem] theorem Try.zr113 : zro Try.prog 113 = some ([.slice none 0 0, .int .i64 0]) := by kernel_rfl
@[go_sem] theorem Try.tk114 : tk Try.prog 114 = .func := by kernel_rfl
@[go_sem] theorem Try.sz114 : sz Try.prog 114 = some 1 := by kernel_rfl
@[go_sem] theorem Try.by114 : by' Try.prog 114 = some 8 := by kernel_rfl
@[go_sem] theorem Try.zr114 : zro Try.prog 114 = some ([.nilFunc]) := by kernel_rfl
@[go_sem] theorem Try.tk115 : tk Try.prog 115 = .slice 121 := by kernel_rfl
@[go_sem] theorem Try.sz115 : sz Try.prog 115 = some 1 := by kernel_rfl
@[go_sem] theorem Try.by115 : by' Try.prog 115 = some 24 := by kernel_rfl
@[go_sem] theorem Try.zr115 : zro Try.prog 115 = some ([.slice none 0 0]) := by kernel_rfl
@[go_sem] theorem Try.tk116 : tk Try.prog 116 = .struct [(0, 22), (1, 22), (2, 22), (3, 115)] := by kernel_rfl
@[go_sem] theorem Try.sz116 : sz Try.prog 116 = some 4 := by kernel_rfl
@[go_sem] theorem Try.by116 : by' Try.prog 116 = some 96 := by kernel_rfl
@[go_sem] theorem Try.zr116 : zro Try.prog 116 = some ([.slice none 0 0, .slice none 0 0, .slice none 0 0, .slice none 0 0]) := by kernel_rfl
@[go_sem] theorem Try.tk117 : tk Try.prog 117 = .struct [(0, 22), (1, 22), (2, 22), (3, 115)] := by kernel_rfl
@[go_sem] theorem Try.sz117 : sz Try.prog 117 = some 4 := by kernel_rfl
@[go_sem] theorem Try.by117 : by' Try.prog 117 = some 96 := by kernel_rfl
@[go_sem] theorem Try.zr117 : zro Try.prog 117 = some ([.slice none 0 0, .slice none 0 0, .slice none 0 0, .slice none 0 0]) := by kernel_rfl
@[go_sem] theorem Try.tk118 : tk Try.prog 118 = .func := by kernel_rfl
@[go_sem] theorem Try.sz118 : sz Try.prog 118 = some 1 := by kernel_rfl
@[go_sem] theorem Try.by118 : by' Try.prog 118 = some 8 := by kernel_rfl
@[go_sem] theorem Try.zr118 : zro Try.prog 118 = some ([.nilFunc]) := by kernel_rfl
@[go_sem] theorem Try.tk119 : tk Try.prog 119 = .func := by kernel_rfl
@[go_sem] theorem Try.sz119 : sz Try.prog 119 = some 1 := by kernel_rfl
@[go_sem] theorem Try.by119 : by' Try.prog 119 = some 8 := by kernel_rfl
@[go_sem] theorem Try.zr119 : zro Try.prog 119 = some ([.nilFunc]) := by kernel_rfl
@[go_sem] theorem Try.tk120 : tk Try.prog 120 = .struct [(0, 3), (1, 3), (2, 3), (3, 3)] := by kernel_rfl
@[go_sem] theorem Try.sz120 : sz Try.prog 120 = some 4 := by kernel_rfl
@[go_sem] theorem Try.by120 : by' Try.prog 120 = some 32 := by kernel_rfl
@[go_sem] theorem Try.eq120 : eqOk Try.prog 120 = true := by kernel_rfl
@[go_sem] theorem Try.zr120 : zro Try.prog 120 = some ([.int .i64 0, .int .i64 0, .int .i64 0, .int .i64 0]) := by kernel_rfl
@[go_sem] theorem Try.tk121 : tk Try.prog 121 = .struct [(0, 3), (1, 3), (2, 3), (3, 3)] := by kernel_rfl
@[go_sem] theorem Try.sz121 : sz Try.prog 121 = some 4 := by kernel_rfl
@[go_sem] theorem Try.by121 : by' Try.prog 121 = some 32 := by kernel_rfl
@[go_sem] theorem Try.eq121 : eqOk Try.prog 121 = true := by kernel_rfl
@[go_sem] theorem Try.zr121 : zro Try.prog 121 = some ([.int .i64 0, .int .i64 0, .int .i64 0, .int .i64 0]) := by kernel_rfl
@[go_sem] theorem Try.tk122 : tk Try.prog 122 = .func := by kernel_rfl
@[go_sem] theorem Try.sz122 : sz Try.prog 122 = some 1 := by kernel_rfl
@[go_sem] theorem Try.by122 : by' Try.prog 122 = some 8 := by kernel_rfl
@[go_sem] theorem Try.zr122 : zro Try.prog 122 = some ([.nilFunc]) := by kernel_rfl
@[go_sem] theorem Try.tk123 : tk Try.prog 123 = .func := by kernel_rfl
@[go_sem] theorem Try.sz123 : sz Try.prog 123 = some 1 := by kernel_rfl
@[go_sem] theorem Try.by123 : by' Try.prog 123 = some 8 := by kernel_rfl
@[go_sem] theorem Try.zr123 : zro Try.prog 123 = some ([.nilFunc]) := by kernel_rfl
@[go_sem] theorem Try.tk124 : tk Try.prog 124 = .func := by kernel_rfl
@[go_sem] theorem Try.sz124 : sz Try.prog 124 = some 1 := by kernel_rfl
@[go_sem] theorem Try.by124 : by' Try.prog 124 = some 8 := by kernel_rfl
@[go_sem] theorem Try.zr124 : zro Try.prog 124 = some ([.nilFunc]) := by kernel_rfl
@[go_sem] theorem Try.tk125 : tk Try.prog 125 = .func := by kernel_rfl
@[go_sem] theorem Try.sz125 : sz Try.prog 125 = some 1 := by kernel_rfl
@[go_sem] theorem Try.by125 : by' Try.prog 125 = some 8 := by kernel_rfl
@[go_sem] theorem Try.zr125 : zro Try.prog 125 = some ([.nilFunc]) := by kernel_rfl
@[go_sem] theorem Try.tk127 : tk Try.prog 127 = .func := by kernel_rfl
@[go_sem] theorem Try.sz127 : sz Try.prog 127 = some 1 := by kernel_rfl
@[go_sem] theorem Try.by127 : by' Try.prog 127 = some 8 := by kernel_rfl
@[go_sem] theorem Try.zr127 : zro Try.prog 127 = some ([.nilFunc]) := by kernel_rfl
@[go_sem] theorem Try.tk128 : tk Try.prog 128 = .func := by kernel_rfl
@[go_sem] theorem Try.sz128 : sz Try.prog 128 = some 1 := by kernel_rfl
@[go_sem] theorem Try.by128 : by' Try.prog 128 = some 8 := by kernel_rfl
@[go_sem] theorem Try.zr128 : zro Try.prog 128 = some ([.nilFunc]) := by kernel_rfl
@[go_sem] theorem Try.tk129 : tk Try.prog 129 = .func := by kernel_rfl
@[go_sem] theorem Try.sz129 : sz Try.prog 129 = some 1 := by kernel_rfl
@[go_sem] theorem Try.by129 : by' Try.prog 129 = some 8 := by kernel_rfl
@[go_sem] theorem Try.zr129 : zro Try.prog 129 = some ([.nilFunc]) := by kernel_rfl
@[go_sem] theorem Try.tk131 : tk Try.prog 131 = .func := by kernel_rfl
@[go_sem] theorem Try.sz131 : sz Try.prog 131 = some 1 := by kernel_rfl
@[go_sem] theorem Try.by131 : by' Try.prog 131 = some 8 := by kernel_rfl
@[go_sem] theorem Try.zr131 : zro Try.prog 131 = some ([.nilFunc]) := by kernel_rfl
@[go_sem] theorem Try.tk132 : tk Try.prog 132 = .func := by kernel_rfl
@[go_sem] theorem Try.sz132 : sz Try.prog 132 = some 1 := by kernel_rfl
@[go_sem] theorem Try.by132 : by' Try.prog 132 = some 8 := by kernel_rfl
@[go_sem] theorem Try.zr132 : zro Try.prog 132 = some ([.nilFunc]) := by kernel_rfl
@[go_sem] theorem Try.tk133 : tk Try.prog 133 = .func := by kernel_rfl
@[go_sem] theorem Try.sz133 : sz Try.prog 133 = some 1 := by kernel_rfl
@[go_sem] theorem Try.by133 : by' Try.prog 133 = some 8 := by kernel_rfl
@[go_sem] theorem Try.zr133 : zro Try.prog 133 = some ([.nilFunc]) := by kernel_rfl
@[go_sem] theorem Try.tk135 : tk Try.prog 135 = .func := by kernel_rfl
@[go_sem] theorem Try.sz135 : sz Try.prog 135 = some 1 := by kernel_rfl
@[go_sem] theorem Try.by135 : by' Try.prog 135 = some 8 := by kernel_rfl
@[go_sem] theorem Try.zr135 : zro Try.prog 135 = some ([.nilFunc]) := by kernel_rfl
@[go_sem] theorem Try.tk136 : tk Try.prog 136 = .func := by kernel_rfl
@[go_sem] theorem Try.sz136 : sz Try.prog 136 = some 1 := by kernel_rfl
@[go_sem] theorem Try.by136 : by' Try.prog 136 = some 8 := by kernel_rfl
@[go_sem] theorem Try.zr136 : zro Try.prog 136 = some ([.nilFunc]) := by kernel_rfl
@[go_sem] theorem Try.tk137 : tk Try.prog 137 = .func := by kernel_rfl
@[go_sem] theorem Try.sz137 : sz Try.prog 137 = some 1 := by kernel_rfl
@[go_sem] theorem Try.by137 : by' Try.prog 137 = some 8 := by kernel_rfl
@[go_sem] theorem Try.zr137 : zro Try.prog 137 = some ([.nilFunc]) := by kernel_rfl
@[go_sem] theorem Try.tk138 : tk Try.prog 138 = .func := by kernel_rfl
@[go_sem] theorem Try.sz138 : sz Try.prog 138 = some 1 := by kernel_rfl
@[go_sem] theorem Try.by138 : by' Try.prog 138 = some 8 := by kernel_rfl
@[go_sem] theorem Try.zr138 : zro Try.prog 138 = some ([.nilFunc]) := by kernel_rfl
@[go_sem] theorem Try.tk139 : tk Try.prog 139 = .func := by kernel_rfl
@[go_sem] theorem Try.sz139 : sz Try.prog 139 = some 1 := by kernel_rfl
@[go_sem] theorem Try.by139 : by' Try.prog 139 = some 8 := by kernel_rfl
@[go_sem] theorem Try.zr139 : zro Try.prog 139 = some ([.nilFunc]) := by kernel_rfl
@[go_sem] theorem Try.tk141 : tk Try.prog 141 = .func := by kernel_rfl
@[go_sem] theorem Try.sz141 : sz Try.prog 141 = some 1 := by kernel_rfl
@[go_sem] theorem Try.by141 : by' Try.prog 141 = some 8 := by kernel_rfl
@[go_sem] theorem Try.zr141 : zro Try.prog 141 = some ([.nilFunc]) := by kernel_rfl
@[go_sem] theorem Try.tk142 : tk Try.prog 142 = .struct [(0, 9), (1, 3), (2, 80), (3, 80), (4, 3), (5, 3)] := by kernel_rfl
@[go_sem] theorem Try.sz142 : sz Try.prog 142 = some 6 := by kernel_rfl
@[go_sem] theorem Try.by142 : by' Try.prog 142 = some 56 := by kernel_rfl
@[go_sem] theorem Try.zr142 : zro Try.prog 142 = some ([.string ⟨#[]⟩, .int .i64 0, .pointer none, .pointer none, .int .i64 0, .int .i64 0]) := by kernel_rfl
@[go_sem] theorem Try.tk143 : tk Try.prog 143 = .struct [(0, 9), (1, 3), (2, 80), (3, 80), (4, 3), (5, 3)] := by kernel_rfl
@[go_sem] theorem Try.sz143 : sz Try.prog 143 = some 6 := by kernel_rfl
@[go_sem] theorem Try.by143 : by' Try.prog 143 = some 56 := by kernel_rfl
@[go_sem] theorem Try.zr143 : zro Try.prog 143 = some ([.string ⟨#[]⟩, .int .i64 0, .pointer none, .pointer none, .int .i64 0, .int .i64 0]) := by kernel_rfl
@[go_sem] theorem Try.tk144 : tk Try.prog 144 = .func := by kernel_rfl
@[go_sem] theorem Try.sz144 : sz Try.prog 144 = some 1 := by kernel_rfl
@[go_sem] theorem Try.by144 : by' Try.prog 144 = some 8 := by kernel_rfl
@[go_sem] theorem Try.zr144 : zro Try.prog 144 = some ([.nilFunc]) := by kernel_rfl
@[go_sem] theorem Try.tk145 : tk Try.prog 145 = .struct [(0, 3), (1, 3), (2, 24), (3, 24), (4, 3), (5, 3)] := by kernel_rfl
@[go_sem] theorem Try.sz145 : sz Try.prog 145 = some 6 := by kernel_rfl
@[go_sem] theorem Try.by145 : by' Try.prog 145 = some 48 := by kernel_rfl
@[go_sem] theorem Try.zr145 : zro Try.prog 145 = some ([.int .i64 0, .int .i64 0, .pointer none, .pointer none, .int .i64 0, .int .i64 0]) := by kernel_rfl
@[go_sem] theorem Try.tk146 : tk Try.prog 146 = .struct [(0, 3), (1, 3), (2, 24), (3, 24), (4, 3), (5, 3)] := by kernel_rfl
@[go_sem] theorem Try.sz146 : sz Try.prog 146 = some 6 := by kernel_rfl
@[go_sem] theorem Try.by146 : by' Try.prog 146 = some 48 := by kernel_rfl
@[go_sem] theorem Try.zr146 : zro Try.prog 146 = some ([.int .i64 0, .int .i64 0, .pointer none, .pointer none, .int .i64 0, .int .i64 0]) := by kernel_rfl
@[go_sem] theorem Try.tk147 : tk Try.prog 147 = .func := by kernel_rfl
@[go_sem] theorem Try.sz147 : sz Try.prog 147 = some 1 := by kernel_rfl
@[go_sem] theorem Try.by147 : by' Try.prog 147 = some 8 := by kernel_rfl
@[go_sem] theorem Try.zr147 : zro Try.prog 147 = some ([.nilFunc]) := by kernel_rfl
@[go_sem] theorem Try.tk148 : tk Try.prog 148 = .func := by kernel_rfl
@[go_sem] theorem Try.sz148 : sz Try.prog 148 = some 1 := by kernel_rfl
@[go_sem] theorem Try.by148 : by' Try.prog 148 = some 8 := by kernel_rfl
@[go_sem] theorem Try.zr148 : zro Try.prog 148 = some ([.nilFunc]) := by kernel_rfl
@[go_sem] theorem Try.tk149 : tk Try.prog 149 = .func := by kernel_rfl
@[go_sem] theorem Try.sz149 : sz Try.prog 149 = some 1 := by kernel_rfl
@[go_sem] theorem Try.by149 : by' Try.prog 149 = some 8 := by kernel_rfl
@[go_sem] theorem Try.zr149 : zro Try.prog 149 = some ([.nilFunc]) := by kernel_rfl
@[go_sem] theorem Try.tk150 : tk Try.prog 150 = .ptr 111 := by kernel_rfl
@[go_sem] theorem Try.sz150 : sz Try.prog 150 = some 1 := by kernel_rfl
@[go_sem] theorem Try.by150 : by' Try.prog 150 = some 8 := by kernel_rfl
@[go_sem] theorem Try.zr150 : zro Try.prog 150 = some ([.pointer none]) := by kernel_rfl
@[go_sem] theorem Try.tk151 : tk Try.prog 151 = .func := by kernel_rfl
@[go_sem] theorem Try.sz151 : sz Try.prog 151 = some 1 := by kernel_rfl
@[go_sem] theorem Try.by151 : by' Try.prog 151 = some 8 := by kernel_rfl
@[go_sem] theorem Try.zr151 : zro Try.prog 151 = some ([.nilFunc]) := by kernel_rfl
@[go_sem] theorem Try.tk152 : tk Try.prog 152 = .func := by kernel_rfl
@[go_sem] theorem Try.sz152 : sz Try.prog 152 = some 1 := by kernel_rfl
@[go_sem] theorem Try.by152 : by' Try.prog 152 = some 8 := by kernel_rfl
@[go_sem] theorem Try.zr152 : zro Try.prog 152 = some ([.nilFunc]) := by kernel_rfl
@[go_sem] theorem Try.tk153 : tk Try.prog 153 = .func := by kernel_rfl
@[go_sem] theorem Try.sz153 : sz Try.prog 153 = some 1 := by kernel_rfl
@[go_sem] theorem Try.by153 : by' Try.prog 153 = some 8 := by kernel_rfl
@[go_sem] theorem Try.zr153 : zro Try.prog 153 = some ([.nilFunc]) := by kernel_rfl
@[go_sem] theorem Try.tk154 : tk Try.prog 154 = .func := by kernel_rfl
@[go_sem] theorem Try.sz154 : sz Try.prog 154 = some 1 := by kernel_rfl
@[go_sem] theorem Try.by154 : by' Try.prog 154 = some 8 := by kernel_rfl
@[go_sem] theorem Try.zr154 : zro Try.prog 154 = some ([.nilFunc]) := by kernel_rfl
@[go_sem] theorem Try.tk155 : tk Try.prog 155 = .func := by kernel_rfl
@[go_sem] theorem Try.sz155 : sz Try.prog 155 = some 1 := by kernel_rfl
@[go_sem] theorem Try.by155 : by' Try.prog 155 = some 8 := by kernel_rfl
@[go_sem] theorem Try.zr155 : zro Try.prog 155 = some ([.nilFunc]) := by kernel_rfl
@[go_sem] theorem Try.tk156 : tk Try.prog 156 = .func := by kernel_rfl
@[go_sem] theorem Try.sz156 : sz Try.prog 156 = some 1 := by kernel_rfl
@[go_sem] theorem Try.by156 : by' Try.prog 156 = some 8 := by kernel_rfl
@[go_sem] theorem Try.zr156 : zro Try.prog 156 = some ([.nilFunc]) := by kernel_rfl
@[go_sem] theorem Try.tk157 : tk Try.prog 157 = .func := by kernel_rfl
@[go_sem] theorem Try.sz157 : sz Try.prog 157 = some 1 := by kernel_rfl
@[go_sem] theorem Try.by157 : by' Try.prog 157 = some 8 := by kernel_rfl
@[go_sem] theorem Try.zr157 : zro Try.prog 157 = some ([.nilFunc]) := by kernel_rfl
@[go_sem] theorem Try.tk158 : tk Try.prog 158 = .func := by kernel_rfl
@[go_sem] theorem Try.sz158 : sz Try.prog 158 = some 1 := by kernel_rfl
@[go_sem] theorem Try.by158 : by' Try.prog 158 = some 8 := by kernel_rfl
@[go_sem] theorem Try.zr158 : zro Try.prog 158 = some ([.nilFunc]) := by kernel_rfl
@[go_sem] theorem Try.tk159 : tk Try.prog 159 = .struct [(0, 17), (1, 17), (2, 17), (3, 9)] := by kernel_rfl
@[go_sem] theorem Try.sz159 : sz Try.prog 159 = some 4 := by kernel_rfl
@[go_sem] theorem Try.by159 : by' Try.prog 159 = some 40 := by kernel_rfl
@[go_sem] theorem Try.zr159 : zro Try.prog 159 = some ([.pointer none, .pointer none, .pointer none, .string ⟨#[]⟩]) := by kernel_rfl
@[go_sem] theorem Try.tk160 : tk Try.prog 160 = .struct [(0, 17), (1, 17), (2, 17), (3, 9)] := by kernel_rfl
@[go_sem] theorem Try.sz160 : sz Try.prog 160 = some 4 := by kernel_rfl
@[go_sem] theorem Try.by160 : by' Try.prog 160 = some 40 := by kernel_rfl
@[go_sem] theorem Try.zr160 : zro Try.prog 160 = some ([.pointer none, .pointer none, .pointer none, .string ⟨#[]⟩]) := by kernel_rfl
@[go_sem] theorem Try.tk161 : tk Try.prog 161 = .arr 0 16 := by kernel_rfl
@[go_sem] theorem Try.sz161 : sz Try.prog 161 = some 0 := by kernel_rfl
@[go_sem] theorem Try.by161 : by' Try.prog 161 = some 0 := by kernel_rfl
@[go_sem] theorem Try.zr161 : zro Try.prog 161 = some ([]) := by kernel_rfl
@[go_sem] theorem Try.tk162 : tk Try.prog 162 = .struct [(0, 161)] := by kernel_rfl
@[go_sem] theorem Try.sz162 : sz Try.prog 162 = some 0 := by kernel_rfl
@[go_sem] theorem Try.by162 : by' Try.prog 162 = some 0 := by kernel_rfl
@[go_sem] theorem Try.zr162 : zro Try.prog 162 = some ([]) := by kernel_rfl
@[go_sem] theorem Try.tk163 : tk Try.prog 163 = .struct [(0, 161)] := by kernel_rfl
@[go_sem] theorem Try.sz163 : sz Try.prog 163 = some 0 := by kernel_rfl
@[go_sem] theorem Try.by163 : by' Try.prog 163 = some 0 := by kernel_rfl
@[go_sem] theorem Try.zr163 : zro Try.prog 163 = some ([]) := by kernel_rfl
@[go_sem] theorem Try.tk164 : tk Try.prog 164 = .int .u32 := by kernel_rfl
@[go_sem] theorem Try.sz164 : sz Try.prog 164 = some 1 := by kernel_rfl
@[go_sem] theorem Try.by164 : by' Try.prog 164 = some 4 := by kernel_rfl
@[go_sem] theorem Try.un164 : (Try.prog.underlying 164).isSome = true := by kernel_rfl
@[go_sem] theorem Try.zr164 : zro Try.prog 164 = some ([.int .u32 0]) := by kernel_rfl
@[go_sem] theorem Try.tk165 : tk Try.prog 165 = .int .u8 := by kernel_rfl
@[go_sem] theorem Try.sz165 : sz Try.prog 165 = some 1 := by kernel_rfl
@[go_sem] theorem Try.by165 : by' Try.prog 165 = some 1 := by kernel_rfl
@[go_sem] theorem Try.un165 : (Try.prog.underlying 165).isSome = true := by kernel_rfl
@[go_sem] theorem Try.zr165 : zro Try.prog 165 = some ([.int .u8 0]) := by kernel_rfl
@[go_sem] theorem Try.tk166 : tk Try.prog 166 = .int .u8 := by kernel_rfl
@[go_sem] theorem Try.sz166 : sz Try.prog 166 = some 1 := by kernel_rfl
@[go_sem] theorem Try.by166 : by' Try.prog 166 = some 1 := by kernel_rfl
@[go_sem] theorem Try.un166 : (Try.prog.underlying 166).isSome = true := by kernel_rfl
@[go_sem] theorem Try.zr166 : zro Try.prog 166 = some ([.int .u8 0]) := by kernel_rfl
@[go_sem] theorem Try.tk167 : tk Try.prog 167 = .func := by kernel_rfl
@[go_sem] theorem Try.sz167 : sz Try.prog 167 = some 1 := by kernel_rfl
@[go_sem] theorem Try.by167 : by' Try.prog 167 = some 8 := by kernel_rfl
@[go_sem] theorem Try.zr167 : zro Try.prog 167 = some ([.nilFunc]) := by kernel_rfl
@[go_sem] theorem Try.tk168 : tk Try.prog 168 = .ptr 5 := by kernel_rfl
@[go_sem] theorem Try.sz168 : sz Try.prog 168 = some 1 := by kernel_rfl
@[go_sem] theorem Try.by168 : by' Try.prog 168 = some 8 := by kernel_rfl
@[go_sem] theorem Try.zr168 : zro Try.prog 168 = some ([.pointer none]) := by kernel_rfl
@[go_sem] theorem Try.tk169 : tk Try.prog 169 = .int .i32 := by kernel_rfl
@[go_sem] theorem Try.sz169 : sz Try.prog 169 = some 1 := by kernel_rfl
@[go_sem] theorem Try.by169 : by' Try.prog 169 = some 4 := by kernel_rfl
@[go_sem] theorem Try.un169 : (Try.prog.underlying 169).isSome = true := by kernel_rfl
@[go_sem] theorem Try.zr169 : zro Try.prog 169 = some ([.int .i32 0]) := by kernel_rfl
@[go_sem] theorem Try.tk170 : tk Try.prog 170 = .int .i32 := by kernel_rfl
@[go_sem] theorem Try.sz170 : sz Try.prog 170 = some 1 := by kernel_rfl
@[go_sem] theorem Try.by170 : by' Try.prog 170 = some 4 := by kernel_rfl
@[go_sem] theorem Try.un170 : (Try.prog.underlying 170).isSome = true := by kernel_rfl
@[go_sem] theorem Try.zr170 : zro Try.prog 170 = some ([.int .i32 0]) := by kernel_rfl
@[go_sem] theorem Try.tk171 : tk Try.prog 171 = .struct [(0, 12), (1, 12), (2, 164), (3, 165), (4, 5), (5, 5), (6, 166), (7, 167), (8, 168), (9, 169), (10, 170)] := by kernel_rfl
@[go_sem] theorem Try.sz171 : sz Try.prog 171 = some 11 := by kernel_rfl
@[go_sem] theorem Try.by171 : by' Try.prog 171 = some 48 := by kernel_rfl
@[go_sem] theorem Try.zr171 : zro Try.prog 171 = some ([.int .u64 0, .int .u64 0, .int .u32 0, .int .u8 0, .int .u8 0, .int .u8 0, .int .u8 0, .nilFunc, .pointer none, .int .i32 0, .int .i32 0]) := by kernel_rfl
@[go_sem] theorem Try.tk172 : tk Try.prog 172 = .struct [(0, 12), (1, 12), (2, 164), (3, 165), (4, 5), (5, 5), (6, 166), (7, 167), (8, 168), (9, 169), (10, 170)] := by kernel_rfl
@[go_sem] theorem Try.sz172 : sz Try.prog 172 = some 11 := by kernel_rfl
@[go_sem] theorem Try.by172 : by' Try.prog 172 = some 48 := by kernel_rfl
@[go_sem] theorem Try.zr172 : zro Try.prog 172 = some ([.int .u64 0, .int .u64 0, .int .u32 0, .int .u8 0, .int .u8 0, .int .u8 0, .int .u8 0, .nilFunc, .pointer none, .int .i32 0, .int .i32 0]) := by kernel_rfl
@[go_sem] theorem Try.tk173 : tk Try.prog 173 = .func := by kernel_rfl
@[go_sem] theorem Try.sz173 : sz Try.prog 173 = some 1 := by kernel_rfl
@[go_sem] theorem Try.by173 : by' Try.prog 173 = some 8 := by kernel_rfl
@[go_sem] theorem Try.zr173 : zro Try.prog 173 = some ([.nilFunc]) := by kernel_rfl
@[go_sem] theorem Try.tk174 : tk Try.prog 174 = .func := by kernel_rfl
@[go_sem] theorem Try.sz174 : sz Try.prog 174 = some 1 := by kernel_rfl
@[go_sem] theorem Try.by174 : by' Try.prog 174 = some 8 := by kernel_rfl
@[go_sem] theorem Try.zr174 : zro Try.prog 174 = some ([.nilFunc]) := by kernel_rfl
@[go_sem] theorem Try.tk175 : tk Try.prog 175 = .func := by kernel_rfl
@[go_sem] theorem Try.sz175 : sz Try.prog 175 = some 1 := by kernel_rfl
@[go_sem] theorem Try.by175 : by' Try.prog 175 = some 8 := by kernel_rfl
@[go_sem] theorem Try.zr175 : zro Try.prog 175 = some ([.nilFunc]) := by kernel_rfl
@[go_sem] theorem Try.tk176 : tk Try.prog 176 = .func := by kernel_rfl
@[go_sem] theorem Try.sz176 : sz Try.prog 176 = some 1 := by kernel_rfl
@[go_sem] theorem Try.by176 : by' Try.prog 176 = some 8 := by kernel_rfl
@[go_sem] theorem Try.zr176 : zro Try.prog 176 = some ([.nilFunc]) := by kernel_rfl
@[go_sem] theorem Try.tk177 : tk Try.prog 177 = .func := by kernel_rfl
@[go_sem] theorem Try.sz177 : sz Try.prog 177 = some 1 := by kernel_rfl
@[go_sem] theorem Try.by177 : by' Try.prog 177 = some 8 := by kernel_rfl
@[go_sem] theorem Try.zr177 : zro Try.prog 177 = some ([.nilFunc]) := by kernel_rfl
@[go_sem] theorem Try.tk178 : tk Try.prog 178 = .func := by kernel_rfl
@[go_sem] theorem Try.sz178 : sz Try.prog 178 = some 1 := by kernel_rfl
@[go_sem] theorem Try.by178 : by' Try.prog 178 = some 8 := by kernel_rfl
@[go_sem] theorem Try.zr178 : zro Try.prog 178 = some ([.nilFunc]) := by kernel_rfl
@[go_sem] theorem Try.tk179 : tk Try.prog 179 = .other := by kernel_rfl
@[go_sem] theorem Try.sz179 : sz Try.prog 179 = some 1 := by kernel_rfl
@[go_sem] theorem Try.by179 : by' Try.prog 179 = some 8 := by kernel_rfl
@[go_sem] theorem Try.zr179 : zro Try.prog 179 = some ([.pointer none]) := by kernel_rfl
end Go.Proofs.Ytfgffpkdjmeaoaa
end

section
namespace Go.Proofs.Ytfgffpkdjmeaoaa.IntT
open Go Go.AL
set_option maxRecDepth 10000
set_option maxHeartbeats 2000000
/-! Trees with strings as keys -/
inductive Tr where
  | nil
  | node (k : Int) (v : Int) (l r : Tr)
namespace Tr
def size : Tr → Nat
  | nil => 0
  | node _ _ l r => size l + size r + 1
def ht : Tr → Nat
  | nil => 0
  | node _ _ l r => max (ht l) (ht r) + 1
theorem ht_le : ∀ t : Tr, t.ht ≤ t.size
  | nil => Nat.le_refl _
  | node _ _ l r => by have := ht_le l; have := ht_le r; simp only [ht, size]; omega
def iv : Tr → IV
  | nil => .v (.pointer none)
  | node k v l r => .pt [Ii k, Ii v, iv l, iv r, Ii ((size l + size r + 1 : Nat) : Int), Ii ((max (ht l) (ht r) + 1 : Nat) : Int)]
def key : Tr → Int
  | nil => 0
  | node k _ _ _ => k
def val : Tr → Int
  | nil => 0
  | node _ v _ _ => v
def left : Tr → Tr
  | nil => nil
  | node _ _ l _ => l
def right : Tr → Tr
  | nil => nil
  | node _ _ _ r => r
end Tr
abbrev Tv (t : Tr) : AV := .im t.iv
def ltS (a b : Int) : Bool := decide (a < b)
def cmpS (a b : Int) : Int := if a < b then -1 else if b < a then 1 else 0
theorem isNaN_spec (a : Int) : PFn Try.prog 92 [Iv a] (Bv false) := by
  refine ACall.walk [0, 2] [] Try.func92 rfl Try.ntmps92 (by kernel_rfl) (by rfl) rfl fun W own I0 φ0 => ?_
  repeat (first | refine xPP rfl ?_ | refine xPE rfl ?_ | refine xEP rfl ?_ | refine xEE rfl ?_ | refine AQ.done ?_ | refine AQ.skip (by kernel_rfl) rfl ?_ | refine AQ.s2b (by kernel_rfl) rfl rfl rfl rfl ?_ | refine AQ.mark (by kernel_rfl) rfl rfl rfl rfl rfl rfl rfl ?_ | refine AP.cond_true rfl rfl ?_ | refine AP.cond_false rfl rfl ?_ | (refine AP.region rfl (by kernel_rfl) ?_; simp only [go_sem, Nat.reduceAdd, Nat.reduceLeDiff, reduceCtorEq, beq_self_eq_true, bne_self_eq_false]) | (refine AP.drawQ rfl rfl (by kernel_rfl) ?_; simp only [go_sem, Nat.reduceAdd, Nat.reduceLeDiff, reduceCtorEq, beq_self_eq_true, bne_self_eq_false]) | (refine vq_id ?_; simp only [go_sem, Nat.reduceAdd, Nat.reduceLeDiff, reduceCtorEq, beq_self_eq_true, bne_self_eq_false]) | (refine ⟨by first | omega | (intros; simp_all; done) | (intros; simp_all; omega), ?_⟩; try simp only [go_sem, Nat.reduceAdd, Nat.reduceLeDiff, reduceCtorEq, beq_self_eq_true, bne_self_eq_false]))
  exact AE.ret rfl ⟨rfl, trivial⟩ ⟨rfl, rfl⟩
theorem compare_spec (a b : Int) : PFn Try.prog 81 [Iv a, Iv b] (Iv (cmpS a b)) := by
  refine ACall.walk [0, 1, 4, 5, 6, 11, 12, 13, 16, 19] [] Try.func81 rfl Try.ntmps81 (by kernel_rfl) (by rfl) rfl fun W own I0 φ0 => ?_
  repeat (first | refine xPP rfl ?_ | refine xPE rfl ?_ | refine xEP rfl ?_ | refine xEE rfl ?_ | refine AQ.done ?_ | refine AQ.skip (by kernel_rfl) rfl ?_ | refine AQ.s2b (by kernel_rfl) rfl rfl rfl rfl ?_ | refine AQ.mark (by kernel_rfl) rfl rfl rfl rfl rfl rfl rfl ?_ | refine AP.cond_true rfl rfl ?_ | refine AP.cond_false rfl rfl ?_ | (refine AP.region rfl (by kernel_rfl) ?_; simp only [go_sem, Nat.reduceAdd, Nat.reduceLeDiff, reduceCtorEq]) | (refine AP.drawQ rfl rfl (by kernel_rfl) ?_; simp only [go_sem, Nat.reduceAdd, Nat.reduceLeDiff, reduceCtorEq]) | (refine vq_id ?_; simp only [go_sem, Nat.reduceAdd, Nat.reduceLeDiff, reduceCtorEq]) | (refine ⟨by first | omega | (intros; simp_all; done) | (intros; simp_all; omega), ?_⟩; try simp only [go_sem, Nat.reduceAdd, Nat.reduceLeDiff, reduceCtorEq]))
  refine AQ.fn (by kernel_rfl) rfl rfl rfl (isNaN_spec a) rfl ?_
  repeat (first | refine xPP rfl ?_ | refine xPE rfl ?_ | refine xEP rfl ?_ | refine xEE rfl ?_ | refine AQ.done ?_ | refine AQ.skip (by kernel_rfl) rfl ?_ | refine AQ.s2b (by kernel_rfl) rfl rfl rfl rfl ?_ | refine AQ.mark (by kernel_rfl) rfl rfl rfl rfl rfl rfl rfl ?_ | refine AP.cond_true rfl rfl ?_ | refine AP.cond_false rfl rfl ?_ | (refine AP.region rfl (by kernel_rfl) ?_; simp only [go_sem, Nat.reduceAdd, Nat.reduceLeDiff, reduceCtorEq]) | (refine AP.drawQ rfl rfl (by kernel_rfl) ?_; simp only [go_sem, Nat.reduceAdd, Nat.reduceLeDiff, reduceCtorEq]) | (refine vq_id ?_; simp only [go_sem, Nat.reduceAdd, Nat.reduceLeDiff, reduceCtorEq]) | (refine ⟨by first | omega | (intros; simp_all; done) | (intros; simp_all; omega), ?_⟩; try simp only [go_sem, Nat.reduceAdd, Nat.reduceLeDiff, reduceCtorEq]))
  refine AQ.fn (by kernel_rfl) rfl rfl rfl (isNaN_spec b) rfl ?_
  repeat (first | refine xPP rfl ?_ | refine xPE rfl ?_ | refine xEP rfl ?_ | refine xEE rfl ?_ | refine AQ.done ?_ | refine AQ.skip (by kernel_rfl) rfl ?_ | refine AQ.s2b (by kernel_rfl) rfl rfl rfl rfl ?_ | refine AQ.mark (by kernel_rfl) rfl rfl rfl rfl rfl rfl rfl ?_ | refine AP.cond_true rfl rfl ?_ | refine AP.cond_false rfl rfl ?_ | (refine AP.region rfl (by kernel_rfl) ?_; simp only [go_sem, Nat.reduceAdd, Nat.reduceLeDiff, reduceCtorEq]) | (refine AP.drawQ rfl rfl (by kernel_rfl) ?_; simp only [go_sem, Nat.reduceAdd, Nat.reduceLeDiff, reduceCtorEq]) | (refine vq_id ?_; simp only [go_sem, Nat.reduceAdd, Nat.reduceLeDiff, reduceCtorEq]) | (refine ⟨by first | omega | (intros; simp_all; done) | (intros; simp_all; omega), ?_⟩; try simp only [go_sem, Nat.reduceAdd, Nat.reduceLeDiff, reduceCtorEq]))
  refine AP.cond rfl rfl (fun h1 => ?_) (fun h1 => ?_)
  · repeat (first | refine xPP rfl ?_ | refine xPE rfl ?_ | refine xEP rfl ?_ | refine xEE rfl ?_ | refine AQ.done ?_ | refine AQ.skip (by kernel_rfl) rfl ?_ | refine AQ.s2b (by kernel_rfl) rfl rfl rfl rfl ?_ | refine AQ.mark (by kernel_rfl) rfl rfl rfl rfl rfl rfl rfl ?_ | refine AP.cond_true rfl rfl ?_ | refine AP.cond_false rfl rfl ?_ | (refine AP.region rfl (by kernel_rfl) ?_; simp only [go_sem, Nat.reduceAdd, Nat.reduceLeDiff, reduceCtorEq]) | (refine AP.drawQ rfl rfl (by kernel_rfl) ?_; simp only [go_sem, Nat.reduceAdd, Nat.reduceLeDiff, reduceCtorEq]) | (refine vq_id ?_; simp only [go_sem, Nat.reduceAdd, Nat.reduceLeDiff, reduceCtorEq]) | (refine ⟨by first | omega | (intros; simp_all; done) | (intros; simp_all; omega), ?_⟩; try simp only [go_sem, Nat.reduceAdd, Nat.reduceLeDiff, reduceCtorEq]))
    exact AE.ret rfl ⟨rfl, trivial⟩ ⟨rfl, by rw [cmpS, if_pos (by simpa using h1)]; rfl⟩
  · repeat (first | refine xPP rfl ?_ | refine xPE rfl ?_ | refine xEP rfl ?_ | refine xEE rfl ?_ | refine AQ.done ?_ | refine AQ.skip (by kernel_rfl) rfl ?_ | refine AQ.s2b (by kernel_rfl) rfl rfl rfl rfl ?_ | refine AQ.mark (by kernel_rfl) rfl rfl rfl rfl rfl rfl rfl ?_ | refine AP.cond_true rfl rfl ?_ | refine AP.cond_false rfl rfl ?_ | (refine AP.region rfl (by kernel_rfl) ?_; simp only [go_sem, Nat.reduceAdd, Nat.reduceLeDiff, reduceCtorEq]) | (refine AP.drawQ rfl rfl (by kernel_rfl) ?_; simp only [go_sem, Nat.reduceAdd, Nat.reduceLeDiff, reduceCtorEq]) | (refine vq_id ?_; simp only [go_sem, Nat.reduceAdd, Nat.reduceLeDiff, reduceCtorEq]) | (refine ⟨by first | omega | (intros; simp_all; done) | (intros; simp_all; omega), ?_⟩; try simp only [go_sem, Nat.reduceAdd, Nat.reduceLeDiff, reduceCtorEq]))
    refine AP.cond rfl rfl (fun h2 => ?_) (fun h2 => ?_)
    · repeat (first | refine xPP rfl ?_ | refine xPE rfl ?_ | refine xEP rfl ?_ | refine xEE rfl ?_ | refine AQ.done ?_ | refine AQ.skip (by kernel_rfl) rfl ?_ | refine AQ.s2b (by kernel_rfl) rfl rfl rfl rfl ?_ | refine AQ.mark (by kernel_rfl) rfl rfl rfl rfl rfl rfl rfl ?_ | refine AP.cond_true rfl rfl ?_ | refine AP.cond_false rfl rfl ?_ | (refine AP.region rfl (by kernel_rfl) ?_; simp only [go_sem, Nat.reduceAdd, Nat.reduceLeDiff, reduceCtorEq]) | (refine AP.drawQ rfl rfl (by kernel_rfl) ?_; simp only [go_sem, Nat.reduceAdd, Nat.reduceLeDiff, reduceCtorEq]) | (refine vq_id ?_; simp only [go_sem, Nat.reduceAdd, Nat.reduceLeDiff, reduceCtorEq]) | (refine ⟨by first | omega | (intros; simp_all; done) | (intros; simp_all; omega), ?_⟩; try simp only [go_sem, Nat.reduceAdd, Nat.reduceLeDiff, reduceCtorEq]))
      exact AE.ret rfl ⟨rfl, trivial⟩ ⟨rfl, by rw [cmpS, if_neg (by simpa using h1), if_pos (by simpa using h2)]; rfl⟩
    · repeat (first | refine xPP rfl ?_ | refine xPE rfl ?_ | refine xEP rfl ?_ | refine xEE rfl ?_ | refine AQ.done ?_ | refine AQ.skip (by kernel_rfl) rfl ?_ | refine AQ.s2b (by kernel_rfl) rfl rfl rfl rfl ?_ | refine AQ.mark (by kernel_rfl) rfl rfl rfl rfl rfl rfl rfl ?_ | refine AP.cond_true rfl rfl ?_ | refine AP.cond_false rfl rfl ?_ | (refine AP.region rfl (by kernel_rfl) ?_; simp only [go_sem, Nat.reduceAdd, Nat.reduceLeDiff, reduceCtorEq]) | (refine AP.drawQ rfl rfl (by kernel_rfl) ?_; simp only [go_sem, Nat.reduceAdd, Nat.reduceLeDiff, reduceCtorEq]) | (refine vq_id ?_; simp only [go_sem, Nat.reduceAdd, Nat.reduceLeDiff, reduceCtorEq]) | (refine ⟨by first | omega | (intros; simp_all; done) | (intros; simp_all; omega), ?_⟩; try simp only [go_sem, Nat.reduceAdd, Nat.reduceLeDiff, reduceCtorEq]))
      exact AE.ret rfl ⟨rfl, trivial⟩ ⟨rfl, by rw [cmpS, if_neg (by simpa using h1), if_neg (by simpa using h2)]; rfl⟩
theorem count_spec (t : Tr) : PFn Try.prog 57 [Tv t] (Iv t.size) := by
  refine ACall.walk [0, 2, 4] [] Try.func57 rfl Try.ntmps57 (by kernel_rfl) (by rfl) rfl fun W own I0 φ0 => ?_
  cases t with
  | nil =>
    repeat (first | refine xPP rfl ?_ | refine xPE rfl ?_ | refine xEP rfl ?_ | refine xEE rfl ?_ | refine AQ.done ?_ | refine AQ.skip (by kernel_rfl) rfl ?_ | refine AQ.s2b (by kernel_rfl) rfl rfl rfl rfl ?_ | refine AQ.mark (by kernel_rfl) rfl rfl rfl rfl rfl rfl rfl ?_ | refine AP.cond_true rfl rfl ?_ | refine AP.cond_false rfl rfl ?_ | (refine AP.region rfl (by kernel_rfl) ?_; simp only [go_sem, Nat.reduceAdd, Nat.reduceLeDiff, reduceCtorEq, Tr.iv]) | (refine AP.drawQ rfl rfl (by kernel_rfl) ?_; simp only [go_sem, Nat.reduceAdd, Nat.reduceLeDiff, reduceCtorEq, Tr.iv]) | (refine vq_id ?_; simp only [go_sem, Nat.reduceAdd, Nat.reduceLeDiff, reduceCtorEq, Tr.iv]) | (refine ⟨by first | omega | (intros; simp_all; done) | (intros; simp_all; omega), ?_⟩; try simp only [go_sem, Nat.reduceAdd, Nat.reduceLeDiff, reduceCtorEq, Tr.iv]))
    exact AE.ret rfl ⟨rfl, trivial⟩ ⟨rfl, rfl⟩
  | node k v l r =>
    repeat (first | refine xPP rfl ?_ | refine xPE rfl ?_ | refine xEP rfl ?_ | refine xEE rfl ?_ | refine AQ.done ?_ | refine AQ.skip (by kernel_rfl) rfl ?_ | refine AQ.s2b (by kernel_rfl) rfl rfl rfl rfl ?_ | refine AQ.mark (by kernel_rfl) rfl rfl rfl rfl rfl rfl rfl ?_ | refine AP.cond_true rfl rfl ?_ | refine AP.cond_false rfl rfl ?_ | (refine AP.region rfl (by kernel_rfl) ?_; simp only [go_sem, Nat.reduceAdd, Nat.reduceLeDiff, reduceCtorEq, Tr.iv]) | (refine AP.drawQ rfl rfl (by kernel_rfl) ?_; simp only [go_sem, Nat.reduceAdd, Nat.reduceLeDiff, reduceCtorEq, Tr.iv]) | (refine vq_id ?_; simp only [go_sem, Nat.reduceAdd, Nat.reduceLeDiff, reduceCtorEq, Tr.iv]) | (refine ⟨by first | omega | (intros; simp_all; done) | (intros; simp_all; omega), ?_⟩; try simp only [go_sem, Nat.reduceAdd, Nat.reduceLeDiff, reduceCtorEq, Tr.iv]))
    exact AE.ret rfl ⟨rfl, trivial⟩ ⟨rfl, rfl⟩
theorem height_spec (t : Tr) : PFn Try.prog 56 [Tv t] (Iv t.ht) := by
  refine ACall.walk [0, 2, 4] [] Try.func56 rfl Try.ntmps56 (by kernel_rfl) (by rfl) rfl fun W own I0 φ0 => ?_
  cases t with
  | nil =>
    repeat (first | refine xPP rfl ?_ | refine xPE rfl ?_ | refine xEP rfl ?_ | refine xEE rfl ?_ | refine AQ.done ?_ | refine AQ.skip (by kernel_rfl) rfl ?_ | refine AQ.s2b (by kernel_rfl) rfl rfl rfl rfl ?_ | refine AQ.mark (by kernel_rfl) rfl rfl rfl rfl rfl rfl rfl ?_ | refine AP.cond_true rfl rfl ?_ | refine AP.cond_false rfl rfl ?_ | (refine AP.region rfl (by kernel_rfl) ?_; simp only [go_sem, Nat.reduceAdd, Nat.reduceLeDiff, reduceCtorEq, Tr.iv]) | (refine AP.drawQ rfl rfl (by kernel_rfl) ?_; simp only [go_sem, Nat.reduceAdd, Nat.reduceLeDiff, reduceCtorEq, Tr.iv]) | (refine vq_id ?_; simp only [go_sem, Nat.reduceAdd, Nat.reduceLeDiff, reduceCtorEq, Tr.iv]) | (refine ⟨by first | omega | (intros; simp_all; done) | (intros; simp_all; omega), ?_⟩; try simp only [go_sem, Nat.reduceAdd, Nat.reduceLeDiff, reduceCtorEq, Tr.iv]))
    exact AE.ret rfl ⟨rfl, trivial⟩ ⟨rfl, rfl⟩
  | node k v l r =>
    repeat (first | refine xPP rfl ?_ | refine xPE rfl ?_ | refine xEP rfl ?_ | refine xEE rfl ?_ | refine AQ.done ?_ | refine AQ.skip (by kernel_rfl) rfl ?_ | refine AQ.s2b (by kernel_rfl) rfl rfl rfl rfl ?_ | refine AQ.mark (by kernel_rfl) rfl rfl rfl rfl rfl rfl rfl ?_ | refine AP.cond_true rfl rfl ?_ | refine AP.cond_false rfl rfl ?_ | (refine AP.region rfl (by kernel_rfl) ?_; simp only [go_sem, Nat.reduceAdd, Nat.reduceLeDiff, reduceCtorEq, Tr.iv]) | (refine AP.drawQ rfl rfl (by kernel_rfl) ?_; simp only [go_sem, Nat.reduceAdd, Nat.reduceLeDiff, reduceCtorEq, Tr.iv]) | (refine vq_id ?_; simp only [go_sem, Nat.reduceAdd, Nat.reduceLeDiff, reduceCtorEq, Tr.iv]) | (refine ⟨by first | omega | (intros; simp_all; done) | (intros; simp_all; omega), ?_⟩; try simp only [go_sem, Nat.reduceAdd, Nat.reduceLeDiff, reduceCtorEq, Tr.iv]))
    exact AE.ret rfl ⟨rfl, trivial⟩ ⟨rfl, rfl⟩
theorem with_spec (k : Int) (v : Int) (a b l r : Tr) (hs : l.size + r.size ≤ 1000000000) : PFn Try.prog 82 [Tv (.node k v a b), Tv l, Tv r] (Tv (.node k v l r)) := by
  have h1 := l.ht_le
  have h2 := r.ht_le
  have w1 := wr (x := (l.size : Int) + r.size) (by omega)
  have w2 := wr (x := (l.size : Int) + r.size + 1) (by omega)
  have w3 : (if (l.ht : Int) < (r.ht : Int) then (r.ht : Int) else (l.ht : Int)) = ((max l.ht r.ht : Nat) : Int) := by
    split <;> omega
  have w4 := wr (x := ((max l.ht r.ht : Nat) : Int) + 1) (by omega)
  refine ACall.walk [0, 1, 2, 6] [] Try.func82 rfl Try.ntmps82 (by kernel_rfl) (by rfl) rfl fun W own I0 φ0 => ?_
  repeat (first | refine xPP rfl ?_ | refine xPE rfl ?_ | refine xEP rfl ?_ | refine xEE rfl ?_ | refine AQ.done ?_ | refine AQ.skip (by kernel_rfl) rfl ?_ | refine AQ.s2b (by kernel_rfl) rfl rfl rfl rfl ?_ | refine AQ.mark (by kernel_rfl) rfl rfl rfl rfl rfl rfl rfl ?_ | refine AP.cond_true rfl rfl ?_ | refine AP.cond_false rfl rfl ?_ | (refine AP.region rfl (by kernel_rfl) ?_; simp only [go_sem, Nat.reduceAdd, Nat.reduceLeDiff, reduceCtorEq]) | (refine AP.drawQ rfl rfl (by kernel_rfl) ?_; simp only [go_sem, Nat.reduceAdd, Nat.reduceLeDiff, reduceCtorEq]) | (refine vq_id ?_; simp only [go_sem, Nat.reduceAdd, Nat.reduceLeDiff, reduceCtorEq]) | (refine ⟨by first | omega | (intros; simp_all; done) | (intros; simp_all; omega), ?_⟩; try simp only [go_sem, Nat.reduceAdd, Nat.reduceLeDiff, reduceCtorEq]))
  refine AP.draw 23 [(11, Iv l.size), (13, Iv r.size), (17, Iv l.ht), (19, Iv r.ht)] (by kernel_rfl) rfl (by kernel_rfl) (by kernel_rfl) ?_
  simp only [go_sem, Nat.reduceAdd, Nat.reduceLeDiff, reduceCtorEq, Tv, Tr.iv]
  refine ⟨count_spec l, count_spec r, height_spec l, height_spec r, ?_⟩
  repeat (first | refine xPP rfl ?_ | refine xPE rfl ?_ | refine xEP rfl ?_ | refine xEE rfl ?_ | refine AQ.done ?_ | refine AQ.skip (by kernel_rfl) rfl ?_ | refine AQ.s2b (by kernel_rfl) rfl rfl rfl rfl ?_ | refine AQ.mark (by kernel_rfl) rfl rfl rfl rfl rfl rfl rfl ?_ | refine AP.cond_true rfl rfl ?_ | refine AP.cond_false rfl rfl ?_ | (refine AP.region rfl (by kernel_rfl) ?_; simp only [go_sem, Nat.reduceAdd, Nat.reduceLeDiff, reduceCtorEq, Tv, Tr.iv, w1, w2, w3, w4]) | (refine AP.drawQ rfl rfl (by kernel_rfl) ?_; simp only [go_sem, Nat.reduceAdd, Nat.reduceLeDiff, reduceCtorEq, Tv, Tr.iv, w1, w2, w3, w4]) | (refine vq_id ?_; simp only [go_sem, Nat.reduceAdd, Nat.reduceLeDiff, reduceCtorEq, Tv, Tr.iv, w1, w2, w3, w4]) | (refine ⟨by first | omega | (intros; simp_all; done) | (intros; simp_all; omega), ?_⟩; try simp only [go_sem, Nat.reduceAdd, Nat.reduceLeDiff, reduceCtorEq, Tv, Tr.iv, w1, w2, w3, w4]))
  refine AE.ret rfl ⟨rfl, trivial⟩ ⟨rfl, ?_⟩
  simp only [tupOf, AV.st, Tv, Tr.iv, w1, w2, w3, w4]
  rfl
theorem rotL_spec (k : Int) (v : Int) (l : Tr) (k' : Int) (v' : Int) (l' r' : Tr) (hs : l.size + l'.size + r'.size + 1 ≤ 1000000000) : PFn Try.prog 93 [Tv (.node k v l (.node k' v' l' r'))] (Tv (.node k' v' (.node k v l l') r')) := by
  refine ACall.walk [0, 2, 3] [] Try.func93 rfl Try.ntmps93 (by kernel_rfl) (by rfl) rfl fun W own I0 φ0 => ?_
  repeat (first | refine xPP rfl ?_ | refine xPE rfl ?_ | refine xEP rfl ?_ | refine xEE rfl ?_ | refine AQ.done ?_ | refine AQ.skip (by kernel_rfl) rfl ?_ | refine AQ.s2b (by kernel_rfl) rfl rfl rfl rfl ?_ | refine AQ.mark (by kernel_rfl) rfl rfl rfl rfl rfl rfl rfl ?_ | refine AP.cond_true rfl rfl ?_ | refine AP.cond_false rfl rfl ?_ | (refine AP.region rfl (by kernel_rfl) ?_; simp only [go_sem, Nat.reduceAdd, Nat.reduceLeDiff, reduceCtorEq, Tv, Tr.iv]) | (refine AP.drawQ rfl rfl (by kernel_rfl) ?_; simp only [go_sem, Nat.reduceAdd, Nat.reduceLeDiff, reduceCtorEq, Tv, Tr.iv]) | (refine vq_id ?_; simp only [go_sem, Nat.reduceAdd, Nat.reduceLeDiff, reduceCtorEq, Tv, Tr.iv]) | (refine ⟨by first | omega | (intros; simp_all; done) | (intros; simp_all; omega), ?_⟩; try simp only [go_sem, Nat.reduceAdd, Nat.reduceLeDiff, reduceCtorEq, Tv, Tr.iv]))
  refine AP.draw 16 [(10, Tv (.node k v l l')), (15, Tv (.node k' v' (.node k v l l') r'))] (by kernel_rfl) rfl (by kernel_rfl) (by kernel_rfl) ?_
  simp only [go_sem, Nat.reduceAdd, Nat.reduceLeDiff, reduceCtorEq, Tv, Tr.iv]
  refine ⟨by have := with_spec k v l (.node k' v' l' r') l l' (by omega); simpa only [Tv, Tr.iv] using this, by have := with_spec k' v' l' r' (.node k v l l') r' (by simp only [Tr.size]; omega); simpa only [Tv, Tr.iv] using this, ?_⟩
  repeat (first | refine xPP rfl ?_ | refine xPE rfl ?_ | refine xEP rfl ?_ | refine xEE rfl ?_ | refine AQ.done ?_ | refine AQ.skip (by kernel_rfl) rfl ?_ | refine AQ.s2b (by kernel_rfl) rfl rfl rfl rfl ?_ | refine AQ.mark (by kernel_rfl) rfl rfl rfl rfl rfl rfl rfl ?_ | refine AP.cond_true rfl rfl ?_ | refine AP.cond_false rfl rfl ?_ | (refine AP.region rfl (by kernel_rfl) ?_; simp only [go_sem, Nat.reduceAdd, Nat.reduceLeDiff, reduceCtorEq]) | (refine AP.drawQ rfl rfl (by kernel_rfl) ?_; simp only [go_sem, Nat.reduceAdd, Nat.reduceLeDiff, reduceCtorEq]) | (refine vq_id ?_; simp only [go_sem, Nat.reduceAdd, Nat.reduceLeDiff, reduceCtorEq]) | (refine ⟨by first | omega | (intros; simp_all; done) | (intros; simp_all; omega), ?_⟩; try simp only [go_sem, Nat.reduceAdd, Nat.reduceLeDiff, reduceCtorEq]))
  exact AE.ret rfl ⟨rfl, trivial⟩ ⟨rfl, rfl⟩
theorem rotR_spec (k : Int) (v : Int) (r : Tr) (k' : Int) (v' : Int) (l' r' : Tr) (hs : r.size + l'.size + r'.size + 1 ≤ 1000000000) : PFn Try.prog 94 [Tv (.node k v (.node k' v' l' r') r)] (Tv (.node k' v' l' (.node k v r' r))) := by
  refine ACall.walk [0, 2, 3] [] Try.func94 rfl Try.ntmps94 (by kernel_rfl) (by rfl) rfl fun W own I0 φ0 => ?_
  repeat (first | refine xPP rfl ?_ | refine xPE rfl ?_ | refine xEP rfl ?_ | refine xEE rfl ?_ | refine AQ.done ?_ | refine AQ.skip (by kernel_rfl) rfl ?_ | refine AQ.s2b (by kernel_rfl) rfl rfl rfl rfl ?_ | refine AQ.mark (by kernel_rfl) rfl rfl rfl rfl rfl rfl rfl ?_ | refine AP.cond_true rfl rfl ?_ | refine AP.cond_false rfl rfl ?_ | (refine AP.region rfl (by kernel_rfl) ?_; simp only [go_sem, Nat.reduceAdd, Nat.reduceLeDiff, reduceCtorEq, Tv, Tr.iv]) | (refine AP.drawQ rfl rfl (by kernel_rfl) ?_; simp only [go_sem, Nat.reduceAdd, Nat.reduceLeDiff, reduceCtorEq, Tv, Tr.iv]) | (refine vq_id ?_; simp only [go_sem, Nat.reduceAdd, Nat.reduceLeDiff, reduceCtorEq, Tv, Tr.iv]) | (refine ⟨by first | omega | (intros; simp_all; done) | (intros; simp_all; omega), ?_⟩; try simp only [go_sem, Nat.reduceAdd, Nat.reduceLeDiff, reduceCtorEq, Tv, Tr.iv]))
  refine AP.draw 16 [(14, Tv (.node k v r' r)), (15, Tv (.node k' v' l' (.node k v r' r)))] (by kernel_rfl) rfl (by kernel_rfl) (by kernel_rfl) ?_
  simp only [go_sem, Nat.reduceAdd, Nat.reduceLeDiff, reduceCtorEq, Tv, Tr.iv]
  refine ⟨by have := with_spec k v (.node k' v' l' r') r r' r (by omega); simpa only [Tv, Tr.iv] using this, by have := with_spec k' v' l' r' l' (.node k v r' r) (by simp only [Tr.size]; omega); simpa only [Tv, Tr.iv] using this, ?_⟩
  repeat (first | refine xPP rfl ?_ | refine xPE rfl ?_ | refine xEP rfl ?_ | refine xEE rfl ?_ | refine AQ.done ?_ | refine AQ.skip (by kernel_rfl) rfl ?_ | refine AQ.s2b (by kernel_rfl) rfl rfl rfl rfl ?_ | refine AQ.mark (by kernel_rfl) rfl rfl rfl rfl rfl rfl rfl ?_ | refine AP.cond_true rfl rfl ?_ | refine AP.cond_false rfl rfl ?_ | (refine AP.region rfl (by kernel_rfl) ?_; simp only [go_sem, Nat.reduceAdd, Nat.reduceLeDiff, reduceCtorEq]) | (refine AP.drawQ rfl rfl (by kernel_rfl) ?_; simp only [go_sem, Nat.reduceAdd, Nat.reduceLeDiff, reduceCtorEq]) | (refine vq_id ?_; simp only [go_sem, Nat.reduceAdd, Nat.reduceLeDiff, reduceCtorEq]) | (refine ⟨by first | omega | (intros; simp_all; done) | (intros; simp_all; omega), ?_⟩; try simp only [go_sem, Nat.reduceAdd, Nat.reduceLeDiff, reduceCtorEq]))
  exact AE.ret rfl ⟨rfl, trivial⟩ ⟨rfl, rfl⟩
/-- a child is lifted -/
def Tr.rotL : Tr → Tr
  | .node k v l (.node k' v' l' r') => .node k' v' (.node k v l l') r'
  | t => t
def Tr.rotR : Tr → Tr
  | .node k v (.node k' v' l' r') r => .node k' v' l' (.node k v r' r)
  | t => t
def Tr.bal : Tr → Tr
  | .nil => .nil
  | .node k v l r =>
    if r.ht + 1 < l.ht then (Tr.node k v (if l.left.ht < l.right.ht then l.rotL else l) r).rotR
    else if l.ht + 1 < r.ht then (Tr.node k v l (if r.right.ht < r.left.ht then r.rotR else r)).rotL
    else .node k v l r
end Go.Proofs.Ytfgffpkdjmeaoaa.IntT
end

section
namespace Go.Proofs.Ytfgffpkdjmeaoaa.IntT
open Go Go.AL
set_option maxRecDepth 10000
set_option maxHeartbeats 2000000
theorem Tr.of_ht {t : Tr} (h : 0 < t.ht) : ∃ k v l r, t = .node k v l r := by
  cases t with
  | nil => simp [Tr.ht] at h
  | node k v l r => exact ⟨k, v, l, r, rfl⟩
theorem bal_spec (k : Int) (v : Int) (l r : Tr) (hs : l.size + r.size + 1 ≤ 1000000000) : PFn Try.prog 83 [Tv (.node k v l r)] (Tv (Tr.bal (.node k v l r))) := by
  have h1 := l.ht_le
  have h2 := r.ht_le
  have w1 := wr (x := (l.ht : Int) - r.ht) (by omega)
  refine ACall.walk [0, 2, 3, 15, 34, 48, 67] [] Try.func83 rfl Try.ntmps83 (by kernel_rfl) (by rfl) rfl fun W own I0 φ0 => ?_
  repeat (first | refine xPP rfl ?_ | refine xPE rfl ?_ | refine xEP rfl ?_ | refine xEE rfl ?_ | refine AQ.done ?_ | refine AQ.skip (by kernel_rfl) rfl ?_ | refine AQ.s2b (by kernel_rfl) rfl rfl rfl rfl ?_ | refine AQ.mark (by kernel_rfl) rfl rfl rfl rfl rfl rfl rfl ?_ | refine AP.cond_true rfl rfl ?_ | refine AP.cond_false rfl rfl ?_ | (refine AP.region rfl (by kernel_rfl) ?_; simp only [go_sem, Nat.reduceAdd, Nat.reduceLeDiff, reduceCtorEq, Tv, Tr.iv]) | (refine AP.drawQ rfl rfl (by kernel_rfl) ?_; simp only [go_sem, Nat.reduceAdd, Nat.reduceLeDiff, reduceCtorEq, Tv, Tr.iv]) | (refine vq_id ?_; simp only [go_sem, Nat.reduceAdd, Nat.reduceLeDiff, reduceCtorEq, Tv, Tr.iv]) | (refine ⟨by first | omega | (intros; simp_all; done) | (intros; simp_all; omega), ?_⟩; try simp only [go_sem, Nat.reduceAdd, Nat.reduceLeDiff, reduceCtorEq, Tv, Tr.iv]))
  refine AP.draw 11 [(4, Iv l.ht), (9, Iv r.ht)] (by kernel_rfl) rfl (by kernel_rfl) (by kernel_rfl) ?_
  simp only [go_sem, Nat.reduceAdd, Nat.reduceLeDiff, reduceCtorEq, Tv, Tr.iv]
  refine ⟨height_spec l, height_spec r, ?_⟩
  repeat (first | refine xPP rfl ?_ | refine xPE rfl ?_ | refine xEP rfl ?_ | refine xEE rfl ?_ | refine AQ.done ?_ | refine AQ.skip (by kernel_rfl) rfl ?_ | refine AQ.s2b (by kernel_rfl) rfl rfl rfl rfl ?_ | refine AQ.mark (by kernel_rfl) rfl rfl rfl rfl rfl rfl rfl ?_ | refine AP.cond_true rfl rfl ?_ | refine AP.cond_false rfl rfl ?_ | (refine AP.region rfl (by kernel_rfl) ?_; simp only [go_sem, Nat.reduceAdd, Nat.reduceLeDiff, reduceCtorEq, w1]) | (refine AP.drawQ rfl rfl (by kernel_rfl) ?_; simp only [go_sem, Nat.reduceAdd, Nat.reduceLeDiff, reduceCtorEq, w1]) | (refine vq_id ?_; simp only [go_sem, Nat.reduceAdd, Nat.reduceLeDiff, reduceCtorEq, w1]) | (refine ⟨by first | omega | (intros; simp_all; done) | (intros; simp_all; omega), ?_⟩; try simp only [go_sem, Nat.reduceAdd, Nat.reduceLeDiff, reduceCtorEq, w1]))
  refine AP.cond rfl rfl (fun hc => ?_) (fun hc => ?_)
  · have hlt : r.ht + 1 < l.ht := by simp at hc; omega
    obtain ⟨kl, vl, ll, lr, rfl⟩ := Tr.of_ht (t := l) (by omega)
    have hz : (Tr.node kl vl ll lr).size = ll.size + lr.size + 1 := rfl
    repeat (first | refine xPP rfl ?_ | refine xPE rfl ?_ | refine xEP rfl ?_ | refine xEE rfl ?_ | refine AQ.done ?_ | refine AQ.skip (by kernel_rfl) rfl ?_ | refine AQ.s2b (by kernel_rfl) rfl rfl rfl rfl ?_ | refine AQ.mark (by kernel_rfl) rfl rfl rfl rfl rfl rfl rfl ?_ | refine AP.cond_true rfl rfl ?_ | refine AP.cond_false rfl rfl ?_ | (refine AP.region rfl (by kernel_rfl) ?_; simp only [go_sem, Nat.reduceAdd, Nat.reduceLeDiff, reduceCtorEq, w1, Tr.iv]) | (refine AP.drawQ rfl rfl (by kernel_rfl) ?_; simp only [go_sem, Nat.reduceAdd, Nat.reduceLeDiff, reduceCtorEq, w1, Tr.iv]) | (refine vq_id ?_; simp only [go_sem, Nat.reduceAdd, Nat.reduceLeDiff, reduceCtorEq, w1, Tr.iv]) | (refine ⟨by first | omega | (intros; simp_all; done) | (intros; simp_all; omega), ?_⟩; try simp only [go_sem, Nat.reduceAdd, Nat.reduceLeDiff, reduceCtorEq, w1, Tr.iv]))
    refine AP.draw 16 [(7, Iv ll.ht), (15, Iv lr.ht)] (by kernel_rfl) rfl (by kernel_rfl) (by kernel_rfl) ?_
    simp only [go_sem, Nat.reduceAdd, Nat.reduceLeDiff, reduceCtorEq, Tv, Tr.iv]
    refine ⟨height_spec ll, height_spec lr, ?_⟩
    repeat (first | refine xPP rfl ?_ | refine xPE rfl ?_ | refine xEP rfl ?_ | refine xEE rfl ?_ | refine AQ.done ?_ | refine AQ.skip (by kernel_rfl) rfl ?_ | refine AQ.s2b (by kernel_rfl) rfl rfl rfl rfl ?_ | refine AQ.mark (by kernel_rfl) rfl rfl rfl rfl rfl rfl rfl ?_ | refine AP.cond_true rfl rfl ?_ | refine AP.cond_false rfl rfl ?_ | (refine AP.region rfl (by kernel_rfl) ?_; simp only [go_sem, Nat.reduceAdd, Nat.reduceLeDiff, reduceCtorEq]) | (refine AP.drawQ rfl rfl (by kernel_rfl) ?_; simp only [go_sem, Nat.reduceAdd, Nat.reduceLeDiff, reduceCtorEq]) | (refine vq_id ?_; simp only [go_sem, Nat.reduceAdd, Nat.reduceLeDiff, reduceCtorEq]) | (refine ⟨by first | omega | (intros; simp_all; done) | (intros; simp_all; omega), ?_⟩; try simp only [go_sem, Nat.reduceAdd, Nat.reduceLeDiff, reduceCtorEq]))
    refine AP.cond rfl rfl (fun hd => ?_) (fun hd => ?_)
    · have hlt2 : ll.ht < lr.ht := by simp at hd; omega
      obtain ⟨k', v', l', r', rfl⟩ := Tr.of_ht (t := lr) (by omega)
      have hz2 : (Tr.node k' v' l' r').size = l'.size + r'.size + 1 := rfl
      repeat (first | refine xPP rfl ?_ | refine xPE rfl ?_ | refine xEP rfl ?_ | refine xEE rfl ?_ | refine AQ.done ?_ | refine AQ.skip (by kernel_rfl) rfl ?_ | refine AQ.s2b (by kernel_rfl) rfl rfl rfl rfl ?_ | refine AQ.mark (by kernel_rfl) rfl rfl rfl rfl rfl rfl rfl ?_ | refine AP.cond_true rfl rfl ?_ | refine AP.cond_false rfl rfl ?_ | (refine AP.region rfl (by kernel_rfl) ?_; simp only [go_sem, Nat.reduceAdd, Nat.reduceLeDiff, reduceCtorEq, Tr.iv]) | (refine AP.drawQ rfl rfl (by kernel_rfl) ?_; simp only [go_sem, Nat.reduceAdd, Nat.reduceLeDiff, reduceCtorEq, Tr.iv]) | (refine vq_id ?_; simp only [go_sem, Nat.reduceAdd, Nat.reduceLeDiff, reduceCtorEq, Tr.iv]) | (refine ⟨by first | omega | (intros; simp_all; done) | (intros; simp_all; omega), ?_⟩; try simp only [go_sem, Nat.reduceAdd, Nat.reduceLeDiff, reduceCtorEq, Tr.iv]))
      refine AP.draw 11 [(5, Tv (.node k' v' (.node kl vl ll l') r')), (10, Tv (.node k v (.node k' v' (.node kl vl ll l') r') r))] (by kernel_rfl) rfl (by kernel_rfl) (by kernel_rfl) ?_
      simp only [go_sem, Nat.reduceAdd, Nat.reduceLeDiff, reduceCtorEq, Tv, Tr.iv]
      refine ⟨by have := rotL_spec kl vl ll k' v' l' r' (by omega); simpa only [Tv, Tr.iv] using this, by have := with_spec k v (.node kl vl ll (.node k' v' l' r')) r (.node k' v' (.node kl vl ll l') r') r (by simp only [Tr.size]; omega); simpa only [Tv, Tr.iv] using this, ?_⟩
      repeat (first | refine xPP rfl ?_ | refine xPE rfl ?_ | refine xEP rfl ?_ | refine xEE rfl ?_ | refine AQ.done ?_ | refine AQ.skip (by kernel_rfl) rfl ?_ | refine AQ.s2b (by kernel_rfl) rfl rfl rfl rfl ?_ | refine AQ.mark (by kernel_rfl) rfl rfl rfl rfl rfl rfl rfl ?_ | refine AP.cond_true rfl rfl ?_ | refine AP.cond_false rfl rfl ?_ | (refine AP.region rfl (by kernel_rfl) ?_; simp only [go_sem, Nat.reduceAdd, Nat.reduceLeDiff, reduceCtorEq]) | (refine AP.drawQ rfl rfl (by kernel_rfl) ?_; simp only [go_sem, Nat.reduceAdd, Nat.reduceLeDiff, reduceCtorEq]) | (refine vq_id ?_; simp only [go_sem, Nat.reduceAdd, Nat.reduceLeDiff, reduceCtorEq]) | (refine ⟨by first | omega | (intros; simp_all; done) | (intros; simp_all; omega), ?_⟩; try simp only [go_sem, Nat.reduceAdd, Nat.reduceLeDiff, reduceCtorEq]))
      refine AQ.fn (by kernel_rfl) rfl rfl rfl (rotR_spec k v r k' v' (.node kl vl ll l') r' (by simp only [Tr.size]; omega)) rfl ?_
      repeat (first | refine xPP rfl ?_ | refine xPE rfl ?_ | refine xEP rfl ?_ | refine xEE rfl ?_ | refine AQ.done ?_ | refine AQ.skip (by kernel_rfl) rfl ?_ | refine AQ.s2b (by kernel_rfl) rfl rfl rfl rfl ?_ | refine AQ.mark (by kernel_rfl) rfl rfl rfl rfl rfl rfl rfl ?_ | refine AP.cond_true rfl rfl ?_ | refine AP.cond_false rfl rfl ?_ | (refine AP.region rfl (by kernel_rfl) ?_; simp only [go_sem, Nat.reduceAdd, Nat.reduceLeDiff, reduceCtorEq]) | (refine AP.drawQ rfl rfl (by kernel_rfl) ?_; simp only [go_sem, Nat.reduceAdd, Nat.reduceLeDiff, reduceCtorEq]) | (refine vq_id ?_; simp only [go_sem, Nat.reduceAdd, Nat.reduceLeDiff, reduceCtorEq]) | (refine ⟨by first | omega | (intros; simp_all; done) | (intros; simp_all; omega), ?_⟩; try simp only [go_sem, Nat.reduceAdd, Nat.reduceLeDiff, reduceCtorEq]))
      refine AE.ret rfl ⟨rfl, trivial⟩ ⟨rfl, ?_⟩
      have e : Tr.bal (.node k v (.node kl vl ll (.node k' v' l' r')) r) = .node k' v' (.node kl vl ll l') (.node k v r' r) := by
        rw [Tr.bal, if_pos hlt, if_pos (show (Tr.node kl vl ll (.node k' v' l' r')).left.ht < (Tr.node kl vl ll (.node k' v' l' r')).right.ht from hlt2)]; rfl
      rw [e]; rfl
    · have hlt2 : ¬ ll.ht < lr.ht := by simp at hd; omega
      repeat (first | refine xPP rfl ?_ | refine xPE rfl ?_ | refine xEP rfl ?_ | refine xEE rfl ?_ | refine AQ.done ?_ | refine AQ.skip (by kernel_rfl) rfl ?_ | refine AQ.s2b (by kernel_rfl) rfl rfl rfl rfl ?_ | refine AQ.mark (by kernel_rfl) rfl rfl rfl rfl rfl rfl rfl ?_ | refine AP.cond_true rfl rfl ?_ | refine AP.cond_false rfl rfl ?_ | (refine AP.region rfl (by kernel_rfl) ?_; simp only [go_sem, Nat.reduceAdd, Nat.reduceLeDiff, reduceCtorEq, Tr.iv]) | (refine AP.drawQ rfl rfl (by kernel_rfl) ?_; simp only [go_sem, Nat.reduceAdd, Nat.reduceLeDiff, reduceCtorEq, Tr.iv]) | (refine vq_id ?_; simp only [go_sem, Nat.reduceAdd, Nat.reduceLeDiff, reduceCtorEq, Tr.iv]) | (refine ⟨by first | omega | (intros; simp_all; done) | (intros; simp_all; omega), ?_⟩; try simp only [go_sem, Nat.reduceAdd, Nat.reduceLeDiff, reduceCtorEq, Tr.iv]))
      refine AQ.fn (by kernel_rfl) rfl rfl rfl (rotR_spec k v r kl vl ll lr (by omega)) rfl ?_
      repeat (first | refine xPP rfl ?_ | refine xPE rfl ?_ | refine xEP rfl ?_ | refine xEE rfl ?_ | refine AQ.done ?_ | refine AQ.skip (by kernel_rfl) rfl ?_ | refine AQ.s2b (by kernel_rfl) rfl rfl rfl rfl ?_ | refine AQ.mark (by kernel_rfl) rfl rfl rfl rfl rfl rfl rfl ?_ | refine AP.cond_true rfl rfl ?_ | refine AP.cond_false rfl rfl ?_ | (refine AP.region rfl (by kernel_rfl) ?_; simp only [go_sem, Nat.reduceAdd, Nat.reduceLeDiff, reduceCtorEq]) | (refine AP.drawQ rfl rfl (by kernel_rfl) ?_; simp only [go_sem, Nat.reduceAdd, Nat.reduceLeDiff, reduceCtorEq]) | (refine vq_id ?_; simp only [go_sem, Nat.reduceAdd, Nat.reduceLeDiff, reduceCtorEq]) | (refine ⟨by first | omega | (intros; simp_all; done) | (intros; simp_all; omega), ?_⟩; try simp only [go_sem, Nat.reduceAdd, Nat.reduceLeDiff, reduceCtorEq]))
      refine AE.ret rfl ⟨rfl, trivial⟩ ⟨rfl, ?_⟩
      have e : Tr.bal (.node k v (.node kl vl ll lr) r) = .node kl vl ll (.node k v lr r) := by
        rw [Tr.bal, if_pos hlt, if_neg (show ¬ (Tr.node kl vl ll lr).left.ht < (Tr.node kl vl ll lr).right.ht from hlt2)]; rfl
      rw [e]; rfl
  · have hnl : ¬ r.ht + 1 < l.ht := by simp at hc; omega
    repeat (first | refine xPP rfl ?_ | refine xPE rfl ?_ | refine xEP rfl ?_ | refine xEE rfl ?_ | refine AQ.done ?_ | refine AQ.skip (by kernel_rfl) rfl ?_ | refine AQ.s2b (by kernel_rfl) rfl rfl rfl rfl ?_ | refine AQ.mark (by kernel_rfl) rfl rfl rfl rfl rfl rfl rfl ?_ | refine AP.cond_true rfl rfl ?_ | refine AP.cond_false rfl rfl ?_ | (refine AP.region rfl (by kernel_rfl) ?_; simp only [go_sem, Nat.reduceAdd, Nat.reduceLeDiff, reduceCtorEq, w1]) | (refine AP.drawQ rfl rfl (by kernel_rfl) ?_; simp only [go_sem, Nat.reduceAdd, Nat.reduceLeDiff, reduceCtorEq, w1]) | (refine vq_id ?_; simp only [go_sem, Nat.reduceAdd, Nat.reduceLeDiff, reduceCtorEq, w1]) | (refine ⟨by first | omega | (intros; simp_all; done) | (intros; simp_all; omega), ?_⟩; try simp only [go_sem, Nat.reduceAdd, Nat.reduceLeDiff, reduceCtorEq, w1]))
    refine AP.cond rfl rfl (fun hc2 => ?_) (fun hc2 => ?_)
    · have hlt : l.ht + 1 < r.ht := by simp at hc2; omega
      obtain ⟨kr, vr, rl, rr, rfl⟩ := Tr.of_ht (t := r) (by omega)
      have hz : (Tr.node kr vr rl rr).size = rl.size + rr.size + 1 := rfl
      repeat (first | refine xPP rfl ?_ | refine xPE rfl ?_ | refine xEP rfl ?_ | refine xEE rfl ?_ | refine AQ.done ?_ | refine AQ.skip (by kernel_rfl) rfl ?_ | refine AQ.s2b (by kernel_rfl) rfl rfl rfl rfl ?_ | refine AQ.mark (by kernel_rfl) rfl rfl rfl rfl rfl rfl rfl ?_ | refine AP.cond_true rfl rfl ?_ | refine AP.cond_false rfl rfl ?_ | (refine AP.region rfl (by kernel_rfl) ?_; simp only [go_sem, Nat.reduceAdd, Nat.reduceLeDiff, reduceCtorEq, w1, Tr.iv]) | (refine AP.drawQ rfl rfl (by kernel_rfl) ?_; simp only [go_sem, Nat.reduceAdd, Nat.reduceLeDiff, reduceCtorEq, w1, Tr.iv]) | (refine vq_id ?_; simp only [go_sem, Nat.reduceAdd, Nat.reduceLeDiff, reduceCtorEq, w1, Tr.iv]) | (refine ⟨by first | omega | (intros; simp_all; done) | (intros; simp_all; omega), ?_⟩; try simp only [go_sem, Nat.reduceAdd, Nat.reduceLeDiff, reduceCtorEq, w1, Tr.iv]))
      refine AP.draw 16 [(7, Iv rr.ht), (15, Iv rl.ht)] (by kernel_rfl) rfl (by kernel_rfl) (by kernel_rfl) ?_
      simp only [go_sem, Nat.reduceAdd, Nat.reduceLeDiff, reduceCtorEq, Tv, Tr.iv]
      refine ⟨height_spec rr, height_spec rl, ?_⟩
      repeat (first | refine xPP rfl ?_ | refine xPE rfl ?_ | refine xEP rfl ?_ | refine xEE rfl ?_ | refine AQ.done ?_ | refine AQ.skip (by kernel_rfl) rfl ?_ | refine AQ.s2b (by kernel_rfl) rfl rfl rfl rfl ?_ | refine AQ.mark (by kernel_rfl) rfl rfl rfl rfl rfl rfl rfl ?_ | refine AP.cond_true rfl rfl ?_ | refine AP.cond_false rfl rfl ?_ | (refine AP.region rfl (by kernel_rfl) ?_; simp only [go_sem, Nat.reduceAdd, Nat.reduceLeDiff, reduceCtorEq]) | (refine AP.drawQ rfl rfl (by kernel_rfl) ?_; simp only [go_sem, Nat.reduceAdd, Nat.reduceLeDiff, reduceCtorEq]) | (refine vq_id ?_; simp only [go_sem, Nat.reduceAdd, Nat.reduceLeDiff, reduceCtorEq]) | (refine ⟨by first | omega | (intros; simp_all; done) | (intros; simp_all; omega), ?_⟩; try simp only [go_sem, Nat.reduceAdd, Nat.reduceLeDiff, reduceCtorEq]))
      refine AP.cond rfl rfl (fun hd => ?_) (fun hd => ?_)
      · have hlt2 : rr.ht < rl.ht := by simp at hd; omega
        obtain ⟨k', v', l', r', rfl⟩ := Tr.of_ht (t := rl) (by omega)
        have hz2 : (Tr.node k' v' l' r').size = l'.size + r'.size + 1 := rfl
        repeat (first | refine xPP rfl ?_ | refine xPE rfl ?_ | refine xEP rfl ?_ | refine xEE rfl ?_ | refine AQ.done ?_ | refine AQ.skip (by kernel_rfl) rfl ?_ | refine AQ.s2b (by kernel_rfl) rfl rfl rfl rfl ?_ | refine AQ.mark (by kernel_rfl) rfl rfl rfl rfl rfl rfl rfl ?_ | refine AP.cond_true rfl rfl ?_ | refine AP.cond_false rfl rfl ?_ | (refine AP.region rfl (by kernel_rfl) ?_; simp only [go_sem, Nat.reduceAdd, Nat.reduceLeDiff, reduceCtorEq, Tr.iv]) | (refine AP.drawQ rfl rfl (by kernel_rfl) ?_; simp only [go_sem, Nat.reduceAdd, Nat.reduceLeDiff, reduceCtorEq, Tr.iv]) | (refine vq_id ?_; simp only [go_sem, Nat.reduceAdd, Nat.reduceLeDiff, reduceCtorEq, Tr.iv]) | (refine ⟨by first | omega | (intros; simp_all; done) | (intros; simp_all; omega), ?_⟩; try simp only [go_sem, Nat.reduceAdd, Nat.reduceLeDiff, reduceCtorEq, Tr.iv]))
        refine AP.draw 11 [(9, Tv (.node k' v' l' (.node kr vr r' rr))), (10, Tv (.node k v l (.node k' v' l' (.node kr vr r' rr))))] (by kernel_rfl) rfl (by kernel_rfl) (by kernel_rfl) ?_
        simp only [go_sem, Nat.reduceAdd, Nat.reduceLeDiff, reduceCtorEq, Tv, Tr.iv]
        refine ⟨by have := rotR_spec kr vr rr k' v' l' r' (by omega); simpa only [Tv, Tr.iv] using this, by have := with_spec k v l (.node kr vr (.node k' v' l' r') rr) l (.node k' v' l' (.node kr vr r' rr)) (by simp only [Tr.size]; omega); simpa only [Tv, Tr.iv] using this, ?_⟩
        repeat (first | refine xPP rfl ?_ | refine xPE rfl ?_ | refine xEP rfl ?_ | refine xEE rfl ?_ | refine AQ.done ?_ | refine AQ.skip (by kernel_rfl) rfl ?_ | refine AQ.s2b (by kernel_rfl) rfl rfl rfl rfl ?_ | refine AQ.mark (by kernel_rfl) rfl rfl rfl rfl rfl rfl rfl ?_ | refine AP.cond_true rfl rfl ?_ | refine AP.cond_false rfl rfl ?_ | (refine AP.region rfl (by kernel_rfl) ?_; simp only [go_sem, Nat.reduceAdd, Nat.reduceLeDiff, reduceCtorEq]) | (refine AP.drawQ rfl rfl (by kernel_rfl) ?_; simp only [go_sem, Nat.reduceAdd, Nat.reduceLeDiff, reduceCtorEq]) | (refine vq_id ?_; simp only [go_sem, Nat.reduceAdd, Nat.reduceLeDiff, reduceCtorEq]) | (refine ⟨by first | omega | (intros; simp_all; done) | (intros; simp_all; omega), ?_⟩; try simp only [go_sem, Nat.reduceAdd, Nat.reduceLeDiff, reduceCtorEq]))
        refine AQ.fn (by kernel_rfl) rfl rfl rfl (rotL_spec k v l k' v' l' (.node kr vr r' rr) (by simp only [Tr.size]; omega)) rfl ?_
        repeat (first | refine xPP rfl ?_ | refine xPE rfl ?_ | refine xEP rfl ?_ | refine xEE rfl ?_ | refine AQ.done ?_ | refine AQ.skip (by kernel_rfl) rfl ?_ | refine AQ.s2b (by kernel_rfl) rfl rfl rfl rfl ?_ | refine AQ.mark (by kernel_rfl) rfl rfl rfl rfl rfl rfl rfl ?_ | refine AP.cond_true rfl rfl ?_ | refine AP.cond_false rfl rfl ?_ | (refine AP.region rfl (by kernel_rfl) ?_; simp only [go_sem, Nat.reduceAdd, Nat.reduceLeDiff, reduceCtorEq]) | (refine AP.drawQ rfl rfl (by kernel_rfl) ?_; simp only [go_sem, Nat.reduceAdd, Nat.reduceLeDiff, reduceCtorEq]) | (refine vq_id ?_; simp only [go_sem, Nat.reduceAdd, Nat.reduceLeDiff, reduceCtorEq]) | (refine ⟨by first | omega | (intros; simp_all; done) | (intros; simp_all; omega), ?_⟩; try simp only [go_sem, Nat.reduceAdd, Nat.reduceLeDiff, reduceCtorEq]))
        refine AE.ret rfl ⟨rfl, trivial⟩ ⟨rfl, ?_⟩
        have e : Tr.bal (.node k v l (.node kr vr (.node k' v' l' r') rr)) = .node k' v' (.node k v l l') (.node kr vr r' rr) := by
          rw [Tr.bal, if_neg hnl, if_pos hlt, if_pos (show (Tr.node kr vr (.node k' v' l' r') rr).right.ht < (Tr.node kr vr (.node k' v' l' r') rr).left.ht from hlt2)]; rfl
        rw [e]; rfl
      · have hlt2 : ¬ rr.ht < rl.ht := by simp at hd; omega
        repeat (first | refine xPP rfl ?_ | refine xPE rfl ?_ | refine xEP rfl ?_ | refine xEE rfl ?_ | refine AQ.done ?_ | refine AQ.skip (by kernel_rfl) rfl ?_ | refine AQ.s2b (by kernel_rfl) rfl rfl rfl rfl ?_ | refine AQ.mark (by kernel_rfl) rfl rfl rfl rfl rfl rfl rfl ?_ | refine AP.cond_true rfl rfl ?_ | refine AP.cond_false rfl rfl ?_ | (refine AP.region rfl (by kernel_rfl) ?_; simp only [go_sem, Nat.reduceAdd, Nat.reduceLeDiff, reduceCtorEq, Tr.iv]) | (refine AP.drawQ rfl rfl (by kernel_rfl) ?_; simp only [go_sem, Nat.reduceAdd, Nat.reduceLeDiff, reduceCtorEq, Tr.iv]) | (refine vq_id ?_; simp only [go_sem, Nat.reduceAdd, Nat.reduceLeDiff, reduceCtorEq, Tr.iv]) | (refine ⟨by first | omega | (intros; simp_all; done) | (intros; simp_all; omega), ?_⟩; try simp only [go_sem, Nat.reduceAdd, Nat.reduceLeDiff, reduceCtorEq, Tr.iv]))
        refine AQ.fn (by kernel_rfl) rfl rfl rfl (rotL_spec k v l kr vr rl rr (by omega)) rfl ?_
        repeat (first | refine xPP rfl ?_ | refine xPE rfl ?_ | refine xEP rfl ?_ | refine xEE rfl ?_ | refine AQ.done ?_ | refine AQ.skip (by kernel_rfl) rfl ?_ | refine AQ.s2b (by kernel_rfl) rfl rfl rfl rfl ?_ | refine AQ.mark (by kernel_rfl) rfl rfl rfl rfl rfl rfl rfl ?_ | refine AP.cond_true rfl rfl ?_ | refine AP.cond_false rfl rfl ?_ | (refine AP.region rfl (by kernel_rfl) ?_; simp only [go_sem, Nat.reduceAdd, Nat.reduceLeDiff, reduceCtorEq]) | (refine AP.drawQ rfl rfl (by kernel_rfl) ?_; simp only [go_sem, Nat.reduceAdd, Nat.reduceLeDiff, reduceCtorEq]) | (refine vq_id ?_; simp only [go_sem, Nat.reduceAdd, Nat.reduceLeDiff, reduceCtorEq]) | (refine ⟨by first | omega | (intros; simp_all; done) | (intros; simp_all; omega), ?_⟩; try simp only [go_sem, Nat.reduceAdd, Nat.reduceLeDiff, reduceCtorEq]))
        refine AE.ret rfl ⟨rfl, trivial⟩ ⟨rfl, ?_⟩
        have e : Tr.bal (.node k v l (.node kr vr rl rr)) = .node kr vr (.node k v l rl) rr := by
          rw [Tr.bal, if_neg hnl, if_pos hlt, if_neg (show ¬ (Tr.node kr vr rl rr).right.ht < (Tr.node kr vr rl rr).left.ht from hlt2)]; rfl
        rw [e]; rfl
    · have hnr : ¬ l.ht + 1 < r.ht := by simp at hc2; omega
      repeat (first | refine xPP rfl ?_ | refine xPE rfl ?_ | refine xEP rfl ?_ | refine xEE rfl ?_ | refine AQ.done ?_ | refine AQ.skip (by kernel_rfl) rfl ?_ | refine AQ.s2b (by kernel_rfl) rfl rfl rfl rfl ?_ | refine AQ.mark (by kernel_rfl) rfl rfl rfl rfl rfl rfl rfl ?_ | refine AP.cond_true rfl rfl ?_ | refine AP.cond_false rfl rfl ?_ | (refine AP.region rfl (by kernel_rfl) ?_; simp only [go_sem, Nat.reduceAdd, Nat.reduceLeDiff, reduceCtorEq]) | (refine AP.drawQ rfl rfl (by kernel_rfl) ?_; simp only [go_sem, Nat.reduceAdd, Nat.reduceLeDiff, reduceCtorEq]) | (refine vq_id ?_; simp only [go_sem, Nat.reduceAdd, Nat.reduceLeDiff, reduceCtorEq]) | (refine ⟨by first | omega | (intros; simp_all; done) | (intros; simp_all; omega), ?_⟩; try simp only [go_sem, Nat.reduceAdd, Nat.reduceLeDiff, reduceCtorEq]))
      refine AE.ret rfl ⟨rfl, trivial⟩ ⟨rfl, ?_⟩
      have e : Tr.bal (.node k v l r) = .node k v l r := by simp only [Tr.bal, if_neg hnl, if_neg hnr]
      rw [e]; rfl
/-- a key gets a value -/
def Tr.put (k : Int) (v : Int) : Tr → Tr
  | .nil => .node k v .nil .nil
  | .node k' v' l r => if cmpS k k' < 0 then Tr.bal (.node k' v' (Tr.put k v l) r) else if 0 < cmpS k k' then Tr.bal (.node k' v' l (Tr.put k v r)) else .node k v l r
theorem Tr.size_rotL (t : Tr) : t.rotL.size = t.size := by
  unfold Tr.rotL
  split
  · simp only [Tr.size]; omega
  · rfl
theorem Tr.size_rotR (t : Tr) : t.rotR.size = t.size := by
  unfold Tr.rotR
  split
  · simp only [Tr.size]; omega
  · rfl
theorem Tr.size_bal (t : Tr) : t.bal.size = t.size := by
  cases t with
  | nil => rfl
  | node k v l r =>
    simp only [Tr.bal]
    split
    · rw [Tr.size_rotR]; split <;> simp only [Tr.size, Tr.size_rotL]
    · split
      · rw [Tr.size_rotL]; split <;> simp only [Tr.size, Tr.size_rotR]
      · rfl
theorem Tr.size_put (k : Int) (v : Int) : ∀ t : Tr, (Tr.put k v t).size ≤ t.size + 1
  | .nil => Nat.le_refl _
  | .node k' v' l r => by
    have h1 := Tr.size_put k v l
    have h2 := Tr.size_put k v r
    simp only [Tr.put]
    split
    · rw [Tr.size_bal]; simp only [Tr.size]; omega
    · split
      · rw [Tr.size_bal]; simp only [Tr.size]; omega
      · simp only [Tr.size]; omega
theorem put_spec (k : Int) (v : Int) : ∀ t : Tr, t.size + 2 ≤ 1000000000 → PFn Try.prog 53 [Tv t, Iv k, Iv v] (Tv (t.put k v))
  | .nil, _ => by
    refine ACall.walk [0, 1, 2, 6, 7, 8, 10, 21, 38] [8] Try.func53 rfl Try.ntmps53 (by kernel_rfl) (by rfl) rfl fun W own I0 φ0 => ?_
    repeat (first | refine xPP rfl ?_ | refine xPE rfl ?_ | refine xEP rfl ?_ | refine xEE rfl ?_ | refine AQ.done ?_ | refine AQ.skip (by kernel_rfl) rfl ?_ | refine AQ.s2b (by kernel_rfl) rfl rfl rfl rfl ?_ | refine AQ.mark (by kernel_rfl) rfl rfl rfl rfl rfl rfl rfl ?_ | refine AP.cond_true rfl rfl ?_ | refine AP.cond_false rfl rfl ?_ | (refine AP.region rfl (by kernel_rfl) ?_; simp only [go_sem, Nat.reduceAdd, Nat.reduceLeDiff, reduceCtorEq, Tv, Tr.iv]) | (refine AP.drawQ rfl rfl (by kernel_rfl) ?_; simp only [go_sem, Nat.reduceAdd, Nat.reduceLeDiff, reduceCtorEq, Tv, Tr.iv]) | (refine vq_id ?_; simp only [go_sem, Nat.reduceAdd, Nat.reduceLeDiff, reduceCtorEq, Tv, Tr.iv]) | (refine ⟨by first | omega | (intros; simp_all; done) | (intros; simp_all; omega), ?_⟩; try simp only [go_sem, Nat.reduceAdd, Nat.reduceLeDiff, reduceCtorEq, Tv, Tr.iv]))
    exact AE.ret rfl ⟨rfl, trivial⟩ ⟨rfl, rfl⟩
  | .node k' v' l r, hs => by
    have hs' : l.size + r.size + 3 ≤ 1000000000 := by simp only [Tr.size] at hs; omega
    have ihl := put_spec k v l (by omega)
    have ihr := put_spec k v r (by omega)
    have z1 := Tr.size_put k v l
    have z2 := Tr.size_put k v r
    refine ACall.walk [0, 1, 2, 6, 7, 8, 10, 21, 38] [8] Try.func53 rfl Try.ntmps53 (by kernel_rfl) (by rfl) rfl fun W own I0 φ0 => ?_
    repeat (first | refine xPP rfl ?_ | refine xPE rfl ?_ | refine xEP rfl ?_ | refine xEE rfl ?_ | refine AQ.done ?_ | refine AQ.skip (by kernel_rfl) rfl ?_ | refine AQ.s2b (by kernel_rfl) rfl rfl rfl rfl ?_ | refine AQ.mark (by kernel_rfl) rfl rfl rfl rfl rfl rfl rfl ?_ | refine AP.cond_true rfl rfl ?_ | refine AP.cond_false rfl rfl ?_ | (refine AP.region rfl (by kernel_rfl) ?_; simp only [go_sem, Nat.reduceAdd, Nat.reduceLeDiff, reduceCtorEq, Tv, Tr.iv]) | (refine AP.drawQ rfl rfl (by kernel_rfl) ?_; simp only [go_sem, Nat.reduceAdd, Nat.reduceLeDiff, reduceCtorEq, Tv, Tr.iv]) | (refine vq_id ?_; simp only [go_sem, Nat.reduceAdd, Nat.reduceLeDiff, reduceCtorEq, Tv, Tr.iv]) | (refine ⟨by first | omega | (intros; simp_all; done) | (intros; simp_all; omega), ?_⟩; try simp only [go_sem, Nat.reduceAdd, Nat.reduceLeDiff, reduceCtorEq, Tv, Tr.iv]))
    refine AQ.fn (by kernel_rfl) rfl rfl rfl (compare_spec k k') rfl ?_
    repeat (first | refine xPP rfl ?_ | refine xPE rfl ?_ | refine xEP rfl ?_ | refine xEE rfl ?_ | refine AQ.done ?_ | refine AQ.skip (by kernel_rfl) rfl ?_ | refine AQ.s2b (by kernel_rfl) rfl rfl rfl rfl ?_ | refine AQ.mark (by kernel_rfl) rfl rfl rfl rfl rfl rfl rfl ?_ | refine AP.cond_true rfl rfl ?_ | refine AP.cond_false rfl rfl ?_ | (refine AP.region rfl (by kernel_rfl) ?_; simp only [go_sem, Nat.reduceAdd, Nat.reduceLeDiff, reduceCtorEq]) | (refine AP.drawQ rfl rfl (by kernel_rfl) ?_; simp only [go_sem, Nat.reduceAdd, Nat.reduceLeDiff, reduceCtorEq]) | (refine vq_id ?_; simp only [go_sem, Nat.reduceAdd, Nat.reduceLeDiff, reduceCtorEq]) | (refine ⟨by first | omega | (intros; simp_all; done) | (intros; simp_all; omega), ?_⟩; try simp only [go_sem, Nat.reduceAdd, Nat.reduceLeDiff, reduceCtorEq]))
    refine AP.cond rfl rfl (fun hc => ?_) (fun hc => ?_)
    · have hlt : cmpS k k' < 0 := by simpa using hc
      repeat (first | refine xPP rfl ?_ | refine xPE rfl ?_ | refine xEP rfl ?_ | refine xEE rfl ?_ | refine AQ.done ?_ | refine AQ.skip (by kernel_rfl) rfl ?_ | refine AQ.s2b (by kernel_rfl) rfl rfl rfl rfl ?_ | refine AQ.mark (by kernel_rfl) rfl rfl rfl rfl rfl rfl rfl ?_ | refine AP.cond_true rfl rfl ?_ | refine AP.cond_false rfl rfl ?_ | (refine AP.region rfl (by kernel_rfl) ?_; simp only [go_sem, Nat.reduceAdd, Nat.reduceLeDiff, reduceCtorEq, Tr.iv]) | (refine AP.drawQ rfl rfl (by kernel_rfl) ?_; simp only [go_sem, Nat.reduceAdd, Nat.reduceLeDiff, reduceCtorEq, Tr.iv]) | (refine vq_id ?_; simp only [go_sem, Nat.reduceAdd, Nat.reduceLeDiff, reduceCtorEq, Tr.iv]) | (refine ⟨by first | omega | (intros; simp_all; done) | (intros; simp_all; omega), ?_⟩; try simp only [go_sem, Nat.reduceAdd, Nat.reduceLeDiff, reduceCtorEq, Tr.iv]))
      refine AP.draw 14 [(7, Tv (l.put k v)), (12, Tv (.node k' v' (l.put k v) r)), (13, Tv (Tr.bal (.node k' v' (l.put k v) r)))] (by kernel_rfl) rfl (by kernel_rfl) (by kernel_rfl) ?_
      simp only [go_sem, Nat.reduceAdd, Nat.reduceLeDiff, reduceCtorEq, Tv, Tr.iv]
      refine ⟨ihl, by have := with_spec k' v' l r (l.put k v) r (by omega); simpa only [Tv, Tr.iv] using this, by have := bal_spec k' v' (l.put k v) r (by omega); simpa only [Tv, Tr.iv] using this, ?_⟩
      repeat (first | refine xPP rfl ?_ | refine xPE rfl ?_ | refine xEP rfl ?_ | refine xEE rfl ?_ | refine AQ.done ?_ | refine AQ.skip (by kernel_rfl) rfl ?_ | refine AQ.s2b (by kernel_rfl) rfl rfl rfl rfl ?_ | refine AQ.mark (by kernel_rfl) rfl rfl rfl rfl rfl rfl rfl ?_ | refine AP.cond_true rfl rfl ?_ | refine AP.cond_false rfl rfl ?_ | (refine AP.region rfl (by kernel_rfl) ?_; simp only [go_sem, Nat.reduceAdd, Nat.reduceLeDiff, reduceCtorEq]) | (refine AP.drawQ rfl rfl (by kernel_rfl) ?_; simp only [go_sem, Nat.reduceAdd, Nat.reduceLeDiff, reduceCtorEq]) | (refine vq_id ?_; simp only [go_sem, Nat.reduceAdd, Nat.reduceLeDiff, reduceCtorEq]) | (refine ⟨by first | omega | (intros; simp_all; done) | (intros; simp_all; omega), ?_⟩; try simp only [go_sem, Nat.reduceAdd, Nat.reduceLeDiff, reduceCtorEq]))
      refine AE.ret rfl ⟨rfl, trivial⟩ ⟨rfl, ?_⟩
      have e : Tr.put k v (.node k' v' l r) = Tr.bal (.node k' v' (l.put k v) r) := by simp only [Tr.put, if_pos hlt]
      rw [e]; rfl
    · have hnl : ¬ cmpS k k' < 0 := by simpa using hc
      repeat (first | refine xPP rfl ?_ | refine xPE rfl ?_ | refine xEP rfl ?_ | refine xEE rfl ?_ | refine AQ.done ?_ | refine AQ.skip (by kernel_rfl) rfl ?_ | refine AQ.s2b (by kernel_rfl) rfl rfl rfl rfl ?_ | refine AQ.mark (by kernel_rfl) rfl rfl rfl rfl rfl rfl rfl ?_ | refine AP.cond_true rfl rfl ?_ | refine AP.cond_false rfl rfl ?_ | (refine AP.region rfl (by kernel_rfl) ?_; simp only [go_sem, Nat.reduceAdd, Nat.reduceLeDiff, reduceCtorEq]) | (refine AP.drawQ rfl rfl (by kernel_rfl) ?_; simp only [go_sem, Nat.reduceAdd, Nat.reduceLeDiff, reduceCtorEq]) | (refine vq_id ?_; simp only [go_sem, Nat.reduceAdd, Nat.reduceLeDiff, reduceCtorEq]) | (refine ⟨by first | omega | (intros; simp_all; done) | (intros; simp_all; omega), ?_⟩; try simp only [go_sem, Nat.reduceAdd, Nat.reduceLeDiff, reduceCtorEq]))
      refine AP.cond rfl rfl (fun hc2 => ?_) (fun hc2 => ?_)
      · have hlt : 0 < cmpS k k' := by simpa using hc2
        repeat (first | refine xPP rfl ?_ | refine xPE rfl ?_ | refine xEP rfl ?_ | refine xEE rfl ?_ | refine AQ.done ?_ | refine AQ.skip (by kernel_rfl) rfl ?_ | refine AQ.s2b (by kernel_rfl) rfl rfl rfl rfl ?_ | refine AQ.mark (by kernel_rfl) rfl rfl rfl rfl rfl rfl rfl ?_ | refine AP.cond_true rfl rfl ?_ | refine AP.cond_false rfl rfl ?_ | (refine AP.region rfl (by kernel_rfl) ?_; simp only [go_sem, Nat.reduceAdd, Nat.reduceLeDiff, reduceCtorEq, Tr.iv]) | (refine AP.drawQ rfl rfl (by kernel_rfl) ?_; simp only [go_sem, Nat.reduceAdd, Nat.reduceLeDiff, reduceCtorEq, Tr.iv]) | (refine vq_id ?_; simp only [go_sem, Nat.reduceAdd, Nat.reduceLeDiff, reduceCtorEq, Tr.iv]) | (refine ⟨by first | omega | (intros; simp_all; done) | (intros; simp_all; omega), ?_⟩; try simp only [go_sem, Nat.reduceAdd, Nat.reduceLeDiff, reduceCtorEq, Tr.iv]))
        refine AP.draw 14 [(11, Tv (r.put k v)), (12, Tv (.node k' v' l (r.put k v))), (13, Tv (Tr.bal (.node k' v' l (r.put k v))))] (by kernel_rfl) rfl (by kernel_rfl) (by kernel_rfl) ?_
        simp only [go_sem, Nat.reduceAdd, Nat.reduceLeDiff, reduceCtorEq, Tv, Tr.iv]
        refine ⟨ihr, by have := with_spec k' v' l r l (r.put k v) (by omega); simpa only [Tv, Tr.iv] using this, by have := bal_spec k' v' l (r.put k v) (by omega); simpa only [Tv, Tr.iv] using this, ?_⟩
        repeat (first | refine xPP rfl ?_ | refine xPE rfl ?_ | refine xEP rfl ?_ | refine xEE rfl ?_ | refine AQ.done ?_ | refine AQ.skip (by kernel_rfl) rfl ?_ | refine AQ.s2b (by kernel_rfl) rfl rfl rfl rfl ?_ | refine AQ.mark (by kernel_rfl) rfl rfl rfl rfl rfl rfl rfl ?_ | refine AP.cond_true rfl rfl ?_ | refine AP.cond_false rfl rfl ?_ | (refine AP.region rfl (by kernel_rfl) ?_; simp only [go_sem, Nat.reduceAdd, Nat.reduceLeDiff, reduceCtorEq]) | (refine AP.drawQ rfl rfl (by kernel_rfl) ?_; simp only [go_sem, Nat.reduceAdd, Nat.reduceLeDiff, reduceCtorEq]) | (refine vq_id ?_; simp only [go_sem, Nat.reduceAdd, Nat.reduceLeDiff, reduceCtorEq]) | (refine ⟨by first | omega | (intros; simp_all; done) | (intros; simp_all; omega), ?_⟩; try simp only [go_sem, Nat.reduceAdd, Nat.reduceLeDiff, reduceCtorEq]))
        refine AE.ret rfl ⟨rfl, trivial⟩ ⟨rfl, ?_⟩
        have e : Tr.put k v (.node k' v' l r) = Tr.bal (.node k' v' l (r.put k v)) := by simp only [Tr.put, if_neg hnl, if_pos hlt]
        rw [e]; rfl
      · have hng : ¬ 0 < cmpS k k' := by simpa using hc2
        repeat (first | refine xPP rfl ?_ | refine xPE rfl ?_ | refine xEP rfl ?_ | refine xEE rfl ?_ | refine AQ.done ?_ | refine AQ.skip (by kernel_rfl) rfl ?_ | refine AQ.s2b (by kernel_rfl) rfl rfl rfl rfl ?_ | refine AQ.mark (by kernel_rfl) rfl rfl rfl rfl rfl rfl rfl ?_ | refine AP.cond_true rfl rfl ?_ | refine AP.cond_false rfl rfl ?_ | (refine AP.region rfl (by kernel_rfl) ?_; simp only [go_sem, Nat.reduceAdd, Nat.reduceLeDiff, reduceCtorEq, Tr.iv]) | (refine AP.drawQ rfl rfl (by kernel_rfl) ?_; simp only [go_sem, Nat.reduceAdd, Nat.reduceLeDiff, reduceCtorEq, Tr.iv]) | (refine vq_id ?_; simp only [go_sem, Nat.reduceAdd, Nat.reduceLeDiff, reduceCtorEq, Tr.iv]) | (refine ⟨by first | omega | (intros; simp_all; done) | (intros; simp_all; omega), ?_⟩; try simp only [go_sem, Nat.reduceAdd, Nat.reduceLeDiff, reduceCtorEq, Tr.iv]))
        refine AE.fix 0 rfl rfl ?_
        refine AE.ret rfl ⟨rfl, trivial⟩ ⟨rfl, ?_⟩
        have e : Tr.put k v (.node k' v' l r) = .node k v l r := by simp only [Tr.put, if_neg hnl, if_neg hng]
        rw [e]; rfl
end Go.Proofs.Ytfgffpkdjmeaoaa.IntT
end

section
namespace Go.Proofs.Ytfgffpkdjmeaoaa.IntT
open Go Go.AL Go.RowKit
set_option maxRecDepth 10000
set_option maxHeartbeats 4000000
theorem Put_spec (t : Tr) (k : Int) (v : Int) (hs : t.size + 2 ≤ 1000000000) : PFn Try.prog 11 [.agg [Tv t], Iv k, Iv v] (.agg [Tv (t.put k v)]) := by
  refine ACall.walk [0, 1, 2, 3, 6] [6] Try.func11 rfl Try.ntmps11 (by kernel_rfl) (by rfl) rfl fun W own I0 φ0 => ?_
  repeat (first | refine xPP rfl ?_ | refine xPE rfl ?_ | refine xEP rfl ?_ | refine xEE rfl ?_ | refine AQ.done ?_ | refine AQ.skip (by kernel_rfl) rfl ?_ | refine AQ.s2b (by kernel_rfl) rfl rfl rfl rfl ?_ | refine AQ.mark (by kernel_rfl) rfl rfl rfl rfl rfl rfl rfl ?_ | refine AP.cond_true rfl rfl ?_ | refine AP.cond_false rfl rfl ?_ | (refine AP.region rfl (by kernel_rfl) ?_; simp only [go_sem, Nat.reduceAdd, Nat.reduceLeDiff, reduceCtorEq]) | (refine AP.drawQ rfl rfl (by kernel_rfl) ?_; simp only [go_sem, Nat.reduceAdd, Nat.reduceLeDiff, reduceCtorEq]) | (refine vq_id ?_; simp only [go_sem, Nat.reduceAdd, Nat.reduceLeDiff, reduceCtorEq]) | (refine ⟨by first | omega | (intros; simp_all; done) | (intros; simp_all; omega), ?_⟩; try simp only [go_sem, Nat.reduceAdd, Nat.reduceLeDiff, reduceCtorEq]))
  refine AQ.fn (by kernel_rfl) rfl rfl rfl (put_spec k v t hs) rfl ?_
  repeat (first | refine xPP rfl ?_ | refine xPE rfl ?_ | refine xEP rfl ?_ | refine xEE rfl ?_ | refine AQ.done ?_ | refine AQ.skip (by kernel_rfl) rfl ?_ | refine AQ.s2b (by kernel_rfl) rfl rfl rfl rfl ?_ | refine AQ.mark (by kernel_rfl) rfl rfl rfl rfl rfl rfl rfl ?_ | refine AP.cond_true rfl rfl ?_ | refine AP.cond_false rfl rfl ?_ | (refine AP.region rfl (by kernel_rfl) ?_; simp only [go_sem, Nat.reduceAdd, Nat.reduceLeDiff, reduceCtorEq]) | (refine AP.drawQ rfl rfl (by kernel_rfl) ?_; simp only [go_sem, Nat.reduceAdd, Nat.reduceLeDiff, reduceCtorEq]) | (refine vq_id ?_; simp only [go_sem, Nat.reduceAdd, Nat.reduceLeDiff, reduceCtorEq]) | (refine ⟨by first | omega | (intros; simp_all; done) | (intros; simp_all; omega), ?_⟩; try simp only [go_sem, Nat.reduceAdd, Nat.reduceLeDiff, reduceCtorEq]))
  exact AE.ret0 rfl ⟨⟨rfl, Nat.le_of_ble_eq_true (by kernel_rfl)⟩, trivial⟩ rfl ⟨rfl, rfl⟩
theorem Size_spec (t : Tr) : PFn Try.prog 14 [.agg [Tv t]] (Iv t.size) := by
  refine ACall.walk [0, 1, 2] [] Try.func14 rfl Try.ntmps14 (by kernel_rfl) (by rfl) rfl fun W own I0 φ0 => ?_
  repeat (first | refine xPP rfl ?_ | refine xPE rfl ?_ | refine xEP rfl ?_ | refine xEE rfl ?_ | refine AQ.done ?_ | refine AQ.skip (by kernel_rfl) rfl ?_ | refine AQ.s2b (by kernel_rfl) rfl rfl rfl rfl ?_ | refine AQ.mark (by kernel_rfl) rfl rfl rfl rfl rfl rfl rfl ?_ | refine AP.cond_true rfl rfl ?_ | refine AP.cond_false rfl rfl ?_ | (refine AP.region rfl (by kernel_rfl) ?_; simp only [go_sem, Nat.reduceAdd, Nat.reduceLeDiff, reduceCtorEq]) | (refine AP.drawQ rfl rfl (by kernel_rfl) ?_; simp only [go_sem, Nat.reduceAdd, Nat.reduceLeDiff, reduceCtorEq]) | (refine vq_id ?_; simp only [go_sem, Nat.reduceAdd, Nat.reduceLeDiff, reduceCtorEq]) | (refine ⟨by first | omega | (intros; simp_all; done) | (intros; simp_all; omega), ?_⟩; try simp only [go_sem, Nat.reduceAdd, Nat.reduceLeDiff, reduceCtorEq]))
  refine AQ.fn (by kernel_rfl) rfl rfl rfl (count_spec t) rfl ?_
  repeat (first | refine xPP rfl ?_ | refine xPE rfl ?_ | refine xEP rfl ?_ | refine xEE rfl ?_ | refine AQ.done ?_ | refine AQ.skip (by kernel_rfl) rfl ?_ | refine AQ.s2b (by kernel_rfl) rfl rfl rfl rfl ?_ | refine AQ.mark (by kernel_rfl) rfl rfl rfl rfl rfl rfl rfl ?_ | refine AP.cond_true rfl rfl ?_ | refine AP.cond_false rfl rfl ?_ | (refine AP.region rfl (by kernel_rfl) ?_; simp only [go_sem, Nat.reduceAdd, Nat.reduceLeDiff, reduceCtorEq]) | (refine AP.drawQ rfl rfl (by kernel_rfl) ?_; simp only [go_sem, Nat.reduceAdd, Nat.reduceLeDiff, reduceCtorEq]) | (refine vq_id ?_; simp only [go_sem, Nat.reduceAdd, Nat.reduceLeDiff, reduceCtorEq]) | (refine ⟨by first | omega | (intros; simp_all; done) | (intros; simp_all; omega), ?_⟩; try simp only [go_sem, Nat.reduceAdd, Nat.reduceLeDiff, reduceCtorEq]))
  exact AE.ret rfl ⟨rfl, trivial⟩ ⟨rfl, rfl⟩
theorem Depth_spec (t : Tr) : PFn Try.prog 13 [.agg [Tv t]] (Iv t.ht) := by
  refine ACall.walk [0, 1, 2] [] Try.func13 rfl Try.ntmps13 (by kernel_rfl) (by rfl) rfl fun W own I0 φ0 => ?_
  repeat (first | refine xPP rfl ?_ | refine xPE rfl ?_ | refine xEP rfl ?_ | refine xEE rfl ?_ | refine AQ.done ?_ | refine AQ.skip (by kernel_rfl) rfl ?_ | refine AQ.s2b (by kernel_rfl) rfl rfl rfl rfl ?_ | refine AQ.mark (by kernel_rfl) rfl rfl rfl rfl rfl rfl rfl ?_ | refine AP.cond_true rfl rfl ?_ | refine AP.cond_false rfl rfl ?_ | (refine AP.region rfl (by kernel_rfl) ?_; simp only [go_sem, Nat.reduceAdd, Nat.reduceLeDiff, reduceCtorEq]) | (refine AP.drawQ rfl rfl (by kernel_rfl) ?_; simp only [go_sem, Nat.reduceAdd, Nat.reduceLeDiff, reduceCtorEq]) | (refine vq_id ?_; simp only [go_sem, Nat.reduceAdd, Nat.reduceLeDiff, reduceCtorEq]) | (refine ⟨by first | omega | (intros; simp_all; done) | (intros; simp_all; omega), ?_⟩; try simp only [go_sem, Nat.reduceAdd, Nat.reduceLeDiff, reduceCtorEq]))
  refine AQ.fn (by kernel_rfl) rfl rfl rfl (height_spec t) rfl ?_
  repeat (first | refine xPP rfl ?_ | refine xPE rfl ?_ | refine xEP rfl ?_ | refine xEE rfl ?_ | refine AQ.done ?_ | refine AQ.skip (by kernel_rfl) rfl ?_ | refine AQ.s2b (by kernel_rfl) rfl rfl rfl rfl ?_ | refine AQ.mark (by kernel_rfl) rfl rfl rfl rfl rfl rfl rfl ?_ | refine AP.cond_true rfl rfl ?_ | refine AP.cond_false rfl rfl ?_ | (refine AP.region rfl (by kernel_rfl) ?_; simp only [go_sem, Nat.reduceAdd, Nat.reduceLeDiff, reduceCtorEq]) | (refine AP.drawQ rfl rfl (by kernel_rfl) ?_; simp only [go_sem, Nat.reduceAdd, Nat.reduceLeDiff, reduceCtorEq]) | (refine vq_id ?_; simp only [go_sem, Nat.reduceAdd, Nat.reduceLeDiff, reduceCtorEq]) | (refine ⟨by first | omega | (intros; simp_all; done) | (intros; simp_all; omega), ?_⟩; try simp only [go_sem, Nat.reduceAdd, Nat.reduceLeDiff, reduceCtorEq]))
  exact AE.ret rfl ⟨rfl, trivial⟩ ⟨rfl, rfl⟩
end Go.Proofs.Ytfgffpkdjmeaoaa.IntT
end

section
namespace Go.Proofs.Ytfgffpkdjmeaoaa
open Go Go.AL
set_option maxRecDepth 10000
set_option maxHeartbeats 2000000
/-! Trees with strings as keys -/
inductive Tr where
  | nil
  | node (k : List UInt8) (v : Int) (l r : Tr)
namespace Tr
def size : Tr → Nat
  | nil => 0
  | node _ _ l r => size l + size r + 1
def ht : Tr → Nat
  | nil => 0
  | node _ _ l r => max (ht l) (ht r) + 1
theorem ht_le : ∀ t : Tr, t.ht ≤ t.size
  | nil => Nat.le_refl _
  | node _ _ l r => by have := ht_le l; have := ht_le r; simp only [ht, size]; omega
def iv : Tr → IV
  | nil => .v (.pointer none)
  | node k v l r => .pt [Si k, Ii v, iv l, iv r, Ii ((size l + size r + 1 : Nat) : Int), Ii ((max (ht l) (ht r) + 1 : Nat) : Int)]
def key : Tr → List UInt8
  | nil => []
  | node k _ _ _ => k
def val : Tr → Int
  | nil => 0
  | node _ v _ _ => v
def left : Tr → Tr
  | nil => nil
  | node _ _ l _ => l
def right : Tr → Tr
  | nil => nil
  | node _ _ _ r => r
end Tr
abbrev Tv (t : Tr) : AV := .im t.iv
def ltS (a b : List UInt8) : Bool := Op.bytesLess a b
def cmpS (a b : List UInt8) : Int := if ltS a b then -1 else if ltS a b || a == b then 0 else 1
theorem isNaN_spec (a : List UInt8) : PFn Try.prog 86 [Sv a] (Bv false) := by
  refine ACall.walk [0, 2] [] Try.func86 rfl Try.ntmps86 (by kernel_rfl) (by rfl) rfl fun W own I0 φ0 => ?_
  repeat (first | refine xPP rfl ?_ | refine xPE rfl ?_ | refine xEP rfl ?_ | refine xEE rfl ?_ | refine AQ.done ?_ | refine AQ.skip (by kernel_rfl) rfl ?_ | refine AQ.s2b (by kernel_rfl) rfl rfl rfl rfl ?_ | refine AQ.mark (by kernel_rfl) rfl rfl rfl rfl rfl rfl rfl ?_ | refine AP.cond_true rfl rfl ?_ | refine AP.cond_false rfl rfl ?_ | (refine AP.region rfl (by kernel_rfl) ?_; simp only [go_sem, Nat.reduceAdd, Nat.reduceLeDiff, reduceCtorEq, beq_self_eq_true]) | (refine AP.drawQ rfl rfl (by kernel_rfl) ?_; simp only [go_sem, Nat.reduceAdd, Nat.reduceLeDiff, reduceCtorEq, beq_self_eq_true]) | (refine vq_id ?_; simp only [go_sem, Nat.reduceAdd, Nat.reduceLeDiff, reduceCtorEq, beq_self_eq_true]) | (refine ⟨by first | omega | (intros; simp_all; done) | (intros; simp_all; omega), ?_⟩; try simp only [go_sem, Nat.reduceAdd, Nat.reduceLeDiff, reduceCtorEq, beq_self_eq_true]))
  exact AE.ret rfl ⟨rfl, trivial⟩ ⟨rfl, rfl⟩
theorem compare_spec (a b : List UInt8) : PFn Try.prog 76 [Sv a, Sv b] (Iv (cmpS a b)) := by
  refine ACall.walk [0, 1, 4, 5, 6, 11, 12, 13, 16, 19] [] Try.func76 rfl Try.ntmps76 (by kernel_rfl) (by rfl) rfl fun W own I0 φ0 => ?_
  repeat (first | refine xPP rfl ?_ | refine xPE rfl ?_ | refine xEP rfl ?_ | refine xEE rfl ?_ | refine AQ.done ?_ | refine AQ.skip (by kernel_rfl) rfl ?_ | refine AQ.s2b (by kernel_rfl) rfl rfl rfl rfl ?_ | refine AQ.mark (by kernel_rfl) rfl rfl rfl rfl rfl rfl rfl ?_ | refine AP.cond_true rfl rfl ?_ | refine AP.cond_false rfl rfl ?_ | (refine AP.region rfl (by kernel_rfl) ?_; simp only [go_sem, Nat.reduceAdd, Nat.reduceLeDiff, reduceCtorEq]) | (refine AP.drawQ rfl rfl (by kernel_rfl) ?_; simp only [go_sem, Nat.reduceAdd, Nat.reduceLeDiff, reduceCtorEq]) | (refine vq_id ?_; simp only [go_sem, Nat.reduceAdd, Nat.reduceLeDiff, reduceCtorEq]) | (refine ⟨by first | omega | (intros; simp_all; done) | (intros; simp_all; omega), ?_⟩; try simp only [go_sem, Nat.reduceAdd, Nat.reduceLeDiff, reduceCtorEq]))
  refine AQ.fn (by kernel_rfl) rfl rfl rfl (isNaN_spec a) rfl ?_
  repeat (first | refine xPP rfl ?_ | refine xPE rfl ?_ | refine xEP rfl ?_ | refine xEE rfl ?_ | refine AQ.done ?_ | refine AQ.skip (by kernel_rfl) rfl ?_ | refine AQ.s2b (by kernel_rfl) rfl rfl rfl rfl ?_ | refine AQ.mark (by kernel_rfl) rfl rfl rfl rfl rfl rfl rfl ?_ | refine AP.cond_true rfl rfl ?_ | refine AP.cond_false rfl rfl ?_ | (refine AP.region rfl (by kernel_rfl) ?_; simp only [go_sem, Nat.reduceAdd, Nat.reduceLeDiff, reduceCtorEq]) | (refine AP.drawQ rfl rfl (by kernel_rfl) ?_; simp only [go_sem, Nat.reduceAdd, Nat.reduceLeDiff, reduceCtorEq]) | (refine vq_id ?_; simp only [go_sem, Nat.reduceAdd, Nat.reduceLeDiff, reduceCtorEq]) | (refine ⟨by first | omega | (intros; simp_all; done) | (intros; simp_all; omega), ?_⟩; try simp only [go_sem, Nat.reduceAdd, Nat.reduceLeDiff, reduceCtorEq]))
  refine AQ.fn (by kernel_rfl) rfl rfl rfl (isNaN_spec b) rfl ?_
  repeat (first | refine xPP rfl ?_ | refine xPE rfl ?_ | refine xEP rfl ?_ | refine xEE rfl ?_ | refine AQ.done ?_ | refine AQ.skip (by kernel_rfl) rfl ?_ | refine AQ.s2b (by kernel_rfl) rfl rfl rfl rfl ?_ | refine AQ.mark (by kernel_rfl) rfl rfl rfl rfl rfl rfl rfl ?_ | refine AP.cond_true rfl rfl ?_ | refine AP.cond_false rfl rfl ?_ | (refine AP.region rfl (by kernel_rfl) ?_; simp only [go_sem, Nat.reduceAdd, Nat.reduceLeDiff, reduceCtorEq]) | (refine AP.drawQ rfl rfl (by kernel_rfl) ?_; simp only [go_sem, Nat.reduceAdd, Nat.reduceLeDiff, reduceCtorEq]) | (refine vq_id ?_; simp only [go_sem, Nat.reduceAdd, Nat.reduceLeDiff, reduceCtorEq]) | (refine ⟨by first | omega | (intros; simp_all; done) | (intros; simp_all; omega), ?_⟩; try simp only [go_sem, Nat.reduceAdd, Nat.reduceLeDiff, reduceCtorEq]))
  refine AP.cond rfl rfl (fun h1 => ?_) (fun h1 => ?_)
  · repeat (first | refine xPP rfl ?_ | refine xPE rfl ?_ | refine xEP rfl ?_ | refine xEE rfl ?_ | refine AQ.done ?_ | refine AQ.skip (by kernel_rfl) rfl ?_ | refine AQ.s2b (by kernel_rfl) rfl rfl rfl rfl ?_ | refine AQ.mark (by kernel_rfl) rfl rfl rfl rfl rfl rfl rfl ?_ | refine AP.cond_true rfl rfl ?_ | refine AP.cond_false rfl rfl ?_ | (refine AP.region rfl (by kernel_rfl) ?_; simp only [go_sem, Nat.reduceAdd, Nat.reduceLeDiff, reduceCtorEq]) | (refine AP.drawQ rfl rfl (by kernel_rfl) ?_; simp only [go_sem, Nat.reduceAdd, Nat.reduceLeDiff, reduceCtorEq]) | (refine vq_id ?_; simp only [go_sem, Nat.reduceAdd, Nat.reduceLeDiff, reduceCtorEq]) | (refine ⟨by first | omega | (intros; simp_all; done) | (intros; simp_all; omega), ?_⟩; try simp only [go_sem, Nat.reduceAdd, Nat.reduceLeDiff, reduceCtorEq]))
    exact AE.ret rfl ⟨rfl, trivial⟩ ⟨rfl, by rw [cmpS, show ltS a b = true from h1]; rfl⟩
  · repeat (first | refine xPP rfl ?_ | refine xPE rfl ?_ | refine xEP rfl ?_ | refine xEE rfl ?_ | refine AQ.done ?_ | refine AQ.skip (by kernel_rfl) rfl ?_ | refine AQ.s2b (by kernel_rfl) rfl rfl rfl rfl ?_ | refine AQ.mark (by kernel_rfl) rfl rfl rfl rfl rfl rfl rfl ?_ | refine AP.cond_true rfl rfl ?_ | refine AP.cond_false rfl rfl ?_ | (refine AP.region rfl (by kernel_rfl) ?_; simp only [go_sem, Nat.reduceAdd, Nat.reduceLeDiff, reduceCtorEq]) | (refine AP.drawQ rfl rfl (by kernel_rfl) ?_; simp only [go_sem, Nat.reduceAdd, Nat.reduceLeDiff, reduceCtorEq]) | (refine vq_id ?_; simp only [go_sem, Nat.reduceAdd, Nat.reduceLeDiff, reduceCtorEq]) | (refine ⟨by first | omega | (intros; simp_all; done) | (intros; simp_all; omega), ?_⟩; try simp only [go_sem, Nat.reduceAdd, Nat.reduceLeDiff, reduceCtorEq]))
    refine AP.cond rfl rfl (fun h2 => ?_) (fun h2 => ?_)
    · repeat (first | refine xPP rfl ?_ | refine xPE rfl ?_ | refine xEP rfl ?_ | refine xEE rfl ?_ | refine AQ.done ?_ | refine AQ.skip (by kernel_rfl) rfl ?_ | refine AQ.s2b (by kernel_rfl) rfl rfl rfl rfl ?_ | refine AQ.mark (by kernel_rfl) rfl rfl rfl rfl rfl rfl rfl ?_ | refine AP.cond_true rfl rfl ?_ | refine AP.cond_false rfl rfl ?_ | (refine AP.region rfl (by kernel_rfl) ?_; simp only [go_sem, Nat.reduceAdd, Nat.reduceLeDiff, reduceCtorEq]) | (refine AP.drawQ rfl rfl (by kernel_rfl) ?_; simp only [go_sem, Nat.reduceAdd, Nat.reduceLeDiff, reduceCtorEq]) | (refine vq_id ?_; simp only [go_sem, Nat.reduceAdd, Nat.reduceLeDiff, reduceCtorEq]) | (refine ⟨by first | omega | (intros; simp_all; done) | (intros; simp_all; omega), ?_⟩; try simp only [go_sem, Nat.reduceAdd, Nat.reduceLeDiff, reduceCtorEq]))
      refine AE.ret rfl ⟨rfl, trivial⟩ ⟨rfl, ?_⟩
      rw [cmpS, show ltS a b = false from h1]
      rw [h1] at h2
      simp only [Bool.false_or, Bool.not_eq_true'] at h2
      simp [h2, tupOf, AV.st]
    · repeat (first | refine xPP rfl ?_ | refine xPE rfl ?_ | refine xEP rfl ?_ | refine xEE rfl ?_ | refine AQ.done ?_ | refine AQ.skip (by kernel_rfl) rfl ?_ | refine AQ.s2b (by kernel_rfl) rfl rfl rfl rfl ?_ | refine AQ.mark (by kernel_rfl) rfl rfl rfl rfl rfl rfl rfl ?_ | refine AP.cond_true rfl rfl ?_ | refine AP.cond_false rfl rfl ?_ | (refine AP.region rfl (by kernel_rfl) ?_; simp only [go_sem, Nat.reduceAdd, Nat.reduceLeDiff, reduceCtorEq]) | (refine AP.drawQ rfl rfl (by kernel_rfl) ?_; simp only [go_sem, Nat.reduceAdd, Nat.reduceLeDiff, reduceCtorEq]) | (refine vq_id ?_; simp only [go_sem, Nat.reduceAdd, Nat.reduceLeDiff, reduceCtorEq]) | (refine ⟨by first | omega | (intros; simp_all; done) | (intros; simp_all; omega), ?_⟩; try simp only [go_sem, Nat.reduceAdd, Nat.reduceLeDiff, reduceCtorEq]))
      refine AE.ret rfl ⟨rfl, trivial⟩ ⟨rfl, ?_⟩
      rw [cmpS, show ltS a b = false from h1]
      rw [h1] at h2
      simp only [Bool.false_or, Bool.not_eq_false'] at h2
      simp [h2, tupOf, AV.st]
theorem count_spec (t : Tr) : PFn Try.prog 68 [Tv t] (Iv t.size) := by
  refine ACall.walk [0, 2, 4] [] Try.func68 rfl Try.ntmps68 (by kernel_rfl) (by rfl) rfl fun W own I0 φ0 => ?_
  cases t with
  | nil =>
    repeat (first | refine xPP rfl ?_ | refine xPE rfl ?_ | refine xEP rfl ?_ | refine xEE rfl ?_ | refine AQ.done ?_ | refine AQ.skip (by kernel_rfl) rfl ?_ | refine AQ.s2b (by kernel_rfl) rfl rfl rfl rfl ?_ | refine AQ.mark (by kernel_rfl) rfl rfl rfl rfl rfl rfl rfl ?_ | refine AP.cond_true rfl rfl ?_ | refine AP.cond_false rfl rfl ?_ | (refine AP.region rfl (by kernel_rfl) ?_; simp only [go_sem, Nat.reduceAdd, Nat.reduceLeDiff, reduceCtorEq, Tr.iv]) | (refine AP.drawQ rfl rfl (by kernel_rfl) ?_; simp only [go_sem, Nat.reduceAdd, Nat.reduceLeDiff, reduceCtorEq, Tr.iv]) | (refine vq_id ?_; simp only [go_sem, Nat.reduceAdd, Nat.reduceLeDiff, reduceCtorEq, Tr.iv]) | (refine ⟨by first | omega | (intros; simp_all; done) | (intros; simp_all; omega), ?_⟩; try simp only [go_sem, Nat.reduceAdd, Nat.reduceLeDiff, reduceCtorEq, Tr.iv]))
    exact AE.ret rfl ⟨rfl, trivial⟩ ⟨rfl, rfl⟩
  | node k v l r =>
    repeat (first | refine xPP rfl ?_ | refine xPE rfl ?_ | refine xEP rfl ?_ | refine xEE rfl ?_ | refine AQ.done ?_ | refine AQ.skip (by kernel_rfl) rfl ?_ | refine AQ.s2b (by kernel_rfl) rfl rfl rfl rfl ?_ | refine AQ.mark (by kernel_rfl) rfl rfl rfl rfl rfl rfl rfl ?_ | refine AP.cond_true rfl rfl ?_ | refine AP.cond_false rfl rfl ?_ | (refine AP.region rfl (by kernel_rfl) ?_; simp only [go_sem, Nat.reduceAdd, Nat.reduceLeDiff, reduceCtorEq, Tr.iv]) | (refine AP.drawQ rfl rfl (by kernel_rfl) ?_; simp only [go_sem, Nat.reduceAdd, Nat.reduceLeDiff, reduceCtorEq, Tr.iv]) | (refine vq_id ?_; simp only [go_sem, Nat.reduceAdd, Nat.reduceLeDiff, reduceCtorEq, Tr.iv]) | (refine ⟨by first | omega | (intros; simp_all; done) | (intros; simp_all; omega), ?_⟩; try simp only [go_sem, Nat.reduceAdd, Nat.reduceLeDiff, reduceCtorEq, Tr.iv]))
    exact AE.ret rfl ⟨rfl, trivial⟩ ⟨rfl, rfl⟩
theorem height_spec (t : Tr) : PFn Try.prog 67 [Tv t] (Iv t.ht) := by
  refine ACall.walk [0, 2, 4] [] Try.func67 rfl Try.ntmps67 (by kernel_rfl) (by rfl) rfl fun W own I0 φ0 => ?_
  cases t with
  | nil =>
    repeat (first | refine xPP rfl ?_ | refine xPE rfl ?_ | refine xEP rfl ?_ | refine xEE rfl ?_ | refine AQ.done ?_ | refine AQ.skip (by kernel_rfl) rfl ?_ | refine AQ.s2b (by kernel_rfl) rfl rfl rfl rfl ?_ | refine AQ.mark (by kernel_rfl) rfl rfl rfl rfl rfl rfl rfl ?_ | refine AP.cond_true rfl rfl ?_ | refine AP.cond_false rfl rfl ?_ | (refine AP.region rfl (by kernel_rfl) ?_; simp only [go_sem, Nat.reduceAdd, Nat.reduceLeDiff, reduceCtorEq, Tr.iv]) | (refine AP.drawQ rfl rfl (by kernel_rfl) ?_; simp only [go_sem, Nat.reduceAdd, Nat.reduceLeDiff, reduceCtorEq, Tr.iv]) | (refine vq_id ?_; simp only [go_sem, Nat.reduceAdd, Nat.reduceLeDiff, reduceCtorEq, Tr.iv]) | (refine ⟨by first | omega | (intros; simp_all; done) | (intros; simp_all; omega), ?_⟩; try simp only [go_sem, Nat.reduceAdd, Nat.reduceLeDiff, reduceCtorEq, Tr.iv]))
    exact AE.ret rfl ⟨rfl, trivial⟩ ⟨rfl, rfl⟩
  | node k v l r =>
    repeat (first | refine xPP rfl ?_ | refine xPE rfl ?_ | refine xEP rfl ?_ | refine xEE rfl ?_ | refine AQ.done ?_ | refine AQ.skip (by kernel_rfl) rfl ?_ | refine AQ.s2b (by kernel_rfl) rfl rfl rfl rfl ?_ | refine AQ.mark (by kernel_rfl) rfl rfl rfl rfl rfl rfl rfl ?_ | refine AP.cond_true rfl rfl ?_ | refine AP.cond_false rfl rfl ?_ | (refine AP.region rfl (by kernel_rfl) ?_; simp only [go_sem, Nat.reduceAdd, Nat.reduceLeDiff, reduceCtorEq, Tr.iv]) | (refine AP.drawQ rfl rfl (by kernel_rfl) ?_; simp only [go_sem, Nat.reduceAdd, Nat.reduceLeDiff, reduceCtorEq, Tr.iv]) | (refine vq_id ?_; simp only [go_sem, Nat.reduceAdd, Nat.reduceLeDiff, reduceCtorEq, Tr.iv]) | (refine ⟨by first | omega | (intros; simp_all; done) | (intros; simp_all; omega), ?_⟩; try simp only [go_sem, Nat.reduceAdd, Nat.reduceLeDiff, reduceCtorEq, Tr.iv]))
    exact AE.ret rfl ⟨rfl, trivial⟩ ⟨rfl, rfl⟩
theorem with_spec (k : List UInt8) (v : Int) (a b l r : Tr) (hs : l.size + r.size ≤ 1000000000) : PFn Try.prog 90 [Tv (.node k v a b), Tv l, Tv r] (Tv (.node k v l r)) := by
  have h1 := l.ht_le
  have h2 := r.ht_le
  have w1 := wr (x := (l.size : Int) + r.size) (by omega)
  have w2 := wr (x := (l.size : Int) + r.size + 1) (by omega)
  have w3 : (if (l.ht : Int) < (r.ht : Int) then (r.ht : Int) else (l.ht : Int)) = ((max l.ht r.ht : Nat) : Int) := by
    split <;> omega
  have w4 := wr (x := ((max l.ht r.ht : Nat) : Int) + 1) (by omega)
  refine ACall.walk [0, 1, 2, 6] [] Try.func90 rfl Try.ntmps90 (by kernel_rfl) (by rfl) rfl fun W own I0 φ0 => ?_
  repeat (first | refine xPP rfl ?_ | refine xPE rfl ?_ | refine xEP rfl ?_ | refine xEE rfl ?_ | refine AQ.done ?_ | refine AQ.skip (by kernel_rfl) rfl ?_ | refine AQ.s2b (by kernel_rfl) rfl rfl rfl rfl ?_ | refine AQ.mark (by kernel_rfl) rfl rfl rfl rfl rfl rfl rfl ?_ | refine AP.cond_true rfl rfl ?_ | refine AP.cond_false rfl rfl ?_ | (refine AP.region rfl (by kernel_rfl) ?_; simp only [go_sem, Nat.reduceAdd, Nat.reduceLeDiff, reduceCtorEq]) | (refine AP.drawQ rfl rfl (by kernel_rfl) ?_; simp only [go_sem, Nat.reduceAdd, Nat.reduceLeDiff, reduceCtorEq]) | (refine vq_id ?_; simp only [go_sem, Nat.reduceAdd, Nat.reduceLeDiff, reduceCtorEq]) | (refine ⟨by first | omega | (intros; simp_all; done) | (intros; simp_all; omega), ?_⟩; try simp only [go_sem, Nat.reduceAdd, Nat.reduceLeDiff, reduceCtorEq]))
  refine AP.draw 23 [(11, Iv l.size), (13, Iv r.size), (17, Iv l.ht), (19, Iv r.ht)] (by kernel_rfl) rfl (by kernel_rfl) (by kernel_rfl) ?_
  simp only [go_sem, Nat.reduceAdd, Nat.reduceLeDiff, reduceCtorEq, Tv, Tr.iv]
  refine ⟨count_spec l, count_spec r, height_spec l, height_spec r, ?_⟩
  repeat (first | refine xPP rfl ?_ | refine xPE rfl ?_ | refine xEP rfl ?_ | refine xEE rfl ?_ | refine AQ.done ?_ | refine AQ.skip (by kernel_rfl) rfl ?_ | refine AQ.s2b (by kernel_rfl) rfl rfl rfl rfl ?_ | refine AQ.mark (by kernel_rfl) rfl rfl rfl rfl rfl rfl rfl ?_ | refine AP.cond_true rfl rfl ?_ | refine AP.cond_false rfl rfl ?_ | (refine AP.region rfl (by kernel_rfl) ?_; simp only [go_sem, Nat.reduceAdd, Nat.reduceLeDiff, reduceCtorEq, Tv, Tr.iv, w1, w2, w3, w4]) | (refine AP.drawQ rfl rfl (by kernel_rfl) ?_; simp only [go_sem, Nat.reduceAdd, Nat.reduceLeDiff, reduceCtorEq, Tv, Tr.iv, w1, w2, w3, w4]) | (refine vq_id ?_; simp only [go_sem, Nat.reduceAdd, Nat.reduceLeDiff, reduceCtorEq, Tv, Tr.iv, w1, w2, w3, w4]) | (refine ⟨by first | omega | (intros; simp_all; done) | (intros; simp_all; omega), ?_⟩; try simp only [go_sem, Nat.reduceAdd, Nat.reduceLeDiff, reduceCtorEq, Tv, Tr.iv, w1, w2, w3, w4]))
  refine AE.ret rfl ⟨rfl, trivial⟩ ⟨rfl, ?_⟩
  simp only [tupOf, AV.st, Tv, Tr.iv, w1, w2, w3, w4]
  rfl
theorem rotL_spec (k : List UInt8) (v : Int) (l : Tr) (k' : List UInt8) (v' : Int) (l' r' : Tr) (hs : l.size + l'.size + r'.size + 1 ≤ 1000000000) : PFn Try.prog 95 [Tv (.node k v l (.node k' v' l' r'))] (Tv (.node k' v' (.node k v l l') r')) := by
  refine ACall.walk [0, 2, 3] [] Try.func95 rfl Try.ntmps95 (by kernel_rfl) (by rfl) rfl fun W own I0 φ0 => ?_
  repeat (first | refine xPP rfl ?_ | refine xPE rfl ?_ | refine xEP rfl ?_ | refine xEE rfl ?_ | refine AQ.done ?_ | refine AQ.skip (by kernel_rfl) rfl ?_ | refine AQ.s2b (by kernel_rfl) rfl rfl rfl rfl ?_ | refine AQ.mark (by kernel_rfl) rfl rfl rfl rfl rfl rfl rfl ?_ | refine AP.cond_true rfl rfl ?_ | refine AP.cond_false rfl rfl ?_ | (refine AP.region rfl (by kernel_rfl) ?_; simp only [go_sem, Nat.reduceAdd, Nat.reduceLeDiff, reduceCtorEq, Tv, Tr.iv]) | (refine AP.drawQ rfl rfl (by kernel_rfl) ?_; simp only [go_sem, Nat.reduceAdd, Nat.reduceLeDiff, reduceCtorEq, Tv, Tr.iv]) | (refine vq_id ?_; simp only [go_sem, Nat.reduceAdd, Nat.reduceLeDiff, reduceCtorEq, Tv, Tr.iv]) | (refine ⟨by first | omega | (intros; simp_all; done) | (intros; simp_all; omega), ?_⟩; try simp only [go_sem, Nat.reduceAdd, Nat.reduceLeDiff, reduceCtorEq, Tv, Tr.iv]))
  refine AP.draw 16 [(10, Tv (.node k v l l')), (15, Tv (.node k' v' (.node k v l l') r'))] (by kernel_rfl) rfl (by kernel_rfl) (by kernel_rfl) ?_
  simp only [go_sem, Nat.reduceAdd, Nat.reduceLeDiff, reduceCtorEq, Tv, Tr.iv]
  refine ⟨by have := with_spec k v l (.node k' v' l' r') l l' (by omega); simpa only [Tv, Tr.iv] using this, by have := with_spec k' v' l' r' (.node k v l l') r' (by simp only [Tr.size]; omega); simpa only [Tv, Tr.iv] using this, ?_⟩
  repeat (first | refine xPP rfl ?_ | refine xPE rfl ?_ | refine xEP rfl ?_ | refine xEE rfl ?_ | refine AQ.done ?_ | refine AQ.skip (by kernel_rfl) rfl ?_ | refine AQ.s2b (by kernel_rfl) rfl rfl rfl rfl ?_ | refine AQ.mark (by kernel_rfl) rfl rfl rfl rfl rfl rfl rfl ?_ | refine AP.cond_true rfl rfl ?_ | refine AP.cond_false rfl rfl ?_ | (refine AP.region rfl (by kernel_rfl) ?_; simp only [go_sem, Nat.reduceAdd, Nat.reduceLeDiff, reduceCtorEq]) | (refine AP.drawQ rfl rfl (by kernel_rfl) ?_; simp only [go_sem, Nat.reduceAdd, Nat.reduceLeDiff, reduceCtorEq]) | (refine vq_id ?_; simp only [go_sem, Nat.reduceAdd, Nat.reduceLeDiff, reduceCtorEq]) | (refine ⟨by first | omega | (intros; simp_all; done) | (intros; simp_all; omega), ?_⟩; try simp only [go_sem, Nat.reduceAdd, Nat.reduceLeDiff, reduceCtorEq]))
  exact AE.ret rfl ⟨rfl, trivial⟩ ⟨rfl, rfl⟩
theorem rotR_spec (k : List UInt8) (v : Int) (r : Tr) (k' : List UInt8) (v' : Int) (l' r' : Tr) (hs : r.size + l'.size + r'.size + 1 ≤ 1000000000) : PFn Try.prog 96 [Tv (.node k v (.node k' v' l' r') r)] (Tv (.node k' v' l' (.node k v r' r))) := by
  refine ACall.walk [0, 2, 3] [] Try.func96 rfl Try.ntmps96 (by kernel_rfl) (by rfl) rfl fun W own I0 φ0 => ?_
  repeat (first | refine xPP rfl ?_ | refine xPE rfl ?_ | refine xEP rfl ?_ | refine xEE rfl ?_ | refine AQ.done ?_ | refine AQ.skip (by kernel_rfl) rfl ?_ | refine AQ.s2b (by kernel_rfl) rfl rfl rfl rfl ?_ | refine AQ.mark (by kernel_rfl) rfl rfl rfl rfl rfl rfl rfl ?_ | refine AP.cond_true rfl rfl ?_ | refine AP.cond_false rfl rfl ?_ | (refine AP.region rfl (by kernel_rfl) ?_; simp only [go_sem, Nat.reduceAdd, Nat.reduceLeDiff, reduceCtorEq, Tv, Tr.iv]) | (refine AP.drawQ rfl rfl (by kernel_rfl) ?_; simp only [go_sem, Nat.reduceAdd, Nat.reduceLeDiff, reduceCtorEq, Tv, Tr.iv]) | (refine vq_id ?_; simp only [go_sem, Nat.reduceAdd, Nat.reduceLeDiff, reduceCtorEq, Tv, Tr.iv]) | (refine ⟨by first | omega | (intros; simp_all; done) | (intros; simp_all; omega), ?_⟩; try simp only [go_sem, Nat.reduceAdd, Nat.reduceLeDiff, reduceCtorEq, Tv, Tr.iv]))
  refine AP.draw 16 [(14, Tv (.node k v r' r)), (15, Tv (.node k' v' l' (.node k v r' r)))] (by kernel_rfl) rfl (by kernel_rfl) (by kernel_rfl) ?_
  simp only [go_sem, Nat.reduceAdd, Nat.reduceLeDiff, reduceCtorEq, Tv, Tr.iv]
  refine ⟨by have := with_spec k v (.node k' v' l' r') r r' r (by omega); simpa only [Tv, Tr.iv] using this, by have := with_spec k' v' l' r' l' (.node k v r' r) (by simp only [Tr.size]; omega); simpa only [Tv, Tr.iv] using this, ?_⟩
  repeat (first | refine xPP rfl ?_ | refine xPE rfl ?_ | refine xEP rfl ?_ | refine xEE rfl ?_ | refine AQ.done ?_ | refine AQ.skip (by kernel_rfl) rfl ?_ | refine AQ.s2b (by kernel_rfl) rfl rfl rfl rfl ?_ | refine AQ.mark (by kernel_rfl) rfl rfl rfl rfl rfl rfl rfl ?_ | refine AP.cond_true rfl rfl ?_ | refine AP.cond_false rfl rfl ?_ | (refine AP.region rfl (by kernel_rfl) ?_; simp only [go_sem, Nat.reduceAdd, Nat.reduceLeDiff, reduceCtorEq]) | (refine AP.drawQ rfl rfl (by kernel_rfl) ?_; simp only [go_sem, Nat.reduceAdd, Nat.reduceLeDiff, reduceCtorEq]) | (refine vq_id ?_; simp only [go_sem, Nat.reduceAdd, Nat.reduceLeDiff, reduceCtorEq]) | (refine ⟨by first | omega | (intros; simp_all; done) | (intros; simp_all; omega), ?_⟩; try simp only [go_sem, Nat.reduceAdd, Nat.reduceLeDiff, reduceCtorEq]))
  exact AE.ret rfl ⟨rfl, trivial⟩ ⟨rfl, rfl⟩
/-- a child is lifted -/
def Tr.rotL : Tr → Tr
  | .node k v l (.node k' v' l' r') => .node k' v' (.node k v l l') r'
  | t => t
def Tr.rotR : Tr → Tr
  | .node k v (.node k' v' l' r') r => .node k' v' l' (.node k v r' r)
  | t => t
def Tr.bal : Tr → Tr
  | .nil => .nil
  | .node k v l r =>
    if r.ht + 1 < l.ht then (Tr.node k v (if l.left.ht < l.right.ht then l.rotL else l) r).rotR
    else if l.ht + 1 < r.ht then (Tr.node k v l (if r.right.ht < r.left.ht then r.rotR else r)).rotL
    else .node k v l r
end Go.Proofs.Ytfgffpkdjmeaoaa
end

section
namespace Go.Proofs.Ytfgffpkdjmeaoaa
open Go Go.AL Go.RowKit
set_option maxRecDepth 10000
set_option maxHeartbeats 4000000
namespace Tr
def toList : Tr → List (List UInt8 × Int)
  | nil => []
  | node k v l r => toList l ++ (k, v) :: toList r
theorem toList_len : ∀ t : Tr, t.toList.length = t.size
  | nil => rfl
  | node k v l r => by simp only [toList, size, List.length_append, List.length_cons, toList_len l, toList_len r]; omega
end Tr
/-- what yield does: up to the item m it goes on, at m it stops -/
structure Yields (P : Program) (nb l n : Nat) (args : Nat → List AV) (Hs : Nat → Heap) (m : Nat) (Hx : Heap) : Prop where
  go : ∀ k, k < m → k < n → YCallN P nb l (args k) (Hs k) (fun r H' => r = Bv true ∧ H' = Hs (k + 1))
  stop : m < n → YCallN P nb l (args m) (Hs m) (fun r H' => r = Bv false ∧ H' = Hx)
  low : ∀ k k', lowSame nb (Hs k) (Hs k')
  lowx : ∀ k, lowSame nb (Hs k) Hx
/-- what an iterator comes to that has come to the item k -/
def yEnd (Hs : Nat → Heap) (m : Nat) (Hx : Heap) (k : Nat) (r : AV) (H' : Heap) : Prop :=
  (k ≤ m ∧ r = Bv true ∧ H' = Hs k) ∨ (m < k ∧ r = Bv false ∧ H' = Hx)
def itemS (xs : List (List UInt8 × Int)) (k : Nat) : List AV := [Sv (xs.getD k ([], 0)).1, Iv (xs.getD k ([], 0)).2]
theorem yLow {nb l m : Nat} {Hs : Nat → Heap} {Hx : Heap} {args : Nat → List AV} {n : Nat} (hy : Yields Try.prog nb l n args Hs m Hx) (k q : Nat) (r : AV) (H' : Heap) (h : yEnd Hs m Hx q r H') : lowSame nb (Hs k) H' := by
  rcases h with ⟨_, _, rfl⟩ | ⟨_, _, rfl⟩
  · exact hy.low k q
  · exact hy.lowx k
theorem walk_spec {nb l m : Nat} {Hs : Nat → Heap} {Hx : Heap} {xs : List (List UInt8 × Int)} (hy : Yields Try.prog nb l xs.length (itemS xs) Hs m Hx) : ∀ (t : Tr) (k : Nat), k ≤ m → (∀ j, j < t.toList.length → xs[k + j]? = t.toList[j]?) →
    ACallN Try.prog nb 88 [Tv t, Yl l] (Hs k) (yEnd Hs m Hx (k + t.toList.length))
  | .nil, k, hk, _ => by
    refine ACallN.walk [0, 1, 4] [] Try.func88 rfl Try.ntmps88 (by kernel_rfl) (by rfl) fun W own I0 φ0 => ?_
    repeat (first | refine xPP rfl ?_ | refine xPE rfl ?_ | refine xEP rfl ?_ | refine xEE rfl ?_ | refine AQ.done ?_ | refine AQ.skip (by kernel_rfl) rfl ?_ | refine AQ.s2b (by kernel_rfl) rfl rfl rfl rfl ?_ | refine AQ.mark (by kernel_rfl) rfl rfl rfl rfl rfl rfl rfl ?_ | refine AP.cond_true rfl rfl ?_ | refine AP.cond_false rfl rfl ?_ | (refine AP.region rfl (by kernel_rfl) ?_; simp only [go_sem, Nat.reduceAdd, Nat.reduceLeDiff, reduceCtorEq]) | (refine AP.drawQ rfl rfl (by kernel_rfl) ?_; simp only [go_sem, Nat.reduceAdd, Nat.reduceLeDiff, reduceCtorEq]) | (refine vq_id ?_; simp only [go_sem, Nat.reduceAdd, Nat.reduceLeDiff, reduceCtorEq]) | (refine ⟨by first | omega | (intros; simp_all; done) | (intros; simp_all; omega), ?_⟩; try simp only [go_sem, Nat.reduceAdd, Nat.reduceLeDiff, reduceCtorEq]))
    refine AP.drawE 31 (Tree.node [] [0, 1, 2, 3, 4, 5, 6, 7] [8] [Tree.node [] [9, 10, 11, 12, 13, 14, 15, 16, 17, 18] [19] [Tree.node [] [20, 21, 22, 23, 24, 25, 26] [27] [Tree.node [] [28, 29, 30] [] []]]]) (by kernel_rfl) rfl (by kernel_rfl) (by kernel_rfl) ?_
    refine vd_node ?_
    simp only [go_sem, Nat.reduceAdd, Nat.reduceLeDiff, reduceCtorEq, Tv, Tr.iv]
    refine AQ.skip (by kernel_rfl) rfl ?_
    simp only [go_sem, Nat.reduceAdd, Nat.reduceLeDiff, reduceCtorEq]
    refine AQ.nx rfl ?_
    simp only [go_sem, Nat.reduceAdd, Nat.reduceLeDiff, reduceCtorEq]
    refine AQ.skip (by kernel_rfl) rfl ?_
    simp only [go_sem, Nat.reduceAdd, Nat.reduceLeDiff, reduceCtorEq]
    refine AQ.nx rfl ?_
    simp only [go_sem, Nat.reduceAdd, Nat.reduceLeDiff, reduceCtorEq]
    refine AQ.skip (by kernel_rfl) rfl ?_
    simp only [go_sem, Nat.reduceAdd, Nat.reduceLeDiff, reduceCtorEq]
    refine AQ.nx rfl ?_
    simp only [go_sem, Nat.reduceAdd, Nat.reduceLeDiff, reduceCtorEq]
    repeat (first | refine xPP rfl ?_ | refine xPE rfl ?_ | refine xEP rfl ?_ | refine xEE rfl ?_ | refine AQ.done ?_ | refine AQ.skip (by kernel_rfl) rfl ?_ | refine AQ.s2b (by kernel_rfl) rfl rfl rfl rfl ?_ | refine AQ.mark (by kernel_rfl) rfl rfl rfl rfl rfl rfl rfl ?_ | refine AP.cond_true rfl rfl ?_ | refine AP.cond_false rfl rfl ?_ | (refine AP.region rfl (by kernel_rfl) ?_; simp only [go_sem, Nat.reduceAdd, Nat.reduceLeDiff, reduceCtorEq]) | (refine AP.drawQ rfl rfl (by kernel_rfl) ?_; simp only [go_sem, Nat.reduceAdd, Nat.reduceLeDiff, reduceCtorEq]) | (refine vq_id ?_; simp only [go_sem, Nat.reduceAdd, Nat.reduceLeDiff, reduceCtorEq]) | (refine ⟨by first | omega | (intros; simp_all; done) | (intros; simp_all; omega), ?_⟩; try simp only [go_sem, Nat.reduceAdd, Nat.reduceLeDiff, reduceCtorEq]))
    exact AE.ret rfl ⟨rfl, trivial⟩ (.inl ⟨by simpa [Tr.toList] using hk, rfl, rfl⟩)
  | .node key v a b, k, hk, hx => by
    have hla : ∀ j, j < a.toList.length → xs[k + j]? = a.toList[j]? := fun j hj => by
      rw [hx j (by simp [Tr.toList]; omega)]
      simp [Tr.toList, List.getElem?_append_left hj]
    have hit : xs[k + a.toList.length]? = some (key, v) := by
      rw [hx _ (by simp [Tr.toList])]
      simp [Tr.toList]
    have hlb : ∀ j, j < b.toList.length → xs[k + a.toList.length + 1 + j]? = b.toList[j]? := fun j hj => by
      have := hx (a.toList.length + 1 + j) (by simp [Tr.toList]; omega)
      rw [← Nat.add_assoc, ← Nat.add_assoc] at this
      rw [this]
      simp only [Tr.toList]
      rw [List.getElem?_append_right (by omega), show a.toList.length + 1 + j - a.toList.length = j + 1 by omega]
      rfl
    have hlen : k + (Tr.node key v a b).toList.length = k + a.toList.length + 1 + b.toList.length := by simp [Tr.toList]; omega
    have ih1 := walk_spec hy a k hk hla
    rw [hlen]
    refine ACallN.walk [0, 1, 4] [] Try.func88 rfl Try.ntmps88 (by kernel_rfl) (by rfl) fun W own I0 φ0 => ?_
    repeat (first | refine xPP rfl ?_ | refine xPE rfl ?_ | refine xEP rfl ?_ | refine xEE rfl ?_ | refine AQ.done ?_ | refine AQ.skip (by kernel_rfl) rfl ?_ | refine AQ.s2b (by kernel_rfl) rfl rfl rfl rfl ?_ | refine AQ.mark (by kernel_rfl) rfl rfl rfl rfl rfl rfl rfl ?_ | refine AP.cond_true rfl rfl ?_ | refine AP.cond_false rfl rfl ?_ | (refine AP.region rfl (by kernel_rfl) ?_; simp only [go_sem, Nat.reduceAdd, Nat.reduceLeDiff, reduceCtorEq]) | (refine AP.drawQ rfl rfl (by kernel_rfl) ?_; simp only [go_sem, Nat.reduceAdd, Nat.reduceLeDiff, reduceCtorEq]) | (refine vq_id ?_; simp only [go_sem, Nat.reduceAdd, Nat.reduceLeDiff, reduceCtorEq]) | (refine ⟨by first | omega | (intros; simp_all; done) | (intros; simp_all; omega), ?_⟩; try simp only [go_sem, Nat.reduceAdd, Nat.reduceLeDiff, reduceCtorEq]))
    refine AP.drawE 31 (Tree.node [] [0, 1, 2, 3, 4, 5, 6, 7] [8] [Tree.node [] [9, 10, 11, 12, 13, 14, 15, 16, 17, 18] [19] [Tree.node [] [20, 21, 22, 23, 24, 25, 26] [27] [Tree.node [] [28, 29, 30] [] []]]]) (by kernel_rfl) rfl (by kernel_rfl) (by kernel_rfl) ?_
    refine vd_node ?_
    simp only [go_sem, Nat.reduceAdd, Nat.reduceLeDiff, reduceCtorEq, Tv, Tr.iv]
    refine AQ.guard_yes rfl ?_
    refine AQ.callN nb (Nat.ble_eq_true_of_le (Nat.le_refl _)) (by kernel_rfl) rfl rfl rfl ih1 (fun r H' h => yLow hy k _ r H' h) fun r H' h => ?_
    rcases h with ⟨h1, rfl, rfl⟩ | ⟨h1, rfl, rfl⟩
    · have hk2 : k + a.toList.length ≤ m := h1
      have hkn : k + a.toList.length < xs.length := (List.getElem?_eq_some_iff.1 hit).1
      have hia : itemS xs (k + a.toList.length) = [Sv key, Iv v] := by simp [itemS, List.getD_eq_getElem?_getD, hit]
      simp only [go_sem, Nat.reduceAdd, Nat.reduceLeDiff, reduceCtorEq]
      refine AQ.nx rfl ?_
      simp only [go_sem, Nat.reduceAdd, Nat.reduceLeDiff, reduceCtorEq]
      refine AQ.guard_yes rfl ?_
      by_cases hm : k + a.toList.length < m
      · have hyk := hy.go _ hm hkn
        rw [hia] at hyk
        have ih2 := walk_spec hy b (k + a.toList.length + 1) hm hlb
        refine AQ.yieldN nb (Nat.ble_eq_true_of_le (Nat.le_refl _)) (by kernel_rfl) rfl ⟨rfl, rfl⟩ rfl rfl hyk (fun r H' h => by rw [h.2]; exact hy.low _ _) fun r H' h => ?_
        obtain ⟨rfl, rfl⟩ := h
        simp only [go_sem, Nat.reduceAdd, Nat.reduceLeDiff, reduceCtorEq]
        refine AQ.nx rfl ?_
        simp only [go_sem, Nat.reduceAdd, Nat.reduceLeDiff, reduceCtorEq]
        refine AQ.guard_yes rfl ?_
        refine AQ.callN nb (Nat.ble_eq_true_of_le (Nat.le_refl _)) (by kernel_rfl) rfl rfl rfl ih2 (fun r H' h => yLow hy _ _ r H' h) fun r H' h => ?_
        rcases h with ⟨h2, rfl, rfl⟩ | ⟨h2, rfl, rfl⟩
        · simp only [go_sem, Nat.reduceAdd, Nat.reduceLeDiff, reduceCtorEq]
          refine AQ.nx rfl ?_
          simp only [go_sem, Nat.reduceAdd, Nat.reduceLeDiff, reduceCtorEq]
          repeat (first | refine xPP rfl ?_ | refine xPE rfl ?_ | refine xEP rfl ?_ | refine xEE rfl ?_ | refine AQ.done ?_ | refine AQ.skip (by kernel_rfl) rfl ?_ | refine AQ.s2b (by kernel_rfl) rfl rfl rfl rfl ?_ | refine AQ.mark (by kernel_rfl) rfl rfl rfl rfl rfl rfl rfl ?_ | refine AP.cond_true rfl rfl ?_ | refine AP.cond_false rfl rfl ?_ | (refine AP.region rfl (by kernel_rfl) ?_; simp only [go_sem, Nat.reduceAdd, Nat.reduceLeDiff, reduceCtorEq]) | (refine AP.drawQ rfl rfl (by kernel_rfl) ?_; simp only [go_sem, Nat.reduceAdd, Nat.reduceLeDiff, reduceCtorEq]) | (refine vq_id ?_; simp only [go_sem, Nat.reduceAdd, Nat.reduceLeDiff, reduceCtorEq]) | (refine ⟨by first | omega | (intros; simp_all; done) | (intros; simp_all; omega), ?_⟩; try simp only [go_sem, Nat.reduceAdd, Nat.reduceLeDiff, reduceCtorEq]))
          exact AE.ret rfl ⟨rfl, trivial⟩ (.inl ⟨h2, rfl, rfl⟩)
        · simp only [go_sem, Nat.reduceAdd, Nat.reduceLeDiff, reduceCtorEq]
          refine AQ.nx rfl ?_
          simp only [go_sem, Nat.reduceAdd, Nat.reduceLeDiff, reduceCtorEq]
          repeat (first | refine xPP rfl ?_ | refine xPE rfl ?_ | refine xEP rfl ?_ | refine xEE rfl ?_ | refine AQ.done ?_ | refine AQ.skip (by kernel_rfl) rfl ?_ | refine AQ.s2b (by kernel_rfl) rfl rfl rfl rfl ?_ | refine AQ.mark (by kernel_rfl) rfl rfl rfl rfl rfl rfl rfl ?_ | refine AP.cond_true rfl rfl ?_ | refine AP.cond_false rfl rfl ?_ | (refine AP.region rfl (by kernel_rfl) ?_; simp only [go_sem, Nat.reduceAdd, Nat.reduceLeDiff, reduceCtorEq]) | (refine AP.drawQ rfl rfl (by kernel_rfl) ?_; simp only [go_sem, Nat.reduceAdd, Nat.reduceLeDiff, reduceCtorEq]) | (refine vq_id ?_; simp only [go_sem, Nat.reduceAdd, Nat.reduceLeDiff, reduceCtorEq]) | (refine ⟨by first | omega | (intros; simp_all; done) | (intros; simp_all; omega), ?_⟩; try simp only [go_sem, Nat.reduceAdd, Nat.reduceLeDiff, reduceCtorEq]))
          exact AE.ret rfl ⟨rfl, trivial⟩ (.inr ⟨h2, rfl, rfl⟩)
      · have hme : k + a.toList.length = m := by omega
        have hyk := hy.stop (by omega)
        rw [← hme, hia] at hyk
        refine AQ.yieldN nb (Nat.ble_eq_true_of_le (Nat.le_refl _)) (by kernel_rfl) rfl ⟨rfl, rfl⟩ rfl rfl hyk (fun r H' h => by rw [h.2]; exact hy.lowx _) fun r H' h => ?_
        obtain ⟨rfl, rfl⟩ := h
        simp only [go_sem, Nat.reduceAdd, Nat.reduceLeDiff, reduceCtorEq]
        refine AQ.nx rfl ?_
        simp only [go_sem, Nat.reduceAdd, Nat.reduceLeDiff, reduceCtorEq]
        refine AQ.skip (by kernel_rfl) rfl ?_
        simp only [go_sem, Nat.reduceAdd, Nat.reduceLeDiff, reduceCtorEq]
        refine AQ.nx rfl ?_
        simp only [go_sem, Nat.reduceAdd, Nat.reduceLeDiff, reduceCtorEq]
        repeat (first | refine xPP rfl ?_ | refine xPE rfl ?_ | refine xEP rfl ?_ | refine xEE rfl ?_ | refine AQ.done ?_ | refine AQ.skip (by kernel_rfl) rfl ?_ | refine AQ.s2b (by kernel_rfl) rfl rfl rfl rfl ?_ | refine AQ.mark (by kernel_rfl) rfl rfl rfl rfl rfl rfl rfl ?_ | refine AP.cond_true rfl rfl ?_ | refine AP.cond_false rfl rfl ?_ | (refine AP.region rfl (by kernel_rfl) ?_; simp only [go_sem, Nat.reduceAdd, Nat.reduceLeDiff, reduceCtorEq]) | (refine AP.drawQ rfl rfl (by kernel_rfl) ?_; simp only [go_sem, Nat.reduceAdd, Nat.reduceLeDiff, reduceCtorEq]) | (refine vq_id ?_; simp only [go_sem, Nat.reduceAdd, Nat.reduceLeDiff, reduceCtorEq]) | (refine ⟨by first | omega | (intros; simp_all; done) | (intros; simp_all; omega), ?_⟩; try simp only [go_sem, Nat.reduceAdd, Nat.reduceLeDiff, reduceCtorEq]))
        exact AE.ret rfl ⟨rfl, trivial⟩ (.inr ⟨by omega, rfl, rfl⟩)
    · simp only [go_sem, Nat.reduceAdd, Nat.reduceLeDiff, reduceCtorEq]
      refine AQ.nx rfl ?_
      simp only [go_sem, Nat.reduceAdd, Nat.reduceLeDiff, reduceCtorEq]
      refine AQ.skip (by kernel_rfl) rfl ?_
      simp only [go_sem, Nat.reduceAdd, Nat.reduceLeDiff, reduceCtorEq]
      refine AQ.nx rfl ?_
      simp only [go_sem, Nat.reduceAdd, Nat.reduceLeDiff, reduceCtorEq]
      refine AQ.skip (by kernel_rfl) rfl ?_
      simp only [go_sem, Nat.reduceAdd, Nat.reduceLeDiff, reduceCtorEq]
      refine AQ.nx rfl ?_
      simp only [go_sem, Nat.reduceAdd, Nat.reduceLeDiff, reduceCtorEq]
      repeat (first | refine xPP rfl ?_ | refine xPE rfl ?_ | refine xEP rfl ?_ | refine xEE rfl ?_ | refine AQ.done ?_ | refine AQ.skip (by kernel_rfl) rfl ?_ | refine AQ.s2b (by kernel_rfl) rfl rfl rfl rfl ?_ | refine AQ.mark (by kernel_rfl) rfl rfl rfl rfl rfl rfl rfl ?_ | refine AP.cond_true rfl rfl ?_ | refine AP.cond_false rfl rfl ?_ | (refine AP.region rfl (by kernel_rfl) ?_; simp only [go_sem, Nat.reduceAdd, Nat.reduceLeDiff, reduceCtorEq]) | (refine AP.drawQ rfl rfl (by kernel_rfl) ?_; simp only [go_sem, Nat.reduceAdd, Nat.reduceLeDiff, reduceCtorEq]) | (refine vq_id ?_; simp only [go_sem, Nat.reduceAdd, Nat.reduceLeDiff, reduceCtorEq]) | (refine ⟨by first | omega | (intros; simp_all; done) | (intros; simp_all; omega), ?_⟩; try simp only [go_sem, Nat.reduceAdd, Nat.reduceLeDiff, reduceCtorEq]))
      exact AE.ret rfl ⟨rfl, trivial⟩ (.inr ⟨by omega, rfl, rfl⟩)
end Go.Proofs.Ytfgffpkdjmeaoaa
end

section
namespace Go.Proofs.Ytfgffpkdjmeaoaa
open Go Go.AL Go.RowKit
set_option maxRecDepth 10000
set_option maxHeartbeats 4000000
/-- what a range over an iterator comes to -/
def rEnd (Hs : Nat → Heap) (m : Nat) (Hx : Heap) (n : Nat) (_ : AV) (H' : Heap) : Prop := (n ≤ m ∧ H' = Hs n) ∨ (m < n ∧ H' = Hx)
theorem allF_spec {nb l m b : Nat} {Hs : Nat → Heap} {Hx : Heap} (t : Tr) (hy : Yields Try.prog nb l t.toList.length (itemS t.toList) Hs m Hx) (hb : lk (Hs 0) b = some (.var 155 [.fn 88 [Tv t] []])) :
    ACallN Try.prog nb 89 [Yl l, .ob b 0] (Hs 0) (rEnd Hs m Hx t.toList.length) := by
  have hw := walk_spec hy t 0 (Nat.zero_le _) (fun j _ => by rw [Nat.zero_add])
  rw [Nat.zero_add] at hw
  refine ACallN.walk [0, 1] [] Try.func89 rfl Try.ntmps89 (by kernel_rfl) (by rfl) fun W own I0 φ0 => ?_
  repeat (first | refine xPP rfl ?_ | refine xPE rfl ?_ | refine xEP rfl ?_ | refine xEE rfl ?_ | refine AQ.done ?_ | refine AQ.skip (by kernel_rfl) rfl ?_ | refine AQ.s2b (by kernel_rfl) rfl rfl rfl rfl ?_ | refine AQ.mark (by kernel_rfl) rfl rfl rfl rfl rfl rfl rfl ?_ | refine AP.cond_true rfl rfl ?_ | refine AP.cond_false rfl rfl ?_ | (refine AP.region rfl (by kernel_rfl) ?_; simp only [go_sem, Nat.reduceAdd, Nat.reduceLeDiff, reduceCtorEq, hb]) | (refine AP.drawQ rfl rfl (by kernel_rfl) ?_; simp only [go_sem, Nat.reduceAdd, Nat.reduceLeDiff, reduceCtorEq, hb]) | (refine vq_id ?_; simp only [go_sem, Nat.reduceAdd, Nat.reduceLeDiff, reduceCtorEq, hb]) | (refine ⟨by first | omega | (intros; simp_all; done) | (intros; simp_all; omega), ?_⟩; try simp only [go_sem, Nat.reduceAdd, Nat.reduceLeDiff, reduceCtorEq, hb]))
  refine AQ.callN nb (Nat.ble_eq_true_of_le (Nat.le_refl _)) (by kernel_rfl) rfl rfl rfl hw (fun r H' h => yLow hy _ _ r H' h) fun r H' h => ?_
  simp only [go_sem, Nat.reduceAdd, Nat.reduceLeDiff, reduceCtorEq]
  repeat (first | refine xPP rfl ?_ | refine xPE rfl ?_ | refine xEP rfl ?_ | refine xEE rfl ?_ | refine AQ.done ?_ | refine AQ.skip (by kernel_rfl) rfl ?_ | refine AQ.s2b (by kernel_rfl) rfl rfl rfl rfl ?_ | refine AQ.mark (by kernel_rfl) rfl rfl rfl rfl rfl rfl rfl ?_ | refine AP.cond_true rfl rfl ?_ | refine AP.cond_false rfl rfl ?_ | (refine AP.region rfl (by kernel_rfl) ?_; simp only [go_sem, Nat.reduceAdd, Nat.reduceLeDiff, reduceCtorEq]) | (refine AP.drawQ rfl rfl (by kernel_rfl) ?_; simp only [go_sem, Nat.reduceAdd, Nat.reduceLeDiff, reduceCtorEq]) | (refine vq_id ?_; simp only [go_sem, Nat.reduceAdd, Nat.reduceLeDiff, reduceCtorEq]) | (refine ⟨by first | omega | (intros; simp_all; done) | (intros; simp_all; omega), ?_⟩; try simp only [go_sem, Nat.reduceAdd, Nat.reduceLeDiff, reduceCtorEq]))
  rcases h with ⟨h1, rfl, rfl⟩ | ⟨h1, rfl, rfl⟩
  · exact AE.fall rfl trivial (.inl ⟨h1, rfl⟩)
  · exact AE.fall rfl trivial (.inr ⟨h1, rfl⟩)
theorem all_spec (t : Tr) : ACall Try.prog 78 [.agg [Tv t]] [] (fun r H' => H' = [(0, .var 155 [.fn 88 [Tv t] []])] ∧ r = .fn 89 [] [.ob 0 0]) := by
  refine ACall.walk [0, 1, 2, 3] [3] Try.func78 rfl Try.ntmps78 (by kernel_rfl) (by rfl) rfl fun W own I0 φ0 => ?_
  repeat (first | refine xPP rfl ?_ | refine xPE rfl ?_ | refine xEP rfl ?_ | refine xEE rfl ?_ | refine AQ.done ?_ | refine AQ.skip (by kernel_rfl) rfl ?_ | refine AQ.s2b (by kernel_rfl) rfl rfl rfl rfl ?_ | refine AQ.mark (by kernel_rfl) rfl rfl rfl rfl rfl rfl rfl ?_ | refine AP.cond_true rfl rfl ?_ | refine AP.cond_false rfl rfl ?_ | (refine AP.region rfl (by kernel_rfl) ?_; simp only [go_sem, Nat.reduceAdd, Nat.reduceLeDiff, reduceCtorEq]) | (refine AP.drawQ rfl rfl (by kernel_rfl) ?_; simp only [go_sem, Nat.reduceAdd, Nat.reduceLeDiff, reduceCtorEq]) | (refine vq_id ?_; simp only [go_sem, Nat.reduceAdd, Nat.reduceLeDiff, reduceCtorEq]) | (refine ⟨by first | omega | (intros; simp_all; done) | (intros; simp_all; omega), ?_⟩; try simp only [go_sem, Nat.reduceAdd, Nat.reduceLeDiff, reduceCtorEq]))
  exact AE.ret rfl ⟨rfl, trivial⟩ ⟨rfl, rfl⟩
def entR (xs : List (List UInt8 × Int)) : List (List IV) := xs.map fun x => [Si x.1, Ii x.2]
theorem entR_len (xs : List (List UInt8 × Int)) : (entR xs).length = xs.length := by simp [entR]
theorem entR_snoc (xs : List (List UInt8 × Int)) (k : Nat) (h : k < xs.length) : entR (xs.take (k + 1)) = entR (xs.take k) ++ [[Si (xs.getD k ([], 0)).1, Ii (xs.getD k ([], 0)).2]] := by
  rw [List.take_add_one, List.getElem?_eq_getElem h]
  simp only [entR, List.map_append, Option.toList_some, List.map_cons, List.map_nil, List.getD_eq_getElem?_getD, List.getElem?_eq_getElem h, Option.getD_some]
noncomputable def entH (t : Tr) (l k : Nat) : Heap := [(3, .lp l 17 .ready Try.f47 [0, 1, 0, 1, 1] [8, 9] [(3, .ob 0 0)]), (2, .vec 97 2 (entR (t.toList.take k))), (1, .var 155 [.fn 88 [Tv t] []]), (0, .var 88 [.os 2 2 0 k])]
theorem ent_round (t : Tr) (l k : Nat) (hk : k < t.toList.length) (hl : t.toList.length ≤ 1000000) : YCallN Try.prog 2 l (itemS t.toList k) (entH t l k) (fun r H' => r = Bv true ∧ H' = entH t l (k + 1)) := by
  refine YCallN.walk (b := 3) [3, 4, 5, 8, 9] [] rfl rfl rfl fun w own I0 φ0 => ?_
  simp only [go_sem, Nat.reduceAdd, Nat.reduceLeDiff, reduceCtorEq, itemS, zipP, entH]
  repeat (first | refine xPP rfl ?_ | refine xPE rfl ?_ | refine xEP rfl ?_ | refine xEE rfl ?_ | refine AQ.done ?_ | refine AQ.skip (by kernel_rfl) rfl ?_ | refine AQ.s2b (by kernel_rfl) rfl rfl rfl rfl ?_ | refine AQ.mark (by kernel_rfl) rfl rfl rfl rfl rfl rfl rfl ?_ | refine AP.cond_true rfl rfl ?_ | refine AP.cond_false rfl rfl ?_ | (refine AP.region rfl (by kernel_rfl) ?_; simp only [go_sem, Nat.reduceAdd, Nat.reduceLeDiff, reduceCtorEq]) | (refine AP.drawQ rfl rfl (by kernel_rfl) ?_; simp only [go_sem, Nat.reduceAdd, Nat.reduceLeDiff, reduceCtorEq]) | (refine vq_id ?_; simp only [go_sem, Nat.reduceAdd, Nat.reduceLeDiff, reduceCtorEq]) | (refine ⟨by first | omega | (intros; simp_all; done) | (intros; simp_all; omega), ?_⟩; try simp only [go_sem, Nat.reduceAdd, Nat.reduceLeDiff, reduceCtorEq]))
  refine AE.begin (b := 3) rfl rfl _ ?_
  simp only [go_sem, Nat.reduceAdd, Nat.reduceLeDiff, reduceCtorEq]
  repeat (first | refine xPP rfl ?_ | refine xPE rfl ?_ | refine xEP rfl ?_ | refine xEE rfl ?_ | refine AQ.done ?_ | refine AQ.skip (by kernel_rfl) rfl ?_ | refine AQ.s2b (by kernel_rfl) rfl rfl rfl rfl ?_ | refine AQ.mark (by kernel_rfl) rfl rfl rfl rfl rfl rfl rfl ?_ | refine AP.cond_true rfl rfl ?_ | refine AP.cond_false rfl rfl ?_ | (refine AP.region rfl (by kernel_rfl) ?_; simp only [go_sem, Nat.reduceAdd, Nat.reduceLeDiff, reduceCtorEq]) | (refine AP.drawQ rfl rfl (by kernel_rfl) ?_; simp only [go_sem, Nat.reduceAdd, Nat.reduceLeDiff, reduceCtorEq]) | (refine vq_id ?_; simp only [go_sem, Nat.reduceAdd, Nat.reduceLeDiff, reduceCtorEq]) | (refine ⟨by first | omega | (intros; simp_all; done) | (intros; simp_all; omega), ?_⟩; try simp only [go_sem, Nat.reduceAdd, Nat.reduceLeDiff, reduceCtorEq]))
  refine AQ.kill 2 ?_
  simp only [go_sem, Nat.reduceAdd, Nat.reduceLeDiff, reduceCtorEq]
  refine AQ.append (hnb := rfl) (rows := entR (t.toList.take k)) (es := 1) (by kernel_rfl) rfl rfl rfl (by rfl) Try.tk88 Try.sz97 (by show Option.map _ (zro Try.prog 97) = _; rw [Try.zr97]; rfl) Try.by97 (by rw [entR_len, List.length_take, Nat.min_eq_left (by omega)]) (by rw [entR_len, List.length_take]; simp only [List.length_cons, List.length_nil]; omega) (by rw [entR_len, List.length_take]; simp only [List.length_cons, List.length_nil]; omega) ?_
  simp only [go_sem, Nat.reduceAdd, Nat.reduceLeDiff, reduceCtorEq]
  repeat (first | refine xPP rfl ?_ | refine xPE rfl ?_ | refine xEP rfl ?_ | refine xEE rfl ?_ | refine AQ.done ?_ | refine AQ.skip (by kernel_rfl) rfl ?_ | refine AQ.s2b (by kernel_rfl) rfl rfl rfl rfl ?_ | refine AQ.mark (by kernel_rfl) rfl rfl rfl rfl rfl rfl rfl ?_ | refine AP.cond_true rfl rfl ?_ | refine AP.cond_false rfl rfl ?_ | (refine AP.region rfl (by kernel_rfl) ?_; simp only [go_sem, Nat.reduceAdd, Nat.reduceLeDiff, reduceCtorEq]) | (refine AP.drawQ rfl rfl (by kernel_rfl) ?_; simp only [go_sem, Nat.reduceAdd, Nat.reduceLeDiff, reduceCtorEq]) | (refine vq_id ?_; simp only [go_sem, Nat.reduceAdd, Nat.reduceLeDiff, reduceCtorEq]) | (refine ⟨by first | omega | (intros; simp_all; done) | (intros; simp_all; omega), ?_⟩; try simp only [go_sem, Nat.reduceAdd, Nat.reduceLeDiff, reduceCtorEq]))
  refine AE.roundEnd (b := 3) rfl ⟨rfl, ?_⟩
  simp only [hset, entH, entR_snoc _ k hk, entR_len, List.length_take, Nat.min_eq_left (Nat.le_of_lt hk)]
  rfl
theorem entries_spec (t : Tr) (hl : t.toList.length ≤ 1000000) : PFn Try.prog 47 [.agg [Tv t]] (.im (.sl 2 (entR t.toList))) := by
  refine ACall.walk [0, 1, 2, 3, 4, 5, 7, 8, 9] [3] Try.func47 rfl Try.ntmps47 (by kernel_rfl) (by rfl) rfl fun W own I0 φ0 => ?_
  repeat (first | refine xPP rfl ?_ | refine xPE rfl ?_ | refine xEP rfl ?_ | refine xEE rfl ?_ | refine AQ.done ?_ | refine AQ.skip (by kernel_rfl) rfl ?_ | refine AQ.s2b (by kernel_rfl) rfl rfl rfl rfl ?_ | refine AQ.mark (by kernel_rfl) rfl rfl rfl rfl rfl rfl rfl ?_ | refine AP.cond_true rfl rfl ?_ | refine AP.cond_false rfl rfl ?_ | (refine AP.region rfl (by kernel_rfl) ?_; simp only [go_sem, Nat.reduceAdd, Nat.reduceLeDiff, reduceCtorEq]) | (refine AP.drawQ rfl rfl (by kernel_rfl) ?_; simp only [go_sem, Nat.reduceAdd, Nat.reduceLeDiff, reduceCtorEq]) | (refine vq_id ?_; simp only [go_sem, Nat.reduceAdd, Nat.reduceLeDiff, reduceCtorEq]) | (refine ⟨by first | omega | (intros; simp_all; done) | (intros; simp_all; omega), ?_⟩; try simp only [go_sem, Nat.reduceAdd, Nat.reduceLeDiff, reduceCtorEq]))
  refine AQ.callv (by kernel_rfl) rfl rfl rfl (all_spec t) fun r' H' ⟨e1, e2⟩ => ?_
  subst e1; subst e2
  simp only [go_sem, Nat.reduceAdd, Nat.reduceLeDiff, reduceCtorEq]
  repeat (first | refine xPP rfl ?_ | refine xPE rfl ?_ | refine xEP rfl ?_ | refine xEE rfl ?_ | refine AQ.done ?_ | refine AQ.skip (by kernel_rfl) rfl ?_ | refine AQ.s2b (by kernel_rfl) rfl rfl rfl rfl ?_ | refine AQ.mark (by kernel_rfl) rfl rfl rfl rfl rfl rfl rfl ?_ | refine AP.cond_true rfl rfl ?_ | refine AP.cond_false rfl rfl ?_ | (refine AP.region rfl (by kernel_rfl) ?_; simp only [go_sem, Nat.reduceAdd, Nat.reduceLeDiff, reduceCtorEq]) | (refine AP.drawQ rfl rfl (by kernel_rfl) ?_; simp only [go_sem, Nat.reduceAdd, Nat.reduceLeDiff, reduceCtorEq]) | (refine vq_id ?_; simp only [go_sem, Nat.reduceAdd, Nat.reduceLeDiff, reduceCtorEq]) | (refine ⟨by first | omega | (intros; simp_all; done) | (intros; simp_all; omega), ?_⟩; try simp only [go_sem, Nat.reduceAdd, Nat.reduceLeDiff, reduceCtorEq]))
  refine AP.ownCell 0 0 97 2 rfl rfl ?_
  simp only [go_sem, Nat.reduceAdd, Nat.reduceLeDiff, reduceCtorEq]
  refine AP.rangeB 2 0 3 [(3, .ob 0 0)] (R := fun l => rEnd (entH t l) t.toList.length (entH t l 0) t.toList.length) rfl rfl (by kernel_rfl) (by repeat (first | exact Sub.nil _ | refine Sub.cons rfl ?_)) trivial rfl (fun l => ?_) (fun l r H' hR => ?_)
  · refine allF_spec t (Hs := entH t l) ⟨fun k hk _ => ent_round t l k hk hl, fun h => absurd h (Nat.lt_irrefl _), fun _ _ => lowSame.of _ _ _ rfl, fun k => lowSame.of _ _ _ rfl⟩ rfl
  · rcases hR with ⟨_, rfl⟩ | ⟨h, _⟩
    · refine ⟨lowSame.of _ _ _ rfl, .ready, _, rfl, rfl, ?_⟩
      simp only [go_sem, Nat.reduceAdd, Nat.reduceLeDiff, reduceCtorEq, entH]
      repeat (first | refine xPP rfl ?_ | refine xPE rfl ?_ | refine xEP rfl ?_ | refine xEE rfl ?_ | refine AQ.done ?_ | refine AQ.skip (by kernel_rfl) rfl ?_ | refine AQ.s2b (by kernel_rfl) rfl rfl rfl rfl ?_ | refine AQ.mark (by kernel_rfl) rfl rfl rfl rfl rfl rfl rfl ?_ | refine AP.cond_true rfl rfl ?_ | refine AP.cond_false rfl rfl ?_ | (refine AP.region rfl (by kernel_rfl) ?_; simp only [go_sem, Nat.reduceAdd, Nat.reduceLeDiff, reduceCtorEq]) | (refine AP.drawQ rfl rfl (by kernel_rfl) ?_; simp only [go_sem, Nat.reduceAdd, Nat.reduceLeDiff, reduceCtorEq]) | (refine vq_id ?_; simp only [go_sem, Nat.reduceAdd, Nat.reduceLeDiff, reduceCtorEq]) | (refine ⟨by first | omega | (intros; simp_all; done) | (intros; simp_all; omega), ?_⟩; try simp only [go_sem, Nat.reduceAdd, Nat.reduceLeDiff, reduceCtorEq]))
      refine AE.freeze 2 (el := 97) (es := 2) (rows := entR (t.toList.take t.toList.length)) rfl (by simp only [go_sem, Nat.reduceAdd, Nat.reduceLeDiff, reduceCtorEq]; simp [entR_len]) (by simp only [go_sem, Nat.reduceAdd, Nat.reduceLeDiff, reduceCtorEq]; simp [entR_len]) ?_
      simp only [go_sem, Nat.reduceAdd, Nat.reduceLeDiff, reduceCtorEq]
      refine AE.ret0 rfl ⟨rfl, trivial⟩ rfl ⟨rfl, ?_⟩
      simp only [tupOf, AV.st, List.take_length]
      rw [← entR_len, List.take_length]
    · exact absurd h (Nat.lt_irrefl _)
end Go.Proofs.Ytfgffpkdjmeaoaa
end

section
namespace Go.Proofs.Ytfgffpkdjmeaoaa.IntT
open Go Go.AL Go.RowKit
set_option maxRecDepth 10000
set_option maxHeartbeats 4000000
namespace Tr
def toList : Tr → List (Int × Int)
  | nil => []
  | node k v l r => toList l ++ (k, v) :: toList r
theorem toList_len : ∀ t : Tr, t.toList.length = t.size
  | nil => rfl
  | node k v l r => by simp only [toList, size, List.length_append, List.length_cons, toList_len l, toList_len r]; omega
end Tr
def itemS (xs : List (Int × Int)) (k : Nat) : List AV := [Iv (xs.getD k (0, 0)).1, Iv (xs.getD k (0, 0)).2]
theorem walk_spec {nb l m : Nat} {Hs : Nat → Heap} {Hx : Heap} {xs : List (Int × Int)} (hy : Yields Try.prog nb l xs.length (itemS xs) Hs m Hx) : ∀ (t : Tr) (k : Nat), k ≤ m → (∀ j, j < t.toList.length → xs[k + j]? = t.toList[j]?) →
    ACallN Try.prog nb 54 [Tv t, Yl l] (Hs k) (yEnd Hs m Hx (k + t.toList.length))
  | .nil, k, hk, _ => by
    refine ACallN.walk [0, 1, 4] [] Try.func54 rfl Try.ntmps54 (by kernel_rfl) (by rfl) fun W own I0 φ0 => ?_
    repeat (first | refine xPP rfl ?_ | refine xPE rfl ?_ | refine xEP rfl ?_ | refine xEE rfl ?_ | refine AQ.done ?_ | refine AQ.skip (by kernel_rfl) rfl ?_ | refine AQ.s2b (by kernel_rfl) rfl rfl rfl rfl ?_ | refine AQ.mark (by kernel_rfl) rfl rfl rfl rfl rfl rfl rfl ?_ | refine AP.cond_true rfl rfl ?_ | refine AP.cond_false rfl rfl ?_ | (refine AP.region rfl (by kernel_rfl) ?_; simp only [go_sem, Nat.reduceAdd, Nat.reduceLeDiff, reduceCtorEq]) | (refine AP.drawQ rfl rfl (by kernel_rfl) ?_; simp only [go_sem, Nat.reduceAdd, Nat.reduceLeDiff, reduceCtorEq]) | (refine vq_id ?_; simp only [go_sem, Nat.reduceAdd, Nat.reduceLeDiff, reduceCtorEq]) | (refine ⟨by first | omega | (intros; simp_all; done) | (intros; simp_all; omega), ?_⟩; try simp only [go_sem, Nat.reduceAdd, Nat.reduceLeDiff, reduceCtorEq]))
    refine AP.drawE 31 (Tree.node [] [0, 1, 2, 3, 4, 5, 6, 7] [8] [Tree.node [] [9, 10, 11, 12, 13, 14, 15, 16, 17, 18] [19] [Tree.node [] [20, 21, 22, 23, 24, 25, 26] [27] [Tree.node [] [28, 29, 30] [] []]]]) (by kernel_rfl) rfl (by kernel_rfl) (by kernel_rfl) ?_
    refine vd_node ?_
    simp only [go_sem, Nat.reduceAdd, Nat.reduceLeDiff, reduceCtorEq, Tv, Tr.iv]
    refine AQ.skip (by kernel_rfl) rfl ?_
    simp only [go_sem, Nat.reduceAdd, Nat.reduceLeDiff, reduceCtorEq]
    refine AQ.nx rfl ?_
    simp only [go_sem, Nat.reduceAdd, Nat.reduceLeDiff, reduceCtorEq]
    refine AQ.skip (by kernel_rfl) rfl ?_
    simp only [go_sem, Nat.reduceAdd, Nat.reduceLeDiff, reduceCtorEq]
    refine AQ.nx rfl ?_
    simp only [go_sem, Nat.reduceAdd, Nat.reduceLeDiff, reduceCtorEq]
    refine AQ.skip (by kernel_rfl) rfl ?_
    simp only [go_sem, Nat.reduceAdd, Nat.reduceLeDiff, reduceCtorEq]
    refine AQ.nx rfl ?_
    simp only [go_sem, Nat.reduceAdd, Nat.reduceLeDiff, reduceCtorEq]
    repeat (first | refine xPP rfl ?_ | refine xPE rfl ?_ | refine xEP rfl ?_ | refine xEE rfl ?_ | refine AQ.done ?_ | refine AQ.skip (by kernel_rfl) rfl ?_ | refine AQ.s2b (by kernel_rfl) rfl rfl rfl rfl ?_ | refine AQ.mark (by kernel_rfl) rfl rfl rfl rfl rfl rfl rfl ?_ | refine AP.cond_true rfl rfl ?_ | refine AP.cond_false rfl rfl ?_ | (refine AP.region rfl (by kernel_rfl) ?_; simp only [go_sem, Nat.reduceAdd, Nat.reduceLeDiff, reduceCtorEq]) | (refine AP.drawQ rfl rfl (by kernel_rfl) ?_; simp only [go_sem, Nat.reduceAdd, Nat.reduceLeDiff, reduceCtorEq]) | (refine vq_id ?_; simp only [go_sem, Nat.reduceAdd, Nat.reduceLeDiff, reduceCtorEq]) | (refine ⟨by first | omega | (intros; simp_all; done) | (intros; simp_all; omega), ?_⟩; try simp only [go_sem, Nat.reduceAdd, Nat.reduceLeDiff, reduceCtorEq]))
    exact AE.ret rfl ⟨rfl, trivial⟩ (.inl ⟨by simpa [Tr.toList] using hk, rfl, rfl⟩)
  | .node key v a b, k, hk, hx => by
    have hla : ∀ j, j < a.toList.length → xs[k + j]? = a.toList[j]? := fun j hj => by
      rw [hx j (by simp [Tr.toList]; omega)]
      simp [Tr.toList, List.getElem?_append_left hj]
    have hit : xs[k + a.toList.length]? = some (key, v) := by
      rw [hx _ (by simp [Tr.toList])]
      simp [Tr.toList]
    have hlb : ∀ j, j < b.toList.length → xs[k + a.toList.length + 1 + j]? = b.toList[j]? := fun j hj => by
      have := hx (a.toList.length + 1 + j) (by simp [Tr.toList]; omega)
      rw [← Nat.add_assoc, ← Nat.add_assoc] at this
      rw [this]
      simp only [Tr.toList]
      rw [List.getElem?_append_right (by omega), show a.toList.length + 1 + j - a.toList.length = j + 1 by omega]
      rfl
    have hlen : k + (Tr.node key v a b).toList.length = k + a.toList.length + 1 + b.toList.length := by simp [Tr.toList]; omega
    have ih1 := walk_spec hy a k hk hla
    rw [hlen]
    refine ACallN.walk [0, 1, 4] [] Try.func54 rfl Try.ntmps54 (by kernel_rfl) (by rfl) fun W own I0 φ0 => ?_
    repeat (first | refine xPP rfl ?_ | refine xPE rfl ?_ | refine xEP rfl ?_ | refine xEE rfl ?_ | refine AQ.done ?_ | refine AQ.skip (by kernel_rfl) rfl ?_ | refine AQ.s2b (by kernel_rfl) rfl rfl rfl rfl ?_ | refine AQ.mark (by kernel_rfl) rfl rfl rfl rfl rfl rfl rfl ?_ | refine AP.cond_true rfl rfl ?_ | refine AP.cond_false rfl rfl ?_ | (refine AP.region rfl (by kernel_rfl) ?_; simp only [go_sem, Nat.reduceAdd, Nat.reduceLeDiff, reduceCtorEq]) | (refine AP.drawQ rfl rfl (by kernel_rfl) ?_; simp only [go_sem, Nat.reduceAdd, Nat.reduceLeDiff, reduceCtorEq]) | (refine vq_id ?_; simp only [go_sem, Nat.reduceAdd, Nat.reduceLeDiff, reduceCtorEq]) | (refine ⟨by first | omega | (intros; simp_all; done) | (intros; simp_all; omega), ?_⟩; try simp only [go_sem, Nat.reduceAdd, Nat.reduceLeDiff, reduceCtorEq]))
    refine AP.drawE 31 (Tree.node [] [0, 1, 2, 3, 4, 5, 6, 7] [8] [Tree.node [] [9, 10, 11, 12, 13, 14, 15, 16, 17, 18] [19] [Tree.node [] [20, 21, 22, 23, 24, 25, 26] [27] [Tree.node [] [28, 29, 30] [] []]]]) (by kernel_rfl) rfl (by kernel_rfl) (by kernel_rfl) ?_
    refine vd_node ?_
    simp only [go_sem, Nat.reduceAdd, Nat.reduceLeDiff, reduceCtorEq, Tv, Tr.iv]
    refine AQ.guard_yes rfl ?_
    refine AQ.callN nb (Nat.ble_eq_true_of_le (Nat.le_refl _)) (by kernel_rfl) rfl rfl rfl ih1 (fun r H' h => yLow hy k _ r H' h) fun r H' h => ?_
    rcases h with ⟨h1, rfl, rfl⟩ | ⟨h1, rfl, rfl⟩
    · have hk2 : k + a.toList.length ≤ m := h1
      have hkn : k + a.toList.length < xs.length := (List.getElem?_eq_some_iff.1 hit).1
      have hia : itemS xs (k + a.toList.length) = [Iv key, Iv v] := by simp [itemS, List.getD_eq_getElem?_getD, hit]
      simp only [go_sem, Nat.reduceAdd, Nat.reduceLeDiff, reduceCtorEq]
      refine AQ.nx rfl ?_
      simp only [go_sem, Nat.reduceAdd, Nat.reduceLeDiff, reduceCtorEq]
      refine AQ.guard_yes rfl ?_
      by_cases hm : k + a.toList.length < m
      · have hyk := hy.go _ hm hkn
        rw [hia] at hyk
        have ih2 := walk_spec hy b (k + a.toList.length + 1) hm hlb
        refine AQ.yieldN nb (Nat.ble_eq_true_of_le (Nat.le_refl _)) (by kernel_rfl) rfl ⟨rfl, rfl⟩ rfl rfl hyk (fun r H' h => by rw [h.2]; exact hy.low _ _) fun r H' h => ?_
        obtain ⟨rfl, rfl⟩ := h
        simp only [go_sem, Nat.reduceAdd, Nat.reduceLeDiff, reduceCtorEq]
        refine AQ.nx rfl ?_
        simp only [go_sem, Nat.reduceAdd, Nat.reduceLeDiff, reduceCtorEq]
        refine AQ.guard_yes rfl ?_
        refine AQ.callN nb (Nat.ble_eq_true_of_le (Nat.le_refl _)) (by kernel_rfl) rfl rfl rfl ih2 (fun r H' h => yLow hy _ _ r H' h) fun r H' h => ?_
        rcases h with ⟨h2, rfl, rfl⟩ | ⟨h2, rfl, rfl⟩
        · simp only [go_sem, Nat.reduceAdd, Nat.reduceLeDiff, reduceCtorEq]
          refine AQ.nx rfl ?_
          simp only [go_sem, Nat.reduceAdd, Nat.reduceLeDiff, reduceCtorEq]
          repeat (first | refine xPP rfl ?_ | refine xPE rfl ?_ | refine xEP rfl ?_ | refine xEE rfl ?_ | refine AQ.done ?_ | refine AQ.skip (by kernel_rfl) rfl ?_ | refine AQ.s2b (by kernel_rfl) rfl rfl rfl rfl ?_ | refine AQ.mark (by kernel_rfl) rfl rfl rfl rfl rfl rfl rfl ?_ | refine AP.cond_true rfl rfl ?_ | refine AP.cond_false rfl rfl ?_ | (refine AP.region rfl (by kernel_rfl) ?_; simp only [go_sem, Nat.reduceAdd, Nat.reduceLeDiff, reduceCtorEq]) | (refine AP.drawQ rfl rfl (by kernel_rfl) ?_; simp only [go_sem, Nat.reduceAdd, Nat.reduceLeDiff, reduceCtorEq]) | (refine vq_id ?_; simp only [go_sem, Nat.reduceAdd, Nat.reduceLeDiff, reduceCtorEq]) | (refine ⟨by first | omega | (intros; simp_all; done) | (intros; simp_all; omega), ?_⟩; try simp only [go_sem, Nat.reduceAdd, Nat.reduceLeDiff, reduceCtorEq]))
          exact AE.ret rfl ⟨rfl, trivial⟩ (.inl ⟨h2, rfl, rfl⟩)
        · simp only [go_sem, Nat.reduceAdd, Nat.reduceLeDiff, reduceCtorEq]
          refine AQ.nx rfl ?_
          simp only [go_sem, Nat.reduceAdd, Nat.reduceLeDiff, reduceCtorEq]
          repeat (first | refine xPP rfl ?_ | refine xPE rfl ?_ | refine xEP rfl ?_ | refine xEE rfl ?_ | refine AQ.done ?_ | refine AQ.skip (by kernel_rfl) rfl ?_ | refine AQ.s2b (by kernel_rfl) rfl rfl rfl rfl ?_ | refine AQ.mark (by kernel_rfl) rfl rfl rfl rfl rfl rfl rfl ?_ | refine AP.cond_true rfl rfl ?_ | refine AP.cond_false rfl rfl ?_ | (refine AP.region rfl (by kernel_rfl) ?_; simp only [go_sem, Nat.reduceAdd, Nat.reduceLeDiff, reduceCtorEq]) | (refine AP.drawQ rfl rfl (by kernel_rfl) ?_; simp only [go_sem, Nat.reduceAdd, Nat.reduceLeDiff, reduceCtorEq]) | (refine vq_id ?_; simp only [go_sem, Nat.reduceAdd, Nat.reduceLeDiff, reduceCtorEq]) | (refine ⟨by first | omega | (intros; simp_all; done) | (intros; simp_all; omega), ?_⟩; try simp only [go_sem, Nat.reduceAdd, Nat.reduceLeDiff, reduceCtorEq]))
          exact AE.ret rfl ⟨rfl, trivial⟩ (.inr ⟨h2, rfl, rfl⟩)
      · have hme : k + a.toList.length = m := by omega
        have hyk := hy.stop (by omega)
        rw [← hme, hia] at hyk
        refine AQ.yieldN nb (Nat.ble_eq_true_of_le (Nat.le_refl _)) (by kernel_rfl) rfl ⟨rfl, rfl⟩ rfl rfl hyk (fun r H' h => by rw [h.2]; exact hy.lowx _) fun r H' h => ?_
        obtain ⟨rfl, rfl⟩ := h
        simp only [go_sem, Nat.reduceAdd, Nat.reduceLeDiff, reduceCtorEq]
        refine AQ.nx rfl ?_
        simp only [go_sem, Nat.reduceAdd, Nat.reduceLeDiff, reduceCtorEq]
        refine AQ.skip (by kernel_rfl) rfl ?_
        simp only [go_sem, Nat.reduceAdd, Nat.reduceLeDiff, reduceCtorEq]
        refine AQ.nx rfl ?_
        simp only [go_sem, Nat.reduceAdd, Nat.reduceLeDiff, reduceCtorEq]
        repeat (first | refine xPP rfl ?_ | refine xPE rfl ?_ | refine xEP rfl ?_ | refine xEE rfl ?_ | refine AQ.done ?_ | refine AQ.skip (by kernel_rfl) rfl ?_ | refine AQ.s2b (by kernel_rfl) rfl rfl rfl rfl ?_ | refine AQ.mark (by kernel_rfl) rfl rfl rfl rfl rfl rfl rfl ?_ | refine AP.cond_true rfl rfl ?_ | refine AP.cond_false rfl rfl ?_ | (refine AP.region rfl (by kernel_rfl) ?_; simp only [go_sem, Nat.reduceAdd, Nat.reduceLeDiff, reduceCtorEq]) | (refine AP.drawQ rfl rfl (by kernel_rfl) ?_; simp only [go_sem, Nat.reduceAdd, Nat.reduceLeDiff, reduceCtorEq]) | (refine vq_id ?_; simp only [go_sem, Nat.reduceAdd, Nat.reduceLeDiff, reduceCtorEq]) | (refine ⟨by first | omega | (intros; simp_all; done) | (intros; simp_all; omega), ?_⟩; try simp only [go_sem, Nat.reduceAdd, Nat.reduceLeDiff, reduceCtorEq]))
        exact AE.ret rfl ⟨rfl, trivial⟩ (.inr ⟨by omega, rfl, rfl⟩)
    · simp only [go_sem, Nat.reduceAdd, Nat.reduceLeDiff, reduceCtorEq]
      refine AQ.nx rfl ?_
      simp only [go_sem, Nat.reduceAdd, Nat.reduceLeDiff, reduceCtorEq]
      refine AQ.skip (by kernel_rfl) rfl ?_
      simp only [go_sem, Nat.reduceAdd, Nat.reduceLeDiff, reduceCtorEq]
      refine AQ.nx rfl ?_
      simp only [go_sem, Nat.reduceAdd, Nat.reduceLeDiff, reduceCtorEq]
      refine AQ.skip (by kernel_rfl) rfl ?_
      simp only [go_sem, Nat.reduceAdd, Nat.reduceLeDiff, reduceCtorEq]
      refine AQ.nx rfl ?_
      simp only [go_sem, Nat.reduceAdd, Nat.reduceLeDiff, reduceCtorEq]
      repeat (first | refine xPP rfl ?_ | refine xPE rfl ?_ | refine xEP rfl ?_ | refine xEE rfl ?_ | refine AQ.done ?_ | refine AQ.skip (by kernel_rfl) rfl ?_ | refine AQ.s2b (by kernel_rfl) rfl rfl rfl rfl ?_ | refine AQ.mark (by kernel_rfl) rfl rfl rfl rfl rfl rfl rfl ?_ | refine AP.cond_true rfl rfl ?_ | refine AP.cond_false rfl rfl ?_ | (refine AP.region rfl (by kernel_rfl) ?_; simp only [go_sem, Nat.reduceAdd, Nat.reduceLeDiff, reduceCtorEq]) | (refine AP.drawQ rfl rfl (by kernel_rfl) ?_; simp only [go_sem, Nat.reduceAdd, Nat.reduceLeDiff, reduceCtorEq]) | (refine vq_id ?_; simp only [go_sem, Nat.reduceAdd, Nat.reduceLeDiff, reduceCtorEq]) | (refine ⟨by first | omega | (intros; simp_all; done) | (intros; simp_all; omega), ?_⟩; try simp only [go_sem, Nat.reduceAdd, Nat.reduceLeDiff, reduceCtorEq]))
      exact AE.ret rfl ⟨rfl, trivial⟩ (.inr ⟨by omega, rfl, rfl⟩)
end Go.Proofs.Ytfgffpkdjmeaoaa.IntT
end

section
namespace Go.Proofs.Ytfgffpkdjmeaoaa.IntT
open Go Go.AL
abbrev Ent := Int × Int
theorem ltS_irrefl (a : Int) : ltS a a = false := by simp [ltS]
theorem ltS_trans {a b c : Int} (h : ltS a b = true) (h' : ltS b c = true) : ltS a c = true := by simp [ltS] at *; omega
theorem ltS_asymm {a b : Int} (h : ltS a b = true) : ltS b a = false := by simp [ltS] at *; omega
theorem ltS_tri (a b : Int) (h : ltS a b = false) (h' : ltS b a = false) : a = b := by simp [ltS] at *; omega
theorem cmpS_lt {a b : Int} : cmpS a b < 0 ↔ ltS a b = true := by
  unfold cmpS ltS
  by_cases h : a < b
  · simp [h]
  · rw [if_neg h]; simp only [decide_eq_true_eq]; split <;> omega
theorem cmpS_gt {a b : Int} : 0 < cmpS a b ↔ ltS b a = true := by
  unfold cmpS ltS
  by_cases h : a < b
  · rw [if_pos h]; simp only [decide_eq_true_eq]; omega
  · rw [if_neg h]; simp only [decide_eq_true_eq]; split <;> omega
/-- the keys ascend -/
def Srt (l : List Ent) : Prop := l.Pairwise fun a b => ltS a.1 b.1 = true
theorem Srt.nil : Srt [] := List.Pairwise.nil
theorem srt_app {l r : List Ent} {e : Ent} : Srt (l ++ e :: r) ↔ Srt l ∧ Srt r ∧ (∀ x ∈ l, ltS x.1 e.1 = true) ∧ (∀ x ∈ r, ltS e.1 x.1 = true) := by
  unfold Srt
  rw [List.pairwise_append, List.pairwise_cons]
  constructor
  · rintro ⟨h1, ⟨h2, h3⟩, h4⟩
    exact ⟨h1, h3, fun x hx => h4 x hx e (by simp), h2⟩
  · rintro ⟨h1, h2, h3, h4⟩
    refine ⟨h1, ⟨h4, h2⟩, fun x hx y hy => ?_⟩
    rcases List.mem_cons.1 hy with rfl | hy
    · exact h3 x hx
    · exact ltS_trans (h3 x hx) (h4 y hy)
theorem srt_app2 {l r : List Ent} : Srt (l ++ r) ↔ Srt l ∧ Srt r ∧ (∀ x ∈ l, ∀ y ∈ r, ltS x.1 y.1 = true) := List.pairwise_append
def lower (k : Int) (l : List Ent) : List Ent := l.filter fun e => ltS e.1 k
def upper (k : Int) (l : List Ent) : List Ent := l.filter fun e => ltS k e.1
theorem lower_app (k : Int) (l r : List Ent) : lower k (l ++ r) = lower k l ++ lower k r := List.filter_append ..
theorem upper_app (k : Int) (l r : List Ent) : upper k (l ++ r) = upper k l ++ upper k r := List.filter_append ..
theorem lower_all {k : Int} {l : List Ent} (h : ∀ x ∈ l, ltS x.1 k = true) : lower k l = l := List.filter_eq_self.2 h
theorem upper_all {k : Int} {l : List Ent} (h : ∀ x ∈ l, ltS k x.1 = true) : upper k l = l := List.filter_eq_self.2 h
theorem lower_none {k : Int} {l : List Ent} (h : ∀ x ∈ l, ltS k x.1 = true) : lower k l = [] := List.filter_eq_nil_iff.2 fun x hx => by simp [ltS_asymm (h x hx)]
theorem upper_none {k : Int} {l : List Ent} (h : ∀ x ∈ l, ltS x.1 k = true) : upper k l = [] := List.filter_eq_nil_iff.2 fun x hx => by simp [ltS_asymm (h x hx)]
theorem Srt.lower {k : Int} {l : List Ent} (h : Srt l) : Srt (lower k l) := List.Pairwise.filter _ h
theorem Srt.upper {k : Int} {l : List Ent} (h : Srt l) : Srt (upper k l) := List.Pairwise.filter _ h
theorem mem_lower {k : Int} {l : List Ent} {x : Ent} : x ∈ lower k l ↔ x ∈ l ∧ ltS x.1 k = true := List.mem_filter
theorem mem_upper {k : Int} {l : List Ent} {x : Ent} : x ∈ upper k l ↔ x ∈ l ∧ ltS k x.1 = true := List.mem_filter
/-- with the parts around a key: left of the node, right of it, the node -/
theorem low_lt {k k' : Int} {v : Int} {l r : List Ent} (h : Srt (l ++ (k', v) :: r)) (hk : ltS k k' = true) : lower k (l ++ (k', v) :: r) = lower k l ∧ upper k (l ++ (k', v) :: r) = upper k l ++ (k', v) :: r := by
  obtain ⟨h1, h2, h3, h4⟩ := srt_app.1 h
  have h5 : ∀ x ∈ (k', v) :: r, ltS k x.1 = true := fun x hx => by
    rcases List.mem_cons.1 hx with rfl | hx
    · exact hk
    · exact ltS_trans hk (h4 x hx)
  rw [lower_app, upper_app, lower_none h5, upper_all h5, List.append_nil]
  exact ⟨rfl, rfl⟩
theorem low_gt {k k' : Int} {v : Int} {l r : List Ent} (h : Srt (l ++ (k', v) :: r)) (hk : ltS k' k = true) : lower k (l ++ (k', v) :: r) = l ++ (k', v) :: lower k r ∧ upper k (l ++ (k', v) :: r) = upper k r := by
  obtain ⟨h1, h2, h3, h4⟩ := srt_app.1 h
  have h5 : ∀ x ∈ l ++ [(k', v)], ltS x.1 k = true := fun x hx => by
    rcases List.mem_append.1 hx with hx | hx
    · exact ltS_trans (h3 x hx) hk
    · rw [List.mem_singleton.1 hx]; exact hk
  have e : l ++ (k', v) :: r = (l ++ [(k', v)]) ++ r := by simp
  rw [e, lower_app, upper_app, lower_all h5, upper_none h5]
  exact ⟨by simp, rfl⟩
theorem low_eq {k : Int} {v : Int} {l r : List Ent} (h : Srt (l ++ (k, v) :: r)) : lower k (l ++ (k, v) :: r) = l ∧ upper k (l ++ (k, v) :: r) = r := by
  obtain ⟨h1, h2, h3, h4⟩ := srt_app.1 h
  rw [lower_app, upper_app, lower_all h3, upper_none h3]
  have e1 : lower k ((k, v) :: r) = [] := by
    have := lower_none h4
    unfold lower at this ⊢
    rw [List.filter_cons, this]; simp [ltS_irrefl]
  have e2 : upper k ((k, v) :: r) = r := by
    have := upper_all h4
    unfold upper at this ⊢
    rw [List.filter_cons, this]; simp [ltS_irrefl]
  rw [e1, e2]; simp
namespace Tr
theorem toList_rotL (t : Tr) : t.rotL.toList = t.toList := by
  unfold rotL; split
  · simp [toList]
  · rfl
theorem toList_rotR (t : Tr) : t.rotR.toList = t.toList := by
  unfold rotR; split
  · simp [toList]
  · rfl
theorem toList_bal (t : Tr) : t.bal.toList = t.toList := by
  cases t with
  | nil => rfl
  | node k v l r =>
    simp only [bal]
    split
    · rw [toList_rotR]; split <;> simp only [toList, toList_rotL]
    · split
      · rw [toList_rotL]; split <;> simp only [toList, toList_rotR]
      · rfl
theorem toList_put (k : Int) (v : Int) : ∀ t : Tr, Srt t.toList → (t.put k v).toList = lower k t.toList ++ (k, v) :: upper k t.toList
  | .nil, _ => rfl
  | .node k' v' l r, h => by
    simp only [toList] at h
    obtain ⟨h1, h2, h3, h4⟩ := srt_app.1 h
    simp only [put]
    split
    · rename_i hc
      obtain ⟨e1, e2⟩ := low_lt h (cmpS_lt.1 hc)
      rw [toList_bal]; simp only [toList]; rw [e1, e2, toList_put k v l h1]; simp
    · split
      · rename_i hc
        obtain ⟨e1, e2⟩ := low_gt h (cmpS_gt.1 hc)
        rw [toList_bal]; simp only [toList]; rw [e1, e2, toList_put k v r h2]; simp
      · rename_i c1 c2
        have : k = k' := ltS_tri k k' (by simpa [cmpS_lt] using c1) (by simpa [cmpS_gt] using c2)
        subst this
        obtain ⟨e1, e2⟩ := low_eq h
        simp only [toList]; rw [e1, e2]
end Tr
end Go.Proofs.Ytfgffpkdjmeaoaa.IntT
end

section
namespace Go.Proofs.Ytfgffpkdjmeaoaa.IntT
open Go Go.AL
namespace Tr
def Bal : Tr → Prop
  | nil => True
  | node _ _ l r => Bal l ∧ Bal r ∧ ht l ≤ ht r + 1 ∧ ht r ≤ ht l + 1
theorem bal_ok (k : Int) (v : Int) (l r : Tr) (hl : Bal l) (hr : Bal r) (h1 : ht l ≤ ht r + 2) (h2 : ht r ≤ ht l + 2) :
    Bal (bal (node k v l r)) ∧ max (ht l) (ht r) ≤ ht (bal (node k v l r)) ∧ ht (bal (node k v l r)) ≤ max (ht l) (ht r) + 1 ∧ (ht l ≤ ht r + 1 → ht r ≤ ht l + 1 → ht (bal (node k v l r)) = max (ht l) (ht r) + 1) := by
  by_cases hc : ht r + 1 < ht l
  · obtain ⟨kl, vl, ll, lr, rfl⟩ := Tr.of_ht (t := l) (by omega)
    have hz : ht (node kl vl ll lr) = max (ht ll) (ht lr) + 1 := rfl
    obtain ⟨b1, b2, b3, b4⟩ := hl
    by_cases hd : ht ll < ht lr
    · obtain ⟨km, vm, ml, mr, rfl⟩ := Tr.of_ht (t := lr) (by omega)
      have e : bal (node k v (node kl vl ll (node km vm ml mr)) r) = node km vm (node kl vl ll ml) (node k v mr r) := by
        rw [bal, if_pos hc, if_pos (show (node kl vl ll (node km vm ml mr)).left.ht < (node kl vl ll (node km vm ml mr)).right.ht from hd)]; rfl
      rw [e]
      obtain ⟨c1, c2, c3, c4⟩ := b2
      simp only [Bal, ht] at *
      exact ⟨⟨⟨b1, c1, by omega, by omega⟩, ⟨c2, hr, by omega, by omega⟩, by omega, by omega⟩, by omega, by omega, fun _ _ => by omega⟩
    · have e : bal (node k v (node kl vl ll lr) r) = node kl vl ll (node k v lr r) := by
        rw [bal, if_pos hc, if_neg (show ¬ (node kl vl ll lr).left.ht < (node kl vl ll lr).right.ht from hd)]; rfl
      rw [e]
      simp only [Bal, ht] at *
      exact ⟨⟨b1, ⟨b2, hr, by omega, by omega⟩, by omega, by omega⟩, by omega, by omega, fun _ _ => by omega⟩
  · by_cases hc2 : ht l + 1 < ht r
    · obtain ⟨kr, vr, rl, rr, rfl⟩ := Tr.of_ht (t := r) (by omega)
      have hz : ht (node kr vr rl rr) = max (ht rl) (ht rr) + 1 := rfl
      obtain ⟨b1, b2, b3, b4⟩ := hr
      by_cases hd : ht rr < ht rl
      · obtain ⟨km, vm, ml, mr, rfl⟩ := Tr.of_ht (t := rl) (by omega)
        have e : bal (node k v l (node kr vr (node km vm ml mr) rr)) = node km vm (node k v l ml) (node kr vr mr rr) := by
          rw [bal, if_neg hc, if_pos hc2, if_pos (show (node kr vr (node km vm ml mr) rr).right.ht < (node kr vr (node km vm ml mr) rr).left.ht from hd)]; rfl
        rw [e]
        obtain ⟨c1, c2, c3, c4⟩ := b1
        simp only [Bal, ht] at *
        exact ⟨⟨⟨hl, c1, by omega, by omega⟩, ⟨c2, b2, by omega, by omega⟩, by omega, by omega⟩, by omega, by omega, fun _ _ => by omega⟩
      · have e : bal (node k v l (node kr vr rl rr)) = node kr vr (node k v l rl) rr := by
          rw [bal, if_neg hc, if_pos hc2, if_neg (show ¬ (node kr vr rl rr).right.ht < (node kr vr rl rr).left.ht from hd)]; rfl
        rw [e]
        simp only [Bal, ht] at *
        exact ⟨⟨⟨hl, b1, by omega, by omega⟩, b2, by omega, by omega⟩, by omega, by omega, fun _ _ => by omega⟩
    · have e0 : bal (node k v l r) = node k v l r := by rw [bal, if_neg hc, if_neg hc2]
      rw [e0]
      have e : ht (node k v l r) = max (ht l) (ht r) + 1 := rfl
      rw [e]
      exact ⟨⟨hl, hr, by omega, by omega⟩, by omega, by omega, fun _ _ => rfl⟩
theorem put_ok (k : Int) (v : Int) : ∀ t : Tr, Bal t → Bal (put k v t) ∧ ht t ≤ ht (put k v t) ∧ ht (put k v t) ≤ ht t + 1
  | .nil, _ => by simp [put, Bal, ht]
  | .node k' v' l r, h => by
    simp only [Bal] at h
    obtain ⟨h1, h2, h3, h4⟩ := h
    obtain ⟨l1, l2, l3⟩ := put_ok k v l h1
    obtain ⟨r1, r2, r3⟩ := put_ok k v r h2
    simp only [put]
    split
    · obtain ⟨a1, a2, a3, a4⟩ := bal_ok k' v' (put k v l) r l1 h2 (by omega) (by omega)
      refine ⟨a1, ?_, ?_⟩
      · simp only [ht]
        by_cases hc : ht (put k v l) ≤ ht r + 1
        · have := a4 hc (by omega); omega
        · omega
      · simp only [ht]; omega
    · split
      · obtain ⟨a1, a2, a3, a4⟩ := bal_ok k' v' l (put k v r) h1 r1 (by omega) (by omega)
        refine ⟨a1, ?_, ?_⟩
        · simp only [ht]
          by_cases hc : ht (put k v r) ≤ ht l + 1
          · have := a4 (by omega) hc; omega
          · omega
        · simp only [ht]; omega
      · simp only [Bal, ht]; exact ⟨⟨h1, h2, h3, h4⟩, Nat.le_refl _, Nat.le_succ _⟩
theorem sq_aux {a b c h : Nat} (ha : 2 ^ (h + 1) ≤ a * a) (hb : 2 ^ h ≤ b * b) (hc : a + b ≤ c) : 2 ^ (h + 2) ≤ c * c := by
  have hab : 2 ^ h ≤ a * b := by
    rcases Nat.le_total a b with hle | hle
    · have h1 : a * a ≤ a * b := Nat.mul_le_mul_left a hle
      have h2 : 2 ^ h ≤ 2 ^ (h + 1) := Nat.pow_le_pow_right (by omega) (by omega)
      omega
    · have h1 : b * b ≤ a * b := Nat.mul_le_mul_right b hle
      omega
  have h3 : (a + b) * (a + b) ≤ c * c := Nat.mul_le_mul hc hc
  have h4 : (a + b) * (a + b) = a * a + (a * b + a * b) + b * b := by
    rw [Nat.add_mul, Nat.mul_add, Nat.mul_add, Nat.mul_comm b a]; omega
  have h5 : 2 ^ (h + 2) = 2 ^ (h + 1) + 2 ^ (h + 1) := by rw [Nat.pow_succ 2 (h + 1)]; omega
  have h6 : 2 ^ (h + 1) = 2 ^ h + 2 ^ h := by rw [Nat.pow_succ]; omega
  omega
theorem size_pow : ∀ (n : Nat) (t : Tr), t.size = n → Bal t → 2 ^ t.ht ≤ (t.size + 1) * (t.size + 1) := by
  intro n
  induction n using Nat.strongRecOn with
  | _ n ih =>
    intro t hn hb
    cases t with
    | nil => simp [ht, size]
    | node k v l r =>
      simp only [Bal] at hb
      obtain ⟨h1, h2, h3, h4⟩ := hb
      simp only [size] at hn ⊢
      simp only [ht]
      have il := ih l.size (by omega) l rfl h1
      have ir := ih r.size (by omega) r rfl h2
      rcases Nat.lt_trichotomy l.ht r.ht with hc | hc | hc
      · have e : r.ht = l.ht + 1 := by omega
        rw [e] at ir
        rw [Nat.max_eq_right (by omega), e]
        exact sq_aux ir il (by omega)
      · rw [hc] at il
        rw [hc, Nat.max_self]
        have h5 : 2 ^ (r.ht + 1) = 2 ^ r.ht + 2 ^ r.ht := by rw [Nat.pow_succ]; omega
        have h6 : (l.size + r.size + 1 + 1) * (l.size + r.size + 1 + 1) = (l.size + 1) * (l.size + 1) + ((l.size + 1) * (r.size + 1) + (l.size + 1) * (r.size + 1)) + (r.size + 1) * (r.size + 1) := by
          rw [show l.size + r.size + 1 + 1 = (l.size + 1) + (r.size + 1) by omega, Nat.add_mul (l.size + 1) (r.size + 1), Nat.mul_add (l.size + 1) (l.size + 1) (r.size + 1), Nat.mul_add (r.size + 1) (l.size + 1) (r.size + 1), Nat.mul_comm (r.size + 1) (l.size + 1)]; omega
        have h7 : 2 ^ r.ht ≤ (l.size + 1) * (r.size + 1) := by
          rcases Nat.le_total l.size r.size with hle | hle
          · exact Nat.le_trans il (Nat.mul_le_mul_left _ (by omega))
          · exact Nat.le_trans ir (Nat.mul_le_mul_right _ (by omega))
        omega
      · have e : l.ht = r.ht + 1 := by omega
        rw [e] at il
        rw [Nat.max_eq_left (by omega), e]
        exact sq_aux il ir (by omega)
end Tr
end Go.Proofs.Ytfgffpkdjmeaoaa.IntT
end

section
namespace Go.Proofs.Ytfgffpkdjmeaoaa.IntT
open Go Go.AL
theorem nodup_len {α : Type} [DecidableEq α] : ∀ (l S : List α), l.Nodup → (∀ x ∈ l, x ∈ S) → l.length ≤ S.length
  | [], _, _, _ => Nat.zero_le _
  | x :: l, S, h, hs => by
    have hx := hs x (by simp)
    obtain ⟨h1, h2⟩ := List.nodup_cons.1 h
    have := nodup_len l (S.erase x) h2 (fun y hy => (List.mem_erase_of_ne (by rintro rfl; exact h1 hy)).2 (hs y (by simp [hy])))
    rw [List.length_erase_of_mem hx] at this
    have : 0 < S.length := List.length_pos_of_mem hx
    simp only [List.length_cons]; omega
/-- the place of a key in a map's entries -/
def pos (n : Int) : List Ent → Option Nat
  | [] => none
  | e :: r => if e.1 = n then some 0 else (pos n r).map (· + 1)
theorem pos_some {n : Int} : ∀ {L : List Ent} {j : Nat}, pos n L = some j → ∃ v, L[j]? = some (n, v)
  | [], _, h => by simp [pos] at h
  | e :: r, j, h => by
    simp only [pos] at h
    split at h
    · rename_i hn
      cases h
      exact ⟨e.2, by rw [← hn]; rfl⟩
    · cases hp : pos n r with
      | none => rw [hp] at h; cases h
      | some i =>
        rw [hp] at h; cases h
        obtain ⟨v, hv⟩ := pos_some hp
        exact ⟨v, hv⟩
theorem pos_none {n : Int} : ∀ {L : List Ent}, pos n L = none → ∀ e ∈ L, e.1 ≠ n
  | [], _, e, h => by cases h
  | y :: r, h, e, he => by
    simp only [pos] at h
    split at h
    · cases h
    · rename_i hn
      rcases List.mem_cons.1 he with rfl | he
      · exact hn
      · exact pos_none (by cases hp : pos n r with | none => rfl | some i => rw [hp] at h; cases h) e he
def mapS (L : List Ent) (n v : Int) : List Ent := match pos n L with
  | some j => L.set j (n, v)
  | none => L ++ [(n, v)]
def Keys (L : List Ent) : Prop := (L.map (·.1)).Nodup
theorem key_uniq {L : List Ent} (h : Keys L) {i j : Nat} {a b : Ent} (hi : L[i]? = some a) (hj : L[j]? = some b) (e : a.1 = b.1) : i = j := by
  have h1 : (L.map (·.1))[i]? = some a.1 := by rw [List.getElem?_map, hi]; rfl
  have h2 : (L.map (·.1))[j]? = some a.1 := by rw [List.getElem?_map, hj, e]; rfl
  obtain ⟨l1, g1⟩ := List.getElem?_eq_some_iff.1 h1
  obtain ⟨l2, g2⟩ := List.getElem?_eq_some_iff.1 h2
  have hp := List.pairwise_iff_getElem.1 h
  rcases Nat.lt_trichotomy i j with hc | hc | hc
  · exact absurd (g1.trans g2.symm) (hp i j l1 l2 hc)
  · exact hc
  · exact absurd (g2.trans g1.symm) (hp j i l2 l1 hc)
theorem mapS_keys {L : List Ent} (h : Keys L) (n v : Int) : Keys (mapS L n v) := by
  unfold mapS
  split
  · rename_i j hj
    obtain ⟨v0, hv⟩ := pos_some hj
    unfold Keys
    rw [List.map_set]
    have : (L.map (·.1)).set j n = L.map (·.1) := by
      have h1 : (L.map (·.1))[j]? = some n := by rw [List.getElem?_map, hv]; rfl
      obtain ⟨l1, g1⟩ := List.getElem?_eq_some_iff.1 h1
      rw [← g1]; exact List.set_getElem_self l1
    show ((L.map (·.1)).set j n).Nodup
    rw [this]; exact h
  · rename_i hj
    have hp := pos_none hj
    unfold Keys
    rw [List.map_append, List.nodup_append]
    refine ⟨h, by simp, ?_⟩
    intro a ha b hb
    simp at hb
    subst hb
    obtain ⟨e, he, rfl⟩ := List.mem_map.1 ha
    exact hp e he
theorem mem_mapS {L : List Ent} (h : Keys L) (n v : Int) (x : Ent) : x ∈ mapS L n v ↔ x = (n, v) ∨ (x ∈ L ∧ x.1 ≠ n) := by
  unfold mapS
  split
  · rename_i j hj
    obtain ⟨v0, hv⟩ := pos_some hj
    obtain ⟨hjl, hjv⟩ := List.getElem?_eq_some_iff.1 hv
    constructor
    · intro hx
      obtain ⟨i, hi⟩ := List.mem_iff_getElem?.1 hx
      rw [List.getElem?_set] at hi
      by_cases hij : j = i
      · subst hij
        rw [if_pos rfl, if_pos hjl] at hi
        exact .inl (Option.some.inj hi).symm
      · rw [if_neg hij] at hi
        refine .inr ⟨List.mem_of_getElem? hi, fun e => hij ?_⟩
        exact (key_uniq h hi hv e).symm
    · rintro (rfl | ⟨hx, hn⟩)
      · exact List.mem_iff_getElem?.2 ⟨j, by rw [List.getElem?_set]; simp [hjl]⟩
      · obtain ⟨i, hi⟩ := List.mem_iff_getElem?.1 hx
        refine List.mem_iff_getElem?.2 ⟨i, ?_⟩
        rw [List.getElem?_set, if_neg (fun e => by subst e; rw [hv] at hi; cases hi; exact hn rfl)]
        exact hi
  · rename_i hj
    have hp := pos_none hj
    simp only [List.mem_append, List.mem_singleton]
    constructor
    · rintro (hx | rfl)
      · exact .inr ⟨hx, hp x hx⟩
      · exact .inl rfl
    · rintro (rfl | ⟨hx, _⟩)
      · exact .inr rfl
      · exact .inl hx
theorem srt_around {k : Int} {v : Int} {l : List Ent} (h : Srt l) : Srt (lower k l ++ (k, v) :: upper k l) :=
  srt_app.2 ⟨h.lower, h.upper, fun _ hx => (mem_lower.1 hx).2, fun _ hx => (mem_upper.1 hx).2⟩
structure RunOk (t : Tr) (L : List Ent) : Prop where
  srt : Srt t.toList
  bal : t.Bal
  keys : Keys L
  mem : ∀ x, x ∈ t.toList ↔ x ∈ L
theorem RunOk.nil : RunOk .nil [] := ⟨Srt.nil, trivial, List.nodup_nil, fun _ => Iff.rfl⟩
theorem RunOk.step {t : Tr} {L : List Ent} (h : RunOk t L) (n v : Int) : RunOk (t.put n v) (mapS L n v) := by
  have e := Tr.toList_put n v t h.srt
  refine ⟨by rw [e]; exact srt_around h.srt, (Tr.put_ok n v t h.bal).1, mapS_keys h.keys n v, fun x => ?_⟩
  rw [mem_mapS h.keys, e, List.mem_append, List.mem_cons, mem_lower, mem_upper, ← h.mem]
  constructor
  · rintro (⟨h1, h2⟩ | rfl | ⟨h1, h2⟩)
    · exact .inr ⟨h1, fun e => by rw [e, ltS_irrefl] at h2; cases h2⟩
    · exact .inl rfl
    · exact .inr ⟨h1, fun e => by rw [e, ltS_irrefl] at h2; cases h2⟩
  · rintro (rfl | ⟨h1, h2⟩)
    · exact .inr (.inl rfl)
    · cases hc : ltS x.1 n with
      | true => exact .inl ⟨h1, rfl⟩
      | false =>
        cases hc2 : ltS n x.1 with
        | true => exact .inr (.inr ⟨h1, rfl⟩)
        | false => exact absurd (ltS_tri _ _ hc hc2) h2
theorem RunOk.len {t : Tr} {L : List Ent} (h : RunOk t L) : t.size = L.length := by
  have hn : (t.toList.map (·.1)).Nodup := by
    refine List.pairwise_map.2 (List.Pairwise.imp ?_ h.srt)
    intro a b hab e
    rw [e, ltS_irrefl] at hab; cases hab
  have h1 := nodup_len _ (L.map (·.1)) hn (fun x hx => by obtain ⟨e, he, rfl⟩ := List.mem_map.1 hx; exact List.mem_map.2 ⟨e, (h.mem e).1 he, rfl⟩)
  have h2 := nodup_len _ (t.toList.map (·.1)) h.keys (fun x hx => by obtain ⟨e, he, rfl⟩ := List.mem_map.1 hx; exact List.mem_map.2 ⟨e, (h.mem e).2 he, rfl⟩)
  rw [List.length_map, List.length_map, Tr.toList_len] at h1
  rw [List.length_map, List.length_map, Tr.toList_len] at h2
  omega
def runT (l : List Int) : Nat → Tr
  | 0 => .nil
  | k + 1 => (runT l k).put (l.getD k 0) k
def runM (l : List Int) : Nat → List Ent
  | 0 => []
  | k + 1 => mapS (runM l k) (l.getD k 0) k
theorem run_ok (l : List Int) : ∀ k, RunOk (runT l k) (runM l k)
  | 0 => RunOk.nil
  | k + 1 => (run_ok l k).step _ _
theorem run_size (l : List Int) : ∀ k, (runT l k).size ≤ k
  | 0 => Nat.le_refl _
  | k + 1 => by have := run_size l k; have := Tr.size_put (l.getD k 0) k (runT l k); simp only [runT]; omega
theorem run_ht (l : List Int) (k : Nat) (hk : k ≤ 2000) : (runT l k).ht ≤ 40 := by
  have h1 := Tr.size_pow _ _ rfl (run_ok l k).bal
  have h2 := run_size l k
  have h3 : ((runT l k).size + 1) * ((runT l k).size + 1) ≤ 2001 * 2001 := Nat.mul_le_mul (by omega) (by omega)
  rcases Nat.lt_or_ge 40 (runT l k).ht with hc | hc
  · have : 2 ^ 41 ≤ 2 ^ (runT l k).ht := Nat.pow_le_pow_right (by omega) hc
    omega
  · exact hc
end Go.Proofs.Ytfgffpkdjmeaoaa.IntT
end

section
namespace Go.Proofs.Ytfgffpkdjmeaoaa
open Go Go.AL
set_option maxRecDepth 10000
set_option maxHeartbeats 2000000
theorem Tr.of_ht {t : Tr} (h : 0 < t.ht) : ∃ k v l r, t = .node k v l r := by
  cases t with
  | nil => simp [Tr.ht] at h
  | node k v l r => exact ⟨k, v, l, r, rfl⟩
theorem bal_spec (k : List UInt8) (v : Int) (l r : Tr) (hs : l.size + r.size + 1 ≤ 1000000000) : PFn Try.prog 91 [Tv (.node k v l r)] (Tv (Tr.bal (.node k v l r))) := by
  have h1 := l.ht_le
  have h2 := r.ht_le
  have w1 := wr (x := (l.ht : Int) - r.ht) (by omega)
  refine ACall.walk [0, 2, 3, 15, 34, 48, 67] [] Try.func91 rfl Try.ntmps91 (by kernel_rfl) (by rfl) rfl fun W own I0 φ0 => ?_
  repeat (first | refine xPP rfl ?_ | refine xPE rfl ?_ | refine xEP rfl ?_ | refine xEE rfl ?_ | refine AQ.done ?_ | refine AQ.skip (by kernel_rfl) rfl ?_ | refine AQ.s2b (by kernel_rfl) rfl rfl rfl rfl ?_ | refine AQ.mark (by kernel_rfl) rfl rfl rfl rfl rfl rfl rfl ?_ | refine AP.cond_true rfl rfl ?_ | refine AP.cond_false rfl rfl ?_ | (refine AP.region rfl (by kernel_rfl) ?_; simp only [go_sem, Nat.reduceAdd, Nat.reduceLeDiff, reduceCtorEq, Tv, Tr.iv]) | (refine AP.drawQ rfl rfl (by kernel_rfl) ?_; simp only [go_sem, Nat.reduceAdd, Nat.reduceLeDiff, reduceCtorEq, Tv, Tr.iv]) | (refine vq_id ?_; simp only [go_sem, Nat.reduceAdd, Nat.reduceLeDiff, reduceCtorEq, Tv, Tr.iv]) | (refine ⟨by first | omega | (intros; simp_all; done) | (intros; simp_all; omega), ?_⟩; try simp only [go_sem, Nat.reduceAdd, Nat.reduceLeDiff, reduceCtorEq, Tv, Tr.iv]))
  refine AP.draw 11 [(4, Iv l.ht), (9, Iv r.ht)] (by kernel_rfl) rfl (by kernel_rfl) (by kernel_rfl) ?_
  simp only [go_sem, Nat.reduceAdd, Nat.reduceLeDiff, reduceCtorEq, Tv, Tr.iv]
  refine ⟨height_spec l, height_spec r, ?_⟩
  repeat (first | refine xPP rfl ?_ | refine xPE rfl ?_ | refine xEP rfl ?_ | refine xEE rfl ?_ | refine AQ.done ?_ | refine AQ.skip (by kernel_rfl) rfl ?_ | refine AQ.s2b (by kernel_rfl) rfl rfl rfl rfl ?_ | refine AQ.mark (by kernel_rfl) rfl rfl rfl rfl rfl rfl rfl ?_ | refine AP.cond_true rfl rfl ?_ | refine AP.cond_false rfl rfl ?_ | (refine AP.region rfl (by kernel_rfl) ?_; simp only [go_sem, Nat.reduceAdd, Nat.reduceLeDiff, reduceCtorEq, w1]) | (refine AP.drawQ rfl rfl (by kernel_rfl) ?_; simp only [go_sem, Nat.reduceAdd, Nat.reduceLeDiff, reduceCtorEq, w1]) | (refine vq_id ?_; simp only [go_sem, Nat.reduceAdd, Nat.reduceLeDiff, reduceCtorEq, w1]) | (refine ⟨by first | omega | (intros; simp_all; done) | (intros; simp_all; omega), ?_⟩; try simp only [go_sem, Nat.reduceAdd, Nat.reduceLeDiff, reduceCtorEq, w1]))
  refine AP.cond rfl rfl (fun hc => ?_) (fun hc => ?_)
  · have hlt : r.ht + 1 < l.ht := by simp at hc; omega
    obtain ⟨kl, vl, ll, lr, rfl⟩ := Tr.of_ht (t := l) (by omega)
    have hz : (Tr.node kl vl ll lr).size = ll.size + lr.size + 1 := rfl
    repeat (first | refine xPP rfl ?_ | refine xPE rfl ?_ | refine xEP rfl ?_ | refine xEE rfl ?_ | refine AQ.done ?_ | refine AQ.skip (by kernel_rfl) rfl ?_ | refine AQ.s2b (by kernel_rfl) rfl rfl rfl rfl ?_ | refine AQ.mark (by kernel_rfl) rfl rfl rfl rfl rfl rfl rfl ?_ | refine AP.cond_true rfl rfl ?_ | refine AP.cond_false rfl rfl ?_ | (refine AP.region rfl (by kernel_rfl) ?_; simp only [go_sem, Nat.reduceAdd, Nat.reduceLeDiff, reduceCtorEq, w1, Tr.iv]) | (refine AP.drawQ rfl rfl (by kernel_rfl) ?_; simp only [go_sem, Nat.reduceAdd, Nat.reduceLeDiff, reduceCtorEq, w1, Tr.iv]) | (refine vq_id ?_; simp only [go_sem, Nat.reduceAdd, Nat.reduceLeDiff, reduceCtorEq, w1, Tr.iv]) | (refine ⟨by first | omega | (intros; simp_all; done) | (intros; simp_all; omega), ?_⟩; try simp only [go_sem, Nat.reduceAdd, Nat.reduceLeDiff, reduceCtorEq, w1, Tr.iv]))
    refine AP.draw 16 [(7, Iv ll.ht), (15, Iv lr.ht)] (by kernel_rfl) rfl (by kernel_rfl) (by kernel_rfl) ?_
    simp only [go_sem, Nat.reduceAdd, Nat.reduceLeDiff, reduceCtorEq, Tv, Tr.iv]
    refine ⟨height_spec ll, height_spec lr, ?_⟩
    repeat (first | refine xPP rfl ?_ | refine xPE rfl ?_ | refine xEP rfl ?_ | refine xEE rfl ?_ | refine AQ.done ?_ | refine AQ.skip (by kernel_rfl) rfl ?_ | refine AQ.s2b (by kernel_rfl) rfl rfl rfl rfl ?_ | refine AQ.mark (by kernel_rfl) rfl rfl rfl rfl rfl rfl rfl ?_ | refine AP.cond_true rfl rfl ?_ | refine AP.cond_false rfl rfl ?_ | (refine AP.region rfl (by kernel_rfl) ?_; simp only [go_sem, Nat.reduceAdd, Nat.reduceLeDiff, reduceCtorEq]) | (refine AP.drawQ rfl rfl (by kernel_rfl) ?_; simp only [go_sem, Nat.reduceAdd, Nat.reduceLeDiff, reduceCtorEq]) | (refine vq_id ?_; simp only [go_sem, Nat.reduceAdd, Nat.reduceLeDiff, reduceCtorEq]) | (refine ⟨by first | omega | (intros; simp_all; done) | (intros; simp_all; omega), ?_⟩; try simp only [go_sem, Nat.reduceAdd, Nat.reduceLeDiff, reduceCtorEq]))
    refine AP.cond rfl rfl (fun hd => ?_) (fun hd => ?_)
    · have hlt2 : ll.ht < lr.ht := by simp at hd; omega
      obtain ⟨k', v', l', r', rfl⟩ := Tr.of_ht (t := lr) (by omega)
      have hz2 : (Tr.node k' v' l' r').size = l'.size + r'.size + 1 := rfl
      repeat (first | refine xPP rfl ?_ | refine xPE rfl ?_ | refine xEP rfl ?_ | refine xEE rfl ?_ | refine AQ.done ?_ | refine AQ.skip (by kernel_rfl) rfl ?_ | refine AQ.s2b (by kernel_rfl) rfl rfl rfl rfl ?_ | refine AQ.mark (by kernel_rfl) rfl rfl rfl rfl rfl rfl rfl ?_ | refine AP.cond_true rfl rfl ?_ | refine AP.cond_false rfl rfl ?_ | (refine AP.region rfl (by kernel_rfl) ?_; simp only [go_sem, Nat.reduceAdd, Nat.reduceLeDiff, reduceCtorEq, Tr.iv]) | (refine AP.drawQ rfl rfl (by kernel_rfl) ?_; simp only [go_sem, Nat.reduceAdd, Nat.reduceLeDiff, reduceCtorEq, Tr.iv]) | (refine vq_id ?_; simp only [go_sem, Nat.reduceAdd, Nat.reduceLeDiff, reduceCtorEq, Tr.iv]) | (refine ⟨by first | omega | (intros; simp_all; done) | (intros; simp_all; omega), ?_⟩; try simp only [go_sem, Nat.reduceAdd, Nat.reduceLeDiff, reduceCtorEq, Tr.iv]))
      refine AP.draw 11 [(5, Tv (.node k' v' (.node kl vl ll l') r')), (10, Tv (.node k v (.node k' v' (.node kl vl ll l') r') r))] (by kernel_rfl) rfl (by kernel_rfl) (by kernel_rfl) ?_
      simp only [go_sem, Nat.reduceAdd, Nat.reduceLeDiff, reduceCtorEq, Tv, Tr.iv]
      refine ⟨by have := rotL_spec kl vl ll k' v' l' r' (by omega); simpa only [Tv, Tr.iv] using this, by have := with_spec k v (.node kl vl ll (.node k' v' l' r')) r (.node k' v' (.node kl vl ll l') r') r (by simp only [Tr.size]; omega); simpa only [Tv, Tr.iv] using this, ?_⟩
      repeat (first | refine xPP rfl ?_ | refine xPE rfl ?_ | refine xEP rfl ?_ | refine xEE rfl ?_ | refine AQ.done ?_ | refine AQ.skip (by kernel_rfl) rfl ?_ | refine AQ.s2b (by kernel_rfl) rfl rfl rfl rfl ?_ | refine AQ.mark (by kernel_rfl) rfl rfl rfl rfl rfl rfl rfl ?_ | refine AP.cond_true rfl rfl ?_ | refine AP.cond_false rfl rfl ?_ | (refine AP.region rfl (by kernel_rfl) ?_; simp only [go_sem, Nat.reduceAdd, Nat.reduceLeDiff, reduceCtorEq]) | (refine AP.drawQ rfl rfl (by kernel_rfl) ?_; simp only [go_sem, Nat.reduceAdd, Nat.reduceLeDiff, reduceCtorEq]) | (refine vq_id ?_; simp only [go_sem, Nat.reduceAdd, Nat.reduceLeDiff, reduceCtorEq]) | (refine ⟨by first | omega | (intros; simp_all; done) | (intros; simp_all; omega), ?_⟩; try simp only [go_sem, Nat.reduceAdd, Nat.reduceLeDiff, reduceCtorEq]))
      refine AQ.fn (by kernel_rfl) rfl rfl rfl (rotR_spec k v r k' v' (.node kl vl ll l') r' (by simp only [Tr.size]; omega)) rfl ?_
      repeat (first | refine xPP rfl ?_ | refine xPE rfl ?_ | refine xEP rfl ?_ | refine xEE rfl ?_ | refine AQ.done ?_ | refine AQ.skip (by kernel_rfl) rfl ?_ | refine AQ.s2b (by kernel_rfl) rfl rfl rfl rfl ?_ | refine AQ.mark (by kernel_rfl) rfl rfl rfl rfl rfl rfl rfl ?_ | refine AP.cond_true rfl rfl ?_ | refine AP.cond_false rfl rfl ?_ | (refine AP.region rfl (by kernel_rfl) ?_; simp only [go_sem, Nat.reduceAdd, Nat.reduceLeDiff, reduceCtorEq]) | (refine AP.drawQ rfl rfl (by kernel_rfl) ?_; simp only [go_sem, Nat.reduceAdd, Nat.reduceLeDiff, reduceCtorEq]) | (refine vq_id ?_; simp only [go_sem, Nat.reduceAdd, Nat.reduceLeDiff, reduceCtorEq]) | (refine ⟨by first | omega | (intros; simp_all; done) | (intros; simp_all; omega), ?_⟩; try simp only [go_sem, Nat.reduceAdd, Nat.reduceLeDiff, reduceCtorEq]))
      refine AE.ret rfl ⟨rfl, trivial⟩ ⟨rfl, ?_⟩
      have e : Tr.bal (.node k v (.node kl vl ll (.node k' v' l' r')) r) = .node k' v' (.node kl vl ll l') (.node k v r' r) := by
        rw [Tr.bal, if_pos hlt, if_pos (show (Tr.node kl vl ll (.node k' v' l' r')).left.ht < (Tr.node kl vl ll (.node k' v' l' r')).right.ht from hlt2)]; rfl
      rw [e]; rfl
    · have hlt2 : ¬ ll.ht < lr.ht := by simp at hd; omega
      repeat (first | refine xPP rfl ?_ | refine xPE rfl ?_ | refine xEP rfl ?_ | refine xEE rfl ?_ | refine AQ.done ?_ | refine AQ.skip (by kernel_rfl) rfl ?_ | refine AQ.s2b (by kernel_rfl) rfl rfl rfl rfl ?_ | refine AQ.mark (by kernel_rfl) rfl rfl rfl rfl rfl rfl rfl ?_ | refine AP.cond_true rfl rfl ?_ | refine AP.cond_false rfl rfl ?_ | (refine AP.region rfl (by kernel_rfl) ?_; simp only [go_sem, Nat.reduceAdd, Nat.reduceLeDiff, reduceCtorEq, Tr.iv]) | (refine AP.drawQ rfl rfl (by kernel_rfl) ?_; simp only [go_sem, Nat.reduceAdd, Nat.reduceLeDiff, reduceCtorEq, Tr.iv]) | (refine vq_id ?_; simp only [go_sem, Nat.reduceAdd, Nat.reduceLeDiff, reduceCtorEq, Tr.iv]) | (refine ⟨by first | omega | (intros; simp_all; done) | (intros; simp_all; omega), ?_⟩; try simp only [go_sem, Nat.reduceAdd, Nat.reduceLeDiff, reduceCtorEq, Tr.iv]))
      refine AQ.fn (by kernel_rfl) rfl rfl rfl (rotR_spec k v r kl vl ll lr (by omega)) rfl ?_
      repeat (first | refine xPP rfl ?_ | refine xPE rfl ?_ | refine xEP rfl ?_ | refine xEE rfl ?_ | refine AQ.done ?_ | refine AQ.skip (by kernel_rfl) rfl ?_ | refine AQ.s2b (by kernel_rfl) rfl rfl rfl rfl ?_ | refine AQ.mark (by kernel_rfl) rfl rfl rfl rfl rfl rfl rfl ?_ | refine AP.cond_true rfl rfl ?_ | refine AP.cond_false rfl rfl ?_ | (refine AP.region rfl (by kernel_rfl) ?_; simp only [go_sem, Nat.reduceAdd, Nat.reduceLeDiff, reduceCtorEq]) | (refine AP.drawQ rfl rfl (by kernel_rfl) ?_; simp only [go_sem, Nat.reduceAdd, Nat.reduceLeDiff, reduceCtorEq]) | (refine vq_id ?_; simp only [go_sem, Nat.reduceAdd, Nat.reduceLeDiff, reduceCtorEq]) | (refine ⟨by first | omega | (intros; simp_all; done) | (intros; simp_all; omega), ?_⟩; try simp only [go_sem, Nat.reduceAdd, Nat.reduceLeDiff, reduceCtorEq]))
      refine AE.ret rfl ⟨rfl, trivial⟩ ⟨rfl, ?_⟩
      have e : Tr.bal (.node k v (.node kl vl ll lr) r) = .node kl vl ll (.node k v lr r) := by
        rw [Tr.bal, if_pos hlt, if_neg (show ¬ (Tr.node kl vl ll lr).left.ht < (Tr.node kl vl ll lr).right.ht from hlt2)]; rfl
      rw [e]; rfl
  · have hnl : ¬ r.ht + 1 < l.ht := by simp at hc; omega
    repeat (first | refine xPP rfl ?_ | refine xPE rfl ?_ | refine xEP rfl ?_ | refine xEE rfl ?_ | refine AQ.done ?_ | refine AQ.skip (by kernel_rfl) rfl ?_ | refine AQ.s2b (by kernel_rfl) rfl rfl rfl rfl ?_ | refine AQ.mark (by kernel_rfl) rfl rfl rfl rfl rfl rfl rfl ?_ | refine AP.cond_true rfl rfl ?_ | refine AP.cond_false rfl rfl ?_ | (refine AP.region rfl (by kernel_rfl) ?_; simp only [go_sem, Nat.reduceAdd, Nat.reduceLeDiff, reduceCtorEq, w1]) | (refine AP.drawQ rfl rfl (by kernel_rfl) ?_; simp only [go_sem, Nat.reduceAdd, Nat.reduceLeDiff, reduceCtorEq, w1]) | (refine vq_id ?_; simp only [go_sem, Nat.reduceAdd, Nat.reduceLeDiff, reduceCtorEq, w1]) | (refine ⟨by first | omega | (intros; simp_all; done) | (intros; simp_all; omega), ?_⟩; try simp only [go_sem, Nat.reduceAdd, Nat.reduceLeDiff, reduceCtorEq, w1]))
    refine AP.cond rfl rfl (fun hc2 => ?_) (fun hc2 => ?_)
    · have hlt : l.ht + 1 < r.ht := by simp at hc2; omega
      obtain ⟨kr, vr, rl, rr, rfl⟩ := Tr.of_ht (t := r) (by omega)
      have hz : (Tr.node kr vr rl rr).size = rl.size + rr.size + 1 := rfl
      repeat (first | refine xPP rfl ?_ | refine xPE rfl ?_ | refine xEP rfl ?_ | refine xEE rfl ?_ | refine AQ.done ?_ | refine AQ.skip (by kernel_rfl) rfl ?_ | refine AQ.s2b (by kernel_rfl) rfl rfl rfl rfl ?_ | refine AQ.mark (by kernel_rfl) rfl rfl rfl rfl rfl rfl rfl ?_ | refine AP.cond_true rfl rfl ?_ | refine AP.cond_false rfl rfl ?_ | (refine AP.region rfl (by kernel_rfl) ?_; simp only [go_sem, Nat.reduceAdd, Nat.reduceLeDiff, reduceCtorEq, w1, Tr.iv]) | (refine AP.drawQ rfl rfl (by kernel_rfl) ?_; simp only [go_sem, Nat.reduceAdd, Nat.reduceLeDiff, reduceCtorEq, w1, Tr.iv]) | (refine vq_id ?_; simp only [go_sem, Nat.reduceAdd, Nat.reduceLeDiff, reduceCtorEq, w1, Tr.iv]) | (refine ⟨by first | omega | (intros; simp_all; done) | (intros; simp_all; omega), ?_⟩; try simp only [go_sem, Nat.reduceAdd, Nat.reduceLeDiff, reduceCtorEq, w1, Tr.iv]))
      refine AP.draw 16 [(7, Iv rr.ht), (15, Iv rl.ht)] (by kernel_rfl) rfl (by kernel_rfl) (by kernel_rfl) ?_
      simp only [go_sem, Nat.reduceAdd, Nat.reduceLeDiff, reduceCtorEq, Tv, Tr.iv]
      refine ⟨height_spec rr, height_spec rl, ?_⟩
      repeat (first | refine xPP rfl ?_ | refine xPE rfl ?_ | refine xEP rfl ?_ | refine xEE rfl ?_ | refine AQ.done ?_ | refine AQ.skip (by kernel_rfl) rfl ?_ | refine AQ.s2b (by kernel_rfl) rfl rfl rfl rfl ?_ | refine AQ.mark (by kernel_rfl) rfl rfl rfl rfl rfl rfl rfl ?_ | refine AP.cond_true rfl rfl ?_ | refine AP.cond_false rfl rfl ?_ | (refine AP.region rfl (by kernel_rfl) ?_; simp only [go_sem, Nat.reduceAdd, Nat.reduceLeDiff, reduceCtorEq]) | (refine AP.drawQ rfl rfl (by kernel_rfl) ?_; simp only [go_sem, Nat.reduceAdd, Nat.reduceLeDiff, reduceCtorEq]) | (refine vq_id ?_; simp only [go_sem, Nat.reduceAdd, Nat.reduceLeDiff, reduceCtorEq]) | (refine ⟨by first | omega | (intros; simp_all; done) | (intros; simp_all; omega), ?_⟩; try simp only [go_sem, Nat.reduceAdd, Nat.reduceLeDiff, reduceCtorEq]))
      refine AP.cond rfl rfl (fun hd => ?_) (fun hd => ?_)
      · have hlt2 : rr.ht < rl.ht := by simp at hd; omega
        obtain ⟨k', v', l', r', rfl⟩ := Tr.of_ht (t := rl) (by omega)
        have hz2 : (Tr.node k' v' l' r').size = l'.size + r'.size + 1 := rfl
        repeat (first | refine xPP rfl ?_ | refine xPE rfl ?_ | refine xEP rfl ?_ | refine xEE rfl ?_ | refine AQ.done ?_ | refine AQ.skip (by kernel_rfl) rfl ?_ | refine AQ.s2b (by kernel_rfl) rfl rfl rfl rfl ?_ | refine AQ.mark (by kernel_rfl) rfl rfl rfl rfl rfl rfl rfl ?_ | refine AP.cond_true rfl rfl ?_ | refine AP.cond_false rfl rfl ?_ | (refine AP.region rfl (by kernel_rfl) ?_; simp only [go_sem, Nat.reduceAdd, Nat.reduceLeDiff, reduceCtorEq, Tr.iv]) | (refine AP.drawQ rfl rfl (by kernel_rfl) ?_; simp only [go_sem, Nat.reduceAdd, Nat.reduceLeDiff, reduceCtorEq, Tr.iv]) | (refine vq_id ?_; simp only [go_sem, Nat.reduceAdd, Nat.reduceLeDiff, reduceCtorEq, Tr.iv]) | (refine ⟨by first | omega | (intros; simp_all; done) | (intros; simp_all; omega), ?_⟩; try simp only [go_sem, Nat.reduceAdd, Nat.reduceLeDiff, reduceCtorEq, Tr.iv]))
        refine AP.draw 11 [(9, Tv (.node k' v' l' (.node kr vr r' rr))), (10, Tv (.node k v l (.node k' v' l' (.node kr vr r' rr))))] (by kernel_rfl) rfl (by kernel_rfl) (by kernel_rfl) ?_
        simp only [go_sem, Nat.reduceAdd, Nat.reduceLeDiff, reduceCtorEq, Tv, Tr.iv]
        refine ⟨by have := rotR_spec kr vr rr k' v' l' r' (by omega); simpa only [Tv, Tr.iv] using this, by have := with_spec k v l (.node kr vr (.node k' v' l' r') rr) l (.node k' v' l' (.node kr vr r' rr)) (by simp only [Tr.size]; omega); simpa only [Tv, Tr.iv] using this, ?_⟩
        repeat (first | refine xPP rfl ?_ | refine xPE rfl ?_ | refine xEP rfl ?_ | refine xEE rfl ?_ | refine AQ.done ?_ | refine AQ.skip (by kernel_rfl) rfl ?_ | refine AQ.s2b (by kernel_rfl) rfl rfl rfl rfl ?_ | refine AQ.mark (by kernel_rfl) rfl rfl rfl rfl rfl rfl rfl ?_ | refine AP.cond_true rfl rfl ?_ | refine AP.cond_false rfl rfl ?_ | (refine AP.region rfl (by kernel_rfl) ?_; simp only [go_sem, Nat.reduceAdd, Nat.reduceLeDiff, reduceCtorEq]) | (refine AP.drawQ rfl rfl (by kernel_rfl) ?_; simp only [go_sem, Nat.reduceAdd, Nat.reduceLeDiff, reduceCtorEq]) | (refine vq_id ?_; simp only [go_sem, Nat.reduceAdd, Nat.reduceLeDiff, reduceCtorEq]) | (refine ⟨by first | omega | (intros; simp_all; done) | (intros; simp_all; omega), ?_⟩; try simp only [go_sem, Nat.reduceAdd, Nat.reduceLeDiff, reduceCtorEq]))
        refine AQ.fn (by kernel_rfl) rfl rfl rfl (rotL_spec k v l k' v' l' (.node kr vr r' rr) (by simp only [Tr.size]; omega)) rfl ?_
        repeat (first | refine xPP rfl ?_ | refine xPE rfl ?_ | refine xEP rfl ?_ | refine xEE rfl ?_ | refine AQ.done ?_ | refine AQ.skip (by kernel_rfl) rfl ?_ | refine AQ.s2b (by kernel_rfl) rfl rfl rfl rfl ?_ | refine AQ.mark (by kernel_rfl) rfl rfl rfl rfl rfl rfl rfl ?_ | refine AP.cond_true rfl rfl ?_ | refine AP.cond_false rfl rfl ?_ | (refine AP.region rfl (by kernel_rfl) ?_; simp only [go_sem, Nat.reduceAdd, Nat.reduceLeDiff, reduceCtorEq]) | (refine AP.drawQ rfl rfl (by kernel_rfl) ?_; simp only [go_sem, Nat.reduceAdd, Nat.reduceLeDiff, reduceCtorEq]) | (refine vq_id ?_; simp only [go_sem, Nat.reduceAdd, Nat.reduceLeDiff, reduceCtorEq]) | (refine ⟨by first | omega | (intros; simp_all; done) | (intros; simp_all; omega), ?_⟩; try simp only [go_sem, Nat.reduceAdd, Nat.reduceLeDiff, reduceCtorEq]))
        refine AE.ret rfl ⟨rfl, trivial⟩ ⟨rfl, ?_⟩
        have e : Tr.bal (.node k v l (.node kr vr (.node k' v' l' r') rr)) = .node k' v' (.node k v l l') (.node kr vr r' rr) := by
          rw [Tr.bal, if_neg hnl, if_pos hlt, if_pos (show (Tr.node kr vr (.node k' v' l' r') rr).right.ht < (Tr.node kr vr (.node k' v' l' r') rr).left.ht from hlt2)]; rfl
        rw [e]; rfl
      · have hlt2 : ¬ rr.ht < rl.ht := by simp at hd; omega
        repeat (first | refine xPP rfl ?_ | refine xPE rfl ?_ | refine xEP rfl ?_ | refine xEE rfl ?_ | refine AQ.done ?_ | refine AQ.skip (by kernel_rfl) rfl ?_ | refine AQ.s2b (by kernel_rfl) rfl rfl rfl rfl ?_ | refine AQ.mark (by kernel_rfl) rfl rfl rfl rfl rfl rfl rfl ?_ | refine AP.cond_true rfl rfl ?_ | refine AP.cond_false rfl rfl ?_ | (refine AP.region rfl (by kernel_rfl) ?_; simp only [go_sem, Nat.reduceAdd, Nat.reduceLeDiff, reduceCtorEq, Tr.iv]) | (refine AP.drawQ rfl rfl (by kernel_rfl) ?_; simp only [go_sem, Nat.reduceAdd, Nat.reduceLeDiff, reduceCtorEq, Tr.iv]) | (refine vq_id ?_; simp only [go_sem, Nat.reduceAdd, Nat.reduceLeDiff, reduceCtorEq, Tr.iv]) | (refine ⟨by first | omega | (intros; simp_all; done) | (intros; simp_all; omega), ?_⟩; try simp only [go_sem, Nat.reduceAdd, Nat.reduceLeDiff, reduceCtorEq, Tr.iv]))
        refine AQ.fn (by kernel_rfl) rfl rfl rfl (rotL_spec k v l kr vr rl rr (by omega)) rfl ?_
        repeat (first | refine xPP rfl ?_ | refine xPE rfl ?_ | refine xEP rfl ?_ | refine xEE rfl ?_ | refine AQ.done ?_ | refine AQ.skip (by kernel_rfl) rfl ?_ | refine AQ.s2b (by kernel_rfl) rfl rfl rfl rfl ?_ | refine AQ.mark (by kernel_rfl) rfl rfl rfl rfl rfl rfl rfl ?_ | refine AP.cond_true rfl rfl ?_ | refine AP.cond_false rfl rfl ?_ | (refine AP.region rfl (by kernel_rfl) ?_; simp only [go_sem, Nat.reduceAdd, Nat.reduceLeDiff, reduceCtorEq]) | (refine AP.drawQ rfl rfl (by kernel_rfl) ?_; simp only [go_sem, Nat.reduceAdd, Nat.reduceLeDiff, reduceCtorEq]) | (refine vq_id ?_; simp only [go_sem, Nat.reduceAdd, Nat.reduceLeDiff, reduceCtorEq]) | (refine ⟨by first | omega | (intros; simp_all; done) | (intros; simp_all; omega), ?_⟩; try simp only [go_sem, Nat.reduceAdd, Nat.reduceLeDiff, reduceCtorEq]))
        refine AE.ret rfl ⟨rfl, trivial⟩ ⟨rfl, ?_⟩
        have e : Tr.bal (.node k v l (.node kr vr rl rr)) = .node kr vr (.node k v l rl) rr := by
          rw [Tr.bal, if_neg hnl, if_pos hlt, if_neg (show ¬ (Tr.node kr vr rl rr).right.ht < (Tr.node kr vr rl rr).left.ht from hlt2)]; rfl
        rw [e]; rfl
    · have hnr : ¬ l.ht + 1 < r.ht := by simp at hc2; omega
      repeat (first | refine xPP rfl ?_ | refine xPE rfl ?_ | refine xEP rfl ?_ | refine xEE rfl ?_ | refine AQ.done ?_ | refine AQ.skip (by kernel_rfl) rfl ?_ | refine AQ.s2b (by kernel_rfl) rfl rfl rfl rfl ?_ | refine AQ.mark (by kernel_rfl) rfl rfl rfl rfl rfl rfl rfl ?_ | refine AP.cond_true rfl rfl ?_ | refine AP.cond_false rfl rfl ?_ | (refine AP.region rfl (by kernel_rfl) ?_; simp only [go_sem, Nat.reduceAdd, Nat.reduceLeDiff, reduceCtorEq]) | (refine AP.drawQ rfl rfl (by kernel_rfl) ?_; simp only [go_sem, Nat.reduceAdd, Nat.reduceLeDiff, reduceCtorEq]) | (refine vq_id ?_; simp only [go_sem, Nat.reduceAdd, Nat.reduceLeDiff, reduceCtorEq]) | (refine ⟨by first | omega | (intros; simp_all; done) | (intros; simp_all; omega), ?_⟩; try simp only [go_sem, Nat.reduceAdd, Nat.reduceLeDiff, reduceCtorEq]))
      refine AE.ret rfl ⟨rfl, trivial⟩ ⟨rfl, ?_⟩
      have e : Tr.bal (.node k v l r) = .node k v l r := by simp only [Tr.bal, if_neg hnl, if_neg hnr]
      rw [e]; rfl
/-- a key gets a value -/
def Tr.put (k : List UInt8) (v : Int) : Tr → Tr
  | .nil => .node k v .nil .nil
  | .node k' v' l r => if cmpS k k' < 0 then Tr.bal (.node k' v' (Tr.put k v l) r) else if 0 < cmpS k k' then Tr.bal (.node k' v' l (Tr.put k v r)) else .node k v l r
theorem Tr.size_rotL (t : Tr) : t.rotL.size = t.size := by
  unfold Tr.rotL
  split
  · simp only [Tr.size]; omega
  · rfl
theorem Tr.size_rotR (t : Tr) : t.rotR.size = t.size := by
  unfold Tr.rotR
  split
  · simp only [Tr.size]; omega
  · rfl
theorem Tr.size_bal (t : Tr) : t.bal.size = t.size := by
  cases t with
  | nil => rfl
  | node k v l r =>
    simp only [Tr.bal]
    split
    · rw [Tr.size_rotR]; split <;> simp only [Tr.size, Tr.size_rotL]
    · split
      · rw [Tr.size_rotL]; split <;> simp only [Tr.size, Tr.size_rotR]
      · rfl
theorem Tr.size_put (k : List UInt8) (v : Int) : ∀ t : Tr, (Tr.put k v t).size ≤ t.size + 1
  | .nil => Nat.le_refl _
  | .node k' v' l r => by
    have h1 := Tr.size_put k v l
    have h2 := Tr.size_put k v r
    simp only [Tr.put]
    split
    · rw [Tr.size_bal]; simp only [Tr.size]; omega
    · split
      · rw [Tr.size_bal]; simp only [Tr.size]; omega
      · simp only [Tr.size]; omega
theorem put_spec (k : List UInt8) (v : Int) : ∀ t : Tr, t.size + 2 ≤ 1000000000 → PFn Try.prog 80 [Tv t, Sv k, Iv v] (Tv (t.put k v))
  | .nil, _ => by
    refine ACall.walk [0, 1, 2, 6, 7, 8, 10, 21, 38] [8] Try.func80 rfl Try.ntmps80 (by kernel_rfl) (by rfl) rfl fun W own I0 φ0 => ?_
    repeat (first | refine xPP rfl ?_ | refine xPE rfl ?_ | refine xEP rfl ?_ | refine xEE rfl ?_ | refine AQ.done ?_ | refine AQ.skip (by kernel_rfl) rfl ?_ | refine AQ.s2b (by kernel_rfl) rfl rfl rfl rfl ?_ | refine AQ.mark (by kernel_rfl) rfl rfl rfl rfl rfl rfl rfl ?_ | refine AP.cond_true rfl rfl ?_ | refine AP.cond_false rfl rfl ?_ | (refine AP.region rfl (by kernel_rfl) ?_; simp only [go_sem, Nat.reduceAdd, Nat.reduceLeDiff, reduceCtorEq, Tv, Tr.iv]) | (refine AP.drawQ rfl rfl (by kernel_rfl) ?_; simp only [go_sem, Nat.reduceAdd, Nat.reduceLeDiff, reduceCtorEq, Tv, Tr.iv]) | (refine vq_id ?_; simp only [go_sem, Nat.reduceAdd, Nat.reduceLeDiff, reduceCtorEq, Tv, Tr.iv]) | (refine ⟨by first | omega | (intros; simp_all; done) | (intros; simp_all; omega), ?_⟩; try simp only [go_sem, Nat.reduceAdd, Nat.reduceLeDiff, reduceCtorEq, Tv, Tr.iv]))
    exact AE.ret rfl ⟨rfl, trivial⟩ ⟨rfl, rfl⟩
  | .node k' v' l r, hs => by
    have hs' : l.size + r.size + 3 ≤ 1000000000 := by simp only [Tr.size] at hs; omega
    have ihl := put_spec k v l (by omega)
    have ihr := put_spec k v r (by omega)
    have z1 := Tr.size_put k v l
    have z2 := Tr.size_put k v r
    refine ACall.walk [0, 1, 2, 6, 7, 8, 10, 21, 38] [8] Try.func80 rfl Try.ntmps80 (by kernel_rfl) (by rfl) rfl fun W own I0 φ0 => ?_
    repeat (first | refine xPP rfl ?_ | refine xPE rfl ?_ | refine xEP rfl ?_ | refine xEE rfl ?_ | refine AQ.done ?_ | refine AQ.skip (by kernel_rfl) rfl ?_ | refine AQ.s2b (by kernel_rfl) rfl rfl rfl rfl ?_ | refine AQ.mark (by kernel_rfl) rfl rfl rfl rfl rfl rfl rfl ?_ | refine AP.cond_true rfl rfl ?_ | refine AP.cond_false rfl rfl ?_ | (refine AP.region rfl (by kernel_rfl) ?_; simp only [go_sem, Nat.reduceAdd, Nat.reduceLeDiff, reduceCtorEq, Tv, Tr.iv]) | (refine AP.drawQ rfl rfl (by kernel_rfl) ?_; simp only [go_sem, Nat.reduceAdd, Nat.reduceLeDiff, reduceCtorEq, Tv, Tr.iv]) | (refine vq_id ?_; simp only [go_sem, Nat.reduceAdd, Nat.reduceLeDiff, reduceCtorEq, Tv, Tr.iv]) | (refine ⟨by first | omega | (intros; simp_all; done) | (intros; simp_all; omega), ?_⟩; try simp only [go_sem, Nat.reduceAdd, Nat.reduceLeDiff, reduceCtorEq, Tv, Tr.iv]))
    refine AQ.fn (by kernel_rfl) rfl rfl rfl (compare_spec k k') rfl ?_
    repeat (first | refine xPP rfl ?_ | refine xPE rfl ?_ | refine xEP rfl ?_ | refine xEE rfl ?_ | refine AQ.done ?_ | refine AQ.skip (by kernel_rfl) rfl ?_ | refine AQ.s2b (by kernel_rfl) rfl rfl rfl rfl ?_ | refine AQ.mark (by kernel_rfl) rfl rfl rfl rfl rfl rfl rfl ?_ | refine AP.cond_true rfl rfl ?_ | refine AP.cond_false rfl rfl ?_ | (refine AP.region rfl (by kernel_rfl) ?_; simp only [go_sem, Nat.reduceAdd, Nat.reduceLeDiff, reduceCtorEq]) | (refine AP.drawQ rfl rfl (by kernel_rfl) ?_; simp only [go_sem, Nat.reduceAdd, Nat.reduceLeDiff, reduceCtorEq]) | (refine vq_id ?_; simp only [go_sem, Nat.reduceAdd, Nat.reduceLeDiff, reduceCtorEq]) | (refine ⟨by first | omega | (intros; simp_all; done) | (intros; simp_all; omega), ?_⟩; try simp only [go_sem, Nat.reduceAdd, Nat.reduceLeDiff, reduceCtorEq]))
    refine AP.cond rfl rfl (fun hc => ?_) (fun hc => ?_)
    · have hlt : cmpS k k' < 0 := by simpa using hc
      repeat (first | refine xPP rfl ?_ | refine xPE rfl ?_ | refine xEP rfl ?_ | refine xEE rfl ?_ | refine AQ.done ?_ | refine AQ.skip (by kernel_rfl) rfl ?_ | refine AQ.s2b (by kernel_rfl) rfl rfl rfl rfl ?_ | refine AQ.mark (by kernel_rfl) rfl rfl rfl rfl rfl rfl rfl ?_ | refine AP.cond_true rfl rfl ?_ | refine AP.cond_false rfl rfl ?_ | (refine AP.region rfl (by kernel_rfl) ?_; simp only [go_sem, Nat.reduceAdd, Nat.reduceLeDiff, reduceCtorEq, Tr.iv]) | (refine AP.drawQ rfl rfl (by kernel_rfl) ?_; simp only [go_sem, Nat.reduceAdd, Nat.reduceLeDiff, reduceCtorEq, Tr.iv]) | (refine vq_id ?_; simp only [go_sem, Nat.reduceAdd, Nat.reduceLeDiff, reduceCtorEq, Tr.iv]) | (refine ⟨by first | omega | (intros; simp_all; done) | (intros; simp_all; omega), ?_⟩; try simp only [go_sem, Nat.reduceAdd, Nat.reduceLeDiff, reduceCtorEq, Tr.iv]))
      refine AP.draw 14 [(7, Tv (l.put k v)), (12, Tv (.node k' v' (l.put k v) r)), (13, Tv (Tr.bal (.node k' v' (l.put k v) r)))] (by kernel_rfl) rfl (by kernel_rfl) (by kernel_rfl) ?_
      simp only [go_sem, Nat.reduceAdd, Nat.reduceLeDiff, reduceCtorEq, Tv, Tr.iv]
      refine ⟨ihl, by have := with_spec k' v' l r (l.put k v) r (by omega); simpa only [Tv, Tr.iv] using this, by have := bal_spec k' v' (l.put k v) r (by omega); simpa only [Tv, Tr.iv] using this, ?_⟩
      repeat (first | refine xPP rfl ?_ | refine xPE rfl ?_ | refine xEP rfl ?_ | refine xEE rfl ?_ | refine AQ.done ?_ | refine AQ.skip (by kernel_rfl) rfl ?_ | refine AQ.s2b (by kernel_rfl) rfl rfl rfl rfl ?_ | refine AQ.mark (by kernel_rfl) rfl rfl rfl rfl rfl rfl rfl ?_ | refine AP.cond_true rfl rfl ?_ | refine AP.cond_false rfl rfl ?_ | (refine AP.region rfl (by kernel_rfl) ?_; simp only [go_sem, Nat.reduceAdd, Nat.reduceLeDiff, reduceCtorEq]) | (refine AP.drawQ rfl rfl (by kernel_rfl) ?_; simp only [go_sem, Nat.reduceAdd, Nat.reduceLeDiff, reduceCtorEq]) | (refine vq_id ?_; simp only [go_sem, Nat.reduceAdd, Nat.reduceLeDiff, reduceCtorEq]) | (refine ⟨by first | omega | (intros; simp_all; done) | (intros; simp_all; omega), ?_⟩; try simp only [go_sem, Nat.reduceAdd, Nat.reduceLeDiff, reduceCtorEq]))
      refine AE.ret rfl ⟨rfl, trivial⟩ ⟨rfl, ?_⟩
      have e : Tr.put k v (.node k' v' l r) = Tr.bal (.node k' v' (l.put k v) r) := by simp only [Tr.put, if_pos hlt]
      rw [e]; rfl
    · have hnl : ¬ cmpS k k' < 0 := by simpa using hc
      repeat (first | refine xPP rfl ?_ | refine xPE rfl ?_ | refine xEP rfl ?_ | refine xEE rfl ?_ | refine AQ.done ?_ | refine AQ.skip (by kernel_rfl) rfl ?_ | refine AQ.s2b (by kernel_rfl) rfl rfl rfl rfl ?_ | refine AQ.mark (by kernel_rfl) rfl rfl rfl rfl rfl rfl rfl ?_ | refine AP.cond_true rfl rfl ?_ | refine AP.cond_false rfl rfl ?_ | (refine AP.region rfl (by kernel_rfl) ?_; simp only [go_sem, Nat.reduceAdd, Nat.reduceLeDiff, reduceCtorEq]) | (refine AP.drawQ rfl rfl (by kernel_rfl) ?_; simp only [go_sem, Nat.reduceAdd, Nat.reduceLeDiff, reduceCtorEq]) | (refine vq_id ?_; simp only [go_sem, Nat.reduceAdd, Nat.reduceLeDiff, reduceCtorEq]) | (refine ⟨by first | omega | (intros; simp_all; done) | (intros; simp_all; omega), ?_⟩; try simp only [go_sem, Nat.reduceAdd, Nat.reduceLeDiff, reduceCtorEq]))
      refine AP.cond rfl rfl (fun hc2 => ?_) (fun hc2 => ?_)
      · have hlt : 0 < cmpS k k' := by simpa using hc2
        repeat (first | refine xPP rfl ?_ | refine xPE rfl ?_ | refine xEP rfl ?_ | refine xEE rfl ?_ | refine AQ.done ?_ | refine AQ.skip (by kernel_rfl) rfl ?_ | refine AQ.s2b (by kernel_rfl) rfl rfl rfl rfl ?_ | refine AQ.mark (by kernel_rfl) rfl rfl rfl rfl rfl rfl rfl ?_ | refine AP.cond_true rfl rfl ?_ | refine AP.cond_false rfl rfl ?_ | (refine AP.region rfl (by kernel_rfl) ?_; simp only [go_sem, Nat.reduceAdd, Nat.reduceLeDiff, reduceCtorEq, Tr.iv]) | (refine AP.drawQ rfl rfl (by kernel_rfl) ?_; simp only [go_sem, Nat.reduceAdd, Nat.reduceLeDiff, reduceCtorEq, Tr.iv]) | (refine vq_id ?_; simp only [go_sem, Nat.reduceAdd, Nat.reduceLeDiff, reduceCtorEq, Tr.iv]) | (refine ⟨by first | omega | (intros; simp_all; done) | (intros; simp_all; omega), ?_⟩; try simp only [go_sem, Nat.reduceAdd, Nat.reduceLeDiff, reduceCtorEq, Tr.iv]))
        refine AP.draw 14 [(11, Tv (r.put k v)), (12, Tv (.node k' v' l (r.put k v))), (13, Tv (Tr.bal (.node k' v' l (r.put k v))))] (by kernel_rfl) rfl (by kernel_rfl) (by kernel_rfl) ?_
        simp only [go_sem, Nat.reduceAdd, Nat.reduceLeDiff, reduceCtorEq, Tv, Tr.iv]
        refine ⟨ihr, by have := with_spec k' v' l r l (r.put k v) (by omega); simpa only [Tv, Tr.iv] using this, by have := bal_spec k' v' l (r.put k v) (by omega); simpa only [Tv, Tr.iv] using this, ?_⟩
        repeat (first | refine xPP rfl ?_ | refine xPE rfl ?_ | refine xEP rfl ?_ | refine xEE rfl ?_ | refine AQ.done ?_ | refine AQ.skip (by kernel_rfl) rfl ?_ | refine AQ.s2b (by kernel_rfl) rfl rfl rfl rfl ?_ | refine AQ.mark (by kernel_rfl) rfl rfl rfl rfl rfl rfl rfl ?_ | refine AP.cond_true rfl rfl ?_ | refine AP.cond_false rfl rfl ?_ | (refine AP.region rfl (by kernel_rfl) ?_; simp only [go_sem, Nat.reduceAdd, Nat.reduceLeDiff, reduceCtorEq]) | (refine AP.drawQ rfl rfl (by kernel_rfl) ?_; simp only [go_sem, Nat.reduceAdd, Nat.reduceLeDiff, reduceCtorEq]) | (refine vq_id ?_; simp only [go_sem, Nat.reduceAdd, Nat.reduceLeDiff, reduceCtorEq]) | (refine ⟨by first | omega | (intros; simp_all; done) | (intros; simp_all; omega), ?_⟩; try simp only [go_sem, Nat.reduceAdd, Nat.reduceLeDiff, reduceCtorEq]))
        refine AE.ret rfl ⟨rfl, trivial⟩ ⟨rfl, ?_⟩
        have e : Tr.put k v (.node k' v' l r) = Tr.bal (.node k' v' l (r.put k v)) := by simp only [Tr.put, if_neg hnl, if_pos hlt]
        rw [e]; rfl
      · have hng : ¬ 0 < cmpS k k' := by simpa using hc2
        repeat (first | refine xPP rfl ?_ | refine xPE rfl ?_ | refine xEP rfl ?_ | refine xEE rfl ?_ | refine AQ.done ?_ | refine AQ.skip (by kernel_rfl) rfl ?_ | refine AQ.s2b (by kernel_rfl) rfl rfl rfl rfl ?_ | refine AQ.mark (by kernel_rfl) rfl rfl rfl rfl rfl rfl rfl ?_ | refine AP.cond_true rfl rfl ?_ | refine AP.cond_false rfl rfl ?_ | (refine AP.region rfl (by kernel_rfl) ?_; simp only [go_sem, Nat.reduceAdd, Nat.reduceLeDiff, reduceCtorEq, Tr.iv]) | (refine AP.drawQ rfl rfl (by kernel_rfl) ?_; simp only [go_sem, Nat.reduceAdd, Nat.reduceLeDiff, reduceCtorEq, Tr.iv]) | (refine vq_id ?_; simp only [go_sem, Nat.reduceAdd, Nat.reduceLeDiff, reduceCtorEq, Tr.iv]) | (refine ⟨by first | omega | (intros; simp_all; done) | (intros; simp_all; omega), ?_⟩; try simp only [go_sem, Nat.reduceAdd, Nat.reduceLeDiff, reduceCtorEq, Tr.iv]))
        refine AE.fix 0 rfl rfl ?_
        refine AE.ret rfl ⟨rfl, trivial⟩ ⟨rfl, ?_⟩
        have e : Tr.put k v (.node k' v' l r) = .node k v l r := by simp only [Tr.put, if_neg hnl, if_neg hng]
        rw [e]; rfl
end Go.Proofs.Ytfgffpkdjmeaoaa
end
