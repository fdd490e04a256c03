import Derived.Test.YtfgffpkdjmeaoaaAl3
import Derived.Test.YtfgffpkdjmeaoaaChecked
import Derived.KernelRfl
set_option linter.unusedSimpArgs false
set_option linter.unusedVariables false
set_option linter.unnecessarySimpa false
section

end

section
namespace Go.Proofs.Ytfgffpkdjmeaoaa
open Go Go.AL
@[go_sem] theorem Try.tk1 : tk Try.prog 1 = .func := by kernel_rfl
@[go_sem] theorem Try.sz1 : sz Try.prog 1 = some 1 := by kernel_rfl
@[go_sem] theorem Try.by1 : by' Try.prog 1 = some 8 := by kernel_rfl
@[go_sem] theorem Try.zr1 : zro Try.prog 1 = some ([.nilFunc]) := by kernel_rfl
@[go_sem] theorem Try.tk2 : tk Try.prog 2 = .int .i64 := by kernel_rfl
@[go_sem] theorem Try.sz2 : sz Try.prog 2 = some 1 := by kernel_rfl
@[go_sem] theorem Try.by2 : by' Try.prog 2 = some 8 := by kernel_rfl
@[go_sem] theorem Try.un2 : (Try.prog.underlying 2).isSome = true := by kernel_rfl
@[go_sem] theorem Try.zr2 : zro Try.prog 2 = some ([.int .i64 0]) := by kernel_rfl
@[go_sem] theorem Try.tk3 : tk Try.prog 3 = .int .i64 := by kernel_rfl
@[go_sem] theorem Try.sz3 : sz Try.prog 3 = some 1 := by kernel_rfl
@[go_sem] theorem Try.by3 : by' Try.prog 3 = some 8 := by kernel_rfl
@[go_sem] theorem Try.un3 : (Try.prog.underlying 3).isSome = true := by kernel_rfl
@[go_sem] theorem Try.zr3 : zro Try.prog 3 = some ([.int .i64 0]) := by kernel_rfl
@[go_sem] theorem Try.tk4 : tk Try.prog 4 = .bool := by kernel_rfl
@[go_sem] theorem Try.sz4 : sz Try.prog 4 = some 1 := by kernel_rfl
@[go_sem] theorem Try.by4 : by' Try.prog 4 = some 1 := by kernel_rfl
@[go_sem] theorem Try.un4 : (Try.prog.underlying 4).isSome = true := by kernel_rfl
@[go_sem] theorem Try.zr4 : zro Try.prog 4 = some ([.bool false]) := by kernel_rfl
@[go_sem] theorem Try.tk5 : tk Try.prog 5 = .int .u8 := by kernel_rfl
@[go_sem] theorem Try.sz5 : sz Try.prog 5 = some 1 := by kernel_rfl
@[go_sem] theorem Try.by5 : by' Try.prog 5 = some 1 := by kernel_rfl
@[go_sem] theorem Try.un5 : (Try.prog.underlying 5).isSome = true := by kernel_rfl
@[go_sem] theorem Try.zr5 : zro Try.prog 5 = some ([.int .u8 0]) := by kernel_rfl
@[go_sem] theorem Try.tk6 : tk Try.prog 6 = .int .u8 := by kernel_rfl
@[go_sem] theorem Try.sz6 : sz Try.prog 6 = some 1 := by kernel_rfl
@[go_sem] theorem Try.by6 : by' Try.prog 6 = some 1 := by kernel_rfl
@[go_sem] theorem Try.un6 : (Try.prog.underlying 6).isSome = true := by kernel_rfl
@[go_sem] theorem Try.zr6 : zro Try.prog 6 = some ([.int .u8 0]) := by kernel_rfl
@[go_sem] theorem Try.tk7 : tk Try.prog 7 = .struct [(0, 2), (1, 3), (2, 4), (3, 6)] := by kernel_rfl
@[go_sem] theorem Try.sz7 : sz Try.prog 7 = some 4 := by kernel_rfl
@[go_sem] theorem Try.by7 : by' Try.prog 7 = some 24 := by kernel_rfl
@[go_sem] theorem Try.eq7 : eqOk Try.prog 7 = true := by kernel_rfl
@[go_sem] theorem Try.zr7 : zro Try.prog 7 = some ([.int .i64 0, .int .i64 0, .bool false, .int .u8 0]) := by kernel_rfl
@[go_sem] theorem Try.tk8 : tk Try.prog 8 = .struct [(0, 2), (1, 3), (2, 4), (3, 6)] := by kernel_rfl
@[go_sem] theorem Try.sz8 : sz Try.prog 8 = some 4 := by kernel_rfl
@[go_sem] theorem Try.by8 : by' Try.prog 8 = some 24 := by kernel_rfl
@[go_sem] theorem Try.eq8 : eqOk Try.prog 8 = true := by kernel_rfl
@[go_sem] theorem Try.zr8 : zro Try.prog 8 = some ([.int .i64 0, .int .i64 0, .bool false, .int .u8 0]) := by kernel_rfl
@[go_sem] theorem Try.tk9 : tk Try.prog 9 = .str := by kernel_rfl
@[go_sem] theorem Try.sz9 : sz Try.prog 9 = some 1 := by kernel_rfl
@[go_sem] theorem Try.by9 : by' Try.prog 9 = some 16 := by kernel_rfl
@[go_sem] theorem Try.un9 : (Try.prog.underlying 9).isSome = true := by kernel_rfl
@[go_sem] theorem Try.zr9 : zro Try.prog 9 = some ([.string ⟨#[]⟩]) := by kernel_rfl
@[go_sem] theorem Try.tk10 : tk Try.prog 10 = .str := by kernel_rfl
@[go_sem] theorem Try.sz10 : sz Try.prog 10 = some 1 := by kernel_rfl
@[go_sem] theorem Try.by10 : by' Try.prog 10 = some 16 := by kernel_rfl
@[go_sem] theorem Try.un10 : (Try.prog.underlying 10).isSome = true := by kernel_rfl
@[go_sem] theorem Try.zr10 : zro Try.prog 10 = some ([.string ⟨#[]⟩]) := by kernel_rfl
@[go_sem] theorem Try.tk11 : tk Try.prog 11 = .str := by kernel_rfl
@[go_sem] theorem Try.sz11 : sz Try.prog 11 = some 1 := by kernel_rfl
@[go_sem] theorem Try.by11 : by' Try.prog 11 = some 16 := by kernel_rfl
@[go_sem] theorem Try.un11 : (Try.prog.underlying 11).isSome = true := by kernel_rfl
@[go_sem] theorem Try.zr11 : zro Try.prog 11 = some ([.string ⟨#[]⟩]) := by kernel_rfl
@[go_sem] theorem Try.tk12 : tk Try.prog 12 = .int .u64 := by kernel_rfl
@[go_sem] theorem Try.sz12 : sz Try.prog 12 = some 1 := by kernel_rfl
@[go_sem] theorem Try.by12 : by' Try.prog 12 = some 8 := by kernel_rfl
@[go_sem] theorem Try.un12 : (Try.prog.underlying 12).isSome = true := by kernel_rfl
@[go_sem] theorem Try.zr12 : zro Try.prog 12 = some ([.int .u64 0]) := by kernel_rfl
@[go_sem] theorem Try.tk13 : tk Try.prog 13 = .struct [(0, 9), (1, 12)] := by kernel_rfl
@[go_sem] theorem Try.sz13 : sz Try.prog 13 = some 2 := by kernel_rfl
@[go_sem] theorem Try.by13 : by' Try.prog 13 = some 24 := by kernel_rfl
@[go_sem] theorem Try.zr13 : zro Try.prog 13 = some ([.string ⟨#[]⟩, .int .u64 0]) := by kernel_rfl
@[go_sem] theorem Try.tk14 : tk Try.prog 14 = .struct [(0, 9), (1, 12)] := by kernel_rfl
@[go_sem] theorem Try.sz14 : sz Try.prog 14 = some 2 := by kernel_rfl
@[go_sem] theorem Try.by14 : by' Try.prog 14 = some 24 := by kernel_rfl
@[go_sem] theorem Try.zr14 : zro Try.prog 14 = some ([.string ⟨#[]⟩, .int .u64 0]) := by kernel_rfl
@[go_sem] theorem Try.tk15 : tk Try.prog 15 = .ptr 160 := by kernel_rfl
@[go_sem] theorem Try.sz15 : sz Try.prog 15 = some 1 := by kernel_rfl
@[go_sem] theorem Try.by15 : by' Try.prog 15 = some 8 := by kernel_rfl
@[go_sem] theorem Try.zr15 : zro Try.prog 15 = some ([.pointer none]) := by kernel_rfl
@[go_sem] theorem Try.tk16 : tk Try.prog 16 = .ptr 163 := by kernel_rfl
@[go_sem] theorem Try.sz16 : sz Try.prog 16 = some 1 := by kernel_rfl
@[go_sem] theorem Try.by16 : by' Try.prog 16 = some 8 := by kernel_rfl
@[go_sem] theorem Try.zr16 : zro Try.prog 16 = some ([.pointer none]) := by kernel_rfl
@[go_sem] theorem Try.tk17 : tk Try.prog 17 = .ptr 172 := by kernel_rfl
@[go_sem] theorem Try.sz17 : sz Try.prog 17 = some 1 := by kernel_rfl
@[go_sem] theorem Try.by17 : by' Try.prog 17 = some 8 := by kernel_rfl
@[go_sem] theorem Try.zr17 : zro Try.prog 17 = some ([.pointer none]) := by kernel_rfl
@[go_sem] theorem Try.tk18 : tk Try.prog 18 = .struct [(0, 17)] := by kernel_rfl
@[go_sem] theorem Try.sz18 : sz Try.prog 18 = some 1 := by kernel_rfl
@[go_sem] theorem Try.by18 : by' Try.prog 18 = some 8 := by kernel_rfl
@[go_sem] theorem Try.zr18 : zro Try.prog 18 = some ([.pointer none]) := by kernel_rfl
@[go_sem] theorem Try.tk19 : tk Try.prog 19 = .struct [(0, 17)] := by kernel_rfl
@[go_sem] theorem Try.sz19 : sz Try.prog 19 = some 1 := by kernel_rfl
@[go_sem] theorem Try.by19 : by' Try.prog 19 = some 8 := by kernel_rfl
@[go_sem] theorem Try.zr19 : zro Try.prog 19 = some ([.pointer none]) := by kernel_rfl
@[go_sem] theorem Try.tk20 : tk Try.prog 20 = .iface := by kernel_rfl
@[go_sem] theorem Try.sz20 : sz Try.prog 20 = some 1 := by kernel_rfl
@[go_sem] theorem Try.by20 : by' Try.prog 20 = some 16 := by kernel_rfl
@[go_sem] theorem Try.zr20 : zro Try.prog 20 = some ([.nilIface]) := by kernel_rfl
@[go_sem] theorem Try.tk21 : tk Try.prog 21 = .int .i32 := by kernel_rfl
@[go_sem] theorem Try.sz21 : sz Try.prog 21 = some 1 := by kernel_rfl
@[go_sem] theorem Try.by21 : by' Try.prog 21 = some 4 := by kernel_rfl
@[go_sem] theorem Try.un21 : (Try.prog.underlying 21).isSome = true := by kernel_rfl
@[go_sem] theorem Try.zr21 : zro Try.prog 21 = some ([.int .i32 0]) := by kernel_rfl
@[go_sem] theorem Try.tk22 : tk Try.prog 22 = .slice 3 := by kernel_rfl
@[go_sem] theorem Try.sz22 : sz Try.prog 22 = some 1 := by kernel_rfl
@[go_sem] theorem Try.by22 : by' Try.prog 22 = some 24 := by kernel_rfl
@[go_sem] theorem Try.zr22 : zro Try.prog 22 = some ([.slice none 0 0]) := by kernel_rfl
@[go_sem] theorem Try.tk23 : tk Try.prog 23 = .func := by kernel_rfl
@[go_sem] theorem Try.sz23 : sz Try.prog 23 = some 1 := by kernel_rfl
@[go_sem] theorem Try.by23 : by' Try.prog 23 = some 8 := by kernel_rfl
@[go_sem] theorem Try.zr23 : zro Try.prog 23 = some ([.nilFunc]) := by kernel_rfl
@[go_sem] theorem Try.tk24 : tk Try.prog 24 = .ptr 146 := by kernel_rfl
@[go_sem] theorem Try.sz24 : sz Try.prog 24 = some 1 := by kernel_rfl
@[go_sem] theorem Try.by24 : by' Try.prog 24 = some 8 := by kernel_rfl
@[go_sem] theorem Try.zr24 : zro Try.prog 24 = some ([.pointer none]) := by kernel_rfl
@[go_sem] theorem Try.tk25 : tk Try.prog 25 = .struct [(0, 24)] := by kernel_rfl
@[go_sem] theorem Try.sz25 : sz Try.prog 25 = some 1 := by kernel_rfl
@[go_sem] theorem Try.by25 : by' Try.prog 25 = some 8 := by kernel_rfl
@[go_sem] theorem Try.zr25 : zro Try.prog 25 = some ([.pointer none]) := by kernel_rfl
@[go_sem] theorem Try.tk26 : tk Try.prog 26 = .struct [(0, 24)] := by kernel_rfl
@[go_sem] theorem Try.sz26 : sz Try.prog 26 = some 1 := by kernel_rfl
@[go_sem] theorem Try.by26 : by' Try.prog 26 = some 8 := by kernel_rfl
@[go_sem] theorem Try.zr26 : zro Try.prog 26 = some ([.pointer none]) := by kernel_rfl
@[go_sem] theorem Try.tk27 : tk Try.prog 27 = .map 3 3 := by kernel_rfl
@[go_sem] theorem Try.sz27 : sz Try.prog 27 = some 1 := by kernel_rfl
@[go_sem] theorem Try.by27 : by' Try.prog 27 = some 8 := by kernel_rfl
@[go_sem] theorem Try.zr27 : zro Try.prog 27 = some ([.map none]) := by kernel_rfl
@[go_sem] theorem Try.tk28 : tk Try.prog 28 = .func := by kernel_rfl
@[go_sem] theorem Try.sz28 : sz Try.prog 28 = some 1 := by kernel_rfl
@[go_sem] theorem Try.by28 : by' Try.prog 28 = some 8 := by kernel_rfl
@[go_sem] theorem Try.zr28 : zro Try.prog 28 = some ([.nilFunc]) := by kernel_rfl
@[go_sem] theorem Try.tk29 : tk Try.prog 29 = .func := by kernel_rfl
@[go_sem] theorem Try.sz29 : sz Try.prog 29 = some 1 := by kernel_rfl
@[go_sem] theorem Try.by29 : by' Try.prog 29 = some 8 := by kernel_rfl
@[go_sem] theorem Try.zr29 : zro Try.prog 29 = some ([.nilFunc]) := by kernel_rfl
@[go_sem] theorem Try.tk30 : tk Try.prog 30 = .func := by kernel_rfl
@[go_sem] theorem Try.sz30 : sz Try.prog 30 = some 1 := by kernel_rfl
@[go_sem] theorem Try.by30 : by' Try.prog 30 = some 8 := by kernel_rfl
@[go_sem] theorem Try.zr30 : zro Try.prog 30 = some ([.nilFunc]) := by kernel_rfl
@[go_sem] theorem Try.tk31 : tk Try.prog 31 = .func := by kernel_rfl
@[go_sem] theorem Try.sz31 : sz Try.prog 31 = some 1 := by kernel_rfl
@[go_sem] theorem Try.by31 : by' Try.prog 31 = some 8 := by kernel_rfl
@[go_sem] theorem Try.zr31 : zro Try.prog 31 = some ([.nilFunc]) := by kernel_rfl
@[go_sem] theorem Try.tk32 : tk Try.prog 32 = .func := by kernel_rfl
@[go_sem] theorem Try.sz32 : sz Try.prog 32 = some 1 := by kernel_rfl
@[go_sem] theorem Try.by32 : by' Try.prog 32 = some 8 := by kernel_rfl
@[go_sem] theorem Try.zr32 : zro Try.prog 32 = some ([.nilFunc]) := by kernel_rfl
@[go_sem] theorem Try.tk33 : tk Try.prog 33 = .slice 36 := by kernel_rfl
@[go_sem] theorem Try.sz33 : sz Try.prog 33 = some 1 := by kernel_rfl
@[go_sem] theorem Try.by33 : by' Try.prog 33 = some 24 := by kernel_rfl
@[go_sem] theorem Try.zr33 : zro Try.prog 33 = some ([.slice none 0 0]) := by kernel_rfl
@[go_sem] theorem Try.tk34 : tk Try.prog 34 = .int .u16 := by kernel_rfl
@[go_sem] theorem Try.sz34 : sz Try.prog 34 = some 1 := by kernel_rfl
@[go_sem] theorem Try.by34 : by' Try.prog 34 = some 2 := by kernel_rfl
@[go_sem] theorem Try.un34 : (Try.prog.underlying 34).isSome = true := by kernel_rfl
@[go_sem] theorem Try.zr34 : zro Try.prog 34 = some ([.int .u16 0]) := by kernel_rfl
@[go_sem] theorem Try.tk35 : tk Try.prog 35 = .struct [(0, 5), (1, 34), (2, 3)] := by kernel_rfl
@[go_sem] theorem Try.sz35 : sz Try.prog 35 = some 3 := by kernel_rfl
@[go_sem] theorem Try.by35 : by' Try.prog 35 = some 16 := by kernel_rfl
@[go_sem] theorem Try.eq35 : eqOk Try.prog 35 = true := by kernel_rfl
@[go_sem] theorem Try.zr35 : zro Try.prog 35 = some ([.int .u8 0, .int .u16 0, .int .i64 0]) := by kernel_rfl
@[go_sem] theorem Try.tk36 : tk Try.prog 36 = .struct [(0, 5), (1, 34), (2, 3)] := by kernel_rfl
@[go_sem] theorem Try.sz36 : sz Try.prog 36 = some 3 := by kernel_rfl
@[go_sem] theorem Try.by36 : by' Try.prog 36 = some 16 := by kernel_rfl
@[go_sem] theorem Try.eq36 : eqOk Try.prog 36 = true := by kernel_rfl
@[go_sem] theorem Try.zr36 : zro Try.prog 36 = some ([.int .u8 0, .int .u16 0, .int .i64 0]) := by kernel_rfl
@[go_sem] theorem Try.tk37 : tk Try.prog 37 = .ptr 113 := by kernel_rfl
@[go_sem] theorem Try.sz37 : sz Try.prog 37 = some 1 := by kernel_rfl
@[go_sem] theorem Try.by37 : by' Try.prog 37 = some 8 := by kernel_rfl
@[go_sem] theorem Try.zr37 : zro Try.prog 37 = some ([.pointer none]) := by kernel_rfl
@[go_sem] theorem Try.tk38 : tk Try.prog 38 = .func := by kernel_rfl
@[go_sem] theorem Try.sz38 : sz Try.prog 38 = some 1 := by kernel_rfl
@[go_sem] theorem Try.by38 : by' Try.prog 38 = some 8 := by kernel_rfl
@[go_sem] theorem Try.zr38 : zro Try.prog 38 = some ([.nilFunc]) := by kernel_rfl
@[go_sem] theorem Try.tk39 : tk Try.prog 39 = .struct [(0, 22), (1, 3)] := by kernel_rfl
@[go_sem] theorem Try.sz39 : sz Try.prog 39 = some 2 := by kernel_rfl
@[go_sem] theorem Try.by39 : by' Try.prog 39 = some 32 := by kernel_rfl
@[go_sem] theorem Try.zr39 : zro Try.prog 39 = some ([.slice none 0 0, .int .i64 0]) := by kernel_rfl
@[go_sem] theorem Try.tk40 : tk Try.prog 40 = .struct [(0, 22), (1, 3)] := by kernel_rfl
@[go_sem] theorem Try.sz40 : sz Try.prog 40 = some 2 := by kernel_rfl
@[go_sem] theorem Try.by40 : by' Try.prog 40 = some 32 := by kernel_rfl
@[go_sem] theorem Try.zr40 : zro Try.prog 40 = some ([.slice none 0 0, .int .i64 0]) := by kernel_rfl
@[go_sem] theorem Try.tk41 : tk Try.prog 41 = .int .i64 := by kernel_rfl
@[go_sem] theorem Try.sz41 : sz Try.prog 41 = some 1 := by kernel_rfl
@[go_sem] theorem Try.by41 : by' Try.prog 41 = some 8 := by kernel_rfl
@[go_sem] theorem Try.un41 : (Try.prog.underlying 41).isSome = true := by kernel_rfl
@[go_sem] theorem Try.zr41 : zro Try.prog 41 = some ([.int .i64 0]) := by kernel_rfl
@[go_sem] theorem Try.tk42 : tk Try.prog 42 = .func := by kernel_rfl
@[go_sem] theorem Try.sz42 : sz Try.prog 42 = some 1 := by kernel_rfl
@[go_sem] theorem Try.by42 : by' Try.prog 42 = some 8 := by kernel_rfl
@[go_sem] theorem Try.zr42 : zro Try.prog 42 = some ([.nilFunc]) := by kernel_rfl
@[go_sem] theorem Try.tk44 : tk Try.prog 44 = .func := by kernel_rfl
@[go_sem] theorem Try.sz44 : sz Try.prog 44 = some 1 := by kernel_rfl
@[go_sem] theorem Try.by44 : by' Try.prog 44 = some 8 := by kernel_rfl
@[go_sem] theorem Try.zr44 : zro Try.prog 44 = some ([.nilFunc]) := by kernel_rfl
@[go_sem] theorem Try.tk45 : tk Try.prog 45 = .func := by kernel_rfl
@[go_sem] theorem Try.sz45 : sz Try.prog 45 = some 1 := by kernel_rfl
@[go_sem] theorem Try.by45 : by' Try.prog 45 = some 8 := by kernel_rfl
@[go_sem] theorem Try.zr45 : zro Try.prog 45 = some ([.nilFunc]) := by kernel_rfl
@[go_sem] theorem Try.tk46 : tk Try.prog 46 = .func := by kernel_rfl
@[go_sem] theorem Try.sz46 : sz Try.prog 46 = some 1 := by kernel_rfl
@[go_sem] theorem Try.by46 : by' Try.prog 46 = some 8 := by kernel_rfl
@[go_sem] theorem Try.zr46 : zro Try.prog 46 = some ([.nilFunc]) := by kernel_rfl
@[go_sem] theorem Try.tk47 : tk Try.prog 47 = .func := by kernel_rfl
@[go_sem] theorem Try.sz47 : sz Try.prog 47 = some 1 := by kernel_rfl
@[go_sem] theorem Try.by47 : by' Try.prog 47 = some 8 := by kernel_rfl
@[go_sem] theorem Try.zr47 : zro Try.prog 47 = some ([.nilFunc]) := by kernel_rfl
@[go_sem] theorem Try.tk48 : tk Try.prog 48 = .func := by kernel_rfl
@[go_sem] theorem Try.sz48 : sz Try.prog 48 = some 1 := by kernel_rfl
@[go_sem] theorem Try.by48 : by' Try.prog 48 = some 8 := by kernel_rfl
@[go_sem] theorem Try.zr48 : zro Try.prog 48 = some ([.nilFunc]) := by kernel_rfl
@[go_sem] theorem Try.tk50 : tk Try.prog 50 = .func := by kernel_rfl
@[go_sem] theorem Try.sz50 : sz Try.prog 50 = some 1 := by kernel_rfl
@[go_sem] theorem Try.by50 : by' Try.prog 50 = some 8 := by kernel_rfl
@[go_sem] theorem Try.zr50 : zro Try.prog 50 = some ([.nilFunc]) := by kernel_rfl
@[go_sem] theorem Try.tk51 : tk Try.prog 51 = .func := by kernel_rfl
@[go_sem] theorem Try.sz51 : sz Try.prog 51 = some 1 := by kernel_rfl
@[go_sem] theorem Try.by51 : by' Try.prog 51 = some 8 := by kernel_rfl
@[go_sem] theorem Try.zr51 : zro Try.prog 51 = some ([.nilFunc]) := by kernel_rfl
@[go_sem] theorem Try.tk52 : tk Try.prog 52 = .slice 67 := by kernel_rfl
@[go_sem] theorem Try.sz52 : sz Try.prog 52 = some 1 := by kernel_rfl
@[go_sem] theorem Try.by52 : by' Try.prog 52 = some 24 := by kernel_rfl
@[go_sem] theorem Try.zr52 : zro Try.prog 52 = some ([.slice none 0 0]) := by kernel_rfl
@[go_sem] theorem Try.tk53 : tk Try.prog 53 = .ptr 117 := by kernel_rfl
@[go_sem] theorem Try.sz53 : sz Try.prog 53 = some 1 := by kernel_rfl
@[go_sem] theorem Try.by53 : by' Try.prog 53 = some 8 := by kernel_rfl
@[go_sem] theorem Try.zr53 : zro Try.prog 53 = some ([.pointer none]) := by kernel_rfl
@[go_sem] theorem Try.tk55 : tk Try.prog 55 = .func := by kernel_rfl
@[go_sem] theorem Try.sz55 : sz Try.prog 55 = some 1 := by kernel_rfl
@[go_sem] theorem Try.by55 : by' Try.prog 55 = some 8 := by kernel_rfl
@[go_sem] theorem Try.zr55 : zro Try.prog 55 = some ([.nilFunc]) := by kernel_rfl
@[go_sem] theorem Try.tk56 : tk Try.prog 56 = .slice 22 := by kernel_rfl
@[go_sem] theorem Try.sz56 : sz Try.prog 56 = some 1 := by kernel_rfl
@[go_sem] theorem Try.by56 : by' Try.prog 56 = some 24 := by kernel_rfl
@[go_sem] theorem Try.zr56 : zro Try.prog 56 = some ([.slice none 0 0]) := by kernel_rfl
@[go_sem] theorem Try.tk57 : tk Try.prog 57 = .struct [(0, 22), (1, 56)] := by kernel_rfl
@[go_sem] theorem Try.sz57 : sz Try.prog 57 = some 2 := by kernel_rfl
@[go_sem] theorem Try.by57 : by' Try.prog 57 = some 48 := by kernel_rfl
@[go_sem] theorem Try.zr57 : zro Try.prog 57 = some ([.slice none 0 0, .slice none 0 0]) := by kernel_rfl
@[go_sem] theorem Try.tk58 : tk Try.prog 58 = .struct [(0, 22), (1, 56)] := by kernel_rfl
@[go_sem] theorem Try.sz58 : sz Try.prog 58 = some 2 := by kernel_rfl
@[go_sem] theorem Try.by58 : by' Try.prog 58 = some 48 := by kernel_rfl
@[go_sem] theorem Try.zr58 : zro Try.prog 58 = some ([.slice none 0 0, .slice none 0 0]) := by kernel_rfl
@[go_sem] theorem Try.tk60 : tk Try.prog 60 = .func := by kernel_rfl
@[go_sem] theorem Try.sz60 : sz Try.prog 60 = some 1 := by kernel_rfl
@[go_sem] theorem Try.by60 : by' Try.prog 60 = some 8 := by kernel_rfl
@[go_sem] theorem Try.zr60 : zro Try.prog 60 = some ([.nilFunc]) := by kernel_rfl
@[go_sem] theorem Try.tk62 : tk Try.prog 62 = .func := by kernel_rfl
@[go_sem] theorem Try.sz62 : sz Try.prog 62 = some 1 := by kernel_rfl
@[go_sem] theorem Try.by62 : by' Try.prog 62 = some 8 := by kernel_rfl
@[go_sem] theorem Try.zr62 : zro Try.prog 62 = some ([.nilFunc]) := by kernel_rfl
@[go_sem] theorem Try.tk64 : tk Try.prog 64 = .func := by kernel_rfl
@[go_sem] theorem Try.sz64 : sz Try.prog 64 = some 1 := by kernel_rfl
@[go_sem] theorem Try.by64 : by' Try.prog 64 = some 8 := by kernel_rfl
@[go_sem] theorem Try.zr64 : zro Try.prog 64 = some ([.nilFunc]) := by kernel_rfl
@[go_sem] theorem Try.tk65 : tk Try.prog 65 = .func := by kernel_rfl
@[go_sem] theorem Try.sz65 : sz Try.prog 65 = some 1 := by kernel_rfl
@[go_sem] theorem Try.by65 : by' Try.prog 65 = some 8 := by kernel_rfl
@[go_sem] theorem Try.zr65 : zro Try.prog 65 = some ([.nilFunc]) := by kernel_rfl
@[go_sem] theorem Try.tk66 : tk Try.prog 66 = .struct [(0, 5), (1, 3), (2, 3)] := by kernel_rfl
@[go_sem] theorem Try.sz66 : sz Try.prog 66 = some 3 := by kernel_rfl
@[go_sem] theorem Try.by66 : by' Try.prog 66 = some 24 := by kernel_rfl
@[go_sem] theorem Try.eq66 : eqOk Try.prog 66 = true := by kernel_rfl
@[go_sem] theorem Try.zr66 : zro Try.prog 66 = some ([.int .u8 0, .int .i64 0, .int .i64 0]) := by kernel_rfl
@[go_sem] theorem Try.tk67 : tk Try.prog 67 = .struct [(0, 5), (1, 3), (2, 3)] := by kernel_rfl
@[go_sem] theorem Try.sz67 : sz Try.prog 67 = some 3 := by kernel_rfl
@[go_sem] theorem Try.by67 : by' Try.prog 67 = some 24 := by kernel_rfl
@[go_sem] theorem Try.eq67 : eqOk Try.prog 67 = true := by kernel_rfl
@[go_sem] theorem Try.zr67 : zro Try.prog 67 = some ([.int .u8 0, .int .i64 0, .int .i64 0]) := by kernel_rfl
@[go_sem] theorem Try.tk69 : tk Try.prog 69 = .func := by kernel_rfl
@[go_sem] theorem Try.sz69 : sz Try.prog 69 = some 1 := by kernel_rfl
@[go_sem] theorem Try.by69 : by' Try.prog 69 = some 8 := by kernel_rfl
@[go_sem] theorem Try.zr69 : zro Try.prog 69 = some ([.nilFunc]) := by kernel_rfl
@[go_sem] theorem Try.tk70 : tk Try.prog 70 = .func := by kernel_rfl
@[go_sem] theorem Try.sz70 : sz Try.prog 70 = some 1 := by kernel_rfl
@[go_sem] theorem Try.by70 : by' Try.prog 70 = some 8 := by kernel_rfl
@[go_sem] theorem Try.zr70 : zro Try.prog 70 = some ([.nilFunc]) := by kernel_rfl
@[go_sem] theorem Try.tk71 : tk Try.prog 71 = .func := by kernel_rfl
@[go_sem] theorem Try.sz71 : sz Try.prog 71 = some 1 := by kernel_rfl
@[go_sem] theorem Try.by71 : by' Try.prog 71 = some 8 := by kernel_rfl
@[go_sem] theorem Try.zr71 : zro Try.prog 71 = some ([.nilFunc]) := by kernel_rfl
@[go_sem] theorem Try.tk72 : tk Try.prog 72 = .func := by kernel_rfl
@[go_sem] theorem Try.sz72 : sz Try.prog 72 = some 1 := by kernel_rfl
@[go_sem] theorem Try.by72 : by' Try.prog 72 = some 8 := by kernel_rfl
@[go_sem] theorem Try.zr72 : zro Try.prog 72 = some ([.nilFunc]) := by kernel_rfl
@[go_sem] theorem Try.tk73 : tk Try.prog 73 = .func := by kernel_rfl
@[go_sem] theorem Try.sz73 : sz Try.prog 73 = some 1 := by kernel_rfl
@[go_sem] theorem Try.by73 : by' Try.prog 73 = some 8 := by kernel_rfl
@[go_sem] theorem Try.zr73 : zro Try.prog 73 = some ([.nilFunc]) := by kernel_rfl
@[go_sem] theorem Try.tk74 : tk Try.prog 74 = .func := by kernel_rfl
@[go_sem] theorem Try.sz74 : sz Try.prog 74 = some 1 := by kernel_rfl
@[go_sem] theorem Try.by74 : by' Try.prog 74 = some 8 := by kernel_rfl
@[go_sem] theorem Try.zr74 : zro Try.prog 74 = some ([.nilFunc]) := by kernel_rfl
@[go_sem] theorem Try.tk75 : tk Try.prog 75 = .slice 76 := by kernel_rfl
@[go_sem] theorem Try.sz75 : sz Try.prog 75 = some 1 := by kernel_rfl
@[go_sem] theorem Try.by75 : by' Try.prog 75 = some 24 := by kernel_rfl
@[go_sem] theorem Try.zr75 : zro Try.prog 75 = some ([.slice none 0 0]) := by kernel_rfl
@[go_sem] theorem Try.tk76 : tk Try.prog 76 = .arr 2 5 := by kernel_rfl
@[go_sem] theorem Try.sz76 : sz Try.prog 76 = some 2 := by kernel_rfl
@[go_sem] theorem Try.by76 : by' Try.prog 76 = some 2 := by kernel_rfl
@[go_sem] theorem Try.eq76 : eqOk Try.prog 76 = true := by kernel_rfl
@[go_sem] theorem Try.zr76 : zro Try.prog 76 = some ([.int .u8 0, .int .u8 0]) := by kernel_rfl
@[go_sem] theorem Try.tk77 : tk Try.prog 77 = .func := by kernel_rfl
@[go_sem] theorem Try.sz77 : sz Try.prog 77 = some 1 := by kernel_rfl
@[go_sem] theorem Try.by77 : by' Try.prog 77 = some 8 := by kernel_rfl
@[go_sem] theorem Try.zr77 : zro Try.prog 77 = some ([.nilFunc]) := by kernel_rfl
@[go_sem] theorem Try.tk78 : tk Try.prog 78 = .slice 85 := by kernel_rfl
@[go_sem] theorem Try.sz78 : sz Try.prog 78 = some 1 := by kernel_rfl
@[go_sem] theorem Try.by78 : by' Try.prog 78 = some 24 := by kernel_rfl
@[go_sem] theorem Try.zr78 : zro Try.prog 78 = some ([.slice none 0 0]) := by kernel_rfl
@[go_sem] theorem Try.tk79 : tk Try.prog 79 = .func := by kernel_rfl
@[go_sem] theorem Try.sz79 : sz Try.prog 79 = some 1 := by kernel_rfl
@[go_sem] theorem Try.by79 : by' Try.prog 79 = some 8 := by kernel_rfl
@[go_sem] theorem Try.zr79 : zro Try.prog 79 = some ([.nilFunc]) := by kernel_rfl
@[go_sem] theorem Try.tk80 : tk Try.prog 80 = .ptr 143 := by kernel_rfl
@[go_sem] theorem Try.sz80 : sz Try.prog 80 = some 1 := by kernel_rfl
@[go_sem] theorem Try.by80 : by' Try.prog 80 = some 8 := by kernel_rfl
@[go_sem] theorem Try.zr80 : zro Try.prog 80 = some ([.pointer none]) := by kernel_rfl
@[go_sem] theorem Try.tk81 : tk Try.prog 81 = .struct [(0, 80)] := by kernel_rfl
@[go_sem] theorem Try.sz81 : sz Try.prog 81 = some 1 := by kernel_rfl
@[go_sem] theorem Try.by81 : by' Try.prog 81 = some 8 := by kernel_rfl
@[go_sem] theorem Try.zr81 : zro Try.prog 81 = some ([.pointer none]) := by kernel_rfl
@[go_sem] theorem Try.tk82 : tk Try.prog 82 = .struct [(0, 80)] := by kernel_rfl
@[go_sem] theorem Try.sz82 : sz Try.prog 82 = some 1 := by kernel_rfl
@[go_sem] theorem Try.by82 : by' Try.prog 82 = some 8 := by kernel_rfl
@[go_sem] theorem Try.zr82 : zro Try.prog 82 = some ([.pointer none]) := by kernel_rfl
@[go_sem] theorem Try.tk83 : tk Try.prog 83 = .slice 82 := by kernel_rfl
@[go_sem] theorem Try.sz83 : sz Try.prog 83 = some 1 := by kernel_rfl
@[go_sem] theorem Try.by83 : by' Try.prog 83 = some 24 := by kernel_rfl
@[go_sem] theorem Try.zr83 : zro Try.prog 83 = some ([.slice none 0 0]) := by kernel_rfl
@[go_sem] theorem Try.tk84 : tk Try.prog 84 = .struct [(0, 5), (1, 5), (2, 5), (3, 9), (4, 3)] := by kernel_rfl
@[go_sem] theorem Try.sz84 : sz Try.prog 84 = some 5 := by kernel_rfl
@[go_sem] theorem Try.by84 : by' Try.prog 84 = some 32 := by kernel_rfl
@[go_sem] theorem Try.eq84 : eqOk Try.prog 84 = true := by kernel_rfl
@[go_sem] theorem Try.zr84 : zro Try.prog 84 = some ([.int .u8 0, .int .u8 0, .int .u8 0, .string ⟨#[]⟩, .int .i64 0]) := by kernel_rfl
@[go_sem] theorem Try.tk85 : tk Try.prog 85 = .struct [(0, 5), (1, 5), (2, 5), (3, 9), (4, 3)] := by kernel_rfl
@[go_sem] theorem Try.sz85 : sz Try.prog 85 = some 5 := by kernel_rfl
@[go_sem] theorem Try.by85 : by' Try.prog 85 = some 32 := by kernel_rfl
@[go_sem] theorem Try.eq85 : eqOk Try.prog 85 = true := by kernel_rfl
@[go_sem] theorem Try.zr85 : zro Try.prog 85 = some ([.int .u8 0, .int .u8 0, .int .u8 0, .string ⟨#[]⟩, .int .i64 0]) := by kernel_rfl
@[go_sem] theorem Try.tk86 : tk Try.prog 86 = .func := by kernel_rfl
@[go_sem] theorem Try.sz86 : sz Try.prog 86 = some 1 := by kernel_rfl
@[go_sem] theorem Try.by86 : by' Try.prog 86 = some 8 := by kernel_rfl
@[go_sem] theorem Try.zr86 : zro Try.prog 86 = some ([.nilFunc]) := by kernel_rfl
@[go_sem] theorem Try.tk87 : tk Try.prog 87 = .slice 88 := by kernel_rfl
@[go_sem] theorem Try.sz87 : sz Try.prog 87 = some 1 := by kernel_rfl
@[go_sem] theorem Try.by87 : by' Try.prog 87 = some 24 := by kernel_rfl
@[go_sem] theorem Try.zr87 : zro Try.prog 87 = some ([.slice none 0 0]) := by kernel_rfl
@[go_sem] theorem Try.tk88 : tk Try.prog 88 = .slice 97 := by kernel_rfl
@[go_sem] theorem Try.sz88 : sz Try.prog 88 = some 1 := by kernel_rfl
@[go_sem] theorem Try.by88 : by' Try.prog 88 = some 24 := by kernel_rfl
@[go_sem] theorem Try.zr88 : zro Try.prog 88 = some ([.slice none 0 0]) := by kernel_rfl
@[go_sem] theorem Try.tk89 : tk Try.prog 89 = .func := by kernel_rfl
@[go_sem] theorem Try.sz89 : sz Try.prog 89 = some 1 := by kernel_rfl
@[go_sem] theorem Try.by89 : by' Try.prog 89 = some 8 := by kernel_rfl
@[go_sem] theorem Try.zr89 : zro Try.prog 89 = some ([.nilFunc]) := by kernel_rfl
@[go_sem] theorem Try.tk90 : tk Try.prog 90 = .func := by kernel_rfl
@[go_sem] theorem Try.sz90 : sz Try.prog 90 = some 1 := by kernel_rfl
@[go_sem] theorem Try.by90 : by' Try.prog 90 = some 8 := by kernel_rfl
@[go_sem] theorem Try.zr90 : zro Try.prog 90 = some ([.nilFunc]) := by kernel_rfl
@[go_sem] theorem Try.tk92 : tk Try.prog 92 = .func := by kernel_rfl
@[go_sem] theorem Try.sz92 : sz Try.prog 92 = some 1 := by kernel_rfl
@[go_sem] theorem Try.by92 : by' Try.prog 92 = some 8 := by kernel_rfl
@[go_sem] theorem Try.zr92 : zro Try.prog 92 = some ([.nilFunc]) := by kernel_rfl
@[go_sem] theorem Try.tk94 : tk Try.prog 94 = .func := by kernel_rfl
@[go_sem] theorem Try.sz94 : sz Try.prog 94 = some 1 := by kernel_rfl
@[go_sem] theorem Try.by94 : by' Try.prog 94 = some 8 := by kernel_rfl
@[go_sem] theorem Try.zr94 : zro Try.prog 94 = some ([.nilFunc]) := by kernel_rfl
@[go_sem] theorem Try.tk95 : tk Try.prog 95 = .func := by kernel_rfl
@[go_sem] theorem Try.sz95 : sz Try.prog 95 = some 1 := by kernel_rfl
@[go_sem] theorem Try.by95 : by' Try.prog 95 = some 8 := by kernel_rfl
@[go_sem] theorem Try.zr95 : zro Try.prog 95 = some ([.nilFunc]) := by kernel_rfl
@[go_sem] theorem Try.tk96 : tk Try.prog 96 = .struct [(0, 9), (1, 3)] := by kernel_rfl
@[go_sem] theorem Try.sz96 : sz Try.prog 96 = some 2 := by kernel_rfl
@[go_sem] theorem Try.by96 : by' Try.prog 96 = some 24 := by kernel_rfl
@[go_sem] theorem Try.eq96 : eqOk Try.prog 96 = true := by kernel_rfl
@[go_sem] theorem Try.zr96 : zro Try.prog 96 = some ([.string ⟨#[]⟩, .int .i64 0]) := by kernel_rfl
@[go_sem] theorem Try.tk97 : tk Try.prog 97 = .struct [(0, 9), (1, 3)] := by kernel_rfl
@[go_sem] theorem Try.sz97 : sz Try.prog 97 = some 2 := by kernel_rfl
@[go_sem] theorem Try.by97 : by' Try.prog 97 = some 24 := by kernel_rfl
@[go_sem] theorem Try.eq97 : eqOk Try.prog 97 = true := by kernel_rfl
@[go_sem] theorem Try.zr97 : zro Try.prog 97 = some ([.string ⟨#[]⟩, .int .i64 0]) := by kernel_rfl
@[go_sem] theorem Try.tk98 : tk Try.prog 98 = .func := by kernel_rfl
@[go_sem] theorem Try.sz98 : sz Try.prog 98 = some 1 := by kernel_rfl
@[go_sem] theorem Try.by98 : by' Try.prog 98 = some 8 := by kernel_rfl
@[go_sem] theorem Try.zr98 : zro Try.prog 98 = some ([.nilFunc]) := by kernel_rfl
@[go_sem] theorem Try.tk99 : tk Try.prog 99 = .func := by kernel_rfl
@[go_sem] theorem Try.sz99 : sz Try.prog 99 = some 1 := by kernel_rfl
@[go_sem] theorem Try.by99 : by' Try.prog 99 = some 8 := by kernel_rfl
@[go_sem] theorem Try.zr99 : zro Try.prog 99 = some ([.nilFunc]) := by kernel_rfl
@[go_sem] theorem Try.tk101 : tk Try.prog 101 = .func := by kernel_rfl
@[go_sem] theorem Try.sz101 : sz Try.prog 101 = some 1 := by kernel_rfl
@[go_sem] theorem Try.by101 : by' Try.prog 101 = some 8 := by kernel_rfl
@[go_sem] theorem Try.zr101 : zro Try.prog 101 = some ([.nilFunc]) := by kernel_rfl
@[go_sem] theorem Try.tk102 : tk Try.prog 102 = .func := by kernel_rfl
@[go_sem] theorem Try.sz102 : sz Try.prog 102 = some 1 := by kernel_rfl
@[go_sem] theorem Try.by102 : by' Try.prog 102 = some 8 := by kernel_rfl
@[go_sem] theorem Try.zr102 : zro Try.prog 102 = some ([.nilFunc]) := by kernel_rfl
@[go_sem] theorem Try.tk103 : tk Try.prog 103 = .func := by kernel_rfl
@[go_sem] theorem Try.sz103 : sz Try.prog 103 = some 1 := by kernel_rfl
@[go_sem] theorem Try.by103 : by' Try.prog 103 = some 8 := by kernel_rfl
@[go_sem] theorem Try.zr103 : zro Try.prog 103 = some ([.nilFunc]) := by kernel_rfl
@[go_sem] theorem Try.tk105 : tk Try.prog 105 = .func := by kernel_rfl
@[go_sem] theorem Try.sz105 : sz Try.prog 105 = some 1 := by kernel_rfl
@[go_sem] theorem Try.by105 : by' Try.prog 105 = some 8 := by kernel_rfl
@[go_sem] theorem Try.zr105 : zro Try.prog 105 = some ([.nilFunc]) := by kernel_rfl
@[go_sem] theorem Try.tk106 : tk Try.prog 106 = .func := by kernel_rfl
@[go_sem] theorem Try.sz106 : sz Try.prog 106 = some 1 := by kernel_rfl
@[go_sem] theorem Try.by106 : by' Try.prog 106 = some 8 := by kernel_rfl
@[go_sem] theorem Try.zr106 : zro Try.prog 106 = some ([.nilFunc]) := by kernel_rfl
@[go_sem] theorem Try.tk107 : tk Try.prog 107 = .func := by kernel_rfl
@[go_sem] theorem Try.sz107 : sz Try.prog 107 = some 1 := by kernel_rfl
@[go_sem] theorem Try.by107 : by' Try.prog 107 = some 8 := by kernel_rfl
@[go_sem] theorem Try.zr107 : zro Try.prog 107 = some ([.nilFunc]) := by kernel_rfl
@[go_sem] theorem Try.tk108 : tk Try.prog 108 = .func := by kernel_rfl
@[go_sem] theorem Try.sz108 : sz Try.prog 108 = some 1 := by kernel_rfl
@[go_sem] theorem Try.by108 : by' Try.prog 108 = some 8 := by kernel_rfl
@[go_sem] theorem Try.zr108 : zro Try.prog 108 = some ([.nilFunc]) := by kernel_rfl
@[go_sem] theorem Try.tk109 : tk Try.prog 109 = .func := by kernel_rfl
@[go_sem] theorem Try.sz109 : sz Try.prog 109 = some 1 := by kernel_rfl
@[go_sem] theorem Try.by109 : by' Try.prog 109 = some 8 := by kernel_rfl
@[go_sem] theorem Try.zr109 : zro Try.prog 109 = some ([.nilFunc]) := by kernel_rfl
@[go_sem] theorem Try.tk110 : tk Try.prog 110 = .struct [(0, 22)] := by kernel_rfl
@[go_sem] theorem Try.sz110 : sz Try.prog 110 = some 1 := by kernel_rfl
@[go_sem] theorem Try.by110 : by' Try.prog 110 = some 24 := by kernel_rfl
@[go_sem] theorem Try.zr110 : zro Try.prog 110 = some ([.slice none 0 0]) := by kernel_rfl
@[go_sem] theorem Try.tk111 : tk Try.prog 111 = .struct [(0, 22)] := by kernel_rfl
@[go_sem] theorem Try.sz111 : sz Try.prog 111 = some 1 := by kernel_rfl
@[go_sem] theorem Try.by111 : by' Try.prog 111 = some 24 := by kernel_rfl
@[go_sem] theorem Try.zr111 : zro Try.prog 111 = some ([.slice none 0 0]) := by kernel_rfl
@[go_sem] theorem Try.tk112 : tk Try.prog 112 = .struct [(0, 111), (1, 3)] := by kernel_rfl
@[go_sem] theorem Try.sz112 : sz Try.prog 112 = some 2 := by kernel_rfl
@[go_sem] theorem Try.by112 : by' Try.prog 112 = some 32 := by kernel_rfl
@[go_sem] theorem Try.zr112 : zro Try.prog 112 = some ([.slice none 0 0, .int .i64 0]) := by kernel_rfl
@[go_sem] theorem Try.tk113 : tk Try.prog 113 = .struct [(0, 111), (1, 3)] := by kernel_rfl
@[go_sem] theorem Try.sz113 : sz Try.prog 113 = some 2 := by kernel_rfl
@[go_sem] theorem Try.by113 : by' Try.prog 113 = some 32 := by kernel_rfl
@[go_sem] theorem Try.zr113 : zro Try.prog 113 = some ([.slice none 0 0, .int .i64 0]) := by kernel_rfl
@[go_sem] theorem Try.tk114 : tk Try.prog 114 = .func := by kernel_rfl
@[go_sem] theorem Try.sz114 : sz Try.prog 114 = some 1 := by kernel_rfl
@[go_sem] theorem Try.by114 : by' Try.prog 114 = some 8 := by kernel_rfl
@[go_sem] theorem Try.zr114 : zro Try.prog 114 = some ([.nilFunc]) := by kernel_rfl
@[go_sem] theorem Try.tk115 : tk Try.prog 115 = .slice 121 := by kernel_rfl
@[go_sem] theorem Try.sz115 : sz Try.prog 115 = some 1 := by kernel_rfl
@[go_sem] theorem Try.by115 : by' Try.prog 115 = some 24 := by kernel_rfl
@[go_sem] theorem Try.zr115 : zro Try.prog 115 = some ([.slice none 0 0]) := by kernel_rfl
@[go_sem] theorem Try.tk116 : tk Try.prog 116 = .struct [(0, 22), (1, 22), (2, 22), (3, 115)] := by kernel_rfl
@[go_sem] theorem Try.sz116 : sz Try.prog 116 = some 4 := by kernel_rfl
@[go_sem] theorem Try.by116 : by' Try.prog 116 = some 96 := by kernel_rfl
@[go_sem] theorem Try.zr116 : zro Try.prog 116 = some ([.slice none 0 0, .slice none 0 0, .slice none 0 0, .slice none 0 0]) := by kernel_rfl
@[go_sem] theorem Try.tk117 : tk Try.prog 117 = .struct [(0, 22), (1, 22), (2, 22), (3, 115)] := by kernel_rfl
@[go_sem] theorem Try.sz117 : sz Try.prog 117 = some 4 := by kernel_rfl
@[go_sem] theorem Try.by117 : by' Try.prog 117 = some 96 := by kernel_rfl
@[go_sem] theorem Try.zr117 : zro Try.prog 117 = some ([.slice none 0 0, .slice none 0 0, .slice none 0 0, .slice none 0 0]) := by kernel_rfl
@[go_sem] theorem Try.tk118 : tk Try.prog 118 = .func := by kernel_rfl
@[go_sem] theorem Try.sz118 : sz Try.prog 118 = some 1 := by kernel_rfl
@[go_sem] theorem Try.by118 : by' Try.prog 118 = some 8 := by kernel_rfl
@[go_sem] theorem Try.zr118 : zro Try.prog 118 = some ([.nilFunc]) := by kernel_rfl
@[go_sem] theorem Try.tk119 : tk Try.prog 119 = .func := by kernel_rfl
@[go_sem] theorem Try.sz119 : sz Try.prog 119 = some 1 := by kernel_rfl
@[go_sem] theorem Try.by119 : by' Try.prog 119 = some 8 := by kernel_rfl
@[go_sem] theorem Try.zr119 : zro Try.prog 119 = some ([.nilFunc]) := by kernel_rfl
@[go_sem] theorem Try.tk120 : tk Try.prog 120 = .struct [(0, 3), (1, 3), (2, 3), (3, 3)] := by kernel_rfl
@[go_sem] theorem Try.sz120 : sz Try.prog 120 = some 4 := by kernel_rfl
@[go_sem] theorem Try.by120 : by' Try.prog 120 = some 32 := by kernel_rfl
@[go_sem] theorem Try.eq120 : eqOk Try.prog 120 = true := by kernel_rfl
@[go_sem] theorem Try.zr120 : zro Try.prog 120 = some ([.int .i64 0, .int .i64 0, .int .i64 0, .int .i64 0]) := by kernel_rfl
@[go_sem] theorem Try.tk121 : tk Try.prog 121 = .struct [(0, 3), (1, 3), (2, 3), (3, 3)] := by kernel_rfl
@[go_sem] theorem Try.sz121 : sz Try.prog 121 = some 4 := by kernel_rfl
@[go_sem] theorem Try.by121 : by' Try.prog 121 = some 32 := by kernel_rfl
@[go_sem] theorem Try.eq121 : eqOk Try.prog 121 = true := by kernel_rfl
@[go_sem] theorem Try.zr121 : zro Try.prog 121 = some ([.int .i64 0, .int .i64 0, .int .i64 0, .int .i64 0]) := by kernel_rfl
@[go_sem] theorem Try.tk122 : tk Try.prog 122 = .func := by kernel_rfl
@[go_sem] theorem Try.sz122 : sz Try.prog 122 = some 1 := by kernel_rfl
@[go_sem] theorem Try.by122 : by' Try.prog 122 = some 8 := by kernel_rfl
@[go_sem] theorem Try.zr122 : zro Try.prog 122 = some ([.nilFunc]) := by kernel_rfl
@[go_sem] theorem Try.tk123 : tk Try.prog 123 = .func := by kernel_rfl
@[go_sem] theorem Try.sz123 : sz Try.prog 123 = some 1 := by kernel_rfl
@[go_sem] theorem Try.by123 : by' Try.prog 123 = some 8 := by kernel_rfl
@[go_sem] theorem Try.zr123 : zro Try.prog 123 = some ([.nilFunc]) := by kernel_rfl
@[go_sem] theorem Try.tk124 : tk Try.prog 124 = .func := by kernel_rfl
@[go_sem] theorem Try.sz124 : sz Try.prog 124 = some 1 := by kernel_rfl
@[go_sem] theorem Try.by124 : by' Try.prog 124 = some 8 := by kernel_rfl
@[go_sem] theorem Try.zr124 : zro Try.prog 124 = some ([.nilFunc]) := by kernel_rfl
@[go_sem] theorem Try.tk125 : tk Try.prog 125 = .func := by kernel_rfl
@[go_sem] theorem Try.sz125 : sz Try.prog 125 = some 1 := by kernel_rfl
@[go_sem] theorem Try.by125 : by' Try.prog 125 = some 8 := by kernel_rfl
@[go_sem] theorem Try.zr125 : zro Try.prog 125 = some ([.nilFunc]) := by kernel_rfl
@[go_sem] theorem Try.tk127 : tk Try.prog 127 = .func := by kernel_rfl
@[go_sem] theorem Try.sz127 : sz Try.prog 127 = some 1 := by kernel_rfl
@[go_sem] theorem Try.by127 : by' Try.prog 127 = some 8 := by kernel_rfl
@[go_sem] theorem Try.zr127 : zro Try.prog 127 = some ([.nilFunc]) := by kernel_rfl
@[go_sem] theorem Try.tk128 : tk Try.prog 128 = .func := by kernel_rfl
@[go_sem] theorem Try.sz128 : sz Try.prog 128 = some 1 := by kernel_rfl
@[go_sem] theorem Try.by128 : by' Try.prog 128 = some 8 := by kernel_rfl
@[go_sem] theorem Try.zr128 : zro Try.prog 128 = some ([.nilFunc]) := by kernel_rfl
@[go_sem] theorem Try.tk129 : tk Try.prog 129 = .func := by kernel_rfl
@[go_sem] theorem Try.sz129 : sz Try.prog 129 = some 1 := by kernel_rfl
@[go_sem] theorem Try.by129 : by' Try.prog 129 = some 8 := by kernel_rfl
@[go_sem] theorem Try.zr129 : zro Try.prog 129 = some ([.nilFunc]) := by kernel_rfl
@[go_sem] theorem Try.tk131 : tk Try.prog 131 = .func := by kernel_rfl
@[go_sem] theorem Try.sz131 : sz Try.prog 131 = some 1 := by kernel_rfl
@[go_sem] theorem Try.by131 : by' Try.prog 131 = some 8 := by kernel_rfl
@[go_sem] theorem Try.zr131 : zro Try.prog 131 = some ([.nilFunc]) := by kernel_rfl
@[go_sem] theorem Try.tk132 : tk Try.prog 132 = .func := by kernel_rfl
@[go_sem] theorem Try.sz132 : sz Try.prog 132 = some 1 := by kernel_rfl
@[go_sem] theorem Try.by132 : by' Try.prog 132 = some 8 := by kernel_rfl
@[go_sem] theorem Try.zr132 : zro Try.prog 132 = some ([.nilFunc]) := by kernel_rfl
@[go_sem] theorem Try.tk133 : tk Try.prog 133 = .func := by kernel_rfl
@[go_sem] theorem Try.sz133 : sz Try.prog 133 = some 1 := by kernel_rfl
@[go_sem] theorem Try.by133 : by' Try.prog 133 = some 8 := by kernel_rfl
@[go_sem] theorem Try.zr133 : zro Try.prog 133 = some ([.nilFunc]) := by kernel_rfl
@[go_sem] theorem Try.tk135 : tk Try.prog 135 = .func := by kernel_rfl
@[go_sem] theorem Try.sz135 : sz Try.prog 135 = some 1 := by kernel_rfl
@[go_sem] theorem Try.by135 : by' Try.prog 135 = some 8 := by kernel_rfl
@[go_sem] theorem Try.zr135 : zro Try.prog 135 = some ([.nilFunc]) := by kernel_rfl
@[go_sem] theorem Try.tk136 : tk Try.prog 136 = .func := by kernel_rfl
@[go_sem] theorem Try.sz136 : sz Try.prog 136 = some 1 := by kernel_rfl
@[go_sem] theorem Try.by136 : by' Try.prog 136 = some 8 := by kernel_rfl
@[go_sem] theorem Try.zr136 : zro Try.prog 136 = some ([.nilFunc]) := by kernel_rfl
@[go_sem] theorem Try.tk137 : tk Try.prog 137 = .func := by kernel_rfl
@[go_sem] theorem Try.sz137 : sz Try.prog 137 = some 1 := by kernel_rfl
@[go_sem] theorem Try.by137 : by' Try.prog 137 = some 8 := by kernel_rfl
@[go_sem] theorem Try.zr137 : zro Try.prog 137 = some ([.nilFunc]) := by kernel_rfl
@[go_sem] theorem Try.tk138 : tk Try.prog 138 = .func := by kernel_rfl
@[go_sem] theorem Try.sz138 : sz Try.prog 138 = some 1 := by kernel_rfl
@[go_sem] theorem Try.by138 : by' Try.prog 138 = some 8 := by kernel_rfl
@[go_sem] theorem Try.zr138 : zro Try.prog 138 = some ([.nilFunc]) := by kernel_rfl
@[go_sem] theorem Try.tk139 : tk Try.prog 139 = .func := by kernel_rfl
@[go_sem] theorem Try.sz139 : sz Try.prog 139 = some 1 := by kernel_rfl
@[go_sem] theorem Try.by139 : by' Try.prog 139 = some 8 := by kernel_rfl
@[go_sem] theorem Try.zr139 : zro Try.prog 139 = some ([.nilFunc]) := by kernel_rfl
@[go_sem] theorem Try.tk141 : tk Try.prog 141 = .func := by kernel_rfl
@[go_sem] theorem Try.sz141 : sz Try.prog 141 = some 1 := by kernel_rfl
@[go_sem] theorem Try.by141 : by' Try.prog 141 = some 8 := by kernel_rfl
@[go_sem] theorem Try.zr141 : zro Try.prog 141 = some ([.nilFunc]) := by kernel_rfl
@[go_sem] theorem Try.tk142 : tk Try.prog 142 = .struct [(0, 9), (1, 3), (2, 80), (3, 80), (4, 3), (5, 3)] := by kernel_rfl
@[go_sem] theorem Try.sz142 : sz Try.prog 142 = some 6 := by kernel_rfl
@[go_sem] theorem Try.by142 : by' Try.prog 142 = some 56 := by kernel_rfl
@[go_sem] theorem Try.zr142 : zro Try.prog 142 = some ([.string ⟨#[]⟩, .int .i64 0, .pointer none, .pointer none, .int .i64 0, .int .i64 0]) := by kernel_rfl
@[go_sem] theorem Try.tk143 : tk Try.prog 143 = .struct [(0, 9), (1, 3), (2, 80), (3, 80), (4, 3), (5, 3)] := by kernel_rfl
@[go_sem] theorem Try.sz143 : sz Try.prog 143 = some 6 := by kernel_rfl
@[go_sem] theorem Try.by143 : by' Try.prog 143 = some 56 := by kernel_rfl
@[go_sem] theorem Try.zr143 : zro Try.prog 143 = some ([.string ⟨#[]⟩, .int .i64 0, .pointer none, .pointer none, .int .i64 0, .int .i64 0]) := by kernel_rfl
@[go_sem] theorem Try.tk144 : tk Try.prog 144 = .func := by kernel_rfl
@[go_sem] theorem Try.sz144 : sz Try.prog 144 = some 1 := by kernel_rfl
@[go_sem] theorem Try.by144 : by' Try.prog 144 = some 8 := by kernel_rfl
@[go_sem] theorem Try.zr144 : zro Try.prog 144 = some ([.nilFunc]) := by kernel_rfl
@[go_sem] theorem Try.tk145 : tk Try.prog 145 = .struct [(0, 3), (1, 3), (2, 24), (3, 24), (4, 3), (5, 3)] := by kernel_rfl
@[go_sem] theorem Try.sz145 : sz Try.prog 145 = some 6 := by kernel_rfl
@[go_sem] theorem Try.by145 : by' Try.prog 145 = some 48 := by kernel_rfl
@[go_sem] theorem Try.zr145 : zro Try.prog 145 = some ([.int .i64 0, .int .i64 0, .pointer none, .pointer none, .int .i64 0, .int .i64 0]) := by kernel_rfl
@[go_sem] theorem Try.tk146 : tk Try.prog 146 = .struct [(0, 3), (1, 3), (2, 24), (3, 24), (4, 3), (5, 3)] := by kernel_rfl
@[go_sem] theorem Try.sz146 : sz Try.prog 146 = some 6 := by kernel_rfl
@[go_sem] theorem Try.by146 : by' Try.prog 146 = some 48 := by kernel_rfl
@[go_sem] theorem Try.zr146 : zro Try.prog 146 = some ([.int .i64 0, .int .i64 0, .pointer none, .pointer none, .int .i64 0, .int .i64 0]) := by kernel_rfl
@[go_sem] theorem Try.tk147 : tk Try.prog 147 = .func := by kernel_rfl
@[go_sem] theorem Try.sz147 : sz Try.prog 147 = some 1 := by kernel_rfl
@[go_sem] theorem Try.by147 : by' Try.prog 147 = some 8 := by kernel_rfl
@[go_sem] theorem Try.zr147 : zro Try.prog 147 = some ([.nilFunc]) := by kernel_rfl
@[go_sem] theorem Try.tk148 : tk Try.prog 148 = .func := by kernel_rfl
@[go_sem] theorem Try.sz148 : sz Try.prog 148 = some 1 := by kernel_rfl
@[go_sem] theorem Try.by148 : by' Try.prog 148 = some 8 := by kernel_rfl
@[go_sem] theorem Try.zr148 : zro Try.prog 148 = some ([.nilFunc]) := by kernel_rfl
@[go_sem] theorem Try.tk149 : tk Try.prog 149 = .func := by kernel_rfl
@[go_sem] theorem Try.sz149 : sz Try.prog 149 = some 1 := by kernel_rfl
@[go_sem] theorem Try.by149 : by' Try.prog 149 = some 8 := by kernel_rfl
@[go_sem] theorem Try.zr149 : zro Try.prog 149 = some ([.nilFunc]) := by kernel_rfl
@[go_sem] theorem Try.tk150 : tk Try.prog 150 = .ptr 111 := by kernel_rfl
@[go_sem] theorem Try.sz150 : sz Try.prog 150 = some 1 := by kernel_rfl
@[go_sem] theorem Try.by150 : by' Try.prog 150 = some 8 := by kernel_rfl
@[go_sem] theorem Try.zr150 : zro Try.prog 150 = some ([.pointer none]) := by kernel_rfl
@[go_sem] theorem Try.tk151 : tk Try.prog 151 = .func := by kernel_rfl
@[go_sem] theorem Try.sz151 : sz Try.prog 151 = some 1 := by kernel_rfl
@[go_sem] theorem Try.by151 : by' Try.prog 151 = some 8 := by kernel_rfl
@[go_sem] theorem Try.zr151 : zro Try.prog 151 = some ([.nilFunc]) := by kernel_rfl
@[go_sem] theorem Try.tk152 : tk Try.prog 152 = .func := by kernel_rfl
@[go_sem] theorem Try.sz152 : sz Try.prog 152 = some 1 := by kernel_rfl
@[go_sem] theorem Try.by152 : by' Try.prog 152 = some 8 := by kernel_rfl
@[go_sem] theorem Try.zr152 : zro Try.prog 152 = some ([.nilFunc]) := by kernel_rfl
@[go_sem] theorem Try.tk153 : tk Try.prog 153 = .func := by kernel_rfl
@[go_sem] theorem Try.sz153 : sz Try.prog 153 = some 1 := by kernel_rfl
@[go_sem] theorem Try.by153 : by' Try.prog 153 = some 8 := by kernel_rfl
@[go_sem] theorem Try.zr153 : zro Try.prog 153 = some ([.nilFunc]) := by kernel_rfl
@[go_sem] theorem Try.tk154 : tk Try.prog 154 = .func := by kernel_rfl
@[go_sem] theorem Try.sz154 : sz Try.prog 154 = some 1 := by kernel_rfl
@[go_sem] theorem Try.by154 : by' Try.prog 154 = some 8 := by kernel_rfl
@[go_sem] theorem Try.zr154 : zro Try.prog 154 = some ([.nilFunc]) := by kernel_rfl
@[go_sem] theorem Try.tk155 : tk Try.prog 155 = .func := by kernel_rfl
@[go_sem] theorem Try.sz155 : sz Try.prog 155 = some 1 := by kernel_rfl
@[go_sem] theorem Try.by155 : by' Try.prog 155 = some 8 := by kernel_rfl
@[go_sem] theorem Try.zr155 : zro Try.prog 155 = some ([.nilFunc]) := by kernel_rfl
@[go_sem] theorem Try.tk156 : tk Try.prog 156 = .func := by kernel_rfl
@[go_sem] theorem Try.sz156 : sz Try.prog 156 = some 1 := by kernel_rfl
@[go_sem] theorem Try.by156 : by' Try.prog 156 = some 8 := by kernel_rfl
@[go_sem] theorem Try.zr156 : zro Try.prog 156 = some ([.nilFunc]) := by kernel_rfl
@[go_sem] theorem Try.tk157 : tk Try.prog 157 = .func := by kernel_rfl
@[go_sem] theorem Try.sz157 : sz Try.prog 157 = some 1 := by kernel_rfl
@[go_sem] theorem Try.by157 : by' Try.prog 157 = some 8 := by kernel_rfl
@[go_sem] theorem Try.zr157 : zro Try.prog 157 = some ([.nilFunc]) := by kernel_rfl
@[go_sem] theorem Try.tk158 : tk Try.prog 158 = .func := by kernel_rfl
@[go_sem] theorem Try.sz158 : sz Try.prog 158 = some 1 := by kernel_rfl
@[go_sem] theorem Try.by158 : by' Try.prog 158 = some 8 := by kernel_rfl
@[go_sem] theorem Try.zr158 : zro Try.prog 158 = some ([.nilFunc]) := by kernel_rfl
@[go_sem] theorem Try.tk159 : tk Try.prog 159 = .struct [(0, 17), (1, 17), (2, 17), (3, 9)] := by kernel_rfl
@[go_sem] theorem Try.sz159 : sz Try.prog 159 = some 4 := by kernel_rfl
@[go_sem] theorem Try.by159 : by' Try.prog 159 = some 40 := by kernel_rfl
@[go_sem] theorem Try.zr159 : zro Try.prog 159 = some ([.pointer none, .pointer none, .pointer none, .string ⟨#[]⟩]) := by kernel_rfl
@[go_sem] theorem Try.tk160 : tk Try.prog 160 = .struct [(0, 17), (1, 17), (2, 17), (3, 9)] := by kernel_rfl
@[go_sem] theorem Try.sz160 : sz Try.prog 160 = some 4 := by kernel_rfl
@[go_sem] theorem Try.by160 : by' Try.prog 160 = some 40 := by kernel_rfl
@[go_sem] theorem Try.zr160 : zro Try.prog 160 = some ([.pointer none, .pointer none, .pointer none, .string ⟨#[]⟩]) := by kernel_rfl
@[go_sem] theorem Try.tk161 : tk Try.prog 161 = .arr 0 16 := by kernel_rfl
@[go_sem] theorem Try.sz161 : sz Try.prog 161 = some 0 := by kernel_rfl
@[go_sem] theorem Try.by161 : by' Try.prog 161 = some 0 := by kernel_rfl
@[go_sem] theorem Try.zr161 : zro Try.prog 161 = some ([]) := by kernel_rfl
@[go_sem] theorem Try.tk162 : tk Try.prog 162 = .struct [(0, 161)] := by kernel_rfl
@[go_sem] theorem Try.sz162 : sz Try.prog 162 = some 0 := by kernel_rfl
@[go_sem] theorem Try.by162 : by' Try.prog 162 = some 0 := by kernel_rfl
@[go_sem] theorem Try.zr162 : zro Try.prog 162 = some ([]) := by kernel_rfl
@[go_sem] theorem Try.tk163 : tk Try.prog 163 = .struct [(0, 161)] := by kernel_rfl
@[go_sem] theorem Try.sz163 : sz Try.prog 163 = some 0 := by kernel_rfl
@[go_sem] theorem Try.by163 : by' Try.prog 163 = some 0 := by kernel_rfl
@[go_sem] theorem Try.zr163 : zro Try.prog 163 = some ([]) := by kernel_rfl
@[go_sem] theorem Try.tk164 : tk Try.prog 164 = .int .u32 := by kernel_rfl
@[go_sem] theorem Try.sz164 : sz Try.prog 164 = some 1 := by kernel_rfl
@[go_sem] theorem Try.by164 : by' Try.prog 164 = some 4 := by kernel_rfl
@[go_sem] theorem Try.un164 : (Try.prog.underlying 164).isSome = true := by kernel_rfl
@[go_sem] theorem Try.zr164 : zro Try.prog 164 = some ([.int .u32 0]) := by kernel_rfl
@[go_sem] theorem Try.tk165 : tk Try.prog 165 = .int .u8 := by kernel_rfl
@[go_sem] theorem Try.sz165 : sz Try.prog 165 = some 1 := by kernel_rfl
@[go_sem] theorem Try.by165 : by' Try.prog 165 = some 1 := by kernel_rfl
@[go_sem] theorem Try.un165 : (Try.prog.underlying 165).isSome = true := by kernel_rfl
@[go_sem] theorem Try.zr165 : zro Try.prog 165 = some ([.int .u8 0]) := by kernel_rfl
@[go_sem] theorem Try.tk166 : tk Try.prog 166 = .int .u8 := by kernel_rfl
@[go_sem] theorem Try.sz166 : sz Try.prog 166 = some 1 := by kernel_rfl
@[go_sem] theorem Try.by166 : by' Try.prog 166 = some 1 := by kernel_rfl
@[go_sem] theorem Try.un166 : (Try.prog.underlying 166).isSome = true := by kernel_rfl
@[go_sem] theorem Try.zr166 : zro Try.prog 166 = some ([.int .u8 0]) := by kernel_rfl
@[go_sem] theorem Try.tk167 : tk Try.prog 167 = .func := by kernel_rfl
@[go_sem] theorem Try.sz167 : sz Try.prog 167 = some 1 := by kernel_rfl
@[go_sem] theorem Try.by167 : by' Try.prog 167 = some 8 := by kernel_rfl
@[go_sem] theorem Try.zr167 : zro Try.prog 167 = some ([.nilFunc]) := by kernel_rfl
@[go_sem] theorem Try.tk168 : tk Try.prog 168 = .ptr 5 := by kernel_rfl
@[go_sem] theorem Try.sz168 : sz Try.prog 168 = some 1 := by kernel_rfl
@[go_sem] theorem Try.by168 : by' Try.prog 168 = some 8 := by kernel_rfl
@[go_sem] theorem Try.zr168 : zro Try.prog 168 = some ([.pointer none]) := by kernel_rfl
@[go_sem] theorem Try.tk169 : tk Try.prog 169 = .int .i32 := by kernel_rfl
@[go_sem] theorem Try.sz169 : sz Try.prog 169 = some 1 := by kernel_rfl
@[go_sem] theorem Try.by169 : by' Try.prog 169 = some 4 := by kernel_rfl
@[go_sem] theorem Try.un169 : (Try.prog.underlying 169).isSome = true := by kernel_rfl
@[go_sem] theorem Try.zr169 : zro Try.prog 169 = some ([.int .i32 0]) := by kernel_rfl
@[go_sem] theorem Try.tk170 : tk Try.prog 170 = .int .i32 := by kernel_rfl
@[go_sem] theorem Try.sz170 : sz Try.prog 170 = some 1 := by kernel_rfl
@[go_sem] theorem Try.by170 : by' Try.prog 170 = some 4 := by kernel_rfl
@[go_sem] theorem Try.un170 : (Try.prog.underlying 170).isSome = true := by kernel_rfl
@[go_sem] theorem Try.zr170 : zro Try.prog 170 = some ([.int .i32 0]) := by kernel_rfl
@[go_sem] theorem Try.tk171 : tk Try.prog 171 = .struct [(0, 12), (1, 12), (2, 164), (3, 165), (4, 5), (5, 5), (6, 166), (7, 167), (8, 168), (9, 169), (10, 170)] := by kernel_rfl
@[go_sem] theorem Try.sz171 : sz Try.prog 171 = some 11 := by kernel_rfl
@[go_sem] theorem Try.by171 : by' Try.prog 171 = some 48 := by kernel_rfl
@[go_sem] theorem Try.zr171 : zro Try.prog 171 = some ([.int .u64 0, .int .u64 0, .int .u32 0, .int .u8 0, .int .u8 0, .int .u8 0, .int .u8 0, .nilFunc, .pointer none, .int .i32 0, .int .i32 0]) := by kernel_rfl
@[go_sem] theorem Try.tk172 : tk Try.prog 172 = .struct [(0, 12), (1, 12), (2, 164), (3, 165), (4, 5), (5, 5), (6, 166), (7, 167), (8, 168), (9, 169), (10, 170)] := by kernel_rfl
@[go_sem] theorem Try.sz172 : sz Try.prog 172 = some 11 := by kernel_rfl
@[go_sem] theorem Try.by172 : by' Try.prog 172 = some 48 := by kernel_rfl
@[go_sem] theorem Try.zr172 : zro Try.prog 172 = some ([.int .u64 0, .int .u64 0, .int .u32 0, .int .u8 0, .int .u8 0, .int .u8 0, .int .u8 0, .nilFunc, .pointer none, .int .i32 0, .int .i32 0]) := by kernel_rfl
@[go_sem] theorem Try.tk173 : tk Try.prog 173 = .func := by kernel_rfl
@[go_sem] theorem Try.sz173 : sz Try.prog 173 = some 1 := by kernel_rfl
@[go_sem] theorem Try.by173 : by' Try.prog 173 = some 8 := by kernel_rfl
@[go_sem] theorem Try.zr173 : zro Try.prog 173 = some ([.nilFunc]) := by kernel_rfl
@[go_sem] theorem Try.tk174 : tk Try.prog 174 = .func := by kernel_rfl
@[go_sem] theorem Try.sz174 : sz Try.prog 174 = some 1 := by kernel_rfl
@[go_sem] theorem Try.by174 : by' Try.prog 174 = some 8 := by kernel_rfl
@[go_sem] theorem Try.zr174 : zro Try.prog 174 = some ([.nilFunc]) := by kernel_rfl
@[go_sem] theorem Try.tk175 : tk Try.prog 175 = .func := by kernel_rfl
@[go_sem] theorem Try.sz175 : sz Try.prog 175 = some 1 := by kernel_rfl
@[go_sem] theorem Try.by175 : by' Try.prog 175 = some 8 := by kernel_rfl
@[go_sem] theorem Try.zr175 : zro Try.prog 175 = some ([.nilFunc]) := by kernel_rfl
@[go_sem] theorem Try.tk176 : tk Try.prog 176 = .func := by kernel_rfl
@[go_sem] theorem Try.sz176 : sz Try.prog 176 = some 1 := by kernel_rfl
@[go_sem] theorem Try.by176 : by' Try.prog 176 = some 8 := by kernel_rfl
@[go_sem] theorem Try.zr176 : zro Try.prog 176 = some ([.nilFunc]) := by kernel_rfl
@[go_sem] theorem Try.tk177 : tk Try.prog 177 = .func := by kernel_rfl
@[go_sem] theorem Try.sz177 : sz Try.prog 177 = some 1 := by kernel_rfl
@[go_sem] theorem Try.by177 : by' Try.prog 177 = some 8 := by kernel_rfl
@[go_sem] theorem Try.zr177 : zro Try.prog 177 = some ([.nilFunc]) := by kernel_rfl
@[go_sem] theorem Try.tk178 : tk Try.prog 178 = .func := by kernel_rfl
@[go_sem] theorem Try.sz178 : sz Try.prog 178 = some 1 := by kernel_rfl
@[go_sem] theorem Try.by178 : by' Try.prog 178 = some 8 := by kernel_rfl
@[go_sem] theorem Try.zr178 : zro Try.prog 178 = some ([.nilFunc]) := by kernel_rfl
@[go_sem] theorem Try.tk179 : tk Try.prog 179 = .other := by kernel_rfl
@[go_sem] theorem Try.sz179 : sz Try.prog 179 = some 1 := by kernel_rfl
@[go_sem] theorem Try.by179 : by' Try.prog 179 = some 8 := by kernel_rfl
@[go_sem] theorem Try.zr179 : zro Try.prog 179 = some ([.pointer none]) := by kernel_rfl
end Go.Proofs.Ytfgffpkdjmeaoaa
end

section
namespace Go.Proofs.Ytfgffpkdjmeaoaa
open Go Go.AL
set_option maxRecDepth 10000
set_option maxHeartbeats 2000000
inductive Tr where
  | nil
  | node (k : List UInt8) (v : Int) (l r : Tr)
namespace Tr
def size : Tr → Nat
  | nil => 0
  | node _ _ l r => size l + size r + 1
def ht : Tr → Nat
  | nil => 0
  | node _ _ l r => max (ht l) (ht r) + 1
theorem ht_le : ∀ t : Tr, t.ht ≤ t.size
  | nil => Nat.le_refl _
  | node _ _ l r => by have := ht_le l; have := ht_le r; simp only [ht, size]; omega
def iv : Tr → IV
  | nil => .v (.pointer none)
  | node k v l r => .pt [Si k, Ii v, iv l, iv r, Ii ((size l + size r + 1 : Nat) : Int), Ii ((max (ht l) (ht r) + 1 : Nat) : Int)]
def key : Tr → List UInt8
  | nil => []
  | node k _ _ _ => k
def val : Tr → Int
  | nil => 0
  | node _ v _ _ => v
def left : Tr → Tr
  | nil => nil
  | node _ _ l _ => l
def right : Tr → Tr
  | nil => nil
  | node _ _ _ r => r
end Tr
abbrev Tv (t : Tr) : AV := .im t.iv
def ltS (a b : List UInt8) : Bool := Op.bytesLess a b
def cmpS (a b : List UInt8) : Int := if ltS a b then -1 else if ltS a b || a == b then 0 else 1
theorem isNaN_spec (a : List UInt8) : PFn Try.prog 86 [Sv a] (Bv false) := by
  refine ACall.walk [0, 2] [] Try.func86 rfl Try.ntmps86 (by kernel_rfl) (by rfl) rfl fun W own I0 φ0 => ?_
  repeat (first | refine xPP rfl ?_ | refine xPE rfl ?_ | refine xEP rfl ?_ | refine xEE rfl ?_ | refine AQ.done ?_ | refine AQ.skip (by kernel_rfl) rfl ?_ | refine AQ.s2b (by kernel_rfl) rfl rfl rfl rfl ?_ | refine AQ.mark (by kernel_rfl) rfl rfl rfl rfl rfl rfl rfl ?_ | refine AP.cond_true rfl rfl ?_ | refine AP.cond_false rfl rfl ?_ | (refine AP.region rfl (by kernel_rfl) ?_; simp only [go_sem, Nat.reduceAdd, Nat.reduceLeDiff, reduceCtorEq, beq_self_eq_true]) | (refine AP.drawQ rfl rfl (by kernel_rfl) ?_; simp only [go_sem, Nat.reduceAdd, Nat.reduceLeDiff, reduceCtorEq, beq_self_eq_true]) | (refine vq_id ?_; simp only [go_sem, Nat.reduceAdd, Nat.reduceLeDiff, reduceCtorEq, beq_self_eq_true]) | (refine ⟨by first | omega | (intros; simp_all; done) | (intros; simp_all; omega), ?_⟩; try simp only [go_sem, Nat.reduceAdd, Nat.reduceLeDiff, reduceCtorEq, beq_self_eq_true]))
  exact AE.ret rfl ⟨rfl, trivial⟩ ⟨rfl, rfl⟩
theorem compare_spec (a b : List UInt8) : PFn Try.prog 76 [Sv a, Sv b] (Iv (cmpS a b)) := by
  refine ACall.walk [0, 1, 4, 5, 6, 11, 12, 13, 16, 19] [] Try.func76 rfl Try.ntmps76 (by kernel_rfl) (by rfl) rfl fun W own I0 φ0 => ?_
  repeat (first | refine xPP rfl ?_ | refine xPE rfl ?_ | refine xEP rfl ?_ | refine xEE rfl ?_ | refine AQ.done ?_ | refine AQ.skip (by kernel_rfl) rfl ?_ | refine AQ.s2b (by kernel_rfl) rfl rfl rfl rfl ?_ | refine AQ.mark (by kernel_rfl) rfl rfl rfl rfl rfl rfl rfl ?_ | refine AP.cond_true rfl rfl ?_ | refine AP.cond_false rfl rfl ?_ | (refine AP.region rfl (by kernel_rfl) ?_; simp only [go_sem, Nat.reduceAdd, Nat.reduceLeDiff, reduceCtorEq]) | (refine AP.drawQ rfl rfl (by kernel_rfl) ?_; simp only [go_sem, Nat.reduceAdd, Nat.reduceLeDiff, reduceCtorEq]) | (refine vq_id ?_; simp only [go_sem, Nat.reduceAdd, Nat.reduceLeDiff, reduceCtorEq]) | (refine ⟨by first | omega | (intros; simp_all; done) | (intros; simp_all; omega), ?_⟩; try simp only [go_sem, Nat.reduceAdd, Nat.reduceLeDiff, reduceCtorEq]))
  refine AQ.fn (by kernel_rfl) rfl rfl rfl (isNaN_spec a) rfl ?_
  repeat (first | refine xPP rfl ?_ | refine xPE rfl ?_ | refine xEP rfl ?_ | refine xEE rfl ?_ | refine AQ.done ?_ | refine AQ.skip (by kernel_rfl) rfl ?_ | refine AQ.s2b (by kernel_rfl) rfl rfl rfl rfl ?_ | refine AQ.mark (by kernel_rfl) rfl rfl rfl rfl rfl rfl rfl ?_ | refine AP.cond_true rfl rfl ?_ | refine AP.cond_false rfl rfl ?_ | (refine AP.region rfl (by kernel_rfl) ?_; simp only [go_sem, Nat.reduceAdd, Nat.reduceLeDiff, reduceCtorEq]) | (refine AP.drawQ rfl rfl (by kernel_rfl) ?_; simp only [go_sem, Nat.reduceAdd, Nat.reduceLeDiff, reduceCtorEq]) | (refine vq_id ?_; simp only [go_sem, Nat.reduceAdd, Nat.reduceLeDiff, reduceCtorEq]) | (refine ⟨by first | omega | (intros; simp_all; done) | (intros; simp_all; omega), ?_⟩; try simp only [go_sem, Nat.reduceAdd, Nat.reduceLeDiff, reduceCtorEq]))
  refine AQ.fn (by kernel_rfl) rfl rfl rfl (isNaN_spec b) rfl ?_
  repeat (first | refine xPP rfl ?_ | refine xPE rfl ?_ | refine xEP rfl ?_ | refine xEE rfl ?_ | refine AQ.done ?_ | refine AQ.skip (by kernel_rfl) rfl ?_ | refine AQ.s2b (by kernel_rfl) rfl rfl rfl rfl ?_ | refine AQ.mark (by kernel_rfl) rfl rfl rfl rfl rfl rfl rfl ?_ | refine AP.cond_true rfl rfl ?_ | refine AP.cond_false rfl rfl ?_ | (refine AP.region rfl (by kernel_rfl) ?_; simp only [go_sem, Nat.reduceAdd, Nat.reduceLeDiff, reduceCtorEq]) | (refine AP.drawQ rfl rfl (by kernel_rfl) ?_; simp only [go_sem, Nat.reduceAdd, Nat.reduceLeDiff, reduceCtorEq]) | (refine vq_id ?_; simp only [go_sem, Nat.reduceAdd, Nat.reduceLeDiff, reduceCtorEq]) | (refine ⟨by first | omega | (intros; simp_all; done) | (intros; simp_all; omega), ?_⟩; try simp only [go_sem, Nat.reduceAdd, Nat.reduceLeDiff, reduceCtorEq]))
  refine AP.cond rfl rfl (fun h1 => ?_) (fun h1 => ?_)
  · repeat (first | refine xPP rfl ?_ | refine xPE rfl ?_ | refine xEP rfl ?_ | refine xEE rfl ?_ | refine AQ.done ?_ | refine AQ.skip (by kernel_rfl) rfl ?_ | refine AQ.s2b (by kernel_rfl) rfl rfl rfl rfl ?_ | refine AQ.mark (by kernel_rfl) rfl rfl rfl rfl rfl rfl rfl ?_ | refine AP.cond_true rfl rfl ?_ | refine AP.cond_false rfl rfl ?_ | (refine AP.region rfl (by kernel_rfl) ?_; simp only [go_sem, Nat.reduceAdd, Nat.reduceLeDiff, reduceCtorEq]) | (refine AP.drawQ rfl rfl (by kernel_rfl) ?_; simp only [go_sem, Nat.reduceAdd, Nat.reduceLeDiff, reduceCtorEq]) | (refine vq_id ?_; simp only [go_sem, Nat.reduceAdd, Nat.reduceLeDiff, reduceCtorEq]) | (refine ⟨by first | omega | (intros; simp_all; done) | (intros; simp_all; omega), ?_⟩; try simp only [go_sem, Nat.reduceAdd, Nat.reduceLeDiff, reduceCtorEq]))
    exact AE.ret rfl ⟨rfl, trivial⟩ ⟨rfl, by rw [cmpS, show ltS a b = true from h1]; rfl⟩
  · repeat (first | refine xPP rfl ?_ | refine xPE rfl ?_ | refine xEP rfl ?_ | refine xEE rfl ?_ | refine AQ.done ?_ | refine AQ.skip (by kernel_rfl) rfl ?_ | refine AQ.s2b (by kernel_rfl) rfl rfl rfl rfl ?_ | refine AQ.mark (by kernel_rfl) rfl rfl rfl rfl rfl rfl rfl ?_ | refine AP.cond_true rfl rfl ?_ | refine AP.cond_false rfl rfl ?_ | (refine AP.region rfl (by kernel_rfl) ?_; simp only [go_sem, Nat.reduceAdd, Nat.reduceLeDiff, reduceCtorEq]) | (refine AP.drawQ rfl rfl (by kernel_rfl) ?_; simp only [go_sem, Nat.reduceAdd, Nat.reduceLeDiff, reduceCtorEq]) | (refine vq_id ?_; simp only [go_sem, Nat.reduceAdd, Nat.reduceLeDiff, reduceCtorEq]) | (refine ⟨by first | omega | (intros; simp_all; done) | (intros; simp_all; omega), ?_⟩; try simp only [go_sem, Nat.reduceAdd, Nat.reduceLeDiff, reduceCtorEq]))
    refine AP.cond rfl rfl (fun h2 => ?_) (fun h2 => ?_)
    · repeat (first | refine xPP rfl ?_ | refine xPE rfl ?_ | refine xEP rfl ?_ | refine xEE rfl ?_ | refine AQ.done ?_ | refine AQ.skip (by kernel_rfl) rfl ?_ | refine AQ.s2b (by kernel_rfl) rfl rfl rfl rfl ?_ | refine AQ.mark (by kernel_rfl) rfl rfl rfl rfl rfl rfl rfl ?_ | refine AP.cond_true rfl rfl ?_ | refine AP.cond_false rfl rfl ?_ | (refine AP.region rfl (by kernel_rfl) ?_; simp only [go_sem, Nat.reduceAdd, Nat.reduceLeDiff, reduceCtorEq]) | (refine AP.drawQ rfl rfl (by kernel_rfl) ?_; simp only [go_sem, Nat.reduceAdd, Nat.reduceLeDiff, reduceCtorEq]) | (refine vq_id ?_; simp only [go_sem, Nat.reduceAdd, Nat.reduceLeDiff, reduceCtorEq]) | (refine ⟨by first | omega | (intros; simp_all; done) | (intros; simp_all; omega), ?_⟩; try simp only [go_sem, Nat.reduceAdd, Nat.reduceLeDiff, reduceCtorEq]))
      refine AE.ret rfl ⟨rfl, trivial⟩ ⟨rfl, ?_⟩
      rw [cmpS, show ltS a b = false from h1]
      rw [h1] at h2
      simp only [Bool.false_or, Bool.not_eq_true'] at h2
      simp [h2, tupOf, AV.st]
    · repeat (first | refine xPP rfl ?_ | refine xPE rfl ?_ | refine xEP rfl ?_ | refine xEE rfl ?_ | refine AQ.done ?_ | refine AQ.skip (by kernel_rfl) rfl ?_ | refine AQ.s2b (by kernel_rfl) rfl rfl rfl rfl ?_ | refine AQ.mark (by kernel_rfl) rfl rfl rfl rfl rfl rfl rfl ?_ | refine AP.cond_true rfl rfl ?_ | refine AP.cond_false rfl rfl ?_ | (refine AP.region rfl (by kernel_rfl) ?_; simp only [go_sem, Nat.reduceAdd, Nat.reduceLeDiff, reduceCtorEq]) | (refine AP.drawQ rfl rfl (by kernel_rfl) ?_; simp only [go_sem, Nat.reduceAdd, Nat.reduceLeDiff, reduceCtorEq]) | (refine vq_id ?_; simp only [go_sem, Nat.reduceAdd, Nat.reduceLeDiff, reduceCtorEq]) | (refine ⟨by first | omega | (intros; simp_all; done) | (intros; simp_all; omega), ?_⟩; try simp only [go_sem, Nat.reduceAdd, Nat.reduceLeDiff, reduceCtorEq]))
      refine AE.ret rfl ⟨rfl, trivial⟩ ⟨rfl, ?_⟩
      rw [cmpS, show ltS a b = false from h1]
      rw [h1] at h2
      simp only [Bool.false_or, Bool.not_eq_false'] at h2
      simp [h2, tupOf, AV.st]
theorem count_spec (t : Tr) : PFn Try.prog 68 [Tv t] (Iv t.size) := by
  refine ACall.walk [0, 2, 4] [] Try.func68 rfl Try.ntmps68 (by kernel_rfl) (by rfl) rfl fun W own I0 φ0 => ?_
  cases t with
  | nil =>
    repeat (first | refine xPP rfl ?_ | refine xPE rfl ?_ | refine xEP rfl ?_ | refine xEE rfl ?_ | refine AQ.done ?_ | refine AQ.skip (by kernel_rfl) rfl ?_ | refine AQ.s2b (by kernel_rfl) rfl rfl rfl rfl ?_ | refine AQ.mark (by kernel_rfl) rfl rfl rfl rfl rfl rfl rfl ?_ | refine AP.cond_true rfl rfl ?_ | refine AP.cond_false rfl rfl ?_ | (refine AP.region rfl (by kernel_rfl) ?_; simp only [go_sem, Nat.reduceAdd, Nat.reduceLeDiff, reduceCtorEq, Tr.iv]) | (refine AP.drawQ rfl rfl (by kernel_rfl) ?_; simp only [go_sem, Nat.reduceAdd, Nat.reduceLeDiff, reduceCtorEq, Tr.iv]) | (refine vq_id ?_; simp only [go_sem, Nat.reduceAdd, Nat.reduceLeDiff, reduceCtorEq, Tr.iv]) | (refine ⟨by first | omega | (intros; simp_all; done) | (intros; simp_all; omega), ?_⟩; try simp only [go_sem, Nat.reduceAdd, Nat.reduceLeDiff, reduceCtorEq, Tr.iv]))
    exact AE.ret rfl ⟨rfl, trivial⟩ ⟨rfl, rfl⟩
  | node k v l r =>
    repeat (first | refine xPP rfl ?_ | refine xPE rfl ?_ | refine xEP rfl ?_ | refine xEE rfl ?_ | refine AQ.done ?_ | refine AQ.skip (by kernel_rfl) rfl ?_ | refine AQ.s2b (by kernel_rfl) rfl rfl rfl rfl ?_ | refine AQ.mark (by kernel_rfl) rfl rfl rfl rfl rfl rfl rfl ?_ | refine AP.cond_true rfl rfl ?_ | refine AP.cond_false rfl rfl ?_ | (refine AP.region rfl (by kernel_rfl) ?_; simp only [go_sem, Nat.reduceAdd, Nat.reduceLeDiff, reduceCtorEq, Tr.iv]) | (refine AP.drawQ rfl rfl (by kernel_rfl) ?_; simp only [go_sem, Nat.reduceAdd, Nat.reduceLeDiff, reduceCtorEq, Tr.iv]) | (refine vq_id ?_; simp only [go_sem, Nat.reduceAdd, Nat.reduceLeDiff, reduceCtorEq, Tr.iv]) | (refine ⟨by first | omega | (intros; simp_all; done) | (intros; simp_all; omega), ?_⟩; try simp only [go_sem, Nat.reduceAdd, Nat.reduceLeDiff, reduceCtorEq, Tr.iv]))
    exact AE.ret rfl ⟨rfl, trivial⟩ ⟨rfl, rfl⟩
theorem height_spec (t : Tr) : PFn Try.prog 67 [Tv t] (Iv t.ht) := by
  refine ACall.walk [0, 2, 4] [] Try.func67 rfl Try.ntmps67 (by kernel_rfl) (by rfl) rfl fun W own I0 φ0 => ?_
  cases t with
  | nil =>
    repeat (first | refine xPP rfl ?_ | refine xPE rfl ?_ | refine xEP rfl ?_ | refine xEE rfl ?_ | refine AQ.done ?_ | refine AQ.skip (by kernel_rfl) rfl ?_ | refine AQ.s2b (by kernel_rfl) rfl rfl rfl rfl ?_ | refine AQ.mark (by kernel_rfl) rfl rfl rfl rfl rfl rfl rfl ?_ | refine AP.cond_true rfl rfl ?_ | refine AP.cond_false rfl rfl ?_ | (refine AP.region rfl (by kernel_rfl) ?_; simp only [go_sem, Nat.reduceAdd, Nat.reduceLeDiff, reduceCtorEq, Tr.iv]) | (refine AP.drawQ rfl rfl (by kernel_rfl) ?_; simp only [go_sem, Nat.reduceAdd, Nat.reduceLeDiff, reduceCtorEq, Tr.iv]) | (refine vq_id ?_; simp only [go_sem, Nat.reduceAdd, Nat.reduceLeDiff, reduceCtorEq, Tr.iv]) | (refine ⟨by first | omega | (intros; simp_all; done) | (intros; simp_all; omega), ?_⟩; try simp only [go_sem, Nat.reduceAdd, Nat.reduceLeDiff, reduceCtorEq, Tr.iv]))
    exact AE.ret rfl ⟨rfl, trivial⟩ ⟨rfl, rfl⟩
  | node k v l r =>
    repeat (first | refine xPP rfl ?_ | refine xPE rfl ?_ | refine xEP rfl ?_ | refine xEE rfl ?_ | refine AQ.done ?_ | refine AQ.skip (by kernel_rfl) rfl ?_ | refine AQ.s2b (by kernel_rfl) rfl rfl rfl rfl ?_ | refine AQ.mark (by kernel_rfl) rfl rfl rfl rfl rfl rfl rfl ?_ | refine AP.cond_true rfl rfl ?_ | refine AP.cond_false rfl rfl ?_ | (refine AP.region rfl (by kernel_rfl) ?_; simp only [go_sem, Nat.reduceAdd, Nat.reduceLeDiff, reduceCtorEq, Tr.iv]) | (refine AP.drawQ rfl rfl (by kernel_rfl) ?_; simp only [go_sem, Nat.reduceAdd, Nat.reduceLeDiff, reduceCtorEq, Tr.iv]) | (refine vq_id ?_; simp only [go_sem, Nat.reduceAdd, Nat.reduceLeDiff, reduceCtorEq, Tr.iv]) | (refine ⟨by first | omega | (intros; simp_all; done) | (intros; simp_all; omega), ?_⟩; try simp only [go_sem, Nat.reduceAdd, Nat.reduceLeDiff, reduceCtorEq, Tr.iv]))
    exact AE.ret rfl ⟨rfl, trivial⟩ ⟨rfl, rfl⟩
theorem with_spec (k : List UInt8) (v : Int) (a b l r : Tr) (hs : l.size + r.size ≤ 1000000000) : PFn Try.prog 90 [Tv (.node k v a b), Tv l, Tv r] (Tv (.node k v l r)) := by
  have h1 := l.ht_le
  have h2 := r.ht_le
  have w1 := wr (x := (l.size : Int) + r.size) (by omega)
  have w2 := wr (x := (l.size : Int) + r.size + 1) (by omega)
  have w3 : (if (l.ht : Int) < (r.ht : Int) then (r.ht : Int) else (l.ht : Int)) = ((max l.ht r.ht : Nat) : Int) := by
    split <;> omega
  have w4 := wr (x := ((max l.ht r.ht : Nat) : Int) + 1) (by omega)
  refine ACall.walk [0, 1, 2, 6] [] Try.func90 rfl Try.ntmps90 (by kernel_rfl) (by rfl) rfl fun W own I0 φ0 => ?_
  repeat (first | refine xPP rfl ?_ | refine xPE rfl ?_ | refine xEP rfl ?_ | refine xEE rfl ?_ | refine AQ.done ?_ | refine AQ.skip (by kernel_rfl) rfl ?_ | refine AQ.s2b (by kernel_rfl) rfl rfl rfl rfl ?_ | refine AQ.mark (by kernel_rfl) rfl rfl rfl rfl rfl rfl rfl ?_ | refine AP.cond_true rfl rfl ?_ | refine AP.cond_false rfl rfl ?_ | (refine AP.region rfl (by kernel_rfl) ?_; simp only [go_sem, Nat.reduceAdd, Nat.reduceLeDiff, reduceCtorEq]) | (refine AP.drawQ rfl rfl (by kernel_rfl) ?_; simp only [go_sem, Nat.reduceAdd, Nat.reduceLeDiff, reduceCtorEq]) | (refine vq_id ?_; simp only [go_sem, Nat.reduceAdd, Nat.reduceLeDiff, reduceCtorEq]) | (refine ⟨by first | omega | (intros; simp_all; done) | (intros; simp_all; omega), ?_⟩; try simp only [go_sem, Nat.reduceAdd, Nat.reduceLeDiff, reduceCtorEq]))
  refine AP.draw 23 [(11, Iv l.size), (13, Iv r.size), (17, Iv l.ht), (19, Iv r.ht)] (by kernel_rfl) rfl (by kernel_rfl) (by kernel_rfl) ?_
  simp only [go_sem, Nat.reduceAdd, Nat.reduceLeDiff, reduceCtorEq, Tv, Tr.iv]
  refine ⟨count_spec l, count_spec r, height_spec l, height_spec r, ?_⟩
  repeat (first | refine xPP rfl ?_ | refine xPE rfl ?_ | refine xEP rfl ?_ | refine xEE rfl ?_ | refine AQ.done ?_ | refine AQ.skip (by kernel_rfl) rfl ?_ | refine AQ.s2b (by kernel_rfl) rfl rfl rfl rfl ?_ | refine AQ.mark (by kernel_rfl) rfl rfl rfl rfl rfl rfl rfl ?_ | refine AP.cond_true rfl rfl ?_ | refine AP.cond_false rfl rfl ?_ | (refine AP.region rfl (by kernel_rfl) ?_; simp only [go_sem, Nat.reduceAdd, Nat.reduceLeDiff, reduceCtorEq, Tv, Tr.iv, w1, w2, w3, w4]) | (refine AP.drawQ rfl rfl (by kernel_rfl) ?_; simp only [go_sem, Nat.reduceAdd, Nat.reduceLeDiff, reduceCtorEq, Tv, Tr.iv, w1, w2, w3, w4]) | (refine vq_id ?_; simp only [go_sem, Nat.reduceAdd, Nat.reduceLeDiff, reduceCtorEq, Tv, Tr.iv, w1, w2, w3, w4]) | (refine ⟨by first | omega | (intros; simp_all; done) | (intros; simp_all; omega), ?_⟩; try simp only [go_sem, Nat.reduceAdd, Nat.reduceLeDiff, reduceCtorEq, Tv, Tr.iv, w1, w2, w3, w4]))
  refine AE.ret rfl ⟨rfl, trivial⟩ ⟨rfl, ?_⟩
  simp only [tupOf, AV.st, Tv, Tr.iv, w1, w2, w3, w4]
  rfl
theorem rotL_spec (k : List UInt8) (v : Int) (l : Tr) (k' : List UInt8) (v' : Int) (l' r' : Tr) (hs : l.size + l'.size + r'.size + 1 ≤ 1000000000) : PFn Try.prog 95 [Tv (.node k v l (.node k' v' l' r'))] (Tv (.node k' v' (.node k v l l') r')) := by
  refine ACall.walk [0, 2, 3] [] Try.func95 rfl Try.ntmps95 (by kernel_rfl) (by rfl) rfl fun W own I0 φ0 => ?_
  repeat (first | refine xPP rfl ?_ | refine xPE rfl ?_ | refine xEP rfl ?_ | refine xEE rfl ?_ | refine AQ.done ?_ | refine AQ.skip (by kernel_rfl) rfl ?_ | refine AQ.s2b (by kernel_rfl) rfl rfl rfl rfl ?_ | refine AQ.mark (by kernel_rfl) rfl rfl rfl rfl rfl rfl rfl ?_ | refine AP.cond_true rfl rfl ?_ | refine AP.cond_false rfl rfl ?_ | (refine AP.region rfl (by kernel_rfl) ?_; simp only [go_sem, Nat.reduceAdd, Nat.reduceLeDiff, reduceCtorEq, Tv, Tr.iv]) | (refine AP.drawQ rfl rfl (by kernel_rfl) ?_; simp only [go_sem, Nat.reduceAdd, Nat.reduceLeDiff, reduceCtorEq, Tv, Tr.iv]) | (refine vq_id ?_; simp only [go_sem, Nat.reduceAdd, Nat.reduceLeDiff, reduceCtorEq, Tv, Tr.iv]) | (refine ⟨by first | omega | (intros; simp_all; done) | (intros; simp_all; omega), ?_⟩; try simp only [go_sem, Nat.reduceAdd, Nat.reduceLeDiff, reduceCtorEq, Tv, Tr.iv]))
  refine AP.draw 16 [(10, Tv (.node k v l l')), (15, Tv (.node k' v' (.node k v l l') r'))] (by kernel_rfl) rfl (by kernel_rfl) (by kernel_rfl) ?_
  simp only [go_sem, Nat.reduceAdd, Nat.reduceLeDiff, reduceCtorEq, Tv, Tr.iv]
  refine ⟨by have := with_spec k v l (.node k' v' l' r') l l' (by omega); simpa only [Tv, Tr.iv] using this, by have := with_spec k' v' l' r' (.node k v l l') r' (by simp only [Tr.size]; omega); simpa only [Tv, Tr.iv] using this, ?_⟩
  repeat (first | refine xPP rfl ?_ | refine xPE rfl ?_ | refine xEP rfl ?_ | refine xEE rfl ?_ | refine AQ.done ?_ | refine AQ.skip (by kernel_rfl) rfl ?_ | refine AQ.s2b (by kernel_rfl) rfl rfl rfl rfl ?_ | refine AQ.mark (by kernel_rfl) rfl rfl rfl rfl rfl rfl rfl ?_ | refine AP.cond_true rfl rfl ?_ | refine AP.cond_false rfl rfl ?_ | (refine AP.region rfl (by kernel_rfl) ?_; simp only [go_sem, Nat.reduceAdd, Nat.reduceLeDiff, reduceCtorEq]) | (refine AP.drawQ rfl rfl (by kernel_rfl) ?_; simp only [go_sem, Nat.reduceAdd, Nat.reduceLeDiff, reduceCtorEq]) | (refine vq_id ?_; simp only [go_sem, Nat.reduceAdd, Nat.reduceLeDiff, reduceCtorEq]) | (refine ⟨by first | omega | (intros; simp_all; done) | (intros; simp_all; omega), ?_⟩; try simp only [go_sem, Nat.reduceAdd, Nat.reduceLeDiff, reduceCtorEq]))
  exact AE.ret rfl ⟨rfl, trivial⟩ ⟨rfl, rfl⟩
theorem rotR_spec (k : List UInt8) (v : Int) (r : Tr) (k' : List UInt8) (v' : Int) (l' r' : Tr) (hs : r.size + l'.size + r'.size + 1 ≤ 1000000000) : PFn Try.prog 96 [Tv (.node k v (.node k' v' l' r') r)] (Tv (.node k' v' l' (.node k v r' r))) := by
  refine ACall.walk [0, 2, 3] [] Try.func96 rfl Try.ntmps96 (by kernel_rfl) (by rfl) rfl fun W own I0 φ0 => ?_
  repeat (first | refine xPP rfl ?_ | refine xPE rfl ?_ | refine xEP rfl ?_ | refine xEE rfl ?_ | refine AQ.done ?_ | refine AQ.skip (by kernel_rfl) rfl ?_ | refine AQ.s2b (by kernel_rfl) rfl rfl rfl rfl ?_ | refine AQ.mark (by kernel_rfl) rfl rfl rfl rfl rfl rfl rfl ?_ | refine AP.cond_true rfl rfl ?_ | refine AP.cond_false rfl rfl ?_ | (refine AP.region rfl (by kernel_rfl) ?_; simp only [go_sem, Nat.reduceAdd, Nat.reduceLeDiff, reduceCtorEq, Tv, Tr.iv]) | (refine AP.drawQ rfl rfl (by kernel_rfl) ?_; simp only [go_sem, Nat.reduceAdd, Nat.reduceLeDiff, reduceCtorEq, Tv, Tr.iv]) | (refine vq_id ?_; simp only [go_sem, Nat.reduceAdd, Nat.reduceLeDiff, reduceCtorEq, Tv, Tr.iv]) | (refine ⟨by first | omega | (intros; simp_all; done) | (intros; simp_all; omega), ?_⟩; try simp only [go_sem, Nat.reduceAdd, Nat.reduceLeDiff, reduceCtorEq, Tv, Tr.iv]))
  refine AP.draw 16 [(14, Tv (.node k v r' r)), (15, Tv (.node k' v' l' (.node k v r' r)))] (by kernel_rfl) rfl (by kernel_rfl) (by kernel_rfl) ?_
  simp only [go_sem, Nat.reduceAdd, Nat.reduceLeDiff, reduceCtorEq, Tv, Tr.iv]
  refine ⟨by have := with_spec k v (.node k' v' l' r') r r' r (by omega); simpa only [Tv, Tr.iv] using this, by have := with_spec k' v' l' r' l' (.node k v r' r) (by simp only [Tr.size]; omega); simpa only [Tv, Tr.iv] using this, ?_⟩
  repeat (first | refine xPP rfl ?_ | refine xPE rfl ?_ | refine xEP rfl ?_ | refine xEE rfl ?_ | refine AQ.done ?_ | refine AQ.skip (by kernel_rfl) rfl ?_ | refine AQ.s2b (by kernel_rfl) rfl rfl rfl rfl ?_ | refine AQ.mark (by kernel_rfl) rfl rfl rfl rfl rfl rfl rfl ?_ | refine AP.cond_true rfl rfl ?_ | refine AP.cond_false rfl rfl ?_ | (refine AP.region rfl (by kernel_rfl) ?_; simp only [go_sem, Nat.reduceAdd, Nat.reduceLeDiff, reduceCtorEq]) | (refine AP.drawQ rfl rfl (by kernel_rfl) ?_; simp only [go_sem, Nat.reduceAdd, Nat.reduceLeDiff, reduceCtorEq]) | (refine vq_id ?_; simp only [go_sem, Nat.reduceAdd, Nat.reduceLeDiff, reduceCtorEq]) | (refine ⟨by first | omega | (intros; simp_all; done) | (intros; simp_all; omega), ?_⟩; try simp only [go_sem, Nat.reduceAdd, Nat.reduceLeDiff, reduceCtorEq]))
  exact AE.ret rfl ⟨rfl, trivial⟩ ⟨rfl, rfl⟩
def Tr.rotL : Tr → Tr
  | .node k v l (.node k' v' l' r') => .node k' v' (.node k v l l') r'
  | t => t
def Tr.rotR : Tr → Tr
  | .node k v (.node k' v' l' r') r => .node k' v' l' (.node k v r' r)
  | t => t
def Tr.bal : Tr → Tr
  | .nil => .nil
  | .node k v l r =>
    if r.ht + 1 < l.ht then (Tr.node k v (if l.left.ht < l.right.ht then l.rotL else l) r).rotR
    else if l.ht + 1 < r.ht then (Tr.node k v l (if r.right.ht < r.left.ht then r.rotR else r)).rotL
    else .node k v l r
end Go.Proofs.Ytfgffpkdjmeaoaa
end

section
namespace Go.Proofs.Ytfgffpkdjmeaoaa
open Go Go.AL
set_option maxRecDepth 10000
set_option maxHeartbeats 2000000
theorem Tr.of_ht {t : Tr} (h : 0 < t.ht) : ∃ k v l r, t = .node k v l r := by
  cases t with
  | nil => simp [Tr.ht] at h
  | node k v l r => exact ⟨k, v, l, r, rfl⟩
theorem bal_spec (k : List UInt8) (v : Int) (l r : Tr) (hs : l.size + r.size + 1 ≤ 1000000000) : PFn Try.prog 91 [Tv (.node k v l r)] (Tv (Tr.bal (.node k v l r))) := by
  have h1 := l.ht_le
  have h2 := r.ht_le
  have w1 := wr (x := (l.ht : Int) - r.ht) (by omega)
  refine ACall.walk [0, 2, 3, 15, 34, 48, 67] [] Try.func91 rfl Try.ntmps91 (by kernel_rfl) (by rfl) rfl fun W own I0 φ0 => ?_
  repeat (first | refine xPP rfl ?_ | refine xPE rfl ?_ | refine xEP rfl ?_ | refine xEE rfl ?_ | refine AQ.done ?_ | refine AQ.skip (by kernel_rfl) rfl ?_ | refine AQ.s2b (by kernel_rfl) rfl rfl rfl rfl ?_ | refine AQ.mark (by kernel_rfl) rfl rfl rfl rfl rfl rfl rfl ?_ | refine AP.cond_true rfl rfl ?_ | refine AP.cond_false rfl rfl ?_ | (refine AP.region rfl (by kernel_rfl) ?_; simp only [go_sem, Nat.reduceAdd, Nat.reduceLeDiff, reduceCtorEq, Tv, Tr.iv]) | (refine AP.drawQ rfl rfl (by kernel_rfl) ?_; simp only [go_sem, Nat.reduceAdd, Nat.reduceLeDiff, reduceCtorEq, Tv, Tr.iv]) | (refine vq_id ?_; simp only [go_sem, Nat.reduceAdd, Nat.reduceLeDiff, reduceCtorEq, Tv, Tr.iv]) | (refine ⟨by first | omega | (intros; simp_all; done) | (intros; simp_all; omega), ?_⟩; try simp only [go_sem, Nat.reduceAdd, Nat.reduceLeDiff, reduceCtorEq, Tv, Tr.iv]))
  refine AP.draw 11 [(4, Iv l.ht), (9, Iv r.ht)] (by kernel_rfl) rfl (by kernel_rfl) (by kernel_rfl) ?_
  simp only [go_sem, Nat.reduceAdd, Nat.reduceLeDiff, reduceCtorEq, Tv, Tr.iv]
  refine ⟨height_spec l, height_spec r, ?_⟩
  repeat (first | refine xPP rfl ?_ | refine xPE rfl ?_ | refine xEP rfl ?_ | refine xEE rfl ?_ | refine AQ.done ?_ | refine AQ.skip (by kernel_rfl) rfl ?_ | refine AQ.s2b (by kernel_rfl) rfl rfl rfl rfl ?_ | refine AQ.mark (by kernel_rfl) rfl rfl rfl rfl rfl rfl rfl ?_ | refine AP.cond_true rfl rfl ?_ | refine AP.cond_false rfl rfl ?_ | (refine AP.region rfl (by kernel_rfl) ?_; simp only [go_sem, Nat.reduceAdd, Nat.reduceLeDiff, reduceCtorEq, w1]) | (refine AP.drawQ rfl rfl (by kernel_rfl) ?_; simp only [go_sem, Nat.reduceAdd, Nat.reduceLeDiff, reduceCtorEq, w1]) | (refine vq_id ?_; simp only [go_sem, Nat.reduceAdd, Nat.reduceLeDiff, reduceCtorEq, w1]) | (refine ⟨by first | omega | (intros; simp_all; done) | (intros; simp_all; omega), ?_⟩; try simp only [go_sem, Nat.reduceAdd, Nat.reduceLeDiff, reduceCtorEq, w1]))
  refine AP.cond rfl rfl (fun hc => ?_) (fun hc => ?_)
  · have hlt : r.ht + 1 < l.ht := by simp at hc; omega
    obtain ⟨kl, vl, ll, lr, rfl⟩ := Tr.of_ht (t := l) (by omega)
    have hz : (Tr.node kl vl ll lr).size = ll.size + lr.size + 1 := rfl
    repeat (first | refine xPP rfl ?_ | refine xPE rfl ?_ | refine xEP rfl ?_ | refine xEE rfl ?_ | refine AQ.done ?_ | refine AQ.skip (by kernel_rfl) rfl ?_ | refine AQ.s2b (by kernel_rfl) rfl rfl rfl rfl ?_ | refine AQ.mark (by kernel_rfl) rfl rfl rfl rfl rfl rfl rfl ?_ | refine AP.cond_true rfl rfl ?_ | refine AP.cond_false rfl rfl ?_ | (refine AP.region rfl (by kernel_rfl) ?_; simp only [go_sem, Nat.reduceAdd, Nat.reduceLeDiff, reduceCtorEq, w1, Tr.iv]) | (refine AP.drawQ rfl rfl (by kernel_rfl) ?_; simp only [go_sem, Nat.reduceAdd, Nat.reduceLeDiff, reduceCtorEq, w1, Tr.iv]) | (refine vq_id ?_; simp only [go_sem, Nat.reduceAdd, Nat.reduceLeDiff, reduceCtorEq, w1, Tr.iv]) | (refine ⟨by first | omega | (intros; simp_all; done) | (intros; simp_all; omega), ?_⟩; try simp only [go_sem, Nat.reduceAdd, Nat.reduceLeDiff, reduceCtorEq, w1, Tr.iv]))
    refine AP.draw 16 [(7, Iv ll.ht), (15, Iv lr.ht)] (by kernel_rfl) rfl (by kernel_rfl) (by kernel_rfl) ?_
    simp only [go_sem, Nat.reduceAdd, Nat.reduceLeDiff, reduceCtorEq, Tv, Tr.iv]
    refine ⟨height_spec ll, height_spec lr, ?_⟩
    repeat (first | refine xPP rfl ?_ | refine xPE rfl ?_ | refine xEP rfl ?_ | refine xEE rfl ?_ | refine AQ.done ?_ | refine AQ.skip (by kernel_rfl) rfl ?_ | refine AQ.s2b (by kernel_rfl) rfl rfl rfl rfl ?_ | refine AQ.mark (by kernel_rfl) rfl rfl rfl rfl rfl rfl rfl ?_ | refine AP.cond_true rfl rfl ?_ | refine AP.cond_false rfl rfl ?_ | (refine AP.region rfl (by kernel_rfl) ?_; simp only [go_sem, Nat.reduceAdd, Nat.reduceLeDiff, reduceCtorEq]) | (refine AP.drawQ rfl rfl (by kernel_rfl) ?_; simp only [go_sem, Nat.reduceAdd, Nat.reduceLeDiff, reduceCtorEq]) | (refine vq_id ?_; simp only [go_sem, Nat.reduceAdd, Nat.reduceLeDiff, reduceCtorEq]) | (refine ⟨by first | omega | (intros; simp_all; done) | (intros; simp_all; omega), ?_⟩; try simp only [go_sem, Nat.reduceAdd, Nat.reduceLeDiff, reduceCtorEq]))
    refine AP.cond rfl rfl (fun hd => ?_) (fun hd => ?_)
    · have hlt2 : ll.ht < lr.ht := by simp at hd; omega
      obtain ⟨k', v', l', r', rfl⟩ := Tr.of_ht (t := lr) (by omega)
      have hz2 : (Tr.node k' v' l' r').size = l'.size + r'.size + 1 := rfl
      repeat (first | refine xPP rfl ?_ | refine xPE rfl ?_ | refine xEP rfl ?_ | refine xEE rfl ?_ | refine AQ.done ?_ | refine AQ.skip (by kernel_rfl) rfl ?_ | refine AQ.s2b (by kernel_rfl) rfl rfl rfl rfl ?_ | refine AQ.mark (by kernel_rfl) rfl rfl rfl rfl rfl rfl rfl ?_ | refine AP.cond_true rfl rfl ?_ | refine AP.cond_false rfl rfl ?_ | (refine AP.region rfl (by kernel_rfl) ?_; simp only [go_sem, Nat.reduceAdd, Nat.reduceLeDiff, reduceCtorEq, Tr.iv]) | (refine AP.drawQ rfl rfl (by kernel_rfl) ?_; simp only [go_sem, Nat.reduceAdd, Nat.reduceLeDiff, reduceCtorEq, Tr.iv]) | (refine vq_id ?_; simp only [go_sem, Nat.reduceAdd, Nat.reduceLeDiff, reduceCtorEq, Tr.iv]) | (refine ⟨by first | omega | (intros; simp_all; done) | (intros; simp_all; omega), ?_⟩; try simp only [go_sem, Nat.reduceAdd, Nat.reduceLeDiff, reduceCtorEq, Tr.iv]))
      refine AP.draw 11 [(5, Tv (.node k' v' (.node kl vl ll l') r')), (10, Tv (.node k v (.node k' v' (.node kl vl ll l') r') r))] (by kernel_rfl) rfl (by kernel_rfl) (by kernel_rfl) ?_
      simp only [go_sem, Nat.reduceAdd, Nat.reduceLeDiff, reduceCtorEq, Tv, Tr.iv]
      refine ⟨by have := rotL_spec kl vl ll k' v' l' r' (by omega); simpa only [Tv, Tr.iv] using this, by have := with_spec k v (.node kl vl ll (.node k' v' l' r')) r (.node k' v' (.node kl vl ll l') r') r (by simp only [Tr.size]; omega); simpa only [Tv, Tr.iv] using this, ?_⟩
      repeat (first | refine xPP rfl ?_ | refine xPE rfl ?_ | refine xEP rfl ?_ | refine xEE rfl ?_ | refine AQ.done ?_ | refine AQ.skip (by kernel_rfl) rfl ?_ | refine AQ.s2b (by kernel_rfl) rfl rfl rfl rfl ?_ | refine AQ.mark (by kernel_rfl) rfl rfl rfl rfl rfl rfl rfl ?_ | refine AP.cond_true rfl rfl ?_ | refine AP.cond_false rfl rfl ?_ | (refine AP.region rfl (by kernel_rfl) ?_; simp only [go_sem, Nat.reduceAdd, Nat.reduceLeDiff, reduceCtorEq]) | (refine AP.drawQ rfl rfl (by kernel_rfl) ?_; simp only [go_sem, Nat.reduceAdd, Nat.reduceLeDiff, reduceCtorEq]) | (refine vq_id ?_; simp only [go_sem, Nat.reduceAdd, Nat.reduceLeDiff, reduceCtorEq]) | (refine ⟨by first | omega | (intros; simp_all; done) | (intros; simp_all; omega), ?_⟩; try simp only [go_sem, Nat.reduceAdd, Nat.reduceLeDiff, reduceCtorEq]))
      refine AQ.fn (by kernel_rfl) rfl rfl rfl (rotR_spec k v r k' v' (.node kl vl ll l') r' (by simp only [Tr.size]; omega)) rfl ?_
      repeat (first | refine xPP rfl ?_ | refine xPE rfl ?_ | refine xEP rfl ?_ | refine xEE rfl ?_ | refine AQ.done ?_ | refine AQ.skip (by kernel_rfl) rfl ?_ | refine AQ.s2b (by kernel_rfl) rfl rfl rfl rfl ?_ | refine AQ.mark (by kernel_rfl) rfl rfl rfl rfl rfl rfl rfl ?_ | refine AP.cond_true rfl rfl ?_ | refine AP.cond_false rfl rfl ?_ | (refine AP.region rfl (by kernel_rfl) ?_; simp only [go_sem, Nat.reduceAdd, Nat.reduceLeDiff, reduceCtorEq]) | (refine AP.drawQ rfl rfl (by kernel_rfl) ?_; simp only [go_sem, Nat.reduceAdd, Nat.reduceLeDiff, reduceCtorEq]) | (refine vq_id ?_; simp only [go_sem, Nat.reduceAdd, Nat.reduceLeDiff, reduceCtorEq]) | (refine ⟨by first | omega | (intros; simp_all; done) | (intros; simp_all; omega), ?_⟩; try simp only [go_sem, Nat.reduceAdd, Nat.reduceLeDiff, reduceCtorEq]))
      refine AE.ret rfl ⟨rfl, trivial⟩ ⟨rfl, ?_⟩
      have e : Tr.bal (.node k v (.node kl vl ll (.node k' v' l' r')) r) = .node k' v' (.node kl vl ll l') (.node k v r' r) := by
        rw [Tr.bal, if_pos hlt, if_pos (show (Tr.node kl vl ll (.node k' v' l' r')).left.ht < (Tr.node kl vl ll (.node k' v' l' r')).right.ht from hlt2)]; rfl
      rw [e]; rfl
    · have hlt2 : ¬ ll.ht < lr.ht := by simp at hd; omega
      repeat (first | refine xPP rfl ?_ | refine xPE rfl ?_ | refine xEP rfl ?_ | refine xEE rfl ?_ | refine AQ.done ?_ | refine AQ.skip (by kernel_rfl) rfl ?_ | refine AQ.s2b (by kernel_rfl) rfl rfl rfl rfl ?_ | refine AQ.mark (by kernel_rfl) rfl rfl rfl rfl rfl rfl rfl ?_ | refine AP.cond_true rfl rfl ?_ | refine AP.cond_false rfl rfl ?_ | (refine AP.region rfl (by kernel_rfl) ?_; simp only [go_sem, Nat.reduceAdd, Nat.reduceLeDiff, reduceCtorEq, Tr.iv]) | (refine AP.drawQ rfl rfl (by kernel_rfl) ?_; simp only [go_sem, Nat.reduceAdd, Nat.reduceLeDiff, reduceCtorEq, Tr.iv]) | (refine vq_id ?_; simp only [go_sem, Nat.reduceAdd, Nat.reduceLeDiff, reduceCtorEq, Tr.iv]) | (refine ⟨by first | omega | (intros; simp_all; done) | (intros; simp_all; omega), ?_⟩; try simp only [go_sem, Nat.reduceAdd, Nat.reduceLeDiff, reduceCtorEq, Tr.iv]))
      refine AQ.fn (by kernel_rfl) rfl rfl rfl (rotR_spec k v r kl vl ll lr (by omega)) rfl ?_
      repeat (first | refine xPP rfl ?_ | refine xPE rfl ?_ | refine xEP rfl ?_ | refine xEE rfl ?_ | refine AQ.done ?_ | refine AQ.skip (by kernel_rfl) rfl ?_ | refine AQ.s2b (by kernel_rfl) rfl rfl rfl rfl ?_ | refine AQ.mark (by kernel_rfl) rfl rfl rfl rfl rfl rfl rfl ?_ | refine AP.cond_true rfl rfl ?_ | refine AP.cond_false rfl rfl ?_ | (refine AP.region rfl (by kernel_rfl) ?_; simp only [go_sem, Nat.reduceAdd, Nat.reduceLeDiff, reduceCtorEq]) | (refine AP.drawQ rfl rfl (by kernel_rfl) ?_; simp only [go_sem, Nat.reduceAdd, Nat.reduceLeDiff, reduceCtorEq]) | (refine vq_id ?_; simp only [go_sem, Nat.reduceAdd, Nat.reduceLeDiff, reduceCtorEq]) | (refine ⟨by first | omega | (intros; simp_all; done) | (intros; simp_all; omega), ?_⟩; try simp only [go_sem, Nat.reduceAdd, Nat.reduceLeDiff, reduceCtorEq]))
      refine AE.ret rfl ⟨rfl, trivial⟩ ⟨rfl, ?_⟩
      have e : Tr.bal (.node k v (.node kl vl ll lr) r) = .node kl vl ll (.node k v lr r) := by
        rw [Tr.bal, if_pos hlt, if_neg (show ¬ (Tr.node kl vl ll lr).left.ht < (Tr.node kl vl ll lr).right.ht from hlt2)]; rfl
      rw [e]; rfl
  · have hnl : ¬ r.ht + 1 < l.ht := by simp at hc; omega
    repeat (first | refine xPP rfl ?_ | refine xPE rfl ?_ | refine xEP rfl ?_ | refine xEE rfl ?_ | refine AQ.done ?_ | refine AQ.skip (by kernel_rfl) rfl ?_ | refine AQ.s2b (by kernel_rfl) rfl rfl rfl rfl ?_ | refine AQ.mark (by kernel_rfl) rfl rfl rfl rfl rfl rfl rfl ?_ | refine AP.cond_true rfl rfl ?_ | refine AP.cond_false rfl rfl ?_ | (refine AP.region rfl (by kernel_rfl) ?_; simp only [go_sem, Nat.reduceAdd, Nat.reduceLeDiff, reduceCtorEq, w1]) | (refine AP.drawQ rfl rfl (by kernel_rfl) ?_; simp only [go_sem, Nat.reduceAdd, Nat.reduceLeDiff, reduceCtorEq, w1]) | (refine vq_id ?_; simp only [go_sem, Nat.reduceAdd, Nat.reduceLeDiff, reduceCtorEq, w1]) | (refine ⟨by first | omega | (intros; simp_all; done) | (intros; simp_all; omega), ?_⟩; try simp only [go_sem, Nat.reduceAdd, Nat.reduceLeDiff, reduceCtorEq, w1]))
    refine AP.cond rfl rfl (fun hc2 => ?_) (fun hc2 => ?_)
    · have hlt : l.ht + 1 < r.ht := by simp at hc2; omega
      obtain ⟨kr, vr, rl, rr, rfl⟩ := Tr.of_ht (t := r) (by omega)
      have hz : (Tr.node kr vr rl rr).size = rl.size + rr.size + 1 := rfl
      repeat (first | refine xPP rfl ?_ | refine xPE rfl ?_ | refine xEP rfl ?_ | refine xEE rfl ?_ | refine AQ.done ?_ | refine AQ.skip (by kernel_rfl) rfl ?_ | refine AQ.s2b (by kernel_rfl) rfl rfl rfl rfl ?_ | refine AQ.mark (by kernel_rfl) rfl rfl rfl rfl rfl rfl rfl ?_ | refine AP.cond_true rfl rfl ?_ | refine AP.cond_false rfl rfl ?_ | (refine AP.region rfl (by kernel_rfl) ?_; simp only [go_sem, Nat.reduceAdd, Nat.reduceLeDiff, reduceCtorEq, w1, Tr.iv]) | (refine AP.drawQ rfl rfl (by kernel_rfl) ?_; simp only [go_sem, Nat.reduceAdd, Nat.reduceLeDiff, reduceCtorEq, w1, Tr.iv]) | (refine vq_id ?_; simp only [go_sem, Nat.reduceAdd, Nat.reduceLeDiff, reduceCtorEq, w1, Tr.iv]) | (refine ⟨by first | omega | (intros; simp_all; done) | (intros; simp_all; omega), ?_⟩; try simp only [go_sem, Nat.reduceAdd, Nat.reduceLeDiff, reduceCtorEq, w1, Tr.iv]))
      refine AP.draw 16 [(7, Iv rr.ht), (15, Iv rl.ht)] (by kernel_rfl) rfl (by kernel_rfl) (by kernel_rfl) ?_
      simp only [go_sem, Nat.reduceAdd, Nat.reduceLeDiff, reduceCtorEq, Tv, Tr.iv]
      refine ⟨height_spec rr, height_spec rl, ?_⟩
      repeat (first | refine xPP rfl ?_ | refine xPE rfl ?_ | refine xEP rfl ?_ | refine xEE rfl ?_ | refine AQ.done ?_ | refine AQ.skip (by kernel_rfl) rfl ?_ | refine AQ.s2b (by kernel_rfl) rfl rfl rfl rfl ?_ | refine AQ.mark (by kernel_rfl) rfl rfl rfl rfl rfl rfl rfl ?_ | refine AP.cond_true rfl rfl ?_ | refine AP.cond_false rfl rfl ?_ | (refine AP.region rfl (by kernel_rfl) ?_; simp only [go_sem, Nat.reduceAdd, Nat.reduceLeDiff, reduceCtorEq]) | (refine AP.drawQ rfl rfl (by kernel_rfl) ?_; simp only [go_sem, Nat.reduceAdd, Nat.reduceLeDiff, reduceCtorEq]) | (refine vq_id ?_; simp only [go_sem, Nat.reduceAdd, Nat.reduceLeDiff, reduceCtorEq]) | (refine ⟨by first | omega | (intros; simp_all; done) | (intros; simp_all; omega), ?_⟩; try simp only [go_sem, Nat.reduceAdd, Nat.reduceLeDiff, reduceCtorEq]))
      refine AP.cond rfl rfl (fun hd => ?_) (fun hd => ?_)
      · have hlt2 : rr.ht < rl.ht := by simp at hd; omega
        obtain ⟨k', v', l', r', rfl⟩ := Tr.of_ht (t := rl) (by omega)
        have hz2 : (Tr.node k' v' l' r').size = l'.size + r'.size + 1 := rfl
        repeat (first | refine xPP rfl ?_ | refine xPE rfl ?_ | refine xEP rfl ?_ | refine xEE rfl ?_ | refine AQ.done ?_ | refine AQ.skip (by kernel_rfl) rfl ?_ | refine AQ.s2b (by kernel_rfl) rfl rfl rfl rfl ?_ | refine AQ.mark (by kernel_rfl) rfl rfl rfl rfl rfl rfl rfl ?_ | refine AP.cond_true rfl rfl ?_ | refine AP.cond_false rfl rfl ?_ | (refine AP.region rfl (by kernel_rfl) ?_; simp only [go_sem, Nat.reduceAdd, Nat.reduceLeDiff, reduceCtorEq, Tr.iv]) | (refine AP.drawQ rfl rfl (by kernel_rfl) ?_; simp only [go_sem, Nat.reduceAdd, Nat.reduceLeDiff, reduceCtorEq, Tr.iv]) | (refine vq_id ?_; simp only [go_sem, Nat.reduceAdd, Nat.reduceLeDiff, reduceCtorEq, Tr.iv]) | (refine ⟨by first | omega | (intros; simp_all; done) | (intros; simp_all; omega), ?_⟩; try simp only [go_sem, Nat.reduceAdd, Nat.reduceLeDiff, reduceCtorEq, Tr.iv]))
        refine AP.draw 11 [(9, Tv (.node k' v' l' (.node kr vr r' rr))), (10, Tv (.node k v l (.node k' v' l' (.node kr vr r' rr))))] (by kernel_rfl) rfl (by kernel_rfl) (by kernel_rfl) ?_
        simp only [go_sem, Nat.reduceAdd, Nat.reduceLeDiff, reduceCtorEq, Tv, Tr.iv]
        refine ⟨by have := rotR_spec kr vr rr k' v' l' r' (by omega); simpa only [Tv, Tr.iv] using this, by have := with_spec k v l (.node kr vr (.node k' v' l' r') rr) l (.node k' v' l' (.node kr vr r' rr)) (by simp only [Tr.size]; omega); simpa only [Tv, Tr.iv] using this, ?_⟩
        repeat (first | refine xPP rfl ?_ | refine xPE rfl ?_ | refine xEP rfl ?_ | refine xEE rfl ?_ | refine AQ.done ?_ | refine AQ.skip (by kernel_rfl) rfl ?_ | refine AQ.s2b (by kernel_rfl) rfl rfl rfl rfl ?_ | refine AQ.mark (by kernel_rfl) rfl rfl rfl rfl rfl rfl rfl ?_ | refine AP.cond_true rfl rfl ?_ | refine AP.cond_false rfl rfl ?_ | (refine AP.region rfl (by kernel_rfl) ?_; simp only [go_sem, Nat.reduceAdd, Nat.reduceLeDiff, reduceCtorEq]) | (refine AP.drawQ rfl rfl (by kernel_rfl) ?_; simp only [go_sem, Nat.reduceAdd, Nat.reduceLeDiff, reduceCtorEq]) | (refine vq_id ?_; simp only [go_sem, Nat.reduceAdd, Nat.reduceLeDiff, reduceCtorEq]) | (refine ⟨by first | omega | (intros; simp_all; done) | (intros; simp_all; omega), ?_⟩; try simp only [go_sem, Nat.reduceAdd, Nat.reduceLeDiff, reduceCtorEq]))
        refine AQ.fn (by kernel_rfl) rfl rfl rfl (rotL_spec k v l k' v' l' (.node kr vr r' rr) (by simp only [Tr.size]; omega)) rfl ?_
        repeat (first | refine xPP rfl ?_ | refine xPE rfl ?_ | refine xEP rfl ?_ | refine xEE rfl ?_ | refine AQ.done ?_ | refine AQ.skip (by kernel_rfl) rfl ?_ | refine AQ.s2b (by kernel_rfl) rfl rfl rfl rfl ?_ | refine AQ.mark (by kernel_rfl) rfl rfl rfl rfl rfl rfl rfl ?_ | refine AP.cond_true rfl rfl ?_ | refine AP.cond_false rfl rfl ?_ | (refine AP.region rfl (by kernel_rfl) ?_; simp only [go_sem, Nat.reduceAdd, Nat.reduceLeDiff, reduceCtorEq]) | (refine AP.drawQ rfl rfl (by kernel_rfl) ?_; simp only [go_sem, Nat.reduceAdd, Nat.reduceLeDiff, reduceCtorEq]) | (refine vq_id ?_; simp only [go_sem, Nat.reduceAdd, Nat.reduceLeDiff, reduceCtorEq]) | (refine ⟨by first | omega | (intros; simp_all; done) | (intros; simp_all; omega), ?_⟩; try simp only [go_sem, Nat.reduceAdd, Nat.reduceLeDiff, reduceCtorEq]))
        refine AE.ret rfl ⟨rfl, trivial⟩ ⟨rfl, ?_⟩
        have e : Tr.bal (.node k v l (.node kr vr (.node k' v' l' r') rr)) = .node k' v' (.node k v l l') (.node kr vr r' rr) := by
          rw [Tr.bal, if_neg hnl, if_pos hlt, if_pos (show (Tr.node kr vr (.node k' v' l' r') rr).right.ht < (Tr.node kr vr (.node k' v' l' r') rr).left.ht from hlt2)]; rfl
        rw [e]; rfl
      · have hlt2 : ¬ rr.ht < rl.ht := by simp at hd; omega
        repeat (first | refine xPP rfl ?_ | refine xPE rfl ?_ | refine xEP rfl ?_ | refine xEE rfl ?_ | refine AQ.done ?_ | refine AQ.skip (by kernel_rfl) rfl ?_ | refine AQ.s2b (by kernel_rfl) rfl rfl rfl rfl ?_ | refine AQ.mark (by kernel_rfl) rfl rfl rfl rfl rfl rfl rfl ?_ | refine AP.cond_true rfl rfl ?_ | refine AP.cond_false rfl rfl ?_ | (refine AP.region rfl (by kernel_rfl) ?_; simp only [go_sem, Nat.reduceAdd, Nat.reduceLeDiff, reduceCtorEq, Tr.iv]) | (refine AP.drawQ rfl rfl (by kernel_rfl) ?_; simp only [go_sem, Nat.reduceAdd, Nat.reduceLeDiff, reduceCtorEq, Tr.iv]) | (refine vq_id ?_; simp only [go_sem, Nat.reduceAdd, Nat.reduceLeDiff, reduceCtorEq, Tr.iv]) | (refine ⟨by first | omega | (intros; simp_all; done) | (intros; simp_all; omega), ?_⟩; try simp only [go_sem, Nat.reduceAdd, Nat.reduceLeDiff, reduceCtorEq, Tr.iv]))
        refine AQ.fn (by kernel_rfl) rfl rfl rfl (rotL_spec k v l kr vr rl rr (by omega)) rfl ?_
        repeat (first | refine xPP rfl ?_ | refine xPE rfl ?_ | refine xEP rfl ?_ | refine xEE rfl ?_ | refine AQ.done ?_ | refine AQ.skip (by kernel_rfl) rfl ?_ | refine AQ.s2b (by kernel_rfl) rfl rfl rfl rfl ?_ | refine AQ.mark (by kernel_rfl) rfl rfl rfl rfl rfl rfl rfl ?_ | refine AP.cond_true rfl rfl ?_ | refine AP.cond_false rfl rfl ?_ | (refine AP.region rfl (by kernel_rfl) ?_; simp only [go_sem, Nat.reduceAdd, Nat.reduceLeDiff, reduceCtorEq]) | (refine AP.drawQ rfl rfl (by kernel_rfl) ?_; simp only [go_sem, Nat.reduceAdd, Nat.reduceLeDiff, reduceCtorEq]) | (refine vq_id ?_; simp only [go_sem, Nat.reduceAdd, Nat.reduceLeDiff, reduceCtorEq]) | (refine ⟨by first | omega | (intros; simp_all; done) | (intros; simp_all; omega), ?_⟩; try simp only [go_sem, Nat.reduceAdd, Nat.reduceLeDiff, reduceCtorEq]))
        refine AE.ret rfl ⟨rfl, trivial⟩ ⟨rfl, ?_⟩
        have e : Tr.bal (.node k v l (.node kr vr rl rr)) = .node kr vr (.node k v l rl) rr := by
          rw [Tr.bal, if_neg hnl, if_pos hlt, if_neg (show ¬ (Tr.node kr vr rl rr).right.ht < (Tr.node kr vr rl rr).left.ht from hlt2)]; rfl
        rw [e]; rfl
    · have hnr : ¬ l.ht + 1 < r.ht := by simp at hc2; omega
      repeat (first | refine xPP rfl ?_ | refine xPE rfl ?_ | refine xEP rfl ?_ | refine xEE rfl ?_ | refine AQ.done ?_ | refine AQ.skip (by kernel_rfl) rfl ?_ | refine AQ.s2b (by kernel_rfl) rfl rfl rfl rfl ?_ | refine AQ.mark (by kernel_rfl) rfl rfl rfl rfl rfl rfl rfl ?_ | refine AP.cond_true rfl rfl ?_ | refine AP.cond_false rfl rfl ?_ | (refine AP.region rfl (by kernel_rfl) ?_; simp only [go_sem, Nat.reduceAdd, Nat.reduceLeDiff, reduceCtorEq]) | (refine AP.drawQ rfl rfl (by kernel_rfl) ?_; simp only [go_sem, Nat.reduceAdd, Nat.reduceLeDiff, reduceCtorEq]) | (refine vq_id ?_; simp only [go_sem, Nat.reduceAdd, Nat.reduceLeDiff, reduceCtorEq]) | (refine ⟨by first | omega | (intros; simp_all; done) | (intros; simp_all; omega), ?_⟩; try simp only [go_sem, Nat.reduceAdd, Nat.reduceLeDiff, reduceCtorEq]))
      refine AE.ret rfl ⟨rfl, trivial⟩ ⟨rfl, ?_⟩
      have e : Tr.bal (.node k v l r) = .node k v l r := by simp only [Tr.bal, if_neg hnl, if_neg hnr]
      rw [e]; rfl
def Tr.put (k : List UInt8) (v : Int) : Tr → Tr
  | .nil => .node k v .nil .nil
  | .node k' v' l r => if cmpS k k' < 0 then Tr.bal (.node k' v' (Tr.put k v l) r) else if 0 < cmpS k k' then Tr.bal (.node k' v' l (Tr.put k v r)) else .node k v l r
theorem Tr.size_rotL (t : Tr) : t.rotL.size = t.size := by
  unfold Tr.rotL
  split
  · simp only [Tr.size]; omega
  · rfl
theorem Tr.size_rotR (t : Tr) : t.rotR.size = t.size := by
  unfold Tr.rotR
  split
  · simp only [Tr.size]; omega
  · rfl
theorem Tr.size_bal (t : Tr) : t.bal.size = t.size := by
  cases t with
  | nil => rfl
  | node k v l r =>
    simp only [Tr.bal]
    split
    · rw [Tr.size_rotR]; split <;> simp only [Tr.size, Tr.size_rotL]
    · split
      · rw [Tr.size_rotL]; split <;> simp only [Tr.size, Tr.size_rotR]
      · rfl
theorem Tr.size_put (k : List UInt8) (v : Int) : ∀ t : Tr, (Tr.put k v t).size ≤ t.size + 1
  | .nil => Nat.le_refl _
  | .node k' v' l r => by
    have h1 := Tr.size_put k v l
    have h2 := Tr.size_put k v r
    simp only [Tr.put]
    split
    · rw [Tr.size_bal]; simp only [Tr.size]; omega
    · split
      · rw [Tr.size_bal]; simp only [Tr.size]; omega
      · simp only [Tr.size]; omega
theorem put_spec (k : List UInt8) (v : Int) : ∀ t : Tr, t.size + 2 ≤ 1000000000 → PFn Try.prog 80 [Tv t, Sv k, Iv v] (Tv (t.put k v))
  | .nil, _ => by
    refine ACall.walk [0, 1, 2, 6, 7, 8, 10, 21, 38] [8] Try.func80 rfl Try.ntmps80 (by kernel_rfl) (by rfl) rfl fun W own I0 φ0 => ?_
    repeat (first | refine xPP rfl ?_ | refine xPE rfl ?_ | refine xEP rfl ?_ | refine xEE rfl ?_ | refine AQ.done ?_ | refine AQ.skip (by kernel_rfl) rfl ?_ | refine AQ.s2b (by kernel_rfl) rfl rfl rfl rfl ?_ | refine AQ.mark (by kernel_rfl) rfl rfl rfl rfl rfl rfl rfl ?_ | refine AP.cond_true rfl rfl ?_ | refine AP.cond_false rfl rfl ?_ | (refine AP.region rfl (by kernel_rfl) ?_; simp only [go_sem, Nat.reduceAdd, Nat.reduceLeDiff, reduceCtorEq, Tv, Tr.iv]) | (refine AP.drawQ rfl rfl (by kernel_rfl) ?_; simp only [go_sem, Nat.reduceAdd, Nat.reduceLeDiff, reduceCtorEq, Tv, Tr.iv]) | (refine vq_id ?_; simp only [go_sem, Nat.reduceAdd, Nat.reduceLeDiff, reduceCtorEq, Tv, Tr.iv]) | (refine ⟨by first | omega | (intros; simp_all; done) | (intros; simp_all; omega), ?_⟩; try simp only [go_sem, Nat.reduceAdd, Nat.reduceLeDiff, reduceCtorEq, Tv, Tr.iv]))
    exact AE.ret rfl ⟨rfl, trivial⟩ ⟨rfl, rfl⟩
  | .node k' v' l r, hs => by
    have hs' : l.size + r.size + 3 ≤ 1000000000 := by simp only [Tr.size] at hs; omega
    have ihl := put_spec k v l (by omega)
    have ihr := put_spec k v r (by omega)
    have z1 := Tr.size_put k v l
    have z2 := Tr.size_put k v r
    refine ACall.walk [0, 1, 2, 6, 7, 8, 10, 21, 38] [8] Try.func80 rfl Try.ntmps80 (by kernel_rfl) (by rfl) rfl fun W own I0 φ0 => ?_
    repeat (first | refine xPP rfl ?_ | refine xPE rfl ?_ | refine xEP rfl ?_ | refine xEE rfl ?_ | refine AQ.done ?_ | refine AQ.skip (by kernel_rfl) rfl ?_ | refine AQ.s2b (by kernel_rfl) rfl rfl rfl rfl ?_ | refine AQ.mark (by kernel_rfl) rfl rfl rfl rfl rfl rfl rfl ?_ | refine AP.cond_true rfl rfl ?_ | refine AP.cond_false rfl rfl ?_ | (refine AP.region rfl (by kernel_rfl) ?_; simp only [go_sem, Nat.reduceAdd, Nat.reduceLeDiff, reduceCtorEq, Tv, Tr.iv]) | (refine AP.drawQ rfl rfl (by kernel_rfl) ?_; simp only [go_sem, Nat.reduceAdd, Nat.reduceLeDiff, reduceCtorEq, Tv, Tr.iv]) | (refine vq_id ?_; simp only [go_sem, Nat.reduceAdd, Nat.reduceLeDiff, reduceCtorEq, Tv, Tr.iv]) | (refine ⟨by first | omega | (intros; simp_all; done) | (intros; simp_all; omega), ?_⟩; try simp only [go_sem, Nat.reduceAdd, Nat.reduceLeDiff, reduceCtorEq, Tv, Tr.iv]))
    refine AQ.fn (by kernel_rfl) rfl rfl rfl (compare_spec k k') rfl ?_
    repeat (first | refine xPP rfl ?_ | refine xPE rfl ?_ | refine xEP rfl ?_ | refine xEE rfl ?_ | refine AQ.done ?_ | refine AQ.skip (by kernel_rfl) rfl ?_ | refine AQ.s2b (by kernel_rfl) rfl rfl rfl rfl ?_ | refine AQ.mark (by kernel_rfl) rfl rfl rfl rfl rfl rfl rfl ?_ | refine AP.cond_true rfl rfl ?_ | refine AP.cond_false rfl rfl ?_ | (refine AP.region rfl (by kernel_rfl) ?_; simp only [go_sem, Nat.reduceAdd, Nat.reduceLeDiff, reduceCtorEq]) | (refine AP.drawQ rfl rfl (by kernel_rfl) ?_; simp only [go_sem, Nat.reduceAdd, Nat.reduceLeDiff, reduceCtorEq]) | (refine vq_id ?_; simp only [go_sem, Nat.reduceAdd, Nat.reduceLeDiff, reduceCtorEq]) | (refine ⟨by first | omega | (intros; simp_all; done) | (intros; simp_all; omega), ?_⟩; try simp only [go_sem, Nat.reduceAdd, Nat.reduceLeDiff, reduceCtorEq]))
    refine AP.cond rfl rfl (fun hc => ?_) (fun hc => ?_)
    · have hlt : cmpS k k' < 0 := by simpa using hc
      repeat (first | refine xPP rfl ?_ | refine xPE rfl ?_ | refine xEP rfl ?_ | refine xEE rfl ?_ | refine AQ.done ?_ | refine AQ.skip (by kernel_rfl) rfl ?_ | refine AQ.s2b (by kernel_rfl) rfl rfl rfl rfl ?_ | refine AQ.mark (by kernel_rfl) rfl rfl rfl rfl rfl rfl rfl ?_ | refine AP.cond_true rfl rfl ?_ | refine AP.cond_false rfl rfl ?_ | (refine AP.region rfl (by kernel_rfl) ?_; simp only [go_sem, Nat.reduceAdd, Nat.reduceLeDiff, reduceCtorEq, Tr.iv]) | (refine AP.drawQ rfl rfl (by kernel_rfl) ?_; simp only [go_sem, Nat.reduceAdd, Nat.reduceLeDiff, reduceCtorEq, Tr.iv]) | (refine vq_id ?_; simp only [go_sem, Nat.reduceAdd, Nat.reduceLeDiff, reduceCtorEq, Tr.iv]) | (refine ⟨by first | omega | (intros; simp_all; done) | (intros; simp_all; omega), ?_⟩; try simp only [go_sem, Nat.reduceAdd, Nat.reduceLeDiff, reduceCtorEq, Tr.iv]))
      refine AP.draw 14 [(7, Tv (l.put k v)), (12, Tv (.node k' v' (l.put k v) r)), (13, Tv (Tr.bal (.node k' v' (l.put k v) r)))] (by kernel_rfl) rfl (by kernel_rfl) (by kernel_rfl) ?_
      simp only [go_sem, Nat.reduceAdd, Nat.reduceLeDiff, reduceCtorEq, Tv, Tr.iv]
      refine ⟨ihl, by have := with_spec k' v' l r (l.put k v) r (by omega); simpa only [Tv, Tr.iv] using this, by have := bal_spec k' v' (l.put k v) r (by omega); simpa only [Tv, Tr.iv] using this, ?_⟩
      repeat (first | refine xPP rfl ?_ | refine xPE rfl ?_ | refine xEP rfl ?_ | refine xEE rfl ?_ | refine AQ.done ?_ | refine AQ.skip (by kernel_rfl) rfl ?_ | refine AQ.s2b (by kernel_rfl) rfl rfl rfl rfl ?_ | refine AQ.mark (by kernel_rfl) rfl rfl rfl rfl rfl rfl rfl ?_ | refine AP.cond_true rfl rfl ?_ | refine AP.cond_false rfl rfl ?_ | (refine AP.region rfl (by kernel_rfl) ?_; simp only [go_sem, Nat.reduceAdd, Nat.reduceLeDiff, reduceCtorEq]) | (refine AP.drawQ rfl rfl (by kernel_rfl) ?_; simp only [go_sem, Nat.reduceAdd, Nat.reduceLeDiff, reduceCtorEq]) | (refine vq_id ?_; simp only [go_sem, Nat.reduceAdd, Nat.reduceLeDiff, reduceCtorEq]) | (refine ⟨by first | omega | (intros; simp_all; done) | (intros; simp_all; omega), ?_⟩; try simp only [go_sem, Nat.reduceAdd, Nat.reduceLeDiff, reduceCtorEq]))
      refine AE.ret rfl ⟨rfl, trivial⟩ ⟨rfl, ?_⟩
      have e : Tr.put k v (.node k' v' l r) = Tr.bal (.node k' v' (l.put k v) r) := by simp only [Tr.put, if_pos hlt]
      rw [e]; rfl
    · have hnl : ¬ cmpS k k' < 0 := by simpa using hc
      repeat (first | refine xPP rfl ?_ | refine xPE rfl ?_ | refine xEP rfl ?_ | refine xEE rfl ?_ | refine AQ.done ?_ | refine AQ.skip (by kernel_rfl) rfl ?_ | refine AQ.s2b (by kernel_rfl) rfl rfl rfl rfl ?_ | refine AQ.mark (by kernel_rfl) rfl rfl rfl rfl rfl rfl rfl ?_ | refine AP.cond_true rfl rfl ?_ | refine AP.cond_false rfl rfl ?_ | (refine AP.region rfl (by kernel_rfl) ?_; simp only [go_sem, Nat.reduceAdd, Nat.reduceLeDiff, reduceCtorEq]) | (refine AP.drawQ rfl rfl (by kernel_rfl) ?_; simp only [go_sem, Nat.reduceAdd, Nat.reduceLeDiff, reduceCtorEq]) | (refine vq_id ?_; simp only [go_sem, Nat.reduceAdd, Nat.reduceLeDiff, reduceCtorEq]) | (refine ⟨by first | omega | (intros; simp_all; done) | (intros; simp_all; omega), ?_⟩; try simp only [go_sem, Nat.reduceAdd, Nat.reduceLeDiff, reduceCtorEq]))
      refine AP.cond rfl rfl (fun hc2 => ?_) (fun hc2 => ?_)
      · have hlt : 0 < cmpS k k' := by simpa using hc2
        repeat (first | refine xPP rfl ?_ | refine xPE rfl ?_ | refine xEP rfl ?_ | refine xEE rfl ?_ | refine AQ.done ?_ | refine AQ.skip (by kernel_rfl) rfl ?_ | refine AQ.s2b (by kernel_rfl) rfl rfl rfl rfl ?_ | refine AQ.mark (by kernel_rfl) rfl rfl rfl rfl rfl rfl rfl ?_ | refine AP.cond_true rfl rfl ?_ | refine AP.cond_false rfl rfl ?_ | (refine AP.region rfl (by kernel_rfl) ?_; simp only [go_sem, Nat.reduceAdd, Nat.reduceLeDiff, reduceCtorEq, Tr.iv]) | (refine AP.drawQ rfl rfl (by kernel_rfl) ?_; simp only [go_sem, Nat.reduceAdd, Nat.reduceLeDiff, reduceCtorEq, Tr.iv]) | (refine vq_id ?_; simp only [go_sem, Nat.reduceAdd, Nat.reduceLeDiff, reduceCtorEq, Tr.iv]) | (refine ⟨by first | omega | (intros; simp_all; done) | (intros; simp_all; omega), ?_⟩; try simp only [go_sem, Nat.reduceAdd, Nat.reduceLeDiff, reduceCtorEq, Tr.iv]))
        refine AP.draw 14 [(11, Tv (r.put k v)), (12, Tv (.node k' v' l (r.put k v))), (13, Tv (Tr.bal (.node k' v' l (r.put k v))))] (by kernel_rfl) rfl (by kernel_rfl) (by kernel_rfl) ?_
        simp only [go_sem, Nat.reduceAdd, Nat.reduceLeDiff, reduceCtorEq, Tv, Tr.iv]
        refine ⟨ihr, by have := with_spec k' v' l r l (r.put k v) (by omega); simpa only [Tv, Tr.iv] using this, by have := bal_spec k' v' l (r.put k v) (by omega); simpa only [Tv, Tr.iv] using this, ?_⟩
        repeat (first | refine xPP rfl ?_ | refine xPE rfl ?_ | refine xEP rfl ?_ | refine xEE rfl ?_ | refine AQ.done ?_ | refine AQ.skip (by kernel_rfl) rfl ?_ | refine AQ.s2b (by kernel_rfl) rfl rfl rfl rfl ?_ | refine AQ.mark (by kernel_rfl) rfl rfl rfl rfl rfl rfl rfl ?_ | refine AP.cond_true rfl rfl ?_ | refine AP.cond_false rfl rfl ?_ | (refine AP.region rfl (by kernel_rfl) ?_; simp only [go_sem, Nat.reduceAdd, Nat.reduceLeDiff, reduceCtorEq]) | (refine AP.drawQ rfl rfl (by kernel_rfl) ?_; simp only [go_sem, Nat.reduceAdd, Nat.reduceLeDiff, reduceCtorEq]) | (refine vq_id ?_; simp only [go_sem, Nat.reduceAdd, Nat.reduceLeDiff, reduceCtorEq]) | (refine ⟨by first | omega | (intros; simp_all; done) | (intros; simp_all; omega), ?_⟩; try simp only [go_sem, Nat.reduceAdd, Nat.reduceLeDiff, reduceCtorEq]))
        refine AE.ret rfl ⟨rfl, trivial⟩ ⟨rfl, ?_⟩
        have e : Tr.put k v (.node k' v' l r) = Tr.bal (.node k' v' l (r.put k v)) := by simp only [Tr.put, if_neg hnl, if_pos hlt]
        rw [e]; rfl
      · have hng : ¬ 0 < cmpS k k' := by simpa using hc2
        repeat (first | refine xPP rfl ?_ | refine xPE rfl ?_ | refine xEP rfl ?_ | refine xEE rfl ?_ | refine AQ.done ?_ | refine AQ.skip (by kernel_rfl) rfl ?_ | refine AQ.s2b (by kernel_rfl) rfl rfl rfl rfl ?_ | refine AQ.mark (by kernel_rfl) rfl rfl rfl rfl rfl rfl rfl ?_ | refine AP.cond_true rfl rfl ?_ | refine AP.cond_false rfl rfl ?_ | (refine AP.region rfl (by kernel_rfl) ?_; simp only [go_sem, Nat.reduceAdd, Nat.reduceLeDiff, reduceCtorEq, Tr.iv]) | (refine AP.drawQ rfl rfl (by kernel_rfl) ?_; simp only [go_sem, Nat.reduceAdd, Nat.reduceLeDiff, reduceCtorEq, Tr.iv]) | (refine vq_id ?_; simp only [go_sem, Nat.reduceAdd, Nat.reduceLeDiff, reduceCtorEq, Tr.iv]) | (refine ⟨by first | omega | (intros; simp_all; done) | (intros; simp_all; omega), ?_⟩; try simp only [go_sem, Nat.reduceAdd, Nat.reduceLeDiff, reduceCtorEq, Tr.iv]))
        refine AE.fix 0 rfl rfl ?_
        refine AE.ret rfl ⟨rfl, trivial⟩ ⟨rfl, ?_⟩
        have e : Tr.put k v (.node k' v' l r) = .node k v l r := by simp only [Tr.put, if_neg hnl, if_neg hng]
        rw [e]; rfl
end Go.Proofs.Ytfgffpkdjmeaoaa
end

section
namespace Go.Proofs.Ytfgffpkdjmeaoaa
open Go Go.AL
set_option maxRecDepth 10000
set_option maxHeartbeats 2000000
theorem Put_spec (t : Tr) (k : List UInt8) (v : Int) (hs : t.size + 2 ≤ 1000000000) : PFn Try.prog 50 [.agg [Tv t], Sv k, Iv v] (.agg [Tv (t.put k v)]) := by
  refine ACall.walk [0, 1, 2, 3, 6] [6] Try.func50 rfl Try.ntmps50 (by kernel_rfl) (by rfl) rfl fun W own I0 φ0 => ?_
  repeat (first | refine xPP rfl ?_ | refine xPE rfl ?_ | refine xEP rfl ?_ | refine xEE rfl ?_ | refine AQ.done ?_ | refine AQ.skip (by kernel_rfl) rfl ?_ | refine AQ.s2b (by kernel_rfl) rfl rfl rfl rfl ?_ | refine AQ.mark (by kernel_rfl) rfl rfl rfl rfl rfl rfl rfl ?_ | refine AP.cond_true rfl rfl ?_ | refine AP.cond_false rfl rfl ?_ | (refine AP.region rfl (by kernel_rfl) ?_; simp only [go_sem, Nat.reduceAdd, Nat.reduceLeDiff, reduceCtorEq]) | (refine AP.drawQ rfl rfl (by kernel_rfl) ?_; simp only [go_sem, Nat.reduceAdd, Nat.reduceLeDiff, reduceCtorEq]) | (refine vq_id ?_; simp only [go_sem, Nat.reduceAdd, Nat.reduceLeDiff, reduceCtorEq]) | (refine ⟨by first | omega | (intros; simp_all; done) | (intros; simp_all; omega), ?_⟩; try simp only [go_sem, Nat.reduceAdd, Nat.reduceLeDiff, reduceCtorEq]))
  refine AQ.fn (by kernel_rfl) rfl rfl rfl (put_spec k v t hs) rfl ?_
  repeat (first | refine xPP rfl ?_ | refine xPE rfl ?_ | refine xEP rfl ?_ | refine xEE rfl ?_ | refine AQ.done ?_ | refine AQ.skip (by kernel_rfl) rfl ?_ | refine AQ.s2b (by kernel_rfl) rfl rfl rfl rfl ?_ | refine AQ.mark (by kernel_rfl) rfl rfl rfl rfl rfl rfl rfl ?_ | refine AP.cond_true rfl rfl ?_ | refine AP.cond_false rfl rfl ?_ | (refine AP.region rfl (by kernel_rfl) ?_; simp only [go_sem, Nat.reduceAdd, Nat.reduceLeDiff, reduceCtorEq]) | (refine AP.drawQ rfl rfl (by kernel_rfl) ?_; simp only [go_sem, Nat.reduceAdd, Nat.reduceLeDiff, reduceCtorEq]) | (refine vq_id ?_; simp only [go_sem, Nat.reduceAdd, Nat.reduceLeDiff, reduceCtorEq]) | (refine ⟨by first | omega | (intros; simp_all; done) | (intros; simp_all; omega), ?_⟩; try simp only [go_sem, Nat.reduceAdd, Nat.reduceLeDiff, reduceCtorEq]))
  exact AE.ret0 rfl ⟨⟨rfl, Nat.le_of_ble_eq_true (by kernel_rfl)⟩, trivial⟩ rfl ⟨rfl, rfl⟩
theorem Size_spec (t : Tr) : PFn Try.prog 41 [.agg [Tv t]] (Iv t.size) := by
  refine ACall.walk [0, 1, 2] [] Try.func41 rfl Try.ntmps41 (by kernel_rfl) (by rfl) rfl fun W own I0 φ0 => ?_
  repeat (first | refine xPP rfl ?_ | refine xPE rfl ?_ | refine xEP rfl ?_ | refine xEE rfl ?_ | refine AQ.done ?_ | refine AQ.skip (by kernel_rfl) rfl ?_ | refine AQ.s2b (by kernel_rfl) rfl rfl rfl rfl ?_ | refine AQ.mark (by kernel_rfl) rfl rfl rfl rfl rfl rfl rfl ?_ | refine AP.cond_true rfl rfl ?_ | refine AP.cond_false rfl rfl ?_ | (refine AP.region rfl (by kernel_rfl) ?_; simp only [go_sem, Nat.reduceAdd, Nat.reduceLeDiff, reduceCtorEq]) | (refine AP.drawQ rfl rfl (by kernel_rfl) ?_; simp only [go_sem, Nat.reduceAdd, Nat.reduceLeDiff, reduceCtorEq]) | (refine vq_id ?_; simp only [go_sem, Nat.reduceAdd, Nat.reduceLeDiff, reduceCtorEq]) | (refine ⟨by first | omega | (intros; simp_all; done) | (intros; simp_all; omega), ?_⟩; try simp only [go_sem, Nat.reduceAdd, Nat.reduceLeDiff, reduceCtorEq]))
  refine AQ.fn (by kernel_rfl) rfl rfl rfl (count_spec t) rfl ?_
  repeat (first | refine xPP rfl ?_ | refine xPE rfl ?_ | refine xEP rfl ?_ | refine xEE rfl ?_ | refine AQ.done ?_ | refine AQ.skip (by kernel_rfl) rfl ?_ | refine AQ.s2b (by kernel_rfl) rfl rfl rfl rfl ?_ | refine AQ.mark (by kernel_rfl) rfl rfl rfl rfl rfl rfl rfl ?_ | refine AP.cond_true rfl rfl ?_ | refine AP.cond_false rfl rfl ?_ | (refine AP.region rfl (by kernel_rfl) ?_; simp only [go_sem, Nat.reduceAdd, Nat.reduceLeDiff, reduceCtorEq]) | (refine AP.drawQ rfl rfl (by kernel_rfl) ?_; simp only [go_sem, Nat.reduceAdd, Nat.reduceLeDiff, reduceCtorEq]) | (refine vq_id ?_; simp only [go_sem, Nat.reduceAdd, Nat.reduceLeDiff, reduceCtorEq]) | (refine ⟨by first | omega | (intros; simp_all; done) | (intros; simp_all; omega), ?_⟩; try simp only [go_sem, Nat.reduceAdd, Nat.reduceLeDiff, reduceCtorEq]))
  exact AE.ret rfl ⟨rfl, trivial⟩ ⟨rfl, rfl⟩
def Tr.at : Tr → Nat → List UInt8 × Int
  | .nil, _ => ([], 0)
  | .node k v l r, i => if i = l.size then (k, v) else if i < l.size then l.at i else r.at (i - (l.size + 1))
theorem At_in (t : Tr) (i : Nat) (hi : i < t.size) (hs : t.size ≤ 1000000000) : PFn Try.prog 51 [.agg [Tv t], Iv i] (.tup [Sv (t.at i).1, Iv (t.at i).2, Bv true]) := by
  refine ACall.walk [0, 1, 2, 4, 5, 6, 7, 15, 26, 33] [] Try.func51 rfl Try.ntmps51 (by kernel_rfl) (by rfl) rfl fun W own I0 φ0 => ?_
  have h0 : decide ((i : Int) < 0) = false := by simp
  repeat (first | refine xPP rfl ?_ | refine xPE rfl ?_ | refine xEP rfl ?_ | refine xEE rfl ?_ | refine AQ.done ?_ | refine AQ.skip (by kernel_rfl) rfl ?_ | refine AQ.s2b (by kernel_rfl) rfl rfl rfl rfl ?_ | refine AQ.mark (by kernel_rfl) rfl rfl rfl rfl rfl rfl rfl ?_ | refine AP.cond_true rfl rfl ?_ | refine AP.cond_false rfl rfl ?_ | (refine AP.region rfl (by kernel_rfl) ?_; simp only [go_sem, Nat.reduceAdd, Nat.reduceLeDiff, reduceCtorEq, h0]) | (refine AP.drawQ rfl rfl (by kernel_rfl) ?_; simp only [go_sem, Nat.reduceAdd, Nat.reduceLeDiff, reduceCtorEq, h0]) | (refine vq_id ?_; simp only [go_sem, Nat.reduceAdd, Nat.reduceLeDiff, reduceCtorEq, h0]) | (refine ⟨by first | omega | (intros; simp_all; done) | (intros; simp_all; omega), ?_⟩; try simp only [go_sem, Nat.reduceAdd, Nat.reduceLeDiff, reduceCtorEq, h0]))
  refine AQ.fn_g (by kernel_rfl) rfl rfl (fun h => by first | (simp [gs, AV.g]; done) | (simp [gs, AV.g, constAV]; done) | (simp [gs, AV.g, constAV, bw] at h ⊢; done) | (simp [bw] at h; done) | (simp [gs, AV.g, bw] at h ⊢; simp [h]; done) | (simp [gs, AV.g, bw] at h ⊢; exact h.1) | (simp [gs, AV.g]; rfl) | (simp [gs, AV.g, bw] at h ⊢; rfl) | (simp [gs, AV.g, bw] at h ⊢; simp [h]; rfl) | (simp [gs, AV.g, bw] at h ⊢; simp_all)) rfl (fun _ => Size_spec t) rfl ?_
  have h1 : decide ((t.size : Int) ≤ (i : Int)) = false := by simp; omega
  repeat (first | refine xPP rfl ?_ | refine xPE rfl ?_ | refine xEP rfl ?_ | refine xEE rfl ?_ | refine AQ.done ?_ | refine AQ.skip (by kernel_rfl) rfl ?_ | refine AQ.s2b (by kernel_rfl) rfl rfl rfl rfl ?_ | refine AQ.mark (by kernel_rfl) rfl rfl rfl rfl rfl rfl rfl ?_ | refine AP.cond_true rfl rfl ?_ | refine AP.cond_false rfl rfl ?_ | (refine AP.region rfl (by kernel_rfl) ?_; simp only [go_sem, Nat.reduceAdd, Nat.reduceLeDiff, reduceCtorEq, h1]) | (refine AP.drawQ rfl rfl (by kernel_rfl) ?_; simp only [go_sem, Nat.reduceAdd, Nat.reduceLeDiff, reduceCtorEq, h1]) | (refine vq_id ?_; simp only [go_sem, Nat.reduceAdd, Nat.reduceLeDiff, reduceCtorEq, h1]) | (refine ⟨by first | omega | (intros; simp_all; done) | (intros; simp_all; omega), ?_⟩; try simp only [go_sem, Nat.reduceAdd, Nat.reduceLeDiff, reduceCtorEq, h1]))
  refine AP.loop rfl (α := Tr × Nat) (fun p => [(1, Iv p.2), (7, Tv p.1)]) (fun _ => []) (fun p => p.2 < p.1.size ∧ p.1.size ≤ 1000000000 ∧ p.1.at p.2 = t.at i) (fun p => p.1.size) (t, i) ⟨hi, hs, rfl⟩ (by repeat (first | exact Sub.nil _ | refine Sub.cons rfl ?_)) rfl fun p hp => ?_
  obtain ⟨n, j⟩ := p
  obtain ⟨hj, hn, hat⟩ := hp
  simp only at hj hn hat
  cases n with
  | nil => simp [Tr.size] at hj
  | node k v l r =>
    have hz : (Tr.node k v l r).size = l.size + r.size + 1 := rfl
    repeat (first | refine xPP rfl ?_ | refine xPE rfl ?_ | refine xEP rfl ?_ | refine xEE rfl ?_ | refine AQ.done ?_ | refine AQ.skip (by kernel_rfl) rfl ?_ | refine AQ.s2b (by kernel_rfl) rfl rfl rfl rfl ?_ | refine AQ.mark (by kernel_rfl) rfl rfl rfl rfl rfl rfl rfl ?_ | refine AP.cond_true rfl rfl ?_ | refine AP.cond_false rfl rfl ?_ | (refine AP.region rfl (by kernel_rfl) ?_; simp only [go_sem, Nat.reduceAdd, Nat.reduceLeDiff, reduceCtorEq, Tv, Tr.iv]) | (refine AP.drawQ rfl rfl (by kernel_rfl) ?_; simp only [go_sem, Nat.reduceAdd, Nat.reduceLeDiff, reduceCtorEq, Tv, Tr.iv]) | (refine vq_id ?_; simp only [go_sem, Nat.reduceAdd, Nat.reduceLeDiff, reduceCtorEq, Tv, Tr.iv]) | (refine ⟨by first | omega | (intros; simp_all; done) | (intros; simp_all; omega), ?_⟩; try simp only [go_sem, Nat.reduceAdd, Nat.reduceLeDiff, reduceCtorEq, Tv, Tr.iv]))
    refine AQ.fn (by kernel_rfl) rfl rfl rfl (count_spec l) rfl ?_
    repeat (first | refine xPP rfl ?_ | refine xPE rfl ?_ | refine xEP rfl ?_ | refine xEE rfl ?_ | refine AQ.done ?_ | refine AQ.skip (by kernel_rfl) rfl ?_ | refine AQ.s2b (by kernel_rfl) rfl rfl rfl rfl ?_ | refine AQ.mark (by kernel_rfl) rfl rfl rfl rfl rfl rfl rfl ?_ | refine AP.cond_true rfl rfl ?_ | refine AP.cond_false rfl rfl ?_ | (refine AP.region rfl (by kernel_rfl) ?_; simp only [go_sem, Nat.reduceAdd, Nat.reduceLeDiff, reduceCtorEq]) | (refine AP.drawQ rfl rfl (by kernel_rfl) ?_; simp only [go_sem, Nat.reduceAdd, Nat.reduceLeDiff, reduceCtorEq]) | (refine vq_id ?_; simp only [go_sem, Nat.reduceAdd, Nat.reduceLeDiff, reduceCtorEq]) | (refine ⟨by first | omega | (intros; simp_all; done) | (intros; simp_all; omega), ?_⟩; try simp only [go_sem, Nat.reduceAdd, Nat.reduceLeDiff, reduceCtorEq]))
    refine AP.cond rfl rfl (fun hc => ?_) (fun hc => ?_)
    · have hne : j ≠ l.size := by simp at hc; omega
      repeat (first | refine xPP rfl ?_ | refine xPE rfl ?_ | refine xEP rfl ?_ | refine xEE rfl ?_ | refine AQ.done ?_ | refine AQ.skip (by kernel_rfl) rfl ?_ | refine AQ.s2b (by kernel_rfl) rfl rfl rfl rfl ?_ | refine AQ.mark (by kernel_rfl) rfl rfl rfl rfl rfl rfl rfl ?_ | refine AP.cond_true rfl rfl ?_ | refine AP.cond_false rfl rfl ?_ | (refine AP.region rfl (by kernel_rfl) ?_; simp only [go_sem, Nat.reduceAdd, Nat.reduceLeDiff, reduceCtorEq, Tv, Tr.iv]) | (refine AP.drawQ rfl rfl (by kernel_rfl) ?_; simp only [go_sem, Nat.reduceAdd, Nat.reduceLeDiff, reduceCtorEq, Tv, Tr.iv]) | (refine vq_id ?_; simp only [go_sem, Nat.reduceAdd, Nat.reduceLeDiff, reduceCtorEq, Tv, Tr.iv]) | (refine ⟨by first | omega | (intros; simp_all; done) | (intros; simp_all; omega), ?_⟩; try simp only [go_sem, Nat.reduceAdd, Nat.reduceLeDiff, reduceCtorEq, Tv, Tr.iv]))
      refine AQ.fn (by kernel_rfl) rfl rfl rfl (count_spec l) rfl ?_
      repeat (first | refine xPP rfl ?_ | refine xPE rfl ?_ | refine xEP rfl ?_ | refine xEE rfl ?_ | refine AQ.done ?_ | refine AQ.skip (by kernel_rfl) rfl ?_ | refine AQ.s2b (by kernel_rfl) rfl rfl rfl rfl ?_ | refine AQ.mark (by kernel_rfl) rfl rfl rfl rfl rfl rfl rfl ?_ | refine AP.cond_true rfl rfl ?_ | refine AP.cond_false rfl rfl ?_ | (refine AP.region rfl (by kernel_rfl) ?_; simp only [go_sem, Nat.reduceAdd, Nat.reduceLeDiff, reduceCtorEq]) | (refine AP.drawQ rfl rfl (by kernel_rfl) ?_; simp only [go_sem, Nat.reduceAdd, Nat.reduceLeDiff, reduceCtorEq]) | (refine vq_id ?_; simp only [go_sem, Nat.reduceAdd, Nat.reduceLeDiff, reduceCtorEq]) | (refine ⟨by first | omega | (intros; simp_all; done) | (intros; simp_all; omega), ?_⟩; try simp only [go_sem, Nat.reduceAdd, Nat.reduceLeDiff, reduceCtorEq]))
      refine AP.cond rfl rfl (fun hd => ?_) (fun hd => ?_)
      · have hlt : j < l.size := by simp at hd; omega
        repeat (first | refine xPP rfl ?_ | refine xPE rfl ?_ | refine xEP rfl ?_ | refine xEE rfl ?_ | refine AQ.done ?_ | refine AQ.skip (by kernel_rfl) rfl ?_ | refine AQ.s2b (by kernel_rfl) rfl rfl rfl rfl ?_ | refine AQ.mark (by kernel_rfl) rfl rfl rfl rfl rfl rfl rfl ?_ | refine AP.cond_true rfl rfl ?_ | refine AP.cond_false rfl rfl ?_ | (refine AP.region rfl (by kernel_rfl) ?_; simp only [go_sem, Nat.reduceAdd, Nat.reduceLeDiff, reduceCtorEq, Tv, Tr.iv]) | (refine AP.drawQ rfl rfl (by kernel_rfl) ?_; simp only [go_sem, Nat.reduceAdd, Nat.reduceLeDiff, reduceCtorEq, Tv, Tr.iv]) | (refine vq_id ?_; simp only [go_sem, Nat.reduceAdd, Nat.reduceLeDiff, reduceCtorEq, Tv, Tr.iv]) | (refine ⟨by first | omega | (intros; simp_all; done) | (intros; simp_all; omega), ?_⟩; try simp only [go_sem, Nat.reduceAdd, Nat.reduceLeDiff, reduceCtorEq, Tv, Tr.iv]))
        exact AE.round (l, j) ⟨hlt, by dsimp only; omega, by rw [← hat]; simp only [Tr.at, if_neg hne, if_pos hlt]⟩ (by simp only [hz]; omega) (by repeat (first | exact Sub.nil _ | refine Sub.cons rfl ?_)) rfl
      · have hlt : ¬ j < l.size := by simp at hd; omega
        have w1 := wr (x := (l.size : Int) + 1) (by omega)
        have w2 : IntKind.i64.wrap ((j : Int) - ((l.size : Int) + 1)) = ((j - (l.size + 1) : Nat) : Int) := by rw [wr (by omega)]; omega
        repeat (first | refine xPP rfl ?_ | refine xPE rfl ?_ | refine xEP rfl ?_ | refine xEE rfl ?_ | refine AQ.done ?_ | refine AQ.skip (by kernel_rfl) rfl ?_ | refine AQ.s2b (by kernel_rfl) rfl rfl rfl rfl ?_ | refine AQ.mark (by kernel_rfl) rfl rfl rfl rfl rfl rfl rfl ?_ | refine AP.cond_true rfl rfl ?_ | refine AP.cond_false rfl rfl ?_ | (refine AP.region rfl (by kernel_rfl) ?_; simp only [go_sem, Nat.reduceAdd, Nat.reduceLeDiff, reduceCtorEq, Tv, Tr.iv]) | (refine AP.drawQ rfl rfl (by kernel_rfl) ?_; simp only [go_sem, Nat.reduceAdd, Nat.reduceLeDiff, reduceCtorEq, Tv, Tr.iv]) | (refine vq_id ?_; simp only [go_sem, Nat.reduceAdd, Nat.reduceLeDiff, reduceCtorEq, Tv, Tr.iv]) | (refine ⟨by first | omega | (intros; simp_all; done) | (intros; simp_all; omega), ?_⟩; try simp only [go_sem, Nat.reduceAdd, Nat.reduceLeDiff, reduceCtorEq, Tv, Tr.iv]))
        refine AQ.fn (by kernel_rfl) rfl rfl rfl (count_spec l) rfl ?_
        repeat (first | refine xPP rfl ?_ | refine xPE rfl ?_ | refine xEP rfl ?_ | refine xEE rfl ?_ | refine AQ.done ?_ | refine AQ.skip (by kernel_rfl) rfl ?_ | refine AQ.s2b (by kernel_rfl) rfl rfl rfl rfl ?_ | refine AQ.mark (by kernel_rfl) rfl rfl rfl rfl rfl rfl rfl ?_ | refine AP.cond_true rfl rfl ?_ | refine AP.cond_false rfl rfl ?_ | (refine AP.region rfl (by kernel_rfl) ?_; simp only [go_sem, Nat.reduceAdd, Nat.reduceLeDiff, reduceCtorEq, w1, w2]) | (refine AP.drawQ rfl rfl (by kernel_rfl) ?_; simp only [go_sem, Nat.reduceAdd, Nat.reduceLeDiff, reduceCtorEq, w1, w2]) | (refine vq_id ?_; simp only [go_sem, Nat.reduceAdd, Nat.reduceLeDiff, reduceCtorEq, w1, w2]) | (refine ⟨by first | omega | (intros; simp_all; done) | (intros; simp_all; omega), ?_⟩; try simp only [go_sem, Nat.reduceAdd, Nat.reduceLeDiff, reduceCtorEq, w1, w2]))
        exact AE.round (r, j - (l.size + 1)) ⟨by dsimp only; omega, by dsimp only; omega, by rw [← hat]; simp only [Tr.at, if_neg hne, if_neg hlt]⟩ (by simp only [hz]; omega) (by repeat (first | exact Sub.nil _ | refine Sub.cons rfl ?_)) rfl
    · have heq : j = l.size := by simp at hc; omega
      repeat (first | refine xPP rfl ?_ | refine xPE rfl ?_ | refine xEP rfl ?_ | refine xEE rfl ?_ | refine AQ.done ?_ | refine AQ.skip (by kernel_rfl) rfl ?_ | refine AQ.s2b (by kernel_rfl) rfl rfl rfl rfl ?_ | refine AQ.mark (by kernel_rfl) rfl rfl rfl rfl rfl rfl rfl ?_ | refine AP.cond_true rfl rfl ?_ | refine AP.cond_false rfl rfl ?_ | (refine AP.region rfl (by kernel_rfl) ?_; simp only [go_sem, Nat.reduceAdd, Nat.reduceLeDiff, reduceCtorEq]) | (refine AP.drawQ rfl rfl (by kernel_rfl) ?_; simp only [go_sem, Nat.reduceAdd, Nat.reduceLeDiff, reduceCtorEq]) | (refine vq_id ?_; simp only [go_sem, Nat.reduceAdd, Nat.reduceLeDiff, reduceCtorEq]) | (refine ⟨by first | omega | (intros; simp_all; done) | (intros; simp_all; omega), ?_⟩; try simp only [go_sem, Nat.reduceAdd, Nat.reduceLeDiff, reduceCtorEq]))
      repeat (first | refine xPP rfl ?_ | refine xPE rfl ?_ | refine xEP rfl ?_ | refine xEE rfl ?_ | refine AQ.done ?_ | refine AQ.skip (by kernel_rfl) rfl ?_ | refine AQ.s2b (by kernel_rfl) rfl rfl rfl rfl ?_ | refine AQ.mark (by kernel_rfl) rfl rfl rfl rfl rfl rfl rfl ?_ | refine AP.cond_true rfl rfl ?_ | refine AP.cond_false rfl rfl ?_ | (refine AP.region rfl (by kernel_rfl) ?_; simp only [go_sem, Nat.reduceAdd, Nat.reduceLeDiff, reduceCtorEq, Tv, Tr.iv]) | (refine AP.drawQ rfl rfl (by kernel_rfl) ?_; simp only [go_sem, Nat.reduceAdd, Nat.reduceLeDiff, reduceCtorEq, Tv, Tr.iv]) | (refine vq_id ?_; simp only [go_sem, Nat.reduceAdd, Nat.reduceLeDiff, reduceCtorEq, Tv, Tr.iv]) | (refine ⟨by first | omega | (intros; simp_all; done) | (intros; simp_all; omega), ?_⟩; try simp only [go_sem, Nat.reduceAdd, Nat.reduceLeDiff, reduceCtorEq, Tv, Tr.iv]))
      refine AE.ret rfl ⟨rfl, rfl, rfl, trivial⟩ ⟨rfl, ?_⟩
      rw [← hat]; simp only [Tr.at, if_pos heq]; rfl
def Tr.find (k : List UInt8) : Tr → Tr
  | .nil => .nil
  | .node k' v l r => if cmpS k k' < 0 then l.find k else if 0 < cmpS k k' then r.find k else .node k' v l r
def Tr.rank (k : List UInt8) : Tr → Nat
  | .nil => 0
  | .node k' _ l r => if cmpS k k' < 0 then l.rank k else if 0 < cmpS k k' then l.size + 1 + r.rank k else l.size
theorem find_spec (t : Tr) (k : List UInt8) (hs : t.size ≤ 1000000000) : PFn Try.prog 79 [.agg [Tv t], Sv k] (.tup [Tv (t.find k), Iv (t.rank k)]) := by
  refine ACall.walk [0, 1, 2, 4, 5, 6, 7, 8, 12, 27, 34] [] Try.func79 rfl Try.ntmps79 (by kernel_rfl) (by rfl) rfl fun W own I0 φ0 => ?_
  repeat (first | refine xPP rfl ?_ | refine xPE rfl ?_ | refine xEP rfl ?_ | refine xEE rfl ?_ | refine AQ.done ?_ | refine AQ.skip (by kernel_rfl) rfl ?_ | refine AQ.s2b (by kernel_rfl) rfl rfl rfl rfl ?_ | refine AQ.mark (by kernel_rfl) rfl rfl rfl rfl rfl rfl rfl ?_ | refine AP.cond_true rfl rfl ?_ | refine AP.cond_false rfl rfl ?_ | (refine AP.region rfl (by kernel_rfl) ?_; simp only [go_sem, Nat.reduceAdd, Nat.reduceLeDiff, reduceCtorEq]) | (refine AP.drawQ rfl rfl (by kernel_rfl) ?_; simp only [go_sem, Nat.reduceAdd, Nat.reduceLeDiff, reduceCtorEq]) | (refine vq_id ?_; simp only [go_sem, Nat.reduceAdd, Nat.reduceLeDiff, reduceCtorEq]) | (refine ⟨by first | omega | (intros; simp_all; done) | (intros; simp_all; omega), ?_⟩; try simp only [go_sem, Nat.reduceAdd, Nat.reduceLeDiff, reduceCtorEq]))
  refine AP.loop rfl (α := Tr × Nat) (fun p => [(1, Sv k), (6, Iv p.2), (7, Tv p.1)]) (fun _ => []) (fun p => p.2 + p.1.size ≤ 1000000000 ∧ p.1.find k = t.find k ∧ p.2 + p.1.rank k = t.rank k) (fun p => p.1.size) (t, 0) ⟨by simpa using hs, rfl, by simp⟩ (by repeat (first | exact Sub.nil _ | refine Sub.cons rfl ?_)) rfl fun p hp => ?_
  obtain ⟨n, j⟩ := p
  obtain ⟨hj, hf, hr⟩ := hp
  simp only at hj hf hr
  cases n with
  | nil =>
    repeat (first | refine xPP rfl ?_ | refine xPE rfl ?_ | refine xEP rfl ?_ | refine xEE rfl ?_ | refine AQ.done ?_ | refine AQ.skip (by kernel_rfl) rfl ?_ | refine AQ.s2b (by kernel_rfl) rfl rfl rfl rfl ?_ | refine AQ.mark (by kernel_rfl) rfl rfl rfl rfl rfl rfl rfl ?_ | refine AP.cond_true rfl rfl ?_ | refine AP.cond_false rfl rfl ?_ | (refine AP.region rfl (by kernel_rfl) ?_; simp only [go_sem, Nat.reduceAdd, Nat.reduceLeDiff, reduceCtorEq, Tv, Tr.iv]) | (refine AP.drawQ rfl rfl (by kernel_rfl) ?_; simp only [go_sem, Nat.reduceAdd, Nat.reduceLeDiff, reduceCtorEq, Tv, Tr.iv]) | (refine vq_id ?_; simp only [go_sem, Nat.reduceAdd, Nat.reduceLeDiff, reduceCtorEq, Tv, Tr.iv]) | (refine ⟨by first | omega | (intros; simp_all; done) | (intros; simp_all; omega), ?_⟩; try simp only [go_sem, Nat.reduceAdd, Nat.reduceLeDiff, reduceCtorEq, Tv, Tr.iv]))
    refine AE.ret rfl ⟨rfl, rfl, trivial⟩ ⟨rfl, ?_⟩
    rw [← hf, ← hr]; rfl
  | node k' v l r =>
    have hz : (Tr.node k' v l r).size = l.size + r.size + 1 := rfl
    repeat (first | refine xPP rfl ?_ | refine xPE rfl ?_ | refine xEP rfl ?_ | refine xEE rfl ?_ | refine AQ.done ?_ | refine AQ.skip (by kernel_rfl) rfl ?_ | refine AQ.s2b (by kernel_rfl) rfl rfl rfl rfl ?_ | refine AQ.mark (by kernel_rfl) rfl rfl rfl rfl rfl rfl rfl ?_ | refine AP.cond_true rfl rfl ?_ | refine AP.cond_false rfl rfl ?_ | (refine AP.region rfl (by kernel_rfl) ?_; simp only [go_sem, Nat.reduceAdd, Nat.reduceLeDiff, reduceCtorEq, Tv, Tr.iv]) | (refine AP.drawQ rfl rfl (by kernel_rfl) ?_; simp only [go_sem, Nat.reduceAdd, Nat.reduceLeDiff, reduceCtorEq, Tv, Tr.iv]) | (refine vq_id ?_; simp only [go_sem, Nat.reduceAdd, Nat.reduceLeDiff, reduceCtorEq, Tv, Tr.iv]) | (refine ⟨by first | omega | (intros; simp_all; done) | (intros; simp_all; omega), ?_⟩; try simp only [go_sem, Nat.reduceAdd, Nat.reduceLeDiff, reduceCtorEq, Tv, Tr.iv]))
    refine AQ.fn (by kernel_rfl) rfl rfl rfl (compare_spec k k') rfl ?_
    repeat (first | refine xPP rfl ?_ | refine xPE rfl ?_ | refine xEP rfl ?_ | refine xEE rfl ?_ | refine AQ.done ?_ | refine AQ.skip (by kernel_rfl) rfl ?_ | refine AQ.s2b (by kernel_rfl) rfl rfl rfl rfl ?_ | refine AQ.mark (by kernel_rfl) rfl rfl rfl rfl rfl rfl rfl ?_ | refine AP.cond_true rfl rfl ?_ | refine AP.cond_false rfl rfl ?_ | (refine AP.region rfl (by kernel_rfl) ?_; simp only [go_sem, Nat.reduceAdd, Nat.reduceLeDiff, reduceCtorEq]) | (refine AP.drawQ rfl rfl (by kernel_rfl) ?_; simp only [go_sem, Nat.reduceAdd, Nat.reduceLeDiff, reduceCtorEq]) | (refine vq_id ?_; simp only [go_sem, Nat.reduceAdd, Nat.reduceLeDiff, reduceCtorEq]) | (refine ⟨by first | omega | (intros; simp_all; done) | (intros; simp_all; omega), ?_⟩; try simp only [go_sem, Nat.reduceAdd, Nat.reduceLeDiff, reduceCtorEq]))
    refine AP.cond rfl rfl (fun hc => ?_) (fun hc => ?_)
    · have hlt : cmpS k k' < 0 := by simpa using hc
      repeat (first | refine xPP rfl ?_ | refine xPE rfl ?_ | refine xEP rfl ?_ | refine xEE rfl ?_ | refine AQ.done ?_ | refine AQ.skip (by kernel_rfl) rfl ?_ | refine AQ.s2b (by kernel_rfl) rfl rfl rfl rfl ?_ | refine AQ.mark (by kernel_rfl) rfl rfl rfl rfl rfl rfl rfl ?_ | refine AP.cond_true rfl rfl ?_ | refine AP.cond_false rfl rfl ?_ | (refine AP.region rfl (by kernel_rfl) ?_; simp only [go_sem, Nat.reduceAdd, Nat.reduceLeDiff, reduceCtorEq, Tv, Tr.iv]) | (refine AP.drawQ rfl rfl (by kernel_rfl) ?_; simp only [go_sem, Nat.reduceAdd, Nat.reduceLeDiff, reduceCtorEq, Tv, Tr.iv]) | (refine vq_id ?_; simp only [go_sem, Nat.reduceAdd, Nat.reduceLeDiff, reduceCtorEq, Tv, Tr.iv]) | (refine ⟨by first | omega | (intros; simp_all; done) | (intros; simp_all; omega), ?_⟩; try simp only [go_sem, Nat.reduceAdd, Nat.reduceLeDiff, reduceCtorEq, Tv, Tr.iv]))
      exact AE.round (l, j) ⟨by dsimp only; omega, by rw [← hf]; simp only [Tr.find, if_pos hlt], by rw [← hr]; simp only [Tr.rank, if_pos hlt]⟩ (by simp only [hz]; omega) (by repeat (first | exact Sub.nil _ | refine Sub.cons rfl ?_)) rfl
    · have hnl : ¬ cmpS k k' < 0 := by simpa using hc
      repeat (first | refine xPP rfl ?_ | refine xPE rfl ?_ | refine xEP rfl ?_ | refine xEE rfl ?_ | refine AQ.done ?_ | refine AQ.skip (by kernel_rfl) rfl ?_ | refine AQ.s2b (by kernel_rfl) rfl rfl rfl rfl ?_ | refine AQ.mark (by kernel_rfl) rfl rfl rfl rfl rfl rfl rfl ?_ | refine AP.cond_true rfl rfl ?_ | refine AP.cond_false rfl rfl ?_ | (refine AP.region rfl (by kernel_rfl) ?_; simp only [go_sem, Nat.reduceAdd, Nat.reduceLeDiff, reduceCtorEq, Tv, Tr.iv]) | (refine AP.drawQ rfl rfl (by kernel_rfl) ?_; simp only [go_sem, Nat.reduceAdd, Nat.reduceLeDiff, reduceCtorEq, Tv, Tr.iv]) | (refine vq_id ?_; simp only [go_sem, Nat.reduceAdd, Nat.reduceLeDiff, reduceCtorEq, Tv, Tr.iv]) | (refine ⟨by first | omega | (intros; simp_all; done) | (intros; simp_all; omega), ?_⟩; try simp only [go_sem, Nat.reduceAdd, Nat.reduceLeDiff, reduceCtorEq, Tv, Tr.iv]))
      refine AP.cond rfl rfl (fun hd => ?_) (fun hd => ?_)
      · have hlt : 0 < cmpS k k' := by simpa using hd
        have w1 := wr (x := (l.size : Int) + 1) (by omega)
        have w2 := wr (x := (j : Int) + (l.size + 1)) (by omega)
        repeat (first | refine xPP rfl ?_ | refine xPE rfl ?_ | refine xEP rfl ?_ | refine xEE rfl ?_ | refine AQ.done ?_ | refine AQ.skip (by kernel_rfl) rfl ?_ | refine AQ.s2b (by kernel_rfl) rfl rfl rfl rfl ?_ | refine AQ.mark (by kernel_rfl) rfl rfl rfl rfl rfl rfl rfl ?_ | refine AP.cond_true rfl rfl ?_ | refine AP.cond_false rfl rfl ?_ | (refine AP.region rfl (by kernel_rfl) ?_; simp only [go_sem, Nat.reduceAdd, Nat.reduceLeDiff, reduceCtorEq, Tv, Tr.iv]) | (refine AP.drawQ rfl rfl (by kernel_rfl) ?_; simp only [go_sem, Nat.reduceAdd, Nat.reduceLeDiff, reduceCtorEq, Tv, Tr.iv]) | (refine vq_id ?_; simp only [go_sem, Nat.reduceAdd, Nat.reduceLeDiff, reduceCtorEq, Tv, Tr.iv]) | (refine ⟨by first | omega | (intros; simp_all; done) | (intros; simp_all; omega), ?_⟩; try simp only [go_sem, Nat.reduceAdd, Nat.reduceLeDiff, reduceCtorEq, Tv, Tr.iv]))
        refine AQ.fn (by kernel_rfl) rfl rfl rfl (count_spec l) rfl ?_
        repeat (first | refine xPP rfl ?_ | refine xPE rfl ?_ | refine xEP rfl ?_ | refine xEE rfl ?_ | refine AQ.done ?_ | refine AQ.skip (by kernel_rfl) rfl ?_ | refine AQ.s2b (by kernel_rfl) rfl rfl rfl rfl ?_ | refine AQ.mark (by kernel_rfl) rfl rfl rfl rfl rfl rfl rfl ?_ | refine AP.cond_true rfl rfl ?_ | refine AP.cond_false rfl rfl ?_ | (refine AP.region rfl (by kernel_rfl) ?_; simp only [go_sem, Nat.reduceAdd, Nat.reduceLeDiff, reduceCtorEq, Tv, Tr.iv, w1, w2]) | (refine AP.drawQ rfl rfl (by kernel_rfl) ?_; simp only [go_sem, Nat.reduceAdd, Nat.reduceLeDiff, reduceCtorEq, Tv, Tr.iv, w1, w2]) | (refine vq_id ?_; simp only [go_sem, Nat.reduceAdd, Nat.reduceLeDiff, reduceCtorEq, Tv, Tr.iv, w1, w2]) | (refine ⟨by first | omega | (intros; simp_all; done) | (intros; simp_all; omega), ?_⟩; try simp only [go_sem, Nat.reduceAdd, Nat.reduceLeDiff, reduceCtorEq, Tv, Tr.iv, w1, w2]))
        exact AE.round (r, j + (l.size + 1)) ⟨by dsimp only; omega, by rw [← hf]; simp only [Tr.find, if_neg hnl, if_pos hlt], by rw [← hr]; simp only [Tr.rank, if_neg hnl, if_pos hlt]; omega⟩ (by simp only [hz]; omega) (by repeat (first | exact Sub.nil _ | refine Sub.cons rfl ?_)) rfl
      · have hng : ¬ 0 < cmpS k k' := by simpa using hd
        have w2 := wr (x := (j : Int) + l.size) (by omega)
        repeat (first | refine xPP rfl ?_ | refine xPE rfl ?_ | refine xEP rfl ?_ | refine xEE rfl ?_ | refine AQ.done ?_ | refine AQ.skip (by kernel_rfl) rfl ?_ | refine AQ.s2b (by kernel_rfl) rfl rfl rfl rfl ?_ | refine AQ.mark (by kernel_rfl) rfl rfl rfl rfl rfl rfl rfl ?_ | refine AP.cond_true rfl rfl ?_ | refine AP.cond_false rfl rfl ?_ | (refine AP.region rfl (by kernel_rfl) ?_; simp only [go_sem, Nat.reduceAdd, Nat.reduceLeDiff, reduceCtorEq, Tv, Tr.iv]) | (refine AP.drawQ rfl rfl (by kernel_rfl) ?_; simp only [go_sem, Nat.reduceAdd, Nat.reduceLeDiff, reduceCtorEq, Tv, Tr.iv]) | (refine vq_id ?_; simp only [go_sem, Nat.reduceAdd, Nat.reduceLeDiff, reduceCtorEq, Tv, Tr.iv]) | (refine ⟨by first | omega | (intros; simp_all; done) | (intros; simp_all; omega), ?_⟩; try simp only [go_sem, Nat.reduceAdd, Nat.reduceLeDiff, reduceCtorEq, Tv, Tr.iv]))
        refine AQ.fn (by kernel_rfl) rfl rfl rfl (count_spec l) rfl ?_
        repeat (first | refine xPP rfl ?_ | refine xPE rfl ?_ | refine xEP rfl ?_ | refine xEE rfl ?_ | refine AQ.done ?_ | refine AQ.skip (by kernel_rfl) rfl ?_ | refine AQ.s2b (by kernel_rfl) rfl rfl rfl rfl ?_ | refine AQ.mark (by kernel_rfl) rfl rfl rfl rfl rfl rfl rfl ?_ | refine AP.cond_true rfl rfl ?_ | refine AP.cond_false rfl rfl ?_ | (refine AP.region rfl (by kernel_rfl) ?_; simp only [go_sem, Nat.reduceAdd, Nat.reduceLeDiff, reduceCtorEq, Tv, Tr.iv, w2]) | (refine AP.drawQ rfl rfl (by kernel_rfl) ?_; simp only [go_sem, Nat.reduceAdd, Nat.reduceLeDiff, reduceCtorEq, Tv, Tr.iv, w2]) | (refine vq_id ?_; simp only [go_sem, Nat.reduceAdd, Nat.reduceLeDiff, reduceCtorEq, Tv, Tr.iv, w2]) | (refine ⟨by first | omega | (intros; simp_all; done) | (intros; simp_all; omega), ?_⟩; try simp only [go_sem, Nat.reduceAdd, Nat.reduceLeDiff, reduceCtorEq, Tv, Tr.iv, w2]))
        refine AE.ret rfl ⟨rfl, rfl, trivial⟩ ⟨rfl, ?_⟩
        rw [← hf, ← hr]; simp only [Tr.find, Tr.rank, if_neg hnl, if_neg hng]; rfl
theorem Rank_spec (t : Tr) (k : List UInt8) (hs : t.size ≤ 1000000000) : PFn Try.prog 52 [.agg [Tv t], Sv k] (Iv (t.rank k)) := by
  refine ACall.walk [0, 1, 2, 4, 6] [] Try.func52 rfl Try.ntmps52 (by kernel_rfl) (by rfl) rfl fun W own I0 φ0 => ?_
  repeat (first | refine xPP rfl ?_ | refine xPE rfl ?_ | refine xEP rfl ?_ | refine xEE rfl ?_ | refine AQ.done ?_ | refine AQ.skip (by kernel_rfl) rfl ?_ | refine AQ.s2b (by kernel_rfl) rfl rfl rfl rfl ?_ | refine AQ.mark (by kernel_rfl) rfl rfl rfl rfl rfl rfl rfl ?_ | refine AP.cond_true rfl rfl ?_ | refine AP.cond_false rfl rfl ?_ | (refine AP.region rfl (by kernel_rfl) ?_; simp only [go_sem, Nat.reduceAdd, Nat.reduceLeDiff, reduceCtorEq]) | (refine AP.drawQ rfl rfl (by kernel_rfl) ?_; simp only [go_sem, Nat.reduceAdd, Nat.reduceLeDiff, reduceCtorEq]) | (refine vq_id ?_; simp only [go_sem, Nat.reduceAdd, Nat.reduceLeDiff, reduceCtorEq]) | (refine ⟨by first | omega | (intros; simp_all; done) | (intros; simp_all; omega), ?_⟩; try simp only [go_sem, Nat.reduceAdd, Nat.reduceLeDiff, reduceCtorEq]))
  refine AQ.fn (by kernel_rfl) rfl rfl rfl (find_spec t k hs) rfl ?_
  repeat (first | refine xPP rfl ?_ | refine xPE rfl ?_ | refine xEP rfl ?_ | refine xEE rfl ?_ | refine AQ.done ?_ | refine AQ.skip (by kernel_rfl) rfl ?_ | refine AQ.s2b (by kernel_rfl) rfl rfl rfl rfl ?_ | refine AQ.mark (by kernel_rfl) rfl rfl rfl rfl rfl rfl rfl ?_ | refine AP.cond_true rfl rfl ?_ | refine AP.cond_false rfl rfl ?_ | (refine AP.region rfl (by kernel_rfl) ?_; simp only [go_sem, Nat.reduceAdd, Nat.reduceLeDiff, reduceCtorEq]) | (refine AP.drawQ rfl rfl (by kernel_rfl) ?_; simp only [go_sem, Nat.reduceAdd, Nat.reduceLeDiff, reduceCtorEq]) | (refine vq_id ?_; simp only [go_sem, Nat.reduceAdd, Nat.reduceLeDiff, reduceCtorEq]) | (refine ⟨by first | omega | (intros; simp_all; done) | (intros; simp_all; omega), ?_⟩; try simp only [go_sem, Nat.reduceAdd, Nat.reduceLeDiff, reduceCtorEq]))
  exact AE.ret rfl ⟨rfl, trivial⟩ ⟨rfl, rfl⟩
end Go.Proofs.Ytfgffpkdjmeaoaa
end

section
namespace Go.Proofs.Ytfgffpkdjmeaoaa
open Go Go.AL
set_option maxRecDepth 10000
set_option maxHeartbeats 2000000
def Tr.link (k : List UInt8) (v : Int) (l r : Tr) : Tr :=
  if r.ht + 1 < l.ht then match l with
    | .nil => .nil
    | .node kl vl ll lr => Tr.bal (.node kl vl ll (Tr.link k v lr r))
  else if l.ht + 1 < r.ht then match r with
    | .nil => .nil
    | .node kr vr rl rr => Tr.bal (.node kr vr (Tr.link k v l rl) rr)
  else .node k v l r
termination_by l.size + r.size
decreasing_by all_goals simp only [Tr.size]; omega
def Tr.split (k : List UInt8) : Tr → Tr × Tr
  | .nil => (.nil, .nil)
  | .node k' v l r => if cmpS k k' < 0 then ((l.split k).1, Tr.link k' v (l.split k).2 r) else if 0 < cmpS k k' then (Tr.link k' v l (r.split k).1, (r.split k).2) else (l, r)
end Go.Proofs.Ytfgffpkdjmeaoaa
end

section
namespace Go.Proofs.Ytfgffpkdjmeaoaa
open Go Go.AL Go.RowKit
set_option maxRecDepth 10000
set_option maxHeartbeats 2000000
def intR (l : List Int) : List (List IV) := l.map fun x => [Ii x]
theorem intR_len (l : List Int) : (intR l).length = l.length := by simp [intR]
attribute [go_sem] intR_len
end Go.Proofs.Ytfgffpkdjmeaoaa
end

section
namespace Go.Proofs.Ytfgffpkdjmeaoaa
open Go Go.AL Go.RowKit
set_option maxRecDepth 10000
set_option maxHeartbeats 4000000
def setsH (a b c : List Int) (lg : List (List IV)) : Heap := [(4, .vec 121 4 lg), (3, .vec 3 1 (intR c)), (2, .vec 3 1 (intR b)), (1, .vec 3 1 (intR a)), (0, .var 117 [.os 1 1 0 a.length, .os 2 1 0 b.length, .os 3 1 0 c.length, .os 4 4 0 lg.length])]
def ids (n : Nat) : List Int := (List.range n).map Int.ofNat
theorem ids_len (n : Nat) : (ids n).length = n := by simp [ids]
theorem ids_succ (n : Nat) : intR (ids (n + 1)) = intR (ids n) ++ [[Ii n]] := by simp [ids, intR, List.range_succ]
theorem ones_succ (n : Nat) : intR (List.replicate (n + 1) 1) = intR (List.replicate n 1) ++ [[Ii 1]] := by simp [intR, List.replicate_succ']
theorem newSets_bad (n : Int) (hn : n < 0 ∨ 10000 < n) : PFn Try.prog 25 [Iv n] (.tup [.im (.v (.pointer none)), Iv 3]) := by
  refine ACall.walk [0, 2, 3, 4, 5, 11, 14, 15, 16] [13] Try.func25 rfl Try.ntmps25 (by kernel_rfl) (by rfl) rfl fun W own I0 φ0 => ?_
  repeat (first | refine xPP rfl ?_ | refine xPE rfl ?_ | refine xEP rfl ?_ | refine xEE rfl ?_ | refine AQ.done ?_ | refine AQ.skip (by kernel_rfl) rfl ?_ | refine AQ.s2b (by kernel_rfl) rfl rfl rfl rfl ?_ | refine AQ.mark (by kernel_rfl) rfl rfl rfl rfl rfl rfl rfl ?_ | refine AP.cond_true rfl rfl ?_ | refine AP.cond_false rfl rfl ?_ | (refine AP.region rfl (by kernel_rfl) ?_; simp only [go_sem, Nat.reduceAdd, Nat.reduceLeDiff, reduceCtorEq]) | (refine AP.drawQ rfl rfl (by kernel_rfl) ?_; simp only [go_sem, Nat.reduceAdd, Nat.reduceLeDiff, reduceCtorEq]) | (refine vq_id ?_; simp only [go_sem, Nat.reduceAdd, Nat.reduceLeDiff, reduceCtorEq]) | (refine ⟨by first | omega | (intros; simp_all; done) | (intros; simp_all; omega), ?_⟩; try simp only [go_sem, Nat.reduceAdd, Nat.reduceLeDiff, reduceCtorEq]))
  refine AP.cond_true rfl (by show _ = some (Bv true); rw [show (true : Bool) = (decide (n < 0) || decide (10000 < n)) by simp; omega]; rfl) ?_
  repeat (first | refine xPP rfl ?_ | refine xPE rfl ?_ | refine xEP rfl ?_ | refine xEE rfl ?_ | refine AQ.done ?_ | refine AQ.skip (by kernel_rfl) rfl ?_ | refine AQ.s2b (by kernel_rfl) rfl rfl rfl rfl ?_ | refine AQ.mark (by kernel_rfl) rfl rfl rfl rfl rfl rfl rfl ?_ | refine AP.cond_true rfl rfl ?_ | refine AP.cond_false rfl rfl ?_ | (refine AP.region rfl (by kernel_rfl) ?_; simp only [go_sem, Nat.reduceAdd, Nat.reduceLeDiff, reduceCtorEq]) | (refine AP.drawQ rfl rfl (by kernel_rfl) ?_; simp only [go_sem, Nat.reduceAdd, Nat.reduceLeDiff, reduceCtorEq]) | (refine vq_id ?_; simp only [go_sem, Nat.reduceAdd, Nat.reduceLeDiff, reduceCtorEq]) | (refine ⟨by first | omega | (intros; simp_all; done) | (intros; simp_all; omega), ?_⟩; try simp only [go_sem, Nat.reduceAdd, Nat.reduceLeDiff, reduceCtorEq]))
  exact AE.ret rfl ⟨rfl, rfl, trivial⟩ ⟨rfl, rfl⟩
theorem newSets_spec (n : Nat) (hn : n ≤ 10000) : ACall Try.prog 25 [Iv n] [] (fun r H' => H' = setsH (ids n) (List.replicate n 1) (ids n) [] ∧ r = .tup [.ob 0 0, Iv 0]) := by
  refine ACall.walk [0, 2, 3, 4, 5, 11, 14, 15, 16] [13] Try.func25 rfl Try.ntmps25 (by kernel_rfl) (by rfl) rfl fun W own I0 φ0 => ?_
  repeat (first | refine xPP rfl ?_ | refine xPE rfl ?_ | refine xEP rfl ?_ | refine xEE rfl ?_ | refine AQ.done ?_ | refine AQ.skip (by kernel_rfl) rfl ?_ | refine AQ.s2b (by kernel_rfl) rfl rfl rfl rfl ?_ | refine AQ.mark (by kernel_rfl) rfl rfl rfl rfl rfl rfl rfl ?_ | refine AP.cond_true rfl rfl ?_ | refine AP.cond_false rfl rfl ?_ | (refine AP.region rfl (by kernel_rfl) ?_; simp only [go_sem, Nat.reduceAdd, Nat.reduceLeDiff, reduceCtorEq]) | (refine AP.drawQ rfl rfl (by kernel_rfl) ?_; simp only [go_sem, Nat.reduceAdd, Nat.reduceLeDiff, reduceCtorEq]) | (refine vq_id ?_; simp only [go_sem, Nat.reduceAdd, Nat.reduceLeDiff, reduceCtorEq]) | (refine ⟨by first | omega | (intros; simp_all; done) | (intros; simp_all; omega), ?_⟩; try simp only [go_sem, Nat.reduceAdd, Nat.reduceLeDiff, reduceCtorEq]))
  refine AP.cond_false rfl (by show _ = some (Bv false); rw [show (false : Bool) = (decide ((n : Int) < 0) || decide (10000 < (n : Int))) by simp; omega]; rfl) ?_
  repeat (first | refine xPP rfl ?_ | refine xPE rfl ?_ | refine xEP rfl ?_ | refine xEE rfl ?_ | refine AQ.done ?_ | refine AQ.skip (by kernel_rfl) rfl ?_ | refine AQ.s2b (by kernel_rfl) rfl rfl rfl rfl ?_ | refine AQ.mark (by kernel_rfl) rfl rfl rfl rfl rfl rfl rfl ?_ | refine AP.cond_true rfl rfl ?_ | refine AP.cond_false rfl rfl ?_ | (refine AP.region rfl (by kernel_rfl) ?_; simp only [go_sem, Nat.reduceAdd, Nat.reduceLeDiff, reduceCtorEq]) | (refine AP.drawQ rfl rfl (by kernel_rfl) ?_; simp only [go_sem, Nat.reduceAdd, Nat.reduceLeDiff, reduceCtorEq]) | (refine vq_id ?_; simp only [go_sem, Nat.reduceAdd, Nat.reduceLeDiff, reduceCtorEq]) | (refine ⟨by first | omega | (intros; simp_all; done) | (intros; simp_all; omega), ?_⟩; try simp only [go_sem, Nat.reduceAdd, Nat.reduceLeDiff, reduceCtorEq]))
  refine AP.ownCell 0 0 3 1 rfl rfl ?_
  refine AP.ownCell 0 1 3 1 rfl rfl ?_
  refine AP.ownCell 0 2 3 1 rfl rfl ?_
  refine AP.ownCell 0 3 121 4 rfl rfl ?_
  refine AP.loop rfl (α := Nat) (fun k => [(4, .ob 0 0), (14, Iv n), (15, Iv k)]) (fun k => setsH (ids k) (List.replicate k 1) (ids k) []) (fun k => k ≤ n) (fun k => n - k) 0 (by omega) (by repeat (first | exact Sub.nil _ | refine Sub.cons rfl ?_)) (by rfl) fun k hk => ?_
  have hw := wr (x := (k : Int) + 1) (by omega)
  simp only [go_sem, Nat.reduceAdd, Nat.reduceLeDiff, reduceCtorEq, setsH, ids_len, List.length_replicate]
  repeat (first | refine xPP rfl ?_ | refine xPE rfl ?_ | refine xEP rfl ?_ | refine xEE rfl ?_ | refine AQ.done ?_ | refine AQ.skip (by kernel_rfl) rfl ?_ | refine AQ.s2b (by kernel_rfl) rfl rfl rfl rfl ?_ | refine AQ.mark (by kernel_rfl) rfl rfl rfl rfl rfl rfl rfl ?_ | refine AP.cond_true rfl rfl ?_ | refine AP.cond_false rfl rfl ?_ | (refine AP.region rfl (by kernel_rfl) ?_; simp only [go_sem, Nat.reduceAdd, Nat.reduceLeDiff, reduceCtorEq, hw]) | (refine AP.drawQ rfl rfl (by kernel_rfl) ?_; simp only [go_sem, Nat.reduceAdd, Nat.reduceLeDiff, reduceCtorEq, hw]) | (refine vq_id ?_; simp only [go_sem, Nat.reduceAdd, Nat.reduceLeDiff, reduceCtorEq, hw]) | (refine ⟨by first | omega | (intros; simp_all; done) | (intros; simp_all; omega), ?_⟩; try simp only [go_sem, Nat.reduceAdd, Nat.reduceLeDiff, reduceCtorEq, hw]))
  refine AP.cond rfl rfl (fun hc => ?_) (fun hc => ?_)
  · have hk' : k < n := by simp at hc; omega
    repeat (first | refine xPP rfl ?_ | refine xPE rfl ?_ | refine xEP rfl ?_ | refine xEE rfl ?_ | refine AQ.done ?_ | refine AQ.skip (by kernel_rfl) rfl ?_ | refine AQ.s2b (by kernel_rfl) rfl rfl rfl rfl ?_ | refine AQ.mark (by kernel_rfl) rfl rfl rfl rfl rfl rfl rfl ?_ | refine AP.cond_true rfl rfl ?_ | refine AP.cond_false rfl rfl ?_ | (refine AP.region rfl (by kernel_rfl) ?_; simp only [go_sem, Nat.reduceAdd, Nat.reduceLeDiff, reduceCtorEq, hw]) | (refine AP.drawQ rfl rfl (by kernel_rfl) ?_; simp only [go_sem, Nat.reduceAdd, Nat.reduceLeDiff, reduceCtorEq, hw]) | (refine vq_id ?_; simp only [go_sem, Nat.reduceAdd, Nat.reduceLeDiff, reduceCtorEq, hw]) | (refine ⟨by first | omega | (intros; simp_all; done) | (intros; simp_all; omega), ?_⟩; try simp only [go_sem, Nat.reduceAdd, Nat.reduceLeDiff, reduceCtorEq, hw]))
    refine AP.drawE 32 (Tree.node [] [0, 1, 2, 3, 4, 5, 6, 7, 10, 11, 12, 13, 16, 17, 18, 19, 20] [8, 14, 21] [Tree.node [0, 1, 2, 3, 4, 5, 6, 10, 11, 12, 13, 16, 17, 18, 19, 20] [] [9, 14, 21] [Tree.node [0, 1, 2, 10, 11, 12, 13, 16, 17, 18, 19, 20] [] [14, 21] [Tree.node [0, 1, 2, 10, 11, 12, 13, 16, 17, 18, 19, 20] [] [15, 21] [Tree.node [0, 1, 2, 16, 17, 18, 19, 20] [] [21] [Tree.node [0, 1, 2, 16, 17, 18, 19] [] [22] [Tree.node [0, 1, 2] [23, 24] [25] [Tree.node [1, 2] [26, 27] [28] [Tree.node [2] [29, 30] [31] [Tree.node [] [] [] []]]]]], Tree.node [0, 1, 2, 10, 11, 12, 13, 16, 17, 18, 19] [] [15] [Tree.node [0, 1, 2, 16, 17, 18, 19] [] [22] [Tree.node [0, 1, 2] [23, 24] [25] [Tree.node [1, 2] [26, 27] [28] [Tree.node [2] [29, 30] [31] [Tree.node [] [] [] []]]]]]], Tree.node [0, 1, 2, 10, 11, 12, 13, 16, 17, 18, 19] [] [14] [Tree.node [0, 1, 2, 10, 11, 12, 13, 16, 17, 18, 19] [] [15] [Tree.node [0, 1, 2, 16, 17, 18, 19] [] [22] [Tree.node [0, 1, 2] [23, 24] [25] [Tree.node [1, 2] [26, 27] [28] [Tree.node [2] [29, 30] [31] [Tree.node [] [] [] []]]]]]]], Tree.node [0, 1, 2, 3, 4, 5, 6, 10, 11, 12, 13, 16, 17, 18, 19, 20] [] [9, 21] [Tree.node [0, 1, 2, 10, 11, 12, 13, 16, 17, 18, 19, 20] [] [15, 21] [Tree.node [0, 1, 2, 16, 17, 18, 19, 20] [] [21] [Tree.node [0, 1, 2, 16, 17, 18, 19] [] [22] [Tree.node [0, 1, 2] [23, 24] [25] [Tree.node [1, 2] [26, 27] [28] [Tree.node [2] [29, 30] [31] [Tree.node [] [] [] []]]]]], Tree.node [0, 1, 2, 10, 11, 12, 13, 16, 17, 18, 19] [] [15] [Tree.node [0, 1, 2, 16, 17, 18, 19] [] [22] [Tree.node [0, 1, 2] [23, 24] [25] [Tree.node [1, 2] [26, 27] [28] [Tree.node [2] [29, 30] [31] [Tree.node [] [] [] []]]]]]], Tree.node [0, 1, 2, 3, 4, 5, 6, 10, 11, 12, 13, 16, 17, 18, 19] [] [9] [Tree.node [0, 1, 2, 10, 11, 12, 13, 16, 17, 18, 19] [] [15] [Tree.node [0, 1, 2, 16, 17, 18, 19] [] [22] [Tree.node [0, 1, 2] [23, 24] [25] [Tree.node [1, 2] [26, 27] [28] [Tree.node [2] [29, 30] [31] [Tree.node [] [] [] []]]]]]]], Tree.node [0, 1, 2, 3, 4, 5, 6, 10, 11, 12, 13, 16, 17, 18, 19] [] [9, 14] [Tree.node [0, 1, 2, 10, 11, 12, 13, 16, 17, 18, 19] [] [14] [Tree.node [0, 1, 2, 10, 11, 12, 13, 16, 17, 18, 19] [] [15] [Tree.node [0, 1, 2, 16, 17, 18, 19] [] [22] [Tree.node [0, 1, 2] [23, 24] [25] [Tree.node [1, 2] [26, 27] [28] [Tree.node [2] [29, 30] [31] [Tree.node [] [] [] []]]]]]], Tree.node [0, 1, 2, 3, 4, 5, 6, 10, 11, 12, 13, 16, 17, 18, 19] [] [9] [Tree.node [0, 1, 2, 10, 11, 12, 13, 16, 17, 18, 19] [] [15] [Tree.node [0, 1, 2, 16, 17, 18, 19] [] [22] [Tree.node [0, 1, 2] [23, 24] [25] [Tree.node [1, 2] [26, 27] [28] [Tree.node [2] [29, 30] [31] [Tree.node [] [] [] []]]]]]]]], Tree.node [0, 1, 2, 3, 4, 5, 6, 7, 10, 11, 12, 13, 16, 17, 18, 19, 20] [] [8, 21] [Tree.node [0, 1, 2, 3, 4, 5, 6, 10, 11, 12, 13, 16, 17, 18, 19, 20] [] [9, 21] [Tree.node [0, 1, 2, 10, 11, 12, 13, 16, 17, 18, 19, 20] [] [15, 21] [Tree.node [0, 1, 2, 16, 17, 18, 19, 20] [] [21] [Tree.node [0, 1, 2, 16, 17, 18, 19] [] [22] [Tree.node [0, 1, 2] [23, 24] [25] [Tree.node [1, 2] [26, 27] [28] [Tree.node [2] [29, 30] [31] [Tree.node [] [] [] []]]]]], Tree.node [0, 1, 2, 10, 11, 12, 13, 16, 17, 18, 19] [] [15] [Tree.node [0, 1, 2, 16, 17, 18, 19] [] [22] [Tree.node [0, 1, 2] [23, 24] [25] [Tree.node [1, 2] [26, 27] [28] [Tree.node [2] [29, 30] [31] [Tree.node [] [] [] []]]]]]], Tree.node [0, 1, 2, 3, 4, 5, 6, 10, 11, 12, 13, 16, 17, 18, 19] [] [9] [Tree.node [0, 1, 2, 10, 11, 12, 13, 16, 17, 18, 19] [] [15] [Tree.node [0, 1, 2, 16, 17, 18, 19] [] [22] [Tree.node [0, 1, 2] [23, 24] [25] [Tree.node [1, 2] [26, 27] [28] [Tree.node [2] [29, 30] [31] [Tree.node [] [] [] []]]]]]]], Tree.node [0, 1, 2, 3, 4, 5, 6, 7, 10, 11, 12, 13, 16, 17, 18, 19] [] [8] [Tree.node [0, 1, 2, 3, 4, 5, 6, 10, 11, 12, 13, 16, 17, 18, 19] [] [9] [Tree.node [0, 1, 2, 10, 11, 12, 13, 16, 17, 18, 19] [] [15] [Tree.node [0, 1, 2, 16, 17, 18, 19] [] [22] [Tree.node [0, 1, 2] [23, 24] [25] [Tree.node [1, 2] [26, 27] [28] [Tree.node [2] [29, 30] [31] [Tree.node [] [] [] []]]]]]]]], Tree.node [0, 1, 2, 3, 4, 5, 6, 7, 10, 11, 12, 13, 16, 17, 18, 19] [] [8, 14] [Tree.node [0, 1, 2, 3, 4, 5, 6, 10, 11, 12, 13, 16, 17, 18, 19] [] [9, 14] [Tree.node [0, 1, 2, 10, 11, 12, 13, 16, 17, 18, 19] [] [14] [Tree.node [0, 1, 2, 10, 11, 12, 13, 16, 17, 18, 19] [] [15] [Tree.node [0, 1, 2, 16, 17, 18, 19] [] [22] [Tree.node [0, 1, 2] [23, 24] [25] [Tree.node [1, 2] [26, 27] [28] [Tree.node [2] [29, 30] [31] [Tree.node [] [] [] []]]]]]], Tree.node [0, 1, 2, 3, 4, 5, 6, 10, 11, 12, 13, 16, 17, 18, 19] [] [9] [Tree.node [0, 1, 2, 10, 11, 12, 13, 16, 17, 18, 19] [] [15] [Tree.node [0, 1, 2, 16, 17, 18, 19] [] [22] [Tree.node [0, 1, 2] [23, 24] [25] [Tree.node [1, 2] [26, 27] [28] [Tree.node [2] [29, 30] [31] [Tree.node [] [] [] []]]]]]]], Tree.node [0, 1, 2, 3, 4, 5, 6, 7, 10, 11, 12, 13, 16, 17, 18, 19] [] [8] [Tree.node [0, 1, 2, 3, 4, 5, 6, 10, 11, 12, 13, 16, 17, 18, 19] [] [9] [Tree.node [0, 1, 2, 10, 11, 12, 13, 16, 17, 18, 19] [] [15] [Tree.node [0, 1, 2, 16, 17, 18, 19] [] [22] [Tree.node [0, 1, 2] [23, 24] [25] [Tree.node [1, 2] [26, 27] [28] [Tree.node [2] [29, 30] [31] [Tree.node [] [] [] []]]]]]]]]]) (by kernel_rfl) rfl (by kernel_rfl) (by kernel_rfl) ?_
    refine vd_node ?_
    simp only [go_sem, Nat.reduceAdd, Nat.reduceLeDiff, reduceCtorEq, hw]
    repeat' (first
      | exact True.intro
      | (refine And.intro ?_ ?_)
      | (refine AQ.next (vd_node ?_); simp only [go_sem, Nat.reduceAdd, Nat.reduceLeDiff, reduceCtorEq, hw])
      | (refine AQ.kill 1 ?_; simp only [go_sem, Nat.reduceAdd, Nat.reduceLeDiff, reduceCtorEq]; refine AQ.append (hnb := rfl) (rows := intR (ids k)) (xs := [[Ii k]]) (es := 0) (by kernel_rfl) rfl rfl rfl (by rfl) Try.tk22 Try.sz3 (by show Option.map _ (zro Try.prog 3) = _; rw [Try.zr3]; rfl) Try.by3 (by rw [intR_len, ids_len]) (by rw [intR_len, ids_len]; simp only [List.length_cons, List.length_nil]; omega) (by rw [intR_len, ids_len]; simp only [List.length_cons, List.length_nil]; omega) ?_; simp only [go_sem, Nat.reduceAdd, Nat.reduceLeDiff, reduceCtorEq, ids_len])
      | (refine AQ.kill 2 ?_; simp only [go_sem, Nat.reduceAdd, Nat.reduceLeDiff, reduceCtorEq]; refine AQ.append (hnb := rfl) (rows := intR (List.replicate k 1)) (xs := [[Ii 1]]) (es := 0) (by kernel_rfl) rfl rfl rfl (by rfl) Try.tk22 Try.sz3 (by show Option.map _ (zro Try.prog 3) = _; rw [Try.zr3]; rfl) Try.by3 (by rw [intR_len, List.length_replicate]) (by rw [intR_len, List.length_replicate]; simp only [List.length_cons, List.length_nil]; omega) (by rw [intR_len, List.length_replicate]; simp only [List.length_cons, List.length_nil]; omega) ?_; simp only [go_sem, Nat.reduceAdd, Nat.reduceLeDiff, reduceCtorEq, List.length_replicate])
      | (refine AQ.kill 3 ?_; simp only [go_sem, Nat.reduceAdd, Nat.reduceLeDiff, reduceCtorEq]; refine AQ.append (hnb := rfl) (rows := intR (ids k)) (xs := [[Ii k]]) (es := 0) (by kernel_rfl) rfl rfl rfl (by rfl) Try.tk22 Try.sz3 (by show Option.map _ (zro Try.prog 3) = _; rw [Try.zr3]; rfl) Try.by3 (by rw [intR_len, ids_len]) (by rw [intR_len, ids_len]; simp only [List.length_cons, List.length_nil]; omega) (by rw [intR_len, ids_len]; simp only [List.length_cons, List.length_nil]; omega) ?_; simp only [go_sem, Nat.reduceAdd, Nat.reduceLeDiff, reduceCtorEq, ids_len])
      | (refine AQ.done ?_)
      | (refine AQ.go (by kernel_rfl) ?_; simp only [go_sem, Nat.reduceAdd, Nat.reduceLeDiff, reduceCtorEq, hw]))
    all_goals (repeat (first | refine xPP rfl ?_ | refine xPE rfl ?_ | refine xEP rfl ?_ | refine xEE rfl ?_ | refine AQ.done ?_ | refine AQ.skip (by kernel_rfl) rfl ?_ | refine AQ.s2b (by kernel_rfl) rfl rfl rfl rfl ?_ | refine AQ.mark (by kernel_rfl) rfl rfl rfl rfl rfl rfl rfl ?_ | refine AP.cond_true rfl rfl ?_ | refine AP.cond_false rfl rfl ?_ | (refine AP.region rfl (by kernel_rfl) ?_; simp only [go_sem, Nat.reduceAdd, Nat.reduceLeDiff, reduceCtorEq, hw]) | (refine AP.drawQ rfl rfl (by kernel_rfl) ?_; simp only [go_sem, Nat.reduceAdd, Nat.reduceLeDiff, reduceCtorEq, hw]) | (refine vq_id ?_; simp only [go_sem, Nat.reduceAdd, Nat.reduceLeDiff, reduceCtorEq, hw]) | (refine ⟨by first | omega | (intros; simp_all; done) | (intros; simp_all; omega), ?_⟩; try simp only [go_sem, Nat.reduceAdd, Nat.reduceLeDiff, reduceCtorEq, hw])))
    all_goals (exact AE.round (k + 1) (by omega) (by omega) (by repeat (first | exact Sub.nil _ | refine Sub.cons rfl ?_)) (by simp only [ids_succ, ones_succ]))
  · repeat (first | refine xPP rfl ?_ | refine xPE rfl ?_ | refine xEP rfl ?_ | refine xEE rfl ?_ | refine AQ.done ?_ | refine AQ.skip (by kernel_rfl) rfl ?_ | refine AQ.s2b (by kernel_rfl) rfl rfl rfl rfl ?_ | refine AQ.mark (by kernel_rfl) rfl rfl rfl rfl rfl rfl rfl ?_ | refine AP.cond_true rfl rfl ?_ | refine AP.cond_false rfl rfl ?_ | (refine AP.region rfl (by kernel_rfl) ?_; simp only [go_sem, Nat.reduceAdd, Nat.reduceLeDiff, reduceCtorEq, hw]) | (refine AP.drawQ rfl rfl (by kernel_rfl) ?_; simp only [go_sem, Nat.reduceAdd, Nat.reduceLeDiff, reduceCtorEq, hw]) | (refine vq_id ?_; simp only [go_sem, Nat.reduceAdd, Nat.reduceLeDiff, reduceCtorEq, hw]) | (refine ⟨by first | omega | (intros; simp_all; done) | (intros; simp_all; omega), ?_⟩; try simp only [go_sem, Nat.reduceAdd, Nat.reduceLeDiff, reduceCtorEq, hw]))
    have hk' : k = n := by simp at hc; omega
    subst hk'
    refine AE.ret rfl ⟨rfl, rfl, trivial⟩ ⟨?_, rfl⟩
    simp only [setsH, ids_len, List.length_replicate]
end Go.Proofs.Ytfgffpkdjmeaoaa
end

section
namespace Go.Proofs.Ytfgffpkdjmeaoaa
open Go Go.AL Go.RowKit
set_option maxRecDepth 10000
set_option maxHeartbeats 4000000
theorem intR_get (l : List Int) (k : Nat) (h : k < l.length) : (intR l).getD k [] = [Ii (l.getD k 0)] := by
  simp [intR, List.getD_eq_getElem?_getD, h]
theorem has_spec (a b c : List Int) (lg : List (List IV)) (x : Int) (hl : a.length ≤ 1000000000) : ACall Try.prog 60 [.ob 0 0, Iv x] (setsH a b c lg) (fun r H' => H' = setsH a b c lg ∧ r = Bv (decide (0 ≤ x) && decide (x < a.length))) := by
  refine ACall.walk [0, 1, 4] [] Try.func60 rfl Try.ntmps60 (by kernel_rfl) (by rfl) rfl fun W own I0 φ0 => ?_
  simp only [go_sem, Nat.reduceAdd, Nat.reduceLeDiff, reduceCtorEq, setsH]
  repeat (first | refine xPP rfl ?_ | refine xPE rfl ?_ | refine xEP rfl ?_ | refine xEE rfl ?_ | refine AQ.done ?_ | refine AQ.skip (by kernel_rfl) rfl ?_ | refine AQ.s2b (by kernel_rfl) rfl rfl rfl rfl ?_ | refine AQ.mark (by kernel_rfl) rfl rfl rfl rfl rfl rfl rfl ?_ | refine AP.cond_true rfl rfl ?_ | refine AP.cond_false rfl rfl ?_ | (refine AP.region rfl (by kernel_rfl) ?_; simp only [go_sem, Nat.reduceAdd, Nat.reduceLeDiff, reduceCtorEq]) | (refine AP.drawQ rfl rfl (by kernel_rfl) ?_; simp only [go_sem, Nat.reduceAdd, Nat.reduceLeDiff, reduceCtorEq]) | (refine vq_id ?_; simp only [go_sem, Nat.reduceAdd, Nat.reduceLeDiff, reduceCtorEq]) | (refine ⟨by first | omega | (intros; simp_all; done) | (intros; simp_all; omega), ?_⟩; try simp only [go_sem, Nat.reduceAdd, Nat.reduceLeDiff, reduceCtorEq]))
  refine AE.ret rfl ⟨rfl, trivial⟩ ⟨rfl, rfl⟩
inductive Root (a : List Int) : Nat → Nat → Nat → Prop
  | here {x : Nat} : x < a.length → a.getD x 0 = x → Root a 0 x x
  | up {n x y r : Nat} : x < a.length → a.getD x 0 = y → y ≠ x → Root a n y r → Root a (n + 1) x r
theorem Root.lt {a : List Int} {n x r : Nat} (h : Root a n x r) : x < a.length := by cases h <;> assumption
theorem Root.end' {a : List Int} {n x r : Nat} (h : Root a n x r) : r < a.length ∧ a.getD r 0 = r := by
  induction h with
  | here h1 h2 => exact ⟨h1, h2⟩
  | up _ _ _ _ ih => exact ih
theorem root_spec (a b c : List Int) (lg : List (List IV)) (n x r : Nat) (hr : Root a n x r) (hl : a.length ≤ 1000000000) : ACall Try.prog 61 [.ob 0 0, Iv x] (setsH a b c lg) (fun r' H' => H' = setsH a b c lg ∧ r' = Iv r) := by
  refine ACall.walk [0, 1, 4, 13] [] Try.func61 rfl Try.ntmps61 (by kernel_rfl) (by rfl) rfl fun W own I0 φ0 => ?_
  simp only [go_sem, Nat.reduceAdd, Nat.reduceLeDiff, reduceCtorEq, setsH]
  repeat (first | refine xPP rfl ?_ | refine xPE rfl ?_ | refine xEP rfl ?_ | refine xEE rfl ?_ | refine AQ.done ?_ | refine AQ.skip (by kernel_rfl) rfl ?_ | refine AQ.s2b (by kernel_rfl) rfl rfl rfl rfl ?_ | refine AQ.mark (by kernel_rfl) rfl rfl rfl rfl rfl rfl rfl ?_ | refine AP.cond_true rfl rfl ?_ | refine AP.cond_false rfl rfl ?_ | (refine AP.region rfl (by kernel_rfl) ?_; simp only [go_sem, Nat.reduceAdd, Nat.reduceLeDiff, reduceCtorEq]) | (refine AP.drawQ rfl rfl (by kernel_rfl) ?_; simp only [go_sem, Nat.reduceAdd, Nat.reduceLeDiff, reduceCtorEq]) | (refine vq_id ?_; simp only [go_sem, Nat.reduceAdd, Nat.reduceLeDiff, reduceCtorEq]) | (refine ⟨by first | omega | (intros; simp_all; done) | (intros; simp_all; omega), ?_⟩; try simp only [go_sem, Nat.reduceAdd, Nat.reduceLeDiff, reduceCtorEq]))
  refine AP.loop rfl (α := Nat × Nat) (fun p => [(0, .ob 0 0), (1, Iv p.2)]) (fun p => setsH a b c lg) (fun p => Root a p.1 p.2 r) (fun p => p.1) (n, x) hr (by repeat (first | exact Sub.nil _ | refine Sub.cons rfl ?_)) rfl fun p hp => ?_
  obtain ⟨n, x⟩ := p
  simp only at hp ⊢
  have hx := hp.lt
  have hget := intR_get a x hx
  simp only [go_sem, Nat.reduceAdd, Nat.reduceLeDiff, reduceCtorEq, setsH]
  repeat (first | refine xPP rfl ?_ | refine xPE rfl ?_ | refine xEP rfl ?_ | refine xEE rfl ?_ | refine AQ.done ?_ | refine AQ.skip (by kernel_rfl) rfl ?_ | refine AQ.s2b (by kernel_rfl) rfl rfl rfl rfl ?_ | refine AQ.mark (by kernel_rfl) rfl rfl rfl rfl rfl rfl rfl ?_ | refine AP.cond_true rfl rfl ?_ | refine AP.cond_false rfl rfl ?_ | (refine AP.region rfl (by kernel_rfl) ?_; simp only [go_sem, Nat.reduceAdd, Nat.reduceLeDiff, reduceCtorEq, hget]) | (refine AP.drawQ rfl rfl (by kernel_rfl) ?_; simp only [go_sem, Nat.reduceAdd, Nat.reduceLeDiff, reduceCtorEq, hget]) | (refine vq_id ?_; simp only [go_sem, Nat.reduceAdd, Nat.reduceLeDiff, reduceCtorEq, hget]) | (refine ⟨by first | omega | (intros; simp_all; done) | (intros; simp_all; omega), ?_⟩; try simp only [go_sem, Nat.reduceAdd, Nat.reduceLeDiff, reduceCtorEq, hget]))
  refine AP.cond rfl rfl (fun h1 => ?_) (fun h1 => ?_)
  · cases hp with
    | here _ h2 => rw [h2] at h1; simp at h1
    | up _ h2 h3 h4 =>
      repeat (first | refine xPP rfl ?_ | refine xPE rfl ?_ | refine xEP rfl ?_ | refine xEE rfl ?_ | refine AQ.done ?_ | refine AQ.skip (by kernel_rfl) rfl ?_ | refine AQ.s2b (by kernel_rfl) rfl rfl rfl rfl ?_ | refine AQ.mark (by kernel_rfl) rfl rfl rfl rfl rfl rfl rfl ?_ | refine AP.cond_true rfl rfl ?_ | refine AP.cond_false rfl rfl ?_ | (refine AP.region rfl (by kernel_rfl) ?_; simp only [go_sem, Nat.reduceAdd, Nat.reduceLeDiff, reduceCtorEq, hget, h2]) | (refine AP.drawQ rfl rfl (by kernel_rfl) ?_; simp only [go_sem, Nat.reduceAdd, Nat.reduceLeDiff, reduceCtorEq, hget, h2]) | (refine vq_id ?_; simp only [go_sem, Nat.reduceAdd, Nat.reduceLeDiff, reduceCtorEq, hget, h2]) | (refine ⟨by first | omega | (intros; simp_all; done) | (intros; simp_all; omega), ?_⟩; try simp only [go_sem, Nat.reduceAdd, Nat.reduceLeDiff, reduceCtorEq, hget, h2]))
      exact AE.round (_, _) h4 (Nat.lt_succ_self _) (by repeat (first | exact Sub.nil _ | refine Sub.cons rfl ?_)) rfl
  · cases hp with
    | here _ h2 =>
      repeat (first | refine xPP rfl ?_ | refine xPE rfl ?_ | refine xEP rfl ?_ | refine xEE rfl ?_ | refine AQ.done ?_ | refine AQ.skip (by kernel_rfl) rfl ?_ | refine AQ.s2b (by kernel_rfl) rfl rfl rfl rfl ?_ | refine AQ.mark (by kernel_rfl) rfl rfl rfl rfl rfl rfl rfl ?_ | refine AP.cond_true rfl rfl ?_ | refine AP.cond_false rfl rfl ?_ | (refine AP.region rfl (by kernel_rfl) ?_; simp only [go_sem, Nat.reduceAdd, Nat.reduceLeDiff, reduceCtorEq]) | (refine AP.drawQ rfl rfl (by kernel_rfl) ?_; simp only [go_sem, Nat.reduceAdd, Nat.reduceLeDiff, reduceCtorEq]) | (refine vq_id ?_; simp only [go_sem, Nat.reduceAdd, Nat.reduceLeDiff, reduceCtorEq]) | (refine ⟨by first | omega | (intros; simp_all; done) | (intros; simp_all; omega), ?_⟩; try simp only [go_sem, Nat.reduceAdd, Nat.reduceLeDiff, reduceCtorEq]))
      exact AE.ret rfl ⟨rfl, trivial⟩ ⟨rfl, rfl⟩
    | up _ h2 h3 h4 => rw [h2] at h1; simp at h1; omega
end Go.Proofs.Ytfgffpkdjmeaoaa
end

section
namespace Go.Proofs.Ytfgffpkdjmeaoaa
open Go Go.AL Go.RowKit
set_option maxRecDepth 10000
set_option maxHeartbeats 4000000
theorem mark_spec (a b c : List Int) (lg : List (List IV)) : ACall Try.prog 31 [.ob 0 0] (setsH a b c lg) (fun r' H' => H' = setsH a b c lg ∧ r' = Iv lg.length) := by
  refine ACall.walk [0, 2, 4] [] Try.func31 rfl Try.ntmps31 (by kernel_rfl) (by rfl) rfl fun W own I0 φ0 => ?_
  simp only [go_sem, Nat.reduceAdd, Nat.reduceLeDiff, reduceCtorEq, setsH]
  repeat (first | refine xPP rfl ?_ | refine xPE rfl ?_ | refine xEP rfl ?_ | refine xEE rfl ?_ | refine AQ.done ?_ | refine AQ.skip (by kernel_rfl) rfl ?_ | refine AQ.s2b (by kernel_rfl) rfl rfl rfl rfl ?_ | refine AQ.mark (by kernel_rfl) rfl rfl rfl rfl rfl rfl rfl ?_ | refine AP.cond_true rfl rfl ?_ | refine AP.cond_false rfl rfl ?_ | (refine AP.region rfl (by kernel_rfl) ?_; simp only [go_sem, Nat.reduceAdd, Nat.reduceLeDiff, reduceCtorEq]) | (refine AP.drawQ rfl rfl (by kernel_rfl) ?_; simp only [go_sem, Nat.reduceAdd, Nat.reduceLeDiff, reduceCtorEq]) | (refine vq_id ?_; simp only [go_sem, Nat.reduceAdd, Nat.reduceLeDiff, reduceCtorEq]) | (refine ⟨by first | omega | (intros; simp_all; done) | (intros; simp_all; omega), ?_⟩; try simp only [go_sem, Nat.reduceAdd, Nat.reduceLeDiff, reduceCtorEq]))
  exact AE.ret rfl ⟨rfl, trivial⟩ ⟨rfl, rfl⟩
theorem count_spec' (a b c : List Int) (lg : List (List IV)) (h : lg.length ≤ a.length) (hl : a.length ≤ 1000000000) : ACall Try.prog 30 [.ob 0 0] (setsH a b c lg) (fun r' H' => H' = setsH a b c lg ∧ r' = Iv (a.length - lg.length : Nat)) := by
  have hw := wr (x := (a.length : Int) - lg.length) (by omega)
  refine ACall.walk [0, 2, 4] [] Try.func30 rfl Try.ntmps30 (by kernel_rfl) (by rfl) rfl fun W own I0 φ0 => ?_
  simp only [go_sem, Nat.reduceAdd, Nat.reduceLeDiff, reduceCtorEq, setsH]
  repeat (first | refine xPP rfl ?_ | refine xPE rfl ?_ | refine xEP rfl ?_ | refine xEE rfl ?_ | refine AQ.done ?_ | refine AQ.skip (by kernel_rfl) rfl ?_ | refine AQ.s2b (by kernel_rfl) rfl rfl rfl rfl ?_ | refine AQ.mark (by kernel_rfl) rfl rfl rfl rfl rfl rfl rfl ?_ | refine AP.cond_true rfl rfl ?_ | refine AP.cond_false rfl rfl ?_ | (refine AP.region rfl (by kernel_rfl) ?_; simp only [go_sem, Nat.reduceAdd, Nat.reduceLeDiff, reduceCtorEq, hw]) | (refine AP.drawQ rfl rfl (by kernel_rfl) ?_; simp only [go_sem, Nat.reduceAdd, Nat.reduceLeDiff, reduceCtorEq, hw]) | (refine vq_id ?_; simp only [go_sem, Nat.reduceAdd, Nat.reduceLeDiff, reduceCtorEq, hw]) | (refine ⟨by first | omega | (intros; simp_all; done) | (intros; simp_all; omega), ?_⟩; try simp only [go_sem, Nat.reduceAdd, Nat.reduceLeDiff, reduceCtorEq, hw]))
  exact AE.ret rfl ⟨rfl, trivial⟩ ⟨rfl, by rw [Int.ofNat_sub h]; rfl⟩
theorem setsFind_bad (a b c : List Int) (lg : List (List IV)) (x : Int) (hx : ¬ (0 ≤ x ∧ x < a.length)) (hl : a.length ≤ 1000000000) : ACall Try.prog 27 [.ob 0 0, Iv x] (setsH a b c lg) (fun r' H' => H' = setsH a b c lg ∧ r' = .tup [Iv 0, Iv 3]) := by
  have hh := has_spec a b c lg x hl
  have hf : (decide (0 ≤ x) && decide (x < (a.length : Int))) = false := by simpa using hx
  rw [hf] at hh
  refine ACall.walk [0, 1, 4, 5, 6, 9] [] Try.func27 rfl Try.ntmps27 (by kernel_rfl) (by rfl) rfl fun W own I0 φ0 => ?_
  simp only [go_sem, Nat.reduceAdd, Nat.reduceLeDiff, reduceCtorEq, setsH] at *
  repeat (first | refine xPP rfl ?_ | refine xPE rfl ?_ | refine xEP rfl ?_ | refine xEE rfl ?_ | refine AQ.done ?_ | refine AQ.skip (by kernel_rfl) rfl ?_ | refine AQ.s2b (by kernel_rfl) rfl rfl rfl rfl ?_ | refine AQ.mark (by kernel_rfl) rfl rfl rfl rfl rfl rfl rfl ?_ | refine AP.cond_true rfl rfl ?_ | refine AP.cond_false rfl rfl ?_ | (refine AP.region rfl (by kernel_rfl) ?_; simp only [go_sem, Nat.reduceAdd, Nat.reduceLeDiff, reduceCtorEq]) | (refine AP.drawQ rfl rfl (by kernel_rfl) ?_; simp only [go_sem, Nat.reduceAdd, Nat.reduceLeDiff, reduceCtorEq]) | (refine vq_id ?_; simp only [go_sem, Nat.reduceAdd, Nat.reduceLeDiff, reduceCtorEq]) | (refine ⟨by first | omega | (intros; simp_all; done) | (intros; simp_all; omega), ?_⟩; try simp only [go_sem, Nat.reduceAdd, Nat.reduceLeDiff, reduceCtorEq]))
  refine AQ.callI (by kernel_rfl) rfl rfl rfl (hh) ?_
  repeat (first | refine xPP rfl ?_ | refine xPE rfl ?_ | refine xEP rfl ?_ | refine xEE rfl ?_ | refine AQ.done ?_ | refine AQ.skip (by kernel_rfl) rfl ?_ | refine AQ.s2b (by kernel_rfl) rfl rfl rfl rfl ?_ | refine AQ.mark (by kernel_rfl) rfl rfl rfl rfl rfl rfl rfl ?_ | refine AP.cond_true rfl rfl ?_ | refine AP.cond_false rfl rfl ?_ | (refine AP.region rfl (by kernel_rfl) ?_; simp only [go_sem, Nat.reduceAdd, Nat.reduceLeDiff, reduceCtorEq]) | (refine AP.drawQ rfl rfl (by kernel_rfl) ?_; simp only [go_sem, Nat.reduceAdd, Nat.reduceLeDiff, reduceCtorEq]) | (refine vq_id ?_; simp only [go_sem, Nat.reduceAdd, Nat.reduceLeDiff, reduceCtorEq]) | (refine ⟨by first | omega | (intros; simp_all; done) | (intros; simp_all; omega), ?_⟩; try simp only [go_sem, Nat.reduceAdd, Nat.reduceLeDiff, reduceCtorEq]))
  exact AE.ret rfl ⟨rfl, rfl, trivial⟩ ⟨rfl, rfl⟩
theorem setsFind_spec (a b c : List Int) (lg : List (List IV)) (n x r : Nat) (hr : Root a n x r) (hc : c.length = a.length) (hl : a.length ≤ 1000000000) : ACall Try.prog 27 [.ob 0 0, Iv x] (setsH a b c lg) (fun r' H' => H' = setsH a b c lg ∧ r' = .tup [Iv (c.getD r 0), Iv 0]) := by
  have hx := hr.lt
  have hre := hr.end'
  have hh := has_spec a b c lg x hl
  have hro := root_spec a b c lg n x r hr hl
  have hf : (decide (0 ≤ (x : Int)) && decide ((x : Int) < (a.length : Int))) = true := by simp; omega
  rw [hf] at hh
  have hget := intR_get c r (by omega)
  refine ACall.walk [0, 1, 4, 5, 6, 9] [] Try.func27 rfl Try.ntmps27 (by kernel_rfl) (by rfl) rfl fun W own I0 φ0 => ?_
  simp only [go_sem, Nat.reduceAdd, Nat.reduceLeDiff, reduceCtorEq, setsH] at *
  repeat (first | refine xPP rfl ?_ | refine xPE rfl ?_ | refine xEP rfl ?_ | refine xEE rfl ?_ | refine AQ.done ?_ | refine AQ.skip (by kernel_rfl) rfl ?_ | refine AQ.s2b (by kernel_rfl) rfl rfl rfl rfl ?_ | refine AQ.mark (by kernel_rfl) rfl rfl rfl rfl rfl rfl rfl ?_ | refine AP.cond_true rfl rfl ?_ | refine AP.cond_false rfl rfl ?_ | (refine AP.region rfl (by kernel_rfl) ?_; simp only [go_sem, Nat.reduceAdd, Nat.reduceLeDiff, reduceCtorEq]) | (refine AP.drawQ rfl rfl (by kernel_rfl) ?_; simp only [go_sem, Nat.reduceAdd, Nat.reduceLeDiff, reduceCtorEq]) | (refine vq_id ?_; simp only [go_sem, Nat.reduceAdd, Nat.reduceLeDiff, reduceCtorEq]) | (refine ⟨by first | omega | (intros; simp_all; done) | (intros; simp_all; omega), ?_⟩; try simp only [go_sem, Nat.reduceAdd, Nat.reduceLeDiff, reduceCtorEq]))
  refine AQ.callI (by kernel_rfl) rfl rfl rfl (hh) ?_
  repeat (first | refine xPP rfl ?_ | refine xPE rfl ?_ | refine xEP rfl ?_ | refine xEE rfl ?_ | refine AQ.done ?_ | refine AQ.skip (by kernel_rfl) rfl ?_ | refine AQ.s2b (by kernel_rfl) rfl rfl rfl rfl ?_ | refine AQ.mark (by kernel_rfl) rfl rfl rfl rfl rfl rfl rfl ?_ | refine AP.cond_true rfl rfl ?_ | refine AP.cond_false rfl rfl ?_ | (refine AP.region rfl (by kernel_rfl) ?_; simp only [go_sem, Nat.reduceAdd, Nat.reduceLeDiff, reduceCtorEq]) | (refine AP.drawQ rfl rfl (by kernel_rfl) ?_; simp only [go_sem, Nat.reduceAdd, Nat.reduceLeDiff, reduceCtorEq]) | (refine vq_id ?_; simp only [go_sem, Nat.reduceAdd, Nat.reduceLeDiff, reduceCtorEq]) | (refine ⟨by first | omega | (intros; simp_all; done) | (intros; simp_all; omega), ?_⟩; try simp only [go_sem, Nat.reduceAdd, Nat.reduceLeDiff, reduceCtorEq]))
  refine AP.drawE 11 (Tree.node [] [0, 1, 2, 3, 4, 5] [6] [Tree.node [0, 1, 2, 3] [7, 8, 9, 10] [] []]) (by kernel_rfl) rfl (by kernel_rfl) (by kernel_rfl) ?_
  refine vd_node ?_
  simp only [go_sem, Nat.reduceAdd, Nat.reduceLeDiff, reduceCtorEq]
  refine AQ.callI (by kernel_rfl) rfl rfl rfl (hro) ?_
  simp only [go_sem, Nat.reduceAdd, Nat.reduceLeDiff, reduceCtorEq]
  refine AQ.nx rfl ?_
  simp only [go_sem, Nat.reduceAdd, Nat.reduceLeDiff, reduceCtorEq, hget]
  refine ⟨by omega, by omega, ?_⟩
  repeat (first | refine xPP rfl ?_ | refine xPE rfl ?_ | refine xEP rfl ?_ | refine xEE rfl ?_ | refine AQ.done ?_ | refine AQ.skip (by kernel_rfl) rfl ?_ | refine AQ.s2b (by kernel_rfl) rfl rfl rfl rfl ?_ | refine AQ.mark (by kernel_rfl) rfl rfl rfl rfl rfl rfl rfl ?_ | refine AP.cond_true rfl rfl ?_ | refine AP.cond_false rfl rfl ?_ | (refine AP.region rfl (by kernel_rfl) ?_; simp only [go_sem, Nat.reduceAdd, Nat.reduceLeDiff, reduceCtorEq]) | (refine AP.drawQ rfl rfl (by kernel_rfl) ?_; simp only [go_sem, Nat.reduceAdd, Nat.reduceLeDiff, reduceCtorEq]) | (refine vq_id ?_; simp only [go_sem, Nat.reduceAdd, Nat.reduceLeDiff, reduceCtorEq]) | (refine ⟨by first | omega | (intros; simp_all; done) | (intros; simp_all; omega), ?_⟩; try simp only [go_sem, Nat.reduceAdd, Nat.reduceLeDiff, reduceCtorEq]))
  exact AE.ret rfl ⟨rfl, rfl, trivial⟩ ⟨rfl, rfl⟩
theorem union_bad (a b c : List Int) (lg : List (List IV)) (x y : Int) (hx : ¬ ((0 ≤ x ∧ x < a.length) ∧ (0 ≤ y ∧ y < a.length))) (hl : a.length ≤ 1000000000) :
    ACall Try.prog 28 [.ob 0 0, Iv x, Iv y] (setsH a b c lg) (fun r' H' => H' = setsH a b c lg ∧ r' = .tup [Bv false, Iv 3]) := by
  have hh := has_spec a b c lg x hl
  have hh2 := has_spec a b c lg y hl
  refine ACall.walk [0, 1, 2, 6, 7, 8, 11, 30, 45] [] Try.func28 rfl Try.ntmps28 (by kernel_rfl) (by rfl) rfl fun W own I0 φ0 => ?_
  simp only [go_sem, Nat.reduceAdd, Nat.reduceLeDiff, reduceCtorEq, setsH] at *
  repeat (first | refine xPP rfl ?_ | refine xPE rfl ?_ | refine xEP rfl ?_ | refine xEE rfl ?_ | refine AQ.done ?_ | refine AQ.skip (by kernel_rfl) rfl ?_ | refine AQ.s2b (by kernel_rfl) rfl rfl rfl rfl ?_ | refine AQ.mark (by kernel_rfl) rfl rfl rfl rfl rfl rfl rfl ?_ | refine AP.cond_true rfl rfl ?_ | refine AP.cond_false rfl rfl ?_ | (refine AP.region rfl (by kernel_rfl) ?_; simp only [go_sem, Nat.reduceAdd, Nat.reduceLeDiff, reduceCtorEq]) | (refine AP.drawQ rfl rfl (by kernel_rfl) ?_; simp only [go_sem, Nat.reduceAdd, Nat.reduceLeDiff, reduceCtorEq]) | (refine vq_id ?_; simp only [go_sem, Nat.reduceAdd, Nat.reduceLeDiff, reduceCtorEq]) | (refine ⟨by first | omega | (intros; simp_all; done) | (intros; simp_all; omega), ?_⟩; try simp only [go_sem, Nat.reduceAdd, Nat.reduceLeDiff, reduceCtorEq]))
  refine AQ.callI (by kernel_rfl) rfl rfl rfl (hh) ?_
  repeat (first | refine xPP rfl ?_ | refine xPE rfl ?_ | refine xEP rfl ?_ | refine xEE rfl ?_ | refine AQ.done ?_ | refine AQ.skip (by kernel_rfl) rfl ?_ | refine AQ.s2b (by kernel_rfl) rfl rfl rfl rfl ?_ | refine AQ.mark (by kernel_rfl) rfl rfl rfl rfl rfl rfl rfl ?_ | refine AP.cond_true rfl rfl ?_ | refine AP.cond_false rfl rfl ?_ | (refine AP.region rfl (by kernel_rfl) ?_; simp only [go_sem, Nat.reduceAdd, Nat.reduceLeDiff, reduceCtorEq]) | (refine AP.drawQ rfl rfl (by kernel_rfl) ?_; simp only [go_sem, Nat.reduceAdd, Nat.reduceLeDiff, reduceCtorEq]) | (refine vq_id ?_; simp only [go_sem, Nat.reduceAdd, Nat.reduceLeDiff, reduceCtorEq]) | (refine ⟨by first | omega | (intros; simp_all; done) | (intros; simp_all; omega), ?_⟩; try simp only [go_sem, Nat.reduceAdd, Nat.reduceLeDiff, reduceCtorEq]))
  refine AQ.callI_g (by kernel_rfl) rfl rfl rfl (fun h => by first | (simp [gs, AV.g]; done) | (simp [gs, AV.g, constAV]; done) | (simp [gs, AV.g, constAV, bw] at h ⊢; done) | (simp [bw] at h; done) | (simp [gs, AV.g, bw] at h ⊢; simp [h]; done) | (simp [gs, AV.g, bw] at h ⊢; exact h.1) | (simp [gs, AV.g]; rfl) | (simp [gs, AV.g, bw] at h ⊢; rfl) | (simp [gs, AV.g, bw] at h ⊢; simp [h]; rfl) | (simp [gs, AV.g, bw] at h ⊢; simp_all)) (fun _ => hh2) ?_
  simp only [go_sem, Nat.reduceAdd, Nat.reduceLeDiff, reduceCtorEq]
  repeat (first | refine xPP rfl ?_ | refine xPE rfl ?_ | refine xEP rfl ?_ | refine xEE rfl ?_ | refine AQ.done ?_ | refine AQ.skip (by kernel_rfl) rfl ?_ | refine AQ.s2b (by kernel_rfl) rfl rfl rfl rfl ?_ | refine AQ.mark (by kernel_rfl) rfl rfl rfl rfl rfl rfl rfl ?_ | refine AP.cond_true rfl rfl ?_ | refine AP.cond_false rfl rfl ?_ | (refine AP.region rfl (by kernel_rfl) ?_; simp only [go_sem, Nat.reduceAdd, Nat.reduceLeDiff, reduceCtorEq]) | (refine AP.drawQ rfl rfl (by kernel_rfl) ?_; simp only [go_sem, Nat.reduceAdd, Nat.reduceLeDiff, reduceCtorEq]) | (refine vq_id ?_; simp only [go_sem, Nat.reduceAdd, Nat.reduceLeDiff, reduceCtorEq]) | (refine ⟨by first | omega | (intros; simp_all; done) | (intros; simp_all; omega), ?_⟩; try simp only [go_sem, Nat.reduceAdd, Nat.reduceLeDiff, reduceCtorEq]))

  refine AP.cond_true rfl (by simp only [go_sem, Nat.reduceAdd, Nat.reduceLeDiff, reduceCtorEq]; refine congrArg (fun b => some (AV.im (IV.v (Value.bool b)))) ?_; (first | (simp only [Bool.or_eq_true, Bool.and_eq_true, Bool.not_eq_true', Bool.not_eq_false', Bool.and_eq_false_iff, Bool.or_eq_false_iff, decide_eq_true_eq, decide_eq_false_iff_not, beq_iff_eq, bne_iff_ne, beq_eq_false_iff_ne, bne_eq_false_iff_eq, ne_eq]; omega) | (simp; done) | (simp; omega) | (simp_all; done) | (simp_all; omega))) ?_
  repeat (first | refine xPP rfl ?_ | refine xPE rfl ?_ | refine xEP rfl ?_ | refine xEE rfl ?_ | refine AQ.done ?_ | refine AQ.skip (by kernel_rfl) rfl ?_ | refine AQ.s2b (by kernel_rfl) rfl rfl rfl rfl ?_ | refine AQ.mark (by kernel_rfl) rfl rfl rfl rfl rfl rfl rfl ?_ | refine AP.cond_true rfl rfl ?_ | refine AP.cond_false rfl rfl ?_ | (refine AP.region rfl (by kernel_rfl) ?_; simp only [go_sem, Nat.reduceAdd, Nat.reduceLeDiff, reduceCtorEq]) | (refine AP.drawQ rfl rfl (by kernel_rfl) ?_; simp only [go_sem, Nat.reduceAdd, Nat.reduceLeDiff, reduceCtorEq]) | (refine vq_id ?_; simp only [go_sem, Nat.reduceAdd, Nat.reduceLeDiff, reduceCtorEq]) | (refine ⟨by first | omega | (intros; simp_all; done) | (intros; simp_all; omega), ?_⟩; try simp only [go_sem, Nat.reduceAdd, Nat.reduceLeDiff, reduceCtorEq]))
  exact AE.ret rfl ⟨rfl, rfl, trivial⟩ ⟨rfl, rfl⟩
def swapB (b : List Int) (x y : Nat) : Bool := decide (b.getD x 0 < b.getD y 0)
def logRow (b c : List Int) (r s : Nat) : List IV := [Ii s, Ii r, Ii (b.getD r 0), Ii (c.getD r 0)]
theorem union_same (a b c : List Int) (lg : List (List IV)) (x y n n' r : Nat) (hx : Root a n x r) (hy : Root a n' y r) (hl : a.length ≤ 1000000000) :
    ACall Try.prog 28 [.ob 0 0, Iv x, Iv y] (setsH a b c lg) (fun r' H' => H' = setsH a b c lg ∧ r' = .tup [Bv false, Iv 0]) := by
  have hlx := hx.lt
  have hly := hy.lt
  have hh := has_spec a b c lg x hl
  have hh2 := has_spec a b c lg y hl
  have hr1 := root_spec a b c lg n x r hx hl
  have hr2 := root_spec a b c lg n' y r hy hl
  rw [show (decide (0 ≤ (x : Int)) && decide ((x : Int) < (a.length : Int))) = true by simp; omega] at hh
  rw [show (decide (0 ≤ (y : Int)) && decide ((y : Int) < (a.length : Int))) = true by simp; omega] at hh2
  refine ACall.walk [0, 1, 2, 6, 7, 8, 11, 30, 45] [] Try.func28 rfl Try.ntmps28 (by kernel_rfl) (by rfl) rfl fun W own I0 φ0 => ?_
  simp only [go_sem, Nat.reduceAdd, Nat.reduceLeDiff, reduceCtorEq, setsH] at *
  repeat (first | refine xPP rfl ?_ | refine xPE rfl ?_ | refine xEP rfl ?_ | refine xEE rfl ?_ | refine AQ.done ?_ | refine AQ.skip (by kernel_rfl) rfl ?_ | refine AQ.s2b (by kernel_rfl) rfl rfl rfl rfl ?_ | refine AQ.mark (by kernel_rfl) rfl rfl rfl rfl rfl rfl rfl ?_ | refine AP.cond_true rfl rfl ?_ | refine AP.cond_false rfl rfl ?_ | (refine AP.region rfl (by kernel_rfl) ?_; simp only [go_sem, Nat.reduceAdd, Nat.reduceLeDiff, reduceCtorEq]) | (refine AP.drawQ rfl rfl (by kernel_rfl) ?_; simp only [go_sem, Nat.reduceAdd, Nat.reduceLeDiff, reduceCtorEq]) | (refine vq_id ?_; simp only [go_sem, Nat.reduceAdd, Nat.reduceLeDiff, reduceCtorEq]) | (refine ⟨by first | omega | (intros; simp_all; done) | (intros; simp_all; omega), ?_⟩; try simp only [go_sem, Nat.reduceAdd, Nat.reduceLeDiff, reduceCtorEq]))
  refine AQ.callI (by kernel_rfl) rfl rfl rfl (hh) ?_
  repeat (first | refine xPP rfl ?_ | refine xPE rfl ?_ | refine xEP rfl ?_ | refine xEE rfl ?_ | refine AQ.done ?_ | refine AQ.skip (by kernel_rfl) rfl ?_ | refine AQ.s2b (by kernel_rfl) rfl rfl rfl rfl ?_ | refine AQ.mark (by kernel_rfl) rfl rfl rfl rfl rfl rfl rfl ?_ | refine AP.cond_true rfl rfl ?_ | refine AP.cond_false rfl rfl ?_ | (refine AP.region rfl (by kernel_rfl) ?_; simp only [go_sem, Nat.reduceAdd, Nat.reduceLeDiff, reduceCtorEq]) | (refine AP.drawQ rfl rfl (by kernel_rfl) ?_; simp only [go_sem, Nat.reduceAdd, Nat.reduceLeDiff, reduceCtorEq]) | (refine vq_id ?_; simp only [go_sem, Nat.reduceAdd, Nat.reduceLeDiff, reduceCtorEq]) | (refine ⟨by first | omega | (intros; simp_all; done) | (intros; simp_all; omega), ?_⟩; try simp only [go_sem, Nat.reduceAdd, Nat.reduceLeDiff, reduceCtorEq]))
  refine AQ.callI_g (by kernel_rfl) rfl rfl rfl (fun h => by first | (simp [gs, AV.g]; done) | (simp [gs, AV.g, constAV]; done) | (simp [gs, AV.g, constAV, bw] at h ⊢; done) | (simp [bw] at h; done) | (simp [gs, AV.g, bw] at h ⊢; simp [h]; done) | (simp [gs, AV.g, bw] at h ⊢; exact h.1) | (simp [gs, AV.g]; rfl) | (simp [gs, AV.g, bw] at h ⊢; rfl) | (simp [gs, AV.g, bw] at h ⊢; simp [h]; rfl) | (simp [gs, AV.g, bw] at h ⊢; simp_all)) (fun _ => hh2) ?_
  simp only [go_sem, Nat.reduceAdd, Nat.reduceLeDiff, reduceCtorEq]
  repeat (first | refine xPP rfl ?_ | refine xPE rfl ?_ | refine xEP rfl ?_ | refine xEE rfl ?_ | refine AQ.done ?_ | refine AQ.skip (by kernel_rfl) rfl ?_ | refine AQ.s2b (by kernel_rfl) rfl rfl rfl rfl ?_ | refine AQ.mark (by kernel_rfl) rfl rfl rfl rfl rfl rfl rfl ?_ | refine AP.cond_true rfl rfl ?_ | refine AP.cond_false rfl rfl ?_ | (refine AP.region rfl (by kernel_rfl) ?_; simp only [go_sem, Nat.reduceAdd, Nat.reduceLeDiff, reduceCtorEq]) | (refine AP.drawQ rfl rfl (by kernel_rfl) ?_; simp only [go_sem, Nat.reduceAdd, Nat.reduceLeDiff, reduceCtorEq]) | (refine vq_id ?_; simp only [go_sem, Nat.reduceAdd, Nat.reduceLeDiff, reduceCtorEq]) | (refine ⟨by first | omega | (intros; simp_all; done) | (intros; simp_all; omega), ?_⟩; try simp only [go_sem, Nat.reduceAdd, Nat.reduceLeDiff, reduceCtorEq]))
  refine AQ.callI (by kernel_rfl) rfl rfl rfl (hr1) ?_
  repeat (first | refine xPP rfl ?_ | refine xPE rfl ?_ | refine xEP rfl ?_ | refine xEE rfl ?_ | refine AQ.done ?_ | refine AQ.skip (by kernel_rfl) rfl ?_ | refine AQ.s2b (by kernel_rfl) rfl rfl rfl rfl ?_ | refine AQ.mark (by kernel_rfl) rfl rfl rfl rfl rfl rfl rfl ?_ | refine AP.cond_true rfl rfl ?_ | refine AP.cond_false rfl rfl ?_ | (refine AP.region rfl (by kernel_rfl) ?_; simp only [go_sem, Nat.reduceAdd, Nat.reduceLeDiff, reduceCtorEq]) | (refine AP.drawQ rfl rfl (by kernel_rfl) ?_; simp only [go_sem, Nat.reduceAdd, Nat.reduceLeDiff, reduceCtorEq]) | (refine vq_id ?_; simp only [go_sem, Nat.reduceAdd, Nat.reduceLeDiff, reduceCtorEq]) | (refine ⟨by first | omega | (intros; simp_all; done) | (intros; simp_all; omega), ?_⟩; try simp only [go_sem, Nat.reduceAdd, Nat.reduceLeDiff, reduceCtorEq]))
  refine AQ.callI (by kernel_rfl) rfl rfl rfl (hr2) ?_
  repeat (first | refine xPP rfl ?_ | refine xPE rfl ?_ | refine xEP rfl ?_ | refine xEE rfl ?_ | refine AQ.done ?_ | refine AQ.skip (by kernel_rfl) rfl ?_ | refine AQ.s2b (by kernel_rfl) rfl rfl rfl rfl ?_ | refine AQ.mark (by kernel_rfl) rfl rfl rfl rfl rfl rfl rfl ?_ | refine AP.cond_true rfl rfl ?_ | refine AP.cond_false rfl rfl ?_ | (refine AP.region rfl (by kernel_rfl) ?_; simp only [go_sem, Nat.reduceAdd, Nat.reduceLeDiff, reduceCtorEq]) | (refine AP.drawQ rfl rfl (by kernel_rfl) ?_; simp only [go_sem, Nat.reduceAdd, Nat.reduceLeDiff, reduceCtorEq]) | (refine vq_id ?_; simp only [go_sem, Nat.reduceAdd, Nat.reduceLeDiff, reduceCtorEq]) | (refine ⟨by first | omega | (intros; simp_all; done) | (intros; simp_all; omega), ?_⟩; try simp only [go_sem, Nat.reduceAdd, Nat.reduceLeDiff, reduceCtorEq]))
  refine AP.cond_true rfl (by simp only [go_sem, Nat.reduceAdd, Nat.reduceLeDiff, reduceCtorEq]; refine congrArg (fun b => some (AV.im (IV.v (Value.bool b)))) ?_; (first | (simp only [Bool.or_eq_true, Bool.and_eq_true, Bool.not_eq_true', Bool.not_eq_false', Bool.and_eq_false_iff, Bool.or_eq_false_iff, decide_eq_true_eq, decide_eq_false_iff_not, beq_iff_eq, bne_iff_ne, beq_eq_false_iff_ne, bne_eq_false_iff_eq, ne_eq]; omega) | (simp; done) | (simp; omega) | (simp_all; done) | (simp_all; omega))) ?_
  repeat (first | refine xPP rfl ?_ | refine xPE rfl ?_ | refine xEP rfl ?_ | refine xEE rfl ?_ | refine AQ.done ?_ | refine AQ.skip (by kernel_rfl) rfl ?_ | refine AQ.s2b (by kernel_rfl) rfl rfl rfl rfl ?_ | refine AQ.mark (by kernel_rfl) rfl rfl rfl rfl rfl rfl rfl ?_ | refine AP.cond_true rfl rfl ?_ | refine AP.cond_false rfl rfl ?_ | (refine AP.region rfl (by kernel_rfl) ?_; simp only [go_sem, Nat.reduceAdd, Nat.reduceLeDiff, reduceCtorEq]) | (refine AP.drawQ rfl rfl (by kernel_rfl) ?_; simp only [go_sem, Nat.reduceAdd, Nat.reduceLeDiff, reduceCtorEq]) | (refine vq_id ?_; simp only [go_sem, Nat.reduceAdd, Nat.reduceLeDiff, reduceCtorEq]) | (refine ⟨by first | omega | (intros; simp_all; done) | (intros; simp_all; omega), ?_⟩; try simp only [go_sem, Nat.reduceAdd, Nat.reduceLeDiff, reduceCtorEq]))
  exact AE.ret rfl ⟨rfl, rfl, trivial⟩ ⟨rfl, rfl⟩
end Go.Proofs.Ytfgffpkdjmeaoaa
end

section
namespace Go.Proofs.Ytfgffpkdjmeaoaa
open Go Go.AL Go.RowKit
set_option maxRecDepth 10000
set_option maxHeartbeats 4000000
def addC (x r : Nat) : List (Nat × List Nat) → List (Nat × List Nat)
  | [] => [(r, [x])]
  | (k, l) :: G => if k = r then (k, l ++ [x]) :: G else (k, l) :: addC x r G
def clsOf (rt : Nat → Nat) : Nat → List (Nat × List Nat)
  | 0 => []
  | n + 1 => addC n (rt n) (clsOf rt n)
theorem addC_new (x r : Nat) : ∀ G : List (Nat × List Nat), r ∉ G.map Prod.fst → addC x r G = G ++ [(r, [x])]
  | [], _ => rfl
  | (k, l) :: G, h => by
    simp only [List.map_cons, List.mem_cons, not_or] at h
    simp only [addC, if_neg (Ne.symm h.1), List.cons_append, addC_new x r G h.2]
theorem addC_old (x r : Nat) : ∀ (G : List (Nat × List Nat)) (j : Nat) (l : List Nat), (G.map Prod.fst).Nodup → G[j]? = some (r, l) → addC x r G = G.set j (r, l ++ [x])
  | [], _, _, _, h => by simp at h
  | (k, m) :: G, 0, l, _, h => by
    simp only [List.getElem?_cons_zero, Option.some.injEq, Prod.mk.injEq] at h
    obtain ⟨rfl, rfl⟩ := h
    simp [addC]
  | (k, m) :: G, j + 1, l, hn, h => by
    simp only [List.getElem?_cons_succ] at h
    simp only [List.map_cons, List.nodup_cons] at hn
    have : k ≠ r := fun e => hn.1 (e ▸ List.mem_map.2 ⟨(r, l), List.mem_of_getElem? h, rfl⟩)
    simp only [addC, if_neg this, List.set_cons_succ, addC_old x r G j l hn.2 h]
theorem addC_keys (x r : Nat) : ∀ G : List (Nat × List Nat), (addC x r G).map Prod.fst = if r ∈ G.map Prod.fst then G.map Prod.fst else G.map Prod.fst ++ [r]
  | [] => by simp [addC]
  | (k, l) :: G => by
    by_cases hk : k = r
    · simp [addC, hk]
    · simp only [addC, if_neg hk, List.map_cons, addC_keys x r G, List.mem_cons, Ne.symm hk, false_or]
      split <;> rfl
theorem addC_nodup (x r : Nat) (G : List (Nat × List Nat)) (h : (G.map Prod.fst).Nodup) : ((addC x r G).map Prod.fst).Nodup := by
  rw [addC_keys]
  split
  · exact h
  · rename_i hr
    exact List.nodup_append.2 ⟨h, by simp, fun a ha b hb e => by simp at hb; subst hb; subst e; exact hr ha⟩
theorem addC_len (x r : Nat) (G : List (Nat × List Nat)) : (addC x r G).length ≤ G.length + 1 := by
  have := congrArg List.length (addC_keys x r G)
  rw [List.length_map] at this
  rw [this]
  split <;> simp
theorem cls_nodup (rt : Nat → Nat) : ∀ n, ((clsOf rt n).map Prod.fst).Nodup
  | 0 => by simp [clsOf]
  | n + 1 => addC_nodup _ _ _ (cls_nodup rt n)
theorem cls_len (rt : Nat → Nat) : ∀ n, (clsOf rt n).length ≤ n
  | 0 => by simp [clsOf]
  | n + 1 => Nat.le_trans (addC_len _ _ _) (by have := cls_len rt n; omega)
theorem addC_row (x r n : Nat) (hx : x = n) : ∀ (G : List (Nat × List Nat)), (∀ p ∈ G, p.2.length ≤ n) → ∀ p ∈ addC x r G, p.2.length ≤ n + 1
  | [], _, p, h => by simp [addC] at h; subst h; simp
  | (k, l) :: G, hG, p, h => by
    have h1 := hG (k, l) (by simp)
    simp only at h1
    by_cases hk : k = r
    · simp only [addC, if_pos hk, List.mem_cons] at h
      rcases h with rfl | h
      · simp; omega
      · have := hG p (by simp [h]); omega
    · simp only [addC, if_neg hk, List.mem_cons] at h
      rcases h with rfl | h
      · simp only; omega
      · exact addC_row x r n hx G (fun q hq => hG q (by simp [hq])) p h
theorem cls_row (rt : Nat → Nat) : ∀ n, ∀ p ∈ clsOf rt n, p.2.length ≤ n
  | 0, p, h => by simp [clsOf] at h
  | n + 1, p, h => addC_row n (rt n) n rfl _ (cls_row rt n) p h
def rowsG (G : List (Nat × List Nat)) : List (List (List IV)) := G.map fun p => p.2.map fun x => [Ii (x : Nat)]
def keysG (G : List (Nat × List Nat)) : List Value := G.map fun p => .int .i64 (p.1 : Nat)
def valsG (n : Nat) : List AV := (List.range n).map fun i => Iv (i : Nat)
theorem valsG_snoc (n : Nat) : valsG (n + 1) = valsG n ++ [Iv n] := by simp [valsG, List.range_succ]
theorem valsG_get (n j : Nat) (h : j < n) : (valsG n)[j]? = some (Iv j) := by simp [valsG, h]
def Clv (G : List (Nat × List Nat)) : AV := .im (.sl 1 (G.map fun p => [.sl 1 (p.2.map fun x => [Ii (x : Nat)])]))
def clsE (a : List Int) (G : List (Nat × List Nat)) (i : Nat) : Env := [(0, .ob 0 0), (3, .mp 5), (4, bif G.isEmpty then .im (.v (.slice none 0 0)) else .os 6 1 0 G.length), (16, Iv a.length), (17, Iv i)]
def clsH (a b c : List Int) (lg : List (List IV)) (G : List (Nat × List Nat)) : Heap :=
  bif G.isEmpty then (5, .var (.map []) []) :: setsH a b c lg
  else (6, .var (.row 22) (famC 1 7 (rowsG G))) :: ((5, .var (.map (keysG G)) (valsG G.length)) :: setsH a b c lg ++ famH 3 1 7 (rowsG G))
theorem keysG_fst (T : List (Nat × List Nat)) {j r : Nat} (h : (keysG T)[j]? = some (.int .i64 (r : Nat))) : (T.map Prod.fst)[j]? = some r := by
  rw [keysG, List.getElem?_map] at h
  rw [List.getElem?_map]
  cases hq : T[j]? with
  | none => rw [hq] at h; cases h
  | some e =>
    rw [hq] at h
    simp only [Option.map_some, Option.some.injEq, Value.int.injEq, true_and] at h ⊢
    omega
theorem keysG_uniq (T : List (Nat × List Nat)) (hn : (T.map Prod.fst).Nodup) {j j' r : Nat} (h : (keysG T)[j]? = some (.int .i64 (r : Nat))) (h' : (keysG T)[j']? = some (.int .i64 (r : Nat))) : j' = j := by
  have h1 := keysG_fst T h
  have h2 := keysG_fst T h'
  exact (List.getElem?_inj (List.getElem?_eq_some_iff.1 h2).1 hn).1 (h2.trans h1.symm)
theorem killC_valsG (q : Nat) : ∀ l : List Nat, killC q (l.map fun i => Iv (i : Nat)) = l.map fun i => Iv (i : Nat)
  | [] => rfl
  | x :: l => by
    have := killC_valsG q l
    simp only [List.map_cons, killC, AV.men, cond_false, this]
theorem mens_valsG (q : Nat) : ∀ l : List Nat, AV.mens q (l.map fun i => Iv (i : Nat)) = false
  | [] => rfl
  | x :: l => by
    have := mens_valsG q l
    simp only [List.map_cons, AV.mens, AV.men, Bool.false_or, this]
theorem mens_app (b : Nat) : ∀ A B : List AV, AV.mens b (A ++ B) = (AV.mens b A || AV.mens b B)
  | [], B => by simp [AV.mens]
  | x :: A, B => by simp only [List.cons_append, AV.mens, mens_app b A B, Bool.or_assoc]
theorem clsE_nil (a : List Int) (i : Nat) : clsE a [] i = [(0, .ob 0 0), (3, .mp 5), (4, .im (.v (.slice none 0 0))), (16, Iv a.length), (17, Iv i)] := rfl
theorem clsH_nil (a b c : List Int) (lg : List (List IV)) : clsH a b c lg [] = (5, .var (.map []) []) :: setsH a b c lg := rfl
theorem clsE_cons (a : List Int) (g : Nat × List Nat) (G : List (Nat × List Nat)) (i : Nat) : clsE a (g :: G) i = [(0, .ob 0 0), (3, .mp 5), (4, .os 6 1 0 (g :: G).length), (16, Iv a.length), (17, Iv i)] := rfl
theorem clsH_cons (a b c : List Int) (lg : List (List IV)) (g : Nat × List Nat) (G : List (Nat × List Nat)) : clsH a b c lg (g :: G) = (6, .var (.row 22) (famC 1 7 (rowsG (g :: G)))) :: ((5, .var (.map (keysG (g :: G))) (valsG (g :: G).length)) :: setsH a b c lg ++ famH 3 1 7 (rowsG (g :: G))) := rfl
theorem lk_app_ne {α : Type} (A : List (Nat × α)) (q : Nat) (o : α) {x : Nat} (h : Nat.beq q x = false) : lk (A ++ [(q, o)]) x = lk A x := by
  induction A with
  | nil => simp [lk, h]
  | cons p A ih => obtain ⟨j, y⟩ := p; simp only [List.cons_append, lk, ih]
theorem classes_spec (a b c : List Int) (lg : List (List IV)) (rt : Nat → Nat) (hr : ∀ x, x < a.length → ∃ n, Root a n x (rt x)) (hl : a.length ≤ 1000000) :
    ACall Try.prog 32 [.ob 0 0] (setsH a b c lg) (fun r' H' => H' = setsH a b c lg ∧ r' = Clv (clsOf rt a.length)) := by
  refine ACall.walk [0, 2, 3, 4, 5, 6, 7, 8, 10, 16, 17, 18, 30] [] Try.func32 rfl Try.ntmps32 (by kernel_rfl) (by rfl) rfl fun W own I0 φ0 => ?_
  simp only [go_sem, Nat.reduceAdd, Nat.reduceLeDiff, reduceCtorEq, setsH]
  repeat (first | refine xPP rfl ?_ | refine xPE rfl ?_ | refine xEP rfl ?_ | refine xEE rfl ?_ | refine AQ.done ?_ | refine AQ.skip (by kernel_rfl) rfl ?_ | refine AQ.s2b (by kernel_rfl) rfl rfl rfl rfl ?_ | refine AQ.mark (by kernel_rfl) rfl rfl rfl rfl rfl rfl rfl ?_ | refine AP.cond_true rfl rfl ?_ | refine AP.cond_false rfl rfl ?_ | (refine AP.region rfl (by kernel_rfl) ?_; simp only [go_sem, Nat.reduceAdd, Nat.reduceLeDiff, reduceCtorEq]) | (refine AP.drawQ rfl rfl (by kernel_rfl) ?_; simp only [go_sem, Nat.reduceAdd, Nat.reduceLeDiff, reduceCtorEq]) | (refine vq_id ?_; simp only [go_sem, Nat.reduceAdd, Nat.reduceLeDiff, reduceCtorEq]) | (refine ⟨by first | omega | (intros; simp_all; done) | (intros; simp_all; omega), ?_⟩; try simp only [go_sem, Nat.reduceAdd, Nat.reduceLeDiff, reduceCtorEq]))
  refine AQ.mmake (by kernel_rfl) ?_
  simp only [go_sem, Nat.reduceAdd, Nat.reduceLeDiff, reduceCtorEq]
  repeat (first | refine xPP rfl ?_ | refine xPE rfl ?_ | refine xEP rfl ?_ | refine xEE rfl ?_ | refine AQ.done ?_ | refine AQ.skip (by kernel_rfl) rfl ?_ | refine AQ.s2b (by kernel_rfl) rfl rfl rfl rfl ?_ | refine AQ.mark (by kernel_rfl) rfl rfl rfl rfl rfl rfl rfl ?_ | refine AP.cond_true rfl rfl ?_ | refine AP.cond_false rfl rfl ?_ | (refine AP.region rfl (by kernel_rfl) ?_; simp only [go_sem, Nat.reduceAdd, Nat.reduceLeDiff, reduceCtorEq]) | (refine AP.drawQ rfl rfl (by kernel_rfl) ?_; simp only [go_sem, Nat.reduceAdd, Nat.reduceLeDiff, reduceCtorEq]) | (refine vq_id ?_; simp only [go_sem, Nat.reduceAdd, Nat.reduceLeDiff, reduceCtorEq]) | (refine ⟨by first | omega | (intros; simp_all; done) | (intros; simp_all; omega), ?_⟩; try simp only [go_sem, Nat.reduceAdd, Nat.reduceLeDiff, reduceCtorEq]))
  refine AP.loop rfl (α := Nat) (fun i => clsE a (clsOf rt i) i) (fun i => clsH a b c lg (clsOf rt i)) (fun i => i ≤ a.length) (fun i => a.length - i) 0 (by omega) (by repeat (first | exact Sub.nil _ | refine Sub.cons rfl ?_)) rfl fun i hi => ?_
  have hlen := cls_len rt i
  have hrow := cls_row rt i
  have hnd := cls_nodup rt i
  have hnx : clsOf rt (i + 1) = addC i (rt i) (clsOf rt i) := rfl
  obtain ⟨G, hG⟩ : ∃ G, clsOf rt i = G := ⟨_, rfl⟩
  rw [hG] at hlen hrow hnd hnx
  simp only [hG]
  rcases Nat.lt_or_ge i a.length with hk | hk
  · have hw := wr (x := (i : Int) + 1) (by omega)
    have hlt : decide ((i : Int) < (a.length : Int)) = true := decide_eq_true (by omega)
    obtain ⟨n, hrt⟩ := hr i hk
    have hroot := root_spec a b c lg n i (rt i) hrt (by omega)
    cases G with
    | nil =>
      rw [clsE_nil, clsH_nil]
      simp only [go_sem, Nat.reduceAdd, Nat.reduceLeDiff, reduceCtorEq, setsH]
      repeat (first | refine xPP rfl ?_ | refine xPE rfl ?_ | refine xEP rfl ?_ | refine xEE rfl ?_ | refine AQ.done ?_ | refine AQ.skip (by kernel_rfl) rfl ?_ | refine AQ.s2b (by kernel_rfl) rfl rfl rfl rfl ?_ | refine AQ.mark (by kernel_rfl) rfl rfl rfl rfl rfl rfl rfl ?_ | refine AP.cond_true rfl rfl ?_ | refine AP.cond_false rfl rfl ?_ | (refine AP.region rfl (by kernel_rfl) ?_; simp only [go_sem, Nat.reduceAdd, Nat.reduceLeDiff, reduceCtorEq, hlt]) | (refine AP.drawQ rfl rfl (by kernel_rfl) ?_; simp only [go_sem, Nat.reduceAdd, Nat.reduceLeDiff, reduceCtorEq, hlt]) | (refine vq_id ?_; simp only [go_sem, Nat.reduceAdd, Nat.reduceLeDiff, reduceCtorEq, hlt]) | (refine ⟨by first | omega | (intros; simp_all; done) | (intros; simp_all; omega), ?_⟩; try simp only [go_sem, Nat.reduceAdd, Nat.reduceLeDiff, reduceCtorEq, hlt]))
      refine AQ.callF [(4, 4), (3, 3), (2, 2), (1, 1), (0, 0)] (by kernel_rfl) rfl rfl rfl rfl rfl rfl (fun k => by exact ⟨rfl, rfl, rfl, rfl, rfl, trivial⟩) (fun k => rfl) (fun k => rfl) hroot ?_
      simp only [go_sem, Nat.reduceAdd, Nat.reduceLeDiff, reduceCtorEq]
      repeat (first | refine xPP rfl ?_ | refine xPE rfl ?_ | refine xEP rfl ?_ | refine xEE rfl ?_ | refine AQ.done ?_ | refine AQ.skip (by kernel_rfl) rfl ?_ | refine AQ.s2b (by kernel_rfl) rfl rfl rfl rfl ?_ | refine AQ.mark (by kernel_rfl) rfl rfl rfl rfl rfl rfl rfl ?_ | refine AP.cond_true rfl rfl ?_ | refine AP.cond_false rfl rfl ?_ | (refine AP.region rfl (by kernel_rfl) ?_; simp only [go_sem, Nat.reduceAdd, Nat.reduceLeDiff, reduceCtorEq]) | (refine AP.drawQ rfl rfl (by kernel_rfl) ?_; simp only [go_sem, Nat.reduceAdd, Nat.reduceLeDiff, reduceCtorEq]) | (refine vq_id ?_; simp only [go_sem, Nat.reduceAdd, Nat.reduceLeDiff, reduceCtorEq]) | (refine ⟨by first | omega | (intros; simp_all; done) | (intros; simp_all; omega), ?_⟩; try simp only [go_sem, Nat.reduceAdd, Nat.reduceLeDiff, reduceCtorEq]))
      refine AQ.lookN (by kernel_rfl) rfl rfl rfl Try.underlying27 Try.underlying3 (fun _ h => by cases h) rfl (by simp) rfl rfl ?_
      simp only [go_sem, Nat.reduceAdd, Nat.reduceLeDiff, reduceCtorEq]
      repeat (first | refine xPP rfl ?_ | refine xPE rfl ?_ | refine xEP rfl ?_ | refine xEE rfl ?_ | refine AQ.done ?_ | refine AQ.skip (by kernel_rfl) rfl ?_ | refine AQ.s2b (by kernel_rfl) rfl rfl rfl rfl ?_ | refine AQ.mark (by kernel_rfl) rfl rfl rfl rfl rfl rfl rfl ?_ | refine AP.cond_true rfl rfl ?_ | refine AP.cond_false rfl rfl ?_ | (refine AP.region rfl (by kernel_rfl) ?_; simp only [go_sem, Nat.reduceAdd, Nat.reduceLeDiff, reduceCtorEq]) | (refine AP.drawQ rfl rfl (by kernel_rfl) ?_; simp only [go_sem, Nat.reduceAdd, Nat.reduceLeDiff, reduceCtorEq]) | (refine vq_id ?_; simp only [go_sem, Nat.reduceAdd, Nat.reduceLeDiff, reduceCtorEq]) | (refine ⟨by first | omega | (intros; simp_all; done) | (intros; simp_all; omega), ?_⟩; try simp only [go_sem, Nat.reduceAdd, Nat.reduceLeDiff, reduceCtorEq]))
      refine AQ.msetN (by kernel_rfl) rfl rfl rfl rfl Try.underlying27 Try.underlying3 (fun _ h => by cases h) rfl (by simp) ?_
      simp only [go_sem, Nat.reduceAdd, Nat.reduceLeDiff, reduceCtorEq]
      repeat (first | refine xPP rfl ?_ | refine xPE rfl ?_ | refine xEP rfl ?_ | refine xEE rfl ?_ | refine AQ.done ?_ | refine AQ.skip (by kernel_rfl) rfl ?_ | refine AQ.s2b (by kernel_rfl) rfl rfl rfl rfl ?_ | refine AQ.mark (by kernel_rfl) rfl rfl rfl rfl rfl rfl rfl ?_ | refine AP.cond_true rfl rfl ?_ | refine AP.cond_false rfl rfl ?_ | (refine AP.region rfl (by kernel_rfl) ?_; simp only [go_sem, Nat.reduceAdd, Nat.reduceLeDiff, reduceCtorEq]) | (refine AP.drawQ rfl rfl (by kernel_rfl) ?_; simp only [go_sem, Nat.reduceAdd, Nat.reduceLeDiff, reduceCtorEq]) | (refine vq_id ?_; simp only [go_sem, Nat.reduceAdd, Nat.reduceLeDiff, reduceCtorEq]) | (refine ⟨by first | omega | (intros; simp_all; done) | (intros; simp_all; omega), ?_⟩; try simp only [go_sem, Nat.reduceAdd, Nat.reduceLeDiff, reduceCtorEq]))
      refine AQ.appendN (es := 0) (by kernel_rfl) rfl rfl (by rfl) Try.tk56 Try.sz22 (by show Option.map _ (zro Try.prog 22) = _; rw [Try.zr22]; rfl) Try.by22 (by simp only [List.length_cons, List.length_nil]; omega) (by simp only [List.length_cons, List.length_nil]; omega) ?_
      simp only [go_sem, Nat.reduceAdd, Nat.reduceLeDiff, reduceCtorEq]
      repeat (first | refine xPP rfl ?_ | refine xPE rfl ?_ | refine xEP rfl ?_ | refine xEE rfl ?_ | refine AQ.done ?_ | refine AQ.skip (by kernel_rfl) rfl ?_ | refine AQ.s2b (by kernel_rfl) rfl rfl rfl rfl ?_ | refine AQ.mark (by kernel_rfl) rfl rfl rfl rfl rfl rfl rfl ?_ | refine AP.cond_true rfl rfl ?_ | refine AP.cond_false rfl rfl ?_ | (refine AP.region rfl (by kernel_rfl) ?_; simp only [go_sem, Nat.reduceAdd, Nat.reduceLeDiff, reduceCtorEq]) | (refine AP.drawQ rfl rfl (by kernel_rfl) ?_; simp only [go_sem, Nat.reduceAdd, Nat.reduceLeDiff, reduceCtorEq]) | (refine vq_id ?_; simp only [go_sem, Nat.reduceAdd, Nat.reduceLeDiff, reduceCtorEq]) | (refine ⟨by first | omega | (intros; simp_all; done) | (intros; simp_all; omega), ?_⟩; try simp only [go_sem, Nat.reduceAdd, Nat.reduceLeDiff, reduceCtorEq]))
      refine AQ.appendN (es := 0) (by kernel_rfl) rfl rfl (by rfl) Try.tk22 Try.sz3 (by show Option.map _ (zro Try.prog 3) = _; rw [Try.zr3]; rfl) Try.by3 (by simp only [List.length_cons, List.length_nil]; omega) (by simp only [List.length_cons, List.length_nil]; omega) ?_
      simp only [go_sem, Nat.reduceAdd, Nat.reduceLeDiff, reduceCtorEq]
      repeat (first | refine xPP rfl ?_ | refine xPE rfl ?_ | refine xEP rfl ?_ | refine xEE rfl ?_ | refine AQ.done ?_ | refine AQ.skip (by kernel_rfl) rfl ?_ | refine AQ.s2b (by kernel_rfl) rfl rfl rfl rfl ?_ | refine AQ.mark (by kernel_rfl) rfl rfl rfl rfl rfl rfl rfl ?_ | refine AP.cond_true rfl rfl ?_ | refine AP.cond_false rfl rfl ?_ | (refine AP.region rfl (by kernel_rfl) ?_; simp only [go_sem, Nat.reduceAdd, Nat.reduceLeDiff, reduceCtorEq]) | (refine AP.drawQ rfl rfl (by kernel_rfl) ?_; simp only [go_sem, Nat.reduceAdd, Nat.reduceLeDiff, reduceCtorEq]) | (refine vq_id ?_; simp only [go_sem, Nat.reduceAdd, Nat.reduceLeDiff, reduceCtorEq]) | (refine ⟨by first | omega | (intros; simp_all; done) | (intros; simp_all; omega), ?_⟩; try simp only [go_sem, Nat.reduceAdd, Nat.reduceLeDiff, reduceCtorEq]))
      refine AQ.asRow 6 (xs := [.v (.slice none 0 0)]) rfl (by simp) ?_
      simp only [go_sem, Nat.reduceAdd, Nat.reduceLeDiff, reduceCtorEq]
      refine AQ.rstore (by kernel_rfl) rfl rfl rfl rfl (by simp) Try.sz22 ?_
      simp only [go_sem, Nat.reduceAdd, Nat.reduceLeDiff, reduceCtorEq]
      repeat (first | refine xPP rfl ?_ | refine xPE rfl ?_ | refine xEP rfl ?_ | refine xEE rfl ?_ | refine AQ.done ?_ | refine AQ.skip (by kernel_rfl) rfl ?_ | refine AQ.s2b (by kernel_rfl) rfl rfl rfl rfl ?_ | refine AQ.mark (by kernel_rfl) rfl rfl rfl rfl rfl rfl rfl ?_ | refine AP.cond_true rfl rfl ?_ | refine AP.cond_false rfl rfl ?_ | (refine AP.region rfl (by kernel_rfl) ?_; simp only [go_sem, Nat.reduceAdd, Nat.reduceLeDiff, reduceCtorEq, hw]) | (refine AP.drawQ rfl rfl (by kernel_rfl) ?_; simp only [go_sem, Nat.reduceAdd, Nat.reduceLeDiff, reduceCtorEq, hw]) | (refine vq_id ?_; simp only [go_sem, Nat.reduceAdd, Nat.reduceLeDiff, reduceCtorEq, hw]) | (refine ⟨by first | omega | (intros; simp_all; done) | (intros; simp_all; omega), ?_⟩; try simp only [go_sem, Nat.reduceAdd, Nat.reduceLeDiff, reduceCtorEq, hw]))
      refine AE.order [6, 5, 4, 3, 2, 1, 0, 7] rfl ?_
      refine AE.round (i + 1) (by omega) (by omega) ?_ ?_
      · simp only [hnx]
        exact (by repeat (first | exact Sub.nil _ | refine Sub.cons rfl ?_))
      · simp only [hnx]
        rfl
    | cons g G =>
      have hNl : (g :: G).length ≤ 1000000 := by omega
      have hrl : (rowsG (g :: G)).length = (g :: G).length := by simp [rowsG]
      rw [clsE_cons, clsH_cons]
      obtain ⟨N, hN⟩ : ∃ N, (g :: G).length = N := ⟨_, rfl⟩
      have hN0 : 0 < N := by rw [← hN]; simp
      have hkl : (keysG (g :: G)).length = N := by simp [keysG, ← hN]
      obtain ⟨T, hT⟩ : ∃ T, g :: G = T := ⟨_, rfl⟩
      simp only [hT] at *
      rw [hN]
      simp only [go_sem, Nat.reduceAdd, Nat.reduceLeDiff, reduceCtorEq, setsH]
      repeat (first | refine xPP rfl ?_ | refine xPE rfl ?_ | refine xEP rfl ?_ | refine xEE rfl ?_ | refine AQ.done ?_ | refine AQ.skip (by kernel_rfl) rfl ?_ | refine AQ.s2b (by kernel_rfl) rfl rfl rfl rfl ?_ | refine AQ.mark (by kernel_rfl) rfl rfl rfl rfl rfl rfl rfl ?_ | refine AP.cond_true rfl rfl ?_ | refine AP.cond_false rfl rfl ?_ | (refine AP.region rfl (by kernel_rfl) ?_; simp only [go_sem, Nat.reduceAdd, Nat.reduceLeDiff, reduceCtorEq, hlt]) | (refine AP.drawQ rfl rfl (by kernel_rfl) ?_; simp only [go_sem, Nat.reduceAdd, Nat.reduceLeDiff, reduceCtorEq, hlt]) | (refine vq_id ?_; simp only [go_sem, Nat.reduceAdd, Nat.reduceLeDiff, reduceCtorEq, hlt]) | (refine ⟨by first | omega | (intros; simp_all; done) | (intros; simp_all; omega), ?_⟩; try simp only [go_sem, Nat.reduceAdd, Nat.reduceLeDiff, reduceCtorEq, hlt]))
      refine AQ.callF [(4, 4), (3, 3), (2, 2), (1, 1), (0, 0)] (by kernel_rfl) rfl rfl rfl rfl rfl rfl (fun k => by exact ⟨rfl, rfl, rfl, rfl, rfl, trivial⟩) (fun k => rfl) (fun k => rfl) hroot ?_
      simp only [go_sem, Nat.reduceAdd, Nat.reduceLeDiff, reduceCtorEq]
      repeat (first | refine xPP rfl ?_ | refine xPE rfl ?_ | refine xEP rfl ?_ | refine xEE rfl ?_ | refine AQ.done ?_ | refine AQ.skip (by kernel_rfl) rfl ?_ | refine AQ.s2b (by kernel_rfl) rfl rfl rfl rfl ?_ | refine AQ.mark (by kernel_rfl) rfl rfl rfl rfl rfl rfl rfl ?_ | refine AP.cond_true rfl rfl ?_ | refine AP.cond_false rfl rfl ?_ | (refine AP.region rfl (by kernel_rfl) ?_; simp only [go_sem, Nat.reduceAdd, Nat.reduceLeDiff, reduceCtorEq]) | (refine AP.drawQ rfl rfl (by kernel_rfl) ?_; simp only [go_sem, Nat.reduceAdd, Nat.reduceLeDiff, reduceCtorEq]) | (refine vq_id ?_; simp only [go_sem, Nat.reduceAdd, Nat.reduceLeDiff, reduceCtorEq]) | (refine ⟨by first | omega | (intros; simp_all; done) | (intros; simp_all; omega), ?_⟩; try simp only [go_sem, Nat.reduceAdd, Nat.reduceLeDiff, reduceCtorEq]))
      have hkeysOk : KeysOk (.int .i64) (keysG T) := fun v hv => by obtain ⟨p, _, rfl⟩ := List.mem_map.1 hv; rfl
      by_cases hin : (rt i) ∈ T.map Prod.fst
      · obtain ⟨e, he, hee⟩ := List.mem_map.1 hin
        obtain ⟨j, hj⟩ := List.mem_iff_getElem?.1 he
        obtain ⟨r, l⟩ := e
        simp only at hee
        subst hee
        have hjl : j < T.length := (List.getElem?_eq_some_iff.1 hj).1
        rw [hN] at hjl
        have hkj : (keysG T)[j]? = some (.int .i64 (rt i : Nat)) := by rw [keysG, List.getElem?_map, hj]; rfl
        have huq : ∀ j', (keysG T)[j']? = some (.int .i64 (rt i : Nat)) → j' = j := fun j' h' => keysG_uniq T hnd hkj h'
        refine AQ.lookF j (by kernel_rfl) rfl rfl rfl Try.underlying27 Try.underlying3 hkeysOk rfl (List.mem_of_getElem? hkj) huq (valsG_get N j hjl) ?_
        simp only [go_sem, Nat.reduceAdd, Nat.reduceLeDiff, reduceCtorEq]
        repeat (first | refine xPP rfl ?_ | refine xPE rfl ?_ | refine xEP rfl ?_ | refine xEE rfl ?_ | refine AQ.done ?_ | refine AQ.skip (by kernel_rfl) rfl ?_ | refine AQ.s2b (by kernel_rfl) rfl rfl rfl rfl ?_ | refine AQ.mark (by kernel_rfl) rfl rfl rfl rfl rfl rfl rfl ?_ | refine AP.cond_true rfl rfl ?_ | refine AP.cond_false rfl rfl ?_ | (refine AP.region rfl (by kernel_rfl) ?_; simp only [go_sem, Nat.reduceAdd, Nat.reduceLeDiff, reduceCtorEq]) | (refine AP.drawQ rfl rfl (by kernel_rfl) ?_; simp only [go_sem, Nat.reduceAdd, Nat.reduceLeDiff, reduceCtorEq]) | (refine vq_id ?_; simp only [go_sem, Nat.reduceAdd, Nat.reduceLeDiff, reduceCtorEq]) | (refine ⟨by first | omega | (intros; simp_all; done) | (intros; simp_all; omega), ?_⟩; try simp only [go_sem, Nat.reduceAdd, Nat.reduceLeDiff, reduceCtorEq]))
        have hrj : (rowsG T)[j]? = some (l.map fun x => [Ii (x : Nat)]) := by rw [rowsG, List.getElem?_map, hj]; rfl
        have hll : l.length ≤ i := hrow _ (List.mem_of_getElem? hj)
        have hcj := famC_get (es := 1) 7 (rowsG T) j _ hrj
        have hhj : lk (famH 3 1 7 (rowsG T)) (7 + j) = some (.vec 3 1 (l.map fun x => [Ii (x : Nat)])) := by rw [famH_get, hrj]; rfl
        rw [List.length_map] at hcj
        obtain ⟨q, hq⟩ : ∃ q, 7 + j = q := ⟨_, rfl⟩
        have b0 : Nat.beq 0 q = false := beq_lt (by omega)
        have b1 : Nat.beq 1 q = false := beq_lt (by omega)
        have b2 : Nat.beq 2 q = false := beq_lt (by omega)
        have b3 : Nat.beq 3 q = false := beq_lt (by omega)
        have b4 : Nat.beq 4 q = false := beq_lt (by omega)
        have b5 : Nat.beq 5 q = false := beq_lt (by omega)
        have b6 : Nat.beq 6 q = false := beq_lt (by omega)
        refine AQ.rload (by kernel_rfl) rfl rfl (by simpa using hcj) Try.tk22 Try.sz22 ?_
        simp only [go_sem, Nat.reduceAdd, Nat.reduceLeDiff, reduceCtorEq]
        repeat (first | refine xPP rfl ?_ | refine xPE rfl ?_ | refine xEP rfl ?_ | refine xEE rfl ?_ | refine AQ.done ?_ | refine AQ.skip (by kernel_rfl) rfl ?_ | refine AQ.s2b (by kernel_rfl) rfl rfl rfl rfl ?_ | refine AQ.mark (by kernel_rfl) rfl rfl rfl rfl rfl rfl rfl ?_ | refine AP.cond_true rfl rfl ?_ | refine AP.cond_false rfl rfl ?_ | (refine AP.region rfl (by kernel_rfl) ?_; simp only [go_sem, Nat.reduceAdd, Nat.reduceLeDiff, reduceCtorEq]) | (refine AP.drawQ rfl rfl (by kernel_rfl) ?_; simp only [go_sem, Nat.reduceAdd, Nat.reduceLeDiff, reduceCtorEq]) | (refine vq_id ?_; simp only [go_sem, Nat.reduceAdd, Nat.reduceLeDiff, reduceCtorEq]) | (refine ⟨by first | omega | (intros; simp_all; done) | (intros; simp_all; omega), ?_⟩; try simp only [go_sem, Nat.reduceAdd, Nat.reduceLeDiff, reduceCtorEq]))
        refine AQ.kill (7 + j) ?_
        simp only [hq] at hcj hhj ⊢
        simp only [go_sem, Nat.reduceAdd, Nat.reduceLeDiff, reduceCtorEq, b0, b1, b2, b3, b4, b5, b6]
        have k1 : killC q (famC 1 7 (rowsG T)) = (famC 1 7 (rowsG T)).set j .top := by rw [← hq]; exact famC_kill 7 _ j
        have k2 : killC q (valsG N) = valsG N := killC_valsG q _
        have k3 : AV.mens q ((famC 1 7 (rowsG T)).set j .top) = false := by rw [← hq]; exact famC_mens_set 7 _ j
        have k4 : AV.mens q (valsG N) = false := mens_valsG q _
        simp only [k1, k2, famH_kill]
        refine AQ.append (hnb := Nat.ble_eq_true_of_le (show 5 ≤ q by omega)) (es := 0) (rows := l.map fun x => [Ii (x : Nat)]) (by kernel_rfl) rfl rfl (by simp only [lk, b0, b1, b2, b3, b4, b5, b6, cond_false]; exact hhj) (by simp only [noMen, AV.mens, AV.men, k3, k4, b0, b1, b2, b3, b4, famH_noMen]; rfl) Try.tk22 Try.sz3 (by show Option.map _ (zro Try.prog 3) = _; rw [Try.zr3]; rfl) Try.by3 (by simp) (by simp only [List.length_cons, List.length_nil, List.length_map]; omega) (by simp only [List.length_cons, List.length_nil, List.length_map]; omega) ?_
        simp only [go_sem, Nat.reduceAdd, Nat.reduceLeDiff, reduceCtorEq, b0, b1, b2, b3, b4, b5, b6]
        refine ⟨⟨by omega, by omega⟩, ?_⟩
        refine AQ.rstore (by kernel_rfl) rfl rfl rfl rfl (by rw [List.length_set, famC_len, hrl, hN]; exact hjl) Try.sz22 ?_
        simp only [go_sem, Nat.reduceAdd, Nat.reduceLeDiff, reduceCtorEq]
        repeat (first | refine xPP rfl ?_ | refine xPE rfl ?_ | refine xEP rfl ?_ | refine xEE rfl ?_ | refine AQ.done ?_ | refine AQ.skip (by kernel_rfl) rfl ?_ | refine AQ.s2b (by kernel_rfl) rfl rfl rfl rfl ?_ | refine AQ.mark (by kernel_rfl) rfl rfl rfl rfl rfl rfl rfl ?_ | refine AP.cond_true rfl rfl ?_ | refine AP.cond_false rfl rfl ?_ | (refine AP.region rfl (by kernel_rfl) ?_; simp only [go_sem, Nat.reduceAdd, Nat.reduceLeDiff, reduceCtorEq, hw]) | (refine AP.drawQ rfl rfl (by kernel_rfl) ?_; simp only [go_sem, Nat.reduceAdd, Nat.reduceLeDiff, reduceCtorEq, hw]) | (refine vq_id ?_; simp only [go_sem, Nat.reduceAdd, Nat.reduceLeDiff, reduceCtorEq, hw]) | (refine ⟨by first | omega | (intros; simp_all; done) | (intros; simp_all; omega), ?_⟩; try simp only [go_sem, Nat.reduceAdd, Nat.reduceLeDiff, reduceCtorEq, hw]))
        have hT' : addC i (rt i) T = T.set j (rt i, l ++ [i]) := addC_old i (rt i) T j l hnd hj
        have hR' : rowsG (addC i (rt i) T) = (rowsG T).set j ((l.map fun x => [Ii (x : Nat)]) ++ [[Ii (i : Nat)]]) := by rw [hT', rowsG, List.map_set, List.map_append]; rfl
        have hK' : keysG (addC i (rt i) T) = keysG T := by
          rw [hT', keysG, List.map_set]
          obtain ⟨l1, g1⟩ := List.getElem?_eq_some_iff.1 hkj
          rw [show (Value.int .i64 ((rt i, l ++ [i]).1 : Nat)) = (keysG T)[j] from g1.symm]
          exact List.set_getElem_self l1
        have hN' : (addC i (rt i) T).length = N := by rw [hT', List.length_set, hN]
        have hne : (addC i (rt i) T).isEmpty = false := by rw [List.isEmpty_eq_false_iff, ← List.length_pos_iff, hN']; exact hN0
        have hcell : ((famC 1 7 (rowsG T)).set j AV.top).set j (AV.os q 1 0 ((l.map fun x => [Ii (x : Nat)]).length + 1)) = famC 1 7 (rowsG (addC i (rt i) T)) := by
          rw [List.set_set, hR', ← famC_set, ← hq, List.length_append]; rfl
        have hfam : ∀ x, lk (hset (famH 3 1 7 (rowsG T)) q (.vec 3 1 ((l.map fun x => [Ii (x : Nat)]) ++ [[Ii (i : Nat)]]))) x = lk (famH 3 1 7 (rowsG (addC i (rt i) T))) x := fun x => by
          rw [hR', ← hq]; exact famH_set 7 _ j _ (by rw [hrl, hN]; exact hjl) x
        rw [hcell]
        refine AE.hext (clsH a b c lg (addC i (rt i) T)) (fun x => ?_) ?_
        · rw [clsH, hne]
          simp only [cond_false, hK', hN', setsH, List.cons_append, List.nil_append, lk]
          rw [hfam x]
          rfl
        · refine AE.round (i + 1) (by omega) (by omega) ?_ ?_
          · simp only [hnx, clsE, hne, hN']
            exact (by repeat (first | exact Sub.nil _ | refine Sub.cons rfl ?_))
          · simp only [hnx]
      · have hkn : (Value.int .i64 (rt i : Nat)) ∉ keysG T := fun h => by
          obtain ⟨p, hp, he⟩ := List.mem_map.1 h
          simp only [Value.int.injEq, true_and] at he
          exact hin (List.mem_map.2 ⟨p, hp, by omega⟩)
        refine AQ.lookN (by kernel_rfl) rfl rfl rfl Try.underlying27 Try.underlying3 hkeysOk rfl hkn rfl rfl ?_
        simp only [go_sem, Nat.reduceAdd, Nat.reduceLeDiff, reduceCtorEq]
        repeat (first | refine xPP rfl ?_ | refine xPE rfl ?_ | refine xEP rfl ?_ | refine xEE rfl ?_ | refine AQ.done ?_ | refine AQ.skip (by kernel_rfl) rfl ?_ | refine AQ.s2b (by kernel_rfl) rfl rfl rfl rfl ?_ | refine AQ.mark (by kernel_rfl) rfl rfl rfl rfl rfl rfl rfl ?_ | refine AP.cond_true rfl rfl ?_ | refine AP.cond_false rfl rfl ?_ | (refine AP.region rfl (by kernel_rfl) ?_; simp only [go_sem, Nat.reduceAdd, Nat.reduceLeDiff, reduceCtorEq]) | (refine AP.drawQ rfl rfl (by kernel_rfl) ?_; simp only [go_sem, Nat.reduceAdd, Nat.reduceLeDiff, reduceCtorEq]) | (refine vq_id ?_; simp only [go_sem, Nat.reduceAdd, Nat.reduceLeDiff, reduceCtorEq]) | (refine ⟨by first | omega | (intros; simp_all; done) | (intros; simp_all; omega), ?_⟩; try simp only [go_sem, Nat.reduceAdd, Nat.reduceLeDiff, reduceCtorEq]))
        refine AQ.msetN (by kernel_rfl) rfl rfl rfl rfl Try.underlying27 Try.underlying3 hkeysOk rfl hkn ?_
        simp only [go_sem, Nat.reduceAdd, Nat.reduceLeDiff, reduceCtorEq]
        repeat (first | refine xPP rfl ?_ | refine xPE rfl ?_ | refine xEP rfl ?_ | refine xEE rfl ?_ | refine AQ.done ?_ | refine AQ.skip (by kernel_rfl) rfl ?_ | refine AQ.s2b (by kernel_rfl) rfl rfl rfl rfl ?_ | refine AQ.mark (by kernel_rfl) rfl rfl rfl rfl rfl rfl rfl ?_ | refine AP.cond_true rfl rfl ?_ | refine AP.cond_false rfl rfl ?_ | (refine AP.region rfl (by kernel_rfl) ?_; simp only [go_sem, Nat.reduceAdd, Nat.reduceLeDiff, reduceCtorEq]) | (refine AP.drawQ rfl rfl (by kernel_rfl) ?_; simp only [go_sem, Nat.reduceAdd, Nat.reduceLeDiff, reduceCtorEq]) | (refine vq_id ?_; simp only [go_sem, Nat.reduceAdd, Nat.reduceLeDiff, reduceCtorEq]) | (refine ⟨by first | omega | (intros; simp_all; done) | (intros; simp_all; omega), ?_⟩; try simp only [go_sem, Nat.reduceAdd, Nat.reduceLeDiff, reduceCtorEq]))
        have m1 : AV.mens 6 (famC 1 7 (rowsG T)) = false := famC_mens 6 7 _ (.inl (by omega))
        have m2 : AV.mens 6 (valsG N ++ [AV.im (.v (.int .i64 (N : Nat)))]) = false := by rw [← show valsG (N + 1) = _ from valsG_snoc N]; exact mens_valsG 6 _
        have hfl : (famC 1 7 (rowsG T)).length = N := by rw [famC_len, hrl, hN]
        refine AQ.rappend (z := .v (.slice none 0 0)) rfl (by kernel_rfl) rfl rfl rfl (by simp only [noMen, m1, m2, famH_noMen]; rfl) Try.tk56 Try.sz22 (by show Option.map _ (zro Try.prog 22) = _; rw [Try.zr22]; rfl) Try.by22 hfl.symm (by rw [hfl]; omega) (by rw [hfl]; omega) ?_
        simp only [hfl]
        simp only [go_sem, Nat.reduceAdd, Nat.reduceLeDiff, reduceCtorEq]
        repeat (first | refine xPP rfl ?_ | refine xPE rfl ?_ | refine xEP rfl ?_ | refine xEE rfl ?_ | refine AQ.done ?_ | refine AQ.skip (by kernel_rfl) rfl ?_ | refine AQ.s2b (by kernel_rfl) rfl rfl rfl rfl ?_ | refine AQ.mark (by kernel_rfl) rfl rfl rfl rfl rfl rfl rfl ?_ | refine AP.cond_true rfl rfl ?_ | refine AP.cond_false rfl rfl ?_ | (refine AP.region rfl (by kernel_rfl) ?_; simp only [go_sem, Nat.reduceAdd, Nat.reduceLeDiff, reduceCtorEq]) | (refine AP.drawQ rfl rfl (by kernel_rfl) ?_; simp only [go_sem, Nat.reduceAdd, Nat.reduceLeDiff, reduceCtorEq]) | (refine vq_id ?_; simp only [go_sem, Nat.reduceAdd, Nat.reduceLeDiff, reduceCtorEq]) | (refine ⟨by first | omega | (intros; simp_all; done) | (intros; simp_all; omega), ?_⟩; try simp only [go_sem, Nat.reduceAdd, Nat.reduceLeDiff, reduceCtorEq]))
        have hTne : rowsG T ≠ [] := by rw [← List.length_pos_iff, hrl, hN]; exact hN0
        have hnid := famH_nid (el := 3) (es := 1) 7 (rowsG T) hTne
        rw [hrl, hN] at hnid
        have hble : ∀ k, k < 7 → Nat.ble (7 + N) k = false := fun k hk => by
          cases hq : Nat.ble (7 + N) k with
          | false => rfl
          | true => have := Nat.le_of_ble_eq_true hq; omega
        have c0 := hble 0 (by omega)
        have c1 := hble 1 (by omega)
        have c2 := hble 2 (by omega)
        have c3 := hble 3 (by omega)
        have c4 := hble 4 (by omega)
        have c5 := hble 5 (by omega)
        have c6 := hble 6 (by omega)
        have c7 : Nat.ble 5 (7 + N) = true := Nat.ble_eq_true_of_le (by omega)
        refine AQ.rload (y := .im (.v (.slice none 0 0))) (by kernel_rfl) rfl rfl (by rw [List.getElem?_append_right (by omega), hfl, Nat.sub_self]; rfl) Try.tk22 Try.sz22 ?_
        simp only [go_sem, Nat.reduceAdd, Nat.reduceLeDiff, reduceCtorEq]
        repeat (first | refine xPP rfl ?_ | refine xPE rfl ?_ | refine xEP rfl ?_ | refine xEE rfl ?_ | refine AQ.done ?_ | refine AQ.skip (by kernel_rfl) rfl ?_ | refine AQ.s2b (by kernel_rfl) rfl rfl rfl rfl ?_ | refine AQ.mark (by kernel_rfl) rfl rfl rfl rfl rfl rfl rfl ?_ | refine AP.cond_true rfl rfl ?_ | refine AP.cond_false rfl rfl ?_ | (refine AP.region rfl (by kernel_rfl) ?_; simp only [go_sem, Nat.reduceAdd, Nat.reduceLeDiff, reduceCtorEq]) | (refine AP.drawQ rfl rfl (by kernel_rfl) ?_; simp only [go_sem, Nat.reduceAdd, Nat.reduceLeDiff, reduceCtorEq]) | (refine vq_id ?_; simp only [go_sem, Nat.reduceAdd, Nat.reduceLeDiff, reduceCtorEq]) | (refine ⟨by first | omega | (intros; simp_all; done) | (intros; simp_all; omega), ?_⟩; try simp only [go_sem, Nat.reduceAdd, Nat.reduceLeDiff, reduceCtorEq]))
        refine AQ.appendNb (7 + N) (es := 0) ?_ (by kernel_rfl) rfl rfl ?_ Try.tk22 Try.sz3 (by show Option.map _ (zro Try.prog 3) = _; rw [Try.zr3]; rfl) Try.by3 (by simp only [List.length_cons, List.length_nil]; omega) (by simp only [List.length_cons, List.length_nil]; omega) ?_
        · simp only [nidx, nid, hnid, c0, c1, c2, c3, c4, c5, c6, c7, cond_false, cond_true]
        · have m3 : AV.mens (7 + N) (famC 1 7 (rowsG T) ++ [AV.im (.v (.slice none 0 0))]) = false := by rw [mens_app, famC_mens _ _ _ (.inr (by omega))]; rfl
          have m4 : AV.mens (7 + N) (valsG N ++ [AV.im (.v (.int .i64 (N : Nat)))]) = false := by rw [← show valsG (N + 1) = _ from valsG_snoc N]; exact mens_valsG _ _
          simp only [noMen, m3, m4, famH_noMen, AV.mens, AV.men, beq_lt (show 1 < 7 + N by omega), beq_lt (show 2 < 7 + N by omega), beq_lt (show 3 < 7 + N by omega), beq_lt (show 4 < 7 + N by omega)]
          rfl
        obtain ⟨q, hq⟩ : ∃ q, 7 + N = q := ⟨_, rfl⟩
        have b0 : Nat.beq 0 q = false := beq_lt (by omega)
        have b1 : Nat.beq 1 q = false := beq_lt (by omega)
        have b2 : Nat.beq 2 q = false := beq_lt (by omega)
        have b3 : Nat.beq 3 q = false := beq_lt (by omega)
        have b4 : Nat.beq 4 q = false := beq_lt (by omega)
        have b5 : Nat.beq 5 q = false := beq_lt (by omega)
        have b6 : Nat.beq 6 q = false := beq_lt (by omega)
        have d6 : Nat.beq q 6 = false := beq_gt (by omega)
        rw [hq]
        simp only [go_sem, Nat.reduceAdd, Nat.reduceLeDiff, reduceCtorEq, b0, b1, b2, b3, b4, b5, b6]
        refine ⟨⟨by omega, by omega⟩, ?_⟩
        refine AQ.rstore (e := 22) (cs := famC 1 7 (rowsG T) ++ [AV.im (.v (.slice none 0 0))]) (by kernel_rfl) rfl rfl rfl (by simp only [lk, d6, cond_false, Nat.beq_refl, cond_true]) (by rw [List.length_append, hfl]; simp) Try.sz22 ?_
        simp only [go_sem, Nat.reduceAdd, Nat.reduceLeDiff, reduceCtorEq, d6]
        repeat (first | refine xPP rfl ?_ | refine xPE rfl ?_ | refine xEP rfl ?_ | refine xEE rfl ?_ | refine AQ.done ?_ | refine AQ.skip (by kernel_rfl) rfl ?_ | refine AQ.s2b (by kernel_rfl) rfl rfl rfl rfl ?_ | refine AQ.mark (by kernel_rfl) rfl rfl rfl rfl rfl rfl rfl ?_ | refine AP.cond_true rfl rfl ?_ | refine AP.cond_false rfl rfl ?_ | (refine AP.region rfl (by kernel_rfl) ?_; simp only [go_sem, Nat.reduceAdd, Nat.reduceLeDiff, reduceCtorEq, hw]) | (refine AP.drawQ rfl rfl (by kernel_rfl) ?_; simp only [go_sem, Nat.reduceAdd, Nat.reduceLeDiff, reduceCtorEq, hw]) | (refine vq_id ?_; simp only [go_sem, Nat.reduceAdd, Nat.reduceLeDiff, reduceCtorEq, hw]) | (refine ⟨by first | omega | (intros; simp_all; done) | (intros; simp_all; omega), ?_⟩; try simp only [go_sem, Nat.reduceAdd, Nat.reduceLeDiff, reduceCtorEq, hw]))
        have hT' : addC i (rt i) T = T ++ [(rt i, [i])] := addC_new i (rt i) T hin
        have hR' : rowsG (addC i (rt i) T) = rowsG T ++ [[[Ii (i : Nat)]]] := by rw [hT', rowsG, List.map_append]; rfl
        have hK' : keysG (addC i (rt i) T) = keysG T ++ [Value.int .i64 (rt i : Nat)] := by rw [hT', keysG, List.map_append]; rfl
        have hN' : (addC i (rt i) T).length = N + 1 := by rw [hT', List.length_append, hN]; rfl
        have hne : (addC i (rt i) T).isEmpty = false := by rw [List.isEmpty_eq_false_iff, ← List.length_pos_iff, hN']; omega
        have hcell : (famC 1 7 (rowsG T) ++ [AV.im (.v (.slice none 0 0))]).set N (AV.os q 1 0 1) = famC 1 7 (rowsG (addC i (rt i) T)) := by
          rw [hR', famC_snoc, List.set_append, if_neg (by rw [hfl]; omega), hfl, Nat.sub_self, hrl, hN, hq]; rfl
        have hfam : ∀ x, Nat.beq q x = false → lk (famH 3 1 7 (rowsG T)) x = lk (famH 3 1 7 (rowsG (addC i (rt i) T))) x := fun x hx => by
          rw [hR', famH_snoc, lk_app_ne _ _ _ (by rw [hrl, hN, hq]; exact hx)]
        have hfq : lk (famH 3 1 7 (rowsG (addC i (rt i) T))) q = some (.vec 3 1 [[Ii (i : Nat)]]) := by
          rw [← hq, famH_get, hR', List.getElem?_append_right (by rw [hrl, hN]; omega), hrl, hN, Nat.sub_self]; rfl
        rw [hcell]
        refine AE.hext (clsH a b c lg (addC i (rt i) T)) (fun x => ?_) ?_
        · rw [clsH, hne]
          simp only [cond_false, hK', hN', valsG_snoc, setsH, List.cons_append, List.nil_append, lk]
          cases hx : Nat.beq q x with
          | true =>
            have := Nat.eq_of_beq_eq_true hx
            subst this
            simp only [cond_true, b0, b1, b2, b3, b4, b5, b6, cond_false, hfq]
          | false =>
            simp only [cond_false, hfam x hx]
            rfl
        · refine AE.round (i + 1) (by omega) (by omega) ?_ ?_
          · simp only [hnx, clsE, hne, hN']
            exact (by repeat (first | exact Sub.nil _ | refine Sub.cons rfl ?_))
          · simp only [hnx]
  · have hke : i = a.length := by omega
    have hge : decide ((i : Int) < (a.length : Int)) = false := decide_eq_false (by omega)
    cases G with
    | nil =>
      rw [clsE_nil, clsH_nil]
      simp only [go_sem, Nat.reduceAdd, Nat.reduceLeDiff, reduceCtorEq, setsH]
      repeat (first | refine xPP rfl ?_ | refine xPE rfl ?_ | refine xEP rfl ?_ | refine xEE rfl ?_ | refine AQ.done ?_ | refine AQ.skip (by kernel_rfl) rfl ?_ | refine AQ.s2b (by kernel_rfl) rfl rfl rfl rfl ?_ | refine AQ.mark (by kernel_rfl) rfl rfl rfl rfl rfl rfl rfl ?_ | refine AP.cond_true rfl rfl ?_ | refine AP.cond_false rfl rfl ?_ | (refine AP.region rfl (by kernel_rfl) ?_; simp only [go_sem, Nat.reduceAdd, Nat.reduceLeDiff, reduceCtorEq, hge]) | (refine AP.drawQ rfl rfl (by kernel_rfl) ?_; simp only [go_sem, Nat.reduceAdd, Nat.reduceLeDiff, reduceCtorEq, hge]) | (refine vq_id ?_; simp only [go_sem, Nat.reduceAdd, Nat.reduceLeDiff, reduceCtorEq, hge]) | (refine ⟨by first | omega | (intros; simp_all; done) | (intros; simp_all; omega), ?_⟩; try simp only [go_sem, Nat.reduceAdd, Nat.reduceLeDiff, reduceCtorEq, hge]))
      refine AE.nilsl 2 1 rfl ?_
      refine AE.retD [5] rfl ⟨rfl, trivial⟩ rfl ⟨rfl, ?_⟩
      rw [← hke, hG]; rfl
    | cons g G =>
      have hNl : (g :: G).length ≤ 1000000 := by omega
      have hrl : (rowsG (g :: G)).length = (g :: G).length := by simp [rowsG]
      rw [clsE_cons, clsH_cons]
      obtain ⟨N, hN⟩ : ∃ N, (g :: G).length = N := ⟨_, rfl⟩
      have hN0 : 0 < N := by rw [← hN]; simp
      obtain ⟨T, hT⟩ : ∃ T, g :: G = T := ⟨_, rfl⟩
      simp only [hT] at *
      rw [hN]
      simp only [go_sem, Nat.reduceAdd, Nat.reduceLeDiff, reduceCtorEq, setsH]
      repeat (first | refine xPP rfl ?_ | refine xPE rfl ?_ | refine xEP rfl ?_ | refine xEE rfl ?_ | refine AQ.done ?_ | refine AQ.skip (by kernel_rfl) rfl ?_ | refine AQ.s2b (by kernel_rfl) rfl rfl rfl rfl ?_ | refine AQ.mark (by kernel_rfl) rfl rfl rfl rfl rfl rfl rfl ?_ | refine AP.cond_true rfl rfl ?_ | refine AP.cond_false rfl rfl ?_ | (refine AP.region rfl (by kernel_rfl) ?_; simp only [go_sem, Nat.reduceAdd, Nat.reduceLeDiff, reduceCtorEq, hge]) | (refine AP.drawQ rfl rfl (by kernel_rfl) ?_; simp only [go_sem, Nat.reduceAdd, Nat.reduceLeDiff, reduceCtorEq, hge]) | (refine vq_id ?_; simp only [go_sem, Nat.reduceAdd, Nat.reduceLeDiff, reduceCtorEq, hge]) | (refine ⟨by first | omega | (intros; simp_all; done) | (intros; simp_all; omega), ?_⟩; try simp only [go_sem, Nat.reduceAdd, Nat.reduceLeDiff, reduceCtorEq, hge]))
      refine AE.weaken (E' := [(2, AV.os 6 1 0 N)]) ?_ (by repeat (first | exact Sub.nil _ | refine Sub.cons rfl ?_))
      refine AE.hext ((6, .var (.row 22) (([] : List IV).map .im ++ famC 1 7 (rowsG T))) :: ([(5, Ob.var (Sh.map (keysG T)) (valsG N)), (4, Ob.vec 121 4 lg), (3, Ob.vec 3 1 (intR c)), (2, Ob.vec 3 1 (intR b)), (1, Ob.vec 3 1 (intR a)), (0, Ob.var (Sh.cell 117) [AV.os 1 1 0 a.length, AV.os 2 1 0 b.length, AV.os 3 1 0 c.length, AV.os 4 4 0 lg.length])] ++ famH 3 1 7 (rowsG T))) (fun x => rfl) ?_
      refine AE.fzFam (el := 3) (es := 1) 6 (e := 22) [(5, Ob.var (Sh.map (keysG T)) (valsG N)), (4, Ob.vec 121 4 lg), (3, Ob.vec 3 1 (intR c)), (2, Ob.vec 3 1 (intR b)), (1, Ob.vec 3 1 (intR a)), (0, Ob.var (Sh.cell 117) [AV.os 1 1 0 a.length, AV.os 2 1 0 b.length, AV.os 3 1 0 c.length, AV.os 4 4 0 lg.length])] (rowsG T) 7 [] (by omega) (fun b hb => ?_) ?_
      · have m4 : AV.mens b (valsG N) = false := mens_valsG _ _
        refine ⟨?_, ?_, ?_⟩
        · simp only [noMen, m4, AV.mens, AV.men, beq_lt (show 1 < b by omega), beq_lt (show 2 < b by omega), beq_lt (show 3 < b by omega), beq_lt (show 4 < b by omega)]
          rfl
        · simp only [menE, AV.men, beq_lt (show 6 < b by omega)]
          rfl
        · simp only [lk, beq_lt (show 0 < b by omega), beq_lt (show 1 < b by omega), beq_lt (show 2 < b by omega), beq_lt (show 3 < b by omega), beq_lt (show 4 < b by omega), beq_lt (show 5 < b by omega), cond_false]
      · refine AE.unRow 6 (e := 22) (xs := (rowsG T).map (IV.sl 1)) rfl ?_
        simp only [go_sem, Nat.reduceAdd, Nat.reduceLeDiff, reduceCtorEq, List.map_map, List.nil_append]
        have hrr : ((rowsG T).map ((fun x => [x]) ∘ IV.sl 1)).length = N := by rw [List.length_map, hrl, hN]
        have m5 : frzs 6 1 ((rowsG T).map ((fun x => [x]) ∘ IV.sl 1)) (valsG N) = valsG N := (frzs_men (es := 1) (rows := (rowsG T).map ((fun x => [x]) ∘ IV.sl 1)) _ (mens_valsG 6 _)).1
        refine AE.freeze 6 (el := 22) (es := 1) (rows := (rowsG T).map ((fun x => [x]) ∘ IV.sl 1)) rfl ⟨(frzs_men (es := 1) _ (mens_valsG 6 _)).2, ⟨trivial, trivial, trivial, trivial, trivial⟩, trivial⟩ ⟨by show 0 + N ≤ _; rw [hrr]; omega, trivial⟩ ?_
        simp only [frzE, frzH, m5]
        simp only [go_sem, Nat.reduceAdd, Nat.reduceLeDiff, reduceCtorEq]
        refine AE.retD [5] rfl ⟨rfl, trivial⟩ rfl ⟨rfl, ?_⟩
        rw [← hke, hG, List.take_of_length_le (Nat.le_of_eq hrr)]
        simp only [Clv, rowsG, List.map_map]
        rfl
end Go.Proofs.Ytfgffpkdjmeaoaa
end

section
namespace Go.Proofs.Ytfgffpkdjmeaoaa
open Go Go.AL Go.RowKit
set_option maxRecDepth 10000
set_option maxHeartbeats 4000000
theorem intR_set (l : List Int) (k : Nat) (v : Int) : (intR l).set k [Ii v] = intR (l.set k v) := by
  simp [intR, List.map_set]
theorem intR_set1 (l : List Int) (k : Nat) (v : Int) (h : k < l.length) : (intR l).set k (IV.v (Value.int .i64 v) :: List.drop 1 ((intR l).getD k [])) = intR (l.set k v) := by
  rw [intR_get l k h, ← intR_set]; rfl
theorem min_if (x y : Int) : (if y < x then y else x) = min x y := by omega
def setsHi (i : Nat) (a b c : List Int) (lg : List (List IV)) : Heap := [(i, .vec 121 4 lg), (3, .vec 3 1 (intR c)), (2, .vec 3 1 (intR b)), (1, .vec 3 1 (intR a)), (0, .var 117 [.os 1 1 0 a.length, .os 2 1 0 b.length, .os 3 1 0 c.length, .os i 4 0 lg.length])]
theorem union_ok (a b c : List Int) (lg : List (List IV)) (x y n n' r s u w : Nat) (hx : Root a n x r) (hy : Root a n' y s) (hne : r ≠ s)
    (hs : (swapB b r s = true ∧ u = s ∧ w = r) ∨ (swapB b r s = false ∧ u = r ∧ w = s)) (hb : b.length = a.length) (hc : c.length = a.length) (hl : a.length ≤ 1000000) (hlg : lg.length ≤ 1000000)
    (hbs : ∀ i, 0 ≤ b.getD i 0 ∧ b.getD i 0 ≤ 1000000) :
    ACall Try.prog 28 [.ob 0 0, Iv x, Iv y] (setsH a b c lg) (fun r' H' => H' = setsHi 5 (a.set w u) (b.set u (b.getD u 0 + b.getD w 0)) (c.set u (min (c.getD u 0) (c.getD w 0))) (lg ++ [logRow b c u w]) ∧ r' = .tup [Bv true, Iv 0]) := by
  have hlx := hx.lt
  have hly := hy.lt
  have hre := hx.end'
  have hse := hy.end'
  have hh := has_spec a b c lg x (by omega)
  have hh2 := has_spec a b c lg y (by omega)
  have hr1 := root_spec a b c lg n x r hx (by omega)
  have hr2 := root_spec a b c lg n' y s hy (by omega)
  rw [show (decide (0 ≤ (x : Int)) && decide ((x : Int) < (a.length : Int))) = true by simp; omega] at hh
  rw [show (decide (0 ≤ (y : Int)) && decide ((y : Int) < (a.length : Int))) = true by simp; omega] at hh2
  have g1 := intR_get b r (by omega)
  have g2 := intR_get b s (by omega)
  have g3 := intR_get c r (by omega)
  have g4 := intR_get c s (by omega)
  refine ACall.walk [0, 1, 2, 6, 7, 8, 11, 30, 45] [] Try.func28 rfl Try.ntmps28 (by kernel_rfl) (by rfl) rfl fun W own I0 φ0 => ?_
  simp only [go_sem, Nat.reduceAdd, Nat.reduceLeDiff, reduceCtorEq, setsH, setsHi] at *
  repeat (first | refine xPP rfl ?_ | refine xPE rfl ?_ | refine xEP rfl ?_ | refine xEE rfl ?_ | refine AQ.done ?_ | refine AQ.skip (by kernel_rfl) rfl ?_ | refine AQ.s2b (by kernel_rfl) rfl rfl rfl rfl ?_ | refine AQ.mark (by kernel_rfl) rfl rfl rfl rfl rfl rfl rfl ?_ | refine AP.cond_true rfl rfl ?_ | refine AP.cond_false rfl rfl ?_ | (refine AP.region rfl (by kernel_rfl) ?_; simp only [go_sem, Nat.reduceAdd, Nat.reduceLeDiff, reduceCtorEq]) | (refine AP.drawQ rfl rfl (by kernel_rfl) ?_; simp only [go_sem, Nat.reduceAdd, Nat.reduceLeDiff, reduceCtorEq]) | (refine vq_id ?_; simp only [go_sem, Nat.reduceAdd, Nat.reduceLeDiff, reduceCtorEq]) | (refine ⟨by first | omega | (intros; simp_all; done) | (intros; simp_all; omega), ?_⟩; try simp only [go_sem, Nat.reduceAdd, Nat.reduceLeDiff, reduceCtorEq]))
  refine AQ.callI (by kernel_rfl) rfl rfl rfl (hh) ?_
  repeat (first | refine xPP rfl ?_ | refine xPE rfl ?_ | refine xEP rfl ?_ | refine xEE rfl ?_ | refine AQ.done ?_ | refine AQ.skip (by kernel_rfl) rfl ?_ | refine AQ.s2b (by kernel_rfl) rfl rfl rfl rfl ?_ | refine AQ.mark (by kernel_rfl) rfl rfl rfl rfl rfl rfl rfl ?_ | refine AP.cond_true rfl rfl ?_ | refine AP.cond_false rfl rfl ?_ | (refine AP.region rfl (by kernel_rfl) ?_; simp only [go_sem, Nat.reduceAdd, Nat.reduceLeDiff, reduceCtorEq]) | (refine AP.drawQ rfl rfl (by kernel_rfl) ?_; simp only [go_sem, Nat.reduceAdd, Nat.reduceLeDiff, reduceCtorEq]) | (refine vq_id ?_; simp only [go_sem, Nat.reduceAdd, Nat.reduceLeDiff, reduceCtorEq]) | (refine ⟨by first | omega | (intros; simp_all; done) | (intros; simp_all; omega), ?_⟩; try simp only [go_sem, Nat.reduceAdd, Nat.reduceLeDiff, reduceCtorEq]))
  refine AQ.callI_g (by kernel_rfl) rfl rfl rfl (fun h => by first | (simp [gs, AV.g]; done) | (simp [gs, AV.g, constAV]; done) | (simp [gs, AV.g, constAV, bw] at h ⊢; done) | (simp [bw] at h; done) | (simp [gs, AV.g, bw] at h ⊢; simp [h]; done) | (simp [gs, AV.g, bw] at h ⊢; exact h.1) | (simp [gs, AV.g]; rfl) | (simp [gs, AV.g, bw] at h ⊢; rfl) | (simp [gs, AV.g, bw] at h ⊢; simp [h]; rfl) | (simp [gs, AV.g, bw] at h ⊢; simp_all)) (fun _ => hh2) ?_
  simp only [go_sem, Nat.reduceAdd, Nat.reduceLeDiff, reduceCtorEq]
  repeat (first | refine xPP rfl ?_ | refine xPE rfl ?_ | refine xEP rfl ?_ | refine xEE rfl ?_ | refine AQ.done ?_ | refine AQ.skip (by kernel_rfl) rfl ?_ | refine AQ.s2b (by kernel_rfl) rfl rfl rfl rfl ?_ | refine AQ.mark (by kernel_rfl) rfl rfl rfl rfl rfl rfl rfl ?_ | refine AP.cond_true rfl rfl ?_ | refine AP.cond_false rfl rfl ?_ | (refine AP.region rfl (by kernel_rfl) ?_; simp only [go_sem, Nat.reduceAdd, Nat.reduceLeDiff, reduceCtorEq]) | (refine AP.drawQ rfl rfl (by kernel_rfl) ?_; simp only [go_sem, Nat.reduceAdd, Nat.reduceLeDiff, reduceCtorEq]) | (refine vq_id ?_; simp only [go_sem, Nat.reduceAdd, Nat.reduceLeDiff, reduceCtorEq]) | (refine ⟨by first | omega | (intros; simp_all; done) | (intros; simp_all; omega), ?_⟩; try simp only [go_sem, Nat.reduceAdd, Nat.reduceLeDiff, reduceCtorEq]))
  refine AQ.callI (by kernel_rfl) rfl rfl rfl (hr1) ?_
  repeat (first | refine xPP rfl ?_ | refine xPE rfl ?_ | refine xEP rfl ?_ | refine xEE rfl ?_ | refine AQ.done ?_ | refine AQ.skip (by kernel_rfl) rfl ?_ | refine AQ.s2b (by kernel_rfl) rfl rfl rfl rfl ?_ | refine AQ.mark (by kernel_rfl) rfl rfl rfl rfl rfl rfl rfl ?_ | refine AP.cond_true rfl rfl ?_ | refine AP.cond_false rfl rfl ?_ | (refine AP.region rfl (by kernel_rfl) ?_; simp only [go_sem, Nat.reduceAdd, Nat.reduceLeDiff, reduceCtorEq]) | (refine AP.drawQ rfl rfl (by kernel_rfl) ?_; simp only [go_sem, Nat.reduceAdd, Nat.reduceLeDiff, reduceCtorEq]) | (refine vq_id ?_; simp only [go_sem, Nat.reduceAdd, Nat.reduceLeDiff, reduceCtorEq]) | (refine ⟨by first | omega | (intros; simp_all; done) | (intros; simp_all; omega), ?_⟩; try simp only [go_sem, Nat.reduceAdd, Nat.reduceLeDiff, reduceCtorEq]))
  refine AQ.callI (by kernel_rfl) rfl rfl rfl (hr2) ?_
  repeat (first | refine xPP rfl ?_ | refine xPE rfl ?_ | refine xEP rfl ?_ | refine xEE rfl ?_ | refine AQ.done ?_ | refine AQ.skip (by kernel_rfl) rfl ?_ | refine AQ.s2b (by kernel_rfl) rfl rfl rfl rfl ?_ | refine AQ.mark (by kernel_rfl) rfl rfl rfl rfl rfl rfl rfl ?_ | refine AP.cond_true rfl rfl ?_ | refine AP.cond_false rfl rfl ?_ | (refine AP.region rfl (by kernel_rfl) ?_; simp only [go_sem, Nat.reduceAdd, Nat.reduceLeDiff, reduceCtorEq]) | (refine AP.drawQ rfl rfl (by kernel_rfl) ?_; simp only [go_sem, Nat.reduceAdd, Nat.reduceLeDiff, reduceCtorEq]) | (refine vq_id ?_; simp only [go_sem, Nat.reduceAdd, Nat.reduceLeDiff, reduceCtorEq]) | (refine ⟨by first | omega | (intros; simp_all; done) | (intros; simp_all; omega), ?_⟩; try simp only [go_sem, Nat.reduceAdd, Nat.reduceLeDiff, reduceCtorEq]))
  refine AP.cond_false rfl (by simp only [go_sem, Nat.reduceAdd, Nat.reduceLeDiff, reduceCtorEq]; refine congrArg (fun b => some (AV.im (IV.v (Value.bool b)))) ?_; (first | (simp only [Bool.or_eq_true, Bool.and_eq_true, Bool.not_eq_true', Bool.not_eq_false', Bool.and_eq_false_iff, Bool.or_eq_false_iff, decide_eq_true_eq, decide_eq_false_iff_not, beq_iff_eq, bne_iff_ne, beq_eq_false_iff_ne, bne_eq_false_iff_eq, ne_eq]; omega) | (simp; done) | (simp; omega) | (simp_all; done) | (simp_all; omega))) ?_
  repeat (first | refine xPP rfl ?_ | refine xPE rfl ?_ | refine xEP rfl ?_ | refine xEE rfl ?_ | refine AQ.done ?_ | refine AQ.skip (by kernel_rfl) rfl ?_ | refine AQ.s2b (by kernel_rfl) rfl rfl rfl rfl ?_ | refine AQ.mark (by kernel_rfl) rfl rfl rfl rfl rfl rfl rfl ?_ | refine AP.cond_true rfl rfl ?_ | refine AP.cond_false rfl rfl ?_ | (refine AP.region rfl (by kernel_rfl) ?_; simp only [go_sem, Nat.reduceAdd, Nat.reduceLeDiff, reduceCtorEq, g1, g2]) | (refine AP.drawQ rfl rfl (by kernel_rfl) ?_; simp only [go_sem, Nat.reduceAdd, Nat.reduceLeDiff, reduceCtorEq, g1, g2]) | (refine vq_id ?_; simp only [go_sem, Nat.reduceAdd, Nat.reduceLeDiff, reduceCtorEq, g1, g2]) | (refine ⟨by first | omega | (intros; simp_all; done) | (intros; simp_all; omega), ?_⟩; try simp only [go_sem, Nat.reduceAdd, Nat.reduceLeDiff, reduceCtorEq, g1, g2]))
  refine AP.cond rfl rfl (fun hd => ?_) (fun hd => ?_)
  · have e := hs.resolve_right (fun h => by rw [swapB, hd] at h; cases h.1)
    obtain ⟨_, e1, e2⟩ := e
    subst e1; subst e2
    have hw := wr (x := b.getD u 0 + b.getD w 0) (by have := hbs u; have := hbs w; omega)
    repeat (first | refine xPP rfl ?_ | refine xPE rfl ?_ | refine xEP rfl ?_ | refine xEE rfl ?_ | refine AQ.done ?_ | refine AQ.skip (by kernel_rfl) rfl ?_ | refine AQ.s2b (by kernel_rfl) rfl rfl rfl rfl ?_ | refine AQ.mark (by kernel_rfl) rfl rfl rfl rfl rfl rfl rfl ?_ | refine AP.cond_true rfl rfl ?_ | refine AP.cond_false rfl rfl ?_ | (refine AP.region rfl (by kernel_rfl) ?_; simp only [go_sem, Nat.reduceAdd, Nat.reduceLeDiff, reduceCtorEq]) | (refine AP.drawQ rfl rfl (by kernel_rfl) ?_; simp only [go_sem, Nat.reduceAdd, Nat.reduceLeDiff, reduceCtorEq]) | (refine vq_id ?_; simp only [go_sem, Nat.reduceAdd, Nat.reduceLeDiff, reduceCtorEq]) | (refine ⟨by first | omega | (intros; simp_all; done) | (intros; simp_all; omega), ?_⟩; try simp only [go_sem, Nat.reduceAdd, Nat.reduceLeDiff, reduceCtorEq]))
    refine AP.drawE 27 (Tree.node [] [0, 1, 2, 3, 4, 5, 6, 7, 8, 9, 10, 11, 12, 13, 14, 15, 16, 17, 18, 19, 20, 21] [22] [Tree.node [0, 1, 2, 3, 4] [] [23] [Tree.node [0] [24, 25] [26] [Tree.node [] [] [] []]]]) (by kernel_rfl) rfl (by kernel_rfl) (by kernel_rfl) ?_
    refine vd_node ?_
    simp only [go_sem, Nat.reduceAdd, Nat.reduceLeDiff, reduceCtorEq, g1, g2, g3, g4]
    repeat (with_reducible refine And.intro (by omega) ?_)
    refine AQ.go (by kernel_rfl) ?_
    simp only [go_sem, Nat.reduceAdd, Nat.reduceLeDiff, reduceCtorEq]
    refine AQ.nx rfl ?_
    simp only [go_sem, Nat.reduceAdd, Nat.reduceLeDiff, reduceCtorEq]
    refine AQ.rename 4 5 rfl rfl rfl ?_; simp only [go_sem, Nat.reduceAdd, Nat.reduceLeDiff, reduceCtorEq]
    refine AQ.kill 5 ?_; simp only [go_sem, Nat.reduceAdd, Nat.reduceLeDiff, reduceCtorEq]
    refine AQ.append (hnb := rfl) (rows := lg) (es := 3) (by kernel_rfl) rfl rfl rfl (by rfl) Try.tk115 Try.sz121 (by show Option.map _ (zro Try.prog 121) = _; rw [Try.zr121]; rfl) Try.by121 rfl (by simp only [List.length_cons, List.length_nil]; omega) (by simp only [List.length_cons, List.length_nil]; omega) ?_
    simp only [go_sem, Nat.reduceAdd, Nat.reduceLeDiff, reduceCtorEq]
    refine AQ.nx rfl ?_
    simp only [go_sem, Nat.reduceAdd, Nat.reduceLeDiff, reduceCtorEq]
    refine AQ.go (by kernel_rfl) ?_
    simp only [go_sem, Nat.reduceAdd, Nat.reduceLeDiff, reduceCtorEq]
    refine AQ.nx rfl ?_
    simp only [go_sem, Nat.reduceAdd, Nat.reduceLeDiff, reduceCtorEq]
    repeat (first | refine xPP rfl ?_ | refine xPE rfl ?_ | refine xEP rfl ?_ | refine xEE rfl ?_ | refine AQ.done ?_ | refine AQ.skip (by kernel_rfl) rfl ?_ | refine AQ.s2b (by kernel_rfl) rfl rfl rfl rfl ?_ | refine AQ.mark (by kernel_rfl) rfl rfl rfl rfl rfl rfl rfl ?_ | refine AP.cond_true rfl rfl ?_ | refine AP.cond_false rfl rfl ?_ | (refine AP.region rfl (by kernel_rfl) ?_; simp only [go_sem, Nat.reduceAdd, Nat.reduceLeDiff, reduceCtorEq]) | (refine AP.drawQ rfl rfl (by kernel_rfl) ?_; simp only [go_sem, Nat.reduceAdd, Nat.reduceLeDiff, reduceCtorEq]) | (refine vq_id ?_; simp only [go_sem, Nat.reduceAdd, Nat.reduceLeDiff, reduceCtorEq]) | (refine ⟨by first | omega | (intros; simp_all; done) | (intros; simp_all; omega), ?_⟩; try simp only [go_sem, Nat.reduceAdd, Nat.reduceLeDiff, reduceCtorEq]))
    refine AP.drawE 44 (Tree.node [] [0, 1, 2, 3, 4, 5, 6, 7, 8, 9, 10, 11, 12, 13, 14, 15, 16, 17, 18, 19, 20, 21, 22, 23, 24, 25, 26, 27, 28, 29, 30, 31, 32, 33, 34, 35, 36, 37, 38, 39, 40] [41] [Tree.node [9, 39] [42] [43] [Tree.node [] [] [] []]]) (by kernel_rfl) rfl (by kernel_rfl) (by kernel_rfl) ?_
    refine vd_node ?_
    simp only [go_sem, Nat.reduceAdd, Nat.reduceLeDiff, reduceCtorEq, g1, g2, g3, g4, hw]
    repeat (with_reducible refine And.intro (by omega) ?_)
    refine AQ.go (by kernel_rfl) ?_
    simp only [go_sem, Nat.reduceAdd, Nat.reduceLeDiff, reduceCtorEq]
    repeat (with_reducible refine And.intro (by omega) ?_)
    refine AQ.nx rfl ?_
    simp only [go_sem, Nat.reduceAdd, Nat.reduceLeDiff, reduceCtorEq]
    repeat (with_reducible refine And.intro (by omega) ?_)
    refine AQ.go (by kernel_rfl) ?_
    simp only [go_sem, Nat.reduceAdd, Nat.reduceLeDiff, reduceCtorEq]
    repeat (with_reducible refine And.intro (by omega) ?_)
    refine AQ.nx rfl ?_
    simp only [go_sem, Nat.reduceAdd, Nat.reduceLeDiff, reduceCtorEq]
    repeat (first | refine xPP rfl ?_ | refine xPE rfl ?_ | refine xEP rfl ?_ | refine xEE rfl ?_ | refine AQ.done ?_ | refine AQ.skip (by kernel_rfl) rfl ?_ | refine AQ.s2b (by kernel_rfl) rfl rfl rfl rfl ?_ | refine AQ.mark (by kernel_rfl) rfl rfl rfl rfl rfl rfl rfl ?_ | refine AP.cond_true rfl rfl ?_ | refine AP.cond_false rfl rfl ?_ | (refine AP.region rfl (by kernel_rfl) ?_; simp only [go_sem, Nat.reduceAdd, Nat.reduceLeDiff, reduceCtorEq]) | (refine AP.drawQ rfl rfl (by kernel_rfl) ?_; simp only [go_sem, Nat.reduceAdd, Nat.reduceLeDiff, reduceCtorEq]) | (refine vq_id ?_; simp only [go_sem, Nat.reduceAdd, Nat.reduceLeDiff, reduceCtorEq]) | (refine ⟨by first | omega | (intros; simp_all; done) | (intros; simp_all; omega), ?_⟩; try simp only [go_sem, Nat.reduceAdd, Nat.reduceLeDiff, reduceCtorEq]))
    refine AE.ret rfl ⟨rfl, rfl, trivial⟩ ⟨?_, rfl⟩
    rw [intR_set1 a w u (by omega), intR_set1 b u _ (by omega), intR_set1 c u _ (by omega), min_if]
    simp only [List.length_set, List.length_append, List.length_cons, List.length_nil]
    rfl
  · have e := hs.resolve_left (fun h => by rw [swapB, hd] at h; cases h.1)
    obtain ⟨_, e1, e2⟩ := e
    subst e1; subst e2
    have hw := wr (x := b.getD u 0 + b.getD w 0) (by have := hbs u; have := hbs w; omega)
    repeat (first | refine xPP rfl ?_ | refine xPE rfl ?_ | refine xEP rfl ?_ | refine xEE rfl ?_ | refine AQ.done ?_ | refine AQ.skip (by kernel_rfl) rfl ?_ | refine AQ.s2b (by kernel_rfl) rfl rfl rfl rfl ?_ | refine AQ.mark (by kernel_rfl) rfl rfl rfl rfl rfl rfl rfl ?_ | refine AP.cond_true rfl rfl ?_ | refine AP.cond_false rfl rfl ?_ | (refine AP.region rfl (by kernel_rfl) ?_; simp only [go_sem, Nat.reduceAdd, Nat.reduceLeDiff, reduceCtorEq]) | (refine AP.drawQ rfl rfl (by kernel_rfl) ?_; simp only [go_sem, Nat.reduceAdd, Nat.reduceLeDiff, reduceCtorEq]) | (refine vq_id ?_; simp only [go_sem, Nat.reduceAdd, Nat.reduceLeDiff, reduceCtorEq]) | (refine ⟨by first | omega | (intros; simp_all; done) | (intros; simp_all; omega), ?_⟩; try simp only [go_sem, Nat.reduceAdd, Nat.reduceLeDiff, reduceCtorEq]))
    refine AP.drawE 27 (Tree.node [] [0, 1, 2, 3, 4, 5, 6, 7, 8, 9, 10, 11, 12, 13, 14, 15, 16, 17, 18, 19, 20, 21] [22] [Tree.node [0, 1, 2, 3, 4] [] [23] [Tree.node [0] [24, 25] [26] [Tree.node [] [] [] []]]]) (by kernel_rfl) rfl (by kernel_rfl) (by kernel_rfl) ?_
    refine vd_node ?_
    simp only [go_sem, Nat.reduceAdd, Nat.reduceLeDiff, reduceCtorEq, g1, g2, g3, g4]
    repeat (with_reducible refine And.intro (by omega) ?_)
    refine AQ.go (by kernel_rfl) ?_
    simp only [go_sem, Nat.reduceAdd, Nat.reduceLeDiff, reduceCtorEq]
    refine AQ.nx rfl ?_
    simp only [go_sem, Nat.reduceAdd, Nat.reduceLeDiff, reduceCtorEq]
    refine AQ.rename 4 5 rfl rfl rfl ?_; simp only [go_sem, Nat.reduceAdd, Nat.reduceLeDiff, reduceCtorEq]
    refine AQ.kill 5 ?_; simp only [go_sem, Nat.reduceAdd, Nat.reduceLeDiff, reduceCtorEq]
    refine AQ.append (hnb := rfl) (rows := lg) (es := 3) (by kernel_rfl) rfl rfl rfl (by rfl) Try.tk115 Try.sz121 (by show Option.map _ (zro Try.prog 121) = _; rw [Try.zr121]; rfl) Try.by121 rfl (by simp only [List.length_cons, List.length_nil]; omega) (by simp only [List.length_cons, List.length_nil]; omega) ?_
    simp only [go_sem, Nat.reduceAdd, Nat.reduceLeDiff, reduceCtorEq]
    refine AQ.nx rfl ?_
    simp only [go_sem, Nat.reduceAdd, Nat.reduceLeDiff, reduceCtorEq]
    refine AQ.go (by kernel_rfl) ?_
    simp only [go_sem, Nat.reduceAdd, Nat.reduceLeDiff, reduceCtorEq]
    refine AQ.nx rfl ?_
    simp only [go_sem, Nat.reduceAdd, Nat.reduceLeDiff, reduceCtorEq]
    repeat (first | refine xPP rfl ?_ | refine xPE rfl ?_ | refine xEP rfl ?_ | refine xEE rfl ?_ | refine AQ.done ?_ | refine AQ.skip (by kernel_rfl) rfl ?_ | refine AQ.s2b (by kernel_rfl) rfl rfl rfl rfl ?_ | refine AQ.mark (by kernel_rfl) rfl rfl rfl rfl rfl rfl rfl ?_ | refine AP.cond_true rfl rfl ?_ | refine AP.cond_false rfl rfl ?_ | (refine AP.region rfl (by kernel_rfl) ?_; simp only [go_sem, Nat.reduceAdd, Nat.reduceLeDiff, reduceCtorEq]) | (refine AP.drawQ rfl rfl (by kernel_rfl) ?_; simp only [go_sem, Nat.reduceAdd, Nat.reduceLeDiff, reduceCtorEq]) | (refine vq_id ?_; simp only [go_sem, Nat.reduceAdd, Nat.reduceLeDiff, reduceCtorEq]) | (refine ⟨by first | omega | (intros; simp_all; done) | (intros; simp_all; omega), ?_⟩; try simp only [go_sem, Nat.reduceAdd, Nat.reduceLeDiff, reduceCtorEq]))
    refine AP.drawE 44 (Tree.node [] [0, 1, 2, 3, 4, 5, 6, 7, 8, 9, 10, 11, 12, 13, 14, 15, 16, 17, 18, 19, 20, 21, 22, 23, 24, 25, 26, 27, 28, 29, 30, 31, 32, 33, 34, 35, 36, 37, 38, 39, 40] [41] [Tree.node [9, 39] [42] [43] [Tree.node [] [] [] []]]) (by kernel_rfl) rfl (by kernel_rfl) (by kernel_rfl) ?_
    refine vd_node ?_
    simp only [go_sem, Nat.reduceAdd, Nat.reduceLeDiff, reduceCtorEq, g1, g2, g3, g4, hw]
    repeat (with_reducible refine And.intro (by omega) ?_)
    refine AQ.go (by kernel_rfl) ?_
    simp only [go_sem, Nat.reduceAdd, Nat.reduceLeDiff, reduceCtorEq]
    repeat (with_reducible refine And.intro (by omega) ?_)
    refine AQ.nx rfl ?_
    simp only [go_sem, Nat.reduceAdd, Nat.reduceLeDiff, reduceCtorEq]
    repeat (with_reducible refine And.intro (by omega) ?_)
    refine AQ.go (by kernel_rfl) ?_
    simp only [go_sem, Nat.reduceAdd, Nat.reduceLeDiff, reduceCtorEq]
    repeat (with_reducible refine And.intro (by omega) ?_)
    refine AQ.nx rfl ?_
    simp only [go_sem, Nat.reduceAdd, Nat.reduceLeDiff, reduceCtorEq]
    repeat (first | refine xPP rfl ?_ | refine xPE rfl ?_ | refine xEP rfl ?_ | refine xEE rfl ?_ | refine AQ.done ?_ | refine AQ.skip (by kernel_rfl) rfl ?_ | refine AQ.s2b (by kernel_rfl) rfl rfl rfl rfl ?_ | refine AQ.mark (by kernel_rfl) rfl rfl rfl rfl rfl rfl rfl ?_ | refine AP.cond_true rfl rfl ?_ | refine AP.cond_false rfl rfl ?_ | (refine AP.region rfl (by kernel_rfl) ?_; simp only [go_sem, Nat.reduceAdd, Nat.reduceLeDiff, reduceCtorEq]) | (refine AP.drawQ rfl rfl (by kernel_rfl) ?_; simp only [go_sem, Nat.reduceAdd, Nat.reduceLeDiff, reduceCtorEq]) | (refine vq_id ?_; simp only [go_sem, Nat.reduceAdd, Nat.reduceLeDiff, reduceCtorEq]) | (refine ⟨by first | omega | (intros; simp_all; done) | (intros; simp_all; omega), ?_⟩; try simp only [go_sem, Nat.reduceAdd, Nat.reduceLeDiff, reduceCtorEq]))
    refine AE.ret rfl ⟨rfl, rfl, trivial⟩ ⟨?_, rfl⟩
    rw [intR_set1 a w u (by omega), intR_set1 b u _ (by omega), intR_set1 c u _ (by omega), min_if]
    simp only [List.length_set, List.length_append, List.length_cons, List.length_nil]
    rfl
end Go.Proofs.Ytfgffpkdjmeaoaa
end
