import Derived.Test.YtoafanbfminhcaaAl3
import Derived.Test.YtoafanbfminhcaaChecked
import Derived.KernelRfl
import Derived.Shelf.Strings.Repeat
set_option linter.unusedSimpArgs false
set_option linter.unusedVariables false
set_option linter.unnecessarySimpa false
section

end

section
namespace Go.Proofs.Ytoafanbfminhcaa
open Go Go.AL
@[go_sem] theorem Try.tk1 : tk Try.prog 1 = .func := by kernel_rfl
@[go_sem] theorem Try.sz1 : sz Try.prog 1 = some 1 := by kernel_rfl
@[go_sem] theorem Try.by1 : by' Try.prog 1 = some 8 := by kernel_rfl
@[go_sem] theorem Try.zr1 : zro Try.prog 1 = some ([.nilFunc]) := by kernel_rfl
@[go_sem] theorem Try.tk2 : tk Try.prog 2 = .int .i64 := by kernel_rfl
@[go_sem] theorem Try.sz2 : sz Try.prog 2 = some 1 := by kernel_rfl
@[go_sem] theorem Try.by2 : by' Try.prog 2 = some 8 := by kernel_rfl
@[go_sem] theorem Try.un2 : (Try.prog.underlying 2).isSome = true := by kernel_rfl
@[go_sem] theorem Try.zr2 : zro Try.prog 2 = some ([.int .i64 0]) := by kernel_rfl
@[go_sem] theorem Try.tk3 : tk Try.prog 3 = .int .i64 := by kernel_rfl
@[go_sem] theorem Try.sz3 : sz Try.prog 3 = some 1 := by kernel_rfl
@[go_sem] theorem Try.by3 : by' Try.prog 3 = some 8 := by kernel_rfl
@[go_sem] theorem Try.un3 : (Try.prog.underlying 3).isSome = true := by kernel_rfl
@[go_sem] theorem Try.zr3 : zro Try.prog 3 = some ([.int .i64 0]) := by kernel_rfl
@[go_sem] theorem Try.tk4 : tk Try.prog 4 = .bool := by kernel_rfl
@[go_sem] theorem Try.sz4 : sz Try.prog 4 = some 1 := by kernel_rfl
@[go_sem] theorem Try.by4 : by' Try.prog 4 = some 1 := by kernel_rfl
@[go_sem] theorem Try.un4 : (Try.prog.underlying 4).isSome = true := by kernel_rfl
@[go_sem] theorem Try.zr4 : zro Try.prog 4 = some ([.bool false]) := by kernel_rfl
@[go_sem] theorem Try.tk5 : tk Try.prog 5 = .int .u8 := by kernel_rfl
@[go_sem] theorem Try.sz5 : sz Try.prog 5 = some 1 := by kernel_rfl
@[go_sem] theorem Try.by5 : by' Try.prog 5 = some 1 := by kernel_rfl
@[go_sem] theorem Try.un5 : (Try.prog.underlying 5).isSome = true := by kernel_rfl
@[go_sem] theorem Try.zr5 : zro Try.prog 5 = some ([.int .u8 0]) := by kernel_rfl
@[go_sem] theorem Try.tk6 : tk Try.prog 6 = .int .u8 := by kernel_rfl
@[go_sem] theorem Try.sz6 : sz Try.prog 6 = some 1 := by kernel_rfl
@[go_sem] theorem Try.by6 : by' Try.prog 6 = some 1 := by kernel_rfl
@[go_sem] theorem Try.un6 : (Try.prog.underlying 6).isSome = true := by kernel_rfl
@[go_sem] theorem Try.zr6 : zro Try.prog 6 = some ([.int .u8 0]) := by kernel_rfl
@[go_sem] theorem Try.tk7 : tk Try.prog 7 = .struct [(0, 2), (1, 3), (2, 4), (3, 6)] := by kernel_rfl
@[go_sem] theorem Try.sz7 : sz Try.prog 7 = some 4 := by kernel_rfl
@[go_sem] theorem Try.by7 : by' Try.prog 7 = some 24 := by kernel_rfl
@[go_sem] theorem Try.eq7 : eqOk Try.prog 7 = true := by kernel_rfl
@[go_sem] theorem Try.zr7 : zro Try.prog 7 = some ([.int .i64 0, .int .i64 0, .bool false, .int .u8 0]) := by kernel_rfl
@[go_sem] theorem Try.tk8 : tk Try.prog 8 = .struct [(0, 2), (1, 3), (2, 4), (3, 6)] := by kernel_rfl
@[go_sem] theorem Try.sz8 : sz Try.prog 8 = some 4 := by kernel_rfl
@[go_sem] theorem Try.by8 : by' Try.prog 8 = some 24 := by kernel_rfl
@[go_sem] theorem Try.eq8 : eqOk Try.prog 8 = true := by kernel_rfl
@[go_sem] theorem Try.zr8 : zro Try.prog 8 = some ([.int .i64 0, .int .i64 0, .bool false, .int .u8 0]) := by kernel_rfl
@[go_sem] theorem Try.tk9 : tk Try.prog 9 = .str := by kernel_rfl
@[go_sem] theorem Try.sz9 : sz Try.prog 9 = some 1 := by kernel_rfl
@[go_sem] theorem Try.by9 : by' Try.prog 9 = some 16 := by kernel_rfl
@[go_sem] theorem Try.un9 : (Try.prog.underlying 9).isSome = true := by kernel_rfl
@[go_sem] theorem Try.zr9 : zro Try.prog 9 = some ([.string ⟨#[]⟩]) := by kernel_rfl
@[go_sem] theorem Try.tk10 : tk Try.prog 10 = .str := by kernel_rfl
@[go_sem] theorem Try.sz10 : sz Try.prog 10 = some 1 := by kernel_rfl
@[go_sem] theorem Try.by10 : by' Try.prog 10 = some 16 := by kernel_rfl
@[go_sem] theorem Try.un10 : (Try.prog.underlying 10).isSome = true := by kernel_rfl
@[go_sem] theorem Try.zr10 : zro Try.prog 10 = some ([.string ⟨#[]⟩]) := by kernel_rfl
@[go_sem] theorem Try.tk11 : tk Try.prog 11 = .str := by kernel_rfl
@[go_sem] theorem Try.sz11 : sz Try.prog 11 = some 1 := by kernel_rfl
@[go_sem] theorem Try.by11 : by' Try.prog 11 = some 16 := by kernel_rfl
@[go_sem] theorem Try.un11 : (Try.prog.underlying 11).isSome = true := by kernel_rfl
@[go_sem] theorem Try.zr11 : zro Try.prog 11 = some ([.string ⟨#[]⟩]) := by kernel_rfl
@[go_sem] theorem Try.tk12 : tk Try.prog 12 = .int .u64 := by kernel_rfl
@[go_sem] theorem Try.sz12 : sz Try.prog 12 = some 1 := by kernel_rfl
@[go_sem] theorem Try.by12 : by' Try.prog 12 = some 8 := by kernel_rfl
@[go_sem] theorem Try.un12 : (Try.prog.underlying 12).isSome = true := by kernel_rfl
@[go_sem] theorem Try.zr12 : zro Try.prog 12 = some ([.int .u64 0]) := by kernel_rfl
@[go_sem] theorem Try.tk13 : tk Try.prog 13 = .struct [(0, 9), (1, 12)] := by kernel_rfl
@[go_sem] theorem Try.sz13 : sz Try.prog 13 = some 2 := by kernel_rfl
@[go_sem] theorem Try.by13 : by' Try.prog 13 = some 24 := by kernel_rfl
@[go_sem] theorem Try.zr13 : zro Try.prog 13 = some ([.string ⟨#[]⟩, .int .u64 0]) := by kernel_rfl
@[go_sem] theorem Try.tk14 : tk Try.prog 14 = .struct [(0, 9), (1, 12)] := by kernel_rfl
@[go_sem] theorem Try.sz14 : sz Try.prog 14 = some 2 := by kernel_rfl
@[go_sem] theorem Try.by14 : by' Try.prog 14 = some 24 := by kernel_rfl
@[go_sem] theorem Try.zr14 : zro Try.prog 14 = some ([.string ⟨#[]⟩, .int .u64 0]) := by kernel_rfl
@[go_sem] theorem Try.tk15 : tk Try.prog 15 = .ptr 162 := by kernel_rfl
@[go_sem] theorem Try.sz15 : sz Try.prog 15 = some 1 := by kernel_rfl
@[go_sem] theorem Try.by15 : by' Try.prog 15 = some 8 := by kernel_rfl
@[go_sem] theorem Try.zr15 : zro Try.prog 15 = some ([.pointer none]) := by kernel_rfl
@[go_sem] theorem Try.tk16 : tk Try.prog 16 = .ptr 165 := by kernel_rfl
@[go_sem] theorem Try.sz16 : sz Try.prog 16 = some 1 := by kernel_rfl
@[go_sem] theorem Try.by16 : by' Try.prog 16 = some 8 := by kernel_rfl
@[go_sem] theorem Try.zr16 : zro Try.prog 16 = some ([.pointer none]) := by kernel_rfl
@[go_sem] theorem Try.tk17 : tk Try.prog 17 = .ptr 172 := by kernel_rfl
@[go_sem] theorem Try.sz17 : sz Try.prog 17 = some 1 := by kernel_rfl
@[go_sem] theorem Try.by17 : by' Try.prog 17 = some 8 := by kernel_rfl
@[go_sem] theorem Try.zr17 : zro Try.prog 17 = some ([.pointer none]) := by kernel_rfl
@[go_sem] theorem Try.tk18 : tk Try.prog 18 = .struct [(0, 17)] := by kernel_rfl
@[go_sem] theorem Try.sz18 : sz Try.prog 18 = some 1 := by kernel_rfl
@[go_sem] theorem Try.by18 : by' Try.prog 18 = some 8 := by kernel_rfl
@[go_sem] theorem Try.zr18 : zro Try.prog 18 = some ([.pointer none]) := by kernel_rfl
@[go_sem] theorem Try.tk19 : tk Try.prog 19 = .struct [(0, 17)] := by kernel_rfl
@[go_sem] theorem Try.sz19 : sz Try.prog 19 = some 1 := by kernel_rfl
@[go_sem] theorem Try.by19 : by' Try.prog 19 = some 8 := by kernel_rfl
@[go_sem] theorem Try.zr19 : zro Try.prog 19 = some ([.pointer none]) := by kernel_rfl
@[go_sem] theorem Try.tk20 : tk Try.prog 20 = .iface := by kernel_rfl
@[go_sem] theorem Try.sz20 : sz Try.prog 20 = some 1 := by kernel_rfl
@[go_sem] theorem Try.by20 : by' Try.prog 20 = some 16 := by kernel_rfl
@[go_sem] theorem Try.zr20 : zro Try.prog 20 = some ([.nilIface]) := by kernel_rfl
@[go_sem] theorem Try.tk21 : tk Try.prog 21 = .int .i32 := by kernel_rfl
@[go_sem] theorem Try.sz21 : sz Try.prog 21 = some 1 := by kernel_rfl
@[go_sem] theorem Try.by21 : by' Try.prog 21 = some 4 := by kernel_rfl
@[go_sem] theorem Try.un21 : (Try.prog.underlying 21).isSome = true := by kernel_rfl
@[go_sem] theorem Try.zr21 : zro Try.prog 21 = some ([.int .i32 0]) := by kernel_rfl
@[go_sem] theorem Try.tk22 : tk Try.prog 22 = .slice 38 := by kernel_rfl
@[go_sem] theorem Try.sz22 : sz Try.prog 22 = some 1 := by kernel_rfl
@[go_sem] theorem Try.by22 : by' Try.prog 22 = some 24 := by kernel_rfl
@[go_sem] theorem Try.zr22 : zro Try.prog 22 = some ([.slice none 0 0]) := by kernel_rfl
@[go_sem] theorem Try.tk23 : tk Try.prog 23 = .func := by kernel_rfl
@[go_sem] theorem Try.sz23 : sz Try.prog 23 = some 1 := by kernel_rfl
@[go_sem] theorem Try.by23 : by' Try.prog 23 = some 8 := by kernel_rfl
@[go_sem] theorem Try.zr23 : zro Try.prog 23 = some ([.nilFunc]) := by kernel_rfl
@[go_sem] theorem Try.tk24 : tk Try.prog 24 = .func := by kernel_rfl
@[go_sem] theorem Try.sz24 : sz Try.prog 24 = some 1 := by kernel_rfl
@[go_sem] theorem Try.by24 : by' Try.prog 24 = some 8 := by kernel_rfl
@[go_sem] theorem Try.zr24 : zro Try.prog 24 = some ([.nilFunc]) := by kernel_rfl
@[go_sem] theorem Try.tk25 : tk Try.prog 25 = .slice 9 := by kernel_rfl
@[go_sem] theorem Try.sz25 : sz Try.prog 25 = some 1 := by kernel_rfl
@[go_sem] theorem Try.by25 : by' Try.prog 25 = some 24 := by kernel_rfl
@[go_sem] theorem Try.zr25 : zro Try.prog 25 = some ([.slice none 0 0]) := by kernel_rfl
@[go_sem] theorem Try.tk26 : tk Try.prog 26 = .slice 97 := by kernel_rfl
@[go_sem] theorem Try.sz26 : sz Try.prog 26 = some 1 := by kernel_rfl
@[go_sem] theorem Try.by26 : by' Try.prog 26 = some 24 := by kernel_rfl
@[go_sem] theorem Try.zr26 : zro Try.prog 26 = some ([.slice none 0 0]) := by kernel_rfl
@[go_sem] theorem Try.tk27 : tk Try.prog 27 = .struct [(0, 25), (1, 26)] := by kernel_rfl
@[go_sem] theorem Try.sz27 : sz Try.prog 27 = some 2 := by kernel_rfl
@[go_sem] theorem Try.by27 : by' Try.prog 27 = some 48 := by kernel_rfl
@[go_sem] theorem Try.zr27 : zro Try.prog 27 = some ([.slice none 0 0, .slice none 0 0]) := by kernel_rfl
@[go_sem] theorem Try.tk28 : tk Try.prog 28 = .struct [(0, 25), (1, 26)] := by kernel_rfl
@[go_sem] theorem Try.sz28 : sz Try.prog 28 = some 2 := by kernel_rfl
@[go_sem] theorem Try.by28 : by' Try.prog 28 = some 48 := by kernel_rfl
@[go_sem] theorem Try.zr28 : zro Try.prog 28 = some ([.slice none 0 0, .slice none 0 0]) := by kernel_rfl
@[go_sem] theorem Try.tk29 : tk Try.prog 29 = .int .i64 := by kernel_rfl
@[go_sem] theorem Try.sz29 : sz Try.prog 29 = some 1 := by kernel_rfl
@[go_sem] theorem Try.by29 : by' Try.prog 29 = some 8 := by kernel_rfl
@[go_sem] theorem Try.un29 : (Try.prog.underlying 29).isSome = true := by kernel_rfl
@[go_sem] theorem Try.zr29 : zro Try.prog 29 = some ([.int .i64 0]) := by kernel_rfl
@[go_sem] theorem Try.tk31 : tk Try.prog 31 = .func := by kernel_rfl
@[go_sem] theorem Try.sz31 : sz Try.prog 31 = some 1 := by kernel_rfl
@[go_sem] theorem Try.by31 : by' Try.prog 31 = some 8 := by kernel_rfl
@[go_sem] theorem Try.zr31 : zro Try.prog 31 = some ([.nilFunc]) := by kernel_rfl
@[go_sem] theorem Try.tk32 : tk Try.prog 32 = .ptr 93 := by kernel_rfl
@[go_sem] theorem Try.sz32 : sz Try.prog 32 = some 1 := by kernel_rfl
@[go_sem] theorem Try.by32 : by' Try.prog 32 = some 8 := by kernel_rfl
@[go_sem] theorem Try.zr32 : zro Try.prog 32 = some ([.pointer none]) := by kernel_rfl
@[go_sem] theorem Try.tk34 : tk Try.prog 34 = .func := by kernel_rfl
@[go_sem] theorem Try.sz34 : sz Try.prog 34 = some 1 := by kernel_rfl
@[go_sem] theorem Try.by34 : by' Try.prog 34 = some 8 := by kernel_rfl
@[go_sem] theorem Try.zr34 : zro Try.prog 34 = some ([.nilFunc]) := by kernel_rfl
@[go_sem] theorem Try.tk35 : tk Try.prog 35 = .func := by kernel_rfl
@[go_sem] theorem Try.sz35 : sz Try.prog 35 = some 1 := by kernel_rfl
@[go_sem] theorem Try.by35 : by' Try.prog 35 = some 8 := by kernel_rfl
@[go_sem] theorem Try.zr35 : zro Try.prog 35 = some ([.nilFunc]) := by kernel_rfl
@[go_sem] theorem Try.tk36 : tk Try.prog 36 = .slice 3 := by kernel_rfl
@[go_sem] theorem Try.sz36 : sz Try.prog 36 = some 1 := by kernel_rfl
@[go_sem] theorem Try.by36 : by' Try.prog 36 = some 24 := by kernel_rfl
@[go_sem] theorem Try.zr36 : zro Try.prog 36 = some ([.slice none 0 0]) := by kernel_rfl
@[go_sem] theorem Try.tk37 : tk Try.prog 37 = .struct [(0, 5), (1, 9), (2, 36)] := by kernel_rfl
@[go_sem] theorem Try.sz37 : sz Try.prog 37 = some 3 := by kernel_rfl
@[go_sem] theorem Try.by37 : by' Try.prog 37 = some 48 := by kernel_rfl
@[go_sem] theorem Try.zr37 : zro Try.prog 37 = some ([.int .u8 0, .string ⟨#[]⟩, .slice none 0 0]) := by kernel_rfl
@[go_sem] theorem Try.tk38 : tk Try.prog 38 = .struct [(0, 5), (1, 9), (2, 36)] := by kernel_rfl
@[go_sem] theorem Try.sz38 : sz Try.prog 38 = some 3 := by kernel_rfl
@[go_sem] theorem Try.by38 : by' Try.prog 38 = some 48 := by kernel_rfl
@[go_sem] theorem Try.zr38 : zro Try.prog 38 = some ([.int .u8 0, .string ⟨#[]⟩, .slice none 0 0]) := by kernel_rfl
@[go_sem] theorem Try.tk39 : tk Try.prog 39 = .func := by kernel_rfl
@[go_sem] theorem Try.sz39 : sz Try.prog 39 = some 1 := by kernel_rfl
@[go_sem] theorem Try.by39 : by' Try.prog 39 = some 8 := by kernel_rfl
@[go_sem] theorem Try.zr39 : zro Try.prog 39 = some ([.nilFunc]) := by kernel_rfl
@[go_sem] theorem Try.tk40 : tk Try.prog 40 = .func := by kernel_rfl
@[go_sem] theorem Try.sz40 : sz Try.prog 40 = some 1 := by kernel_rfl
@[go_sem] theorem Try.by40 : by' Try.prog 40 = some 8 := by kernel_rfl
@[go_sem] theorem Try.zr40 : zro Try.prog 40 = some ([.nilFunc]) := by kernel_rfl
@[go_sem] theorem Try.tk41 : tk Try.prog 41 = .func := by kernel_rfl
@[go_sem] theorem Try.sz41 : sz Try.prog 41 = some 1 := by kernel_rfl
@[go_sem] theorem Try.by41 : by' Try.prog 41 = some 8 := by kernel_rfl
@[go_sem] theorem Try.zr41 : zro Try.prog 41 = some ([.nilFunc]) := by kernel_rfl
@[go_sem] theorem Try.tk42 : tk Try.prog 42 = .func := by kernel_rfl
@[go_sem] theorem Try.sz42 : sz Try.prog 42 = some 1 := by kernel_rfl
@[go_sem] theorem Try.by42 : by' Try.prog 42 = some 8 := by kernel_rfl
@[go_sem] theorem Try.zr42 : zro Try.prog 42 = some ([.nilFunc]) := by kernel_rfl
@[go_sem] theorem Try.tk43 : tk Try.prog 43 = .func := by kernel_rfl
@[go_sem] theorem Try.sz43 : sz Try.prog 43 = some 1 := by kernel_rfl
@[go_sem] theorem Try.by43 : by' Try.prog 43 = some 8 := by kernel_rfl
@[go_sem] theorem Try.zr43 : zro Try.prog 43 = some ([.nilFunc]) := by kernel_rfl
@[go_sem] theorem Try.tk44 : tk Try.prog 44 = .func := by kernel_rfl
@[go_sem] theorem Try.sz44 : sz Try.prog 44 = some 1 := by kernel_rfl
@[go_sem] theorem Try.by44 : by' Try.prog 44 = some 8 := by kernel_rfl
@[go_sem] theorem Try.zr44 : zro Try.prog 44 = some ([.nilFunc]) := by kernel_rfl
@[go_sem] theorem Try.tk45 : tk Try.prog 45 = .func := by kernel_rfl
@[go_sem] theorem Try.sz45 : sz Try.prog 45 = some 1 := by kernel_rfl
@[go_sem] theorem Try.by45 : by' Try.prog 45 = some 8 := by kernel_rfl
@[go_sem] theorem Try.zr45 : zro Try.prog 45 = some ([.nilFunc]) := by kernel_rfl
@[go_sem] theorem Try.tk46 : tk Try.prog 46 = .slice 101 := by kernel_rfl
@[go_sem] theorem Try.sz46 : sz Try.prog 46 = some 1 := by kernel_rfl
@[go_sem] theorem Try.by46 : by' Try.prog 46 = some 24 := by kernel_rfl
@[go_sem] theorem Try.zr46 : zro Try.prog 46 = some ([.slice none 0 0]) := by kernel_rfl
@[go_sem] theorem Try.tk47 : tk Try.prog 47 = .struct [(0, 25), (1, 46)] := by kernel_rfl
@[go_sem] theorem Try.sz47 : sz Try.prog 47 = some 2 := by kernel_rfl
@[go_sem] theorem Try.by47 : by' Try.prog 47 = some 48 := by kernel_rfl
@[go_sem] theorem Try.zr47 : zro Try.prog 47 = some ([.slice none 0 0, .slice none 0 0]) := by kernel_rfl
@[go_sem] theorem Try.tk48 : tk Try.prog 48 = .struct [(0, 25), (1, 46)] := by kernel_rfl
@[go_sem] theorem Try.sz48 : sz Try.prog 48 = some 2 := by kernel_rfl
@[go_sem] theorem Try.by48 : by' Try.prog 48 = some 48 := by kernel_rfl
@[go_sem] theorem Try.zr48 : zro Try.prog 48 = some ([.slice none 0 0, .slice none 0 0]) := by kernel_rfl
@[go_sem] theorem Try.tk49 : tk Try.prog 49 = .func := by kernel_rfl
@[go_sem] theorem Try.sz49 : sz Try.prog 49 = some 1 := by kernel_rfl
@[go_sem] theorem Try.by49 : by' Try.prog 49 = some 8 := by kernel_rfl
@[go_sem] theorem Try.zr49 : zro Try.prog 49 = some ([.nilFunc]) := by kernel_rfl
@[go_sem] theorem Try.tk50 : tk Try.prog 50 = .func := by kernel_rfl
@[go_sem] theorem Try.sz50 : sz Try.prog 50 = some 1 := by kernel_rfl
@[go_sem] theorem Try.by50 : by' Try.prog 50 = some 8 := by kernel_rfl
@[go_sem] theorem Try.zr50 : zro Try.prog 50 = some ([.nilFunc]) := by kernel_rfl
@[go_sem] theorem Try.tk52 : tk Try.prog 52 = .func := by kernel_rfl
@[go_sem] theorem Try.sz52 : sz Try.prog 52 = some 1 := by kernel_rfl
@[go_sem] theorem Try.by52 : by' Try.prog 52 = some 8 := by kernel_rfl
@[go_sem] theorem Try.zr52 : zro Try.prog 52 = some ([.nilFunc]) := by kernel_rfl
@[go_sem] theorem Try.tk53 : tk Try.prog 53 = .func := by kernel_rfl
@[go_sem] theorem Try.sz53 : sz Try.prog 53 = some 1 := by kernel_rfl
@[go_sem] theorem Try.by53 : by' Try.prog 53 = some 8 := by kernel_rfl
@[go_sem] theorem Try.zr53 : zro Try.prog 53 = some ([.nilFunc]) := by kernel_rfl
@[go_sem] theorem Try.tk54 : tk Try.prog 54 = .func := by kernel_rfl
@[go_sem] theorem Try.sz54 : sz Try.prog 54 = some 1 := by kernel_rfl
@[go_sem] theorem Try.by54 : by' Try.prog 54 = some 8 := by kernel_rfl
@[go_sem] theorem Try.zr54 : zro Try.prog 54 = some ([.nilFunc]) := by kernel_rfl
@[go_sem] theorem Try.tk55 : tk Try.prog 55 = .func := by kernel_rfl
@[go_sem] theorem Try.sz55 : sz Try.prog 55 = some 1 := by kernel_rfl
@[go_sem] theorem Try.by55 : by' Try.prog 55 = some 8 := by kernel_rfl
@[go_sem] theorem Try.zr55 : zro Try.prog 55 = some ([.nilFunc]) := by kernel_rfl
@[go_sem] theorem Try.tk56 : tk Try.prog 56 = .func := by kernel_rfl
@[go_sem] theorem Try.sz56 : sz Try.prog 56 = some 1 := by kernel_rfl
@[go_sem] theorem Try.by56 : by' Try.prog 56 = some 8 := by kernel_rfl
@[go_sem] theorem Try.zr56 : zro Try.prog 56 = some ([.nilFunc]) := by kernel_rfl
@[go_sem] theorem Try.tk57 : tk Try.prog 57 = .func := by kernel_rfl
@[go_sem] theorem Try.sz57 : sz Try.prog 57 = some 1 := by kernel_rfl
@[go_sem] theorem Try.by57 : by' Try.prog 57 = some 8 := by kernel_rfl
@[go_sem] theorem Try.zr57 : zro Try.prog 57 = some ([.nilFunc]) := by kernel_rfl
@[go_sem] theorem Try.tk59 : tk Try.prog 59 = .func := by kernel_rfl
@[go_sem] theorem Try.sz59 : sz Try.prog 59 = some 1 := by kernel_rfl
@[go_sem] theorem Try.by59 : by' Try.prog 59 = some 8 := by kernel_rfl
@[go_sem] theorem Try.zr59 : zro Try.prog 59 = some ([.nilFunc]) := by kernel_rfl
@[go_sem] theorem Try.tk60 : tk Try.prog 60 = .func := by kernel_rfl
@[go_sem] theorem Try.sz60 : sz Try.prog 60 = some 1 := by kernel_rfl
@[go_sem] theorem Try.by60 : by' Try.prog 60 = some 8 := by kernel_rfl
@[go_sem] theorem Try.zr60 : zro Try.prog 60 = some ([.nilFunc]) := by kernel_rfl
@[go_sem] theorem Try.tk61 : tk Try.prog 61 = .func := by kernel_rfl
@[go_sem] theorem Try.sz61 : sz Try.prog 61 = some 1 := by kernel_rfl
@[go_sem] theorem Try.by61 : by' Try.prog 61 = some 8 := by kernel_rfl
@[go_sem] theorem Try.zr61 : zro Try.prog 61 = some ([.nilFunc]) := by kernel_rfl
@[go_sem] theorem Try.tk62 : tk Try.prog 62 = .func := by kernel_rfl
@[go_sem] theorem Try.sz62 : sz Try.prog 62 = some 1 := by kernel_rfl
@[go_sem] theorem Try.by62 : by' Try.prog 62 = some 8 := by kernel_rfl
@[go_sem] theorem Try.zr62 : zro Try.prog 62 = some ([.nilFunc]) := by kernel_rfl
@[go_sem] theorem Try.tk63 : tk Try.prog 63 = .func := by kernel_rfl
@[go_sem] theorem Try.sz63 : sz Try.prog 63 = some 1 := by kernel_rfl
@[go_sem] theorem Try.by63 : by' Try.prog 63 = some 8 := by kernel_rfl
@[go_sem] theorem Try.zr63 : zro Try.prog 63 = some ([.nilFunc]) := by kernel_rfl
@[go_sem] theorem Try.tk64 : tk Try.prog 64 = .func := by kernel_rfl
@[go_sem] theorem Try.sz64 : sz Try.prog 64 = some 1 := by kernel_rfl
@[go_sem] theorem Try.by64 : by' Try.prog 64 = some 8 := by kernel_rfl
@[go_sem] theorem Try.zr64 : zro Try.prog 64 = some ([.nilFunc]) := by kernel_rfl
@[go_sem] theorem Try.tk65 : tk Try.prog 65 = .func := by kernel_rfl
@[go_sem] theorem Try.sz65 : sz Try.prog 65 = some 1 := by kernel_rfl
@[go_sem] theorem Try.by65 : by' Try.prog 65 = some 8 := by kernel_rfl
@[go_sem] theorem Try.zr65 : zro Try.prog 65 = some ([.nilFunc]) := by kernel_rfl
@[go_sem] theorem Try.tk66 : tk Try.prog 66 = .func := by kernel_rfl
@[go_sem] theorem Try.sz66 : sz Try.prog 66 = some 1 := by kernel_rfl
@[go_sem] theorem Try.by66 : by' Try.prog 66 = some 8 := by kernel_rfl
@[go_sem] theorem Try.zr66 : zro Try.prog 66 = some ([.nilFunc]) := by kernel_rfl
@[go_sem] theorem Try.tk67 : tk Try.prog 67 = .func := by kernel_rfl
@[go_sem] theorem Try.sz67 : sz Try.prog 67 = some 1 := by kernel_rfl
@[go_sem] theorem Try.by67 : by' Try.prog 67 = some 8 := by kernel_rfl
@[go_sem] theorem Try.zr67 : zro Try.prog 67 = some ([.nilFunc]) := by kernel_rfl
@[go_sem] theorem Try.tk68 : tk Try.prog 68 = .func := by kernel_rfl
@[go_sem] theorem Try.sz68 : sz Try.prog 68 = some 1 := by kernel_rfl
@[go_sem] theorem Try.by68 : by' Try.prog 68 = some 8 := by kernel_rfl
@[go_sem] theorem Try.zr68 : zro Try.prog 68 = some ([.nilFunc]) := by kernel_rfl
@[go_sem] theorem Try.tk69 : tk Try.prog 69 = .func := by kernel_rfl
@[go_sem] theorem Try.sz69 : sz Try.prog 69 = some 1 := by kernel_rfl
@[go_sem] theorem Try.by69 : by' Try.prog 69 = some 8 := by kernel_rfl
@[go_sem] theorem Try.zr69 : zro Try.prog 69 = some ([.nilFunc]) := by kernel_rfl
@[go_sem] theorem Try.tk70 : tk Try.prog 70 = .func := by kernel_rfl
@[go_sem] theorem Try.sz70 : sz Try.prog 70 = some 1 := by kernel_rfl
@[go_sem] theorem Try.by70 : by' Try.prog 70 = some 8 := by kernel_rfl
@[go_sem] theorem Try.zr70 : zro Try.prog 70 = some ([.nilFunc]) := by kernel_rfl
@[go_sem] theorem Try.tk71 : tk Try.prog 71 = .int .u64 := by kernel_rfl
@[go_sem] theorem Try.sz71 : sz Try.prog 71 = some 1 := by kernel_rfl
@[go_sem] theorem Try.by71 : by' Try.prog 71 = some 8 := by kernel_rfl
@[go_sem] theorem Try.un71 : (Try.prog.underlying 71).isSome = true := by kernel_rfl
@[go_sem] theorem Try.zr71 : zro Try.prog 71 = some ([.int .u64 0]) := by kernel_rfl
@[go_sem] theorem Try.tk72 : tk Try.prog 72 = .struct [(0, 48), (2, 3), (3, 3), (4, 71), (5, 71), (6, 25)] := by kernel_rfl
@[go_sem] theorem Try.sz72 : sz Try.prog 72 = some 7 := by kernel_rfl
@[go_sem] theorem Try.by72 : by' Try.prog 72 = some 104 := by kernel_rfl
@[go_sem] theorem Try.zr72 : zro Try.prog 72 = some ([.slice none 0 0, .slice none 0 0, .int .i64 0, .int .i64 0, .int .u64 0, .int .u64 0, .slice none 0 0]) := by kernel_rfl
@[go_sem] theorem Try.tk73 : tk Try.prog 73 = .struct [(0, 48), (2, 3), (3, 3), (4, 71), (5, 71), (6, 25)] := by kernel_rfl
@[go_sem] theorem Try.sz73 : sz Try.prog 73 = some 7 := by kernel_rfl
@[go_sem] theorem Try.by73 : by' Try.prog 73 = some 104 := by kernel_rfl
@[go_sem] theorem Try.zr73 : zro Try.prog 73 = some ([.slice none 0 0, .slice none 0 0, .int .i64 0, .int .i64 0, .int .u64 0, .int .u64 0, .slice none 0 0]) := by kernel_rfl
@[go_sem] theorem Try.tk75 : tk Try.prog 75 = .func := by kernel_rfl
@[go_sem] theorem Try.sz75 : sz Try.prog 75 = some 1 := by kernel_rfl
@[go_sem] theorem Try.by75 : by' Try.prog 75 = some 8 := by kernel_rfl
@[go_sem] theorem Try.zr75 : zro Try.prog 75 = some ([.nilFunc]) := by kernel_rfl
@[go_sem] theorem Try.tk76 : tk Try.prog 76 = .func := by kernel_rfl
@[go_sem] theorem Try.sz76 : sz Try.prog 76 = some 1 := by kernel_rfl
@[go_sem] theorem Try.by76 : by' Try.prog 76 = some 8 := by kernel_rfl
@[go_sem] theorem Try.zr76 : zro Try.prog 76 = some ([.nilFunc]) := by kernel_rfl
@[go_sem] theorem Try.tk77 : tk Try.prog 77 = .func := by kernel_rfl
@[go_sem] theorem Try.sz77 : sz Try.prog 77 = some 1 := by kernel_rfl
@[go_sem] theorem Try.by77 : by' Try.prog 77 = some 8 := by kernel_rfl
@[go_sem] theorem Try.zr77 : zro Try.prog 77 = some ([.nilFunc]) := by kernel_rfl
@[go_sem] theorem Try.tk78 : tk Try.prog 78 = .func := by kernel_rfl
@[go_sem] theorem Try.sz78 : sz Try.prog 78 = some 1 := by kernel_rfl
@[go_sem] theorem Try.by78 : by' Try.prog 78 = some 8 := by kernel_rfl
@[go_sem] theorem Try.zr78 : zro Try.prog 78 = some ([.nilFunc]) := by kernel_rfl
@[go_sem] theorem Try.tk79 : tk Try.prog 79 = .func := by kernel_rfl
@[go_sem] theorem Try.sz79 : sz Try.prog 79 = some 1 := by kernel_rfl
@[go_sem] theorem Try.by79 : by' Try.prog 79 = some 8 := by kernel_rfl
@[go_sem] theorem Try.zr79 : zro Try.prog 79 = some ([.nilFunc]) := by kernel_rfl
@[go_sem] theorem Try.tk81 : tk Try.prog 81 = .func := by kernel_rfl
@[go_sem] theorem Try.sz81 : sz Try.prog 81 = some 1 := by kernel_rfl
@[go_sem] theorem Try.by81 : by' Try.prog 81 = some 8 := by kernel_rfl
@[go_sem] theorem Try.zr81 : zro Try.prog 81 = some ([.nilFunc]) := by kernel_rfl
@[go_sem] theorem Try.tk82 : tk Try.prog 82 = .func := by kernel_rfl
@[go_sem] theorem Try.sz82 : sz Try.prog 82 = some 1 := by kernel_rfl
@[go_sem] theorem Try.by82 : by' Try.prog 82 = some 8 := by kernel_rfl
@[go_sem] theorem Try.zr82 : zro Try.prog 82 = some ([.nilFunc]) := by kernel_rfl
@[go_sem] theorem Try.tk83 : tk Try.prog 83 = .func := by kernel_rfl
@[go_sem] theorem Try.sz83 : sz Try.prog 83 = some 1 := by kernel_rfl
@[go_sem] theorem Try.by83 : by' Try.prog 83 = some 8 := by kernel_rfl
@[go_sem] theorem Try.zr83 : zro Try.prog 83 = some ([.nilFunc]) := by kernel_rfl
@[go_sem] theorem Try.tk84 : tk Try.prog 84 = .func := by kernel_rfl
@[go_sem] theorem Try.sz84 : sz Try.prog 84 = some 1 := by kernel_rfl
@[go_sem] theorem Try.by84 : by' Try.prog 84 = some 8 := by kernel_rfl
@[go_sem] theorem Try.zr84 : zro Try.prog 84 = some ([.nilFunc]) := by kernel_rfl
@[go_sem] theorem Try.tk85 : tk Try.prog 85 = .struct [(0, 2), (1, 2), (2, 4), (3, 9)] := by kernel_rfl
@[go_sem] theorem Try.sz85 : sz Try.prog 85 = some 4 := by kernel_rfl
@[go_sem] theorem Try.by85 : by' Try.prog 85 = some 40 := by kernel_rfl
@[go_sem] theorem Try.eq85 : eqOk Try.prog 85 = true := by kernel_rfl
@[go_sem] theorem Try.zr85 : zro Try.prog 85 = some ([.int .i64 0, .int .i64 0, .bool false, .string ⟨#[]⟩]) := by kernel_rfl
@[go_sem] theorem Try.tk86 : tk Try.prog 86 = .struct [(0, 2), (1, 2), (2, 4), (3, 9)] := by kernel_rfl
@[go_sem] theorem Try.sz86 : sz Try.prog 86 = some 4 := by kernel_rfl
@[go_sem] theorem Try.by86 : by' Try.prog 86 = some 40 := by kernel_rfl
@[go_sem] theorem Try.eq86 : eqOk Try.prog 86 = true := by kernel_rfl
@[go_sem] theorem Try.zr86 : zro Try.prog 86 = some ([.int .i64 0, .int .i64 0, .bool false, .string ⟨#[]⟩]) := by kernel_rfl
@[go_sem] theorem Try.tk87 : tk Try.prog 87 = .func := by kernel_rfl
@[go_sem] theorem Try.sz87 : sz Try.prog 87 = some 1 := by kernel_rfl
@[go_sem] theorem Try.by87 : by' Try.prog 87 = some 8 := by kernel_rfl
@[go_sem] theorem Try.zr87 : zro Try.prog 87 = some ([.nilFunc]) := by kernel_rfl
@[go_sem] theorem Try.tk88 : tk Try.prog 88 = .struct [(0, 25), (1, 3), (2, 2), (3, 2)] := by kernel_rfl
@[go_sem] theorem Try.sz88 : sz Try.prog 88 = some 4 := by kernel_rfl
@[go_sem] theorem Try.by88 : by' Try.prog 88 = some 48 := by kernel_rfl
@[go_sem] theorem Try.zr88 : zro Try.prog 88 = some ([.slice none 0 0, .int .i64 0, .int .i64 0, .int .i64 0]) := by kernel_rfl
@[go_sem] theorem Try.tk89 : tk Try.prog 89 = .struct [(0, 25), (1, 3), (2, 2), (3, 2)] := by kernel_rfl
@[go_sem] theorem Try.sz89 : sz Try.prog 89 = some 4 := by kernel_rfl
@[go_sem] theorem Try.by89 : by' Try.prog 89 = some 48 := by kernel_rfl
@[go_sem] theorem Try.zr89 : zro Try.prog 89 = some ([.slice none 0 0, .int .i64 0, .int .i64 0, .int .i64 0]) := by kernel_rfl
@[go_sem] theorem Try.tk90 : tk Try.prog 90 = .func := by kernel_rfl
@[go_sem] theorem Try.sz90 : sz Try.prog 90 = some 1 := by kernel_rfl
@[go_sem] theorem Try.by90 : by' Try.prog 90 = some 8 := by kernel_rfl
@[go_sem] theorem Try.zr90 : zro Try.prog 90 = some ([.nilFunc]) := by kernel_rfl
@[go_sem] theorem Try.tk91 : tk Try.prog 91 = .func := by kernel_rfl
@[go_sem] theorem Try.sz91 : sz Try.prog 91 = some 1 := by kernel_rfl
@[go_sem] theorem Try.by91 : by' Try.prog 91 = some 8 := by kernel_rfl
@[go_sem] theorem Try.zr91 : zro Try.prog 91 = some ([.nilFunc]) := by kernel_rfl
@[go_sem] theorem Try.tk92 : tk Try.prog 92 = .struct [(0, 28), (2, 3), (3, 89), (7, 2)] := by kernel_rfl
@[go_sem] theorem Try.sz92 : sz Try.prog 92 = some 8 := by kernel_rfl
@[go_sem] theorem Try.by92 : by' Try.prog 92 = some 112 := by kernel_rfl
@[go_sem] theorem Try.zr92 : zro Try.prog 92 = some ([.slice none 0 0, .slice none 0 0, .int .i64 0, .slice none 0 0, .int .i64 0, .int .i64 0, .int .i64 0, .int .i64 0]) := by kernel_rfl
@[go_sem] theorem Try.tk93 : tk Try.prog 93 = .struct [(0, 28), (2, 3), (3, 89), (7, 2)] := by kernel_rfl
@[go_sem] theorem Try.sz93 : sz Try.prog 93 = some 8 := by kernel_rfl
@[go_sem] theorem Try.by93 : by' Try.prog 93 = some 112 := by kernel_rfl
@[go_sem] theorem Try.zr93 : zro Try.prog 93 = some ([.slice none 0 0, .slice none 0 0, .int .i64 0, .slice none 0 0, .int .i64 0, .int .i64 0, .int .i64 0, .int .i64 0]) := by kernel_rfl
@[go_sem] theorem Try.tk94 : tk Try.prog 94 = .func := by kernel_rfl
@[go_sem] theorem Try.sz94 : sz Try.prog 94 = some 1 := by kernel_rfl
@[go_sem] theorem Try.by94 : by' Try.prog 94 = some 8 := by kernel_rfl
@[go_sem] theorem Try.zr94 : zro Try.prog 94 = some ([.nilFunc]) := by kernel_rfl
@[go_sem] theorem Try.tk95 : tk Try.prog 95 = .slice 5 := by kernel_rfl
@[go_sem] theorem Try.sz95 : sz Try.prog 95 = some 1 := by kernel_rfl
@[go_sem] theorem Try.by95 : by' Try.prog 95 = some 24 := by kernel_rfl
@[go_sem] theorem Try.zr95 : zro Try.prog 95 = some ([.slice none 0 0]) := by kernel_rfl
@[go_sem] theorem Try.tk96 : tk Try.prog 96 = .struct [(0, 3), (1, 9)] := by kernel_rfl
@[go_sem] theorem Try.sz96 : sz Try.prog 96 = some 2 := by kernel_rfl
@[go_sem] theorem Try.by96 : by' Try.prog 96 = some 24 := by kernel_rfl
@[go_sem] theorem Try.eq96 : eqOk Try.prog 96 = true := by kernel_rfl
@[go_sem] theorem Try.zr96 : zro Try.prog 96 = some ([.int .i64 0, .string ⟨#[]⟩]) := by kernel_rfl
@[go_sem] theorem Try.tk97 : tk Try.prog 97 = .struct [(0, 3), (1, 9)] := by kernel_rfl
@[go_sem] theorem Try.sz97 : sz Try.prog 97 = some 2 := by kernel_rfl
@[go_sem] theorem Try.by97 : by' Try.prog 97 = some 24 := by kernel_rfl
@[go_sem] theorem Try.eq97 : eqOk Try.prog 97 = true := by kernel_rfl
@[go_sem] theorem Try.zr97 : zro Try.prog 97 = some ([.int .i64 0, .string ⟨#[]⟩]) := by kernel_rfl
@[go_sem] theorem Try.tk98 : tk Try.prog 98 = .func := by kernel_rfl
@[go_sem] theorem Try.sz98 : sz Try.prog 98 = some 1 := by kernel_rfl
@[go_sem] theorem Try.by98 : by' Try.prog 98 = some 8 := by kernel_rfl
@[go_sem] theorem Try.zr98 : zro Try.prog 98 = some ([.nilFunc]) := by kernel_rfl
@[go_sem] theorem Try.tk99 : tk Try.prog 99 = .func := by kernel_rfl
@[go_sem] theorem Try.sz99 : sz Try.prog 99 = some 1 := by kernel_rfl
@[go_sem] theorem Try.by99 : by' Try.prog 99 = some 8 := by kernel_rfl
@[go_sem] theorem Try.zr99 : zro Try.prog 99 = some ([.nilFunc]) := by kernel_rfl
@[go_sem] theorem Try.tk100 : tk Try.prog 100 = .func := by kernel_rfl
@[go_sem] theorem Try.sz100 : sz Try.prog 100 = some 1 := by kernel_rfl
@[go_sem] theorem Try.by100 : by' Try.prog 100 = some 8 := by kernel_rfl
@[go_sem] theorem Try.zr100 : zro Try.prog 100 = some ([.nilFunc]) := by kernel_rfl
@[go_sem] theorem Try.tk101 : tk Try.prog 101 = .struct [(0, 3), (1, 9)] := by kernel_rfl
@[go_sem] theorem Try.sz101 : sz Try.prog 101 = some 2 := by kernel_rfl
@[go_sem] theorem Try.by101 : by' Try.prog 101 = some 24 := by kernel_rfl
@[go_sem] theorem Try.eq101 : eqOk Try.prog 101 = true := by kernel_rfl
@[go_sem] theorem Try.zr101 : zro Try.prog 101 = some ([.int .i64 0, .string ⟨#[]⟩]) := by kernel_rfl
@[go_sem] theorem Try.tk102 : tk Try.prog 102 = .func := by kernel_rfl
@[go_sem] theorem Try.sz102 : sz Try.prog 102 = some 1 := by kernel_rfl
@[go_sem] theorem Try.by102 : by' Try.prog 102 = some 8 := by kernel_rfl
@[go_sem] theorem Try.zr102 : zro Try.prog 102 = some ([.nilFunc]) := by kernel_rfl
@[go_sem] theorem Try.tk103 : tk Try.prog 103 = .func := by kernel_rfl
@[go_sem] theorem Try.sz103 : sz Try.prog 103 = some 1 := by kernel_rfl
@[go_sem] theorem Try.by103 : by' Try.prog 103 = some 8 := by kernel_rfl
@[go_sem] theorem Try.zr103 : zro Try.prog 103 = some ([.nilFunc]) := by kernel_rfl
@[go_sem] theorem Try.tk104 : tk Try.prog 104 = .func := by kernel_rfl
@[go_sem] theorem Try.sz104 : sz Try.prog 104 = some 1 := by kernel_rfl
@[go_sem] theorem Try.by104 : by' Try.prog 104 = some 8 := by kernel_rfl
@[go_sem] theorem Try.zr104 : zro Try.prog 104 = some ([.nilFunc]) := by kernel_rfl
@[go_sem] theorem Try.tk105 : tk Try.prog 105 = .func := by kernel_rfl
@[go_sem] theorem Try.sz105 : sz Try.prog 105 = some 1 := by kernel_rfl
@[go_sem] theorem Try.by105 : by' Try.prog 105 = some 8 := by kernel_rfl
@[go_sem] theorem Try.zr105 : zro Try.prog 105 = some ([.nilFunc]) := by kernel_rfl
@[go_sem] theorem Try.tk106 : tk Try.prog 106 = .func := by kernel_rfl
@[go_sem] theorem Try.sz106 : sz Try.prog 106 = some 1 := by kernel_rfl
@[go_sem] theorem Try.by106 : by' Try.prog 106 = some 8 := by kernel_rfl
@[go_sem] theorem Try.zr106 : zro Try.prog 106 = some ([.nilFunc]) := by kernel_rfl
@[go_sem] theorem Try.tk107 : tk Try.prog 107 = .func := by kernel_rfl
@[go_sem] theorem Try.sz107 : sz Try.prog 107 = some 1 := by kernel_rfl
@[go_sem] theorem Try.by107 : by' Try.prog 107 = some 8 := by kernel_rfl
@[go_sem] theorem Try.zr107 : zro Try.prog 107 = some ([.nilFunc]) := by kernel_rfl
@[go_sem] theorem Try.tk108 : tk Try.prog 108 = .func := by kernel_rfl
@[go_sem] theorem Try.sz108 : sz Try.prog 108 = some 1 := by kernel_rfl
@[go_sem] theorem Try.by108 : by' Try.prog 108 = some 8 := by kernel_rfl
@[go_sem] theorem Try.zr108 : zro Try.prog 108 = some ([.nilFunc]) := by kernel_rfl
@[go_sem] theorem Try.tk109 : tk Try.prog 109 = .func := by kernel_rfl
@[go_sem] theorem Try.sz109 : sz Try.prog 109 = some 1 := by kernel_rfl
@[go_sem] theorem Try.by109 : by' Try.prog 109 = some 8 := by kernel_rfl
@[go_sem] theorem Try.zr109 : zro Try.prog 109 = some ([.nilFunc]) := by kernel_rfl
@[go_sem] theorem Try.tk110 : tk Try.prog 110 = .func := by kernel_rfl
@[go_sem] theorem Try.sz110 : sz Try.prog 110 = some 1 := by kernel_rfl
@[go_sem] theorem Try.by110 : by' Try.prog 110 = some 8 := by kernel_rfl
@[go_sem] theorem Try.zr110 : zro Try.prog 110 = some ([.nilFunc]) := by kernel_rfl
@[go_sem] theorem Try.tk112 : tk Try.prog 112 = .func := by kernel_rfl
@[go_sem] theorem Try.sz112 : sz Try.prog 112 = some 1 := by kernel_rfl
@[go_sem] theorem Try.by112 : by' Try.prog 112 = some 8 := by kernel_rfl
@[go_sem] theorem Try.zr112 : zro Try.prog 112 = some ([.nilFunc]) := by kernel_rfl
@[go_sem] theorem Try.tk113 : tk Try.prog 113 = .func := by kernel_rfl
@[go_sem] theorem Try.sz113 : sz Try.prog 113 = some 1 := by kernel_rfl
@[go_sem] theorem Try.by113 : by' Try.prog 113 = some 8 := by kernel_rfl
@[go_sem] theorem Try.zr113 : zro Try.prog 113 = some ([.nilFunc]) := by kernel_rfl
@[go_sem] theorem Try.tk114 : tk Try.prog 114 = .func := by kernel_rfl
@[go_sem] theorem Try.sz114 : sz Try.prog 114 = some 1 := by kernel_rfl
@[go_sem] theorem Try.by114 : by' Try.prog 114 = some 8 := by kernel_rfl
@[go_sem] theorem Try.zr114 : zro Try.prog 114 = some ([.nilFunc]) := by kernel_rfl
@[go_sem] theorem Try.tk115 : tk Try.prog 115 = .func := by kernel_rfl
@[go_sem] theorem Try.sz115 : sz Try.prog 115 = some 1 := by kernel_rfl
@[go_sem] theorem Try.by115 : by' Try.prog 115 = some 8 := by kernel_rfl
@[go_sem] theorem Try.zr115 : zro Try.prog 115 = some ([.nilFunc]) := by kernel_rfl
@[go_sem] theorem Try.tk116 : tk Try.prog 116 = .func := by kernel_rfl
@[go_sem] theorem Try.sz116 : sz Try.prog 116 = some 1 := by kernel_rfl
@[go_sem] theorem Try.by116 : by' Try.prog 116 = some 8 := by kernel_rfl
@[go_sem] theorem Try.zr116 : zro Try.prog 116 = some ([.nilFunc]) := by kernel_rfl
@[go_sem] theorem Try.tk117 : tk Try.prog 117 = .func := by kernel_rfl
@[go_sem] theorem Try.sz117 : sz Try.prog 117 = some 1 := by kernel_rfl
@[go_sem] theorem Try.by117 : by' Try.prog 117 = some 8 := by kernel_rfl
@[go_sem] theorem Try.zr117 : zro Try.prog 117 = some ([.nilFunc]) := by kernel_rfl
@[go_sem] theorem Try.tk118 : tk Try.prog 118 = .int .u64 := by kernel_rfl
@[go_sem] theorem Try.sz118 : sz Try.prog 118 = some 1 := by kernel_rfl
@[go_sem] theorem Try.by118 : by' Try.prog 118 = some 8 := by kernel_rfl
@[go_sem] theorem Try.un118 : (Try.prog.underlying 118).isSome = true := by kernel_rfl
@[go_sem] theorem Try.zr118 : zro Try.prog 118 = some ([.int .u64 0]) := by kernel_rfl
@[go_sem] theorem Try.tk120 : tk Try.prog 120 = .func := by kernel_rfl
@[go_sem] theorem Try.sz120 : sz Try.prog 120 = some 1 := by kernel_rfl
@[go_sem] theorem Try.by120 : by' Try.prog 120 = some 8 := by kernel_rfl
@[go_sem] theorem Try.zr120 : zro Try.prog 120 = some ([.nilFunc]) := by kernel_rfl
@[go_sem] theorem Try.tk121 : tk Try.prog 121 = .func := by kernel_rfl
@[go_sem] theorem Try.sz121 : sz Try.prog 121 = some 1 := by kernel_rfl
@[go_sem] theorem Try.by121 : by' Try.prog 121 = some 8 := by kernel_rfl
@[go_sem] theorem Try.zr121 : zro Try.prog 121 = some ([.nilFunc]) := by kernel_rfl
@[go_sem] theorem Try.tk122 : tk Try.prog 122 = .ptr 124 := by kernel_rfl
@[go_sem] theorem Try.sz122 : sz Try.prog 122 = some 1 := by kernel_rfl
@[go_sem] theorem Try.by122 : by' Try.prog 122 = some 8 := by kernel_rfl
@[go_sem] theorem Try.zr122 : zro Try.prog 122 = some ([.pointer none]) := by kernel_rfl
@[go_sem] theorem Try.tk123 : tk Try.prog 123 = .struct [(0, 122), (1, 95)] := by kernel_rfl
@[go_sem] theorem Try.sz123 : sz Try.prog 123 = some 2 := by kernel_rfl
@[go_sem] theorem Try.by123 : by' Try.prog 123 = some 32 := by kernel_rfl
@[go_sem] theorem Try.zr123 : zro Try.prog 123 = some ([.pointer none, .slice none 0 0]) := by kernel_rfl
@[go_sem] theorem Try.tk124 : tk Try.prog 124 = .struct [(0, 122), (1, 95)] := by kernel_rfl
@[go_sem] theorem Try.sz124 : sz Try.prog 124 = some 2 := by kernel_rfl
@[go_sem] theorem Try.by124 : by' Try.prog 124 = some 32 := by kernel_rfl
@[go_sem] theorem Try.zr124 : zro Try.prog 124 = some ([.pointer none, .slice none 0 0]) := by kernel_rfl
@[go_sem] theorem Try.tk125 : tk Try.prog 125 = .func := by kernel_rfl
@[go_sem] theorem Try.sz125 : sz Try.prog 125 = some 1 := by kernel_rfl
@[go_sem] theorem Try.by125 : by' Try.prog 125 = some 8 := by kernel_rfl
@[go_sem] theorem Try.zr125 : zro Try.prog 125 = some ([.nilFunc]) := by kernel_rfl
@[go_sem] theorem Try.tk126 : tk Try.prog 126 = .iface := by kernel_rfl
@[go_sem] theorem Try.sz126 : sz Try.prog 126 = some 1 := by kernel_rfl
@[go_sem] theorem Try.by126 : by' Try.prog 126 = some 16 := by kernel_rfl
@[go_sem] theorem Try.zr126 : zro Try.prog 126 = some ([.nilIface]) := by kernel_rfl
@[go_sem] theorem Try.tk127 : tk Try.prog 127 = .iface := by kernel_rfl
@[go_sem] theorem Try.sz127 : sz Try.prog 127 = some 1 := by kernel_rfl
@[go_sem] theorem Try.by127 : by' Try.prog 127 = some 16 := by kernel_rfl
@[go_sem] theorem Try.zr127 : zro Try.prog 127 = some ([.nilIface]) := by kernel_rfl
@[go_sem] theorem Try.tk129 : tk Try.prog 129 = .func := by kernel_rfl
@[go_sem] theorem Try.sz129 : sz Try.prog 129 = some 1 := by kernel_rfl
@[go_sem] theorem Try.by129 : by' Try.prog 129 = some 8 := by kernel_rfl
@[go_sem] theorem Try.zr129 : zro Try.prog 129 = some ([.nilFunc]) := by kernel_rfl
@[go_sem] theorem Try.tk130 : tk Try.prog 130 = .arr 24 5 := by kernel_rfl
@[go_sem] theorem Try.sz130 : sz Try.prog 130 = some 24 := by kernel_rfl
@[go_sem] theorem Try.by130 : by' Try.prog 130 = some 24 := by kernel_rfl
@[go_sem] theorem Try.eq130 : eqOk Try.prog 130 = true := by kernel_rfl
@[go_sem] theorem Try.zr130 : zro Try.prog 130 = some (List.replicate 24 (.int .u8 0)) := by kernel_rfl
@[go_sem] theorem Try.tk131 : tk Try.prog 131 = .func := by kernel_rfl
@[go_sem] theorem Try.sz131 : sz Try.prog 131 = some 1 := by kernel_rfl
@[go_sem] theorem Try.by131 : by' Try.prog 131 = some 8 := by kernel_rfl
@[go_sem] theorem Try.zr131 : zro Try.prog 131 = some ([.nilFunc]) := by kernel_rfl
@[go_sem] theorem Try.tk132 : tk Try.prog 132 = .arr 32 5 := by kernel_rfl
@[go_sem] theorem Try.sz132 : sz Try.prog 132 = some 32 := by kernel_rfl
@[go_sem] theorem Try.by132 : by' Try.prog 132 = some 32 := by kernel_rfl
@[go_sem] theorem Try.eq132 : eqOk Try.prog 132 = true := by kernel_rfl
@[go_sem] theorem Try.zr132 : zro Try.prog 132 = some (List.replicate 32 (.int .u8 0)) := by kernel_rfl
@[go_sem] theorem Try.tk133 : tk Try.prog 133 = .arr 32 5 := by kernel_rfl
@[go_sem] theorem Try.sz133 : sz Try.prog 133 = some 32 := by kernel_rfl
@[go_sem] theorem Try.by133 : by' Try.prog 133 = some 32 := by kernel_rfl
@[go_sem] theorem Try.eq133 : eqOk Try.prog 133 = true := by kernel_rfl
@[go_sem] theorem Try.zr133 : zro Try.prog 133 = some (List.replicate 32 (.int .u8 0)) := by kernel_rfl
@[go_sem] theorem Try.tk134 : tk Try.prog 134 = .func := by kernel_rfl
@[go_sem] theorem Try.sz134 : sz Try.prog 134 = some 1 := by kernel_rfl
@[go_sem] theorem Try.by134 : by' Try.prog 134 = some 8 := by kernel_rfl
@[go_sem] theorem Try.zr134 : zro Try.prog 134 = some ([.nilFunc]) := by kernel_rfl
@[go_sem] theorem Try.tk135 : tk Try.prog 135 = .func := by kernel_rfl
@[go_sem] theorem Try.sz135 : sz Try.prog 135 = some 1 := by kernel_rfl
@[go_sem] theorem Try.by135 : by' Try.prog 135 = some 8 := by kernel_rfl
@[go_sem] theorem Try.zr135 : zro Try.prog 135 = some ([.nilFunc]) := by kernel_rfl
@[go_sem] theorem Try.tk136 : tk Try.prog 136 = .func := by kernel_rfl
@[go_sem] theorem Try.sz136 : sz Try.prog 136 = some 1 := by kernel_rfl
@[go_sem] theorem Try.by136 : by' Try.prog 136 = some 8 := by kernel_rfl
@[go_sem] theorem Try.zr136 : zro Try.prog 136 = some ([.nilFunc]) := by kernel_rfl
@[go_sem] theorem Try.tk137 : tk Try.prog 137 = .func := by kernel_rfl
@[go_sem] theorem Try.sz137 : sz Try.prog 137 = some 1 := by kernel_rfl
@[go_sem] theorem Try.by137 : by' Try.prog 137 = some 8 := by kernel_rfl
@[go_sem] theorem Try.zr137 : zro Try.prog 137 = some ([.nilFunc]) := by kernel_rfl
@[go_sem] theorem Try.tk138 : tk Try.prog 138 = .arr 4 5 := by kernel_rfl
@[go_sem] theorem Try.sz138 : sz Try.prog 138 = some 4 := by kernel_rfl
@[go_sem] theorem Try.by138 : by' Try.prog 138 = some 4 := by kernel_rfl
@[go_sem] theorem Try.eq138 : eqOk Try.prog 138 = true := by kernel_rfl
@[go_sem] theorem Try.zr138 : zro Try.prog 138 = some ([.int .u8 0, .int .u8 0, .int .u8 0, .int .u8 0]) := by kernel_rfl
@[go_sem] theorem Try.tk139 : tk Try.prog 139 = .func := by kernel_rfl
@[go_sem] theorem Try.sz139 : sz Try.prog 139 = some 1 := by kernel_rfl
@[go_sem] theorem Try.by139 : by' Try.prog 139 = some 8 := by kernel_rfl
@[go_sem] theorem Try.zr139 : zro Try.prog 139 = some ([.nilFunc]) := by kernel_rfl
@[go_sem] theorem Try.tk140 : tk Try.prog 140 = .func := by kernel_rfl
@[go_sem] theorem Try.sz140 : sz Try.prog 140 = some 1 := by kernel_rfl
@[go_sem] theorem Try.by140 : by' Try.prog 140 = some 8 := by kernel_rfl
@[go_sem] theorem Try.zr140 : zro Try.prog 140 = some ([.nilFunc]) := by kernel_rfl
@[go_sem] theorem Try.tk141 : tk Try.prog 141 = .func := by kernel_rfl
@[go_sem] theorem Try.sz141 : sz Try.prog 141 = some 1 := by kernel_rfl
@[go_sem] theorem Try.by141 : by' Try.prog 141 = some 8 := by kernel_rfl
@[go_sem] theorem Try.zr141 : zro Try.prog 141 = some ([.nilFunc]) := by kernel_rfl
@[go_sem] theorem Try.tk142 : tk Try.prog 142 = .func := by kernel_rfl
@[go_sem] theorem Try.sz142 : sz Try.prog 142 = some 1 := by kernel_rfl
@[go_sem] theorem Try.by142 : by' Try.prog 142 = some 8 := by kernel_rfl
@[go_sem] theorem Try.zr142 : zro Try.prog 142 = some ([.nilFunc]) := by kernel_rfl
@[go_sem] theorem Try.tk143 : tk Try.prog 143 = .struct [(0, 71), (1, 71), (2, 4), (3, 9), (4, 4)] := by kernel_rfl
@[go_sem] theorem Try.sz143 : sz Try.prog 143 = some 5 := by kernel_rfl
@[go_sem] theorem Try.by143 : by' Try.prog 143 = some 48 := by kernel_rfl
@[go_sem] theorem Try.eq143 : eqOk Try.prog 143 = true := by kernel_rfl
@[go_sem] theorem Try.zr143 : zro Try.prog 143 = some ([.int .u64 0, .int .u64 0, .bool false, .string ⟨#[]⟩, .bool false]) := by kernel_rfl
@[go_sem] theorem Try.tk144 : tk Try.prog 144 = .struct [(0, 71), (1, 71), (2, 4), (3, 9), (4, 4)] := by kernel_rfl
@[go_sem] theorem Try.sz144 : sz Try.prog 144 = some 5 := by kernel_rfl
@[go_sem] theorem Try.by144 : by' Try.prog 144 = some 48 := by kernel_rfl
@[go_sem] theorem Try.eq144 : eqOk Try.prog 144 = true := by kernel_rfl
@[go_sem] theorem Try.zr144 : zro Try.prog 144 = some ([.int .u64 0, .int .u64 0, .bool false, .string ⟨#[]⟩, .bool false]) := by kernel_rfl
@[go_sem] theorem Try.tk145 : tk Try.prog 145 = .func := by kernel_rfl
@[go_sem] theorem Try.sz145 : sz Try.prog 145 = some 1 := by kernel_rfl
@[go_sem] theorem Try.by145 : by' Try.prog 145 = some 8 := by kernel_rfl
@[go_sem] theorem Try.zr145 : zro Try.prog 145 = some ([.nilFunc]) := by kernel_rfl
@[go_sem] theorem Try.tk146 : tk Try.prog 146 = .func := by kernel_rfl
@[go_sem] theorem Try.sz146 : sz Try.prog 146 = some 1 := by kernel_rfl
@[go_sem] theorem Try.by146 : by' Try.prog 146 = some 8 := by kernel_rfl
@[go_sem] theorem Try.zr146 : zro Try.prog 146 = some ([.nilFunc]) := by kernel_rfl
@[go_sem] theorem Try.tk147 : tk Try.prog 147 = .int .u32 := by kernel_rfl
@[go_sem] theorem Try.sz147 : sz Try.prog 147 = some 1 := by kernel_rfl
@[go_sem] theorem Try.by147 : by' Try.prog 147 = some 4 := by kernel_rfl
@[go_sem] theorem Try.un147 : (Try.prog.underlying 147).isSome = true := by kernel_rfl
@[go_sem] theorem Try.zr147 : zro Try.prog 147 = some ([.int .u32 0]) := by kernel_rfl
@[go_sem] theorem Try.tk149 : tk Try.prog 149 = .func := by kernel_rfl
@[go_sem] theorem Try.sz149 : sz Try.prog 149 = some 1 := by kernel_rfl
@[go_sem] theorem Try.by149 : by' Try.prog 149 = some 8 := by kernel_rfl
@[go_sem] theorem Try.zr149 : zro Try.prog 149 = some ([.nilFunc]) := by kernel_rfl
@[go_sem] theorem Try.tk151 : tk Try.prog 151 = .func := by kernel_rfl
@[go_sem] theorem Try.sz151 : sz Try.prog 151 = some 1 := by kernel_rfl
@[go_sem] theorem Try.by151 : by' Try.prog 151 = some 8 := by kernel_rfl
@[go_sem] theorem Try.zr151 : zro Try.prog 151 = some ([.nilFunc]) := by kernel_rfl
@[go_sem] theorem Try.tk152 : tk Try.prog 152 = .ptr 5 := by kernel_rfl
@[go_sem] theorem Try.sz152 : sz Try.prog 152 = some 1 := by kernel_rfl
@[go_sem] theorem Try.by152 : by' Try.prog 152 = some 8 := by kernel_rfl
@[go_sem] theorem Try.zr152 : zro Try.prog 152 = some ([.pointer none]) := by kernel_rfl
@[go_sem] theorem Try.tk153 : tk Try.prog 153 = .func := by kernel_rfl
@[go_sem] theorem Try.sz153 : sz Try.prog 153 = some 1 := by kernel_rfl
@[go_sem] theorem Try.by153 : by' Try.prog 153 = some 8 := by kernel_rfl
@[go_sem] theorem Try.zr153 : zro Try.prog 153 = some ([.nilFunc]) := by kernel_rfl
@[go_sem] theorem Try.tk155 : tk Try.prog 155 = .func := by kernel_rfl
@[go_sem] theorem Try.sz155 : sz Try.prog 155 = some 1 := by kernel_rfl
@[go_sem] theorem Try.by155 : by' Try.prog 155 = some 8 := by kernel_rfl
@[go_sem] theorem Try.zr155 : zro Try.prog 155 = some ([.nilFunc]) := by kernel_rfl
@[go_sem] theorem Try.tk156 : tk Try.prog 156 = .func := by kernel_rfl
@[go_sem] theorem Try.sz156 : sz Try.prog 156 = some 1 := by kernel_rfl
@[go_sem] theorem Try.by156 : by' Try.prog 156 = some 8 := by kernel_rfl
@[go_sem] theorem Try.zr156 : zro Try.prog 156 = some ([.nilFunc]) := by kernel_rfl
@[go_sem] theorem Try.tk157 : tk Try.prog 157 = .other := by kernel_rfl
@[go_sem] theorem Try.sz157 : sz Try.prog 157 = some 1 := by kernel_rfl
@[go_sem] theorem Try.by157 : by' Try.prog 157 = some 8 := by kernel_rfl
@[go_sem] theorem Try.zr157 : zro Try.prog 157 = some ([.pointer none]) := by kernel_rfl
@[go_sem] theorem Try.tk158 : tk Try.prog 158 = .func := by kernel_rfl
@[go_sem] theorem Try.sz158 : sz Try.prog 158 = some 1 := by kernel_rfl
@[go_sem] theorem Try.by158 : by' Try.prog 158 = some 8 := by kernel_rfl
@[go_sem] theorem Try.zr158 : zro Try.prog 158 = some ([.nilFunc]) := by kernel_rfl
@[go_sem] theorem Try.tk159 : tk Try.prog 159 = .func := by kernel_rfl
@[go_sem] theorem Try.sz159 : sz Try.prog 159 = some 1 := by kernel_rfl
@[go_sem] theorem Try.by159 : by' Try.prog 159 = some 8 := by kernel_rfl
@[go_sem] theorem Try.zr159 : zro Try.prog 159 = some ([.nilFunc]) := by kernel_rfl
@[go_sem] theorem Try.tk160 : tk Try.prog 160 = .func := by kernel_rfl
@[go_sem] theorem Try.sz160 : sz Try.prog 160 = some 1 := by kernel_rfl
@[go_sem] theorem Try.by160 : by' Try.prog 160 = some 8 := by kernel_rfl
@[go_sem] theorem Try.zr160 : zro Try.prog 160 = some ([.nilFunc]) := by kernel_rfl
@[go_sem] theorem Try.tk161 : tk Try.prog 161 = .struct [(0, 17), (1, 17), (2, 17), (3, 9)] := by kernel_rfl
@[go_sem] theorem Try.sz161 : sz Try.prog 161 = some 4 := by kernel_rfl
@[go_sem] theorem Try.by161 : by' Try.prog 161 = some 40 := by kernel_rfl
@[go_sem] theorem Try.zr161 : zro Try.prog 161 = some ([.pointer none, .pointer none, .pointer none, .string ⟨#[]⟩]) := by kernel_rfl
@[go_sem] theorem Try.tk162 : tk Try.prog 162 = .struct [(0, 17), (1, 17), (2, 17), (3, 9)] := by kernel_rfl
@[go_sem] theorem Try.sz162 : sz Try.prog 162 = some 4 := by kernel_rfl
@[go_sem] theorem Try.by162 : by' Try.prog 162 = some 40 := by kernel_rfl
@[go_sem] theorem Try.zr162 : zro Try.prog 162 = some ([.pointer none, .pointer none, .pointer none, .string ⟨#[]⟩]) := by kernel_rfl
@[go_sem] theorem Try.tk163 : tk Try.prog 163 = .arr 0 16 := by kernel_rfl
@[go_sem] theorem Try.sz163 : sz Try.prog 163 = some 0 := by kernel_rfl
@[go_sem] theorem Try.by163 : by' Try.prog 163 = some 0 := by kernel_rfl
@[go_sem] theorem Try.zr163 : zro Try.prog 163 = some ([]) := by kernel_rfl
@[go_sem] theorem Try.tk164 : tk Try.prog 164 = .struct [(0, 163)] := by kernel_rfl
@[go_sem] theorem Try.sz164 : sz Try.prog 164 = some 0 := by kernel_rfl
@[go_sem] theorem Try.by164 : by' Try.prog 164 = some 0 := by kernel_rfl
@[go_sem] theorem Try.zr164 : zro Try.prog 164 = some ([]) := by kernel_rfl
@[go_sem] theorem Try.tk165 : tk Try.prog 165 = .struct [(0, 163)] := by kernel_rfl
@[go_sem] theorem Try.sz165 : sz Try.prog 165 = some 0 := by kernel_rfl
@[go_sem] theorem Try.by165 : by' Try.prog 165 = some 0 := by kernel_rfl
@[go_sem] theorem Try.zr165 : zro Try.prog 165 = some ([]) := by kernel_rfl
@[go_sem] theorem Try.tk166 : tk Try.prog 166 = .int .u8 := by kernel_rfl
@[go_sem] theorem Try.sz166 : sz Try.prog 166 = some 1 := by kernel_rfl
@[go_sem] theorem Try.by166 : by' Try.prog 166 = some 1 := by kernel_rfl
@[go_sem] theorem Try.un166 : (Try.prog.underlying 166).isSome = true := by kernel_rfl
@[go_sem] theorem Try.zr166 : zro Try.prog 166 = some ([.int .u8 0]) := by kernel_rfl
@[go_sem] theorem Try.tk167 : tk Try.prog 167 = .int .u8 := by kernel_rfl
@[go_sem] theorem Try.sz167 : sz Try.prog 167 = some 1 := by kernel_rfl
@[go_sem] theorem Try.by167 : by' Try.prog 167 = some 1 := by kernel_rfl
@[go_sem] theorem Try.un167 : (Try.prog.underlying 167).isSome = true := by kernel_rfl
@[go_sem] theorem Try.zr167 : zro Try.prog 167 = some ([.int .u8 0]) := by kernel_rfl
@[go_sem] theorem Try.tk168 : tk Try.prog 168 = .func := by kernel_rfl
@[go_sem] theorem Try.sz168 : sz Try.prog 168 = some 1 := by kernel_rfl
@[go_sem] theorem Try.by168 : by' Try.prog 168 = some 8 := by kernel_rfl
@[go_sem] theorem Try.zr168 : zro Try.prog 168 = some ([.nilFunc]) := by kernel_rfl
@[go_sem] theorem Try.tk169 : tk Try.prog 169 = .int .i32 := by kernel_rfl
@[go_sem] theorem Try.sz169 : sz Try.prog 169 = some 1 := by kernel_rfl
@[go_sem] theorem Try.by169 : by' Try.prog 169 = some 4 := by kernel_rfl
@[go_sem] theorem Try.un169 : (Try.prog.underlying 169).isSome = true := by kernel_rfl
@[go_sem] theorem Try.zr169 : zro Try.prog 169 = some ([.int .i32 0]) := by kernel_rfl
@[go_sem] theorem Try.tk170 : tk Try.prog 170 = .int .i32 := by kernel_rfl
@[go_sem] theorem Try.sz170 : sz Try.prog 170 = some 1 := by kernel_rfl
@[go_sem] theorem Try.by170 : by' Try.prog 170 = some 4 := by kernel_rfl
@[go_sem] theorem Try.un170 : (Try.prog.underlying 170).isSome = true := by kernel_rfl
@[go_sem] theorem Try.zr170 : zro Try.prog 170 = some ([.int .i32 0]) := by kernel_rfl
@[go_sem] theorem Try.tk171 : tk Try.prog 171 = .struct [(0, 12), (1, 12), (2, 147), (3, 166), (4, 5), (5, 5), (6, 167), (7, 168), (8, 152), (9, 169), (10, 170)] := by kernel_rfl
@[go_sem] theorem Try.sz171 : sz Try.prog 171 = some 11 := by kernel_rfl
@[go_sem] theorem Try.by171 : by' Try.prog 171 = some 48 := by kernel_rfl
@[go_sem] theorem Try.zr171 : zro Try.prog 171 = some ([.int .u64 0, .int .u64 0, .int .u32 0, .int .u8 0, .int .u8 0, .int .u8 0, .int .u8 0, .nilFunc, .pointer none, .int .i32 0, .int .i32 0]) := by kernel_rfl
@[go_sem] theorem Try.tk172 : tk Try.prog 172 = .struct [(0, 12), (1, 12), (2, 147), (3, 166), (4, 5), (5, 5), (6, 167), (7, 168), (8, 152), (9, 169), (10, 170)] := by kernel_rfl
@[go_sem] theorem Try.sz172 : sz Try.prog 172 = some 11 := by kernel_rfl
@[go_sem] theorem Try.by172 : by' Try.prog 172 = some 48 := by kernel_rfl
@[go_sem] theorem Try.zr172 : zro Try.prog 172 = some ([.int .u64 0, .int .u64 0, .int .u32 0, .int .u8 0, .int .u8 0, .int .u8 0, .int .u8 0, .nilFunc, .pointer none, .int .i32 0, .int .i32 0]) := by kernel_rfl
end Go.Proofs.Ytoafanbfminhcaa
end

section
namespace Go.Proofs.Ytoafanbfminhcaa
open Go Go.AL Go.RowKit
set_option maxRecDepth 10000
set_option maxHeartbeats 4000000
abbrev Bs := List UInt8
def blkR (B : List Bs) : List (List IV) := B.map fun s => [Si s]
theorem blkR_len (B : List Bs) : (blkR B).length = B.length := by simp [blkR]
theorem blkR_get (B : List Bs) (k : Nat) (h : k < B.length) : (blkR B).getD k [] = [Si (B.getD k [])] := by
  simp [blkR, List.getD_eq_getElem?_getD, h]
abbrev Wr := Int × Bs
def wrR (W : List Wr) : List (List IV) := W.map fun w => [Ii w.1, Si w.2]
theorem wrR_len (W : List Wr) : (wrR W).length = W.length := by simp [wrR]
theorem wrR_get (W : List Wr) (k : Nat) (h : k < W.length) : (wrR W).getD k [] = [Ii (W.getD k (0, [])).1, Si (W.getD k (0, [])).2] := by
  simp [wrR, List.getD_eq_getElem?_getD, h]
theorem drop_get {α : Type} (l : List α) (k : Nat) (d : α) (h : k < l.length) : l.drop k = l.getD k d :: l.drop (k + 1) := by
  rw [List.drop_eq_getElem_cons h, List.getD_eq_getElem?_getD, List.getElem?_eq_getElem h]; rfl
def idxS {α : Type} (p : α → Bool) : List α → Nat → Int
  | [], _ => -1
  | x :: r, k => if p x then (k : Int) else idxS p r (k + 1)
theorem idxS_any {α : Type} (p : α → Bool) : ∀ (l : List α) (k : Nat), decide (0 ≤ idxS p l k) = l.any p
  | [], k => rfl
  | x :: r, k => by
    rw [idxS, List.any_cons, ← idxS_any p r (k + 1)]
    cases p x <;> simp
theorem not32 (s : Bs) : PFn Try.prog 65 [Sv s] (Bv ((s.length : Int) != 32)) := by
  refine ACall.walk [0, 2] [] Try.func65 rfl Try.ntmps65 (by kernel_rfl) (by rfl) rfl fun W own I0 φ0 => ?_
  repeat (first | refine xA ?_ | refine xB ?_ | refine xC ?_ | refine xE ?_ | refine xD ?_ | refine xK ?_ | refine xS ?_ | refine xM ?_ | refine xT ?_ | refine xF ?_ | ((first | refine xR ?_ | refine xW ?_ | refine vq_id ?_); simp only [go_sem, Nat.reduceAdd, Nat.reduceLeDiff, Nat.reduceSub, Int.reduceToNat, reduceCtorEq, BA_size]) | (refine ⟨by first | omega | (intros; simp_all; done) | (intros; simp_all; omega), ?_⟩; try simp only [go_sem, Nat.reduceAdd, Nat.reduceLeDiff, Nat.reduceSub, Int.reduceToNat, reduceCtorEq, BA_size]))
  exact AE.ret0 rfl ⟨rfl, trivial⟩ rfl ⟨rfl, rfl⟩
theorem idxStr (f : Nat) (p : Bs → Bool) (hp : ∀ s, PFn Try.prog f [Sv s] (Bv (p s))) (B : List Bs) (hB : B.length < 9223372036854775808) : PFn Try.prog 69 [.im (.sl 1 (blkR B)), .fn f [] []] (Iv (idxS p B 0)) := by
  refine ACall.walk [0, 1, 4, 5, 7, 8, 9, 16] [] Try.func69 rfl Try.ntmps69 (by kernel_rfl) (by rfl) rfl fun W own I0 φ0 => ?_
  repeat (first | refine xA ?_ | refine xB ?_ | refine xC ?_ | refine xE ?_ | refine xD ?_ | refine xK ?_ | refine xS ?_ | refine xM ?_ | refine xT ?_ | refine xF ?_ | ((first | refine xR ?_ | refine xW ?_ | refine vq_id ?_); simp only [go_sem, Nat.reduceAdd, Nat.reduceLeDiff, Nat.reduceSub, Int.reduceToNat, reduceCtorEq]) | (refine ⟨by first | omega | (intros; simp_all; done) | (intros; simp_all; omega), ?_⟩; try simp only [go_sem, Nat.reduceAdd, Nat.reduceLeDiff, Nat.reduceSub, Int.reduceToNat, reduceCtorEq]))
  refine AP.loop rfl (α := Nat) (fun k => [(0, .im (.sl 1 (blkR B))), (1, .fn f [] []), (7, Iv (blkR B).length), (8, Iv k)]) (fun _ => []) (fun k => k ≤ B.length ∧ idxS p B 0 = idxS p (B.drop k) k) (fun k => B.length - k) 0 ⟨by omega, rfl⟩ (by repeat (first | exact Sub.nil _ | refine Sub.cons rfl ?_)) rfl fun k ⟨hk, hi⟩ => ?_
  repeat (first | refine xA ?_ | refine xB ?_ | refine xC ?_ | refine xE ?_ | refine xD ?_ | refine xK ?_ | refine xS ?_ | refine xM ?_ | refine xT ?_ | refine xF ?_ | ((first | refine xR ?_ | refine xW ?_ | refine vq_id ?_); simp only [go_sem, Nat.reduceAdd, Nat.reduceLeDiff, Nat.reduceSub, Int.reduceToNat, reduceCtorEq, blkR_len]) | (refine ⟨by first | omega | (intros; simp_all; done) | (intros; simp_all; omega), ?_⟩; try simp only [go_sem, Nat.reduceAdd, Nat.reduceLeDiff, Nat.reduceSub, Int.reduceToNat, reduceCtorEq, blkR_len]))
  refine AP.cond rfl rfl (fun hc => ?_) (fun hc => ?_)
  · have hk' : k < B.length := by simp at hc; omega
    have hw := wr (x := (k : Int) + 1) (by omega)
    rw [drop_get B k [] hk', idxS] at hi
    have hg := blkR_get B k hk'
    repeat (first | refine xA ?_ | refine xB ?_ | refine xC ?_ | refine xE ?_ | refine xD ?_ | refine xK ?_ | refine xS ?_ | refine xM ?_ | refine xT ?_ | refine xF ?_ | ((first | refine xR ?_ | refine xW ?_ | refine vq_id ?_); simp only [go_sem, Nat.reduceAdd, Nat.reduceLeDiff, Nat.reduceSub, Int.reduceToNat, reduceCtorEq, hg, blkR_len]) | (refine ⟨by first | omega | (intros; simp_all; done) | (intros; simp_all; omega), ?_⟩; try simp only [go_sem, Nat.reduceAdd, Nat.reduceLeDiff, Nat.reduceSub, Int.reduceToNat, reduceCtorEq, hg, blkR_len]))
    refine AQ.callI (by kernel_rfl) rfl rfl rfl (hp (B.getD k [])) ?_
    repeat (first | refine xA ?_ | refine xB ?_ | refine xC ?_ | refine xE ?_ | refine xD ?_ | refine xK ?_ | refine xS ?_ | refine xM ?_ | refine xT ?_ | refine xF ?_ | ((first | refine xR ?_ | refine xW ?_ | refine vq_id ?_); simp only [go_sem, Nat.reduceAdd, Nat.reduceLeDiff, Nat.reduceSub, Int.reduceToNat, reduceCtorEq]) | (refine ⟨by first | omega | (intros; simp_all; done) | (intros; simp_all; omega), ?_⟩; try simp only [go_sem, Nat.reduceAdd, Nat.reduceLeDiff, Nat.reduceSub, Int.reduceToNat, reduceCtorEq]))
    refine AP.cond rfl rfl (fun hb => ?_) (fun hb => ?_)
    · rw [if_pos hb] at hi
      repeat (first | refine xA ?_ | refine xB ?_ | refine xC ?_ | refine xE ?_ | refine xD ?_ | refine xK ?_ | refine xS ?_ | refine xM ?_ | refine xT ?_ | refine xF ?_ | ((first | refine xR ?_ | refine xW ?_ | refine vq_id ?_); simp only [go_sem, Nat.reduceAdd, Nat.reduceLeDiff, Nat.reduceSub, Int.reduceToNat, reduceCtorEq]) | (refine ⟨by first | omega | (intros; simp_all; done) | (intros; simp_all; omega), ?_⟩; try simp only [go_sem, Nat.reduceAdd, Nat.reduceLeDiff, Nat.reduceSub, Int.reduceToNat, reduceCtorEq]))
      exact AE.ret rfl ⟨rfl, trivial⟩ ⟨rfl, by rw [hi]; rfl⟩
    · rw [if_neg (by rw [hb]; exact Bool.false_ne_true)] at hi
      repeat (first | refine xA ?_ | refine xB ?_ | refine xC ?_ | refine xE ?_ | refine xD ?_ | refine xK ?_ | refine xS ?_ | refine xM ?_ | refine xT ?_ | refine xF ?_ | ((first | refine xR ?_ | refine xW ?_ | refine vq_id ?_); simp only [go_sem, Nat.reduceAdd, Nat.reduceLeDiff, Nat.reduceSub, Int.reduceToNat, reduceCtorEq, hw]) | (refine ⟨by first | omega | (intros; simp_all; done) | (intros; simp_all; omega), ?_⟩; try simp only [go_sem, Nat.reduceAdd, Nat.reduceLeDiff, Nat.reduceSub, Int.reduceToNat, reduceCtorEq, hw]))
      exact AE.round (k + 1) ⟨by omega, hi⟩ (by omega) (by repeat (first | exact Sub.nil _ | refine Sub.cons rfl ?_)) rfl
  · have hk' : k = B.length := by simp at hc; omega
    rw [List.drop_eq_nil_of_le (by omega), idxS] at hi
    repeat (first | refine xA ?_ | refine xB ?_ | refine xC ?_ | refine xE ?_ | refine xD ?_ | refine xK ?_ | refine xS ?_ | refine xM ?_ | refine xT ?_ | refine xF ?_ | ((first | refine xR ?_ | refine xW ?_ | refine vq_id ?_); simp only [go_sem, Nat.reduceAdd, Nat.reduceLeDiff, Nat.reduceSub, Int.reduceToNat, reduceCtorEq]) | (refine ⟨by first | omega | (intros; simp_all; done) | (intros; simp_all; omega), ?_⟩; try simp only [go_sem, Nat.reduceAdd, Nat.reduceLeDiff, Nat.reduceSub, Int.reduceToNat, reduceCtorEq]))
    exact AE.ret rfl ⟨rfl, trivial⟩ ⟨rfl, by rw [hi]; rfl⟩
theorem anyStr (f : Nat) (p : Bs → Bool) (hp : ∀ s, PFn Try.prog f [Sv s] (Bv (p s))) (B : List Bs) (hB : B.length < 9223372036854775808) : PFn Try.prog 36 [.im (.sl 1 (blkR B)), .fn f [] []] (Bv (B.any p)) := by
  refine ACall.walk [0, 1, 4] [] Try.func36 rfl Try.ntmps36 (by kernel_rfl) (by rfl) rfl fun W own I0 φ0 => ?_
  repeat (first | refine xA ?_ | refine xB ?_ | refine xC ?_ | refine xE ?_ | refine xD ?_ | refine xK ?_ | refine xS ?_ | refine xM ?_ | refine xT ?_ | refine xF ?_ | ((first | refine xR ?_ | refine xW ?_ | refine vq_id ?_); simp only [go_sem, Nat.reduceAdd, Nat.reduceLeDiff, Nat.reduceSub, Int.reduceToNat, reduceCtorEq]) | (refine ⟨by first | omega | (intros; simp_all; done) | (intros; simp_all; omega), ?_⟩; try simp only [go_sem, Nat.reduceAdd, Nat.reduceLeDiff, Nat.reduceSub, Int.reduceToNat, reduceCtorEq]))
  refine AQ.fn (by kernel_rfl) rfl rfl rfl (idxStr f p hp B hB) rfl ?_
  repeat (first | refine xA ?_ | refine xB ?_ | refine xC ?_ | refine xE ?_ | refine xD ?_ | refine xK ?_ | refine xS ?_ | refine xM ?_ | refine xT ?_ | refine xF ?_ | ((first | refine xR ?_ | refine xW ?_ | refine vq_id ?_); simp only [go_sem, Nat.reduceAdd, Nat.reduceLeDiff, Nat.reduceSub, Int.reduceToNat, reduceCtorEq, idxS_any]) | (refine ⟨by first | omega | (intros; simp_all; done) | (intros; simp_all; omega), ?_⟩; try simp only [go_sem, Nat.reduceAdd, Nat.reduceLeDiff, Nat.reduceSub, Int.reduceToNat, reduceCtorEq, idxS_any]))
  exact AE.ret0 rfl ⟨rfl, trivial⟩ rfl ⟨rfl, rfl⟩
end Go.Proofs.Ytoafanbfminhcaa
end

section
namespace Go.Proofs.Ytoafanbfminhcaa
open Go Go.AL Go.RowKit
set_option maxRecDepth 10000
set_option maxHeartbeats 4000000
def okN (n : Nat) : Bool := decide (4 ≤ n) && decide (n ≤ 2000) && decide (n % 2 = 0)
def permI (n : Int) : Bool := decide (4 ≤ n) && decide (n ≤ 2000) && n.tmod 2 == 0
theorem permI_nat (n : Nat) : permI n = okN n := by
  unfold permI okN
  rw [show ((n : Int).tmod 2) = ((n % 2 : Nat) : Int) from rfl]
  rw [Bool.eq_iff_iff]
  simp only [Bool.and_eq_true, decide_eq_true_eq, beq_iff_eq]
  omega
theorem permitted_spec (n : Int) : PFn Try.prog 60 [Iv n] (Bv (permI n)) := by
  refine ACall.walk [0, 2] [] Try.func60 rfl Try.ntmps60 (by kernel_rfl) (by rfl) rfl fun W own I0 φ0 => ?_
  repeat (first | refine xA ?_ | refine xB ?_ | refine xC ?_ | refine xE ?_ | refine xD ?_ | refine xK ?_ | refine xS ?_ | refine xM ?_ | refine xT ?_ | refine xF ?_ | ((first | refine xR ?_ | refine xW ?_ | refine vq_id ?_); simp only [go_sem, Nat.reduceAdd, Nat.reduceLeDiff, Nat.reduceSub, Int.reduceToNat, reduceCtorEq]) | (refine ⟨by first | omega | (intros; simp_all; done) | (intros; simp_all; omega), ?_⟩; try simp only [go_sem, Nat.reduceAdd, Nat.reduceLeDiff, Nat.reduceSub, Int.reduceToNat, reduceCtorEq]))
  exact AE.ret0 rfl ⟨rfl, trivial⟩ rfl ⟨rfl, rfl⟩
def is32 (s : Bs) : Bool := decide (s.length = 32)
def not32' (s : Bs) : Bool := (s.length : Int) != 32
theorem not32_is (s : Bs) : not32' s = !is32 s := by
  unfold not32' is32
  rw [Bool.eq_iff_iff]
  simp
  omega
def chkW (n : Nat) : List Wr → Int
  | [] => 0
  | w :: r => if w.1 < 0 ∨ (n : Int) ≤ w.1 then 3 else if w.2.length ≠ 32 then 4 else chkW n r
structure Dk where
  B : List Bs
  W : List Wr
def Dk.chk (d : Dk) : Int := if okN d.B.length && d.B.all is32 && decide (d.W.length ≤ 10000) then chkW d.B.length d.W else 4
abbrev Dk.v (d : Dk) : AV := .agg [.im (.sl 1 (blkR d.B)), .im (.sl 2 (wrR d.W))]
structure Dk.Sz (d : Dk) : Prop where
  b : d.B.length ≤ 1000000000
  w : d.W.length ≤ 1000000000
theorem check_spec (d : Dk) (hd : d.Sz) : PFn Try.prog 26 [d.v] (Iv d.chk) := by
  obtain ⟨B, W'⟩ := d
  obtain ⟨hB, hW⟩ := hd
  simp only at hB hW
  have h65 : ∀ s, PFn Try.prog 65 [Sv s] (Bv (not32' s)) := not32
  have hany : B.any not32' = !B.all is32 := by
    rw [show not32' = fun s => !is32 s from funext not32_is, List.all_eq_not_any_not, Bool.not_not]
  have hcon := anyStr 65 not32' h65 B (by omega)
  rw [hany] at hcon
  refine ACall.walk [0, 1, 2, 3, 5, 22, 24, 25, 26, 27, 30, 42] [5] Try.func26 rfl Try.ntmps26 (by kernel_rfl) (by rfl) rfl fun W own I0 φ0 => ?_
  repeat (first | refine xA ?_ | refine xB ?_ | refine xC ?_ | refine xE ?_ | refine xD ?_ | refine xK ?_ | refine xS ?_ | refine xM ?_ | refine xT ?_ | refine xF ?_ | ((first | refine xR ?_ | refine xW ?_ | refine vq_id ?_); simp only [go_sem, Nat.reduceAdd, Nat.reduceLeDiff, Nat.reduceSub, Int.reduceToNat, reduceCtorEq, blkR_len, wrR_len]) | (refine ⟨by first | omega | (intros; simp_all; done) | (intros; simp_all; omega), ?_⟩; try simp only [go_sem, Nat.reduceAdd, Nat.reduceLeDiff, Nat.reduceSub, Int.reduceToNat, reduceCtorEq, blkR_len, wrR_len]))
  have hp := permitted_spec (B.length : Int)
  rw [permI_nat] at hp
  refine AQ.fn (by kernel_rfl) rfl rfl rfl (hp) rfl ?_
  repeat (first | refine xA ?_ | refine xB ?_ | refine xC ?_ | refine xE ?_ | refine xD ?_ | refine xK ?_ | refine xS ?_ | refine xM ?_ | refine xT ?_ | refine xF ?_ | ((first | refine xR ?_ | refine xW ?_ | refine vq_id ?_); simp only [go_sem, Nat.reduceAdd, Nat.reduceLeDiff, Nat.reduceSub, Int.reduceToNat, reduceCtorEq, blkR_len, wrR_len]) | (refine ⟨by first | omega | (intros; simp_all; done) | (intros; simp_all; omega), ?_⟩; try simp only [go_sem, Nat.reduceAdd, Nat.reduceLeDiff, Nat.reduceSub, Int.reduceToNat, reduceCtorEq, blkR_len, wrR_len]))
  refine AQ.fn_g (by kernel_rfl) rfl rfl (fun h => by first | (simp [gs, AV.g]; done) | (simp [gs, AV.g, constAV]; done) | (simp [gs, AV.g, constAV, bw] at h ⊢; done) | (simp [bw] at h; done) | (simp [gs, AV.g, bw] at h ⊢; simp [h]; done) | (simp [gs, AV.g, bw] at h ⊢; exact h.1) | (simp [gs, AV.g]; rfl) | (simp [gs, AV.g, bw] at h ⊢; rfl) | (simp [gs, AV.g, bw] at h ⊢; simp [h]; rfl) | (simp [gs, AV.g, bw] at h ⊢; simp_all)) rfl (fun _ => hcon) rfl ?_
  repeat (first | refine xA ?_ | refine xB ?_ | refine xC ?_ | refine xE ?_ | refine xD ?_ | refine xK ?_ | refine xS ?_ | refine xM ?_ | refine xT ?_ | refine xF ?_ | ((first | refine xR ?_ | refine xW ?_ | refine vq_id ?_); simp only [go_sem, Nat.reduceAdd, Nat.reduceLeDiff, Nat.reduceSub, Int.reduceToNat, reduceCtorEq, blkR_len, wrR_len]) | (refine ⟨by first | omega | (intros; simp_all; done) | (intros; simp_all; omega), ?_⟩; try simp only [go_sem, Nat.reduceAdd, Nat.reduceLeDiff, Nat.reduceSub, Int.reduceToNat, reduceCtorEq, blkR_len, wrR_len]))
  unfold Dk.chk
  by_cases hg : okN B.length = true ∧ B.all is32 = true ∧ W'.length ≤ 10000
  · obtain ⟨g1, g2, g3⟩ := hg
    have g4 : decide (10000 < (W'.length : Int)) = false := decide_eq_false (by omega)
    have hcv : (!okN B.length || !B.all is32 || decide (10000 < (W'.length : Int))) = false := by rw [g1, g2, g4]; rfl
    simp only [g1, g2, g3, decide_true, Bool.and_self, if_true]
    refine AP.cond_false rfl (by simp only [go_sem, Nat.reduceAdd, Nat.reduceLeDiff, Nat.reduceSub, Int.reduceToNat, reduceCtorEq]; rw [g4]) ?_
    repeat (first | refine xA ?_ | refine xB ?_ | refine xC ?_ | refine xE ?_ | refine xD ?_ | refine xK ?_ | refine xS ?_ | refine xM ?_ | refine xT ?_ | refine xF ?_ | ((first | refine xR ?_ | refine xW ?_ | refine vq_id ?_); simp only [go_sem, Nat.reduceAdd, Nat.reduceLeDiff, Nat.reduceSub, Int.reduceToNat, reduceCtorEq, wrR_len]) | (refine ⟨by first | omega | (intros; simp_all; done) | (intros; simp_all; omega), ?_⟩; try simp only [go_sem, Nat.reduceAdd, Nat.reduceLeDiff, Nat.reduceSub, Int.reduceToNat, reduceCtorEq, wrR_len]))
    refine AP.loop rfl (α := Nat) (fun k => [(1, .im (.pt [.sl 1 (blkR B), .sl 2 (wrR W')])), (3, .fn 65 [] []), (24, .im (.sl 2 (wrR W'))), (25, Iv W'.length), (26, Iv k)]) (fun _ => []) (fun k => k ≤ W'.length ∧ chkW B.length W' = chkW B.length (W'.drop k)) (fun k => W'.length - k) 0 ⟨by omega, rfl⟩ (by repeat (first | exact Sub.nil _ | refine Sub.cons rfl ?_)) rfl fun k ⟨hk, hi⟩ => ?_
    rcases Nat.eq_or_lt_of_le hk with hke | hlt
    · repeat (first | refine xA ?_ | refine xB ?_ | refine xC ?_ | refine xE ?_ | refine xD ?_ | refine xK ?_ | refine xS ?_ | refine xM ?_ | refine xT ?_ | refine xF ?_ | ((first | refine xR ?_ | refine xW ?_ | refine vq_id ?_); simp only [go_sem, Nat.reduceAdd, Nat.reduceLeDiff, Nat.reduceSub, Int.reduceToNat, reduceCtorEq]) | (refine ⟨by first | omega | (intros; simp_all; done) | (intros; simp_all; omega), ?_⟩; try simp only [go_sem, Nat.reduceAdd, Nat.reduceLeDiff, Nat.reduceSub, Int.reduceToNat, reduceCtorEq]))
      refine AP.cond_false rfl (by simp only [go_sem, Nat.reduceAdd, Nat.reduceLeDiff, Nat.reduceSub, Int.reduceToNat, reduceCtorEq]; refine congrArg (fun b => some (AV.im (IV.v (Value.bool b)))) ?_; (first | (simp only [Bool.or_eq_true, Bool.and_eq_true, Bool.not_eq_true', Bool.not_eq_false', Bool.and_eq_false_iff, Bool.or_eq_false_iff, decide_eq_true_eq, decide_eq_false_iff_not, beq_iff_eq, bne_iff_ne, beq_eq_false_iff_ne, bne_eq_false_iff_eq, ne_eq]; omega) | (simp; done) | (simp; omega) | (simp_all; done) | (simp_all; omega))) ?_
      repeat (first | refine xA ?_ | refine xB ?_ | refine xC ?_ | refine xE ?_ | refine xD ?_ | refine xK ?_ | refine xS ?_ | refine xM ?_ | refine xT ?_ | refine xF ?_ | ((first | refine xR ?_ | refine xW ?_ | refine vq_id ?_); simp only [go_sem, Nat.reduceAdd, Nat.reduceLeDiff, Nat.reduceSub, Int.reduceToNat, reduceCtorEq]) | (refine ⟨by first | omega | (intros; simp_all; done) | (intros; simp_all; omega), ?_⟩; try simp only [go_sem, Nat.reduceAdd, Nat.reduceLeDiff, Nat.reduceSub, Int.reduceToNat, reduceCtorEq]))
      exact AE.ret0 rfl ⟨rfl, trivial⟩ rfl ⟨rfl, by rw [hi, List.drop_eq_nil_of_le (by omega)]; rfl⟩
    · have hg := wrR_get W' k hlt
      have hw := wr (x := (k : Int) + 1) (by omega)
      rw [drop_get W' k (0, []) hlt, chkW] at hi
      obtain ⟨p, hpp⟩ : ∃ p, W'.getD k (0, []) = p := ⟨_, rfl⟩
      rw [hpp] at hi hg
      obtain ⟨b, s⟩ := p
      simp only at hi hg
      repeat (first | refine xA ?_ | refine xB ?_ | refine xC ?_ | refine xE ?_ | refine xD ?_ | refine xK ?_ | refine xS ?_ | refine xM ?_ | refine xT ?_ | refine xF ?_ | ((first | refine xR ?_ | refine xW ?_ | refine vq_id ?_); simp only [go_sem, Nat.reduceAdd, Nat.reduceLeDiff, Nat.reduceSub, Int.reduceToNat, reduceCtorEq]) | (refine ⟨by first | omega | (intros; simp_all; done) | (intros; simp_all; omega), ?_⟩; try simp only [go_sem, Nat.reduceAdd, Nat.reduceLeDiff, Nat.reduceSub, Int.reduceToNat, reduceCtorEq]))
      refine AP.cond_true rfl (by simp only [go_sem, Nat.reduceAdd, Nat.reduceLeDiff, Nat.reduceSub, Int.reduceToNat, reduceCtorEq]; refine congrArg (fun b => some (AV.im (IV.v (Value.bool b)))) ?_; (first | (simp only [Bool.or_eq_true, Bool.and_eq_true, Bool.not_eq_true', Bool.not_eq_false', Bool.and_eq_false_iff, Bool.or_eq_false_iff, decide_eq_true_eq, decide_eq_false_iff_not, beq_iff_eq, bne_iff_ne, beq_eq_false_iff_ne, bne_eq_false_iff_eq, ne_eq]; omega) | (simp; done) | (simp; omega) | (simp_all; done) | (simp_all; omega))) ?_
      repeat (first | refine xA ?_ | refine xB ?_ | refine xC ?_ | refine xE ?_ | refine xD ?_ | refine xK ?_ | refine xS ?_ | refine xM ?_ | refine xT ?_ | refine xF ?_ | ((first | refine xR ?_ | refine xW ?_ | refine vq_id ?_); simp only [go_sem, Nat.reduceAdd, Nat.reduceLeDiff, Nat.reduceSub, Int.reduceToNat, reduceCtorEq, hg, wrR_len, blkR_len]) | (refine ⟨by first | omega | (intros; simp_all; done) | (intros; simp_all; omega), ?_⟩; try simp only [go_sem, Nat.reduceAdd, Nat.reduceLeDiff, Nat.reduceSub, Int.reduceToNat, reduceCtorEq, hg, wrR_len, blkR_len]))
      by_cases h1 : b < 0 ∨ (B.length : Int) ≤ b
      · rw [if_pos h1] at hi
        refine AP.cond_true rfl (by simp only [go_sem, Nat.reduceAdd, Nat.reduceLeDiff, Nat.reduceSub, Int.reduceToNat, reduceCtorEq]; refine congrArg (fun b => some (AV.im (IV.v (Value.bool b)))) ?_; (first | (simp only [Bool.or_eq_true, Bool.and_eq_true, Bool.not_eq_true', Bool.not_eq_false', Bool.and_eq_false_iff, Bool.or_eq_false_iff, decide_eq_true_eq, decide_eq_false_iff_not, beq_iff_eq, bne_iff_ne, beq_eq_false_iff_ne, bne_eq_false_iff_eq, ne_eq]; omega) | (simp; done) | (simp; omega) | (simp_all; done) | (simp_all; omega))) ?_
        repeat (first | refine xA ?_ | refine xB ?_ | refine xC ?_ | refine xE ?_ | refine xD ?_ | refine xK ?_ | refine xS ?_ | refine xM ?_ | refine xT ?_ | refine xF ?_ | ((first | refine xR ?_ | refine xW ?_ | refine vq_id ?_); simp only [go_sem, Nat.reduceAdd, Nat.reduceLeDiff, Nat.reduceSub, Int.reduceToNat, reduceCtorEq]) | (refine ⟨by first | omega | (intros; simp_all; done) | (intros; simp_all; omega), ?_⟩; try simp only [go_sem, Nat.reduceAdd, Nat.reduceLeDiff, Nat.reduceSub, Int.reduceToNat, reduceCtorEq]))
        exact AE.ret0 rfl ⟨rfl, trivial⟩ rfl ⟨rfl, by rw [hi]; rfl⟩
      · rw [if_neg h1] at hi
        refine AP.cond_false rfl (by simp only [go_sem, Nat.reduceAdd, Nat.reduceLeDiff, Nat.reduceSub, Int.reduceToNat, reduceCtorEq]; refine congrArg (fun b => some (AV.im (IV.v (Value.bool b)))) ?_; (first | (simp only [Bool.or_eq_true, Bool.and_eq_true, Bool.not_eq_true', Bool.not_eq_false', Bool.and_eq_false_iff, Bool.or_eq_false_iff, decide_eq_true_eq, decide_eq_false_iff_not, beq_iff_eq, bne_iff_ne, beq_eq_false_iff_ne, bne_eq_false_iff_eq, ne_eq]; omega) | (simp; done) | (simp; omega) | (simp_all; done) | (simp_all; omega))) ?_
        repeat (first | refine xA ?_ | refine xB ?_ | refine xC ?_ | refine xE ?_ | refine xD ?_ | refine xK ?_ | refine xS ?_ | refine xM ?_ | refine xT ?_ | refine xF ?_ | ((first | refine xR ?_ | refine xW ?_ | refine vq_id ?_); simp only [go_sem, Nat.reduceAdd, Nat.reduceLeDiff, Nat.reduceSub, Int.reduceToNat, reduceCtorEq]) | (refine ⟨by first | omega | (intros; simp_all; done) | (intros; simp_all; omega), ?_⟩; try simp only [go_sem, Nat.reduceAdd, Nat.reduceLeDiff, Nat.reduceSub, Int.reduceToNat, reduceCtorEq]))
        refine AQ.callF [] (by kernel_rfl) rfl rfl rfl rfl rfl rfl (fun k => by exact trivial) (fun k => rfl) (fun k => rfl) (h65 s) ?_
        simp only [go_sem, Nat.reduceAdd, Nat.reduceLeDiff, Nat.reduceSub, Int.reduceToNat, reduceCtorEq]
        repeat (first | refine xA ?_ | refine xB ?_ | refine xC ?_ | refine xE ?_ | refine xD ?_ | refine xK ?_ | refine xS ?_ | refine xM ?_ | refine xT ?_ | refine xF ?_ | ((first | refine xR ?_ | refine xW ?_ | refine vq_id ?_); simp only [go_sem, Nat.reduceAdd, Nat.reduceLeDiff, Nat.reduceSub, Int.reduceToNat, reduceCtorEq]) | (refine ⟨by first | omega | (intros; simp_all; done) | (intros; simp_all; omega), ?_⟩; try simp only [go_sem, Nat.reduceAdd, Nat.reduceLeDiff, Nat.reduceSub, Int.reduceToNat, reduceCtorEq]))
        refine AP.cond rfl rfl (fun hq => ?_) (fun hq => ?_)
        · rw [if_pos (by unfold not32' at hq; simp at hq; omega)] at hi
          repeat (first | refine xA ?_ | refine xB ?_ | refine xC ?_ | refine xE ?_ | refine xD ?_ | refine xK ?_ | refine xS ?_ | refine xM ?_ | refine xT ?_ | refine xF ?_ | ((first | refine xR ?_ | refine xW ?_ | refine vq_id ?_); simp only [go_sem, Nat.reduceAdd, Nat.reduceLeDiff, Nat.reduceSub, Int.reduceToNat, reduceCtorEq]) | (refine ⟨by first | omega | (intros; simp_all; done) | (intros; simp_all; omega), ?_⟩; try simp only [go_sem, Nat.reduceAdd, Nat.reduceLeDiff, Nat.reduceSub, Int.reduceToNat, reduceCtorEq]))
          exact AE.ret0 rfl ⟨rfl, trivial⟩ rfl ⟨rfl, by rw [hi]; rfl⟩
        · rw [if_neg (by unfold not32' at hq; simp at hq; omega)] at hi
          repeat (first | refine xA ?_ | refine xB ?_ | refine xC ?_ | refine xE ?_ | refine xD ?_ | refine xK ?_ | refine xS ?_ | refine xM ?_ | refine xT ?_ | refine xF ?_ | ((first | refine xR ?_ | refine xW ?_ | refine vq_id ?_); simp only [go_sem, Nat.reduceAdd, Nat.reduceLeDiff, Nat.reduceSub, Int.reduceToNat, reduceCtorEq, hw]) | (refine ⟨by first | omega | (intros; simp_all; done) | (intros; simp_all; omega), ?_⟩; try simp only [go_sem, Nat.reduceAdd, Nat.reduceLeDiff, Nat.reduceSub, Int.reduceToNat, reduceCtorEq, hw]))
          refine AE.forgets [0] rfl ?_
          simp only [go_sem, Nat.reduceAdd, Nat.reduceLeDiff, Nat.reduceSub, Int.reduceToNat, reduceCtorEq]
          exact AE.round (k + 1) ⟨by omega, hi⟩ (by omega) (by repeat (first | exact Sub.nil _ | refine Sub.cons rfl ?_)) rfl
  · have g : (okN B.length && B.all is32 && decide (W'.length ≤ 10000)) = false := by
      rw [Bool.eq_false_iff]
      intro e
      simp only [Bool.and_eq_true, decide_eq_true_eq] at e
      exact hg ⟨e.1.1, e.1.2, e.2⟩
    simp only [g, Bool.false_eq_true, if_false]
    have hcv : (!okN B.length || !B.all is32 || decide (10000 < (W'.length : Int))) = true := by
      rw [show decide (10000 < (W'.length : Int)) = !decide (W'.length ≤ 10000) by rw [Bool.eq_iff_iff]; simp; omega, ← Bool.not_and, ← Bool.not_and, g]; rfl
    refine AP.cond_true rfl (by simp only [go_sem, Nat.reduceAdd, Nat.reduceLeDiff, Nat.reduceSub, Int.reduceToNat, reduceCtorEq]; rw [hcv]) ?_
    repeat (first | refine xA ?_ | refine xB ?_ | refine xC ?_ | refine xE ?_ | refine xD ?_ | refine xK ?_ | refine xS ?_ | refine xM ?_ | refine xT ?_ | refine xF ?_ | ((first | refine xR ?_ | refine xW ?_ | refine vq_id ?_); simp only [go_sem, Nat.reduceAdd, Nat.reduceLeDiff, Nat.reduceSub, Int.reduceToNat, reduceCtorEq]) | (refine ⟨by first | omega | (intros; simp_all; done) | (intros; simp_all; omega), ?_⟩; try simp only [go_sem, Nat.reduceAdd, Nat.reduceLeDiff, Nat.reduceSub, Int.reduceToNat, reduceCtorEq]))
    exact AE.ret0 rfl ⟨rfl, trivial⟩ rfl ⟨rfl, rfl⟩
end Go.Proofs.Ytoafanbfminhcaa
end

section
namespace Go.Proofs.Ytoafanbfminhcaa
open Go Go.AL Go.RowKit
set_option maxRecDepth 10000
set_option maxHeartbeats 4000000
theorem take_all' {α : Type} (l : List α) (n : Nat) (h : l.length ≤ n) : l.take n = l := List.take_of_length_le h
theorem copyR_spec (d : Dk) (hd : d.Sz) : PFn Try.prog 66 [d.v] d.v := by
  obtain ⟨B, W'⟩ := d
  obtain ⟨hB, hW⟩ := hd
  simp only at hB hW
  refine ACall.walk [0, 1, 2] [2] Try.func66 rfl Try.ntmps66 (by kernel_rfl) (by rfl) rfl fun W own I0 φ0 => ?_
  repeat (first | refine xA ?_ | refine xB ?_ | refine xC ?_ | refine xE ?_ | refine xD ?_ | refine xK ?_ | refine xS ?_ | refine xM ?_ | refine xT ?_ | refine xF ?_ | ((first | refine xR ?_ | refine xW ?_ | refine vq_id ?_); simp only [go_sem, Nat.reduceAdd, Nat.reduceLeDiff, Nat.reduceSub, Int.reduceToNat, reduceCtorEq]) | (refine ⟨by first | omega | (intros; simp_all; done) | (intros; simp_all; omega), ?_⟩; try simp only [go_sem, Nat.reduceAdd, Nat.reduceLeDiff, Nat.reduceSub, Int.reduceToNat, reduceCtorEq]))
  refine AP.cut (α := Unit) (fun _ => [(2, .ob 0 0)]) (fun _ => [(0, .var 48 [.os 1 1 0 B.length, .os 2 2 0 W'.length]), (1, .vec 9 1 (blkR B)), (2, .vec 101 2 (wrR W'))]) (fun _ => True) ?_ fun _ _ => ?_
  · skip
    refine AP.drawE 10 (Tree.node [] [1, 2, 5, 6] [0, 4] [Tree.node [1, 2, 5, 6] [] [3, 4] [Tree.node [5, 6] [] [4] [Tree.node [5, 6] [] [7] [Tree.node [] [8] [9] [Tree.node [] [] [] []]]], Tree.node [1, 2, 5, 6] [] [3] [Tree.node [5, 6] [] [7] [Tree.node [] [8] [9] [Tree.node [] [] [] []]]]], Tree.node [1, 2, 5, 6] [] [0] [Tree.node [1, 2, 5, 6] [] [3] [Tree.node [5, 6] [] [7] [Tree.node [] [8] [9] [Tree.node [] [] [] []]]]]]) (by kernel_rfl) rfl (by kernel_rfl) (by kernel_rfl) ?_
    refine vd_node ?_
    simp only [go_sem, Nat.reduceAdd, Nat.reduceLeDiff, Nat.reduceSub, Int.reduceToNat, reduceCtorEq]
    repeat' (first | with_reducible exact True.intro | with_reducible refine And.intro (by omega) ?_ | with_reducible refine And.intro ?_ ?_ | (refine AQ.nx rfl ?_; simp only [go_sem, Nat.reduceAdd, Nat.reduceLeDiff, Nat.reduceSub, Int.reduceToNat, reduceCtorEq]) | (refine AQ.append (hnb := rfl) (rows := []) (es := 0) (by kernel_rfl) rfl rfl rfl (by rfl) Try.tk25 Try.sz9 (by show Option.map _ (zro Try.prog 9) = _; rw [Try.zr9]; rfl) Try.by9 (by first | rfl | (simp only [blkR_len, List.length_cons, List.length_nil]; done) | (simp only [blkR_len, List.length_cons, List.length_nil]; omega)) (by simp only [blkR_len, List.length_cons, List.length_nil]; omega) (by simp only [blkR_len, List.length_cons, List.length_nil]; omega) ?_; simp only [go_sem, Nat.reduceAdd, Nat.reduceLeDiff, Nat.reduceSub, Int.reduceToNat, reduceCtorEq, List.nil_append, blkR_len]) | (refine AQ.append (hnb := rfl) (rows := []) (es := 1) (by kernel_rfl) rfl rfl rfl (by rfl) Try.tk46 Try.sz101 (by show Option.map _ (zro Try.prog 101) = _; rw [Try.zr101]; rfl) Try.by101 (by first | rfl | (simp only [wrR_len, List.length_cons, List.length_nil]; done) | (simp only [wrR_len, List.length_cons, List.length_nil]; omega)) (by simp only [wrR_len, List.length_cons, List.length_nil]; omega) (by simp only [wrR_len, List.length_cons, List.length_nil]; omega) ?_; simp only [go_sem, Nat.reduceAdd, Nat.reduceLeDiff, Nat.reduceSub, Int.reduceToNat, reduceCtorEq, List.nil_append, wrR_len]) | refine AQ.done ?_ | (refine AQ.go (by kernel_rfl) ?_; simp only [go_sem, Nat.reduceAdd, Nat.reduceLeDiff, Nat.reduceSub, Int.reduceToNat, reduceCtorEq]; repeat (with_reducible refine And.intro (by omega) ?_); refine AQ.nx rfl ?_; simp only [go_sem, Nat.reduceAdd, Nat.reduceLeDiff, Nat.reduceSub, Int.reduceToNat, reduceCtorEq]))
    all_goals first
      | (refine AE.order [0, 1, 2] rfl ?_; simp only [go_sem, Nat.reduceAdd, Nat.reduceLeDiff, Nat.reduceSub, Int.reduceToNat, reduceCtorEq]; exact AE.meet () trivial (by repeat (first | exact Sub.nil _ | refine Sub.cons rfl ?_)) rfl)
      | (refine AE.rename 1 3 rfl rfl rfl ?_; simp only [go_sem, Nat.reduceAdd, Nat.reduceLeDiff, Nat.reduceSub, Int.reduceToNat, reduceCtorEq]; refine AE.rename 2 1 rfl rfl rfl ?_; simp only [go_sem, Nat.reduceAdd, Nat.reduceLeDiff, Nat.reduceSub, Int.reduceToNat, reduceCtorEq]; refine AE.rename 3 2 rfl rfl rfl ?_; simp only [go_sem, Nat.reduceAdd, Nat.reduceLeDiff, Nat.reduceSub, Int.reduceToNat, reduceCtorEq]; refine AE.order [0, 1, 2] rfl ?_; simp only [go_sem, Nat.reduceAdd, Nat.reduceLeDiff, Nat.reduceSub, Int.reduceToNat, reduceCtorEq]; exact AE.meet () trivial (by repeat (first | exact Sub.nil _ | refine Sub.cons rfl ?_)) rfl)
  · repeat (first | refine xA ?_ | refine xB ?_ | refine xC ?_ | refine xE ?_ | refine xD ?_ | refine xK ?_ | refine xS ?_ | refine xM ?_ | refine xT ?_ | refine xF ?_ | ((first | refine xR ?_ | refine xW ?_ | refine vq_id ?_); simp only [go_sem, Nat.reduceAdd, Nat.reduceLeDiff, Nat.reduceSub, Int.reduceToNat, reduceCtorEq]) | (refine ⟨by first | omega | (intros; simp_all; done) | (intros; simp_all; omega), ?_⟩; try simp only [go_sem, Nat.reduceAdd, Nat.reduceLeDiff, Nat.reduceSub, Int.reduceToNat, reduceCtorEq]))
    refine AE.freeze 1 (el := 9) (es := 1) (rows := blkR B) rfl (by simp only [go_sem, Nat.reduceAdd, Nat.reduceLeDiff, Nat.reduceSub, Int.reduceToNat, reduceCtorEq, blkR_len]; first | done | trivial | omega | (simp; done) | (simp; omega)) (by simp only [go_sem, Nat.reduceAdd, Nat.reduceLeDiff, Nat.reduceSub, Int.reduceToNat, reduceCtorEq, blkR_len]; first | done | trivial | omega | (simp; done) | (simp; omega)) ?_; simp only [go_sem, Nat.reduceAdd, Nat.reduceLeDiff, Nat.reduceSub, Int.reduceToNat, reduceCtorEq, blkR_len]
    refine AE.freeze 2 (el := 101) (es := 2) (rows := wrR W') rfl (by simp only [go_sem, Nat.reduceAdd, Nat.reduceLeDiff, Nat.reduceSub, Int.reduceToNat, reduceCtorEq, wrR_len]; first | done | trivial | omega | (simp; done) | (simp; omega)) (by simp only [go_sem, Nat.reduceAdd, Nat.reduceLeDiff, Nat.reduceSub, Int.reduceToNat, reduceCtorEq, wrR_len]; first | done | trivial | omega | (simp; done) | (simp; omega)) ?_; simp only [go_sem, Nat.reduceAdd, Nat.reduceLeDiff, Nat.reduceSub, Int.reduceToNat, reduceCtorEq, wrR_len]
    rw [take_all' (blkR B) _ (by rw [blkR_len]; exact Nat.le_refl _), take_all' (wrR W') _ (by rw [wrR_len]; exact Nat.le_refl _)]
    exact AE.ret0 rfl ⟨⟨rfl, Nat.le_of_ble_eq_true (by kernel_rfl)⟩, trivial⟩ rfl ⟨rfl, rfl⟩
theorem eqStrs (a b : List Bs) (ha : a.length ≤ 1000000000) (hb : b.length ≤ 1000000000) : PFn Try.prog 20 [.im (.sl 1 (blkR a)), .im (.sl 1 (blkR b))] (Bv (decide (a = b))) := by
  refine ACall.walk [0, 1, 4, 5, 10, 12, 13, 14, 24] [] Try.func20 rfl Try.ntmps20 (by kernel_rfl) (by rfl) rfl fun W own I0 φ0 => ?_
  repeat (first | refine xA ?_ | refine xB ?_ | refine xC ?_ | refine xE ?_ | refine xD ?_ | refine xK ?_ | refine xS ?_ | refine xM ?_ | refine xT ?_ | refine xF ?_ | ((first | refine xR ?_ | refine xW ?_ | refine vq_id ?_); simp only [go_sem, Nat.reduceAdd, Nat.reduceLeDiff, Nat.reduceSub, Int.reduceToNat, reduceCtorEq, blkR_len]) | (refine ⟨by first | omega | (intros; simp_all; done) | (intros; simp_all; omega), ?_⟩; try simp only [go_sem, Nat.reduceAdd, Nat.reduceLeDiff, Nat.reduceSub, Int.reduceToNat, reduceCtorEq, blkR_len]))
  rcases Nat.decEq a.length b.length with hne | he
  · refine AP.cond_true rfl (by simp only [go_sem, Nat.reduceAdd, Nat.reduceLeDiff, Nat.reduceSub, Int.reduceToNat, reduceCtorEq]; refine congrArg (fun b => some (AV.im (IV.v (Value.bool b)))) ?_; (first | (simp only [Bool.or_eq_true, Bool.and_eq_true, Bool.not_eq_true', Bool.not_eq_false', Bool.and_eq_false_iff, Bool.or_eq_false_iff, decide_eq_true_eq, decide_eq_false_iff_not, beq_iff_eq, bne_iff_ne, beq_eq_false_iff_ne, bne_eq_false_iff_eq, ne_eq]; omega) | (simp; done) | (simp; omega) | (simp_all; done) | (simp_all; omega))) ?_
    repeat (first | refine xA ?_ | refine xB ?_ | refine xC ?_ | refine xE ?_ | refine xD ?_ | refine xK ?_ | refine xS ?_ | refine xM ?_ | refine xT ?_ | refine xF ?_ | ((first | refine xR ?_ | refine xW ?_ | refine vq_id ?_); simp only [go_sem, Nat.reduceAdd, Nat.reduceLeDiff, Nat.reduceSub, Int.reduceToNat, reduceCtorEq]) | (refine ⟨by first | omega | (intros; simp_all; done) | (intros; simp_all; omega), ?_⟩; try simp only [go_sem, Nat.reduceAdd, Nat.reduceLeDiff, Nat.reduceSub, Int.reduceToNat, reduceCtorEq]))
    exact AE.ret rfl ⟨rfl, trivial⟩ ⟨rfl, by rw [decide_eq_false (fun e => hne (by rw [e]))]; rfl⟩
  · refine AP.cond_false rfl (by simp only [go_sem, Nat.reduceAdd, Nat.reduceLeDiff, Nat.reduceSub, Int.reduceToNat, reduceCtorEq]; refine congrArg (fun b => some (AV.im (IV.v (Value.bool b)))) ?_; (first | (simp only [Bool.or_eq_true, Bool.and_eq_true, Bool.not_eq_true', Bool.not_eq_false', Bool.and_eq_false_iff, Bool.or_eq_false_iff, decide_eq_true_eq, decide_eq_false_iff_not, beq_iff_eq, bne_iff_ne, beq_eq_false_iff_ne, bne_eq_false_iff_eq, ne_eq]; omega) | (simp; done) | (simp; omega) | (simp_all; done) | (simp_all; omega))) ?_
    repeat (first | refine xA ?_ | refine xB ?_ | refine xC ?_ | refine xE ?_ | refine xD ?_ | refine xK ?_ | refine xS ?_ | refine xM ?_ | refine xT ?_ | refine xF ?_ | ((first | refine xR ?_ | refine xW ?_ | refine vq_id ?_); simp only [go_sem, Nat.reduceAdd, Nat.reduceLeDiff, Nat.reduceSub, Int.reduceToNat, reduceCtorEq, blkR_len]) | (refine ⟨by first | omega | (intros; simp_all; done) | (intros; simp_all; omega), ?_⟩; try simp only [go_sem, Nat.reduceAdd, Nat.reduceLeDiff, Nat.reduceSub, Int.reduceToNat, reduceCtorEq, blkR_len]))
    refine AP.loop rfl (α := Nat) (fun k => [(0, .im (.sl 1 (blkR a))), (1, .im (.sl 1 (blkR b))), (12, Iv a.length), (13, Iv k)]) (fun _ => []) (fun k => k ≤ a.length ∧ decide (a = b) = decide (a.drop k = b.drop k)) (fun k => a.length - k) 0 ⟨by omega, by simp⟩ (by repeat (first | exact Sub.nil _ | refine Sub.cons rfl ?_)) rfl fun k ⟨hk, hi⟩ => ?_
    have hw := wr (x := (k : Int) + 1) (by omega)
    rcases Nat.eq_or_lt_of_le hk with hke | hlt
    · repeat (first | refine xA ?_ | refine xB ?_ | refine xC ?_ | refine xE ?_ | refine xD ?_ | refine xK ?_ | refine xS ?_ | refine xM ?_ | refine xT ?_ | refine xF ?_ | ((first | refine xR ?_ | refine xW ?_ | refine vq_id ?_); simp only [go_sem, Nat.reduceAdd, Nat.reduceLeDiff, Nat.reduceSub, Int.reduceToNat, reduceCtorEq]) | (refine ⟨by first | omega | (intros; simp_all; done) | (intros; simp_all; omega), ?_⟩; try simp only [go_sem, Nat.reduceAdd, Nat.reduceLeDiff, Nat.reduceSub, Int.reduceToNat, reduceCtorEq]))
      refine AP.cond_false rfl (by simp only [go_sem, Nat.reduceAdd, Nat.reduceLeDiff, Nat.reduceSub, Int.reduceToNat, reduceCtorEq]; refine congrArg (fun b => some (AV.im (IV.v (Value.bool b)))) ?_; (first | (simp only [Bool.or_eq_true, Bool.and_eq_true, Bool.not_eq_true', Bool.not_eq_false', Bool.and_eq_false_iff, Bool.or_eq_false_iff, decide_eq_true_eq, decide_eq_false_iff_not, beq_iff_eq, bne_iff_ne, beq_eq_false_iff_ne, bne_eq_false_iff_eq, ne_eq]; omega) | (simp; done) | (simp; omega) | (simp_all; done) | (simp_all; omega))) ?_
      repeat (first | refine xA ?_ | refine xB ?_ | refine xC ?_ | refine xE ?_ | refine xD ?_ | refine xK ?_ | refine xS ?_ | refine xM ?_ | refine xT ?_ | refine xF ?_ | ((first | refine xR ?_ | refine xW ?_ | refine vq_id ?_); simp only [go_sem, Nat.reduceAdd, Nat.reduceLeDiff, Nat.reduceSub, Int.reduceToNat, reduceCtorEq]) | (refine ⟨by first | omega | (intros; simp_all; done) | (intros; simp_all; omega), ?_⟩; try simp only [go_sem, Nat.reduceAdd, Nat.reduceLeDiff, Nat.reduceSub, Int.reduceToNat, reduceCtorEq]))
      exact AE.ret rfl ⟨rfl, trivial⟩ ⟨rfl, by rw [hi, List.drop_eq_nil_of_le (by omega), List.drop_eq_nil_of_le (by omega)]; rfl⟩
    · have g1 := blkR_get a k hlt
      have g2 := blkR_get b k (by omega)
      rw [drop_get a k [] hlt, drop_get b k [] (by omega)] at hi
      repeat (first | refine xA ?_ | refine xB ?_ | refine xC ?_ | refine xE ?_ | refine xD ?_ | refine xK ?_ | refine xS ?_ | refine xM ?_ | refine xT ?_ | refine xF ?_ | ((first | refine xR ?_ | refine xW ?_ | refine vq_id ?_); simp only [go_sem, Nat.reduceAdd, Nat.reduceLeDiff, Nat.reduceSub, Int.reduceToNat, reduceCtorEq]) | (refine ⟨by first | omega | (intros; simp_all; done) | (intros; simp_all; omega), ?_⟩; try simp only [go_sem, Nat.reduceAdd, Nat.reduceLeDiff, Nat.reduceSub, Int.reduceToNat, reduceCtorEq]))
      refine AP.cond_true rfl (by simp only [go_sem, Nat.reduceAdd, Nat.reduceLeDiff, Nat.reduceSub, Int.reduceToNat, reduceCtorEq]; refine congrArg (fun b => some (AV.im (IV.v (Value.bool b)))) ?_; (first | (simp only [Bool.or_eq_true, Bool.and_eq_true, Bool.not_eq_true', Bool.not_eq_false', Bool.and_eq_false_iff, Bool.or_eq_false_iff, decide_eq_true_eq, decide_eq_false_iff_not, beq_iff_eq, bne_iff_ne, beq_eq_false_iff_ne, bne_eq_false_iff_eq, ne_eq]; omega) | (simp; done) | (simp; omega) | (simp_all; done) | (simp_all; omega))) ?_
      repeat (first | refine xA ?_ | refine xB ?_ | refine xC ?_ | refine xE ?_ | refine xD ?_ | refine xK ?_ | refine xS ?_ | refine xM ?_ | refine xT ?_ | refine xF ?_ | ((first | refine xR ?_ | refine xW ?_ | refine vq_id ?_); simp only [go_sem, Nat.reduceAdd, Nat.reduceLeDiff, Nat.reduceSub, Int.reduceToNat, reduceCtorEq, g1, g2, blkR_len]) | (refine ⟨by first | omega | (intros; simp_all; done) | (intros; simp_all; omega), ?_⟩; try simp only [go_sem, Nat.reduceAdd, Nat.reduceLeDiff, Nat.reduceSub, Int.reduceToNat, reduceCtorEq, g1, g2, blkR_len]))
      refine AP.cond rfl rfl (fun hc => ?_) (fun hc => ?_)
      · repeat (first | refine xA ?_ | refine xB ?_ | refine xC ?_ | refine xE ?_ | refine xD ?_ | refine xK ?_ | refine xS ?_ | refine xM ?_ | refine xT ?_ | refine xF ?_ | ((first | refine xR ?_ | refine xW ?_ | refine vq_id ?_); simp only [go_sem, Nat.reduceAdd, Nat.reduceLeDiff, Nat.reduceSub, Int.reduceToNat, reduceCtorEq]) | (refine ⟨by first | omega | (intros; simp_all; done) | (intros; simp_all; omega), ?_⟩; try simp only [go_sem, Nat.reduceAdd, Nat.reduceLeDiff, Nat.reduceSub, Int.reduceToNat, reduceCtorEq]))
        exact AE.ret rfl ⟨rfl, trivial⟩ ⟨rfl, by rw [hi, decide_eq_false (fun e => by simp at hc e; exact hc e.1)]; rfl⟩
      · repeat (first | refine xA ?_ | refine xB ?_ | refine xC ?_ | refine xE ?_ | refine xD ?_ | refine xK ?_ | refine xS ?_ | refine xM ?_ | refine xT ?_ | refine xF ?_ | ((first | refine xR ?_ | refine xW ?_ | refine vq_id ?_); simp only [go_sem, Nat.reduceAdd, Nat.reduceLeDiff, Nat.reduceSub, Int.reduceToNat, reduceCtorEq, hw]) | (refine ⟨by first | omega | (intros; simp_all; done) | (intros; simp_all; omega), ?_⟩; try simp only [go_sem, Nat.reduceAdd, Nat.reduceLeDiff, Nat.reduceSub, Int.reduceToNat, reduceCtorEq, hw]))
        refine AE.round (k + 1) ⟨by omega, ?_⟩ (by omega) (by repeat (first | exact Sub.nil _ | refine Sub.cons rfl ?_)) rfl
        rw [hi]
        simp at hc
        simp [hc]
theorem same1_spec (a b : Wr) : PFn Try.prog 64 [.agg [Iv a.1, Sv a.2], .agg [Iv b.1, Sv b.2]] (Bv (decide (a = b))) := by
  refine ACall.walk [0, 1, 2, 3, 4] [] Try.func64 rfl Try.ntmps64 (by kernel_rfl) (by rfl) rfl fun W own I0 φ0 => ?_
  repeat (first | refine xA ?_ | refine xB ?_ | refine xC ?_ | refine xE ?_ | refine xD ?_ | refine xK ?_ | refine xS ?_ | refine xM ?_ | refine xT ?_ | refine xF ?_ | ((first | refine xR ?_ | refine xW ?_ | refine vq_id ?_); simp only [go_sem, Nat.reduceAdd, Nat.reduceLeDiff, Nat.reduceSub, Int.reduceToNat, reduceCtorEq]) | (refine ⟨by first | omega | (intros; simp_all; done) | (intros; simp_all; omega), ?_⟩; try simp only [go_sem, Nat.reduceAdd, Nat.reduceLeDiff, Nat.reduceSub, Int.reduceToNat, reduceCtorEq]))
  have e : (a.1 == b.1 && a.2 == b.2) = decide (a = b) := by
    rw [Bool.eq_iff_iff, Bool.and_eq_true, beq_iff_eq, beq_iff_eq, decide_eq_true_eq]
    exact ⟨fun h => Prod.ext h.1 h.2, fun h => by rw [h]; exact ⟨rfl, rfl⟩⟩
  exact AE.ret0 rfl ⟨rfl, trivial⟩ rfl ⟨rfl, by rw [← e]; rfl⟩
theorem eqWr (a b : List Wr) (ha : a.length ≤ 1000000000) (hb : b.length ≤ 1000000000) : PFn Try.prog 63 [.im (.sl 2 (wrR a)), .im (.sl 2 (wrR b)), .fn 64 [] []] (Bv (decide (a = b))) := by
  refine ACall.walk [0, 1, 2, 6, 7, 8, 9, 14, 15, 16, 17, 18, 30] [8, 9] Try.func63 rfl Try.ntmps63 (by kernel_rfl) (by rfl) rfl fun W own I0 φ0 => ?_
  repeat (first | refine xA ?_ | refine xB ?_ | refine xC ?_ | refine xE ?_ | refine xD ?_ | refine xK ?_ | refine xS ?_ | refine xM ?_ | refine xT ?_ | refine xF ?_ | ((first | refine xR ?_ | refine xW ?_ | refine vq_id ?_); simp only [go_sem, Nat.reduceAdd, Nat.reduceLeDiff, Nat.reduceSub, Int.reduceToNat, reduceCtorEq, wrR_len]) | (refine ⟨by first | omega | (intros; simp_all; done) | (intros; simp_all; omega), ?_⟩; try simp only [go_sem, Nat.reduceAdd, Nat.reduceLeDiff, Nat.reduceSub, Int.reduceToNat, reduceCtorEq, wrR_len]))
  rcases Nat.decEq a.length b.length with hne | he
  · refine AP.cond_true rfl (by simp only [go_sem, Nat.reduceAdd, Nat.reduceLeDiff, Nat.reduceSub, Int.reduceToNat, reduceCtorEq]; refine congrArg (fun b => some (AV.im (IV.v (Value.bool b)))) ?_; (first | (simp only [Bool.or_eq_true, Bool.and_eq_true, Bool.not_eq_true', Bool.not_eq_false', Bool.and_eq_false_iff, Bool.or_eq_false_iff, decide_eq_true_eq, decide_eq_false_iff_not, beq_iff_eq, bne_iff_ne, beq_eq_false_iff_ne, bne_eq_false_iff_eq, ne_eq]; omega) | (simp; done) | (simp; omega) | (simp_all; done) | (simp_all; omega))) ?_
    repeat (first | refine xA ?_ | refine xB ?_ | refine xC ?_ | refine xE ?_ | refine xD ?_ | refine xK ?_ | refine xS ?_ | refine xM ?_ | refine xT ?_ | refine xF ?_ | ((first | refine xR ?_ | refine xW ?_ | refine vq_id ?_); simp only [go_sem, Nat.reduceAdd, Nat.reduceLeDiff, Nat.reduceSub, Int.reduceToNat, reduceCtorEq]) | (refine ⟨by first | omega | (intros; simp_all; done) | (intros; simp_all; omega), ?_⟩; try simp only [go_sem, Nat.reduceAdd, Nat.reduceLeDiff, Nat.reduceSub, Int.reduceToNat, reduceCtorEq]))
    exact AE.ret rfl ⟨rfl, trivial⟩ ⟨rfl, by rw [decide_eq_false (fun e => hne (by rw [e]))]; rfl⟩
  · refine AP.cond_false rfl (by simp only [go_sem, Nat.reduceAdd, Nat.reduceLeDiff, Nat.reduceSub, Int.reduceToNat, reduceCtorEq]; refine congrArg (fun b => some (AV.im (IV.v (Value.bool b)))) ?_; (first | (simp only [Bool.or_eq_true, Bool.and_eq_true, Bool.not_eq_true', Bool.not_eq_false', Bool.and_eq_false_iff, Bool.or_eq_false_iff, decide_eq_true_eq, decide_eq_false_iff_not, beq_iff_eq, bne_iff_ne, beq_eq_false_iff_ne, bne_eq_false_iff_eq, ne_eq]; omega) | (simp; done) | (simp; omega) | (simp_all; done) | (simp_all; omega))) ?_
    repeat (first | refine xA ?_ | refine xB ?_ | refine xC ?_ | refine xE ?_ | refine xD ?_ | refine xK ?_ | refine xS ?_ | refine xM ?_ | refine xT ?_ | refine xF ?_ | ((first | refine xR ?_ | refine xW ?_ | refine vq_id ?_); simp only [go_sem, Nat.reduceAdd, Nat.reduceLeDiff, Nat.reduceSub, Int.reduceToNat, reduceCtorEq, wrR_len]) | (refine ⟨by first | omega | (intros; simp_all; done) | (intros; simp_all; omega), ?_⟩; try simp only [go_sem, Nat.reduceAdd, Nat.reduceLeDiff, Nat.reduceSub, Int.reduceToNat, reduceCtorEq, wrR_len]))
    refine AP.loop rfl (α := Nat) (fun k => [(0, .im (.sl 2 (wrR a))), (1, .im (.sl 2 (wrR b))), (2, .fn 64 [] []), (15, .im (.sl 2 (wrR a))), (16, Iv a.length), (17, Iv k)]) (fun _ => []) (fun k => k ≤ a.length ∧ decide (a = b) = decide (a.drop k = b.drop k)) (fun k => a.length - k) 0 ⟨by omega, by simp⟩ (by repeat (first | exact Sub.nil _ | refine Sub.cons rfl ?_)) rfl fun k ⟨hk, hi⟩ => ?_
    have hw := wr (x := (k : Int) + 1) (by omega)
    rcases Nat.eq_or_lt_of_le hk with hke | hlt
    · repeat (first | refine xA ?_ | refine xB ?_ | refine xC ?_ | refine xE ?_ | refine xD ?_ | refine xK ?_ | refine xS ?_ | refine xM ?_ | refine xT ?_ | refine xF ?_ | ((first | refine xR ?_ | refine xW ?_ | refine vq_id ?_); simp only [go_sem, Nat.reduceAdd, Nat.reduceLeDiff, Nat.reduceSub, Int.reduceToNat, reduceCtorEq]) | (refine ⟨by first | omega | (intros; simp_all; done) | (intros; simp_all; omega), ?_⟩; try simp only [go_sem, Nat.reduceAdd, Nat.reduceLeDiff, Nat.reduceSub, Int.reduceToNat, reduceCtorEq]))
      refine AP.cond_false rfl (by simp only [go_sem, Nat.reduceAdd, Nat.reduceLeDiff, Nat.reduceSub, Int.reduceToNat, reduceCtorEq]; refine congrArg (fun b => some (AV.im (IV.v (Value.bool b)))) ?_; (first | (simp only [Bool.or_eq_true, Bool.and_eq_true, Bool.not_eq_true', Bool.not_eq_false', Bool.and_eq_false_iff, Bool.or_eq_false_iff, decide_eq_true_eq, decide_eq_false_iff_not, beq_iff_eq, bne_iff_ne, beq_eq_false_iff_ne, bne_eq_false_iff_eq, ne_eq]; omega) | (simp; done) | (simp; omega) | (simp_all; done) | (simp_all; omega))) ?_
      repeat (first | refine xA ?_ | refine xB ?_ | refine xC ?_ | refine xE ?_ | refine xD ?_ | refine xK ?_ | refine xS ?_ | refine xM ?_ | refine xT ?_ | refine xF ?_ | ((first | refine xR ?_ | refine xW ?_ | refine vq_id ?_); simp only [go_sem, Nat.reduceAdd, Nat.reduceLeDiff, Nat.reduceSub, Int.reduceToNat, reduceCtorEq]) | (refine ⟨by first | omega | (intros; simp_all; done) | (intros; simp_all; omega), ?_⟩; try simp only [go_sem, Nat.reduceAdd, Nat.reduceLeDiff, Nat.reduceSub, Int.reduceToNat, reduceCtorEq]))
      exact AE.ret rfl ⟨rfl, trivial⟩ ⟨rfl, by rw [hi, List.drop_eq_nil_of_le (by omega), List.drop_eq_nil_of_le (by omega)]; rfl⟩
    · have g1 := wrR_get a k hlt
      have g2 := wrR_get b k (by omega)
      have hs := same1_spec (a.getD k (0, [])) (b.getD k (0, []))
      rw [drop_get a k (0, []) hlt, drop_get b k (0, []) (by omega)] at hi
      repeat (first | refine xA ?_ | refine xB ?_ | refine xC ?_ | refine xE ?_ | refine xD ?_ | refine xK ?_ | refine xS ?_ | refine xM ?_ | refine xT ?_ | refine xF ?_ | ((first | refine xR ?_ | refine xW ?_ | refine vq_id ?_); simp only [go_sem, Nat.reduceAdd, Nat.reduceLeDiff, Nat.reduceSub, Int.reduceToNat, reduceCtorEq]) | (refine ⟨by first | omega | (intros; simp_all; done) | (intros; simp_all; omega), ?_⟩; try simp only [go_sem, Nat.reduceAdd, Nat.reduceLeDiff, Nat.reduceSub, Int.reduceToNat, reduceCtorEq]))
      refine AP.cond_true rfl (by simp only [go_sem, Nat.reduceAdd, Nat.reduceLeDiff, Nat.reduceSub, Int.reduceToNat, reduceCtorEq]; refine congrArg (fun b => some (AV.im (IV.v (Value.bool b)))) ?_; (first | (simp only [Bool.or_eq_true, Bool.and_eq_true, Bool.not_eq_true', Bool.not_eq_false', Bool.and_eq_false_iff, Bool.or_eq_false_iff, decide_eq_true_eq, decide_eq_false_iff_not, beq_iff_eq, bne_iff_ne, beq_eq_false_iff_ne, bne_eq_false_iff_eq, ne_eq]; omega) | (simp; done) | (simp; omega) | (simp_all; done) | (simp_all; omega))) ?_
      repeat (first | refine xA ?_ | refine xB ?_ | refine xC ?_ | refine xE ?_ | refine xD ?_ | refine xK ?_ | refine xS ?_ | refine xM ?_ | refine xT ?_ | refine xF ?_ | ((first | refine xR ?_ | refine xW ?_ | refine vq_id ?_); simp only [go_sem, Nat.reduceAdd, Nat.reduceLeDiff, Nat.reduceSub, Int.reduceToNat, reduceCtorEq, g1, g2, wrR_len]) | (refine ⟨by first | omega | (intros; simp_all; done) | (intros; simp_all; omega), ?_⟩; try simp only [go_sem, Nat.reduceAdd, Nat.reduceLeDiff, Nat.reduceSub, Int.reduceToNat, reduceCtorEq, g1, g2, wrR_len]))
      refine AQ.callF [] (by kernel_rfl) rfl rfl rfl rfl rfl rfl (fun k => by exact trivial) (fun k => rfl) (fun k => rfl) hs ?_
      simp only [go_sem, Nat.reduceAdd, Nat.reduceLeDiff, Nat.reduceSub, Int.reduceToNat, reduceCtorEq]
      repeat (first | refine xA ?_ | refine xB ?_ | refine xC ?_ | refine xE ?_ | refine xD ?_ | refine xK ?_ | refine xS ?_ | refine xM ?_ | refine xT ?_ | refine xF ?_ | ((first | refine xR ?_ | refine xW ?_ | refine vq_id ?_); simp only [go_sem, Nat.reduceAdd, Nat.reduceLeDiff, Nat.reduceSub, Int.reduceToNat, reduceCtorEq]) | (refine ⟨by first | omega | (intros; simp_all; done) | (intros; simp_all; omega), ?_⟩; try simp only [go_sem, Nat.reduceAdd, Nat.reduceLeDiff, Nat.reduceSub, Int.reduceToNat, reduceCtorEq]))
      refine AP.cond rfl rfl (fun hc => ?_) (fun hc => ?_)
      · repeat (first | refine xA ?_ | refine xB ?_ | refine xC ?_ | refine xE ?_ | refine xD ?_ | refine xK ?_ | refine xS ?_ | refine xM ?_ | refine xT ?_ | refine xF ?_ | ((first | refine xR ?_ | refine xW ?_ | refine vq_id ?_); simp only [go_sem, Nat.reduceAdd, Nat.reduceLeDiff, Nat.reduceSub, Int.reduceToNat, reduceCtorEq]) | (refine ⟨by first | omega | (intros; simp_all; done) | (intros; simp_all; omega), ?_⟩; try simp only [go_sem, Nat.reduceAdd, Nat.reduceLeDiff, Nat.reduceSub, Int.reduceToNat, reduceCtorEq]))
        exact AE.ret0 rfl ⟨rfl, trivial⟩ rfl ⟨rfl, by rw [hi, decide_eq_false (fun e => by simp at hc e; exact hc e.1)]; rfl⟩
      · repeat (first | refine xA ?_ | refine xB ?_ | refine xC ?_ | refine xE ?_ | refine xD ?_ | refine xK ?_ | refine xS ?_ | refine xM ?_ | refine xT ?_ | refine xF ?_ | ((first | refine xR ?_ | refine xW ?_ | refine vq_id ?_); simp only [go_sem, Nat.reduceAdd, Nat.reduceLeDiff, Nat.reduceSub, Int.reduceToNat, reduceCtorEq, hw]) | (refine ⟨by first | omega | (intros; simp_all; done) | (intros; simp_all; omega), ?_⟩; try simp only [go_sem, Nat.reduceAdd, Nat.reduceLeDiff, Nat.reduceSub, Int.reduceToNat, reduceCtorEq, hw]))
        refine AE.forgets [0, 1] rfl ?_
        simp only [go_sem, Nat.reduceAdd, Nat.reduceLeDiff, Nat.reduceSub, Int.reduceToNat, reduceCtorEq]
        refine AE.round (k + 1) ⟨by omega, ?_⟩ (by omega) (by repeat (first | exact Sub.nil _ | refine Sub.cons rfl ?_)) rfl
        rw [hi]
        simp at hc
        simp [hc]
theorem same_spec (a b : Dk) (ha : a.Sz) (hb : b.Sz) : PFn Try.prog 25 [a.v, b.v] (Bv (decide (a.B = b.B) && decide (a.W = b.W))) := by
  obtain ⟨B, W'⟩ := a
  obtain ⟨B2, W2⟩ := b
  have h1 := eqStrs B B2 ha.b hb.b
  have h2 := eqWr W' W2 ha.w hb.w
  refine ACall.walk [0, 1, 2, 3, 4] [] Try.func25 rfl Try.ntmps25 (by kernel_rfl) (by rfl) rfl fun W own I0 φ0 => ?_
  repeat (first | refine xA ?_ | refine xB ?_ | refine xC ?_ | refine xE ?_ | refine xD ?_ | refine xK ?_ | refine xS ?_ | refine xM ?_ | refine xT ?_ | refine xF ?_ | ((first | refine xR ?_ | refine xW ?_ | refine vq_id ?_); simp only [go_sem, Nat.reduceAdd, Nat.reduceLeDiff, Nat.reduceSub, Int.reduceToNat, reduceCtorEq]) | (refine ⟨by first | omega | (intros; simp_all; done) | (intros; simp_all; omega), ?_⟩; try simp only [go_sem, Nat.reduceAdd, Nat.reduceLeDiff, Nat.reduceSub, Int.reduceToNat, reduceCtorEq]))
  refine AQ.fn (by kernel_rfl) rfl rfl rfl (h1) rfl ?_
  repeat (first | refine xA ?_ | refine xB ?_ | refine xC ?_ | refine xE ?_ | refine xD ?_ | refine xK ?_ | refine xS ?_ | refine xM ?_ | refine xT ?_ | refine xF ?_ | ((first | refine xR ?_ | refine xW ?_ | refine vq_id ?_); simp only [go_sem, Nat.reduceAdd, Nat.reduceLeDiff, Nat.reduceSub, Int.reduceToNat, reduceCtorEq]) | (refine ⟨by first | omega | (intros; simp_all; done) | (intros; simp_all; omega), ?_⟩; try simp only [go_sem, Nat.reduceAdd, Nat.reduceLeDiff, Nat.reduceSub, Int.reduceToNat, reduceCtorEq]))
  refine AQ.fn_g (by kernel_rfl) rfl rfl (fun h => by first | (simp [gs, AV.g]; done) | (simp [gs, AV.g, constAV]; done) | (simp [gs, AV.g, constAV, bw] at h ⊢; done) | (simp [bw] at h; done) | (simp [gs, AV.g, bw] at h ⊢; simp [h]; done) | (simp [gs, AV.g, bw] at h ⊢; exact h.1) | (simp [gs, AV.g]; rfl) | (simp [gs, AV.g, bw] at h ⊢; rfl) | (simp [gs, AV.g, bw] at h ⊢; simp [h]; rfl) | (simp [gs, AV.g, bw] at h ⊢; simp_all)) rfl (fun _ => h2) rfl ?_
  repeat (first | refine xA ?_ | refine xB ?_ | refine xC ?_ | refine xE ?_ | refine xD ?_ | refine xK ?_ | refine xS ?_ | refine xM ?_ | refine xT ?_ | refine xF ?_ | ((first | refine xR ?_ | refine xW ?_ | refine vq_id ?_); simp only [go_sem, Nat.reduceAdd, Nat.reduceLeDiff, Nat.reduceSub, Int.reduceToNat, reduceCtorEq]) | (refine ⟨by first | omega | (intros; simp_all; done) | (intros; simp_all; omega), ?_⟩; try simp only [go_sem, Nat.reduceAdd, Nat.reduceLeDiff, Nat.reduceSub, Int.reduceToNat, reduceCtorEq]))
  exact AE.ret0 rfl ⟨rfl, trivial⟩ rfl ⟨rfl, rfl⟩
end Go.Proofs.Ytoafanbfminhcaa
end

section
namespace Go.Proofs.Ytoafanbfminhcaa
open Go Go.AL Go.RowKit
set_option maxRecDepth 10000
set_option maxHeartbeats 4000000
theorem clone15o (B : List Bs) (hB : B.length ≤ 1000000000) : ACall Try.prog 15 [.im (.sl 1 (blkR B))] [] (fun r H' => H' = [(0, .vec 9 1 (blkR B))] ∧ r = .os 0 1 0 B.length) := by
  refine ACall.walk [0, 2, 4] [] Try.func15 rfl Try.ntmps15 (by kernel_rfl) (by rfl) rfl fun W own I0 φ0 => ?_
  cases B with
  | nil =>
    refine xPP rfl ?_
    refine AP.region rfl (by kernel_rfl) ?_; simp only [go_sem, Nat.reduceAdd, Nat.reduceLeDiff, Nat.reduceSub, Int.reduceToNat, reduceCtorEq]
    refine AQ.done ?_
    refine xEP rfl ?_
    refine AP.regionN 1 rfl (by kernel_rfl) ?_; simp only [go_sem, Nat.reduceAdd, Nat.reduceLeDiff, Nat.reduceSub, Int.reduceToNat, reduceCtorEq]
    refine AQ.isnil (by kernel_rfl) rfl Try.tk25 fun b => ?_
    simp only [go_sem, Nat.reduceAdd, Nat.reduceLeDiff, Nat.reduceSub, Int.reduceToNat, reduceCtorEq]
    repeat (first | refine xA ?_ | refine xB ?_ | refine xC ?_ | refine xE ?_ | refine xD ?_ | refine xK ?_ | refine xS ?_ | refine xM ?_ | refine xT ?_ | refine xF ?_ | ((first | refine xR ?_ | refine xW ?_ | refine vq_id ?_); simp only [go_sem, Nat.reduceAdd, Nat.reduceLeDiff, Nat.reduceSub, Int.reduceToNat, reduceCtorEq]) | (refine ⟨by first | omega | (intros; simp_all; done) | (intros; simp_all; omega), ?_⟩; try simp only [go_sem, Nat.reduceAdd, Nat.reduceLeDiff, Nat.reduceSub, Int.reduceToNat, reduceCtorEq]))
    refine AP.cond rfl rfl (fun hb => ?_) (fun hb => ?_)
    · repeat (first | refine xA ?_ | refine xB ?_ | refine xC ?_ | refine xE ?_ | refine xD ?_ | refine xK ?_ | refine xS ?_ | refine xM ?_ | refine xT ?_ | refine xF ?_ | ((first | refine xR ?_ | refine xW ?_ | refine vq_id ?_); simp only [go_sem, Nat.reduceAdd, Nat.reduceLeDiff, Nat.reduceSub, Int.reduceToNat, reduceCtorEq]) | (refine ⟨by first | omega | (intros; simp_all; done) | (intros; simp_all; omega), ?_⟩; try simp only [go_sem, Nat.reduceAdd, Nat.reduceLeDiff, Nat.reduceSub, Int.reduceToNat, reduceCtorEq]))
      refine AE.own 2 9 1 rfl ?_
      exact AE.ret rfl ⟨rfl, trivial⟩ ⟨rfl, rfl⟩
    · repeat (first | refine xA ?_ | refine xB ?_ | refine xC ?_ | refine xE ?_ | refine xD ?_ | refine xK ?_ | refine xS ?_ | refine xM ?_ | refine xT ?_ | refine xF ?_ | ((first | refine xR ?_ | refine xW ?_ | refine vq_id ?_); simp only [go_sem, Nat.reduceAdd, Nat.reduceLeDiff, Nat.reduceSub, Int.reduceToNat, reduceCtorEq]) | (refine ⟨by first | omega | (intros; simp_all; done) | (intros; simp_all; omega), ?_⟩; try simp only [go_sem, Nat.reduceAdd, Nat.reduceLeDiff, Nat.reduceSub, Int.reduceToNat, reduceCtorEq]))
      refine AQ.append (hnb := rfl) (rows := []) (es := 0) (by kernel_rfl) rfl rfl rfl (by rfl) Try.tk25 Try.sz9 (by show Option.map _ (zro Try.prog 9) = _; rw [Try.zr9]; rfl) Try.by9 (by first | rfl | (simp only [blkR_len, List.length_cons, List.length_nil]; done) | (simp only [blkR_len, List.length_cons, List.length_nil]; omega)) (by simp only [blkR_len, List.length_cons, List.length_nil]; omega) (by simp only [blkR_len, List.length_cons, List.length_nil]; omega) ?_
      simp only [go_sem, Nat.reduceAdd, Nat.reduceLeDiff, Nat.reduceSub, Int.reduceToNat, reduceCtorEq, List.nil_append]
      repeat (first | refine xA ?_ | refine xB ?_ | refine xC ?_ | refine xE ?_ | refine xD ?_ | refine xK ?_ | refine xS ?_ | refine xM ?_ | refine xT ?_ | refine xF ?_ | ((first | refine xR ?_ | refine xW ?_ | refine vq_id ?_); simp only [go_sem, Nat.reduceAdd, Nat.reduceLeDiff, Nat.reduceSub, Int.reduceToNat, reduceCtorEq]) | (refine ⟨by first | omega | (intros; simp_all; done) | (intros; simp_all; omega), ?_⟩; try simp only [go_sem, Nat.reduceAdd, Nat.reduceLeDiff, Nat.reduceSub, Int.reduceToNat, reduceCtorEq]))
      exact AE.ret rfl ⟨rfl, trivial⟩ ⟨rfl, rfl⟩
  | cons x B =>
    simp only [List.length_cons] at hB
    have hne : blkR (x :: B) ≠ [] := by simp [blkR]
    repeat (first | refine xA ?_ | refine xB ?_ | refine xC ?_ | refine xE ?_ | refine xD ?_ | refine xK ?_ | refine xS ?_ | refine xM ?_ | refine xT ?_ | refine xF ?_ | ((first | refine xR ?_ | refine xW ?_ | refine vq_id ?_); simp only [go_sem, Nat.reduceAdd, Nat.reduceLeDiff, Nat.reduceSub, Int.reduceToNat, reduceCtorEq]) | (refine ⟨by first | omega | (intros; simp_all; done) | (intros; simp_all; omega), ?_⟩; try simp only [go_sem, Nat.reduceAdd, Nat.reduceLeDiff, Nat.reduceSub, Int.reduceToNat, reduceCtorEq]))
    refine AQ.append (hnb := rfl) (rows := []) (es := 0) (by kernel_rfl) rfl rfl rfl (by rfl) Try.tk25 Try.sz9 (by show Option.map _ (zro Try.prog 9) = _; rw [Try.zr9]; rfl) Try.by9 (by first | rfl | (simp only [blkR_len, List.length_cons, List.length_nil]; done) | (simp only [blkR_len, List.length_cons, List.length_nil]; omega)) (by simp only [blkR_len, List.length_cons, List.length_nil]; omega) (by simp only [blkR_len, List.length_cons, List.length_nil]; omega) ?_
    simp only [go_sem, Nat.reduceAdd, Nat.reduceLeDiff, Nat.reduceSub, Int.reduceToNat, reduceCtorEq, List.nil_append]
    repeat (first | refine xA ?_ | refine xB ?_ | refine xC ?_ | refine xE ?_ | refine xD ?_ | refine xK ?_ | refine xS ?_ | refine xM ?_ | refine xT ?_ | refine xF ?_ | ((first | refine xR ?_ | refine xW ?_ | refine vq_id ?_); simp only [go_sem, Nat.reduceAdd, Nat.reduceLeDiff, Nat.reduceSub, Int.reduceToNat, reduceCtorEq]) | (refine ⟨by first | omega | (intros; simp_all; done) | (intros; simp_all; omega), ?_⟩; try simp only [go_sem, Nat.reduceAdd, Nat.reduceLeDiff, Nat.reduceSub, Int.reduceToNat, reduceCtorEq]))
    exact AE.ret rfl ⟨rfl, trivial⟩ ⟨rfl, by rw [blkR_len]; rfl⟩
structure Dk.Ok (d : Dk) : Prop where
  n : okN d.B.length = true
  b : ∀ s ∈ d.B, s.length = 32
  w : d.W.length ≤ 10000
  r : ∀ w ∈ d.W, (0 ≤ w.1 ∧ w.1 < d.B.length) ∧ w.2.length = 32
theorem chkW_ok (n : Nat) : ∀ W : List Wr, chkW n W = 0 ↔ ∀ w ∈ W, (0 ≤ w.1 ∧ w.1 < n) ∧ w.2.length = 32
  | [] => by simp [chkW]
  | w :: r => by
    rw [chkW]
    by_cases h1 : w.1 < 0 ∨ (n : Int) ≤ w.1
    · rw [if_pos h1]
      refine ⟨fun e => (by cases e), fun h => ?_⟩
      have := (h w (by simp)).1
      omega
    · rw [if_neg h1]
      by_cases h2 : w.2.length ≠ 32
      · rw [if_pos h2]
        refine ⟨fun e => (by cases e), fun h => ?_⟩
        exact absurd (h w (by simp)).2 h2
      · rw [if_neg h2, chkW_ok n r]
        refine ⟨fun h x hx => ?_, fun h x hx => h x (by simp [hx])⟩
        rcases List.mem_cons.1 hx with rfl | hx
        · exact ⟨by omega, by omega⟩
        · exact h x hx
theorem Dk.chk_ok (d : Dk) : d.chk = 0 ↔ d.Ok := by
  unfold Dk.chk
  by_cases h : (okN d.B.length && d.B.all is32 && decide (d.W.length ≤ 10000)) = true
  · rw [if_pos h]
    simp only [Bool.and_eq_true, List.all_eq_true, is32, decide_eq_true_eq] at h
    rw [chkW_ok]
    exact ⟨fun e => ⟨h.1.1, h.1.2, h.2, e⟩, fun e => e.r⟩
  · rw [if_neg h]
    refine ⟨fun e => (by cases e), fun e => ?_⟩
    exfalso
    apply h
    simp only [Bool.and_eq_true, List.all_eq_true, is32, decide_eq_true_eq]
    exact ⟨⟨e.n, e.b⟩, e.w⟩
theorem okN_le {n : Nat} (h : okN n = true) : 4 ≤ n ∧ n ≤ 2000 ∧ n % 2 = 0 := by
  unfold okN at h
  simp only [Bool.and_eq_true, decide_eq_true_eq] at h
  exact ⟨h.1.1, h.1.2, h.2⟩
def fate (f : Int) : Int := Int.tmod (Int.tmod f 4 + 4) 4
def fateAt (F : List Int) (i : Nat) : Int := if i < F.length then fate (F.getD i 0) else 1
def crash1 (old new : Bs) (f : Int) : Bs :=
  if f = 0 then new else if f = 2 then new.take 16 ++ old.drop 16 else if f = 3 then old.take 16 ++ new.drop 16 else old
def crashB (F : List Int) : List Wr → Nat → List Bs → List Bs
  | [], _, B => B
  | w :: r, i, B => crashB F r (i + 1) (B.set w.1.toNat (crash1 (B.getD w.1.toNat []) w.2 (fateAt F i)))
def intR (l : List Int) : List (List IV) := l.map fun x => [Ii x]
theorem intR_len (l : List Int) : (intR l).length = l.length := by simp [intR]
theorem intR_get (l : List Int) (k : Nat) (h : k < l.length) : (intR l).getD k [] = [Ii (l.getD k 0)] := by simp [intR, List.getD_eq_getElem?_getD, h]
theorem fate_wr (f : Int) : IntKind.i64.wrap (Int.tmod f 4 + 4) = Int.tmod f 4 + 4 := by
  refine wr ?_
  have h1 := Int.tmod_lt_of_pos f (show (0 : Int) < 4 by omega)
  have h2 : -4 < Int.tmod f 4 := by
    have := Int.natAbs_tmod f 4
    have h3 : f.natAbs % 4 < 4 := Nat.mod_lt _ (by omega)
    have h4 : (Int.tmod f 4).natAbs < 4 := by rw [this]; exact h3
    omega
  omega
theorem blkR_set (B : List Bs) (k : Nat) (s : Bs) : (blkR B).set k [Si s] = blkR (B.set k s) := by simp [blkR, List.map_set]
theorem crash1_32 {old new : Bs} (f : Int) (h1 : old.length = 32) (h2 : new.length = 32) : (crash1 old new f).length = 32 := by
  unfold crash1
  split
  · exact h2
  · split
    · simp; omega
    · split
      · simp; omega
      · exact h1
theorem fateAt_range (F : List Int) (k : Nat) : fateAt F k = 0 ∨ fateAt F k = 1 ∨ fateAt F k = 2 ∨ fateAt F k = 3 := by
  unfold fateAt
  split
  · unfold fate
    obtain ⟨f, hf⟩ : ∃ f, F.getD k 0 = f := ⟨_, rfl⟩
    rw [hf]
    have h1 := Int.tmod_lt_of_pos f (show (0 : Int) < 4 by omega)
    have h2 : -4 < Int.tmod f 4 := by
      have := Int.natAbs_tmod f 4
      have h3 : f.natAbs % 4 < 4 := Nat.mod_lt _ (by omega)
      have h4 : (Int.tmod f 4).natAbs < 4 := by rw [this]; exact h3
      omega
    have h5 := Int.tmod_lt_of_pos (Int.tmod f 4 + 4) (show (0 : Int) < 4 by omega)
    have h6 := Int.tmod_nonneg 4 (show 0 ≤ Int.tmod f 4 + 4 by omega)
    omega
  · exact .inr (.inl rfl)
theorem half (a b : Bs) (hb : b.length = 32) : List.take (16 - 0) a ++ List.take (32 - 16) (List.drop 16 b) = a.take 16 ++ b.drop 16 := by
  rw [take_all' (b.drop 16) _ (by simp; omega)]
abbrev Fv (F : List Int) : AV := .im (.sl 1 (intR F))
theorem PFn.less {P : Program} {f : FuncId} {args : List AV} {r r' : AV} (h : PFn P f args r) (hr : ∀ (w : World) (φ : Phi) (I : Nat → Prop) (u : Value), AV.den w φ I r u → AV.den w φ I r' u) : PFn P f args r' :=
  ⟨h.ent, fun w φ I vs hd hR => (h.run w φ I vs hd hR).mono fun _ _ ⟨_, H', φ', I', v, ⟨e1, e2⟩, he, hv, hS⟩ => ⟨r', H', φ', I', v, ⟨e1, rfl⟩, he, hr _ _ _ _ (e2 ▸ hv), hS⟩⟩
abbrev DvN (B : List Bs) : AV := .agg [.im (.sl 1 (blkR B)), .im (.v (.slice none 0 0))]
theorem crash_okN (d : Dk) (F : List Int) (hd : d.Sz) (hok : d.Ok) (hF : F.length ≤ 1000000000) : PFn Try.prog 16 [d.v, Fv F] (.tup [DvN (crashB F d.W 0 d.B), Iv 0]) := by
  have hc := check_spec d hd
  rw [(d.chk_ok).2 hok] at hc
  have hcl := clone15o d.B hd.b
  obtain ⟨B, W'⟩ := d
  have hn := okN_le hok.n
  have hb := hok.b
  have hW := hok.w
  have hr := hok.r
  simp only at hn hb hW hr hcl
  refine ACall.walk [0, 1, 2, 4, 5, 6, 7, 8, 9, 10, 11, 12, 13, 17, 25, 26, 27, 28, 35, 53, 54, 56, 58] [4, 7, 9] Try.func16 rfl Try.ntmps16 (by kernel_rfl) (by rfl) rfl fun W own I0 φ0 => ?_
  repeat (first | refine xA ?_ | refine xB ?_ | refine xC ?_ | refine xE ?_ | refine xD ?_ | refine xK ?_ | refine xS ?_ | refine xM ?_ | refine xT ?_ | refine xF ?_ | ((first | refine xR ?_ | refine xW ?_ | refine vq_id ?_); simp only [go_sem, Nat.reduceAdd, Nat.reduceLeDiff, Nat.reduceSub, Int.reduceToNat, reduceCtorEq]) | (refine ⟨by first | omega | (intros; simp_all; done) | (intros; simp_all; omega), ?_⟩; try simp only [go_sem, Nat.reduceAdd, Nat.reduceLeDiff, Nat.reduceSub, Int.reduceToNat, reduceCtorEq]))
  refine AQ.fn (by kernel_rfl) rfl rfl rfl (hc) rfl ?_
  repeat (first | refine xA ?_ | refine xB ?_ | refine xC ?_ | refine xE ?_ | refine xD ?_ | refine xK ?_ | refine xS ?_ | refine xM ?_ | refine xT ?_ | refine xF ?_ | ((first | refine xR ?_ | refine xW ?_ | refine vq_id ?_); simp only [go_sem, Nat.reduceAdd, Nat.reduceLeDiff, Nat.reduceSub, Int.reduceToNat, reduceCtorEq]) | (refine ⟨by first | omega | (intros; simp_all; done) | (intros; simp_all; omega), ?_⟩; try simp only [go_sem, Nat.reduceAdd, Nat.reduceLeDiff, Nat.reduceSub, Int.reduceToNat, reduceCtorEq]))
  refine AQ.callv (by kernel_rfl) rfl rfl rfl hcl fun r' H' ⟨e1, e2⟩ => ?_
  subst e1; subst e2
  simp only [go_sem, Nat.reduceAdd, Nat.reduceLeDiff, Nat.reduceSub, Int.reduceToNat, reduceCtorEq]
  repeat (first | refine xA ?_ | refine xB ?_ | refine xC ?_ | refine xE ?_ | refine xD ?_ | refine xK ?_ | refine xS ?_ | refine xM ?_ | refine xT ?_ | refine xF ?_ | ((first | refine xR ?_ | refine xW ?_ | refine vq_id ?_); simp only [go_sem, Nat.reduceAdd, Nat.reduceLeDiff, Nat.reduceSub, Int.reduceToNat, reduceCtorEq, wrR_len]) | (refine ⟨by first | omega | (intros; simp_all; done) | (intros; simp_all; omega), ?_⟩; try simp only [go_sem, Nat.reduceAdd, Nat.reduceLeDiff, Nat.reduceSub, Int.reduceToNat, reduceCtorEq, wrR_len]))
  refine AP.loop rfl (α := Nat × List Bs) (fun q => [(1, Fv F), (2, .im (.pt [.sl 1 (blkR B), .sl 2 (wrR W')])), (4, .ob 0 0), (5, Iv 0), (7, .ob 2 0), (25, .im (.sl 2 (wrR W'))), (26, Iv W'.length), (27, Iv q.1)])
    (fun q => [(2, .var 28 [.os 1 1 0 B.length, .im (.v (.slice none 0 0))]), (1, .vec 9 1 (blkR q.2)), (0, .var 28 [.im (.v (.slice none 0 0)), .im (.v (.slice none 0 0))])])
    (fun q => q.1 ≤ W'.length ∧ q.2.length = B.length ∧ (∀ s ∈ q.2, s.length = 32) ∧ crashB F (W'.drop q.1) q.1 q.2 = crashB F W' 0 B) (fun q => W'.length - q.1) (0, B) ⟨by omega, rfl, hb, rfl⟩ (by repeat (first | exact Sub.nil _ | refine Sub.cons rfl ?_)) rfl fun q ⟨hk, hl, h32, hi⟩ => ?_
  obtain ⟨k, Bk⟩ := q
  simp only at hk hl h32 hi ⊢
  rcases Nat.eq_or_lt_of_le hk with hke | hlt
  · repeat (first | refine xA ?_ | refine xB ?_ | refine xC ?_ | refine xE ?_ | refine xD ?_ | refine xK ?_ | refine xS ?_ | refine xM ?_ | refine xT ?_ | refine xF ?_ | ((first | refine xR ?_ | refine xW ?_ | refine vq_id ?_); simp only [go_sem, Nat.reduceAdd, Nat.reduceLeDiff, Nat.reduceSub, Int.reduceToNat, reduceCtorEq]) | (refine ⟨by first | omega | (intros; simp_all; done) | (intros; simp_all; omega), ?_⟩; try simp only [go_sem, Nat.reduceAdd, Nat.reduceLeDiff, Nat.reduceSub, Int.reduceToNat, reduceCtorEq]))
    refine AP.cond_false rfl (by simp only [go_sem, Nat.reduceAdd, Nat.reduceLeDiff, Nat.reduceSub, Int.reduceToNat, reduceCtorEq]; refine congrArg (fun b => some (AV.im (IV.v (Value.bool b)))) ?_; (first | (simp only [Bool.or_eq_true, Bool.and_eq_true, Bool.not_eq_true', Bool.not_eq_false', Bool.and_eq_false_iff, Bool.or_eq_false_iff, decide_eq_true_eq, decide_eq_false_iff_not, beq_iff_eq, bne_iff_ne, beq_eq_false_iff_ne, bne_eq_false_iff_eq, ne_eq]; omega) | (simp; done) | (simp; omega) | (simp_all; done) | (simp_all; omega))) ?_
    repeat (first | refine xA ?_ | refine xB ?_ | refine xC ?_ | refine xE ?_ | refine xD ?_ | refine xK ?_ | refine xS ?_ | refine xM ?_ | refine xT ?_ | refine xF ?_ | ((first | refine xR ?_ | refine xW ?_ | refine vq_id ?_); simp only [go_sem, Nat.reduceAdd, Nat.reduceLeDiff, Nat.reduceSub, Int.reduceToNat, reduceCtorEq]) | (refine ⟨by first | omega | (intros; simp_all; done) | (intros; simp_all; omega), ?_⟩; try simp only [go_sem, Nat.reduceAdd, Nat.reduceLeDiff, Nat.reduceSub, Int.reduceToNat, reduceCtorEq]))
    rw [List.drop_eq_nil_of_le (by omega), crashB] at hi
    have hbl : (blkR Bk).length = B.length := by rw [blkR_len, hl]
    refine AE.freeze 1 (el := 9) (es := 1) (rows := blkR Bk) rfl (by simp only [go_sem, Nat.reduceAdd, Nat.reduceLeDiff, Nat.reduceSub, Int.reduceToNat, reduceCtorEq, hbl]; first | done | trivial | omega | (simp; done) | (simp; omega)) (by simp only [go_sem, Nat.reduceAdd, Nat.reduceLeDiff, Nat.reduceSub, Int.reduceToNat, reduceCtorEq, hbl]; first | done | trivial | omega | (simp; done) | (simp; omega)) ?_; simp only [go_sem, Nat.reduceAdd, Nat.reduceLeDiff, Nat.reduceSub, Int.reduceToNat, reduceCtorEq, hbl]
    rw [take_all' (blkR Bk) _ (by rw [hbl]; exact Nat.le_refl _)]
    refine AE.ret0 rfl ⟨⟨rfl, Nat.le_of_ble_eq_true (by kernel_rfl)⟩, rfl, trivial⟩ rfl ⟨rfl, ?_⟩
    rw [← hi]; rfl
  · have hg := wrR_get W' k hlt
    have hw := wr (x := (k : Int) + 1) (by omega)
    rw [drop_get W' k (0, []) hlt, crashB] at hi
    have hrk := hr (W'.getD k (0, [])) (by rw [List.getD_eq_getElem?_getD, List.getElem?_eq_getElem hlt]; simp)
    obtain ⟨p, hpp⟩ : ∃ p, W'.getD k (0, []) = p := ⟨_, rfl⟩
    rw [hpp] at hi hg hrk
    obtain ⟨b, s⟩ := p
    simp only at hi hg hrk
    obtain ⟨⟨h0, h1⟩, hs32⟩ := hrk
    obtain ⟨j, rfl⟩ := Int.eq_ofNat_of_zero_le h0
    rw [Int.toNat_natCast] at hi
    have hjl : j < Bk.length := by omega
    have hgb := blkR_get Bk j hjl
    have ho32 : (Bk.getD j []).length = 32 := h32 _ (by rw [List.getD_eq_getElem?_getD, List.getElem?_eq_getElem hjl]; simp)
    repeat (first | refine xA ?_ | refine xB ?_ | refine xC ?_ | refine xE ?_ | refine xD ?_ | refine xK ?_ | refine xS ?_ | refine xM ?_ | refine xT ?_ | refine xF ?_ | ((first | refine xR ?_ | refine xW ?_ | refine vq_id ?_); simp only [go_sem, Nat.reduceAdd, Nat.reduceLeDiff, Nat.reduceSub, Int.reduceToNat, reduceCtorEq]) | (refine ⟨by first | omega | (intros; simp_all; done) | (intros; simp_all; omega), ?_⟩; try simp only [go_sem, Nat.reduceAdd, Nat.reduceLeDiff, Nat.reduceSub, Int.reduceToNat, reduceCtorEq]))
    refine AP.cond_true rfl (by simp only [go_sem, Nat.reduceAdd, Nat.reduceLeDiff, Nat.reduceSub, Int.reduceToNat, reduceCtorEq]; refine congrArg (fun b => some (AV.im (IV.v (Value.bool b)))) ?_; (first | (simp only [Bool.or_eq_true, Bool.and_eq_true, Bool.not_eq_true', Bool.not_eq_false', Bool.and_eq_false_iff, Bool.or_eq_false_iff, decide_eq_true_eq, decide_eq_false_iff_not, beq_iff_eq, bne_iff_ne, beq_eq_false_iff_ne, bne_eq_false_iff_eq, ne_eq]; omega) | (simp; done) | (simp; omega) | (simp_all; done) | (simp_all; omega))) ?_
    repeat (first | refine xA ?_ | refine xB ?_ | refine xC ?_ | refine xE ?_ | refine xD ?_ | refine xK ?_ | refine xS ?_ | refine xM ?_ | refine xT ?_ | refine xF ?_ | ((first | refine xR ?_ | refine xW ?_ | refine vq_id ?_); simp only [go_sem, Nat.reduceAdd, Nat.reduceLeDiff, Nat.reduceSub, Int.reduceToNat, reduceCtorEq, hg, wrR_len, intR_len]) | (refine ⟨by first | omega | (intros; simp_all; done) | (intros; simp_all; omega), ?_⟩; try simp only [go_sem, Nat.reduceAdd, Nat.reduceLeDiff, Nat.reduceSub, Int.reduceToNat, reduceCtorEq, hg, wrR_len, intR_len]))
    refine AP.cut (α := Unit) (fun _ => [(1, Fv F), (2, .im (.pt [.sl 1 (blkR B), .sl 2 (wrR W')])), (4, .ob 0 0), (5, Iv 0), (7, .ob 2 0), (9, .ob 3 0), (10, Iv (fateAt F k)), (25, .im (.sl 2 (wrR W'))), (26, Iv W'.length), (27, Iv k)])
      (fun _ => [(3, .var 97 [Iv j, Sv s]), (2, .var 28 [.os 1 1 0 B.length, .im (.v (.slice none 0 0))]), (1, .vec 9 1 (blkR Bk)), (0, .var 28 [.im (.v (.slice none 0 0)), .im (.v (.slice none 0 0))])]) (fun _ => True) ?_ fun _ _ => ?_
    · refine AP.cond rfl rfl (fun hq => ?_) (fun hq => ?_)
      · have hql : k < F.length := by simp at hq; omega
        have hgf := intR_get F k hql
        have hwf := fate_wr (F.getD k 0)
        repeat (first | refine xA ?_ | refine xB ?_ | refine xC ?_ | refine xE ?_ | refine xD ?_ | refine xK ?_ | refine xS ?_ | refine xM ?_ | refine xT ?_ | refine xF ?_ | ((first | refine xR ?_ | refine xW ?_ | refine vq_id ?_); simp only [go_sem, Nat.reduceAdd, Nat.reduceLeDiff, Nat.reduceSub, Int.reduceToNat, reduceCtorEq, hgf, hwf, intR_len]) | (refine ⟨by first | omega | (intros; simp_all; done) | (intros; simp_all; omega), ?_⟩; try simp only [go_sem, Nat.reduceAdd, Nat.reduceLeDiff, Nat.reduceSub, Int.reduceToNat, reduceCtorEq, hgf, hwf, intR_len]))
        refine AE.meet () trivial ?_ rfl
        rw [fateAt, if_pos hql]
        exact (by repeat (first | exact Sub.nil _ | refine Sub.cons rfl ?_))
      · have hql : ¬ k < F.length := by simp at hq; omega
        repeat (first | refine xA ?_ | refine xB ?_ | refine xC ?_ | refine xE ?_ | refine xD ?_ | refine xK ?_ | refine xS ?_ | refine xM ?_ | refine xT ?_ | refine xF ?_ | ((first | refine xR ?_ | refine xW ?_ | refine vq_id ?_); simp only [go_sem, Nat.reduceAdd, Nat.reduceLeDiff, Nat.reduceSub, Int.reduceToNat, reduceCtorEq]) | (refine ⟨by first | omega | (intros; simp_all; done) | (intros; simp_all; omega), ?_⟩; try simp only [go_sem, Nat.reduceAdd, Nat.reduceLeDiff, Nat.reduceSub, Int.reduceToNat, reduceCtorEq]))
        refine AE.meet () trivial ?_ rfl
        rw [fateAt, if_neg hql]
        exact (by repeat (first | exact Sub.nil _ | refine Sub.cons rfl ?_))
    · obtain ⟨f, hf⟩ : ∃ f, fateAt F k = f := ⟨_, rfl⟩
      have hfr := fateAt_range F k
      rw [hf] at hi hfr ⊢
      have hbl : (blkR Bk).length = B.length := by rw [blkR_len, hl]
      rcases hfr with rfl | rfl | rfl | rfl
      · have hcr : crash1 (Bk.getD j []) s 0 = s.take 16 ++ s.drop 16 := by simp [crash1]
        repeat (first | refine xA ?_ | refine xB ?_ | refine xC ?_ | refine xE ?_ | refine xD ?_ | refine xK ?_ | refine xS ?_ | refine xM ?_ | refine xT ?_ | refine xF ?_ | ((first | refine xR ?_ | refine xW ?_ | refine vq_id ?_); simp only [go_sem, Nat.reduceAdd, Nat.reduceLeDiff, Nat.reduceSub, Int.reduceToNat, reduceCtorEq, hgb, hbl, BA_size, hs32, ho32, Int.reduceToNat, hw]) | (refine ⟨by first | omega | (intros; simp_all; done) | (intros; simp_all; omega), ?_⟩; try simp only [go_sem, Nat.reduceAdd, Nat.reduceLeDiff, Nat.reduceSub, Int.reduceToNat, reduceCtorEq, hgb, hbl, BA_size, hs32, ho32, Int.reduceToNat, hw]))
        rw [half _ _ hs32, ← hcr, show [IV.v (Value.string (BA (crash1 (Bk.getD j []) s 0)))] = [Si (crash1 (Bk.getD j []) s 0)] from rfl, blkR_set]
        refine AE.forgets [3] rfl ?_
        simp only [go_sem, Nat.reduceAdd, Nat.reduceLeDiff, Nat.reduceSub, Int.reduceToNat, reduceCtorEq]
        exact AE.round (k + 1, Bk.set j (crash1 (Bk.getD j []) s 0)) ⟨by omega, by simp only [List.length_set]; exact hl, fun x hx => (List.mem_or_eq_of_mem_set hx).elim (h32 x) (fun e => by rw [e]; exact crash1_32 _ ho32 hs32), hi⟩ (by simp only; omega) (by repeat (first | exact Sub.nil _ | refine Sub.cons rfl ?_)) rfl
      · have hcr : crash1 (Bk.getD j []) s 1 = (Bk.getD j []).take 16 ++ (Bk.getD j []).drop 16 := by simp [crash1]
        repeat (first | refine xA ?_ | refine xB ?_ | refine xC ?_ | refine xE ?_ | refine xD ?_ | refine xK ?_ | refine xS ?_ | refine xM ?_ | refine xT ?_ | refine xF ?_ | ((first | refine xR ?_ | refine xW ?_ | refine vq_id ?_); simp only [go_sem, Nat.reduceAdd, Nat.reduceLeDiff, Nat.reduceSub, Int.reduceToNat, reduceCtorEq, hgb, hbl, BA_size, hs32, ho32, Int.reduceToNat, hw]) | (refine ⟨by first | omega | (intros; simp_all; done) | (intros; simp_all; omega), ?_⟩; try simp only [go_sem, Nat.reduceAdd, Nat.reduceLeDiff, Nat.reduceSub, Int.reduceToNat, reduceCtorEq, hgb, hbl, BA_size, hs32, ho32, Int.reduceToNat, hw]))
        rw [half _ _ ho32, ← hcr, show [IV.v (Value.string (BA (crash1 (Bk.getD j []) s 1)))] = [Si (crash1 (Bk.getD j []) s 1)] from rfl, blkR_set]
        refine AE.forgets [3] rfl ?_
        simp only [go_sem, Nat.reduceAdd, Nat.reduceLeDiff, Nat.reduceSub, Int.reduceToNat, reduceCtorEq]
        exact AE.round (k + 1, Bk.set j (crash1 (Bk.getD j []) s 1)) ⟨by omega, by simp only [List.length_set]; exact hl, fun x hx => (List.mem_or_eq_of_mem_set hx).elim (h32 x) (fun e => by rw [e]; exact crash1_32 _ ho32 hs32), hi⟩ (by simp only; omega) (by repeat (first | exact Sub.nil _ | refine Sub.cons rfl ?_)) rfl
      · have hcr : crash1 (Bk.getD j []) s 2 = s.take 16 ++ (Bk.getD j []).drop 16 := by simp [crash1]
        repeat (first | refine xA ?_ | refine xB ?_ | refine xC ?_ | refine xE ?_ | refine xD ?_ | refine xK ?_ | refine xS ?_ | refine xM ?_ | refine xT ?_ | refine xF ?_ | ((first | refine xR ?_ | refine xW ?_ | refine vq_id ?_); simp only [go_sem, Nat.reduceAdd, Nat.reduceLeDiff, Nat.reduceSub, Int.reduceToNat, reduceCtorEq, hgb, hbl, BA_size, hs32, ho32, Int.reduceToNat, hw]) | (refine ⟨by first | omega | (intros; simp_all; done) | (intros; simp_all; omega), ?_⟩; try simp only [go_sem, Nat.reduceAdd, Nat.reduceLeDiff, Nat.reduceSub, Int.reduceToNat, reduceCtorEq, hgb, hbl, BA_size, hs32, ho32, Int.reduceToNat, hw]))
        rw [half _ _ ho32, ← hcr, show [IV.v (Value.string (BA (crash1 (Bk.getD j []) s 2)))] = [Si (crash1 (Bk.getD j []) s 2)] from rfl, blkR_set]
        refine AE.forgets [3] rfl ?_
        simp only [go_sem, Nat.reduceAdd, Nat.reduceLeDiff, Nat.reduceSub, Int.reduceToNat, reduceCtorEq]
        exact AE.round (k + 1, Bk.set j (crash1 (Bk.getD j []) s 2)) ⟨by omega, by simp only [List.length_set]; exact hl, fun x hx => (List.mem_or_eq_of_mem_set hx).elim (h32 x) (fun e => by rw [e]; exact crash1_32 _ ho32 hs32), hi⟩ (by simp only; omega) (by repeat (first | exact Sub.nil _ | refine Sub.cons rfl ?_)) rfl
      · have hcr : crash1 (Bk.getD j []) s 3 = (Bk.getD j []).take 16 ++ s.drop 16 := by simp [crash1]
        repeat (first | refine xA ?_ | refine xB ?_ | refine xC ?_ | refine xE ?_ | refine xD ?_ | refine xK ?_ | refine xS ?_ | refine xM ?_ | refine xT ?_ | refine xF ?_ | ((first | refine xR ?_ | refine xW ?_ | refine vq_id ?_); simp only [go_sem, Nat.reduceAdd, Nat.reduceLeDiff, Nat.reduceSub, Int.reduceToNat, reduceCtorEq, hgb, hbl, BA_size, hs32, ho32, Int.reduceToNat, hw]) | (refine ⟨by first | omega | (intros; simp_all; done) | (intros; simp_all; omega), ?_⟩; try simp only [go_sem, Nat.reduceAdd, Nat.reduceLeDiff, Nat.reduceSub, Int.reduceToNat, reduceCtorEq, hgb, hbl, BA_size, hs32, ho32, Int.reduceToNat, hw]))
        rw [half _ _ hs32, ← hcr, show [IV.v (Value.string (BA (crash1 (Bk.getD j []) s 3)))] = [Si (crash1 (Bk.getD j []) s 3)] from rfl, blkR_set]
        refine AE.forgets [3] rfl ?_
        simp only [go_sem, Nat.reduceAdd, Nat.reduceLeDiff, Nat.reduceSub, Int.reduceToNat, reduceCtorEq]
        exact AE.round (k + 1, Bk.set j (crash1 (Bk.getD j []) s 3)) ⟨by omega, by simp only [List.length_set]; exact hl, fun x hx => (List.mem_or_eq_of_mem_set hx).elim (h32 x) (fun e => by rw [e]; exact crash1_32 _ ho32 hs32), hi⟩ (by simp only; omega) (by repeat (first | exact Sub.nil _ | refine Sub.cons rfl ?_)) rfl
theorem DvN_less (B : List Bs) (e : AV) (w : World) (φ : Phi) (I : Nat → Prop) (u : Value) (h : AV.den w φ I (.tup [DvN B, e]) u) : AV.den w φ I (.tup [Dk.v ⟨B, []⟩, e]) u := by
  simp only [AV.den, AV.dens] at h ⊢
  obtain ⟨us, ⟨u1, r1, rfl, ⟨vs, ⟨v1, s1, rfl, hv1, v2, s2, rfl, hv2, rfl⟩, e1, e2⟩, hr⟩, rfl⟩ := h
  refine ⟨_, ⟨u1, r1, rfl, ⟨_, ⟨v1, _, rfl, hv1, v2, _, rfl, ?_, rfl⟩, e1, e2⟩, hr⟩, rfl⟩
  obtain ⟨rfl, _⟩ := hv2
  simp only [IV.den, wrR, List.map_nil]
  exact ⟨none, 0, [], rfl, Nat.le_refl _, rfl, fun _ h => (by cases h), fun h => absurd rfl h⟩
theorem crash_ok (d : Dk) (F : List Int) (hd : d.Sz) (hok : d.Ok) (hF : F.length ≤ 1000000000) : PFn Try.prog 16 [d.v, Fv F] (.tup [Dk.v ⟨crashB F d.W 0 d.B, []⟩, Iv 0]) :=
  PFn.less (crash_okN d F hd hok hF) (DvN_less _ _)
end Go.Proofs.Ytoafanbfminhcaa
end

section
namespace Go.Proofs.Ytoafanbfminhcaa
open Go Go.AL Go.RowKit
set_option maxRecDepth 10000
set_option maxHeartbeats 4000000
abbrev nilD : Dk := ⟨[], []⟩
theorem crash_bad (d : Dk) (F : List Int) (hd : d.Sz) (hne : d.chk ≠ 0) : PFn Try.prog 16 [d.v, Fv F] (.tup [Dk.v nilD, Iv d.chk]) := by
  have hc := check_spec d hd
  obtain ⟨e, he⟩ : ∃ e, d.chk = e := ⟨_, rfl⟩
  rw [he] at hc hne ⊢
  refine ACall.walk [0, 1, 2, 4, 5, 6, 7, 8, 9, 10, 11, 12, 13, 17, 25, 26, 27, 28, 35, 53, 54, 56, 58] [4, 7, 9] Try.func16 rfl Try.ntmps16 (by kernel_rfl) (by rfl) rfl fun W own I0 φ0 => ?_
  repeat (first | refine xA ?_ | refine xB ?_ | refine xC ?_ | refine xE ?_ | refine xD ?_ | refine xK ?_ | refine xS ?_ | refine xM ?_ | refine xT ?_ | refine xF ?_ | ((first | refine xR ?_ | refine xW ?_ | refine vq_id ?_); simp only [go_sem, Nat.reduceAdd, Nat.reduceLeDiff, Nat.reduceSub, Int.reduceToNat, reduceCtorEq]) | (refine ⟨by first | omega | (intros; simp_all; done) | (intros; simp_all; omega), ?_⟩; try simp only [go_sem, Nat.reduceAdd, Nat.reduceLeDiff, Nat.reduceSub, Int.reduceToNat, reduceCtorEq]))
  refine AQ.fn (by kernel_rfl) rfl rfl rfl (hc) rfl ?_
  repeat (first | refine xA ?_ | refine xB ?_ | refine xC ?_ | refine xE ?_ | refine xD ?_ | refine xK ?_ | refine xS ?_ | refine xM ?_ | refine xT ?_ | refine xF ?_ | ((first | refine xR ?_ | refine xW ?_ | refine vq_id ?_); simp only [go_sem, Nat.reduceAdd, Nat.reduceLeDiff, Nat.reduceSub, Int.reduceToNat, reduceCtorEq]) | (refine ⟨by first | omega | (intros; simp_all; done) | (intros; simp_all; omega), ?_⟩; try simp only [go_sem, Nat.reduceAdd, Nat.reduceLeDiff, Nat.reduceSub, Int.reduceToNat, reduceCtorEq]))
  refine AP.cond_true rfl (by simp only [go_sem, Nat.reduceAdd, Nat.reduceLeDiff, Nat.reduceSub, Int.reduceToNat, reduceCtorEq]; refine congrArg (fun b => some (AV.im (IV.v (Value.bool b)))) ?_; (first | (simp only [Bool.or_eq_true, Bool.and_eq_true, Bool.not_eq_true', Bool.not_eq_false', Bool.and_eq_false_iff, Bool.or_eq_false_iff, decide_eq_true_eq, decide_eq_false_iff_not, beq_iff_eq, bne_iff_ne, beq_eq_false_iff_ne, bne_eq_false_iff_eq, ne_eq]; omega) | (simp; done) | (simp; omega) | (simp_all; done) | (simp_all; omega))) ?_
  repeat (first | refine xA ?_ | refine xB ?_ | refine xC ?_ | refine xE ?_ | refine xD ?_ | refine xK ?_ | refine xS ?_ | refine xM ?_ | refine xT ?_ | refine xF ?_ | ((first | refine xR ?_ | refine xW ?_ | refine vq_id ?_); simp only [go_sem, Nat.reduceAdd, Nat.reduceLeDiff, Nat.reduceSub, Int.reduceToNat, reduceCtorEq]) | (refine ⟨by first | omega | (intros; simp_all; done) | (intros; simp_all; omega), ?_⟩; try simp only [go_sem, Nat.reduceAdd, Nat.reduceLeDiff, Nat.reduceSub, Int.reduceToNat, reduceCtorEq]))
  refine AE.cellsW 0 [.im (.sl 1 []), .im (.sl 2 [])] rfl (cellsLe.nil (cellsLe.nil (cellsLe.refl _))) ?_
  simp only [go_sem, Nat.reduceAdd, Nat.reduceLeDiff, Nat.reduceSub, Int.reduceToNat, reduceCtorEq]
  exact AE.ret0 rfl ⟨⟨rfl, Nat.le_of_ble_eq_true (by kernel_rfl)⟩, rfl, trivial⟩ rfl ⟨rfl, rfl⟩
def Dk.crashD (d : Dk) (F : List Int) : Dk := if d.chk = 0 then ⟨crashB F d.W 0 d.B, []⟩ else nilD
theorem crash_spec (d : Dk) (F : List Int) (hd : d.Sz) (hF : F.length ≤ 1000000000) : PFn Try.prog 16 [d.v, Fv F] (.tup [(d.crashD F).v, Iv d.chk]) := by
  by_cases h : d.chk = 0
  · have := crash_ok d F hd ((d.chk_ok).1 h) hF
    rw [Dk.crashD, if_pos h, h]; exact this
  · rw [Dk.crashD, if_neg h]; exact crash_bad d F hd h
def zerosI (n : Nat) : List Int := List.replicate n 0
theorem zerosI_R (n : Nat) : List.replicate n [IV.v (Value.int .i64 0)] = intR (zerosI n) := by simp [zerosI, intR]
def Dk.syncD (d : Dk) : Dk := d.crashD (zerosI d.W.length)
theorem sync_spec (d : Dk) (hd : d.Sz) : PFn Try.prog 32 [d.v] (.tup [d.syncD.v, Iv d.chk]) := by
  have hc := crash_spec d (zerosI d.W.length) hd (by simp [zerosI]; exact hd.w)
  rw [show d.crashD (zerosI d.W.length) = d.syncD from rfl] at hc
  have hdw := hd.w
  obtain ⟨e, he⟩ : ∃ e, d.chk = e := ⟨_, rfl⟩
  obtain ⟨d2, hd2⟩ : ∃ d2, d.syncD = d2 := ⟨_, rfl⟩
  rw [he, hd2] at hc
  rw [he, hd2]
  obtain ⟨B, W'⟩ := d
  simp only at hdw hc
  refine ACall.walk [0, 1, 2, 3] [2] Try.func32 rfl Try.ntmps32 (by kernel_rfl) (by rfl) rfl fun W own I0 φ0 => ?_
  repeat (first | refine xA ?_ | refine xB ?_ | refine xC ?_ | refine xE ?_ | refine xD ?_ | refine xK ?_ | refine xS ?_ | refine xM ?_ | refine xT ?_ | refine xF ?_ | ((first | refine xR ?_ | refine xW ?_ | refine vq_id ?_); simp only [go_sem, Nat.reduceAdd, Nat.reduceLeDiff, Nat.reduceSub, Int.reduceToNat, reduceCtorEq]) | (refine ⟨by first | omega | (intros; simp_all; done) | (intros; simp_all; omega), ?_⟩; try simp only [go_sem, Nat.reduceAdd, Nat.reduceLeDiff, Nat.reduceSub, Int.reduceToNat, reduceCtorEq]))
  refine AP.drawE 10 (Tree.node [] [0, 1, 2, 3] [4] [Tree.node [0] [] [5] [Tree.node [] [6, 7] [8] [Tree.node [] [9] [] []]]]) (by kernel_rfl) rfl (by kernel_rfl) (by kernel_rfl) ?_
  refine vd_node ?_
  simp only [go_sem, Nat.reduceAdd, Nat.reduceLeDiff, Nat.reduceSub, Int.reduceToNat, reduceCtorEq, wrR_len]
  refine AQ.make (by kernel_rfl) rfl rfl Try.tk36 Try.sz3 Try.zr3 rfl Try.by3 ⟨by omega, ?_⟩
  simp only [go_sem, Nat.reduceAdd, Nat.reduceLeDiff, Nat.reduceSub, Int.reduceToNat, reduceCtorEq, wrR_len]
  refine AQ.nx rfl ?_
  simp only [go_sem, Nat.reduceAdd, Nat.reduceLeDiff, Nat.reduceSub, Int.reduceToNat, reduceCtorEq, wrR_len]
  have hzl : (List.replicate W'.length [IV.v (Value.int IntKind.i64 0)]).length = W'.length := by simp
  refine AQ.freeze 1 (el := 3) (es := 1) (rows := List.replicate W'.length [IV.v (Value.int IntKind.i64 0)]) rfl (by simp only [go_sem, Nat.reduceAdd, Nat.reduceLeDiff, Nat.reduceSub, Int.reduceToNat, reduceCtorEq]) (by simp only [go_sem, Nat.reduceAdd, Nat.reduceLeDiff, Nat.reduceSub, Int.reduceToNat, reduceCtorEq]; simp) ?_
  simp only [go_sem, Nat.reduceAdd, Nat.reduceLeDiff, Nat.reduceSub, Int.reduceToNat, reduceCtorEq]
  rw [take_all' _ _ (Nat.le_of_eq hzl), zerosI_R]
  refine AQ.fn (by kernel_rfl) rfl rfl rfl (hc) rfl ?_
  simp only [go_sem, Nat.reduceAdd, Nat.reduceLeDiff, Nat.reduceSub, Int.reduceToNat, reduceCtorEq]
  refine AQ.nx rfl ?_
  simp only [go_sem, Nat.reduceAdd, Nat.reduceLeDiff, Nat.reduceSub, Int.reduceToNat, reduceCtorEq]
  repeat' (first | with_reducible exact True.intro | with_reducible refine And.intro (by omega) ?_ | with_reducible refine And.intro ?_ ?_ | (refine AQ.nx rfl ?_; simp only [go_sem, Nat.reduceAdd, Nat.reduceLeDiff, Nat.reduceSub, Int.reduceToNat, reduceCtorEq]) | fail | refine AQ.done ?_ | (refine AQ.go (by kernel_rfl) ?_; simp only [go_sem, Nat.reduceAdd, Nat.reduceLeDiff, Nat.reduceSub, Int.reduceToNat, reduceCtorEq]; repeat (with_reducible refine And.intro (by omega) ?_); refine AQ.nx rfl ?_; simp only [go_sem, Nat.reduceAdd, Nat.reduceLeDiff, Nat.reduceSub, Int.reduceToNat, reduceCtorEq]))
  repeat (first | refine xA ?_ | refine xB ?_ | refine xC ?_ | refine xE ?_ | refine xD ?_ | refine xK ?_ | refine xS ?_ | refine xM ?_ | refine xT ?_ | refine xF ?_ | ((first | refine xR ?_ | refine xW ?_ | refine vq_id ?_); simp only [go_sem, Nat.reduceAdd, Nat.reduceLeDiff, Nat.reduceSub, Int.reduceToNat, reduceCtorEq]) | (refine ⟨by first | omega | (intros; simp_all; done) | (intros; simp_all; omega), ?_⟩; try simp only [go_sem, Nat.reduceAdd, Nat.reduceLeDiff, Nat.reduceSub, Int.reduceToNat, reduceCtorEq]))
  exact AE.ret0 rfl ⟨⟨rfl, Nat.le_of_ble_eq_true (by kernel_rfl)⟩, rfl, trivial⟩ rfl ⟨rfl, rfl⟩
theorem sync_okN (d : Dk) (hd : d.Sz) (hok : d.Ok) : PFn Try.prog 32 [d.v] (.tup [DvN d.syncD.B, Iv 0]) := by
  have hc := crash_okN d (zerosI d.W.length) hd hok (by simp [zerosI]; exact hd.w)
  rw [show crashB (zerosI d.W.length) d.W 0 d.B = d.syncD.B by rw [Dk.syncD, Dk.crashD, if_pos ((d.chk_ok).2 hok)]] at hc
  have hdw := hd.w
  obtain ⟨d2, hd2⟩ : ∃ d2, d.syncD.B = d2 := ⟨_, rfl⟩
  rw [hd2] at hc
  rw [hd2]
  obtain ⟨B, W'⟩ := d
  simp only at hdw hc
  refine ACall.walk [0, 1, 2, 3] [2] Try.func32 rfl Try.ntmps32 (by kernel_rfl) (by rfl) rfl fun W own I0 φ0 => ?_
  repeat (first | refine xA ?_ | refine xB ?_ | refine xC ?_ | refine xE ?_ | refine xD ?_ | refine xK ?_ | refine xS ?_ | refine xM ?_ | refine xT ?_ | refine xF ?_ | ((first | refine xR ?_ | refine xW ?_ | refine vq_id ?_); simp only [go_sem, Nat.reduceAdd, Nat.reduceLeDiff, Nat.reduceSub, Int.reduceToNat, reduceCtorEq]) | (refine ⟨by first | omega | (intros; simp_all; done) | (intros; simp_all; omega), ?_⟩; try simp only [go_sem, Nat.reduceAdd, Nat.reduceLeDiff, Nat.reduceSub, Int.reduceToNat, reduceCtorEq]))
  refine AP.drawE 10 (Tree.node [] [0, 1, 2, 3] [4] [Tree.node [0] [] [5] [Tree.node [] [6, 7] [8] [Tree.node [] [9] [] []]]]) (by kernel_rfl) rfl (by kernel_rfl) (by kernel_rfl) ?_
  refine vd_node ?_
  simp only [go_sem, Nat.reduceAdd, Nat.reduceLeDiff, Nat.reduceSub, Int.reduceToNat, reduceCtorEq, wrR_len]
  refine AQ.make (by kernel_rfl) rfl rfl Try.tk36 Try.sz3 Try.zr3 rfl Try.by3 ⟨by omega, ?_⟩
  simp only [go_sem, Nat.reduceAdd, Nat.reduceLeDiff, Nat.reduceSub, Int.reduceToNat, reduceCtorEq, wrR_len]
  refine AQ.nx rfl ?_
  simp only [go_sem, Nat.reduceAdd, Nat.reduceLeDiff, Nat.reduceSub, Int.reduceToNat, reduceCtorEq, wrR_len]
  have hzl : (List.replicate W'.length [IV.v (Value.int IntKind.i64 0)]).length = W'.length := by simp
  refine AQ.freeze 1 (el := 3) (es := 1) (rows := List.replicate W'.length [IV.v (Value.int IntKind.i64 0)]) rfl (by simp only [go_sem, Nat.reduceAdd, Nat.reduceLeDiff, Nat.reduceSub, Int.reduceToNat, reduceCtorEq]) (by simp only [go_sem, Nat.reduceAdd, Nat.reduceLeDiff, Nat.reduceSub, Int.reduceToNat, reduceCtorEq]; simp) ?_
  simp only [go_sem, Nat.reduceAdd, Nat.reduceLeDiff, Nat.reduceSub, Int.reduceToNat, reduceCtorEq]
  rw [take_all' _ _ (Nat.le_of_eq hzl), zerosI_R]
  refine AQ.fn (by kernel_rfl) rfl rfl rfl (hc) rfl ?_
  simp only [go_sem, Nat.reduceAdd, Nat.reduceLeDiff, Nat.reduceSub, Int.reduceToNat, reduceCtorEq]
  refine AQ.nx rfl ?_
  simp only [go_sem, Nat.reduceAdd, Nat.reduceLeDiff, Nat.reduceSub, Int.reduceToNat, reduceCtorEq]
  repeat' (first | with_reducible exact True.intro | with_reducible refine And.intro (by omega) ?_ | with_reducible refine And.intro ?_ ?_ | (refine AQ.nx rfl ?_; simp only [go_sem, Nat.reduceAdd, Nat.reduceLeDiff, Nat.reduceSub, Int.reduceToNat, reduceCtorEq]) | fail | refine AQ.done ?_ | (refine AQ.go (by kernel_rfl) ?_; simp only [go_sem, Nat.reduceAdd, Nat.reduceLeDiff, Nat.reduceSub, Int.reduceToNat, reduceCtorEq]; repeat (with_reducible refine And.intro (by omega) ?_); refine AQ.nx rfl ?_; simp only [go_sem, Nat.reduceAdd, Nat.reduceLeDiff, Nat.reduceSub, Int.reduceToNat, reduceCtorEq]))
  repeat (first | refine xA ?_ | refine xB ?_ | refine xC ?_ | refine xE ?_ | refine xD ?_ | refine xK ?_ | refine xS ?_ | refine xM ?_ | refine xT ?_ | refine xF ?_ | ((first | refine xR ?_ | refine xW ?_ | refine vq_id ?_); simp only [go_sem, Nat.reduceAdd, Nat.reduceLeDiff, Nat.reduceSub, Int.reduceToNat, reduceCtorEq]) | (refine ⟨by first | omega | (intros; simp_all; done) | (intros; simp_all; omega), ?_⟩; try simp only [go_sem, Nat.reduceAdd, Nat.reduceLeDiff, Nat.reduceSub, Int.reduceToNat, reduceCtorEq]))
  exact AE.ret0 rfl ⟨⟨rfl, Nat.le_of_ble_eq_true (by kernel_rfl)⟩, rfl, trivial⟩ rfl ⟨rfl, rfl⟩
def Dk.getS (d : Dk) (n : Int) : Bs := if d.chk = 0 ∧ 0 ≤ n ∧ n < d.B.length then d.syncD.B.getD n.toNat [] else []
def Dk.getE (d : Dk) (n : Int) : Int := if d.chk ≠ 0 then d.chk else if 0 ≤ n ∧ n < d.B.length then 0 else 3
theorem crashB_len (F : List Int) : ∀ (W : List Wr) (i : Nat) (B : List Bs), (crashB F W i B).length = B.length
  | [], _, _ => rfl
  | w :: r, i, B => by rw [crashB, crashB_len F r]; simp
theorem syncD_len (d : Dk) (h : d.chk = 0) : d.syncD.B.length = d.B.length := by
  rw [Dk.syncD, Dk.crashD, if_pos h]; exact crashB_len _ _ _ _
theorem get_spec (d : Dk) (n : Int) (hd : d.Sz) : PFn Try.prog 30 [d.v, Iv n] (.tup [Sv (d.getS n), Iv (d.getE n)]) := by
  have hc := sync_spec d hd
  by_cases h : d.chk = 0
  · have hl := syncD_len d h
    have hdb := hd.b
    rw [h] at hc
    by_cases hn : 0 ≤ n ∧ n < d.B.length
    · have e1 : d.getS n = d.syncD.B.getD n.toNat [] := if_pos ⟨h, hn⟩
      have e2 : d.getE n = 0 := by rw [Dk.getE, if_neg (fun e => e h), if_pos hn]
      rw [e1, e2]
      obtain ⟨j, rfl⟩ := Int.eq_ofNat_of_zero_le hn.1
      have hgb := blkR_get d.syncD.B j (by omega)
      refine ACall.walk [0, 1, 2, 4, 5, 6, 7, 14, 24] [6] Try.func30 rfl Try.ntmps30 (by kernel_rfl) (by rfl) rfl fun W own I0 φ0 => ?_
      repeat (first | refine xA ?_ | refine xB ?_ | refine xC ?_ | refine xE ?_ | refine xD ?_ | refine xK ?_ | refine xS ?_ | refine xM ?_ | refine xT ?_ | refine xF ?_ | ((first | refine xR ?_ | refine xW ?_ | refine vq_id ?_); simp only [go_sem, Nat.reduceAdd, Nat.reduceLeDiff, Nat.reduceSub, Int.reduceToNat, reduceCtorEq]) | (refine ⟨by first | omega | (intros; simp_all; done) | (intros; simp_all; omega), ?_⟩; try simp only [go_sem, Nat.reduceAdd, Nat.reduceLeDiff, Nat.reduceSub, Int.reduceToNat, reduceCtorEq]))
      refine AQ.fn (by kernel_rfl) rfl rfl rfl (hc) rfl ?_
      repeat (first | refine xA ?_ | refine xB ?_ | refine xC ?_ | refine xE ?_ | refine xD ?_ | refine xK ?_ | refine xS ?_ | refine xM ?_ | refine xT ?_ | refine xF ?_ | ((first | refine xR ?_ | refine xW ?_ | refine vq_id ?_); simp only [go_sem, Nat.reduceAdd, Nat.reduceLeDiff, Nat.reduceSub, Int.reduceToNat, reduceCtorEq, blkR_len, hl]) | (refine ⟨by first | omega | (intros; simp_all; done) | (intros; simp_all; omega), ?_⟩; try simp only [go_sem, Nat.reduceAdd, Nat.reduceLeDiff, Nat.reduceSub, Int.reduceToNat, reduceCtorEq, blkR_len, hl]))
      refine AP.cond_false rfl (by simp only [go_sem, Nat.reduceAdd, Nat.reduceLeDiff, Nat.reduceSub, Int.reduceToNat, reduceCtorEq]; refine congrArg (fun b => some (AV.im (IV.v (Value.bool b)))) ?_; (first | (simp only [Bool.or_eq_true, Bool.and_eq_true, Bool.not_eq_true', Bool.not_eq_false', Bool.and_eq_false_iff, Bool.or_eq_false_iff, decide_eq_true_eq, decide_eq_false_iff_not, beq_iff_eq, bne_iff_ne, beq_eq_false_iff_ne, bne_eq_false_iff_eq, ne_eq]; omega) | (simp; done) | (simp; omega) | (simp_all; done) | (simp_all; omega))) ?_
      repeat (first | refine xA ?_ | refine xB ?_ | refine xC ?_ | refine xE ?_ | refine xD ?_ | refine xK ?_ | refine xS ?_ | refine xM ?_ | refine xT ?_ | refine xF ?_ | ((first | refine xR ?_ | refine xW ?_ | refine vq_id ?_); simp only [go_sem, Nat.reduceAdd, Nat.reduceLeDiff, Nat.reduceSub, Int.reduceToNat, reduceCtorEq, blkR_len, hl, hgb]) | (refine ⟨by first | omega | (intros; simp_all; done) | (intros; simp_all; omega), ?_⟩; try simp only [go_sem, Nat.reduceAdd, Nat.reduceLeDiff, Nat.reduceSub, Int.reduceToNat, reduceCtorEq, blkR_len, hl, hgb]))
      exact AE.ret0 rfl ⟨rfl, rfl, trivial⟩ rfl ⟨rfl, rfl⟩
    · have e1 : d.getS n = [] := if_neg (fun e => hn e.2)
      have e2 : d.getE n = 3 := by rw [Dk.getE, if_neg (fun e => e h), if_neg hn]
      rw [e1, e2]
      refine ACall.walk [0, 1, 2, 4, 5, 6, 7, 14, 24] [6] Try.func30 rfl Try.ntmps30 (by kernel_rfl) (by rfl) rfl fun W own I0 φ0 => ?_
      repeat (first | refine xA ?_ | refine xB ?_ | refine xC ?_ | refine xE ?_ | refine xD ?_ | refine xK ?_ | refine xS ?_ | refine xM ?_ | refine xT ?_ | refine xF ?_ | ((first | refine xR ?_ | refine xW ?_ | refine vq_id ?_); simp only [go_sem, Nat.reduceAdd, Nat.reduceLeDiff, Nat.reduceSub, Int.reduceToNat, reduceCtorEq]) | (refine ⟨by first | omega | (intros; simp_all; done) | (intros; simp_all; omega), ?_⟩; try simp only [go_sem, Nat.reduceAdd, Nat.reduceLeDiff, Nat.reduceSub, Int.reduceToNat, reduceCtorEq]))
      refine AQ.fn (by kernel_rfl) rfl rfl rfl (hc) rfl ?_
      repeat (first | refine xA ?_ | refine xB ?_ | refine xC ?_ | refine xE ?_ | refine xD ?_ | refine xK ?_ | refine xS ?_ | refine xM ?_ | refine xT ?_ | refine xF ?_ | ((first | refine xR ?_ | refine xW ?_ | refine vq_id ?_); simp only [go_sem, Nat.reduceAdd, Nat.reduceLeDiff, Nat.reduceSub, Int.reduceToNat, reduceCtorEq, blkR_len, hl]) | (refine ⟨by first | omega | (intros; simp_all; done) | (intros; simp_all; omega), ?_⟩; try simp only [go_sem, Nat.reduceAdd, Nat.reduceLeDiff, Nat.reduceSub, Int.reduceToNat, reduceCtorEq, blkR_len, hl]))
      refine AP.cond_true rfl (by simp only [go_sem, Nat.reduceAdd, Nat.reduceLeDiff, Nat.reduceSub, Int.reduceToNat, reduceCtorEq]; refine congrArg (fun b => some (AV.im (IV.v (Value.bool b)))) ?_; (first | (simp only [Bool.or_eq_true, Bool.and_eq_true, Bool.not_eq_true', Bool.not_eq_false', Bool.and_eq_false_iff, Bool.or_eq_false_iff, decide_eq_true_eq, decide_eq_false_iff_not, beq_iff_eq, bne_iff_ne, beq_eq_false_iff_ne, bne_eq_false_iff_eq, ne_eq]; omega) | (simp; done) | (simp; omega) | (simp_all; done) | (simp_all; omega))) ?_
      repeat (first | refine xA ?_ | refine xB ?_ | refine xC ?_ | refine xE ?_ | refine xD ?_ | refine xK ?_ | refine xS ?_ | refine xM ?_ | refine xT ?_ | refine xF ?_ | ((first | refine xR ?_ | refine xW ?_ | refine vq_id ?_); simp only [go_sem, Nat.reduceAdd, Nat.reduceLeDiff, Nat.reduceSub, Int.reduceToNat, reduceCtorEq]) | (refine ⟨by first | omega | (intros; simp_all; done) | (intros; simp_all; omega), ?_⟩; try simp only [go_sem, Nat.reduceAdd, Nat.reduceLeDiff, Nat.reduceSub, Int.reduceToNat, reduceCtorEq]))
      exact AE.ret0 rfl ⟨rfl, rfl, trivial⟩ rfl ⟨rfl, rfl⟩
  · have e1 : d.getS n = [] := if_neg (fun e => h e.1)
    have e2 : d.getE n = d.chk := if_pos h
    rw [e1, e2]
    obtain ⟨e, he⟩ : ∃ e, d.chk = e := ⟨_, rfl⟩
    rw [he] at hc h ⊢
    refine ACall.walk [0, 1, 2, 4, 5, 6, 7, 14, 24] [6] Try.func30 rfl Try.ntmps30 (by kernel_rfl) (by rfl) rfl fun W own I0 φ0 => ?_
    repeat (first | refine xA ?_ | refine xB ?_ | refine xC ?_ | refine xE ?_ | refine xD ?_ | refine xK ?_ | refine xS ?_ | refine xM ?_ | refine xT ?_ | refine xF ?_ | ((first | refine xR ?_ | refine xW ?_ | refine vq_id ?_); simp only [go_sem, Nat.reduceAdd, Nat.reduceLeDiff, Nat.reduceSub, Int.reduceToNat, reduceCtorEq]) | (refine ⟨by first | omega | (intros; simp_all; done) | (intros; simp_all; omega), ?_⟩; try simp only [go_sem, Nat.reduceAdd, Nat.reduceLeDiff, Nat.reduceSub, Int.reduceToNat, reduceCtorEq]))
    refine AQ.fn (by kernel_rfl) rfl rfl rfl (hc) rfl ?_
    repeat (first | refine xA ?_ | refine xB ?_ | refine xC ?_ | refine xE ?_ | refine xD ?_ | refine xK ?_ | refine xS ?_ | refine xM ?_ | refine xT ?_ | refine xF ?_ | ((first | refine xR ?_ | refine xW ?_ | refine vq_id ?_); simp only [go_sem, Nat.reduceAdd, Nat.reduceLeDiff, Nat.reduceSub, Int.reduceToNat, reduceCtorEq]) | (refine ⟨by first | omega | (intros; simp_all; done) | (intros; simp_all; omega), ?_⟩; try simp only [go_sem, Nat.reduceAdd, Nat.reduceLeDiff, Nat.reduceSub, Int.reduceToNat, reduceCtorEq]))
    refine AP.cond_true rfl (by simp only [go_sem, Nat.reduceAdd, Nat.reduceLeDiff, Nat.reduceSub, Int.reduceToNat, reduceCtorEq]; refine congrArg (fun b => some (AV.im (IV.v (Value.bool b)))) ?_; (first | (simp only [Bool.or_eq_true, Bool.and_eq_true, Bool.not_eq_true', Bool.not_eq_false', Bool.and_eq_false_iff, Bool.or_eq_false_iff, decide_eq_true_eq, decide_eq_false_iff_not, beq_iff_eq, bne_iff_ne, beq_eq_false_iff_ne, bne_eq_false_iff_eq, ne_eq]; omega) | (simp; done) | (simp; omega) | (simp_all; done) | (simp_all; omega))) ?_
    repeat (first | refine xA ?_ | refine xB ?_ | refine xC ?_ | refine xE ?_ | refine xD ?_ | refine xK ?_ | refine xS ?_ | refine xM ?_ | refine xT ?_ | refine xF ?_ | ((first | refine xR ?_ | refine xW ?_ | refine vq_id ?_); simp only [go_sem, Nat.reduceAdd, Nat.reduceLeDiff, Nat.reduceSub, Int.reduceToNat, reduceCtorEq]) | (refine ⟨by first | omega | (intros; simp_all; done) | (intros; simp_all; omega), ?_⟩; try simp only [go_sem, Nat.reduceAdd, Nat.reduceLeDiff, Nat.reduceSub, Int.reduceToNat, reduceCtorEq]))
    exact AE.ret0 rfl ⟨rfl, rfl, trivial⟩ rfl ⟨rfl, rfl⟩
theorem clone86o (B : List Wr) (hB : B.length ≤ 1000000000) : ACall Try.prog 86 [.im (.sl 2 (wrR B))] [] (fun r H' => H' = [(0, .vec 97 2 (wrR B))] ∧ r = .os 0 2 0 B.length) := by
  refine ACall.walk [0, 2, 4] [] Try.func86 rfl Try.ntmps86 (by kernel_rfl) (by rfl) rfl fun W own I0 φ0 => ?_
  cases B with
  | nil =>
    refine xPP rfl ?_
    refine AP.region rfl (by kernel_rfl) ?_; simp only [go_sem, Nat.reduceAdd, Nat.reduceLeDiff, Nat.reduceSub, Int.reduceToNat, reduceCtorEq]
    refine AQ.done ?_
    refine xEP rfl ?_
    refine AP.regionN 1 rfl (by kernel_rfl) ?_; simp only [go_sem, Nat.reduceAdd, Nat.reduceLeDiff, Nat.reduceSub, Int.reduceToNat, reduceCtorEq]
    refine AQ.isnil (by kernel_rfl) rfl Try.tk26 fun b => ?_
    simp only [go_sem, Nat.reduceAdd, Nat.reduceLeDiff, Nat.reduceSub, Int.reduceToNat, reduceCtorEq]
    repeat (first | refine xA ?_ | refine xB ?_ | refine xC ?_ | refine xE ?_ | refine xD ?_ | refine xK ?_ | refine xS ?_ | refine xM ?_ | refine xT ?_ | refine xF ?_ | ((first | refine xR ?_ | refine xW ?_ | refine vq_id ?_); simp only [go_sem, Nat.reduceAdd, Nat.reduceLeDiff, Nat.reduceSub, Int.reduceToNat, reduceCtorEq]) | (refine ⟨by first | omega | (intros; simp_all; done) | (intros; simp_all; omega), ?_⟩; try simp only [go_sem, Nat.reduceAdd, Nat.reduceLeDiff, Nat.reduceSub, Int.reduceToNat, reduceCtorEq]))
    refine AP.cond rfl rfl (fun hb => ?_) (fun hb => ?_)
    · repeat (first | refine xA ?_ | refine xB ?_ | refine xC ?_ | refine xE ?_ | refine xD ?_ | refine xK ?_ | refine xS ?_ | refine xM ?_ | refine xT ?_ | refine xF ?_ | ((first | refine xR ?_ | refine xW ?_ | refine vq_id ?_); simp only [go_sem, Nat.reduceAdd, Nat.reduceLeDiff, Nat.reduceSub, Int.reduceToNat, reduceCtorEq]) | (refine ⟨by first | omega | (intros; simp_all; done) | (intros; simp_all; omega), ?_⟩; try simp only [go_sem, Nat.reduceAdd, Nat.reduceLeDiff, Nat.reduceSub, Int.reduceToNat, reduceCtorEq]))
      refine AE.own 2 97 2 rfl ?_
      exact AE.ret rfl ⟨rfl, trivial⟩ ⟨rfl, rfl⟩
    · repeat (first | refine xA ?_ | refine xB ?_ | refine xC ?_ | refine xE ?_ | refine xD ?_ | refine xK ?_ | refine xS ?_ | refine xM ?_ | refine xT ?_ | refine xF ?_ | ((first | refine xR ?_ | refine xW ?_ | refine vq_id ?_); simp only [go_sem, Nat.reduceAdd, Nat.reduceLeDiff, Nat.reduceSub, Int.reduceToNat, reduceCtorEq]) | (refine ⟨by first | omega | (intros; simp_all; done) | (intros; simp_all; omega), ?_⟩; try simp only [go_sem, Nat.reduceAdd, Nat.reduceLeDiff, Nat.reduceSub, Int.reduceToNat, reduceCtorEq]))
      refine AQ.append (hnb := rfl) (rows := []) (es := 1) (by kernel_rfl) rfl rfl rfl (by rfl) Try.tk26 Try.sz97 (by show Option.map _ (zro Try.prog 97) = _; rw [Try.zr97]; rfl) Try.by97 (by first | rfl | (simp only [wrR_len, List.length_cons, List.length_nil]; done) | (simp only [wrR_len, List.length_cons, List.length_nil]; omega)) (by simp only [wrR_len, List.length_cons, List.length_nil]; omega) (by simp only [wrR_len, List.length_cons, List.length_nil]; omega) ?_
      simp only [go_sem, Nat.reduceAdd, Nat.reduceLeDiff, Nat.reduceSub, Int.reduceToNat, reduceCtorEq, List.nil_append]
      repeat (first | refine xA ?_ | refine xB ?_ | refine xC ?_ | refine xE ?_ | refine xD ?_ | refine xK ?_ | refine xS ?_ | refine xM ?_ | refine xT ?_ | refine xF ?_ | ((first | refine xR ?_ | refine xW ?_ | refine vq_id ?_); simp only [go_sem, Nat.reduceAdd, Nat.reduceLeDiff, Nat.reduceSub, Int.reduceToNat, reduceCtorEq]) | (refine ⟨by first | omega | (intros; simp_all; done) | (intros; simp_all; omega), ?_⟩; try simp only [go_sem, Nat.reduceAdd, Nat.reduceLeDiff, Nat.reduceSub, Int.reduceToNat, reduceCtorEq]))
      exact AE.ret rfl ⟨rfl, trivial⟩ ⟨rfl, rfl⟩
  | cons x B =>
    simp only [List.length_cons] at hB
    have hne : wrR (x :: B) ≠ [] := by simp [wrR]
    repeat (first | refine xA ?_ | refine xB ?_ | refine xC ?_ | refine xE ?_ | refine xD ?_ | refine xK ?_ | refine xS ?_ | refine xM ?_ | refine xT ?_ | refine xF ?_ | ((first | refine xR ?_ | refine xW ?_ | refine vq_id ?_); simp only [go_sem, Nat.reduceAdd, Nat.reduceLeDiff, Nat.reduceSub, Int.reduceToNat, reduceCtorEq]) | (refine ⟨by first | omega | (intros; simp_all; done) | (intros; simp_all; omega), ?_⟩; try simp only [go_sem, Nat.reduceAdd, Nat.reduceLeDiff, Nat.reduceSub, Int.reduceToNat, reduceCtorEq]))
    refine AQ.append (hnb := rfl) (rows := []) (es := 1) (by kernel_rfl) rfl rfl rfl (by rfl) Try.tk26 Try.sz97 (by show Option.map _ (zro Try.prog 97) = _; rw [Try.zr97]; rfl) Try.by97 (by first | rfl | (simp only [wrR_len, List.length_cons, List.length_nil]; done) | (simp only [wrR_len, List.length_cons, List.length_nil]; omega)) (by simp only [wrR_len, List.length_cons, List.length_nil]; omega) (by simp only [wrR_len, List.length_cons, List.length_nil]; omega) ?_
    simp only [go_sem, Nat.reduceAdd, Nat.reduceLeDiff, Nat.reduceSub, Int.reduceToNat, reduceCtorEq, List.nil_append]
    repeat (first | refine xA ?_ | refine xB ?_ | refine xC ?_ | refine xE ?_ | refine xD ?_ | refine xK ?_ | refine xS ?_ | refine xM ?_ | refine xT ?_ | refine xF ?_ | ((first | refine xR ?_ | refine xW ?_ | refine vq_id ?_); simp only [go_sem, Nat.reduceAdd, Nat.reduceLeDiff, Nat.reduceSub, Int.reduceToNat, reduceCtorEq]) | (refine ⟨by first | omega | (intros; simp_all; done) | (intros; simp_all; omega), ?_⟩; try simp only [go_sem, Nat.reduceAdd, Nat.reduceLeDiff, Nat.reduceSub, Int.reduceToNat, reduceCtorEq]))
    exact AE.ret rfl ⟨rfl, trivial⟩ ⟨rfl, by rw [wrR_len]; rfl⟩
theorem copied_own (d : Dk) (hd : d.Sz) : ACall Try.prog 52 [d.v] [] (fun r H' => H' = [(1, .vec 9 1 (blkR d.B)), (2, .vec 97 2 (wrR d.W))] ∧ r = .agg [.os 1 1 0 d.B.length, .os 2 2 0 d.W.length]) := by
  obtain ⟨B, W'⟩ := d
  have h1 := clone15o B hd.b
  have h2 := clone86o W' hd.w
  refine ACall.walk [0, 1, 2] [2] Try.func52 rfl Try.ntmps52 (by kernel_rfl) (by rfl) rfl fun W own I0 φ0 => ?_
  repeat (first | refine xA ?_ | refine xB ?_ | refine xC ?_ | refine xE ?_ | refine xD ?_ | refine xK ?_ | refine xS ?_ | refine xM ?_ | refine xT ?_ | refine xF ?_ | ((first | refine xR ?_ | refine xW ?_ | refine vq_id ?_); simp only [go_sem, Nat.reduceAdd, Nat.reduceLeDiff, Nat.reduceSub, Int.reduceToNat, reduceCtorEq]) | (refine ⟨by first | omega | (intros; simp_all; done) | (intros; simp_all; omega), ?_⟩; try simp only [go_sem, Nat.reduceAdd, Nat.reduceLeDiff, Nat.reduceSub, Int.reduceToNat, reduceCtorEq]))
  refine AP.cut (α := Unit) (fun _ => [(2, .ob 0 0)]) (fun _ => [(0, .var 28 [.os 1 1 0 B.length, .os 2 2 0 W'.length]), (1, .vec 9 1 (blkR B)), (2, .vec 97 2 (wrR W'))]) (fun _ => True) ?_ fun _ _ => ?_
  · skip
    refine AP.drawE 8 (Tree.node [] [0, 1, 3, 4] [2] [Tree.node [3, 4] [] [5] [Tree.node [] [6] [7] [Tree.node [] [] [] []]]]) (by kernel_rfl) rfl (by kernel_rfl) (by kernel_rfl) ?_
    refine vd_node ?_
    simp only [go_sem, Nat.reduceAdd, Nat.reduceLeDiff, Nat.reduceSub, Int.reduceToNat, reduceCtorEq]
    repeat' (first | with_reducible exact True.intro | with_reducible refine And.intro (by omega) ?_ | with_reducible refine And.intro ?_ ?_ | (refine AQ.nx rfl ?_; simp only [go_sem, Nat.reduceAdd, Nat.reduceLeDiff, Nat.reduceSub, Int.reduceToNat, reduceCtorEq]) | (refine AQ.callv (by kernel_rfl) rfl rfl rfl h1 fun r' H' ⟨e1, e2⟩ => ?_; subst e1; subst e2; simp only [go_sem, Nat.reduceAdd, Nat.reduceLeDiff, Nat.reduceSub, Int.reduceToNat, reduceCtorEq]) | (refine AQ.callv (by kernel_rfl) rfl rfl rfl h2 fun r' H' ⟨e1, e2⟩ => ?_; subst e1; subst e2; simp only [go_sem, Nat.reduceAdd, Nat.reduceLeDiff, Nat.reduceSub, Int.reduceToNat, reduceCtorEq]) | refine AQ.done ?_ | (refine AQ.go (by kernel_rfl) ?_; simp only [go_sem, Nat.reduceAdd, Nat.reduceLeDiff, Nat.reduceSub, Int.reduceToNat, reduceCtorEq]; repeat (with_reducible refine And.intro (by omega) ?_); refine AQ.nx rfl ?_; simp only [go_sem, Nat.reduceAdd, Nat.reduceLeDiff, Nat.reduceSub, Int.reduceToNat, reduceCtorEq]))
    all_goals first
      | (refine AE.order [0, 1, 2] rfl ?_; simp only [go_sem, Nat.reduceAdd, Nat.reduceLeDiff, Nat.reduceSub, Int.reduceToNat, reduceCtorEq]; exact AE.meet () trivial (by repeat (first | exact Sub.nil _ | refine Sub.cons rfl ?_)) rfl)
      | (refine AE.rename 1 3 rfl rfl rfl ?_; simp only [go_sem, Nat.reduceAdd, Nat.reduceLeDiff, Nat.reduceSub, Int.reduceToNat, reduceCtorEq]; refine AE.rename 2 1 rfl rfl rfl ?_; simp only [go_sem, Nat.reduceAdd, Nat.reduceLeDiff, Nat.reduceSub, Int.reduceToNat, reduceCtorEq]; refine AE.rename 3 2 rfl rfl rfl ?_; simp only [go_sem, Nat.reduceAdd, Nat.reduceLeDiff, Nat.reduceSub, Int.reduceToNat, reduceCtorEq]; refine AE.order [0, 1, 2] rfl ?_; simp only [go_sem, Nat.reduceAdd, Nat.reduceLeDiff, Nat.reduceSub, Int.reduceToNat, reduceCtorEq]; exact AE.meet () trivial (by repeat (first | exact Sub.nil _ | refine Sub.cons rfl ?_)) rfl)
  · repeat (first | refine xA ?_ | refine xB ?_ | refine xC ?_ | refine xE ?_ | refine xD ?_ | refine xK ?_ | refine xS ?_ | refine xM ?_ | refine xT ?_ | refine xF ?_ | ((first | refine xR ?_ | refine xW ?_ | refine vq_id ?_); simp only [go_sem, Nat.reduceAdd, Nat.reduceLeDiff, Nat.reduceSub, Int.reduceToNat, reduceCtorEq]) | (refine ⟨by first | omega | (intros; simp_all; done) | (intros; simp_all; omega), ?_⟩; try simp only [go_sem, Nat.reduceAdd, Nat.reduceLeDiff, Nat.reduceSub, Int.reduceToNat, reduceCtorEq]))
    exact AE.retD [0] rfl ⟨⟨rfl, Nat.le_of_ble_eq_true (by kernel_rfl)⟩, trivial⟩ rfl ⟨rfl, rfl⟩
def Dk.putE (d : Dk) (n : Int) (s : Bs) : Int := if d.chk ≠ 0 then d.chk else if ¬ (0 ≤ n ∧ n < d.B.length) then 3 else if s.length ≠ 32 then 4 else if 10000 ≤ d.W.length then 8 else 0
def Dk.putD (d : Dk) (n : Int) (s : Bs) : Dk := if d.putE n s = 0 then ⟨d.B, d.W ++ [(n, s)]⟩ else nilD
end Go.Proofs.Ytoafanbfminhcaa
end

section
namespace Go.Proofs.Ytoafanbfminhcaa
open Go Go.AL Go.RowKit
set_option maxRecDepth 10000
set_option maxHeartbeats 4000000
theorem all_drop {α : Type} (l : List α) (p : α → Bool) (k : Nat) (d : α) (h : k < l.length) : (l.drop k).all p = (p (l.getD k d) && (l.drop (k + 1)).all p) := by
  rw [drop_get l k d h, List.all_cons]
theorem okN_t (n : Nat) (hn : n ≤ 1000000000) : (decide ((n : Int) < 4) || decide (2000 < (n : Int)) || (n : Int).tmod 2 == 1) = !okN n := by
  rw [show ((n : Int).tmod 2) = ((n % 2 : Nat) : Int) from rfl]
  unfold okN
  rw [Bool.eq_iff_iff]
  simp only [Bool.or_eq_true, decide_eq_true_eq, beq_iff_eq, Bool.not_eq_true', Bool.and_eq_false_iff, decide_eq_false_iff_not]
  omega
theorem checkR_spec (d : Dk) (hd : d.Sz) : PFn Try.prog 27 [d.v] (Iv d.chk) := by
  obtain ⟨B, W'⟩ := d
  obtain ⟨hB, hW⟩ := hd
  simp only at hB hW
  have hok := okN_t B.length hB
  refine ACall.walk [0, 1, 2, 3, 4, 5, 6, 20, 23, 32, 36, 41, 57, 61] [6] Try.func27 rfl Try.ntmps27 (by kernel_rfl) (by rfl) rfl fun W own I0 φ0 => ?_
  repeat (first | refine xA ?_ | refine xB ?_ | refine xC ?_ | refine xE ?_ | refine xD ?_ | refine xK ?_ | refine xS ?_ | refine xM ?_ | refine xT ?_ | refine xF ?_ | ((first | refine xR ?_ | refine xW ?_ | refine vq_id ?_); simp only [go_sem, Nat.reduceAdd, Nat.reduceLeDiff, Nat.reduceSub, Int.reduceToNat, reduceCtorEq, blkR_len]) | (refine ⟨by first | omega | (intros; simp_all; done) | (intros; simp_all; omega), ?_⟩; try simp only [go_sem, Nat.reduceAdd, Nat.reduceLeDiff, Nat.reduceSub, Int.reduceToNat, reduceCtorEq, blkR_len]))
  unfold Dk.chk
  simp only
  cases hn : okN B.length with
  | false =>
    rw [hn] at hok
    refine AP.cond_true rfl (by simp only [go_sem, Nat.reduceAdd, Nat.reduceLeDiff, Nat.reduceSub, Int.reduceToNat, reduceCtorEq]; rw [hok]; rfl) ?_
    repeat (first | refine xA ?_ | refine xB ?_ | refine xC ?_ | refine xE ?_ | refine xD ?_ | refine xK ?_ | refine xS ?_ | refine xM ?_ | refine xT ?_ | refine xF ?_ | ((first | refine xR ?_ | refine xW ?_ | refine vq_id ?_); simp only [go_sem, Nat.reduceAdd, Nat.reduceLeDiff, Nat.reduceSub, Int.reduceToNat, reduceCtorEq]) | (refine ⟨by first | omega | (intros; simp_all; done) | (intros; simp_all; omega), ?_⟩; try simp only [go_sem, Nat.reduceAdd, Nat.reduceLeDiff, Nat.reduceSub, Int.reduceToNat, reduceCtorEq]))
    exact AE.ret0 rfl ⟨rfl, trivial⟩ rfl ⟨rfl, rfl⟩
  | true =>
    rw [hn] at hok
    refine AP.cond_false rfl (by simp only [go_sem, Nat.reduceAdd, Nat.reduceLeDiff, Nat.reduceSub, Int.reduceToNat, reduceCtorEq]; rw [hok]; rfl) ?_
    repeat (first | refine xA ?_ | refine xB ?_ | refine xC ?_ | refine xE ?_ | refine xD ?_ | refine xK ?_ | refine xS ?_ | refine xM ?_ | refine xT ?_ | refine xF ?_ | ((first | refine xR ?_ | refine xW ?_ | refine vq_id ?_); simp only [go_sem, Nat.reduceAdd, Nat.reduceLeDiff, Nat.reduceSub, Int.reduceToNat, reduceCtorEq]) | (refine ⟨by first | omega | (intros; simp_all; done) | (intros; simp_all; omega), ?_⟩; try simp only [go_sem, Nat.reduceAdd, Nat.reduceLeDiff, Nat.reduceSub, Int.reduceToNat, reduceCtorEq]))
    simp only [Bool.true_and]
    refine AP.loop rfl (α := Nat) (fun k => [(1, .im (.pt [.sl 1 (blkR B), .sl 2 (wrR W')])), (3, Iv B.length), (4, Iv k)]) (fun _ => []) (fun k => k ≤ B.length ∧ B.all is32 = (B.drop k).all is32) (fun k => B.length - k) 0 ⟨by omega, rfl⟩ (by repeat (first | exact Sub.nil _ | refine Sub.cons rfl ?_)) rfl fun k ⟨hk, hi⟩ => ?_
    rcases Nat.eq_or_lt_of_le hk with hke | hlt
    · rw [List.drop_eq_nil_of_le (by omega), List.all_nil] at hi
      simp only [hi, Bool.true_and]
      repeat (first | refine xA ?_ | refine xB ?_ | refine xC ?_ | refine xE ?_ | refine xD ?_ | refine xK ?_ | refine xS ?_ | refine xM ?_ | refine xT ?_ | refine xF ?_ | ((first | refine xR ?_ | refine xW ?_ | refine vq_id ?_); simp only [go_sem, Nat.reduceAdd, Nat.reduceLeDiff, Nat.reduceSub, Int.reduceToNat, reduceCtorEq]) | (refine ⟨by first | omega | (intros; simp_all; done) | (intros; simp_all; omega), ?_⟩; try simp only [go_sem, Nat.reduceAdd, Nat.reduceLeDiff, Nat.reduceSub, Int.reduceToNat, reduceCtorEq]))
      refine AP.cond_false rfl (by simp only [go_sem, Nat.reduceAdd, Nat.reduceLeDiff, Nat.reduceSub, Int.reduceToNat, reduceCtorEq]; refine congrArg (fun b => some (AV.im (IV.v (Value.bool b)))) ?_; (first | (simp only [Bool.or_eq_true, Bool.and_eq_true, Bool.not_eq_true', Bool.not_eq_false', Bool.and_eq_false_iff, Bool.or_eq_false_iff, decide_eq_true_eq, decide_eq_false_iff_not, beq_iff_eq, bne_iff_ne, beq_eq_false_iff_ne, bne_eq_false_iff_eq, ne_eq]; omega) | (simp; done) | (simp; omega) | (simp_all; done) | (simp_all; omega))) ?_
      repeat (first | refine xA ?_ | refine xB ?_ | refine xC ?_ | refine xE ?_ | refine xD ?_ | refine xK ?_ | refine xS ?_ | refine xM ?_ | refine xT ?_ | refine xF ?_ | ((first | refine xR ?_ | refine xW ?_ | refine vq_id ?_); simp only [go_sem, Nat.reduceAdd, Nat.reduceLeDiff, Nat.reduceSub, Int.reduceToNat, reduceCtorEq, wrR_len]) | (refine ⟨by first | omega | (intros; simp_all; done) | (intros; simp_all; omega), ?_⟩; try simp only [go_sem, Nat.reduceAdd, Nat.reduceLeDiff, Nat.reduceSub, Int.reduceToNat, reduceCtorEq, wrR_len]))
      by_cases hw1 : W'.length ≤ 10000
      · rw [if_pos (by simpa using hw1)]
        refine AP.cond_false rfl (by simp only [go_sem, Nat.reduceAdd, Nat.reduceLeDiff, Nat.reduceSub, Int.reduceToNat, reduceCtorEq]; refine congrArg (fun b => some (AV.im (IV.v (Value.bool b)))) ?_; (first | (simp only [Bool.or_eq_true, Bool.and_eq_true, Bool.not_eq_true', Bool.not_eq_false', Bool.and_eq_false_iff, Bool.or_eq_false_iff, decide_eq_true_eq, decide_eq_false_iff_not, beq_iff_eq, bne_iff_ne, beq_eq_false_iff_ne, bne_eq_false_iff_eq, ne_eq]; omega) | (simp; done) | (simp; omega) | (simp_all; done) | (simp_all; omega))) ?_
        repeat (first | refine xA ?_ | refine xB ?_ | refine xC ?_ | refine xE ?_ | refine xD ?_ | refine xK ?_ | refine xS ?_ | refine xM ?_ | refine xT ?_ | refine xF ?_ | ((first | refine xR ?_ | refine xW ?_ | refine vq_id ?_); simp only [go_sem, Nat.reduceAdd, Nat.reduceLeDiff, Nat.reduceSub, Int.reduceToNat, reduceCtorEq]) | (refine ⟨by first | omega | (intros; simp_all; done) | (intros; simp_all; omega), ?_⟩; try simp only [go_sem, Nat.reduceAdd, Nat.reduceLeDiff, Nat.reduceSub, Int.reduceToNat, reduceCtorEq]))
        refine AP.loop rfl (α := Nat) (fun k => [(1, .im (.pt [.sl 1 (blkR B), .sl 2 (wrR W')])), (3, Iv B.length), (5, Iv k)]) (fun _ => []) (fun k => k ≤ W'.length ∧ chkW B.length W' = chkW B.length (W'.drop k)) (fun k => W'.length - k) 0 ⟨by omega, rfl⟩ (by repeat (first | exact Sub.nil _ | refine Sub.cons rfl ?_)) rfl fun k ⟨hk, hi⟩ => ?_
        rcases Nat.eq_or_lt_of_le hk with hke | hlt
        · repeat (first | refine xA ?_ | refine xB ?_ | refine xC ?_ | refine xE ?_ | refine xD ?_ | refine xK ?_ | refine xS ?_ | refine xM ?_ | refine xT ?_ | refine xF ?_ | ((first | refine xR ?_ | refine xW ?_ | refine vq_id ?_); simp only [go_sem, Nat.reduceAdd, Nat.reduceLeDiff, Nat.reduceSub, Int.reduceToNat, reduceCtorEq, wrR_len]) | (refine ⟨by first | omega | (intros; simp_all; done) | (intros; simp_all; omega), ?_⟩; try simp only [go_sem, Nat.reduceAdd, Nat.reduceLeDiff, Nat.reduceSub, Int.reduceToNat, reduceCtorEq, wrR_len]))
          refine AP.cond_false rfl (by simp only [go_sem, Nat.reduceAdd, Nat.reduceLeDiff, Nat.reduceSub, Int.reduceToNat, reduceCtorEq]; refine congrArg (fun b => some (AV.im (IV.v (Value.bool b)))) ?_; (first | (simp only [Bool.or_eq_true, Bool.and_eq_true, Bool.not_eq_true', Bool.not_eq_false', Bool.and_eq_false_iff, Bool.or_eq_false_iff, decide_eq_true_eq, decide_eq_false_iff_not, beq_iff_eq, bne_iff_ne, beq_eq_false_iff_ne, bne_eq_false_iff_eq, ne_eq]; omega) | (simp; done) | (simp; omega) | (simp_all; done) | (simp_all; omega))) ?_
          repeat (first | refine xA ?_ | refine xB ?_ | refine xC ?_ | refine xE ?_ | refine xD ?_ | refine xK ?_ | refine xS ?_ | refine xM ?_ | refine xT ?_ | refine xF ?_ | ((first | refine xR ?_ | refine xW ?_ | refine vq_id ?_); simp only [go_sem, Nat.reduceAdd, Nat.reduceLeDiff, Nat.reduceSub, Int.reduceToNat, reduceCtorEq]) | (refine ⟨by first | omega | (intros; simp_all; done) | (intros; simp_all; omega), ?_⟩; try simp only [go_sem, Nat.reduceAdd, Nat.reduceLeDiff, Nat.reduceSub, Int.reduceToNat, reduceCtorEq]))
          exact AE.ret0 rfl ⟨rfl, trivial⟩ rfl ⟨rfl, by rw [hi, List.drop_eq_nil_of_le (by omega)]; rfl⟩
        · have hg := wrR_get W' k hlt
          have hw := wr (x := (k : Int) + 1) (by omega)
          rw [drop_get W' k (0, []) hlt, chkW] at hi
          obtain ⟨p, hpp⟩ : ∃ p, W'.getD k (0, []) = p := ⟨_, rfl⟩
          rw [hpp] at hi hg
          obtain ⟨b, s⟩ := p
          simp only at hi hg
          repeat (first | refine xA ?_ | refine xB ?_ | refine xC ?_ | refine xE ?_ | refine xD ?_ | refine xK ?_ | refine xS ?_ | refine xM ?_ | refine xT ?_ | refine xF ?_ | ((first | refine xR ?_ | refine xW ?_ | refine vq_id ?_); simp only [go_sem, Nat.reduceAdd, Nat.reduceLeDiff, Nat.reduceSub, Int.reduceToNat, reduceCtorEq, wrR_len]) | (refine ⟨by first | omega | (intros; simp_all; done) | (intros; simp_all; omega), ?_⟩; try simp only [go_sem, Nat.reduceAdd, Nat.reduceLeDiff, Nat.reduceSub, Int.reduceToNat, reduceCtorEq, wrR_len]))
          refine AP.cond_true rfl (by simp only [go_sem, Nat.reduceAdd, Nat.reduceLeDiff, Nat.reduceSub, Int.reduceToNat, reduceCtorEq]; refine congrArg (fun b => some (AV.im (IV.v (Value.bool b)))) ?_; (first | (simp only [Bool.or_eq_true, Bool.and_eq_true, Bool.not_eq_true', Bool.not_eq_false', Bool.and_eq_false_iff, Bool.or_eq_false_iff, decide_eq_true_eq, decide_eq_false_iff_not, beq_iff_eq, bne_iff_ne, beq_eq_false_iff_ne, bne_eq_false_iff_eq, ne_eq]; omega) | (simp; done) | (simp; omega) | (simp_all; done) | (simp_all; omega))) ?_
          repeat (first | refine xA ?_ | refine xB ?_ | refine xC ?_ | refine xE ?_ | refine xD ?_ | refine xK ?_ | refine xS ?_ | refine xM ?_ | refine xT ?_ | refine xF ?_ | ((first | refine xR ?_ | refine xW ?_ | refine vq_id ?_); simp only [go_sem, Nat.reduceAdd, Nat.reduceLeDiff, Nat.reduceSub, Int.reduceToNat, reduceCtorEq, hg, wrR_len, blkR_len]) | (refine ⟨by first | omega | (intros; simp_all; done) | (intros; simp_all; omega), ?_⟩; try simp only [go_sem, Nat.reduceAdd, Nat.reduceLeDiff, Nat.reduceSub, Int.reduceToNat, reduceCtorEq, hg, wrR_len, blkR_len]))
          by_cases h1 : b < 0 ∨ (B.length : Int) ≤ b
          · rw [if_pos h1] at hi
            refine AP.cond_true rfl (by simp only [go_sem, Nat.reduceAdd, Nat.reduceLeDiff, Nat.reduceSub, Int.reduceToNat, reduceCtorEq]; refine congrArg (fun b => some (AV.im (IV.v (Value.bool b)))) ?_; (first | (simp only [Bool.or_eq_true, Bool.and_eq_true, Bool.not_eq_true', Bool.not_eq_false', Bool.and_eq_false_iff, Bool.or_eq_false_iff, decide_eq_true_eq, decide_eq_false_iff_not, beq_iff_eq, bne_iff_ne, beq_eq_false_iff_ne, bne_eq_false_iff_eq, ne_eq]; omega) | (simp; done) | (simp; omega) | (simp_all; done) | (simp_all; omega))) ?_
            repeat (first | refine xA ?_ | refine xB ?_ | refine xC ?_ | refine xE ?_ | refine xD ?_ | refine xK ?_ | refine xS ?_ | refine xM ?_ | refine xT ?_ | refine xF ?_ | ((first | refine xR ?_ | refine xW ?_ | refine vq_id ?_); simp only [go_sem, Nat.reduceAdd, Nat.reduceLeDiff, Nat.reduceSub, Int.reduceToNat, reduceCtorEq]) | (refine ⟨by first | omega | (intros; simp_all; done) | (intros; simp_all; omega), ?_⟩; try simp only [go_sem, Nat.reduceAdd, Nat.reduceLeDiff, Nat.reduceSub, Int.reduceToNat, reduceCtorEq]))
            exact AE.ret0 rfl ⟨rfl, trivial⟩ rfl ⟨rfl, by rw [hi]; rfl⟩
          · rw [if_neg h1] at hi
            refine AP.cond_false rfl (by simp only [go_sem, Nat.reduceAdd, Nat.reduceLeDiff, Nat.reduceSub, Int.reduceToNat, reduceCtorEq]; refine congrArg (fun b => some (AV.im (IV.v (Value.bool b)))) ?_; (first | (simp only [Bool.or_eq_true, Bool.and_eq_true, Bool.not_eq_true', Bool.not_eq_false', Bool.and_eq_false_iff, Bool.or_eq_false_iff, decide_eq_true_eq, decide_eq_false_iff_not, beq_iff_eq, bne_iff_ne, beq_eq_false_iff_ne, bne_eq_false_iff_eq, ne_eq]; omega) | (simp; done) | (simp; omega) | (simp_all; done) | (simp_all; omega))) ?_
            repeat (first | refine xA ?_ | refine xB ?_ | refine xC ?_ | refine xE ?_ | refine xD ?_ | refine xK ?_ | refine xS ?_ | refine xM ?_ | refine xT ?_ | refine xF ?_ | ((first | refine xR ?_ | refine xW ?_ | refine vq_id ?_); simp only [go_sem, Nat.reduceAdd, Nat.reduceLeDiff, Nat.reduceSub, Int.reduceToNat, reduceCtorEq, BA_size]) | (refine ⟨by first | omega | (intros; simp_all; done) | (intros; simp_all; omega), ?_⟩; try simp only [go_sem, Nat.reduceAdd, Nat.reduceLeDiff, Nat.reduceSub, Int.reduceToNat, reduceCtorEq, BA_size]))
            by_cases h2 : s.length ≠ 32
            · rw [if_pos h2] at hi
              refine AP.cond_true rfl (by simp only [go_sem, Nat.reduceAdd, Nat.reduceLeDiff, Nat.reduceSub, Int.reduceToNat, reduceCtorEq]; refine congrArg (fun b => some (AV.im (IV.v (Value.bool b)))) ?_; (first | (simp only [Bool.or_eq_true, Bool.and_eq_true, Bool.not_eq_true', Bool.not_eq_false', Bool.and_eq_false_iff, Bool.or_eq_false_iff, decide_eq_true_eq, decide_eq_false_iff_not, beq_iff_eq, bne_iff_ne, beq_eq_false_iff_ne, bne_eq_false_iff_eq, ne_eq]; omega) | (simp; done) | (simp; omega) | (simp_all; done) | (simp_all; omega))) ?_
              repeat (first | refine xA ?_ | refine xB ?_ | refine xC ?_ | refine xE ?_ | refine xD ?_ | refine xK ?_ | refine xS ?_ | refine xM ?_ | refine xT ?_ | refine xF ?_ | ((first | refine xR ?_ | refine xW ?_ | refine vq_id ?_); simp only [go_sem, Nat.reduceAdd, Nat.reduceLeDiff, Nat.reduceSub, Int.reduceToNat, reduceCtorEq]) | (refine ⟨by first | omega | (intros; simp_all; done) | (intros; simp_all; omega), ?_⟩; try simp only [go_sem, Nat.reduceAdd, Nat.reduceLeDiff, Nat.reduceSub, Int.reduceToNat, reduceCtorEq]))
              exact AE.ret0 rfl ⟨rfl, trivial⟩ rfl ⟨rfl, by rw [hi]; rfl⟩
            · rw [if_neg h2] at hi
              refine AP.cond_false rfl (by simp only [go_sem, Nat.reduceAdd, Nat.reduceLeDiff, Nat.reduceSub, Int.reduceToNat, reduceCtorEq]; refine congrArg (fun b => some (AV.im (IV.v (Value.bool b)))) ?_; (first | (simp only [Bool.or_eq_true, Bool.and_eq_true, Bool.not_eq_true', Bool.not_eq_false', Bool.and_eq_false_iff, Bool.or_eq_false_iff, decide_eq_true_eq, decide_eq_false_iff_not, beq_iff_eq, bne_iff_ne, beq_eq_false_iff_ne, bne_eq_false_iff_eq, ne_eq]; omega) | (simp; done) | (simp; omega) | (simp_all; done) | (simp_all; omega))) ?_
              repeat (first | refine xA ?_ | refine xB ?_ | refine xC ?_ | refine xE ?_ | refine xD ?_ | refine xK ?_ | refine xS ?_ | refine xM ?_ | refine xT ?_ | refine xF ?_ | ((first | refine xR ?_ | refine xW ?_ | refine vq_id ?_); simp only [go_sem, Nat.reduceAdd, Nat.reduceLeDiff, Nat.reduceSub, Int.reduceToNat, reduceCtorEq, hw]) | (refine ⟨by first | omega | (intros; simp_all; done) | (intros; simp_all; omega), ?_⟩; try simp only [go_sem, Nat.reduceAdd, Nat.reduceLeDiff, Nat.reduceSub, Int.reduceToNat, reduceCtorEq, hw]))
              refine AE.forgets [0] rfl ?_
              simp only [go_sem, Nat.reduceAdd, Nat.reduceLeDiff, Nat.reduceSub, Int.reduceToNat, reduceCtorEq]
              exact AE.round (k + 1) ⟨by omega, hi⟩ (by omega) (by repeat (first | exact Sub.nil _ | refine Sub.cons rfl ?_)) rfl
      · rw [if_neg (by simpa using hw1)]
        refine AP.cond_true rfl (by simp only [go_sem, Nat.reduceAdd, Nat.reduceLeDiff, Nat.reduceSub, Int.reduceToNat, reduceCtorEq]; refine congrArg (fun b => some (AV.im (IV.v (Value.bool b)))) ?_; (first | (simp only [Bool.or_eq_true, Bool.and_eq_true, Bool.not_eq_true', Bool.not_eq_false', Bool.and_eq_false_iff, Bool.or_eq_false_iff, decide_eq_true_eq, decide_eq_false_iff_not, beq_iff_eq, bne_iff_ne, beq_eq_false_iff_ne, bne_eq_false_iff_eq, ne_eq]; omega) | (simp; done) | (simp; omega) | (simp_all; done) | (simp_all; omega))) ?_
        repeat (first | refine xA ?_ | refine xB ?_ | refine xC ?_ | refine xE ?_ | refine xD ?_ | refine xK ?_ | refine xS ?_ | refine xM ?_ | refine xT ?_ | refine xF ?_ | ((first | refine xR ?_ | refine xW ?_ | refine vq_id ?_); simp only [go_sem, Nat.reduceAdd, Nat.reduceLeDiff, Nat.reduceSub, Int.reduceToNat, reduceCtorEq]) | (refine ⟨by first | omega | (intros; simp_all; done) | (intros; simp_all; omega), ?_⟩; try simp only [go_sem, Nat.reduceAdd, Nat.reduceLeDiff, Nat.reduceSub, Int.reduceToNat, reduceCtorEq]))
        exact AE.ret0 rfl ⟨rfl, trivial⟩ rfl ⟨rfl, rfl⟩
    · have hg := blkR_get B k hlt
      have hw := wr (x := (k : Int) + 1) (by omega)
      rw [all_drop B is32 k [] hlt] at hi
      obtain ⟨s, hs⟩ : ∃ s, B.getD k [] = s := ⟨_, rfl⟩
      rw [hs] at hi hg
      repeat (first | refine xA ?_ | refine xB ?_ | refine xC ?_ | refine xE ?_ | refine xD ?_ | refine xK ?_ | refine xS ?_ | refine xM ?_ | refine xT ?_ | refine xF ?_ | ((first | refine xR ?_ | refine xW ?_ | refine vq_id ?_); simp only [go_sem, Nat.reduceAdd, Nat.reduceLeDiff, Nat.reduceSub, Int.reduceToNat, reduceCtorEq]) | (refine ⟨by first | omega | (intros; simp_all; done) | (intros; simp_all; omega), ?_⟩; try simp only [go_sem, Nat.reduceAdd, Nat.reduceLeDiff, Nat.reduceSub, Int.reduceToNat, reduceCtorEq]))
      refine AP.cond_true rfl (by simp only [go_sem, Nat.reduceAdd, Nat.reduceLeDiff, Nat.reduceSub, Int.reduceToNat, reduceCtorEq]; refine congrArg (fun b => some (AV.im (IV.v (Value.bool b)))) ?_; (first | (simp only [Bool.or_eq_true, Bool.and_eq_true, Bool.not_eq_true', Bool.not_eq_false', Bool.and_eq_false_iff, Bool.or_eq_false_iff, decide_eq_true_eq, decide_eq_false_iff_not, beq_iff_eq, bne_iff_ne, beq_eq_false_iff_ne, bne_eq_false_iff_eq, ne_eq]; omega) | (simp; done) | (simp; omega) | (simp_all; done) | (simp_all; omega))) ?_
      repeat (first | refine xA ?_ | refine xB ?_ | refine xC ?_ | refine xE ?_ | refine xD ?_ | refine xK ?_ | refine xS ?_ | refine xM ?_ | refine xT ?_ | refine xF ?_ | ((first | refine xR ?_ | refine xW ?_ | refine vq_id ?_); simp only [go_sem, Nat.reduceAdd, Nat.reduceLeDiff, Nat.reduceSub, Int.reduceToNat, reduceCtorEq, hg, blkR_len, BA_size]) | (refine ⟨by first | omega | (intros; simp_all; done) | (intros; simp_all; omega), ?_⟩; try simp only [go_sem, Nat.reduceAdd, Nat.reduceLeDiff, Nat.reduceSub, Int.reduceToNat, reduceCtorEq, hg, blkR_len, BA_size]))
      by_cases h2 : s.length ≠ 32
      · rw [show is32 s = false from decide_eq_false h2, Bool.false_and] at hi
        simp only [hi, Bool.false_and, Bool.false_eq_true, if_false]
        refine AP.cond_true rfl (by simp only [go_sem, Nat.reduceAdd, Nat.reduceLeDiff, Nat.reduceSub, Int.reduceToNat, reduceCtorEq]; refine congrArg (fun b => some (AV.im (IV.v (Value.bool b)))) ?_; (first | (simp only [Bool.or_eq_true, Bool.and_eq_true, Bool.not_eq_true', Bool.not_eq_false', Bool.and_eq_false_iff, Bool.or_eq_false_iff, decide_eq_true_eq, decide_eq_false_iff_not, beq_iff_eq, bne_iff_ne, beq_eq_false_iff_ne, bne_eq_false_iff_eq, ne_eq]; omega) | (simp; done) | (simp; omega) | (simp_all; done) | (simp_all; omega))) ?_
        repeat (first | refine xA ?_ | refine xB ?_ | refine xC ?_ | refine xE ?_ | refine xD ?_ | refine xK ?_ | refine xS ?_ | refine xM ?_ | refine xT ?_ | refine xF ?_ | ((first | refine xR ?_ | refine xW ?_ | refine vq_id ?_); simp only [go_sem, Nat.reduceAdd, Nat.reduceLeDiff, Nat.reduceSub, Int.reduceToNat, reduceCtorEq]) | (refine ⟨by first | omega | (intros; simp_all; done) | (intros; simp_all; omega), ?_⟩; try simp only [go_sem, Nat.reduceAdd, Nat.reduceLeDiff, Nat.reduceSub, Int.reduceToNat, reduceCtorEq]))
        exact AE.ret0 rfl ⟨rfl, trivial⟩ rfl ⟨rfl, rfl⟩
      · rw [show is32 s = true from decide_eq_true (by omega), Bool.true_and] at hi
        refine AP.cond_false rfl (by simp only [go_sem, Nat.reduceAdd, Nat.reduceLeDiff, Nat.reduceSub, Int.reduceToNat, reduceCtorEq]; refine congrArg (fun b => some (AV.im (IV.v (Value.bool b)))) ?_; (first | (simp only [Bool.or_eq_true, Bool.and_eq_true, Bool.not_eq_true', Bool.not_eq_false', Bool.and_eq_false_iff, Bool.or_eq_false_iff, decide_eq_true_eq, decide_eq_false_iff_not, beq_iff_eq, bne_iff_ne, beq_eq_false_iff_ne, bne_eq_false_iff_eq, ne_eq]; omega) | (simp; done) | (simp; omega) | (simp_all; done) | (simp_all; omega))) ?_
        repeat (first | refine xA ?_ | refine xB ?_ | refine xC ?_ | refine xE ?_ | refine xD ?_ | refine xK ?_ | refine xS ?_ | refine xM ?_ | refine xT ?_ | refine xF ?_ | ((first | refine xR ?_ | refine xW ?_ | refine vq_id ?_); simp only [go_sem, Nat.reduceAdd, Nat.reduceLeDiff, Nat.reduceSub, Int.reduceToNat, reduceCtorEq, hw]) | (refine ⟨by first | omega | (intros; simp_all; done) | (intros; simp_all; omega), ?_⟩; try simp only [go_sem, Nat.reduceAdd, Nat.reduceLeDiff, Nat.reduceSub, Int.reduceToNat, reduceCtorEq, hw]))
        exact AE.round (k + 1) ⟨by omega, hi⟩ (by omega) (by repeat (first | exact Sub.nil _ | refine Sub.cons rfl ?_)) rfl
end Go.Proofs.Ytoafanbfminhcaa
end

section
namespace Go.Proofs.Ytoafanbfminhcaa
open Go Go.AL Go.RowKit
set_option maxRecDepth 10000
set_option maxHeartbeats 4000000
def lastW (n : Int) : List Wr → Bs → Bs
  | [], s => s
  | w :: r, s => lastW n r (if w.1 = n then w.2 else s)
theorem getR_spec (d : Dk) (j : Nat) (hj : j < d.B.length) (hd : d.Sz) : PFn Try.prog 67 [d.v, Iv j] (Sv (lastW j d.W (d.B.getD j []))) := by
  obtain ⟨B, W'⟩ := d
  obtain ⟨hB, hW⟩ := hd
  simp only at hB hW hj
  have hgb := blkR_get B j hj
  refine ACall.walk [0, 1, 2, 4, 5, 6, 16, 26] [] Try.func67 rfl Try.ntmps67 (by kernel_rfl) (by rfl) rfl fun W own I0 φ0 => ?_
  repeat (first | refine xA ?_ | refine xB ?_ | refine xC ?_ | refine xE ?_ | refine xD ?_ | refine xK ?_ | refine xS ?_ | refine xM ?_ | refine xT ?_ | refine xF ?_ | ((first | refine xR ?_ | refine xW ?_ | refine vq_id ?_); simp only [go_sem, Nat.reduceAdd, Nat.reduceLeDiff, Nat.reduceSub, Int.reduceToNat, reduceCtorEq, hgb, blkR_len]) | (refine ⟨by first | omega | (intros; simp_all; done) | (intros; simp_all; omega), ?_⟩; try simp only [go_sem, Nat.reduceAdd, Nat.reduceLeDiff, Nat.reduceSub, Int.reduceToNat, reduceCtorEq, hgb, blkR_len]))
  refine AP.loop rfl (α := Nat × Bs) (fun q => [(1, Iv j), (2, .im (.pt [.sl 1 (blkR B), .sl 2 (wrR W')])), (5, Sv q.2), (6, Iv q.1)]) (fun _ => []) (fun q => q.1 ≤ W'.length ∧ lastW j W' (B.getD j []) = lastW j (W'.drop q.1) q.2) (fun q => W'.length - q.1) (0, B.getD j []) ⟨by simp, rfl⟩ (by repeat (first | exact Sub.nil _ | refine Sub.cons rfl ?_)) rfl fun q ⟨hk, hi⟩ => ?_
  obtain ⟨k, s⟩ := q
  simp only at hk hi ⊢
  have hw := wr (x := (k : Int) + 1) (by omega)
  rcases Nat.eq_or_lt_of_le hk with hke | hlt
  · repeat (first | refine xA ?_ | refine xB ?_ | refine xC ?_ | refine xE ?_ | refine xD ?_ | refine xK ?_ | refine xS ?_ | refine xM ?_ | refine xT ?_ | refine xF ?_ | ((first | refine xR ?_ | refine xW ?_ | refine vq_id ?_); simp only [go_sem, Nat.reduceAdd, Nat.reduceLeDiff, Nat.reduceSub, Int.reduceToNat, reduceCtorEq, wrR_len]) | (refine ⟨by first | omega | (intros; simp_all; done) | (intros; simp_all; omega), ?_⟩; try simp only [go_sem, Nat.reduceAdd, Nat.reduceLeDiff, Nat.reduceSub, Int.reduceToNat, reduceCtorEq, wrR_len]))
    refine AP.cond_false rfl (by simp only [go_sem, Nat.reduceAdd, Nat.reduceLeDiff, Nat.reduceSub, Int.reduceToNat, reduceCtorEq]; refine congrArg (fun b => some (AV.im (IV.v (Value.bool b)))) ?_; (first | (simp only [Bool.or_eq_true, Bool.and_eq_true, Bool.not_eq_true', Bool.not_eq_false', Bool.and_eq_false_iff, Bool.or_eq_false_iff, decide_eq_true_eq, decide_eq_false_iff_not, beq_iff_eq, bne_iff_ne, beq_eq_false_iff_ne, bne_eq_false_iff_eq, ne_eq]; omega) | (simp; done) | (simp; omega) | (simp_all; done) | (simp_all; omega))) ?_
    repeat (first | refine xA ?_ | refine xB ?_ | refine xC ?_ | refine xE ?_ | refine xD ?_ | refine xK ?_ | refine xS ?_ | refine xM ?_ | refine xT ?_ | refine xF ?_ | ((first | refine xR ?_ | refine xW ?_ | refine vq_id ?_); simp only [go_sem, Nat.reduceAdd, Nat.reduceLeDiff, Nat.reduceSub, Int.reduceToNat, reduceCtorEq]) | (refine ⟨by first | omega | (intros; simp_all; done) | (intros; simp_all; omega), ?_⟩; try simp only [go_sem, Nat.reduceAdd, Nat.reduceLeDiff, Nat.reduceSub, Int.reduceToNat, reduceCtorEq]))
    exact AE.ret0 rfl ⟨rfl, trivial⟩ rfl ⟨rfl, by rw [hi, List.drop_eq_nil_of_le (by omega)]; rfl⟩
  · have hg := wrR_get W' k hlt
    rw [drop_get W' k (0, []) hlt, lastW] at hi
    obtain ⟨p, hpp⟩ : ∃ p, W'.getD k (0, []) = p := ⟨_, rfl⟩
    rw [hpp] at hi hg
    obtain ⟨b, s2⟩ := p
    simp only at hi hg
    repeat (first | refine xA ?_ | refine xB ?_ | refine xC ?_ | refine xE ?_ | refine xD ?_ | refine xK ?_ | refine xS ?_ | refine xM ?_ | refine xT ?_ | refine xF ?_ | ((first | refine xR ?_ | refine xW ?_ | refine vq_id ?_); simp only [go_sem, Nat.reduceAdd, Nat.reduceLeDiff, Nat.reduceSub, Int.reduceToNat, reduceCtorEq, wrR_len]) | (refine ⟨by first | omega | (intros; simp_all; done) | (intros; simp_all; omega), ?_⟩; try simp only [go_sem, Nat.reduceAdd, Nat.reduceLeDiff, Nat.reduceSub, Int.reduceToNat, reduceCtorEq, wrR_len]))
    refine AP.cond_true rfl (by simp only [go_sem, Nat.reduceAdd, Nat.reduceLeDiff, Nat.reduceSub, Int.reduceToNat, reduceCtorEq]; refine congrArg (fun b => some (AV.im (IV.v (Value.bool b)))) ?_; (first | (simp only [Bool.or_eq_true, Bool.and_eq_true, Bool.not_eq_true', Bool.not_eq_false', Bool.and_eq_false_iff, Bool.or_eq_false_iff, decide_eq_true_eq, decide_eq_false_iff_not, beq_iff_eq, bne_iff_ne, beq_eq_false_iff_ne, bne_eq_false_iff_eq, ne_eq]; omega) | (simp; done) | (simp; omega) | (simp_all; done) | (simp_all; omega))) ?_
    repeat (first | refine xA ?_ | refine xB ?_ | refine xC ?_ | refine xE ?_ | refine xD ?_ | refine xK ?_ | refine xS ?_ | refine xM ?_ | refine xT ?_ | refine xF ?_ | ((first | refine xR ?_ | refine xW ?_ | refine vq_id ?_); simp only [go_sem, Nat.reduceAdd, Nat.reduceLeDiff, Nat.reduceSub, Int.reduceToNat, reduceCtorEq, hg, wrR_len]) | (refine ⟨by first | omega | (intros; simp_all; done) | (intros; simp_all; omega), ?_⟩; try simp only [go_sem, Nat.reduceAdd, Nat.reduceLeDiff, Nat.reduceSub, Int.reduceToNat, reduceCtorEq, hg, wrR_len]))
    refine AP.cond rfl rfl (fun hc => ?_) (fun hc => ?_)
    · rw [if_pos (by simpa using hc)] at hi
      repeat (first | refine xA ?_ | refine xB ?_ | refine xC ?_ | refine xE ?_ | refine xD ?_ | refine xK ?_ | refine xS ?_ | refine xM ?_ | refine xT ?_ | refine xF ?_ | ((first | refine xR ?_ | refine xW ?_ | refine vq_id ?_); simp only [go_sem, Nat.reduceAdd, Nat.reduceLeDiff, Nat.reduceSub, Int.reduceToNat, reduceCtorEq, hg, wrR_len, hw]) | (refine ⟨by first | omega | (intros; simp_all; done) | (intros; simp_all; omega), ?_⟩; try simp only [go_sem, Nat.reduceAdd, Nat.reduceLeDiff, Nat.reduceSub, Int.reduceToNat, reduceCtorEq, hg, wrR_len, hw]))
      exact AE.round (k + 1, s2) ⟨by simp only; omega, hi⟩ (by simp only; omega) (by repeat (first | exact Sub.nil _ | refine Sub.cons rfl ?_)) rfl
    · rw [if_neg (by simpa using hc)] at hi
      repeat (first | refine xA ?_ | refine xB ?_ | refine xC ?_ | refine xE ?_ | refine xD ?_ | refine xK ?_ | refine xS ?_ | refine xM ?_ | refine xT ?_ | refine xF ?_ | ((first | refine xR ?_ | refine xW ?_ | refine vq_id ?_); simp only [go_sem, Nat.reduceAdd, Nat.reduceLeDiff, Nat.reduceSub, Int.reduceToNat, reduceCtorEq, hw]) | (refine ⟨by first | omega | (intros; simp_all; done) | (intros; simp_all; omega), ?_⟩; try simp only [go_sem, Nat.reduceAdd, Nat.reduceLeDiff, Nat.reduceSub, Int.reduceToNat, reduceCtorEq, hw]))
      exact AE.round (k + 1, s) ⟨by simp only; omega, hi⟩ (by simp only; omega) (by repeat (first | exact Sub.nil _ | refine Sub.cons rfl ?_)) rfl
def Dk.synB (d : Dk) : List Bs := (List.range d.B.length).map fun j : Nat => lastW (j : Int) d.W (d.B.getD j [])
theorem synB_len (d : Dk) : d.synB.length = d.B.length := by simp [Dk.synB]
theorem synced_spec (d : Dk) (hd : d.Sz) : PFn Try.prog 68 [d.v] (Dk.v ⟨d.synB, []⟩) := by
  have hgt := fun j hj => getR_spec d j hj hd
  obtain ⟨B, W'⟩ := d
  obtain ⟨hB, hW⟩ := hd
  simp only at hB hW hgt
  obtain ⟨f, hf⟩ : ∃ f : Nat → Bs, (fun j : Nat => lastW (j : Int) W' (B.getD j [])) = f := ⟨_, rfl⟩
  have hgt : ∀ j, j < B.length → PFn Try.prog 67 [Dk.v ⟨B, W'⟩, Iv j] (Sv (f j)) := fun j hj => by rw [← hf]; exact hgt j hj
  show PFn Try.prog 68 [Dk.v ⟨B, W'⟩] (Dk.v ⟨(List.range B.length).map (fun j : Nat => lastW (j : Int) W' (B.getD j [])), []⟩)
  rw [hf]
  refine ACall.walk [0, 1, 2, 3, 4, 10] [2, 3] Try.func68 rfl Try.ntmps68 (by kernel_rfl) (by rfl) rfl fun W own I0 φ0 => ?_
  repeat (first | refine xA ?_ | refine xB ?_ | refine xC ?_ | refine xE ?_ | refine xD ?_ | refine xK ?_ | refine xS ?_ | refine xM ?_ | refine xT ?_ | refine xF ?_ | ((first | refine xR ?_ | refine xW ?_ | refine vq_id ?_); simp only [go_sem, Nat.reduceAdd, Nat.reduceLeDiff, Nat.reduceSub, Int.reduceToNat, reduceCtorEq]) | (refine ⟨by first | omega | (intros; simp_all; done) | (intros; simp_all; omega), ?_⟩; try simp only [go_sem, Nat.reduceAdd, Nat.reduceLeDiff, Nat.reduceSub, Int.reduceToNat, reduceCtorEq]))
  refine AP.ownCell 1 0 9 1 rfl rfl ?_
  simp only [go_sem, Nat.reduceAdd, Nat.reduceLeDiff, Nat.reduceSub, Int.reduceToNat, reduceCtorEq]
  refine AP.loop rfl (α := Nat) (fun k => [(1, .im (.pt [.sl 1 (blkR B), .sl 2 (wrR W')])), (2, .ob 0 0), (3, .ob 1 0), (4, Iv k)])
      (fun k => [(2, .vec 9 1 (blkR ((List.range k).map f))), (1, .var 48 [.os 2 1 0 k, .im (.v (.slice none 0 0))]), (0, .var 48 [.im (.v (.slice none 0 0)), .im (.v (.slice none 0 0))])])
      (fun k => k ≤ B.length) (fun k => B.length - k) 0 (by omega) (by repeat (first | exact Sub.nil _ | refine Sub.cons rfl ?_)) rfl fun k hk => ?_
  have hw := wr (x := (k : Int) + 1) (by omega)
  have hj : (blkR ((List.range k).map f)).length = k := by rw [blkR_len]; simp
  rcases Nat.eq_or_lt_of_le hk with he | hlt
  · repeat (first | refine xA ?_ | refine xB ?_ | refine xC ?_ | refine xE ?_ | refine xD ?_ | refine xK ?_ | refine xS ?_ | refine xM ?_ | refine xT ?_ | refine xF ?_ | ((first | refine xR ?_ | refine xW ?_ | refine vq_id ?_); simp only [go_sem, Nat.reduceAdd, Nat.reduceLeDiff, Nat.reduceSub, Int.reduceToNat, reduceCtorEq, blkR_len]) | (refine ⟨by first | omega | (intros; simp_all; done) | (intros; simp_all; omega), ?_⟩; try simp only [go_sem, Nat.reduceAdd, Nat.reduceLeDiff, Nat.reduceSub, Int.reduceToNat, reduceCtorEq, blkR_len]))
    refine AP.cond_false rfl (by simp only [go_sem, Nat.reduceAdd, Nat.reduceLeDiff, Nat.reduceSub, Int.reduceToNat, reduceCtorEq]; refine congrArg (fun b => some (AV.im (IV.v (Value.bool b)))) ?_; (first | (simp only [Bool.or_eq_true, Bool.and_eq_true, Bool.not_eq_true', Bool.not_eq_false', Bool.and_eq_false_iff, Bool.or_eq_false_iff, decide_eq_true_eq, decide_eq_false_iff_not, beq_iff_eq, bne_iff_ne, beq_eq_false_iff_ne, bne_eq_false_iff_eq, ne_eq]; omega) | (simp; done) | (simp; omega) | (simp_all; done) | (simp_all; omega))) ?_
    repeat (first | refine xA ?_ | refine xB ?_ | refine xC ?_ | refine xE ?_ | refine xD ?_ | refine xK ?_ | refine xS ?_ | refine xM ?_ | refine xT ?_ | refine xF ?_ | ((first | refine xR ?_ | refine xW ?_ | refine vq_id ?_); simp only [go_sem, Nat.reduceAdd, Nat.reduceLeDiff, Nat.reduceSub, Int.reduceToNat, reduceCtorEq]) | (refine ⟨by first | omega | (intros; simp_all; done) | (intros; simp_all; omega), ?_⟩; try simp only [go_sem, Nat.reduceAdd, Nat.reduceLeDiff, Nat.reduceSub, Int.reduceToNat, reduceCtorEq]))
    refine AE.freeze 2 (el := 9) (es := 1) (rows := blkR ((List.range k).map f)) rfl (by simp only [go_sem, Nat.reduceAdd, Nat.reduceLeDiff, Nat.reduceSub, Int.reduceToNat, reduceCtorEq, hj]; first | done | trivial | omega | (simp; done) | (simp; omega)) (by simp only [go_sem, Nat.reduceAdd, Nat.reduceLeDiff, Nat.reduceSub, Int.reduceToNat, reduceCtorEq, hj]; first | done | trivial | omega | (simp; done) | (simp; omega)) ?_; simp only [go_sem, Nat.reduceAdd, Nat.reduceLeDiff, Nat.reduceSub, Int.reduceToNat, reduceCtorEq, hj]
    rw [take_all' _ _ (Nat.le_of_eq hj)]
    refine AE.cellsW 0 [.im (.sl 1 (blkR ((List.range k).map f))), .im (.sl 2 [])] rfl (cellsLe.cons (cellsLe.nil (cellsLe.refl _))) ?_
    simp only [go_sem, Nat.reduceAdd, Nat.reduceLeDiff, Nat.reduceSub, Int.reduceToNat, reduceCtorEq]
    exact AE.ret0 rfl ⟨⟨rfl, Nat.le_of_ble_eq_true (by kernel_rfl)⟩, trivial⟩ rfl ⟨rfl, by rw [he]; rfl⟩
  · have hgk := hgt k hlt
    repeat (first | refine xA ?_ | refine xB ?_ | refine xC ?_ | refine xE ?_ | refine xD ?_ | refine xK ?_ | refine xS ?_ | refine xM ?_ | refine xT ?_ | refine xF ?_ | ((first | refine xR ?_ | refine xW ?_ | refine vq_id ?_); simp only [go_sem, Nat.reduceAdd, Nat.reduceLeDiff, Nat.reduceSub, Int.reduceToNat, reduceCtorEq, blkR_len]) | (refine ⟨by first | omega | (intros; simp_all; done) | (intros; simp_all; omega), ?_⟩; try simp only [go_sem, Nat.reduceAdd, Nat.reduceLeDiff, Nat.reduceSub, Int.reduceToNat, reduceCtorEq, blkR_len]))
    refine AP.cond_true rfl (by simp only [go_sem, Nat.reduceAdd, Nat.reduceLeDiff, Nat.reduceSub, Int.reduceToNat, reduceCtorEq]; refine congrArg (fun b => some (AV.im (IV.v (Value.bool b)))) ?_; (first | (simp only [Bool.or_eq_true, Bool.and_eq_true, Bool.not_eq_true', Bool.not_eq_false', Bool.and_eq_false_iff, Bool.or_eq_false_iff, decide_eq_true_eq, decide_eq_false_iff_not, beq_iff_eq, bne_iff_ne, beq_eq_false_iff_ne, bne_eq_false_iff_eq, ne_eq]; omega) | (simp; done) | (simp; omega) | (simp_all; done) | (simp_all; omega))) ?_
    refine xPP rfl ?_
    refine AP.drawE 9 (Tree.node [] [0, 1, 2, 3] [4] [Tree.node [0, 1] [] [5] [Tree.node [0, 1] [] [6] [Tree.node [] [7] [8] [Tree.node [] [] [] []]]]]) (by kernel_rfl) rfl (by kernel_rfl) (by kernel_rfl) ?_
    refine vd_node ?_
    simp only [go_sem, Nat.reduceAdd, Nat.reduceLeDiff, Nat.reduceSub, Int.reduceToNat, reduceCtorEq]
    repeat' (first | with_reducible exact True.intro | with_reducible refine And.intro (by omega) ?_ | with_reducible refine And.intro ?_ ?_ | (refine AQ.nx rfl ?_; simp only [go_sem, Nat.reduceAdd, Nat.reduceLeDiff, Nat.reduceSub, Int.reduceToNat, reduceCtorEq]) | (refine AQ.fn (by kernel_rfl) rfl rfl rfl (hgk) rfl ?_; simp only [go_sem, Nat.reduceAdd, Nat.reduceLeDiff, Nat.reduceSub, Int.reduceToNat, reduceCtorEq]) | (refine AQ.kill 2 ?_; simp only [go_sem, Nat.reduceAdd, Nat.reduceLeDiff, Nat.reduceSub, Int.reduceToNat, reduceCtorEq]; refine AQ.append (hnb := rfl) (rows := blkR ((List.range k).map f)) (es := 0) (by kernel_rfl) rfl rfl rfl (by rfl) Try.tk25 Try.sz9 (by show Option.map _ (zro Try.prog 9) = _; rw [Try.zr9]; rfl) Try.by9 hj.symm (by rw [hj]; simp only [List.length_cons, List.length_nil]; omega) (by rw [hj]; simp only [List.length_cons, List.length_nil]; omega) ?_; simp only [go_sem, Nat.reduceAdd, Nat.reduceLeDiff, Nat.reduceSub, Int.reduceToNat, reduceCtorEq]) | refine AQ.done ?_ | (refine AQ.go (by kernel_rfl) ?_; simp only [go_sem, Nat.reduceAdd, Nat.reduceLeDiff, Nat.reduceSub, Int.reduceToNat, reduceCtorEq]; repeat (with_reducible refine And.intro (by omega) ?_); refine AQ.nx rfl ?_; simp only [go_sem, Nat.reduceAdd, Nat.reduceLeDiff, Nat.reduceSub, Int.reduceToNat, reduceCtorEq]))
    have hsn : blkR ((List.range k).map f) ++ [[Si (f k)]] = blkR ((List.range (k + 1)).map f) := by rw [List.range_succ, List.map_append, blkR, blkR, List.map_append]; rfl
    rw [hj, hsn]
    repeat (first | refine xA ?_ | refine xB ?_ | refine xC ?_ | refine xE ?_ | refine xD ?_ | refine xK ?_ | refine xS ?_ | refine xM ?_ | refine xT ?_ | refine xF ?_ | ((first | refine xR ?_ | refine xW ?_ | refine vq_id ?_); simp only [go_sem, Nat.reduceAdd, Nat.reduceLeDiff, Nat.reduceSub, Int.reduceToNat, reduceCtorEq, hw]) | (refine ⟨by first | omega | (intros; simp_all; done) | (intros; simp_all; omega), ?_⟩; try simp only [go_sem, Nat.reduceAdd, Nat.reduceLeDiff, Nat.reduceSub, Int.reduceToNat, reduceCtorEq, hw]))
    exact AE.round (k + 1) (by omega) (by omega) (by repeat (first | exact Sub.nil _ | refine Sub.cons rfl ?_)) (by simp only [List.range_succ])
def Dk.syncR (d : Dk) : Dk := if d.chk = 0 then ⟨d.synB, []⟩ else nilD
theorem copyR_own (d : Dk) (hd : d.Sz) : ACall Try.prog 66 [d.v] [] (fun r H' => H' = [(1, .vec 9 1 (blkR d.B)), (2, .vec 101 2 (wrR d.W))] ∧ r = .agg [.os 1 1 0 d.B.length, .os 2 2 0 d.W.length]) := by
  obtain ⟨B, W'⟩ := d
  obtain ⟨hB, hW⟩ := hd
  simp only at hB hW
  refine ACall.walk [0, 1, 2] [2] Try.func66 rfl Try.ntmps66 (by kernel_rfl) (by rfl) rfl fun W own I0 φ0 => ?_
  repeat (first | refine xA ?_ | refine xB ?_ | refine xC ?_ | refine xE ?_ | refine xD ?_ | refine xK ?_ | refine xS ?_ | refine xM ?_ | refine xT ?_ | refine xF ?_ | ((first | refine xR ?_ | refine xW ?_ | refine vq_id ?_); simp only [go_sem, Nat.reduceAdd, Nat.reduceLeDiff, Nat.reduceSub, Int.reduceToNat, reduceCtorEq]) | (refine ⟨by first | omega | (intros; simp_all; done) | (intros; simp_all; omega), ?_⟩; try simp only [go_sem, Nat.reduceAdd, Nat.reduceLeDiff, Nat.reduceSub, Int.reduceToNat, reduceCtorEq]))
  refine AP.cut (α := Unit) (fun _ => [(2, .ob 0 0)]) (fun _ => [(0, .var 48 [.os 1 1 0 B.length, .os 2 2 0 W'.length]), (1, .vec 9 1 (blkR B)), (2, .vec 101 2 (wrR W'))]) (fun _ => True) ?_ fun _ _ => ?_
  · skip
    refine AP.drawE 10 (Tree.node [] [1, 2, 5, 6] [0, 4] [Tree.node [1, 2, 5, 6] [] [3, 4] [Tree.node [5, 6] [] [4] [Tree.node [5, 6] [] [7] [Tree.node [] [8] [9] [Tree.node [] [] [] []]]], Tree.node [1, 2, 5, 6] [] [3] [Tree.node [5, 6] [] [7] [Tree.node [] [8] [9] [Tree.node [] [] [] []]]]], Tree.node [1, 2, 5, 6] [] [0] [Tree.node [1, 2, 5, 6] [] [3] [Tree.node [5, 6] [] [7] [Tree.node [] [8] [9] [Tree.node [] [] [] []]]]]]) (by kernel_rfl) rfl (by kernel_rfl) (by kernel_rfl) ?_
    refine vd_node ?_
    simp only [go_sem, Nat.reduceAdd, Nat.reduceLeDiff, Nat.reduceSub, Int.reduceToNat, reduceCtorEq]
    repeat' (first | with_reducible exact True.intro | with_reducible refine And.intro (by omega) ?_ | with_reducible refine And.intro ?_ ?_ | (refine AQ.nx rfl ?_; simp only [go_sem, Nat.reduceAdd, Nat.reduceLeDiff, Nat.reduceSub, Int.reduceToNat, reduceCtorEq]) | (refine AQ.append (hnb := rfl) (rows := []) (es := 0) (by kernel_rfl) rfl rfl rfl (by rfl) Try.tk25 Try.sz9 (by show Option.map _ (zro Try.prog 9) = _; rw [Try.zr9]; rfl) Try.by9 (by first | rfl | (simp only [blkR_len, List.length_cons, List.length_nil]; done) | (simp only [blkR_len, List.length_cons, List.length_nil]; omega)) (by simp only [blkR_len, List.length_cons, List.length_nil]; omega) (by simp only [blkR_len, List.length_cons, List.length_nil]; omega) ?_; simp only [go_sem, Nat.reduceAdd, Nat.reduceLeDiff, Nat.reduceSub, Int.reduceToNat, reduceCtorEq, List.nil_append, blkR_len]) | (refine AQ.append (hnb := rfl) (rows := []) (es := 1) (by kernel_rfl) rfl rfl rfl (by rfl) Try.tk46 Try.sz101 (by show Option.map _ (zro Try.prog 101) = _; rw [Try.zr101]; rfl) Try.by101 (by first | rfl | (simp only [wrR_len, List.length_cons, List.length_nil]; done) | (simp only [wrR_len, List.length_cons, List.length_nil]; omega)) (by simp only [wrR_len, List.length_cons, List.length_nil]; omega) (by simp only [wrR_len, List.length_cons, List.length_nil]; omega) ?_; simp only [go_sem, Nat.reduceAdd, Nat.reduceLeDiff, Nat.reduceSub, Int.reduceToNat, reduceCtorEq, List.nil_append, wrR_len]) | refine AQ.done ?_ | (refine AQ.go (by kernel_rfl) ?_; simp only [go_sem, Nat.reduceAdd, Nat.reduceLeDiff, Nat.reduceSub, Int.reduceToNat, reduceCtorEq]; repeat (with_reducible refine And.intro (by omega) ?_); refine AQ.nx rfl ?_; simp only [go_sem, Nat.reduceAdd, Nat.reduceLeDiff, Nat.reduceSub, Int.reduceToNat, reduceCtorEq]))
    all_goals first
      | (refine AE.order [0, 1, 2] rfl ?_; simp only [go_sem, Nat.reduceAdd, Nat.reduceLeDiff, Nat.reduceSub, Int.reduceToNat, reduceCtorEq]; exact AE.meet () trivial (by repeat (first | exact Sub.nil _ | refine Sub.cons rfl ?_)) rfl)
      | (refine AE.rename 1 3 rfl rfl rfl ?_; simp only [go_sem, Nat.reduceAdd, Nat.reduceLeDiff, Nat.reduceSub, Int.reduceToNat, reduceCtorEq]; refine AE.rename 2 1 rfl rfl rfl ?_; simp only [go_sem, Nat.reduceAdd, Nat.reduceLeDiff, Nat.reduceSub, Int.reduceToNat, reduceCtorEq]; refine AE.rename 3 2 rfl rfl rfl ?_; simp only [go_sem, Nat.reduceAdd, Nat.reduceLeDiff, Nat.reduceSub, Int.reduceToNat, reduceCtorEq]; refine AE.order [0, 1, 2] rfl ?_; simp only [go_sem, Nat.reduceAdd, Nat.reduceLeDiff, Nat.reduceSub, Int.reduceToNat, reduceCtorEq]; exact AE.meet () trivial (by repeat (first | exact Sub.nil _ | refine Sub.cons rfl ?_)) rfl)
  · repeat (first | refine xA ?_ | refine xB ?_ | refine xC ?_ | refine xE ?_ | refine xD ?_ | refine xK ?_ | refine xS ?_ | refine xM ?_ | refine xT ?_ | refine xF ?_ | ((first | refine xR ?_ | refine xW ?_ | refine vq_id ?_); simp only [go_sem, Nat.reduceAdd, Nat.reduceLeDiff, Nat.reduceSub, Int.reduceToNat, reduceCtorEq]) | (refine ⟨by first | omega | (intros; simp_all; done) | (intros; simp_all; omega), ?_⟩; try simp only [go_sem, Nat.reduceAdd, Nat.reduceLeDiff, Nat.reduceSub, Int.reduceToNat, reduceCtorEq]))
    exact AE.retD [0] rfl ⟨⟨rfl, Nat.le_of_ble_eq_true (by kernel_rfl)⟩, trivial⟩ rfl ⟨rfl, rfl⟩
end Go.Proofs.Ytoafanbfminhcaa
end

section
namespace Go.Proofs.Ytoafanbfminhcaa
open Go Go.AL Go.RowKit
set_option maxRecDepth 10000
set_option maxHeartbeats 4000000
theorem set_get (B : List Bs) (j : Nat) : B.set j (B.getD j []) = B := by
  rcases Nat.lt_or_ge j B.length with h | h
  · rw [List.getD_eq_getElem?_getD, List.getElem?_eq_getElem h]
    exact List.set_getElem_self h
  · exact List.set_eq_of_length_le h
theorem crashR_ok (d : Dk) (F : List Int) (hd : d.Sz) (hok : d.Ok) (hF : F.length ≤ 1000000000) : PFn Try.prog 34 [d.v, Fv F] (.tup [Dk.v ⟨crashB F d.W 0 d.B, []⟩, Iv 0]) := by
  have hc := checkR_spec d hd
  rw [(d.chk_ok).2 hok] at hc
  have hdb := hd.b
  obtain ⟨B, W'⟩ := d
  have hn := okN_le hok.n
  have hb := hok.b
  have hW := hok.w
  have hr := hok.r
  simp only at hn hb hW hr hdb
  refine ACall.walk [0, 1, 2, 4, 5, 6, 7, 8, 9, 10, 11, 15, 27, 33, 53, 62, 75] [4, 7, 10] Try.func34 rfl Try.ntmps34 (by kernel_rfl) (by rfl) rfl fun W own I0 φ0 => ?_
  repeat (first | refine xA ?_ | refine xB ?_ | refine xC ?_ | refine xE ?_ | refine xD ?_ | refine xK ?_ | refine xS ?_ | refine xM ?_ | refine xT ?_ | refine xF ?_ | ((first | refine xR ?_ | refine xW ?_ | refine vq_id ?_); simp only [go_sem, Nat.reduceAdd, Nat.reduceLeDiff, Nat.reduceSub, Int.reduceToNat, reduceCtorEq]) | (refine ⟨by first | omega | (intros; simp_all; done) | (intros; simp_all; omega), ?_⟩; try simp only [go_sem, Nat.reduceAdd, Nat.reduceLeDiff, Nat.reduceSub, Int.reduceToNat, reduceCtorEq]))
  refine AQ.fn (by kernel_rfl) rfl rfl rfl (hc) rfl ?_
  repeat (first | refine xA ?_ | refine xB ?_ | refine xC ?_ | refine xE ?_ | refine xD ?_ | refine xK ?_ | refine xS ?_ | refine xM ?_ | refine xT ?_ | refine xF ?_ | ((first | refine xR ?_ | refine xW ?_ | refine vq_id ?_); simp only [go_sem, Nat.reduceAdd, Nat.reduceLeDiff, Nat.reduceSub, Int.reduceToNat, reduceCtorEq]) | (refine ⟨by first | omega | (intros; simp_all; done) | (intros; simp_all; omega), ?_⟩; try simp only [go_sem, Nat.reduceAdd, Nat.reduceLeDiff, Nat.reduceSub, Int.reduceToNat, reduceCtorEq]))
  refine AQ.append (hnb := rfl) (rows := []) (es := 0) (by kernel_rfl) rfl rfl rfl (by rfl) Try.tk25 Try.sz9 (by show Option.map _ (zro Try.prog 9) = _; rw [Try.zr9]; rfl) Try.by9 (by first | rfl | (simp only [blkR_len, List.length_cons, List.length_nil]; done) | (simp only [blkR_len, List.length_cons, List.length_nil]; omega)) (by simp only [blkR_len, List.length_cons, List.length_nil]; omega) (by simp only [blkR_len, List.length_cons, List.length_nil]; omega) ?_
  simp only [go_sem, Nat.reduceAdd, Nat.reduceLeDiff, Nat.reduceSub, Int.reduceToNat, reduceCtorEq, List.nil_append, blkR_len]
  repeat (first | refine xA ?_ | refine xB ?_ | refine xC ?_ | refine xE ?_ | refine xD ?_ | refine xK ?_ | refine xS ?_ | refine xM ?_ | refine xT ?_ | refine xF ?_ | ((first | refine xR ?_ | refine xW ?_ | refine vq_id ?_); simp only [go_sem, Nat.reduceAdd, Nat.reduceLeDiff, Nat.reduceSub, Int.reduceToNat, reduceCtorEq]) | (refine ⟨by first | omega | (intros; simp_all; done) | (intros; simp_all; omega), ?_⟩; try simp only [go_sem, Nat.reduceAdd, Nat.reduceLeDiff, Nat.reduceSub, Int.reduceToNat, reduceCtorEq]))
  refine AP.loop rfl (α := Nat × List Bs) (fun q => [(1, Fv F), (2, .im (.pt [.sl 1 (blkR B), .sl 2 (wrR W')])), (4, .ob 0 0), (5, Iv 0), (7, .ob 2 0), (8, Iv q.1)])
    (fun q => [(2, .var 48 [.os 1 1 0 B.length, .im (.v (.slice none 0 0))]), (1, .vec 9 1 (blkR q.2)), (0, .var 48 [.im (.v (.slice none 0 0)), .im (.v (.slice none 0 0))])])
    (fun q => q.1 ≤ W'.length ∧ q.2.length = B.length ∧ (∀ s ∈ q.2, s.length = 32) ∧ crashB F (W'.drop q.1) q.1 q.2 = crashB F W' 0 B) (fun q => W'.length - q.1) (0, B) ⟨by omega, rfl, hb, rfl⟩ (by repeat (first | exact Sub.nil _ | refine Sub.cons rfl ?_)) rfl fun q ⟨hk, hl, h32, hi⟩ => ?_
  obtain ⟨k, Bk⟩ := q
  simp only at hk hl h32 hi ⊢
  rcases Nat.eq_or_lt_of_le hk with hke | hlt
  · repeat (first | refine xA ?_ | refine xB ?_ | refine xC ?_ | refine xE ?_ | refine xD ?_ | refine xK ?_ | refine xS ?_ | refine xM ?_ | refine xT ?_ | refine xF ?_ | ((first | refine xR ?_ | refine xW ?_ | refine vq_id ?_); simp only [go_sem, Nat.reduceAdd, Nat.reduceLeDiff, Nat.reduceSub, Int.reduceToNat, reduceCtorEq, wrR_len]) | (refine ⟨by first | omega | (intros; simp_all; done) | (intros; simp_all; omega), ?_⟩; try simp only [go_sem, Nat.reduceAdd, Nat.reduceLeDiff, Nat.reduceSub, Int.reduceToNat, reduceCtorEq, wrR_len]))
    refine AP.cond_false rfl (by simp only [go_sem, Nat.reduceAdd, Nat.reduceLeDiff, Nat.reduceSub, Int.reduceToNat, reduceCtorEq]; refine congrArg (fun b => some (AV.im (IV.v (Value.bool b)))) ?_; (first | (simp only [Bool.or_eq_true, Bool.and_eq_true, Bool.not_eq_true', Bool.not_eq_false', Bool.and_eq_false_iff, Bool.or_eq_false_iff, decide_eq_true_eq, decide_eq_false_iff_not, beq_iff_eq, bne_iff_ne, beq_eq_false_iff_ne, bne_eq_false_iff_eq, ne_eq]; omega) | (simp; done) | (simp; omega) | (simp_all; done) | (simp_all; omega))) ?_
    repeat (first | refine xA ?_ | refine xB ?_ | refine xC ?_ | refine xE ?_ | refine xD ?_ | refine xK ?_ | refine xS ?_ | refine xM ?_ | refine xT ?_ | refine xF ?_ | ((first | refine xR ?_ | refine xW ?_ | refine vq_id ?_); simp only [go_sem, Nat.reduceAdd, Nat.reduceLeDiff, Nat.reduceSub, Int.reduceToNat, reduceCtorEq]) | (refine ⟨by first | omega | (intros; simp_all; done) | (intros; simp_all; omega), ?_⟩; try simp only [go_sem, Nat.reduceAdd, Nat.reduceLeDiff, Nat.reduceSub, Int.reduceToNat, reduceCtorEq]))
    rw [List.drop_eq_nil_of_le (by omega), crashB] at hi
    have hbl : (blkR Bk).length = B.length := by rw [blkR_len, hl]
    refine AE.freeze 1 (el := 9) (es := 1) (rows := blkR Bk) rfl (by simp only [go_sem, Nat.reduceAdd, Nat.reduceLeDiff, Nat.reduceSub, Int.reduceToNat, reduceCtorEq, hbl]; first | done | trivial | omega | (simp; done) | (simp; omega)) (by simp only [go_sem, Nat.reduceAdd, Nat.reduceLeDiff, Nat.reduceSub, Int.reduceToNat, reduceCtorEq, hbl]; first | done | trivial | omega | (simp; done) | (simp; omega)) ?_; simp only [go_sem, Nat.reduceAdd, Nat.reduceLeDiff, Nat.reduceSub, Int.reduceToNat, reduceCtorEq, hbl]
    rw [take_all' (blkR Bk) _ (by rw [hbl]; exact Nat.le_refl _)]
    refine AE.cellsW 0 [.im (.sl 1 (blkR Bk)), .im (.sl 2 [])] rfl (cellsLe.cons (cellsLe.nil (cellsLe.refl _))) ?_
    simp only [go_sem, Nat.reduceAdd, Nat.reduceLeDiff, Nat.reduceSub, Int.reduceToNat, reduceCtorEq]
    refine AE.ret0 rfl ⟨⟨rfl, Nat.le_of_ble_eq_true (by kernel_rfl)⟩, rfl, trivial⟩ rfl ⟨rfl, ?_⟩
    rw [← hi]; rfl
  · have hg := wrR_get W' k hlt
    have hw := wr (x := (k : Int) + 1) (by omega)
    rw [drop_get W' k (0, []) hlt, crashB] at hi
    have hrk := hr (W'.getD k (0, [])) (by rw [List.getD_eq_getElem?_getD, List.getElem?_eq_getElem hlt]; simp)
    obtain ⟨p, hpp⟩ : ∃ p, W'.getD k (0, []) = p := ⟨_, rfl⟩
    rw [hpp] at hi hg hrk
    obtain ⟨b, s⟩ := p
    simp only at hi hg hrk
    obtain ⟨⟨h0, h1⟩, hs32⟩ := hrk
    obtain ⟨j, rfl⟩ := Int.eq_ofNat_of_zero_le h0
    rw [Int.toNat_natCast] at hi
    have hjl : j < Bk.length := by omega
    have hgb := blkR_get Bk j hjl
    have ho32 : (Bk.getD j []).length = 32 := h32 _ (by rw [List.getD_eq_getElem?_getD, List.getElem?_eq_getElem hjl]; simp)
    repeat (first | refine xA ?_ | refine xB ?_ | refine xC ?_ | refine xE ?_ | refine xD ?_ | refine xK ?_ | refine xS ?_ | refine xM ?_ | refine xT ?_ | refine xF ?_ | ((first | refine xR ?_ | refine xW ?_ | refine vq_id ?_); simp only [go_sem, Nat.reduceAdd, Nat.reduceLeDiff, Nat.reduceSub, Int.reduceToNat, reduceCtorEq, wrR_len]) | (refine ⟨by first | omega | (intros; simp_all; done) | (intros; simp_all; omega), ?_⟩; try simp only [go_sem, Nat.reduceAdd, Nat.reduceLeDiff, Nat.reduceSub, Int.reduceToNat, reduceCtorEq, wrR_len]))
    refine AP.cond_true rfl (by simp only [go_sem, Nat.reduceAdd, Nat.reduceLeDiff, Nat.reduceSub, Int.reduceToNat, reduceCtorEq]; refine congrArg (fun b => some (AV.im (IV.v (Value.bool b)))) ?_; (first | (simp only [Bool.or_eq_true, Bool.and_eq_true, Bool.not_eq_true', Bool.not_eq_false', Bool.and_eq_false_iff, Bool.or_eq_false_iff, decide_eq_true_eq, decide_eq_false_iff_not, beq_iff_eq, bne_iff_ne, beq_eq_false_iff_ne, bne_eq_false_iff_eq, ne_eq]; omega) | (simp; done) | (simp; omega) | (simp_all; done) | (simp_all; omega))) ?_
    repeat (first | refine xA ?_ | refine xB ?_ | refine xC ?_ | refine xE ?_ | refine xD ?_ | refine xK ?_ | refine xS ?_ | refine xM ?_ | refine xT ?_ | refine xF ?_ | ((first | refine xR ?_ | refine xW ?_ | refine vq_id ?_); simp only [go_sem, Nat.reduceAdd, Nat.reduceLeDiff, Nat.reduceSub, Int.reduceToNat, reduceCtorEq, intR_len]) | (refine ⟨by first | omega | (intros; simp_all; done) | (intros; simp_all; omega), ?_⟩; try simp only [go_sem, Nat.reduceAdd, Nat.reduceLeDiff, Nat.reduceSub, Int.reduceToNat, reduceCtorEq, intR_len]))
    refine AP.cut (α := Unit) (fun _ => [(1, Fv F), (2, .im (.pt [.sl 1 (blkR B), .sl 2 (wrR W')])), (4, .ob 0 0), (5, Iv 0), (7, .ob 2 0), (9, Iv (fateAt F k)), (8, Iv k)])
      (fun _ => [(2, .var 48 [.os 1 1 0 B.length, .im (.v (.slice none 0 0))]), (1, .vec 9 1 (blkR Bk)), (0, .var 48 [.im (.v (.slice none 0 0)), .im (.v (.slice none 0 0))])]) (fun _ => True) ?_ fun _ _ => ?_
    · refine AP.cond rfl rfl (fun hq => ?_) (fun hq => ?_)
      · have hql : k < F.length := by simp at hq; omega
        have hgf := intR_get F k hql
        have hwf := fate_wr (F.getD k 0)
        repeat (first | refine xA ?_ | refine xB ?_ | refine xC ?_ | refine xE ?_ | refine xD ?_ | refine xK ?_ | refine xS ?_ | refine xM ?_ | refine xT ?_ | refine xF ?_ | ((first | refine xR ?_ | refine xW ?_ | refine vq_id ?_); simp only [go_sem, Nat.reduceAdd, Nat.reduceLeDiff, Nat.reduceSub, Int.reduceToNat, reduceCtorEq, hgf, hwf, intR_len]) | (refine ⟨by first | omega | (intros; simp_all; done) | (intros; simp_all; omega), ?_⟩; try simp only [go_sem, Nat.reduceAdd, Nat.reduceLeDiff, Nat.reduceSub, Int.reduceToNat, reduceCtorEq, hgf, hwf, intR_len]))
        refine AE.meet () trivial ?_ rfl
        rw [fateAt, if_pos hql]
        exact (by repeat (first | exact Sub.nil _ | refine Sub.cons rfl ?_))
      · have hql : ¬ k < F.length := by simp at hq; omega
        repeat (first | refine xA ?_ | refine xB ?_ | refine xC ?_ | refine xE ?_ | refine xD ?_ | refine xK ?_ | refine xS ?_ | refine xM ?_ | refine xT ?_ | refine xF ?_ | ((first | refine xR ?_ | refine xW ?_ | refine vq_id ?_); simp only [go_sem, Nat.reduceAdd, Nat.reduceLeDiff, Nat.reduceSub, Int.reduceToNat, reduceCtorEq]) | (refine ⟨by first | omega | (intros; simp_all; done) | (intros; simp_all; omega), ?_⟩; try simp only [go_sem, Nat.reduceAdd, Nat.reduceLeDiff, Nat.reduceSub, Int.reduceToNat, reduceCtorEq]))
        refine AE.meet () trivial ?_ rfl
        rw [fateAt, if_neg hql]
        exact (by repeat (first | exact Sub.nil _ | refine Sub.cons rfl ?_))
    · obtain ⟨f, hf⟩ : ∃ f, fateAt F k = f := ⟨_, rfl⟩
      have hfr := fateAt_range F k
      rw [hf] at hi hfr ⊢
      have hbl : (blkR Bk).length = B.length := by rw [blkR_len, hl]
      rcases hfr with rfl | rfl | rfl | rfl
      · have hcr : crash1 (Bk.getD j []) s 0 = s := by simp [crash1]
        repeat (first | refine xA ?_ | refine xB ?_ | refine xC ?_ | refine xE ?_ | refine xD ?_ | refine xK ?_ | refine xS ?_ | refine xM ?_ | refine xT ?_ | refine xF ?_ | ((first | refine xR ?_ | refine xW ?_ | refine vq_id ?_); simp only [go_sem, Nat.reduceAdd, Nat.reduceLeDiff, Nat.reduceSub, Int.reduceToNat, reduceCtorEq, hg, wrR_len, hgb, hbl, BA_size, hs32, ho32, Int.reduceToNat, hw]) | (refine ⟨by first | omega | (intros; simp_all; done) | (intros; simp_all; omega), ?_⟩; try simp only [go_sem, Nat.reduceAdd, Nat.reduceLeDiff, Nat.reduceSub, Int.reduceToNat, reduceCtorEq, hg, wrR_len, hgb, hbl, BA_size, hs32, ho32, Int.reduceToNat, hw]))
        rw [blkR_set, show Bk.set j s = Bk.set j (crash1 (Bk.getD j []) s 0) by rw [hcr]]
        refine AE.forgets [3] rfl ?_
        simp only [go_sem, Nat.reduceAdd, Nat.reduceLeDiff, Nat.reduceSub, Int.reduceToNat, reduceCtorEq]
        exact AE.round (k + 1, Bk.set j (crash1 (Bk.getD j []) s 0)) ⟨by omega, by simp only [List.length_set]; exact hl, fun x hx => (List.mem_or_eq_of_mem_set hx).elim (h32 x) (fun e => by rw [e]; exact crash1_32 _ ho32 hs32), hi⟩ (by simp only; omega) (by repeat (first | exact Sub.nil _ | refine Sub.cons rfl ?_)) rfl
      · have hcr : crash1 (Bk.getD j []) s 1 = Bk.getD j [] := by simp [crash1]
        rw [hcr, set_get] at hi
        repeat (first | refine xA ?_ | refine xB ?_ | refine xC ?_ | refine xE ?_ | refine xD ?_ | refine xK ?_ | refine xS ?_ | refine xM ?_ | refine xT ?_ | refine xF ?_ | ((first | refine xR ?_ | refine xW ?_ | refine vq_id ?_); simp only [go_sem, Nat.reduceAdd, Nat.reduceLeDiff, Nat.reduceSub, Int.reduceToNat, reduceCtorEq, hg, wrR_len, hgb, hbl, BA_size, hs32, ho32, Int.reduceToNat, hw]) | (refine ⟨by first | omega | (intros; simp_all; done) | (intros; simp_all; omega), ?_⟩; try simp only [go_sem, Nat.reduceAdd, Nat.reduceLeDiff, Nat.reduceSub, Int.reduceToNat, reduceCtorEq, hg, wrR_len, hgb, hbl, BA_size, hs32, ho32, Int.reduceToNat, hw]))
        refine AE.forgets [3] rfl ?_
        simp only [go_sem, Nat.reduceAdd, Nat.reduceLeDiff, Nat.reduceSub, Int.reduceToNat, reduceCtorEq]
        exact AE.round (k + 1, Bk) ⟨by omega, hl, h32, hi⟩ (by simp only; omega) (by repeat (first | exact Sub.nil _ | refine Sub.cons rfl ?_)) rfl
      · have hcr : crash1 (Bk.getD j []) s 2 = s.take 16 ++ (Bk.getD j []).drop 16 := by simp [crash1]
        repeat (first | refine xA ?_ | refine xB ?_ | refine xC ?_ | refine xE ?_ | refine xD ?_ | refine xK ?_ | refine xS ?_ | refine xM ?_ | refine xT ?_ | refine xF ?_ | ((first | refine xR ?_ | refine xW ?_ | refine vq_id ?_); simp only [go_sem, Nat.reduceAdd, Nat.reduceLeDiff, Nat.reduceSub, Int.reduceToNat, reduceCtorEq, hg, wrR_len, hgb, hbl, BA_size, hs32, ho32, Int.reduceToNat, hw]) | (refine ⟨by first | omega | (intros; simp_all; done) | (intros; simp_all; omega), ?_⟩; try simp only [go_sem, Nat.reduceAdd, Nat.reduceLeDiff, Nat.reduceSub, Int.reduceToNat, reduceCtorEq, hg, wrR_len, hgb, hbl, BA_size, hs32, ho32, Int.reduceToNat, hw]))
        refine AP.drawE 12 (Tree.node [] [0, 1, 2, 3, 4, 5, 6, 7, 8, 9, 10] [11] [Tree.node [] [] [] []]) (by kernel_rfl) rfl (by kernel_rfl) (by kernel_rfl) ?_
        refine vd_node ?_
        simp only [go_sem, Nat.reduceAdd, Nat.reduceLeDiff, Nat.reduceSub, Int.reduceToNat, reduceCtorEq, hgb, hbl, BA_size, hs32, ho32, Int.reduceToNat]
        repeat (with_reducible refine And.intro (by omega) ?_)
        repeat' (first | with_reducible exact True.intro | with_reducible refine And.intro (by omega) ?_ | with_reducible refine And.intro ?_ ?_ | (refine AQ.nx rfl ?_; simp only [go_sem, Nat.reduceAdd, Nat.reduceLeDiff, Nat.reduceSub, Int.reduceToNat, reduceCtorEq, hgb, hbl, BA_size, hs32, ho32, Int.reduceToNat]) | (simp only [List.length_take, List.length_drop]; omega) | refine AQ.done ?_ | (refine AQ.go (by kernel_rfl) ?_; simp only [go_sem, Nat.reduceAdd, Nat.reduceLeDiff, Nat.reduceSub, Int.reduceToNat, reduceCtorEq, hgb, hbl, BA_size, hs32, ho32, Int.reduceToNat]; repeat (with_reducible refine And.intro (by omega) ?_); refine AQ.nx rfl ?_; simp only [go_sem, Nat.reduceAdd, Nat.reduceLeDiff, Nat.reduceSub, Int.reduceToNat, reduceCtorEq, hgb, hbl, BA_size, hs32, ho32, Int.reduceToNat]))
        repeat (first | refine xA ?_ | refine xB ?_ | refine xC ?_ | refine xE ?_ | refine xD ?_ | refine xK ?_ | refine xS ?_ | refine xM ?_ | refine xT ?_ | refine xF ?_ | ((first | refine xR ?_ | refine xW ?_ | refine vq_id ?_); simp only [go_sem, Nat.reduceAdd, Nat.reduceLeDiff, Nat.reduceSub, Int.reduceToNat, reduceCtorEq, hw]) | (refine ⟨by first | omega | (intros; simp_all; done) | (intros; simp_all; omega), ?_⟩; try simp only [go_sem, Nat.reduceAdd, Nat.reduceLeDiff, Nat.reduceSub, Int.reduceToNat, reduceCtorEq, hw]))
        rw [half _ _ ho32, ← hcr, show [IV.v (Value.string (BA (crash1 (Bk.getD j []) s 2)))] = [Si (crash1 (Bk.getD j []) s 2)] from rfl, blkR_set]
        refine AE.forgets [3] rfl ?_
        simp only [go_sem, Nat.reduceAdd, Nat.reduceLeDiff, Nat.reduceSub, Int.reduceToNat, reduceCtorEq]
        exact AE.round (k + 1, Bk.set j (crash1 (Bk.getD j []) s 2)) ⟨by omega, by simp only [List.length_set]; exact hl, fun x hx => (List.mem_or_eq_of_mem_set hx).elim (h32 x) (fun e => by rw [e]; exact crash1_32 _ ho32 hs32), hi⟩ (by simp only; omega) (by repeat (first | exact Sub.nil _ | refine Sub.cons rfl ?_)) rfl
      · have hcr : crash1 (Bk.getD j []) s 3 = (Bk.getD j []).take 16 ++ s.drop 16 := by simp [crash1]
        repeat (first | refine xA ?_ | refine xB ?_ | refine xC ?_ | refine xE ?_ | refine xD ?_ | refine xK ?_ | refine xS ?_ | refine xM ?_ | refine xT ?_ | refine xF ?_ | ((first | refine xR ?_ | refine xW ?_ | refine vq_id ?_); simp only [go_sem, Nat.reduceAdd, Nat.reduceLeDiff, Nat.reduceSub, Int.reduceToNat, reduceCtorEq, hg, wrR_len, hgb, hbl, BA_size, hs32, ho32, Int.reduceToNat, hw]) | (refine ⟨by first | omega | (intros; simp_all; done) | (intros; simp_all; omega), ?_⟩; try simp only [go_sem, Nat.reduceAdd, Nat.reduceLeDiff, Nat.reduceSub, Int.reduceToNat, reduceCtorEq, hg, wrR_len, hgb, hbl, BA_size, hs32, ho32, Int.reduceToNat, hw]))
        refine AP.drawE 12 (Tree.node [] [0, 1, 2, 3, 4, 5, 6, 7, 8, 9, 10] [11] [Tree.node [] [] [] []]) (by kernel_rfl) rfl (by kernel_rfl) (by kernel_rfl) ?_
        refine vd_node ?_
        simp only [go_sem, Nat.reduceAdd, Nat.reduceLeDiff, Nat.reduceSub, Int.reduceToNat, reduceCtorEq, hgb, hbl, BA_size, hs32, ho32, Int.reduceToNat]
        repeat (with_reducible refine And.intro (by omega) ?_)
        repeat' (first | with_reducible exact True.intro | with_reducible refine And.intro (by omega) ?_ | with_reducible refine And.intro ?_ ?_ | (refine AQ.nx rfl ?_; simp only [go_sem, Nat.reduceAdd, Nat.reduceLeDiff, Nat.reduceSub, Int.reduceToNat, reduceCtorEq, hgb, hbl, BA_size, hs32, ho32, Int.reduceToNat]) | (simp only [List.length_take, List.length_drop]; omega) | refine AQ.done ?_ | (refine AQ.go (by kernel_rfl) ?_; simp only [go_sem, Nat.reduceAdd, Nat.reduceLeDiff, Nat.reduceSub, Int.reduceToNat, reduceCtorEq, hgb, hbl, BA_size, hs32, ho32, Int.reduceToNat]; repeat (with_reducible refine And.intro (by omega) ?_); refine AQ.nx rfl ?_; simp only [go_sem, Nat.reduceAdd, Nat.reduceLeDiff, Nat.reduceSub, Int.reduceToNat, reduceCtorEq, hgb, hbl, BA_size, hs32, ho32, Int.reduceToNat]))
        repeat (first | refine xA ?_ | refine xB ?_ | refine xC ?_ | refine xE ?_ | refine xD ?_ | refine xK ?_ | refine xS ?_ | refine xM ?_ | refine xT ?_ | refine xF ?_ | ((first | refine xR ?_ | refine xW ?_ | refine vq_id ?_); simp only [go_sem, Nat.reduceAdd, Nat.reduceLeDiff, Nat.reduceSub, Int.reduceToNat, reduceCtorEq, hw]) | (refine ⟨by first | omega | (intros; simp_all; done) | (intros; simp_all; omega), ?_⟩; try simp only [go_sem, Nat.reduceAdd, Nat.reduceLeDiff, Nat.reduceSub, Int.reduceToNat, reduceCtorEq, hw]))
        rw [half _ _ hs32, ← hcr, show [IV.v (Value.string (BA (crash1 (Bk.getD j []) s 3)))] = [Si (crash1 (Bk.getD j []) s 3)] from rfl, blkR_set]
        refine AE.forgets [3] rfl ?_
        simp only [go_sem, Nat.reduceAdd, Nat.reduceLeDiff, Nat.reduceSub, Int.reduceToNat, reduceCtorEq]
        exact AE.round (k + 1, Bk.set j (crash1 (Bk.getD j []) s 3)) ⟨by omega, by simp only [List.length_set]; exact hl, fun x hx => (List.mem_or_eq_of_mem_set hx).elim (h32 x) (fun e => by rw [e]; exact crash1_32 _ ho32 hs32), hi⟩ (by simp only; omega) (by repeat (first | exact Sub.nil _ | refine Sub.cons rfl ?_)) rfl
theorem crashR_spec (d : Dk) (F : List Int) (hd : d.Sz) (hF : F.length ≤ 1000000000) : PFn Try.prog 34 [d.v, Fv F] (.tup [(d.crashD F).v, Iv d.chk]) := by
  by_cases h : d.chk = 0
  · have := crashR_ok d F hd ((d.chk_ok).1 h) hF
    rw [Dk.crashD, if_pos h, h]; exact this
  · rw [Dk.crashD, if_neg h]
    have hc := checkR_spec d hd
    obtain ⟨e, he⟩ : ∃ e, d.chk = e := ⟨_, rfl⟩
    rw [he] at hc h ⊢
    refine ACall.walk [0, 1, 2, 4, 5, 6, 7, 8, 9, 10, 11, 15, 27, 33, 53, 62, 75] [4, 7, 10] Try.func34 rfl Try.ntmps34 (by kernel_rfl) (by rfl) rfl fun W own I0 φ0 => ?_
    repeat (first | refine xA ?_ | refine xB ?_ | refine xC ?_ | refine xE ?_ | refine xD ?_ | refine xK ?_ | refine xS ?_ | refine xM ?_ | refine xT ?_ | refine xF ?_ | ((first | refine xR ?_ | refine xW ?_ | refine vq_id ?_); simp only [go_sem, Nat.reduceAdd, Nat.reduceLeDiff, Nat.reduceSub, Int.reduceToNat, reduceCtorEq]) | (refine ⟨by first | omega | (intros; simp_all; done) | (intros; simp_all; omega), ?_⟩; try simp only [go_sem, Nat.reduceAdd, Nat.reduceLeDiff, Nat.reduceSub, Int.reduceToNat, reduceCtorEq]))
    refine AQ.fn (by kernel_rfl) rfl rfl rfl (hc) rfl ?_
    repeat (first | refine xA ?_ | refine xB ?_ | refine xC ?_ | refine xE ?_ | refine xD ?_ | refine xK ?_ | refine xS ?_ | refine xM ?_ | refine xT ?_ | refine xF ?_ | ((first | refine xR ?_ | refine xW ?_ | refine vq_id ?_); simp only [go_sem, Nat.reduceAdd, Nat.reduceLeDiff, Nat.reduceSub, Int.reduceToNat, reduceCtorEq]) | (refine ⟨by first | omega | (intros; simp_all; done) | (intros; simp_all; omega), ?_⟩; try simp only [go_sem, Nat.reduceAdd, Nat.reduceLeDiff, Nat.reduceSub, Int.reduceToNat, reduceCtorEq]))
    refine AP.cond_true rfl (by simp only [go_sem, Nat.reduceAdd, Nat.reduceLeDiff, Nat.reduceSub, Int.reduceToNat, reduceCtorEq]; refine congrArg (fun b => some (AV.im (IV.v (Value.bool b)))) ?_; (first | (simp only [Bool.or_eq_true, Bool.and_eq_true, Bool.not_eq_true', Bool.not_eq_false', Bool.and_eq_false_iff, Bool.or_eq_false_iff, decide_eq_true_eq, decide_eq_false_iff_not, beq_iff_eq, bne_iff_ne, beq_eq_false_iff_ne, bne_eq_false_iff_eq, ne_eq]; omega) | (simp; done) | (simp; omega) | (simp_all; done) | (simp_all; omega))) ?_
    repeat (first | refine xA ?_ | refine xB ?_ | refine xC ?_ | refine xE ?_ | refine xD ?_ | refine xK ?_ | refine xS ?_ | refine xM ?_ | refine xT ?_ | refine xF ?_ | ((first | refine xR ?_ | refine xW ?_ | refine vq_id ?_); simp only [go_sem, Nat.reduceAdd, Nat.reduceLeDiff, Nat.reduceSub, Int.reduceToNat, reduceCtorEq]) | (refine ⟨by first | omega | (intros; simp_all; done) | (intros; simp_all; omega), ?_⟩; try simp only [go_sem, Nat.reduceAdd, Nat.reduceLeDiff, Nat.reduceSub, Int.reduceToNat, reduceCtorEq]))
    refine AE.cellsW 0 [.im (.sl 1 []), .im (.sl 2 [])] rfl (cellsLe.nil (cellsLe.nil (cellsLe.refl _))) ?_
    simp only [go_sem, Nat.reduceAdd, Nat.reduceLeDiff, Nat.reduceSub, Int.reduceToNat, reduceCtorEq]
    exact AE.ret0 rfl ⟨⟨rfl, Nat.le_of_ble_eq_true (by kernel_rfl)⟩, rfl, trivial⟩ rfl ⟨rfl, rfl⟩
end Go.Proofs.Ytoafanbfminhcaa
end

section
namespace Go.Proofs.Ytoafanbfminhcaa
open Go Go.AL Go.RowKit Go.Shelf
def Try.lays212_ren : Go.Shelf.Ren := ⟨fun | 212 => 77 | 263 => 91 | 264 => 92 | n => n, fun | 46 => 118 | 51 => 147 | 146 => 148 | 53 => 71 | 148 => 150 | n => n, fun | n => n⟩
theorem Try.lays212 : Go.Proofs.Lays.n212 Try.prog Try.lays212_ren := {
  mixed := by kernel_rfl
  f212 := Try.func77.trans (congrArg some (by kernel_rfl))
  f263 := Try.func91.trans (congrArg some (by kernel_rfl))
  f264 := Try.func92.trans (congrArg some (by kernel_rfl))
  t46 := Try.underlying118
  a46 := Try.isAgg118
  z46 := Try.sizeOf118
  v46 := Try.zeroValue118
  t51 := Try.underlying147
  a51 := Try.isAgg147
  z51 := Try.sizeOf147
  v51 := Try.zeroValue147
  t53 := Try.underlying71
  a53 := Try.isAgg71
  z53 := Try.sizeOf71
  v53 := Try.zeroValue71
  t146 := Try.underlying148
  a146 := Try.isAgg148
  z146 := Try.sizeOf148
  v146 := Try.zeroValue148
  t148 := Try.underlying150
  a148 := Try.isAgg150
  z148 := Try.sizeOf150
  v148 := Try.zeroValue150 }
open Go.RowKit Go.Lib in
theorem Try.bits_Mul (x y : Nat) (hx : x < 18446744073709551616) (hy : y < 18446744073709551616) (w : World) :
    Calls Try.prog 77 #[.int .u64 x, .int .u64 y] w fun e w' => e = .returned (.tuple #[.int .u64 ((x * y / 18446744073709551616 : Nat) : Int), .int .u64 ((x * y % 18446744073709551616 : Nat) : Int)]) ∧ w' = w := Any.bits_Mul Try.lays212 x y hx hy w
def Try.lays105_ren : Go.Shelf.Ren := ⟨fun | 105 => 49 | 212 => 77 | 99 => 78 | 165 => 79 | 166 => 80 | 170 => 81 | 169 => 82 | 263 => 91 | 264 => 92 | 206 => 93 | 240 => 94 | 241 => 95 | 276 => 99 | 277 => 100 | n => n, fun | 9 => 9 | 3 => 3 | 4 => 4 | 20 => 20 | 0 => 0 | 46 => 118 | 109 => 119 | 5 => 5 | 72 => 124 | 76 => 128 | 51 => 147 | 146 => 148 | 53 => 71 | 148 => 150 | 70 => 122 | 37 => 95 | 75 => 127 | 127 => 152 | 164 => 157 | 80 => 87 | n => n, fun | n => n⟩
theorem Try.lays105 : Go.Proofs.Lays.n105 Try.prog Try.lays105_ren := {
  mixed := by kernel_rfl
  f99 := Try.func78.trans (congrArg some (by kernel_rfl))
  f105 := Try.func49.trans (congrArg some (by kernel_rfl))
  f165 := Try.func79.trans (congrArg some (by kernel_rfl))
  f166 := Try.func80.trans (congrArg some (by kernel_rfl))
  f169 := Try.func82.trans (congrArg some (by kernel_rfl))
  f170 := Try.func81.trans (congrArg some (by kernel_rfl))
  f206 := Try.func93.trans (congrArg some (by kernel_rfl))
  f212 := Try.func77.trans (congrArg some (by kernel_rfl))
  f240 := Try.func94.trans (congrArg some (by kernel_rfl))
  f241 := Try.func95.trans (congrArg some (by kernel_rfl))
  f263 := Try.func91.trans (congrArg some (by kernel_rfl))
  f264 := Try.func92.trans (congrArg some (by kernel_rfl))
  f276 := Try.func99.trans (congrArg some (by kernel_rfl))
  f277 := Try.func100.trans (congrArg some (by kernel_rfl))
  t0 := Try.underlying0
  a0 := Try.isAgg0
  z0 := Try.sizeOf0
  v0 := Try.zeroValue0
  t3 := Try.underlying3
  a3 := Try.isAgg3
  z3 := Try.sizeOf3
  v3 := Try.zeroValue3
  t4 := Try.underlying4
  a4 := Try.isAgg4
  z4 := Try.sizeOf4
  v4 := Try.zeroValue4
  t5 := Try.underlying5
  a5 := Try.isAgg5
  z5 := Try.sizeOf5
  v5 := Try.zeroValue5
  t9 := Try.underlying9
  a9 := Try.isAgg9
  z9 := Try.sizeOf9
  v9 := Try.zeroValue9
  t20 := Try.underlying20
  a20 := Try.isAgg20
  z20 := Try.sizeOf20
  v20 := Try.zeroValue20
  t37 := Try.underlying95
  a37 := Try.isAgg95
  z37 := Try.sizeOf95
  v37 := Try.zeroValue95
  t46 := Try.underlying118
  a46 := Try.isAgg118
  z46 := Try.sizeOf118
  v46 := Try.zeroValue118
  t51 := Try.underlying147
  a51 := Try.isAgg147
  z51 := Try.sizeOf147
  v51 := Try.zeroValue147
  t53 := Try.underlying71
  a53 := Try.isAgg71
  z53 := Try.sizeOf71
  v53 := Try.zeroValue71
  t70 := Try.underlying122
  a70 := Try.isAgg122
  z70 := Try.sizeOf122
  v70 := Try.zeroValue122
  t72 := Try.underlying124
  a72 := Try.isAgg124
  z72 := Try.sizeOf124
  v72 := Try.zeroValue124
  t75 := Try.underlying127
  a75 := Try.isAgg127
  z75 := Try.sizeOf127
  v75 := Try.zeroValue127
  t76 := Try.underlying128
  a76 := Try.isAgg128
  z76 := Try.sizeOf128
  v76 := Try.zeroValue128
  t109 := Try.underlying119
  a109 := Try.isAgg119
  z109 := Try.sizeOf119
  v109 := Try.zeroValue119
  t127 := Try.underlying152
  a127 := Try.isAgg152
  z127 := Try.sizeOf152
  v127 := Try.zeroValue152
  t146 := Try.underlying148
  a146 := Try.isAgg148
  z146 := Try.sizeOf148
  v146 := Try.zeroValue148
  t148 := Try.underlying150
  a148 := Try.isAgg150
  z148 := Try.sizeOf150
  v148 := Try.zeroValue150
  t164 := Try.underlying157
  a164 := Try.isAgg157
  z164 := Try.sizeOf157
  v164 := Try.zeroValue157 }
theorem Try.Builder_Extra_105 : Builder.Extra Try.prog Try.lays105_ren := {
  sizeBuilder := by kernel_rfl
  liesBuilder := by kernel_rfl
  t5 := Try.underlying5
  a5 := Try.isAgg5
  z5 := Try.sizeOf5
  v5 := Try.zeroValue5
  infoByte := by kernel_rfl
  cellsByte := by kernel_rfl
  sizeByte := by kernel_rfl
  neB5 := by decide }
open Go.RowKit Go.Lib in
theorem Try.strings_Repeat (s : ByteArray) (c : Nat) (w : World) (hc : c ≤ 9223372036854775807) (hlen : s.size * c ≤ 140737488355328) :
    Calls Try.prog 49 #[.string s, .int .i64 c] w fun e w' => e = .returned (.string ⟨(Lib.repeatL s.data.toList c).toArray⟩) ∧ Below w.heap.size w w' := Any.strings_Repeat Try.lays105 Try.Builder_Extra_105 s c w hc hlen
theorem repeat_spec (s : Bs) (c : Nat) (hc : s.length * c ≤ 1000000) (hc2 : c ≤ 1000000) : PFn Try.prog 49 [Sv s, Iv c] (Sv (Lib.repeatL s c)) := by
  refine PFn.of_below (by rfl) rfl fun w φ I vs hd _ => ?_
  simp only [AV.dens, AV.den, IV.den] at hd
  obtain ⟨u, us, rfl, ⟨rfl, _⟩, u2, us2, rfl, ⟨rfl, _⟩, rfl⟩ := hd
  refine (Try.strings_Repeat (BA s) c w (by omega) (by rw [BA_size]; omega)).mono fun e w' ⟨he, hb⟩ => ⟨_, he, ?_, hb⟩
  simp only [AV.den, IV.den, BA_data]
  exact ⟨rfl, rfl⟩
theorem mul_spec (x y : Nat) (hx : x < 18446744073709551616) (hy : y < 18446744073709551616) : PFn Try.prog 77 [.im (.v (.int .u64 x)), .im (.v (.int .u64 y))] (.tup [.im (.v (.int .u64 (x * y / 18446744073709551616 : Nat))), .im (.v (.int .u64 (x * y % 18446744073709551616 : Nat)))]) := by
  refine PFn.of_below (by rfl) rfl fun w φ I vs hd _ => ?_
  simp only [AV.dens, AV.den, IV.den] at hd
  obtain ⟨u, us, rfl, ⟨rfl, _⟩, u2, us2, rfl, ⟨rfl, _⟩, rfl⟩ := hd
  refine (Try.bits_Mul x y hx hy w).mono fun e w' ⟨he, hw⟩ => ⟨_, he, ?_, hw ▸ Go.RowKit.Below.refl _ _⟩
  simp only [AV.den, AV.dens, IV.den]
  exact ⟨_, ⟨_, _, rfl, ⟨rfl, rfl⟩, _, _, rfl, ⟨rfl, rfl⟩, rfl⟩, rfl⟩
end Go.Proofs.Ytoafanbfminhcaa
end
