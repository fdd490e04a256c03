import Derived.Test.YtpfohmboflcneaaGreatDoorAl4
import Derived.Test.YtpfohmboflcneaaGreatDoorChecked
import Derived.KernelRfl
import Derived.Lib.ItoaMem
set_option linter.unusedSimpArgs false
set_option linter.unusedVariables false
set_option linter.unnecessarySimpa false
section

end

section
namespace Go.Proofs.YtpfohmboflcneaaGreatDoor
open Go Go.AL
@[go_sem] theorem Tryz.tk1 : tk Tryz.prog 1 = .func := by kernel_rfl
@[go_sem] theorem Tryz.sz1 : sz Tryz.prog 1 = some 1 := by kernel_rfl
@[go_sem] theorem Tryz.by1 : by' Tryz.prog 1 = some 8 := by kernel_rfl
@[go_sem] theorem Tryz.zr1 : zro Tryz.prog 1 = some ([.nilFunc]) := by kernel_rfl
@[go_sem] theorem Tryz.tk2 : tk Tryz.prog 2 = .int .i64 := by kernel_rfl
@[go_sem] theorem Tryz.sz2 : sz Tryz.prog 2 = some 1 := by kernel_rfl
@[go_sem] theorem Tryz.by2 : by' Tryz.prog 2 = some 8 := by kernel_rfl
@[go_sem] theorem Tryz.un2 : (Tryz.prog.underlying 2).isSome = true := by kernel_rfl
@[go_sem] theorem Tryz.zr2 : zro Tryz.prog 2 = some ([.int .i64 0]) := by kernel_rfl
@[go_sem] theorem Tryz.tk3 : tk Tryz.prog 3 = .int .i64 := by kernel_rfl
@[go_sem] theorem Tryz.sz3 : sz Tryz.prog 3 = some 1 := by kernel_rfl
@[go_sem] theorem Tryz.by3 : by' Tryz.prog 3 = some 8 := by kernel_rfl
@[go_sem] theorem Tryz.un3 : (Tryz.prog.underlying 3).isSome = true := by kernel_rfl
@[go_sem] theorem Tryz.zr3 : zro Tryz.prog 3 = some ([.int .i64 0]) := by kernel_rfl
@[go_sem] theorem Tryz.tk4 : tk Tryz.prog 4 = .bool := by kernel_rfl
@[go_sem] theorem Tryz.sz4 : sz Tryz.prog 4 = some 1 := by kernel_rfl
@[go_sem] theorem Tryz.by4 : by' Tryz.prog 4 = some 1 := by kernel_rfl
@[go_sem] theorem Tryz.un4 : (Tryz.prog.underlying 4).isSome = true := by kernel_rfl
@[go_sem] theorem Tryz.zr4 : zro Tryz.prog 4 = some ([.bool false]) := by kernel_rfl
@[go_sem] theorem Tryz.tk5 : tk Tryz.prog 5 = .int .u8 := by kernel_rfl
@[go_sem] theorem Tryz.sz5 : sz Tryz.prog 5 = some 1 := by kernel_rfl
@[go_sem] theorem Tryz.by5 : by' Tryz.prog 5 = some 1 := by kernel_rfl
@[go_sem] theorem Tryz.un5 : (Tryz.prog.underlying 5).isSome = true := by kernel_rfl
@[go_sem] theorem Tryz.zr5 : zro Tryz.prog 5 = some ([.int .u8 0]) := by kernel_rfl
@[go_sem] theorem Tryz.tk6 : tk Tryz.prog 6 = .int .u8 := by kernel_rfl
@[go_sem] theorem Tryz.sz6 : sz Tryz.prog 6 = some 1 := by kernel_rfl
@[go_sem] theorem Tryz.by6 : by' Tryz.prog 6 = some 1 := by kernel_rfl
@[go_sem] theorem Tryz.un6 : (Tryz.prog.underlying 6).isSome = true := by kernel_rfl
@[go_sem] theorem Tryz.zr6 : zro Tryz.prog 6 = some ([.int .u8 0]) := by kernel_rfl
@[go_sem] theorem Tryz.tk7 : tk Tryz.prog 7 = .struct [(0, 2), (1, 3), (2, 4), (3, 6)] := by kernel_rfl
@[go_sem] theorem Tryz.sz7 : sz Tryz.prog 7 = some 4 := by kernel_rfl
@[go_sem] theorem Tryz.by7 : by' Tryz.prog 7 = some 24 := by kernel_rfl
@[go_sem] theorem Tryz.eq7 : eqOk Tryz.prog 7 = true := by kernel_rfl
@[go_sem] theorem Tryz.zr7 : zro Tryz.prog 7 = some ([.int .i64 0, .int .i64 0, .bool false, .int .u8 0]) := by kernel_rfl
@[go_sem] theorem Tryz.tk8 : tk Tryz.prog 8 = .struct [(0, 2), (1, 3), (2, 4), (3, 6)] := by kernel_rfl
@[go_sem] theorem Tryz.sz8 : sz Tryz.prog 8 = some 4 := by kernel_rfl
@[go_sem] theorem Tryz.by8 : by' Tryz.prog 8 = some 24 := by kernel_rfl
@[go_sem] theorem Tryz.eq8 : eqOk Tryz.prog 8 = true := by kernel_rfl
@[go_sem] theorem Tryz.zr8 : zro Tryz.prog 8 = some ([.int .i64 0, .int .i64 0, .bool false, .int .u8 0]) := by kernel_rfl
@[go_sem] theorem Tryz.tk9 : tk Tryz.prog 9 = .str := by kernel_rfl
@[go_sem] theorem Tryz.sz9 : sz Tryz.prog 9 = some 1 := by kernel_rfl
@[go_sem] theorem Tryz.by9 : by' Tryz.prog 9 = some 16 := by kernel_rfl
@[go_sem] theorem Tryz.un9 : (Tryz.prog.underlying 9).isSome = true := by kernel_rfl
@[go_sem] theorem Tryz.zr9 : zro Tryz.prog 9 = some ([.string ⟨#[]⟩]) := by kernel_rfl
@[go_sem] theorem Tryz.tk10 : tk Tryz.prog 10 = .str := by kernel_rfl
@[go_sem] theorem Tryz.sz10 : sz Tryz.prog 10 = some 1 := by kernel_rfl
@[go_sem] theorem Tryz.by10 : by' Tryz.prog 10 = some 16 := by kernel_rfl
@[go_sem] theorem Tryz.un10 : (Tryz.prog.underlying 10).isSome = true := by kernel_rfl
@[go_sem] theorem Tryz.zr10 : zro Tryz.prog 10 = some ([.string ⟨#[]⟩]) := by kernel_rfl
@[go_sem] theorem Tryz.tk11 : tk Tryz.prog 11 = .str := by kernel_rfl
@[go_sem] theorem Tryz.sz11 : sz Tryz.prog 11 = some 1 := by kernel_rfl
@[go_sem] theorem Tryz.by11 : by' Tryz.prog 11 = some 16 := by kernel_rfl
@[go_sem] theorem Tryz.un11 : (Tryz.prog.underlying 11).isSome = true := by kernel_rfl
@[go_sem] theorem Tryz.zr11 : zro Tryz.prog 11 = some ([.string ⟨#[]⟩]) := by kernel_rfl
@[go_sem] theorem Tryz.tk20 : tk Tryz.prog 20 = .iface := by kernel_rfl
@[go_sem] theorem Tryz.sz20 : sz Tryz.prog 20 = some 1 := by kernel_rfl
@[go_sem] theorem Tryz.by20 : by' Tryz.prog 20 = some 16 := by kernel_rfl
@[go_sem] theorem Tryz.zr20 : zro Tryz.prog 20 = some ([.nilIface]) := by kernel_rfl
@[go_sem] theorem Tryz.tk21 : tk Tryz.prog 21 = .int .i32 := by kernel_rfl
@[go_sem] theorem Tryz.sz21 : sz Tryz.prog 21 = some 1 := by kernel_rfl
@[go_sem] theorem Tryz.by21 : by' Tryz.prog 21 = some 4 := by kernel_rfl
@[go_sem] theorem Tryz.un21 : (Tryz.prog.underlying 21).isSome = true := by kernel_rfl
@[go_sem] theorem Tryz.zr21 : zro Tryz.prog 21 = some ([.int .i32 0]) := by kernel_rfl
@[go_sem] theorem Tryz.tk23 : tk Tryz.prog 23 = .slice 61 := by kernel_rfl
@[go_sem] theorem Tryz.sz23 : sz Tryz.prog 23 = some 1 := by kernel_rfl
@[go_sem] theorem Tryz.by23 : by' Tryz.prog 23 = some 24 := by kernel_rfl
@[go_sem] theorem Tryz.zr23 : zro Tryz.prog 23 = some ([.slice none 0 0]) := by kernel_rfl
@[go_sem] theorem Tryz.tk24 : tk Tryz.prog 24 = .func := by kernel_rfl
@[go_sem] theorem Tryz.sz24 : sz Tryz.prog 24 = some 1 := by kernel_rfl
@[go_sem] theorem Tryz.by24 : by' Tryz.prog 24 = some 8 := by kernel_rfl
@[go_sem] theorem Tryz.zr24 : zro Tryz.prog 24 = some ([.nilFunc]) := by kernel_rfl
@[go_sem] theorem Tryz.tk27 : tk Tryz.prog 27 = .slice 119 := by kernel_rfl
@[go_sem] theorem Tryz.sz27 : sz Tryz.prog 27 = some 1 := by kernel_rfl
@[go_sem] theorem Tryz.by27 : by' Tryz.prog 27 = some 24 := by kernel_rfl
@[go_sem] theorem Tryz.zr27 : zro Tryz.prog 27 = some ([.slice none 0 0]) := by kernel_rfl
@[go_sem] theorem Tryz.tk30 : tk Tryz.prog 30 = .int .i64 := by kernel_rfl
@[go_sem] theorem Tryz.sz30 : sz Tryz.prog 30 = some 1 := by kernel_rfl
@[go_sem] theorem Tryz.by30 : by' Tryz.prog 30 = some 8 := by kernel_rfl
@[go_sem] theorem Tryz.un30 : (Tryz.prog.underlying 30).isSome = true := by kernel_rfl
@[go_sem] theorem Tryz.zr30 : zro Tryz.prog 30 = some ([.int .i64 0]) := by kernel_rfl
@[go_sem] theorem Tryz.tk32 : tk Tryz.prog 32 = .func := by kernel_rfl
@[go_sem] theorem Tryz.sz32 : sz Tryz.prog 32 = some 1 := by kernel_rfl
@[go_sem] theorem Tryz.by32 : by' Tryz.prog 32 = some 8 := by kernel_rfl
@[go_sem] theorem Tryz.zr32 : zro Tryz.prog 32 = some ([.nilFunc]) := by kernel_rfl
@[go_sem] theorem Tryz.tk46 : tk Tryz.prog 46 = .slice 3 := by kernel_rfl
@[go_sem] theorem Tryz.sz46 : sz Tryz.prog 46 = some 1 := by kernel_rfl
@[go_sem] theorem Tryz.by46 : by' Tryz.prog 46 = some 24 := by kernel_rfl
@[go_sem] theorem Tryz.zr46 : zro Tryz.prog 46 = some ([.slice none 0 0]) := by kernel_rfl
@[go_sem] theorem Tryz.tk52 : tk Tryz.prog 52 = .slice 59 := by kernel_rfl
@[go_sem] theorem Tryz.sz52 : sz Tryz.prog 52 = some 1 := by kernel_rfl
@[go_sem] theorem Tryz.by52 : by' Tryz.prog 52 = some 24 := by kernel_rfl
@[go_sem] theorem Tryz.zr52 : zro Tryz.prog 52 = some ([.slice none 0 0]) := by kernel_rfl
@[go_sem] theorem Tryz.tk55 : tk Tryz.prog 55 = .slice 57 := by kernel_rfl
@[go_sem] theorem Tryz.sz55 : sz Tryz.prog 55 = some 1 := by kernel_rfl
@[go_sem] theorem Tryz.by55 : by' Tryz.prog 55 = some 24 := by kernel_rfl
@[go_sem] theorem Tryz.zr55 : zro Tryz.prog 55 = some ([.slice none 0 0]) := by kernel_rfl
@[go_sem] theorem Tryz.tk57 : tk Tryz.prog 57 = .struct [(0, 9), (1, 3), (2, 55)] := by kernel_rfl
@[go_sem] theorem Tryz.sz57 : sz Tryz.prog 57 = some 3 := by kernel_rfl
@[go_sem] theorem Tryz.by57 : by' Tryz.prog 57 = some 48 := by kernel_rfl
@[go_sem] theorem Tryz.zr57 : zro Tryz.prog 57 = some ([.string ⟨#[]⟩, .int .i64 0, .slice none 0 0]) := by kernel_rfl
@[go_sem] theorem Tryz.tk59 : tk Tryz.prog 59 = .struct [(0, 3), (1, 57)] := by kernel_rfl
@[go_sem] theorem Tryz.sz59 : sz Tryz.prog 59 = some 4 := by kernel_rfl
@[go_sem] theorem Tryz.by59 : by' Tryz.prog 59 = some 56 := by kernel_rfl
@[go_sem] theorem Tryz.zr59 : zro Tryz.prog 59 = some ([.int .i64 0, .string ⟨#[]⟩, .int .i64 0, .slice none 0 0]) := by kernel_rfl
@[go_sem] theorem Tryz.tk61 : tk Tryz.prog 61 = .struct [(0, 4), (1, 9), (2, 55)] := by kernel_rfl
@[go_sem] theorem Tryz.sz61 : sz Tryz.prog 61 = some 3 := by kernel_rfl
@[go_sem] theorem Tryz.by61 : by' Tryz.prog 61 = some 48 := by kernel_rfl
@[go_sem] theorem Tryz.zr61 : zro Tryz.prog 61 = some ([.bool false, .string ⟨#[]⟩, .slice none 0 0]) := by kernel_rfl
@[go_sem] theorem Tryz.tk64 : tk Tryz.prog 64 = .slice 98 := by kernel_rfl
@[go_sem] theorem Tryz.sz64 : sz Tryz.prog 64 = some 1 := by kernel_rfl
@[go_sem] theorem Tryz.by64 : by' Tryz.prog 64 = some 24 := by kernel_rfl
@[go_sem] theorem Tryz.zr64 : zro Tryz.prog 64 = some ([.slice none 0 0]) := by kernel_rfl
@[go_sem] theorem Tryz.tk65 : tk Tryz.prog 65 = .func := by kernel_rfl
@[go_sem] theorem Tryz.sz65 : sz Tryz.prog 65 = some 1 := by kernel_rfl
@[go_sem] theorem Tryz.by65 : by' Tryz.prog 65 = some 8 := by kernel_rfl
@[go_sem] theorem Tryz.zr65 : zro Tryz.prog 65 = some ([.nilFunc]) := by kernel_rfl
@[go_sem] theorem Tryz.tk67 : tk Tryz.prog 67 = .func := by kernel_rfl
@[go_sem] theorem Tryz.sz67 : sz Tryz.prog 67 = some 1 := by kernel_rfl
@[go_sem] theorem Tryz.by67 : by' Tryz.prog 67 = some 8 := by kernel_rfl
@[go_sem] theorem Tryz.zr67 : zro Tryz.prog 67 = some ([.nilFunc]) := by kernel_rfl
@[go_sem] theorem Tryz.tk69 : tk Tryz.prog 69 = .slice 71 := by kernel_rfl
@[go_sem] theorem Tryz.sz69 : sz Tryz.prog 69 = some 1 := by kernel_rfl
@[go_sem] theorem Tryz.by69 : by' Tryz.prog 69 = some 24 := by kernel_rfl
@[go_sem] theorem Tryz.zr69 : zro Tryz.prog 69 = some ([.slice none 0 0]) := by kernel_rfl
@[go_sem] theorem Tryz.tk71 : tk Tryz.prog 71 = .struct [(0, 9), (1, 3), (2, 69)] := by kernel_rfl
@[go_sem] theorem Tryz.sz71 : sz Tryz.prog 71 = some 3 := by kernel_rfl
@[go_sem] theorem Tryz.by71 : by' Tryz.prog 71 = some 48 := by kernel_rfl
@[go_sem] theorem Tryz.zr71 : zro Tryz.prog 71 = some ([.string ⟨#[]⟩, .int .i64 0, .slice none 0 0]) := by kernel_rfl
@[go_sem] theorem Tryz.tk74 : tk Tryz.prog 74 = .func := by kernel_rfl
@[go_sem] theorem Tryz.sz74 : sz Tryz.prog 74 = some 1 := by kernel_rfl
@[go_sem] theorem Tryz.by74 : by' Tryz.prog 74 = some 8 := by kernel_rfl
@[go_sem] theorem Tryz.zr74 : zro Tryz.prog 74 = some ([.nilFunc]) := by kernel_rfl
@[go_sem] theorem Tryz.tk88 : tk Tryz.prog 88 = .func := by kernel_rfl
@[go_sem] theorem Tryz.sz88 : sz Tryz.prog 88 = some 1 := by kernel_rfl
@[go_sem] theorem Tryz.by88 : by' Tryz.prog 88 = some 8 := by kernel_rfl
@[go_sem] theorem Tryz.zr88 : zro Tryz.prog 88 = some ([.nilFunc]) := by kernel_rfl
@[go_sem] theorem Tryz.tk89 : tk Tryz.prog 89 = .func := by kernel_rfl
@[go_sem] theorem Tryz.sz89 : sz Tryz.prog 89 = some 1 := by kernel_rfl
@[go_sem] theorem Tryz.by89 : by' Tryz.prog 89 = some 8 := by kernel_rfl
@[go_sem] theorem Tryz.zr89 : zro Tryz.prog 89 = some ([.nilFunc]) := by kernel_rfl
@[go_sem] theorem Tryz.tk94 : tk Tryz.prog 94 = .func := by kernel_rfl
@[go_sem] theorem Tryz.sz94 : sz Tryz.prog 94 = some 1 := by kernel_rfl
@[go_sem] theorem Tryz.by94 : by' Tryz.prog 94 = some 8 := by kernel_rfl
@[go_sem] theorem Tryz.zr94 : zro Tryz.prog 94 = some ([.nilFunc]) := by kernel_rfl
@[go_sem] theorem Tryz.tk98 : tk Tryz.prog 98 = .struct [(0, 3), (1, 71)] := by kernel_rfl
@[go_sem] theorem Tryz.sz98 : sz Tryz.prog 98 = some 4 := by kernel_rfl
@[go_sem] theorem Tryz.by98 : by' Tryz.prog 98 = some 56 := by kernel_rfl
@[go_sem] theorem Tryz.zr98 : zro Tryz.prog 98 = some ([.int .i64 0, .string ⟨#[]⟩, .int .i64 0, .slice none 0 0]) := by kernel_rfl
@[go_sem] theorem Tryz.tk107 : tk Tryz.prog 107 = .slice 216 := by kernel_rfl
@[go_sem] theorem Tryz.sz107 : sz Tryz.prog 107 = some 1 := by kernel_rfl
@[go_sem] theorem Tryz.by107 : by' Tryz.prog 107 = some 24 := by kernel_rfl
@[go_sem] theorem Tryz.zr107 : zro Tryz.prog 107 = some ([.slice none 0 0]) := by kernel_rfl
@[go_sem] theorem Tryz.tk116 : tk Tryz.prog 116 = .func := by kernel_rfl
@[go_sem] theorem Tryz.sz116 : sz Tryz.prog 116 = some 1 := by kernel_rfl
@[go_sem] theorem Tryz.by116 : by' Tryz.prog 116 = some 8 := by kernel_rfl
@[go_sem] theorem Tryz.zr116 : zro Tryz.prog 116 = some ([.nilFunc]) := by kernel_rfl
@[go_sem] theorem Tryz.tk119 : tk Tryz.prog 119 = .struct [(0, 4), (1, 9), (2, 69)] := by kernel_rfl
@[go_sem] theorem Tryz.sz119 : sz Tryz.prog 119 = some 3 := by kernel_rfl
@[go_sem] theorem Tryz.by119 : by' Tryz.prog 119 = some 48 := by kernel_rfl
@[go_sem] theorem Tryz.zr119 : zro Tryz.prog 119 = some ([.bool false, .string ⟨#[]⟩, .slice none 0 0]) := by kernel_rfl
@[go_sem] theorem Tryz.tk123 : tk Tryz.prog 123 = .func := by kernel_rfl
@[go_sem] theorem Tryz.sz123 : sz Tryz.prog 123 = some 1 := by kernel_rfl
@[go_sem] theorem Tryz.by123 : by' Tryz.prog 123 = some 8 := by kernel_rfl
@[go_sem] theorem Tryz.zr123 : zro Tryz.prog 123 = some ([.nilFunc]) := by kernel_rfl
@[go_sem] theorem Tryz.tk124 : tk Tryz.prog 124 = .func := by kernel_rfl
@[go_sem] theorem Tryz.sz124 : sz Tryz.prog 124 = some 1 := by kernel_rfl
@[go_sem] theorem Tryz.by124 : by' Tryz.prog 124 = some 8 := by kernel_rfl
@[go_sem] theorem Tryz.zr124 : zro Tryz.prog 124 = some ([.nilFunc]) := by kernel_rfl
@[go_sem] theorem Tryz.tk131 : tk Tryz.prog 131 = .struct [] := by kernel_rfl
@[go_sem] theorem Tryz.sz131 : sz Tryz.prog 131 = some 0 := by kernel_rfl
@[go_sem] theorem Tryz.by131 : by' Tryz.prog 131 = some 0 := by kernel_rfl
@[go_sem] theorem Tryz.zr131 : zro Tryz.prog 131 = some ([]) := by kernel_rfl
@[go_sem] theorem Tryz.tk133 : tk Tryz.prog 133 = .ptr 135 := by kernel_rfl
@[go_sem] theorem Tryz.sz133 : sz Tryz.prog 133 = some 1 := by kernel_rfl
@[go_sem] theorem Tryz.by133 : by' Tryz.prog 133 = some 8 := by kernel_rfl
@[go_sem] theorem Tryz.zr133 : zro Tryz.prog 133 = some ([.pointer none]) := by kernel_rfl
@[go_sem] theorem Tryz.tk135 : tk Tryz.prog 135 = .struct [(0, 9), (1, 3)] := by kernel_rfl
@[go_sem] theorem Tryz.sz135 : sz Tryz.prog 135 = some 2 := by kernel_rfl
@[go_sem] theorem Tryz.by135 : by' Tryz.prog 135 = some 24 := by kernel_rfl
@[go_sem] theorem Tryz.eq135 : eqOk Tryz.prog 135 = true := by kernel_rfl
@[go_sem] theorem Tryz.zr135 : zro Tryz.prog 135 = some ([.string ⟨#[]⟩, .int .i64 0]) := by kernel_rfl
@[go_sem] theorem Tryz.tk140 : tk Tryz.prog 140 = .slice 145 := by kernel_rfl
@[go_sem] theorem Tryz.sz140 : sz Tryz.prog 140 = some 1 := by kernel_rfl
@[go_sem] theorem Tryz.by140 : by' Tryz.prog 140 = some 24 := by kernel_rfl
@[go_sem] theorem Tryz.zr140 : zro Tryz.prog 140 = some ([.slice none 0 0]) := by kernel_rfl
@[go_sem] theorem Tryz.tk143 : tk Tryz.prog 143 = .func := by kernel_rfl
@[go_sem] theorem Tryz.sz143 : sz Tryz.prog 143 = some 1 := by kernel_rfl
@[go_sem] theorem Tryz.by143 : by' Tryz.prog 143 = some 8 := by kernel_rfl
@[go_sem] theorem Tryz.zr143 : zro Tryz.prog 143 = some ([.nilFunc]) := by kernel_rfl
@[go_sem] theorem Tryz.tk145 : tk Tryz.prog 145 = .struct [(0, 119), (3, 9)] := by kernel_rfl
@[go_sem] theorem Tryz.sz145 : sz Tryz.prog 145 = some 4 := by kernel_rfl
@[go_sem] theorem Tryz.by145 : by' Tryz.prog 145 = some 64 := by kernel_rfl
@[go_sem] theorem Tryz.zr145 : zro Tryz.prog 145 = some ([.bool false, .string ⟨#[]⟩, .slice none 0 0, .string ⟨#[]⟩]) := by kernel_rfl
@[go_sem] theorem Tryz.tk148 : tk Tryz.prog 148 = .func := by kernel_rfl
@[go_sem] theorem Tryz.sz148 : sz Tryz.prog 148 = some 1 := by kernel_rfl
@[go_sem] theorem Tryz.by148 : by' Tryz.prog 148 = some 8 := by kernel_rfl
@[go_sem] theorem Tryz.zr148 : zro Tryz.prog 148 = some ([.nilFunc]) := by kernel_rfl
@[go_sem] theorem Tryz.tk149 : tk Tryz.prog 149 = .map 3 3 := by kernel_rfl
@[go_sem] theorem Tryz.sz149 : sz Tryz.prog 149 = some 1 := by kernel_rfl
@[go_sem] theorem Tryz.by149 : by' Tryz.prog 149 = some 8 := by kernel_rfl
@[go_sem] theorem Tryz.zr149 : zro Tryz.prog 149 = some ([.map none]) := by kernel_rfl
@[go_sem] theorem Tryz.tk151 : tk Tryz.prog 151 = .func := by kernel_rfl
@[go_sem] theorem Tryz.sz151 : sz Tryz.prog 151 = some 1 := by kernel_rfl
@[go_sem] theorem Tryz.by151 : by' Tryz.prog 151 = some 8 := by kernel_rfl
@[go_sem] theorem Tryz.zr151 : zro Tryz.prog 151 = some ([.nilFunc]) := by kernel_rfl
@[go_sem] theorem Tryz.tk153 : tk Tryz.prog 153 = .func := by kernel_rfl
@[go_sem] theorem Tryz.sz153 : sz Tryz.prog 153 = some 1 := by kernel_rfl
@[go_sem] theorem Tryz.by153 : by' Tryz.prog 153 = some 8 := by kernel_rfl
@[go_sem] theorem Tryz.zr153 : zro Tryz.prog 153 = some ([.nilFunc]) := by kernel_rfl
@[go_sem] theorem Tryz.tk158 : tk Tryz.prog 158 = .map 3 71 := by kernel_rfl
@[go_sem] theorem Tryz.sz158 : sz Tryz.prog 158 = some 1 := by kernel_rfl
@[go_sem] theorem Tryz.by158 : by' Tryz.prog 158 = some 8 := by kernel_rfl
@[go_sem] theorem Tryz.zr158 : zro Tryz.prog 158 = some ([.map none]) := by kernel_rfl
@[go_sem] theorem Tryz.tk161 : tk Tryz.prog 161 = .map 3 164 := by kernel_rfl
@[go_sem] theorem Tryz.sz161 : sz Tryz.prog 161 = some 1 := by kernel_rfl
@[go_sem] theorem Tryz.by161 : by' Tryz.prog 161 = some 8 := by kernel_rfl
@[go_sem] theorem Tryz.zr161 : zro Tryz.prog 161 = some ([.map none]) := by kernel_rfl
@[go_sem] theorem Tryz.tk164 : tk Tryz.prog 164 = .struct [(0, 3), (1, 3)] := by kernel_rfl
@[go_sem] theorem Tryz.sz164 : sz Tryz.prog 164 = some 2 := by kernel_rfl
@[go_sem] theorem Tryz.by164 : by' Tryz.prog 164 = some 16 := by kernel_rfl
@[go_sem] theorem Tryz.eq164 : eqOk Tryz.prog 164 = true := by kernel_rfl
@[go_sem] theorem Tryz.zr164 : zro Tryz.prog 164 = some ([.int .i64 0, .int .i64 0]) := by kernel_rfl
@[go_sem] theorem Tryz.tk194 : tk Tryz.prog 194 = .struct [(0, 4), (1, 164)] := by kernel_rfl
@[go_sem] theorem Tryz.sz194 : sz Tryz.prog 194 = some 3 := by kernel_rfl
@[go_sem] theorem Tryz.by194 : by' Tryz.prog 194 = some 24 := by kernel_rfl
@[go_sem] theorem Tryz.zr194 : zro Tryz.prog 194 = some ([.bool false, .int .i64 0, .int .i64 0]) := by kernel_rfl
@[go_sem] theorem Tryz.tk195 : tk Tryz.prog 195 = .func := by kernel_rfl
@[go_sem] theorem Tryz.sz195 : sz Tryz.prog 195 = some 1 := by kernel_rfl
@[go_sem] theorem Tryz.by195 : by' Tryz.prog 195 = some 8 := by kernel_rfl
@[go_sem] theorem Tryz.zr195 : zro Tryz.prog 195 = some ([.nilFunc]) := by kernel_rfl
@[go_sem] theorem Tryz.tk216 : tk Tryz.prog 216 = .struct [(0, 57), (3, 3)] := by kernel_rfl
@[go_sem] theorem Tryz.sz216 : sz Tryz.prog 216 = some 4 := by kernel_rfl
@[go_sem] theorem Tryz.by216 : by' Tryz.prog 216 = some 56 := by kernel_rfl
@[go_sem] theorem Tryz.zr216 : zro Tryz.prog 216 = some ([.string ⟨#[]⟩, .int .i64 0, .slice none 0 0, .int .i64 0]) := by kernel_rfl
@[go_sem] theorem Tryz.tk219 : tk Tryz.prog 219 = .func := by kernel_rfl
@[go_sem] theorem Tryz.sz219 : sz Tryz.prog 219 = some 1 := by kernel_rfl
@[go_sem] theorem Tryz.by219 : by' Tryz.prog 219 = some 8 := by kernel_rfl
@[go_sem] theorem Tryz.zr219 : zro Tryz.prog 219 = some ([.nilFunc]) := by kernel_rfl
@[go_sem] theorem Tryz.tk225 : tk Tryz.prog 225 = .ptr 164 := by kernel_rfl
@[go_sem] theorem Tryz.sz225 : sz Tryz.prog 225 = some 1 := by kernel_rfl
@[go_sem] theorem Tryz.by225 : by' Tryz.prog 225 = some 8 := by kernel_rfl
@[go_sem] theorem Tryz.zr225 : zro Tryz.prog 225 = some ([.pointer none]) := by kernel_rfl
@[go_sem] theorem Tryz.tk228 : tk Tryz.prog 228 = .ptr 234 := by kernel_rfl
@[go_sem] theorem Tryz.sz228 : sz Tryz.prog 228 = some 1 := by kernel_rfl
@[go_sem] theorem Tryz.by228 : by' Tryz.prog 228 = some 8 := by kernel_rfl
@[go_sem] theorem Tryz.zr228 : zro Tryz.prog 228 = some ([.pointer none]) := by kernel_rfl
@[go_sem] theorem Tryz.tk229 : tk Tryz.prog 229 = .ptr 232 := by kernel_rfl
@[go_sem] theorem Tryz.sz229 : sz Tryz.prog 229 = some 1 := by kernel_rfl
@[go_sem] theorem Tryz.by229 : by' Tryz.prog 229 = some 8 := by kernel_rfl
@[go_sem] theorem Tryz.zr229 : zro Tryz.prog 229 = some ([.pointer none]) := by kernel_rfl
@[go_sem] theorem Tryz.tk230 : tk Tryz.prog 230 = .slice 5 := by kernel_rfl
@[go_sem] theorem Tryz.sz230 : sz Tryz.prog 230 = some 1 := by kernel_rfl
@[go_sem] theorem Tryz.by230 : by' Tryz.prog 230 = some 24 := by kernel_rfl
@[go_sem] theorem Tryz.zr230 : zro Tryz.prog 230 = some ([.slice none 0 0]) := by kernel_rfl
@[go_sem] theorem Tryz.tk232 : tk Tryz.prog 232 = .struct [(0, 229), (1, 230)] := by kernel_rfl
@[go_sem] theorem Tryz.sz232 : sz Tryz.prog 232 = some 2 := by kernel_rfl
@[go_sem] theorem Tryz.by232 : by' Tryz.prog 232 = some 32 := by kernel_rfl
@[go_sem] theorem Tryz.zr232 : zro Tryz.prog 232 = some ([.pointer none, .slice none 0 0]) := by kernel_rfl
@[go_sem] theorem Tryz.tk234 : tk Tryz.prog 234 = .struct [(0, 232), (2, 4)] := by kernel_rfl
@[go_sem] theorem Tryz.sz234 : sz Tryz.prog 234 = some 3 := by kernel_rfl
@[go_sem] theorem Tryz.by234 : by' Tryz.prog 234 = some 40 := by kernel_rfl
@[go_sem] theorem Tryz.zr234 : zro Tryz.prog 234 = some ([.pointer none, .slice none 0 0, .bool false]) := by kernel_rfl
@[go_sem] theorem Tryz.tk236 : tk Tryz.prog 236 = .iface := by kernel_rfl
@[go_sem] theorem Tryz.sz236 : sz Tryz.prog 236 = some 1 := by kernel_rfl
@[go_sem] theorem Tryz.by236 : by' Tryz.prog 236 = some 16 := by kernel_rfl
@[go_sem] theorem Tryz.zr236 : zro Tryz.prog 236 = some ([.nilIface]) := by kernel_rfl
@[go_sem] theorem Tryz.tk244 : tk Tryz.prog 244 = .struct [(0, 9), (1, 4)] := by kernel_rfl
@[go_sem] theorem Tryz.sz244 : sz Tryz.prog 244 = some 2 := by kernel_rfl
@[go_sem] theorem Tryz.by244 : by' Tryz.prog 244 = some 24 := by kernel_rfl
@[go_sem] theorem Tryz.eq244 : eqOk Tryz.prog 244 = true := by kernel_rfl
@[go_sem] theorem Tryz.zr244 : zro Tryz.prog 244 = some ([.string ⟨#[]⟩, .bool false]) := by kernel_rfl
@[go_sem] theorem Tryz.tk245 : tk Tryz.prog 245 = .slice 244 := by kernel_rfl
@[go_sem] theorem Tryz.sz245 : sz Tryz.prog 245 = some 1 := by kernel_rfl
@[go_sem] theorem Tryz.by245 : by' Tryz.prog 245 = some 24 := by kernel_rfl
@[go_sem] theorem Tryz.zr245 : zro Tryz.prog 245 = some ([.slice none 0 0]) := by kernel_rfl
@[go_sem] theorem Tryz.tk278 : tk Tryz.prog 278 = .ptr 5 := by kernel_rfl
@[go_sem] theorem Tryz.sz278 : sz Tryz.prog 278 = some 1 := by kernel_rfl
@[go_sem] theorem Tryz.by278 : by' Tryz.prog 278 = some 8 := by kernel_rfl
@[go_sem] theorem Tryz.zr278 : zro Tryz.prog 278 = some ([.pointer none]) := by kernel_rfl
@[go_sem] theorem Tryz.tk295 : tk Tryz.prog 295 = .int .u64 := by kernel_rfl
@[go_sem] theorem Tryz.sz295 : sz Tryz.prog 295 = some 1 := by kernel_rfl
@[go_sem] theorem Tryz.by295 : by' Tryz.prog 295 = some 8 := by kernel_rfl
@[go_sem] theorem Tryz.un295 : (Tryz.prog.underlying 295).isSome = true := by kernel_rfl
@[go_sem] theorem Tryz.zr295 : zro Tryz.prog 295 = some ([.int .u64 0]) := by kernel_rfl
@[go_sem] theorem Tryz.tk300 : tk Tryz.prog 300 = .other := by kernel_rfl
@[go_sem] theorem Tryz.sz300 : sz Tryz.prog 300 = some 1 := by kernel_rfl
@[go_sem] theorem Tryz.by300 : by' Tryz.prog 300 = some 8 := by kernel_rfl
@[go_sem] theorem Tryz.zr300 : zro Tryz.prog 300 = some ([.pointer none]) := by kernel_rfl
@[go_sem] theorem Tryz.tk312 : tk Tryz.prog 312 = .int .u32 := by kernel_rfl
@[go_sem] theorem Tryz.sz312 : sz Tryz.prog 312 = some 1 := by kernel_rfl
@[go_sem] theorem Tryz.by312 : by' Tryz.prog 312 = some 4 := by kernel_rfl
@[go_sem] theorem Tryz.un312 : (Tryz.prog.underlying 312).isSome = true := by kernel_rfl
@[go_sem] theorem Tryz.zr312 : zro Tryz.prog 312 = some ([.int .u32 0]) := by kernel_rfl
@[go_sem] theorem Tryz.tk314 : tk Tryz.prog 314 = .int .u64 := by kernel_rfl
@[go_sem] theorem Tryz.sz314 : sz Tryz.prog 314 = some 1 := by kernel_rfl
@[go_sem] theorem Tryz.by314 : by' Tryz.prog 314 = some 8 := by kernel_rfl
@[go_sem] theorem Tryz.un314 : (Tryz.prog.underlying 314).isSome = true := by kernel_rfl
@[go_sem] theorem Tryz.zr314 : zro Tryz.prog 314 = some ([.int .u64 0]) := by kernel_rfl
@[go_sem] theorem Tryz.tk319 : tk Tryz.prog 319 = .int .i64 := by kernel_rfl
@[go_sem] theorem Tryz.sz319 : sz Tryz.prog 319 = some 1 := by kernel_rfl
@[go_sem] theorem Tryz.by319 : by' Tryz.prog 319 = some 8 := by kernel_rfl
@[go_sem] theorem Tryz.un319 : (Tryz.prog.underlying 319).isSome = true := by kernel_rfl
@[go_sem] theorem Tryz.zr319 : zro Tryz.prog 319 = some ([.int .i64 0]) := by kernel_rfl
@[go_sem] theorem Tryz.tk322 : tk Tryz.prog 322 = .ptr 336 := by kernel_rfl
@[go_sem] theorem Tryz.sz322 : sz Tryz.prog 322 = some 1 := by kernel_rfl
@[go_sem] theorem Tryz.by322 : by' Tryz.prog 322 = some 8 := by kernel_rfl
@[go_sem] theorem Tryz.zr322 : zro Tryz.prog 322 = some ([.pointer none]) := by kernel_rfl
@[go_sem] theorem Tryz.tk336 : tk Tryz.prog 336 = .struct [(0, 9), (1, 9), (2, 236)] := by kernel_rfl
@[go_sem] theorem Tryz.sz336 : sz Tryz.prog 336 = some 3 := by kernel_rfl
@[go_sem] theorem Tryz.by336 : by' Tryz.prog 336 = some 48 := by kernel_rfl
@[go_sem] theorem Tryz.zr336 : zro Tryz.prog 336 = some ([.string ⟨#[]⟩, .string ⟨#[]⟩, .nilIface]) := by kernel_rfl
@[go_sem] theorem Tryz.tk338 : tk Tryz.prog 338 = .arr 24 5 := by kernel_rfl
@[go_sem] theorem Tryz.sz338 : sz Tryz.prog 338 = some 24 := by kernel_rfl
@[go_sem] theorem Tryz.by338 : by' Tryz.prog 338 = some 24 := by kernel_rfl
@[go_sem] theorem Tryz.eq338 : eqOk Tryz.prog 338 = true := by kernel_rfl
@[go_sem] theorem Tryz.zr338 : zro Tryz.prog 338 = some (List.replicate 24 (.int .u8 0)) := by kernel_rfl
@[go_sem] theorem Tryz.tk346 : tk Tryz.prog 346 = .ptr 348 := by kernel_rfl
@[go_sem] theorem Tryz.sz346 : sz Tryz.prog 346 = some 1 := by kernel_rfl
@[go_sem] theorem Tryz.by346 : by' Tryz.prog 346 = some 8 := by kernel_rfl
@[go_sem] theorem Tryz.zr346 : zro Tryz.prog 346 = some ([.pointer none]) := by kernel_rfl
@[go_sem] theorem Tryz.tk348 : tk Tryz.prog 348 = .struct [(0, 9)] := by kernel_rfl
@[go_sem] theorem Tryz.sz348 : sz Tryz.prog 348 = some 1 := by kernel_rfl
@[go_sem] theorem Tryz.by348 : by' Tryz.prog 348 = some 16 := by kernel_rfl
@[go_sem] theorem Tryz.eq348 : eqOk Tryz.prog 348 = true := by kernel_rfl
@[go_sem] theorem Tryz.zr348 : zro Tryz.prog 348 = some ([.string ⟨#[]⟩]) := by kernel_rfl
@[go_sem] theorem Tryz.tk350 : tk Tryz.prog 350 = .arr 20 314 := by kernel_rfl
@[go_sem] theorem Tryz.sz350 : sz Tryz.prog 350 = some 20 := by kernel_rfl
@[go_sem] theorem Tryz.by350 : by' Tryz.prog 350 = some 160 := by kernel_rfl
@[go_sem] theorem Tryz.eq350 : eqOk Tryz.prog 350 = true := by kernel_rfl
@[go_sem] theorem Tryz.zr350 : zro Tryz.prog 350 = some (List.replicate 20 (.int .u64 0)) := by kernel_rfl
@[go_sem] theorem Tryz.tk351 : tk Tryz.prog 351 = .arr 65 5 := by kernel_rfl
@[go_sem] theorem Tryz.sz351 : sz Tryz.prog 351 = some 65 := by kernel_rfl
@[go_sem] theorem Tryz.by351 : by' Tryz.prog 351 = some 65 := by kernel_rfl
@[go_sem] theorem Tryz.eq351 : eqOk Tryz.prog 351 = true := by kernel_rfl
@[go_sem] theorem Tryz.zr351 : zro Tryz.prog 351 = some (List.replicate 65 (.int .u8 0)) := by kernel_rfl
@[go_sem] theorem Tryz.tk352 : tk Tryz.prog 352 = .arr 32 5 := by kernel_rfl
@[go_sem] theorem Tryz.sz352 : sz Tryz.prog 352 = some 32 := by kernel_rfl
@[go_sem] theorem Tryz.by352 : by' Tryz.prog 352 = some 32 := by kernel_rfl
@[go_sem] theorem Tryz.eq352 : eqOk Tryz.prog 352 = true := by kernel_rfl
@[go_sem] theorem Tryz.zr352 : zro Tryz.prog 352 = some (List.replicate 32 (.int .u8 0)) := by kernel_rfl
@[go_sem] theorem Tryz.tk353 : tk Tryz.prog 353 = .arr 64 5 := by kernel_rfl
@[go_sem] theorem Tryz.sz353 : sz Tryz.prog 353 = some 64 := by kernel_rfl
@[go_sem] theorem Tryz.by353 : by' Tryz.prog 353 = some 64 := by kernel_rfl
@[go_sem] theorem Tryz.eq353 : eqOk Tryz.prog 353 = true := by kernel_rfl
@[go_sem] theorem Tryz.zr353 : zro Tryz.prog 353 = some (List.replicate 64 (.int .u8 0)) := by kernel_rfl
end Go.Proofs.YtpfohmboflcneaaGreatDoor
end

section
namespace Go.Proofs.YtpfohmboflcneaaGreatDoor
open Go Go.AL Go.RowKit
set_option maxRecDepth 10000
set_option maxHeartbeats 4000000
inductive Tm where
  | mk (nm : List UInt8) (ix : Int) (xs : List Tm)
def Tm.nm : Tm → List UInt8 | .mk n _ _ => n
def Tm.ix : Tm → Int | .mk _ i _ => i
def Tm.xs : Tm → List Tm | .mk _ _ a => a
mutual
def eqT : Tm → Tm → Bool
  | .mk n i xs, u => (n == u.nm && i == u.ix) && eqTs xs u.xs
def eqTs : List Tm → List Tm → Bool
  | [], [] => true
  | a :: l, b :: m => eqT a b && eqTs l m
  | _, _ => false
end
mutual
def tmC : Tm → List IV
  | .mk nm ix xs => [Si nm, Ii ix, .sl 3 (tmR xs)]
def tmR : List Tm → List (List IV)
  | [] => []
  | t :: l => tmC t :: tmR l
end
theorem tmC_eq (t : Tm) : tmC t = [Si t.nm, Ii t.ix, .sl 3 (tmR t.xs)] := by cases t; rfl
theorem tmR_map : ∀ l : List Tm, tmR l = l.map tmC
  | [] => rfl
  | t :: l => by rw [tmR, tmR_map l]; rfl
theorem tmR_len (l : List Tm) : (tmR l).length = l.length := by rw [tmR_map, List.length_map]
theorem tmR_get (l : List Tm) (k : Nat) (h : k < l.length) : ∃ t, l[k]? = some t ∧ (tmR l).getD k [] = [Si t.nm, Ii t.ix, .sl 3 (tmR t.xs)] := by
  refine ⟨l[k], List.getElem?_eq_getElem h, ?_⟩
  rw [List.getD_eq_getElem?_getD, tmR_map, List.getElem?_map, List.getElem?_eq_getElem h, ← tmC_eq]; rfl
abbrev tmV (t : Tm) : AV := .agg [Sv t.nm, Iv t.ix, .im (.sl 3 (tmR t.xs))]
mutual
def tmS : Tm → Prop
  | .mk nm _ xs => nm.length ≤ 9223372036854775807 ∧ xs.length ≤ 9223372036854775807 ∧ tmsS xs
def tmsS : List Tm → Prop
  | [] => True
  | t :: l => tmS t ∧ tmsS l
end
theorem tmS_eq {t : Tm} : tmS t ↔ t.nm.length ≤ 9223372036854775807 ∧ t.xs.length ≤ 9223372036854775807 ∧ tmsS t.xs := by cases t; rw [tmS]; rfl
theorem tmsS_get : ∀ {l : List Tm} {k : Nat} {t : Tm}, tmsS l → l[k]? = some t → tmS t
  | [], k, t, _, h => by simp at h
  | u :: l, 0, t, hs, h => by rw [tmsS] at hs; simp at h; exact h ▸ hs.1
  | u :: l, k + 1, t, hs, h => by rw [tmsS] at hs; simp at h; exact tmsS_get hs.2 h
theorem tm_mem {t u : Tm} {k : Nat} (h : t.xs[k]? = some u) : SizeOf.sizeOf u < SizeOf.sizeOf t := by
  cases t with
  | mk nm ix xs =>
    have := List.sizeOf_lt_of_mem (List.mem_of_getElem? h)
    simp only [Tm.xs] at this
    simp; omega
end Go.Proofs.YtpfohmboflcneaaGreatDoor
end

section
namespace Go.Proofs.YtpfohmboflcneaaGreatDoor
open Go Go.AL Go.RowKit
set_option maxRecDepth 10000
set_option maxHeartbeats 4000000
theorem ACall.told {P : Program} {f : FuncId} {xs : List AV} {H : Heap} {R R' : AV → Heap → Prop} (h : ACall P f xs H R) (hr : ∀ r H', R r H' → ∃ r', R' r' H' ∧ ∀ w φ I v, AV.den w φ I r v → AV.den w φ I r' v) : ACall P f xs H R' :=
  ⟨h.ent, fun w φ I vs hd hR hV => (h.run w φ I vs hd hR hV).mono fun _ _ ⟨r, H', φ', I', v, h1, h2, h3, h4⟩ => by
    obtain ⟨r', hr', hd'⟩ := hr _ _ h1
    exact ⟨r', H', φ', I', v, hr', h2, hd' _ _ _ _ h3, h4⟩⟩
theorem PFn.told {P : Program} {f : FuncId} {xs : List AV} {r r' : AV} (h : PFn P f xs r) (hr : ∀ w φ I v, AV.den w φ I r v → AV.den w φ I r' v) : PFn P f xs r' :=
  ACall.told h fun _ _ ⟨hH, he⟩ => ⟨r', ⟨hH, rfl⟩, by subst he; exact hr⟩
abbrev nilV : AV := .im (.v (.slice none 0 0))
theorem nil_told (es : Nat) (w : World) (φ : Phi) (I : Nat → Prop) (v : Value) (h : AV.den w φ I nilV v) : AV.den w φ I (.im (.sl es [])) v := by
  simp only [AV.den] at h ⊢
  exact nil_sl h
@[go_sem] theorem rns_im (ρ : Nat → Nat) : ∀ cs : List IV, AV.rns ρ (cs.map AV.im) = cs.map AV.im
  | [] => rfl
  | c :: cs => by rw [List.map_cons, AV.rns, rns_im ρ cs]; rfl
mutual
def tmL : Tm → Prop
  | .mk nm _ xs => nm.length ≤ 1000000000 ∧ xs.length ≤ 1000000000 ∧ tmsL xs
def tmsL : List Tm → Prop
  | [] => True
  | t :: l => tmL t ∧ tmsL l
end
theorem tmL_eq {t : Tm} : tmL t ↔ t.nm.length ≤ 1000000000 ∧ t.xs.length ≤ 1000000000 ∧ tmsL t.xs := by cases t; rw [tmL]; rfl
theorem tmsL_get : ∀ {l : List Tm} {k : Nat} {t : Tm}, tmsL l → l[k]? = some t → tmL t
  | [], k, t, _, h => by simp at h
  | u :: l, 0, t, hs, h => by rw [tmsL] at hs; simp at h; exact h ▸ hs.1
  | u :: l, k + 1, t, hs, h => by rw [tmsL] at hs; simp at h; exact tmsL_get hs.2 h
abbrev tmRow (w : Tm) : List IV := [Si w.nm, Ii w.ix, .sl 3 (tmR w.xs)]
abbrev tmP (t : Tm) : IV := .pt (tmRow t)
theorem take_snoc {α : Type} {l : List α} {k : Nat} {u : α} (h : l[k]? = some u) : l.take (k + 1) = l.take k ++ [u] := by rw [List.take_add_one, h]; rfl
theorem take_len {α : Type} {l : List α} {k : Nat} (h : k ≤ l.length) : (l.take k).length = k := by rw [List.length_take]; omega
theorem map_snoc {α β : Type} (f : α → β) {l : List α} {k : Nat} {u : α} (h : l[k]? = some u) : (l.take (k + 1)).map f = (l.take k).map f ++ [f u] := by
  rw [take_snoc h, List.map_append]; rfl
theorem tmR_add (l : List Tm) (w : Tm) : tmR (l ++ [w]) = tmR l ++ [tmRow w] := by
  rw [tmR_map, List.map_append, ← tmR_map, List.map_cons, List.map_nil, tmC_eq]
theorem conv_spec (x : Tm) (hs : tmL x) : PFn Tryz.prog 38 [tmV x] (tmV x) := by
  have hs0 := tmL_eq.1 hs
  refine ACall.walk [0, 1, 2, 3, 5, 12, 13, 14, 15] [2, 3, 5] Tryz.func38 rfl Tryz.ntmps38 (by kernel_rfl) (by rfl) rfl fun W own I0 φ0 lay => ?_
  refine gE @tmR_len ?_
  refine AP.ownCell 1 2 71 3 rfl rfl ?_
  refine sI ?_
  refine AP.loop rfl (α := Nat) (fun k => [(2, .ob 0 0), (3, .ob 1 0), (12, .im (.sl 3 (tmR x.xs))), (13, Iv x.xs.length), (14, Iv k)]) (fun k => [(2, .vec 71 3 (tmR (x.xs.take k))), (1, .var 71 [Sv x.nm, Iv x.ix, .os 2 3 0 k]), (0, .var 71 [Sv [], Iv 0, nilV])]) (fun k => k ≤ x.xs.length) (fun k => x.xs.length - k) 0 (by omega) (sU) rfl fun k hk => ?_
  rcases Nat.eq_or_lt_of_le hk with hke | hlt
  · subst hke
    rw [List.take_length]
    refine gE @tmR_len ?_
    refine cF ?_
    refine gO ?_
    refine AE.freeze 2 (el := 71) (es := 3) (rows := tmR x.xs) rfl (by simp only [go_sem, Nat.reduceAdd, Nat.reduceLeDiff, Nat.reduceSub, Int.reduceToNat, reduceCtorEq, tmR_len]; first | done | trivial | omega | (simp; done) | (simp; omega)) (by simp only [go_sem, Nat.reduceAdd, Nat.reduceLeDiff, Nat.reduceSub, Int.reduceToNat, reduceCtorEq, tmR_len]; first | done | trivial | omega | (simp; done) | (simp; omega)) ?_; simp only [go_sem, Nat.reduceAdd, Nat.reduceLeDiff, Nat.reduceSub, Int.reduceToNat, reduceCtorEq, tmR_len]
    rw [List.take_of_length_le (by rw [tmR_len]; omega)]
    exact AE.retD [1, 0] rfl ⟨⟨rfl, Nat.le_of_ble_eq_true (by kernel_rfl)⟩, trivial⟩ rfl ⟨rfl, by cases x; rfl⟩
  · obtain ⟨u, hu, hrow⟩ := tmR_get x.xs k hlt
    have hw := wr (x := (k : Int) + 1) (by omega)
    have htk := take_len (l := x.xs) (k := k) (by omega)
    have ih := conv_spec u (tmsL_get hs0.2.2 hu)
    have hsn := take_snoc hu
    refine gE @tmR_len ?_
    refine cT ?_
    refine gE @hrow ?_
    refine ⟨by rw [tmR_len]; omega, ?_⟩
    refine gO ?_
    refine AP.drawE 8 (Tree.node [] [0, 1, 2] [3] [Tree.node [0, 1] [] [4] [Tree.node [0, 1] [] [5] [Tree.node [] [6] [7] [Tree.node [] [] [] []]]]]) (by kernel_rfl) rfl (by kernel_rfl) (by kernel_rfl) ?_
    refine vd_node ?_
    refine sI ?_
    refine AQ.fn (by kernel_rfl) rfl rfl rfl (ih) rfl ?_
    refine sI ?_
    refine AQ.nx rfl ?_
    refine sI ?_
    refine AQ.go (by kernel_rfl) ?_
    refine sI ?_
    refine AQ.nx rfl ?_
    refine sI ?_
    refine AQ.kill 2 ?_
    refine sI ?_
    refine AQ.append (hnb := rfl) (rows := tmR (x.xs.take k)) (es := 2) (by kernel_rfl) rfl rfl rfl (by rfl) Tryz.tk69 Tryz.sz71 (by show Option.map _ (zro Tryz.prog 71) = _; rw [Tryz.zr71]; rfl) Tryz.by71 (by first | rfl | (simp only [tmR_len, htk, List.length_cons, List.length_nil]; done) | (simp only [tmR_len, htk, List.length_cons, List.length_nil]; omega)) (by simp only [tmR_len, htk, List.length_cons, List.length_nil]; omega) (by simp only [tmR_len, htk, List.length_cons, List.length_nil]; omega) ?_
    refine sI ?_
    refine AQ.nx rfl ?_
    refine sI ?_
    refine AQ.go (by kernel_rfl) ?_
    refine sI ?_
    refine AQ.nx rfl ?_
    refine sI ?_
    refine AQ.done ?_
    refine gE @hw ?_
    refine AE.forgets [3] rfl ?_
    refine sI ?_
    refine AE.round (k + 1) (by omega) (by omega) (sU) ?_
    rw [hsn, tmR_add, tmR_len, htk]
termination_by SizeOf.sizeOf x
decreasing_by exact tm_mem hu
theorem back_spec (x : Tm) (hs : tmL x) : PFn Tryz.prog 112 [tmV x] (tmV x) := by
  have hs0 := tmL_eq.1 hs
  refine ACall.walk [0, 1, 2, 3, 5, 12, 13, 14, 15] [2, 3, 5] Tryz.func112 rfl Tryz.ntmps112 (by kernel_rfl) (by rfl) rfl fun W own I0 φ0 lay => ?_
  refine gE @tmR_len ?_
  refine AP.ownCell 1 2 57 3 rfl rfl ?_
  refine sI ?_
  refine AP.loop rfl (α := Nat) (fun k => [(2, .ob 0 0), (3, .ob 1 0), (12, .im (.sl 3 (tmR x.xs))), (13, Iv x.xs.length), (14, Iv k)]) (fun k => [(2, .vec 57 3 (tmR (x.xs.take k))), (1, .var 57 [Sv x.nm, Iv x.ix, .os 2 3 0 k]), (0, .var 57 [Sv [], Iv 0, nilV])]) (fun k => k ≤ x.xs.length) (fun k => x.xs.length - k) 0 (by omega) (sU) rfl fun k hk => ?_
  rcases Nat.eq_or_lt_of_le hk with hke | hlt
  · subst hke
    rw [List.take_length]
    refine gE @tmR_len ?_
    refine cF ?_
    refine gO ?_
    refine AE.freeze 2 (el := 57) (es := 3) (rows := tmR x.xs) rfl (by simp only [go_sem, Nat.reduceAdd, Nat.reduceLeDiff, Nat.reduceSub, Int.reduceToNat, reduceCtorEq, tmR_len]; first | done | trivial | omega | (simp; done) | (simp; omega)) (by simp only [go_sem, Nat.reduceAdd, Nat.reduceLeDiff, Nat.reduceSub, Int.reduceToNat, reduceCtorEq, tmR_len]; first | done | trivial | omega | (simp; done) | (simp; omega)) ?_; simp only [go_sem, Nat.reduceAdd, Nat.reduceLeDiff, Nat.reduceSub, Int.reduceToNat, reduceCtorEq, tmR_len]
    rw [List.take_of_length_le (by rw [tmR_len]; omega)]
    exact AE.retD [1, 0] rfl ⟨⟨rfl, Nat.le_of_ble_eq_true (by kernel_rfl)⟩, trivial⟩ rfl ⟨rfl, by cases x; rfl⟩
  · obtain ⟨u, hu, hrow⟩ := tmR_get x.xs k hlt
    have hw := wr (x := (k : Int) + 1) (by omega)
    have htk := take_len (l := x.xs) (k := k) (by omega)
    have ih := back_spec u (tmsL_get hs0.2.2 hu)
    have hsn := take_snoc hu
    refine gE @tmR_len ?_
    refine cT ?_
    refine gE @hrow ?_
    refine ⟨by rw [tmR_len]; omega, ?_⟩
    refine gO ?_
    refine AP.drawE 8 (Tree.node [] [0, 1, 2] [3] [Tree.node [0, 1] [] [4] [Tree.node [0, 1] [] [5] [Tree.node [] [6] [7] [Tree.node [] [] [] []]]]]) (by kernel_rfl) rfl (by kernel_rfl) (by kernel_rfl) ?_
    refine vd_node ?_
    refine sI ?_
    refine AQ.fn (by kernel_rfl) rfl rfl rfl (ih) rfl ?_
    refine sI ?_
    refine AQ.nx rfl ?_
    refine sI ?_
    refine AQ.go (by kernel_rfl) ?_
    refine sI ?_
    refine AQ.nx rfl ?_
    refine sI ?_
    refine AQ.kill 2 ?_
    refine sI ?_
    refine AQ.append (hnb := rfl) (rows := tmR (x.xs.take k)) (es := 2) (by kernel_rfl) rfl rfl rfl (by rfl) Tryz.tk55 Tryz.sz57 (by show Option.map _ (zro Tryz.prog 57) = _; rw [Tryz.zr57]; rfl) Tryz.by57 (by first | rfl | (simp only [tmR_len, htk, List.length_cons, List.length_nil]; done) | (simp only [tmR_len, htk, List.length_cons, List.length_nil]; omega)) (by simp only [tmR_len, htk, List.length_cons, List.length_nil]; omega) (by simp only [tmR_len, htk, List.length_cons, List.length_nil]; omega) ?_
    refine sI ?_
    refine AQ.nx rfl ?_
    refine sI ?_
    refine AQ.go (by kernel_rfl) ?_
    refine sI ?_
    refine AQ.nx rfl ?_
    refine sI ?_
    refine AQ.done ?_
    refine gE @hw ?_
    refine AE.forgets [3] rfl ?_
    refine sI ?_
    refine AE.round (k + 1) (by omega) (by omega) (sU) ?_
    rw [hsn, tmR_add, tmR_len, htk]
termination_by SizeOf.sizeOf x
decreasing_by exact tm_mem hu
end Go.Proofs.YtpfohmboflcneaaGreatDoor
end

section
namespace Go.Proofs.YtpfohmboflcneaaGreatDoor
set_option maxHeartbeats 1000000
mutual
theorem eqT_iff : ∀ s t : Tm, eqT s t = true ↔ s = t
  | .mk n i xs, .mk m k ys => by
    rw [eqT]
    simp only [Bool.and_eq_true, beq_iff_eq, Tm.nm, Tm.ix, Tm.xs, eqTs_iff xs ys, Tm.mk.injEq, and_assoc]
theorem eqTs_iff : ∀ s t : List Tm, eqTs s t = true ↔ s = t
  | [], [] => by simp [eqTs]
  | [], _ :: _ => by simp [eqTs]
  | _ :: _, [] => by simp [eqTs]
  | a :: l, b :: m => by
    rw [eqTs]
    simp only [Bool.and_eq_true, eqT_iff a b, eqTs_iff l m, List.cons.injEq]
end
theorem eqT_self (s : Tm) : eqT s s = true := (eqT_iff s s).2 rfl
theorem eqT_ne {s t : Tm} : eqT s t = false ↔ s ≠ t := by
  rw [← Bool.not_eq_true, eqT_iff]
mutual
def vsT : Tm → List Int
  | .mk n i xs => (if n = [] then [i] else []) ++ vsTs xs
def vsTs : List Tm → List Int
  | [] => []
  | t :: l => vsT t ++ vsTs l
end
mutual
def wT : Tm → Nat
  | .mk _ _ xs => 1 + wTs xs
def wTs : List Tm → Nat
  | [] => 0
  | t :: l => wT t + wTs l
end
theorem vsT_eq (t : Tm) : vsT t = (if t.nm = [] then [t.ix] else []) ++ vsTs t.xs := by cases t; rw [vsT]; rfl
theorem wT_eq (t : Tm) : wT t = 1 + wTs t.xs := by cases t; rw [wT]; rfl
theorem wT_pos (t : Tm) : 1 ≤ wT t := by rw [wT_eq]; omega
theorem wTs_mem : ∀ (l : List Tm) (a : Tm), a ∈ l → wT a ≤ wTs l
  | [], _, h => by cases h
  | t :: l, a, h => by
    rw [wTs]
    rcases List.mem_cons.1 h with rfl | h
    · omega
    · have := wTs_mem l a h; omega
theorem wT_mem {t a : Tm} (h : a ∈ t.xs) : wT a < wT t := by
  rw [wT_eq t]; have := wTs_mem t.xs a h; omega
theorem vsTs_mem : ∀ (l : List Tm) (a : Tm), a ∈ l → ∀ v, (vsT a).count v ≤ (vsTs l).count v
  | [], _, h, _ => by cases h
  | t :: l, a, h, v => by
    rw [vsTs, List.count_append]
    rcases List.mem_cons.1 h with rfl | h
    · omega
    · have := vsTs_mem l a h v; omega
def covT (s t : Tm) : Bool := (vsT t).all fun v => decide ((vsT t).count v ≤ (vsT s).count v)
theorem covT_iff (s t : Tm) : covT s t = true ↔ ∀ v, (vsT t).count v ≤ (vsT s).count v := by
  rw [covT, List.all_eq_true]
  constructor
  · intro h v
    by_cases hv : v ∈ vsT t
    · exact of_decide_eq_true (h v hv)
    · rw [List.count_eq_zero_of_not_mem hv]; omega
  · intro h v _; exact decide_eq_true (h v)
mutual
def gtT : Tm → Tm → Bool
  | .mk n i xs, t =>
    if covT (.mk n i xs) t = false then false
    else if wT (.mk n i xs) ≠ wT t then decide (wT t < wT (.mk n i xs))
    else if n = [] ∨ t.nm = [] then false
    else if xs.length ≠ t.xs.length then decide (t.xs.length < xs.length)
    else if n ≠ t.nm then decide (t.nm < n)
    else gtTs xs t.xs
def gtTs : List Tm → List Tm → Bool
  | a :: l, b :: m => if eqT a b then gtTs l m else gtT a b
  | _, _ => false
end
theorem gtT_eq (s t : Tm) : gtT s t = if covT s t = false then false
    else if wT s ≠ wT t then decide (wT t < wT s)
    else if s.nm = [] ∨ t.nm = [] then false
    else if s.xs.length ≠ t.xs.length then decide (t.xs.length < s.xs.length)
    else if s.nm ≠ t.nm then decide (t.nm < s.nm)
    else gtTs s.xs t.xs := by cases s; rw [gtT]; rfl
theorem gtT_iff (s t : Tm) : gtT s t = true ↔ covT s t = true ∧ (wT t < wT s ∨ wT s = wT t ∧ s.nm ≠ [] ∧ t.nm ≠ [] ∧
    (t.xs.length < s.xs.length ∨ s.xs.length = t.xs.length ∧ (t.nm < s.nm ∨ s.nm = t.nm ∧ gtTs s.xs t.xs = true))) := by
  rw [gtT_eq]
  by_cases hc : covT s t = true
  · rw [if_neg (by rw [hc]; decide)]
    by_cases hw : wT s = wT t
    · rw [if_neg (by simpa using hw)]
      by_cases hn : s.nm = [] ∨ t.nm = []
      · rw [if_pos hn]
        constructor
        · intro h; cases h
        · rintro ⟨_, h | ⟨_, h1, h2, _⟩⟩
          · omega
          · rcases hn with h | h
            · exact absurd h h1
            · exact absurd h h2
      · rw [if_neg hn]
        have hn1 : s.nm ≠ [] := fun h => hn (.inl h)
        have hn2 : t.nm ≠ [] := fun h => hn (.inr h)
        by_cases hl : s.xs.length = t.xs.length
        · rw [if_neg (by simpa using hl)]
          by_cases hm : s.nm = t.nm
          · rw [if_neg (by simpa using hm)]
            constructor
            · intro h; exact ⟨hc, .inr ⟨hw, hn1, hn2, .inr ⟨hl, .inr ⟨hm, h⟩⟩⟩⟩
            · rintro ⟨_, h | ⟨_, _, _, h | ⟨_, h | ⟨_, h⟩⟩⟩⟩
              · omega
              · omega
              · rw [hm] at h; exact absurd h (List.lt_irrefl _)
              · exact h
          · rw [if_pos hm, decide_eq_true_iff]
            constructor
            · intro h; exact ⟨hc, .inr ⟨hw, hn1, hn2, .inr ⟨hl, .inl h⟩⟩⟩
            · rintro ⟨_, h | ⟨_, _, _, h | ⟨_, h | ⟨h, _⟩⟩⟩⟩
              · omega
              · omega
              · exact h
              · exact absurd h hm
        · rw [if_pos hl, decide_eq_true_iff]
          constructor
          · intro h; exact ⟨hc, .inr ⟨hw, hn1, hn2, .inl h⟩⟩
          · rintro ⟨_, h | ⟨_, _, _, h | ⟨h, _⟩⟩⟩
            · omega
            · exact h
            · exact absurd h hl
    · rw [if_pos hw, decide_eq_true_iff]
      constructor
      · intro h; exact ⟨hc, .inl h⟩
      · rintro ⟨_, h | ⟨h, _⟩⟩
        · exact h
        · exact absurd h hw
  · rw [if_pos (by simpa using hc)]
    constructor
    · intro h; cases h
    · rintro ⟨h, _⟩; exact absurd h hc
theorem gtTs_self : ∀ l : List Tm, gtTs l l = false
  | [] => by rw [gtTs]; simp
  | a :: l => by rw [gtTs, if_pos (eqT_self a), gtTs_self l]
theorem gtT_self (s : Tm) : gtT s s = false := by
  rw [← Bool.not_eq_true, gtT_iff]
  rintro ⟨_, h | ⟨_, _, _, h | ⟨_, h | ⟨_, h⟩⟩⟩⟩
  · omega
  · omega
  · exact absurd h (List.lt_irrefl _)
  · rw [gtTs_self] at h; cases h
theorem covT_trans {s t u : Tm} (h : covT s t = true) (k : covT t u = true) : covT s u = true := by
  rw [covT_iff] at *
  exact fun v => Nat.le_trans (k v) (h v)
theorem gtTs_trans : ∀ (l m k : List Tm), l.length = m.length → m.length = k.length →
    (∀ a ∈ l, ∀ b c, gtT a b = true → gtT b c = true → gtT a c = true) → gtTs l m = true → gtTs m k = true → gtTs l k = true
  | [], m, k, _, _, _, h, _ => by cases m <;> simp [gtTs] at h
  | a :: l, [], k, h, _, _, _, _ => by simp at h
  | a :: l, b :: m, [], _, h, _, _, _ => by simp at h
  | a :: l, b :: m, c :: k, h1, h2, ih, g1, g2 => by
    rw [gtTs] at g1 g2 ⊢
    by_cases e1 : a = b
    · subst e1
      rw [if_pos (eqT_self a)] at g1
      by_cases e2 : a = c
      · subst e2
        rw [if_pos (eqT_self a)] at g2 ⊢
        exact gtTs_trans l m k (by simpa using h1) (by simpa using h2) (fun x hx => ih x (List.mem_cons_of_mem _ hx)) g1 g2
      · have e2' := eqT_ne.2 e2
        rw [if_neg (by rw [e2']; decide)] at g2 ⊢
        exact g2
    · have e1' := eqT_ne.2 e1
      rw [if_neg (by rw [e1']; decide)] at g1
      by_cases e2 : b = c
      · subst e2
        rw [if_neg (by rw [e1']; decide)]
        exact g1
      · have e2' := eqT_ne.2 e2
        rw [if_neg (by rw [e2']; decide)] at g2
        have g3 := ih a (List.mem_cons_self ..) b c g1 g2
        have e3 : a ≠ c := by
          rintro rfl
          rw [gtT_self] at g3; cases g3
        rw [if_neg (by rw [eqT_ne.2 e3]; decide)]
        exact g3
theorem gtT_trans_aux : ∀ (n : Nat) (s t u : Tm), wT s ≤ n → gtT s t = true → gtT t u = true → gtT s u = true
  | 0, s, _, _, h, _, _ => by have := wT_pos s; omega
  | n + 1, s, t, u, hn, h, k => by
    rw [gtT_iff] at h k ⊢
    obtain ⟨hc, h⟩ := h
    obtain ⟨kc, k⟩ := k
    refine ⟨covT_trans hc kc, ?_⟩
    rcases h with h | ⟨hw, hs, ht, h⟩
    · rcases k with k | ⟨kw, _⟩
      · exact .inl (by omega)
      · exact .inl (by omega)
    · rcases k with k | ⟨kw, _, ku, k⟩
      · exact .inl (by omega)
      · refine .inr ⟨by omega, hs, ku, ?_⟩
        rcases h with h | ⟨hl, h⟩
        · rcases k with k | ⟨kl, _⟩
          · exact .inl (by omega)
          · exact .inl (by omega)
        · rcases k with k | ⟨kl, k⟩
          · exact .inl (by omega)
          · refine .inr ⟨by omega, ?_⟩
            rcases h with h | ⟨hm, h⟩
            · rcases k with k | ⟨km, _⟩
              · exact .inl (List.lt_trans k h)
              · exact .inl (km ▸ h)
            · rcases k with k | ⟨km, k⟩
              · exact .inl (hm ▸ k)
              · refine .inr ⟨hm.trans km, ?_⟩
                refine gtTs_trans s.xs t.xs u.xs hl kl (fun a ha b c g1 g2 => gtT_trans_aux n a b c ?_ g1 g2) h k
                have := wT_mem ha; omega
theorem gtT_trans {s t u : Tm} (h : gtT s t = true) (k : gtT t u = true) : gtT s u = true := gtT_trans_aux _ s t u (Nat.le_refl _) h k
theorem gtT_asymm {s t : Tm} (h : gtT s t = true) : gtT t s = false := by
  rw [← Bool.not_eq_true]
  intro k
  have := gtT_trans h k
  rw [gtT_self] at this; cases this
theorem gtT_ne {s t : Tm} (h : gtT s t = true) : s ≠ t := by
  rintro rfl
  rw [gtT_self] at h; cases h
theorem gtT_arg {s a : Tm} (h : a ∈ s.xs) : gtT s a = true := by
  rw [gtT_iff]
  refine ⟨?_, .inl (wT_mem h)⟩
  rw [covT_iff]
  intro v
  rw [vsT_eq s, List.count_append]
  have := vsTs_mem s.xs a h v
  omega
theorem vsTs_nil : ∀ (l : List Tm), vsTs l = [] → ∀ a ∈ l, vsT a = []
  | [], _, a, h => by cases h
  | t :: l, hv, a, h => by
    rw [vsTs, List.append_eq_nil_iff] at hv
    rcases List.mem_cons.1 h with rfl | h
    · exact hv.1
    · exact vsTs_nil l hv.2 a h
theorem covT_nil {s t : Tm} (h : vsT t = []) : covT s t = true := by rw [covT, h]; rfl
theorem totTs : ∀ (l m : List Tm), l.length = m.length → (∀ a ∈ l, ∀ b ∈ m, a = b ∨ gtT a b = true ∨ gtT b a = true) → l = m ∨ gtTs l m = true ∨ gtTs m l = true
  | [], [], _, _ => .inl rfl
  | [], _ :: _, h, _ => by simp at h
  | _ :: _, [], h, _ => by simp at h
  | a :: l, b :: m, h, ih => by
    by_cases e : a = b
    · subst e
      rw [gtTs, gtTs, if_pos (eqT_self a), if_pos (eqT_self a)]
      rcases totTs l m (by simpa using h) (fun x hx y hy => ih x (List.mem_cons_of_mem _ hx) y (List.mem_cons_of_mem _ hy)) with h | h
      · exact .inl (by rw [h])
      · exact .inr h
    · rw [gtTs, gtTs, if_neg (by rw [eqT_ne.2 e]; decide), if_neg (by rw [eqT_ne.2 (Ne.symm e)]; decide)]
      rcases ih a (List.mem_cons_self ..) b (List.mem_cons_self ..) with h | h
      · exact absurd h e
      · exact .inr h
theorem lt_total (a b : List UInt8) : a < b ∨ a = b ∨ b < a := by
  rcases List.le_total a b with h | h
  · rcases List.le_iff_lt_or_eq.1 h with h | h
    · exact .inl h
    · exact .inr (.inl h)
  · rcases List.le_iff_lt_or_eq.1 h with h | h
    · exact .inr (.inr h)
    · exact .inr (.inl h.symm)
inductive Lf : Tm → Prop
  | mk (t : Tm) (h : t.nm = [] → t.xs = []) (h0 : t.nm ≠ [] → t.ix = 0) (k : ∀ a ∈ t.xs, Lf a) : Lf t
theorem tot_aux : ∀ (n : Nat) (s t : Tm), wT s ≤ n → Lf s → Lf t → vsT s = [] → vsT t = [] → s = t ∨ gtT s t = true ∨ gtT t s = true
  | 0, s, _, h, _, _, _, _ => by have := wT_pos s; omega
  | n + 1, s, t, hn, hs, ht, h, k => by
    obtain ⟨_, _, hs0, hs2⟩ := hs
    obtain ⟨_, _, ht0, ht2⟩ := ht
    have hsn : s.nm ≠ [] := by
      intro e; rw [vsT_eq, if_pos e] at h; simp at h
    have htn : t.nm ≠ [] := by
      intro e; rw [vsT_eq, if_pos e] at k; simp at k
    have hx : vsTs s.xs = [] := by rw [vsT_eq, List.append_eq_nil_iff] at h; exact h.2
    have kx : vsTs t.xs = [] := by rw [vsT_eq, List.append_eq_nil_iff] at k; exact k.2
    have c1 : covT s t = true := covT_nil k
    have c2 : covT t s = true := covT_nil h
    rw [gtT_iff, gtT_iff]
    rcases Nat.lt_trichotomy (wT s) (wT t) with hw | hw | hw
    · exact .inr (.inr ⟨c2, .inl hw⟩)
    · rcases Nat.lt_trichotomy s.xs.length t.xs.length with hl | hl | hl
      · exact .inr (.inr ⟨c2, .inr ⟨hw.symm, htn, hsn, .inl hl⟩⟩)
      · rcases lt_total s.nm t.nm with hm | hm | hm
        · exact .inr (.inr ⟨c2, .inr ⟨hw.symm, htn, hsn, .inr ⟨hl.symm, .inl hm⟩⟩⟩)
        · rcases totTs s.xs t.xs hl (fun a ha b hb => tot_aux n a b (by have := wT_mem ha; omega) (hs2 a ha) (ht2 b hb) (vsTs_nil _ hx a ha) (vsTs_nil _ kx b hb)) with h | h | h
          · left
            cases s; cases t
            simp only [Tm.nm, Tm.xs, Tm.ix] at *
            rw [hm, h, hs0 hsn, ht0 htn]
          · exact .inr (.inl ⟨c1, .inr ⟨hw, hsn, htn, .inr ⟨hl, .inr ⟨hm, h⟩⟩⟩⟩)
          · exact .inr (.inr ⟨c2, .inr ⟨hw.symm, htn, hsn, .inr ⟨hl.symm, .inr ⟨hm.symm, h⟩⟩⟩⟩)
        · exact .inr (.inl ⟨c1, .inr ⟨hw, hsn, htn, .inr ⟨hl, .inl hm⟩⟩⟩)
      · exact .inr (.inl ⟨c1, .inr ⟨hw, hsn, htn, .inl hl⟩⟩)
    · exact .inr (.inl ⟨c1, .inl hw⟩)
mutual
def chT (f : Int → Tm) : Tm → Tm
  | .mk n i xs => if n = [] then f i else .mk n 0 (chTs f xs)
def chTs (f : Int → Tm) : List Tm → List Tm
  | [] => []
  | t :: l => chT f t :: chTs f l
end
theorem chT_eq (f : Int → Tm) (t : Tm) : chT f t = if t.nm = [] then f t.ix else .mk t.nm 0 (chTs f t.xs) := by cases t; rw [chT]; rfl
theorem chTs_map (f : Int → Tm) : ∀ l, chTs f l = l.map (chT f)
  | [] => by rw [chTs]; rfl
  | t :: l => by rw [chTs, chTs_map f l]; rfl
theorem vsTs_ch (f : Int → Tm) : ∀ l : List Tm, (∀ a ∈ l, vsT (chT f a) = (vsT a).flatMap fun v => vsT (f v)) → vsTs (chTs f l) = (vsTs l).flatMap fun v => vsT (f v)
  | [], _ => by rw [chTs, vsTs]; rfl
  | t :: l, h => by
    rw [chTs, vsTs, vsTs, List.flatMap_append, h t (List.mem_cons_self ..), vsTs_ch f l fun a ha => h a (List.mem_cons_of_mem _ ha)]
theorem vsT_ch (f : Int → Tm) {t : Tm} (h : Lf t) : vsT (chT f t) = (vsT t).flatMap fun v => vsT (f v) := by
  induction h with
  | mk t h h0 k ih =>
    rw [chT_eq, vsT_eq t]
    by_cases hn : t.nm = []
    · rw [if_pos hn, if_pos hn, h hn, vsTs]; simp
    · rw [if_neg hn, if_neg hn, vsT, if_neg hn]
      exact vsTs_ch f t.xs ih
def sumW (f : Int → Tm) (l : List Int) : Nat := (l.map fun v => wT (f v)).sum
theorem sumW_append (f : Int → Tm) (l m : List Int) : sumW f (l ++ m) = sumW f l + sumW f m := by
  rw [sumW, List.map_append, List.sum_append]; rfl
theorem wTs_ch (f : Int → Tm) : ∀ l : List Tm, (∀ a ∈ l, wT (chT f a) + (vsT a).length = wT a + sumW f (vsT a)) → wTs (chTs f l) + (vsTs l).length = wTs l + sumW f (vsTs l)
  | [], _ => by rw [chTs, wTs, vsTs]; rfl
  | t :: l, h => by
    rw [chTs, wTs, wTs, vsTs, sumW_append, List.length_append]
    have h1 := h t (List.mem_cons_self ..)
    have h2 := wTs_ch f l fun a ha => h a (List.mem_cons_of_mem _ ha)
    omega
theorem wT_ch (f : Int → Tm) {t : Tm} (h : Lf t) : wT (chT f t) + (vsT t).length = wT t + sumW f (vsT t) := by
  induction h with
  | mk t h h0 k ih =>
    rw [chT_eq, vsT_eq t, wT_eq t]
    by_cases hn : t.nm = []
    · rw [if_pos hn, if_pos hn, h hn, vsTs, wTs]
      simp [sumW]; omega
    · rw [if_neg hn, if_neg hn, wT, List.nil_append]
      have := wTs_ch f t.xs ih
      omega
theorem sub_perm : ∀ (l m : List Int), (∀ v, l.count v ≤ m.count v) → ∃ r, m.Perm (l ++ r)
  | [], m, _ => ⟨m, List.Perm.refl _⟩
  | a :: l, m, h => by
    have ha : a ∈ m := by
      have := h a
      rw [List.count_cons_self] at this
      exact List.count_pos_iff.1 (by omega)
    have hp := List.perm_cons_erase ha
    obtain ⟨r, hr⟩ := sub_perm l (m.erase a) fun v => by
      have h1 := h v
      rw [hp.count_eq v, List.count_cons, List.count_cons] at h1
      omega
    exact ⟨r, hp.trans (hr.cons a)⟩
theorem sumW_perm (f : Int → Tm) {l m : List Int} (h : l.Perm m) : sumW f l = sumW f m := by
  induction h with
  | nil => rfl
  | cons x _ ih => simp only [sumW, List.map_cons, List.sum_cons] at ih ⊢; omega
  | swap x y l => simp only [sumW, List.map_cons, List.sum_cons]; omega
  | trans _ _ h1 h2 => exact h1.trans h2
theorem sumW_ge (f : Int → Tm) : ∀ l : List Int, l.length ≤ sumW f l
  | [] => Nat.zero_le _
  | a :: l => by
    have := sumW_ge f l
    have h2 := wT_pos (f a)
    simp only [sumW, List.map_cons, List.sum_cons, List.length_cons] at this ⊢
    omega
theorem cov_ch (f : Int → Tm) {s t : Tm} (hs : Lf s) (ht : Lf t) (h : covT s t = true) :
    covT (chT f s) (chT f t) = true ∧ wT (chT f t) + wT s ≤ wT (chT f s) + wT t := by
  rw [covT_iff] at h
  obtain ⟨r, hr⟩ := sub_perm _ _ h
  constructor
  · rw [covT_iff]
    intro v
    rw [vsT_ch f hs, vsT_ch f ht, (hr.flatMap_right _).count_eq v, List.flatMap_append, List.count_append]
    omega
  · have h1 := wT_ch f hs
    have h2 := wT_ch f ht
    have h3 := sumW_perm f hr
    rw [sumW_append] at h3
    have h4 := hr.length_eq
    rw [List.length_append] at h4
    have h5 := sumW_ge f r
    omega
theorem gtTs_ch (f : Int → Tm) : ∀ (l m : List Tm), (∀ a ∈ l, ∀ b ∈ m, gtT a b = true → gtT (chT f a) (chT f b) = true) → gtTs l m = true → gtTs (chTs f l) (chTs f m) = true
  | [], m, _, h => by cases m <;> simp [gtTs] at h
  | a :: l, [], _, h => by simp [gtTs] at h
  | a :: l, b :: m, ih, h => by
    rw [chTs, chTs, gtTs]
    rw [gtTs] at h
    by_cases e : a = b
    · subst e
      rw [if_pos (eqT_self a)] at h
      rw [if_pos (eqT_self _)]
      exact gtTs_ch f l m (fun x hx y hy => ih x (List.mem_cons_of_mem _ hx) y (List.mem_cons_of_mem _ hy)) h
    · rw [if_neg (by rw [eqT_ne.2 e]; decide)] at h
      have g := ih a (List.mem_cons_self ..) b (List.mem_cons_self ..) h
      rw [if_neg (by rw [eqT_ne.2 (gtT_ne g)]; decide)]
      exact g
theorem gtT_ch_aux (f : Int → Tm) : ∀ (n : Nat) (s t : Tm), wT s ≤ n → Lf s → Lf t → gtT s t = true → gtT (chT f s) (chT f t) = true
  | 0, s, _, h, _, _, _ => by have := wT_pos s; omega
  | n + 1, s, t, hn, hs, ht, h => by
    rw [gtT_iff] at h
    obtain ⟨hc, h⟩ := h
    obtain ⟨c1, c2⟩ := cov_ch f hs ht hc
    rw [gtT_iff]
    refine ⟨c1, ?_⟩
    rcases h with h | ⟨hw, hsn, htn, h⟩
    · exact .inl (by omega)
    · rcases Nat.lt_or_ge (wT (chT f t)) (wT (chT f s)) with h' | h'
      · exact .inl h'
      · have es : chT f s = .mk s.nm 0 (chTs f s.xs) := by rw [chT_eq, if_neg hsn]
        have et : chT f t = .mk t.nm 0 (chTs f t.xs) := by rw [chT_eq, if_neg htn]
        refine .inr ⟨by omega, ?_⟩
        rw [es, et]
        simp only [Tm.nm, Tm.xs]
        refine ⟨hsn, htn, ?_⟩
        rw [chTs_map, chTs_map, List.length_map, List.length_map, ← chTs_map, ← chTs_map]
        rcases h with h | ⟨hl, h | ⟨hm, h⟩⟩
        · exact .inl h
        · exact .inr ⟨hl, .inl h⟩
        · obtain ⟨_, _, _, hs2⟩ := hs
          obtain ⟨_, _, _, ht2⟩ := ht
          exact .inr ⟨hl, .inr ⟨hm, gtTs_ch f s.xs t.xs (fun a ha b hb g => gtT_ch_aux f n a b (by have := wT_mem ha; omega) (hs2 a ha) (ht2 b hb) g) h⟩⟩
theorem gtT_ch (f : Int → Tm) {s t : Tm} (hs : Lf s) (ht : Lf t) (h : gtT s t = true) : gtT (chT f s) (chT f t) = true := gtT_ch_aux f _ s t (Nat.le_refl _) hs ht h
def cmpT (s t : Tm) : Int := if eqT s t then 0 else if gtT s t then 1 else if gtT t s then -1 else 2
theorem cmpT_gt {s t : Tm} : cmpT s t = 1 ↔ gtT s t = true := by
  rw [cmpT]
  constructor
  · intro h
    split at h
    · cases h
    · split at h
      · assumption
      · split at h <;> cases h
  · intro h
    rw [if_neg (by rw [eqT_ne.2 (gtT_ne h)]; decide), if_pos h]
theorem cmpT_lt {s t : Tm} : cmpT s t = -1 ↔ gtT t s = true := by
  rw [cmpT]
  constructor
  · intro h
    split at h
    · cases h
    · split at h
      · cases h
      · split at h
        · assumption
        · cases h
  · intro h
    rw [if_neg (by rw [eqT_ne.2 (gtT_ne h).symm]; decide), if_neg (by rw [gtT_asymm h]; decide), if_pos h]
theorem cmpT_eq {s t : Tm} : cmpT s t = 0 ↔ s = t := by
  rw [cmpT, ← eqT_iff]
  constructor
  · intro h
    split at h
    · assumption
    · split at h
      · cases h
      · split at h <;> cases h
  · intro h; rw [if_pos h]
theorem cmpT_in {s t : Tm} : cmpT s t = 2 ↔ s ≠ t ∧ gtT s t = false ∧ gtT t s = false := by
  rw [cmpT]
  constructor
  · intro h
    split at h
    · cases h
    · rename_i h1
      split at h
      · cases h
      · rename_i h2
        split at h
        · cases h
        · rename_i h3
          exact ⟨fun e => h1 ((eqT_iff s t).2 e), by simpa using h2, by simpa using h3⟩
  · rintro ⟨h1, h2, h3⟩
    rw [if_neg (by rw [eqT_ne.2 h1]; decide), if_neg (by rw [h2]; decide), if_neg (by rw [h3]; decide)]
end Go.Proofs.YtpfohmboflcneaaGreatDoor
end

section
namespace Go.Proofs.YtpfohmboflcneaaGreatDoor
open Go
def isDig (c : UInt8) : Bool := decide (48 ≤ c.toNat) && decide (c.toNat ≤ 57)
def digs (l : List UInt8) : Nat := l.foldl (fun n c => 10 * n + (c.toNat - 48)) 0
theorem digs_snoc (l : List UInt8) (c : UInt8) : digs (l ++ [c]) = 10 * digs l + (c.toNat - 48) := by simp [digs, List.foldl_append]
theorem ofn (d : Nat) (h : d < 10) : (UInt8.ofNat (48 + d)).toNat = 48 + d := by
  rw [UInt8.toNat_ofNat']; omega
theorem dec_facts : ∀ (u : Nat), digs (Lib.decDigits u) = u ∧ (∀ c ∈ Lib.decDigits u, isDig c = true) ∧ Lib.decDigits u ≠ [] ∧ (∀ k, 1 ≤ k → u < 10 ^ k → (Lib.decDigits u).length ≤ k) ∧ (u ≠ 0 → ((Lib.decDigits u).getD 0 0).toNat ≠ 48) ∧ (1 < (Lib.decDigits u).length → u ≠ 0) := by
  intro u
  induction u using Nat.strongRecOn with
  | _ u ih =>
    rw [Lib.decDigits]
    by_cases h : u < 10
    · rw [dif_pos h]
      refine ⟨?_, ?_, by simp, ?_, ?_, by simp⟩
      · simp only [digs, List.foldl_cons, List.foldl_nil, ofn u h]; omega
      · intro c hc
        simp only [List.mem_singleton] at hc
        subst hc
        simp only [isDig, ofn u h, Bool.and_eq_true, decide_eq_true_eq]; omega
      · intro k hk _; simpa using hk
      · intro h0; simp only [List.getD_cons_zero, ofn u h]; omega
    · rw [dif_neg h]
      obtain ⟨h1, h2, h3, h4, h5, h6⟩ := ih (u / 10) (by omega)
      have hm : u % 10 < 10 := Nat.mod_lt _ (by decide)
      refine ⟨?_, ?_, by simp, ?_, ?_, fun _ => by omega⟩
      · rw [digs_snoc, h1, ofn _ hm]; omega
      · intro c hc
        rcases List.mem_append.1 hc with hc | hc
        · exact h2 c hc
        · simp only [List.mem_singleton] at hc
          subst hc
          simp only [isDig, ofn _ hm, Bool.and_eq_true, decide_eq_true_eq]; omega
      · intro k hk hu
        match k, hk with
        | 1, _ => omega
        | k + 2, _ =>
          have := h4 (k + 1) (by omega) (by rw [Nat.pow_succ] at hu; omega)
          rw [List.length_append, List.length_singleton]; omega
      · intro _
        have h7 := h5 (by omega)
        match hd : Lib.decDigits (u / 10), h3 with
        | x :: r, _ => rw [hd] at h7; simpa using h7
theorem dec_uniq : ∀ (n : Nat) (l : List UInt8), l.length = n + 1 → (∀ c ∈ l, isDig c = true) → (1 < l.length → (l.getD 0 0).toNat ≠ 48) → Lib.decDigits (digs l) = l ∧ ((l.getD 0 0).toNat ≠ 48 → digs l ≠ 0)
  | 0, l, hl, hd, _ => by
    match l, hl with
    | [c], _ =>
      have hc := hd c (by simp)
      simp only [isDig, Bool.and_eq_true, decide_eq_true_eq] at hc
      have e : digs [c] = c.toNat - 48 := by simp [digs]
      rw [e]
      refine ⟨?_, fun h => by simp only [List.getD_cons_zero] at h; omega⟩
      rw [Lib.decDigits, dif_pos (by omega)]
      have : UInt8.ofNat (48 + (c.toNat - 48)) = c := by
        rw [show 48 + (c.toNat - 48) = c.toNat by omega]; simp
      rw [this]
  | n + 1, l, hl, hd, hz => by
    obtain ⟨r, c, rfl⟩ : ∃ r c, l = r ++ [c] := by
      rcases List.eq_nil_or_concat l with rfl | ⟨r, c, rfl⟩
      · simp at hl
      · exact ⟨r, c, List.concat_eq_append⟩
    have hrl : r.length = n + 1 := by simp at hl; omega
    have hg : (r ++ [c]).getD 0 0 = r.getD 0 0 := by
      match r, hrl with
      | x :: r, _ => rfl
    rw [hg] at hz ⊢
    have h0 := hz (by rw [List.length_append, List.length_singleton]; omega)
    obtain ⟨h1, h2⟩ := dec_uniq n r hrl (fun d hd' => hd d (by simp [hd'])) (fun _ => h0)
    have hc := hd c (by simp)
    simp only [isDig, Bool.and_eq_true, decide_eq_true_eq] at hc
    have h3 := h2 h0
    rw [digs_snoc]
    refine ⟨?_, fun _ => by omega⟩
    rw [Lib.decDigits, dif_neg (by omega), show (10 * digs r + (c.toNat - 48)) / 10 = digs r by omega, h1, show (10 * digs r + (c.toNat - 48)) % 10 = c.toNat - 48 by omega]
    have : UInt8.ofNat (48 + (c.toNat - 48)) = c := by
      rw [show 48 + (c.toNat - 48) = c.toNat by omega]; simp
    rw [this]
def inN (c : UInt8) (first : Bool) : Bool :=
  (decide (97 ≤ c.toNat) && decide (c.toNat ≤ 122) || decide (65 ≤ c.toNat) && decide (c.toNat ≤ 90)) || !first && ((decide (48 ≤ c.toNat) && decide (c.toNat ≤ 57) || c == 95) || c == 39)
def nmN : Bool → List UInt8 → Nat
  | _, [] => 0
  | b, c :: l => if inN c b then 1 + nmN false l else 0
def dgN : List UInt8 → Nat
  | [] => 0
  | c :: l => if isDig c then 1 + dgN l else 0
def nmAll : Bool → List UInt8 → Bool
  | _, [] => true
  | b, c :: l => inN c b && nmAll false l
def nmB (n : List UInt8) : Bool := decide (n ≠ []) && decide (n.length ≤ 60) && nmAll true n
theorem nmN_le : ∀ b l, nmN b l ≤ l.length
  | _, [] => Nat.zero_le _
  | b, c :: l => by
    rw [nmN]; split
    · have := nmN_le false l; rw [List.length_cons]; omega
    · exact Nat.zero_le _
theorem dgN_le : ∀ l, dgN l ≤ l.length
  | [] => Nat.zero_le _
  | c :: l => by
    rw [dgN]; split
    · have := dgN_le l; rw [List.length_cons]; omega
    · exact Nat.zero_le _
theorem dgN_take : ∀ l : List UInt8, ∀ c ∈ l.take (dgN l), isDig c = true
  | [] => by simp
  | c :: l => by
    rw [dgN]
    split
    · rename_i h
      rw [Nat.add_comm, List.take_succ_cons]
      intro d hd
      rcases List.mem_cons.1 hd with rfl | hd
      · exact h
      · exact dgN_take l d hd
    · simp
structure Lt where
  ng : Bool
  pd : List UInt8
  xs : List Tm
mutual
def txT (sh : Bool) : Tm → List UInt8
  | .mk n i xs => if n = [] then 63 :: (if sh then [] else Lib.itoa i) else n ++ txA sh xs
def txA (sh : Bool) : List Tm → List UInt8
  | [] => []
  | t :: l => 40 :: (txT sh t ++ txR sh l)
def txR (sh : Bool) : List Tm → List UInt8
  | [] => [41]
  | t :: l => 44 :: 32 :: (txT sh t ++ txR sh l)
end
theorem txT_eq (sh : Bool) (t : Tm) : txT sh t = if t.nm = [] then 63 :: (if sh then [] else Lib.itoa t.ix) else t.nm ++ txA sh t.xs := by cases t; rw [txT]; rfl
def eqW (ng : Bool) : List UInt8 := if ng then [32, 33, 61, 32] else [32, 61, 32]
def txL (sh : Bool) (l : Lt) : List UInt8 :=
  if l.pd = [61] then txT sh (l.xs.getD 0 (.mk [] 0 [])) ++ (eqW l.ng ++ txT sh (l.xs.getD 1 (.mk [] 0 [])))
  else (if l.ng then [126] else []) ++ (l.pd ++ txA sh l.xs)
def txS (sh : Bool) : List Lt → List UInt8
  | [] => []
  | l :: r => 32 :: 124 :: 32 :: (txL sh l ++ txS sh r)
def txC (sh : Bool) : List Lt → List UInt8
  | [] => [91, 93]
  | l :: r => txL sh l ++ txS sh r
def atB (s : List UInt8) (i : Nat) (w : List UInt8) : Bool := w.isPrefixOf (s.drop i)
def numOk (d : List UInt8) : Bool := decide (1 ≤ d.length) && decide (d.length ≤ 9) && (decide (d.length = 1) || decide ((d.getD 0 0).toNat ≠ 48))
def pV (s : List UInt8) (i : Nat) : Option (Tm × Nat) :=
  if numOk ((s.drop i).take (dgN (s.drop i))) then some (.mk [] (digs ((s.drop i).take (dgN (s.drop i)))) [], i + dgN (s.drop i)) else none
mutual
def pT (s : List UInt8) : Nat → Nat → Option (Tm × Nat)
  | 0, _ => none
  | f + 1, i => if atB s i [63] then pV s (i + 1) else
    if nmN true (s.drop i) = 0 then none else
    if atB s (i + nmN true (s.drop i)) [40] then
      match pT s f (i + nmN true (s.drop i) + 1) with
      | none => none
      | some (t, j) => match pR s f j with
        | none => none
        | some (l, k) => some (.mk ((s.drop i).take (nmN true (s.drop i))) 0 (t :: l), k)
    else some (.mk ((s.drop i).take (nmN true (s.drop i))) 0 [], i + nmN true (s.drop i))
def pR (s : List UInt8) : Nat → Nat → Option (List Tm × Nat)
  | 0, _ => none
  | f + 1, i => if atB s i [44, 32] then
      match pT s f (i + 2) with
      | none => none
      | some (t, j) => match pR s f j with
        | none => none
        | some (l, k) => some (t :: l, k)
    else if atB s i [41] then some ([], i + 1) else none
end
def pA (s : List UInt8) (f i : Nat) : Option (List Tm × Nat) :=
  if atB s i [40] then
    match pT s f (i + 1) with
    | none => none
    | some (t, j) => match pR s f j with
      | none => none
      | some (l, k) => some (t :: l, k)
  else some ([], i)
theorem pT_succ (s : List UInt8) (f i : Nat) : pT s (f + 1) i = if atB s i [63] then pV s (i + 1) else
    if nmN true (s.drop i) = 0 then none else
    match pA s f (i + nmN true (s.drop i)) with
    | none => none
    | some (l, k) => some (.mk ((s.drop i).take (nmN true (s.drop i))) 0 l, k) := by
  rw [pT, pA]
  split
  · rfl
  · split
    · rfl
    · split
      · cases pT s f (i + nmN true (s.drop i) + 1) with
        | none => rfl
        | some x =>
          obtain ⟨t, j⟩ := x
          simp only
          cases pR s f j with
          | none => rfl
          | some y => rfl
      · rfl
def pL (s : List UInt8) (i : Nat) : Option (Lt × Nat) :=
  if atB s i [126] then
    if nmN true (s.drop (i + 1)) = 0 then none else
    match pA s (s.length + 1) (i + 1 + nmN true (s.drop (i + 1))) with
    | none => none
    | some (l, k) => some (⟨true, (s.drop (i + 1)).take (nmN true (s.drop (i + 1))), l⟩, k)
  else match pT s (s.length + 1) i with
    | none => none
    | some (t, j) =>
      if atB s j [32, 61, 32] then (match pT s (s.length + 1) (j + 3) with
        | none => none
        | some (u, k) => some (⟨false, [61], [t, u]⟩, k))
      else if atB s j [32, 33, 61, 32] then (match pT s (s.length + 1) (j + 4) with
        | none => none
        | some (u, k) => some (⟨true, [61], [t, u]⟩, k))
      else if t.nm = [] then none else some (⟨false, t.nm, t.xs⟩, j)
def pS (s : List UInt8) : Nat → Nat → Option (List Lt)
  | 0, _ => none
  | f + 1, i => match pL s i with
    | none => none
    | some (l, j) => if atB s j [32, 124, 32] then (match pS s f (j + 3) with
        | none => none
        | some r => some (l :: r))
      else if j < s.length then none else some [l]
def pC (s : List UInt8) : Option (List Lt) := if s = [91, 93] then some [] else pS s (s.length + 1) 0
theorem atB_drop {s : List UInt8} {i : Nat} {w : List UInt8} (h : atB s i w = true) : s.drop i = w ++ s.drop (i + w.length) := by
  obtain ⟨r, hr⟩ := List.isPrefixOf_iff_prefix.1 h
  rw [← List.drop_drop, ← hr, List.drop_left]
theorem atB_len {s : List UInt8} {i : Nat} {w : List UInt8} (h : atB s i w = true) : i + w.length ≤ s.length ∨ w = [] := by
  have := congrArg List.length (atB_drop h)
  rw [List.length_append, List.length_drop, List.length_drop] at this
  rcases w with _ | ⟨c, w⟩
  · exact .inr rfl
  · left; rw [List.length_cons] at *; omega
theorem itoa_digs {d : List UInt8} (h : numOk d = true) (k : ∀ c ∈ d, isDig c = true) : Lib.itoa (digs d : Int) = d := by
  simp only [numOk, Bool.and_eq_true, Bool.or_eq_true, decide_eq_true_eq] at h
  rw [Lib.itoa_nonneg]
  exact (dec_uniq (d.length - 1) d (by omega) k (fun h1 => by rcases h.2 with h2 | h2; omega; exact h2)).1
theorem pV_tx {s : List UInt8} {i j : Nat} {t : Tm} (h : pV s i = some (t, j)) : t.nm = [] ∧ s.drop i = Lib.itoa t.ix ++ s.drop j ∧ i < j ∧ j ≤ s.length := by
  rw [pV] at h
  split at h
  · rename_i hn
    simp only [Option.some.injEq, Prod.mk.injEq] at h
    obtain ⟨rfl, rfl⟩ := h
    have hl := dgN_le (s.drop i)
    have h1 : 1 ≤ dgN (s.drop i) := by
      simp only [numOk, Bool.and_eq_true, decide_eq_true_eq, List.length_take] at hn; omega
    rw [List.length_drop] at hl
    refine ⟨rfl, ?_, by omega, by omega⟩
    show _ = Lib.itoa (digs _ : Int) ++ _
    rw [itoa_digs hn (dgN_take _), ← List.drop_drop, List.take_append_drop]
  · cases h
theorem pTR_tx (s : List UInt8) : ∀ f, (∀ i t j, pT s f i = some (t, j) → s.drop i = txT false t ++ s.drop j ∧ i < j ∧ j ≤ s.length) ∧
    (∀ i l j, pR s f i = some (l, j) → s.drop i = txR false l ++ s.drop j ∧ i < j ∧ j ≤ s.length)
  | 0 => ⟨fun i t j h => (by rw [pT] at h; cases h), fun i l j h => (by rw [pR] at h; cases h)⟩
  | f + 1 => by
    obtain ⟨ihT, ihR⟩ := pTR_tx s f
    refine ⟨fun i t j h => ?_, fun i l j h => ?_⟩
    · rw [pT] at h
      split at h
      · rename_i hq
        obtain ⟨h1, h2, h3, h4⟩ := pV_tx h
        refine ⟨?_, by omega, h4⟩
        rw [atB_drop hq, txT_eq, if_pos h1, show i + [(63 : UInt8)].length = i + 1 from rfl, h2]; rfl
      · split at h
        · cases h
        · rename_i hn
          have hnl := nmN_le true (s.drop i)
          rw [List.length_drop] at hnl
          have hne : (s.drop i).take (nmN true (s.drop i)) ≠ [] := by
            intro e
            have := congrArg List.length e
            rw [List.length_take, List.length_drop, List.length_nil] at this
            omega
          split at h
          · rename_i ho
            split at h
            · cases h
            · rename_i t1 j1 e1
              split at h
              · cases h
              · rename_i l1 k1 e2
                simp only [Option.some.injEq, Prod.mk.injEq] at h
                obtain ⟨rfl, rfl⟩ := h
                obtain ⟨g1, g2, g3⟩ := ihT _ _ _ e1
                obtain ⟨g4, g5, g6⟩ := ihR _ _ _ e2
                refine ⟨?_, by omega, g6⟩
                rw [txT, if_neg hne, txA]
                have e3 := atB_drop ho
                rw [show i + nmN true (s.drop i) + [(40 : UInt8)].length = i + nmN true (s.drop i) + 1 from rfl, g1, g4] at e3
                have e4 : s.drop i = (s.drop i).take (nmN true (s.drop i)) ++ s.drop (i + nmN true (s.drop i)) := by
                  rw [← List.drop_drop, List.take_append_drop]
                rw [e3] at e4
                simp only [List.cons_append, List.append_assoc, List.nil_append] at e4 ⊢
                exact e4
          · simp only [Option.some.injEq, Prod.mk.injEq] at h
            obtain ⟨rfl, rfl⟩ := h
            refine ⟨?_, by omega, by omega⟩
            rw [txT, if_neg hne, txA, List.append_nil, ← List.drop_drop, List.take_append_drop]
    · rw [pR] at h
      split at h
      · rename_i ho
        split at h
        · cases h
        · rename_i t1 j1 e1
          split at h
          · cases h
          · rename_i l1 k1 e2
            simp only [Option.some.injEq, Prod.mk.injEq] at h
            obtain ⟨rfl, rfl⟩ := h
            obtain ⟨g1, g2, g3⟩ := ihT _ _ _ e1
            obtain ⟨g4, g5, g6⟩ := ihR _ _ _ e2
            refine ⟨?_, by omega, g6⟩
            rw [atB_drop ho, show i + [(44 : UInt8), 32].length = i + 2 from rfl, g1, g4, txR]
            simp only [List.cons_append, List.append_assoc, List.nil_append]
      · split at h
        · rename_i ho
          simp only [Option.some.injEq, Prod.mk.injEq] at h
          obtain ⟨rfl, rfl⟩ := h
          refine ⟨by rw [atB_drop ho, txR]; rfl, by omega, ?_⟩
          have := atB_len ho
          simpa using this
        · cases h
theorem pT_tx {s : List UInt8} {f i j : Nat} {t : Tm} (h : pT s f i = some (t, j)) : s.drop i = txT false t ++ s.drop j ∧ i < j ∧ j ≤ s.length := (pTR_tx s f).1 i t j h
theorem pR_tx {s : List UInt8} {f i j : Nat} {l : List Tm} (h : pR s f i = some (l, j)) : s.drop i = txR false l ++ s.drop j ∧ i < j ∧ j ≤ s.length := (pTR_tx s f).2 i l j h
theorem pA_tx {s : List UInt8} {f i j : Nat} {l : List Tm} (h : pA s f i = some (l, j)) (hi : i ≤ s.length) : s.drop i = txA false l ++ s.drop j ∧ i ≤ j ∧ j ≤ s.length := by
  rw [pA] at h
  split at h
  · rename_i ho
    split at h
    · cases h
    · rename_i t1 j1 e1
      split at h
      · cases h
      · rename_i l1 k1 e2
        simp only [Option.some.injEq, Prod.mk.injEq] at h
        obtain ⟨rfl, rfl⟩ := h
        obtain ⟨g1, g2, g3⟩ := pT_tx e1
        obtain ⟨g4, g5, g6⟩ := pR_tx e2
        refine ⟨?_, by omega, g6⟩
        rw [atB_drop ho, show i + [(40 : UInt8)].length = i + 1 from rfl, g1, g4, txA]
        simp only [List.cons_append, List.append_assoc, List.nil_append]
  · simp only [Option.some.injEq, Prod.mk.injEq] at h
    obtain ⟨rfl, rfl⟩ := h
    exact ⟨by rw [txA]; rfl, Nat.le_refl _, hi⟩
end Go.Proofs.YtpfohmboflcneaaGreatDoor
end

section
namespace Go.Proofs.YtpfohmboflcneaaGreatDoor
open Go
set_option maxHeartbeats 1000000
mutual
def okT : Tm → Bool
  | .mk n i xs => if n = [] then xs.isEmpty && (decide (0 ≤ i) && decide (i < 1000)) else (nmB n && i == 0) && okTs xs
def okTs : List Tm → Bool
  | [] => true
  | t :: l => okT t && okTs l
end
theorem okT_eq (t : Tm) : okT t = if t.nm = [] then t.xs.isEmpty && (decide (0 ≤ t.ix) && decide (t.ix < 1000)) else (nmB t.nm && t.ix == 0) && okTs t.xs := by cases t; rw [okT]; rfl
theorem okTs_mem : ∀ {l : List Tm}, okTs l = true → ∀ a ∈ l, okT a = true
  | [], _, a, h => by cases h
  | t :: l, h, a, ha => by
    rw [okTs, Bool.and_eq_true] at h
    rcases List.mem_cons.1 ha with rfl | ha
    · exact h.1
    · exact okTs_mem h.2 a ha
theorem Lf_of : ∀ (n : Nat) (t : Tm), wT t ≤ n → okT t = true → Lf t
  | 0, t, h, _ => by have := wT_pos t; omega
  | n + 1, t, hn, h => by
    rw [okT_eq] at h
    by_cases hm : t.nm = []
    · rw [if_pos hm, Bool.and_eq_true, List.isEmpty_iff] at h
      exact ⟨t, fun _ => h.1, fun h' => absurd hm h', fun a ha => by rw [h.1] at ha; cases ha⟩
    · rw [if_neg hm, Bool.and_eq_true, Bool.and_eq_true, beq_iff_eq] at h
      exact ⟨t, fun h' => absurd h' hm, fun _ => h.1.2, fun a ha => Lf_of n a (by have := wT_mem ha; omega) (okTs_mem h.2 a ha)⟩
theorem okT_Lf {t : Tm} (h : okT t = true) : Lf t := Lf_of _ t (Nat.le_refl _) h
end Go.Proofs.YtpfohmboflcneaaGreatDoor
end

section
namespace Go.Proofs.YtpfohmboflcneaaGreatDoor
open Go
set_option maxHeartbeats 1000000
def okL (l : Lt) : Bool := if l.pd = [61] then decide (l.xs.length = 2) && okTs l.xs else nmB l.pd && okTs l.xs
theorem nmN_head {l : List UInt8} (h : nmN true l ≠ 0) : ∃ c r, l.take (nmN true l) = c :: r ∧ inN c true = true := by
  match l, h with
  | [], h => exact absurd rfl h
  | c :: l, h =>
    rw [nmN] at h ⊢
    split at h
    · rename_i hc
      rw [if_pos hc, Nat.add_comm, List.take_succ_cons]
      exact ⟨c, _, rfl, hc⟩
    · exact absurd rfl h
theorem nm_noE {c : UInt8} {r : List UInt8} (h : inN c true = true) : c :: r ≠ [61] := by
  intro e
  rw [List.cons.injEq] at e
  rw [e.1] at h
  revert h; decide
theorem pT_name {s : List UInt8} {f i j : Nat} {t : Tm} (h : pT s f i = some (t, j)) (hn : t.nm ≠ []) : t.ix = 0 ∧ t.nm ≠ [61] := by
  match f, h with
  | 0, h => rw [pT] at h; cases h
  | f + 1, h =>
    rw [pT_succ] at h
    split at h
    · exact absurd (pV_tx h).1 hn
    · split at h
      · cases h
      · rename_i h0
        obtain ⟨c, r, e, hc⟩ := nmN_head h0
        split at h
        · cases h
        · simp only [Option.some.injEq, Prod.mk.injEq] at h
          obtain ⟨rfl, rfl⟩ := h
          exact ⟨rfl, by show List.take _ _ ≠ _; rw [e]; exact nm_noE hc⟩
theorem txT_fn {t : Tm} (h : t.nm ≠ []) : txT false t = t.nm ++ txA false t.xs := by rw [txT_eq, if_neg h]
theorem pL_tx {s : List UInt8} {i j : Nat} {l : Lt} (h : pL s i = some (l, j)) : s.drop i = txL false l ++ s.drop j ∧ i < j ∧ j ≤ s.length := by
  rw [pL] at h
  split at h
  · rename_i h1
    split at h
    · cases h
    · rename_i h0
      obtain ⟨c, r, e, hc⟩ := nmN_head h0
      have hnl := nmN_le true (s.drop (i + 1))
      rw [List.length_drop] at hnl
      split at h
      · cases h
      · rename_i x k e2
        simp only [Option.some.injEq, Prod.mk.injEq] at h
        obtain ⟨rfl, rfl⟩ := h
        obtain ⟨g1, g2, g3⟩ := pA_tx e2 (by omega)
        refine ⟨?_, by omega, g3⟩
        rw [txL]
        simp only
        rw [if_neg (by rw [e]; exact nm_noE hc), atB_drop h1]
        simp only [if_true, List.length_singleton, List.append_assoc]
        rw [← g1, ← List.drop_drop (i := nmN true (s.drop (i + 1))), List.take_append_drop]
  · split at h
    · cases h
    · rename_i t k e1
      obtain ⟨g1, g2, g3⟩ := pT_tx e1
      split at h
      · rename_i h2
        split at h
        · cases h
        · rename_i u m e2
          simp only [Option.some.injEq, Prod.mk.injEq] at h
          obtain ⟨rfl, rfl⟩ := h
          obtain ⟨g4, g5, g6⟩ := pT_tx e2
          refine ⟨?_, by omega, g6⟩
          have := atB_drop h2
          rw [show k + [(32 : UInt8), 61, 32].length = k + 3 from rfl, g4] at this
          rw [txL, if_pos rfl, g1, this]
          simp [eqW]
      · split at h
        · rename_i h2
          split at h
          · cases h
          · rename_i u m e2
            simp only [Option.some.injEq, Prod.mk.injEq] at h
            obtain ⟨rfl, rfl⟩ := h
            obtain ⟨g4, g5, g6⟩ := pT_tx e2
            refine ⟨?_, by omega, g6⟩
            have := atB_drop h2
            rw [show k + [(32 : UInt8), 33, 61, 32].length = k + 4 from rfl, g4] at this
            rw [txL, if_pos rfl, g1, this]
            simp [eqW]
        · split at h
          · cases h
          · rename_i hn
            simp only [Option.some.injEq, Prod.mk.injEq] at h
            obtain ⟨rfl, rfl⟩ := h
            refine ⟨?_, g2, g3⟩
            rw [txL, if_neg (pT_name e1 hn).2, g1, txT_fn hn]; rfl
end Go.Proofs.YtpfohmboflcneaaGreatDoor
end

section
namespace Go.Proofs.YtpfohmboflcneaaGreatDoor
open Go
set_option maxHeartbeats 1000000
mutual
def dpT : Tm → Nat
  | .mk _ _ xs => 1 + dpTs xs
def dpTs : List Tm → Nat
  | [] => 0
  | t :: l => max (dpT t) (dpTs l)
end
theorem dpT_eq (t : Tm) : dpT t = 1 + dpTs t.xs := by cases t; rw [dpT]; rfl
def ndL (l : Lt) : Nat := 1 + wTs l.xs
def ndC (c : List Lt) : Nat := (c.map ndL).sum
def dpC : List Lt → Nat
  | [] => 0
  | l :: c => max (dpTs l.xs) (dpC c)
def fm1 (eF eR : Int) (t : Tm) : Int :=
  if t.nm = [] then (if t.xs ≠ [] then eF else if t.ix < 0 ∨ 1000 ≤ t.ix then eR else 0)
  else if nmB t.nm = false ∨ t.ix ≠ 0 then eF else 0
mutual
def fmT (eF eR : Int) : Tm → Int
  | .mk n i xs => if fm1 eF eR (.mk n i xs) ≠ 0 then fm1 eF eR (.mk n i xs) else fmTs eF eR xs
def fmTs (eF eR : Int) : List Tm → Int
  | [] => 0
  | t :: l => if fmT eF eR t ≠ 0 then fmT eF eR t else fmTs eF eR l
end
mutual
/-- a term and all terms in it, each ahead of its arguments -/
def sbT : Tm → List Tm
  | .mk n i xs => .mk n i xs :: sbTs xs
def sbTs : List Tm → List Tm
  | [] => []
  | t :: l => sbT t ++ sbTs l
end
theorem sbT_eq (t : Tm) : sbT t = t :: sbTs t.xs := by cases t; rw [sbT]; rfl
def fstN (f : Tm → Int) : List Tm → Int
  | [] => 0
  | t :: l => if f t ≠ 0 then f t else fstN f l
theorem fstN_append (f : Tm → Int) : ∀ l m, fstN f (l ++ m) = if fstN f l ≠ 0 then fstN f l else fstN f m
  | [], m => by rw [List.nil_append, fstN, if_neg (by decide)]
  | t :: l, m => by
    rw [List.cons_append, fstN, fstN, fstN_append f l m]
    by_cases h : f t ≠ 0
    · rw [if_pos h, if_pos h, if_pos h]
    · rw [if_neg h, if_neg h]
mutual
theorem fmT_sb (eF eR : Int) : ∀ t, fmT eF eR t = fstN (fm1 eF eR) (sbT t)
  | .mk n i xs => by rw [fmT, sbT, fstN, fmTs_sb eF eR xs]
theorem fmTs_sb (eF eR : Int) : ∀ l, fmTs eF eR l = fstN (fm1 eF eR) (sbTs l)
  | [] => by rw [fmTs, sbTs]; rfl
  | t :: l => by rw [fmTs, sbTs, fstN_append, fmT_sb eF eR t, fmTs_sb eF eR l]
end
def fmL (eF eR : Int) (l : Lt) : Int := if (l.pd ≠ [61] ∧ nmB l.pd = false) ∨ (l.pd = [61] ∧ l.xs.length ≠ 2) then eF else fmTs eF eR l.xs
def fmC (eF eR : Int) : List Lt → Int
  | [] => 0
  | l :: c => if fmL eF eR l ≠ 0 then fmL eF eR l else fmC eF eR c
def ckC (eS eD eF eR : Int) (c : List Lt) : Int :=
  if 40 < c.length then eS else if 4000 < ndC c then eS else if 100 < dpC c then eD else fmC eF eR c
theorem fm1_ok {eF eR : Int} (hF : eF ≠ 0) (hR : eR ≠ 0) (t : Tm) : fm1 eF eR t = 0 ↔ if t.nm = [] then t.xs = [] ∧ 0 ≤ t.ix ∧ t.ix < 1000 else nmB t.nm = true ∧ t.ix = 0 := by
  rw [fm1]
  by_cases hn : t.nm = []
  · rw [if_pos hn, if_pos hn]
    by_cases hx : t.xs = []
    · rw [if_neg (by simpa using hx)]
      by_cases hi : t.ix < 0 ∨ 1000 ≤ t.ix
      · rw [if_pos hi]; exact ⟨fun h => absurd h hR, fun h => by omega⟩
      · rw [if_neg hi]; exact ⟨fun _ => ⟨hx, by omega⟩, fun _ => rfl⟩
    · rw [if_pos hx]; exact ⟨fun h => absurd h hF, fun h => absurd h.1 hx⟩
  · rw [if_neg hn, if_neg hn]
    by_cases hb : nmB t.nm = false ∨ t.ix ≠ 0
    · rw [if_pos hb]
      refine ⟨fun h => absurd h hF, fun h => ?_⟩
      rcases hb with hb | hb
      · rw [h.1] at hb; cases hb
      · exact absurd h.2 hb
    · rw [if_neg hb]
      refine ⟨fun _ => ⟨?_, ?_⟩, fun _ => rfl⟩
      · rw [← Bool.not_eq_false]; exact fun h => hb (.inl h)
      · exact Decidable.byContradiction fun h => hb (.inr h)
mutual
theorem fmT_ok {eF eR : Int} (hF : eF ≠ 0) (hR : eR ≠ 0) : ∀ t, fmT eF eR t = 0 ↔ okT t = true
  | .mk n i xs => by
    have h1 : fm1 eF eR (.mk n i xs) = 0 ↔ if n = [] then xs = [] ∧ 0 ≤ i ∧ i < 1000 else nmB n = true ∧ i = 0 := fm1_ok hF hR (.mk n i xs)
    have h2 := fmTs_ok hF hR xs
    rw [fmT, okT]
    by_cases hn : n = []
    · rw [if_pos hn] at h1 ⊢
      rw [Bool.and_eq_true, Bool.and_eq_true, List.isEmpty_iff, decide_eq_true_iff, decide_eq_true_iff]
      by_cases h0 : fm1 eF eR (.mk n i xs) = 0
      · rw [if_neg (by simpa using h0)]
        have h3 := h1.1 h0
        rw [h3.1, fmTs]; exact ⟨fun _ => ⟨rfl, h3.2⟩, fun _ => rfl⟩
      · rw [if_pos h0]
        exact ⟨fun h => absurd h h0, fun h => absurd (h1.2 h) h0⟩
    · rw [if_neg hn] at h1 ⊢
      rw [Bool.and_eq_true, Bool.and_eq_true, beq_iff_eq, ← h2]
      by_cases h0 : fm1 eF eR (.mk n i xs) = 0
      · rw [if_neg (by simpa using h0)]
        exact ⟨fun h => ⟨h1.1 h0, h⟩, fun h => h.2⟩
      · rw [if_pos h0]
        exact ⟨fun h => absurd h h0, fun h => absurd (h1.2 h.1) h0⟩
theorem fmTs_ok {eF eR : Int} (hF : eF ≠ 0) (hR : eR ≠ 0) : ∀ l, fmTs eF eR l = 0 ↔ okTs l = true
  | [] => by rw [fmTs, okTs]; simp
  | t :: l => by
    have h1 := fmT_ok hF hR t
    have h2 := fmTs_ok hF hR l
    rw [fmTs, okTs, Bool.and_eq_true, ← h1, ← h2]
    by_cases h0 : fmT eF eR t = 0
    · rw [if_neg (by simpa using h0)]
      exact ⟨fun h => ⟨h0, h⟩, fun h => h.2⟩
    · rw [if_pos h0]
      exact ⟨fun h => absurd h h0, fun h => absurd h.1 h0⟩
end
theorem fmL_ok {eF eR : Int} (hF : eF ≠ 0) (hR : eR ≠ 0) (l : Lt) : fmL eF eR l = 0 ↔ okL l = true := by
  have h2 := fmTs_ok hF hR l.xs
  rw [fmL, okL]
  by_cases hp : l.pd = [61]
  · rw [if_pos hp, Bool.and_eq_true, decide_eq_true_iff, ← h2]
    by_cases hl : l.xs.length = 2
    · rw [if_neg (by rintro (h | h); exact h.1 hp; exact h.2 hl)]
      exact ⟨fun h => ⟨hl, h⟩, fun h => h.2⟩
    · rw [if_pos (.inr ⟨hp, hl⟩)]
      exact ⟨fun h => absurd h hF, fun h => absurd h.1 hl⟩
  · rw [if_neg hp, Bool.and_eq_true, ← h2]
    by_cases hb : nmB l.pd = false
    · rw [if_pos (.inl ⟨hp, hb⟩)]
      exact ⟨fun h => absurd h hF, fun h => by rw [hb] at h; cases h.1⟩
    · rw [if_neg (by rintro (h | h); exact hb h.2; exact hp h.1)]
      exact ⟨fun h => ⟨by simpa using hb, h⟩, fun h => h.2⟩
theorem fmC_ok {eF eR : Int} (hF : eF ≠ 0) (hR : eR ≠ 0) : ∀ c, fmC eF eR c = 0 ↔ c.all okL = true
  | [] => by rw [fmC]; simp
  | l :: c => by
    have h1 := fmL_ok hF hR l
    have h2 := fmC_ok hF hR c
    rw [fmC, List.all_cons, Bool.and_eq_true, ← h1, ← h2]
    by_cases h0 : fmL eF eR l = 0
    · rw [if_neg (by simpa using h0)]
      exact ⟨fun h => ⟨h0, h⟩, fun h => h.2⟩
    · rw [if_pos h0]
      exact ⟨fun h => absurd h h0, fun h => absurd h.1 h0⟩
theorem ckC_ok {eS eD eF eR : Int} (hS : eS ≠ 0) (hD : eD ≠ 0) (hF : eF ≠ 0) (hR : eR ≠ 0) (c : List Lt) :
    ckC eS eD eF eR c = 0 ↔ c.length ≤ 40 ∧ ndC c ≤ 4000 ∧ dpC c ≤ 100 ∧ c.all okL = true := by
  rw [ckC, ← fmC_ok hF hR]
  by_cases h1 : 40 < c.length
  · rw [if_pos h1]; exact ⟨fun h => absurd h hS, fun h => by omega⟩
  · rw [if_neg h1]
    by_cases h2 : 4000 < ndC c
    · rw [if_pos h2]; exact ⟨fun h => absurd h hS, fun h => by omega⟩
    · rw [if_neg h2]
      by_cases h3 : 100 < dpC c
      · rw [if_pos h3]; exact ⟨fun h => absurd h hD, fun h => by omega⟩
      · rw [if_neg h3]; exact ⟨fun h => ⟨by omega, by omega, by omega, h⟩, fun h => h.2.2.2⟩
end Go.Proofs.YtpfohmboflcneaaGreatDoor
end

section
namespace Go.Proofs.YtpfohmboflcneaaGreatDoor
open Go
set_option maxHeartbeats 1000000
def sameL (a b : Lt) : Bool := (a.ng == b.ng && a.pd == b.pd) && eqTs a.xs b.xs
theorem sameL_iff (a b : Lt) : sameL a b = true ↔ a = b := by
  rw [sameL, Bool.and_eq_true, Bool.and_eq_true, beq_iff_eq, beq_iff_eq, eqTs_iff]
  cases a; cases b
  simp only [Lt.mk.injEq, and_assoc]
def ddA (p : List Lt) : List Lt → List Lt
  | [] => []
  | x :: r => if p.any (sameL x) then ddA (p ++ [x]) r else x :: ddA (p ++ [x]) r
def keyL (l : Lt) : List UInt8 := txL true l
def insL (x : Lt) : List Lt → List Lt
  | [] => [x]
  | y :: o => if keyL x < keyL y then x :: y :: o else y :: insL x o
def srtA (o : List Lt) : List Lt → List Lt
  | [] => o
  | x :: r => srtA (insL x o) r
def chL (f : Int → Tm) (l : Lt) : Lt := ⟨l.ng, l.pd, chTs f l.xs⟩
def vsC (c : List Lt) : List Int := c.flatMap fun l => vsTs l.xs
def nubA (o : List Int) : List Int → List Int
  | [] => o
  | v :: l => nubA (if v ∈ o then o else o ++ [v]) l
def vrT (i : Int) : Tm := .mk [] i []
def ordC (c : List Lt) : List Lt := srtA [] (ddA [] c)
def rnC (c : List Lt) (v : Int) : Tm := vrT ((nubA [] (vsC c)).idxOf v : Nat)
def nrC (c : List Lt) : List Lt := (ordC c).map (chL (rnC (ordC c)))
theorem nubA_pre : ∀ (l o : List Int), ∃ r, nubA o l = o ++ r
  | [], o => ⟨[], by rw [nubA, List.append_nil]⟩
  | v :: l, o => by
    rw [nubA]
    obtain ⟨r, hr⟩ := nubA_pre l (if v ∈ o then o else o ++ [v])
    rw [hr]
    split
    · exact ⟨r, rfl⟩
    · exact ⟨v :: r, by rw [List.append_assoc]; rfl⟩
theorem nubA_nodup : ∀ (l o : List Int), o.Nodup → (nubA o l).Nodup
  | [], o, h => h
  | w :: l, o, h => by
    rw [nubA]
    refine nubA_nodup l _ ?_
    split
    · exact h
    · rename_i hw
      rw [List.nodup_append]
      exact ⟨h, by simp, fun a ha b hb e => hw (by rw [List.mem_singleton] at hb; rw [← hb, ← e]; exact ha)⟩
mutual
theorem chT_self (f : Int → Tm) : ∀ t : Tm, okT t = true → (∀ v ∈ vsT t, f v = vrT v) → chT f t = t
  | .mk n i xs, h, hv => by
    rw [okT] at h
    rw [vsT] at hv
    rw [chT]
    by_cases hn : n = []
    · rw [if_pos hn, Bool.and_eq_true, List.isEmpty_iff] at h
      rw [if_pos hn, hv i (by rw [if_pos hn]; simp), h.1, hn]; rfl
    · rw [if_neg hn, Bool.and_eq_true, Bool.and_eq_true, beq_iff_eq] at h
      rw [if_neg hn, chTs_self f xs h.2 fun v hm => hv v (List.mem_append_right _ hm), h.1.2]
theorem chTs_self (f : Int → Tm) : ∀ l : List Tm, okTs l = true → (∀ v ∈ vsTs l, f v = vrT v) → chTs f l = l
  | [], _, _ => by rw [chTs]
  | t :: l, h, hv => by
    rw [okTs, Bool.and_eq_true] at h
    rw [vsTs] at hv
    rw [chTs, chT_self f t h.1 fun v hm => hv v (List.mem_append_left _ hm), chTs_self f l h.2 fun v hm => hv v (List.mem_append_right _ hm)]
end
mutual
/-- a change behind a change -/
theorem chT_chT (f g : Int → Tm) : ∀ t : Tm, chT g (chT f t) = chT (fun v => chT g (f v)) t
  | .mk n i xs => by
    rw [chT, chT]
    by_cases hn : n = []
    · rw [if_pos hn, if_pos hn]
    · rw [if_neg hn, if_neg hn, chT, if_neg hn, chTs_chTs f g xs]
theorem chTs_chTs (f g : Int → Tm) : ∀ l : List Tm, chTs g (chTs f l) = chTs (fun v => chT g (f v)) l
  | [] => by rw [chTs, chTs, chTs]
  | t :: l => by rw [chTs, chTs, chTs, chT_chT f g t, chTs_chTs f g l]
end
theorem chT_vr (g : Int → Tm) (v : Int) : chT g (vrT v) = g v := by rw [vrT, chT, if_pos rfl]
theorem vsC_cons (l : Lt) (c : List Lt) : vsC (l :: c) = vsTs l.xs ++ vsC c := by rw [vsC, List.flatMap_cons]; rfl
end Go.Proofs.YtpfohmboflcneaaGreatDoor
end

section
namespace Go.Proofs.YtpfohmboflcneaaGreatDoor
open Go
set_option maxHeartbeats 1000000
theorem any_same {p : List Lt} {x : Lt} : p.any (sameL x) = true ↔ x ∈ p := by
  rw [List.any_eq_true]
  constructor
  · rintro ⟨y, hy, e⟩
    rw [(sameL_iff x y).1 e]; exact hy
  · intro h; exact ⟨x, h, (sameL_iff x x).2 rfl⟩
theorem ddA_sub : ∀ (c p : List Lt), (ddA p c).Sublist c
  | [], p => by rw [ddA]; exact List.Sublist.refl _
  | x :: r, p => by
    rw [ddA]
    split
    · exact (ddA_sub r _).cons x
    · exact (ddA_sub r _).cons_cons x
theorem ddA_mem : ∀ (c p : List Lt), ∀ x ∈ c, x ∈ p ∨ x ∈ ddA p c
  | [], p, x, h => by cases h
  | y :: r, p, x, h => by
    rw [ddA]
    split
    · rename_i hy
      rcases List.mem_cons.1 h with rfl | h
      · exact .inl (any_same.1 hy)
      · rcases ddA_mem r (p ++ [y]) x h with h | h
        · rcases List.mem_append.1 h with h | h
          · exact .inl h
          · rw [List.mem_singleton] at h; exact .inl (h ▸ any_same.1 hy)
        · exact .inr h
    · rcases List.mem_cons.1 h with rfl | h
      · exact .inr (by simp)
      · rcases ddA_mem r (p ++ [y]) x h with h | h
        · rcases List.mem_append.1 h with h | h
          · exact .inl h
          · rw [List.mem_singleton] at h; exact .inr (by simp [h])
        · exact .inr (by simp [h])
def leL (a b : Lt) : Prop := ¬ keyL b < keyL a
theorem leL_trans {a b c : Lt} (h : leL a b) (k : leL b c) : leL a c := by
  intro hc
  rcases lt_total (keyL b) (keyL c) with h1 | h1 | h1
  · exact h (List.lt_trans h1 hc)
  · exact h (h1 ▸ hc)
  · exact k h1
theorem insL_perm (x : Lt) : ∀ o, (insL x o).Perm (x :: o)
  | [] => List.Perm.refl _
  | y :: o => by
    rw [insL]
    split
    · exact List.Perm.refl _
    · exact ((insL_perm x o).cons y).trans (List.Perm.swap x y o)
theorem srtA_perm : ∀ (c o : List Lt), (srtA o c).Perm (o ++ c)
  | [], o => by rw [srtA, List.append_nil]
  | x :: c, o => by
    rw [srtA]
    refine (srtA_perm c _).trans (((insL_perm x o).append_right c).trans ?_)
    exact (List.perm_middle (a := x) (l₁ := o) (l₂ := c)).symm
theorem insL_sorted (x : Lt) : ∀ o, o.Pairwise leL → (insL x o).Pairwise leL
  | [], _ => List.pairwise_singleton _ _
  | y :: o, h => by
    rw [List.pairwise_cons] at h
    rw [insL]
    split
    · rename_i hx
      have hxy : leL x y := fun h' => List.lt_irrefl _ (List.lt_trans hx h')
      rw [List.pairwise_cons, List.pairwise_cons]
      exact ⟨fun z hz => (List.mem_cons.1 hz).elim (fun e => e ▸ hxy) fun hz => leL_trans hxy (h.1 z hz), h⟩
    · rename_i hx
      rw [List.pairwise_cons]
      refine ⟨fun z hz => ?_, insL_sorted x o h.2⟩
      rcases List.mem_cons.1 ((insL_perm x o).mem_iff.1 hz) with rfl | hz
      · exact hx
      · exact h.1 z hz
theorem srtA_sorted : ∀ (c o : List Lt), o.Pairwise leL → (srtA o c).Pairwise leL
  | [], o, h => h
  | x :: c, o, h => srtA_sorted c _ (insL_sorted x o h)
theorem ordC_mem {c : List Lt} {x : Lt} : x ∈ ordC c ↔ x ∈ c := by
  rw [ordC, (srtA_perm _ _).mem_iff, List.nil_append]
  constructor
  · exact fun h => (ddA_sub c []).subset h
  · intro h
    rcases ddA_mem c [] x h with h | h
    · cases h
    · exact h
end Go.Proofs.YtpfohmboflcneaaGreatDoor
end

section
namespace Go.Proofs.YtpfohmboflcneaaGreatDoor
open Go
set_option maxHeartbeats 1000000
abbrev Bd := List (Int × Tm)
def lkB : Bd → Int → Option Tm
  | [], _ => none
  | b :: m, v => if b.1 = v then some b.2 else lkB m v
def Gro (m m' : Bd) : Prop := (∃ r, m' = m ++ r) ∧ ((m.map (·.1)).Nodup → (m'.map (·.1)).Nodup)
theorem Gro.trans {a b c : Bd} (h : Gro a b) (k : Gro b c) : Gro a c := by
  obtain ⟨⟨r, rfl⟩, h2⟩ := h
  obtain ⟨⟨q, rfl⟩, k2⟩ := k
  exact ⟨⟨r ++ q, by rw [List.append_assoc]⟩, fun h => k2 (h2 h)⟩
end Go.Proofs.YtpfohmboflcneaaGreatDoor
end

section
namespace Go.Proofs.YtpfohmboflcneaaGreatDoor
open Go
set_option maxHeartbeats 1000000
section
variable {α : Type} (key : α → List UInt8)
def LeK (a b : α) : Prop := ¬ key b < key a
def ofK (k : List UInt8) (l : List α) : List α := l.filter fun x => key x == k
def Stb (l m : List α) : Prop := m.Pairwise (LeK key) ∧ ∀ k, ofK key k m = ofK key k l
theorem LeK.trans {a b c : α} (h : LeK key a b) (k : LeK key b c) : LeK key a c := by
  intro hc
  rcases lt_total (key b) (key c) with h1 | h1 | h1
  · exact h (List.lt_trans h1 hc)
  · exact h (h1 ▸ hc)
  · exact k h1
theorem ofK_append (k : List UInt8) (l m : List α) : ofK key k (l ++ m) = ofK key k l ++ ofK key k m := List.filter_append ..
theorem Stb.congr {l l' m : List α} (h : Stb key l m) (e : ∀ k, ofK key k l = ofK key k l') : Stb key l' m := ⟨h.1, fun k => (h.2 k).trans (e k)⟩
theorem Stb.append {l m p q : List α} (h : Stb key l m) (k : Stb key (m ++ p) q) : Stb key (l ++ p) q :=
  ⟨k.1, fun x => by rw [k.2, ofK_append, ofK_append, h.2]⟩
end
end Go.Proofs.YtpfohmboflcneaaGreatDoor
end

section
namespace Go.Proofs.YtpfohmboflcneaaGreatDoor
open Go
set_option maxHeartbeats 1000000
def sbB (l : Bd) (v : Int) : Tm := (lkB l v).getD (vrT v)
mutual
/-- sizes, as they are counted: at most one too many -/
def grN (w : Int → Nat) : Tm → Nat
  | .mk n i xs => if n = [] then w i else grNs w 1 xs
def grNs (w : Int → Nat) (a : Nat) : List Tm → Nat
  | [] => a
  | t :: l => grNs w (min (a + grN w t) 4001) l
end
mutual
def grD (w : Int → Nat) : Tm → Nat
  | .mk n i xs => if n = [] then w i else grDs w 1 xs
def grDs (w : Int → Nat) (a : Nat) : List Tm → Nat
  | [] => a
  | t :: l => grDs w (max a (grD w t + 1)) l
end
mutual
theorem grN_eq (f : Int → Tm) (w : Int → Nat) : ∀ t : Tm, (∀ v ∈ vsT t, w v = wT (f v) ∧ w v ≤ 4001) → grN w t = min (wT (chT f t)) 4001
  | .mk n i xs, h => by
    rw [vsT] at h
    rw [grN, chT]
    by_cases hn : n = []
    · rw [if_pos hn] at h ⊢
      rw [if_pos hn]
      have := h i (by simp)
      rw [← this.1]; omega
    · rw [if_neg hn] at h ⊢
      rw [if_neg hn, wT]
      exact grNs_eq f w 1 xs (fun v hv => h v (by simpa using hv)) (by omega)
theorem grNs_eq (f : Int → Tm) (w : Int → Nat) : ∀ (a : Nat) (l : List Tm), (∀ v ∈ vsTs l, w v = wT (f v) ∧ w v ≤ 4001) → a ≤ 4001 → grNs w a l = min (a + wTs (chTs f l)) 4001
  | a, [], _, ha => by rw [grNs, chTs, wTs]; omega
  | a, t :: l, h, ha => by
    rw [vsTs] at h
    rw [grNs, chTs, wTs, grN_eq f w t fun v hv => h v (List.mem_append_left _ hv), grNs_eq f w _ l (fun v hv => h v (List.mem_append_right _ hv)) (by omega)]
    omega
end
mutual
theorem grD_eq (f : Int → Tm) (w : Int → Nat) : ∀ t : Tm, (∀ v ∈ vsT t, w v = dpT (f v)) → grD w t = dpT (chT f t)
  | .mk n i xs, h => by
    rw [vsT] at h
    rw [grD, chT]
    by_cases hn : n = []
    · rw [if_pos hn] at h ⊢
      rw [if_pos hn, h i (by simp)]
    · rw [if_neg hn] at h ⊢
      rw [if_neg hn, dpT, grDs_eq f w 1 xs fun v hv => h v (by simpa using hv)]
      by_cases hl : xs = []
      · subst hl; rw [if_pos rfl, chTs, dpTs]; rfl
      · rw [if_neg hl]; omega
theorem grDs_eq (f : Int → Tm) (w : Int → Nat) : ∀ (a : Nat) (l : List Tm), (∀ v ∈ vsTs l, w v = dpT (f v)) → grDs w a l = max a (if l = [] then 0 else 1 + dpTs (chTs f l))
  | a, [], _ => by rw [grDs, if_pos rfl]; omega
  | a, t :: l, h => by
    rw [vsTs] at h
    rw [grDs, if_neg (by simp), chTs, dpTs, grD_eq f w t fun v hv => h v (List.mem_append_left _ hv), grDs_eq f w _ l fun v hv => h v (List.mem_append_right _ hv)]
    by_cases hl : l = []
    · subst hl; rw [if_pos rfl, chTs, dpTs]; omega
    · rw [if_neg hl]; omega
end
def appC (f : Int → Tm) (c : List Lt) : List Lt := c.map (chL f)
def bigC (c : List Lt) : Bool := decide (4000 < ndC c) || decide (100 < dpC c)
theorem ndC_cons (l : Lt) (c : List Lt) : ndC (l :: c) = 1 + wTs l.xs + ndC c := by rw [ndC, List.map_cons, List.sum_cons]; rfl
theorem wTs_le : ∀ (l : List Tm), l.length ≤ wTs l
  | [] => Nat.zero_le _
  | t :: l => by rw [wTs, List.length_cons]; have := wT_pos t; have := wTs_le l; omega
theorem dpTs_mem : ∀ (l : List Tm) (a : Tm), a ∈ l → dpT a ≤ dpTs l
  | [], _, h => by cases h
  | t :: l, a, h => by
    rw [dpTs]
    rcases List.mem_cons.1 h with rfl | h
    · omega
    · have := dpTs_mem l a h; omega
theorem ndC_mem : ∀ (c : List Lt) (l : Lt), l ∈ c → ndL l ≤ ndC c
  | [], _, h => by cases h
  | m :: c, l, h => by
    rw [ndC_cons]
    rcases List.mem_cons.1 h with rfl | h
    · rw [ndL]; omega
    · have := ndC_mem c l h; omega
theorem ndC_perm {a b : List Lt} (h : a.Perm b) : ndC a = ndC b := (h.map ndL).sum_nat
theorem ndC_sub {a b : List Lt} (h : a.Sublist b) : ndC a ≤ ndC b := by
  induction h with
  | slnil => exact Nat.le_refl _
  | cons a _ ih => rw [ndC_cons]; omega
  | cons_cons a _ ih => rw [ndC_cons, ndC_cons]; omega
end Go.Proofs.YtpfohmboflcneaaGreatDoor
end

section
namespace Go.Proofs.YtpfohmboflcneaaGreatDoor
open Go
set_option maxHeartbeats 1000000
def Uni (s t : Tm) (f : Int → Tm) : Prop := chT f s = chT f t
structure Mgu (s t : Tm) (f : Int → Tm) : Prop where
  u : Uni s t f
  m : ∀ g, Uni s t g → ∀ v, chT g (f v) = g v
  r : ∀ v, (f v).nm = [] → (f v).ix ≤ v
  l : ∀ v, Lf (f v)
theorem Lf.var {t : Tm} (h : Lf t) (hn : t.nm = []) : t = vrT t.ix := by
  obtain ⟨_, hx, _, _⟩ := h
  cases t
  simp only [Tm.nm, Tm.xs, Tm.ix] at hn hx ⊢
  rw [vrT, hn, hx hn]
theorem Lf.args {t : Tm} (h : Lf t) : ∀ a ∈ t.xs, Lf a := by obtain ⟨_, _, _, k⟩ := h; exact k
theorem Lf.zero {t : Tm} (h : Lf t) (hn : t.nm ≠ []) : t.ix = 0 := by obtain ⟨_, _, k, _⟩ := h; exact k hn
theorem Lf_vr (v : Int) : Lf (vrT v) := ⟨_, fun _ => rfl, fun h => absurd rfl h, fun a ha => by cases ha⟩
theorem chT_nm (f : Int → Tm) {t : Tm} (h : t.nm ≠ []) : (chT f t).nm = t.nm ∧ (chT f t).xs = chTs f t.xs ∧ (chT f t).ix = 0 := by
  rw [chT_eq, if_neg h]; exact ⟨rfl, rfl, rfl⟩
/-- a substitution that the bindings hold under -/
def Sol (l : Bd) (g : Int → Tm) : Prop := ∀ b ∈ l, chT g b.2 = g b.1
structure Res (l : Bd) (f : Int → Tm) : Prop where
  s : Sol l f
  m : ∀ g, Sol l g → ∀ v, chT g (f v) = g v
  r : ∀ v, (f v).nm = [] → (f v).ix ≤ v
  lf : ∀ v, Lf (f v)
  b : ∀ v, f v ≠ vrT v ↔ ∃ x, (v, x) ∈ l
theorem Res.nil : Res [] vrT := by
  refine ⟨fun b h => ?_, fun g _ v => chT_vr g v, fun v _ => Int.le_refl _, Lf_vr, fun v => ⟨fun h => absurd rfl h, ?_⟩⟩
  · cases h
  · rintro ⟨x, h⟩; cases h
theorem Res.idem {l : Bd} {f : Int → Tm} (h : Res l f) (v : Int) : chT f (f v) = f v := h.m f h.s v
theorem Res.under {l : Bd} {f g : Int → Tm} (h : Res l f) (hg : Sol l g) (t : Tm) : chT g (chT f t) = chT g t := by
  rw [chT_chT, show (fun v => chT g (f v)) = g from funext (h.m g hg)]
def oneB (v : Int) (t : Tm) (w : Int) : Tm := if w = v then t else vrT w
theorem oneB_self (v : Int) (t : Tm) : oneB v t v = t := if_pos rfl
theorem oneB_ne {v w : Int} (t : Tm) (h : w ≠ v) : oneB v t w = vrT w := if_neg h
mutual
theorem chT_keep (f : Int → Tm) : ∀ t : Tm, Lf t → (∀ v ∈ vsT t, f v = vrT v) → chT f t = t
  | .mk n i xs, h, hv => by
    rw [vsT] at hv
    rw [chT]
    have h0 := h.zero
    have hk := h.args
    by_cases hn : n = []
    · rw [if_pos hn] at hv ⊢
      rw [hv i (by simp)]; exact (h.var hn).symm
    · rw [if_neg hn] at hv ⊢
      rw [chTs_keep f xs hk fun v hm => hv v (by simpa using hm), show i = 0 from h0 hn]
theorem chTs_keep (f : Int → Tm) : ∀ l : List Tm, (∀ a ∈ l, Lf a) → (∀ v ∈ vsTs l, f v = vrT v) → chTs f l = l
  | [], _, _ => by rw [chTs]
  | t :: l, h, hv => by
    rw [vsTs] at hv
    rw [chTs, chT_keep f t (h t (by simp)) fun v hm => hv v (List.mem_append_left _ hm), chTs_keep f l (fun a ha => h a (by simp [ha])) fun v hm => hv v (List.mem_append_right _ hm)]
end
theorem Lf_ch {f : Int → Tm} (hf : ∀ v, Lf (f v)) {t : Tm} (h : Lf t) : Lf (chT f t) := by
  induction h with
  | mk t hx h0 k ih =>
    rw [chT_eq]
    by_cases hn : t.nm = []
    · rw [if_pos hn]; exact hf _
    · rw [if_neg hn]
      refine ⟨_, fun h => absurd h hn, fun _ => rfl, fun a ha => ?_⟩
      rw [show (Tm.mk t.nm 0 (chTs f t.xs)).xs = chTs f t.xs from rfl, chTs_map] at ha
      obtain ⟨b, hb, rfl⟩ := List.mem_map.1 ha
      exact ih b hb
theorem Res.bind {l : Bd} {f : Int → Tm} (h : Res l f) {v : Int} {t : Tm} (hv : f v = vrT v) (ht : Lf t) (ho : v ∉ vsT (chT f t))
    (hr : (chT f t).nm = [] → (chT f t).ix < v) : Res (l ++ [(v, t)]) (fun w => chT (oneB v (chT f t)) (f w)) := by
  have hl : Lf (chT f t) := Lf_ch h.lf ht
  have hk : chT (oneB v (chT f t)) (chT f t) = chT f t := chT_keep _ _ hl fun w hw => oneB_ne _ fun e => ho (e ▸ hw)
  have hfv : chT (oneB v (chT f t)) (f v) = chT f t := by rw [hv, chT_vr, oneB_self]
  have hlo : ∀ w, Lf (oneB v (chT f t) w) := fun w => by
    by_cases e : w = v
    · rw [e, oneB_self]; exact hl
    · rw [oneB_ne _ e]; exact Lf_vr w
  refine ⟨fun b hb => ?_, fun g hg w => ?_, fun w hw => ?_, fun w => Lf_ch hlo (h.lf w), fun w => ?_⟩
  · rcases List.mem_append.1 hb with hb | hb
    · have := h.s b hb
      rw [← chT_chT, this]
    · rw [List.mem_singleton] at hb
      rw [hb]
      show chT _ t = chT _ (f v)
      rw [← chT_chT, hk, hfv]
  · have hg1 : Sol l g := fun b hb => hg b (List.mem_append_left _ hb)
    have hg2 : chT g t = g v := hg (v, t) (by simp)
    have e : (fun u => chT g (oneB v (chT f t) u)) = g := funext fun u => by
      by_cases e : u = v
      · rw [e, oneB_self, h.under hg1, hg2]
      · rw [oneB_ne _ e, chT_vr]
    show chT g (chT _ (f w)) = _
    rw [chT_chT, e, h.m g hg1]
  · have hw' : (chT (oneB v (chT f t)) (f w)).nm = [] := hw
    show (chT (oneB v (chT f t)) (f w)).ix ≤ w
    have hn : (f w).nm = [] := by
      by_cases e : (f w).nm = []
      · exact e
      · rw [(chT_nm _ e).1] at hw'; exact hw'
    have h1 := h.r w hn
    rw [chT_eq, if_pos hn] at hw' ⊢
    by_cases e : (f w).ix = v
    · rw [e, oneB_self] at hw' ⊢
      have := hr hw'
      omega
    · rw [oneB_ne _ e]; exact h1
  · show chT (oneB v (chT f t)) (f w) ≠ vrT w ↔ _
    constructor
    · intro hne
      by_cases e : f w = vrT w
      · rw [e, chT_vr] at hne
        by_cases e2 : w = v
        · exact ⟨t, by simp [e2]⟩
        · exact absurd (oneB_ne _ e2) hne
      · obtain ⟨x, hx⟩ := (h.b w).1 e
        exact ⟨x, List.mem_append_left _ hx⟩
    · rintro ⟨x, hx⟩ e
      rcases List.mem_append.1 hx with hx | hx
      · have hne := (h.b w).2 ⟨x, hx⟩
        -- a bound variable is in no result: what it becomes has only variables that are not bound
        have hn : (f w).nm = [] := by
          by_cases e3 : (f w).nm = []
          · exact e3
          · have := (chT_nm (oneB v (chT f t)) e3).1
            rw [e] at this; exact this.symm
        have hfw := (h.lf w).var hn
        have hfix := h.idem w
        rw [hfw, chT_vr] at e
        by_cases e4 : (f w).ix = v
        · rw [e4, oneB_self] at e
          have h5 := hr (by rw [e]; rfl)
          rw [e] at h5
          have h6 := h.r w hn
          rw [e4] at h6
          have : (vrT w).ix = w := rfl
          omega
        · rw [oneB_ne _ e4] at e
          exact hne (hfw.trans e)
      · rw [List.mem_singleton, Prod.mk.injEq] at hx
        obtain ⟨rfl, rfl⟩ := hx
        rw [hfv] at e
        exact ho (by rw [e, vrT, vsT, if_pos rfl]; simp)
end Go.Proofs.YtpfohmboflcneaaGreatDoor
end

section
namespace Go.Proofs.YtpfohmboflcneaaGreatDoor
open Go
set_option maxHeartbeats 1000000
theorem Sol.nil (g : Int → Tm) : Sol [] g := fun b h => by cases h
theorem Uni.fn {s t : Tm} {g : Int → Tm} (hs : s.nm ≠ []) (ht : t.nm ≠ []) : Uni s t g ↔ s.nm = t.nm ∧ chTs g s.xs = chTs g t.xs := by
  rw [Uni, chT_eq, chT_eq g t, if_neg hs, if_neg ht, Tm.mk.injEq]
  exact ⟨fun h => ⟨h.1, h.2.2⟩, fun h => ⟨h.1, rfl, h.2⟩⟩
end Go.Proofs.YtpfohmboflcneaaGreatDoor
end

section
namespace Go.Proofs.YtpfohmboflcneaaGreatDoor
open Go
set_option maxHeartbeats 1000000
theorem ddA_snoc : ∀ (c p : List Lt) (x : Lt), ddA p (c ++ [x]) = ddA p c ++ (if (p ++ c).any (sameL x) then [] else [x])
  | [], p, x => by
    rw [List.nil_append, List.append_nil, ddA, ddA, ddA, List.nil_append]
  | y :: c, p, x => by
    rw [List.cons_append, ddA, ddA, ddA_snoc c, List.append_assoc]
    split <;> rfl
theorem srtA_snoc : ∀ (c o : List Lt) (x : Lt), srtA o (c ++ [x]) = insL x (srtA o c)
  | [], o, x => rfl
  | y :: c, o, x => by rw [List.cons_append, srtA, srtA, srtA_snoc c]
theorem insL_at : ∀ (o1 o2 : List Lt) (x : Lt), (o1 ++ o2).Pairwise leL → (∀ y ∈ o2, keyL x < keyL y) → (∀ y, o1.getLast? = some y → leL y x) → insL x (o1 ++ o2) = o1 ++ x :: o2
  | [], [], x, _, _, _ => rfl
  | [], y :: o2, x, _, h, _ => by rw [List.nil_append, insL, if_pos (h y (by simp))]; rfl
  | z :: o1, o2, x, hp, h, hl => by
    rw [List.cons_append, List.pairwise_cons] at hp
    have hz : leL z x := by
      cases o1 with
      | nil => exact hl z rfl
      | cons w o1 =>
        have hlast : ∃ y, (w :: o1).getLast? = some y ∧ y ∈ w :: o1 := by
          refine ⟨(w :: o1).getLast (by simp), List.getLast?_eq_some_getLast (by simp), List.getLast_mem (by simp)⟩
        obtain ⟨y, e, hy⟩ := hlast
        have h1 : leL y x := hl y (by rw [List.getLast?_cons_cons]; exact e)
        exact leL_trans (hp.1 y (List.mem_append_left _ hy)) h1
    rw [List.cons_append, insL, if_neg hz, insL_at o1 o2 x hp.2 h fun y hy => ?_]
    · rfl
    · cases o1 with
      | nil => cases hy
      | cons w o1 => exact hl y (by rw [List.getLast?_cons_cons]; exact hy)
end Go.Proofs.YtpfohmboflcneaaGreatDoor
end

section
namespace Go.Proofs.YtpfohmboflcneaaGreatDoor
open Go
set_option maxHeartbeats 1000000
structure Nd where
  nm : List UInt8
  num : Int
  ks : List Nat
inductive Con (rt : Nat → Nat) (D : List (Nat × Nat)) : Nat → Nat → Prop
  | rt {a b : Nat} : rt a = rt b → Con rt D a b
  | pr {a b : Nat} : (a, b) ∈ D → Con rt D a b
  | symm {a b : Nat} : Con rt D a b → Con rt D b a
  | trans {a b c : Nat} : Con rt D a b → Con rt D b c → Con rt D a c
theorem Con.mono {r r' : Nat → Nat} {D D' : List (Nat × Nat)} (h1 : ∀ a b, r a = r b → Con r' D' a b) (h2 : ∀ p ∈ D, Con r' D' p.1 p.2) {a b : Nat} (h : Con r D a b) : Con r' D' a b := by
  induction h with
  | rt h => exact h1 _ _ h
  | pr h => exact h2 _ h
  | symm _ ih => exact ih.symm
  | trans _ _ i1 i2 => exact i1.trans i2
theorem Con.nil {r : Nat → Nat} {a b : Nat} (h : Con r [] a b) : r a = r b := by
  induction h with
  | rt h => exact h
  | pr h => cases h
  | symm _ ih => exact ih.symm
  | trans _ _ i1 i2 => exact i1.trans i2
def ConL (rt : Nat → Nat) (D : List (Nat × Nat)) : List Nat → List Nat → Prop
  | [], [] => True
  | a :: l, b :: m => Con rt D a b ∧ ConL rt D l m
  | _, _ => False
theorem ConL.mono {r r' : Nat → Nat} {D D' : List (Nat × Nat)} (h1 : ∀ a b, r a = r b → Con r' D' a b) (h2 : ∀ p ∈ D, Con r' D' p.1 p.2) : ∀ {l m : List Nat}, ConL r D l m → ConL r' D' l m
  | [], [], _ => trivial
  | a :: l, b :: m, h => ⟨h.1.mono h1 h2, ConL.mono h1 h2 h.2⟩
  | [], _ :: _, h => h.elim
  | _ :: _, [], h => h.elim
theorem ConL.symm {r : Nat → Nat} {D : List (Nat × Nat)} : ∀ {l m : List Nat}, ConL r D l m → ConL r D m l
  | [], [], _ => trivial
  | a :: l, b :: m, h => ⟨h.1.symm, ConL.symm h.2⟩
  | [], _ :: _, h => h.elim
  | _ :: _, [], h => h.elim
theorem ConL.trans {r : Nat → Nat} {D : List (Nat × Nat)} : ∀ {l m k : List Nat}, ConL r D l m → ConL r D m k → ConL r D l k
  | [], [], [], _, _ => trivial
  | a :: l, b :: m, c :: k, h, g => ⟨h.1.trans g.1, ConL.trans h.2 g.2⟩
  | [], [], _ :: _, _, g => g.elim
  | [], _ :: _, _, h, _ => h.elim
  | _ :: _, [], _, h, _ => h.elim
  | _ :: _, _ :: _, [], _, g => g.elim
theorem ConL.refl {r : Nat → Nat} {D : List (Nat × Nat)} : ∀ l : List Nat, ConL r D l l
  | [] => trivial
  | _ :: l => ⟨.rt rfl, ConL.refl l⟩
theorem ConL.zip {r : Nat → Nat} {D : List (Nat × Nat)} : ∀ {l m : List Nat}, l.length = m.length → (∀ p ∈ l.zip m, p ∈ D) → ConL r D l m
  | [], [], _, _ => trivial
  | a :: l, b :: m, h, k => ⟨.pr (k (a, b) (by simp)), ConL.zip (by simpa using h) fun p hp => k p (by simp [hp])⟩
  | [], _ :: _, h, _ => by simp at h
  | _ :: _, [], h, _ => by simp at h
theorem ConL.nil {r : Nat → Nat} : ∀ {l m : List Nat}, ConL r [] l m → l.map r = m.map r
  | [], [], _ => rfl
  | a :: l, b :: m, h => by rw [List.map_cons, List.map_cons, h.1.nil, ConL.nil h.2]
  | [], _ :: _, h => h.elim
  | _ :: _, [], h => h.elim
structure Good (cl : Nat → Nd) (rt : Nat → Nat) (D : List (Nat × Nat)) : Prop where
  i : ∀ a, rt (rt a) = rt a
  v : ∀ a, (cl (rt a)).nm = [] → (cl a).nm = [] ∧ (cl (rt a)).num ≤ (cl a).num
  f : ∀ a b, rt a = rt b → (cl a).nm ≠ [] → (cl b).nm ≠ [] → (cl a).nm = (cl b).nm ∧ ConL rt D (cl a).ks (cl b).ks
def mrg (rt : Nat → Nat) (x y : Nat) (c : Nat) : Nat := if rt c = x then y else rt c
theorem mrg_eq {rt : Nat → Nat} {x y a b : Nat} (h : rt a = rt b) : mrg rt x y a = mrg rt x y b := by rw [mrg, mrg, h]
variable {cl : Nat → Nd} {rt : Nat → Nat} {D : List (Nat × Nat)}
theorem mrg_idem (h : Good cl rt D) {a b : Nat} (hn : rt a ≠ rt b) (c : Nat) : mrg rt (rt b) (rt a) (mrg rt (rt b) (rt a) c) = mrg rt (rt b) (rt a) c := by
  rw [mrg, mrg]
  by_cases hc : rt c = rt b
  · rw [if_pos hc, h.i, if_neg hn]
  · rw [if_neg hc, h.i, if_neg hc]
theorem Good.same {a b : Nat} (h : Good cl rt ((a, b) :: D)) (e : rt a = rt b) : Good cl rt D :=
  ⟨h.i, h.v, fun x y hxy hx hy => ⟨(h.f x y hxy hx hy).1, (h.f x y hxy hx hy).2.mono (fun _ _ => .rt) fun p hp => by
    rcases List.mem_cons.1 hp with rfl | hp
    · exact .rt e
    · exact .pr hp⟩⟩
theorem Good.swap {a b : Nat} (h : Good cl rt ((a, b) :: D)) : Good cl rt ((b, a) :: D) :=
  ⟨h.i, h.v, fun x y hxy hx hy => ⟨(h.f x y hxy hx hy).1, (h.f x y hxy hx hy).2.mono (fun _ _ => .rt) fun p hp => by
    rcases List.mem_cons.1 hp with rfl | hp
    · exact .symm (.pr (by simp))
    · exact .pr (by simp [hp])⟩⟩
theorem Good.var {a b : Nat} (h : Good cl rt ((a, b) :: D)) (hn : rt a ≠ rt b) (hb : (cl (rt b)).nm = []) (ho : (cl (rt a)).nm = [] → (cl (rt a)).num ≤ (cl (rt b)).num) :
    Good cl (mrg rt (rt b) (rt a)) D := by
  refine ⟨mrg_idem h hn, fun c hc => ?_, fun x y hxy hx hy => ?_⟩
  · rw [mrg] at hc ⊢
    by_cases e : rt c = rt b
    · rw [if_pos e] at hc ⊢
      have h1 := h.v c (by rw [e]; exact hb)
      rw [e] at h1
      have := ho hc
      exact ⟨h1.1, by omega⟩
    · rw [if_neg e] at hc ⊢
      exact h.v c hc
  · have nx : rt x ≠ rt b := fun e => hx (h.v x (by rw [e]; exact hb)).1
    have ny : rt y ≠ rt b := fun e => hy (h.v y (by rw [e]; exact hb)).1
    rw [mrg, mrg, if_neg nx, if_neg ny] at hxy
    refine ⟨(h.f x y hxy hx hy).1, (h.f x y hxy hx hy).2.mono (fun _ _ e => .rt (mrg_eq e)) fun p hp => ?_⟩
    rcases List.mem_cons.1 hp with rfl | hp
    · exact .rt (by rw [mrg, mrg, if_neg hn, if_pos rfl])
    · exact .pr hp
theorem Good.fn {a b : Nat} (h : Good cl rt ((a, b) :: D)) (hn : rt a ≠ rt b) (ha : (cl (rt a)).nm ≠ []) (hb : (cl (rt b)).nm ≠ []) (hm : (cl (rt a)).nm = (cl (rt b)).nm) (hl : (cl (rt a)).ks.length = (cl (rt b)).ks.length) :
    Good cl (mrg rt (rt b) (rt a)) ((cl (rt a)).ks.zip (cl (rt b)).ks ++ D) := by
  have hmono : ∀ {l m : List Nat}, ConL rt ((a, b) :: D) l m → ConL (mrg rt (rt b) (rt a)) ((cl (rt a)).ks.zip (cl (rt b)).ks ++ D) l m := fun k =>
    k.mono (fun _ _ e => .rt (mrg_eq e)) fun p hp => by
      rcases List.mem_cons.1 hp with rfl | hp
      · exact .rt (by rw [mrg, mrg, if_neg hn, if_pos rfl])
      · exact .pr (List.mem_append_right _ hp)
  have hz : ConL (mrg rt (rt b) (rt a)) ((cl (rt a)).ks.zip (cl (rt b)).ks ++ D) (cl (rt a)).ks (cl (rt b)).ks := ConL.zip hl fun p hp => List.mem_append_left _ hp
  refine ⟨mrg_idem h hn, fun c hc => ?_, fun x y hxy hx hy => ?_⟩
  · rw [mrg] at hc ⊢
    by_cases e : rt c = rt b
    · rw [if_pos e] at hc; exact absurd hc ha
    · rw [if_neg e] at hc ⊢; exact h.v c hc
  · rw [mrg, mrg] at hxy
    by_cases ex : rt x = rt b <;> by_cases ey : rt y = rt b
    · have := h.f x y (ex.trans ey.symm) hx hy
      exact ⟨this.1, hmono this.2⟩
    · rw [if_pos ex, if_neg ey] at hxy
      have h1 := h.f x (rt b) (by rw [ex, h.i]) hx hb
      have h2 := h.f (rt a) y (by rw [h.i]; exact hxy) ha hy
      exact ⟨h1.1.trans (hm.symm.trans h2.1), ((hmono h1.2).trans hz.symm).trans (hmono h2.2)⟩
    · rw [if_neg ex, if_pos ey] at hxy
      have h1 := h.f x (rt a) (by rw [hxy, h.i]) hx ha
      have h2 := h.f (rt b) y (by rw [h.i, ey]) hb hy
      exact ⟨h1.1.trans (hm.trans h2.1), ((hmono h1.2).trans hz).trans (hmono h2.2)⟩
    · rw [if_neg ex, if_neg ey] at hxy
      have := h.f x y hxy hx hy
      exact ⟨this.1, hmono this.2⟩
/-- d tells the term of each cell -/
def Dn (cl : Nat → Nd) (d : Nat → Tm) : Prop := ∀ c, d c = if (cl c).nm = [] then vrT (cl c).num else .mk (cl c).nm 0 ((cl c).ks.map d)
def Same (d : Nat → Tm) (rt : Nat → Nat) (g : Int → Tm) : Prop := ∀ c, chT g (d c) = chT g (d (rt c))
theorem Same.mrg {d : Nat → Tm} {g : Int → Tm} {a b : Nat} (h : Same d rt g) (e : chT g (d a) = chT g (d b)) : Same d (mrg rt (rt b) (rt a)) g := by
  intro c
  rw [Go.Proofs.YtpfohmboflcneaaGreatDoor.mrg]
  by_cases hc : rt c = rt b
  · rw [if_pos hc, ← h a, e, h b, ← hc, ← h c]
  · rw [if_neg hc]; exact h c
theorem Dn.fn {d : Nat → Tm} (hd : Dn cl d) {c : Nat} (h : (cl c).nm ≠ []) (g : Int → Tm) : chT g (d c) = .mk (cl c).nm 0 ((cl c).ks.map fun x => chT g (d x)) := by
  rw [hd c, if_neg h, chT, if_neg h, chTs_map, List.map_map]; rfl
theorem Same.args {d : Nat → Tm} {g : Int → Tm} {a b : Nat} (hd : Dn cl d) (h : Same d rt g) (e : chT g (d a) = chT g (d b)) (ha : (cl (rt a)).nm ≠ []) (hb : (cl (rt b)).nm ≠ []) :
    (cl (rt a)).nm = (cl (rt b)).nm ∧ (cl (rt a)).ks.length = (cl (rt b)).ks.length ∧ ∀ p ∈ (cl (rt a)).ks.zip (cl (rt b)).ks, chT g (d p.1) = chT g (d p.2) := by
  rw [h a, h b, hd.fn ha g, hd.fn hb g, Tm.mk.injEq] at e
  obtain ⟨e1, _, e2⟩ := e
  have hl := congrArg List.length e2
  rw [List.length_map, List.length_map] at hl
  refine ⟨e1, hl, ?_⟩
  suffices H : ∀ l m : List Nat, (l.map fun x => chT g (d x)) = (m.map fun x => chT g (d x)) → ∀ p ∈ l.zip m, chT g (d p.1) = chT g (d p.2) from H _ _ e2
  intro l
  induction l with
  | nil => intro m _ p hp; simp at hp
  | cons x l ih =>
    intro m hm p hp
    cases m with
    | nil => simp at hp
    | cons y m =>
      rw [List.map_cons, List.map_cons, List.cons.injEq] at hm
      rw [List.zip_cons_cons] at hp
      rcases List.mem_cons.1 hp with rfl | hp
      · exact hm.1
      · exact ih m hm.2 p hp
inductive Tc (cl : Nat → Nd) (rt : Nat → Nat) : Nat → Tm → Prop
  | var {c : Nat} : (cl (rt c)).nm = [] → Tc cl rt c (vrT (cl (rt c)).num)
  | fn {c : Nat} {ts : List Tm} : (cl (rt c)).nm ≠ [] → ts.length = (cl (rt c)).ks.length → (∀ (k : Nat) (x : Nat) (t : Tm), (cl (rt c)).ks[k]? = some x → ts[k]? = some t → Tc cl rt x t) → Tc cl rt c (.mk (cl (rt c)).nm 0 ts)
theorem Tc.lf {c : Nat} {t : Tm} (k : Tc cl rt c t) : Lf t := by
  induction k with
  | var _ => exact Lf_vr _
  | @fn c ts hn hl _ ih =>
    refine ⟨_, fun h => absurd h hn, fun _ => rfl, fun a ha => ?_⟩
    obtain ⟨i, hi, e⟩ := List.getElem_of_mem ha
    have hi' : i < ts.length := hi
    have h1 : ts[i]? = some a := by rw [List.getElem?_eq_getElem hi', ← e]; rfl
    exact ih i _ a (List.getElem?_eq_getElem (by omega)) h1
end Go.Proofs.YtpfohmboflcneaaGreatDoor
end

section
namespace Go.Proofs.YtpfohmboflcneaaGreatDoor
open Go Go.AL Go.RowKit
set_option maxRecDepth 10000
set_option maxHeartbeats 4000000
abbrev Bi (b : Bool) : IV := .v (.bool b)
abbrev ltRow (l : Lt) : List IV := [Bi l.ng, Si l.pd, .sl 3 (tmR l.xs)]
abbrev ltP (l : Lt) : IV := .pt (ltRow l)
abbrev ltV (l : Lt) : AV := .agg [Bv l.ng, Sv l.pd, .im (.sl 3 (tmR l.xs))]
def ltR (c : List Lt) : List (List IV) := c.map ltRow
abbrev clV (c : List Lt) : AV := .im (.sl 3 (ltR c))
theorem ltR_len (l : List Lt) : (ltR l).length = l.length := by rw [ltR, List.length_map]
theorem ltR_get (l : List Lt) (k : Nat) (h : k < l.length) : ∃ t, l[k]? = some t ∧ (ltR l).getD k [] = [Bi t.ng, Si t.pd, .sl 3 (tmR t.xs)] := by
  refine ⟨l[k], List.getElem?_eq_getElem h, ?_⟩
  rw [List.getD_eq_getElem?_getD, ltR, List.getElem?_map, List.getElem?_eq_getElem h]; rfl
theorem ltR_add (l : List Lt) (w : Lt) : ltR (l ++ [w]) = ltR l ++ [ltRow w] := by
  rw [ltR, List.map_append]; rfl
def ltL (l : Lt) : Prop := l.pd.length ≤ 1000000000 ∧ l.xs.length ≤ 1000000000 ∧ tmsL l.xs
def clL (c : List Lt) : Prop := c.length ≤ 1000000000 ∧ ∀ l ∈ c, ltL l
theorem clL_get {c : List Lt} {k : Nat} {l : Lt} (h : clL c) (hk : c[k]? = some l) : ltL l := h.2 l (List.mem_of_getElem? hk)
end Go.Proofs.YtpfohmboflcneaaGreatDoor
end

section
namespace Go.Proofs.YtpfohmboflcneaaGreatDoor
open Go Go.AL Go.RowKit
set_option maxRecDepth 10000
set_option maxHeartbeats 4000000
def all2 {α : Type} (p : α → α → Bool) : List α → List α → Bool
  | [], [] => true
  | a :: l, b :: m => p a b && all2 p l m
  | _, _ => false
theorem all2_len {α : Type} (p : α → α → Bool) : ∀ (l m : List α), l.length ≠ m.length → all2 p l m = false
  | [], [], h => by simp at h
  | [], _ :: _, _ => rfl
  | _ :: _, [], _ => rfl
  | a :: l, b :: m, h => by rw [all2, all2_len p l m (by simpa using h), Bool.and_false]
theorem all2_drop {α : Type} (p : α → α → Bool) (l m : List α) (k : Nat) (t u : α) (ht : l[k]? = some t) (hu : m[k]? = some u) : all2 p (l.drop k) (m.drop k) = (p t u && all2 p (l.drop (k + 1)) (m.drop (k + 1))) := by
  obtain ⟨h1, e1⟩ := List.getElem?_eq_some_iff.1 ht
  obtain ⟨h2, e2⟩ := List.getElem?_eq_some_iff.1 hu
  rw [List.drop_eq_getElem_cons h1, List.drop_eq_getElem_cons h2, e1, e2, all2]
theorem eqTs_all2 : ∀ l m : List Tm, eqTs l m = all2 eqT l m
  | [], [] => by rw [eqTs, all2]
  | [], _ :: _ => by rw [eqTs, all2] <;> simp
  | _ :: _, [] => by rw [eqTs, all2] <;> simp
  | a :: l, b :: m => by rw [eqTs, all2, eqTs_all2 l m]
theorem eqT_eq (t u : Tm) : eqT t u = ((t.nm == u.nm && t.ix == u.ix) && all2 eqT t.xs u.xs) := by cases t; rw [eqT, eqTs_all2]; rfl
theorem sameR_spec (t v : Tm) (hs : tmL t) : PFn Tryz.prog 39 [tmV t, tmV v] (Bv (eqT t v)) := by
  have hs0 := tmL_eq.1 hs
  have he := eqT_eq t v
  refine ACall.walk [0, 1, 2, 3, 4, 5, 26, 31, 45] [] Tryz.func39 rfl Tryz.ntmps39 (by kernel_rfl) (by rfl) rfl fun W own I0 φ0 lay => ?_
  refine gE @tmR_len ?_
  refine AP.cond rfl rfl (fun h => ?_) (fun h => ?_)
  · have : eqT t v = false := by
      rw [he]
      by_cases hl : t.xs.length = v.xs.length
      · have : (t.nm == v.nm && t.ix == v.ix) = false := by
          by_cases hA : t.nm = v.nm
          · by_cases hB : t.ix = v.ix
            · simp [hA, hB, hl] at h
            · simp [hB]
          · simp [hA]
        rw [this, Bool.false_and]
      · rw [all2_len eqT _ _ hl, Bool.and_false]
    refine gO ?_
    exact AE.ret0 rfl ⟨rfl, trivial⟩ rfl ⟨rfl, by rw [this]; rfl⟩
  have hA : t.nm = v.nm := Classical.byContradiction fun hc => by simp [hc] at h
  have hB : t.ix = v.ix := Classical.byContradiction fun hc => by simp [hc] at h
  have hl : t.xs.length = v.xs.length := Classical.byContradiction fun hc => by simp [hA, hB] at h; omega
  have he : eqT t v = all2 eqT t.xs v.xs := by rw [he, hA, hB]; simp
  refine gO ?_
  refine AP.loop rfl (α := Nat) (fun k => [(2, .im (tmP t)), (3, .im (tmP v)), (5, Iv k)]) (fun _ => []) (fun k => k ≤ t.xs.length ∧ eqT t v = all2 eqT (t.xs.drop k) (v.xs.drop k)) (fun k => t.xs.length - k) 0 ⟨by omega, he⟩ (sU) rfl fun k ⟨hk, hm⟩ => ?_
  rcases Nat.eq_or_lt_of_le hk with hke | hlt
  · rw [hke, List.drop_length, hl, List.drop_length, all2] at hm
    refine gE @tmR_len ?_
    refine cF ?_
    refine gO ?_
    exact AE.ret0 rfl ⟨rfl, trivial⟩ rfl ⟨rfl, by rw [hm]; rfl⟩
  · obtain ⟨u, hu, hrow⟩ := tmR_get t.xs k hlt
    obtain ⟨w, hw1, hrow2⟩ := tmR_get v.xs k (by omega)
    rw [all2_drop eqT t.xs v.xs k u w hu hw1] at hm
    have hw := wr (x := (k : Int) + 1) (by omega)
    refine gE @tmR_len ?_
    refine cT ?_
    refine gO ?_
    refine AP.drawE 12 (Tree.node [] [0, 1, 2, 3, 4, 5, 6, 7, 8, 9] [10] [Tree.node [] [11] [] []]) (by kernel_rfl) rfl (by kernel_rfl) (by kernel_rfl) ?_
    refine vd_node ?_
    refine sE (an @hrow (an @hrow2 @tmR_len)) ?_
    refine ⟨by omega, by omega, ?_⟩
    refine AQ.fn (by kernel_rfl) rfl rfl rfl (sameR_spec u w (tmsL_get hs0.2.2 hu)) rfl ?_
    refine sI ?_
    refine AQ.nx rfl ?_
    refine sI ?_
    refine AQ.done ?_
    refine gO ?_
    refine AP.cond rfl rfl (fun h5 => ?_) (fun h5 => ?_)
    · have h5 : eqT u w = false := by simpa using h5
      rw [h5, Bool.false_and] at hm
      refine gO ?_
      exact AE.ret0 rfl ⟨rfl, trivial⟩ rfl ⟨rfl, by rw [hm]; rfl⟩
    · have h5 : eqT u w = true := by simpa using h5
      rw [h5, Bool.true_and] at hm
      refine gE @hw ?_
      exact AE.round (k + 1) ⟨by omega, hm⟩ (by omega) (sU) rfl
termination_by SizeOf.sizeOf t
decreasing_by exact tm_mem hu
theorem sameL_eq (t v : Lt) : sameL t v = ((t.ng == v.ng && t.pd == v.pd) && all2 eqT t.xs v.xs) := by rw [sameL, eqTs_all2]
end Go.Proofs.YtpfohmboflcneaaGreatDoor
end

section
namespace Go.Proofs.YtpfohmboflcneaaGreatDoor
open Go Go.AL Go.RowKit
set_option maxRecDepth 10000
set_option maxHeartbeats 4000000
theorem equalT_walk (f : FuncId) (p : Tm → Tm → Bool) (xs ys : List Tm) (hx : xs.length ≤ 9223372036854775807) (h : ∀ (k : Nat) (t u : Tm), xs[k]? = some t → ys[k]? = some u → PFn Tryz.prog f [tmV t, tmV u] (Bv (p t u))) :
    PFn Tryz.prog 163 [.im (.sl 3 (tmR xs)), .im (.sl 3 (tmR ys)), .fn f [] []] (Bv (all2 p xs ys)) := by
  refine ACall.walk [0, 1, 2, 6, 7, 8, 9, 14, 15, 16, 17, 18, 30] [8, 9] Tryz.func163 rfl Tryz.ntmps163 (by kernel_rfl) (by rfl) rfl fun W own I0 φ0 lay => ?_
  refine gE @tmR_len ?_
  refine AP.cond rfl rfl (fun h1 => ?_) (fun h1 => ?_)
  · refine gO ?_
    exact AE.ret0 rfl ⟨rfl, trivial⟩ rfl ⟨rfl, by rw [all2_len p xs ys (by simp at h1; omega)]; rfl⟩
  · have h1 : xs.length = ys.length := by simp at h1; omega
    refine gE @tmR_len ?_
    refine AP.loop rfl (α := Nat) (fun k => [(1, .im (.sl 3 (tmR ys))), (2, .fn f [] []), (15, .im (.sl 3 (tmR xs))), (16, Iv xs.length), (17, Iv k)]) (fun _ => []) (fun k => k ≤ xs.length ∧ all2 p xs ys = all2 p (xs.drop k) (ys.drop k)) (fun k => xs.length - k) 0 ⟨by omega, rfl⟩ (sU) rfl fun k ⟨hk, hm⟩ => ?_
    rcases Nat.eq_or_lt_of_le hk with hke | hlt
    · refine gO ?_
      refine cF ?_
      refine gO ?_
      exact AE.ret0 rfl ⟨rfl, trivial⟩ rfl ⟨rfl, by rw [hm, hke, List.drop_length, h1, List.drop_length, all2]; rfl⟩
    · obtain ⟨t, ht, hrow⟩ := tmR_get xs k hlt
      obtain ⟨u, hu, hrow2⟩ := tmR_get ys k (by omega)
      have hdr := all2_drop p xs ys k t u ht hu
      have hw := wr (x := (k : Int) + 1) (by omega)
      refine gO ?_
      refine cT ?_
      refine gE @hrow ?_
      refine ⟨by rw [tmR_len]; omega, ?_⟩
      refine gE @hrow2 ?_
      refine ⟨by rw [tmR_len]; omega, ?_⟩
      refine gO ?_
      refine AQ.callF [] (by kernel_rfl) rfl rfl rfl rfl rfl rfl (fun k => by exact trivial) (fun k => rfl) (fun k => rfl) (h k t u ht hu) ?_
      refine gO ?_
      refine AP.cond rfl rfl (fun h2 => ?_) (fun h2 => ?_)
      · refine gO ?_
        refine AE.retD [1, 0] rfl ⟨rfl, trivial⟩ rfl ⟨rfl, ?_⟩
        rw [hm, hdr, show p t u = false by simpa using h2]; rfl
      · refine gE @hw ?_
        refine AE.forgets [1, 0] rfl ?_
        refine sI ?_
        exact AE.round (k + 1) ⟨by omega, by rw [hm, hdr, show p t u = true by simpa using h2, Bool.true_and]⟩ (by omega) (sU) rfl
theorem equal_spec (t u : Tm) (hs : tmL t) : PFn Tryz.prog 97 [tmV t, tmV u] (Bv (eqT t u)) := by
  have hs0 := tmL_eq.1 hs
  have hc := equalT_walk 97 eqT t.xs u.xs (by omega) fun k a b ha hb => equal_spec a b (tmsL_get hs0.2.2 ha)
  refine ACall.walk [0, 1, 2, 3, 4] [] Tryz.func97 rfl Tryz.ntmps97 (by kernel_rfl) (by rfl) rfl fun W own I0 φ0 lay => ?_
  refine gO ?_
  refine AQ.fn_g (by kernel_rfl) rfl rfl (fun h => by first | (simp [gs, AV.g]; done) | (simp [gs, AV.g, constAV]; done) | (simp [gs, AV.g, constAV, bw] at h ⊢; done) | (simp [gs, AV.g, constAV, bw] at h ⊢; exact h) | (simp [gs, AV.g, constAV, bw] at h ⊢; simp [h]; done) | (simp [bw] at h; done) | (simp [gs, AV.g, bw] at h ⊢; simp [h]; done) | (simp [gs, AV.g, bw] at h ⊢; exact h.1) | (simp [gs, AV.g]; rfl) | (simp [gs, AV.g, bw] at h ⊢; rfl) | (simp [gs, AV.g, bw] at h ⊢; simp [h]; rfl) | (simp [gs, AV.g, bw] at h ⊢; simp_all)) rfl (fun _ => hc) rfl ?_
  refine gO ?_
  exact AE.ret0 rfl ⟨rfl, trivial⟩ rfl ⟨rfl, by rw [eqT_eq]; rfl⟩
termination_by SizeOf.sizeOf t
decreasing_by exact tm_mem ha
theorem sameLit_spec (t u : Lt) (hs : ltL t) : PFn Tryz.prog 89 [ltV t, ltV u] (Bv (sameL t u)) := by
  have hx := hs.2.1
  have hc := equalT_walk 97 eqT t.xs u.xs (by omega) fun k a b ha hb => equal_spec a b (tmsL_get hs.2.2 ha)
  refine ACall.walk [0, 1, 2, 3, 4] [] Tryz.func89 rfl Tryz.ntmps89 (by kernel_rfl) (by rfl) rfl fun W own I0 φ0 lay => ?_
  refine gO ?_
  refine AQ.fn_g (by kernel_rfl) rfl rfl (fun h => by first | (simp [gs, AV.g]; done) | (simp [gs, AV.g, constAV]; done) | (simp [gs, AV.g, constAV, bw] at h ⊢; done) | (simp [gs, AV.g, constAV, bw] at h ⊢; exact h) | (simp [gs, AV.g, constAV, bw] at h ⊢; simp [h]; done) | (simp [bw] at h; done) | (simp [gs, AV.g, bw] at h ⊢; simp [h]; done) | (simp [gs, AV.g, bw] at h ⊢; exact h.1) | (simp [gs, AV.g]; rfl) | (simp [gs, AV.g, bw] at h ⊢; rfl) | (simp [gs, AV.g, bw] at h ⊢; simp [h]; rfl) | (simp [gs, AV.g, bw] at h ⊢; simp_all)) rfl (fun _ => hc) rfl ?_
  refine gO ?_
  exact AE.ret0 rfl ⟨rfl, trivial⟩ rfl ⟨rfl, by rw [sameL_eq]; rfl⟩
end Go.Proofs.YtpfohmboflcneaaGreatDoor
end

section
namespace Go.Proofs.YtpfohmboflcneaaGreatDoor
open Go Go.AL Go.RowKit
set_option maxRecDepth 10000
set_option maxHeartbeats 4000000
mutual
def szT : Tm → Int → Int
  | .mk _ _ xs, m => szTs xs m 1
def szTs : List Tm → Int → Int → Int
  | [], _, n => n
  | t :: l, m, n => if m < n then n else szTs l m (n + szT t (m - n))
end
theorem szT_eq (t : Tm) (m : Int) : szT t m = szTs t.xs m 1 := by cases t; rw [szT]; rfl
theorem szTs_over : ∀ (l : List Tm) (m n : Int), m < n → szTs l m n = n
  | [], m, n, _ => by rw [szTs]
  | t :: l, m, n, h => by rw [szTs, if_pos h]
theorem szTs_append : ∀ (l k : List Tm) (m n : Int), szTs (l ++ k) m n = szTs k m (szTs l m n)
  | [], k, m, n => by rw [List.nil_append, szTs]
  | t :: l, k, m, n => by
    rw [List.cons_append, szTs, szTs]
    split
    · rename_i h; rw [szTs_over k m n h]
    · exact szTs_append l k m _
mutual
/-- the number of nodes, where it is not too great; else a number that is too great -/
theorem szT_is : ∀ (t : Tm) (m : Int), 0 ≤ m → ((wT t : Int) ≤ m → szT t m = wT t) ∧ (m < wT t → m < szT t m) ∧ 1 ≤ szT t m ∧ szT t m ≤ m + 1
  | .mk _ _ xs, m, hm => by
    have h := szTs_is xs m 1 hm (by omega) (by omega)
    rw [szT, wT]
    exact ⟨fun hh => by rw [h.1 (by omega)]; omega, fun hh => h.2.1 (by omega), h.2.2.1, h.2.2.2⟩
theorem szTs_is : ∀ (l : List Tm) (m n : Int), 0 ≤ m → 1 ≤ n → n ≤ m + 1 → (n + (wTs l : Int) ≤ m → szTs l m n = n + wTs l) ∧ (m < n + wTs l → m < szTs l m n) ∧ 1 ≤ szTs l m n ∧ szTs l m n ≤ m + 1
  | [], m, n, hm, h1, h2 => by
    rw [szTs, wTs]
    exact ⟨fun _ => by omega, fun h => by omega, h1, h2⟩
  | t :: l, m, n, hm, h1, h2 => by
    rw [szTs, wTs]
    have hp := wT_pos t
    split
    · rename_i h
      exact ⟨fun hh => by omega, fun _ => h, h1, h2⟩
    · rename_i h
      obtain ⟨a1, a2, a3, a4⟩ := szT_is t (m - n) (by omega)
      obtain ⟨b1, b2, b3, b4⟩ := szTs_is l m (n + szT t (m - n)) hm (by omega) (by omega)
      refine ⟨fun hh => ?_, fun hh => ?_, b3, b4⟩
      · rw [b1 (by rw [a1 (by omega)]; omega), a1 (by omega)]; omega
      · by_cases hc : m - n < wT t
        · have := a2 hc
          rw [szTs_over l m _ (by omega)]; omega
        · exact b2 (by rw [a1 (by omega)]; omega)
end
def ndN (c : List Lt) (m : Int) : Int := szTs (c.flatMap (·.xs)) m c.length
theorem wTs_append : ∀ l k : List Tm, wTs (l ++ k) = wTs l + wTs k
  | [], k => by rw [List.nil_append, wTs]; omega
  | t :: l, k => by rw [List.cons_append, wTs, wTs, wTs_append l k]; omega
theorem ndC_flat : ∀ c : List Lt, ndC c = c.length + wTs (c.flatMap (·.xs))
  | [] => by rw [List.flatMap_nil, wTs]; rfl
  | l :: c => by rw [ndC_cons, List.flatMap_cons, wTs_append, List.length_cons, ndC_flat c]; omega
theorem ndN_is (c : List Lt) (m : Int) (hm : 0 ≤ m) : ((ndC c : Int) ≤ m → ndN c m = ndC c) ∧ (m < ndC c → m < ndN c m) := by
  rw [ndN, ndC_flat]
  by_cases h : m < c.length
  · rw [szTs_over _ _ _ h]
    exact ⟨fun hh => by omega, fun _ => h⟩
  · by_cases h0 : c.length = 0
    · rw [List.length_eq_zero_iff.1 h0, List.flatMap_nil, szTs, wTs]
      exact ⟨fun _ => rfl, fun hh => by simpa using hh⟩
    · obtain ⟨a, b, _⟩ := szTs_is (c.flatMap (·.xs)) m c.length hm (by omega) (by omega)
      exact ⟨fun hh => by rw [a (by omega)]; omega, fun hh => b (by omega)⟩
theorem szTs_snoc {l : List Tm} {k : Nat} {u : Tm} (h : l[k]? = some u) (m n : Int) : szTs (l.take (k + 1)) m n = if m < szTs (l.take k) m n then szTs (l.take k) m n else szTs (l.take k) m n + szT u (m - szTs (l.take k) m n) := by
  rw [take_snoc h, szTs_append, szTs]
  split
  · rfl
  · rw [szTs]
theorem szTs_rest {l : List Tm} (k : Nat) (m n : Int) (h : m < szTs (l.take k) m n) : szTs l m n = szTs (l.take k) m n := by
  conv => lhs; rw [← List.take_append_drop k l, szTs_append]
  exact szTs_over _ _ _ h
end Go.Proofs.YtpfohmboflcneaaGreatDoor
end

section
namespace Go.Proofs.YtpfohmboflcneaaGreatDoor
open Go Go.AL Go.RowKit
set_option maxRecDepth 10000
set_option maxHeartbeats 4000000
theorem szTs_bnd : ∀ (l : List Tm) (m n : Int), 0 ≤ m → 0 ≤ n → n ≤ szTs l m n ∧ (szTs l m n ≤ n ∨ szTs l m n ≤ m + 1)
  | [], m, n, _, _ => by rw [szTs]; omega
  | t :: l, m, n, hm, h => by
    rw [szTs]
    split
    · omega
    · have ha := szT_is t (m - n) (by omega)
      have hb := szTs_bnd l m (n + szT t (m - n)) hm (by omega)
      omega
theorem flat_snoc {c : List Lt} {k : Nat} {u : Lt} (h : c[k]? = some u) : (c.take (k + 1)).flatMap (·.xs) = (c.take k).flatMap (·.xs) ++ u.xs := by
  rw [take_snoc h, List.flatMap_append]; simp
theorem flat_rest {c : List Lt} {k j : Nat} {u : Lt} (h : c[k]? = some u) (m n : Int) (hn : m < szTs (u.xs.take j) m (szTs ((c.take k).flatMap (·.xs)) m n)) :
    szTs (c.flatMap (·.xs)) m n = szTs (u.xs.take j) m (szTs ((c.take k).flatMap (·.xs)) m n) := by
  have e : c.flatMap (·.xs) = (c.take k).flatMap (·.xs) ++ (u.xs.take j ++ (u.xs.drop j ++ (c.drop (k + 1)).flatMap (·.xs))) := by
    have h1 : c = c.take k ++ (u :: c.drop (k + 1)) := by
      obtain ⟨h1, h2⟩ := List.getElem?_eq_some_iff.1 h
      rw [← h2, ← List.drop_eq_getElem_cons h1, List.take_append_drop]
    conv => lhs; rw [h1]
    rw [List.flatMap_append, List.flatMap_cons, ← List.append_assoc (u.xs.take j), List.take_append_drop]
  rw [e, szTs_append, szTs_append]
  exact szTs_over _ _ _ hn
end Go.Proofs.YtpfohmboflcneaaGreatDoor
end

section
namespace Go.Proofs.YtpfohmboflcneaaGreatDoor
open Go Go.AL Go.RowKit
set_option maxRecDepth 10000
set_option maxHeartbeats 4000000
def ixF {α : Type} (p : α → Bool) : List α → Nat → Int
  | [], _ => -1
  | a :: l, i => if p a then i else ixF p l (i + 1)
theorem ixF_any {α : Type} (p : α → Bool) : ∀ (l : List α) (i : Nat), decide (0 ≤ ixF p l i) = l.any p
  | [], i => by rw [ixF]; rfl
  | a :: l, i => by
    rw [ixF, List.any_cons]
    by_cases h : p a = true
    · rw [if_pos h, h, Bool.true_or]; exact decide_eq_true (by omega)
    · rw [if_neg h, ixF_any p l (i + 1), show p a = false by simpa using h, Bool.false_or]
theorem ixF_drop {α : Type} (p : α → Bool) {l : List α} {k : Nat} {u : α} (h : l[k]? = some u) : ixF p (l.drop k) k = if p u then (k : Int) else ixF p (l.drop (k + 1)) (k + 1) := by
  obtain ⟨h1, h2⟩ := List.getElem?_eq_some_iff.1 h
  rw [List.drop_eq_getElem_cons h1, h2, ixF]
mutual
def lgT : Tm → Bool
  | .mk n _ xs => decide (100 < n.length) || lgTs xs
def lgTs : List Tm → Bool
  | [] => false
  | t :: l => lgT t || lgTs l
end
theorem lgTs_any : ∀ l, lgTs l = l.any lgT
  | [] => rfl
  | t :: l => by rw [lgTs, lgTs_any l, List.any_cons]
theorem lgT_eq (t : Tm) : lgT t = (decide (100 < t.nm.length) || t.xs.any lgT) := by cases t; rw [lgT, lgTs_any]; rfl
def lgL (l : Lt) : Bool := decide (100 < l.pd.length) || l.xs.any lgT
abbrev lgH : Heap := [(0, .var 116 [.fn 67 [] [.ob 0 0]])]
end Go.Proofs.YtpfohmboflcneaaGreatDoor
end

section
namespace Go.Proofs.YtpfohmboflcneaaGreatDoor
open Go Go.AL Go.RowKit
set_option maxRecDepth 10000
set_option maxHeartbeats 4000000
abbrev Uv (c : UInt8) : AV := .im (.v (.int .u8 c.toNat))
theorem inN_is (c : UInt8) (b : Bool) : inN c b = ((decide ((97 : Int) ≤ c.toNat) && decide ((c.toNat : Int) ≤ 122) || decide ((65 : Int) ≤ c.toNat) && decide ((c.toNat : Int) ≤ 90)) || (!b && ((decide ((48 : Int) ≤ c.toNat) && decide ((c.toNat : Int) ≤ 57) || decide ((c.toNat : Int) = 95)) || decide ((c.toNat : Int) = 39)))) := by
  have h1 : (c == 95) = decide ((c.toNat : Int) = 95) := by
    rw [Bool.eq_iff_iff, beq_iff_eq, decide_eq_true_iff, ← UInt8.toNat_inj]; show c.toNat = 95 ↔ _; omega
  have h2 : (c == 39) = decide ((c.toNat : Int) = 39) := by
    rw [Bool.eq_iff_iff, beq_iff_eq, decide_eq_true_iff, ← UInt8.toNat_inj]; show c.toNat = 39 ↔ _; omega
  have e : ∀ a d : Nat, decide (a ≤ d) = decide ((a : Int) ≤ (d : Int)) := fun a d => by rw [decide_eq_decide]; omega
  rw [inN, h1, h2, e, e, e, e, e, e]; rfl
theorem inName_spec (c : UInt8) (b : Bool) : PFn Tryz.prog 148 [Uv c, Bv b] (Bv (inN c b)) := by
  refine ACall.walk [0, 1, 4, 5] [] Tryz.func148 rfl Tryz.ntmps148 (by kernel_rfl) (by rfl) rfl fun W own I0 φ0 lay => ?_
  refine gO ?_
  exact AE.ret0 rfl ⟨rfl, trivial⟩ rfl ⟨rfl, by rw [inN_is]; rfl⟩
theorem nmAll_drop {t : List UInt8} {k : Nat} (h : k < t.length) (b : Bool) : nmAll b (t.drop k) = (inN (t.getD k 0) b && nmAll false (t.drop (k + 1))) := by
  rw [List.drop_eq_getElem_cons h, nmAll, List.getD_eq_getElem?_getD, List.getElem?_eq_getElem h]; rfl
theorem nmB_eq {t : List UInt8} (h : ¬ (t = [] ∨ 60 < t.length)) : nmB t = nmAll true t := by
  have h1 : t ≠ [] := fun e => h (.inl e)
  have h2 : t.length ≤ 60 := by have := fun e => h (.inr e); omega
  rw [nmB, decide_eq_true h1, decide_eq_true h2]; rfl
theorem nmB_no {t : List UInt8} (h : t = [] ∨ 60 < t.length) : nmB t = false := by
  rw [nmB]
  rcases h with rfl | h
  · rfl
  · rw [show decide (t.length ≤ 60) = false from decide_eq_false (by omega), Bool.and_false]; rfl
theorem isName_spec (t : List UInt8) (ht : t.length ≤ 9223372036854775807) : PFn Tryz.prog 72 [Sv t] (Bv (nmB t)) := by
  refine ACall.walk [0, 2, 3, 10, 12, 13, 14, 22] [] Tryz.func72 rfl Tryz.ntmps72 (by kernel_rfl) (by rfl) rfl fun W own I0 φ0 lay => ?_
  refine gO ?_
  refine AP.cond rfl rfl (fun h => ?_) (fun h => ?_)
  · have h : t = [] ∨ 60 < t.length := by
      simp at h; rcases h with h | h
      · exact .inl h
      · exact .inr (by omega)
    refine gO ?_
    exact AE.ret0 rfl ⟨rfl, trivial⟩ rfl ⟨rfl, by rw [nmB_no h]; rfl⟩
  · have h : ¬ (t = [] ∨ 60 < t.length) := by
      intro h'; simp at h; rcases h' with h' | h'
      · exact h.1 h'
      · omega
    have hm0 := nmB_eq h
    refine gO ?_
    refine AP.loop rfl (α := Nat) (fun k => [(0, Sv t), (12, Iv t.length), (13, Iv k)]) (fun _ => []) (fun k => k ≤ t.length ∧ nmB t = nmAll (decide (k = 0)) (t.drop k)) (fun k => t.length - k) 0 ⟨by omega, hm0⟩ (sU) rfl fun k ⟨hk, hm⟩ => ?_
    rcases Nat.eq_or_lt_of_le hk with hke | hlt
    · refine gO ?_
      refine cF ?_
      refine gO ?_
      exact AE.ret0 rfl ⟨rfl, trivial⟩ rfl ⟨rfl, by rw [hm, hke, List.drop_length, nmAll]; rfl⟩
    · have hw := wr (x := (k : Int) + 1) (by omega)
      have hdr := nmAll_drop hlt (decide (k = 0))
      refine gO ?_
      refine cT ?_
      refine gO ?_
      refine AQ.fn (by kernel_rfl) rfl rfl rfl (inName_spec (t.getD k 0) (decide ((k : Int) = 0))) rfl ?_
      refine sI ?_
      refine gO ?_
      have hd : decide (k = 0) = decide ((k : Int) = 0) := by rw [decide_eq_decide]; omega
      rw [hd] at hdr
      refine AP.cond rfl rfl (fun h1 => ?_) (fun h1 => ?_)
      · refine gO ?_
        exact AE.ret0 rfl ⟨rfl, trivial⟩ rfl ⟨rfl, by rw [hm, hd, hdr, show inN (t.getD k 0) (decide ((k : Int) = 0)) = false by simpa using h1]; rfl⟩
      · refine gE @hw ?_
        refine AE.round (k + 1) ⟨by omega, ?_⟩ (by omega) (sU) rfl
        rw [hm, hd, hdr, show inN (t.getD k 0) (decide ((k : Int) = 0)) = true by simpa using h1]; rfl
end Go.Proofs.YtpfohmboflcneaaGreatDoor
end

section
namespace Go.Proofs.YtpfohmboflcneaaGreatDoor
open Go Go.AL Go.RowKit
set_option maxRecDepth 10000
set_option maxHeartbeats 4000000
theorem formed_spec (t : Tm) (hs : tmL t) : PFn Tryz.prog 74 [tmV t] (Iv (fm1 2 3 t)) := by
  have hs0 := tmL_eq.1 hs
  refine ACall.walk [0, 1, 2, 3, 10, 18, 19] [] Tryz.func74 rfl Tryz.ntmps74 (by kernel_rfl) (by rfl) rfl fun W own I0 φ0 lay => ?_
  refine gO ?_
  refine AP.cond rfl rfl (fun h => ?_) (fun h => ?_)
  · have hn : t.nm = [] := by simpa using h
    refine gE @tmR_len ?_
    refine AP.cond rfl rfl (fun h1 => ?_) (fun h1 => ?_)
    · refine gO ?_
      exact AE.ret0 rfl ⟨rfl, trivial⟩ rfl ⟨rfl, by rw [fm1, if_pos hn, if_pos (show t.xs ≠ [] by intro e; rw [e] at h1; simp at h1)]; rfl⟩
    · have hx : ¬ t.xs ≠ [] := by simpa using h1
      refine gO ?_
      refine AP.cond rfl rfl (fun h2 => ?_) (fun h2 => ?_)
      · refine gO ?_
        exact AE.ret0 rfl ⟨rfl, trivial⟩ rfl ⟨rfl, by rw [fm1, if_pos hn, if_neg hx, if_pos (by simpa using h2)]; rfl⟩
      · refine gO ?_
        exact AE.ret0 rfl ⟨rfl, trivial⟩ rfl ⟨rfl, by rw [fm1, if_pos hn, if_neg hx, if_neg (by simpa using h2)]; rfl⟩
  · have hn : ¬ t.nm = [] := by simpa using h
    refine gO ?_
    refine AQ.fn (by kernel_rfl) rfl rfl rfl (isName_spec t.nm (by omega)) rfl ?_
    refine sI ?_
    refine gO ?_
    refine AP.cond rfl rfl (fun h1 => ?_) (fun h1 => ?_)
    · refine gO ?_
      exact AE.ret0 rfl ⟨rfl, trivial⟩ rfl ⟨rfl, by rw [fm1, if_neg hn, if_pos (by simpa using h1)]; rfl⟩
    · refine gO ?_
      exact AE.ret0 rfl ⟨rfl, trivial⟩ rfl ⟨rfl, by rw [fm1, if_neg hn, if_neg (by simpa using h1)]; rfl⟩
end Go.Proofs.YtpfohmboflcneaaGreatDoor
end

section
namespace Go.Proofs.YtpfohmboflcneaaGreatDoor
open Go Go.AL Go.RowKit
set_option maxRecDepth 10000
set_option maxHeartbeats 4000000
mutual
def stT : Tm → Int → Int × Int → Int × Int
  | .mk _ _ xs, k, s => stTs xs (k + 1) (s.1 + 1, max s.2 k)
def stTs : List Tm → Int → Int × Int → Int × Int
  | [], _, s => s
  | t :: l, k, s => if 4000 < s.1 then s else stTs l k (stT t k s)
end
theorem stT_eq (t : Tm) (k : Int) (s : Int × Int) : stT t k s = stTs t.xs (k + 1) (s.1 + 1, max s.2 k) := by cases t; rw [stT]; rfl
theorem stTs_over : ∀ (l : List Tm) (k : Int) (s : Int × Int), 4000 < s.1 → stTs l k s = s
  | [], _, _, _ => by rw [stTs]
  | t :: l, k, s, h => by rw [stTs, if_pos h]
theorem stTs_append : ∀ (l m : List Tm) (k : Int) (s : Int × Int), stTs (l ++ m) k s = stTs m k (stTs l k s)
  | [], m, k, s => by rw [List.nil_append, stTs]
  | t :: l, m, k, s => by
    rw [List.cons_append, stTs, stTs]
    split
    · rename_i h; rw [stTs_over m k s h]
    · exact stTs_append l m k _
mutual
theorem stT_A : ∀ (t : Tm) (k n d : Int), n + wT t ≤ 4000 → stT t k (n, d) = (n + wT t, max d (k - 1 + dpT t))
  | .mk _ _ xs, k, n, d, h => by
    rw [wT] at h
    rw [stT, wT, dpT]
    simp only
    rw [stTs_A xs (k + 1) (n + 1) (max d k) (by omega) (by omega), Prod.mk.injEq]
    omega
theorem stTs_A : ∀ (l : List Tm) (k n d : Int), k - 1 ≤ d → n + wTs l ≤ 4000 → stTs l k (n, d) = (n + wTs l, max d (k - 1 + dpTs l))
  | [], k, n, d, hd, _ => by rw [stTs, wTs, dpTs, Prod.mk.injEq]; omega
  | t :: l, k, n, d, hd, h => by
    rw [wTs] at h
    rw [stTs, if_neg (by simp only; omega), stT_A t k n d (by omega), stTs_A l k _ _ (by omega) (by omega), wTs, dpTs, Prod.mk.injEq]
    omega
end
mutual
theorem stT_B : ∀ (t : Tm) (k n d : Int), n + 1 ≤ (stT t k (n, d)).1 ∧ (stT t k (n, d)).1 ≤ max (n + 1) 4001 ∧ (4000 < n + wT t → 4000 < (stT t k (n, d)).1)
  | .mk _ _ xs, k, n, d => by
    have h := stTs_B xs (k + 1) (n + 1) (max d k)
    rw [stT, wT]
    simp only
    omega
theorem stTs_B : ∀ (l : List Tm) (k n d : Int), n ≤ (stTs l k (n, d)).1 ∧ (stTs l k (n, d)).1 ≤ max n 4001 ∧ (4000 < n + wTs l → 4000 < (stTs l k (n, d)).1)
  | [], k, n, d => by rw [stTs, wTs]; simp only; omega
  | t :: l, k, n, d => by
    rw [stTs]
    by_cases h : 4000 < (n, d).1
    · rw [if_pos h]; simp only at h ⊢; omega
    · rw [if_neg h, wTs]
      simp only at h
      have h1 := stT_B t k n d
      obtain ⟨n1, d1, he⟩ : ∃ n1 d1, stT t k (n, d) = (n1, d1) := ⟨_, _, rfl⟩
      have h2 := stTs_B l k n1 d1
      rw [he]
      have h3 : n + wT t ≤ 4000 → n1 = n + wT t := fun hh => by
        have := stT_A t k n d hh
        rw [he, Prod.mk.injEq] at this; exact this.1
      rw [he] at h1
      simp only at h1
      by_cases hc : n + wT t ≤ 4000
      · have := h3 hc; omega
      · omega
end
theorem stTs_snoc {l : List Tm} {k : Nat} {u : Tm} (h : l[k]? = some u) (m : Int) (s : Int × Int) : stTs (l.take (k + 1)) m s = if 4000 < (stTs (l.take k) m s).1 then stTs (l.take k) m s else stT u m (stTs (l.take k) m s) := by
  rw [take_snoc h, stTs_append, stTs]
  split
  · rfl
  · rw [stTs]
theorem stTs_rest {l : List Tm} (k : Nat) (m : Int) (s : Int × Int) (h : 4000 < (stTs (l.take k) m s).1) : stTs l m s = stTs (l.take k) m s := by
  conv => lhs; rw [← List.take_append_drop k l, stTs_append]
  exact stTs_over _ _ _ h
abbrev szH (s : Int × Int) : Heap := [(0, .var 164 [Iv s.1, Iv s.2])]
theorem sizer_spec (t : Tm) (k n d : Int) (hs : tmL t) (hn : 0 ≤ n ∧ n ≤ 1000000000000) (hk : 0 ≤ k ∧ k ≤ n + 1) :
    ACall Tryz.prog 147 [.ob 0 0, tmV t, Iv k] (szH (n, d)) (fun r H' => r = .tup [] ∧ H' = szH (stT t k (n, d))) := by
  have hs0 := tmL_eq.1 hs
  have hx := hs0.2.1
  have hw0 := wr (x := n + 1) (by omega)
  have hwk := wr (x := k + 1) (by omega)
  refine ACall.walk [0, 1, 2, 4, 7, 25, 26, 27, 28, 35] [7] Tryz.func147 rfl Tryz.ntmps147 (by kernel_rfl) (by rfl) rfl fun W own I0 φ0 lay => ?_
  refine gE (an @hw0 @tmR_len) ?_
  refine AP.loop rfl (α := Nat) (fun j => [(0, .ob 0 0), (2, Iv k), (25, .im (.sl 3 (tmR t.xs))), (26, Iv t.xs.length), (27, Iv j)]) (fun j => szH (stTs (t.xs.take j) (k + 1) (n + 1, max d k))) (fun j => j ≤ t.xs.length) (fun j => t.xs.length - j) 0 (by omega) (sU) (by rw [List.take_zero, stTs, show max d k = if d < k then k else d from by split <;> omega]; rfl) fun j hj => ?_
  have hb := stTs_B (t.xs.take j) (k + 1) (n + 1) (max d k)
  rcases Nat.eq_or_lt_of_le hj with hje | hlt
  · subst hje
    rw [List.take_length]
    refine gO ?_
    refine cF ?_
    refine gO ?_
    exact AE.fall rfl trivial ⟨rfl, by rw [stT_eq]⟩
  · obtain ⟨u, hu, hrow⟩ := tmR_get t.xs j hlt
    have hw := wr (x := (j : Int) + 1) (by omega)
    have hsn := stTs_snoc hu (k + 1) (n + 1, max d k)
    have hre := fun h => stTs_rest (l := t.xs) j (k + 1) (n + 1, max d k) h
    obtain ⟨n1, d1, he⟩ : ∃ n1 d1, stTs (t.xs.take j) (k + 1) (n + 1, max d k) = (n1, d1) := ⟨_, _, rfl⟩
    rw [he] at hb hsn hre ⊢
    simp only at hb hsn hre
    simp only [go_sem, Nat.reduceAdd, Nat.reduceLeDiff, Nat.reduceSub, Int.reduceToNat, reduceCtorEq, szH]
    refine gO ?_
    refine cT ?_
    refine gE @hrow ?_
    refine ⟨by rw [tmR_len]; omega, ?_⟩
    refine gO ?_
    refine AP.cond rfl rfl (fun h1 => ?_) (fun h1 => ?_)
    · have h1 : 4000 < n1 := by simpa using h1
      refine gO ?_
      refine AE.forgets [1] rfl ?_
      refine sI ?_
      exact AE.ret rfl ⟨⟩ ⟨rfl, by rw [stT_eq, hre h1]⟩
    · have h1 : ¬ 4000 < n1 := by simpa using h1
      rw [if_neg h1] at hsn
      refine gE @hwk ?_
      refine AQ.callH [(0, 0)] (by kernel_rfl) rfl rfl rfl rfl rfl rfl (by exact ⟨rfl, trivial⟩) rfl (sizer_spec u (k + 1) n1 d1 (tmsL_get hs0.2.2 hu) (by omega) (by omega)) ?_
      rintro r H' ⟨rfl, rfl⟩
      refine ⟨rfl, ?_⟩
      simp only [go_sem, Nat.reduceAdd, Nat.reduceLeDiff, Nat.reduceSub, Int.reduceToNat, reduceCtorEq, szH, hrest, mergeH, deadOf, killEs]
      refine gE @hw ?_
      refine AE.forgets [1] rfl ?_
      refine sI ?_
      exact AE.round (j + 1) (by omega) (by omega) (sU) (by rw [hsn])
termination_by SizeOf.sizeOf t
decreasing_by exact tm_mem hu
end Go.Proofs.YtpfohmboflcneaaGreatDoor
end

section
namespace Go.Proofs.YtpfohmboflcneaaGreatDoor
open Go Go.AL Go.RowKit
set_option maxRecDepth 10000
set_option maxHeartbeats 4000000
def lmTs : List Tm → Int × Int → Int × Int
  | [], s => s
  | t :: l, s => lmTs l (stT t 1 s)
def lmC : List Lt → Int × Int → Int × Int
  | [], s => s
  | l :: c, s => lmC c (lmTs l.xs (s.1 + 1, s.2))
theorem lmTs_append : ∀ (l m : List Tm) (s : Int × Int), lmTs (l ++ m) s = lmTs m (lmTs l s)
  | [], m, s => rfl
  | t :: l, m, s => by rw [List.cons_append, lmTs, lmTs, lmTs_append l m]
theorem lmC_append : ∀ (c e : List Lt) (s : Int × Int), lmC (c ++ e) s = lmC e (lmC c s)
  | [], e, s => rfl
  | l :: c, e, s => by rw [List.cons_append, lmC, lmC, lmC_append c e]
theorem lmTs_A : ∀ (l : List Tm) (n d : Int), 0 ≤ d → n + wTs l ≤ 4000 → lmTs l (n, d) = (n + wTs l, max d (dpTs l))
  | [], n, d, h, _ => by rw [lmTs, wTs, dpTs, Prod.mk.injEq]; omega
  | t :: l, n, d, hd, h => by
    rw [wTs] at h
    rw [lmTs, stT_A t 1 n d (by omega), lmTs_A l _ _ (by omega) (by omega), wTs, dpTs, Prod.mk.injEq]; omega
theorem lmTs_B : ∀ (l : List Tm) (n d : Int), n ≤ (lmTs l (n, d)).1 ∧ (lmTs l (n, d)).1 ≤ max n 4000 + l.length ∧ (4000 < n + wTs l → 4000 < (lmTs l (n, d)).1)
  | [], n, d => by rw [lmTs, wTs]; simp only [List.length_nil]; omega
  | t :: l, n, d => by
    have h1 := stT_B t 1 n d
    obtain ⟨n1, d1, he⟩ : ∃ n1 d1, stT t 1 (n, d) = (n1, d1) := ⟨_, _, rfl⟩
    have h2 := lmTs_B l n1 d1
    have h3 : n + wT t ≤ 4000 → n1 = n + wT t := fun hh => by
      have := stT_A t 1 n d hh
      rw [he, Prod.mk.injEq] at this; exact this.1
    rw [he] at h1
    simp only at h1
    rw [lmTs, he, wTs, List.length_cons]
    by_cases hc : n + wT t ≤ 4000
    · have := h3 hc; omega
    · omega
theorem lmC_A : ∀ (c : List Lt) (n d : Int), 0 ≤ d → n + ndC c ≤ 4000 → lmC c (n, d) = (n + ndC c, max d (dpC c))
  | [], n, d, h, _ => by rw [lmC, dpC, Prod.mk.injEq]; simp only [ndC, List.map_nil, List.sum_nil]; omega
  | l :: c, n, d, hd, h => by
    rw [ndC_cons] at h
    rw [lmC]
    simp only
    rw [lmTs_A l.xs (n + 1) d hd (by omega), lmC_A c _ _ (by omega) (by omega), ndC_cons, dpC, Prod.mk.injEq]; omega
theorem lmTs_1 : ∀ (l : List Tm) (n d : Int), n + wTs l ≤ 4000 → (lmTs l (n, d)).1 = n + wTs l
  | [], n, d, _ => by rw [lmTs, wTs]; simp
  | t :: l, n, d, h => by
    rw [wTs] at h
    rw [lmTs, stT_A t 1 n d (by omega), lmTs_1 l _ _ (by omega), wTs]; omega
theorem lmC_B : ∀ (c : List Lt) (n d : Int), n ≤ (lmC c (n, d)).1 ∧ (4000 < n + ndC c → 4000 < (lmC c (n, d)).1)
  | [], n, d => by rw [lmC]; simp only [ndC, List.map_nil, List.sum_nil]; omega
  | l :: c, n, d => by
    have h1 := lmTs_B l.xs (n + 1) d
    have h3 := lmTs_1 l.xs (n + 1) d
    obtain ⟨n1, d1, he⟩ : ∃ n1 d1, lmTs l.xs (n + 1, d) = (n1, d1) := ⟨_, _, rfl⟩
    have h2 := lmC_B c n1 d1
    rw [he] at h1 h3
    simp only at h1 h3
    rw [lmC]
    simp only
    rw [he, ndC_cons]
    by_cases hc : n + 1 + wTs l.xs ≤ 4000
    · have := h3 hc; omega
    · omega
theorem lmC_le : ∀ (c : List Lt) (n d : Int), (∀ l ∈ c, l.xs.length ≤ 1000000000) → (lmC c (n, d)).1 ≤ max n 4000 + c.length * 1000000001
  | [], n, d, _ => by rw [lmC]; simp only [List.length_nil]; omega
  | l :: c, n, d, h => by
    have h1 := lmTs_B l.xs (n + 1) d
    obtain ⟨n1, d1, he⟩ : ∃ n1 d1, lmTs l.xs (n + 1, d) = (n1, d1) := ⟨_, _, rfl⟩
    have h2 := lmC_le c n1 d1 fun m hm => h m (by simp [hm])
    have h3 := h l (by simp)
    rw [he] at h1
    simp only at h1
    rw [lmC]
    simp only
    rw [he, List.length_cons]
    omega
def liC (c : List Lt) : Int := if 40 < c.length then 4 else if 4000 < ndC c then 4 else if 100 < dpC c then 9 else 0
theorem liC_eq (c : List Lt) (h : ¬ 40 < c.length) : liC c = if 4000 < (lmC c (0, 0)).1 then 4 else if 100 < (lmC c (0, 0)).2 then 9 else 0 := by
  rw [liC, if_neg h]
  by_cases hc : 4000 < ndC c
  · rw [if_pos hc, if_pos ((lmC_B c 0 0).2 (by omega))]
  · have := lmC_A c 0 0 (by omega) (by omega)
    rw [if_neg hc, this]
    simp only
    by_cases hd : 100 < dpC c
    · rw [if_pos hd, if_neg (show ¬ (4000 : Int) < 0 + (ndC c : Int) by omega), if_pos (show (100 : Int) < max 0 (dpC c : Int) by omega)]
    · rw [if_neg hd, if_neg (show ¬ (4000 : Int) < 0 + (ndC c : Int) by omega), if_neg (show ¬ (100 : Int) < max 0 (dpC c : Int) by omega)]
theorem lmTs_snoc {l : List Tm} {k : Nat} {u : Tm} (h : l[k]? = some u) (s : Int × Int) : lmTs (l.take (k + 1)) s = stT u 1 (lmTs (l.take k) s) := by
  rw [take_snoc h, lmTs_append]; rfl
theorem lmC_snoc {c : List Lt} {k : Nat} {u : Lt} (h : c[k]? = some u) (s : Int × Int) : lmC (c.take (k + 1)) s = lmTs u.xs ((lmC (c.take k) s).1 + 1, (lmC (c.take k) s).2) := by
  rw [take_snoc h, lmC_append]; rfl
theorem limits_spec (c : List Lt) (hs : clL c) : PFn Tryz.prog 71 [clV c] (Iv (liC c)) := by
  refine ACall.walk [0, 2, 3, 5, 7, 10, 13, 14, 15, 16, 27, 28, 29, 30, 42, 47] [5, 7, 12] Tryz.func71 rfl Tryz.ntmps71 (by kernel_rfl) (by rfl) rfl fun W own I0 φ0 lay => ?_
  refine gE @ltR_len ?_
  refine AP.cond rfl rfl (fun h => ?_) (fun h => ?_)
  · have h : 40 < c.length := by simp at h; omega
    refine gO ?_
    exact AE.ret0 rfl ⟨rfl, trivial⟩ rfl ⟨rfl, by rw [liC, if_pos h]; rfl⟩
  have h : ¬ 40 < c.length := by simp at h; omega
  have hli := liC_eq c h
  refine gE @ltR_len ?_
  refine AP.loop rfl (α := Nat) (fun k => [(3, .ob 0 0), (13, clV c), (14, Iv c.length), (15, Iv k)]) (fun k => szH (lmC (c.take k) (0, 0))) (fun k => k ≤ c.length) (fun k => c.length - k) 0 (by omega) (sU) (by rw [List.take_zero, lmC]; rfl) fun k hk => ?_
  rcases Nat.eq_or_lt_of_le hk with hke | hlt
  · subst hke
    rw [List.take_length]
    refine gO ?_
    refine cF ?_
    obtain ⟨n1, d1, he⟩ : ∃ n1 d1, lmC c (0, 0) = (n1, d1) := ⟨_, _, rfl⟩
    rw [he] at hli ⊢
    simp only at hli
    simp only [go_sem, Nat.reduceAdd, Nat.reduceLeDiff, Nat.reduceSub, Int.reduceToNat, reduceCtorEq, szH]
    refine gO ?_
    refine AP.cond rfl rfl (fun h1 => ?_) (fun h1 => ?_)
    · rw [if_pos (by simpa using h1)] at hli
      refine gO ?_
      exact AE.retD [0] rfl ⟨rfl, trivial⟩ rfl ⟨rfl, by rw [hli]; rfl⟩
    · rw [if_neg (by simpa using h1)] at hli
      refine gO ?_
      refine AP.cond rfl rfl (fun h2 => ?_) (fun h2 => ?_)
      · rw [if_pos (by simpa using h2)] at hli
        refine gO ?_
        exact AE.retD [0] rfl ⟨rfl, trivial⟩ rfl ⟨rfl, by rw [hli]; rfl⟩
      · rw [if_neg (by simpa using h2)] at hli
        refine gO ?_
        exact AE.retD [0] rfl ⟨rfl, trivial⟩ rfl ⟨rfl, by rw [hli]; rfl⟩
  · obtain ⟨u, hu, hrow⟩ := ltR_get c k hlt
    have hw := wr (x := (k : Int) + 1) (by omega)
    have hul := clL_get hs hu
    have hul2 := hul.2.1
    have hlb := (lmC_B (c.take k) 0 0).1
    have hub := lmC_le (c.take k) 0 0 fun l hl => (hs.2 l (List.mem_of_mem_take hl)).2.1
    have htl : (c.take k).length ≤ 40 := by rw [List.length_take]; omega
    have hsn := lmC_snoc hu (0, 0)
    obtain ⟨n1, d1, he⟩ : ∃ n1 d1, lmC (c.take k) (0, 0) = (n1, d1) := ⟨_, _, rfl⟩
    rw [he] at hlb hub hsn ⊢
    simp only at hlb hub hsn
    have hw1 := wr (x := n1 + 1) (by omega)
    simp only [go_sem, Nat.reduceAdd, Nat.reduceLeDiff, Nat.reduceSub, Int.reduceToNat, reduceCtorEq, szH]
    refine gO ?_
    refine cT ?_
    refine gE @hrow ?_
    refine ⟨by rw [ltR_len]; omega, ?_⟩
    refine gE (an @hw1 @tmR_len) ?_
    refine AP.loop rfl (α := Nat) (fun j => [(3, .ob 0 0), (13, clV c), (14, Iv c.length), (15, Iv k), (27, .im (.sl 3 (tmR u.xs))), (28, Iv u.xs.length), (29, Iv j)]) (fun j => [(1, .var 119 [Bv u.ng, Sv u.pd, .im (.sl 3 (tmR u.xs))]), (0, .var 164 [Iv (lmTs (u.xs.take j) (n1 + 1, d1)).1, Iv (lmTs (u.xs.take j) (n1 + 1, d1)).2])]) (fun j => j ≤ u.xs.length) (fun j => u.xs.length - j) 0 (by omega) (sU) (by rw [List.take_zero, lmTs]; rfl) fun j hj => ?_
    rcases Nat.eq_or_lt_of_le hj with hje | hjlt
    · subst hje
      rw [List.take_length]
      refine gO ?_
      refine cF ?_
      refine gE @hw ?_
      refine AE.forgets [1] rfl ?_
      refine sI ?_
      exact AE.round (k + 1) (by omega) (by omega) (sU) (by rw [hsn])
    · obtain ⟨v, hv, hrow2⟩ := tmR_get u.xs j hjlt
      have hw2 := wr (x := (j : Int) + 1) (by omega)
      have hsn2 := lmTs_snoc hv (n1 + 1, d1)
      have hb2 := lmTs_B (u.xs.take j) (n1 + 1) d1
      have htl2 : (u.xs.take j).length ≤ 1000000000 := by rw [List.length_take]; omega
      obtain ⟨n2, d2, he2⟩ : ∃ n2 d2, lmTs (u.xs.take j) (n1 + 1, d1) = (n2, d2) := ⟨_, _, rfl⟩
      rw [he2] at hb2 hsn2 ⊢
      simp only at hb2
      refine sI ?_
      refine gO ?_
      refine cT ?_
      refine gE @hrow2 ?_
      refine ⟨by rw [tmR_len]; omega, ?_⟩
      refine gO ?_
      refine AQ.callH [(0, 0)] (by kernel_rfl) rfl rfl rfl rfl rfl rfl (by exact ⟨rfl, trivial⟩) rfl (sizer_spec v 1 n2 d2 (tmsL_get hul.2.2 hv) (by omega) (by omega)) ?_
      rintro r H' ⟨rfl, rfl⟩
      refine ⟨rfl, ?_⟩
      simp only [go_sem, Nat.reduceAdd, Nat.reduceLeDiff, Nat.reduceSub, Int.reduceToNat, reduceCtorEq, szH, hrest, mergeH, deadOf, killEs]
      refine gE @hw2 ?_
      refine AE.forgets [2] rfl ?_
      refine sI ?_
      exact AE.round (j + 1) (by omega) (by omega) (sU) (by rw [hsn2])
end Go.Proofs.YtpfohmboflcneaaGreatDoor
end

section
namespace Go.Proofs.YtpfohmboflcneaaGreatDoor
open Go Go.AL Go.RowKit
set_option maxRecDepth 10000
set_option maxHeartbeats 4000000
theorem fmTs_drop {l : List Tm} {k : Nat} {u : Tm} (h : l[k]? = some u) : fmTs 2 3 (l.drop k) = if fmT 2 3 u ≠ 0 then fmT 2 3 u else fmTs 2 3 (l.drop (k + 1)) := by
  obtain ⟨h1, h2⟩ := List.getElem?_eq_some_iff.1 h
  rw [List.drop_eq_getElem_cons h1, h2, fmTs]
end Go.Proofs.YtpfohmboflcneaaGreatDoor
end

section
namespace Go.Proofs.YtpfohmboflcneaaGreatDoor
open Go Go.AL Go.RowKit
set_option maxRecDepth 10000
set_option maxHeartbeats 4000000
theorem drop_cons {α : Type} {l : List α} {k : Nat} {u : α} (h : l[k]? = some u) : l.drop k = u :: l.drop (k + 1) := by
  obtain ⟨h1, h2⟩ := List.getElem?_eq_some_iff.1 h
  rw [List.drop_eq_getElem_cons h1, h2]
theorem fmC_cons (l : Lt) (c : List Lt) : fmC 2 3 (l :: c) = if (l.pd ≠ [61] ∧ nmB l.pd = false) ∨ (l.pd = [61] ∧ l.xs.length ≠ 2) then 2 else if fmTs 2 3 l.xs ≠ 0 then fmTs 2 3 l.xs else fmC 2 3 c := by
  rw [fmC, fmL]
  by_cases h : (l.pd ≠ [61] ∧ nmB l.pd = false) ∨ (l.pd = [61] ∧ l.xs.length ≠ 2)
  · rw [if_pos h, if_pos h, if_pos (by decide)]
  · rw [if_neg h, if_neg h]
end Go.Proofs.YtpfohmboflcneaaGreatDoor
end

section
namespace Go.Proofs.YtpfohmboflcneaaGreatDoor
open Go Go.AL Go.RowKit
set_option maxRecDepth 10000
set_option maxHeartbeats 4000000
def sgC (t : Tm) : List Lt := [⟨false, [80], [t]⟩]
theorem sgC_L {t : Tm} (h : tmL t) : clL (sgC t) := by
  refine ⟨by simp [sgC], fun l hl => ?_⟩
  rw [sgC, List.mem_singleton] at hl
  subst hl
  exact ⟨by simp, by simp, by rw [tmsL, tmsL]; exact ⟨h, trivial⟩⟩
end Go.Proofs.YtpfohmboflcneaaGreatDoor
end

section
namespace Go.Proofs.YtpfohmboflcneaaGreatDoor
open Go Go.AL Go.RowKit
set_option maxRecDepth 10000
set_option maxHeartbeats 4000000
abbrev bdRow (b : Int × Tm) : List IV := [Ii b.1, Si b.2.nm, Ii b.2.ix, .sl 3 (tmR b.2.xs)]
def bdR (l : Bd) : List (List IV) := l.map bdRow
abbrev bdV (l : Bd) : AV := .im (.sl 4 (bdR l))
theorem bdR_len (l : Bd) : (bdR l).length = l.length := by rw [bdR, List.length_map]
theorem bdR_get (l : Bd) (k : Nat) (h : k < l.length) : ∃ b, l[k]? = some b ∧ (bdR l).getD k [] = [Ii b.1, Si b.2.nm, Ii b.2.ix, .sl 3 (tmR b.2.xs)] := by
  refine ⟨l[k], List.getElem?_eq_getElem h, ?_⟩
  rw [List.getD_eq_getElem?_getD, bdR, List.getElem?_map, List.getElem?_eq_getElem h]; rfl
def bdL (l : Bd) : Prop := l.length ≤ 1000000000 ∧ ∀ b ∈ l, tmL b.2
end Go.Proofs.YtpfohmboflcneaaGreatDoor
end

section
namespace Go.Proofs.YtpfohmboflcneaaGreatDoor
open Go Go.AL Go.RowKit
set_option maxRecDepth 10000
set_option maxHeartbeats 4000000
mutual
def unR (l : Bd) : Tm → Tm
  | .mk n i xs => if n = [] then (lkB l i).getD (.mk n i xs) else .mk n 0 (unRs l xs)
def unRs (l : Bd) : List Tm → List Tm
  | [] => []
  | t :: k => unR l t :: unRs l k
end
theorem unR_eq (l : Bd) (t : Tm) : unR l t = if t.nm = [] then (lkB l t.ix).getD t else .mk t.nm 0 (unRs l t.xs) := by cases t; rw [unR]; rfl
theorem unRs_map (l : Bd) : ∀ k, unRs l k = k.map (unR l)
  | [] => by rw [unRs]; rfl
  | t :: k => by rw [unRs, unRs_map l k]; rfl
theorem unR_ch (l : Bd) {t : Tm} (h : Lf t) : unR l t = chT (sbB l) t := by
  induction h with
  | mk t hx h0 k ih =>
    have ht : Lf t := ⟨t, hx, h0, k⟩
    rw [unR_eq, chT_eq]
    by_cases hn : t.nm = []
    · rw [if_pos hn, if_pos hn, sbB]
      have := ht.var hn
      cases lkB l t.ix with
      | none => exact this
      | some x => rfl
    · rw [if_neg hn, if_neg hn, unRs_map, chTs_map, List.map_congr_left ih]
end Go.Proofs.YtpfohmboflcneaaGreatDoor
end

section
namespace Go.Proofs.YtpfohmboflcneaaGreatDoor
open Go Go.AL Go.RowKit
set_option maxRecDepth 10000
set_option maxHeartbeats 4000000
mutual
def sbN (l : Bd) : Tm → Int
  | .mk n i xs => if n = [] then (match lkB l i with
      | some x => min (szT x 5000) 5000
      | none => 1) else sbNs l xs 1
def sbNs (l : Bd) : List Tm → Int → Int
  | [], a => a
  | t :: k, a => sbNs l k (min (a + sbN l t) 5000)
end
mutual
/-- it is the size of what Under makes -/
theorem sbN_is (l : Bd) : ∀ t : Tm, okT t = true → sbN l t = min (wT (chT (sbB l) t) : Int) 5000
  | .mk n i xs, h => by
    rw [okT] at h
    rw [sbN, chT]
    by_cases hn : n = []
    · rw [if_pos hn, if_pos hn, sbB]
      cases lkB l i with
      | none => simp only [Option.getD_none, vrT, wT, wTs]; omega
      | some x =>
        simp only [Option.getD_some]
        have := szT_is x 5000 (by omega)
        by_cases hc : (wT x : Int) ≤ 5000
        · rw [this.1 hc]
        · have := this.2.1 (by omega); omega
    · rw [if_neg hn, Bool.and_eq_true] at h
      rw [if_neg hn, if_neg hn, wT, sbNs_is l xs 1 h.2 (by omega)]; omega
theorem sbNs_is (l : Bd) : ∀ (k : List Tm) (a : Int), okTs k = true → 0 ≤ a ∧ a ≤ 5000 → sbNs l k a = min (a + wTs (chTs (sbB l) k)) 5000
  | [], a, _, ha => by rw [sbNs, chTs, wTs]; omega
  | t :: k, a, h, ha => by
    rw [okTs, Bool.and_eq_true] at h
    rw [sbNs, chTs, wTs, sbN_is l t h.1, sbNs_is l k _ h.2 (by omega)]; omega
end
end Go.Proofs.YtpfohmboflcneaaGreatDoor
end

section
namespace Go.Proofs.YtpfohmboflcneaaGreatDoor
open Go Go.AL Go.RowKit
set_option maxRecDepth 10000
set_option maxHeartbeats 4000000
def bnE (p : Bd) : Bd → Int
  | [] => 0
  | b :: l => if b.1 < 0 ∨ 999 < b.1 then 3 else if (lkB p b.1).isSome then 6 else if ckC 4 9 2 3 (sgC b.2) ≠ 0 then ckC 4 9 2 3 (sgC b.2) else bnE (p ++ [b]) l
theorem bnE_drop {l : Bd} {k : Nat} {u : Int × Tm} (h : l[k]? = some u) : bnE (l.take k) (l.drop k) = if u.1 < 0 ∨ 999 < u.1 then 3 else if (lkB (l.take k) u.1).isSome then 6 else if ckC 4 9 2 3 (sgC u.2) ≠ 0 then ckC 4 9 2 3 (sgC u.2) else bnE (l.take (k + 1)) (l.drop (k + 1)) := by
  rw [drop_cons h, bnE, take_snoc h]
end Go.Proofs.YtpfohmboflcneaaGreatDoor
end

section
namespace Go.Proofs.YtpfohmboflcneaaGreatDoor
open Go Go.AL Go.RowKit
set_option maxRecDepth 10000
set_option maxHeartbeats 4000000
/-- the nodes so far; it stops where they are too many -/
def agN (l : Bd) : List Tm → Int → Int
  | [], n => n
  | t :: k, n => if 4000 < n + sbN l t then n + sbN l t else agN l k (n + sbN l t)
def unL (l : Bd) (x : Lt) : Lt := ⟨x.ng, x.pd, unRs l x.xs⟩
theorem flat_take {c : List Lt} {k : Nat} {u : Lt} (h : c[k]? = some u) (j : Nat) : ∃ r, c.flatMap (·.xs) = ((c.take k).flatMap (·.xs) ++ u.xs.take j) ++ r := by
  refine ⟨u.xs.drop j ++ (c.drop (k + 1)).flatMap (·.xs), ?_⟩
  have h1 : c = c.take k ++ (u :: c.drop (k + 1)) := by rw [← drop_cons h, List.take_append_drop]
  conv => lhs; rw [h1]
  rw [List.flatMap_append, List.flatMap_cons, List.append_assoc, ← List.append_assoc (u.xs.take j), List.take_append_drop]
end Go.Proofs.YtpfohmboflcneaaGreatDoor
end

section
namespace Go.Proofs.YtpfohmboflcneaaGreatDoor
open Go Go.AL Go.RowKit
set_option maxRecDepth 10000
set_option maxHeartbeats 4000000
def apO (c : List Lt) (l : Bd) : List Lt := c.map (unL l)
def apE (c : List Lt) (l : Bd) : Int := if 4000 < agN l (c.flatMap (·.xs)) c.length then 15 else if ckC 4 9 2 3 (apO c l) = 4 ∨ ckC 4 9 2 3 (apO c l) = 9 then 15 else 0
def apR (c : List Lt) (l : Bd) : List Lt := if apE c l = 0 then apO c l else []
end Go.Proofs.YtpfohmboflcneaaGreatDoor
end

section
namespace Go.Proofs.YtpfohmboflcneaaGreatDoor
open Go Go.AL Go.RowKit
set_option maxRecDepth 10000
set_option maxHeartbeats 4000000
def ayE (c : List Lt) (l : Bd) : Int := if ckC 4 9 2 3 c ≠ 0 then ckC 4 9 2 3 c else if bnE [] l ≠ 0 then bnE [] l else apE c l
def ayR (c : List Lt) (l : Bd) : List Lt := if ckC 4 9 2 3 c ≠ 0 then [] else if bnE [] l ≠ 0 then [] else apR c l
theorem clNil_told (x : AV) (w : World) (φ : Phi) (I : Nat → Prop) (v : Value) (h : AV.den w φ I (.tup [nilV, x]) v) : AV.den w φ I (.tup [clV [], x]) v := by
  rw [AV.den] at h ⊢
  obtain ⟨us, hu, rfl⟩ := h
  refine ⟨us, ?_, rfl⟩
  rw [AV.dens] at hu ⊢
  obtain ⟨a, b, e, h1, h2⟩ := hu
  exact ⟨a, b, e, nil_told 3 w φ I a h1, h2⟩
end Go.Proofs.YtpfohmboflcneaaGreatDoor
end

section
namespace Go.Proofs.YtpfohmboflcneaaGreatDoor
open Go Go.AL Go.RowKit
set_option maxRecDepth 10000
set_option maxHeartbeats 4000000
/-- what yield does: up to the item m it goes on, at m it stops -/
structure Yields (P : Program) (nb l n : Nat) (args : Nat → List AV) (Hs : Nat → Heap) (m : Nat) (Hx : Heap) : Prop where
  go : ∀ k, k < m → k < n → YCallN P nb l (args k) (Hs k) (fun r H' => r = Bv true ∧ H' = Hs (k + 1))
  stop : m < n → YCallN P nb l (args m) (Hs m) (fun r H' => r = Bv false ∧ H' = Hx)
  low : ∀ k k', lowSame nb (Hs k) (Hs k')
  lowx : ∀ k, lowSame nb (Hs k) Hx
def yEnd (Hs : Nat → Heap) (m : Nat) (Hx : Heap) (k : Nat) (r : AV) (H' : Heap) : Prop :=
  (k ≤ m ∧ r = Bv true ∧ H' = Hs k) ∨ (m < k ∧ r = Bv false ∧ H' = Hx)
def rEnd (Hs : Nat → Heap) (m : Nat) (Hx : Heap) (n : Nat) (_ : AV) (H' : Heap) : Prop := (n ≤ m ∧ H' = Hs n) ∨ (m < n ∧ H' = Hx)
def tmAt (xs : List Tm) (k : Nat) : List AV := match xs[k]? with
  | some t => [tmV t]
  | none => []
theorem tmAt_get {xs : List Tm} {k : Nat} {t : Tm} (h : xs[k]? = some t) : tmAt xs k = [tmV t] := by rw [tmAt, h]
theorem yLow {nb l m : Nat} {Hs : Nat → Heap} {Hx : Heap} {args : Nat → List AV} {n : Nat} (hy : Yields Tryz.prog nb l n args Hs m Hx) (k q : Nat) (r : AV) (H' : Heap) (h : yEnd Hs m Hx q r H') : lowSame nb (Hs k) H' := by
  rcases h with ⟨_, _, rfl⟩ | ⟨_, _, rfl⟩
  · exact hy.low k q
  · exact hy.lowx k
abbrev wkO (l b : Nat) : Ob := .var 219 [.fn 195 [] [.im (.pt [.v (.func (.yield l) #[] #[])]), .ob b 0]]
theorem sbTs_append : ∀ l m : List Tm, sbTs (l ++ m) = sbTs l ++ sbTs m
  | [], m => by rw [sbTs]; rfl
  | t :: l, m => by rw [List.cons_append, sbTs, sbTs, sbTs_append l m, List.append_assoc]
theorem sbTs_len_get {l : List Tm} {j : Nat} {u : Tm} (h : l[j]? = some u) : sbTs l = sbTs (l.take j) ++ (sbT u ++ sbTs (l.drop (j + 1))) := by
  conv => lhs; rw [← List.take_append_drop j l, drop_cons h]
  rw [sbTs_append, sbTs]
theorem sbTs_take {l : List Tm} {j : Nat} {u : Tm} (h : l[j]? = some u) : sbTs (l.take (j + 1)) = sbTs (l.take j) ++ sbT u := by
  rw [take_snoc h, sbTs_append, sbTs, sbTs, List.append_nil]
theorem walk_spec {nb l m b M : Nat} {Hs : Nat → Heap} {Hx : Heap} {xs : List Tm} (hy : Yields Tryz.prog nb l xs.length (tmAt xs) Hs m Hx) (hb : ∀ k, lk (Hs k) b = some (wkO l b)) (hbn : b < nb) (hM : nb ≤ M) (hnd : ∀ k, nid (Hs k) = M) (hfr : ∀ k r, frvH M r (Hs k) = Hs k) (t : Tm) (ht : tmL t) (k : Nat) (hk : k ≤ m) (hx : ∀ j, j < (sbT t).length → xs[k + j]? = (sbT t)[j]?) :
    ACallN Tryz.prog nb 195 [tmV t, .im (.pt [.v (.func (.yield l) #[] #[])]), .ob b 0] (Hs k) (yEnd Hs m Hx (k + (sbT t).length)) := by
  have ht0 := tmL_eq.1 ht
  have hit : xs[k]? = some t := by
    have := hx 0 (by rw [sbT_eq]; simp)
    rw [Nat.add_zero] at this
    rw [this, sbT_eq]; rfl
  have hkn : k < xs.length := (List.getElem?_eq_some_iff.1 hit).1
  have hxs : ∀ j, j < (sbTs t.xs).length → xs[k + 1 + j]? = (sbTs t.xs)[j]? := fun j hj => by
    rw [show k + 1 + j = k + (j + 1) by omega, hx (j + 1) (by rw [sbT_eq]; simpa using hj), sbT_eq]; rfl
  have hlen : k + (sbT t).length = k + 1 + (sbTs t.xs).length := by rw [sbT_eq, List.length_cons]; omega
  rw [hlen]
  have hge : Nat.ble nb b = false := by cases hq : Nat.ble nb b with | false => rfl | true => exact absurd (Nat.le_of_ble_eq_true hq) (by omega)
  have hMb : Nat.ble nb M = true := Nat.ble_eq_true_of_le hM
  have hMM : Nat.beq M M = true := by simp
  have hMn : Nat.beq M b = false := by cases hq : Nat.beq M b with | false => rfl | true => exact absurd (Nat.eq_of_beq_eq_true hq) (by omega)
  have hMr : Nat.beq b M = false := by cases hq : Nat.beq b M with | false => rfl | true => exact absurd (Nat.eq_of_beq_eq_true hq) (by omega)
  refine ACallN.walk [0, 1, 2, 3, 4, 6, 10, 12, 13, 14, 15, 21] [6] Tryz.func195 rfl Tryz.ntmps195 (by kernel_rfl) (by rfl) fun W own I0 φ0 lay => ?_
  refine gO ?_
  have hlow0 := fun k q r H' h => yLow hy k q r H' h
  by_cases hm : k < m
  · have hyk := hy.go k hm hkn
    rw [tmAt_get hit] at hyk
    refine AQ.yieldN nb (Nat.ble_eq_true_of_le (Nat.le_refl _)) (by kernel_rfl) rfl ⟨rfl, rfl⟩ rfl rfl hyk (fun r H' h => by rw [h.2]; exact hy.low _ _) fun r H' h => ?_
    obtain ⟨rfl, rfl⟩ := h
    refine sE @hge ?_
    refine AQ.go (by kernel_rfl) ?_
    refine gE (an @hge @tmR_len) ?_
    refine AP.loop rfl (α := Nat) (fun j => [(1, .im (.pt [.v (.func (.yield l) #[] #[])])), (2, .ob b 0), (12, .im (.sl 3 (tmR t.xs))), (13, Iv t.xs.length), (14, Iv j)]) (fun j => Hs (k + 1 + (sbTs (t.xs.take j)).length)) (fun j => j ≤ t.xs.length ∧ k + 1 + (sbTs (t.xs.take j)).length ≤ m) (fun j => t.xs.length - j) 0 ⟨by omega, by rw [List.take_zero, sbTs]; exact hm⟩ (sU) (by rw [List.take_zero, sbTs]; rfl) fun j ⟨hj, hjm⟩ => ?_
    rcases Nat.eq_or_lt_of_le hj with hje | hlt
    · subst hje
      rw [List.take_length] at hjm ⊢
      refine gE @tmR_len ?_
      refine cF ?_
      refine gO ?_
      exact AE.ret rfl ⟨rfl, trivial⟩ (.inl ⟨hjm, rfl, rfl⟩)
    · obtain ⟨u, hu, hrow⟩ := tmR_get t.xs j hlt
      have hul := tmsL_get ht0.2.2 hu
      have hw := wr (x := (j : Int) + 1) (by omega)
      have hsl := sbTs_len_get hu
      have hst := sbTs_take hu
      have ih := walk_spec hy hb hbn hM hnd hfr u hul (k + 1 + (sbTs (t.xs.take j)).length) hjm fun i hi => by
        have hl : (sbTs t.xs).length = (sbTs (t.xs.take j)).length + ((sbT u).length + (sbTs (t.xs.drop (j + 1))).length) := by rw [hsl, List.length_append, List.length_append]
        rw [Nat.add_assoc, hxs _ (by omega), hsl, List.getElem?_append_right (by omega), Nat.add_sub_cancel_left, List.getElem?_append_left hi]
      have hn : k + 1 + (sbTs (t.xs.take (j + 1))).length = k + 1 + (sbTs (t.xs.take j)).length + (sbT u).length := by rw [hst, List.length_append]; omega
      have hle : (sbTs (t.xs.take (j + 1))).length ≤ (sbTs t.xs).length := by
        rw [hst, hsl, List.length_append, List.length_append, List.length_append]; omega
      refine gE @tmR_len ?_
      refine cT ?_
      refine gE (an @hrow (an @hb (an @hnd (an @hMb (an @hMM @hMn))))) ?_
      refine ⟨by rw [tmR_len]; omega, ?_⟩
      refine gE (an @hrow (an @hb (an @hnd (an @hMb (an @hMM @hMn))))) ?_
      refine AQ.fix M (by simp only [lk, hMM, cond_true]; rfl) rfl ?_
      refine sE (an @hMM (an @hMn (an @hMr @hfr))) ?_
      refine AQ.callN nb (Nat.ble_eq_true_of_le (Nat.le_refl _)) (by kernel_rfl) rfl rfl rfl ih (fun r H' h => hlow0 _ _ r H' h) fun r H' h => ?_
      rw [← hn] at h
      rcases h with ⟨h1, rfl, rfl⟩ | ⟨h1, rfl, rfl⟩
      · refine sE @hge ?_
        refine AQ.go (by kernel_rfl) ?_
        refine gE (an @hge @hw) ?_
        exact AE.round (j + 1) ⟨by omega, h1⟩ (by omega) (sU) rfl
      · refine sE @hge ?_
        refine AQ.go (by kernel_rfl) ?_
        refine gE @hge ?_
        exact AE.ret rfl ⟨rfl, trivial⟩ (.inr ⟨by omega, rfl, rfl⟩)
  · have hme : k = m := by omega
    have hyk := hy.stop (by omega)
    rw [← hme, tmAt_get hit] at hyk
    refine AQ.yieldN nb (Nat.ble_eq_true_of_le (Nat.le_refl _)) (by kernel_rfl) rfl ⟨rfl, rfl⟩ rfl rfl hyk (fun r H' h => by rw [h.2]; exact hy.lowx _) fun r H' h => ?_
    obtain ⟨rfl, rfl⟩ := h
    refine sE @hge ?_
    refine AQ.go (by kernel_rfl) ?_
    refine gE @hge ?_
    exact AE.ret rfl ⟨rfl, trivial⟩ (.inr ⟨by omega, rfl, rfl⟩)
termination_by SizeOf.sizeOf t
decreasing_by exact tm_mem hu
theorem sub_spec {nb l m M : Nat} {Hs : Nat → Heap} {Hx : Heap} (t : Tm) (ht : tmL t) (hy : Yields Tryz.prog (M + 1) l (sbT t).length (tmAt (sbT t)) (fun k => (M, wkO l M) :: Hs k) m ((M, wkO l M) :: Hx)) (hM : Nat.ble nb M = true) (hnd : ∀ k, nid (Hs k) = M) (hfr : ∀ k r, frvH (M + 1) r (Hs k) = Hs k) :
    ACallN Tryz.prog nb 194 [Yl l, .im (tmP t)] (Hs 0) (rEnd (fun k => (M, wkO l M) :: Hs k) m ((M, wkO l M) :: Hx) (sbT t).length) := by
  refine ACallN.walk [0, 1, 2, 3] [3] Tryz.func194 rfl Tryz.ntmps194 (by kernel_rfl) (by rfl) fun W own I0 φ0 lay => ?_
  refine gE (an @hnd @hM) ?_
  have h1 : Nat.beq M (M + 1) = false := by cases hq : Nat.beq M (M + 1) with | false => rfl | true => exact absurd (Nat.eq_of_beq_eq_true hq) (by omega)
  have h2 : Nat.beq M M = true := by simp
  have h3 : Nat.ble M M = true := Nat.ble_eq_true_of_le (Nat.le_refl _)
  have hw := walk_spec (k := 0) (xs := sbT t) hy (fun k => by simp only [lk, h2, cond_true]) (Nat.lt_succ_self _) (Nat.le_refl _) (fun k => by simp only [nid, hnd, h3, cond_true]) (fun k r => by simp only [frvH, frvO, frvs, frv, h1, hfr, cond_false]) t ht (Nat.zero_le _) (fun j _ => by rw [Nat.zero_add])
  rw [Nat.zero_add] at hw
  refine AQ.callN (M + 1) (Nat.ble_eq_true_of_le (Nat.le_succ_of_le (Nat.le_of_ble_eq_true hM))) (by kernel_rfl) rfl rfl rfl hw (fun r H' h => yLow hy _ _ r H' h) fun r H' h => ?_
  rcases h with ⟨h4, rfl, rfl⟩ | ⟨h4, rfl, rfl⟩
  · refine sI ?_
    refine AQ.go (by kernel_rfl) ?_
    refine gO ?_
    exact AE.fall rfl trivial (.inl ⟨h4, rfl⟩)
  · refine sI ?_
    refine AQ.go (by kernel_rfl) ?_
    refine gO ?_
    exact AE.fall rfl trivial (.inr ⟨h4, rfl⟩)
theorem subterms_spec (t : Tm) : PFn Tryz.prog 150 [tmV t] (.fn 194 [] [.im (tmP t)]) := by
  refine ACall.walk [0, 1, 2] [] Tryz.func150 rfl Tryz.ntmps150 (by kernel_rfl) (by rfl) rfl fun W own I0 φ0 lay => ?_
  refine gO ?_
  exact AE.ret0 rfl ⟨rfl, trivial⟩ rfl ⟨rfl, rfl⟩
theorem terms0_spec (c : List Lt) : PFn Tryz.prog 73 [clV c] (.fn 149 [] [.im (.pt [.sl 3 (ltR c)])]) := by
  refine ACall.walk [0, 1, 2] [] Tryz.func73 rfl Tryz.ntmps73 (by kernel_rfl) (by rfl) rfl fun W own I0 φ0 lay => ?_
  refine gO ?_
  exact AE.ret0 rfl ⟨rfl, trivial⟩ rfl ⟨rfl, rfl⟩
end Go.Proofs.YtpfohmboflcneaaGreatDoor
end

section
namespace Go.Proofs.YtpfohmboflcneaaGreatDoor
open Go Go.AL Go.RowKit
set_option maxRecDepth 10000
set_option maxHeartbeats 4000000
theorem ckC_li (c : List Lt) : ckC 4 9 2 3 c = if liC c ≠ 0 then liC c else fmC 2 3 c := by
  rw [ckC, liC]
  by_cases h1 : 40 < c.length
  · rw [if_pos h1, if_pos h1, if_pos (by decide)]
  · rw [if_neg h1, if_neg h1]
    by_cases h2 : 4000 < ndC c
    · rw [if_pos h2, if_pos h2, if_pos (by decide)]
    · rw [if_neg h2, if_neg h2]
      by_cases h3 : 100 < dpC c
      · rw [if_pos h3, if_pos h3, if_pos (by decide)]
      · rw [if_neg h3, if_neg h3, if_neg (by decide)]
theorem liC_len {c : List Lt} (h : ¬ liC c ≠ 0) : c.length ≤ 40 := Classical.byContradiction fun hc => h (by rw [liC, if_pos (by omega)]; decide)
theorem form_iffP (pd : List UInt8) (n : Nat) (b : Bool) : ((!(pd == [61]) && !b) || (pd == [61] && (n : Int) != 2)) = true ↔ (pd ≠ [61] ∧ b = false) ∨ (pd = [61] ∧ n ≠ 2) := by
  have hl' : ((n : Int) = 2) ↔ n = 2 := by omega
  by_cases hp : pd = [61] <;> cases b <;> by_cases hl : n = 2 <;> simp [hp, hl, hl']
noncomputable def chkR (l : Nat) (st : LpSt) : Ob := .lp l 53 st Tryz.f15 [0, 1, 1, 1, 0, 0, 1, 1, 0, 0, 1, 0, 1, 1] [46] [(2, .ob 0 0)]
noncomputable def trmR (l l2 : Nat) (st : LpSt) : Ob := .lp l2 30 st Tryz.f149 [0, 1, 1, 0, 0, 1, 1, 0, 0, 1, 1, 0, 0, 1, 1, 0, 0, 1, 1] [23] [(2, .im (.pt [.v (.func (.yield l) #[] #[])]))]
noncomputable def chkH (l l2 : Nat) (st2 st : LpSt) (e : Int) : Heap := [(3, wkO l2 3), (2, trmR l l2 st2), (1, chkR l st), (0, .var 30 [Iv e])]
theorem chk_go (nb l l2 : Nat) (t : Tm) (ht : tmL t) (hf : fm1 2 3 t = 0) (hnb : Nat.ble nb 4 = true) : YCallN Tryz.prog nb l [tmV t] (chkH l l2 .busy .ready 0) (fun r H' => r = Bv true ∧ H' = chkH l l2 .busy .ready 0) := by
  refine YCallN.walk (b := 1) [2, 6, 7, 46, 50] [2] rfl rfl rfl fun w own I0 φ0 lay => ?_
  simp only [go_sem, Nat.reduceAdd, Nat.reduceLeDiff, Nat.reduceSub, Int.reduceToNat, reduceCtorEq, zipP, chkH, chkR, trmR]
  refine gE @hnb ?_
  refine AE.begin (b := 1) rfl rfl _ ?_
  refine sI ?_
  refine gO ?_
  refine AQ.fn (by kernel_rfl) rfl rfl rfl (formed_spec t ht) rfl ?_
  refine sI ?_
  refine gE @hf ?_
  refine AE.forgets [4] rfl ?_
  refine sI ?_
  exact AE.roundEnd (b := 1) rfl ⟨rfl, rfl⟩
theorem chk_stop (nb l l2 : Nat) (t : Tm) (ht : tmL t) (hf : fm1 2 3 t ≠ 0) (hnb : Nat.ble nb 4 = true) : YCallN Tryz.prog nb l [tmV t] (chkH l l2 .busy .ready 0) (fun r H' => r = Bv false ∧ H' = chkH l l2 .busy (.done .ret) (fm1 2 3 t)) := by
  refine YCallN.walk (b := 1) [2, 6, 7, 46, 50] [2] rfl rfl rfl fun w own I0 φ0 lay => ?_
  simp only [go_sem, Nat.reduceAdd, Nat.reduceLeDiff, Nat.reduceSub, Int.reduceToNat, reduceCtorEq, zipP, chkH, chkR, trmR]
  refine gE @hnb ?_
  refine AE.begin (b := 1) rfl rfl _ ?_
  refine sI ?_
  refine gO ?_
  refine AQ.fn (by kernel_rfl) rfl rfl rfl (formed_spec t ht) rfl ?_
  refine sI ?_
  refine gO ?_
  refine AP.cond rfl rfl (fun h => ?_) (fun h => ?_)
  · refine gO ?_
    refine AE.forgets [4] rfl ?_
    refine sI ?_
    exact AE.roundRet (b := 1) rfl ⟨rfl, rfl⟩
  · exact absurd (by simpa using h) hf
theorem trm_go (l l2 : Nat) (t : Tm) (ht : tmL t) (hf : fm1 2 3 t = 0) : YCallN Tryz.prog 4 l2 [tmV t] (chkH l l2 .ready .ready 0) (fun r H' => r = Bv true ∧ H' = chkH l l2 .ready .ready 0) := by
  have hy := chk_go 4 l l2 t ht hf rfl
  refine YCallN.walk (b := 2) [2, 7, 23, 26, 27] [] rfl rfl rfl fun w own I0 φ0 lay => ?_
  simp only [go_sem, Nat.reduceAdd, Nat.reduceLeDiff, Nat.reduceSub, Int.reduceToNat, reduceCtorEq, zipP, chkH, chkR, trmR]
  refine gO ?_
  refine AE.begin (b := 2) rfl rfl _ ?_
  refine sI ?_
  refine gO ?_
  refine AQ.fix 4 rfl rfl ?_
  refine sI ?_
  refine AQ.yieldN 4 (Nat.ble_eq_true_of_le (Nat.le_refl _)) (by kernel_rfl) rfl ⟨rfl, rfl⟩ rfl rfl hy (fun r H' h => by rw [h.2]; exact lowSame.of _ _ _ rfl) fun r H' h => ?_
  obtain ⟨rfl, rfl⟩ := h
  simp only [go_sem, Nat.reduceAdd, Nat.reduceLeDiff, Nat.reduceSub, Int.reduceToNat, reduceCtorEq, chkH, chkR, trmR]
  refine AQ.go (by kernel_rfl) ?_
  refine gO ?_
  exact AE.roundEnd (b := 2) rfl ⟨rfl, rfl⟩
theorem trm_stop (l l2 : Nat) (t : Tm) (ht : tmL t) (hf : fm1 2 3 t ≠ 0) : YCallN Tryz.prog 4 l2 [tmV t] (chkH l l2 .ready .ready 0) (fun r H' => r = Bv false ∧ H' = chkH l l2 (.done .ret) (.done .ret) (fm1 2 3 t)) := by
  have hy := chk_stop 4 l l2 t ht hf rfl
  refine YCallN.walk (b := 2) [2, 7, 23, 26, 27] [] rfl rfl rfl fun w own I0 φ0 lay => ?_
  simp only [go_sem, Nat.reduceAdd, Nat.reduceLeDiff, Nat.reduceSub, Int.reduceToNat, reduceCtorEq, zipP, chkH, chkR, trmR]
  refine gO ?_
  refine AE.begin (b := 2) rfl rfl _ ?_
  refine sI ?_
  refine gO ?_
  refine AQ.fix 4 rfl rfl ?_
  refine sI ?_
  refine AQ.yieldN 4 (Nat.ble_eq_true_of_le (Nat.le_refl _)) (by kernel_rfl) rfl ⟨rfl, rfl⟩ rfl rfl hy (fun r H' h => by rw [h.2]; exact lowSame.of _ _ _ rfl) fun r H' h => ?_
  obtain ⟨rfl, rfl⟩ := h
  simp only [go_sem, Nat.reduceAdd, Nat.reduceLeDiff, Nat.reduceSub, Int.reduceToNat, reduceCtorEq, chkH, chkR, trmR]
  refine AQ.go (by kernel_rfl) ?_
  refine gO ?_
  exact AE.roundRet (b := 2) rfl ⟨rfl, rfl⟩
def fstI (f : Tm → Int) : List Tm → Nat
  | [] => 0
  | t :: l => if f t ≠ 0 then 0 else fstI f l + 1
theorem fstI_spec (f : Tm → Int) : ∀ l : List Tm, (∀ k, k < fstI f l → ∃ t, l[k]? = some t ∧ f t = 0) ∧ (fstI f l < l.length → ∃ t, l[fstI f l]? = some t ∧ f t ≠ 0 ∧ fstN f l = f t) ∧ (l.length ≤ fstI f l → fstN f l = 0)
  | [] => ⟨fun k h => absurd h (Nat.not_lt_zero _), fun h => absurd h (Nat.not_lt_zero _), fun _ => rfl⟩
  | t :: l => by
    obtain ⟨h1, h2, h3⟩ := fstI_spec f l
    rw [fstI, fstN]
    by_cases h : f t ≠ 0
    · rw [if_pos h, if_pos h]
      exact ⟨fun k h => absurd h (Nat.not_lt_zero _), fun _ => ⟨t, rfl, h, rfl⟩, fun h => absurd h (by simp)⟩
    · rw [if_neg h, if_neg h]
      refine ⟨fun k hk => ?_, fun hk => ?_, fun hk => h3 (by simpa using hk)⟩
      · cases k with
        | zero => exact ⟨t, rfl, by simpa using h⟩
        | succ k => obtain ⟨u, h4, h5⟩ := h1 k (by omega); exact ⟨u, h4, h5⟩
      · obtain ⟨u, h4, h5⟩ := h2 (by simpa using hk)
        exact ⟨u, by rw [List.getElem?_cons_succ]; exact h4, h5⟩
mutual
theorem tmL_sb : ∀ t, tmL t → ∀ u ∈ sbT t, tmL u
  | .mk n i xs, h, u, hu => by
    rw [sbT] at hu
    rcases List.mem_cons.1 hu with rfl | hu
    · exact h
    · rw [tmL] at h; exact tmsL_sb xs h.2.2 u hu
theorem tmsL_sb : ∀ l, tmsL l → ∀ u ∈ sbTs l, tmL u
  | [], _, u, hu => by rw [sbTs] at hu; cases hu
  | t :: l, h, u, hu => by
    rw [sbTs] at hu
    rw [tmsL] at h
    rcases List.mem_append.1 hu with hu | hu
    · exact tmL_sb t h.1 u hu
    · exact tmsL_sb l h.2 u hu
end
theorem terms_spec (l : Nat) (u : Lt) (hu : ltL u) : ACallN Tryz.prog 1 149 [Yl l, .im (.pt [.sl 3 (ltR [u])])] [(1, chkR l .ready), (0, .var 30 [Iv 0])] (fun _ H' => H' = [(1, chkR l (if fmTs 2 3 u.xs = 0 then .ready else .done .ret)), (0, .var 30 [Iv (fmTs 2 3 u.xs)])]) := by
  have hxl := hu.2.1
  have hr1 : ltR [u] = [ltRow u] := rfl
  rw [hr1]
  refine ACallN.walk [0, 1, 2, 4, 6, 7, 8, 9, 10, 11, 15, 16, 17, 18, 22, 23, 27] [4, 6, 7] Tryz.func149 rfl Tryz.ntmps149 (by kernel_rfl) (by rfl) fun W own I0 φ0 lay => ?_
  simp only [go_sem, Nat.reduceAdd, Nat.reduceLeDiff, Nat.reduceSub, Int.reduceToNat, reduceCtorEq, chkR]
  refine gO ?_
  refine AP.loop rfl (α := Nat) (fun k => [(2, .im (.pt [.v (.func (.yield l) #[] #[])])), (8, .im (.sl 3 [ltRow u])), (9, Iv 1), (10, Iv k)]) (fun k => [(1, chkR l .ready), (0, .var 30 [Iv 0])]) (fun k => k ≤ 1 ∧ (k = 1 → fmTs 2 3 u.xs = 0)) (fun k => 1 - k) 0 ⟨by omega, by omega⟩ (sU) rfl fun k ⟨hk, hk2⟩ => ?_
  rcases Nat.eq_or_lt_of_le hk with hke | hlt
  · subst hke
    simp only [go_sem, Nat.reduceAdd, Nat.reduceLeDiff, Nat.reduceSub, Int.reduceToNat, reduceCtorEq, chkR]
    refine gO ?_
    refine AE.fall rfl trivial ?_
    rw [hk2 rfl]; rfl
  · have hk0 : k = 0 := by omega
    subst hk0
    have hr0 : [ltRow u].getD 0 [] = [Bi u.ng, Si u.pd, .sl 3 (tmR u.xs)] := rfl
    simp only [go_sem, Nat.reduceAdd, Nat.reduceLeDiff, Nat.reduceSub, Int.reduceToNat, reduceCtorEq, chkR]
    refine gE (an @tmR_len @hr0) ?_
    refine AP.fix 2 rfl rfl ?_
    refine sI ?_
    refine AP.loop rfl (α := Nat) (fun j => [(2, .im (.pt [.v (.func (.yield l) #[] #[])])), (8, .im (.sl 3 [ltRow u])), (9, Iv 1), (10, Iv 0), (15, .im (.sl 3 (tmR u.xs))), (16, Iv u.xs.length), (17, Iv j)]) (fun j => [(1, chkR l .ready), (0, .var 30 [Iv 0])]) (fun j => j ≤ u.xs.length ∧ fmTs 2 3 u.xs = fmTs 2 3 (u.xs.drop j)) (fun j => u.xs.length - j) 0 ⟨by omega, rfl⟩ (sU) rfl fun j ⟨hj, hjm⟩ => ?_
    rcases Nat.eq_or_lt_of_le hj with hje | hjlt
    · subst hje
      simp only [go_sem, Nat.reduceAdd, Nat.reduceLeDiff, Nat.reduceSub, Int.reduceToNat, reduceCtorEq, chkR]
      refine gO ?_
      refine cF ?_
      refine gO ?_
      rw [List.drop_length, fmTs] at hjm
      exact AE.round 1 ⟨by omega, fun _ => hjm⟩ (by omega) (sU) rfl
    · obtain ⟨v, hv, hrow2⟩ := tmR_get u.xs j hjlt
      have hw2 := wr (x := (j : Int) + 1) (by omega)
      simp only [go_sem, Nat.reduceAdd, Nat.reduceLeDiff, Nat.reduceSub, Int.reduceToNat, reduceCtorEq, chkR]
      refine gE @tmR_len ?_
      refine cT ?_
      refine gE (an @hrow2 @tmR_len) ?_
      refine AQ.fix 2 rfl rfl ?_
      refine sI ?_
      refine AQ.fn (by kernel_rfl) rfl rfl rfl (subterms_spec v) rfl ?_
      refine sI ?_
      refine gO ?_
      have hvl := tmsL_get hu.2.2 hv
      rw [fmTs_drop hv, fmT_sb] at hjm
      obtain ⟨hm1, hm2, hm3⟩ := fstI_spec (fm1 2 3) (sbT v)
      have hsl := tmL_sb v hvl
      refine AP.rangeB 2 1 2 [(2, .im (.pt [.v (.func (.yield l) #[] #[])]))] (R := fun l2 => rEnd (fun _ => chkH l l2 .ready .ready 0) (fstI (fm1 2 3) (sbT v)) (chkH l l2 (.done .ret) (.done .ret) (fstN (fm1 2 3) (sbT v))) (sbT v).length) rfl rfl (by kernel_rfl) (sU) rfl rfl (fun l2 => ?_) (fun l2 r H' hR => ?_)
      · refine sub_spec (M := 3) (Hs := fun _ => [(2, trmR l l2 .ready), (1, chkR l .ready), (0, .var 30 [Iv 0])]) (Hx := [(2, trmR l l2 (.done .ret)), (1, chkR l (.done .ret)), (0, .var 30 [Iv (fstN (fm1 2 3) (sbT v))])]) v hvl ⟨fun k hk hkn => ?_, fun hk => ?_, fun _ _ => lowSame.of _ _ _ rfl, fun k => lowSame.of _ _ _ rfl⟩ rfl (fun _ => rfl) (fun _ _ => rfl)
        · obtain ⟨t, ht, hf⟩ := hm1 k hk
          rw [tmAt_get ht]
          exact trm_go l l2 t (hsl t (List.mem_of_getElem? ht)) hf
        · obtain ⟨t, ht, hf, he⟩ := hm2 hk
          rw [tmAt_get ht, he]
          exact trm_stop l l2 t (hsl t (List.mem_of_getElem? ht)) hf
      · rcases hR with ⟨h1, rfl⟩ | ⟨h1, rfl⟩
        · refine ⟨lowSame.of _ _ _ rfl, .ready, _, rfl, rfl, ?_⟩
          rw [hm3 h1, if_neg (by decide)] at hjm
          simp only [go_sem, Nat.reduceAdd, Nat.reduceLeDiff, Nat.reduceSub, Int.reduceToNat, reduceCtorEq, chkH, chkR]
          refine gE @hw2 ?_
          refine AE.forgets [3] rfl ?_
          refine sI ?_
          exact AE.round (j + 1) ⟨by omega, hjm⟩ (by omega) (sU) rfl
        · refine ⟨lowSame.of _ _ _ rfl, .done .ret, _, rfl, rfl, ?_⟩
          obtain ⟨t, ht, hf, he⟩ := hm2 h1
          rw [he, if_pos hf, ← he] at hjm
          have hne : fmTs 2 3 u.xs ≠ 0 := by rw [hjm, he]; exact hf
          simp only [go_sem, Nat.reduceAdd, Nat.reduceLeDiff, Nat.reduceSub, Int.reduceToNat, reduceCtorEq, chkH, chkR]
          refine gO ?_
          refine AE.retD [3] rfl trivial rfl ?_
          rw [if_neg hne, hjm]; rfl
theorem check_spec (c : List Lt) (hs : clL c) : PFn Tryz.prog 15 [clV c] (Iv (ckC 4 9 2 3 c)) := by
  have hcl := hs.1
  have hck := ckC_li c
  refine ACall.walk [0, 2, 3, 4, 5, 6, 7, 11, 13, 14, 15, 16, 39, 45, 46, 50] [2, 5, 6] Tryz.func15 rfl Tryz.ntmps15 (by kernel_rfl) (by rfl) rfl fun W own I0 φ0 lay => ?_
  refine gE @ltR_len ?_
  refine AQ.fn (by kernel_rfl) rfl rfl rfl (limits_spec c hs) rfl ?_
  refine sI ?_
  refine gO ?_
  refine AP.cond rfl rfl (fun h => ?_) (fun h => ?_)
  · have h : liC c ≠ 0 := by simpa using h
    refine gO ?_
    exact AE.retD [0] rfl ⟨⟨rfl, Nat.le_of_ble_eq_true (by kernel_rfl)⟩, trivial⟩ rfl ⟨rfl, by rw [hck, if_pos h]; rfl⟩
  have h : ¬ liC c ≠ 0 := by simpa using h
  rw [if_neg h] at hck
  have h40 : c.length ≤ 40 := liC_len h
  refine gE @ltR_len ?_
  refine AP.loop rfl (α := Nat) (fun k => [(0, clV c), (2, .ob 0 0), (13, clV c), (14, Iv c.length), (15, Iv k)]) (fun k => [(0, .var 30 [Iv 0])]) (fun k => k ≤ c.length ∧ ckC 4 9 2 3 c = fmC 2 3 (c.drop k)) (fun k => c.length - k) 0 ⟨by omega, hck⟩ (sU) rfl fun k ⟨hk, hm⟩ => ?_
  rcases Nat.eq_or_lt_of_le hk with hke | hlt
  · rw [hke, List.drop_length, fmC] at hm
    refine gO ?_
    refine cF ?_
    refine gO ?_
    exact AE.retD [0] rfl ⟨⟨rfl, Nat.le_of_ble_eq_true (by kernel_rfl)⟩, trivial⟩ rfl ⟨rfl, by rw [hm]; rfl⟩
  · obtain ⟨u, hu, hrow⟩ := ltR_get c k hlt
    have hw := wr (x := (k : Int) + 1) (by omega)
    have hul := clL_get hs hu
    have hul2 := hul.2.1
    rw [drop_cons hu, fmC_cons] at hm
    refine gE @ltR_len ?_
    refine cT ?_
    refine gE (an @hrow (an @ltR_len @tmR_len)) ?_
    refine AQ.fn_g (by kernel_rfl) rfl rfl (fun h => by first | (simp [gs, AV.g]; done) | (simp [gs, AV.g, constAV]; done) | (simp [gs, AV.g, constAV, bw] at h ⊢; done) | (simp [gs, AV.g, constAV, bw] at h ⊢; exact h) | (simp [gs, AV.g, constAV, bw] at h ⊢; simp [h]; done) | (simp [bw] at h; done) | (simp [gs, AV.g, bw] at h ⊢; simp [h]; done) | (simp [gs, AV.g, bw] at h ⊢; exact h.1) | (simp [gs, AV.g]; rfl) | (simp [gs, AV.g, bw] at h ⊢; rfl) | (simp [gs, AV.g, bw] at h ⊢; simp [h]; rfl) | (simp [gs, AV.g, bw] at h ⊢; simp_all)) rfl (fun _ => isName_spec u.pd (by have := hul.1; omega)) rfl ?_
    refine sI ?_
    refine gE @tmR_len ?_
    refine AP.cond rfl rfl (fun h5 => ?_) (fun h5 => ?_)
    · have h5 := (form_iffP u.pd u.xs.length (nmB u.pd)).1 h5
      rw [if_pos h5] at hm
      refine gO ?_
      exact AE.retD [1, 0] rfl ⟨⟨rfl, Nat.le_of_ble_eq_true (by kernel_rfl)⟩, trivial⟩ rfl ⟨rfl, by rw [hm]; rfl⟩
    · have h5 : ¬ ((u.pd ≠ [61] ∧ nmB u.pd = false) ∨ (u.pd = [61] ∧ u.xs.length ≠ 2)) := fun hh => by
        have h6 := (form_iffP u.pd u.xs.length (nmB u.pd)).2 hh
        exact absurd (h6.symm.trans h5) (by decide)
      rw [if_neg h5] at hm
      have hsub : List.drop k (List.take (k + 1) (ltR c)) = ltR [u] := by
        rw [ltR, ← List.map_take, ← List.map_drop, take_snoc hu, List.drop_append_of_le_length (by rw [List.length_take]; omega), List.drop_take_self]; rfl
      have hwk : ((k : Int) + 1).toNat = k + 1 := by omega
      refine gE @ltR_len ?_
      rw [hw]
      refine AQ.fix 1 rfl rfl ?_
      refine sE (an @hwk @hsub) ?_
      refine AQ.fn (by kernel_rfl) rfl rfl rfl (terms0_spec [u]) rfl ?_
      refine sI ?_
      refine gO ?_
      have ht := fun l => terms_spec l u hul
      refine AP.rangeB 1 0 1 [(2, .ob 0 0)] (R := fun l _ H' => H' = [(1, chkR l (if fmTs 2 3 u.xs = 0 then .ready else .done .ret)), (0, .var 30 [Iv (fmTs 2 3 u.xs)])]) rfl rfl (by kernel_rfl) (sU) rfl rfl ht (fun l r H' hR => ?_)
      subst hR
      by_cases hf : fmTs 2 3 u.xs = 0
      · rw [if_neg (by simpa using hf)] at hm
        rw [if_pos hf, hf]
        refine ⟨lowSame.of _ _ _ rfl, .ready, _, rfl, rfl, ?_⟩
        refine sI ?_
        refine gE @hw ?_
        exact AE.round (k + 1) ⟨by omega, hm⟩ (by omega) (sU) rfl
      · rw [if_pos hf] at hm
        rw [if_neg hf]
        refine ⟨lowSame.of _ _ _ rfl, .done .ret, _, rfl, rfl, ?_⟩
        refine sI ?_
        refine gO ?_
        exact AE.retD [0] rfl ⟨⟨rfl, Nat.le_of_ble_eq_true (by kernel_rfl)⟩, trivial⟩ rfl ⟨rfl, by rw [hm]; rfl⟩
end Go.Proofs.YtpfohmboflcneaaGreatDoor
end

section
namespace Go.Proofs.YtpfohmboflcneaaGreatDoor
open Go Go.AL Go.RowKit
set_option maxRecDepth 10000
set_option maxHeartbeats 4000000
/-- the place of a key -/
def ixI {α : Type} : List (Int × α) → Int → Option Nat
  | [], _ => none
  | p :: m, v => if p.1 = v then some 0 else (ixI m v).map (· + 1)
def lkI {α : Type} : List (Int × α) → Int → Option α
  | [], _ => none
  | p :: m, v => if p.1 = v then some p.2 else lkI m v
def putI {α : Type} (m : List (Int × α)) (v : Int) (x : α) : List (Int × α) := match ixI m v with
  | some j => m.set j (v, x)
  | none => m ++ [(v, x)]
theorem ixI_some {α : Type} : ∀ {m : List (Int × α)} {v : Int} {j : Nat}, ixI m v = some j → ∃ x, m[j]? = some (v, x) ∧ lkI m v = some x
  | [], v, j, h => by cases h
  | p :: m, v, j, h => by
    rw [ixI] at h
    rw [lkI]
    by_cases hp : p.1 = v
    · rw [if_pos hp] at h ⊢
      cases h
      exact ⟨p.2, by rw [List.getElem?_cons_zero, ← hp], rfl⟩
    · rw [if_neg hp] at h ⊢
      cases hq : ixI m v with
      | none => rw [hq] at h; cases h
      | some i =>
        rw [hq] at h; cases h
        obtain ⟨x, h1, h2⟩ := ixI_some hq
        exact ⟨x, by rw [List.getElem?_cons_succ]; exact h1, h2⟩
theorem ixI_none {α : Type} : ∀ {m : List (Int × α)} {v : Int}, ixI m v = none → lkI m v = none ∧ v ∉ m.map (·.1)
  | [], v, h => ⟨rfl, by simp⟩
  | p :: m, v, h => by
    rw [ixI] at h
    rw [lkI]
    by_cases hp : p.1 = v
    · rw [if_pos hp] at h; cases h
    · rw [if_neg hp] at h ⊢
      cases hq : ixI m v with
      | some i => rw [hq] at h; cases h
      | none =>
        obtain ⟨h1, h2⟩ := ixI_none hq
        exact ⟨h1, by rw [List.map_cons, List.mem_cons]; rintro (h | h); exact hp h.symm; exact h2 h⟩
theorem lkI_none {α : Type} {m : List (Int × α)} {v : Int} : lkI m v = none ↔ ixI m v = none := by
  constructor
  · intro h
    cases hq : ixI m v with
    | none => rfl
    | some j => obtain ⟨x, _, h2⟩ := ixI_some hq; rw [h] at h2; cases h2
  · exact fun h => (ixI_none h).1
theorem lkI_get {α : Type} {m : List (Int × α)} {v : Int} {x : α} (h : lkI m v = some x) : ∃ j, ixI m v = some j ∧ m[j]? = some (v, x) := by
  cases hq : ixI m v with
  | none => rw [(ixI_none hq).1] at h; cases h
  | some j =>
    obtain ⟨y, h1, h2⟩ := ixI_some hq
    rw [h] at h2; cases h2
    exact ⟨j, rfl, h1⟩
theorem lkI_put {α : Type} (m : List (Int × α)) (v : Int) (x : α) (w : Int) : lkI (putI m v x) w = if w = v then some x else lkI m w := by
  rw [putI]
  have hset : ∀ (m : List (Int × α)) (j : Nat), ixI m v = some j → lkI (m.set j (v, x)) w = if w = v then some x else lkI m w := by
    intro m
    induction m with
    | nil => intro j h; cases h
    | cons p m ih =>
      intro j h
      rw [ixI] at h
      by_cases hp : p.1 = v
      · rw [if_pos hp] at h; cases h
        rw [List.set_cons_zero, lkI, lkI]
        by_cases hw : w = v
        · rw [if_pos hw, if_pos hw.symm]
        · rw [if_neg hw, if_neg (fun h => hw h.symm), if_neg (fun h => hw (h.symm.trans hp))]
      · rw [if_neg hp] at h
        cases hq : ixI m v with
        | none => rw [hq] at h; cases h
        | some i =>
          rw [hq] at h; cases h
          rw [List.set_cons_succ, lkI, lkI, ih i hq]
          by_cases hw : w = v
          · rw [if_pos hw, if_neg (fun h => hp (h.trans hw)), if_pos hw]
          · rw [if_neg hw, if_neg hw]
  cases hq : ixI m v with
  | some j => exact hset m j hq
  | none =>
    have h0 := (ixI_none hq).1
    have happ : ∀ m : List (Int × α), lkI (m ++ [(v, x)]) w = match lkI m w with
      | some y => some y
      | none => if v = w then some x else none := by
      intro m
      induction m with
      | nil => rw [List.nil_append, lkI, lkI, lkI]
      | cons p m ih =>
        rw [List.cons_append, lkI, lkI]
        by_cases hp : p.1 = w
        · rw [if_pos hp, if_pos hp]
        · rw [if_neg hp, if_neg hp, ih]
    rw [happ]
    by_cases hw : w = v
    · subst hw; simp only [h0, if_pos]
    · rw [if_neg hw]
      cases lkI m w with
      | some y => rfl
      | none => simp only [if_neg (fun h => hw (Eq.symm h))]
def kI {α : Type} (m : List (Int × α)) : List Value := m.map fun p => .int .i64 p.1
theorem kI_len {α : Type} (m : List (Int × α)) : (kI m).length = m.length := List.length_map ..
theorem kI_ok {α : Type} (m : List (Int × α)) : KeysOk (.int .i64) (kI m) := fun v hv => by
  obtain ⟨p, _, rfl⟩ := List.mem_map.1 hv
  rfl
theorem kI_one {α : Type} (m : List (Int × α)) : ∀ k ∈ kI m, k.oneCell' = true := fun v hv => by
  obtain ⟨p, _, rfl⟩ := List.mem_map.1 hv
  rfl
theorem kI_not {α : Type} {m : List (Int × α)} {v : Int} (h : ixI m v = none) : Value.int .i64 v ∉ kI m := fun hc => by
  obtain ⟨p, hp, e⟩ := List.mem_map.1 hc
  cases e
  exact (ixI_none h).2 (List.mem_map.2 ⟨p, hp, rfl⟩)
theorem kI_get {α : Type} {m : List (Int × α)} {j : Nat} {p : Int × α} (h : m[j]? = some p) : (kI m)[j]? = some (.int .i64 p.1) := by rw [kI, List.getElem?_map, h]; rfl
theorem kI_inv {α : Type} {m : List (Int × α)} {j : Nat} {k : Value} (h : (kI m)[j]? = some k) : ∃ p, m[j]? = some p ∧ k = .int .i64 p.1 := by
  rw [kI, List.getElem?_map] at h
  cases hq : m[j]? with
  | none => rw [hq] at h; cases h
  | some p => rw [hq] at h; exact ⟨p, rfl, by simpa using h.symm⟩
def ndI {α : Type} (m : List (Int × α)) : Prop := (m.map (·.1)).Nodup
theorem kI_uniq {α : Type} {m : List (Int × α)} (hnd : ndI m) {v : Int} {x : α} {j i : Nat} (hj : m[j]? = some (v, x)) (hi : (kI m)[i]? = some (.int .i64 v)) : i = j := by
  obtain ⟨p, hp, e⟩ := kI_inv hi
  cases e
  have h1 : (m.map (·.1))[i]? = some p.1 := by rw [List.getElem?_map, hp]; rfl
  have h2 : (m.map (·.1))[j]? = some p.1 := by rw [List.getElem?_map, hj]; rfl
  obtain ⟨a1, b1⟩ := List.getElem?_eq_some_iff.1 h1
  obtain ⟨a2, b2⟩ := List.getElem?_eq_some_iff.1 h2
  exact (List.getElem_inj hnd).1 (b1.trans b2.symm)
theorem kI_put {α : Type} (m : List (Int × α)) (v : Int) (x : α) : kI (putI m v x) = match ixI m v with
    | some _ => kI m
    | none => kI m ++ [.int .i64 v] := by
  rw [putI]
  cases h : ixI m v with
  | none => simp [kI]
  | some j =>
    obtain ⟨y, h1, _⟩ := ixI_some h
    simp only [kI, List.map_set]
    exact List.ext_getElem? fun i => by
      rw [List.getElem?_set]
      by_cases hij : j = i
      · subst hij
        rw [if_pos rfl, List.getElem?_map, h1]
        have := (List.getElem?_eq_some_iff.1 h1).1
        rw [if_pos (by simpa using this)]; rfl
      · rw [if_neg hij]
theorem ndI_put {α : Type} {m : List (Int × α)} (h : ndI m) (v : Int) (x : α) : ndI (putI m v x) := by
  have hk : (putI m v x).map (·.1) = match ixI m v with
    | some _ => m.map (·.1)
    | none => m.map (·.1) ++ [v] := by
    have := kI_put m v x
    have hi : ∀ m : List (Int × α), (kI m).map (fun u => match u with | .int _ n => n | _ => 0) = m.map (·.1) := fun m => by simp [kI, Function.comp_def]
    rw [← hi (putI m v x), this]
    cases ixI m v with
    | some j => exact hi m
    | none => rw [List.map_append, hi]; rfl
  rw [ndI, hk]
  cases hq : ixI m v with
  | some j => exact h
  | none =>
    refine List.nodup_append.2 ⟨h, by simp, fun a ha b hb => ?_⟩
    rw [List.mem_singleton] at hb
    subst hb
    exact fun e => (ixI_none hq).2 (e ▸ ha)
theorem ndI_lk {α : Type} : ∀ {m : List (Int × α)} {v : Int} {x : α}, ndI m → (v, x) ∈ m → lkI m v = some x
  | [], v, x, _, h => by cases h
  | p :: m, v, x, hnd, h => by
    rw [ndI, List.map_cons, List.nodup_cons] at hnd
    rw [lkI]
    rcases List.mem_cons.1 h with rfl | h
    · rw [if_pos rfl]
    · rw [if_neg (fun e => hnd.1 (List.mem_map.2 ⟨(v, x), h, e.symm⟩)), ndI_lk hnd.2 h]
theorem lkI_mem {α : Type} {m : List (Int × α)} {v : Int} {x : α} (h : lkI m v = some x) : (v, x) ∈ m := by
  obtain ⟨j, _, h2⟩ := lkI_get h
  exact List.mem_of_getElem? h2
def vN (m : List (Int × Int)) : List AV := m.map fun p => Iv p.2
theorem vN_len (m : List (Int × Int)) : (vN m).length = m.length := List.length_map ..
@[go_sem] theorem rns_vN (ρ : Nat → Nat) : ∀ m : List (Int × Int), AV.rns ρ (vN m) = vN m
  | [] => rfl
  | _ :: m => by rw [vN, List.map_cons, AV.rns, ← vN, rns_vN ρ m]; rfl
@[go_sem] theorem killC_vN (b : Nat) : ∀ m : List (Int × Int), killC b (vN m) = vN m
  | [] => rfl
  | _ :: m => by rw [vN, List.map_cons, killC, ← vN, killC_vN b m]; rfl
@[go_sem] theorem mens_vN (b : Nat) : ∀ m : List (Int × Int), AV.mens b (vN m) = false
  | [] => rfl
  | _ :: m => by rw [vN, List.map_cons, AV.mens, ← vN, mens_vN b m]; rfl
@[go_sem] theorem ges_vN (b : Nat) : ∀ m : List (Int × Int), AV.ges b (vN m) = false
  | [] => rfl
  | _ :: m => by rw [vN, List.map_cons, AV.ges, ← vN, ges_vN b m]; rfl
@[go_sem] theorem frvs_vN (b : Nat) (l : List IV) : ∀ m : List (Int × Int), frvs b l (vN m) = vN m
  | [] => rfl
  | _ :: m => by rw [vN, List.map_cons, frvs, ← vN, frvs_vN b l m]; rfl
@[go_sem] theorem frzs_vN (b es : Nat) (rows : List (List IV)) : ∀ m : List (Int × Int), frzs b es rows (vN m) = vN m
  | [] => rfl
  | _ :: m => by rw [vN, List.map_cons, frzs, ← vN, frzs_vN b es rows m]; rfl
@[go_sem] theorem frzCs_vN (b : Nat) (rows : List (List IV)) : ∀ m : List (Int × Int), frzCs b rows (vN m) = True
  | [] => rfl
  | _ :: m => by rw [vN, List.map_cons, frzCs, ← vN, frzCs_vN b rows m]; simp [frzC]
theorem vN_get {m : List (Int × Int)} {j : Nat} {p : Int × Int} (h : m[j]? = some p) : (vN m)[j]? = some (Iv p.2) := by rw [vN, List.getElem?_map, h]; rfl
theorem vN_put (m : List (Int × Int)) (v : Int) (x : Int) : vN (putI m v x) = match ixI m v with
    | some j => (vN m).set j ((fun p : Int × Int => Iv p.2) (v, x))
    | none => vN m ++ [(fun p : Int × Int => Iv p.2) (v, x)] := by
  rw [putI]
  cases ixI m v with
  | none => simp only [vN, List.map_append]; rfl
  | some j => simp [vN, List.map_set]
def vT (m : List (Int × Tm)) : List AV := m.map fun p => tmV p.2
theorem vT_len (m : List (Int × Tm)) : (vT m).length = m.length := List.length_map ..
@[go_sem] theorem rns_vT (ρ : Nat → Nat) : ∀ m : List (Int × Tm), AV.rns ρ (vT m) = vT m
  | [] => rfl
  | _ :: m => by rw [vT, List.map_cons, AV.rns, ← vT, rns_vT ρ m]; rfl
@[go_sem] theorem killC_vT (b : Nat) : ∀ m : List (Int × Tm), killC b (vT m) = vT m
  | [] => rfl
  | _ :: m => by rw [vT, List.map_cons, killC, ← vT, killC_vT b m]; rfl
@[go_sem] theorem mens_vT (b : Nat) : ∀ m : List (Int × Tm), AV.mens b (vT m) = false
  | [] => rfl
  | _ :: m => by rw [vT, List.map_cons, AV.mens, ← vT, mens_vT b m]; rfl
@[go_sem] theorem ges_vT (b : Nat) : ∀ m : List (Int × Tm), AV.ges b (vT m) = false
  | [] => rfl
  | _ :: m => by rw [vT, List.map_cons, AV.ges, ← vT, ges_vT b m]; rfl
@[go_sem] theorem frvs_vT (b : Nat) (l : List IV) : ∀ m : List (Int × Tm), frvs b l (vT m) = vT m
  | [] => rfl
  | _ :: m => by rw [vT, List.map_cons, frvs, ← vT, frvs_vT b l m]; rfl
@[go_sem] theorem frzs_vT (b es : Nat) (rows : List (List IV)) : ∀ m : List (Int × Tm), frzs b es rows (vT m) = vT m
  | [] => rfl
  | _ :: m => by rw [vT, List.map_cons, frzs, ← vT, frzs_vT b es rows m]; rfl
@[go_sem] theorem frzCs_vT (b : Nat) (rows : List (List IV)) : ∀ m : List (Int × Tm), frzCs b rows (vT m) = True
  | [] => rfl
  | _ :: m => by rw [vT, List.map_cons, frzCs, ← vT, frzCs_vT b rows m]; simp [frzC, frzCs]
theorem vT_get {m : List (Int × Tm)} {j : Nat} {p : Int × Tm} (h : m[j]? = some p) : (vT m)[j]? = some (tmV p.2) := by rw [vT, List.getElem?_map, h]; rfl
def vZ (m : List (Int × Int × Int)) : List AV := m.map fun p => .agg [Iv p.2.1, Iv p.2.2]
@[go_sem] theorem rns_vZ (ρ : Nat → Nat) : ∀ m : List (Int × Int × Int), AV.rns ρ (vZ m) = vZ m
  | [] => rfl
  | _ :: m => by rw [vZ, List.map_cons, AV.rns, ← vZ, rns_vZ ρ m]; rfl
@[go_sem] theorem killC_vZ (b : Nat) : ∀ m : List (Int × Int × Int), killC b (vZ m) = vZ m
  | [] => rfl
  | _ :: m => by rw [vZ, List.map_cons, killC, ← vZ, killC_vZ b m]; rfl
@[go_sem] theorem mens_vZ (b : Nat) : ∀ m : List (Int × Int × Int), AV.mens b (vZ m) = false
  | [] => rfl
  | _ :: m => by rw [vZ, List.map_cons, AV.mens, ← vZ, mens_vZ b m]; rfl
@[go_sem] theorem ges_vZ (b : Nat) : ∀ m : List (Int × Int × Int), AV.ges b (vZ m) = false
  | [] => rfl
  | _ :: m => by rw [vZ, List.map_cons, AV.ges, ← vZ, ges_vZ b m]; rfl
@[go_sem] theorem frvs_vZ (b : Nat) (l : List IV) : ∀ m : List (Int × Int × Int), frvs b l (vZ m) = vZ m
  | [] => rfl
  | _ :: m => by rw [vZ, List.map_cons, frvs, ← vZ, frvs_vZ b l m]; rfl
@[go_sem] theorem frzs_vZ (b es : Nat) (rows : List (List IV)) : ∀ m : List (Int × Int × Int), frzs b es rows (vZ m) = vZ m
  | [] => rfl
  | _ :: m => by rw [vZ, List.map_cons, frzs, ← vZ, frzs_vZ b es rows m]; rfl
@[go_sem] theorem frzCs_vZ (b : Nat) (rows : List (List IV)) : ∀ m : List (Int × Int × Int), frzCs b rows (vZ m) = True
  | [] => rfl
  | _ :: m => by rw [vZ, List.map_cons, frzCs, ← vZ, frzCs_vZ b rows m]; simp [frzC, frzCs]
theorem vZ_get {m : List (Int × Int × Int)} {j : Nat} {p : Int × Int × Int} (h : m[j]? = some p) : (vZ m)[j]? = some (.agg [Iv p.2.1, Iv p.2.2]) := by rw [vZ, List.getElem?_map, h]; rfl
section
open Go.MapKept
variable {C : Cx} {K : List PK} {E : Env} {H : Heap}
theorem AQ.lookZ {ds : List (Nat × Nat)} {i : Nat} {d : Option Nat} {ty t kt et : TypeId} {pos : String} {af : Array Edge} {os : List Oper} {m k : Operand} {ok : Bool} {b : Nat} {ks : List Value} {cs : List AV} {kv z : Value} {dk : TypeDesc} (xz : AV)
    (hok : dstOk C.n ({ dst := d, op := .lookup t m k ok, type := ty, pos := pos, after := af, guard := none } :: os) = true)
    (hm : ev E m = some (.mp b)) (hk : ev E k = some (.im (.v kv))) (hH : lk H b = some (.var (.map ks) cs)) (ht : C.P.underlying t = some (.map kt et)) (hd : C.P.underlying kt = some dk)
    (hks : KeysOk dk ks) (hkk : Go.MapKept.IsKey dk kv) (hin : kv ∉ ks) (hz : (C.P.info? et).bind (·.zero) = some z) (hz1 : ∀ w φ I, AV.den w φ I xz z)
    (h : vq C K os (dsPut d i ds) (i + 1) (putE d (bif ok then .tup [xz, .im (.v (.bool false))] else xz) E) H) :
    AQ C ds i ({ dst := d, op := .lookup t m k ok, type := ty, pos := pos, after := af, guard := none } :: os) K E H := by
  refine AQ.val (bif ok then .tup [xz, .im (.v (.bool false))] else xz) hok rfl (fun φ I a w hs => ?_) h
  obtain ⟨g, es, clock, hme, hg, hh, hke, hde, hbi⟩ := map_open hs.st.real hH (ev_sound hs.env hm)
  have hkv := ev_sound hs.env hk
  simp only [AV.den, IV.den] at hkv
  rcases map_find hke hks hkk with ⟨h1, _⟩ | ⟨j', e, h1, h2, h3, h4⟩
  · have hzr : (zeroValue et).run C.P w = .ok z w := by
      cases hi : C.P.info? et with
      | none => rw [hi] at hz; cases hz
      | some inf =>
        rw [hi] at hz
        simp only [Option.bind_some] at hz
        simp [zeroValue, typeInfo, hi, hz]
    have hrun : (Instr.lookup t (a.eval m) (a.eval k) ok).run C.P w = .ok (if ok then .tuple #[z, .bool false] else z) w := by
      rw [hme, hkv.1]
      cases ok <;> simp [Instr.lookup, run_underlying ht, MapKept.run_getObj_map hh, run_checkKey hd hkk, run_findKey hd h1, hzr, Result.andThen]
    refine ⟨if ok then .tuple #[z, .bool false] else z, by simp only [execOp, Sem.run_bind, Sem.run_map, hrun, Result.andThen_ok, Sem.run_pure], ?_⟩
    cases ok with
    | true => simp only [cond_true, if_true, AV.den, AV.dens, IV.den]; exact ⟨_, ⟨_, _, rfl, hz1 _ _ _, _, _, rfl, ⟨rfl, rfl⟩, rfl⟩, rfl⟩
    | false => simp only [cond_false, Bool.false_eq_true, if_false]; exact hz1 _ _ _
  · exact absurd (List.mem_of_getElem? h4) hin
end
theorem u3 : Tryz.prog.underlying 3 = some (.int .i64) := by kernel_rfl
theorem u149 : Tryz.prog.underlying 149 = some (.map 3 3) := by kernel_rfl
end Go.Proofs.YtpfohmboflcneaaGreatDoor
end

section
namespace Go.Proofs.YtpfohmboflcneaaGreatDoor
open Go Go.AL Go.RowKit
set_option maxRecDepth 10000
set_option maxHeartbeats 4000000
def bump (m : List (Int × Int)) (v : Int) : List (Int × Int) := putI m v ((lkI m v).getD 0 + 1)
def stM (m : List (Int × Int)) (x : Tm) : List (Int × Int) := if x.nm = [] then bump m x.ix else m
def cmS (xs : List Tm) : List (Int × Int) := xs.foldl stM []
def vrS (xs : List Tm) : List Int := xs.flatMap fun x => if x.nm = [] then [x.ix] else []
theorem cmS_snoc (xs : List Tm) (x : Tm) : cmS (xs ++ [x]) = stM (cmS xs) x := by rw [cmS, List.foldl_append]; rfl
theorem foldl_nd : ∀ (xs : List Tm) (m : List (Int × Int)), ndI m → ndI (xs.foldl stM m)
  | [], m, h => h
  | x :: xs, m, h => foldl_nd xs _ (by
      rw [stM]
      by_cases hx : x.nm = []
      · rw [if_pos hx]; exact ndI_put h _ _
      · rw [if_neg hx]; exact h)
theorem cmS_nd (xs : List Tm) : ndI (cmS xs) := foldl_nd xs [] List.nodup_nil
theorem foldl_lk : ∀ (xs : List Tm) (m : List (Int × Int)) (v : Int), (∀ v, (lkI m v).getD 0 ≥ 0 ∧ (lkI m v = none ∨ (lkI m v).getD 0 > 0)) →
    (lkI (xs.foldl stM m) v).getD 0 = (lkI m v).getD 0 + (vrS xs).count v ∧ (lkI (xs.foldl stM m) v = none ∨ (lkI (xs.foldl stM m) v).getD 0 > 0)
  | [], m, v, h => ⟨by simp [vrS], (h v).2⟩
  | x :: xs, m, v, h => by
    have h1 : ∀ v, (lkI (stM m x) v).getD 0 = (lkI m v).getD 0 + ((if x.nm = [] then [x.ix] else []) : List Int).count v := fun v => by
      rw [stM]
      by_cases hx : x.nm = []
      · rw [if_pos hx, if_pos hx, bump, lkI_put]
        by_cases hv : v = x.ix
        · subst hv; rw [if_pos rfl]; simp
        · rw [if_neg hv, List.count_cons_of_ne (fun e => hv e.symm)]; simp
      · rw [if_neg hx, if_neg hx]; simp
    have h2 : ∀ v, (lkI (stM m x) v).getD 0 ≥ 0 ∧ (lkI (stM m x) v = none ∨ (lkI (stM m x) v).getD 0 > 0) := fun v => by
      refine ⟨by rw [h1]; have := (h v).1; omega, ?_⟩
      by_cases hx : x.nm = []
      · by_cases hv : v = x.ix
        · refine .inr ?_
          rw [h1, if_pos hx, ← hv]
          have := (h v).1
          simp; omega
        · rw [stM, if_pos hx, bump, lkI_put, if_neg hv]; exact (h v).2
      · rw [stM, if_neg hx]; exact (h v).2
    obtain ⟨a, b⟩ := foldl_lk xs (stM m x) v h2
    rw [List.foldl_cons]
    refine ⟨?_, b⟩
    rw [a, h1, show vrS (x :: xs) = (if x.nm = [] then [x.ix] else []) ++ vrS xs by simp [vrS], List.count_append]
    omega
theorem cmS_lk (xs : List Tm) (v : Int) : (lkI (cmS xs) v).getD 0 = (vrS xs).count v := by
  have := (foldl_lk xs [] v fun v => ⟨by simp [lkI], .inl rfl⟩).1
  rw [cmS, this]; simp [lkI]
mutual
theorem vsT_sb : ∀ t, vsT t = vrS (sbT t)
  | .mk n i xs => by
    rw [vsT, sbT, vsTs_sb xs]
    by_cases h : n = [] <;> simp [vrS, Tm.nm, Tm.ix, h]
theorem vsTs_sb : ∀ l, vsTs l = vrS (sbTs l)
  | [] => by rw [vsTs, sbTs]; rfl
  | t :: l => by rw [vsTs, sbTs, vsT_sb t, vsTs_sb l]; simp [vrS]
end
mutual
theorem wT_sb : ∀ t, wT t = (sbT t).length
  | .mk n i xs => by rw [wT, sbT, wTs_sb xs, List.length_cons]; omega
theorem wTs_sb : ∀ l, wTs l = (sbTs l).length
  | [] => by rw [wTs, sbTs]; rfl
  | t :: l => by rw [wTs, sbTs, wT_sb t, wTs_sb l, List.length_append]
end
theorem count_le (xs : List Tm) (v : Int) : (vrS xs).count v ≤ xs.length := by
  induction xs with
  | nil => simp [vrS]
  | cons x xs ih =>
    rw [show vrS (x :: xs) = (if x.nm = [] then [x.ix] else []) ++ vrS xs by simp [vrS], List.count_append, List.length_cons]
    have : ((if x.nm = [] then [x.ix] else []) : List Int).count v ≤ 1 := by
      by_cases hx : x.nm = []
      · rw [if_pos hx]; exact Nat.le_trans (List.count_le_length) (by simp)
      · rw [if_neg hx]; simp
    omega
noncomputable def cntR (l : Nat) (st : LpSt) : Ob := .lp l 23 st Tryz.f208 [0, 1, 0, 1, 1] [10] [(4, .ob 1 0), (5, .ob 2 0)]
noncomputable def cntH (l : Nat) (st : LpSt) (xs : List Tm) : Heap := [(4, wkO l 4), (3, cntR l st), (2, .var 3 [Iv xs.length]), (1, .var 149 [.mp 0]), (0, .var (.map (kI (cmS xs))) (vN (cmS xs)))]
theorem cnt_round (l : Nat) (xs : List Tm) (x : Tm) (hx : xs.length ≤ 1000000) : YCallN Tryz.prog 5 l [tmV x] (cntH l .ready xs) (fun r H' => r = Bv true ∧ H' = cntH l .ready (xs ++ [x])) := by
  have hw := wr (x := (xs.length : Int) + 1) (by omega)
  have hsn := cmS_snoc xs x
  have hnd := cmS_nd xs
  have hbd : ∀ v, (0 : Int) ≤ (lkI (cmS xs) v).getD 0 ∧ (lkI (cmS xs) v).getD 0 ≤ xs.length := fun v => by rw [cmS_lk]; have := count_le xs v; omega
  have hlen : ((xs.length : Int) + 1) = ((xs ++ [x]).length : Nat) := by simp
  refine YCallN.walk (b := 3) [4, 5, 6, 10, 15] [4, 5] rfl rfl rfl fun w own I0 φ0 lay => ?_
  simp only [go_sem, Nat.reduceAdd, Nat.reduceLeDiff, Nat.reduceSub, Int.reduceToNat, reduceCtorEq, zipP, cntH, cntR]
  refine gO ?_
  refine AE.begin (b := 3) rfl rfl _ ?_
  refine sI ?_
  refine gE @hw ?_
  refine AP.fix 5 rfl rfl ?_
  refine sI ?_
  refine AP.cond rfl rfl (fun h => ?_) (fun h => ?_)
  · have h : x.nm = [] := by simpa using h
    rw [stM, if_pos h, bump] at hsn
    refine gO ?_
    cases hq : ixI (cmS xs) x.ix with
    | none =>
      have hl0 : (lkI (cmS xs) x.ix).getD 0 = 0 := by rw [(ixI_none hq).1]; rfl
      rw [hl0] at hsn
      refine AQ.lookN (by kernel_rfl) rfl rfl rfl u149 u3 (kI_ok _) rfl (kI_not hq) rfl rfl ?_
      refine sI ?_
      refine gO ?_
      refine AQ.msetN (by kernel_rfl) rfl rfl rfl rfl u149 u3 (kI_ok _) rfl (kI_not hq) ?_
      refine sI ?_
      refine gO ?_
      refine AE.roundEnd (b := 3) rfl ⟨rfl, ?_⟩
      have e1 := kI_put (cmS xs) x.ix (0 + 1)
      have e2 := vN_put (cmS xs) x.ix (0 + 1)
      rw [hq] at e1 e2
      rw [hsn, ← hlen, e1, e2]; rfl
    | some j =>
      obtain ⟨y, h1, h2⟩ := ixI_some hq
      refine AQ.lookF j (by kernel_rfl) rfl rfl rfl u149 u3 (kI_ok _) rfl (List.mem_of_getElem? (kI_get h1)) (fun i hi => kI_uniq hnd h1 hi) (vN_get h1) ?_
      have hy := hbd x.ix
      rw [h2] at hsn hy
      have hwy := wr (x := y + 1) (by simp only [Option.getD_some] at hy; omega)
      refine sI ?_
      refine gE @hwy ?_
      refine AQ.msetF j (by kernel_rfl) rfl rfl rfl rfl u149 u3 (kI_ok _) rfl (List.mem_of_getElem? (kI_get h1)) (fun i hi => kI_uniq hnd h1 hi) ?_
      refine sI ?_
      refine gO ?_
      refine AE.roundEnd (b := 3) rfl ⟨rfl, ?_⟩
      have e1 := kI_put (cmS xs) x.ix (y + 1)
      have e2 := vN_put (cmS xs) x.ix (y + 1)
      rw [hq] at e1 e2
      rw [hsn, ← hlen, Option.getD_some, e1, e2, hwy]; rfl
  · have h : ¬ x.nm = [] := by simpa using h
    rw [stM, if_neg h] at hsn
    refine gO ?_
    exact AE.roundEnd (b := 3) rfl ⟨rfl, by rw [hsn, ← hlen]; rfl⟩
theorem count_spec (t : Tm) (ht : tmL t) (hw : wT t ≤ 1000000) : ACall Tryz.prog 208 [tmV t] [] (fun r H' => r = .tup [.mp 0, Iv (wT t)] ∧ H' = [(0, .var (.map (kI (cmS (sbT t)))) (vN (cmS (sbT t))))]) := by
  refine ACall.walk [0, 1, 2, 3, 4, 5, 6, 9, 10, 15] [4, 5, 6] Tryz.func208 rfl Tryz.ntmps208 (by kernel_rfl) (by rfl) rfl fun W own I0 φ0 lay => ?_
  refine gO ?_
  refine AQ.mmake (by kernel_rfl) ?_
  refine sI ?_
  refine gO ?_
  refine AQ.fn (by kernel_rfl) rfl rfl rfl (subterms_spec t) rfl ?_
  refine sI ?_
  refine gO ?_
  have hlen := wT_sb t
  have hlow : ∀ l k k', lowSame 5 (cntH l .ready ((sbT t).take k)) (cntH l .ready ((sbT t).take k')) := fun l k k' => lowSame.of _ _ _ rfl
  refine AP.rangeB 3 0 3 [(4, .ob 1 0), (5, .ob 2 0)] (R := fun l => rEnd (fun k => cntH l .ready ((sbT t).take k)) (sbT t).length [(4, wkO l 4), (3, cntR l .ready), (2, .var 3 []), (1, .var 3 []), (0, .var 3 [])] (sbT t).length) rfl rfl (by kernel_rfl) (sU) rfl rfl (fun l => ?_) (fun l r H' hR => ?_)
  · refine sub_spec (nb := 3) (M := 4) (m := (sbT t).length) (Hs := fun k => [(3, cntR l .ready), (2, .var 3 [Iv ((sbT t).take k).length]), (1, .var 149 [.mp 0]), (0, .var (.map (kI (cmS ((sbT t).take k)))) (vN (cmS ((sbT t).take k))))]) (Hx := [(3, cntR l .ready), (2, .var 3 []), (1, .var 3 []), (0, .var 3 [])]) t ht ⟨fun k hk hkn => ?_, fun hk => absurd hk (Nat.lt_irrefl _), fun k k' => hlow l k k', fun k => lowSame.of _ _ _ rfl⟩ rfl (fun _ => rfl) (fun _ _ => ?_)
    · obtain ⟨u, hu⟩ : ∃ u, (sbT t)[k]? = some u := ⟨_, List.getElem?_eq_getElem hkn⟩
      have := cnt_round l ((sbT t).take k) u (by rw [List.length_take]; omega)
      rw [tmAt_get hu]
      rw [← take_snoc hu] at this
      exact this
    · simp only [frvH, frvO, frvs, frv, frvs_vN]; rfl
  · rcases hR with ⟨h1, rfl⟩ | ⟨h1, rfl⟩
    · refine ⟨lowSame.of _ _ _ rfl, .ready, _, rfl, by simp only [go_sem, Nat.reduceAdd, Nat.reduceLeDiff, Nat.reduceSub, Int.reduceToNat, reduceCtorEq, cntH, cntR, noMen, AV.mens, AV.men, mens_vN, Bool.or_false]; first | done | rfl, ?_⟩
      simp only [go_sem, Nat.reduceAdd, Nat.reduceLeDiff, Nat.reduceSub, Int.reduceToNat, reduceCtorEq, cntH, cntR, List.take_length]
      refine gO ?_
      exact AE.retD [4, 2, 1] rfl ⟨rfl, rfl, trivial⟩ (by simp only [go_sem, Nat.reduceAdd, Nat.reduceLeDiff, Nat.reduceSub, Int.reduceToNat, reduceCtorEq, dropOk, noMen, AV.mens, AV.men, mens_vN, Bool.or_false]; first | done | rfl) ⟨by rw [hlen]; rfl, rfl⟩
    · exact absurd h1 (Nat.lt_irrefl _)
end Go.Proofs.YtpfohmboflcneaaGreatDoor
end

section
namespace Go.Proofs.YtpfohmboflcneaaGreatDoor
open Go Go.AL Go.RowKit
set_option maxRecDepth 10000
set_option maxHeartbeats 4000000
def unseen (bs seen : List Nat) : Nat := (bs.filter fun n => decide (n ∉ seen)).length
theorem unseen_lt {bs seen : List Nat} {n : Nat} (h : n ∈ bs) (hs : n ∉ seen) : unseen bs (seen ++ [n]) < unseen bs seen := by
  induction bs with
  | nil => cases h
  | cons a l ih =>
    have hle : ∀ l : List Nat, unseen l (seen ++ [n]) ≤ unseen l seen := fun l => by
      induction l with
      | nil => exact Nat.le_refl _
      | cons b m ihm =>
        unfold unseen at ihm ⊢
        by_cases hb : b ∈ seen
        · rw [List.filter_cons_of_neg (by simp [hb]), List.filter_cons_of_neg (by simp [hb])]; exact ihm
        · by_cases hbn : b = n
          · rw [List.filter_cons_of_neg (by simp [hbn]), List.filter_cons_of_pos (by simp [hb]), List.length_cons]; omega
          · rw [List.filter_cons_of_pos (by simp [hb, hbn]), List.filter_cons_of_pos (by simp [hb]), List.length_cons, List.length_cons]; omega
    by_cases han : a = n
    · subst han
      have := hle l
      unfold unseen at this ⊢
      rw [List.filter_cons_of_neg (by simp), List.filter_cons_of_pos (by simp [hs]), List.length_cons]; omega
    · have h1 : n ∈ l := by rcases List.mem_cons.1 h with e | e; exact absurd e.symm han; exact e
      have h2 := ih h1
      unfold unseen at h2 ⊢
      by_cases ha : a ∈ seen
      · rw [List.filter_cons_of_neg (by simp [ha]), List.filter_cons_of_neg (by simp [ha])]; exact h2
      · rw [List.filter_cons_of_pos (by simp [ha, han]), List.filter_cons_of_pos (by simp [ha]), List.length_cons, List.length_cons]; omega
def covM (a b : List (Int × Int)) : Bool := b.all fun p => decide (p.2 ≤ (lkI a p.1).getD 0)
theorem covers_spec (a b : List (Int × Int)) (ha : ndI a) (hb : ndI b) : ACall Tryz.prog 209 [.mp 0, .mp 1] [(1, .var (.map (kI b)) (vN b)), (0, .var (.map (kI a)) (vN a))] (fun r H' => r = Bv (covM a b) ∧ H' = [(1, .var (.map (kI b)) (vN b)), (0, .var (.map (kI a)) (vN a))]) := by
  refine ACall.walk [0, 1, 4, 5, 6, 8, 10, 18] [] Tryz.func209 rfl Tryz.ntmps209 (by kernel_rfl) (by rfl) rfl fun W own I0 φ0 lay => ?_
  refine gO ?_
  refine AQ.mrange (by kernel_rfl) rfl rfl u149 fun bs clock hst => ?_
  have hcl : (vN b).length = bs.length := by rw [← hst.len, vN_len, kI_len]
  have hone := kI_one b
  refine sI ?_
  refine gO ?_
  refine AP.loop rfl (α := List Nat) (fun _ => [(0, .mp 0), (8, .ob 2 0)]) (fun seen => [(2, .var (.raw (iterO clock seen clock)) [.mp 1]), (1, .var (.raw (mapO (kI b) bs clock)) (vN b)), (0, .var (.map (kI a)) (vN a))])
    (fun seen => ∀ (j n : Nat) (p : Int × Int), bs[j]? = some n → n ∈ seen → b[j]? = some p → p.2 ≤ (lkI a p.1).getD 0) (fun seen => unseen bs seen) [] (fun _ _ _ _ h _ => by cases h) (sU) rfl fun seen hseen => ?_
  refine gO ?_
  refine AQ.mnext (by kernel_rfl) rfl rfl rfl hst rfl rfl hone hcl (fun hall => ?_) (fun j n key y hbn hns hkey hy => ?_)
  · have hgd : covM a b = true := by
      rw [covM, List.all_eq_true]
      intro p hp
      obtain ⟨j, hj⟩ := List.mem_iff_getElem?.1 hp
      have hjl : j < bs.length := by have := (List.getElem?_eq_some_iff.1 hj).1; rw [← hst.len, kI_len]; exact this
      exact decide_eq_true (hseen j bs[j] p (List.getElem?_eq_getElem hjl) (hall _ (List.getElem_mem _)) hj)
    refine sI ?_
    refine gO ?_
    refine AE.mback 1 rfl hst hcl ?_
    refine sI ?_
    exact AE.retD [2] rfl ⟨rfl, trivial⟩ (by simp only [go_sem, Nat.reduceAdd, Nat.reduceLeDiff, Nat.reduceSub, Int.reduceToNat, reduceCtorEq, dropOk, noMen, AV.mens, AV.men, mens_vN, Bool.or_false]; first | done | rfl) ⟨by rw [hgd]; rfl, rfl⟩
  · obtain ⟨p, hp, rfl⟩ := kI_inv hkey
    have hy2 := vN_get hp
    rw [hy] at hy2
    cases hy2
    refine sI ?_
    refine gO ?_
    refine AQ.mentry (by kernel_rfl) rfl rfl rfl hst hone hcl hbn hkey hy ?_
    refine sI ?_
    refine gO ?_
    cases hq : ixI a p.1 with
    | none =>
      refine AQ.lookN (by kernel_rfl) rfl rfl rfl u149 u3 (kI_ok _) rfl (kI_not hq) rfl rfl ?_
      have hv : (lkI a p.1).getD 0 = 0 := by rw [(ixI_none hq).1]; rfl
      refine sI ?_
      refine gO ?_
      refine AP.cond rfl rfl (fun h5 => ?_) (fun h5 => ?_)
      · have h5 : ¬ p.2 ≤ (lkI a p.1).getD 0 := by rw [hv]; simp at h5; omega
        have hgd : covM a b = false := by
          rw [← Bool.not_eq_true, covM, List.all_eq_true]
          exact fun hc => h5 (by simpa using hc p (List.mem_of_getElem? hp))
        refine gO ?_
        refine AE.mback 1 rfl hst hcl ?_
        refine sI ?_
        exact AE.retD [2] rfl ⟨rfl, trivial⟩ (by simp only [go_sem, Nat.reduceAdd, Nat.reduceLeDiff, Nat.reduceSub, Int.reduceToNat, reduceCtorEq, dropOk, noMen, AV.mens, AV.men, mens_vN, Bool.or_false]; first | done | rfl) ⟨by rw [hgd]; rfl, rfl⟩
      · have h5 : p.2 ≤ (lkI a p.1).getD 0 := by rw [hv]; simp at h5; omega
        refine gO ?_
        refine AE.round (seen ++ [n]) (fun j' n' v' h7 h8 h9 => ?_) (unseen_lt (List.mem_of_getElem? hbn) hns) (sU) rfl
        rcases List.mem_append.1 h8 with h8 | h8
        · exact hseen j' n' v' h7 h8 h9
        · have e1 : n' = n := by simpa using h8
          subst e1
          have e2 : j' = j := by
            obtain ⟨a1, b1⟩ := List.getElem?_eq_some_iff.1 h7
            obtain ⟨a2, b2⟩ := List.getElem?_eq_some_iff.1 hbn
            exact (List.getElem_inj hst.nd).1 (b1.trans b2.symm)
          subst e2
          rw [hp] at h9
          cases h9
          exact h5
    | some j' =>
      obtain ⟨x, h1, h2⟩ := ixI_some hq
      have hv : (lkI a p.1).getD 0 = x := by rw [h2]; rfl
      refine AQ.lookF j' (by kernel_rfl) rfl rfl rfl u149 u3 (kI_ok _) rfl (List.mem_of_getElem? (show (kI a)[j']? = some (.int .i64 p.1) from kI_get (p := (p.1, x)) h1)) (fun i hi => kI_uniq ha h1 hi) (show (vN a)[j']? = some (Iv x) from vN_get (p := (p.1, x)) h1) ?_
      refine sI ?_
      refine gO ?_
      refine AP.cond rfl rfl (fun h5 => ?_) (fun h5 => ?_)
      · have h5 : ¬ p.2 ≤ (lkI a p.1).getD 0 := by rw [hv]; simp at h5; omega
        have hgd : covM a b = false := by
          rw [← Bool.not_eq_true, covM, List.all_eq_true]
          exact fun hc => h5 (by simpa using hc p (List.mem_of_getElem? hp))
        refine gO ?_
        refine AE.mback 1 rfl hst hcl ?_
        refine sI ?_
        exact AE.retD [2] rfl ⟨rfl, trivial⟩ (by simp only [go_sem, Nat.reduceAdd, Nat.reduceLeDiff, Nat.reduceSub, Int.reduceToNat, reduceCtorEq, dropOk, noMen, AV.mens, AV.men, mens_vN, Bool.or_false]; first | done | rfl) ⟨by rw [hgd]; rfl, rfl⟩
      · have h5 : p.2 ≤ (lkI a p.1).getD 0 := by rw [hv]; simp at h5; omega
        refine gO ?_
        refine AE.round (seen ++ [n]) (fun j' n' v' h7 h8 h9 => ?_) (unseen_lt (List.mem_of_getElem? hbn) hns) (sU) rfl
        rcases List.mem_append.1 h8 with h8 | h8
        · exact hseen j' n' v' h7 h8 h9
        · have e1 : n' = n := by simpa using h8
          subst e1
          have e2 : j' = j := by
            obtain ⟨a1, b1⟩ := List.getElem?_eq_some_iff.1 h7
            obtain ⟨a2, b2⟩ := List.getElem?_eq_some_iff.1 hbn
            exact (List.getElem_inj hst.nd).1 (b1.trans b2.symm)
          subst e2
          rw [hp] at h9
          cases h9
          exact h5
end Go.Proofs.YtpfohmboflcneaaGreatDoor
end

section
namespace Go.Proofs.YtpfohmboflcneaaGreatDoor
open Go Go.AL Go.RowKit
set_option maxRecDepth 10000
set_option maxHeartbeats 4000000
theorem covM_T (s t : Tm) : covM (cmS (sbT s)) (cmS (sbT t)) = covT s t := by
  rw [Bool.eq_iff_iff, covT_iff, covM, List.all_eq_true]
  constructor
  · intro h v
    rw [vsT_sb, vsT_sb]
    have h1 := cmS_lk (sbT t) v
    have h2 := cmS_lk (sbT s) v
    cases hq : lkI (cmS (sbT t)) v with
    | none => rw [hq] at h1; simp only [Option.getD_none] at h1; omega
    | some x =>
      rw [hq] at h1
      have := h (v, x) (lkI_mem hq)
      simp only [decide_eq_true_eq, h2] at this
      simp only [Option.getD_some] at h1
      omega
  · intro h p hp
    have h1 := cmS_lk (sbT t) p.1
    rw [ndI_lk (cmS_nd _) hp, Option.getD_some] at h1
    rw [decide_eq_true_eq, cmS_lk, h1]
    have := h p.1
    rw [vsT_sb, vsT_sb] at this
    omega
theorem nanI_spec (a : Int) : PFn Tryz.prog 229 [Iv a] (Bv false) := by
  refine ACall.walk [0, 2] [] Tryz.func229 rfl Tryz.ntmps229 (by kernel_rfl) (by rfl) rfl fun W own I0 φ0 lay => ?_
  refine gO ?_
  exact AE.ret0 rfl ⟨rfl, trivial⟩ rfl ⟨rfl, by simp [tupOf]; rfl⟩
theorem nanS_spec (a : List UInt8) : PFn Tryz.prog 165 [Sv a] (Bv false) := by
  refine ACall.walk [0, 2] [] Tryz.func165 rfl Tryz.ntmps165 (by kernel_rfl) (by rfl) rfl fun W own I0 φ0 lay => ?_
  refine gO ?_
  exact AE.ret0 rfl ⟨rfl, trivial⟩ rfl ⟨rfl, by simp [tupOf]; rfl⟩
def cmI (a b : Int) : Int := if a < b then -1 else if b < a then 1 else 0
def cmN (a b : List UInt8) : Int := if a < b then -1 else if b < a then 1 else 0
theorem cmpI_spec (a b : Int) : PFn Tryz.prog 211 [Iv a, Iv b] (Iv (cmI a b)) := by
  refine ACall.walk [0, 1, 4, 5, 6, 11, 12, 13, 16, 19] [] Tryz.func211 rfl Tryz.ntmps211 (by kernel_rfl) (by rfl) rfl fun W own I0 φ0 lay => ?_
  refine gO ?_
  refine AQ.fn (by kernel_rfl) rfl rfl rfl (nanI_spec a) rfl ?_
  refine sI ?_
  refine gO ?_
  refine AQ.fn (by kernel_rfl) rfl rfl rfl (nanI_spec b) rfl ?_
  refine sI ?_
  refine gO ?_
  refine AP.cond rfl rfl (fun h => ?_) (fun h => ?_)
  · refine gO ?_
    exact AE.ret0 rfl ⟨rfl, trivial⟩ rfl ⟨rfl, by rw [cmI, if_pos (by simpa using h)]; rfl⟩
  · refine gO ?_
    refine AP.cond rfl rfl (fun h2 => ?_) (fun h2 => ?_)
    · refine gO ?_
      exact AE.ret0 rfl ⟨rfl, trivial⟩ rfl ⟨rfl, by rw [cmI, if_neg (by simpa using h), if_pos (by simpa using h2)]; rfl⟩
    · refine gO ?_
      exact AE.ret0 rfl ⟨rfl, trivial⟩ rfl ⟨rfl, by rw [cmI, if_neg (by simpa using h), if_neg (by simpa using h2)]; rfl⟩
theorem less_lt : ∀ a b : List UInt8, Op.bytesLess a b = decide (a < b)
  | [], [] => by simp [Op.bytesLess]
  | [], _ :: _ => by simp [Op.bytesLess]
  | _ :: _, [] => by simp [Op.bytesLess]
  | x :: a, y :: b => by
    rw [Op.bytesLess, less_lt a b, Bool.eq_iff_iff]
    simp only [Bool.or_eq_true, Bool.and_eq_true, decide_eq_true_eq, beq_iff_eq, List.cons_lt_cons_iff]
theorem ltS_of {a b : List UInt8} (_ : Op.bytesLess a b = false) (h2 : (!(Op.bytesLess a b || a == b)) = true) : b < a := by
  simp only [less_lt, Bool.not_eq_true', Bool.or_eq_false_iff, decide_eq_false_iff_not, beq_eq_false_iff_ne] at h2
  rcases lt_total a b with h | h | h
  · exact absurd h h2.1
  · exact absurd h h2.2
  · exact h
theorem ltS_not {a b : List UInt8} (h1 : Op.bytesLess a b = false) (h2 : (!(Op.bytesLess a b || a == b)) = false) : ¬ b < a := by
  intro hc
  rw [h1, Bool.false_or, Bool.not_eq_false', beq_iff_eq] at h2
  subst h2
  exact List.lt_irrefl _ hc
theorem cmpS_spec (a b : List UInt8) : PFn Tryz.prog 92 [Sv a, Sv b] (Iv (cmN a b)) := by
  refine ACall.walk [0, 1, 4, 5, 6, 11, 12, 13, 16, 19] [] Tryz.func92 rfl Tryz.ntmps92 (by kernel_rfl) (by rfl) rfl fun W own I0 φ0 lay => ?_
  refine gO ?_
  refine AQ.fn (by kernel_rfl) rfl rfl rfl (nanS_spec a) rfl ?_
  refine sI ?_
  refine gO ?_
  refine AQ.fn (by kernel_rfl) rfl rfl rfl (nanS_spec b) rfl ?_
  refine sI ?_
  refine gO ?_
  refine AP.cond rfl rfl (fun h => ?_) (fun h => ?_)
  · refine gO ?_
    exact AE.ret0 rfl ⟨rfl, trivial⟩ rfl ⟨rfl, by rw [cmN, if_pos (by simpa [less_lt] using h)]; rfl⟩
  · refine gO ?_
    refine AP.cond rfl rfl (fun h2 => ?_) (fun h2 => ?_)
    · refine gO ?_
      exact AE.ret0 rfl ⟨rfl, trivial⟩ rfl ⟨rfl, by rw [cmN, if_neg (by simpa [less_lt] using h), if_pos (ltS_of h h2)]; rfl⟩
    · refine gO ?_
      exact AE.ret0 rfl ⟨rfl, trivial⟩ rfl ⟨rfl, by rw [cmN, if_neg (by simpa [less_lt] using h), if_neg (ltS_not h h2)]; rfl⟩
end Go.Proofs.YtpfohmboflcneaaGreatDoor
end

section
namespace Go.Proofs.YtpfohmboflcneaaGreatDoor
open Go Go.AL Go.RowKit
set_option maxRecDepth 10000
set_option maxHeartbeats 4000000
@[go_sem] theorem shs_vN (k : Nat) : ∀ m : List (Int × Int), AV.shs k (vN m) = vN m
  | [] => rfl
  | _ :: m => by rw [vN, List.map_cons, AV.shs, ← vN, shs_vN k m]; rfl
theorem or2_spec (a b : Int) : PFn Tryz.prog 210 [.im (.sl 1 [[Ii a], [Ii b]])] (Iv (if a ≠ 0 then a else b)) := by
  refine ACall.walk [0, 2, 3, 5, 6, 7, 8, 9, 14] [] Tryz.func210 rfl Tryz.ntmps210 (by kernel_rfl) (by rfl) rfl fun W own I0 φ0 lay => ?_
  refine gO ?_
  refine AP.loop rfl (α := Nat) (fun k => [(3, Iv 0), (6, .im (.sl 1 [[Ii a], [Ii b]])), (7, Iv 2), (8, Iv k)]) (fun _ => []) (fun k => k ≤ 2 ∧ (0 < k → a = 0) ∧ (1 < k → b = 0)) (fun k => 2 - k) 0 ⟨by omega, by omega, by omega⟩ (sU) rfl fun k ⟨hk, h1, h2⟩ => ?_
  have hw := wr (x := (k : Int) + 1) (by omega)
  obtain rfl | rfl | rfl : k = 0 ∨ k = 1 ∨ k = 2 := by omega
  · refine gE (an @List.getD_cons_zero.{0} (an @List.length_cons.{0} @List.length_nil.{0})) ?_
    refine AP.cond rfl rfl (fun h => ?_) (fun h => ?_)
    · refine gO ?_
      exact AE.ret0 rfl ⟨rfl, trivial⟩ rfl ⟨rfl, by rw [if_pos (by simpa using h)]; rfl⟩
    · refine gO ?_
      exact AE.round 1 ⟨by omega, fun _ => by simpa using h, by omega⟩ (by omega) (sU) rfl
  · refine gE (an @List.getD_cons_zero.{0} (an @List.getD_cons_succ.{0} (an @List.length_cons.{0} @List.length_nil.{0}))) ?_
    have ha := h1 (by omega)
    refine AP.cond rfl rfl (fun h => ?_) (fun h => ?_)
    · refine gO ?_
      exact AE.ret0 rfl ⟨rfl, trivial⟩ rfl ⟨rfl, by rw [if_neg (by simpa using ha)]; rfl⟩
    · refine gO ?_
      exact AE.round 2 ⟨by omega, fun _ => ha, fun _ => by simpa using h⟩ (by omega) (sU) rfl
  · have ha := h1 (by omega)
    have hb := h2 (by omega)
    refine gO ?_
    exact AE.ret0 rfl ⟨rfl, trivial⟩ rfl ⟨rfl, by rw [if_neg (by simpa using ha), hb]; rfl⟩
theorem cmp_q {s t : Tm} {q : Int} (hg : gtT s t = if s.xs.length ≠ t.xs.length then decide (t.xs.length < s.xs.length) else if s.nm ≠ t.nm then decide (t.nm < s.nm) else gtTs s.xs t.xs)
    (hq : (if cmI s.xs.length t.xs.length ≠ 0 then cmI s.xs.length t.xs.length else cmN s.nm t.nm) = q) : (q ≠ 0 → gtT s t = decide (0 < q)) ∧ (q = 0 → s.xs.length = t.xs.length ∧ s.nm = t.nm ∧ gtT s t = gtTs s.xs t.xs) := by
  have hI : cmI s.xs.length t.xs.length = if s.xs.length < t.xs.length then -1 else if t.xs.length < s.xs.length then 1 else 0 := by
    rw [cmI]; simp only [Int.ofNat_lt]
  rw [hI, cmN] at hq
  by_cases h1 : s.xs.length = t.xs.length
  · rw [if_neg (by omega : ¬ s.xs.length < t.xs.length), if_neg (by omega : ¬ t.xs.length < s.xs.length), if_neg (by decide)] at hq
    rw [if_neg (by omega)] at hg
    rcases lt_total s.nm t.nm with h2 | h2 | h2
    · rw [if_pos h2] at hq
      rw [if_pos (fun e => by rw [e] at h2; exact List.lt_irrefl _ h2), decide_eq_false (fun h3 => List.lt_asymm h2 h3)] at hg
      subst hq
      exact ⟨fun _ => hg, fun h => absurd h (by decide)⟩
    · rw [h2, if_neg (List.lt_irrefl _), if_neg (List.lt_irrefl _)] at hq
      rw [if_neg (by simpa using h2)] at hg
      subst hq
      exact ⟨fun h => absurd rfl h, fun _ => ⟨h1, h2, hg⟩⟩
    · rw [if_neg (fun h3 => List.lt_asymm h2 h3), if_pos h2] at hq
      rw [if_pos (fun e => by rw [e] at h2; exact List.lt_irrefl _ h2), decide_eq_true h2] at hg
      subst hq
      exact ⟨fun _ => hg, fun h => absurd h (by decide)⟩
  · rw [if_pos h1] at hg
    by_cases h2 : s.xs.length < t.xs.length
    · rw [if_pos h2, if_pos (by decide)] at hq
      rw [decide_eq_false (by omega)] at hg
      subst hq
      exact ⟨fun _ => hg, fun h => absurd h (by decide)⟩
    · rw [if_neg h2, if_pos (show t.xs.length < s.xs.length by omega), if_pos (by decide)] at hq
      rw [decide_eq_true (by omega)] at hg
      subst hq
      exact ⟨fun _ => hg, fun h => absurd h (by decide)⟩
theorem greater_spec (s t : Tm) (hs : tmL s) (ht : tmL t) (hsw : wT s ≤ 1000000) (htw : wT t ≤ 1000000) : PFn Tryz.prog 168 [tmV s, tmV t] (Bv (gtT s t)) := by
  have hs0 := tmL_eq.1 hs
  have ht0 := tmL_eq.1 ht
  have hg := gtT_eq s t
  have hc1 := count_spec s hs hsw
  have hc2 := count_spec t ht htw
  have hcv := covers_spec (cmS (sbT s)) (cmS (sbT t)) (cmS_nd _) (cmS_nd _)
  rw [covM_T] at hcv
  refine ACall.walk [0, 1, 2, 3, 4, 5, 6, 7, 8, 9, 10, 21, 26, 33, 57, 62, 63, 64, 77] [] Tryz.func168 rfl Tryz.ntmps168 (by kernel_rfl) (by rfl) rfl fun W own I0 φ0 lay => ?_
  refine gO ?_
  refine AQ.callv (by kernel_rfl) rfl rfl rfl hc1 fun r' H' ⟨e1, e2⟩ => ?_
  subst e1; subst e2
  refine sI ?_
  refine gO ?_
  refine AQ.callv (by kernel_rfl) rfl rfl rfl hc2 fun r' H' ⟨e1, e2⟩ => ?_
  subst e1; subst e2
  refine sI ?_
  refine gO ?_
  refine AQ.callH [(1, 1), (0, 0)] (by kernel_rfl) rfl rfl rfl rfl rfl rfl (by refine ⟨?_, ?_, trivial⟩ <;> (rw [rnO, rns_vN]; rfl)) rfl hcv fun r' H' ⟨e1, e2⟩ => ?_
  subst e1; subst e2
  refine sH ?_
  refine gO ?_
  refine AP.cond rfl rfl (fun h1 => ?_) (fun h1 => ?_)
  · refine gO ?_
    exact AE.retD [1, 0] rfl ⟨rfl, trivial⟩ (by simp only [go_sem, Nat.reduceAdd, Nat.reduceLeDiff, Nat.reduceSub, Int.reduceToNat, reduceCtorEq, dropOk, noMen, AV.mens, AV.men, mens_vN, Bool.or_false]; first | done | rfl) ⟨rfl, by rw [hg, if_pos (by simpa using h1)]; rfl⟩
  rw [if_neg (by simpa using h1)] at hg
  refine gO ?_
  refine AP.cond rfl rfl (fun h2 => ?_) (fun h2 => ?_)
  · refine gO ?_
    refine AE.retD [1, 0] rfl ⟨rfl, trivial⟩ (by simp only [go_sem, Nat.reduceAdd, Nat.reduceLeDiff, Nat.reduceSub, Int.reduceToNat, reduceCtorEq, dropOk, noMen, AV.mens, AV.men, mens_vN, Bool.or_false]; first | done | rfl) ⟨rfl, ?_⟩
    rw [hg, if_pos (by simp at h2; omega), show decide (wT t < wT s) = decide ((wT t : Int) < wT s) by rw [decide_eq_decide]; omega]
    simp [tupOf]; rfl
  rw [if_neg (by simp at h2; omega)] at hg
  refine gO ?_
  refine AP.cond rfl rfl (fun h3 => ?_) (fun h3 => ?_)
  · refine gO ?_
    exact AE.retD [1, 0] rfl ⟨rfl, trivial⟩ (by simp only [go_sem, Nat.reduceAdd, Nat.reduceLeDiff, Nat.reduceSub, Int.reduceToNat, reduceCtorEq, dropOk, noMen, AV.mens, AV.men, mens_vN, Bool.or_false]; first | done | rfl) ⟨rfl, by rw [hg, if_pos (by simpa using h3)]; rfl⟩
  rw [if_neg (by simpa using h3)] at hg
  refine gE @tmR_len ?_
  refine AP.drawE 15 (Tree.node [] [0, 1, 2, 3, 4, 5, 7, 8, 9, 10] [6] [Tree.node [7, 8, 9, 10] [] [11] [Tree.node [] [] [12] [Tree.node [] [] [13] [Tree.node [] [14] [] []]]]]) (by kernel_rfl) rfl (by kernel_rfl) (by kernel_rfl) ?_
  refine vd_node ?_
  refine sE @tmR_len ?_
  refine AQ.fn (by kernel_rfl) rfl rfl rfl (cmpI_spec s.xs.length t.xs.length) rfl ?_
  refine sI ?_
  refine AQ.nx rfl ?_
  refine sI ?_
  refine AQ.fn (by kernel_rfl) rfl rfl rfl (cmpS_spec s.nm t.nm) rfl ?_
  refine sI ?_
  refine AQ.nx rfl ?_
  refine sI ?_
  refine AQ.go (by kernel_rfl) ?_
  refine sI ?_
  refine AQ.nx rfl ?_
  refine sI ?_
  refine AQ.fn (by kernel_rfl) rfl rfl rfl (or2_spec (cmI s.xs.length t.xs.length) (cmN s.nm t.nm)) rfl ?_
  refine sI ?_
  refine AQ.nx rfl ?_
  refine sI ?_
  refine AQ.done ?_
  obtain ⟨q, hq⟩ : ∃ q, (if cmI s.xs.length t.xs.length ≠ 0 then cmI s.xs.length t.xs.length else cmN s.nm t.nm) = q := ⟨_, rfl⟩
  obtain ⟨q1, q2⟩ := cmp_q hg hq
  rw [hq]
  refine gO ?_
  refine AP.cond rfl rfl (fun h4 => ?_) (fun h4 => ?_)
  · refine gO ?_
    exact AE.retD [1, 0] rfl ⟨rfl, trivial⟩ (by simp only [go_sem, Nat.reduceAdd, Nat.reduceLeDiff, Nat.reduceSub, Int.reduceToNat, reduceCtorEq, dropOk, noMen, AV.mens, AV.men, mens_vN, Bool.or_false]; first | done | rfl) ⟨rfl, by rw [q1 (by simpa using h4)]; simp [tupOf]; rfl⟩
  obtain ⟨hl, hn, hm⟩ := q2 (by simpa using h4)
  refine gE @tmR_len ?_
  refine AP.loop rfl (α := Nat) (fun k => [(2, .im (tmP s)), (3, .im (tmP t)), (62, Iv s.xs.length), (63, Iv k)]) (fun _ => [(1, .var (.map (kI (cmS (sbT t)))) (vN (cmS (sbT t)))), (0, .var (.map (kI (cmS (sbT s)))) (vN (cmS (sbT s))))]) (fun k => k ≤ s.xs.length ∧ gtT s t = gtTs (s.xs.drop k) (t.xs.drop k)) (fun k => s.xs.length - k) 0 ⟨by omega, hm⟩ (sU) rfl fun k ⟨hk, hm⟩ => ?_
  rcases Nat.eq_or_lt_of_le hk with hke | hlt
  · rw [hke, List.drop_length, hl, List.drop_length, gtTs] at hm
    refine gE @tmR_len ?_
    refine cF ?_
    refine gO ?_
    exact AE.retD [1, 0] rfl ⟨rfl, trivial⟩ (by simp only [go_sem, Nat.reduceAdd, Nat.reduceLeDiff, Nat.reduceSub, Int.reduceToNat, reduceCtorEq, dropOk, noMen, AV.mens, AV.men, mens_vN, Bool.or_false]; first | done | rfl) ⟨rfl, by rw [hm]; rfl⟩
    all_goals simp
  · obtain ⟨u, hu, hrow⟩ := tmR_get s.xs k hlt
    obtain ⟨w, hw1, hrow2⟩ := tmR_get t.xs k (by omega)
    rw [drop_cons hu, drop_cons hw1, gtTs] at hm
    have hw := wr (x := (k : Int) + 1) (by omega)
    have hul := tmsL_get hs0.2.2 hu
    have hwl := tmsL_get ht0.2.2 hw1
    have huw : wT u < wT s := wT_mem (List.mem_of_getElem? hu)
    have hww : wT w < wT t := wT_mem (List.mem_of_getElem? hw1)
    refine gE @tmR_len ?_
    refine cT ?_
    refine gO ?_
    refine AP.drawE 12 (Tree.node [] [0, 1, 2, 3, 4, 5, 6, 7, 8, 9] [10] [Tree.node [] [11] [] []]) (by kernel_rfl) rfl (by kernel_rfl) (by kernel_rfl) ?_
    refine vd_node ?_
    refine sE (an @hrow (an @hrow2 @tmR_len)) ?_
    refine ⟨by omega, by omega, ?_⟩
    refine AQ.fn (by kernel_rfl) rfl rfl rfl (equal_spec u w hul) rfl ?_
    refine sI ?_
    refine AQ.nx rfl ?_
    refine sI ?_
    refine AQ.done ?_
    refine gO ?_
    refine AP.cond rfl rfl (fun h5 => ?_) (fun h5 => ?_)
    · have h5 : eqT u w = false := by simpa using h5
      rw [h5, if_neg (by decide)] at hm
      refine gO ?_
      refine AP.drawE 12 (Tree.node [] [0, 1, 2, 3, 4, 5, 6, 7, 8, 9] [10] [Tree.node [] [11] [] []]) (by kernel_rfl) rfl (by kernel_rfl) (by kernel_rfl) ?_
      refine vd_node ?_
      refine sE (an @hrow (an @hrow2 @tmR_len)) ?_
      refine ⟨by omega, by omega, ?_⟩
      refine AQ.fn (by kernel_rfl) rfl rfl rfl (greater_spec u w hul hwl (by omega) (by omega)) rfl ?_
      refine sI ?_
      refine AQ.nx rfl ?_
      refine sI ?_
      refine AQ.done ?_
      refine gO ?_
      exact AE.retD [1, 0] rfl ⟨rfl, trivial⟩ (by simp only [go_sem, Nat.reduceAdd, Nat.reduceLeDiff, Nat.reduceSub, Int.reduceToNat, reduceCtorEq, dropOk, noMen, AV.mens, AV.men, mens_vN, Bool.or_false]; first | done | rfl) ⟨rfl, by rw [hm]; rfl⟩
    · have h5 : eqT u w = true := by simpa using h5
      rw [if_pos h5] at hm
      refine gE @hw ?_
      exact AE.round (k + 1) ⟨by omega, hm⟩ (by omega) (sU) rfl
termination_by SizeOf.sizeOf s
decreasing_by exact tm_mem hu
end Go.Proofs.YtpfohmboflcneaaGreatDoor
end

section
namespace Go.Proofs.YtpfohmboflcneaaGreatDoor
open Go Go.AL Go.RowKit
set_option maxRecDepth 10000
set_option maxHeartbeats 4000000
theorem compare_spec (s t : Tm) (hs : tmL s) (ht : tmL t) (hsw : wT s ≤ 1000000) (htw : wT t ≤ 1000000) : PFn Tryz.prog 101 [tmV s, tmV t] (Iv (cmpT s t)) := by
  refine ACall.walk [0, 1, 2, 3, 4, 5, 9, 13] [] Tryz.func101 rfl Tryz.ntmps101 (by kernel_rfl) (by rfl) rfl fun W own I0 φ0 lay => ?_
  refine gO ?_
  refine AQ.fn (by kernel_rfl) rfl rfl rfl (equal_spec s t hs) rfl ?_
  refine sI ?_
  refine gO ?_
  refine AP.cond rfl rfl (fun h1 => ?_) (fun h1 => ?_)
  · refine gO ?_
    exact AE.ret0 rfl ⟨rfl, trivial⟩ rfl ⟨rfl, by rw [cmpT, if_pos (by simpa using h1)]; rfl⟩
  refine gO ?_
  refine AQ.fn (by kernel_rfl) rfl rfl rfl (greater_spec s t hs ht hsw htw) rfl ?_
  refine sI ?_
  refine gO ?_
  refine AP.cond rfl rfl (fun h2 => ?_) (fun h2 => ?_)
  · refine gO ?_
    exact AE.ret0 rfl ⟨rfl, trivial⟩ rfl ⟨rfl, by rw [cmpT, if_neg (by simpa using h1), if_pos (by simpa using h2)]; rfl⟩
  refine gO ?_
  refine AQ.fn (by kernel_rfl) rfl rfl rfl (greater_spec t s ht hs htw hsw) rfl ?_
  refine sI ?_
  refine gO ?_
  refine AP.cond rfl rfl (fun h3 => ?_) (fun h3 => ?_)
  · refine gO ?_
    exact AE.ret0 rfl ⟨rfl, trivial⟩ rfl ⟨rfl, by rw [cmpT, if_neg (by simpa using h1), if_neg (by simpa using h2), if_pos (by simpa using h3)]; rfl⟩
  · refine gO ?_
    exact AE.ret0 rfl ⟨rfl, trivial⟩ rfl ⟨rfl, by rw [cmpT, if_neg (by simpa using h1), if_neg (by simpa using h2), if_neg (by simpa using h3)]; rfl⟩
theorem single_spec (t : Tm) : PFn Tryz.prog 173 [tmV t] (clV (sgC t)) := by
  have e : clV (sgC t) = .im (.sl 3 [[Bi false, Si [80], .sl 3 [[Si t.nm, Ii t.ix, .sl 3 (tmR t.xs)]]]]) := by
    rw [clV, ltR, sgC, List.map_cons, List.map_nil, ltRow]
    simp only [tmR, tmC_eq]
  rw [e]
  refine ACall.walk [0, 1, 2] [] Tryz.func173 rfl Tryz.ntmps173 (by kernel_rfl) (by rfl) rfl fun W own I0 φ0 lay => ?_
  refine gO ?_
  exact AE.ret0 rfl ⟨rfl, trivial⟩ rfl ⟨rfl, rfl⟩
def ckS : List Tm → Int
  | [] => 0
  | t :: l => if ckC 4 9 2 3 (sgC t) ≠ 0 then ckC 4 9 2 3 (sgC t) else ckS l
theorem checkTerms_spec (l : List Tm) (hl : l.length ≤ 1000000) (hs : ∀ t ∈ l, tmL t) : PFn Tryz.prog 111 [.im (.sl 3 (tmR l))] (Iv (ckS l)) := by
  refine ACall.walk [0, 2, 4, 5, 6, 7, 8, 9, 16] [4] Tryz.func111 rfl Tryz.ntmps111 (by kernel_rfl) (by rfl) rfl fun W own I0 φ0 lay => ?_
  refine gE @tmR_len ?_
  refine AP.loop rfl (α := Nat) (fun k => [(6, .im (.sl 3 (tmR l))), (7, Iv l.length), (8, Iv k)]) (fun _ => []) (fun k => k ≤ l.length ∧ ckS l = ckS (l.drop k)) (fun k => l.length - k) 0 ⟨by omega, rfl⟩ (sU) rfl fun k ⟨hk, hm⟩ => ?_
  rcases Nat.eq_or_lt_of_le hk with hke | hlt
  · rw [hke, List.drop_length, ckS] at hm
    refine gO ?_
    refine cF ?_
    refine gO ?_
    exact AE.ret0 rfl ⟨rfl, trivial⟩ rfl ⟨rfl, by rw [hm]; rfl⟩
  · obtain ⟨u, hu, hrow⟩ := tmR_get l k hlt
    have hw := wr (x := (k : Int) + 1) (by omega)
    rw [drop_cons hu, ckS] at hm
    refine gE @tmR_len ?_
    refine cT ?_
    refine gE (an @hrow @tmR_len) ?_
    refine AQ.fix 0 rfl rfl ?_
    refine sI ?_
    refine AQ.fn (by kernel_rfl) rfl rfl rfl (single_spec u) rfl ?_
    refine sI ?_
    refine gO ?_
    refine AQ.fn (by kernel_rfl) rfl rfl rfl (check_spec (sgC u) (sgC_L (hs u (List.mem_of_getElem? hu)))) rfl ?_
    refine sI ?_
    refine gO ?_
    refine AP.cond rfl rfl (fun h => ?_) (fun h => ?_)
    · rw [if_pos (by simpa using h)] at hm
      refine gO ?_
      exact AE.ret0 rfl ⟨rfl, trivial⟩ rfl ⟨rfl, by rw [hm]; rfl⟩
    · rw [if_neg (by simpa using h)] at hm
      refine gE @hw ?_
      exact AE.round (k + 1) ⟨by omega, hm⟩ (by omega) (sU) rfl
def cmT (s t : Tm) : Int × Int := if ckS [s, t] ≠ 0 then (0, ckS [s, t]) else (cmpT s t, 0)
theorem ckS_1 {s : Tm} (h : ¬ ckC 4 9 2 3 (sgC s) ≠ 0) : wT s ≤ 4000 := by
  have h0 : ckC 4 9 2 3 (sgC s) = 0 := by simpa using h
  rw [ckC_ok (by decide) (by decide) (by decide) (by decide)] at h0
  have := h0.2.1
  simp only [sgC, ndC, ndL, List.map_cons, List.map_nil, List.sum_cons, List.sum_nil, wTs] at this
  omega
theorem Compare_spec (s t : Tm) (hs : tmL s) (ht : tmL t) : PFn Tryz.prog 37 [tmV s, tmV t] (.tup [Iv (cmT s t).1, Iv (cmT s t).2]) := by
  have hc := checkTerms_spec [s, t] (by simp) (fun u hu => by
    rcases List.mem_cons.1 hu with rfl | hu
    · exact hs
    · rcases List.mem_cons.1 hu with rfl | hu
      · exact ht
      · cases hu)
  have e : (.im (.sl 3 (tmR [s, t])) : AV) = .im (.sl 3 [[Si s.nm, Ii s.ix, .sl 3 (tmR s.xs)], [Si t.nm, Ii t.ix, .sl 3 (tmR t.xs)]]) := by simp only [tmR, tmC_eq]
  rw [e] at hc
  refine ACall.walk [0, 1, 2, 3, 4, 5, 6, 12] [] Tryz.func37 rfl Tryz.ntmps37 (by kernel_rfl) (by rfl) rfl fun W own I0 φ0 lay => ?_
  refine gO ?_
  refine AQ.fn (by kernel_rfl) rfl rfl rfl (hc) rfl ?_
  refine sI ?_
  refine gO ?_
  refine AP.cond rfl rfl (fun h => ?_) (fun h => ?_)
  · refine gO ?_
    exact AE.ret0 rfl ⟨rfl, rfl, trivial⟩ rfl ⟨rfl, by rw [cmT, if_pos (by simpa using h)]; rfl⟩
  · have h : ¬ ckS [s, t] ≠ 0 := by simpa using h
    have hb : wT s ≤ 4000 ∧ wT t ≤ 4000 := by
      rw [ckS, ckS, ckS] at h
      have h1 : ¬ ckC 4 9 2 3 (sgC s) ≠ 0 := fun hc => h (by rw [if_pos hc]; exact hc)
      rw [if_neg h1] at h
      have h2 : ¬ ckC 4 9 2 3 (sgC t) ≠ 0 := fun hc => h (by rw [if_pos hc]; exact hc)
      exact ⟨ckS_1 h1, ckS_1 h2⟩
    refine gO ?_
    refine AQ.fn (by kernel_rfl) rfl rfl rfl (compare_spec s t hs ht (by omega) (by omega)) rfl ?_
    refine sI ?_
    refine gO ?_
    exact AE.ret0 rfl ⟨rfl, rfl, trivial⟩ rfl ⟨rfl, by rw [cmT, if_neg h]; rfl⟩
end Go.Proofs.YtpfohmboflcneaaGreatDoor
end
