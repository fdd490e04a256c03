import Derived.Test.YteacpafhmgdbkaaGreatDoorAl4
import Derived.Test.YteacpafhmgdbkaaGreatDoorChecked
import Derived.KernelRfl
import Derived.Shelf.Spec.SlicesGrow
set_option linter.unusedSimpArgs false
set_option linter.unusedVariables false
set_option linter.unnecessarySimpa false
section

end

section
namespace Go.Proofs.YteacpafhmgdbkaaGreatDoor
open Go Go.AL
@[go_sem] theorem Tryz.tk1 : tk Tryz.prog 1 = .func := by kernel_rfl
@[go_sem] theorem Tryz.sz1 : sz Tryz.prog 1 = some 1 := by kernel_rfl
@[go_sem] theorem Tryz.by1 : by' Tryz.prog 1 = some 8 := by kernel_rfl
@[go_sem] theorem Tryz.zr1 : zro Tryz.prog 1 = some ([.nilFunc]) := by kernel_rfl
@[go_sem] theorem Tryz.tk2 : tk Tryz.prog 2 = .int .i64 := by kernel_rfl
@[go_sem] theorem Tryz.sz2 : sz Tryz.prog 2 = some 1 := by kernel_rfl
@[go_sem] theorem Tryz.by2 : by' Tryz.prog 2 = some 8 := by kernel_rfl
@[go_sem] theorem Tryz.un2 : (Tryz.prog.underlying 2).isSome = true := by kernel_rfl
@[go_sem] theorem Tryz.zr2 : zro Tryz.prog 2 = some ([.int .i64 0]) := by kernel_rfl
@[go_sem] theorem Tryz.tk3 : tk Tryz.prog 3 = .int .i64 := by kernel_rfl
@[go_sem] theorem Tryz.sz3 : sz Tryz.prog 3 = some 1 := by kernel_rfl
@[go_sem] theorem Tryz.by3 : by' Tryz.prog 3 = some 8 := by kernel_rfl
@[go_sem] theorem Tryz.un3 : (Tryz.prog.underlying 3).isSome = true := by kernel_rfl
@[go_sem] theorem Tryz.zr3 : zro Tryz.prog 3 = some ([.int .i64 0]) := by kernel_rfl
@[go_sem] theorem Tryz.tk4 : tk Tryz.prog 4 = .bool := by kernel_rfl
@[go_sem] theorem Tryz.sz4 : sz Tryz.prog 4 = some 1 := by kernel_rfl
@[go_sem] theorem Tryz.by4 : by' Tryz.prog 4 = some 1 := by kernel_rfl
@[go_sem] theorem Tryz.un4 : (Tryz.prog.underlying 4).isSome = true := by kernel_rfl
@[go_sem] theorem Tryz.zr4 : zro Tryz.prog 4 = some ([.bool false]) := by kernel_rfl
@[go_sem] theorem Tryz.tk5 : tk Tryz.prog 5 = .int .u8 := by kernel_rfl
@[go_sem] theorem Tryz.sz5 : sz Tryz.prog 5 = some 1 := by kernel_rfl
@[go_sem] theorem Tryz.by5 : by' Tryz.prog 5 = some 1 := by kernel_rfl
@[go_sem] theorem Tryz.un5 : (Tryz.prog.underlying 5).isSome = true := by kernel_rfl
@[go_sem] theorem Tryz.zr5 : zro Tryz.prog 5 = some ([.int .u8 0]) := by kernel_rfl
@[go_sem] theorem Tryz.tk6 : tk Tryz.prog 6 = .int .u8 := by kernel_rfl
@[go_sem] theorem Tryz.sz6 : sz Tryz.prog 6 = some 1 := by kernel_rfl
@[go_sem] theorem Tryz.by6 : by' Tryz.prog 6 = some 1 := by kernel_rfl
@[go_sem] theorem Tryz.un6 : (Tryz.prog.underlying 6).isSome = true := by kernel_rfl
@[go_sem] theorem Tryz.zr6 : zro Tryz.prog 6 = some ([.int .u8 0]) := by kernel_rfl
@[go_sem] theorem Tryz.tk7 : tk Tryz.prog 7 = .struct [(0, 2), (1, 3), (2, 4), (3, 6)] := by kernel_rfl
@[go_sem] theorem Tryz.sz7 : sz Tryz.prog 7 = some 4 := by kernel_rfl
@[go_sem] theorem Tryz.by7 : by' Tryz.prog 7 = some 24 := by kernel_rfl
@[go_sem] theorem Tryz.eq7 : eqOk Tryz.prog 7 = true := by kernel_rfl
@[go_sem] theorem Tryz.zr7 : zro Tryz.prog 7 = some ([.int .i64 0, .int .i64 0, .bool false, .int .u8 0]) := by kernel_rfl
@[go_sem] theorem Tryz.tk8 : tk Tryz.prog 8 = .struct [(0, 2), (1, 3), (2, 4), (3, 6)] := by kernel_rfl
@[go_sem] theorem Tryz.sz8 : sz Tryz.prog 8 = some 4 := by kernel_rfl
@[go_sem] theorem Tryz.by8 : by' Tryz.prog 8 = some 24 := by kernel_rfl
@[go_sem] theorem Tryz.eq8 : eqOk Tryz.prog 8 = true := by kernel_rfl
@[go_sem] theorem Tryz.zr8 : zro Tryz.prog 8 = some ([.int .i64 0, .int .i64 0, .bool false, .int .u8 0]) := by kernel_rfl
@[go_sem] theorem Tryz.tk9 : tk Tryz.prog 9 = .str := by kernel_rfl
@[go_sem] theorem Tryz.sz9 : sz Tryz.prog 9 = some 1 := by kernel_rfl
@[go_sem] theorem Tryz.by9 : by' Tryz.prog 9 = some 16 := by kernel_rfl
@[go_sem] theorem Tryz.un9 : (Tryz.prog.underlying 9).isSome = true := by kernel_rfl
@[go_sem] theorem Tryz.zr9 : zro Tryz.prog 9 = some ([.string ⟨#[]⟩]) := by kernel_rfl
@[go_sem] theorem Tryz.tk10 : tk Tryz.prog 10 = .str := by kernel_rfl
@[go_sem] theorem Tryz.sz10 : sz Tryz.prog 10 = some 1 := by kernel_rfl
@[go_sem] theorem Tryz.by10 : by' Tryz.prog 10 = some 16 := by kernel_rfl
@[go_sem] theorem Tryz.un10 : (Tryz.prog.underlying 10).isSome = true := by kernel_rfl
@[go_sem] theorem Tryz.zr10 : zro Tryz.prog 10 = some ([.string ⟨#[]⟩]) := by kernel_rfl
@[go_sem] theorem Tryz.tk11 : tk Tryz.prog 11 = .str := by kernel_rfl
@[go_sem] theorem Tryz.sz11 : sz Tryz.prog 11 = some 1 := by kernel_rfl
@[go_sem] theorem Tryz.by11 : by' Tryz.prog 11 = some 16 := by kernel_rfl
@[go_sem] theorem Tryz.un11 : (Tryz.prog.underlying 11).isSome = true := by kernel_rfl
@[go_sem] theorem Tryz.zr11 : zro Tryz.prog 11 = some ([.string ⟨#[]⟩]) := by kernel_rfl
@[go_sem] theorem Tryz.tk12 : tk Tryz.prog 12 = .int .u64 := by kernel_rfl
@[go_sem] theorem Tryz.sz12 : sz Tryz.prog 12 = some 1 := by kernel_rfl
@[go_sem] theorem Tryz.by12 : by' Tryz.prog 12 = some 8 := by kernel_rfl
@[go_sem] theorem Tryz.un12 : (Tryz.prog.underlying 12).isSome = true := by kernel_rfl
@[go_sem] theorem Tryz.zr12 : zro Tryz.prog 12 = some ([.int .u64 0]) := by kernel_rfl
@[go_sem] theorem Tryz.tk16 : tk Tryz.prog 16 = .ptr 319 := by kernel_rfl
@[go_sem] theorem Tryz.sz16 : sz Tryz.prog 16 = some 1 := by kernel_rfl
@[go_sem] theorem Tryz.by16 : by' Tryz.prog 16 = some 8 := by kernel_rfl
@[go_sem] theorem Tryz.zr16 : zro Tryz.prog 16 = some ([.pointer none]) := by kernel_rfl
@[go_sem] theorem Tryz.tk17 : tk Tryz.prog 17 = .ptr 326 := by kernel_rfl
@[go_sem] theorem Tryz.sz17 : sz Tryz.prog 17 = some 1 := by kernel_rfl
@[go_sem] theorem Tryz.by17 : by' Tryz.prog 17 = some 8 := by kernel_rfl
@[go_sem] theorem Tryz.zr17 : zro Tryz.prog 17 = some ([.pointer none]) := by kernel_rfl
@[go_sem] theorem Tryz.tk19 : tk Tryz.prog 19 = .struct [(0, 17)] := by kernel_rfl
@[go_sem] theorem Tryz.sz19 : sz Tryz.prog 19 = some 1 := by kernel_rfl
@[go_sem] theorem Tryz.by19 : by' Tryz.prog 19 = some 8 := by kernel_rfl
@[go_sem] theorem Tryz.zr19 : zro Tryz.prog 19 = some ([.pointer none]) := by kernel_rfl
@[go_sem] theorem Tryz.tk20 : tk Tryz.prog 20 = .iface := by kernel_rfl
@[go_sem] theorem Tryz.sz20 : sz Tryz.prog 20 = some 1 := by kernel_rfl
@[go_sem] theorem Tryz.by20 : by' Tryz.prog 20 = some 16 := by kernel_rfl
@[go_sem] theorem Tryz.zr20 : zro Tryz.prog 20 = some ([.nilIface]) := by kernel_rfl
@[go_sem] theorem Tryz.tk21 : tk Tryz.prog 21 = .int .i32 := by kernel_rfl
@[go_sem] theorem Tryz.sz21 : sz Tryz.prog 21 = some 1 := by kernel_rfl
@[go_sem] theorem Tryz.by21 : by' Tryz.prog 21 = some 4 := by kernel_rfl
@[go_sem] theorem Tryz.un21 : (Tryz.prog.underlying 21).isSome = true := by kernel_rfl
@[go_sem] theorem Tryz.zr21 : zro Tryz.prog 21 = some ([.int .i32 0]) := by kernel_rfl
@[go_sem] theorem Tryz.tk22 : tk Tryz.prog 22 = .slice 27 := by kernel_rfl
@[go_sem] theorem Tryz.sz22 : sz Tryz.prog 22 = some 1 := by kernel_rfl
@[go_sem] theorem Tryz.by22 : by' Tryz.prog 22 = some 24 := by kernel_rfl
@[go_sem] theorem Tryz.zr22 : zro Tryz.prog 22 = some ([.slice none 0 0]) := by kernel_rfl
@[go_sem] theorem Tryz.tk23 : tk Tryz.prog 23 = .slice 25 := by kernel_rfl
@[go_sem] theorem Tryz.sz23 : sz Tryz.prog 23 = some 1 := by kernel_rfl
@[go_sem] theorem Tryz.by23 : by' Tryz.prog 23 = some 24 := by kernel_rfl
@[go_sem] theorem Tryz.zr23 : zro Tryz.prog 23 = some ([.slice none 0 0]) := by kernel_rfl
@[go_sem] theorem Tryz.tk24 : tk Tryz.prog 24 = .struct [(0, 9), (1, 3), (2, 23)] := by kernel_rfl
@[go_sem] theorem Tryz.sz24 : sz Tryz.prog 24 = some 3 := by kernel_rfl
@[go_sem] theorem Tryz.by24 : by' Tryz.prog 24 = some 48 := by kernel_rfl
@[go_sem] theorem Tryz.zr24 : zro Tryz.prog 24 = some ([.string ⟨#[]⟩, .int .i64 0, .slice none 0 0]) := by kernel_rfl
@[go_sem] theorem Tryz.tk25 : tk Tryz.prog 25 = .struct [(0, 9), (1, 3), (2, 23)] := by kernel_rfl
@[go_sem] theorem Tryz.sz25 : sz Tryz.prog 25 = some 3 := by kernel_rfl
@[go_sem] theorem Tryz.by25 : by' Tryz.prog 25 = some 48 := by kernel_rfl
@[go_sem] theorem Tryz.zr25 : zro Tryz.prog 25 = some ([.string ⟨#[]⟩, .int .i64 0, .slice none 0 0]) := by kernel_rfl
@[go_sem] theorem Tryz.tk27 : tk Tryz.prog 27 = .struct [(0, 3), (1, 9), (2, 23), (3, 22)] := by kernel_rfl
@[go_sem] theorem Tryz.sz27 : sz Tryz.prog 27 = some 4 := by kernel_rfl
@[go_sem] theorem Tryz.by27 : by' Tryz.prog 27 = some 72 := by kernel_rfl
@[go_sem] theorem Tryz.zr27 : zro Tryz.prog 27 = some ([.int .i64 0, .string ⟨#[]⟩, .slice none 0 0, .slice none 0 0]) := by kernel_rfl
@[go_sem] theorem Tryz.tk28 : tk Tryz.prog 28 = .slice 30 := by kernel_rfl
@[go_sem] theorem Tryz.sz28 : sz Tryz.prog 28 = some 1 := by kernel_rfl
@[go_sem] theorem Tryz.by28 : by' Tryz.prog 28 = some 24 := by kernel_rfl
@[go_sem] theorem Tryz.zr28 : zro Tryz.prog 28 = some ([.slice none 0 0]) := by kernel_rfl
@[go_sem] theorem Tryz.tk30 : tk Tryz.prog 30 = .struct [(0, 3), (1, 3), (2, 9), (3, 25), (6, 27), (10, 28)] := by kernel_rfl
@[go_sem] theorem Tryz.sz30 : sz Tryz.prog 30 = some 11 := by kernel_rfl
@[go_sem] theorem Tryz.by30 : by' Tryz.prog 30 = some 176 := by kernel_rfl
@[go_sem] theorem Tryz.zr30 : zro Tryz.prog 30 = some ([.int .i64 0, .int .i64 0, .string ⟨#[]⟩, .string ⟨#[]⟩, .int .i64 0, .slice none 0 0, .int .i64 0, .string ⟨#[]⟩, .slice none 0 0, .slice none 0 0, .slice none 0 0]) := by kernel_rfl
@[go_sem] theorem Tryz.tk32 : tk Tryz.prog 32 = .func := by kernel_rfl
@[go_sem] theorem Tryz.sz32 : sz Tryz.prog 32 = some 1 := by kernel_rfl
@[go_sem] theorem Tryz.by32 : by' Tryz.prog 32 = some 8 := by kernel_rfl
@[go_sem] theorem Tryz.zr32 : zro Tryz.prog 32 = some ([.nilFunc]) := by kernel_rfl
@[go_sem] theorem Tryz.tk33 : tk Tryz.prog 33 = .slice 3 := by kernel_rfl
@[go_sem] theorem Tryz.sz33 : sz Tryz.prog 33 = some 1 := by kernel_rfl
@[go_sem] theorem Tryz.by33 : by' Tryz.prog 33 = some 24 := by kernel_rfl
@[go_sem] theorem Tryz.zr33 : zro Tryz.prog 33 = some ([.slice none 0 0]) := by kernel_rfl
@[go_sem] theorem Tryz.tk34 : tk Tryz.prog 34 = .int .i64 := by kernel_rfl
@[go_sem] theorem Tryz.sz34 : sz Tryz.prog 34 = some 1 := by kernel_rfl
@[go_sem] theorem Tryz.by34 : by' Tryz.prog 34 = some 8 := by kernel_rfl
@[go_sem] theorem Tryz.un34 : (Tryz.prog.underlying 34).isSome = true := by kernel_rfl
@[go_sem] theorem Tryz.zr34 : zro Tryz.prog 34 = some ([.int .i64 0]) := by kernel_rfl
@[go_sem] theorem Tryz.tk36 : tk Tryz.prog 36 = .func := by kernel_rfl
@[go_sem] theorem Tryz.sz36 : sz Tryz.prog 36 = some 1 := by kernel_rfl
@[go_sem] theorem Tryz.by36 : by' Tryz.prog 36 = some 8 := by kernel_rfl
@[go_sem] theorem Tryz.zr36 : zro Tryz.prog 36 = some ([.nilFunc]) := by kernel_rfl
@[go_sem] theorem Tryz.tk37 : tk Tryz.prog 37 = .slice 45 := by kernel_rfl
@[go_sem] theorem Tryz.sz37 : sz Tryz.prog 37 = some 1 := by kernel_rfl
@[go_sem] theorem Tryz.by37 : by' Tryz.prog 37 = some 24 := by kernel_rfl
@[go_sem] theorem Tryz.zr37 : zro Tryz.prog 37 = some ([.slice none 0 0]) := by kernel_rfl
@[go_sem] theorem Tryz.tk38 : tk Tryz.prog 38 = .slice 40 := by kernel_rfl
@[go_sem] theorem Tryz.sz38 : sz Tryz.prog 38 = some 1 := by kernel_rfl
@[go_sem] theorem Tryz.by38 : by' Tryz.prog 38 = some 24 := by kernel_rfl
@[go_sem] theorem Tryz.zr38 : zro Tryz.prog 38 = some ([.slice none 0 0]) := by kernel_rfl
@[go_sem] theorem Tryz.tk40 : tk Tryz.prog 40 = .struct [(0, 3), (1, 9), (2, 37), (3, 38)] := by kernel_rfl
@[go_sem] theorem Tryz.sz40 : sz Tryz.prog 40 = some 4 := by kernel_rfl
@[go_sem] theorem Tryz.by40 : by' Tryz.prog 40 = some 72 := by kernel_rfl
@[go_sem] theorem Tryz.zr40 : zro Tryz.prog 40 = some ([.int .i64 0, .string ⟨#[]⟩, .slice none 0 0, .slice none 0 0]) := by kernel_rfl
@[go_sem] theorem Tryz.tk45 : tk Tryz.prog 45 = .struct [(0, 9), (1, 3), (2, 37)] := by kernel_rfl
@[go_sem] theorem Tryz.sz45 : sz Tryz.prog 45 = some 3 := by kernel_rfl
@[go_sem] theorem Tryz.by45 : by' Tryz.prog 45 = some 48 := by kernel_rfl
@[go_sem] theorem Tryz.zr45 : zro Tryz.prog 45 = some ([.string ⟨#[]⟩, .int .i64 0, .slice none 0 0]) := by kernel_rfl
@[go_sem] theorem Tryz.tk56 : tk Tryz.prog 56 = .func := by kernel_rfl
@[go_sem] theorem Tryz.sz56 : sz Tryz.prog 56 = some 1 := by kernel_rfl
@[go_sem] theorem Tryz.by56 : by' Tryz.prog 56 = some 8 := by kernel_rfl
@[go_sem] theorem Tryz.zr56 : zro Tryz.prog 56 = some ([.nilFunc]) := by kernel_rfl
@[go_sem] theorem Tryz.tk63 : tk Tryz.prog 63 = .func := by kernel_rfl
@[go_sem] theorem Tryz.sz63 : sz Tryz.prog 63 = some 1 := by kernel_rfl
@[go_sem] theorem Tryz.by63 : by' Tryz.prog 63 = some 8 := by kernel_rfl
@[go_sem] theorem Tryz.zr63 : zro Tryz.prog 63 = some ([.nilFunc]) := by kernel_rfl
@[go_sem] theorem Tryz.tk64 : tk Tryz.prog 64 = .func := by kernel_rfl
@[go_sem] theorem Tryz.sz64 : sz Tryz.prog 64 = some 1 := by kernel_rfl
@[go_sem] theorem Tryz.by64 : by' Tryz.prog 64 = some 8 := by kernel_rfl
@[go_sem] theorem Tryz.zr64 : zro Tryz.prog 64 = some ([.nilFunc]) := by kernel_rfl
@[go_sem] theorem Tryz.tk65 : tk Tryz.prog 65 = .func := by kernel_rfl
@[go_sem] theorem Tryz.sz65 : sz Tryz.prog 65 = some 1 := by kernel_rfl
@[go_sem] theorem Tryz.by65 : by' Tryz.prog 65 = some 8 := by kernel_rfl
@[go_sem] theorem Tryz.zr65 : zro Tryz.prog 65 = some ([.nilFunc]) := by kernel_rfl
@[go_sem] theorem Tryz.tk67 : tk Tryz.prog 67 = .slice 9 := by kernel_rfl
@[go_sem] theorem Tryz.sz67 : sz Tryz.prog 67 = some 1 := by kernel_rfl
@[go_sem] theorem Tryz.by67 : by' Tryz.prog 67 = some 24 := by kernel_rfl
@[go_sem] theorem Tryz.zr67 : zro Tryz.prog 67 = some ([.slice none 0 0]) := by kernel_rfl
@[go_sem] theorem Tryz.tk84 : tk Tryz.prog 84 = .func := by kernel_rfl
@[go_sem] theorem Tryz.sz84 : sz Tryz.prog 84 = some 1 := by kernel_rfl
@[go_sem] theorem Tryz.by84 : by' Tryz.prog 84 = some 8 := by kernel_rfl
@[go_sem] theorem Tryz.zr84 : zro Tryz.prog 84 = some ([.nilFunc]) := by kernel_rfl
@[go_sem] theorem Tryz.tk86 : tk Tryz.prog 86 = .func := by kernel_rfl
@[go_sem] theorem Tryz.sz86 : sz Tryz.prog 86 = some 1 := by kernel_rfl
@[go_sem] theorem Tryz.by86 : by' Tryz.prog 86 = some 8 := by kernel_rfl
@[go_sem] theorem Tryz.zr86 : zro Tryz.prog 86 = some ([.nilFunc]) := by kernel_rfl
@[go_sem] theorem Tryz.tk88 : tk Tryz.prog 88 = .func := by kernel_rfl
@[go_sem] theorem Tryz.sz88 : sz Tryz.prog 88 = some 1 := by kernel_rfl
@[go_sem] theorem Tryz.by88 : by' Tryz.prog 88 = some 8 := by kernel_rfl
@[go_sem] theorem Tryz.zr88 : zro Tryz.prog 88 = some ([.nilFunc]) := by kernel_rfl
@[go_sem] theorem Tryz.tk94 : tk Tryz.prog 94 = .func := by kernel_rfl
@[go_sem] theorem Tryz.sz94 : sz Tryz.prog 94 = some 1 := by kernel_rfl
@[go_sem] theorem Tryz.by94 : by' Tryz.prog 94 = some 8 := by kernel_rfl
@[go_sem] theorem Tryz.zr94 : zro Tryz.prog 94 = some ([.nilFunc]) := by kernel_rfl
@[go_sem] theorem Tryz.tk96 : tk Tryz.prog 96 = .map 9 4 := by kernel_rfl
@[go_sem] theorem Tryz.sz96 : sz Tryz.prog 96 = some 1 := by kernel_rfl
@[go_sem] theorem Tryz.by96 : by' Tryz.prog 96 = some 8 := by kernel_rfl
@[go_sem] theorem Tryz.zr96 : zro Tryz.prog 96 = some ([.map none]) := by kernel_rfl
@[go_sem] theorem Tryz.tk99 : tk Tryz.prog 99 = .ptr 101 := by kernel_rfl
@[go_sem] theorem Tryz.sz99 : sz Tryz.prog 99 = some 1 := by kernel_rfl
@[go_sem] theorem Tryz.by99 : by' Tryz.prog 99 = some 8 := by kernel_rfl
@[go_sem] theorem Tryz.zr99 : zro Tryz.prog 99 = some ([.pointer none]) := by kernel_rfl
@[go_sem] theorem Tryz.tk101 : tk Tryz.prog 101 = .struct [(0, 3)] := by kernel_rfl
@[go_sem] theorem Tryz.sz101 : sz Tryz.prog 101 = some 1 := by kernel_rfl
@[go_sem] theorem Tryz.by101 : by' Tryz.prog 101 = some 8 := by kernel_rfl
@[go_sem] theorem Tryz.eq101 : eqOk Tryz.prog 101 = true := by kernel_rfl
@[go_sem] theorem Tryz.zr101 : zro Tryz.prog 101 = some ([.int .i64 0]) := by kernel_rfl
@[go_sem] theorem Tryz.tk105 : tk Tryz.prog 105 = .ptr 30 := by kernel_rfl
@[go_sem] theorem Tryz.sz105 : sz Tryz.prog 105 = some 1 := by kernel_rfl
@[go_sem] theorem Tryz.by105 : by' Tryz.prog 105 = some 8 := by kernel_rfl
@[go_sem] theorem Tryz.zr105 : zro Tryz.prog 105 = some ([.pointer none]) := by kernel_rfl
@[go_sem] theorem Tryz.tk107 : tk Tryz.prog 107 = .struct [(0, 33), (1, 34)] := by kernel_rfl
@[go_sem] theorem Tryz.sz107 : sz Tryz.prog 107 = some 2 := by kernel_rfl
@[go_sem] theorem Tryz.by107 : by' Tryz.prog 107 = some 32 := by kernel_rfl
@[go_sem] theorem Tryz.zr107 : zro Tryz.prog 107 = some ([.slice none 0 0, .int .i64 0]) := by kernel_rfl
@[go_sem] theorem Tryz.tk110 : tk Tryz.prog 110 = .func := by kernel_rfl
@[go_sem] theorem Tryz.sz110 : sz Tryz.prog 110 = some 1 := by kernel_rfl
@[go_sem] theorem Tryz.by110 : by' Tryz.prog 110 = some 8 := by kernel_rfl
@[go_sem] theorem Tryz.zr110 : zro Tryz.prog 110 = some ([.nilFunc]) := by kernel_rfl
@[go_sem] theorem Tryz.tk111 : tk Tryz.prog 111 = .ptr 113 := by kernel_rfl
@[go_sem] theorem Tryz.sz111 : sz Tryz.prog 111 = some 1 := by kernel_rfl
@[go_sem] theorem Tryz.by111 : by' Tryz.prog 111 = some 8 := by kernel_rfl
@[go_sem] theorem Tryz.zr111 : zro Tryz.prog 111 = some ([.pointer none]) := by kernel_rfl
@[go_sem] theorem Tryz.tk113 : tk Tryz.prog 113 = .struct [(0, 22), (1, 22), (2, 105), (3, 33)] := by kernel_rfl
@[go_sem] theorem Tryz.sz113 : sz Tryz.prog 113 = some 4 := by kernel_rfl
@[go_sem] theorem Tryz.by113 : by' Tryz.prog 113 = some 80 := by kernel_rfl
@[go_sem] theorem Tryz.zr113 : zro Tryz.prog 113 = some ([.slice none 0 0, .slice none 0 0, .pointer none, .slice none 0 0]) := by kernel_rfl
@[go_sem] theorem Tryz.tk115 : tk Tryz.prog 115 = .struct [(0, 40), (4, 33), (5, 34)] := by kernel_rfl
@[go_sem] theorem Tryz.sz115 : sz Tryz.prog 115 = some 6 := by kernel_rfl
@[go_sem] theorem Tryz.by115 : by' Tryz.prog 115 = some 104 := by kernel_rfl
@[go_sem] theorem Tryz.zr115 : zro Tryz.prog 115 = some ([.int .i64 0, .string ⟨#[]⟩, .slice none 0 0, .slice none 0 0, .slice none 0 0, .int .i64 0]) := by kernel_rfl
@[go_sem] theorem Tryz.tk117 : tk Tryz.prog 117 = .func := by kernel_rfl
@[go_sem] theorem Tryz.sz117 : sz Tryz.prog 117 = some 1 := by kernel_rfl
@[go_sem] theorem Tryz.by117 : by' Tryz.prog 117 = some 8 := by kernel_rfl
@[go_sem] theorem Tryz.zr117 : zro Tryz.prog 117 = some ([.nilFunc]) := by kernel_rfl
@[go_sem] theorem Tryz.tk120 : tk Tryz.prog 120 = .func := by kernel_rfl
@[go_sem] theorem Tryz.sz120 : sz Tryz.prog 120 = some 1 := by kernel_rfl
@[go_sem] theorem Tryz.by120 : by' Tryz.prog 120 = some 8 := by kernel_rfl
@[go_sem] theorem Tryz.zr120 : zro Tryz.prog 120 = some ([.nilFunc]) := by kernel_rfl
@[go_sem] theorem Tryz.tk135 : tk Tryz.prog 135 = .func := by kernel_rfl
@[go_sem] theorem Tryz.sz135 : sz Tryz.prog 135 = some 1 := by kernel_rfl
@[go_sem] theorem Tryz.by135 : by' Tryz.prog 135 = some 8 := by kernel_rfl
@[go_sem] theorem Tryz.zr135 : zro Tryz.prog 135 = some ([.nilFunc]) := by kernel_rfl
@[go_sem] theorem Tryz.tk137 : tk Tryz.prog 137 = .slice 22 := by kernel_rfl
@[go_sem] theorem Tryz.sz137 : sz Tryz.prog 137 = some 1 := by kernel_rfl
@[go_sem] theorem Tryz.by137 : by' Tryz.prog 137 = some 24 := by kernel_rfl
@[go_sem] theorem Tryz.zr137 : zro Tryz.prog 137 = some ([.slice none 0 0]) := by kernel_rfl
@[go_sem] theorem Tryz.tk138 : tk Tryz.prog 138 = .func := by kernel_rfl
@[go_sem] theorem Tryz.sz138 : sz Tryz.prog 138 = some 1 := by kernel_rfl
@[go_sem] theorem Tryz.by138 : by' Tryz.prog 138 = some 8 := by kernel_rfl
@[go_sem] theorem Tryz.zr138 : zro Tryz.prog 138 = some ([.nilFunc]) := by kernel_rfl
@[go_sem] theorem Tryz.tk140 : tk Tryz.prog 140 = .ptr 142 := by kernel_rfl
@[go_sem] theorem Tryz.sz140 : sz Tryz.prog 140 = some 1 := by kernel_rfl
@[go_sem] theorem Tryz.by140 : by' Tryz.prog 140 = some 8 := by kernel_rfl
@[go_sem] theorem Tryz.zr140 : zro Tryz.prog 140 = some ([.pointer none]) := by kernel_rfl
@[go_sem] theorem Tryz.tk142 : tk Tryz.prog 142 = .struct [(0, 67), (1, 96), (2, 67)] := by kernel_rfl
@[go_sem] theorem Tryz.sz142 : sz Tryz.prog 142 = some 3 := by kernel_rfl
@[go_sem] theorem Tryz.by142 : by' Tryz.prog 142 = some 56 := by kernel_rfl
@[go_sem] theorem Tryz.zr142 : zro Tryz.prog 142 = some ([.slice none 0 0, .map none, .slice none 0 0]) := by kernel_rfl
@[go_sem] theorem Tryz.tk144 : tk Tryz.prog 144 = .func := by kernel_rfl
@[go_sem] theorem Tryz.sz144 : sz Tryz.prog 144 = some 1 := by kernel_rfl
@[go_sem] theorem Tryz.by144 : by' Tryz.prog 144 = some 8 := by kernel_rfl
@[go_sem] theorem Tryz.zr144 : zro Tryz.prog 144 = some ([.nilFunc]) := by kernel_rfl
@[go_sem] theorem Tryz.tk147 : tk Tryz.prog 147 = .slice 161 := by kernel_rfl
@[go_sem] theorem Tryz.sz147 : sz Tryz.prog 147 = some 1 := by kernel_rfl
@[go_sem] theorem Tryz.by147 : by' Tryz.prog 147 = some 24 := by kernel_rfl
@[go_sem] theorem Tryz.zr147 : zro Tryz.prog 147 = some ([.slice none 0 0]) := by kernel_rfl
@[go_sem] theorem Tryz.tk151 : tk Tryz.prog 151 = .struct [(0, 3)] := by kernel_rfl
@[go_sem] theorem Tryz.sz151 : sz Tryz.prog 151 = some 1 := by kernel_rfl
@[go_sem] theorem Tryz.by151 : by' Tryz.prog 151 = some 8 := by kernel_rfl
@[go_sem] theorem Tryz.eq151 : eqOk Tryz.prog 151 = true := by kernel_rfl
@[go_sem] theorem Tryz.zr151 : zro Tryz.prog 151 = some ([.int .i64 0]) := by kernel_rfl
@[go_sem] theorem Tryz.tk153 : tk Tryz.prog 153 = .ptr 155 := by kernel_rfl
@[go_sem] theorem Tryz.sz153 : sz Tryz.prog 153 = some 1 := by kernel_rfl
@[go_sem] theorem Tryz.by153 : by' Tryz.prog 153 = some 8 := by kernel_rfl
@[go_sem] theorem Tryz.zr153 : zro Tryz.prog 153 = some ([.pointer none]) := by kernel_rfl
@[go_sem] theorem Tryz.tk155 : tk Tryz.prog 155 = .struct [(0, 147), (1, 3), (2, 3), (3, 67)] := by kernel_rfl
@[go_sem] theorem Tryz.sz155 : sz Tryz.prog 155 = some 4 := by kernel_rfl
@[go_sem] theorem Tryz.by155 : by' Tryz.prog 155 = some 64 := by kernel_rfl
@[go_sem] theorem Tryz.zr155 : zro Tryz.prog 155 = some ([.slice none 0 0, .int .i64 0, .int .i64 0, .slice none 0 0]) := by kernel_rfl
@[go_sem] theorem Tryz.tk161 : tk Tryz.prog 161 = .struct [(0, 9), (1, 3)] := by kernel_rfl
@[go_sem] theorem Tryz.sz161 : sz Tryz.prog 161 = some 2 := by kernel_rfl
@[go_sem] theorem Tryz.by161 : by' Tryz.prog 161 = some 24 := by kernel_rfl
@[go_sem] theorem Tryz.eq161 : eqOk Tryz.prog 161 = true := by kernel_rfl
@[go_sem] theorem Tryz.zr161 : zro Tryz.prog 161 = some ([.string ⟨#[]⟩, .int .i64 0]) := by kernel_rfl
@[go_sem] theorem Tryz.tk166 : tk Tryz.prog 166 = .func := by kernel_rfl
@[go_sem] theorem Tryz.sz166 : sz Tryz.prog 166 = some 1 := by kernel_rfl
@[go_sem] theorem Tryz.by166 : by' Tryz.prog 166 = some 8 := by kernel_rfl
@[go_sem] theorem Tryz.zr166 : zro Tryz.prog 166 = some ([.nilFunc]) := by kernel_rfl
@[go_sem] theorem Tryz.tk171 : tk Tryz.prog 171 = .func := by kernel_rfl
@[go_sem] theorem Tryz.sz171 : sz Tryz.prog 171 = some 1 := by kernel_rfl
@[go_sem] theorem Tryz.by171 : by' Tryz.prog 171 = some 8 := by kernel_rfl
@[go_sem] theorem Tryz.zr171 : zro Tryz.prog 171 = some ([.nilFunc]) := by kernel_rfl
@[go_sem] theorem Tryz.tk177 : tk Tryz.prog 177 = .ptr 180 := by kernel_rfl
@[go_sem] theorem Tryz.sz177 : sz Tryz.prog 177 = some 1 := by kernel_rfl
@[go_sem] theorem Tryz.by177 : by' Tryz.prog 177 = some 8 := by kernel_rfl
@[go_sem] theorem Tryz.zr177 : zro Tryz.prog 177 = some ([.pointer none]) := by kernel_rfl
@[go_sem] theorem Tryz.tk178 : tk Tryz.prog 178 = .slice 5 := by kernel_rfl
@[go_sem] theorem Tryz.sz178 : sz Tryz.prog 178 = some 1 := by kernel_rfl
@[go_sem] theorem Tryz.by178 : by' Tryz.prog 178 = some 24 := by kernel_rfl
@[go_sem] theorem Tryz.zr178 : zro Tryz.prog 178 = some ([.slice none 0 0]) := by kernel_rfl
@[go_sem] theorem Tryz.tk180 : tk Tryz.prog 180 = .struct [(0, 177), (1, 178)] := by kernel_rfl
@[go_sem] theorem Tryz.sz180 : sz Tryz.prog 180 = some 2 := by kernel_rfl
@[go_sem] theorem Tryz.by180 : by' Tryz.prog 180 = some 32 := by kernel_rfl
@[go_sem] theorem Tryz.zr180 : zro Tryz.prog 180 = some ([.pointer none, .slice none 0 0]) := by kernel_rfl
@[go_sem] theorem Tryz.tk183 : tk Tryz.prog 183 = .iface := by kernel_rfl
@[go_sem] theorem Tryz.sz183 : sz Tryz.prog 183 = some 1 := by kernel_rfl
@[go_sem] theorem Tryz.by183 : by' Tryz.prog 183 = some 16 := by kernel_rfl
@[go_sem] theorem Tryz.zr183 : zro Tryz.prog 183 = some ([.nilIface]) := by kernel_rfl
@[go_sem] theorem Tryz.tk186 : tk Tryz.prog 186 = .func := by kernel_rfl
@[go_sem] theorem Tryz.sz186 : sz Tryz.prog 186 = some 1 := by kernel_rfl
@[go_sem] theorem Tryz.by186 : by' Tryz.prog 186 = some 8 := by kernel_rfl
@[go_sem] theorem Tryz.zr186 : zro Tryz.prog 186 = some ([.nilFunc]) := by kernel_rfl
@[go_sem] theorem Tryz.tk188 : tk Tryz.prog 188 = .func := by kernel_rfl
@[go_sem] theorem Tryz.sz188 : sz Tryz.prog 188 = some 1 := by kernel_rfl
@[go_sem] theorem Tryz.by188 : by' Tryz.prog 188 = some 8 := by kernel_rfl
@[go_sem] theorem Tryz.zr188 : zro Tryz.prog 188 = some ([.nilFunc]) := by kernel_rfl
@[go_sem] theorem Tryz.tk189 : tk Tryz.prog 189 = .func := by kernel_rfl
@[go_sem] theorem Tryz.sz189 : sz Tryz.prog 189 = some 1 := by kernel_rfl
@[go_sem] theorem Tryz.by189 : by' Tryz.prog 189 = some 8 := by kernel_rfl
@[go_sem] theorem Tryz.zr189 : zro Tryz.prog 189 = some ([.nilFunc]) := by kernel_rfl
@[go_sem] theorem Tryz.tk190 : tk Tryz.prog 190 = .func := by kernel_rfl
@[go_sem] theorem Tryz.sz190 : sz Tryz.prog 190 = some 1 := by kernel_rfl
@[go_sem] theorem Tryz.by190 : by' Tryz.prog 190 = some 8 := by kernel_rfl
@[go_sem] theorem Tryz.zr190 : zro Tryz.prog 190 = some ([.nilFunc]) := by kernel_rfl
@[go_sem] theorem Tryz.tk191 : tk Tryz.prog 191 = .func := by kernel_rfl
@[go_sem] theorem Tryz.sz191 : sz Tryz.prog 191 = some 1 := by kernel_rfl
@[go_sem] theorem Tryz.by191 : by' Tryz.prog 191 = some 8 := by kernel_rfl
@[go_sem] theorem Tryz.zr191 : zro Tryz.prog 191 = some ([.nilFunc]) := by kernel_rfl
@[go_sem] theorem Tryz.tk192 : tk Tryz.prog 192 = .func := by kernel_rfl
@[go_sem] theorem Tryz.sz192 : sz Tryz.prog 192 = some 1 := by kernel_rfl
@[go_sem] theorem Tryz.by192 : by' Tryz.prog 192 = some 8 := by kernel_rfl
@[go_sem] theorem Tryz.zr192 : zro Tryz.prog 192 = some ([.nilFunc]) := by kernel_rfl
@[go_sem] theorem Tryz.tk193 : tk Tryz.prog 193 = .func := by kernel_rfl
@[go_sem] theorem Tryz.sz193 : sz Tryz.prog 193 = some 1 := by kernel_rfl
@[go_sem] theorem Tryz.by193 : by' Tryz.prog 193 = some 8 := by kernel_rfl
@[go_sem] theorem Tryz.zr193 : zro Tryz.prog 193 = some ([.nilFunc]) := by kernel_rfl
@[go_sem] theorem Tryz.tk195 : tk Tryz.prog 195 = .struct [(0, 3), (1, 4), (2, 4), (3, 4), (4, 4), (5, 193)] := by kernel_rfl
@[go_sem] theorem Tryz.sz195 : sz Tryz.prog 195 = some 6 := by kernel_rfl
@[go_sem] theorem Tryz.by195 : by' Tryz.prog 195 = some 24 := by kernel_rfl
@[go_sem] theorem Tryz.zr195 : zro Tryz.prog 195 = some ([.int .i64 0, .bool false, .bool false, .bool false, .bool false, .nilFunc]) := by kernel_rfl
@[go_sem] theorem Tryz.tk196 : tk Tryz.prog 196 = .arr 19 195 := by kernel_rfl
@[go_sem] theorem Tryz.sz196 : sz Tryz.prog 196 = some 114 := by kernel_rfl
@[go_sem] theorem Tryz.by196 : by' Tryz.prog 196 = some 456 := by kernel_rfl
@[go_sem] theorem Tryz.tk210 : tk Tryz.prog 210 = .ptr 260 := by kernel_rfl
@[go_sem] theorem Tryz.sz210 : sz Tryz.prog 210 = some 1 := by kernel_rfl
@[go_sem] theorem Tryz.by210 : by' Tryz.prog 210 = some 8 := by kernel_rfl
@[go_sem] theorem Tryz.zr210 : zro Tryz.prog 210 = some ([.pointer none]) := by kernel_rfl
@[go_sem] theorem Tryz.tk212 : tk Tryz.prog 212 = .func := by kernel_rfl
@[go_sem] theorem Tryz.sz212 : sz Tryz.prog 212 = some 1 := by kernel_rfl
@[go_sem] theorem Tryz.by212 : by' Tryz.prog 212 = some 8 := by kernel_rfl
@[go_sem] theorem Tryz.zr212 : zro Tryz.prog 212 = some ([.nilFunc]) := by kernel_rfl
@[go_sem] theorem Tryz.tk214 : tk Tryz.prog 214 = .func := by kernel_rfl
@[go_sem] theorem Tryz.sz214 : sz Tryz.prog 214 = some 1 := by kernel_rfl
@[go_sem] theorem Tryz.by214 : by' Tryz.prog 214 = some 8 := by kernel_rfl
@[go_sem] theorem Tryz.zr214 : zro Tryz.prog 214 = some ([.nilFunc]) := by kernel_rfl
@[go_sem] theorem Tryz.tk220 : tk Tryz.prog 220 = .func := by kernel_rfl
@[go_sem] theorem Tryz.sz220 : sz Tryz.prog 220 = some 1 := by kernel_rfl
@[go_sem] theorem Tryz.by220 : by' Tryz.prog 220 = some 8 := by kernel_rfl
@[go_sem] theorem Tryz.zr220 : zro Tryz.prog 220 = some ([.nilFunc]) := by kernel_rfl
@[go_sem] theorem Tryz.tk222 : tk Tryz.prog 222 = .arr 9 9 := by kernel_rfl
@[go_sem] theorem Tryz.sz222 : sz Tryz.prog 222 = some 9 := by kernel_rfl
@[go_sem] theorem Tryz.by222 : by' Tryz.prog 222 = some 144 := by kernel_rfl
@[go_sem] theorem Tryz.eq222 : eqOk Tryz.prog 222 = true := by kernel_rfl
@[go_sem] theorem Tryz.zr222 : zro Tryz.prog 222 = some (List.replicate 9 (.string ⟨#[]⟩)) := by kernel_rfl
@[go_sem] theorem Tryz.tk227 : tk Tryz.prog 227 = .arr 256 5 := by kernel_rfl
@[go_sem] theorem Tryz.sz227 : sz Tryz.prog 227 = some 256 := by kernel_rfl
@[go_sem] theorem Tryz.by227 : by' Tryz.prog 227 = some 256 := by kernel_rfl
@[go_sem] theorem Tryz.eq227 : eqOk Tryz.prog 227 = true := by kernel_rfl
@[go_sem] theorem Tryz.zr227 : zro Tryz.prog 227 = some (List.replicate 256 (.int .u8 0)) := by kernel_rfl
@[go_sem] theorem Tryz.tk241 : tk Tryz.prog 241 = .func := by kernel_rfl
@[go_sem] theorem Tryz.sz241 : sz Tryz.prog 241 = some 1 := by kernel_rfl
@[go_sem] theorem Tryz.by241 : by' Tryz.prog 241 = some 8 := by kernel_rfl
@[go_sem] theorem Tryz.zr241 : zro Tryz.prog 241 = some ([.nilFunc]) := by kernel_rfl
@[go_sem] theorem Tryz.tk244 : tk Tryz.prog 244 = .int .u64 := by kernel_rfl
@[go_sem] theorem Tryz.sz244 : sz Tryz.prog 244 = some 1 := by kernel_rfl
@[go_sem] theorem Tryz.by244 : by' Tryz.prog 244 = some 8 := by kernel_rfl
@[go_sem] theorem Tryz.un244 : (Tryz.prog.underlying 244).isSome = true := by kernel_rfl
@[go_sem] theorem Tryz.zr244 : zro Tryz.prog 244 = some ([.int .u64 0]) := by kernel_rfl
@[go_sem] theorem Tryz.tk248 : tk Tryz.prog 248 = .func := by kernel_rfl
@[go_sem] theorem Tryz.sz248 : sz Tryz.prog 248 = some 1 := by kernel_rfl
@[go_sem] theorem Tryz.by248 : by' Tryz.prog 248 = some 8 := by kernel_rfl
@[go_sem] theorem Tryz.zr248 : zro Tryz.prog 248 = some ([.nilFunc]) := by kernel_rfl
@[go_sem] theorem Tryz.tk250 : tk Tryz.prog 250 = .ptr 5 := by kernel_rfl
@[go_sem] theorem Tryz.sz250 : sz Tryz.prog 250 = some 1 := by kernel_rfl
@[go_sem] theorem Tryz.by250 : by' Tryz.prog 250 = some 8 := by kernel_rfl
@[go_sem] theorem Tryz.zr250 : zro Tryz.prog 250 = some ([.pointer none]) := by kernel_rfl
@[go_sem] theorem Tryz.tk256 : tk Tryz.prog 256 = .struct [] := by kernel_rfl
@[go_sem] theorem Tryz.sz256 : sz Tryz.prog 256 = some 0 := by kernel_rfl
@[go_sem] theorem Tryz.by256 : by' Tryz.prog 256 = some 0 := by kernel_rfl
@[go_sem] theorem Tryz.zr256 : zro Tryz.prog 256 = some ([]) := by kernel_rfl
@[go_sem] theorem Tryz.tk257 : tk Tryz.prog 257 = .struct [] := by kernel_rfl
@[go_sem] theorem Tryz.sz257 : sz Tryz.prog 257 = some 0 := by kernel_rfl
@[go_sem] theorem Tryz.by257 : by' Tryz.prog 257 = some 0 := by kernel_rfl
@[go_sem] theorem Tryz.zr257 : zro Tryz.prog 257 = some ([]) := by kernel_rfl
@[go_sem] theorem Tryz.tk260 : tk Tryz.prog 260 = .struct [(0, 3)] := by kernel_rfl
@[go_sem] theorem Tryz.sz260 : sz Tryz.prog 260 = some 1 := by kernel_rfl
@[go_sem] theorem Tryz.by260 : by' Tryz.prog 260 = some 8 := by kernel_rfl
@[go_sem] theorem Tryz.eq260 : eqOk Tryz.prog 260 = true := by kernel_rfl
@[go_sem] theorem Tryz.zr260 : zro Tryz.prog 260 = some ([.int .i64 0]) := by kernel_rfl
@[go_sem] theorem Tryz.tk262 : tk Tryz.prog 262 = .func := by kernel_rfl
@[go_sem] theorem Tryz.sz262 : sz Tryz.prog 262 = some 1 := by kernel_rfl
@[go_sem] theorem Tryz.by262 : by' Tryz.prog 262 = some 8 := by kernel_rfl
@[go_sem] theorem Tryz.zr262 : zro Tryz.prog 262 = some ([.nilFunc]) := by kernel_rfl
@[go_sem] theorem Tryz.tk263 : tk Tryz.prog 263 = .func := by kernel_rfl
@[go_sem] theorem Tryz.sz263 : sz Tryz.prog 263 = some 1 := by kernel_rfl
@[go_sem] theorem Tryz.by263 : by' Tryz.prog 263 = some 8 := by kernel_rfl
@[go_sem] theorem Tryz.zr263 : zro Tryz.prog 263 = some ([.nilFunc]) := by kernel_rfl
@[go_sem] theorem Tryz.tk267 : tk Tryz.prog 267 = .int .i64 := by kernel_rfl
@[go_sem] theorem Tryz.sz267 : sz Tryz.prog 267 = some 1 := by kernel_rfl
@[go_sem] theorem Tryz.by267 : by' Tryz.prog 267 = some 8 := by kernel_rfl
@[go_sem] theorem Tryz.un267 : (Tryz.prog.underlying 267).isSome = true := by kernel_rfl
@[go_sem] theorem Tryz.zr267 : zro Tryz.prog 267 = some ([.int .i64 0]) := by kernel_rfl
@[go_sem] theorem Tryz.tk276 : tk Tryz.prog 276 = .int .u32 := by kernel_rfl
@[go_sem] theorem Tryz.sz276 : sz Tryz.prog 276 = some 1 := by kernel_rfl
@[go_sem] theorem Tryz.by276 : by' Tryz.prog 276 = some 4 := by kernel_rfl
@[go_sem] theorem Tryz.un276 : (Tryz.prog.underlying 276).isSome = true := by kernel_rfl
@[go_sem] theorem Tryz.zr276 : zro Tryz.prog 276 = some ([.int .u32 0]) := by kernel_rfl
@[go_sem] theorem Tryz.tk278 : tk Tryz.prog 278 = .int .u64 := by kernel_rfl
@[go_sem] theorem Tryz.sz278 : sz Tryz.prog 278 = some 1 := by kernel_rfl
@[go_sem] theorem Tryz.by278 : by' Tryz.prog 278 = some 8 := by kernel_rfl
@[go_sem] theorem Tryz.un278 : (Tryz.prog.underlying 278).isSome = true := by kernel_rfl
@[go_sem] theorem Tryz.zr278 : zro Tryz.prog 278 = some ([.int .u64 0]) := by kernel_rfl
@[go_sem] theorem Tryz.tk285 : tk Tryz.prog 285 = .other := by kernel_rfl
@[go_sem] theorem Tryz.sz285 : sz Tryz.prog 285 = some 1 := by kernel_rfl
@[go_sem] theorem Tryz.by285 : by' Tryz.prog 285 = some 8 := by kernel_rfl
@[go_sem] theorem Tryz.zr285 : zro Tryz.prog 285 = some ([.pointer none]) := by kernel_rfl
@[go_sem] theorem Tryz.tk291 : tk Tryz.prog 291 = .func := by kernel_rfl
@[go_sem] theorem Tryz.sz291 : sz Tryz.prog 291 = some 1 := by kernel_rfl
@[go_sem] theorem Tryz.by291 : by' Tryz.prog 291 = some 8 := by kernel_rfl
@[go_sem] theorem Tryz.zr291 : zro Tryz.prog 291 = some ([.nilFunc]) := by kernel_rfl
@[go_sem] theorem Tryz.tk292 : tk Tryz.prog 292 = .int .u64 := by kernel_rfl
@[go_sem] theorem Tryz.sz292 : sz Tryz.prog 292 = some 1 := by kernel_rfl
@[go_sem] theorem Tryz.by292 : by' Tryz.prog 292 = some 8 := by kernel_rfl
@[go_sem] theorem Tryz.un292 : (Tryz.prog.underlying 292).isSome = true := by kernel_rfl
@[go_sem] theorem Tryz.zr292 : zro Tryz.prog 292 = some ([.int .u64 0]) := by kernel_rfl
@[go_sem] theorem Tryz.tk296 : tk Tryz.prog 296 = .ptr 3 := by kernel_rfl
@[go_sem] theorem Tryz.sz296 : sz Tryz.prog 296 = some 1 := by kernel_rfl
@[go_sem] theorem Tryz.by296 : by' Tryz.prog 296 = some 8 := by kernel_rfl
@[go_sem] theorem Tryz.zr296 : zro Tryz.prog 296 = some ([.pointer none]) := by kernel_rfl
@[go_sem] theorem Tryz.tk298 : tk Tryz.prog 298 = .arr 24 5 := by kernel_rfl
@[go_sem] theorem Tryz.sz298 : sz Tryz.prog 298 = some 24 := by kernel_rfl
@[go_sem] theorem Tryz.by298 : by' Tryz.prog 298 = some 24 := by kernel_rfl
@[go_sem] theorem Tryz.eq298 : eqOk Tryz.prog 298 = true := by kernel_rfl
@[go_sem] theorem Tryz.zr298 : zro Tryz.prog 298 = some (List.replicate 24 (.int .u8 0)) := by kernel_rfl
@[go_sem] theorem Tryz.tk302 : tk Tryz.prog 302 = .ptr 292 := by kernel_rfl
@[go_sem] theorem Tryz.sz302 : sz Tryz.prog 302 = some 1 := by kernel_rfl
@[go_sem] theorem Tryz.by302 : by' Tryz.prog 302 = some 8 := by kernel_rfl
@[go_sem] theorem Tryz.zr302 : zro Tryz.prog 302 = some ([.pointer none]) := by kernel_rfl
@[go_sem] theorem Tryz.tk305 : tk Tryz.prog 305 = .struct [(0, 5), (1, 5)] := by kernel_rfl
@[go_sem] theorem Tryz.sz305 : sz Tryz.prog 305 = some 2 := by kernel_rfl
@[go_sem] theorem Tryz.by305 : by' Tryz.prog 305 = some 2 := by kernel_rfl
@[go_sem] theorem Tryz.eq305 : eqOk Tryz.prog 305 = true := by kernel_rfl
@[go_sem] theorem Tryz.zr305 : zro Tryz.prog 305 = some ([.int .u8 0, .int .u8 0]) := by kernel_rfl
@[go_sem] theorem Tryz.tk306 : tk Tryz.prog 306 = .arr 16 305 := by kernel_rfl
@[go_sem] theorem Tryz.sz306 : sz Tryz.prog 306 = some 32 := by kernel_rfl
@[go_sem] theorem Tryz.by306 : by' Tryz.prog 306 = some 32 := by kernel_rfl
@[go_sem] theorem Tryz.zr306 : zro Tryz.prog 306 = some (List.replicate 32 (.int .u8 0)) := by kernel_rfl
@[go_sem] theorem Tryz.tk310 : tk Tryz.prog 310 = .arr 20 278 := by kernel_rfl
@[go_sem] theorem Tryz.sz310 : sz Tryz.prog 310 = some 20 := by kernel_rfl
@[go_sem] theorem Tryz.by310 : by' Tryz.prog 310 = some 160 := by kernel_rfl
@[go_sem] theorem Tryz.eq310 : eqOk Tryz.prog 310 = true := by kernel_rfl
@[go_sem] theorem Tryz.zr310 : zro Tryz.prog 310 = some (List.replicate 20 (.int .u64 0)) := by kernel_rfl
@[go_sem] theorem Tryz.tk311 : tk Tryz.prog 311 = .arr 65 5 := by kernel_rfl
@[go_sem] theorem Tryz.sz311 : sz Tryz.prog 311 = some 65 := by kernel_rfl
@[go_sem] theorem Tryz.by311 : by' Tryz.prog 311 = some 65 := by kernel_rfl
@[go_sem] theorem Tryz.eq311 : eqOk Tryz.prog 311 = true := by kernel_rfl
@[go_sem] theorem Tryz.zr311 : zro Tryz.prog 311 = some (List.replicate 65 (.int .u8 0)) := by kernel_rfl
@[go_sem] theorem Tryz.tk313 : tk Tryz.prog 313 = .arr 32 5 := by kernel_rfl
@[go_sem] theorem Tryz.sz313 : sz Tryz.prog 313 = some 32 := by kernel_rfl
@[go_sem] theorem Tryz.by313 : by' Tryz.prog 313 = some 32 := by kernel_rfl
@[go_sem] theorem Tryz.eq313 : eqOk Tryz.prog 313 = true := by kernel_rfl
@[go_sem] theorem Tryz.zr313 : zro Tryz.prog 313 = some (List.replicate 32 (.int .u8 0)) := by kernel_rfl
@[go_sem] theorem Tryz.tk314 : tk Tryz.prog 314 = .arr 64 5 := by kernel_rfl
@[go_sem] theorem Tryz.sz314 : sz Tryz.prog 314 = some 64 := by kernel_rfl
@[go_sem] theorem Tryz.by314 : by' Tryz.prog 314 = some 64 := by kernel_rfl
@[go_sem] theorem Tryz.eq314 : eqOk Tryz.prog 314 = true := by kernel_rfl
@[go_sem] theorem Tryz.zr314 : zro Tryz.prog 314 = some (List.replicate 64 (.int .u8 0)) := by kernel_rfl
@[go_sem] theorem Tryz.tk317 : tk Tryz.prog 317 = .arr 0 16 := by kernel_rfl
@[go_sem] theorem Tryz.sz317 : sz Tryz.prog 317 = some 0 := by kernel_rfl
@[go_sem] theorem Tryz.by317 : by' Tryz.prog 317 = some 0 := by kernel_rfl
@[go_sem] theorem Tryz.zr317 : zro Tryz.prog 317 = some ([]) := by kernel_rfl
@[go_sem] theorem Tryz.tk319 : tk Tryz.prog 319 = .struct [(0, 317)] := by kernel_rfl
@[go_sem] theorem Tryz.sz319 : sz Tryz.prog 319 = some 0 := by kernel_rfl
@[go_sem] theorem Tryz.by319 : by' Tryz.prog 319 = some 0 := by kernel_rfl
@[go_sem] theorem Tryz.zr319 : zro Tryz.prog 319 = some ([]) := by kernel_rfl
@[go_sem] theorem Tryz.tk320 : tk Tryz.prog 320 = .int .u8 := by kernel_rfl
@[go_sem] theorem Tryz.sz320 : sz Tryz.prog 320 = some 1 := by kernel_rfl
@[go_sem] theorem Tryz.by320 : by' Tryz.prog 320 = some 1 := by kernel_rfl
@[go_sem] theorem Tryz.un320 : (Tryz.prog.underlying 320).isSome = true := by kernel_rfl
@[go_sem] theorem Tryz.zr320 : zro Tryz.prog 320 = some ([.int .u8 0]) := by kernel_rfl
@[go_sem] theorem Tryz.tk321 : tk Tryz.prog 321 = .int .u8 := by kernel_rfl
@[go_sem] theorem Tryz.sz321 : sz Tryz.prog 321 = some 1 := by kernel_rfl
@[go_sem] theorem Tryz.by321 : by' Tryz.prog 321 = some 1 := by kernel_rfl
@[go_sem] theorem Tryz.un321 : (Tryz.prog.underlying 321).isSome = true := by kernel_rfl
@[go_sem] theorem Tryz.zr321 : zro Tryz.prog 321 = some ([.int .u8 0]) := by kernel_rfl
@[go_sem] theorem Tryz.tk322 : tk Tryz.prog 322 = .func := by kernel_rfl
@[go_sem] theorem Tryz.sz322 : sz Tryz.prog 322 = some 1 := by kernel_rfl
@[go_sem] theorem Tryz.by322 : by' Tryz.prog 322 = some 8 := by kernel_rfl
@[go_sem] theorem Tryz.zr322 : zro Tryz.prog 322 = some ([.nilFunc]) := by kernel_rfl
@[go_sem] theorem Tryz.tk323 : tk Tryz.prog 323 = .int .i32 := by kernel_rfl
@[go_sem] theorem Tryz.sz323 : sz Tryz.prog 323 = some 1 := by kernel_rfl
@[go_sem] theorem Tryz.by323 : by' Tryz.prog 323 = some 4 := by kernel_rfl
@[go_sem] theorem Tryz.un323 : (Tryz.prog.underlying 323).isSome = true := by kernel_rfl
@[go_sem] theorem Tryz.zr323 : zro Tryz.prog 323 = some ([.int .i32 0]) := by kernel_rfl
@[go_sem] theorem Tryz.tk324 : tk Tryz.prog 324 = .int .i32 := by kernel_rfl
@[go_sem] theorem Tryz.sz324 : sz Tryz.prog 324 = some 1 := by kernel_rfl
@[go_sem] theorem Tryz.by324 : by' Tryz.prog 324 = some 4 := by kernel_rfl
@[go_sem] theorem Tryz.un324 : (Tryz.prog.underlying 324).isSome = true := by kernel_rfl
@[go_sem] theorem Tryz.zr324 : zro Tryz.prog 324 = some ([.int .i32 0]) := by kernel_rfl
@[go_sem] theorem Tryz.tk326 : tk Tryz.prog 326 = .struct [(0, 12), (1, 12), (2, 276), (3, 320), (4, 5), (5, 5), (6, 321), (7, 322), (8, 250), (9, 323), (10, 324)] := by kernel_rfl
@[go_sem] theorem Tryz.sz326 : sz Tryz.prog 326 = some 11 := by kernel_rfl
@[go_sem] theorem Tryz.by326 : by' Tryz.prog 326 = some 48 := by kernel_rfl
@[go_sem] theorem Tryz.zr326 : zro Tryz.prog 326 = some ([.int .u64 0, .int .u64 0, .int .u32 0, .int .u8 0, .int .u8 0, .int .u8 0, .int .u8 0, .nilFunc, .pointer none, .int .i32 0, .int .i32 0]) := by kernel_rfl
end Go.Proofs.YteacpafhmgdbkaaGreatDoor
end

section
namespace Go.Proofs.YteacpafhmgdbkaaGreatDoor
open Go Go.AL
set_option maxRecDepth 10000
def cls (b : Nat) : Int := if b = 32 ∨ (9 ≤ b ∧ b ≤ 13 ∧ b ≠ 11) then 1 else if b = 36 then 4 else if (48 ≤ b ∧ b ≤ 57) ∨ (65 ≤ b ∧ b ≤ 90) ∨ (97 ≤ b ∧ b ≤ 122) ∨ b = 45 ∨ b = 95 ∨ b = 46 then 2 else if 32 < b ∧ b ≤ 126 then 3 else 0
def clsAr : List IV := colF .u8 256 fun j => cls j
theorem tab_set (k : Nat) (v : Int) (hv : cls k = v) : (rowsF .u8 256 fun j => if j < k then cls j else 0).set k [.v (.int .u8 v)] = rowsF .u8 256 fun j => if j < k + 1 then cls j else 0 := by
  refine rowsF_set .u8 _ _ v fun j _ => ?_
  by_cases h : j = k
  · subst h; simp [hv]
  · by_cases h' : j < k
    · have : j < k + 1 := by omega
      simp [h, h', this]
    · have : ¬ j < k + 1 := by omega
      simp [h, h', this]
theorem tab_same (k : Nat) (hv : cls k = 0) : (rowsF .u8 256 fun j => if j < k then cls j else 0) = rowsF .u8 256 fun j => if j < k + 1 then cls j else 0 := by
  refine rowsF_congr .u8 _ _ fun j _ => ?_
  by_cases h : j = k
  · subst h; simp [hv]
  · by_cases h' : j < k
    · have : j < k + 1 := by omega
      simp [h', this]
    · have : ¬ j < k + 1 := by omega
      simp [h', this]
theorem classes_spec : PFn Tryz.prog 158 [] (.ar clsAr) := by
  refine ACall.walk [0, 1, 2, 3, 4, 8, 25, 30, 67] [0] Tryz.func158 rfl Tryz.ntmps158 (by kernel_rfl) (by rfl) rfl fun W own I0 φ0 lay => ?_
  refine gO ?_
  refine AP.loop rfl (α := Nat) (fun k => [(0, .ob 0 0), (3, .im (.v (.int .i64 k)))]) (fun k => [(0, .vec 227 1 (rowsF .u8 256 fun j => if j < k then cls j else 0))]) (fun k => k ≤ 256) (fun k => 256 - k) 0 (by simp) (Sub.cons rfl (Sub.cons rfl (Sub.nil _))) (by simp) fun k hk => ?_
  have hw := wr (x := (k : Int) + 1) (by omega)
  refine gE @hw ?_
  refine AP.cond rfl rfl (fun hc => ?_) (fun hc => ?_)
  · have hk' : k < 256 := by simp at hc; omega
    have hu : IntKind.u8.wrap (k : Int) = k := by simp [IntKind.wrap, IntKind.bits, IntKind.signed]; omega
    have fin : ∀ v : Int, cls k = v → _ := fun v hv => congrArg (fun x => [(0, Ob.vec 227 1 x)]) (tab_set k v hv)
    repeat (first | refine xA ?_ | refine xB ?_ | refine xC ?_ | refine xE ?_ | refine xD ?_ | refine xK ?_ | refine xS ?_ | refine xM ?_ | refine xT ?_ | refine xF ?_ | ((first | refine xR ?_ | refine xW ?_ | refine vq_id ?_); simp only [go_sem, Nat.reduceAdd, Nat.reduceLeDiff, Nat.reduceSub, Int.reduceToNat, reduceCtorEq, hw, hu, rowsF_get .u8 _ hk']) | (refine ⟨by first | omega | (intros; simp_all; done) | (intros; simp_all; omega), ?_⟩; try simp only [go_sem, Nat.reduceAdd, Nat.reduceLeDiff, Nat.reduceSub, Int.reduceToNat, reduceCtorEq, hw, hu, rowsF_get .u8 _ hk']))
    refine AP.cond rfl rfl (fun h1 => ?_) (fun h1 => ?_)
    · repeat (first | refine xA ?_ | refine xB ?_ | refine xC ?_ | refine xE ?_ | refine xD ?_ | refine xK ?_ | refine xS ?_ | refine xM ?_ | refine xT ?_ | refine xF ?_ | ((first | refine xR ?_ | refine xW ?_ | refine vq_id ?_); simp only [go_sem, Nat.reduceAdd, Nat.reduceLeDiff, Nat.reduceSub, Int.reduceToNat, reduceCtorEq, hw, hu, rowsF_get .u8 _ hk']) | (refine ⟨by first | omega | (intros; simp_all; done) | (intros; simp_all; omega), ?_⟩; try simp only [go_sem, Nat.reduceAdd, Nat.reduceLeDiff, Nat.reduceSub, Int.reduceToNat, reduceCtorEq, hw, hu, rowsF_get .u8 _ hk']))
      exact AE.round (k + 1) (by omega) (by omega) (Sub.cons rfl (Sub.cons rfl (Sub.nil _))) (fin 1 (by simp at h1; unfold cls; grind))
    · repeat (first | refine xA ?_ | refine xB ?_ | refine xC ?_ | refine xE ?_ | refine xD ?_ | refine xK ?_ | refine xS ?_ | refine xM ?_ | refine xT ?_ | refine xF ?_ | ((first | refine xR ?_ | refine xW ?_ | refine vq_id ?_); simp only [go_sem, Nat.reduceAdd, Nat.reduceLeDiff, Nat.reduceSub, Int.reduceToNat, reduceCtorEq, hw, hu, rowsF_get .u8 _ hk']) | (refine ⟨by first | omega | (intros; simp_all; done) | (intros; simp_all; omega), ?_⟩; try simp only [go_sem, Nat.reduceAdd, Nat.reduceLeDiff, Nat.reduceSub, Int.reduceToNat, reduceCtorEq, hw, hu, rowsF_get .u8 _ hk']))
      refine AP.cond rfl rfl (fun h2 => ?_) (fun h2 => ?_)
      · repeat (first | refine xA ?_ | refine xB ?_ | refine xC ?_ | refine xE ?_ | refine xD ?_ | refine xK ?_ | refine xS ?_ | refine xM ?_ | refine xT ?_ | refine xF ?_ | ((first | refine xR ?_ | refine xW ?_ | refine vq_id ?_); simp only [go_sem, Nat.reduceAdd, Nat.reduceLeDiff, Nat.reduceSub, Int.reduceToNat, reduceCtorEq, hw, hu, rowsF_get .u8 _ hk']) | (refine ⟨by first | omega | (intros; simp_all; done) | (intros; simp_all; omega), ?_⟩; try simp only [go_sem, Nat.reduceAdd, Nat.reduceLeDiff, Nat.reduceSub, Int.reduceToNat, reduceCtorEq, hw, hu, rowsF_get .u8 _ hk']))
        exact AE.round (k + 1) (by omega) (by omega) (Sub.cons rfl (Sub.cons rfl (Sub.nil _))) (fin 4 (by simp at h1 h2; unfold cls; grind))
      · repeat (first | refine xA ?_ | refine xB ?_ | refine xC ?_ | refine xE ?_ | refine xD ?_ | refine xK ?_ | refine xS ?_ | refine xM ?_ | refine xT ?_ | refine xF ?_ | ((first | refine xR ?_ | refine xW ?_ | refine vq_id ?_); simp only [go_sem, Nat.reduceAdd, Nat.reduceLeDiff, Nat.reduceSub, Int.reduceToNat, reduceCtorEq, hw, hu, rowsF_get .u8 _ hk']) | (refine ⟨by first | omega | (intros; simp_all; done) | (intros; simp_all; omega), ?_⟩; try simp only [go_sem, Nat.reduceAdd, Nat.reduceLeDiff, Nat.reduceSub, Int.reduceToNat, reduceCtorEq, hw, hu, rowsF_get .u8 _ hk']))
        refine AP.cond rfl rfl (fun h3 => ?_) (fun h3 => ?_)
        · repeat (first | refine xA ?_ | refine xB ?_ | refine xC ?_ | refine xE ?_ | refine xD ?_ | refine xK ?_ | refine xS ?_ | refine xM ?_ | refine xT ?_ | refine xF ?_ | ((first | refine xR ?_ | refine xW ?_ | refine vq_id ?_); simp only [go_sem, Nat.reduceAdd, Nat.reduceLeDiff, Nat.reduceSub, Int.reduceToNat, reduceCtorEq, hw, hu, rowsF_get .u8 _ hk']) | (refine ⟨by first | omega | (intros; simp_all; done) | (intros; simp_all; omega), ?_⟩; try simp only [go_sem, Nat.reduceAdd, Nat.reduceLeDiff, Nat.reduceSub, Int.reduceToNat, reduceCtorEq, hw, hu, rowsF_get .u8 _ hk']))
          exact AE.round (k + 1) (by omega) (by omega) (Sub.cons rfl (Sub.cons rfl (Sub.nil _))) (fin 2 (by simp at h1 h2 h3; unfold cls; grind))
        · repeat (first | refine xA ?_ | refine xB ?_ | refine xC ?_ | refine xE ?_ | refine xD ?_ | refine xK ?_ | refine xS ?_ | refine xM ?_ | refine xT ?_ | refine xF ?_ | ((first | refine xR ?_ | refine xW ?_ | refine vq_id ?_); simp only [go_sem, Nat.reduceAdd, Nat.reduceLeDiff, Nat.reduceSub, Int.reduceToNat, reduceCtorEq, hw, hu, rowsF_get .u8 _ hk']) | (refine ⟨by first | omega | (intros; simp_all; done) | (intros; simp_all; omega), ?_⟩; try simp only [go_sem, Nat.reduceAdd, Nat.reduceLeDiff, Nat.reduceSub, Int.reduceToNat, reduceCtorEq, hw, hu, rowsF_get .u8 _ hk']))
          refine AP.cond rfl rfl (fun h4 => ?_) (fun h4 => ?_)
          · repeat (first | refine xA ?_ | refine xB ?_ | refine xC ?_ | refine xE ?_ | refine xD ?_ | refine xK ?_ | refine xS ?_ | refine xM ?_ | refine xT ?_ | refine xF ?_ | ((first | refine xR ?_ | refine xW ?_ | refine vq_id ?_); simp only [go_sem, Nat.reduceAdd, Nat.reduceLeDiff, Nat.reduceSub, Int.reduceToNat, reduceCtorEq, hw, hu, rowsF_get .u8 _ hk']) | (refine ⟨by first | omega | (intros; simp_all; done) | (intros; simp_all; omega), ?_⟩; try simp only [go_sem, Nat.reduceAdd, Nat.reduceLeDiff, Nat.reduceSub, Int.reduceToNat, reduceCtorEq, hw, hu, rowsF_get .u8 _ hk']))
            exact AE.round (k + 1) (by omega) (by omega) (Sub.cons rfl (Sub.cons rfl (Sub.nil _))) (fin 3 (by simp at h1 h2 h3 h4; unfold cls; grind))
          · repeat (first | refine xA ?_ | refine xB ?_ | refine xC ?_ | refine xE ?_ | refine xD ?_ | refine xK ?_ | refine xS ?_ | refine xM ?_ | refine xT ?_ | refine xF ?_ | ((first | refine xR ?_ | refine xW ?_ | refine vq_id ?_); simp only [go_sem, Nat.reduceAdd, Nat.reduceLeDiff, Nat.reduceSub, Int.reduceToNat, reduceCtorEq, hw, hu, rowsF_get .u8 _ hk']) | (refine ⟨by first | omega | (intros; simp_all; done) | (intros; simp_all; omega), ?_⟩; try simp only [go_sem, Nat.reduceAdd, Nat.reduceLeDiff, Nat.reduceSub, Int.reduceToNat, reduceCtorEq, hw, hu, rowsF_get .u8 _ hk']))
            exact AE.round (k + 1) (by omega) (by omega) (Sub.cons rfl (Sub.cons rfl (Sub.nil _))) (congrArg (fun x => [(0, Ob.vec 227 1 x)]) (tab_same k (by simp at h1 h2 h3 h4; unfold cls; grind)))
  · refine gO ?_
    refine AE.ret0 rfl ⟨⟨rfl, by rw [rowsF_flat, colF_len]; kernel_rfl⟩, trivial⟩ rfl ⟨rfl, ?_⟩
    simp only [tupOf, rowsF_flat, clsAr]
    rw [colF_congr]
    intro j hj
    have : j < k := by simp at hc; omega
    simp [this]
end Go.Proofs.YteacpafhmgdbkaaGreatDoor
end

section
namespace Go.Proofs.YteacpafhmgdbkaaGreatDoor
open Go Go.AL
set_option maxRecDepth 10000
def rowsI (k : IntKind) (l : List Int) : List (List IV) := l.map fun x => [.v (.int k x)]
theorem rowsI_len (k : IntKind) (l : List Int) : (rowsI k l).length = l.length := by simp [rowsI]
theorem rowsI_get (k : IntKind) (l : List Int) (i : Nat) (h : i < l.length) : (rowsI k l).getD i [] = [.v (.int k (l.getD i 0))] := by simp [rowsI, List.getD_eq_getElem?_getD, h]
attribute [go_sem] rowsI_len
def idx (l : List Int) (x : Int) : Int := if x ∈ l then l.idxOf x else -1
theorem idx_at (l : List Int) (x : Int) (k : Nat) (h : x ∉ l.take k) (hk : k < l.length) (e : x = l.getD k 0) : idx l x = k := by
  have hm : x ∈ l := by rw [e, List.getD_eq_getElem?_getD, List.getElem?_eq_getElem hk]; simp
  unfold idx
  rw [if_pos hm]
  have h1 : l.idxOf x < l.length := List.idxOf_lt_length_of_mem hm
  have h2 : ¬ l.idxOf x < k := fun hlt => h (by
    rw [List.mem_take_iff_getElem]
    exact ⟨l.idxOf x, by omega, by simp⟩)
  have h3 : l.idxOf x ≤ k := by
    rw [List.getD_eq_getElem?_getD, List.getElem?_eq_getElem hk] at e
    simp at e
    rcases Nat.lt_or_ge k (l.idxOf x) with h' | h'
    · have := List.not_of_lt_findIdx h'
      simp [← e] at this
    · exact h'
  omega
theorem take_step (l : List Int) (x : Int) (k : Nat) (h : x ∉ l.take k) (hk : k < l.length) (e : ¬ x = l.getD k 0) : x ∉ l.take (k + 1) := by
  rw [List.take_add_one, List.getElem?_eq_getElem hk]
  intro hm
  rw [List.getD_eq_getElem?_getD, List.getElem?_eq_getElem hk] at e
  rcases List.mem_append.1 hm with hm | hm
  · exact h hm
  · simp at hm e; exact e hm
theorem index_spec (l : List Int) (x : Int) (hl : l.length ≤ 1000000000) : PFn Tryz.prog 232 [.im (.sl 1 (rowsI .u8 l)), .im (.v (.int .u8 x))] (Iv (idx l x)) := by
  refine ACall.walk [0, 1, 4, 5, 7, 8, 9, 16] [] Tryz.func232 rfl Tryz.ntmps232 (by kernel_rfl) (by rfl) rfl fun W own I0 φ0 lay => ?_
  refine gO ?_
  refine AP.loop rfl (α := Nat) (fun k => [(0, .im (.sl 1 (rowsI .u8 l))), (1, .im (.v (.int .u8 x))), (7, Iv l.length), (8, Iv k)]) (fun k => []) (fun k => k ≤ l.length ∧ x ∉ l.take k) (fun k => l.length - k) 0 (by simp) (Sub.cons rfl (Sub.cons rfl (Sub.cons rfl (Sub.cons rfl (Sub.nil _))))) (by simp) fun k hk => ?_
  obtain ⟨hk, hx⟩ := hk
  have hw := wr (x := (k : Int) + 1) (by omega)
  refine gE @hw ?_
  refine AP.cond rfl rfl (fun hc => ?_) (fun hc => ?_)
  · have hk' : k < l.length := by simp at hc; omega
    repeat (first | refine xA ?_ | refine xB ?_ | refine xC ?_ | refine xE ?_ | refine xD ?_ | refine xK ?_ | refine xS ?_ | refine xM ?_ | refine xT ?_ | refine xF ?_ | ((first | refine xR ?_ | refine xW ?_ | refine vq_id ?_); simp only [go_sem, Nat.reduceAdd, Nat.reduceLeDiff, Nat.reduceSub, Int.reduceToNat, reduceCtorEq, hw, rowsI_get .u8 _ _ hk']) | (refine ⟨by first | omega | (intros; simp_all; done) | (intros; simp_all; omega), ?_⟩; try simp only [go_sem, Nat.reduceAdd, Nat.reduceLeDiff, Nat.reduceSub, Int.reduceToNat, reduceCtorEq, hw, rowsI_get .u8 _ _ hk']))
    refine AP.cond rfl rfl (fun h1 => ?_) (fun h1 => ?_)
    · refine gE @hw ?_
      exact AE.ret rfl ⟨rfl, trivial⟩ ⟨rfl, by rw [idx_at l x k hx hk' (by simpa using h1)]; rfl⟩
    · refine gE @hw ?_
      exact AE.round (k + 1) ⟨by omega, take_step l x k hx hk' (by simpa using h1)⟩ (by omega) (Sub.cons rfl (Sub.cons rfl (Sub.cons rfl (Sub.cons rfl (Sub.nil _))))) rfl
  · refine gO ?_
    refine AE.ret rfl ⟨rfl, trivial⟩ ⟨rfl, ?_⟩
    have : ¬ x ∈ l := by
      have hk' : k = l.length := by simp at hc; omega
      rw [hk', List.take_length] at hx; exact hx
    simp [idx, this, tupOf, AV.st]
theorem contains_spec (l : List Int) (x : Int) (hl : l.length ≤ 1000000000) : PFn Tryz.prog 176 [.im (.sl 1 (rowsI .u8 l)), .im (.v (.int .u8 x))] (Bv (decide (x ∈ l))) := by
  refine ACall.walk [0, 1, 4] [] Tryz.func176 rfl Tryz.ntmps176 (by kernel_rfl) (by rfl) rfl fun W own I0 φ0 lay => ?_
  refine gO ?_
  refine AQ.fn (by kernel_rfl) rfl rfl rfl (index_spec l x hl) rfl ?_
  refine gO ?_
  refine AE.ret rfl ⟨rfl, trivial⟩ ⟨rfl, ?_⟩
  simp only [tupOf, idx]
  split
  · simp [*, AV.st]
  · simp [*, AV.st]
end Go.Proofs.YteacpafhmgdbkaaGreatDoor
end

section
namespace Go.Proofs.YteacpafhmgdbkaaGreatDoor
open Go Go.AL Go.RowKit
set_option maxRecDepth 10000
def tabRows : List (List IV) := rowsF .u8 256 fun j => cls j
theorem tab_get (b : UInt8) : tabRows.getD b.toNat [] = [.v (.int .u8 (cls b.toNat))] := rowsF_get .u8 _ b.toNat_lt
theorem cls_map : clsAr.map (fun c => [c]) = tabRows := colF_rows _ _ _
theorem tabRows_len : tabRows.length = 256 := rowsF_len _ _ _
theorem clsAr_len : clsAr.length = 256 := colF_len _ _ _
attribute [go_sem] tab_get tabRows_len clsAr_len cls_map
theorem all_step (t : List UInt8) (p : UInt8 → Bool) (k : Nat) (hk : k < t.length) (h : (t.take k).all p = true) (h' : p (t.getD k 0) = true) : (t.take (k + 1)).all p = true := by
  rw [List.take_add_one, List.getElem?_eq_getElem hk, List.all_append, h]
  rw [List.getD_eq_getElem?_getD, List.getElem?_eq_getElem hk] at h'
  simpa using h'
theorem all_no (t : List UInt8) (p : UInt8 → Bool) (k : Nat) (hk : k < t.length) (h' : p (t.getD k 0) = false) : t.all p = false := by
  rw [List.getD_eq_getElem?_getD, List.getElem?_eq_getElem hk] at h'
  rw [List.all_eq_false]
  exact ⟨t[k], List.getElem_mem hk, by simpa using h'⟩
def onlyOk (t : List UInt8) (l : List Int) : Bool := !(t == []) && decide (t.length ≤ 60) && t.all fun b => decide (cls b.toNat ∈ l)
theorem only_spec (t : List UInt8) (l : List Int) (hl : l.length ≤ 1000000000) (ht : t.length ≤ 9223372036854775807) : PFn Tryz.prog 100 [Sv t, .im (.sl 1 (rowsI .u8 l))] (Bv (onlyOk t l)) := by
  refine ACall.walk [0, 1, 4, 5, 6, 13, 16, 17, 18, 27] [5] Tryz.func100 rfl Tryz.ntmps100 (by kernel_rfl) (by rfl) rfl fun W own I0 φ0 lay => ?_
  refine gO ?_
  refine AP.cond rfl rfl (fun h1 => ?_) (fun h1 => ?_)
  · refine gO ?_
    refine AE.ret rfl ⟨rfl, trivial⟩ ⟨rfl, ?_⟩
    have : onlyOk t l = false := by
      simp only [onlyOk, Bool.or_eq_true, decide_eq_true_eq] at h1 ⊢
      rcases h1 with h1 | h1
      · simp [h1]
      · have : ¬ t.length ≤ 60 := by omega
        simp [this]
    rw [this]; rfl
  · have ha : (t == []) = false ∧ t.length ≤ 60 := by simp at h1 ⊢; exact ⟨h1.1, by omega⟩
    refine gO ?_
    refine AQ.fn (by kernel_rfl) rfl rfl rfl classes_spec rfl ?_
    refine gO ?_
    refine AP.loop rfl (α := Nat) (fun k => [(0, Sv t), (1, .im (.sl 1 (rowsI .u8 l))), (5, .ob 0 0), (16, Iv t.length), (17, Iv k)]) (fun k => [(0, .vec 227 1 tabRows)]) (fun k => k ≤ t.length ∧ ((t.take k).all fun b => decide (cls b.toNat ∈ l)) = true) (fun k => t.length - k) 0 (by simp) (Sub.cons rfl (Sub.cons rfl (Sub.cons rfl (Sub.cons rfl (Sub.cons rfl (Sub.nil _)))))) (by simp) fun k hk => ?_
    obtain ⟨hk, hx⟩ := hk
    have hw := wr (x := (k : Int) + 1) (by omega)
    refine gE @hw ?_
    refine AP.cond rfl rfl (fun hc => ?_) (fun hc => ?_)
    · have hk' : k < t.length := by simp at hc; omega
      have hb := (t.getD k 0).toNat_lt
      refine gE @hw ?_
      refine AQ.fn (by kernel_rfl) rfl rfl rfl (contains_spec l (cls (t.getD k 0).toNat) hl) rfl ?_
      refine gE @hw ?_
      refine AP.cond rfl rfl (fun h2 => ?_) (fun h2 => ?_)
      · refine gE @hw ?_
        refine AE.ret0 rfl ⟨rfl, trivial⟩ rfl ⟨rfl, ?_⟩
        have : onlyOk t l = false := by
          rw [onlyOk, all_no t _ k hk' (by simpa using h2)]; simp
        rw [this]; rfl
      · refine gE @hw ?_
        exact AE.round (k + 1) ⟨by omega, all_step t _ k hk' hx (by simpa using h2)⟩ (by omega) (Sub.cons rfl (Sub.cons rfl (Sub.cons rfl (Sub.cons rfl (Sub.cons rfl (Sub.nil _)))))) rfl
    · refine gE @hw ?_
      refine AE.ret0 rfl ⟨rfl, trivial⟩ rfl ⟨rfl, ?_⟩
      have hk' : k = t.length := by simp at hc; omega
      rw [hk', List.take_length] at hx
      have : onlyOk t l = true := by rw [onlyOk, hx]; simp [ha]
      rw [this]; rfl
end Go.Proofs.YteacpafhmgdbkaaGreatDoor
end

section
namespace Go.Proofs.YteacpafhmgdbkaaGreatDoor
open Go Go.AL Go.RowKit
set_option maxRecDepth 10000
set_option maxHeartbeats 4000000
def sp (b : UInt8) : Bool := cls b.toNat == 1
theorem isSymbol_spec (t : List UInt8) (ht : t.length ≤ 9223372036854775807) : PFn Tryz.prog 41 [Sv t] (Bv (onlyOk t [2, 3])) := by
  refine ACall.walk [0, 2] [] Tryz.func41 rfl Tryz.ntmps41 (by kernel_rfl) (by rfl) rfl fun W own I0 φ0 lay => ?_
  refine gO ?_
  refine AQ.fn (by kernel_rfl) rfl rfl rfl (only_spec t [2, 3] (by simp) ht) rfl ?_
  refine gO ?_
  exact AE.ret rfl ⟨rfl, trivial⟩ ⟨rfl, rfl⟩
end Go.Proofs.YteacpafhmgdbkaaGreatDoor
end

section
namespace Go.Proofs.YteacpafhmgdbkaaGreatDoor
open Go Go.AL Go.RowKit
set_option maxRecDepth 10000
set_option maxHeartbeats 4000000
inductive Tm where
  | mk (nm : List UInt8) (ix : Int) (xs : List Tm)
inductive Fm where
  | mk (k : Int) (nm : List UInt8) (ts : List Tm) (ps : List Fm)
def Tm.nm : Tm → List UInt8 | .mk n _ _ => n
def Tm.ix : Tm → Int | .mk _ i _ => i
def Tm.xs : Tm → List Tm | .mk _ _ a => a
def Fm.k : Fm → Int | .mk k _ _ _ => k
def Fm.nm : Fm → List UInt8 | .mk _ n _ _ => n
def Fm.ts : Fm → List Tm | .mk _ _ t _ => t
def Fm.ps : Fm → List Fm | .mk _ _ _ p => p
mutual
def tmC : Tm → List IV
  | .mk nm ix xs => [Si nm, Ii ix, .sl 3 (tmR xs)]
def tmR : List Tm → List (List IV)
  | [] => []
  | t :: l => tmC t :: tmR l
end
mutual
def fmC : Fm → List IV
  | .mk k nm ts ps => [Ii k, Si nm, .sl 3 (tmR ts), .sl 4 (fmR ps)]
def fmR : List Fm → List (List IV)
  | [] => []
  | f :: l => fmC f :: fmR l
end
theorem tmC_eq (t : Tm) : tmC t = [Si t.nm, Ii t.ix, .sl 3 (tmR t.xs)] := by cases t; rfl
theorem fmC_eq (f : Fm) : fmC f = [Ii f.k, Si f.nm, .sl 3 (tmR f.ts), .sl 4 (fmR f.ps)] := by cases f; rfl
theorem tmR_map : ∀ l : List Tm, tmR l = l.map tmC
  | [] => rfl
  | t :: l => by rw [tmR, tmR_map l]; rfl
theorem fmR_map : ∀ l : List Fm, fmR l = l.map fmC
  | [] => rfl
  | t :: l => by rw [fmR, fmR_map l]; rfl
theorem tmR_len (l : List Tm) : (tmR l).length = l.length := by rw [tmR_map, List.length_map]
theorem fmR_len (l : List Fm) : (fmR l).length = l.length := by rw [fmR_map, List.length_map]
theorem tmR_get (l : List Tm) (k : Nat) (h : k < l.length) : ∃ t, l[k]? = some t ∧ (tmR l).getD k [] = [Si t.nm, Ii t.ix, .sl 3 (tmR t.xs)] := by
  refine ⟨l[k], List.getElem?_eq_getElem h, ?_⟩
  rw [List.getD_eq_getElem?_getD, tmR_map, List.getElem?_map, List.getElem?_eq_getElem h, ← tmC_eq]; rfl
theorem fmR_get (l : List Fm) (k : Nat) (h : k < l.length) : ∃ f, l[k]? = some f ∧ (fmR l).getD k [] = [Ii f.k, Si f.nm, .sl 3 (tmR f.ts), .sl 4 (fmR f.ps)] := by
  refine ⟨l[k], List.getElem?_eq_getElem h, ?_⟩
  rw [List.getD_eq_getElem?_getD, fmR_map, List.getElem?_map, List.getElem?_eq_getElem h, ← fmC_eq]; rfl
abbrev tmV (t : Tm) : AV := .agg [Sv t.nm, Iv t.ix, .im (.sl 3 (tmR t.xs))]
abbrev fmV (f : Fm) : AV := .agg [Iv f.k, Sv f.nm, .im (.sl 3 (tmR f.ts)), .im (.sl 4 (fmR f.ps))]
mutual
def msT : Tm → Int → Int → Option Int
  | .mk _ _ xs, d, n => if 4000 < n + 1 ∨ 100 < d then none else msTs xs (d + 1) (n + 1)
def msTs : List Tm → Int → Int → Option Int
  | [], _, n => some n
  | t :: l, d, n => match msT t d n with
    | none => none
    | some n' => msTs l d n'
end
abbrev msH (n : Int) : Heap := [(0, .var 260 [Iv n])]
abbrev tooLarge : AV := .wr (.iface 257) (.agg [])
theorem enter_spec (n d : Int) (hn : 0 ≤ n ∧ n ≤ 1000000) : ACallX Tryz.prog 213 [.ob 0 0, Iv d] (msH n) (fun r H' => ¬ (4000 < n + 1 ∨ 100 < d) ∧ r = .tup [] ∧ H' = msH (n + 1)) (fun r H' => (4000 < n + 1 ∨ 100 < d) ∧ r = tooLarge ∧ H' = msH (n + 1)) := by
  have hw := wr (x := n + 1) (by omega)
  refine ACallX.walk [0, 1, 19] [] Tryz.func213 rfl Tryz.ntmps213 (by kernel_rfl) (by rfl) rfl fun W own I0 φ0 lay => ?_
  refine gE @hw ?_
  refine AP.cond rfl rfl (fun h => ?_) (fun h => ?_)
  · refine gO ?_
    refine xI ?_; refine sI ?_
    refine gO ?_
    refine AQ.panic rfl ?_
    refine AEX.out [] rfl rfl ⟨?_, rfl, rfl⟩
    simpa using h
  · refine gO ?_
    refine AE.fall rfl trivial ⟨?_, rfl, rfl⟩
    simpa using h
end Go.Proofs.YteacpafhmgdbkaaGreatDoor
end

section
namespace Go.Proofs.YteacpafhmgdbkaaGreatDoor
open Go Go.AL Go.RowKit
set_option maxRecDepth 10000
set_option maxHeartbeats 4000000
mutual
theorem msT_bnd : ∀ (t : Tm) (d n m : Int), msT t d n = some m → n < m ∧ m ≤ 4000
  | .mk _ _ xs, d, n, m, h => by
    rw [msT] at h
    split at h
    · cases h
    · rename_i hc
      have := msTs_bnd xs (d + 1) (n + 1) m h
      rcases this with ⟨h1, h2⟩
      exact ⟨by omega, h2 (by omega)⟩
theorem msTs_bnd : ∀ (l : List Tm) (d n m : Int), msTs l d n = some m → n ≤ m ∧ (n ≤ 4000 → m ≤ 4000)
  | [], d, n, m, h => by rw [msTs] at h; cases h; exact ⟨by omega, fun h => h⟩
  | t :: l, d, n, m, h => by
    rw [msTs] at h
    split at h
    · cases h
    · rename_i n' hn'
      have h1 := msT_bnd t d n n' hn'
      have h2 := msTs_bnd l d n' m h
      exact ⟨by omega, fun _ => h2.2 h1.2⟩
end
theorem msT_eq (t : Tm) (d n : Int) : msT t d n = if 4000 < n + 1 ∨ 100 < d then none else msTs t.xs (d + 1) (n + 1) := by cases t; rw [msT]; rfl
theorem msTs_drop (l : List Tm) (k : Nat) (h : k < l.length) (d n : Int) (t : Tm) (ht : l[k]? = some t) : msTs (l.drop k) d n = match msT t d n with
    | none => none
    | some n' => msTs (l.drop (k + 1)) d n' := by
  have : l.drop k = t :: l.drop (k + 1) := by
    rw [List.drop_eq_getElem_cons h]
    rw [List.getElem?_eq_getElem h] at ht
    cases ht; rfl
  rw [this, msTs]
  all_goals (cases msT t d n <;> rfl)
theorem tm_mem {t u : Tm} {k : Nat} (h : t.xs[k]? = some u) : SizeOf.sizeOf u < SizeOf.sizeOf t := by
  cases t with
  | mk nm ix xs =>
    have := List.sizeOf_lt_of_mem (List.mem_of_getElem? h)
    simp only [Tm.xs] at this
    simp; omega
theorem term_spec (t : Tm) (n d : Int) (hn : 0 ≤ n ∧ n ≤ 5000) (hd : 0 ≤ d ∧ d ≤ 200) :
    ACallX Tryz.prog 136 [.ob 0 0, tmV t, Iv d] (msH n) (fun r H' => ∃ n', msT t d n = some n' ∧ r = .tup [] ∧ H' = msH n') (fun r H' => ∃ n', msT t d n = none ∧ r = tooLarge ∧ H' = msH n') := by
  refine ACallX.walk [0, 1, 2, 4, 7, 12, 13, 14, 15] [7] Tryz.func136 rfl Tryz.ntmps136 (by kernel_rfl) (by rfl) rfl fun W own I0 φ0 lay => ?_
  refine gO ?_
  refine AQ.callHX [(0, 0)] (by kernel_rfl) rfl rfl rfl rfl rfl rfl (by exact ⟨rfl, trivial⟩) rfl (enter_spec n d (by omega)) ?_ ?_
  · rintro r H' ⟨hc, rfl, rfl⟩
    refine ⟨rfl, ?_⟩
    refine sG (an @msH.eq_1 @tooLarge.eq_1) ?_
    refine AEX.out [] rfl rfl ⟨n + 1, ?_, rfl, rfl⟩
    rw [msT_eq, if_pos hc]
  · rintro r H' ⟨hc, rfl, rfl⟩
    refine ⟨rfl, ?_⟩
    refine sG @msH.eq_1 ?_
    refine gE @tmR_len ?_
    refine AP.loop rfl (α := Nat × Int) (fun q => [(0, .ob 0 0), (2, Iv d), (12, .im (.sl 3 (tmR t.xs))), (13, Iv t.xs.length), (14, Iv q.1)]) (fun q => msH q.2)
      (fun q => q.1 ≤ t.xs.length ∧ (q.1 : Int) ≤ q.2 ∧ 0 ≤ q.2 ∧ q.2 ≤ 4000 ∧ msT t d n = msTs (t.xs.drop q.1) (d + 1) q.2) (fun q => t.xs.length - q.1) (0, n + 1) ⟨by omega, by simp only; omega, by simp only; omega, by simp only; omega, by simp only [msT_eq, if_neg hc, List.drop_zero]⟩ (sU) rfl fun q ⟨hk, h1, h2, h3, hm⟩ => ?_
    obtain ⟨k, c⟩ := q
    simp only at hk h1 h2 h3 hm ⊢
    have hw := wr (x := (k : Int) + 1) (by omega)
    have hw2 := wr (x := d + 1) (by omega)
    rcases Nat.eq_or_lt_of_le hk with hke | hlt
    · refine sE @msH.eq_1 ?_
      refine gO ?_
      refine cF ?_
      refine gO ?_
      refine AE.fall rfl trivial ⟨c, ?_, rfl, rfl⟩
      rw [hm, hke, List.drop_length, msTs]
    · obtain ⟨u, hu, hrow⟩ := tmR_get t.xs k hlt
      have hdr := msTs_drop t.xs k hlt (d + 1) c u hu
      refine sE @msH.eq_1 ?_
      refine gO ?_
      refine cT ?_
      refine gE (an @hrow @hw2) ?_
      refine ⟨by rw [tmR_len]; omega, ?_⟩
      refine gE @hw2 ?_
      refine AQ.callHX [(0, 0)] (by kernel_rfl) rfl rfl rfl rfl rfl rfl (by exact ⟨rfl, trivial⟩) rfl (term_spec u c (d + 1) (by omega) (by omega)) ?_ ?_
      · rintro r H' ⟨c', hc', rfl, rfl⟩
        refine ⟨rfl, ?_⟩
        refine sG (an @msH.eq_1 @tooLarge.eq_1) ?_
        rw [hc'] at hdr
        refine AEX.out [1] rfl rfl ⟨c', ?_, rfl, rfl⟩
        rw [hm, hdr]
      · rintro r H' ⟨c', hc', rfl, rfl⟩
        refine ⟨rfl, ?_⟩
        rw [hc'] at hdr
        have hb := msT_bnd _ _ _ _ hc'
        refine sG @msH.eq_1 ?_
        refine gE @hw ?_
        refine AE.forgets [1] rfl ?_
        refine sI ?_
        refine AE.round (k + 1, c') ⟨by omega, by simp only; omega, by simp only; omega, by simp only; omega, by rw [hm, hdr]⟩ (by simp only; omega) (sU) rfl
termination_by SizeOf.sizeOf t
decreasing_by exact tm_mem hu
end Go.Proofs.YteacpafhmgdbkaaGreatDoor
end

section
namespace Go.Proofs.YteacpafhmgdbkaaGreatDoor
open Go Go.AL Go.RowKit
set_option maxRecDepth 10000
set_option maxHeartbeats 4000000
mutual
def msF : Fm → Int → Int → Option Int
  | .mk _ _ ts ps, d, n => if 4000 < n + 1 ∨ 100 < d then none else match msTs ts (d + 1) (n + 1) with
    | none => none
    | some n' => msFs ps (d + 1) n'
def msFs : List Fm → Int → Int → Option Int
  | [], _, n => some n
  | t :: l, d, n => match msF t d n with
    | none => none
    | some n' => msFs l d n'
end
mutual
theorem msF_bnd : ∀ (t : Fm) (d n m : Int), msF t d n = some m → n < m ∧ m ≤ 4000
  | .mk _ _ ts ps, d, n, m, h => by
    rw [msF] at h
    split at h
    · cases h
    · rename_i hc
      split at h
      · cases h
      · rename_i n' hn'
        have h1 := msTs_bnd ts (d + 1) (n + 1) n' hn'
        have h2 := msFs_bnd ps (d + 1) n' m h
        exact ⟨by omega, h2.2 (h1.2 (by omega))⟩
theorem msFs_bnd : ∀ (l : List Fm) (d n m : Int), msFs l d n = some m → n ≤ m ∧ (n ≤ 4000 → m ≤ 4000)
  | [], d, n, m, h => by rw [msFs] at h; cases h; exact ⟨by omega, fun h => h⟩
  | t :: l, d, n, m, h => by
    rw [msFs] at h
    split at h
    · cases h
    · rename_i n' hn'
      have h1 := msF_bnd t d n n' hn'
      have h2 := msFs_bnd l d n' m h
      exact ⟨by omega, fun _ => h2.2 h1.2⟩
end
theorem msF_eq (t : Fm) (d n : Int) : msF t d n = if 4000 < n + 1 ∨ 100 < d then none else match msTs t.ts (d + 1) (n + 1) with
    | none => none
    | some n' => msFs t.ps (d + 1) n' := by cases t; rw [msF]; rfl
theorem msFs_drop (l : List Fm) (k : Nat) (h : k < l.length) (d n : Int) (t : Fm) (ht : l[k]? = some t) : msFs (l.drop k) d n = match msF t d n with
    | none => none
    | some n' => msFs (l.drop (k + 1)) d n' := by
  have : l.drop k = t :: l.drop (k + 1) := by
    rw [List.drop_eq_getElem_cons h]
    rw [List.getElem?_eq_getElem h] at ht
    cases ht; rfl
  rw [this, msFs]
theorem fm_mem {t u : Fm} {k : Nat} (h : t.ps[k]? = some u) : SizeOf.sizeOf u < SizeOf.sizeOf t := by
  cases t with
  | mk kd nm ts ps =>
    have := List.sizeOf_lt_of_mem (List.mem_of_getElem? h)
    simp only [Fm.ps] at this
    simp; omega
theorem formula_spec (t : Fm) (n d : Int) (hn : 0 ≤ n ∧ n ≤ 5000) (hd : 0 ≤ d ∧ d ≤ 200) :
    ACallX Tryz.prog 172 [.ob 0 0, fmV t, Iv d] (msH n) (fun r H' => ∃ n', msF t d n = some n' ∧ r = .tup [] ∧ H' = msH n') (fun r H' => ∃ n', msF t d n = none ∧ r = tooLarge ∧ H' = msH n') := by
  refine ACallX.walk [0, 1, 2, 4, 7, 9, 14, 15, 16, 17, 27, 28, 29, 30] [7, 9] Tryz.func172 rfl Tryz.ntmps172 (by kernel_rfl) (by rfl) rfl fun W own I0 φ0 lay => ?_
  refine gO ?_
  refine AQ.callHX [(0, 0)] (by kernel_rfl) rfl rfl rfl rfl rfl rfl (by exact ⟨rfl, trivial⟩) rfl (enter_spec n d (by omega)) ?_ ?_
  · rintro r H' ⟨hc, rfl, rfl⟩
    refine ⟨rfl, ?_⟩
    refine sG (an @msH.eq_1 @tooLarge.eq_1) ?_
    refine AEX.out [] rfl rfl ⟨n + 1, ?_, rfl, rfl⟩
    rw [msF_eq, if_pos hc]
  · rintro r H' ⟨hc, rfl, rfl⟩
    refine ⟨rfl, ?_⟩
    refine sG @msH.eq_1 ?_
    refine gE (an @tmR_len @fmR_len) ?_
    refine AP.loop rfl (α := Nat × Int) (fun q => [(0, .ob 0 0), (2, Iv d), (4, .im (.pt [Ii t.k, Si t.nm, .sl 3 (tmR t.ts), .sl 4 (fmR t.ps)])), (14, .im (.sl 3 (tmR t.ts))), (15, Iv t.ts.length), (16, Iv q.1)]) (fun q => msH q.2)
      (fun q => q.1 ≤ t.ts.length ∧ (q.1 : Int) ≤ q.2 ∧ 0 ≤ q.2 ∧ q.2 ≤ 4000 ∧ msTs t.ts (d + 1) (n + 1) = msTs (t.ts.drop q.1) (d + 1) q.2) (fun q => t.ts.length - q.1) (0, n + 1) ⟨by omega, by simp only; omega, by simp only; omega, by simp only; omega, by simp only [List.drop_zero]⟩ (sU) rfl fun q ⟨hk, h1, h2, h3, hm⟩ => ?_
    obtain ⟨k, c⟩ := q
    simp only at hk h1 h2 h3 hm ⊢
    have hw := wr (x := (k : Int) + 1) (by omega)
    have hw2 := wr (x := d + 1) (by omega)
    rcases Nat.eq_or_lt_of_le hk with hke | hlt
    · have hm0 : msTs t.ts (d + 1) (n + 1) = some c := by rw [hm, hke, List.drop_length, msTs]
      refine sE @msH.eq_1 ?_
      refine gO ?_
      refine cF ?_
      refine gE @fmR_len ?_
      refine AP.loop rfl (α := Nat × Int) (fun q => [(0, .ob 0 0), (2, Iv d), (27, .im (.sl 4 (fmR t.ps))), (28, Iv t.ps.length), (29, Iv q.1)]) (fun q => msH q.2)
        (fun q => q.1 ≤ t.ps.length ∧ (q.1 : Int) ≤ q.2 ∧ 0 ≤ q.2 ∧ q.2 ≤ 4000 ∧ msF t d n = msFs (t.ps.drop q.1) (d + 1) q.2) (fun q => t.ps.length - q.1) (0, c) ⟨by omega, by simp only; omega, by simp only; omega, by simp only; omega, by simp only [msF_eq, if_neg hc, hm0, List.drop_zero]⟩ (sU) rfl fun q ⟨hk, h1, h2, h3, hm⟩ => ?_
      obtain ⟨k, c⟩ := q
      simp only at hk h1 h2 h3 hm ⊢
      have hw := wr (x := (k : Int) + 1) (by omega)
      rcases Nat.eq_or_lt_of_le hk with hke | hlt
      · refine sE @msH.eq_1 ?_
        refine gO ?_
        refine cF ?_
        refine gO ?_
        refine AE.fall rfl trivial ⟨c, ?_, rfl, rfl⟩
        rw [hm, hke, List.drop_length, msFs]
      · obtain ⟨u, hu, hrow⟩ := fmR_get t.ps k hlt
        have hdr := msFs_drop t.ps k hlt (d + 1) c u hu
        refine sE @msH.eq_1 ?_
        refine gO ?_
        refine cT ?_
        refine gE (an @hrow @hw2) ?_
        refine ⟨by rw [fmR_len]; omega, ?_⟩
        refine gE @hw2 ?_
        refine AQ.callHX [(0, 0)] (by kernel_rfl) rfl rfl rfl rfl rfl rfl (by exact ⟨rfl, trivial⟩) rfl (formula_spec u c (d + 1) (by omega) (by omega)) ?_ ?_
        · rintro r H' ⟨c', hc', rfl, rfl⟩
          refine ⟨rfl, ?_⟩
          refine sG (an @msH.eq_1 @tooLarge.eq_1) ?_
          rw [hc'] at hdr
          refine AEX.out [1] rfl rfl ⟨c', ?_, rfl, rfl⟩
          rw [hm, hdr]
        · rintro r H' ⟨c', hc', rfl, rfl⟩
          refine ⟨rfl, ?_⟩
          rw [hc'] at hdr
          have hb := msF_bnd _ _ _ _ hc'
          refine sG @msH.eq_1 ?_
          refine gE @hw ?_
          refine AE.forgets [1] rfl ?_
          refine sI ?_
          refine AE.round (k + 1, c') ⟨by omega, by simp only; omega, by simp only; omega, by simp only; omega, by rw [hm, hdr]⟩ (by simp only; omega) (sU) rfl
    · obtain ⟨u, hu, hrow⟩ := tmR_get t.ts k hlt
      have hdr := msTs_drop t.ts k hlt (d + 1) c u hu
      refine sE @msH.eq_1 ?_
      refine gO ?_
      refine cT ?_
      refine gE (an @hrow @hw2) ?_
      refine ⟨by rw [tmR_len]; omega, ?_⟩
      refine gE @hw2 ?_
      refine AQ.callHX [(0, 0)] (by kernel_rfl) rfl rfl rfl rfl rfl rfl (by exact ⟨rfl, trivial⟩) rfl (term_spec u c (d + 1) (by omega) (by omega)) ?_ ?_
      · rintro r H' ⟨c', hc', rfl, rfl⟩
        refine ⟨rfl, ?_⟩
        refine sG (an @msH.eq_1 @tooLarge.eq_1) ?_
        rw [hc'] at hdr
        refine AEX.out [1] rfl rfl ⟨c', ?_, rfl, rfl⟩
        rw [msF_eq, if_neg hc, hm, hdr]
      · rintro r H' ⟨c', hc', rfl, rfl⟩
        refine ⟨rfl, ?_⟩
        rw [hc'] at hdr
        have hb := msT_bnd _ _ _ _ hc'
        refine sG @msH.eq_1 ?_
        refine gE @hw ?_
        refine AE.forgets [1] rfl ?_
        refine sI ?_
        refine AE.round (k + 1, c') ⟨by omega, by simp only; omega, by simp only; omega, by simp only; omega, by rw [hm, hdr]⟩ (by simp only; omega) (sU) rfl
termination_by SizeOf.sizeOf t
decreasing_by exact fm_mem hu
end Go.Proofs.YteacpafhmgdbkaaGreatDoor
end

section
namespace Go.Proofs.YteacpafhmgdbkaaGreatDoor
open Go Go.AL Go.RowKit
set_option maxRecDepth 10000
set_option maxHeartbeats 4000000
theorem fits1_none (b : Bool) : ADef Tryz.prog 212 [.ob 0 0] [(0, .var 4 [Bv b])] none (fun H' => H' = [(0, .var 4 [Bv b])]) := by
  refine ADef.walk [0, 1, 3, 6, 13] [2] Tryz.func212 rfl Tryz.ntmps212 ⟨rfl, rfl, rfl⟩ ⟨rfl, rfl, rfl⟩ rfl (by kernel_rfl) (by rfl) rfl fun W own I0 φ0 lay => ?_
  simp only [go_sem, Nat.reduceAdd, Nat.reduceLeDiff, Nat.reduceSub, Int.reduceToNat, reduceCtorEq, recAV]
  refine gO ?_
  exact AE.retQ [] (.inr rfl) rfl rfl trivial rfl rfl
theorem fits1_some (b : Bool) : ADef Tryz.prog 212 [.ob 0 0] [(0, .var 4 [Bv b])] (some tooLarge) (fun H' => H' = [(0, .var 4 [Bv false])]) := by
  refine ADef.walk [0, 1, 3, 6, 13] [2] Tryz.func212 rfl Tryz.ntmps212 ⟨rfl, rfl, rfl⟩ ⟨rfl, rfl, rfl⟩ rfl (by kernel_rfl) (by rfl) rfl fun W own I0 φ0 lay => ?_
  simp only [go_sem, Nat.reduceAdd, Nat.reduceLeDiff, Nat.reduceSub, Int.reduceToNat, reduceCtorEq, recAV]
  refine gO ?_
  refine AQ.assertYes (by kernel_rfl) rfl rfl ?_; refine sI ?_
  refine gO ?_
  exact AE.retQ [1] (.inr rfl) rfl rfl trivial rfl rfl
theorem fits_spec (f : FuncId) (x : IV) (b : Bool) (h : ACallX Tryz.prog f [.ob 0 0, .im x] (msH 0) (fun r H' => b = true ∧ r = .tup [] ∧ ∃ n, H' = msH n) (fun r H' => b = false ∧ r = tooLarge ∧ ∃ n, H' = msH n)) :
    ACallX Tryz.prog 134 [.fn f [] [.im x]] [] (fun r H' => r = Bv b ∧ H' = []) (fun _ _ => False) := by
  refine ACallX.walkD [0, 2, 3] [2, 6] Tryz.func134 rfl Tryz.ntmps134 (by kernel_rfl) (by rfl) rfl fun W own I0 φ0 lay => ?_
  refine xA ?_
  refine xR ?_
  refine sI ?_
  refine xD ?_
  refine xC ?_
  refine sI ?_
  refine AP.regionD rfl rfl ?_
  refine AQ.go1 (by kernel_rfl) rfl rfl ?_ ?_
  · simp only [go_sem]
    done
  refine sI ?_
  refine AQ.defer rfl rfl rfl fun u => ?_
  refine sI ?_
  refine gO ?_
  refine AQ.callHX [(0, 1)] (by kernel_rfl) rfl rfl rfl rfl rfl rfl (by exact ⟨rfl, trivial⟩) rfl h ?_ ?_
  · rintro r H' ⟨hb, rfl, n, rfl⟩
    refine ⟨rfl, ?_⟩
    refine sG (an @msH.eq_1 @tooLarge.eq_1) ?_
    subst hb
    refine AEX.leaveD [(0, 0)] (K' := [_]) (t := 3) rfl rfl rfl rfl rfl (by exact ⟨rfl, trivial⟩) rfl (fits1_some false) rfl ?_ rfl
    rintro H1 rfl
    refine ⟨rfl, ?_⟩
    refine sH ?_
    exact LV.retD [1, 0] rfl ⟨⟨rfl, Nat.le_of_ble_eq_true (by kernel_rfl)⟩, trivial⟩ rfl ⟨rfl, rfl⟩
  · rintro r H' ⟨hb, rfl, n, rfl⟩
    refine ⟨rfl, ?_⟩
    refine sG @msH.eq_1 ?_
    refine gO ?_
    subst hb
    refine AE.leaveD [(0, 0)] (t := 3) (.inl rfl) rfl rfl rfl rfl rfl (by exact ⟨rfl, trivial⟩) rfl (fits1_none true) ?_
    rintro H1 rfl
    refine ⟨rfl, ?_⟩
    refine sH ?_
    exact LV.retD [1, 0] rfl ⟨⟨rfl, Nat.le_of_ble_eq_true (by kernel_rfl)⟩, trivial⟩ rfl ⟨rfl, rfl⟩
end Go.Proofs.YteacpafhmgdbkaaGreatDoor
end

section
namespace Go.Proofs.YteacpafhmgdbkaaGreatDoor
open Go Go.AL Go.RowKit
set_option maxRecDepth 10000
set_option maxHeartbeats 4000000
abbrev tmP (t : Tm) : IV := .pt [Si t.nm, Ii t.ix, .sl 3 (tmR t.xs)]
abbrev fmP (f : Fm) : IV := .pt [Ii f.k, Si f.nm, .sl 3 (tmR f.ts), .sl 4 (fmR f.ps)]
def fitT (t : Tm) : Bool := (msT t 1 0).isSome
def fitF (f : Fm) : Bool := (msF f 1 0).isSome
theorem closed1_spec (t : Tm) : ACallX Tryz.prog 135 [.ob 0 0, .im (tmP t)] (msH 0) (fun r H' => fitT t = true ∧ r = .tup [] ∧ ∃ n, H' = msH n) (fun r H' => fitT t = false ∧ r = tooLarge ∧ ∃ n, H' = msH n) := by
  refine ACallX.walk [0, 1] [] Tryz.func135 rfl Tryz.ntmps135 (by kernel_rfl) (by rfl) rfl fun W own I0 φ0 lay => ?_
  refine gO ?_
  refine AQ.callHX [(0, 0)] (by kernel_rfl) rfl rfl rfl rfl rfl rfl (by exact ⟨rfl, trivial⟩) rfl (term_spec t 0 1 (by omega) (by omega)) ?_ ?_
  · rintro r H' ⟨n', hc, rfl, rfl⟩
    refine ⟨rfl, ?_⟩
    refine sG (an @msH.eq_1 @tooLarge.eq_1) ?_
    exact AEX.out [] rfl rfl ⟨by rw [fitT, hc]; rfl, rfl, n', rfl⟩
  · rintro r H' ⟨n', hc, rfl, rfl⟩
    refine ⟨rfl, ?_⟩
    refine sG @msH.eq_1 ?_
    refine gO ?_
    exact AE.fall rfl trivial ⟨by rw [fitT, hc]; rfl, rfl, n', rfl⟩
theorem under1_spec (t : Fm) : ACallX Tryz.prog 171 [.ob 0 0, .im (fmP t)] (msH 0) (fun r H' => fitF t = true ∧ r = .tup [] ∧ ∃ n, H' = msH n) (fun r H' => fitF t = false ∧ r = tooLarge ∧ ∃ n, H' = msH n) := by
  refine ACallX.walk [0, 1] [] Tryz.func171 rfl Tryz.ntmps171 (by kernel_rfl) (by rfl) rfl fun W own I0 φ0 lay => ?_
  refine gO ?_
  refine AQ.callHX [(0, 0)] (by kernel_rfl) rfl rfl rfl rfl rfl rfl (by exact ⟨rfl, trivial⟩) rfl (formula_spec t 0 1 (by omega) (by omega)) ?_ ?_
  · rintro r H' ⟨n', hc, rfl, rfl⟩
    refine ⟨rfl, ?_⟩
    refine sG (an @msH.eq_1 @tooLarge.eq_1) ?_
    exact AEX.out [] rfl rfl ⟨by rw [fitF, hc]; rfl, rfl, n', rfl⟩
  · rintro r H' ⟨n', hc, rfl, rfl⟩
    refine ⟨rfl, ?_⟩
    refine sG @msH.eq_1 ?_
    refine gO ?_
    exact AE.fall rfl trivial ⟨by rw [fitF, hc]; rfl, rfl, n', rfl⟩
theorem fitsT_spec (t : Tm) : PFn Tryz.prog 134 [.fn 135 [] [.im (tmP t)]] (Bv (fitT t)) :=
  ((fits_spec 135 _ (fitT t) (closed1_spec t)).toA fun _ _ h => h).mono fun _ _ h => ⟨h.2, h.1⟩
theorem fitsF_spec (t : Fm) : PFn Tryz.prog 134 [.fn 171 [] [.im (fmP t)]] (Bv (fitF t)) :=
  ((fits_spec 171 _ (fitF t) (under1_spec t)).toA fun _ _ h => h).mono fun _ _ h => ⟨h.2, h.1⟩
end Go.Proofs.YteacpafhmgdbkaaGreatDoor
end

section
namespace Go.Proofs.YteacpafhmgdbkaaGreatDoor
open Go Go.AL Go.RowKit
set_option maxRecDepth 10000
set_option maxHeartbeats 4000000
mutual
def tmS : Tm → Prop
  | .mk nm _ xs => nm.length ≤ 9223372036854775807 ∧ xs.length ≤ 9223372036854775807 ∧ tmsS xs
def tmsS : List Tm → Prop
  | [] => True
  | t :: l => tmS t ∧ tmsS l
end
mutual
def fmS : Fm → Prop
  | .mk _ nm ts ps => nm.length ≤ 9223372036854775807 ∧ ts.length ≤ 9223372036854775807 ∧ tmsS ts ∧ ps.length ≤ 9223372036854775807 ∧ fmsS ps
def fmsS : List Fm → Prop
  | [] => True
  | t :: l => fmS t ∧ fmsS l
end
theorem tmS_eq {t : Tm} : tmS t ↔ t.nm.length ≤ 9223372036854775807 ∧ t.xs.length ≤ 9223372036854775807 ∧ tmsS t.xs := by cases t; rw [tmS]; rfl
theorem fmS_eq {t : Fm} : fmS t ↔ t.nm.length ≤ 9223372036854775807 ∧ t.ts.length ≤ 9223372036854775807 ∧ tmsS t.ts ∧ t.ps.length ≤ 9223372036854775807 ∧ fmsS t.ps := by cases t; rw [fmS]; rfl
theorem tmsS_get : ∀ {l : List Tm} {k : Nat} {t : Tm}, tmsS l → l[k]? = some t → tmS t
  | [], k, t, _, h => by simp at h
  | u :: l, 0, t, hs, h => by rw [tmsS] at hs; simp at h; exact h ▸ hs.1
  | u :: l, k + 1, t, hs, h => by rw [tmsS] at hs; simp at h; exact tmsS_get hs.2 h
theorem fmsS_get : ∀ {l : List Fm} {k : Nat} {t : Fm}, fmsS l → l[k]? = some t → fmS t
  | [], k, t, _, h => by simp at h
  | u :: l, 0, t, hs, h => by rw [fmsS] at hs; simp at h; exact h ▸ hs.1
  | u :: l, k + 1, t, hs, h => by rw [fmsS] at hs; simp at h; exact fmsS_get hs.2 h
def isNm (t : List UInt8) : Bool := onlyOk t [2, 3]
mutual
def wT : Tm → Int → Int
  | .mk nm ix xs, b => if nm = [] then (if 0 < xs.length ∨ ix < 0 then 2 else if b ≤ ix then 273 else 0) else if isNm nm = false ∨ ix ≠ 0 then 2 else wTs xs b
def wTs : List Tm → Int → Int
  | [], _ => 0
  | t :: l, b => if wT t b = 0 then wTs l b else wT t b
end
theorem wT_eq (t : Tm) (b : Int) : wT t b = if t.nm = [] then (if 0 < t.xs.length ∨ t.ix < 0 then 2 else if b ≤ t.ix then 273 else 0) else if isNm t.nm = false ∨ t.ix ≠ 0 then 2 else wTs t.xs b := by cases t; rw [wT]; rfl
theorem wTs_drop (l : List Tm) (k : Nat) (h : k < l.length) (b : Int) (t : Tm) (ht : l[k]? = some t) : wTs (l.drop k) b = if wT t b = 0 then wTs (l.drop (k + 1)) b else wT t b := by
  have : l.drop k = t :: l.drop (k + 1) := by
    rw [List.drop_eq_getElem_cons h]
    rw [List.getElem?_eq_getElem h] at ht
    cases ht; rfl
  rw [this, wTs]
theorem isName_spec (t : List UInt8) (ht : t.length ≤ 9223372036854775807) : PFn Tryz.prog 73 [Sv t] (Bv (isNm t)) := by
  refine ACall.walk [0, 2] [] Tryz.func73 rfl Tryz.ntmps73 (by kernel_rfl) (by rfl) rfl fun W own I0 φ0 lay => ?_
  refine gO ?_
  refine AQ.fn (by kernel_rfl) rfl rfl rfl (isSymbol_spec t ht) rfl ?_
  refine gO ?_
  exact AE.ret0 rfl ⟨rfl, trivial⟩ rfl ⟨rfl, rfl⟩
theorem wellTerms_walk (l : List Tm) (b : Int) (hl : l.length ≤ 9223372036854775807) (hs : tmsS l) (ih : ∀ (k : Nat) (t : Tm), l[k]? = some t → PFn Tryz.prog 137 [tmV t, Iv b] (Iv (wT t b))) : PFn Tryz.prog 214 [.im (.sl 3 (tmR l)), Iv b] (Iv (wTs l b)) := by
  refine ACall.walk [0, 1, 4, 6, 7, 8, 9, 10, 11, 18] [6] Tryz.func214 rfl Tryz.ntmps214 (by kernel_rfl) (by rfl) rfl fun W own I0 φ0 lay => ?_
  refine gE @tmR_len ?_
  refine AP.loop rfl (α := Nat) (fun k => [(1, Iv b), (8, .im (.sl 3 (tmR l))), (9, Iv l.length), (10, Iv k)]) (fun _ => []) (fun k => k ≤ l.length ∧ wTs l b = wTs (l.drop k) b) (fun k => l.length - k) 0 ⟨by omega, rfl⟩ (sU) rfl fun k ⟨hk, hm⟩ => ?_
  rcases Nat.eq_or_lt_of_le hk with hke | hlt
  · refine gO ?_
    refine cF ?_
    refine gO ?_
    exact AE.ret0 rfl ⟨rfl, trivial⟩ rfl ⟨rfl, by rw [hm, hke, List.drop_length, wTs]; rfl⟩
  · obtain ⟨u, hu, hrow⟩ := tmR_get l k hlt
    have hw := wr (x := (k : Int) + 1) (by omega)
    refine gO ?_
    refine cT ?_
    refine gE @hrow ?_
    refine ⟨by rw [tmR_len]; omega, ?_⟩
    refine gO ?_
    refine AQ.fn (by kernel_rfl) rfl rfl rfl (ih k u hu) rfl ?_
    refine gO ?_
    have hdr := wTs_drop l k hlt b u hu
    refine AP.cond rfl rfl (fun h1 => ?_) (fun h1 => ?_)
    · refine gO ?_
      refine AE.retD [0] rfl ⟨rfl, trivial⟩ rfl ⟨rfl, ?_⟩
      rw [hm, hdr, if_neg (by simpa using h1)]; rfl
    · refine gE @hw ?_
      refine AE.forgets [0] rfl ?_
      refine sI ?_
      exact AE.round (k + 1) ⟨by omega, by rw [hm, hdr, if_pos (by simpa using h1)]⟩ (by omega) (sU) rfl
theorem wellTerm_spec (t : Tm) (b : Int) (hs : tmS t) : PFn Tryz.prog 137 [tmV t, Iv b] (Iv (wT t b)) := by
  have hs0 := tmS_eq.1 hs
  refine ACall.walk [0, 1, 2, 4, 5, 17, 21, 22] [] Tryz.func137 rfl Tryz.ntmps137 (by kernel_rfl) (by rfl) rfl fun W own I0 φ0 lay => ?_
  refine gO ?_
  refine AP.cond rfl rfl (fun h => ?_) (fun h => ?_)
  · have hn : t.nm = [] := by simpa using h
    refine gE @tmR_len ?_
    refine AP.cond rfl rfl (fun h1 => ?_) (fun h1 => ?_)
    · refine gO ?_
      exact AE.ret0 rfl ⟨rfl, trivial⟩ rfl ⟨rfl, by rw [wT_eq, if_pos hn, if_pos (by simpa using h1)]; rfl⟩
    · refine gO ?_
      refine AP.cond rfl rfl (fun h2 => ?_) (fun h2 => ?_)
      · refine gO ?_
        exact AE.ret0 rfl ⟨rfl, trivial⟩ rfl ⟨rfl, by rw [wT_eq, if_pos hn, if_neg (by simpa using h1), if_pos (by simpa using h2)]; rfl⟩
      · refine gO ?_
        exact AE.ret0 rfl ⟨rfl, trivial⟩ rfl ⟨rfl, by rw [wT_eq, if_pos hn, if_neg (by simpa using h1), if_neg (by simpa using h2)]; rfl⟩
  · have hn : ¬ t.nm = [] := by simpa using h
    refine gO ?_
    refine AQ.fn (by kernel_rfl) rfl rfl rfl (isName_spec t.nm hs0.1) rfl ?_
    refine gO ?_
    refine AP.cond rfl rfl (fun h1 => ?_) (fun h1 => ?_)
    · refine gO ?_
      exact AE.ret0 rfl ⟨rfl, trivial⟩ rfl ⟨rfl, by rw [wT_eq, if_neg hn, if_pos (by simpa using h1)]; rfl⟩
    · refine gO ?_
      refine AQ.fn (by kernel_rfl) rfl rfl rfl (wellTerms_walk t.xs b hs0.2.1 hs0.2.2 fun k u hu => wellTerm_spec u b (tmsS_get hs0.2.2 hu)) rfl ?_
      refine gO ?_
      exact AE.ret0 rfl ⟨rfl, trivial⟩ rfl ⟨rfl, by rw [wT_eq, if_neg hn, if_neg (by simpa using h1)]; rfl⟩
termination_by SizeOf.sizeOf t
decreasing_by exact tm_mem hu
end Go.Proofs.YteacpafhmgdbkaaGreatDoor
end

section
namespace Go.Proofs.YteacpafhmgdbkaaGreatDoor
open Go Go.AL Go.RowKit
set_option maxRecDepth 10000
set_option maxHeartbeats 4000000
def bnd (f : Fm) : Int := if f.k = 7 ∨ f.k = 8 then 1 else 0
theorem binds_spec (f : Fm) : PFn Tryz.prog 67 [fmV f] (Iv (bnd f)) := by
  refine ACall.walk [0, 1, 2, 10] [] Tryz.func67 rfl Tryz.ntmps67 (by kernel_rfl) (by rfl) rfl fun W own I0 φ0 lay => ?_
  refine gO ?_
  refine AP.cond rfl rfl (fun h => ?_) (fun h => ?_)
  · refine gO ?_
    exact AE.ret0 rfl ⟨rfl, trivial⟩ rfl ⟨rfl, by rw [bnd, if_pos (by simpa using h)]; rfl⟩
  · refine gO ?_
    exact AE.ret0 rfl ⟨rfl, trivial⟩ rfl ⟨rfl, by rw [bnd, if_neg (by simpa using h)]; rfl⟩
def shp (f : Fm) : Bool :=
  if f.k ≠ 1 ∧ f.nm ≠ [] then false
  else if f.k = 1 then isNm f.nm && (f.ps.length : Int) == 0
  else if f.k = 2 then (f.ts.length : Int) == 2 && (f.ps.length : Int) == 0
  else if f.k = 3 then (f.ts.length : Int) == 0 && (f.ps.length : Int) == 0
  else if f.k = 4 ∨ f.k = 5 ∨ f.k = 6 then (f.ts.length : Int) == 0 && (f.ps.length : Int) == 2
  else if f.k = 7 ∨ f.k = 8 then (f.ts.length : Int) == 0 && (f.ps.length : Int) == 1
  else false
theorem shaped_spec (f : Fm) (hs : fmS f) : PFn Tryz.prog 220 [fmV f] (Bv (shp f)) := by
  have hs0 := fmS_eq.1 hs
  refine ACall.walk [0, 1, 2, 3, 4, 18, 20, 21, 30, 38, 46, 56] [] Tryz.func220 rfl Tryz.ntmps220 (by kernel_rfl) (by rfl) rfl fun W own I0 φ0 lay => ?_
  refine gE (an @tmR_len @fmR_len) ?_
  refine AP.cond rfl rfl (fun h => ?_) (fun h => ?_)
  · refine gO ?_
    exact AE.ret0 rfl ⟨rfl, trivial⟩ rfl ⟨rfl, by rw [shp, if_pos (by simpa using h)]; rfl⟩
  · have hn : ¬ (f.k ≠ 1 ∧ f.nm ≠ []) := by simpa using h
    refine gO ?_
    refine AP.cond rfl rfl (fun h1 => ?_) (fun h1 => ?_)
    · have k1 : f.k = 1 := by simpa using h1
      refine gO ?_
      refine AQ.fn (by kernel_rfl) rfl rfl rfl (isName_spec f.nm hs0.1) rfl ?_
      refine gO ?_
      exact AE.ret0 rfl ⟨rfl, trivial⟩ rfl ⟨rfl, by rw [shp, if_neg hn, if_pos k1]; rfl⟩
    · have k1 : ¬ f.k = 1 := by simpa using h1
      refine gO ?_
      refine AP.cond rfl rfl (fun h2 => ?_) (fun h2 => ?_)
      · have k2 : f.k = 2 := by simpa using h2
        refine gO ?_
        exact AE.ret0 rfl ⟨rfl, trivial⟩ rfl ⟨rfl, by rw [shp, if_neg hn, if_neg k1, if_pos k2]; rfl⟩
      · have k2 : ¬ f.k = 2 := by simpa using h2
        refine gO ?_
        refine AP.cond rfl rfl (fun h3 => ?_) (fun h3 => ?_)
        · have k3 : f.k = 3 := by simpa using h3
          refine gO ?_
          exact AE.ret0 rfl ⟨rfl, trivial⟩ rfl ⟨rfl, by rw [shp, if_neg hn, if_neg k1, if_neg k2, if_pos k3]; rfl⟩
        · have k3 : ¬ f.k = 3 := by simpa using h3
          refine gO ?_
          refine AP.cond rfl rfl (fun h4 => ?_) (fun h4 => ?_)
          · have k4 : f.k = 4 := by simpa using h4
            refine gO ?_
            refine AP.cond rfl rfl (fun g => ?_) (fun g => ?_)
            · refine gO ?_
              exact AE.ret0 rfl ⟨rfl, trivial⟩ rfl ⟨rfl, by rw [shp, if_neg hn, if_neg k1, if_neg k2, if_neg k3, if_pos (by omega)]; rfl⟩
            · simp [k4] at g
          · have k4 : ¬ f.k = 4 := by simpa using h4
            refine gO ?_
            refine AP.cond rfl rfl (fun h5 => ?_) (fun h5 => ?_)
            · have k5 : f.k = 5 := by simpa using h5
              refine gO ?_
              refine AP.cond rfl rfl (fun g => ?_) (fun g => ?_)
              · refine gO ?_
                exact AE.ret0 rfl ⟨rfl, trivial⟩ rfl ⟨rfl, by rw [shp, if_neg hn, if_neg k1, if_neg k2, if_neg k3, if_pos (by omega)]; rfl⟩
              · simp [k5] at g
            · have k5 : ¬ f.k = 5 := by simpa using h5
              refine gO ?_
              refine AP.cond rfl rfl (fun h6 => ?_) (fun h6 => ?_)
              · have k6 : f.k = 6 := by simpa using h6
                refine gO ?_
                exact AE.ret0 rfl ⟨rfl, trivial⟩ rfl ⟨rfl, by rw [shp, if_neg hn, if_neg k1, if_neg k2, if_neg k3, if_pos (by omega)]; rfl⟩
              · have k6 : ¬ f.k = 6 := by simpa using h6
                refine gO ?_
                refine AP.cond rfl rfl (fun h7 => ?_) (fun h7 => ?_)
                · have k7 : f.k = 7 := by simpa using h7
                  refine gO ?_
                  refine AP.cond rfl rfl (fun g => ?_) (fun g => ?_)
                  · refine gO ?_
                    exact AE.ret0 rfl ⟨rfl, trivial⟩ rfl ⟨rfl, by rw [shp, if_neg hn, if_neg k1, if_neg k2, if_neg k3, if_neg (by omega), if_pos (by omega)]; rfl⟩
                  · simp [k7] at g
                · have k7 : ¬ f.k = 7 := by simpa using h7
                  refine gO ?_
                  refine AP.cond rfl rfl (fun h8 => ?_) (fun h8 => ?_)
                  · have k8 : f.k = 8 := by simpa using h8
                    refine gO ?_
                    exact AE.ret0 rfl ⟨rfl, trivial⟩ rfl ⟨rfl, by rw [shp, if_neg hn, if_neg k1, if_neg k2, if_neg k3, if_neg (by omega), if_pos (by omega)]; rfl⟩
                  · have k8 : ¬ f.k = 8 := by simpa using h8
                    refine gO ?_
                    exact AE.ret0 rfl ⟨rfl, trivial⟩ rfl ⟨rfl, by rw [shp, if_neg hn, if_neg k1, if_neg k2, if_neg k3, if_neg (by omega), if_neg (by omega)]; rfl⟩
end Go.Proofs.YteacpafhmgdbkaaGreatDoor
end

section
namespace Go.Proofs.YteacpafhmgdbkaaGreatDoor
open Go Go.AL Go.RowKit
set_option maxRecDepth 10000
set_option maxHeartbeats 4000000
theorem msFs_get : ∀ {l : List Fm} {d n m : Int} {k : Nat} {u : Fm}, msFs l d n = some m → l[k]? = some u → ∃ n1 m1, msF u d n1 = some m1
  | [], d, n, m, k, u, _, h => by simp at h
  | t :: l, d, n, m, k, u, hm, h => by
    rw [msFs] at hm
    split at hm
    · cases hm
    · rename_i n' hn'
      cases k with
      | zero => simp at h; subst h; exact ⟨_, _, hn'⟩
      | succ k => simp at h; exact msFs_get hm h
theorem msF_deep {f : Fm} {d n m : Int} (h : msF f d n = some m) : d ≤ 100 ∧ ∀ (k : Nat) (u : Fm), f.ps[k]? = some u → ∃ n1 m1, msF u (d + 1) n1 = some m1 := by
  rw [msF_eq] at h
  split at h
  · cases h
  · rename_i hc
    split at h
    · cases h
    · exact ⟨by omega, fun k u hu => msFs_get h hu⟩
mutual
def wF : Fm → Int → Int
  | .mk k nm ts ps, b => if shp (.mk k nm ts ps) = false then 2 else if wTs ts b = 0 then wFs ps (b + bnd (.mk k nm ts ps)) else wTs ts b
def wFs : List Fm → Int → Int
  | [], _ => 0
  | t :: l, b => if wF t b = 0 then wFs l b else wF t b
end
theorem wF_eq (t : Fm) (b : Int) : wF t b = if shp t = false then 2 else if wTs t.ts b = 0 then wFs t.ps (b + bnd t) else wTs t.ts b := by cases t; rw [wF]; rfl
theorem wFs_drop (l : List Fm) (k : Nat) (h : k < l.length) (b : Int) (t : Fm) (ht : l[k]? = some t) : wFs (l.drop k) b = if wF t b = 0 then wFs (l.drop (k + 1)) b else wF t b := by
  have : l.drop k = t :: l.drop (k + 1) := by
    rw [List.drop_eq_getElem_cons h]
    rw [List.getElem?_eq_getElem h] at ht
    cases ht; rfl
  rw [this, wFs]
theorem wellTerms_spec (l : List Tm) (b : Int) (hl : l.length ≤ 9223372036854775807) (hs : tmsS l) : PFn Tryz.prog 214 [.im (.sl 3 (tmR l)), Iv b] (Iv (wTs l b)) :=
  wellTerms_walk l b hl hs fun k u hu => wellTerm_spec u b (tmsS_get hs hu)
theorem well_spec (f : Fm) (b d n m : Int) (hs : fmS f) (hm : msF f d n = some m) (hb : 0 ≤ b ∧ b ≤ d) : PFn Tryz.prog 173 [fmV f, Iv b] (Iv (wF f b)) := by
  have hs0 := fmS_eq.1 hs
  obtain ⟨hd, hdp⟩ := msF_deep hm
  have hbn : 0 ≤ bnd f ∧ bnd f ≤ 1 := by unfold bnd; split <;> omega
  have hwb := wr (x := b + bnd f) (by omega)
  refine ACall.walk [0, 1, 2, 4, 5, 7, 8, 11, 17, 20, 21, 22, 23, 33] [7] Tryz.func173 rfl Tryz.ntmps173 (by kernel_rfl) (by rfl) rfl fun W own I0 φ0 lay => ?_
  refine gO ?_
  refine AQ.fn (by kernel_rfl) rfl rfl rfl (shaped_spec f hs) rfl ?_
  refine gO ?_
  refine AP.cond rfl rfl (fun h1 => ?_) (fun h1 => ?_)
  · refine gO ?_
    exact AE.ret0 rfl ⟨rfl, trivial⟩ rfl ⟨rfl, by rw [wF_eq, if_pos (by simpa using h1)]; rfl⟩
  · have h1 : ¬ shp f = false := by simpa using h1
    refine gO ?_
    refine AQ.fn (by kernel_rfl) rfl rfl rfl (wellTerms_spec f.ts b hs0.2.1 hs0.2.2.1) rfl ?_
    refine gO ?_
    refine AP.cond rfl rfl (fun h2 => ?_) (fun h2 => ?_)
    · refine gO ?_
      exact AE.ret0 rfl ⟨rfl, trivial⟩ rfl ⟨rfl, by rw [wF_eq, if_neg h1, if_neg (by simpa using h2)]; rfl⟩
    · have h2 : wTs f.ts b = 0 := by simpa using h2
      refine gE @fmR_len ?_
      refine AP.loop rfl (α := Nat) (fun k => [(1, Iv b), (2, .im (fmP f)), (20, .im (.sl 4 (fmR f.ps))), (21, Iv f.ps.length), (22, Iv k)]) (fun _ => []) (fun k => k ≤ f.ps.length ∧ wF f b = wFs (f.ps.drop k) (b + bnd f)) (fun k => f.ps.length - k) 0 ⟨by omega, by rw [wF_eq, if_neg h1, if_pos h2, List.drop_zero]⟩ (sU) rfl fun k ⟨hk, hm⟩ => ?_
      rcases Nat.eq_or_lt_of_le hk with hke | hlt
      · refine gO ?_
        refine cF ?_
        refine gO ?_
        exact AE.ret0 rfl ⟨rfl, trivial⟩ rfl ⟨rfl, by rw [hm, hke, List.drop_length, wFs]; rfl⟩
      · obtain ⟨u, hu, hrow⟩ := fmR_get f.ps k hlt
        have hdr := wFs_drop f.ps k hlt (b + bnd f) u hu
        obtain ⟨n1, m1, hm1⟩ := hdp k u hu
        have hw := wr (x := (k : Int) + 1) (by omega)
        refine gO ?_
        refine cT ?_
        refine gE @hrow ?_
        refine ⟨by rw [fmR_len]; omega, ?_⟩
        refine gO ?_
        have hwl := well_spec u (b + bnd f) (d + 1) n1 m1 (fmsS_get hs0.2.2.2.2 hu) hm1 (by omega)
        refine AP.drawE 7 (Tree.node [] [0, 1, 2] [3] [Tree.node [0, 1] [4] [5] [Tree.node [] [6] [] []]]) (by kernel_rfl) rfl (by kernel_rfl) (by kernel_rfl) ?_
        refine vd_node ?_
        refine sI ?_
        repeat' (first | with_reducible exact True.intro | with_reducible refine And.intro (by omega) ?_ | with_reducible refine And.intro ?_ ?_ | (refine AQ.nx rfl ?_; refine sE @hwb ?_) | (refine AQ.fn (by kernel_rfl) rfl rfl rfl (binds_spec f) rfl ?_; refine sE @hwb ?_) | (refine AQ.fn (by kernel_rfl) rfl rfl rfl (hwl) rfl ?_; refine sI ?_) | refine AQ.done ?_ | (refine AQ.go (by kernel_rfl) ?_; refine sE @hwb ?_; repeat (with_reducible refine And.intro (by omega) ?_); refine AQ.nx rfl ?_; refine sE @hwb ?_))
        refine gO ?_
        refine AP.cond rfl rfl (fun h3 => ?_) (fun h3 => ?_)
        · refine gO ?_
          refine AE.retD [0] rfl ⟨rfl, trivial⟩ rfl ⟨rfl, ?_⟩
          rw [hm, hdr, if_neg (by simpa using h3)]; rfl
        · refine gE @hw ?_
          refine AE.forgets [0] rfl ?_
          refine sI ?_
          exact AE.round (k + 1) ⟨by omega, by rw [hm, hdr, if_pos (by simpa using h3)]⟩ (by omega) (sU) rfl
termination_by SizeOf.sizeOf f
decreasing_by exact fm_mem hu
end Go.Proofs.YteacpafhmgdbkaaGreatDoor
end

section
namespace Go.Proofs.YteacpafhmgdbkaaGreatDoor
open Go Go.AL Go.RowKit
set_option maxRecDepth 10000
set_option maxHeartbeats 4000000
def unF (f : Fm) (b : Int) : Int := if fitF f = false then 4 else wF f b
def clT (t : Tm) : Int := if fitT t = false then 4 else wT t 0
theorem under_spec (f : Fm) (b : Int) (hs : fmS f) (hb : 0 ≤ b ∧ b ≤ 1) : PFn Tryz.prog 93 [fmV f, Iv b] (Iv (unF f b)) := by
  refine ACall.walk [0, 1, 2, 4, 7] [] Tryz.func93 rfl Tryz.ntmps93 (by kernel_rfl) (by rfl) rfl fun W own I0 φ0 lay => ?_
  refine gO ?_
  refine AQ.fn (by kernel_rfl) rfl rfl rfl (fitsF_spec f) rfl ?_
  refine gO ?_
  refine AP.cond rfl rfl (fun h => ?_) (fun h => ?_)
  · refine gO ?_
    exact AE.ret0 rfl ⟨rfl, trivial⟩ rfl ⟨rfl, by rw [unF, if_pos (by simpa using h)]; rfl⟩
  · have h : ¬ fitF f = false := by simpa using h
    obtain ⟨m, hm⟩ : ∃ m, msF f 1 0 = some m := by
      cases hm : msF f 1 0 with
      | none => rw [fitF, hm] at h; exact absurd rfl h
      | some m => exact ⟨m, rfl⟩
    refine gO ?_
    refine AQ.fn (by kernel_rfl) rfl rfl rfl (well_spec f b 1 0 m hs hm (by omega)) rfl ?_
    refine gO ?_
    exact AE.ret0 rfl ⟨rfl, trivial⟩ rfl ⟨rfl, by rw [unF, if_neg h]; rfl⟩
theorem well_at (f : Fm) (hs : fmS f) : PFn Tryz.prog 37 [fmV f] (Iv (unF f 0)) := by
  refine ACall.walk [0, 1, 2] [] Tryz.func37 rfl Tryz.ntmps37 (by kernel_rfl) (by rfl) rfl fun W own I0 φ0 lay => ?_
  refine gO ?_
  refine AQ.fn (by kernel_rfl) rfl rfl rfl (under_spec f 0 hs (by omega)) rfl ?_
  refine gO ?_
  exact AE.ret0 rfl ⟨rfl, trivial⟩ rfl ⟨rfl, rfl⟩
theorem closed_spec (t : Tm) (hs : tmS t) : PFn Tryz.prog 65 [tmV t] (Iv (clT t)) := by
  refine ACall.walk [0, 1, 2, 5] [] Tryz.func65 rfl Tryz.ntmps65 (by kernel_rfl) (by rfl) rfl fun W own I0 φ0 lay => ?_
  refine gO ?_
  refine AQ.fn (by kernel_rfl) rfl rfl rfl (fitsT_spec t) rfl ?_
  refine gO ?_
  refine AP.cond rfl rfl (fun h => ?_) (fun h => ?_)
  · refine gO ?_
    exact AE.ret0 rfl ⟨rfl, trivial⟩ rfl ⟨rfl, by rw [clT, if_pos (by simpa using h)]; rfl⟩
  · have h : ¬ fitT t = false := by simpa using h
    refine gO ?_
    refine AQ.fn (by kernel_rfl) rfl rfl rfl (wellTerm_spec t 0 hs) rfl ?_
    refine gO ?_
    exact AE.ret0 rfl ⟨rfl, trivial⟩ rfl ⟨rfl, by rw [clT, if_neg h]; rfl⟩
end Go.Proofs.YteacpafhmgdbkaaGreatDoor
end

section
namespace Go.Proofs.YteacpafhmgdbkaaGreatDoor
open Go Go.AL Go.RowKit
set_option maxRecDepth 10000
set_option maxHeartbeats 4000000
def all2 {α : Type} (p : α → α → Bool) : List α → List α → Bool
  | [], [] => true
  | a :: l, b :: m => p a b && all2 p l m
  | _, _ => false
theorem all2_len {α : Type} (p : α → α → Bool) : ∀ (l m : List α), l.length ≠ m.length → all2 p l m = false
  | [], [], h => by simp at h
  | [], _ :: _, _ => rfl
  | _ :: _, [], _ => rfl
  | a :: l, b :: m, h => by rw [all2, all2_len p l m (by simpa using h), Bool.and_false]
theorem all2_drop {α : Type} (p : α → α → Bool) (l m : List α) (k : Nat) (t u : α) (ht : l[k]? = some t) (hu : m[k]? = some u) : all2 p (l.drop k) (m.drop k) = (p t u && all2 p (l.drop (k + 1)) (m.drop (k + 1))) := by
  obtain ⟨h1, e1⟩ := List.getElem?_eq_some_iff.1 ht
  obtain ⟨h2, e2⟩ := List.getElem?_eq_some_iff.1 hu
  rw [List.drop_eq_getElem_cons h1, List.drop_eq_getElem_cons h2, e1, e2, all2]
theorem equalT_walk (f : FuncId) (p : Tm → Tm → Bool) (xs ys : List Tm) (hx : xs.length ≤ 9223372036854775807) (h : ∀ (k : Nat) (t u : Tm), xs[k]? = some t → ys[k]? = some u → PFn Tryz.prog f [tmV t, tmV u] (Bv (p t u))) :
    PFn Tryz.prog 97 [.im (.sl 3 (tmR xs)), .im (.sl 3 (tmR ys)), .fn f [] []] (Bv (all2 p xs ys)) := by
  refine ACall.walk [0, 1, 2, 6, 7, 8, 9, 14, 15, 16, 17, 18, 30] [8, 9] Tryz.func97 rfl Tryz.ntmps97 (by kernel_rfl) (by rfl) rfl fun W own I0 φ0 lay => ?_
  refine gE @tmR_len ?_
  refine AP.cond rfl rfl (fun h1 => ?_) (fun h1 => ?_)
  · refine gO ?_
    exact AE.ret0 rfl ⟨rfl, trivial⟩ rfl ⟨rfl, by rw [all2_len p xs ys (by simp at h1; omega)]; rfl⟩
  · have h1 : xs.length = ys.length := by simp at h1; omega
    refine gE @tmR_len ?_
    refine AP.loop rfl (α := Nat) (fun k => [(1, .im (.sl 3 (tmR ys))), (2, .fn f [] []), (15, .im (.sl 3 (tmR xs))), (16, Iv xs.length), (17, Iv k)]) (fun _ => []) (fun k => k ≤ xs.length ∧ all2 p xs ys = all2 p (xs.drop k) (ys.drop k)) (fun k => xs.length - k) 0 ⟨by omega, rfl⟩ (sU) rfl fun k ⟨hk, hm⟩ => ?_
    rcases Nat.eq_or_lt_of_le hk with hke | hlt
    · refine gO ?_
      refine cF ?_
      refine gO ?_
      exact AE.ret0 rfl ⟨rfl, trivial⟩ rfl ⟨rfl, by rw [hm, hke, List.drop_length, h1, List.drop_length, all2]; rfl⟩
    · obtain ⟨t, ht, hrow⟩ := tmR_get xs k hlt
      obtain ⟨u, hu, hrow2⟩ := tmR_get ys k (by omega)
      have hdr := all2_drop p xs ys k t u ht hu
      have hw := wr (x := (k : Int) + 1) (by omega)
      refine gO ?_
      refine cT ?_
      refine gE @hrow ?_
      refine ⟨by rw [tmR_len]; omega, ?_⟩
      refine gE @hrow2 ?_
      refine ⟨by rw [tmR_len]; omega, ?_⟩
      refine gO ?_
      refine AQ.callF [] (by kernel_rfl) rfl rfl rfl rfl rfl rfl (fun k => by exact trivial) (fun k => rfl) (fun k => rfl) (h k t u ht hu) ?_
      refine gO ?_
      refine AP.cond rfl rfl (fun h2 => ?_) (fun h2 => ?_)
      · refine gO ?_
        refine AE.retD [1, 0] rfl ⟨rfl, trivial⟩ rfl ⟨rfl, ?_⟩
        rw [hm, hdr, show p t u = false by simpa using h2]; rfl
      · refine gE @hw ?_
        refine AE.forgets [1, 0] rfl ?_
        refine sI ?_
        exact AE.round (k + 1) ⟨by omega, by rw [hm, hdr, show p t u = true by simpa using h2, Bool.true_and]⟩ (by omega) (sU) rfl
end Go.Proofs.YteacpafhmgdbkaaGreatDoor
end

section
namespace Go.Proofs.YteacpafhmgdbkaaGreatDoor
open Go Go.AL Go.RowKit
set_option maxRecDepth 10000
set_option maxHeartbeats 4000000
theorem equalF_walk (f : FuncId) (p : Fm → Fm → Bool) (xs ys : List Fm) (hx : xs.length ≤ 9223372036854775807) (h : ∀ (k : Nat) (t u : Fm), xs[k]? = some t → ys[k]? = some u → PFn Tryz.prog f [fmV t, fmV u] (Bv (p t u))) :
    PFn Tryz.prog 99 [.im (.sl 4 (fmR xs)), .im (.sl 4 (fmR ys)), .fn f [] []] (Bv (all2 p xs ys)) := by
  refine ACall.walk [0, 1, 2, 6, 7, 8, 9, 14, 15, 16, 17, 18, 30] [8, 9] Tryz.func99 rfl Tryz.ntmps99 (by kernel_rfl) (by rfl) rfl fun W own I0 φ0 lay => ?_
  refine gE @fmR_len ?_
  refine AP.cond rfl rfl (fun h1 => ?_) (fun h1 => ?_)
  · refine gO ?_
    exact AE.ret0 rfl ⟨rfl, trivial⟩ rfl ⟨rfl, by rw [all2_len p xs ys (by simp at h1; omega)]; rfl⟩
  · have h1 : xs.length = ys.length := by simp at h1; omega
    refine gE @fmR_len ?_
    refine AP.loop rfl (α := Nat) (fun k => [(1, .im (.sl 4 (fmR ys))), (2, .fn f [] []), (15, .im (.sl 4 (fmR xs))), (16, Iv xs.length), (17, Iv k)]) (fun _ => []) (fun k => k ≤ xs.length ∧ all2 p xs ys = all2 p (xs.drop k) (ys.drop k)) (fun k => xs.length - k) 0 ⟨by omega, rfl⟩ (sU) rfl fun k ⟨hk, hm⟩ => ?_
    rcases Nat.eq_or_lt_of_le hk with hke | hlt
    · refine gO ?_
      refine cF ?_
      refine gO ?_
      exact AE.ret0 rfl ⟨rfl, trivial⟩ rfl ⟨rfl, by rw [hm, hke, List.drop_length, h1, List.drop_length, all2]; rfl⟩
    · obtain ⟨t, ht, hrow⟩ := fmR_get xs k hlt
      obtain ⟨u, hu, hrow2⟩ := fmR_get ys k (by omega)
      have hdr := all2_drop p xs ys k t u ht hu
      have hw := wr (x := (k : Int) + 1) (by omega)
      refine gO ?_
      refine cT ?_
      refine gE @hrow ?_
      refine ⟨by rw [fmR_len]; omega, ?_⟩
      refine gE @hrow2 ?_
      refine ⟨by rw [fmR_len]; omega, ?_⟩
      refine gO ?_
      refine AQ.callF [] (by kernel_rfl) rfl rfl rfl rfl rfl rfl (fun k => by exact trivial) (fun k => rfl) (fun k => rfl) (h k t u ht hu) ?_
      refine gO ?_
      refine AP.cond rfl rfl (fun h2 => ?_) (fun h2 => ?_)
      · refine gO ?_
        refine AE.retD [1, 0] rfl ⟨rfl, trivial⟩ rfl ⟨rfl, ?_⟩
        rw [hm, hdr, show p t u = false by simpa using h2]; rfl
      · refine gE @hw ?_
        refine AE.forgets [1, 0] rfl ?_
        refine sI ?_
        exact AE.round (k + 1) ⟨by omega, by rw [hm, hdr, show p t u = true by simpa using h2, Bool.true_and]⟩ (by omega) (sU) rfl
mutual
def eqT : Tm → Tm → Bool
  | .mk n i xs, u => (n == u.nm && i == u.ix) && eqTs xs u.xs
def eqTs : List Tm → List Tm → Bool
  | [], [] => true
  | a :: l, b :: m => eqT a b && eqTs l m
  | _, _ => false
end
theorem eqTs_all2 : ∀ l m : List Tm, eqTs l m = all2 eqT l m
  | [], [] => by rw [eqTs, all2]
  | [], _ :: _ => by rw [eqTs, all2] <;> simp
  | _ :: _, [] => by rw [eqTs, all2] <;> simp
  | a :: l, b :: m => by rw [eqTs, all2, eqTs_all2 l m]
theorem eqT_eq (t u : Tm) : eqT t u = ((t.nm == u.nm && t.ix == u.ix) && all2 eqT t.xs u.xs) := by cases t; rw [eqT, eqTs_all2]; rfl
mutual
def eqF : Fm → Fm → Bool
  | .mk k n ts ps, u => ((k == u.k && n == u.nm) && all2 eqT ts u.ts) && eqFs ps u.ps
def eqFs : List Fm → List Fm → Bool
  | [], [] => true
  | a :: l, b :: m => eqF a b && eqFs l m
  | _, _ => false
end
theorem eqFs_all2 : ∀ l m : List Fm, eqFs l m = all2 eqF l m
  | [], [] => by rw [eqFs, all2]
  | [], _ :: _ => by rw [eqFs, all2] <;> simp
  | _ :: _, [] => by rw [eqFs, all2] <;> simp
  | a :: l, b :: m => by rw [eqFs, all2, eqFs_all2 l m]
theorem eqF_eq (t u : Fm) : eqF t u = (((t.k == u.k && t.nm == u.nm) && all2 eqT t.ts u.ts) && all2 eqF t.ps u.ps) := by cases t; rw [eqF, eqFs_all2]; rfl
theorem sameTerm_spec (t u : Tm) (hs : tmS t) : PFn Tryz.prog 98 [tmV t, tmV u] (Bv (eqT t u)) := by
  have hs0 := tmS_eq.1 hs
  have hc := equalT_walk 98 eqT t.xs u.xs hs0.2.1 fun k a b ha hb => sameTerm_spec a b (tmsS_get hs0.2.2 ha)
  refine ACall.walk [0, 1, 2, 3, 4] [] Tryz.func98 rfl Tryz.ntmps98 (by kernel_rfl) (by rfl) rfl fun W own I0 φ0 lay => ?_
  refine gO ?_
  refine AQ.fn_g (by kernel_rfl) rfl rfl (fun h => by first | (simp [gs, AV.g]; done) | (simp [gs, AV.g, constAV]; done) | (simp [gs, AV.g, constAV, bw] at h ⊢; done) | (simp [gs, AV.g, constAV, bw] at h ⊢; exact h) | (simp [gs, AV.g, constAV, bw] at h ⊢; simp [h]; done) | (simp [bw] at h; done) | (simp [gs, AV.g, bw] at h ⊢; simp [h]; done) | (simp [gs, AV.g, bw] at h ⊢; exact h.1) | (simp [gs, AV.g]; rfl) | (simp [gs, AV.g, bw] at h ⊢; rfl) | (simp [gs, AV.g, bw] at h ⊢; simp [h]; rfl) | (simp [gs, AV.g, bw] at h ⊢; simp_all)) rfl (fun _ => hc) rfl ?_
  refine gO ?_
  exact AE.ret0 rfl ⟨rfl, trivial⟩ rfl ⟨rfl, by rw [eqT_eq]; rfl⟩
termination_by SizeOf.sizeOf t
decreasing_by exact tm_mem ha
theorem same_spec (t u : Fm) (hs : fmS t) : PFn Tryz.prog 40 [fmV t, fmV u] (Bv (eqF t u)) := by
  have hs0 := fmS_eq.1 hs
  have hc1 := equalT_walk 98 eqT t.ts u.ts hs0.2.1 fun k a b ha hb => sameTerm_spec a b (tmsS_get hs0.2.2.1 ha)
  have hc := equalF_walk 40 eqF t.ps u.ps hs0.2.2.2.1 fun k a b ha hb => same_spec a b (fmsS_get hs0.2.2.2.2 ha)
  refine ACall.walk [0, 1, 2, 3, 4] [] Tryz.func40 rfl Tryz.ntmps40 (by kernel_rfl) (by rfl) rfl fun W own I0 φ0 lay => ?_
  refine gO ?_
  refine AQ.fn_g (by kernel_rfl) rfl rfl (fun h => by first | (simp [gs, AV.g]; done) | (simp [gs, AV.g, constAV]; done) | (simp [gs, AV.g, constAV, bw] at h ⊢; done) | (simp [gs, AV.g, constAV, bw] at h ⊢; exact h) | (simp [gs, AV.g, constAV, bw] at h ⊢; simp [h]; done) | (simp [bw] at h; done) | (simp [gs, AV.g, bw] at h ⊢; simp [h]; done) | (simp [gs, AV.g, bw] at h ⊢; exact h.1) | (simp [gs, AV.g]; rfl) | (simp [gs, AV.g, bw] at h ⊢; rfl) | (simp [gs, AV.g, bw] at h ⊢; simp [h]; rfl) | (simp [gs, AV.g, bw] at h ⊢; simp_all)) rfl (fun _ => hc1) rfl ?_
  refine gO ?_
  refine AQ.fn_g (by kernel_rfl) rfl rfl (fun h => by first | (simp [gs, AV.g]; done) | (simp [gs, AV.g, constAV]; done) | (simp [gs, AV.g, constAV, bw] at h ⊢; done) | (simp [gs, AV.g, constAV, bw] at h ⊢; exact h) | (simp [gs, AV.g, constAV, bw] at h ⊢; simp [h]; done) | (simp [bw] at h; done) | (simp [gs, AV.g, bw] at h ⊢; simp [h]; done) | (simp [gs, AV.g, bw] at h ⊢; exact h.1) | (simp [gs, AV.g]; rfl) | (simp [gs, AV.g, bw] at h ⊢; rfl) | (simp [gs, AV.g, bw] at h ⊢; simp [h]; rfl) | (simp [gs, AV.g, bw] at h ⊢; simp_all)) rfl (fun _ => hc) rfl ?_
  refine gO ?_
  exact AE.ret0 rfl ⟨rfl, trivial⟩ rfl ⟨rfl, by rw [eqF_eq]; rfl⟩
termination_by SizeOf.sizeOf t
decreasing_by exact fm_mem ha
end Go.Proofs.YteacpafhmgdbkaaGreatDoor
end

section
namespace Go.Proofs.YteacpafhmgdbkaaGreatDoor
open Go Go.AL Go.RowKit
set_option maxRecDepth 10000
set_option maxHeartbeats 4000000
theorem ACall.told {P : Program} {f : FuncId} {xs : List AV} {H : Heap} {R R' : AV → Heap → Prop} (h : ACall P f xs H R) (hr : ∀ r H', R r H' → ∃ r', R' r' H' ∧ ∀ w φ I v, AV.den w φ I r v → AV.den w φ I r' v) : ACall P f xs H R' :=
  ⟨h.ent, fun w φ I vs hd hR hV => (h.run w φ I vs hd hR hV).mono fun _ _ ⟨r, H', φ', I', v, h1, h2, h3, h4⟩ => by
    obtain ⟨r', hr', hd'⟩ := hr _ _ h1
    exact ⟨r', H', φ', I', v, hr', h2, hd' _ _ _ _ h3, h4⟩⟩
theorem PFn.told {P : Program} {f : FuncId} {xs : List AV} {r r' : AV} (h : PFn P f xs r) (hr : ∀ w φ I v, AV.den w φ I r v → AV.den w φ I r' v) : PFn P f xs r' :=
  ACall.told h fun _ _ ⟨hH, he⟩ => ⟨r', ⟨hH, rfl⟩, by subst he; exact hr⟩
abbrev nilV : AV := .im (.v (.slice none 0 0))
theorem nil_told (es : Nat) (w : World) (φ : Phi) (I : Nat → Prop) (v : Value) (h : AV.den w φ I nilV v) : AV.den w φ I (.im (.sl es [])) v := by
  simp only [AV.den] at h ⊢
  exact nil_sl h
@[go_sem] theorem rns_im (ρ : Nat → Nat) : ∀ cs : List IV, AV.rns ρ (cs.map AV.im) = cs.map AV.im
  | [] => rfl
  | c :: cs => by rw [List.map_cons, AV.rns, rns_im ρ cs]; rfl
theorem frzCs_im (b : Nat) (rows : List (List IV)) : ∀ cs : List IV, frzCs b rows (cs.map AV.im)
  | [] => by simp [frzCs]
  | c :: cs => by
    have := frzCs_im b rows cs
    simp [frzCs, frzC, this]
@[go_sem] theorem mens_im (b : Nat) : ∀ cs : List IV, AV.mens b (cs.map AV.im) = false
  | [] => rfl
  | c :: cs => by rw [List.map_cons, AV.mens, mens_im b cs]; rfl
theorem tmR_map_len (g : Tm → Tm) (l : List Tm) : (tmR (l.map g)).length = l.length := by rw [tmR_len, List.length_map]
theorem tmR_snoc (g : Tm → Tm) (l : List Tm) (k : Nat) (t : Tm) (h : l[k]? = some t) : tmR ((l.take (k + 1)).map g) = tmR ((l.take k).map g) ++ [tmC (g t)] := by
  rw [List.take_add_one, h, tmR_map, tmR_map, List.map_append, List.map_append]; rfl
def eachV (g : Tm → Tm) (l : List Tm) : AV := match l with
  | [] => nilV
  | _ :: _ => .im (.sl 3 (tmR (l.map g)))
theorem eachV_ne (g : Tm → Tm) : ∀ l : List Tm, 0 < l.length → eachV g l = .im (.sl 3 (tmR (l.map g)))
  | [], h => by simp at h
  | _ :: _, _ => rfl
def eachE (g : Tm → Tm) (l : List Tm) (fn : AV) : Nat → Env
  | 0 => [(1, fn), (5, nilV), (8, .im (.sl 3 (tmR l))), (9, Iv l.length), (10, Iv 0)]
  | k + 1 => [(1, fn), (5, .os 0 3 0 (k + 1)), (8, .im (.sl 3 (tmR l))), (9, Iv l.length), (10, Iv ((k + 1 : Nat) : Int))]
def eachH (g : Tm → Tm) (l : List Tm) : Nat → Heap
  | 0 => []
  | k + 1 => [(0, .vec 25 3 (tmR ((l.take (k + 1)).map g)))]
theorem eachT_walk (f : FuncId) (cs : List IV) (g : Tm → Tm) (l : List Tm) (hl : l.length ≤ 1000000000) (h : ∀ (k : Nat) (t : Tm), l[k]? = some t → PFn Tryz.prog f (tmV t :: cs.map .im) (tmV (g t))) :
    PFn Tryz.prog 187 [.im (.sl 3 (tmR l)), .fn f [] (cs.map .im)] (eachV g l) := by
  refine ACall.walk [0, 1, 4, 5, 7, 8, 9, 10, 11] [7] Tryz.func187 rfl Tryz.ntmps187 (by kernel_rfl) (by rfl) rfl fun W own I0 φ0 lay => ?_
  refine gE @tmR_len ?_
  refine AP.loop rfl (α := Nat) (eachE g l (.fn f [] (cs.map .im))) (eachH g l) (fun k => k ≤ l.length) (fun k => l.length - k) 0 (by omega) (sU) rfl fun k hk => ?_
  have hw := wr (x := (k : Int) + 1) (by omega)
  cases k with
  | zero =>
    simp only [go_sem, Nat.reduceAdd, Nat.reduceLeDiff, Nat.reduceSub, Int.reduceToNat, reduceCtorEq, eachE, eachH]
    rcases Nat.eq_or_lt_of_le hk with hke | hlt
    · have hnil : l = [] := List.length_eq_zero_iff.1 hke.symm
      refine gO ?_
      refine cF ?_
      refine gO ?_
      exact AE.ret0 rfl ⟨rfl, trivial⟩ rfl ⟨rfl, by rw [hnil]; rfl⟩
    · obtain ⟨t, ht, hrow⟩ := tmR_get l 0 hlt
      refine gO ?_
      refine cT ?_
      refine gE @hrow ?_
      refine ⟨by rw [tmR_len]; omega, ?_⟩
      refine gO ?_
      refine AQ.callF [] (argsc := tmV t :: cs.map .im) (by kernel_rfl) rfl rfl rfl rfl rfl rfl (fun k => by exact trivial) (fun k => by rw [AV.rns, rns_im]; rfl) (fun k => rfl) (h _ t ht) ?_
      refine sI ?_
      refine gO ?_
      refine AQ.appendN (es := 2) (by kernel_rfl) rfl rfl (by rfl) Tryz.tk23 Tryz.sz25 (by show Option.map _ (zro Tryz.prog 25) = _; rw [Tryz.zr25]; rfl) Tryz.by25 (by simp only [List.length_cons, List.length_nil]; omega) (by simp only [List.length_cons, List.length_nil]; omega) ?_
      refine sI ?_
      have hw0 := wr (x := (0 : Int) + 1) (by omega)
      refine gE @hw0 ?_
      refine AE.forgets [0] rfl ?_
      refine sI ?_
      refine AE.rename 1 0 rfl rfl rfl ?_; refine sI ?_
      refine AE.round (0 + 1) (by omega) (by omega) (by simp only [eachE]; exact (sU)) ?_
      have := tmR_snoc g l 0 t ht
      simp only [eachH, this, tmC_eq]
      rfl
  | succ k =>
    simp only [go_sem, Nat.reduceAdd, Nat.reduceLeDiff, Nat.reduceSub, Int.reduceToNat, reduceCtorEq, eachE, eachH]
    rcases Nat.eq_or_lt_of_le hk with hke | hlt
    · refine gO ?_
      refine cF ?_
      refine gO ?_
      have e1 : l.take (k + 1) = l := by rw [hke]; exact List.take_length
      rw [e1]
      refine AE.freeze 0 (el := 25) (es := 3) (rows := tmR (List.map g l)) rfl ?_ ?_ ?_
      · simp only [go_sem, Nat.reduceAdd, Nat.reduceLeDiff, Nat.reduceSub, Int.reduceToNat, reduceCtorEq]
      · simp only [go_sem, Nat.reduceAdd, Nat.reduceLeDiff, Nat.reduceSub, Int.reduceToNat, reduceCtorEq]
        exact ⟨frzCs_im _ _ cs, by rw [tmR_map_len]; omega, by rw [tmR_map_len]; omega⟩
      refine sI ?_
      exact AE.ret0 rfl ⟨rfl, trivial⟩ rfl ⟨rfl, by rw [eachV_ne g l (by omega), List.take_of_length_le (by rw [tmR_map_len]; omega)]; rfl⟩
    · obtain ⟨t, ht, hrow⟩ := tmR_get l (k + 1) hlt
      have hlk : (tmR (List.map g (List.take (k + 1) l))).length = k + 1 := by rw [tmR_map_len, List.length_take]; omega
      refine gO ?_
      refine cT ?_
      refine gE @hrow ?_
      refine ⟨by rw [tmR_len]; omega, ?_⟩
      refine gO ?_
      refine AQ.callF [] (argsc := tmV t :: cs.map .im) (by kernel_rfl) rfl rfl rfl rfl rfl rfl (fun k => by exact trivial) (fun k => by rw [AV.rns, rns_im]; rfl) (fun k => rfl) (h _ t ht) ?_
      refine sI ?_
      refine gO ?_
      refine AQ.append (hnb := rfl) (rows := tmR (List.map g (List.take (k + 1) l))) (es := 2) (by kernel_rfl) rfl rfl rfl (by rfl) Tryz.tk23 Tryz.sz25 (by show Option.map _ (zro Tryz.prog 25) = _; rw [Tryz.zr25]; rfl) Tryz.by25 (by first | rfl | (simp only [hlk, List.length_cons, List.length_nil]; done) | (simp only [hlk, List.length_cons, List.length_nil]; omega)) (by simp only [hlk, List.length_cons, List.length_nil]; omega) (by simp only [hlk, List.length_cons, List.length_nil]; omega) ?_
      refine sI ?_
      refine gE @hw ?_
      refine AE.forgets [1] rfl ?_
      refine sE @hlk ?_
      refine AE.round (k + 1 + 1) (by omega) (by omega) (by simp only [eachE]; exact (sU)) ?_
      have := tmR_snoc g l (k + 1) t ht
      simp only [eachH, this, tmC_eq]
end Go.Proofs.YteacpafhmgdbkaaGreatDoor
end

section
namespace Go.Proofs.YteacpafhmgdbkaaGreatDoor
open Go Go.AL Go.RowKit
set_option maxRecDepth 10000
set_option maxHeartbeats 4000000
theorem eachT_spec (f : FuncId) (cs : List IV) (g : Tm → Tm) (l : List Tm) (hl : l.length ≤ 1000000000) (h : ∀ (k : Nat) (t : Tm), l[k]? = some t → PFn Tryz.prog f (tmV t :: cs.map .im) (tmV (g t))) :
    PFn Tryz.prog 187 [.im (.sl 3 (tmR l)), .fn f [] (cs.map .im)] (.im (.sl 3 (tmR (l.map g)))) := by
  refine PFn.told (eachT_walk f cs g l hl h) ?_
  cases l with
  | nil => exact nil_told 3
  | cons a l => exact fun _ _ _ _ h => h
theorem fmR_map_len (g : Fm → Fm) (l : List Fm) : (fmR (l.map g)).length = l.length := by rw [fmR_len, List.length_map]
theorem fmR_snoc (g : Fm → Fm) (l : List Fm) (k : Nat) (t : Fm) (h : l[k]? = some t) : fmR ((l.take (k + 1)).map g) = fmR ((l.take k).map g) ++ [fmC (g t)] := by
  rw [List.take_add_one, h, fmR_map, fmR_map, List.map_append, List.map_append]; rfl
def eachFV (g : Fm → Fm) (l : List Fm) : AV := match l with
  | [] => nilV
  | _ :: _ => .im (.sl 4 (fmR (l.map g)))
theorem eachFV_ne (g : Fm → Fm) : ∀ l : List Fm, 0 < l.length → eachFV g l = .im (.sl 4 (fmR (l.map g)))
  | [], h => by simp at h
  | _ :: _, _ => rfl
def eachFE (g : Fm → Fm) (l : List Fm) (fn : AV) : Nat → Env
  | 0 => [(1, fn), (5, nilV), (8, .im (.sl 4 (fmR l))), (9, Iv l.length), (10, Iv 0)]
  | k + 1 => [(1, fn), (5, .os 0 4 0 (k + 1)), (8, .im (.sl 4 (fmR l))), (9, Iv l.length), (10, Iv ((k + 1 : Nat) : Int))]
def eachFH (g : Fm → Fm) (l : List Fm) : Nat → Heap
  | 0 => []
  | k + 1 => [(0, .vec 27 4 (fmR ((l.take (k + 1)).map g)))]
theorem eachF_walk (f : FuncId) (cs : List IV) (g : Fm → Fm) (l : List Fm) (hl : l.length ≤ 1000000000) (h : ∀ (k : Nat) (t : Fm), l[k]? = some t → PFn Tryz.prog f (fmV t :: cs.map .im) (fmV (g t))) :
    PFn Tryz.prog 191 [.im (.sl 4 (fmR l)), .fn f [] (cs.map .im)] (eachFV g l) := by
  refine ACall.walk [0, 1, 4, 5, 7, 8, 9, 10, 11] [7] Tryz.func191 rfl Tryz.ntmps191 (by kernel_rfl) (by rfl) rfl fun W own I0 φ0 lay => ?_
  refine gE @fmR_len ?_
  refine AP.loop rfl (α := Nat) (eachFE g l (.fn f [] (cs.map .im))) (eachFH g l) (fun k => k ≤ l.length) (fun k => l.length - k) 0 (by omega) (sU) rfl fun k hk => ?_
  have hw := wr (x := (k : Int) + 1) (by omega)
  cases k with
  | zero =>
    simp only [go_sem, Nat.reduceAdd, Nat.reduceLeDiff, Nat.reduceSub, Int.reduceToNat, reduceCtorEq, eachFE, eachFH]
    rcases Nat.eq_or_lt_of_le hk with hke | hlt
    · have hnil : l = [] := List.length_eq_zero_iff.1 hke.symm
      refine gO ?_
      refine cF ?_
      refine gO ?_
      exact AE.ret0 rfl ⟨rfl, trivial⟩ rfl ⟨rfl, by rw [hnil]; rfl⟩
    · obtain ⟨t, ht, hrow⟩ := fmR_get l 0 hlt
      refine gO ?_
      refine cT ?_
      refine gE @hrow ?_
      refine ⟨by rw [fmR_len]; omega, ?_⟩
      refine gO ?_
      refine AQ.callF [] (argsc := fmV t :: cs.map .im) (by kernel_rfl) rfl rfl rfl rfl rfl rfl (fun k => by exact trivial) (fun k => by rw [AV.rns, rns_im]; rfl) (fun k => rfl) (h _ t ht) ?_
      refine sI ?_
      refine gO ?_
      refine AQ.appendN (es := 3) (by kernel_rfl) rfl rfl (by rfl) Tryz.tk22 Tryz.sz27 (by show Option.map _ (zro Tryz.prog 27) = _; rw [Tryz.zr27]; rfl) Tryz.by27 (by simp only [List.length_cons, List.length_nil]; omega) (by simp only [List.length_cons, List.length_nil]; omega) ?_
      refine sI ?_
      have hw0 := wr (x := (0 : Int) + 1) (by omega)
      refine gE @hw0 ?_
      refine AE.forgets [0] rfl ?_
      refine sI ?_
      refine AE.rename 1 0 rfl rfl rfl ?_; refine sI ?_
      refine AE.round (0 + 1) (by omega) (by omega) (by simp only [eachFE]; exact (sU)) ?_
      have := fmR_snoc g l 0 t ht
      simp only [eachFH, this, fmC_eq]
      rfl
  | succ k =>
    simp only [go_sem, Nat.reduceAdd, Nat.reduceLeDiff, Nat.reduceSub, Int.reduceToNat, reduceCtorEq, eachFE, eachFH]
    rcases Nat.eq_or_lt_of_le hk with hke | hlt
    · refine gO ?_
      refine cF ?_
      refine gO ?_
      have e1 : l.take (k + 1) = l := by rw [hke]; exact List.take_length
      rw [e1]
      refine AE.freeze 0 (el := 27) (es := 4) (rows := fmR (List.map g l)) rfl ?_ ?_ ?_
      · simp only [go_sem, Nat.reduceAdd, Nat.reduceLeDiff, Nat.reduceSub, Int.reduceToNat, reduceCtorEq]
      · simp only [go_sem, Nat.reduceAdd, Nat.reduceLeDiff, Nat.reduceSub, Int.reduceToNat, reduceCtorEq]
        exact ⟨frzCs_im _ _ cs, by rw [fmR_map_len]; omega, by rw [fmR_map_len]; omega⟩
      refine sI ?_
      exact AE.ret0 rfl ⟨rfl, trivial⟩ rfl ⟨rfl, by rw [eachFV_ne g l (by omega), List.take_of_length_le (by rw [fmR_map_len]; omega)]; rfl⟩
    · obtain ⟨t, ht, hrow⟩ := fmR_get l (k + 1) hlt
      have hlk : (fmR (List.map g (List.take (k + 1) l))).length = k + 1 := by rw [fmR_map_len, List.length_take]; omega
      refine gO ?_
      refine cT ?_
      refine gE @hrow ?_
      refine ⟨by rw [fmR_len]; omega, ?_⟩
      refine gO ?_
      refine AQ.callF [] (argsc := fmV t :: cs.map .im) (by kernel_rfl) rfl rfl rfl rfl rfl rfl (fun k => by exact trivial) (fun k => by rw [AV.rns, rns_im]; rfl) (fun k => rfl) (h _ t ht) ?_
      refine sI ?_
      refine gO ?_
      refine AQ.append (hnb := rfl) (rows := fmR (List.map g (List.take (k + 1) l))) (es := 3) (by kernel_rfl) rfl rfl rfl (by rfl) Tryz.tk22 Tryz.sz27 (by show Option.map _ (zro Tryz.prog 27) = _; rw [Tryz.zr27]; rfl) Tryz.by27 (by first | rfl | (simp only [hlk, List.length_cons, List.length_nil]; done) | (simp only [hlk, List.length_cons, List.length_nil]; omega)) (by simp only [hlk, List.length_cons, List.length_nil]; omega) (by simp only [hlk, List.length_cons, List.length_nil]; omega) ?_
      refine sI ?_
      refine gE @hw ?_
      refine AE.forgets [1] rfl ?_
      refine sE @hlk ?_
      refine AE.round (k + 1 + 1) (by omega) (by omega) (by simp only [eachFE]; exact (sU)) ?_
      have := fmR_snoc g l (k + 1) t ht
      simp only [eachFH, this, fmC_eq]
theorem eachF_spec (f : FuncId) (cs : List IV) (g : Fm → Fm) (l : List Fm) (hl : l.length ≤ 1000000000) (h : ∀ (k : Nat) (t : Fm), l[k]? = some t → PFn Tryz.prog f (fmV t :: cs.map .im) (fmV (g t))) :
    PFn Tryz.prog 191 [.im (.sl 4 (fmR l)), .fn f [] (cs.map .im)] (.im (.sl 4 (fmR (l.map g)))) := by
  refine PFn.told (eachF_walk f cs g l hl h) ?_
  cases l with
  | nil => exact nil_told 4
  | cons a l => exact fun _ _ _ _ h => h
end Go.Proofs.YteacpafhmgdbkaaGreatDoor
end

section
namespace Go.Proofs.YteacpafhmgdbkaaGreatDoor
open Go Go.AL Go.RowKit
set_option maxRecDepth 10000
set_option maxHeartbeats 4000000
mutual
def tmL : Tm → Prop
  | .mk _ _ xs => xs.length ≤ 1000000000 ∧ tmsL xs
def tmsL : List Tm → Prop
  | [] => True
  | t :: l => tmL t ∧ tmsL l
end
theorem tmL_eq {t : Tm} : tmL t ↔ t.xs.length ≤ 1000000000 ∧ tmsL t.xs := by cases t; rw [tmL]; rfl
theorem tmsL_get : ∀ {l : List Tm} {k : Nat} {t : Tm}, tmsL l → l[k]? = some t → tmL t
  | [], k, t, _, h => by simp at h
  | u :: l, 0, t, hs, h => by rw [tmsL] at hs; simp at h; exact h ▸ hs.1
  | u :: l, k + 1, t, hs, h => by rw [tmsL] at hs; simp at h; exact tmsL_get hs.2 h
mutual
theorem msT_L : ∀ (t : Tm) (d n m : Int), msT t d n = some m → 0 ≤ n → tmL t
  | .mk _ _ xs, d, n, m, h, hn => by
    rw [msT] at h
    split at h
    · cases h
    · obtain ⟨h1, h2⟩ := msTs_L xs (d + 1) (n + 1) m h (by omega)
      have := (msTs_bnd xs (d + 1) (n + 1) m h).2 (by omega)
      rw [tmL]
      exact ⟨by omega, h1⟩
theorem msTs_L : ∀ (l : List Tm) (d n m : Int), msTs l d n = some m → 0 ≤ n → tmsL l ∧ n + l.length ≤ m
  | [], d, n, m, h, hn => by rw [msTs] at h; cases h; exact ⟨by rw [tmsL]; trivial, by simp⟩
  | t :: l, d, n, m, h, hn => by
    rw [msTs] at h
    split at h
    · cases h
    · rename_i n' hn'
      have hb := msT_bnd t d n n' hn'
      obtain ⟨h1, h2⟩ := msTs_L l d n' m h (by omega)
      rw [tmsL]
      exact ⟨⟨msT_L t d n n' hn' hn, h1⟩, by rw [List.length_cons]; omega⟩
end
mutual
def mapT (g : Tm → Tm) : Tm → Tm
  | .mk n i xs => match xs with
    | [] => g (.mk n i [])
    | _ :: _ => .mk n i (mapTs g xs)
def mapTs (g : Tm → Tm) : List Tm → List Tm
  | [] => []
  | t :: l => mapT g t :: mapTs g l
end
theorem mapTs_map (g : Tm → Tm) : ∀ l, mapTs g l = l.map (mapT g)
  | [] => by rw [mapTs]; rfl
  | t :: l => by rw [mapTs, mapTs_map g l]; rfl
theorem mapT_leaf (g : Tm → Tm) (t : Tm) (h : t.xs.length = 0) : mapT g t = g t := by
  obtain ⟨n, i, xs⟩ := t
  cases xs with
  | nil => rw [mapT]
  | cons a l => simp [Tm.xs] at h
theorem mapT_node (g : Tm → Tm) (t : Tm) (h : ¬ t.xs.length = 0) : mapT g t = .mk t.nm t.ix (t.xs.map (mapT g)) := by
  obtain ⟨n, i, xs⟩ := t
  cases xs with
  | nil => simp [Tm.xs] at h
  | cons a l => rw [mapT, mapTs_map]; rfl
@[go_sem] theorem imOf_im : ∀ cs : List IV, imOf (cs.map AV.im) = some cs
  | [] => rfl
  | c :: cs => by rw [List.map_cons, imOf, imV, imOf_im cs]
theorem frees_im : ∀ cs : List IV, AV.frees (cs.map AV.im) = true
  | [] => rfl
  | c :: cs => by rw [List.map_cons, AV.frees, frees_im cs]; rfl
theorem map1_walk (f : FuncId) (cs : List IV) (u r : Tm) (ih : PFn Tryz.prog 189 [tmV u, .fn f [] (cs.map .im)] (tmV r)) : PFn Tryz.prog 241 [tmV u, .im (.pt [.fn f [] cs])] (tmV r) := by
  refine ACall.walk [0, 1, 2, 3] [3] Tryz.func241 rfl Tryz.ntmps241 (by kernel_rfl) (by rfl) rfl fun W own I0 φ0 lay => ?_
  refine gO ?_
  refine AQ.fn (by kernel_rfl) rfl rfl (by simp [AV.frees, AV.free, AV.st, frees_im]) ih rfl ?_
  refine sI ?_
  refine gO ?_
  exact AE.retD [0] rfl ⟨⟨rfl, Nat.le_of_ble_eq_true (by kernel_rfl)⟩, trivial⟩ rfl ⟨rfl, rfl⟩
theorem mapTerm_spec (f : FuncId) (cs : List IV) (g : Tm → Tm) (t : Tm) (hl : tmL t) (h : ∀ u : Tm, u.xs.length = 0 → PFn Tryz.prog f (tmV u :: cs.map .im) (tmV (g u))) :
    PFn Tryz.prog 189 [tmV t, .fn f [] (cs.map .im)] (tmV (mapT g t)) := by
  refine ACall.walk [0, 1, 2, 3, 4, 8] [4] Tryz.func189 rfl Tryz.ntmps189 (by kernel_rfl) (by rfl) rfl fun W own I0 φ0 lay => ?_
  refine gE @tmR_len ?_
  refine AP.cond rfl rfl (fun h1 => ?_) (fun h1 => ?_)
  · refine gO ?_
    refine AQ.callF [] (argsc := tmV t :: cs.map .im) (by kernel_rfl) rfl rfl rfl rfl rfl rfl (fun k => by exact trivial) (fun k => by rw [AV.rns, rns_im]; rfl) (fun k => rfl) (h t (by simpa using h1)) ?_
    refine sI ?_
    refine gO ?_
    exact AE.retD [0] rfl ⟨⟨rfl, Nat.le_of_ble_eq_true (by kernel_rfl)⟩, trivial⟩ rfl ⟨rfl, by rw [mapT_leaf g t (by simpa using h1)]; rfl⟩
  · refine gO ?_
    have hc := eachT_spec 241 [.pt [.fn f [] cs]] (mapT g) t.xs (tmL_eq.1 hl).1 fun k u hu => map1_walk f cs u (mapT g u) (mapTerm_spec f cs g u (tmsL_get (tmL_eq.1 hl).2 hu) h)
    refine AP.drawE 10 (Tree.node [] [0, 1, 2, 3, 4, 5, 6] [7] [Tree.node [0, 1, 2, 3] [8] [9] [Tree.node [] [] [] []]]) (by kernel_rfl) rfl (by kernel_rfl) (by kernel_rfl) ?_
    refine vd_node ?_
    refine sI ?_
    repeat' (first | with_reducible exact True.intro | with_reducible refine And.intro (by omega) ?_ | with_reducible refine And.intro ?_ ?_ | (refine AQ.nx rfl ?_; refine sI ?_) | (refine AQ.fn (by kernel_rfl) rfl rfl rfl (hc) rfl ?_; refine sI ?_) | refine AQ.done ?_ | (refine AQ.go (by kernel_rfl) ?_; refine sI ?_; repeat (with_reducible refine And.intro (by omega) ?_); refine AQ.nx rfl ?_; refine sI ?_))
    refine gO ?_
    exact AE.retD [0] rfl ⟨⟨rfl, Nat.le_of_ble_eq_true (by kernel_rfl)⟩, trivial⟩ rfl ⟨rfl, by rw [mapT_node g t (by simpa using h1)]; rfl⟩
termination_by SizeOf.sizeOf t
decreasing_by exact tm_mem hu
end Go.Proofs.YteacpafhmgdbkaaGreatDoor
end

section
namespace Go.Proofs.YteacpafhmgdbkaaGreatDoor
open Go Go.AL Go.RowKit
set_option maxRecDepth 10000
set_option maxHeartbeats 4000000
theorem mapped11_walk (f : FuncId) (cs : List IV) (u r : Tm) (d : Int) (h : PFn Tryz.prog f (tmV u :: Iv d :: cs.map .im) (tmV r)) : PFn Tryz.prog 190 [tmV u, .im (.pt [.fn f [] cs]), .im (.pt [Ii d])] (tmV r) := by
  refine ACall.walk [0, 1, 2, 3, 4] [4] Tryz.func190 rfl Tryz.ntmps190 (by kernel_rfl) (by rfl) rfl fun W own I0 φ0 lay => ?_
  refine gO ?_
  refine AQ.callF [] (argsc := tmV u :: Iv d :: cs.map .im) (by kernel_rfl) rfl rfl rfl rfl rfl rfl (fun k => by exact trivial) (fun k => by rw [AV.rns, AV.rns, rns_im]; rfl) (fun k => rfl) h ?_
  refine sI ?_
  refine gO ?_
  exact AE.retD [0] rfl ⟨⟨rfl, Nat.le_of_ble_eq_true (by kernel_rfl)⟩, trivial⟩ rfl ⟨rfl, rfl⟩
theorem mapped1_spec (f : FuncId) (cs : List IV) (g : Tm → Int → Tm) (t : Tm) (d : Int) (hl : tmL t) (h : ∀ u : Tm, u.xs.length = 0 → PFn Tryz.prog f (tmV u :: Iv d :: cs.map .im) (tmV (g u d))) :
    PFn Tryz.prog 188 [tmV t, .im (.pt [.fn f [] cs]), .im (.pt [Ii d])] (tmV (mapT (fun u => g u d) t)) := by
  have hc := mapTerm_spec 190 [.pt [.fn f [] cs], .pt [Ii d]] (fun u => g u d) t hl fun u hu => mapped11_walk f cs u (g u d) d (h u hu)
  refine ACall.walk [0, 1, 2, 3, 4] [4] Tryz.func188 rfl Tryz.ntmps188 (by kernel_rfl) (by rfl) rfl fun W own I0 φ0 lay => ?_
  refine gO ?_
  refine AQ.fn (by kernel_rfl) rfl rfl rfl (hc) rfl ?_
  refine gO ?_
  exact AE.retD [0] rfl ⟨⟨rfl, Nat.le_of_ble_eq_true (by kernel_rfl)⟩, trivial⟩ rfl ⟨rfl, rfl⟩
end Go.Proofs.YteacpafhmgdbkaaGreatDoor
end

section
namespace Go.Proofs.YteacpafhmgdbkaaGreatDoor
open Go Go.AL Go.RowKit
set_option maxRecDepth 10000
set_option maxHeartbeats 4000000
mutual
def mapF (g : Tm → Int → Tm) : Fm → Int → Fm
  | .mk k n ts ps, d => .mk k n (ts.map (mapT fun u => g u d)) (mapFs g ps (d + bnd (.mk k n ts ps)))
def mapFs (g : Tm → Int → Tm) : List Fm → Int → List Fm
  | [], _ => []
  | t :: l, d => mapF g t d :: mapFs g l d
end
theorem mapFs_map (g : Tm → Int → Tm) (d : Int) : ∀ l, mapFs g l d = l.map fun f => mapF g f d
  | [] => by rw [mapFs]; rfl
  | t :: l => by rw [mapFs, mapFs_map g d l]; rfl
theorem mapF_eq (g : Tm → Int → Tm) (f : Fm) (d : Int) : mapF g f d = .mk f.k f.nm (f.ts.map (mapT fun u => g u d)) (f.ps.map fun p => mapF g p (d + bnd f)) := by
  obtain ⟨k, n, ts, ps⟩ := f
  rw [mapF, mapFs_map]; rfl
theorem mapped2_walk (f : FuncId) (cs : List IV) (F u r : Fm) (d : Int) (hd : 0 ≤ d ∧ d ≤ 1000) (ih : PFn Tryz.prog 118 [fmV u, Iv (d + bnd F), .fn f [] (cs.map .im)] (fmV r)) :
    PFn Tryz.prog 192 [fmV u, .im (.pt [Ii d]), .im (fmP F), .im (.pt [.fn f [] cs])] (fmV r) := by
  have hbn : 0 ≤ bnd F ∧ bnd F ≤ 1 := by unfold bnd; split <;> omega
  have hw := wr (x := d + bnd F) (by omega)
  refine ACall.walk [0, 1, 2, 3, 4, 5] [5] Tryz.func192 rfl Tryz.ntmps192 (by kernel_rfl) (by rfl) rfl fun W own I0 φ0 lay => ?_
  refine gO ?_
  refine AP.drawE 8 (Tree.node [] [0, 1, 2, 5] [3] [Tree.node [0, 1, 5] [4] [6] [Tree.node [] [] [7] [Tree.node [] [] [] []]]]) (by kernel_rfl) rfl (by kernel_rfl) (by kernel_rfl) ?_
  refine vd_node ?_
  refine sI ?_
  repeat' (first | with_reducible exact True.intro | with_reducible refine And.intro (by omega) ?_ | with_reducible refine And.intro ?_ ?_ | (refine AQ.nx rfl ?_; refine sE @hw ?_) | (refine AQ.fn (by kernel_rfl) rfl rfl rfl (binds_spec F) rfl ?_; refine sE @hw ?_) | (refine AQ.fn (by kernel_rfl) rfl rfl (by simp [AV.frees, AV.free, AV.st, frees_im]) ih rfl ?_; refine sI ?_) | refine AQ.done ?_ | (refine AQ.go (by kernel_rfl) ?_; refine sE @hw ?_; repeat (with_reducible refine And.intro (by omega) ?_); refine AQ.nx rfl ?_; refine sE @hw ?_))
  refine gO ?_
  exact AE.retD [0] rfl ⟨⟨rfl, Nat.le_of_ble_eq_true (by kernel_rfl)⟩, trivial⟩ rfl ⟨rfl, rfl⟩
end Go.Proofs.YteacpafhmgdbkaaGreatDoor
end

section
namespace Go.Proofs.YteacpafhmgdbkaaGreatDoor
open Go Go.AL Go.RowKit
set_option maxRecDepth 10000
set_option maxHeartbeats 4000000
theorem msFs_len : ∀ (l : List Fm) (d n m : Int), msFs l d n = some m → n + l.length ≤ m
  | [], d, n, m, h => by rw [msFs] at h; cases h; simp
  | t :: l, d, n, m, h => by
    rw [msFs] at h
    split at h
    · cases h
    · rename_i n' hn'
      have hb := msF_bnd t d n n' hn'
      have := msFs_len l d n' m h
      rw [List.length_cons]; omega
theorem msFs_get' : ∀ {l : List Fm} {d n m : Int} {k : Nat} {u : Fm}, msFs l d n = some m → 0 ≤ n → l[k]? = some u → ∃ n1 m1, 0 ≤ n1 ∧ msF u d n1 = some m1
  | [], d, n, m, k, u, _, _, h => by simp at h
  | t :: l, d, n, m, k, u, hm, hn, h => by
    rw [msFs] at hm
    split at hm
    · cases hm
    · rename_i n' hn'
      have hb := msF_bnd t d n n' hn'
      cases k with
      | zero => simp at h; subst h; exact ⟨_, _, hn, hn'⟩
      | succ k => simp at h; exact msFs_get' hm (by omega) h
theorem msF_parts {f : Fm} {d n m : Int} (h : msF f d n = some m) (hn : 0 ≤ n) : d ≤ 100 ∧ f.ts.length ≤ 1000000000 ∧ tmsL f.ts ∧ f.ps.length ≤ 1000000000 ∧ ∀ (k : Nat) (u : Fm), f.ps[k]? = some u → ∃ n1 m1, 0 ≤ n1 ∧ msF u (d + 1) n1 = some m1 := by
  rw [msF_eq] at h
  split at h
  · cases h
  · rename_i hc
    split at h
    · cases h
    · rename_i n' hn'
      obtain ⟨h1, h2⟩ := msTs_L _ _ _ _ hn' (by omega)
      have h3 := msTs_bnd _ _ _ _ hn'
      have h4 := msFs_len _ _ _ _ h
      have h5 := msFs_bnd _ _ _ _ h
      have h6 := h3.2 (by omega)
      have h7 := h5.2 h6
      exact ⟨by omega, by omega, h1, by omega, fun k u hu => msFs_get' h (by omega) hu⟩
theorem mapped_spec (f : FuncId) (cs : List IV) (g : Tm → Int → Tm) (F : Fm) (d D n m : Int) (hm : msF F D n = some m) (hn : 0 ≤ n) (hd : 0 ≤ d ∧ d ≤ D)
    (h : ∀ (u : Tm) (e : Int), u.xs.length = 0 → PFn Tryz.prog f (tmV u :: Iv e :: cs.map .im) (tmV (g u e))) : PFn Tryz.prog 118 [fmV F, Iv d, .fn f [] (cs.map .im)] (fmV (mapF g F d)) := by
  obtain ⟨hD, h1, h2, h3, h4⟩ := msF_parts hm hn
  have hbn : 0 ≤ bnd F ∧ bnd F ≤ 1 := by unfold bnd; split <;> omega
  have hc1 := eachT_spec 188 [.pt [.fn f [] cs], .pt [Ii d]] (mapT fun u => g u d) F.ts h1 fun k t ht => mapped1_spec f cs g t d (tmsL_get h2 ht) fun u hu => h u d hu
  have hc2 := eachF_spec 192 [.pt [Ii d], fmP F, .pt [.fn f [] cs]] (fun p => mapF g p (d + bnd F)) F.ps h3 fun k u hu => by
    obtain ⟨n1, m1, hn1, hm1⟩ := h4 k u hu
    exact mapped2_walk f cs F u _ d (by omega) (mapped_spec f cs g u (d + bnd F) (D + 1) n1 m1 hm1 hn1 (by omega) h)
  refine ACall.walk [0, 1, 2, 3, 4, 5, 6] [6] Tryz.func118 rfl Tryz.ntmps118 (by kernel_rfl) (by rfl) rfl fun W own I0 φ0 lay => ?_
  refine gO ?_
  refine AP.drawE 14 (Tree.node [] [0, 1, 2, 3, 4, 5, 6, 8, 9, 10] [7] [Tree.node [0, 1, 2, 3, 8, 9, 10] [] [11] [Tree.node [0, 1, 2, 3] [12] [13] [Tree.node [] [] [] []]]]) (by kernel_rfl) rfl (by kernel_rfl) (by kernel_rfl) ?_
  refine vd_node ?_
  refine sI ?_
  repeat' (first | with_reducible exact True.intro | with_reducible refine And.intro (by omega) ?_ | with_reducible refine And.intro ?_ ?_ | (refine AQ.nx rfl ?_; refine sI ?_) | (refine AQ.fn (by kernel_rfl) rfl rfl rfl (hc1) rfl ?_; refine sI ?_) | (refine AQ.fn (by kernel_rfl) rfl rfl rfl (hc2) rfl ?_; refine sI ?_) | refine AQ.done ?_ | (refine AQ.go (by kernel_rfl) ?_; refine sI ?_; repeat (with_reducible refine And.intro (by omega) ?_); refine AQ.nx rfl ?_; refine sI ?_))
  all_goals
    refine gO ?_
    exact AE.retD [0] rfl ⟨⟨rfl, Nat.le_of_ble_eq_true (by kernel_rfl)⟩, trivial⟩ rfl ⟨rfl, by rw [mapF_eq]; rfl⟩
termination_by SizeOf.sizeOf F
decreasing_by exact fm_mem hu
end Go.Proofs.YteacpafhmgdbkaaGreatDoor
end

section
namespace Go.Proofs.YteacpafhmgdbkaaGreatDoor
open Go Go.AL Go.RowKit
set_option maxRecDepth 10000
set_option maxHeartbeats 4000000
def leafC (u : Tm) : Tm := .mk u.nm u.ix []
theorem copied1_spec (u : Tm) : PFn Tryz.prog 215 [tmV u] (tmV (leafC u)) := by
  refine ACall.walk [0, 1, 2] [2] Tryz.func215 rfl Tryz.ntmps215 (by kernel_rfl) (by rfl) rfl fun W own I0 φ0 lay => ?_
  refine gO ?_
  refine AE.cellsW 0 [Sv u.nm, Iv u.ix, .im (.sl 3 [])] rfl (cellsLe.cons (cellsLe.cons (cellsLe.nil (cellsLe.refl _)))) ?_
  refine sI ?_
  exact AE.retD [0] rfl ⟨⟨rfl, Nat.le_of_ble_eq_true (by kernel_rfl)⟩, trivial⟩ rfl ⟨rfl, by rw [leafC, tmV]; rfl⟩
theorem clone1_spec (u : Tm) (d : Int) : PFn Tryz.prog 119 [tmV u, Iv d] (tmV (leafC u)) := by
  refine ACall.walk [0, 1, 2, 4] [4] Tryz.func119 rfl Tryz.ntmps119 (by kernel_rfl) (by rfl) rfl fun W own I0 φ0 lay => ?_
  refine gO ?_
  refine AE.cellsW 0 [Sv u.nm, Iv u.ix, .im (.sl 3 [])] rfl (cellsLe.cons (cellsLe.cons (cellsLe.nil (cellsLe.refl _)))) ?_
  refine sI ?_
  exact AE.retD [0] rfl ⟨⟨rfl, Nat.le_of_ble_eq_true (by kernel_rfl)⟩, trivial⟩ rfl ⟨rfl, by rw [leafC, tmV]; rfl⟩
theorem copied_spec (t : Tm) (hl : tmL t) : PFn Tryz.prog 139 [tmV t] (tmV (mapT leafC t)) := by
  have hc := mapTerm_spec 215 [] leafC t hl fun u _ => copied1_spec u
  refine ACall.walk [0, 1, 2] [2] Tryz.func139 rfl Tryz.ntmps139 (by kernel_rfl) (by rfl) rfl fun W own I0 φ0 lay => ?_
  refine gO ?_
  refine AQ.fn (by kernel_rfl) rfl rfl rfl (hc) rfl ?_
  refine gO ?_
  exact AE.retD [0] rfl ⟨⟨rfl, Nat.le_of_ble_eq_true (by kernel_rfl)⟩, trivial⟩ rfl ⟨rfl, rfl⟩
end Go.Proofs.YteacpafhmgdbkaaGreatDoor
end

section
namespace Go.Proofs.YteacpafhmgdbkaaGreatDoor
open Go Go.AL Go.RowKit
set_option maxRecDepth 10000
set_option maxHeartbeats 4000000
theorem clone_spec (F : Fm) (D n m : Int) (hm : msF F D n = some m) (hn : 0 ≤ n) (hD : 0 ≤ D) : PFn Tryz.prog 58 [fmV F] (fmV (mapF (fun u _ => leafC u) F 0)) := by
  have hc := mapped_spec 119 [] (fun u _ => leafC u) F 0 D n m hm hn (by omega) fun u e _ => clone1_spec u e
  refine ACall.walk [0, 1, 2] [2] Tryz.func58 rfl Tryz.ntmps58 (by kernel_rfl) (by rfl) rfl fun W own I0 φ0 lay => ?_
  refine gO ?_
  refine AQ.fn (by kernel_rfl) rfl rfl rfl (hc) rfl ?_
  refine gO ?_
  exact AE.retD [0] rfl ⟨⟨rfl, Nat.le_of_ble_eq_true (by kernel_rfl)⟩, trivial⟩ rfl ⟨rfl, rfl⟩
def leafO (t u : Tm) (d : Int) : Tm := if u.nm = [] ∧ u.ix = d then mapT leafC t else leafC u
theorem opened1_spec (t u : Tm) (d : Int) (hl : tmL t) : PFn Tryz.prog 138 [tmV u, Iv d, .im (tmP t)] (tmV (leafO t u d)) := by
  refine ACall.walk [0, 1, 2, 3, 5, 14] [5] Tryz.func138 rfl Tryz.ntmps138 (by kernel_rfl) (by rfl) rfl fun W own I0 φ0 lay => ?_
  refine gO ?_
  refine AP.cond rfl rfl (fun h1 => ?_) (fun h1 => ?_)
  · refine gO ?_
    refine AQ.fn (by kernel_rfl) rfl rfl rfl (copied_spec t hl) rfl ?_
    refine gO ?_
    exact AE.retD [0] rfl ⟨⟨rfl, Nat.le_of_ble_eq_true (by kernel_rfl)⟩, trivial⟩ rfl ⟨rfl, by rw [leafO, if_pos (by simpa using h1)]; rfl⟩
  · refine gO ?_
    refine AE.cellsW 0 [Sv u.nm, Iv u.ix, .im (.sl 3 [])] rfl (cellsLe.cons (cellsLe.cons (cellsLe.nil (cellsLe.refl _)))) ?_
    refine sI ?_
    exact AE.retD [0] rfl ⟨⟨rfl, Nat.le_of_ble_eq_true (by kernel_rfl)⟩, trivial⟩ rfl ⟨rfl, by rw [leafO, if_neg (by simpa using h1)]; rfl⟩
theorem opened_spec (F : Fm) (t : Tm) (D n m : Int) (hm : msF F D n = some m) (hn : 0 ≤ n) (hD : 0 ≤ D) (hl : tmL t) : PFn Tryz.prog 69 [fmV F, tmV t] (fmV (mapF (leafO t) F 0)) := by
  have hc := mapped_spec 138 [tmP t] (leafO t) F 0 D n m hm hn (by omega) fun u e _ => opened1_spec t u e hl
  refine ACall.walk [0, 1, 2, 3, 4] [4] Tryz.func69 rfl Tryz.ntmps69 (by kernel_rfl) (by rfl) rfl fun W own I0 φ0 lay => ?_
  refine gO ?_
  refine AQ.fn (by kernel_rfl) rfl rfl rfl (hc) rfl ?_
  refine gO ?_
  exact AE.retD [0] rfl ⟨⟨rfl, Nat.le_of_ble_eq_true (by kernel_rfl)⟩, trivial⟩ rfl ⟨rfl, rfl⟩
end Go.Proofs.YteacpafhmgdbkaaGreatDoor
end

section
namespace Go.Proofs.YteacpafhmgdbkaaGreatDoor
open Go Go.AL Go.RowKit
set_option maxRecDepth 10000
set_option maxHeartbeats 4000000
def leafA (nm : List UInt8) (u : Tm) (d : Int) : Tm := if u.nm = nm then .mk [] d [] else leafC u
theorem abstracted1_spec (nm : List UInt8) (u : Tm) (d : Int) : PFn Tryz.prog 142 [tmV u, Iv d, .im (.pt [Si nm])] (tmV (leafA nm u d)) := by
  refine ACall.walk [0, 1, 2, 3, 5, 9] [5] Tryz.func142 rfl Tryz.ntmps142 (by kernel_rfl) (by rfl) rfl fun W own I0 φ0 lay => ?_
  refine gO ?_
  refine AP.cond rfl rfl (fun h1 => ?_) (fun h1 => ?_)
  · refine gO ?_
    refine AE.cellsW 0 [Sv [], Iv d, .im (.sl 3 [])] rfl (cellsLe.cons (cellsLe.cons (cellsLe.nil (cellsLe.refl _)))) ?_
    refine sI ?_
    exact AE.retD [0] rfl ⟨⟨rfl, Nat.le_of_ble_eq_true (by kernel_rfl)⟩, trivial⟩ rfl ⟨rfl, by rw [leafA, if_pos (by simpa using h1)]; rfl⟩
  · refine gO ?_
    refine AE.cellsW 0 [Sv u.nm, Iv u.ix, .im (.sl 3 [])] rfl (cellsLe.cons (cellsLe.cons (cellsLe.nil (cellsLe.refl _)))) ?_
    refine sI ?_
    exact AE.retD [0] rfl ⟨⟨rfl, Nat.le_of_ble_eq_true (by kernel_rfl)⟩, trivial⟩ rfl ⟨rfl, by rw [leafA, if_neg (by simpa using h1)]; rfl⟩
theorem abstracted_spec (F : Fm) (nm : List UInt8) (D n m : Int) (hm : msF F D n = some m) (hn : 0 ≤ n) (hD : 0 ≤ D) : PFn Tryz.prog 75 [fmV F, Sv nm] (fmV (mapF (leafA nm) F 0)) := by
  have hc := mapped_spec 142 [.pt [Si nm]] (leafA nm) F 0 D n m hm hn (by omega) fun u e _ => abstracted1_spec nm u e
  refine ACall.walk [0, 1, 2, 3, 4] [4] Tryz.func75 rfl Tryz.ntmps75 (by kernel_rfl) (by rfl) rfl fun W own I0 φ0 lay => ?_
  refine gO ?_
  refine AQ.fn (by kernel_rfl) rfl rfl rfl (hc) rfl ?_
  refine gO ?_
  exact AE.retD [0] rfl ⟨⟨rfl, Nat.le_of_ble_eq_true (by kernel_rfl)⟩, trivial⟩ rfl ⟨rfl, rfl⟩
end Go.Proofs.YteacpafhmgdbkaaGreatDoor
end

section
namespace Go.Proofs.YteacpafhmgdbkaaGreatDoor
open Go Go.AL Go.RowKit
set_option maxRecDepth 10000
set_option maxHeartbeats 4000000
theorem wrong_spec (b : Bool) (e : Int) : PFn Tryz.prog 66 [Bv b, Iv e] (Iv (if b then 0 else e)) := by
  refine ACall.walk [0, 1, 4, 5] [] Tryz.func66 rfl Tryz.ntmps66 (by kernel_rfl) (by rfl) rfl fun W own I0 φ0 lay => ?_
  refine gO ?_
  refine AP.cond rfl rfl (fun h => ?_) (fun h => ?_)
  · refine gO ?_
    exact AE.ret0 rfl ⟨rfl, trivial⟩ rfl ⟨rfl, by rw [if_pos h]; rfl⟩
  · refine gO ?_
    exact AE.ret0 rfl ⟨rfl, trivial⟩ rfl ⟨rfl, by rw [if_neg (by simpa using h)]; rfl⟩
end Go.Proofs.YteacpafhmgdbkaaGreatDoor
end

section
namespace Go.Proofs.YteacpafhmgdbkaaGreatDoor
open Go Go.AL Go.RowKit
set_option maxRecDepth 10000
set_option maxHeartbeats 4000000
def fstE : List Int → Int
  | [] => 0
  | e :: l => if e = 0 then fstE l else e
end Go.Proofs.YteacpafhmgdbkaaGreatDoor
end

section
namespace Go.Proofs.YteacpafhmgdbkaaGreatDoor
open Go Go.AL Go.RowKit
set_option maxRecDepth 10000
set_option maxHeartbeats 4000000
abbrev fm0 : Fm := .mk 0 [] [] []
end Go.Proofs.YteacpafhmgdbkaaGreatDoor
end

section
namespace Go.Proofs.YteacpafhmgdbkaaGreatDoor
open Go Go.AL Go.RowKit
set_option maxRecDepth 10000
set_option maxHeartbeats 4000000
abbrev fault (path : List Int) (e : Int) : AV := .wr (.iface 107) (.agg [.im (.sl 1 (rowsI .i64 path)), Iv e])
theorem fail_spec (a b c : IV) (path : List Int) (e : Int) : ACallX Tryz.prog 122 [.im (.pt [a, b, c, .sl 1 (rowsI .i64 path)]), Iv e] [] (fun r H' => e = 0 ∧ r = .tup [] ∧ H' = []) (fun r H' => e ≠ 0 ∧ r = fault path e ∧ H' = []) := by
  refine ACallX.walk [0, 1, 5] [] Tryz.func122 rfl Tryz.ntmps122 (by kernel_rfl) (by rfl) rfl fun W own I0 φ0 lay => ?_
  refine gO ?_
  refine AP.cond rfl rfl (fun h => ?_) (fun h => ?_)
  · refine gO ?_
    refine xI ?_; refine sI ?_
    refine gO ?_
    refine AQ.panic rfl ?_
    exact AEX.out [] rfl rfl ⟨by simpa using h, rfl, rfl⟩
  · refine gO ?_
    exact AE.fall rfl trivial ⟨by simpa using h, rfl, rfl⟩
theorem must_spec (a b c : IV) (path : List Int) (x : Bool) (e : Int) : ACallX Tryz.prog 120 [.im (.pt [a, b, c, .sl 1 (rowsI .i64 path)]), Bv x, Iv e] [] (fun r H' => (x = true ∨ e = 0) ∧ r = .tup [] ∧ H' = []) (fun r H' => ¬ (x = true ∨ e = 0) ∧ r = fault path e ∧ H' = []) := by
  refine ACallX.walk [0, 1, 2] [] Tryz.func120 rfl Tryz.ntmps120 (by kernel_rfl) (by rfl) rfl fun W own I0 φ0 lay => ?_
  refine gO ?_
  refine AQ.fn (by kernel_rfl) rfl rfl rfl (wrong_spec x e) rfl ?_
  refine gO ?_
  refine AQ.callHX [] (by kernel_rfl) rfl rfl rfl rfl rfl rfl (by exact trivial) rfl (fail_spec a b c path _) ?_ ?_
  · rintro r H' ⟨hc, rfl, rfl⟩
    refine ⟨rfl, ?_⟩
    refine sH ?_
    have hx : ¬ (x = true ∨ e = 0) := by cases x <;> simp_all
    have he : (if x = true then 0 else e) = e := by cases x <;> simp_all
    exact AEX.out [] rfl rfl ⟨hx, by rw [he], rfl⟩
  · rintro r H' ⟨hc, rfl, rfl⟩
    refine ⟨rfl, ?_⟩
    refine sH ?_
    refine gO ?_
    have hx : x = true ∨ e = 0 := by cases x <;> simp_all
    exact AE.fall rfl trivial ⟨hx, rfl, rfl⟩
end Go.Proofs.YteacpafhmgdbkaaGreatDoor
end

section
namespace Go.Proofs.YteacpafhmgdbkaaGreatDoor
open Go Go.AL Go.RowKit
set_option maxRecDepth 10000
set_option maxHeartbeats 4000000
abbrev BH (n : Int) : Heap := [(1, .var 99 [.ob 0 0]), (0, .var 101 [Iv n])]
def runS {α : Type} (step : α → Int → Bool × Int) : List α → Int → Bool × Int
  | [], n => (false, n)
  | t :: l, n => if (step t n).1 = true then (true, (step t n).2) else runS step l (step t n).2
theorem runS_drop {α : Type} (step : α → Int → Bool × Int) (l : List α) (k : Nat) (t : α) (n : Int) (h : l[k]? = some t) : runS step (l.drop k) n = if (step t n).1 = true then (true, (step t n).2) else runS step (l.drop (k + 1)) (step t n).2 := by
  obtain ⟨h1, e1⟩ := List.getElem?_eq_some_iff.1 h
  rw [List.drop_eq_getElem_cons h1, e1, runS]
theorem indexT_walk (f : FuncId) (c : IV) (step : Tm → Int → Bool × Int) (l : List Tm) (n : Int) (hl : l.length ≤ 9223372036854775807) (P : Int → Prop) (hP : P n) (hS : ∀ (k : Nat) (t : Tm) (m : Int), l[k]? = some t → P m → (step t m).1 = false → P (step t m).2)
    (h : ∀ (k : Nat) (t : Tm) (m : Int), l[k]? = some t → P m → ACall Tryz.prog f [tmV t, .ob 1 0, .im c] (BH m) (fun r H' => r = Bv (step t m).1 ∧ H' = BH (step t m).2)) :
    ACall Tryz.prog 185 [.im (.sl 3 (tmR l)), .fn f [] [.ob 1 0, .im c]] (BH n) (fun r H' => ∃ i : Int, r = Iv i ∧ (0 ≤ i ↔ (runS step l n).1 = true) ∧ H' = BH (runS step l n).2) := by
  refine ACall.walk [0, 1, 4, 5, 7, 8, 9, 16] [] Tryz.func185 rfl Tryz.ntmps185 (by kernel_rfl) (by rfl) rfl fun W own I0 φ0 lay => ?_
  refine gE @tmR_len ?_
  refine AP.loop rfl (α := Nat × Int) (fun q => [(0, .im (.sl 3 (tmR l))), (1, .fn f [] [.ob 1 0, .im c]), (7, Iv l.length), (8, Iv q.1)]) (fun q => BH q.2) (fun q => q.1 ≤ l.length ∧ P q.2 ∧ runS step l n = runS step (l.drop q.1) q.2) (fun q => l.length - q.1) (0, n) ⟨by omega, hP, rfl⟩ (sU) rfl fun q ⟨hk, hp, hm⟩ => ?_
  obtain ⟨k, m⟩ := q
  simp only at hk hp hm ⊢
  rcases Nat.eq_or_lt_of_le hk with hke | hlt
  · refine sE @BH.eq_1 ?_
    refine gO ?_
    refine cF ?_
    refine gO ?_
    refine AE.ret rfl ⟨rfl, trivial⟩ ⟨-1, rfl, ?_, ?_⟩
    · rw [hm, hke, List.drop_length, runS]; simp
    · rw [hm, hke, List.drop_length, runS]
  · obtain ⟨t, ht, hrow⟩ := tmR_get l k hlt
    have hw := wr (x := (k : Int) + 1) (by omega)
    have hdr := runS_drop step l k t m ht
    refine sE @BH.eq_1 ?_
    refine gO ?_
    refine cT ?_
    refine gE @hrow ?_
    refine ⟨by rw [tmR_len]; omega, ?_⟩
    refine AQ.callH [(1, 1), (0, 0)] (by kernel_rfl) rfl rfl rfl rfl rfl rfl (by exact ⟨rfl, rfl, trivial⟩) rfl (h k t m ht hp) ?_
    rintro r H' ⟨rfl, rfl⟩
    refine ⟨rfl, ?_⟩
    refine sG @BH.eq_1 ?_
    refine gO ?_
    refine AP.cond rfl rfl (fun h1 => ?_) (fun h1 => ?_)
    · refine gO ?_
      refine AE.ret rfl ⟨rfl, trivial⟩ ⟨k, rfl, ?_, ?_⟩
      · rw [hm, hdr, if_pos h1]; simp
      · rw [hm, hdr, if_pos h1]
    · refine gE @hw ?_
      exact AE.round (k + 1, (step t m).2) ⟨by omega, hS k t m ht hp h1, by rw [hm, hdr, if_neg (by simp [h1])]⟩ (by simp only; omega) (sU) rfl
end Go.Proofs.YteacpafhmgdbkaaGreatDoor
end

section
namespace Go.Proofs.YteacpafhmgdbkaaGreatDoor
open Go Go.AL Go.RowKit
set_option maxRecDepth 10000
set_option maxHeartbeats 4000000
theorem containsT_walk (f : FuncId) (c : IV) (step : Tm → Int → Bool × Int) (l : List Tm) (n : Int) (hl : l.length ≤ 9223372036854775807) (P : Int → Prop) (hP : P n) (hS : ∀ (k : Nat) (t : Tm) (m : Int), l[k]? = some t → P m → (step t m).1 = false → P (step t m).2)
    (h : ∀ (k : Nat) (t : Tm) (m : Int), l[k]? = some t → P m → ACall Tryz.prog f [tmV t, .ob 1 0, .im c] (BH m) (fun r H' => r = Bv (step t m).1 ∧ H' = BH (step t m).2)) :
    ACall Tryz.prog 112 [.im (.sl 3 (tmR l)), .fn f [] [.ob 1 0, .im c]] (BH n) (fun r H' => r = Bv (runS step l n).1 ∧ H' = BH (runS step l n).2) := by
  refine ACall.walk [0, 1, 4] [] Tryz.func112 rfl Tryz.ntmps112 (by kernel_rfl) (by rfl) rfl fun W own I0 φ0 lay => ?_
  refine gO ?_
  refine AQ.callH [(1, 1), (0, 0)] (by kernel_rfl) rfl rfl rfl rfl rfl rfl (by exact ⟨rfl, rfl, trivial⟩) rfl (indexT_walk f c step l n hl P hP hS h) ?_
  rintro r H' ⟨i, rfl, hi, rfl⟩
  refine ⟨rfl, ?_⟩
  refine sG @BH.eq_1 ?_
  refine gO ?_
  refine AE.ret rfl ⟨rfl, trivial⟩ ⟨?_, rfl⟩
  have : decide (0 ≤ i) = (runS step l n).1 := by
    cases hb : (runS step l n).1 <;> simp [hb] at hi ⊢ <;> omega
  rw [← this]; rfl
end Go.Proofs.YteacpafhmgdbkaaGreatDoor
end

section
namespace Go.Proofs.YteacpafhmgdbkaaGreatDoor
open Go Go.AL Go.RowKit
set_option maxRecDepth 10000
set_option maxHeartbeats 4000000
mutual
/-- the budget of a term: whether it lasts, and what is left -/
def bT : Tm → Int → Int → Bool × Int
  | .mk _ _ xs, d, n => if 0 ≤ n - 1 ∧ d < 150 then bTs xs (d + 1) (n - 1) else (false, n - 1)
def bTs : List Tm → Int → Int → Bool × Int
  | [], _, n => (true, n)
  | t :: l, d, n => if (bT t d n).1 = true then bTs l d (bT t d n).2 else (false, (bT t d n).2)
end
theorem bTs_run (d : Int) : ∀ (l : List Tm) (n : Int), bTs l d n = (!(runS (fun t m => (!(bT t d m).1, (bT t d m).2)) l n).1, (runS (fun t m => (!(bT t d m).1, (bT t d m).2)) l n).2)
  | [], n => by rw [bTs, runS]; rfl
  | t :: l, n => by
    rw [bTs, runS, bTs_run d l]
    cases (bT t d n).1 <;> simp
theorem bT_eq (t : Tm) (d n : Int) : bT t d n = if 0 ≤ n - 1 ∧ d < 150 then bTs t.xs (d + 1) (n - 1) else (false, n - 1) := by cases t; rw [bT]; rfl
theorem bterm1_walk (u : Tm) (d m : Int) (q : Bool × Int) (hd : 0 ≤ d ∧ d ≤ 1000) (ih : ACall Tryz.prog 114 [.ob 0 0, tmV u, Iv (d + 1)] [(0, .var 101 [Iv m])] (fun r H' => r = Bv q.1 ∧ H' = [(0, .var 101 [Iv q.2])])) :
    ACall Tryz.prog 186 [tmV u, .ob 1 0, .im (.pt [Ii d])] (BH m) (fun r H' => r = Bv (!q.1) ∧ H' = BH q.2) := by
  have hw := wr (x := d + 1) (by omega)
  refine ACall.walk [0, 1, 2, 3, 4] [] Tryz.func186 rfl Tryz.ntmps186 (by kernel_rfl) (by rfl) rfl fun W own I0 φ0 lay => ?_
  refine gE @hw ?_
  refine AQ.callH [(0, 0)] (by kernel_rfl) rfl rfl rfl rfl rfl rfl (by exact ⟨rfl, trivial⟩) rfl ih ?_
  rintro r H' ⟨rfl, rfl⟩
  refine ⟨rfl, ?_⟩
  refine sG @BH.eq_1 ?_
  refine gO ?_
  exact AE.ret rfl ⟨rfl, trivial⟩ ⟨rfl, rfl⟩
end Go.Proofs.YteacpafhmgdbkaaGreatDoor
end

section
namespace Go.Proofs.YteacpafhmgdbkaaGreatDoor
open Go Go.AL Go.RowKit
set_option maxRecDepth 10000
set_option maxHeartbeats 4000000
mutual
theorem bT_bnd : ∀ (t : Tm) (d n : Int), 0 ≤ n → n ≤ 1000000 → (bT t d n).1 = true → 0 ≤ (bT t d n).2 ∧ (bT t d n).2 ≤ 1000000
  | .mk _ _ xs, d, n, hn, hn2, h => by
    rw [bT] at h ⊢
    split at h
    · rename_i hc
      rw [if_pos hc]
      exact bTs_bnd xs (d + 1) (n - 1) hc.1 (by omega) h
    · cases h
theorem bTs_bnd : ∀ (l : List Tm) (d n : Int), 0 ≤ n → n ≤ 1000000 → (bTs l d n).1 = true → 0 ≤ (bTs l d n).2 ∧ (bTs l d n).2 ≤ 1000000
  | [], d, n, hn, hn2, h => by rw [bTs]; exact ⟨hn, hn2⟩
  | t :: l, d, n, hn, hn2, h => by
    rw [bTs] at h ⊢
    split at h
    · rename_i hc
      rw [if_pos hc]
      have := bT_bnd t d n hn hn2 hc
      exact bTs_bnd l d _ this.1 this.2 h
    · cases h
end
theorem bterm_spec (t : Tm) (d n : Int) (hs : tmS t) (hd : 0 ≤ d ∧ d ≤ 1000) (hn : -1000000 ≤ n ∧ n ≤ 1000000) : ACall Tryz.prog 114 [.ob 0 0, tmV t, Iv d] [(0, .var 101 [Iv n])] (fun r H' => r = Bv (bT t d n).1 ∧ H' = [(0, .var 101 [Iv (bT t d n).2])]) := by
  have hs0 := tmS_eq.1 hs
  have hw := wr (x := n - 1) (by omega)
  refine ACall.walk [0, 1, 2, 3, 4, 5, 6] [3] Tryz.func114 rfl Tryz.ntmps114 (by kernel_rfl) (by rfl) rfl fun W own I0 φ0 lay => ?_
  refine gE @hw ?_
  by_cases hc : 0 ≤ n - 1 ∧ d < 150
  · have g : (decide (0 ≤ n - 1) && decide (d < 150)) = true := by simp only [hc.1, hc.2, decide_true, Bool.and_self]
    simp only [g]
    refine AQ.guard_yes (by simp only [go_sem]) ?_
    have hc1 := containsT_walk 186 (.pt [Ii d]) (fun u m => (!(bT u (d + 1) m).1, (bT u (d + 1) m).2)) t.xs (n - 1) hs0.2.1 (fun m => 0 ≤ m ∧ m ≤ 1000000) (by omega) (fun k u m hu hp hf => bT_bnd u (d + 1) m hp.1 (by omega) (by simpa using hf)) fun k u m hu hp => bterm1_walk u d m (bT u (d + 1) m) (by omega) (bterm_spec u (d + 1) m (tmsS_get hs0.2.2 hu) (by omega) (by omega))
    refine AQ.callH [(1, 1), (0, 0)] (by kernel_rfl) rfl rfl rfl rfl rfl rfl (by exact ⟨rfl, rfl, trivial⟩) rfl hc1 ?_
    rintro r H' ⟨rfl, rfl⟩
    refine ⟨rfl, ?_⟩
    refine sG @BH.eq_1 ?_
    refine gO ?_
    refine AE.retD [1] rfl ⟨rfl, trivial⟩ rfl ⟨?_, ?_⟩
    · rw [bT_eq, if_pos hc, bTs_run]; rfl
    · rw [bT_eq, if_pos hc, bTs_run]; rfl
  · have g : (decide (0 ≤ n - 1) && decide (d < 150)) = false := by simp at hc ⊢; exact hc
    simp only [g]
    refine gO ?_
    refine AE.retD [1] rfl ⟨rfl, trivial⟩ rfl ⟨?_, ?_⟩
    · rw [bT_eq, if_neg hc]; rfl
    · rw [bT_eq, if_neg hc]; rfl
termination_by SizeOf.sizeOf t
decreasing_by exact tm_mem hu
end Go.Proofs.YteacpafhmgdbkaaGreatDoor
end

section
namespace Go.Proofs.YteacpafhmgdbkaaGreatDoor
open Go Go.AL Go.RowKit
set_option maxRecDepth 10000
set_option maxHeartbeats 4000000
theorem indexF_walk (f : FuncId) (cs : List IV) (step : Fm → Int → Bool × Int) (l : List Fm) (n : Int) (hl : l.length ≤ 9223372036854775807) (P : Int → Prop) (hP : P n) (hS : ∀ (k : Nat) (t : Fm) (m : Int), l[k]? = some t → P m → (step t m).1 = false → P (step t m).2)
    (h : ∀ (k : Nat) (t : Fm) (m : Int), l[k]? = some t → P m → ACall Tryz.prog f (fmV t :: .ob 1 0 :: cs.map .im) (BH m) (fun r H' => r = Bv (step t m).1 ∧ H' = BH (step t m).2)) :
    ACall Tryz.prog 133 [.im (.sl 4 (fmR l)), .fn f [] (.ob 1 0 :: cs.map .im)] (BH n) (fun r H' => ∃ i : Int, r = Iv i ∧ (0 ≤ i ↔ (runS step l n).1 = true) ∧ H' = BH (runS step l n).2) := by
  refine ACall.walk [0, 1, 4, 5, 7, 8, 9, 16] [] Tryz.func133 rfl Tryz.ntmps133 (by kernel_rfl) (by rfl) rfl fun W own I0 φ0 lay => ?_
  refine gE @fmR_len ?_
  refine AP.loop rfl (α := Nat × Int) (fun q => [(0, .im (.sl 4 (fmR l))), (1, .fn f [] (.ob 1 0 :: cs.map .im)), (7, Iv l.length), (8, Iv q.1)]) (fun q => BH q.2) (fun q => q.1 ≤ l.length ∧ P q.2 ∧ runS step l n = runS step (l.drop q.1) q.2) (fun q => l.length - q.1) (0, n) ⟨by omega, hP, rfl⟩ (sU) rfl fun q ⟨hk, hp, hm⟩ => ?_
  obtain ⟨k, m⟩ := q
  simp only at hk hp hm ⊢
  rcases Nat.eq_or_lt_of_le hk with hke | hlt
  · refine sE @BH.eq_1 ?_
    refine gO ?_
    refine cF ?_
    refine gO ?_
    refine AE.ret rfl ⟨rfl, trivial⟩ ⟨-1, rfl, ?_, ?_⟩
    · rw [hm, hke, List.drop_length, runS]; simp
    · rw [hm, hke, List.drop_length, runS]
  · obtain ⟨t, ht, hrow⟩ := fmR_get l k hlt
    have hw := wr (x := (k : Int) + 1) (by omega)
    have hdr := runS_drop step l k t m ht
    refine sE @BH.eq_1 ?_
    refine gO ?_
    refine cT ?_
    refine gE @hrow ?_
    refine ⟨by rw [fmR_len]; omega, ?_⟩
    refine AQ.callH [(1, 1), (0, 0)] (by kernel_rfl) rfl rfl rfl rfl rfl rfl (by exact ⟨rfl, rfl, trivial⟩) (argsc := fmV t :: .ob 1 0 :: cs.map .im) (by rw [AV.rns, AV.rns, rns_im]; rfl) (h k t m ht hp) ?_
    rintro r H' ⟨rfl, rfl⟩
    refine ⟨rfl, ?_⟩
    refine sG @BH.eq_1 ?_
    refine gO ?_
    refine AP.cond rfl rfl (fun h1 => ?_) (fun h1 => ?_)
    · refine gO ?_
      refine AE.ret rfl ⟨rfl, trivial⟩ ⟨k, rfl, ?_, ?_⟩
      · rw [hm, hdr, if_pos h1]; simp
      · rw [hm, hdr, if_pos h1]
    · refine gE @hw ?_
      exact AE.round (k + 1, (step t m).2) ⟨by omega, hS k t m ht hp h1, by rw [hm, hdr, if_neg (by simp [h1])]⟩ (by simp only; omega) (sU) rfl
theorem containsF_walk (f : FuncId) (cs : List IV) (step : Fm → Int → Bool × Int) (l : List Fm) (n : Int) (hl : l.length ≤ 9223372036854775807) (P : Int → Prop) (hP : P n) (hS : ∀ (k : Nat) (t : Fm) (m : Int), l[k]? = some t → P m → (step t m).1 = false → P (step t m).2)
    (h : ∀ (k : Nat) (t : Fm) (m : Int), l[k]? = some t → P m → ACall Tryz.prog f (fmV t :: .ob 1 0 :: cs.map .im) (BH m) (fun r H' => r = Bv (step t m).1 ∧ H' = BH (step t m).2)) :
    ACall Tryz.prog 62 [.im (.sl 4 (fmR l)), .fn f [] (.ob 1 0 :: cs.map .im)] (BH n) (fun r H' => r = Bv (runS step l n).1 ∧ H' = BH (runS step l n).2) := by
  refine ACall.walk [0, 1, 4] [] Tryz.func62 rfl Tryz.ntmps62 (by kernel_rfl) (by rfl) rfl fun W own I0 φ0 lay => ?_
  refine gO ?_
  refine AQ.callH [(1, 1), (0, 0)] (by kernel_rfl) rfl rfl rfl rfl rfl rfl (by exact ⟨rfl, rfl, trivial⟩) (argsc := [.im (.sl 4 (fmR l)), .fn f [] (.ob 1 0 :: cs.map .im)]) (by simp only [AV.rns, AV.rn, rns_im]; rfl) (indexF_walk f cs step l n hl P hP hS h) ?_
  rintro r H' ⟨i, rfl, hi, rfl⟩
  refine ⟨rfl, ?_⟩
  refine sG @BH.eq_1 ?_
  refine gO ?_
  refine AE.ret rfl ⟨rfl, trivial⟩ ⟨?_, rfl⟩
  have : decide (0 ≤ i) = (runS step l n).1 := by
    cases hb : (runS step l n).1 <;> simp [hb] at hi ⊢ <;> omega
  rw [← this]; rfl
end Go.Proofs.YteacpafhmgdbkaaGreatDoor
end

section
namespace Go.Proofs.YteacpafhmgdbkaaGreatDoor
open Go Go.AL Go.RowKit
set_option maxRecDepth 10000
set_option maxHeartbeats 4000000
def cost (nm : List UInt8) : Int := 1 + ((nm.length / 20 : Nat) : Int)
mutual
def bF : Fm → Int → Int → Bool × Int
  | .mk _ nm ts ps, d, n => if 0 ≤ n - cost nm ∧ d < 150 then (if (bTs ts (d + 1) (n - cost nm)).1 = true then bFs ps (d + 1) (bTs ts (d + 1) (n - cost nm)).2 else (false, (bTs ts (d + 1) (n - cost nm)).2)) else (false, n - cost nm)
def bFs : List Fm → Int → Int → Bool × Int
  | [], _, n => (true, n)
  | t :: l, d, n => if (bF t d n).1 = true then bFs l d (bF t d n).2 else (false, (bF t d n).2)
end
theorem bFs_run (d : Int) : ∀ (l : List Fm) (n : Int), bFs l d n = (!(runS (fun t m => (!(bF t d m).1, (bF t d m).2)) l n).1, (runS (fun t m => (!(bF t d m).1, (bF t d m).2)) l n).2)
  | [], n => by rw [bFs, runS]; rfl
  | t :: l, n => by
    rw [bFs, runS, bFs_run d l]
    cases (bF t d n).1 <;> simp
theorem bF_eq (t : Fm) (d n : Int) : bF t d n = if 0 ≤ n - cost t.nm ∧ d < 150 then (if (bTs t.ts (d + 1) (n - cost t.nm)).1 = true then bFs t.ps (d + 1) (bTs t.ts (d + 1) (n - cost t.nm)).2 else (false, (bTs t.ts (d + 1) (n - cost t.nm)).2)) else (false, n - cost t.nm) := by cases t; rw [bF]; rfl
mutual
theorem bF_bnd : ∀ (t : Fm) (d n : Int), 0 ≤ n → n ≤ 1000000 → (bF t d n).1 = true → 0 ≤ (bF t d n).2 ∧ (bF t d n).2 ≤ 1000000
  | .mk _ nm ts ps, d, n, hn, hn2, h => by
    have hcp : 1 ≤ cost nm := by unfold cost; omega
    rw [bF] at h ⊢
    split at h
    · rename_i hc
      rw [if_pos hc]
      split at h
      · rename_i hc2
        rw [if_pos hc2]
        have := bTs_bnd ts (d + 1) (n - cost nm) hc.1 (by omega) hc2
        exact bFs_bnd ps (d + 1) _ this.1 this.2 h
      · cases h
    · cases h
theorem bFs_bnd : ∀ (l : List Fm) (d n : Int), 0 ≤ n → n ≤ 1000000 → (bFs l d n).1 = true → 0 ≤ (bFs l d n).2 ∧ (bFs l d n).2 ≤ 1000000
  | [], d, n, hn, hn2, h => by rw [bFs]; exact ⟨hn, hn2⟩
  | t :: l, d, n, hn, hn2, h => by
    rw [bFs] at h ⊢
    split at h
    · rename_i hc
      rw [if_pos hc]
      have := bF_bnd t d n hn hn2 hc
      exact bFs_bnd l d _ this.1 this.2 h
    · cases h
end
theorem bform1_walk (u : Tm) (d m : Int) (q : Bool × Int) (hd : 0 ≤ d ∧ d ≤ 1000) (ih : ACall Tryz.prog 114 [.ob 0 0, tmV u, Iv (d + 1)] [(0, .var 101 [Iv m])] (fun r H' => r = Bv q.1 ∧ H' = [(0, .var 101 [Iv q.2])])) :
    ACall Tryz.prog 113 [tmV u, .ob 1 0, .im (.pt [Ii d])] (BH m) (fun r H' => r = Bv (!q.1) ∧ H' = BH q.2) := by
  have hw := wr (x := d + 1) (by omega)
  refine ACall.walk [0, 1, 2, 3, 4] [] Tryz.func113 rfl Tryz.ntmps113 (by kernel_rfl) (by rfl) rfl fun W own I0 φ0 lay => ?_
  refine gE @hw ?_
  refine AQ.callH [(0, 0)] (by kernel_rfl) rfl rfl rfl rfl rfl rfl (by exact ⟨rfl, trivial⟩) rfl ih ?_
  rintro r H' ⟨rfl, rfl⟩
  refine ⟨rfl, ?_⟩
  refine sG @BH.eq_1 ?_
  refine gO ?_
  exact AE.ret rfl ⟨rfl, trivial⟩ ⟨rfl, rfl⟩
theorem bform2_walk (u : Fm) (d m : Int) (q : Bool × Int) (hd : 0 ≤ d ∧ d ≤ 1000) (ih : ACall Tryz.prog 53 [.ob 0 0, fmV u, Iv (d + 1)] [(0, .var 101 [Iv m])] (fun r H' => r = Bv q.1 ∧ H' = [(0, .var 101 [Iv q.2])])) :
    ACall Tryz.prog 115 [fmV u, .ob 1 0, .im (.pt [Ii d])] (BH m) (fun r H' => r = Bv (!q.1) ∧ H' = BH q.2) := by
  have hw := wr (x := d + 1) (by omega)
  refine ACall.walk [0, 1, 2, 3, 4] [] Tryz.func115 rfl Tryz.ntmps115 (by kernel_rfl) (by rfl) rfl fun W own I0 φ0 lay => ?_
  refine gE @hw ?_
  refine AQ.callH [(0, 0)] (by kernel_rfl) rfl rfl rfl rfl rfl rfl (by exact ⟨rfl, trivial⟩) rfl ih ?_
  rintro r H' ⟨rfl, rfl⟩
  refine ⟨rfl, ?_⟩
  refine sG @BH.eq_1 ?_
  refine gO ?_
  exact AE.ret rfl ⟨rfl, trivial⟩ ⟨rfl, rfl⟩
theorem bform_spec (t : Fm) (d n : Int) (hs : fmS t) (hd : 0 ≤ d ∧ d ≤ 1000) (hn : -1000000 ≤ n ∧ n ≤ 1000000) : ACall Tryz.prog 53 [.ob 0 0, fmV t, Iv d] [(0, .var 101 [Iv n])] (fun r H' => r = Bv (bF t d n).1 ∧ H' = [(0, .var 101 [Iv (bF t d n).2])]) := by
  have hs0 := fmS_eq.1 hs
  have hq : IntKind.i64.wrap (((t.nm.length : Int)).tdiv 20) = ((t.nm.length / 20 : Nat) : Int) := by
    rw [Int.tdiv_eq_ediv_of_nonneg (by omega)]
    exact wr (by omega)
  have hw1 : IntKind.i64.wrap (1 + ((t.nm.length / 20 : Nat) : Int)) = cost t.nm := by rw [wr (by omega)]; rfl
  have hcb : 1 ≤ cost t.nm ∧ cost t.nm ≤ 1 + 9223372036854775807 / 20 := by unfold cost; omega
  have hw2 := wr (x := n - cost t.nm) (by omega)
  refine ACall.walk [0, 1, 2, 3, 4, 5, 6] [3] Tryz.func53 rfl Tryz.ntmps53 (by kernel_rfl) (by rfl) rfl fun W own I0 φ0 lay => ?_
  refine gO ?_
  refine AP.drawE 13 (Tree.node [] [0, 1, 2, 3, 4, 5, 6, 7, 8, 9, 10, 11] [12] [Tree.node [] [] [] []]) (by kernel_rfl) rfl (by kernel_rfl) (by kernel_rfl) ?_
  refine vd_node ?_
  refine sI ?_
  refine ⟨by decide, ?_⟩
  repeat' (first | with_reducible exact True.intro | with_reducible refine And.intro (by omega) ?_ | with_reducible refine And.intro ?_ ?_ | (refine AQ.nx rfl ?_; refine sE (an @hq (an @hw1 @hw2)) ?_) | (fail) | refine AQ.done ?_ | (refine AQ.go (by kernel_rfl) ?_; refine sE (an @hq (an @hw1 @hw2)) ?_; repeat (with_reducible refine And.intro (by omega) ?_); refine AQ.nx rfl ?_; refine sE (an @hq (an @hw1 @hw2)) ?_))
  refine gO ?_
  by_cases hc : 0 ≤ n - cost t.nm ∧ d < 150
  · have g : (decide (0 ≤ n - cost t.nm) && decide (d < 150)) = true := by simp only [hc.1, hc.2, decide_true, Bool.and_self]
    simp only [g]
    refine AQ.guard_yes (by simp only [go_sem]) ?_
    have hc1 := containsT_walk 113 (.pt [Ii d]) (fun u m => (!(bT u (d + 1) m).1, (bT u (d + 1) m).2)) t.ts (n - cost t.nm) hs0.2.1 (fun m => 0 ≤ m ∧ m ≤ 1000000) (by omega) (fun k u m hu hp hf => bT_bnd u (d + 1) m hp.1 (by omega) (by simpa using hf)) fun k u m hu hp => bform1_walk u d m (bT u (d + 1) m) (by omega) (bterm_spec u (d + 1) m (tmsS_get hs0.2.2.1 hu) (by omega) (by omega))
    obtain ⟨⟨q1, q2⟩, hqq⟩ : ∃ q, runS (fun u m => (!(bT u (d + 1) m).1, (bT u (d + 1) m).2)) t.ts (n - cost t.nm) = q := ⟨_, rfl⟩
    have hbt : bTs t.ts (d + 1) (n - cost t.nm) = (!q1, q2) := by rw [bTs_run, hqq]
    rw [hqq] at hc1
    have hbb : q1 = false → 0 ≤ q2 ∧ q2 ≤ 1000000 := fun h => by
      have := bTs_bnd t.ts (d + 1) (n - cost t.nm) hc.1 (by omega) (by rw [hbt, h]; rfl)
      rw [hbt] at this; exact this
    refine AQ.callH [(1, 1), (0, 0)] (by kernel_rfl) rfl rfl rfl rfl rfl rfl (by exact ⟨rfl, rfl, trivial⟩) rfl hc1 ?_
    rintro r H' ⟨rfl, rfl⟩
    refine ⟨rfl, ?_⟩
    cases q1 with
    | true =>
      refine sG @BH.eq_1 ?_
      refine gO ?_
      refine AE.retD [1] rfl ⟨rfl, trivial⟩ rfl ⟨?_, ?_⟩
      · rw [bF_eq, if_pos hc, hbt]; rfl
      · rw [bF_eq, if_pos hc, hbt]; rfl
    | false =>
      have hb0 := hbb rfl
      refine sG @BH.eq_1 ?_
      refine gO ?_
      refine AQ.guard_yes (by simp only [go_sem]) ?_
      have hc2 := containsF_walk 115 [.pt [Ii d]] (fun u m => (!(bF u (d + 1) m).1, (bF u (d + 1) m).2)) t.ps q2 hs0.2.2.2.1 (fun m => 0 ≤ m ∧ m ≤ 1000000) hb0 (fun k u m hu hp hf => bF_bnd u (d + 1) m hp.1 (by omega) (by simpa using hf)) fun k u m hu hp => bform2_walk u d m (bF u (d + 1) m) (by omega) (bform_spec u (d + 1) m (fmsS_get hs0.2.2.2.2 hu) (by omega) (by omega))
      refine AQ.callH [(1, 1), (0, 0)] (by kernel_rfl) rfl rfl rfl rfl rfl rfl (by exact ⟨rfl, rfl, trivial⟩) rfl hc2 ?_
      rintro r H' ⟨rfl, rfl⟩
      refine ⟨rfl, ?_⟩
      refine sG @BH.eq_1 ?_
      refine gO ?_
      refine AE.retD [1] rfl ⟨rfl, trivial⟩ rfl ⟨?_, ?_⟩
      · rw [bF_eq, if_pos hc, hbt]; show _ = Bv (bFs t.ps (d + 1) q2).1; rw [bFs_run]; rfl
      · rw [bF_eq, if_pos hc, hbt]; show _ = [(0, Ob.var 101 [Iv (bFs t.ps (d + 1) q2).2])]; rw [bFs_run]; rfl
  · have g : (decide (0 ≤ n - cost t.nm) && decide (d < 150)) = false := by simp at hc ⊢; exact hc
    simp only [g]
    refine gO ?_
    refine AE.retD [1] rfl ⟨rfl, trivial⟩ rfl ⟨?_, ?_⟩
    · rw [bF_eq, if_neg hc]; rfl
    · rw [bF_eq, if_neg hc]; rfl
termination_by SizeOf.sizeOf t
decreasing_by exact fm_mem hu
end Go.Proofs.YteacpafhmgdbkaaGreatDoor
end

section
namespace Go.Proofs.YteacpafhmgdbkaaGreatDoor
open Go Go.AL Go.RowKit
set_option maxRecDepth 10000
set_option maxHeartbeats 4000000
inductive Dv where
  | mk (r ix : Int) (nm : List UInt8) (t : Tm) (f : Fm) (ks : List Dv)
def Dv.r : Dv → Int | .mk r _ _ _ _ _ => r
def Dv.ix : Dv → Int | .mk _ i _ _ _ _ => i
def Dv.nm : Dv → List UInt8 | .mk _ _ n _ _ _ => n
def Dv.t : Dv → Tm | .mk _ _ _ t _ _ => t
def Dv.f : Dv → Fm | .mk _ _ _ _ f _ => f
def Dv.ks : Dv → List Dv | .mk _ _ _ _ _ k => k
mutual
def dvC : Dv → List IV
  | .mk r ix nm t f ks => [Ii r, Ii ix, Si nm, Si t.nm, Ii t.ix, .sl 3 (tmR t.xs), Ii f.k, Si f.nm, .sl 3 (tmR f.ts), .sl 4 (fmR f.ps), .sl 11 (dvR ks)]
def dvR : List Dv → List (List IV)
  | [] => []
  | t :: l => dvC t :: dvR l
end
abbrev dvP (d : Dv) : IV := .pt [Ii d.r, Ii d.ix, Si d.nm, Si d.t.nm, Ii d.t.ix, .sl 3 (tmR d.t.xs), Ii d.f.k, Si d.f.nm, .sl 3 (tmR d.f.ts), .sl 4 (fmR d.f.ps), .sl 11 (dvR d.ks)]
abbrev dvV (d : Dv) : AV := .agg [Iv d.r, Iv d.ix, Sv d.nm, Sv d.t.nm, Iv d.t.ix, .im (.sl 3 (tmR d.t.xs)), Iv d.f.k, Sv d.f.nm, .im (.sl 3 (tmR d.f.ts)), .im (.sl 4 (fmR d.f.ps)), .im (.sl 11 (dvR d.ks))]
theorem dvC_eq (d : Dv) : dvC d = [Ii d.r, Ii d.ix, Si d.nm, Si d.t.nm, Ii d.t.ix, .sl 3 (tmR d.t.xs), Ii d.f.k, Si d.f.nm, .sl 3 (tmR d.f.ts), .sl 4 (fmR d.f.ps), .sl 11 (dvR d.ks)] := by cases d; rfl
theorem dvR_map : ∀ l : List Dv, dvR l = l.map dvC
  | [] => rfl
  | t :: l => by rw [dvR, dvR_map l]; rfl
theorem dvR_len (l : List Dv) : (dvR l).length = l.length := by rw [dvR_map, List.length_map]
theorem dvR_get (l : List Dv) (k : Nat) (h : k < l.length) : ∃ d, l[k]? = some d ∧ (dvR l).getD k [] = [Ii d.r, Ii d.ix, Si d.nm, Si d.t.nm, Ii d.t.ix, .sl 3 (tmR d.t.xs), Ii d.f.k, Si d.f.nm, .sl 3 (tmR d.f.ts), .sl 4 (fmR d.f.ps), .sl 11 (dvR d.ks)] := by
  refine ⟨l[k], List.getElem?_eq_getElem h, ?_⟩
  rw [List.getD_eq_getElem?_getD, dvR_map, List.getElem?_map, List.getElem?_eq_getElem h, ← dvC_eq]; rfl
theorem dv_mem {t u : Dv} {k : Nat} (h : t.ks[k]? = some u) : SizeOf.sizeOf u < SizeOf.sizeOf t := by
  cases t with
  | mk r ix nm t f ks =>
    have := List.sizeOf_lt_of_mem (List.mem_of_getElem? h)
    simp only [Dv.ks] at this
    simp; omega
mutual
def dvS : Dv → Prop
  | .mk _ ix nm t f ks => (nm.length ≤ 9223372036854775807 ∧ -9223372036854775808 ≤ ix ∧ ix ≤ 9223372036854775807) ∧ tmS t ∧ fmS f ∧ ks.length ≤ 9223372036854775807 ∧ dvsS ks
def dvsS : List Dv → Prop
  | [] => True
  | t :: l => dvS t ∧ dvsS l
end
theorem dvS_eq {d : Dv} : dvS d ↔ (d.nm.length ≤ 9223372036854775807 ∧ -9223372036854775808 ≤ d.ix ∧ d.ix ≤ 9223372036854775807) ∧ tmS d.t ∧ fmS d.f ∧ d.ks.length ≤ 9223372036854775807 ∧ dvsS d.ks := by cases d; rw [dvS]; rfl
theorem dvsS_get : ∀ {l : List Dv} {k : Nat} {t : Dv}, dvsS l → l[k]? = some t → dvS t
  | [], k, t, _, h => by simp at h
  | u :: l, 0, t, hs, h => by rw [dvsS] at hs; simp at h; exact h ▸ hs.1
  | u :: l, k + 1, t, hs, h => by rw [dvsS] at hs; simp at h; exact dvsS_get hs.2 h
end Go.Proofs.YteacpafhmgdbkaaGreatDoor
end

section
namespace Go.Proofs.YteacpafhmgdbkaaGreatDoor
open Go Go.AL Go.RowKit
set_option maxRecDepth 10000
set_option maxHeartbeats 4000000
end Go.Proofs.YteacpafhmgdbkaaGreatDoor
end

section
namespace Go.Proofs.YteacpafhmgdbkaaGreatDoor
open Go Go.AL Go.RowKit Go.Proofs Go.Shelf
set_option maxRecDepth 10000
set_option maxHeartbeats 4000000
def grow_ren : Go.Shelf.Ren := ⟨fun | 4 => 81 | n => n, fun | 22 => 22 | 25 => 27 | n => n, fun n => n⟩
theorem grow_lays : Go.Proofs.Lays8.n4 Tryz.prog grow_ren := {
  mixed := by kernel_rfl
  f4 := ⟨"slices.Grow[[]apodixis/natural.Formula,apodixis/natural.Formula]", rfl, Tryz.func81.trans (congrArg some (by kernel_rfl))⟩
  t0 := Tryz.underlying0
  a0 := Tryz.isAgg0
  z0 := Tryz.sizeOf0
  v0 := Tryz.zeroValue0
  t3 := Tryz.underlying3
  a3 := Tryz.isAgg3
  z3 := Tryz.sizeOf3
  v3 := Tryz.zeroValue3
  t4 := Tryz.underlying4
  a4 := Tryz.isAgg4
  z4 := Tryz.sizeOf4
  v4 := Tryz.zeroValue4
  t9 := Tryz.underlying9
  a9 := Tryz.isAgg9
  z9 := Tryz.sizeOf9
  v9 := Tryz.zeroValue9
  t20 := Tryz.underlying20
  a20 := Tryz.isAgg20
  z20 := Tryz.sizeOf20
  v20 := Tryz.zeroValue20
  t22 := Tryz.underlying22
  a22 := Tryz.isAgg22
  z22 := Tryz.sizeOf22
  v22 := Tryz.zeroValue22 }
theorem grow_spec (n : Nat) (hn : n ≤ 1000000000) : ACall Tryz.prog 81 [.im (.v (.slice none 0 0)), Iv n] [] (fun r H => r = .os 0 4 0 0 ∧ H = [(0, .vec 27 4 [])]) := by
  refine ⟨by rfl, fun w φ I vs hd hR hV => ?_⟩
  simp only [AV.dens] at hd
  obtain ⟨u, us, rfl, hu, u2, us2, rfl, hu2, rfl⟩ := hd
  simp only [AV.den, IV.den] at hu
  obtain ⟨rfl, _⟩ := hu
  rw [den_i] at hu2
  subst hu2
  have h0 := real_st hR (nid [])
  rcases Nat.eq_zero_or_pos n with rfl | hp
  · refine (Any8.slices_Grow_room grow_lays none 0 0 0 w (Nat.le_refl _) (by decide) (by decide) (Nat.le_refl _)).mono fun e w' ⟨he, hw⟩ => ?_
    subst hw
    obtain ⟨h1, _⟩ := h0.own_nil (b := 0) rfl (Nat.le_refl _) 27 4
    refine ⟨.os 0 4 0 0, _, _, I, _, ⟨rfl, rfl⟩, he, ?_, h1⟩
    simp only [AV.den]
    exact .inl ⟨by simp [upd], trivial, trivial, trivial⟩
  · obtain ⟨i0, hi0, hz0⟩ := sz_info Tryz.sz27
    obtain ⟨i1, zv, hi1, hz1, hzc⟩ := zro_info Tryz.zr27
    have hi0' := hi0
    rw [hi1] at hi0
    cases hi0
    have hb27 : i0.bytes = 72 := by
      have := Tryz.by27
      unfold by' at this
      rw [hi1] at this
      simpa using this
    refine (Any8.slices_Grow_grow grow_lays i0 zv hi1 hz1 (by omega) none 0 0 n [] w (Nat.le_refl _) (by omega) (by rw [hb27]; omega) (by omega) (by simp) (fun _ => rfl) (fun a h => by cases h)).mono fun e w' ⟨he, hw⟩ => ?_
    have hG1 : n ≤ grownCap w (0 + n) 0 27 := by have := grownCap_ge w (0 + n) 0 27; omega
    have hG2 := grownCap_le_maxLen w (0 + n) 0 27 (by unfold maxLen; omega)
    have hd : St ⟨w, ownB φ, I, φ, nid []⟩ φ I [] w.drew := h0.drew1
    subst hw
    have hG3 : (0 + n) ≤ grownCap w (0 + n) 0 27 := by omega
    obtain ⟨h1, _⟩ := hd.alloc_own (b := 0) rfl (Nat.le_refl _) (cs := ([] : List Value).toArray ++ Builtin.zeroCells zv.cells (0 + n - 0) ++ Builtin.zeroCells zv.cells (grownCap w (0 + n) 0 27 - (0 + n))) (e := 27) (o := .vec 27 4 []) (by
      simp only [Ob.at]
      refine .inr ⟨_, [], (([] : List Value).toArray ++ Builtin.zeroCells zv.cells (0 + n - 0) ++ Builtin.zeroCells zv.cells (grownCap w (0 + n) 0 27 - (0 + n))).toList, rfl, ?_, by simp [IV.denss], by simp⟩
      rw [al_new]; simp)
    refine ⟨.os 0 4 0 0, _, _, I, _, ⟨rfl, rfl⟩, he, ?_, h1⟩
    simp only [AV.den]
    refine .inr ⟨w.heap.size, grownCap w (0 + n) 0 27, by simp [upd], by simp; rfl, Nat.zero_le _, hG2, _, 27, al_new w.drew _, ?_⟩
    have hz : zv.cells.size = 4 := by rw [← Array.length_toList, hzc]; rfl
    simp only [Array.size_append, List.size_toArray, List.length_nil, size_zeroCells, hz]
    show (0 + grownCap w (0 + n) 0 27) * 4 ≤ 0 + (0 + n - 0) * 4 + (grownCap w (0 + n) 0 27 - (0 + n)) * 4
    omega
end Go.Proofs.YteacpafhmgdbkaaGreatDoor
end

section
namespace Go.Proofs.YteacpafhmgdbkaaGreatDoor
open Go Go.AL Go.RowKit
set_option maxRecDepth 10000
set_option maxHeartbeats 4000000
def rowsL (L : List (List Fm)) : List (List IV) := L.map fun x => [.sl 4 (fmR x)]
theorem rowsL_len (L : List (List Fm)) : (rowsL L).length = L.length := by simp [rowsL]
theorem rowsL_get (L : List (List Fm)) (k : Nat) (h : k < L.length) : (rowsL L).getD k [] = [.sl 4 (fmR (L.getD k []))] := by
  rw [List.getD_eq_getElem?_getD, List.getD_eq_getElem?_getD, rowsL, List.getElem?_map, List.getElem?_eq_getElem h]; rfl
theorem flat_step {α : Type} (L : List (List α)) (k : Nat) (h : k < L.length) : (L.take (k + 1)).flatten = (L.take k).flatten ++ L.getD k [] := by
  rw [List.take_add_one, List.getElem?_eq_getElem h, List.flatten_append, List.getD_eq_getElem?_getD, List.getElem?_eq_getElem h]; simp
theorem flat_le {α : Type} (L : List (List α)) (k : Nat) : (L.take k).flatten.length ≤ L.flatten.length := by
  conv => rhs; rw [← List.take_append_drop k L, List.flatten_append, List.length_append]
  omega
theorem fmR_append (a b : List Fm) : fmR (a ++ b) = fmR a ++ fmR b := by rw [fmR_map, fmR_map, fmR_map, List.map_append]
theorem concat_spec (L : List (List Fm)) (hL : L.length ≤ 1000000000) (hl : L.flatten.length ≤ 1000000000) : PFn Tryz.prog 31 [.im (.sl 1 (rowsL L))] (.im (.sl 4 (fmR L.flatten))) := by
  refine ACall.walk [0, 2, 3, 5, 6, 8, 9, 10, 11, 12, 20, 25, 26, 27, 28] [] Tryz.func31 rfl Tryz.ntmps31 (by kernel_rfl) (by rfl) rfl fun W own I0 φ0 lay => ?_
  refine gO ?_
  refine AP.loop rfl (α := Nat) (fun k => [(0, .im (.sl 1 (rowsL L))), (3, Iv (L.take k).flatten.length), (9, .im (.sl 1 (rowsL L))), (10, Iv L.length), (11, Iv k)]) (fun k => []) (fun k => k ≤ L.length) (fun k => L.length - k) 0 (by simp) (by rw [← rowsL_len]; exact (sU)) rfl fun k hk => ?_
  have hw := wr (x := (k : Int) + 1) (by omega)
  refine gO ?_
  refine AP.cond rfl rfl (fun hc => ?_) (fun hc => ?_)
  · have hk' : k < L.length := by simp at hc; omega
    have hg := rowsL_get L k hk'
    have hst := flat_step L k hk'
    have hle := flat_le L (k + 1)
    rw [hst, List.length_append] at hle
    have w1 : IntKind.i64.wrap (((L.take k).flatten.length : Int) + ((L.getD k []).length : Int)) = (((L.take k).flatten.length + (L.getD k []).length : Nat) : Int) := by rw [← Int.natCast_add]; exact wr (by omega)
    have hlt : decide ((((L.take k).flatten.length + (L.getD k []).length : Nat) : Int) < 0) = false := by simp; omega
    repeat (first | refine xA ?_ | refine xB ?_ | refine xC ?_ | refine xE ?_ | refine xD ?_ | refine xK ?_ | refine xS ?_ | refine xM ?_ | refine xT ?_ | refine xF ?_ | ((first | refine xR ?_ | refine xW ?_ | refine vq_id ?_); simp only [go_sem, Nat.reduceAdd, Nat.reduceLeDiff, Nat.reduceSub, Int.reduceToNat, reduceCtorEq, hw, rowsL_len, hg, fmR_len, w1, List.map_cons, List.map_nil, List.length_cons, List.length_nil, List.take_succ_cons, List.take_zero, List.drop_zero, hlt]) | (refine ⟨by first | omega | (intros; simp_all; done) | (intros; simp_all; omega), ?_⟩; try simp only [go_sem, Nat.reduceAdd, Nat.reduceLeDiff, Nat.reduceSub, Int.reduceToNat, reduceCtorEq, hw, rowsL_len, hg, fmR_len, w1, List.map_cons, List.map_nil, List.length_cons, List.length_nil, List.take_succ_cons, List.take_zero, List.drop_zero, hlt]))
    refine AE.round (k + 1) (by omega) (by omega) ?_ rfl
    rw [hst, List.length_append]
    exact (sU)
  have hk' : k = L.length := by simp at hc; omega
  rw [hk', List.take_length]
  have hgr := grow_spec L.flatten.length hl
  refine gO ?_
  refine AQ.callv (by kernel_rfl) rfl rfl rfl hgr fun r' H' ⟨e1, e2⟩ => ?_
  subst e1; subst e2
  refine gO ?_
  refine AP.loop rfl (α := Nat) (fun k => [(6, .os 0 4 0 (L.take k).flatten.length), (25, .im (.sl 1 (rowsL L))), (26, Iv L.length), (27, Iv k)]) (fun k => [(0, .vec 27 4 (fmR (L.take k).flatten))]) (fun k => k ≤ L.length) (fun k => L.length - k) 0 (by simp) (by rw [← rowsL_len]; exact (sU)) rfl fun k hk => ?_
  have hw := wr (x := (k : Int) + 1) (by omega)
  refine gO ?_
  refine AP.cond rfl rfl (fun hc => ?_) (fun hc => ?_)
  · have hk' : k < L.length := by simp at hc; omega
    have hg := rowsL_get L k hk'
    have hst := flat_step L k hk'
    have hle := flat_le L (k + 1)
    rw [hst, List.length_append] at hle
    repeat (first | refine xA ?_ | refine xB ?_ | refine xC ?_ | refine xE ?_ | refine xD ?_ | refine xK ?_ | refine xS ?_ | refine xM ?_ | refine xT ?_ | refine xF ?_ | ((first | refine xR ?_ | refine xW ?_ | refine vq_id ?_); simp only [go_sem, Nat.reduceAdd, Nat.reduceLeDiff, Nat.reduceSub, Int.reduceToNat, reduceCtorEq, hw, rowsL_len, hg, fmR_len, List.map_cons, List.map_nil, List.length_cons, List.length_nil, List.take_succ_cons, List.take_zero, List.drop_zero]) | (refine ⟨by first | omega | (intros; simp_all; done) | (intros; simp_all; omega), ?_⟩; try simp only [go_sem, Nat.reduceAdd, Nat.reduceLeDiff, Nat.reduceSub, Int.reduceToNat, reduceCtorEq, hw, rowsL_len, hg, fmR_len, List.map_cons, List.map_nil, List.length_cons, List.length_nil, List.take_succ_cons, List.take_zero, List.drop_zero]))
    refine AQ.append (hnb := rfl) (rows := fmR (L.take k).flatten) (es := 3) (by kernel_rfl) rfl rfl rfl (by rfl) Tryz.tk22 Tryz.sz27 (by show Option.map _ (zro Tryz.prog 27) = _; rw [Tryz.zr27]; rfl) Tryz.by27 (by rw [fmR_len]) (by rw [fmR_len, fmR_len]; omega) (by rw [fmR_len, fmR_len]; omega) ?_
    refine gE (an @hw (an @fmR_append @fmR_len)) ?_
    refine AE.round (k + 1) (by omega) (by omega) ?_ ?_
    · rw [hst, List.length_append]
      exact (sU)
    · rw [hst, fmR_append]
  have hk' : k = L.length := by simp at hc; omega
  rw [hk', List.take_length]
  refine gO ?_
  refine AE.freeze 0 (rows := fmR L.flatten) rfl (by simp [go_sem]) (by simp [go_sem, fmR_len]) ?_
  refine sI ?_
  refine AE.ret0 rfl ⟨rfl, trivial⟩ rfl ⟨rfl, ?_⟩
  simp only [tupOf, AV.st, List.drop_zero]
  rw [List.take_of_length_le (by rw [fmR_len]; exact Nat.le_refl _)]
end Go.Proofs.YteacpafhmgdbkaaGreatDoor
end

section
namespace Go.Proofs.YteacpafhmgdbkaaGreatDoor
open Go Go.AL Go.RowKit
set_option maxRecDepth 10000
set_option maxHeartbeats 4000000
end Go.Proofs.YteacpafhmgdbkaaGreatDoor
end

section
namespace Go.Proofs.YteacpafhmgdbkaaGreatDoor
open Go Go.AL Go.RowKit
set_option maxRecDepth 10000
set_option maxHeartbeats 4000000
mutual
def szT : Tm → Nat
  | .mk _ _ xs => 1 + szTs xs
def szTs : List Tm → Nat
  | [] => 0
  | t :: l => szT t + szTs l
end
mutual
def dpT : Tm → Nat
  | .mk _ _ xs => 1 + dpTs xs
def dpTs : List Tm → Nat
  | [] => 0
  | t :: l => max (dpT t) (dpTs l)
end
mutual
def szF : Fm → Nat
  | .mk _ _ ts ps => 1 + szTs ts + szFs ps
def szFs : List Fm → Nat
  | [] => 0
  | t :: l => szF t + szFs l
end
mutual
def dpF : Fm → Nat
  | .mk _ _ ts ps => 1 + max (dpTs ts) (dpFs ps)
def dpFs : List Fm → Nat
  | [] => 0
  | t :: l => max (dpF t) (dpFs l)
end
theorem szT_eq (t : Tm) : szT t = 1 + szTs t.xs := by cases t; rw [szT]; rfl
theorem szF_eq (t : Fm) : szF t = 1 + szTs t.ts + szFs t.ps := by cases t; rw [szF]; rfl
theorem dpF_eq (t : Fm) : dpF t = 1 + max (dpTs t.ts) (dpFs t.ps) := by cases t; rw [dpF]; rfl
mutual
theorem msT_sz : ∀ (t : Tm) (d n : Int), msT t d n = if n + szT t ≤ 4000 ∧ d + dpT t ≤ 101 then some (n + szT t) else none
  | .mk _ _ xs, d, n => by
    rw [msT, szT, dpT]
    split
    · rw [if_neg (by omega)]
    · rw [msTs_sz xs (d + 1) (n + 1) (by omega) (by omega)]
      by_cases h : n + 1 + szTs xs ≤ 4000 ∧ d + 1 + dpTs xs ≤ 101
      · rw [if_pos h, if_pos (by omega)]; congr 1; omega
      · rw [if_neg h, if_neg (by omega)]
theorem msTs_sz : ∀ (l : List Tm) (d n : Int), n ≤ 4000 → d ≤ 101 → msTs l d n = if n + szTs l ≤ 4000 ∧ d + dpTs l ≤ 101 then some (n + szTs l) else none
  | [], d, n, hn, hd => by
    rw [msTs, szTs, dpTs, if_pos (by omega)]; congr 1; omega
  | t :: l, d, n, hn, hd => by
    rw [msTs, msT_sz t d n, szTs, dpTs]
    by_cases h : n + szT t ≤ 4000 ∧ d + dpT t ≤ 101
    · rw [if_pos h]
      simp only
      rw [msTs_sz l d _ h.1 hd]
      by_cases h2 : n + szT t + szTs l ≤ 4000 ∧ d + dpTs l ≤ 101
      · rw [if_pos h2, if_pos (by omega)]; congr 1; omega
      · rw [if_neg h2, if_neg (by omega)]
    · rw [if_neg h, if_neg (by omega)]
end
mutual
theorem msF_sz : ∀ (t : Fm) (d n : Int), msF t d n = if n + szF t ≤ 4000 ∧ d + dpF t ≤ 101 then some (n + szF t) else none
  | .mk k nm ts ps, d, n => by
    rw [msF_eq, szF, dpF]
    simp only [Fm.ts, Fm.ps]
    split
    · rw [if_neg (by omega)]
    · rw [msTs_sz ts (d + 1) (n + 1) (by omega) (by omega)]
      by_cases h : n + 1 + szTs ts ≤ 4000 ∧ d + 1 + dpTs ts ≤ 101
      · rw [if_pos h]
        simp only
        rw [msFs_sz ps (d + 1) _ h.1 (by omega)]
        by_cases h2 : n + 1 + szTs ts + szFs ps ≤ 4000 ∧ d + 1 + dpFs ps ≤ 101
        · rw [if_pos h2, if_pos (by omega)]; congr 1; omega
        · rw [if_neg h2, if_neg (by omega)]
      · rw [if_neg h, if_neg (by omega)]
theorem msFs_sz : ∀ (l : List Fm) (d n : Int), n ≤ 4000 → d ≤ 101 → msFs l d n = if n + szFs l ≤ 4000 ∧ d + dpFs l ≤ 101 then some (n + szFs l) else none
  | [], d, n, hn, hd => by
    rw [msFs, szFs, dpFs, if_pos (by omega)]; congr 1; omega
  | t :: l, d, n, hn, hd => by
    rw [msFs, msF_sz t d n, szFs, dpFs]
    by_cases h : n + szF t ≤ 4000 ∧ d + dpF t ≤ 101
    · rw [if_pos h]
      simp only
      rw [msFs_sz l d _ h.1 hd]
      by_cases h2 : n + szF t + szFs l ≤ 4000 ∧ d + dpFs l ≤ 101
      · rw [if_pos h2, if_pos (by omega)]; congr 1; omega
      · rw [if_neg h2, if_neg (by omega)]
    · rw [if_neg h, if_neg (by omega)]
end
theorem fitF_sz (f : Fm) : fitF f = decide (szF f ≤ 4000 ∧ dpF f ≤ 100) := by
  rw [fitF, msF_sz]
  by_cases h : szF f ≤ 4000 ∧ dpF f ≤ 100
  · rw [if_pos (by omega), decide_eq_true h]; rfl
  · rw [if_neg (by omega), decide_eq_false h]; rfl
theorem fitT_sz (f : Tm) : fitT f = decide (szT f ≤ 4000 ∧ dpT f ≤ 100) := by
  rw [fitT, msT_sz]
  by_cases h : szT f ≤ 4000 ∧ dpT f ≤ 100
  · rw [if_pos (by omega), decide_eq_true h]; rfl
  · rw [if_neg (by omega), decide_eq_false h]; rfl
theorem szTs_get : ∀ {l : List Tm} {k : Nat} {t : Tm}, l[k]? = some t → szT t ≤ szTs l
  | [], k, t, h => by simp at h
  | u :: l, 0, t, h => by simp at h; subst h; rw [szTs]; omega
  | u :: l, k + 1, t, h => by simp at h; have := szTs_get h; rw [szTs]; omega
theorem szFs_get : ∀ {l : List Fm} {k : Nat} {t : Fm}, l[k]? = some t → szF t ≤ szFs l
  | [], k, t, h => by simp at h
  | u :: l, 0, t, h => by simp at h; subst h; rw [szFs]; omega
  | u :: l, k + 1, t, h => by simp at h; have := szFs_get h; rw [szFs]; omega
theorem szTs_len : ∀ l : List Tm, l.length ≤ szTs l
  | [] => by simp
  | t :: l => by rw [szTs, szT_eq, List.length_cons]; have := szTs_len l; omega
theorem szFs_len : ∀ l : List Fm, l.length ≤ szFs l
  | [] => by simp
  | t :: l => by rw [szFs, szF_eq, List.length_cons]; have := szFs_len l; omega
end Go.Proofs.YteacpafhmgdbkaaGreatDoor
end

section
namespace Go.Proofs.YteacpafhmgdbkaaGreatDoor
open Go Go.AL Go.RowKit
set_option maxRecDepth 10000
set_option maxHeartbeats 4000000
mutual
def ocT (nm : List UInt8) : Tm → Bool
  | .mk n _ xs => (!(n == []) && (xs.length : Int) == 0) && n == nm || ocTs nm xs
def ocTs (nm : List UInt8) : List Tm → Bool
  | [] => false
  | t :: l => ocT nm t || ocTs nm l
end
mutual
def ocF (nm : List UInt8) : Fm → Bool
  | .mk _ _ ts ps => ocTs nm ts || ocFs nm ps
def ocFs (nm : List UInt8) : List Fm → Bool
  | [] => false
  | t :: l => ocF nm t || ocFs nm l
end
theorem ocT_eq (nm : List UInt8) (t : Tm) : ocT nm t = ((!(t.nm == []) && (t.xs.length : Int) == 0) && t.nm == nm || ocTs nm t.xs) := by cases t; rw [ocT]; rfl
theorem ocF_eq (nm : List UInt8) (t : Fm) : ocF nm t = (ocTs nm t.ts || ocFs nm t.ps) := by cases t; rw [ocF]; rfl
theorem ocTs_drop (nm : List UInt8) (l : List Tm) (k : Nat) (t : Tm) (h : l[k]? = some t) : ocTs nm (l.drop k) = (ocT nm t || ocTs nm (l.drop (k + 1))) := by
  obtain ⟨h1, e1⟩ := List.getElem?_eq_some_iff.1 h
  rw [List.drop_eq_getElem_cons h1, e1, ocTs]
theorem ocFs_drop (nm : List UInt8) (l : List Fm) (k : Nat) (t : Fm) (h : l[k]? = some t) : ocFs nm (l.drop k) = (ocF nm t || ocFs nm (l.drop (k + 1))) := by
  obtain ⟨h1, e1⟩ := List.getElem?_eq_some_iff.1 h
  rw [List.drop_eq_getElem_cons h1, e1, ocFs]
theorem occurs1_spec (nm u : List UInt8) (b : Bool) : ACall Tryz.prog 262 [Sv u, .ob 0 0, .im (.pt [Si nm])] [(0, .var 4 [Bv b])] (fun r H' => r = .tup [] ∧ H' = [(0, .var 4 [Bv (b || u == nm)])]) := by
  refine ACall.walk [0, 1, 2] [] Tryz.func262 rfl Tryz.ntmps262 (by kernel_rfl) (by rfl) rfl fun W own I0 φ0 lay => ?_
  refine gO ?_
  exact AE.fall rfl trivial ⟨rfl, rfl⟩
abbrev lvH (nm : List UInt8) (b : Bool) : Heap := [(2, .var 220 [.fn 147 [] [.ob 1 0, .ob 2 0]]), (1, .var 144 [.fn 262 [] [.ob 0 0, .im (.pt [Si nm])]]), (0, .var 4 [Bv b])]
theorem leaves1_spec (nm : List UInt8) (t : Tm) (b : Bool) (hs : tmS t) : ACall Tryz.prog 147 [tmV t, .ob 1 0, .ob 2 0] (lvH nm b) (fun r H' => r = .tup [] ∧ H' = lvH nm (b || ocT nm t)) := by
  have hs0 := tmS_eq.1 hs
  refine ACall.walk [0, 1, 2, 3, 5, 14, 20, 21, 22, 23] [5] Tryz.func147 rfl Tryz.ntmps147 (by kernel_rfl) (by rfl) rfl fun W own I0 φ0 lay => ?_
  refine gE @tmR_len ?_
  obtain ⟨c, hcd⟩ : ∃ c, (!(t.nm == []) && (t.xs.length : Int) == 0) = c := ⟨_, rfl⟩
  have he := ocT_eq nm t
  rw [hcd] at he
  refine AP.cut (α := Unit) (fun _ => [(1, .ob 1 0), (2, .ob 2 0), (3, .im (tmP t))]) (fun _ => lvH nm (b || c && t.nm == nm)) (fun _ => True) ?_ fun _ _ => ?_
  · refine AP.cond rfl rfl (fun h => ?_) (fun h => ?_)
    · rw [hcd] at h
      refine sE @lvH.eq_1 ?_
      refine gO ?_
      refine AQ.callH [(0, 0)] (by kernel_rfl) rfl rfl rfl rfl rfl rfl (by exact ⟨rfl, trivial⟩) rfl (occurs1_spec nm t.nm b) ?_
      rintro r H' ⟨rfl, rfl⟩
      refine ⟨rfl, ?_⟩
      refine sH ?_
      refine gO ?_
      exact AE.meet () trivial (sU) (by rw [h, Bool.true_and])
    · rw [hcd] at h
      refine gO ?_
      have h : c = false := by simpa using h
      exact AE.meet () trivial (sU) (by rw [h, Bool.false_and, Bool.or_false])
  · refine gE @tmR_len ?_
    refine AP.loop rfl (α := Nat × Bool) (fun q => [(1, .ob 1 0), (2, .ob 2 0), (20, .im (.sl 3 (tmR t.xs))), (21, Iv t.xs.length), (22, Iv q.1)]) (fun q => lvH nm q.2) (fun q => q.1 ≤ t.xs.length ∧ (b || ocT nm t) = (q.2 || ocTs nm (t.xs.drop q.1))) (fun q => t.xs.length - q.1) (0, b || c && t.nm == nm) ⟨by omega, by rw [he, List.drop_zero, Bool.or_assoc]⟩ (sU) rfl fun q ⟨hk, hm⟩ => ?_
    obtain ⟨k, m⟩ := q
    simp only at hk hm ⊢
    refine sE @lvH.eq_1 ?_
    rcases Nat.eq_or_lt_of_le hk with hke | hlt
    · rw [hke, List.drop_length, ocTs, Bool.or_false] at hm
      refine gO ?_
      refine cF ?_
      refine gO ?_
      exact AE.fall rfl trivial ⟨rfl, by rw [hm]⟩
    · obtain ⟨u, hu, hrow⟩ := tmR_get t.xs k hlt
      rw [ocTs_drop nm t.xs k u hu] at hm
      have hw := wr (x := (k : Int) + 1) (by omega)
      refine gO ?_
      refine cT ?_
      refine gE @hrow ?_
      refine ⟨by rw [tmR_len]; omega, ?_⟩
      refine gO ?_
      refine AQ.callH [(2, 2), (1, 1), (0, 0)] (by kernel_rfl) rfl rfl rfl rfl rfl rfl (by exact ⟨rfl, rfl, rfl, trivial⟩) rfl (leaves1_spec nm u m (tmsS_get hs0.2.2 hu)) ?_
      rintro r H' ⟨rfl, rfl⟩
      refine ⟨rfl, ?_⟩
      refine sG @lvH.eq_1 ?_
      refine gE @hw ?_
      refine AE.forgets [3] rfl ?_
      refine sI ?_
      exact AE.round (k + 1, m || ocT nm u) ⟨by simp only; omega, by rw [hm]; simp only [Bool.or_assoc]⟩ (by simp only; omega) (sU) rfl
termination_by SizeOf.sizeOf t
decreasing_by exact tm_mem hu
end Go.Proofs.YteacpafhmgdbkaaGreatDoor
end

section
namespace Go.Proofs.YteacpafhmgdbkaaGreatDoor
open Go Go.AL Go.RowKit
set_option maxRecDepth 10000
set_option maxHeartbeats 4000000
theorem leaves_spec (nm : List UInt8) (F : Fm) (b : Bool) (hs : fmS F) : ACall Tryz.prog 83 [fmV F, .fn 262 [] [.ob 0 0, .im (.pt [Si nm])]] [(0, .var 4 [Bv b])] (fun r H' => r = .tup [] ∧ H' = [(0, .var 4 [Bv (b || ocF nm F)])]) := by
  have hs0 := fmS_eq.1 hs
  have he := ocF_eq nm F
  refine ACall.walk [0, 1, 2, 3, 4, 6, 8, 11, 12, 13, 14, 22, 23, 24, 25] [3, 4, 6, 8] Tryz.func83 rfl Tryz.ntmps83 (by kernel_rfl) (by rfl) rfl fun W own I0 φ0 lay => ?_
  refine gE @tmR_len ?_
  refine AP.loop rfl (α := Nat × Bool) (fun q => [(2, .im (fmP F)), (3, .ob 1 0), (4, .ob 2 0), (11, .im (.sl 3 (tmR F.ts))), (12, Iv F.ts.length), (13, Iv q.1)]) (fun q => lvH nm q.2) (fun q => q.1 ≤ F.ts.length ∧ (b || ocTs nm F.ts) = (q.2 || ocTs nm (F.ts.drop q.1))) (fun q => F.ts.length - q.1) (0, b) ⟨by omega, by rw [List.drop_zero]⟩ (sU) rfl fun q ⟨hk, hm⟩ => ?_
  obtain ⟨k, m⟩ := q
  simp only at hk hm ⊢
  refine sE @lvH.eq_1 ?_
  rcases Nat.eq_or_lt_of_le hk with hke | hlt
  · rw [hke, List.drop_length, ocTs, Bool.or_false] at hm
    have he2 : (b || ocF nm F) = (m || ocFs nm F.ps) := by rw [he, ← Bool.or_assoc, hm]
    refine gO ?_
    refine cF ?_
    refine gE @fmR_len ?_
    refine AP.loop rfl (α := Nat × Bool) (fun q => [(2, .im (fmP F)), (3, .ob 1 0), (22, .im (.sl 4 (fmR F.ps))), (23, Iv F.ps.length), (24, Iv q.1)]) (fun q => lvH nm q.2) (fun q => q.1 ≤ F.ps.length ∧ (b || ocF nm F) = (q.2 || ocFs nm (F.ps.drop q.1))) (fun q => F.ps.length - q.1) (0, m) ⟨by omega, by rw [List.drop_zero, he2]⟩ (sU) rfl fun q ⟨hk, hm⟩ => ?_
    obtain ⟨k, m⟩ := q
    simp only at hk hm ⊢
    refine sE @lvH.eq_1 ?_
    rcases Nat.eq_or_lt_of_le hk with hke | hlt
    · rw [hke, List.drop_length, ocFs, Bool.or_false] at hm
      refine gO ?_
      refine cF ?_
      refine gO ?_
      exact AE.fallD [2, 1] rfl trivial rfl ⟨rfl, by rw [hm]; rfl⟩
    · obtain ⟨u, hu, hrow⟩ := fmR_get F.ps k hlt
      rw [ocFs_drop nm F.ps k u hu] at hm
      have hw := wr (x := (k : Int) + 1) (by omega)
      refine gO ?_
      refine cT ?_
      refine gE @hrow ?_
      refine ⟨by rw [fmR_len]; omega, ?_⟩
      refine gO ?_
      refine AQ.callH [(0, 0)] (by kernel_rfl) rfl rfl rfl rfl rfl rfl (by exact ⟨rfl, trivial⟩) rfl (leaves_spec nm u m (fmsS_get hs0.2.2.2.2 hu)) ?_
      rintro r H' ⟨rfl, rfl⟩
      refine ⟨rfl, ?_⟩
      refine sH ?_
      refine gE @hw ?_
      refine AE.forgets [3] rfl ?_
      refine sI ?_
      exact AE.round (k + 1, m || ocF nm u) ⟨by simp only; omega, by rw [hm]; simp only [Bool.or_assoc]⟩ (by simp only; omega) (sU) rfl
  · obtain ⟨u, hu, hrow⟩ := tmR_get F.ts k hlt
    rw [ocTs_drop nm F.ts k u hu] at hm
    have hw := wr (x := (k : Int) + 1) (by omega)
    refine gO ?_
    refine cT ?_
    refine gE @hrow ?_
    refine ⟨by rw [tmR_len]; omega, ?_⟩
    refine gO ?_
    refine AQ.callH [(2, 2), (1, 1), (0, 0)] (by kernel_rfl) rfl rfl rfl rfl rfl rfl (by exact ⟨rfl, rfl, rfl, trivial⟩) rfl (leaves1_spec nm u m (tmsS_get hs0.2.2.1 hu)) ?_
    rintro r H' ⟨rfl, rfl⟩
    refine ⟨rfl, ?_⟩
    refine sG @lvH.eq_1 ?_
    refine gE @hw ?_
    refine AE.forgets [3] rfl ?_
    refine sI ?_
    exact AE.round (k + 1, m || ocT nm u) ⟨by simp only; omega, by rw [hm]; simp only [Bool.or_assoc]⟩ (by simp only; omega) (sU) rfl
termination_by SizeOf.sizeOf F
decreasing_by exact fm_mem hu
end Go.Proofs.YteacpafhmgdbkaaGreatDoor
end

section
namespace Go.Proofs.YteacpafhmgdbkaaGreatDoor
open Go Go.AL Go.RowKit
set_option maxRecDepth 10000
set_option maxHeartbeats 4000000
theorem occurs_spec (F : Fm) (nm : List UInt8) (hs : fmS F) : PFn Tryz.prog 246 [fmV F, Sv nm] (Bv (ocF nm F)) := by
  refine ACall.walk [0, 1, 2, 3, 4, 5] [5] Tryz.func246 rfl Tryz.ntmps246 (by kernel_rfl) (by rfl) rfl fun W own I0 φ0 lay => ?_
  refine gO ?_
  refine AQ.callH [(0, 0)] (by kernel_rfl) rfl rfl rfl rfl rfl rfl (by exact ⟨rfl, trivial⟩) rfl (leaves_spec nm F false hs) ?_
  rintro r H' ⟨rfl, rfl⟩
  refine ⟨rfl, ?_⟩
  refine sH ?_
  refine gO ?_
  exact AE.retD [0] rfl ⟨rfl, trivial⟩ rfl ⟨rfl, rfl⟩
end Go.Proofs.YteacpafhmgdbkaaGreatDoor
end

section
namespace Go.Proofs.YteacpafhmgdbkaaGreatDoor
open Go Go.AL Go.RowKit
set_option maxRecDepth 10000
set_option maxHeartbeats 4000000
theorem clipF_spec (l : List (List IV)) (hl : l.length ≤ 1000000000) : ACall Tryz.prog 260 [.im (.sl 4 l)] [] (fun r H' => (∃ p, r = clipV p l.length 4 l) ∧ H' = []) := by
  refine ACall.walk [0, 2] [] Tryz.func260 rfl Tryz.ntmps260 (by kernel_rfl) (by rfl) rfl fun W own I0 φ0 lay => ?_
  refine gO ?_
  refine AQ.clip (by kernel_rfl) rfl rfl rfl Tryz.tk22 Tryz.sz27 fun p => ?_
  refine gO ?_
  exact AE.ret rfl ⟨rfl, trivial⟩ ⟨⟨p, rfl⟩, rfl⟩
theorem clipI_spec (l : List (List IV)) (hl : l.length ≤ 1000000000) : ACall Tryz.prog 261 [.im (.sl 1 l)] [] (fun r H' => (∃ p, r = clipV p l.length 1 l) ∧ H' = []) := by
  refine ACall.walk [0, 2] [] Tryz.func261 rfl Tryz.ntmps261 (by kernel_rfl) (by rfl) rfl fun W own I0 φ0 lay => ?_
  refine gO ?_
  refine AQ.clip (by kernel_rfl) rfl rfl rfl Tryz.tk33 Tryz.sz3 fun p => ?_
  refine gO ?_
  exact AE.ret rfl ⟨rfl, trivial⟩ ⟨⟨p, rfl⟩, rfl⟩
end Go.Proofs.YteacpafhmgdbkaaGreatDoor
end

section
namespace Go.Proofs.YteacpafhmgdbkaaGreatDoor
open Go Go.AL Go.RowKit
set_option maxRecDepth 10000
set_option maxHeartbeats 4000000
inductive Rs where
  | ok (f : Fm)
  | bad (p : List Int) (e : Int)
def Rs.bind : Rs → (Fm → Rs) → Rs
  | .ok f, k => k f
  | .bad p e, _ => .bad p e
def chk (b : Bool) (p : List Int) (e : Int) (r : Rs) : Rs := if b then r else .bad p e
abbrev conn (k : Int) (ps : List Fm) : Fm := .mk k [] [] ps
def part (f : Fm) (i : Nat) : Fm := f.ps.getD i (.mk 0 [] [] [])
def side (f : Fm) (i : Nat) : Tm := f.ts.getD i (.mk [] 0 [])
def opn (t : Tm) (f : Fm) : Fm := mapF (leafO t) f 0
def abst (nm : List UInt8) (f : Fm) : Fm := mapF (leafA nm) f 0
def kidN (r : Int) : Int :=
  if r = 1 ∨ r = 2 ∨ r = 17 then 0
  else if r = 3 ∨ r = 6 ∨ r = 7 ∨ r = 8 ∨ r = 9 ∨ r = 11 ∨ r = 12 ∨ r = 13 ∨ r = 14 ∨ r = 15 then 1
  else if r = 4 ∨ r = 5 ∨ r = 16 ∨ r = 18 then 2
  else if r = 10 then 3 else -1
def fieldE (r : Int) (nm : List UInt8) (t : Tm) (f : Fm) : Int :=
  if r = 3 ∨ r = 8 ∨ r = 9 ∨ r = 11 ∨ r = 12 then unF f 0
  else if r = 18 then unF f 1
  else if r = 14 ∨ r = 17 then clT t
  else if r = 15 then (if unF f 0 = 0 then clT t else unF f 0)
  else if r = 13 ∨ r = 16 then (if isNm nm then 0 else 2)
  else 0
abbrev KF := List Fm → List Int → Rs
def kidK (K : List KF) (ax : List Fm) (p : List Int) (i : Nat) (fu : List Fm) : Rs := (K.getD i fun _ _ => .bad [] 1) (ax ++ fu) (p ++ [(i : Int)])
def ruleK (th ax : List Fm) (r ix : Int) (nm : List UInt8) (t : Tm) (f : Fm) (K : List KF) (p : List Int) : Rs :=
  if r = 1 then chk (decide (0 ≤ ix) && decide (ix < ax.length)) p 274 (.ok (ax.getD ((ax.length : Int) - 1 - ix).toNat (.mk 0 [] [] [])))
  else if r = 2 then chk (decide (0 ≤ ix) && decide (ix < th.length)) p 274 (.ok (th.getD ix.toNat (.mk 0 [] [] [])))
  else if r = 3 then (kidK K ax p 0 [f]).bind fun a => .ok (conn 4 [f, a])
  else if r = 4 then (kidK K ax p 0 []).bind fun g => (kidK K ax p 1 []).bind fun a => chk (g.k == 4 && eqF (part g 0) a) p 271 (.ok (part g 1))
  else if r = 5 then (kidK K ax p 0 []).bind fun a => (kidK K ax p 1 []).bind fun b => .ok (conn 5 [a, b])
  else if r = 6 then (kidK K ax p 0 []).bind fun g => chk (g.k == 5) p 271 (.ok (part g 0))
  else if r = 7 then (kidK K ax p 0 []).bind fun g => chk (g.k == 5) p 271 (.ok (part g 1))
  else if r = 8 then (kidK K ax p 0 []).bind fun a => .ok (conn 6 [a, f])
  else if r = 9 then (kidK K ax p 0 []).bind fun a => .ok (conn 6 [f, a])
  else if r = 10 then (kidK K ax p 0 []).bind fun g => chk (g.k == 6) p 271 ((kidK K ax p 1 [part g 0]).bind fun a => (kidK K ax p 2 [part g 1]).bind fun b => chk (eqF a b) p 271 (.ok a))
  else if r = 11 then (kidK K ax p 0 []).bind fun g => chk (g.k == 3) p 271 (.ok f)
  else if r = 12 then (kidK K ax p 0 [conn 4 [f, conn 3 []]]).bind fun g => chk (g.k == 3) p 271 (.ok f)
  else if r = 13 then (kidK K ax p 0 []).bind fun g => chk (!ocFs nm (th ++ ax)) p 272 (.ok (conn 7 [abst nm g]))
  else if r = 14 then (kidK K ax p 0 []).bind fun g => chk (g.k == 7) p 271 (.ok (opn t (part g 0)))
  else if r = 15 then (kidK K ax p 0 []).bind fun g => chk (f.k == 8 && eqF g (opn t (part f 0))) p 271 (.ok f)
  else if r = 16 then (kidK K ax p 0 []).bind fun g => chk (g.k == 8) p 271 (chk (!ocFs nm (th ++ ax ++ [g])) p 272 ((kidK K ax p 1 [opn (.mk nm 0 []) (part g 0)]).bind fun c => chk (!ocF nm c) p 272 (.ok c)))
  else if r = 17 then .ok (.mk 2 [] [t, t] [])
  else (kidK K ax p 0 []).bind fun g => (kidK K ax p 1 []).bind fun a => chk (g.k == 2 && eqF a (opn (side g 0) f)) p 271 (.ok (opn (side g 1) f))
def stepK (th ax : List Fm) (r ix : Int) (nm : List UInt8) (t : Tm) (f : Fm) (K : List KF) (p : List Int) : Rs :=
  chk (kidN r == K.length) p 270 (chk (fieldE r nm t f == 0) p (fieldE r nm t f) ((ruleK th ax r ix nm t f K p).bind fun g => chk (unF g 0 == 0) p 15 (.ok g)))
mutual
def ccF (th : List Fm) : Dv → KF
  | .mk r ix nm t f ks => fun ax p => stepK th ax r ix nm t f (ccFs th ks) p
def ccFs (th : List Fm) : List Dv → List KF
  | [] => []
  | d :: l => ccF th d :: ccFs th l
end
theorem ccF_eq (th ax : List Fm) (d : Dv) (p : List Int) : ccF th d ax p = stepK th ax d.r d.ix d.nm d.t d.f (ccFs th d.ks) p := by cases d; rw [ccF]; rfl
theorem ccFs_map (th : List Fm) : ∀ l, ccFs th l = l.map (ccF th)
  | [] => by rw [ccFs]; rfl
  | d :: l => by rw [ccFs, ccFs_map th l]; rfl
theorem ccFs_len (th : List Fm) (l : List Dv) : (ccFs th l).length = l.length := by rw [ccFs_map, List.length_map]
theorem kidK_get {th ax : List Fm} {l : List Dv} {k : Dv} {i : Nat} (h : l[i]? = some k) (p : List Int) (fu : List Fm) : kidK (ccFs th l) ax p i fu = ccF th k (ax ++ fu) (p ++ [(i : Int)]) := by
  rw [kidK, ccFs_map, List.getD_eq_getElem?_getD, List.getElem?_map, h]; rfl
theorem chk_ok {b : Bool} {p : List Int} {e : Int} {r : Rs} {g : Fm} (h : chk b p e r = .ok g) : b = true ∧ r = .ok g := by
  cases b with
  | false => cases h
  | true => exact ⟨rfl, h⟩
theorem bind_ok {r : Rs} {k : Fm → Rs} {g : Fm} (h : r.bind k = .ok g) : ∃ f, r = .ok f ∧ k f = .ok g := by
  cases r with
  | ok f => exact ⟨f, rfl, h⟩
  | bad p e => cases h
theorem ccF_well {th ax : List Fm} {d : Dv} {p : List Int} {g : Fm} (h : ccF th d ax p = .ok g) : unF g 0 = 0 := by
  rw [ccF_eq, stepK] at h
  obtain ⟨_, h⟩ := chk_ok h
  obtain ⟨_, h⟩ := chk_ok h
  obtain ⟨f, _, h⟩ := bind_ok h
  obtain ⟨h1, h⟩ := chk_ok h
  cases h
  simpa using h1
theorem fitF_of_un {f : Fm} {b : Int} (h : unF f b = 0) : fitF f = true ∧ wF f b = 0 := by
  unfold unF at h
  cases hf : fitF f with
  | false => rw [hf, if_pos rfl] at h; cases h
  | true => rw [hf, if_neg (by simp)] at h; exact ⟨rfl, h⟩
end Go.Proofs.YteacpafhmgdbkaaGreatDoor
end

section
namespace Go.Proofs.YteacpafhmgdbkaaGreatDoor
open Go Go.AL Go.RowKit
set_option maxRecDepth 10000
set_option maxHeartbeats 4000000
abbrev plP (th ax : List Fm) (d : Dv) (p : List Int) : IV := .pt [.sl 4 (fmR th), .sl 4 (fmR ax), dvP d, .sl 1 (rowsI .i64 p)]
def RQ (q : Rs) : AV → Heap → Prop := fun r H' => ∃ f, q = .ok f ∧ r = fmV f ∧ H' = []
def XQ (q : Rs) : AV → Heap → Prop := fun r H' => ∃ p e, q = .bad p e ∧ r = fault p e ∧ H' = []
theorem ACallX.argW {P : Program} {f : FuncId} {xs ys : List AV} {H : Heap} {R X : AV → Heap → Prop} (h : ACallX P f xs H R X) (ha : ∀ w φ I vs, AV.dens w φ I ys vs → AV.dens w φ I xs vs) : ACallX P f ys H R X :=
  ⟨h.ent, fun w φ I vs hd hR hV => h.run w φ I vs (ha w φ I vs hd) hR hV⟩
theorem rowsI_app (p : List Int) (i : Int) : rowsI .i64 p ++ [[Ii i]] = rowsI .i64 (p ++ [i]) := by simp [rowsI]
theorem kid_spec (th ax fu : List Fm) (p : List Int) (d k : Dv) (i : Nat) (q : Rs) (hk : d.ks[i]? = some k) (hi : i ≤ 10) (hax : ax.length ≤ 1000000) (hfu : fu.length ≤ 10) (hp : p.length ≤ 1000000) (h : ACallX Tryz.prog 59 [.im (plP th (ax ++ fu) k (p ++ [(i : Int)]))] [] (RQ q) (XQ q)) :
    ACallX Tryz.prog 242 [.im (plP th ax d p), Iv i, .im (.sl 4 (fmR fu))] [] (RQ q) (XQ q) := by
  obtain ⟨hlt, he⟩ := List.getElem?_eq_some_iff.1 hk
  obtain ⟨k', hk', hrow⟩ := dvR_get d.ks i hlt
  obtain rfl : k' = k := by rw [hk] at hk'; exact (Option.some.inj hk').symm
  unfold plP at h
  rw [fmR_append, ← rowsI_app] at h
  have hc1 := clipF_spec (fmR ax) (by rw [fmR_len]; omega)
  have hc2 := clipI_spec (rowsI .i64 p) (by rw [rowsI_len]; omega)
  refine ACallX.walk [0, 1, 2, 6] [6] Tryz.func242 rfl Tryz.ntmps242 (by kernel_rfl) (by rfl) rfl fun W own I0 φ0 lay => ?_
  refine gO ?_
  refine AP.drawE 32 (Tree.node [] [0, 1, 2, 3, 4, 5, 6, 7, 9, 11, 12, 13, 14, 15, 16, 17, 18, 19, 20, 21, 22, 23, 25] [8, 26] [Tree.node [0, 1, 2, 3, 9, 11, 12, 13, 14, 15, 16, 17, 18, 19, 20, 21, 22, 23, 25] [] [10, 26] [Tree.node [0, 1, 2, 3, 11, 12, 13, 14, 15, 16, 17, 18, 19, 20, 21, 22, 23, 25] [] [24, 26] [Tree.node [0, 1, 2, 3, 11, 12, 13, 14, 15, 16, 17, 18, 19, 25] [] [26] [Tree.node [0, 1, 2, 3, 11, 12, 13, 14, 15, 16, 17, 18, 19] [] [27] [Tree.node [0, 1, 2, 3, 11, 12, 13, 14, 15, 16, 17, 18, 19] [28] [29] [Tree.node [] [] [30] [Tree.node [] [] [31] [Tree.node [] [] [] []]]]]], Tree.node [0, 1, 2, 3, 11, 12, 13, 14, 15, 16, 17, 18, 19, 20, 21, 22, 23] [] [24] [Tree.node [0, 1, 2, 3, 11, 12, 13, 14, 15, 16, 17, 18, 19] [] [27] [Tree.node [0, 1, 2, 3, 11, 12, 13, 14, 15, 16, 17, 18, 19] [28] [29] [Tree.node [] [] [30] [Tree.node [] [] [31] [Tree.node [] [] [] []]]]]]], Tree.node [0, 1, 2, 3, 9, 11, 12, 13, 14, 15, 16, 17, 18, 19, 20, 21, 22, 23] [] [10] [Tree.node [0, 1, 2, 3, 11, 12, 13, 14, 15, 16, 17, 18, 19, 20, 21, 22, 23] [] [24] [Tree.node [0, 1, 2, 3, 11, 12, 13, 14, 15, 16, 17, 18, 19] [] [27] [Tree.node [0, 1, 2, 3, 11, 12, 13, 14, 15, 16, 17, 18, 19] [28] [29] [Tree.node [] [] [30] [Tree.node [] [] [31] [Tree.node [] [] [] []]]]]]]], Tree.node [0, 1, 2, 3, 4, 5, 6, 7, 9, 11, 12, 13, 14, 15, 16, 17, 18, 19, 20, 21, 22, 23] [] [8] [Tree.node [0, 1, 2, 3, 9, 11, 12, 13, 14, 15, 16, 17, 18, 19, 20, 21, 22, 23] [] [10] [Tree.node [0, 1, 2, 3, 11, 12, 13, 14, 15, 16, 17, 18, 19, 20, 21, 22, 23] [] [24] [Tree.node [0, 1, 2, 3, 11, 12, 13, 14, 15, 16, 17, 18, 19] [] [27] [Tree.node [0, 1, 2, 3, 11, 12, 13, 14, 15, 16, 17, 18, 19] [28] [29] [Tree.node [] [] [30] [Tree.node [] [] [31] [Tree.node [] [] [] []]]]]]]]]) (by kernel_rfl) rfl (by kernel_rfl) (by kernel_rfl) ?_
  refine vd_node ?_
  refine sE (an @hrow @dvR_len) ?_
  refine ⟨by omega, ?_⟩
  repeat' (first | with_reducible exact True.intro | with_reducible refine And.intro (by omega) ?_ | with_reducible refine And.intro ?_ ?_ | (refine AQ.nx rfl ?_; refine sE (an @hrow @dvR_len) ?_) | (refine AQ.callv (by kernel_rfl) rfl rfl rfl hc1 ?_; rintro r H' ⟨⟨p1, rfl⟩, rfl⟩; refine sI ?_) | (refine AQ.callv (by kernel_rfl) rfl rfl rfl hc2 ?_; rintro r H' ⟨⟨p1, rfl⟩, rfl⟩; refine sI ?_) | (refine AQ.appendC (by kernel_rfl) rfl rfl rfl Tryz.tk22 Tryz.sz27 (by show Option.map _ (zro Tryz.prog 27) = _; rw [Tryz.zr27]; rfl) Tryz.by27 (by rw [fmR_len, fmR_len]; omega) (by rw [fmR_len, fmR_len]; omega) ?_; refine sI ?_) | (refine AQ.appendC (by kernel_rfl) rfl rfl (by rw [rowsI_len]) Tryz.tk33 Tryz.sz3 (by show Option.map _ (zro Tryz.prog 3) = _; rw [Tryz.zr3]; rfl) Tryz.by3 (by rw [rowsI_len]; simp; omega) (by rw [rowsI_len]; simp; omega) ?_; refine sI ?_) | (refine AQ.callHX [] (by kernel_rfl) rfl rfl rfl rfl rfl rfl (by exact trivial) rfl h (by rintro r H' ⟨p', e', h1, rfl, rfl⟩; refine ⟨rfl, ?_⟩; refine sH ?_; exact AEX.outR [0] rfl rfl rfl ⟨p', e', h1, rfl, rfl⟩) ?_; rintro r H' ⟨g, hq, rfl, rfl⟩; refine ⟨rfl, ?_⟩; refine sH ?_) | refine AQ.done ?_ | (refine AQ.go (by kernel_rfl) ?_; refine sE (an @hrow @dvR_len) ?_; repeat (with_reducible refine And.intro (by omega) ?_); refine AQ.nx rfl ?_; refine sE (an @hrow @dvR_len) ?_))
  all_goals
    refine gO ?_
    exact AE.retD [0] rfl ⟨⟨rfl, Nat.le_of_ble_eq_true (by kernel_rfl)⟩, trivial⟩ rfl ⟨g, hq, rfl, rfl⟩
theorem kid0_spec (th ax : List Fm) (p : List Int) (d k : Dv) (i : Nat) (q : Rs) (hk : d.ks[i]? = some k) (hi : i ≤ 10) (hax : ax.length ≤ 1000000) (hp : p.length ≤ 1000000) (h : ACallX Tryz.prog 59 [.im (plP th (ax ++ []) k (p ++ [(i : Int)]))] [] (RQ q) (XQ q)) :
    ACallX Tryz.prog 242 [.im (plP th ax d p), Iv i, nilV] [] (RQ q) (XQ q) :=
  ACallX.argW (kid_spec th ax [] p d k i q hk hi hax (by simp) hp h) fun w φ I vs hd => by
    simp only [AV.dens] at hd ⊢
    obtain ⟨u1, us1, e1, h1, u2, us2, e2, h2, u3, us3, e3, h3, e4⟩ := hd
    exact ⟨u1, us1, e1, h1, u2, us2, e2, h2, u3, us3, e3, nil_told 4 w φ I u3 h3, e4⟩
end Go.Proofs.YteacpafhmgdbkaaGreatDoor
end

section
namespace Go.Proofs.YteacpafhmgdbkaaGreatDoor
open Go Go.AL Go.RowKit
set_option maxRecDepth 10000
set_option maxHeartbeats 4000000
theorem isNm_len {t : List UInt8} (h : isNm t = true) : t.length ≤ 60 ∧ t ≠ [] := by
  simp only [isNm, onlyOk, Bool.and_eq_true, decide_eq_true_eq, Bool.not_eq_true', beq_eq_false_iff_ne] at h
  exact ⟨h.1.2, h.1.1⟩
theorem wT_nm {t : Tm} {b : Int} (h : wT t b = 0) : t.nm.length ≤ 60 ∧ (t.nm = [] → t.xs = [] ∧ 0 ≤ t.ix ∧ t.ix < b) ∧ (t.nm ≠ [] → t.ix = 0 ∧ isNm t.nm = true ∧ wTs t.xs b = 0) := by
  rw [wT_eq] at h
  split at h
  · rename_i hn
    split at h
    · cases h
    · split at h
      · cases h
      · refine ⟨by rw [hn]; simp, fun _ => ⟨List.eq_nil_of_length_eq_zero (by omega), by omega, by omega⟩, fun h => absurd hn h⟩
  · rename_i hn
    split at h
    · cases h
    · rename_i h2
      have h3 : isNm t.nm = true := by
        cases hh : isNm t.nm with
        | true => rfl
        | false => exact absurd (.inl hh) h2
      exact ⟨(isNm_len h3).1, fun h => absurd h hn, fun _ => ⟨Classical.byContradiction fun hc => h2 (.inr hc), h3, h⟩⟩
theorem wTs_cons {t : Tm} {l : List Tm} {b : Int} (h : wTs (t :: l) b = 0) : wT t b = 0 ∧ wTs l b = 0 := by
  rw [wTs] at h
  split at h
  · rename_i h1; exact ⟨h1, h⟩
  · rename_i h1; exact absurd h h1
theorem wFs_cons {t : Fm} {l : List Fm} {b : Int} (h : wFs (t :: l) b = 0) : wF t b = 0 ∧ wFs l b = 0 := by
  rw [wFs] at h
  split at h
  · rename_i h1; exact ⟨h1, h⟩
  · rename_i h1; exact absurd h h1
theorem wF_parts {f : Fm} {b : Int} (h : wF f b = 0) : shp f = true ∧ wTs f.ts b = 0 ∧ wFs f.ps (b + bnd f) = 0 := by
  rw [wF_eq] at h
  split at h
  · cases h
  · rename_i h1
    split at h
    · rename_i h2
      exact ⟨by simpa using h1, h2, h⟩
    · rename_i h2; exact absurd h h2
theorem shp_nm {f : Fm} (h : shp f = true) : f.nm.length ≤ 60 := by
  unfold shp at h
  split at h
  · cases h
  · rename_i h1
    split at h
    · simp only [Bool.and_eq_true] at h
      exact (isNm_len h.1).1
    · rename_i h2
      have : f.nm = [] := Classical.byContradiction fun hc => h1 ⟨h2, hc⟩
      rw [this]; simp
mutual
theorem wT_S : ∀ (t : Tm) (b : Int), wT t b = 0 → szT t ≤ 1000000000 → tmS t
  | .mk nm ix xs, b, h, hs => by
    rw [szT] at hs
    have hl := szTs_len xs
    have h1 := wT_nm h
    rw [tmS]
    simp only [Tm.nm, Tm.xs, Tm.ix] at h1
    refine ⟨by omega, by omega, ?_⟩
    by_cases hn : nm = []
    · rw [(h1.2.1 hn).1, tmsS]; trivial
    · exact wTs_S xs b (h1.2.2 hn).2.2 (by omega)
theorem wTs_S : ∀ (l : List Tm) (b : Int), wTs l b = 0 → szTs l ≤ 1000000000 → tmsS l
  | [], b, h, hs => by rw [tmsS]; trivial
  | t :: l, b, h, hs => by
    rw [szTs] at hs
    obtain ⟨h1, h2⟩ := wTs_cons h
    rw [tmsS]
    exact ⟨wT_S t b h1 (by omega), wTs_S l b h2 (by omega)⟩
end
mutual
theorem wF_S : ∀ (t : Fm) (b : Int), wF t b = 0 → szF t ≤ 1000000000 → fmS t
  | .mk k nm ts ps, b, h, hs => by
    rw [szF] at hs
    have hl := szTs_len ts
    have hl2 := szFs_len ps
    have h1 := wF_parts h
    have h2 := shp_nm h1.1
    rw [fmS]
    simp only [Fm.nm, Fm.ts, Fm.ps] at h1 h2
    exact ⟨by omega, by omega, wTs_S ts b h1.2.1 (by omega), by omega, wFs_S ps _ h1.2.2 (by omega)⟩
theorem wFs_S : ∀ (l : List Fm) (b : Int), wFs l b = 0 → szFs l ≤ 1000000000 → fmsS l
  | [], b, h, hs => by rw [fmsS]; trivial
  | t :: l, b, h, hs => by
    rw [szFs] at hs
    obtain ⟨h1, h2⟩ := wFs_cons h
    rw [fmsS]
    exact ⟨wF_S t b h1 (by omega), wFs_S l b h2 (by omega)⟩
end
mutual
theorem tmL_sz : ∀ t : Tm, szT t ≤ 1000000000 → tmL t
  | .mk _ _ xs, hs => by
    rw [szT] at hs
    have hl := szTs_len xs
    rw [tmL]
    exact ⟨by omega, tmsL_sz xs (by omega)⟩
theorem tmsL_sz : ∀ l : List Tm, szTs l ≤ 1000000000 → tmsL l
  | [], hs => by rw [tmsL]; trivial
  | t :: l, hs => by
    rw [szTs] at hs
    rw [tmsL]
    exact ⟨tmL_sz t (by omega), tmsL_sz l (by omega)⟩
end
theorem un_fit {f : Fm} {b : Int} (h : unF f b = 0) : szF f ≤ 4000 ∧ dpF f ≤ 100 ∧ wF f b = 0 := by
  obtain ⟨h1, h2⟩ := fitF_of_un h
  rw [fitF_sz, decide_eq_true_eq] at h1
  exact ⟨h1.1, h1.2, h2⟩
theorem un_S {f : Fm} {b : Int} (h : unF f b = 0) : fmS f := by
  obtain ⟨h1, _, h3⟩ := un_fit h
  exact wF_S f b h3 (by omega)
theorem un_ms {f : Fm} {b : Int} (h : unF f b = 0) : ∃ m, msF f 1 0 = some m := by
  obtain ⟨h1, _⟩ := fitF_of_un h
  unfold fitF at h1
  exact Option.isSome_iff_exists.1 h1
theorem un_of {f : Fm} {b : Int} (h1 : szF f ≤ 4000) (h2 : dpF f ≤ 100) (h3 : wF f b = 0) : unF f b = 0 := by
  rw [unF, fitF_sz, decide_eq_true ⟨h1, h2⟩, if_neg (by simp), h3]
theorem cl_fit {t : Tm} (h : clT t = 0) : szT t ≤ 4000 ∧ dpT t ≤ 100 ∧ wT t 0 = 0 := by
  unfold clT at h
  cases hf : fitT t with
  | false => rw [hf, if_pos rfl] at h; cases h
  | true =>
    rw [hf, if_neg (by simp)] at h
    rw [fitT_sz, decide_eq_true_eq] at hf
    exact ⟨hf.1, hf.2, h⟩
theorem cl_of {t : Tm} (h1 : szT t ≤ 4000) (h2 : dpT t ≤ 100) (h3 : wT t 0 = 0) : clT t = 0 := by
  rw [clT, fitT_sz, decide_eq_true ⟨h1, h2⟩, if_neg (by simp), h3]
theorem cl_L {t : Tm} (h : clT t = 0) : tmL t := tmL_sz t (by have := (cl_fit h).1; omega)
theorem len_two {α : Type} {l : List α} (h : (l.length : Int) = 2) : ∃ a b, l = [a, b] := by
  match l, h with
  | [a, b], _ => exact ⟨a, b, rfl⟩
  | [], h => simp at h
  | [_], h => simp at h
  | _ :: _ :: _ :: _, h => simp at h; omega
theorem len_one {α : Type} {l : List α} (h : (l.length : Int) = 1) : ∃ a, l = [a] := by
  match l, h with
  | [a], _ => exact ⟨a, rfl⟩
  | [], h => simp at h
  | _ :: _ :: _, h => simp at h; omega
theorem un_two {g : Fm} {b : Int} (h : unF g b = 0) (hk : g.k = 4 ∨ g.k = 5 ∨ g.k = 6) : ∃ x y, g.ps = [x, y] ∧ unF x b = 0 ∧ unF y b = 0 := by
  obtain ⟨h1, h2, h3⟩ := un_fit h
  obtain ⟨h4, _, h6⟩ := wF_parts h3
  unfold shp at h4
  split at h4
  · cases h4
  rw [if_neg (by omega), if_neg (by omega), if_neg (by omega)] at h4
  simp only [Bool.and_eq_true, beq_iff_eq] at h4
  obtain ⟨x, y, e⟩ := len_two h4.2
  have hb : bnd g = 0 := by rw [bnd, if_neg (by omega)]
  rw [e, hb, Int.add_zero] at h6
  obtain ⟨h7, h8⟩ := wFs_cons h6
  obtain ⟨h8, _⟩ := wFs_cons h8
  rw [szF_eq, e, szFs, szFs, szFs] at h1
  rw [dpF_eq, e, dpFs, dpFs, dpFs] at h2
  exact ⟨x, y, e, un_of (by omega) (by omega) h7, un_of (by omega) (by omega) h8⟩
theorem un_quant {g : Fm} {b : Int} (h : unF g b = 0) (hk : g.k = 7 ∨ g.k = 8) : ∃ x, g.ps = [x] ∧ unF x (b + 1) = 0 := by
  obtain ⟨h1, h2, h3⟩ := un_fit h
  obtain ⟨h4, _, h6⟩ := wF_parts h3
  unfold shp at h4
  split at h4
  · cases h4
  rw [if_neg (by omega), if_neg (by omega), if_neg (by omega), if_neg (by omega)] at h4
  simp only [Bool.and_eq_true, beq_iff_eq] at h4
  obtain ⟨x, e⟩ := len_one h4.2
  have hb : bnd g = 1 := by rw [bnd, if_pos hk]
  rw [e, hb] at h6
  obtain ⟨h7, _⟩ := wFs_cons h6
  rw [szF_eq, e, szFs, szFs] at h1
  rw [dpF_eq, e, dpFs, dpFs] at h2
  exact ⟨x, e, un_of (by omega) (by omega) h7⟩
theorem un_eq {g : Fm} (h : unF g 0 = 0) (hk : g.k = 2) : ∃ x y, g.ts = [x, y] ∧ clT x = 0 ∧ clT y = 0 := by
  obtain ⟨h1, h2, h3⟩ := un_fit h
  obtain ⟨h4, h6, _⟩ := wF_parts h3
  unfold shp at h4
  split at h4
  · cases h4
  rw [if_neg (by omega)] at h4
  simp only [Bool.and_eq_true, beq_iff_eq] at h4
  obtain ⟨x, y, e⟩ := len_two h4.1
  rw [e] at h6
  obtain ⟨h7, h8⟩ := wTs_cons h6
  obtain ⟨h8, _⟩ := wTs_cons h8
  rw [szF_eq, e, szTs, szTs, szTs] at h1
  rw [dpF_eq, e, dpTs, dpTs, dpTs] at h2
  exact ⟨x, y, e, cl_of (by omega) (by omega) h7, cl_of (by omega) (by omega) h8⟩
theorem mapT_S {g : Tm → Tm} (hg : ∀ u, tmS u → tmS (g u)) : ∀ t : Tm, tmS t → tmS (mapT g t) := by
  intro t
  refine Tm.rec (motive_1 := fun t => tmS t → tmS (mapT g t)) (motive_2 := fun l => tmsS l → tmsS (l.map (mapT g))) (fun n i xs ih hs => ?_) (fun _ => by rw [List.map_nil, tmsS]; trivial) (fun t l h1 h2 hs => ?_) t
  · by_cases hx : xs.length = 0
    · rw [mapT_leaf g (.mk n i xs) hx]; exact hg _ hs
    · rw [mapT_node g (.mk n i xs) hx]
      rw [tmS] at hs ⊢
      exact ⟨hs.1, by simpa [Tm.xs] using hs.2.1, ih hs.2.2⟩
  · rw [tmsS] at hs
    rw [List.map_cons, tmsS]
    exact ⟨h1 hs.1, h2 hs.2⟩
theorem mapTs_S {g : Tm → Tm} (hg : ∀ u, tmS u → tmS (g u)) : ∀ l : List Tm, tmsS l → tmsS (l.map (mapT g))
  | [], _ => by rw [List.map_nil, tmsS]; trivial
  | t :: l, hs => by
    rw [tmsS] at hs
    rw [List.map_cons, tmsS]
    exact ⟨mapT_S hg t hs.1, mapTs_S hg l hs.2⟩
mutual
theorem mapF_S {g : Tm → Int → Tm} (hg : ∀ u d, tmS u → tmS (g u d)) : ∀ (f : Fm) (d : Int), fmS f → fmS (mapF g f d)
  | .mk k n ts ps, d, hs => by
    rw [fmS] at hs
    rw [mapF, fmS, mapFs_map]
    refine ⟨hs.1, by simpa using hs.2.1, mapTs_S (fun u hu => hg u d hu) ts hs.2.2.1, by simpa using hs.2.2.2.1, ?_⟩
    rw [← mapFs_map]
    exact mapFs_S hg ps _ hs.2.2.2.2
theorem mapFs_S {g : Tm → Int → Tm} (hg : ∀ u d, tmS u → tmS (g u d)) : ∀ (l : List Fm) (d : Int), fmsS l → fmsS (mapFs g l d)
  | [], d, _ => by rw [mapFs, fmsS]; trivial
  | f :: l, d, hs => by
    rw [fmsS] at hs
    rw [mapFs, fmsS]
    exact ⟨mapF_S hg f d hs.1, mapFs_S hg l d hs.2⟩
end
theorem leafC_S (u : Tm) (h : tmS u) : tmS (leafC u) := by
  rw [leafC, tmS, tmsS]
  exact ⟨(tmS_eq.1 h).1, by simp, trivial⟩
theorem opn_S {t : Tm} {f : Fm} (ht : tmS t) (hf : fmS f) : fmS (opn t f) := mapF_S (fun u d hu => by
  unfold leafO
  split
  · exact mapT_S leafC_S t ht
  · exact leafC_S u hu) f 0 hf
theorem abst_S {nm : List UInt8} {f : Fm} (hf : fmS f) : fmS (abst nm f) := mapF_S (fun u d hu => by
  unfold leafA
  split
  · rw [tmS, tmsS]; exact ⟨by simp, by simp, trivial⟩
  · exact leafC_S u hu) f 0 hf
theorem kidK_well {th ax fu : List Fm} {ks : List Dv} {i : Nat} {p : List Int} {g : Fm} (hi : i < ks.length) (h : kidK (ccFs th ks) ax p i fu = .ok g) : unF g 0 = 0 := by
  rw [kidK_get (List.getElem?_eq_getElem hi)] at h
  exact ccF_well h
theorem conn_S {k : Int} {ps : List Fm} (h : fmsS ps) (hl : ps.length ≤ 9223372036854775807) : fmS (conn k ps) := by
  rw [fmS, tmsS]; exact ⟨by simp, by simp, trivial, hl, h⟩
theorem fmsS_append {a b : List Fm} (ha : fmsS a) (hb : fmsS b) : fmsS (a ++ b) := by
  induction a with
  | nil => exact hb
  | cons x l ih => rw [fmsS] at ha; rw [List.cons_append, fmsS]; exact ⟨ha.1, ih ha.2⟩
theorem fmsS_one {f : Fm} (h : fmS f) : fmsS [f] := by rw [fmsS, fmsS]; exact ⟨h, trivial⟩
theorem fmsS_two {f g : Fm} (h : fmS f) (h' : fmS g) : fmsS [f, g] := by rw [fmsS]; exact ⟨h, fmsS_one h'⟩
theorem fmsS_nil : fmsS [] := by rw [fmsS]; trivial
end Go.Proofs.YteacpafhmgdbkaaGreatDoor
end

section
namespace Go.Proofs.YteacpafhmgdbkaaGreatDoor
open Go Go.AL Go.RowKit
set_option maxRecDepth 10000
set_option maxHeartbeats 4000000
structure KH (th ax : List Fm) (d : Dv) (p : List Int) : Prop where
  S : dvS d
  tS : fmsS th
  aS : fmsS ax
  tl : th.length ≤ 1000000
  al : ax.length ≤ 1000000
  k0 : ∀ (i : Nat) (j : Int), j = i → i < d.ks.length → i ≤ 10 → ACallX Tryz.prog 242 [.im (plP th ax d p), Iv j, nilV] [] (RQ (kidK (ccFs th d.ks) ax p i [])) (XQ (kidK (ccFs th d.ks) ax p i []))
  k1 : ∀ (i : Nat) (j : Int) (fu : List Fm), j = i → i < d.ks.length → i ≤ 10 → fu.length ≤ 1 → fmsS fu → ACallX Tryz.prog 242 [.im (plP th ax d p), Iv j, .im (.sl 4 (fmR fu))] [] (RQ (kidK (ccFs th d.ks) ax p i fu)) (XQ (kidK (ccFs th d.ks) ax p i fu))
theorem chk_t {b : Bool} {p : List Int} {e : Int} {r : Rs} (h : b = true) : chk b p e r = r := by rw [h]; rfl
theorem chk_f {b : Bool} {p : List Int} {e : Int} {r : Rs} (h : ¬ b = true) : chk b p e r = .bad p e := by
  have : b = false := by simpa using h
  rw [this]; rfl
theorem fmR_at (l : List Fm) (k : Nat) (h : k < l.length) : (fmR l).getD k [] = fmC (l.getD k (.mk 0 [] [] [])) := by
  rw [List.getD_eq_getElem?_getD, fmR_map, List.getElem?_map, List.getElem?_eq_getElem h, List.getD_eq_getElem?_getD, List.getElem?_eq_getElem h]; rfl
theorem assume_spec (th ax : List Fm) (d : Dv) (p : List Int) (K : KH th ax d p) :
    ACallX Tryz.prog 193 [.im (plP th ax d p)] [] (RQ (chk (decide (0 ≤ d.ix) && decide (d.ix < ax.length)) p 274 (.ok (ax.getD ((ax.length : Int) - 1 - d.ix).toNat (.mk 0 [] [] []))))) (XQ (chk (decide (0 ≤ d.ix) && decide (d.ix < ax.length)) p 274 (.ok (ax.getD ((ax.length : Int) - 1 - d.ix).toNat (.mk 0 [] [] []))))) := by
  have hl := K.al
  have hx := (dvS_eq.1 K.S).1.2
  have w1 := wr (x := (ax.length : Int) - 1) (by omega)
  have hb : (decide (0 ≤ d.ix) && decide (0 ≤ IntKind.i64.wrap ((ax.length : Int) - 1 - d.ix))) = (decide (0 ≤ d.ix) && decide (d.ix < ax.length)) := by
    by_cases h0 : 0 ≤ d.ix
    · rw [wr (x := (ax.length : Int) - 1 - d.ix) (by omega)]
      congr 1
      apply decide_eq_decide.2; omega
    · simp [h0]
  refine ACallX.walk [0, 2, 3] [2] Tryz.func193 rfl Tryz.ntmps193 (by kernel_rfl) (by rfl) rfl fun W own I0 φ0 lay => ?_
  refine gE (an @fmR_len (an @w1 @hb)) ?_
  refine AQ.callHX [] (by kernel_rfl) rfl rfl rfl rfl rfl rfl (by exact trivial) rfl (must_spec _ _ _ p _ _) ?_ ?_
  · rintro r H' ⟨hc, rfl, rfl⟩
    refine ⟨rfl, ?_⟩; refine sH ?_
    exact AEX.out [0] rfl rfl ⟨p, 274, by rw [chk_f (fun h => hc (.inl h))], rfl, rfl⟩
  · rintro r H' ⟨hc, rfl, rfl⟩
    refine ⟨rfl, ?_⟩; refine sH ?_
    have hc : (decide (0 ≤ d.ix) && decide (d.ix < ax.length)) = true := hc.resolve_right (by decide)
    have hc2 := hc
    simp only [Bool.and_eq_true, decide_eq_true_eq] at hc2
    have w2 := wr (x := (ax.length : Int) - 1 - d.ix) (by omega)
    have hrow := fmR_at ax ((ax.length : Int) - 1 - d.ix).toNat (by omega)
    rw [fmC_eq] at hrow
    refine gE (an @w2 (an @hrow @fmR_len)) ?_
    refine AE.retD [0] rfl ⟨⟨rfl, Nat.le_of_ble_eq_true (by kernel_rfl)⟩, trivial⟩ rfl ⟨_, chk_t hc, rfl, rfl⟩
theorem axiom_spec (th ax : List Fm) (d : Dv) (p : List Int) (K : KH th ax d p) :
    ACallX Tryz.prog 194 [.im (plP th ax d p)] [] (RQ (chk (decide (0 ≤ d.ix) && decide (d.ix < th.length)) p 274 (.ok (th.getD d.ix.toNat (.mk 0 [] [] []))))) (XQ (chk (decide (0 ≤ d.ix) && decide (d.ix < th.length)) p 274 (.ok (th.getD d.ix.toNat (.mk 0 [] [] []))))) := by
  have hl := K.tl
  refine ACallX.walk [0, 2] [2] Tryz.func194 rfl Tryz.ntmps194 (by kernel_rfl) (by rfl) rfl fun W own I0 φ0 lay => ?_
  refine gO ?_
  refine AP.drawE 25 (Tree.node [] [0, 1, 2, 3, 4, 5, 6, 7, 8, 9, 10, 11, 12, 13, 14, 15, 16, 17, 18, 19, 20, 21, 22, 23] [24] [Tree.node [] [] [] []]) (by kernel_rfl) rfl (by kernel_rfl) (by kernel_rfl) ?_
  refine vd_node ?_
  refine sE @fmR_len ?_
  repeat' (first | with_reducible exact True.intro | with_reducible refine And.intro (by omega) ?_ | with_reducible refine And.intro ?_ ?_ | (refine AQ.nx rfl ?_; refine sE @fmR_len ?_) | (refine AQ.callHX [] (by kernel_rfl) rfl rfl rfl rfl rfl rfl (by exact trivial) rfl (must_spec _ _ _ p _ _) ?_ ?_; (rintro r H' ⟨hc, rfl, rfl⟩; refine ⟨rfl, ?_⟩; refine sH ?_; exact AEX.outR [0] rfl rfl rfl ⟨p, 274, by rw [chk_f (fun h => hc (.inl h))], rfl, rfl⟩); rintro r H' ⟨hc, rfl, rfl⟩; refine ⟨rfl, ?_⟩; refine sH ?_) | refine AQ.done ?_ | (refine AQ.go (by kernel_rfl) ?_; refine sE @fmR_len ?_; repeat (with_reducible refine And.intro (by omega) ?_); refine AQ.nx rfl ?_; refine sE @fmR_len ?_))
  · exact fun h => ⟨h, h⟩
  have hc : (decide (0 ≤ d.ix) && decide (d.ix < th.length)) = true := hc.resolve_right (by decide)
  have hc2 := hc
  simp only [Bool.and_eq_true, decide_eq_true_eq] at hc2
  have hrow := fmR_at th d.ix.toNat (by omega)
  rw [fmC_eq] at hrow
  refine gO ?_
  refine AP.drawE 14 (Tree.node [] [0, 1, 2, 3, 4, 5, 6, 7, 8, 9, 10, 11, 12] [13] [Tree.node [] [] [] []]) (by kernel_rfl) rfl (by kernel_rfl) (by kernel_rfl) ?_
  refine vd_node ?_
  refine sE (an @fmR_len @hrow) ?_
  refine ⟨hc2, ?_⟩
  repeat' (first | with_reducible exact True.intro | with_reducible refine And.intro (by omega) ?_ | with_reducible refine And.intro ?_ ?_ | (refine AQ.nx rfl ?_; refine sE (an @fmR_len @hrow) ?_) | (fail) | refine AQ.done ?_ | (refine AQ.go (by kernel_rfl) ?_; refine sE (an @fmR_len @hrow) ?_; repeat (with_reducible refine And.intro (by omega) ?_); refine AQ.nx rfl ?_; refine sE (an @fmR_len @hrow) ?_))
  all_goals first | exact hc2 | skip
  refine gO ?_
  exact AE.retD [0] rfl ⟨⟨rfl, Nat.le_of_ble_eq_true (by kernel_rfl)⟩, trivial⟩ rfl ⟨_, chk_t hc, rfl, rfl⟩
end Go.Proofs.YteacpafhmgdbkaaGreatDoor
end

section
namespace Go.Proofs.YteacpafhmgdbkaaGreatDoor
open Go Go.AL Go.RowKit
set_option maxRecDepth 10000
set_option maxHeartbeats 4000000
abbrev fmRow (f : Fm) : List IV := [Ii f.k, Si f.nm, .sl 3 (tmR f.ts), .sl 4 (fmR f.ps)]
theorem fmR_one (f : Fm) : fmR [f] = [fmRow f] := by rw [fmR, fmR, fmC_eq]
theorem fmR_two (f g : Fm) : fmR [f, g] = [fmRow f, fmRow g] := by rw [fmR, fmR_one, fmC_eq]
theorem connect_spec (k : Int) (ps : List Fm) : PFn Tryz.prog 74 [Iv k, .im (.sl 4 (fmR ps))] (fmV (conn k ps)) := by
  refine ACall.walk [0, 1, 4] [4] Tryz.func74 rfl Tryz.ntmps74 (by kernel_rfl) (by rfl) rfl fun W own I0 φ0 lay => ?_
  refine gO ?_
  refine AE.cellsW 0 [Iv k, Sv [], .im (.sl 3 []), .im (.sl 4 (fmR ps))] rfl (cellsLe.cons (cellsLe.cons (cellsLe.nil (cellsLe.refl _)))) ?_
  refine sI ?_
  exact AE.retD [0] rfl ⟨⟨rfl, Nat.le_of_ble_eq_true (by kernel_rfl)⟩, trivial⟩ rfl ⟨rfl, rfl⟩
theorem falsum_spec : PFn Tryz.prog 244 [] (fmV (conn 3 [])) := by
  refine ACall.walk [0] [0] Tryz.func244 rfl Tryz.ntmps244 (by kernel_rfl) (by rfl) rfl fun W own I0 φ0 lay => ?_
  refine gO ?_
  refine AE.cellsW 0 [Iv 3, Sv [], .im (.sl 3 []), .im (.sl 4 [])] rfl (cellsLe.cons (cellsLe.cons (cellsLe.nil (cellsLe.nil (cellsLe.refl _))))) ?_
  refine sI ?_
  exact AE.retD [0] rfl ⟨⟨rfl, Nat.le_of_ble_eq_true (by kernel_rfl)⟩, trivial⟩ rfl ⟨rfl, rfl⟩
theorem parameter_spec (nm : List UInt8) : PFn Tryz.prog 219 [Sv nm] (tmV (.mk nm 0 [])) := by
  refine ACall.walk [0, 2] [2] Tryz.func219 rfl Tryz.ntmps219 (by kernel_rfl) (by rfl) rfl fun W own I0 φ0 lay => ?_
  refine gO ?_
  refine AE.cellsW 0 [Sv nm, Iv 0, .im (.sl 3 [])] rfl (cellsLe.cons (cellsLe.cons (cellsLe.nil (cellsLe.refl _)))) ?_
  refine sI ?_
  exact AE.retD [0] rfl ⟨⟨rfl, Nat.le_of_ble_eq_true (by kernel_rfl)⟩, trivial⟩ rfl ⟨rfl, rfl⟩
theorem andIn_spec (th ax : List Fm) (d : Dv) (p : List Int) (K : KH th ax d p) (hn : d.ks.length = 2) :
    ACallX Tryz.prog 197 [.im (plP th ax d p)] [] (RQ ((kidK (ccFs th d.ks) ax p 0 []).bind fun a => (kidK (ccFs th d.ks) ax p 1 []).bind fun b => .ok (conn 5 [a, b]))) (XQ ((kidK (ccFs th d.ks) ax p 0 []).bind fun a => (kidK (ccFs th d.ks) ax p 1 []).bind fun b => .ok (conn 5 [a, b]))) := by
  refine ACallX.walk [0, 2] [2] Tryz.func197 rfl Tryz.ntmps197 (by kernel_rfl) (by rfl) rfl fun W own I0 φ0 lay => ?_
  refine gO ?_
  refine AQ.callHX [] (by kernel_rfl) rfl rfl rfl rfl rfl rfl (by exact trivial) rfl (K.k0 0 0 rfl (by omega) (by omega)) ?_ ?_
  · rintro r H' ⟨p', e', h1, rfl, rfl⟩
    refine ⟨rfl, ?_⟩; refine sH ?_
    exact AEX.out [0] rfl rfl ⟨p', e', by rw [h1]; rfl, rfl, rfl⟩
  · rintro r H' ⟨g, hq, rfl, rfl⟩
    refine ⟨rfl, ?_⟩; refine sH ?_
    refine AQ.go (by kernel_rfl) ?_
    refine gO ?_
    refine AQ.callHX [] (by kernel_rfl) rfl rfl rfl rfl rfl rfl (by exact trivial) rfl (K.k0 1 1 rfl (by omega) (by omega)) ?_ ?_
    · rintro r H' ⟨p', e', h1, rfl, rfl⟩
      refine ⟨rfl, ?_⟩; refine sH ?_
      exact AEX.out [0] rfl rfl ⟨p', e', by rw [hq, Rs.bind, h1]; rfl, rfl, rfl⟩
    · rintro r H' ⟨a, hq2, rfl, rfl⟩
      refine ⟨rfl, ?_⟩; refine sH ?_
      have hc := connect_spec 5 [g, a]
      rw [fmR_two] at hc
      refine AQ.go (by kernel_rfl) ?_
      refine gO ?_
      refine AQ.fn (by kernel_rfl) rfl rfl rfl (hc) rfl ?_
      refine gO ?_
      exact AE.retD [0] rfl ⟨⟨rfl, Nat.le_of_ble_eq_true (by kernel_rfl)⟩, trivial⟩ rfl ⟨conn 5 [g, a], by rw [hq, Rs.bind, hq2]; rfl, rfl, rfl⟩
end Go.Proofs.YteacpafhmgdbkaaGreatDoor
end

section
namespace Go.Proofs.YteacpafhmgdbkaaGreatDoor
open Go Go.AL Go.RowKit
set_option maxRecDepth 10000
set_option maxHeartbeats 4000000
theorem conn2_spec (k : Int) (f g : Fm) : PFn Tryz.prog 74 [Iv k, .im (.sl 4 [fmRow f, fmRow g])] (fmV (conn k [f, g])) := by
  have := connect_spec k [f, g]
  rw [fmR_two] at this
  exact this
theorem conn1_spec (k : Int) (f : Fm) : PFn Tryz.prog 74 [Iv k, .im (.sl 4 [fmRow f])] (fmV (conn k [f])) := by
  have := connect_spec k [f]
  rw [fmR_one] at this
  exact this
theorem KH.one {th ax : List Fm} {d : Dv} {p : List Int} (K : KH th ax d p) (i : Nat) (j : Int) (f : Fm) (hj : j = i) (hi : i < d.ks.length) (hl : i ≤ 10) (hs : fmS f) : ACallX Tryz.prog 242 [.im (plP th ax d p), Iv j, .im (.sl 4 [fmRow f])] [] (RQ (kidK (ccFs th d.ks) ax p i [f])) (XQ (kidK (ccFs th d.ks) ax p i [f])) := by
  have := K.k1 i j [f] hj hi hl (by simp) (fmsS_one hs)
  rw [fmR_one] at this
  exact this
theorem impliesIn_spec (th ax : List Fm) (d : Dv) (p : List Int) (K : KH th ax d p) (hn : d.ks.length = 1) (hf : fmS d.f) :
    ACallX Tryz.prog 195 [.im (plP th ax d p)] [] (RQ ((kidK (ccFs th d.ks) ax p 0 [d.f]).bind fun a => .ok (conn 4 [d.f, a]))) (XQ ((kidK (ccFs th d.ks) ax p 0 [d.f]).bind fun a => .ok (conn 4 [d.f, a]))) := by
  refine ACallX.walk [0, 2] [2] Tryz.func195 rfl Tryz.ntmps195 (by kernel_rfl) (by rfl) rfl fun W own I0 φ0 lay => ?_
  refine gO ?_
  refine AP.drawE 20 (Tree.node [] [0, 1, 2, 3, 4, 5, 6, 7, 8, 9, 10, 11, 12, 13, 14] [15] [Tree.node [0, 1, 2, 3, 4, 5, 6, 7] [] [16] [Tree.node [0, 1, 2, 3, 4, 5, 6] [] [17] [Tree.node [] [] [18] [Tree.node [] [] [19] [Tree.node [] [] [] []]]]]]) (by kernel_rfl) rfl (by kernel_rfl) (by kernel_rfl) ?_
  refine vd_node ?_
  refine sI ?_
  repeat' (first | with_reducible exact True.intro | with_reducible refine And.intro (by omega) ?_ | with_reducible refine And.intro ?_ ?_ | (refine AQ.nx rfl ?_; refine sI ?_) | (refine AQ.callHX [] (by kernel_rfl) rfl rfl rfl rfl rfl rfl (by exact trivial) rfl (K.one 0 0 d.f rfl (by omega) (by omega) hf) ?_ ?_; (rintro r H' ⟨p', e', h1, rfl, rfl⟩; refine ⟨rfl, ?_⟩; refine sH ?_; exact AEX.outR [0] rfl rfl rfl ⟨p', e', by rw [h1]; rfl, rfl, rfl⟩); rintro r H' ⟨g, hq, rfl, rfl⟩; refine ⟨rfl, ?_⟩; refine sH ?_) | (refine AQ.fn (by kernel_rfl) rfl rfl rfl (conn2_spec 4 d.f g) rfl ?_; refine sI ?_) | refine AQ.done ?_ | (refine AQ.go (by kernel_rfl) ?_; refine sI ?_; repeat (with_reducible refine And.intro (by omega) ?_); refine AQ.nx rfl ?_; refine sI ?_))
  refine gO ?_
  exact AE.retD [0] rfl ⟨⟨rfl, Nat.le_of_ble_eq_true (by kernel_rfl)⟩, trivial⟩ rfl ⟨conn 4 [d.f, g], by rw [hq]; rfl, rfl, rfl⟩
theorem orFirst_spec (th ax : List Fm) (d : Dv) (p : List Int) (K : KH th ax d p) (hn : d.ks.length = 1) :
    ACallX Tryz.prog 200 [.im (plP th ax d p)] [] (RQ ((kidK (ccFs th d.ks) ax p 0 []).bind fun a => .ok (conn 6 [a, d.f]))) (XQ ((kidK (ccFs th d.ks) ax p 0 []).bind fun a => .ok (conn 6 [a, d.f]))) := by
  refine ACallX.walk [0, 2] [2] Tryz.func200 rfl Tryz.ntmps200 (by kernel_rfl) (by rfl) rfl fun W own I0 φ0 lay => ?_
  refine gO ?_
  refine AP.drawE 12 (Tree.node [] [0, 2, 3, 4, 5, 6, 7, 8] [1] [Tree.node [2, 3, 4, 5, 6, 7, 8] [] [9] [Tree.node [] [] [10] [Tree.node [] [] [11] [Tree.node [] [] [] []]]]]) (by kernel_rfl) rfl (by kernel_rfl) (by kernel_rfl) ?_
  refine vd_node ?_
  refine sI ?_
  repeat' (first | with_reducible exact True.intro | with_reducible refine And.intro (by omega) ?_ | with_reducible refine And.intro ?_ ?_ | (refine AQ.nx rfl ?_; refine sI ?_) | (refine AQ.callHX [] (by kernel_rfl) rfl rfl rfl rfl rfl rfl (by exact trivial) rfl (K.k0 0 0 rfl (by omega) (by omega)) ?_ ?_; (rintro r H' ⟨p', e', h1, rfl, rfl⟩; refine ⟨rfl, ?_⟩; refine sH ?_; exact AEX.outR [0] rfl rfl rfl ⟨p', e', by rw [h1]; rfl, rfl, rfl⟩); rintro r H' ⟨g, hq, rfl, rfl⟩; refine ⟨rfl, ?_⟩; refine sH ?_) | (refine AQ.fn (by kernel_rfl) rfl rfl rfl (conn2_spec 6 g d.f) rfl ?_; refine sI ?_) | refine AQ.done ?_ | (refine AQ.go (by kernel_rfl) ?_; refine sI ?_; repeat (with_reducible refine And.intro (by omega) ?_); refine AQ.nx rfl ?_; refine sI ?_))
  refine gO ?_
  exact AE.retD [0] rfl ⟨⟨rfl, Nat.le_of_ble_eq_true (by kernel_rfl)⟩, trivial⟩ rfl ⟨conn 6 [g, d.f], by rw [hq]; rfl, rfl, rfl⟩
theorem orSecond_spec (th ax : List Fm) (d : Dv) (p : List Int) (K : KH th ax d p) (hn : d.ks.length = 1) :
    ACallX Tryz.prog 201 [.im (plP th ax d p)] [] (RQ ((kidK (ccFs th d.ks) ax p 0 []).bind fun a => .ok (conn 6 [d.f, a]))) (XQ ((kidK (ccFs th d.ks) ax p 0 []).bind fun a => .ok (conn 6 [d.f, a]))) := by
  refine ACallX.walk [0, 2] [2] Tryz.func201 rfl Tryz.ntmps201 (by kernel_rfl) (by rfl) rfl fun W own I0 φ0 lay => ?_
  refine gO ?_
  refine AP.drawE 12 (Tree.node [] [0, 1, 2, 3, 4, 5, 6, 7] [8] [Tree.node [0, 1, 2, 3, 4, 5, 6] [] [9] [Tree.node [] [] [10] [Tree.node [] [] [11] [Tree.node [] [] [] []]]]]) (by kernel_rfl) rfl (by kernel_rfl) (by kernel_rfl) ?_
  refine vd_node ?_
  refine sI ?_
  repeat' (first | with_reducible exact True.intro | with_reducible refine And.intro (by omega) ?_ | with_reducible refine And.intro ?_ ?_ | (refine AQ.nx rfl ?_; refine sI ?_) | (refine AQ.callHX [] (by kernel_rfl) rfl rfl rfl rfl rfl rfl (by exact trivial) rfl (K.k0 0 0 rfl (by omega) (by omega)) ?_ ?_; (rintro r H' ⟨p', e', h1, rfl, rfl⟩; refine ⟨rfl, ?_⟩; refine sH ?_; exact AEX.outR [0] rfl rfl rfl ⟨p', e', by rw [h1]; rfl, rfl, rfl⟩); rintro r H' ⟨g, hq, rfl, rfl⟩; refine ⟨rfl, ?_⟩; refine sH ?_) | (refine AQ.fn (by kernel_rfl) rfl rfl rfl (conn2_spec 6 d.f g) rfl ?_; refine sI ?_) | refine AQ.done ?_ | (refine AQ.go (by kernel_rfl) ?_; refine sI ?_; repeat (with_reducible refine And.intro (by omega) ?_); refine AQ.nx rfl ?_; refine sI ?_))
  refine gO ?_
  exact AE.retD [0] rfl ⟨⟨rfl, Nat.le_of_ble_eq_true (by kernel_rfl)⟩, trivial⟩ rfl ⟨conn 6 [d.f, g], by rw [hq]; rfl, rfl, rfl⟩
end Go.Proofs.YteacpafhmgdbkaaGreatDoor
end

section
namespace Go.Proofs.YteacpafhmgdbkaaGreatDoor
open Go Go.AL Go.RowKit
set_option maxRecDepth 10000
set_option maxHeartbeats 4000000
theorem impliesOut_spec (th ax : List Fm) (d : Dv) (p : List Int) (K : KH th ax d p) (hn : d.ks.length = 2) :
    ACallX Tryz.prog 196 [.im (plP th ax d p)] [] (RQ ((kidK (ccFs th d.ks) ax p 0 []).bind fun g => (kidK (ccFs th d.ks) ax p 1 []).bind fun a => chk (g.k == 4 && eqF (part g 0) a) p 271 (.ok (part g 1)))) (XQ ((kidK (ccFs th d.ks) ax p 0 []).bind fun g => (kidK (ccFs th d.ks) ax p 1 []).bind fun a => chk (g.k == 4 && eqF (part g 0) a) p 271 (.ok (part g 1)))) := by
  refine ACallX.walk [0, 2, 3, 4] [2, 3, 4] Tryz.func196 rfl Tryz.ntmps196 (by kernel_rfl) (by rfl) rfl fun W own I0 φ0 lay => ?_
  refine gO ?_
  refine AQ.callHX [] (by kernel_rfl) rfl rfl rfl rfl rfl rfl (by exact trivial) rfl (K.k0 0 0 rfl (by omega) (by omega)) ?_ ?_
  · rintro r H' ⟨p', e', h1, rfl, rfl⟩
    refine ⟨rfl, ?_⟩; refine sH ?_
    exact AEX.out [0] rfl rfl ⟨p', e', by rw [h1]; rfl, rfl, rfl⟩
  rintro r H' ⟨g, hq, rfl, rfl⟩
  refine ⟨rfl, ?_⟩; refine sH ?_
  refine AQ.go (by kernel_rfl) ?_
  refine gO ?_
  refine AQ.callHX [] (by kernel_rfl) rfl rfl rfl rfl rfl rfl (by exact trivial) rfl (K.k0 1 1 rfl (by omega) (by omega)) ?_ ?_
  · rintro r H' ⟨p', e', h1, rfl, rfl⟩
    refine ⟨rfl, ?_⟩; refine sH ?_
    exact AEX.out [0] rfl rfl ⟨p', e', by rw [hq, Rs.bind, h1]; rfl, rfl, rfl⟩
  rintro r H' ⟨a, hq2, rfl, rfl⟩
  refine ⟨rfl, ?_⟩; refine sH ?_
  refine AQ.go (by kernel_rfl) ?_
  refine gO ?_
  by_cases hk : g.k = 4
  · obtain ⟨x, y, hp, hx, hy⟩ := un_two (kidK_well (by omega) hq) (.inl hk)
    have hb : (g.k == 4) = true := by rw [hk]; rfl
    have hr : fmR g.ps = [fmRow x, fmRow y] := by rw [hp, fmR_two]
    rw [hr]
    refine AP.drawE 13 (Tree.node [] [0, 1, 2, 3, 4, 5, 6, 7, 8, 9] [10] [Tree.node [0] [11] [12] [Tree.node [] [] [] []]]) (by kernel_rfl) rfl (by kernel_rfl) (by kernel_rfl) ?_
    refine vd_node ?_
    refine sE (an @hb @List.getD_cons_zero.{0}) ?_
    repeat' (first | with_reducible exact True.intro | with_reducible refine And.intro (by omega) ?_ | with_reducible refine And.intro ?_ ?_ | (refine AQ.nx rfl ?_; refine sE (an @hb @List.getD_cons_zero.{0}) ?_) | (refine AQ.guard_yes (by simp only [go_sem]) ?_; refine AQ.fn (by kernel_rfl) rfl rfl rfl (same_spec x a (un_S hx)) rfl ?_; refine sI ?_) | (refine AQ.callHX [] (by kernel_rfl) rfl rfl rfl rfl rfl rfl (by exact trivial) rfl (must_spec _ _ _ p _ _) ?_ ?_; (rintro r H' ⟨hc, rfl, rfl⟩; refine ⟨rfl, ?_⟩; refine sH ?_; exact AEX.outR [2, 1, 0] rfl rfl rfl ⟨p, 271, by rw [hq, Rs.bind, hq2, Rs.bind, chk_f]; rw [hb, part, hp]; exact fun h => hc (.inl h), rfl, rfl⟩); rintro r H' ⟨hc, rfl, rfl⟩; refine ⟨rfl, ?_⟩; refine sH ?_) | refine AQ.done ?_ | (refine AQ.go (by kernel_rfl) ?_; refine sE (an @hb @List.getD_cons_zero.{0}) ?_; repeat (with_reducible refine And.intro (by omega) ?_); refine AQ.nx rfl ?_; refine sE (an @hb @List.getD_cons_zero.{0}) ?_))
    refine gE (an @List.getD_cons_succ.{0} @List.getD_cons_zero.{0}) ?_
    have hc2 : eqF x a = true := by simpa using hc
    exact AE.retD [2, 1, 0] rfl ⟨⟨rfl, Nat.le_of_ble_eq_true (by kernel_rfl)⟩, trivial⟩ rfl ⟨y, by rw [hq, Rs.bind, hq2, Rs.bind, chk_t (by rw [hb, part, hp]; exact hc2), part, hp]; rfl, rfl, rfl⟩
  · have hb : (g.k == 4) = false := by simp [hk]
    refine AP.drawE 13 (Tree.node [] [0, 1, 2, 3, 4, 5, 6, 7, 8, 9] [10] [Tree.node [0] [11] [12] [Tree.node [] [] [] []]]) (by kernel_rfl) rfl (by kernel_rfl) (by kernel_rfl) ?_
    refine vd_node ?_
    refine sE @hb ?_
    repeat' (first | with_reducible exact True.intro | with_reducible refine And.intro (by omega) ?_ | with_reducible refine And.intro ?_ ?_ | (refine AQ.nx rfl ?_; refine sE @hb ?_) | (exact fun h => h.elim) | refine AQ.skip (by kernel_rfl) rfl ?_ | (refine AQ.callHX [] (by kernel_rfl) rfl rfl rfl rfl rfl rfl (by exact trivial) rfl (must_spec _ _ _ p _ _) ?_ ?_; (rintro r H' ⟨hc, rfl, rfl⟩; refine ⟨rfl, ?_⟩; refine sH ?_; exact AEX.outR [2, 1, 0] rfl rfl rfl ⟨p, 271, by rw [hq, Rs.bind, hq2, Rs.bind, chk_f]; rw [hb]; exact fun h => hc (.inl h), rfl, rfl⟩); rintro r H' ⟨hc, rfl, rfl⟩; refine ⟨rfl, ?_⟩; refine sH ?_) | refine AQ.done ?_ | (refine AQ.go (by kernel_rfl) ?_; refine sE @hb ?_; repeat (with_reducible refine And.intro (by omega) ?_); refine AQ.nx rfl ?_; refine sE @hb ?_))
    simp at hc
theorem half_spec (th ax : List Fm) (d : Dv) (p : List Int) (K : KH th ax d p) (hn : d.ks.length = 1) (i : Nat) (j : Int) (hj : j = i) (hi : i < 2) :
    ACallX Tryz.prog 243 [.im (plP th ax d p), Iv j] [] (RQ ((kidK (ccFs th d.ks) ax p 0 []).bind fun g => chk (g.k == 5) p 271 (.ok (part g i)))) (XQ ((kidK (ccFs th d.ks) ax p 0 []).bind fun g => chk (g.k == 5) p 271 (.ok (part g i)))) := by
  refine ACallX.walk [0, 1, 4, 5] [4, 5] Tryz.func243 rfl Tryz.ntmps243 (by kernel_rfl) (by rfl) rfl fun W own I0 φ0 lay => ?_
  refine gO ?_
  refine AQ.callHX [] (by kernel_rfl) rfl rfl rfl rfl rfl rfl (by exact trivial) rfl (K.k0 0 0 rfl (by omega) (by omega)) ?_ ?_
  · rintro r H' ⟨p', e', h1, rfl, rfl⟩
    refine ⟨rfl, ?_⟩; refine sH ?_
    exact AEX.out [0] rfl rfl ⟨p', e', by rw [h1]; rfl, rfl, rfl⟩
  rintro r H' ⟨g, hq, rfl, rfl⟩
  refine ⟨rfl, ?_⟩; refine sH ?_
  refine AQ.go (by kernel_rfl) ?_
  refine gO ?_
  refine AQ.callHX [] (by kernel_rfl) rfl rfl rfl rfl rfl rfl (by exact trivial) rfl (must_spec _ _ _ p _ _) ?_ ?_
  · rintro r H' ⟨hc, rfl, rfl⟩
    refine ⟨rfl, ?_⟩; refine sH ?_
    exact AEX.out [1, 0] rfl rfl ⟨p, 271, by rw [hq, Rs.bind, chk_f (fun h => hc (.inl h))], rfl, rfl⟩
  rintro r H' ⟨hc, rfl, rfl⟩
  refine ⟨rfl, ?_⟩; refine sH ?_
  have hc : (g.k == 5) = true := hc.resolve_right (by decide)
  obtain ⟨x, y, hp, hx, hy⟩ := un_two (kidK_well (by omega) hq) (.inr (.inl (by simpa using hc)))
  have hr : fmR g.ps = [fmRow x, fmRow y] := by rw [hp, fmR_two]
  rw [hr]
  have hij : i = 0 ∨ i = 1 := by omega
  rcases hij with rfl | rfl
  · subst hj
    refine gE (an @List.getD_cons_succ.{0} @List.getD_cons_zero.{0}) ?_
    exact AE.retD [1, 0] rfl ⟨⟨rfl, Nat.le_of_ble_eq_true (by kernel_rfl)⟩, trivial⟩ rfl ⟨x, by rw [hq, Rs.bind, chk_t hc, part, hp]; rfl, rfl, rfl⟩
  · subst hj
    refine gE (an @List.getD_cons_succ.{0} @List.getD_cons_zero.{0}) ?_
    exact AE.retD [1, 0] rfl ⟨⟨rfl, Nat.le_of_ble_eq_true (by kernel_rfl)⟩, trivial⟩ rfl ⟨y, by rw [hq, Rs.bind, chk_t hc, part, hp]; rfl, rfl, rfl⟩
theorem andFirst_spec (th ax : List Fm) (d : Dv) (p : List Int) (K : KH th ax d p) (hn : d.ks.length = 1) :
    ACallX Tryz.prog 198 [.im (plP th ax d p)] [] (RQ ((kidK (ccFs th d.ks) ax p 0 []).bind fun g => chk (g.k == 5) p 271 (.ok (part g 0)))) (XQ ((kidK (ccFs th d.ks) ax p 0 []).bind fun g => chk (g.k == 5) p 271 (.ok (part g 0)))) := by
  refine ACallX.walk [0, 2] [2] Tryz.func198 rfl Tryz.ntmps198 (by kernel_rfl) (by rfl) rfl fun W own I0 φ0 lay => ?_
  refine gO ?_
  refine AQ.callHX [] (by kernel_rfl) rfl rfl rfl rfl rfl rfl (by exact trivial) rfl (half_spec th ax d p K hn 0 0 rfl (by omega)) ?_ ?_
  · rintro r H' ⟨p', e', h1, rfl, rfl⟩
    refine ⟨rfl, ?_⟩; refine sH ?_
    exact AEX.out [0] rfl rfl ⟨p', e', h1, rfl, rfl⟩
  rintro r H' ⟨g, hq, rfl, rfl⟩
  refine ⟨rfl, ?_⟩; refine sH ?_
  refine AQ.go (by kernel_rfl) ?_
  refine gO ?_
  exact AE.retD [0] rfl ⟨⟨rfl, Nat.le_of_ble_eq_true (by kernel_rfl)⟩, trivial⟩ rfl ⟨g, hq, rfl, rfl⟩
theorem andSecond_spec (th ax : List Fm) (d : Dv) (p : List Int) (K : KH th ax d p) (hn : d.ks.length = 1) :
    ACallX Tryz.prog 199 [.im (plP th ax d p)] [] (RQ ((kidK (ccFs th d.ks) ax p 0 []).bind fun g => chk (g.k == 5) p 271 (.ok (part g 1)))) (XQ ((kidK (ccFs th d.ks) ax p 0 []).bind fun g => chk (g.k == 5) p 271 (.ok (part g 1)))) := by
  refine ACallX.walk [0, 2] [2] Tryz.func199 rfl Tryz.ntmps199 (by kernel_rfl) (by rfl) rfl fun W own I0 φ0 lay => ?_
  refine gO ?_
  refine AQ.callHX [] (by kernel_rfl) rfl rfl rfl rfl rfl rfl (by exact trivial) rfl (half_spec th ax d p K hn 1 1 rfl (by omega)) ?_ ?_
  · rintro r H' ⟨p', e', h1, rfl, rfl⟩
    refine ⟨rfl, ?_⟩; refine sH ?_
    exact AEX.out [0] rfl rfl ⟨p', e', h1, rfl, rfl⟩
  rintro r H' ⟨g, hq, rfl, rfl⟩
  refine ⟨rfl, ?_⟩; refine sH ?_
  refine AQ.go (by kernel_rfl) ?_
  refine gO ?_
  exact AE.retD [0] rfl ⟨⟨rfl, Nat.le_of_ble_eq_true (by kernel_rfl)⟩, trivial⟩ rfl ⟨g, hq, rfl, rfl⟩
end Go.Proofs.YteacpafhmgdbkaaGreatDoor
end

section
namespace Go.Proofs.YteacpafhmgdbkaaGreatDoor
open Go Go.AL Go.RowKit
set_option maxRecDepth 10000
set_option maxHeartbeats 4000000
theorem falseOut_spec (th ax : List Fm) (d : Dv) (p : List Int) (K : KH th ax d p) (hn : d.ks.length = 1) :
    ACallX Tryz.prog 203 [.im (plP th ax d p)] [] (RQ ((kidK (ccFs th d.ks) ax p 0 []).bind fun g => chk (g.k == 3) p 271 (.ok d.f))) (XQ ((kidK (ccFs th d.ks) ax p 0 []).bind fun g => chk (g.k == 3) p 271 (.ok d.f))) := by
  refine ACallX.walk [0, 2] [2] Tryz.func203 rfl Tryz.ntmps203 (by kernel_rfl) (by rfl) rfl fun W own I0 φ0 lay => ?_
  refine gO ?_
  refine AQ.callHX [] (by kernel_rfl) rfl rfl rfl rfl rfl rfl (by exact trivial) rfl (K.k0 0 0 rfl (by omega) (by omega)) ?_ ?_
  · rintro r H' ⟨p', e', h1, rfl, rfl⟩
    refine ⟨rfl, ?_⟩; refine sH ?_
    exact AEX.out [0] rfl rfl ⟨p', e', by rw [h1]; rfl, rfl, rfl⟩
  rintro r H' ⟨g, hq, rfl, rfl⟩
  refine ⟨rfl, ?_⟩; refine sH ?_
  refine AQ.go (by kernel_rfl) ?_
  refine gO ?_
  refine AQ.callHX [] (by kernel_rfl) rfl rfl rfl rfl rfl rfl (by exact trivial) rfl (must_spec _ _ _ p _ _) ?_ ?_
  · rintro r H' ⟨hc, rfl, rfl⟩
    refine ⟨rfl, ?_⟩; refine sH ?_
    exact AEX.out [0] rfl rfl ⟨p, 271, by rw [hq, Rs.bind, chk_f (fun h => hc (.inl h))], rfl, rfl⟩
  rintro r H' ⟨hc, rfl, rfl⟩
  refine ⟨rfl, ?_⟩; refine sH ?_
  have hc : (g.k == 3) = true := hc.resolve_right (by decide)
  refine gO ?_
  exact AE.retD [0] rfl ⟨⟨rfl, Nat.le_of_ble_eq_true (by kernel_rfl)⟩, trivial⟩ rfl ⟨d.f, by rw [hq, Rs.bind, chk_t hc], rfl, rfl⟩
theorem classic_spec (th ax : List Fm) (d : Dv) (p : List Int) (K : KH th ax d p) (hn : d.ks.length = 1) (hf : fmS d.f) :
    ACallX Tryz.prog 204 [.im (plP th ax d p)] [] (RQ ((kidK (ccFs th d.ks) ax p 0 [conn 4 [d.f, conn 3 []]]).bind fun g => chk (g.k == 3) p 271 (.ok d.f))) (XQ ((kidK (ccFs th d.ks) ax p 0 [conn 4 [d.f, conn 3 []]]).bind fun g => chk (g.k == 3) p 271 (.ok d.f))) := by
  have hs : fmS (conn 4 [d.f, conn 3 []]) := conn_S (fmsS_two hf (conn_S fmsS_nil (by simp))) (by simp)
  have hk := K.one 0 0 (conn 4 [d.f, conn 3 []]) rfl (by omega) (by omega) hs
  have hc2 := conn2_spec 4 d.f (conn 3 [])
  refine ACallX.walk [0, 2] [2] Tryz.func204 rfl Tryz.ntmps204 (by kernel_rfl) (by rfl) rfl fun W own I0 φ0 lay => ?_
  refine gO ?_
  refine AP.drawE 17 (Tree.node [] [0, 1, 2, 3, 4, 5, 6, 7, 8] [9] [Tree.node [0, 1, 2, 3, 4, 5, 6, 7, 8] [] [10] [Tree.node [0, 1] [] [11] [Tree.node [0, 1] [] [12] [Tree.node [0, 1] [] [13] [Tree.node [0] [14, 15] [16] [Tree.node [] [] [] []]]]]]]) (by kernel_rfl) rfl (by kernel_rfl) (by kernel_rfl) ?_
  refine vd_node ?_
  refine sI ?_
  repeat' (first | with_reducible exact True.intro | with_reducible refine And.intro (by omega) ?_ | with_reducible refine And.intro ?_ ?_ | (refine AQ.nx rfl ?_; refine sI ?_) | (refine AQ.fn (by kernel_rfl) rfl rfl rfl (falsum_spec) rfl ?_; refine sI ?_) | (refine AQ.fn (by kernel_rfl) rfl rfl rfl (hc2) rfl ?_; refine sI ?_) | (refine AQ.callHX [] (by kernel_rfl) rfl rfl rfl rfl rfl rfl (by exact trivial) rfl (hk) ?_ ?_; (rintro r H' ⟨p', e', h1, rfl, rfl⟩; refine ⟨rfl, ?_⟩; refine sH ?_; exact AEX.outR [0] rfl rfl rfl ⟨p', e', by rw [h1]; rfl, rfl, rfl⟩); rintro r H' ⟨g, hq, rfl, rfl⟩; refine ⟨rfl, ?_⟩; refine sH ?_) | (refine AQ.callHX [] (by kernel_rfl) rfl rfl rfl rfl rfl rfl (by exact trivial) rfl (must_spec _ _ _ p _ _) ?_ ?_; (rintro r H' ⟨hc, rfl, rfl⟩; refine ⟨rfl, ?_⟩; refine sH ?_; exact AEX.outR [0] rfl rfl rfl ⟨p, 271, by rw [hq, Rs.bind, chk_f (fun h => hc (.inl h))], rfl, rfl⟩); rintro r H' ⟨hc, rfl, rfl⟩; refine ⟨rfl, ?_⟩; refine sH ?_) | refine AQ.done ?_ | (refine AQ.go (by kernel_rfl) ?_; refine sI ?_; repeat (with_reducible refine And.intro (by omega) ?_); refine AQ.nx rfl ?_; refine sI ?_))
  have hc : (g.k == 3) = true := hc.resolve_right (by decide)
  refine gO ?_
  exact AE.retD [0] rfl ⟨⟨rfl, Nat.le_of_ble_eq_true (by kernel_rfl)⟩, trivial⟩ rfl ⟨d.f, by rw [hq, Rs.bind, chk_t hc], rfl, rfl⟩
end Go.Proofs.YteacpafhmgdbkaaGreatDoor
end
