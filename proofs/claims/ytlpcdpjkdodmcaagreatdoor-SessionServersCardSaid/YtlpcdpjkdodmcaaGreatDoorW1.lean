import Derived.Test.YtlpcdpjkdodmcaaGreatDoorAl3
import Derived.Test.YtlpcdpjkdodmcaaGreatDoorChecked
import Derived.KernelRfl
import Derived.Shelf.LaysM
import Derived.Shelf.Strconv.Itoa3
import Derived.Shelf.LaysC
import Derived.Shelf.Strconv.AtoiAll
import Derived.Shelf.Strconv.ErrVarAll
import Derived.Shelf.Strings.Search2
import Derived.Lib.AtoiErrMem
import Derived.Lib.IndexLaws
import Derived.Lib.AtoiAllCases
set_option linter.unusedSimpArgs false
set_option linter.unusedVariables false
set_option linter.unnecessarySimpa false
section

end

section
namespace Go.Proofs.YtlpcdpjkdodmcaaGreatDoor
open Go Go.AL
@[go_sem] theorem Tryz.tk1 : tk Tryz.prog 1 = .func := by kernel_rfl
@[go_sem] theorem Tryz.sz1 : sz Tryz.prog 1 = some 1 := by kernel_rfl
@[go_sem] theorem Tryz.by1 : by' Tryz.prog 1 = some 8 := by kernel_rfl
@[go_sem] theorem Tryz.zr1 : zro Tryz.prog 1 = some ([.nilFunc]) := by kernel_rfl
@[go_sem] theorem Tryz.tk2 : tk Tryz.prog 2 = .int .i64 := by kernel_rfl
@[go_sem] theorem Tryz.sz2 : sz Tryz.prog 2 = some 1 := by kernel_rfl
@[go_sem] theorem Tryz.by2 : by' Tryz.prog 2 = some 8 := by kernel_rfl
@[go_sem] theorem Tryz.un2 : (Tryz.prog.underlying 2).isSome = true := by kernel_rfl
@[go_sem] theorem Tryz.zr2 : zro Tryz.prog 2 = some ([.int .i64 0]) := by kernel_rfl
@[go_sem] theorem Tryz.tk3 : tk Tryz.prog 3 = .int .i64 := by kernel_rfl
@[go_sem] theorem Tryz.sz3 : sz Tryz.prog 3 = some 1 := by kernel_rfl
@[go_sem] theorem Tryz.by3 : by' Tryz.prog 3 = some 8 := by kernel_rfl
@[go_sem] theorem Tryz.un3 : (Tryz.prog.underlying 3).isSome = true := by kernel_rfl
@[go_sem] theorem Tryz.zr3 : zro Tryz.prog 3 = some ([.int .i64 0]) := by kernel_rfl
@[go_sem] theorem Tryz.tk4 : tk Tryz.prog 4 = .bool := by kernel_rfl
@[go_sem] theorem Tryz.sz4 : sz Tryz.prog 4 = some 1 := by kernel_rfl
@[go_sem] theorem Tryz.by4 : by' Tryz.prog 4 = some 1 := by kernel_rfl
@[go_sem] theorem Tryz.un4 : (Tryz.prog.underlying 4).isSome = true := by kernel_rfl
@[go_sem] theorem Tryz.zr4 : zro Tryz.prog 4 = some ([.bool false]) := by kernel_rfl
@[go_sem] theorem Tryz.tk5 : tk Tryz.prog 5 = .int .u8 := by kernel_rfl
@[go_sem] theorem Tryz.sz5 : sz Tryz.prog 5 = some 1 := by kernel_rfl
@[go_sem] theorem Tryz.by5 : by' Tryz.prog 5 = some 1 := by kernel_rfl
@[go_sem] theorem Tryz.un5 : (Tryz.prog.underlying 5).isSome = true := by kernel_rfl
@[go_sem] theorem Tryz.zr5 : zro Tryz.prog 5 = some ([.int .u8 0]) := by kernel_rfl
@[go_sem] theorem Tryz.tk6 : tk Tryz.prog 6 = .int .u8 := by kernel_rfl
@[go_sem] theorem Tryz.sz6 : sz Tryz.prog 6 = some 1 := by kernel_rfl
@[go_sem] theorem Tryz.by6 : by' Tryz.prog 6 = some 1 := by kernel_rfl
@[go_sem] theorem Tryz.un6 : (Tryz.prog.underlying 6).isSome = true := by kernel_rfl
@[go_sem] theorem Tryz.zr6 : zro Tryz.prog 6 = some ([.int .u8 0]) := by kernel_rfl
@[go_sem] theorem Tryz.tk7 : tk Tryz.prog 7 = .struct [(0, 2), (1, 3), (2, 4), (3, 6)] := by kernel_rfl
@[go_sem] theorem Tryz.sz7 : sz Tryz.prog 7 = some 4 := by kernel_rfl
@[go_sem] theorem Tryz.by7 : by' Tryz.prog 7 = some 24 := by kernel_rfl
@[go_sem] theorem Tryz.eq7 : eqOk Tryz.prog 7 = true := by kernel_rfl
@[go_sem] theorem Tryz.zr7 : zro Tryz.prog 7 = some ([.int .i64 0, .int .i64 0, .bool false, .int .u8 0]) := by kernel_rfl
@[go_sem] theorem Tryz.tk8 : tk Tryz.prog 8 = .struct [(0, 2), (1, 3), (2, 4), (3, 6)] := by kernel_rfl
@[go_sem] theorem Tryz.sz8 : sz Tryz.prog 8 = some 4 := by kernel_rfl
@[go_sem] theorem Tryz.by8 : by' Tryz.prog 8 = some 24 := by kernel_rfl
@[go_sem] theorem Tryz.eq8 : eqOk Tryz.prog 8 = true := by kernel_rfl
@[go_sem] theorem Tryz.zr8 : zro Tryz.prog 8 = some ([.int .i64 0, .int .i64 0, .bool false, .int .u8 0]) := by kernel_rfl
@[go_sem] theorem Tryz.tk9 : tk Tryz.prog 9 = .str := by kernel_rfl
@[go_sem] theorem Tryz.sz9 : sz Tryz.prog 9 = some 1 := by kernel_rfl
@[go_sem] theorem Tryz.by9 : by' Tryz.prog 9 = some 16 := by kernel_rfl
@[go_sem] theorem Tryz.un9 : (Tryz.prog.underlying 9).isSome = true := by kernel_rfl
@[go_sem] theorem Tryz.zr9 : zro Tryz.prog 9 = some ([.string ⟨#[]⟩]) := by kernel_rfl
@[go_sem] theorem Tryz.tk10 : tk Tryz.prog 10 = .str := by kernel_rfl
@[go_sem] theorem Tryz.sz10 : sz Tryz.prog 10 = some 1 := by kernel_rfl
@[go_sem] theorem Tryz.by10 : by' Tryz.prog 10 = some 16 := by kernel_rfl
@[go_sem] theorem Tryz.un10 : (Tryz.prog.underlying 10).isSome = true := by kernel_rfl
@[go_sem] theorem Tryz.zr10 : zro Tryz.prog 10 = some ([.string ⟨#[]⟩]) := by kernel_rfl
@[go_sem] theorem Tryz.tk11 : tk Tryz.prog 11 = .str := by kernel_rfl
@[go_sem] theorem Tryz.sz11 : sz Tryz.prog 11 = some 1 := by kernel_rfl
@[go_sem] theorem Tryz.by11 : by' Tryz.prog 11 = some 16 := by kernel_rfl
@[go_sem] theorem Tryz.un11 : (Tryz.prog.underlying 11).isSome = true := by kernel_rfl
@[go_sem] theorem Tryz.zr11 : zro Tryz.prog 11 = some ([.string ⟨#[]⟩]) := by kernel_rfl
@[go_sem] theorem Tryz.tk12 : tk Tryz.prog 12 = .int .u64 := by kernel_rfl
@[go_sem] theorem Tryz.sz12 : sz Tryz.prog 12 = some 1 := by kernel_rfl
@[go_sem] theorem Tryz.by12 : by' Tryz.prog 12 = some 8 := by kernel_rfl
@[go_sem] theorem Tryz.un12 : (Tryz.prog.underlying 12).isSome = true := by kernel_rfl
@[go_sem] theorem Tryz.zr12 : zro Tryz.prog 12 = some ([.int .u64 0]) := by kernel_rfl
@[go_sem] theorem Tryz.tk13 : tk Tryz.prog 13 = .struct [(0, 9), (1, 12)] := by kernel_rfl
@[go_sem] theorem Tryz.sz13 : sz Tryz.prog 13 = some 2 := by kernel_rfl
@[go_sem] theorem Tryz.by13 : by' Tryz.prog 13 = some 24 := by kernel_rfl
@[go_sem] theorem Tryz.zr13 : zro Tryz.prog 13 = some ([.string ⟨#[]⟩, .int .u64 0]) := by kernel_rfl
@[go_sem] theorem Tryz.tk14 : tk Tryz.prog 14 = .struct [(0, 9), (1, 12)] := by kernel_rfl
@[go_sem] theorem Tryz.sz14 : sz Tryz.prog 14 = some 2 := by kernel_rfl
@[go_sem] theorem Tryz.by14 : by' Tryz.prog 14 = some 24 := by kernel_rfl
@[go_sem] theorem Tryz.zr14 : zro Tryz.prog 14 = some ([.string ⟨#[]⟩, .int .u64 0]) := by kernel_rfl
@[go_sem] theorem Tryz.tk15 : tk Tryz.prog 15 = .ptr 180 := by kernel_rfl
@[go_sem] theorem Tryz.sz15 : sz Tryz.prog 15 = some 1 := by kernel_rfl
@[go_sem] theorem Tryz.by15 : by' Tryz.prog 15 = some 8 := by kernel_rfl
@[go_sem] theorem Tryz.zr15 : zro Tryz.prog 15 = some ([.pointer none]) := by kernel_rfl
@[go_sem] theorem Tryz.tk16 : tk Tryz.prog 16 = .ptr 183 := by kernel_rfl
@[go_sem] theorem Tryz.sz16 : sz Tryz.prog 16 = some 1 := by kernel_rfl
@[go_sem] theorem Tryz.by16 : by' Tryz.prog 16 = some 8 := by kernel_rfl
@[go_sem] theorem Tryz.zr16 : zro Tryz.prog 16 = some ([.pointer none]) := by kernel_rfl
@[go_sem] theorem Tryz.tk17 : tk Tryz.prog 17 = .ptr 191 := by kernel_rfl
@[go_sem] theorem Tryz.sz17 : sz Tryz.prog 17 = some 1 := by kernel_rfl
@[go_sem] theorem Tryz.by17 : by' Tryz.prog 17 = some 8 := by kernel_rfl
@[go_sem] theorem Tryz.zr17 : zro Tryz.prog 17 = some ([.pointer none]) := by kernel_rfl
@[go_sem] theorem Tryz.tk18 : tk Tryz.prog 18 = .struct [(0, 17)] := by kernel_rfl
@[go_sem] theorem Tryz.sz18 : sz Tryz.prog 18 = some 1 := by kernel_rfl
@[go_sem] theorem Tryz.by18 : by' Tryz.prog 18 = some 8 := by kernel_rfl
@[go_sem] theorem Tryz.zr18 : zro Tryz.prog 18 = some ([.pointer none]) := by kernel_rfl
@[go_sem] theorem Tryz.tk19 : tk Tryz.prog 19 = .struct [(0, 17)] := by kernel_rfl
@[go_sem] theorem Tryz.sz19 : sz Tryz.prog 19 = some 1 := by kernel_rfl
@[go_sem] theorem Tryz.by19 : by' Tryz.prog 19 = some 8 := by kernel_rfl
@[go_sem] theorem Tryz.zr19 : zro Tryz.prog 19 = some ([.pointer none]) := by kernel_rfl
@[go_sem] theorem Tryz.tk20 : tk Tryz.prog 20 = .iface := by kernel_rfl
@[go_sem] theorem Tryz.sz20 : sz Tryz.prog 20 = some 1 := by kernel_rfl
@[go_sem] theorem Tryz.by20 : by' Tryz.prog 20 = some 16 := by kernel_rfl
@[go_sem] theorem Tryz.zr20 : zro Tryz.prog 20 = some ([.nilIface]) := by kernel_rfl
@[go_sem] theorem Tryz.tk21 : tk Tryz.prog 21 = .int .i32 := by kernel_rfl
@[go_sem] theorem Tryz.sz21 : sz Tryz.prog 21 = some 1 := by kernel_rfl
@[go_sem] theorem Tryz.by21 : by' Tryz.prog 21 = some 4 := by kernel_rfl
@[go_sem] theorem Tryz.un21 : (Tryz.prog.underlying 21).isSome = true := by kernel_rfl
@[go_sem] theorem Tryz.zr21 : zro Tryz.prog 21 = some ([.int .i32 0]) := by kernel_rfl
@[go_sem] theorem Tryz.tk22 : tk Tryz.prog 22 = .slice 82 := by kernel_rfl
@[go_sem] theorem Tryz.sz22 : sz Tryz.prog 22 = some 1 := by kernel_rfl
@[go_sem] theorem Tryz.by22 : by' Tryz.prog 22 = some 24 := by kernel_rfl
@[go_sem] theorem Tryz.zr22 : zro Tryz.prog 22 = some ([.slice none 0 0]) := by kernel_rfl
@[go_sem] theorem Tryz.tk23 : tk Tryz.prog 23 = .struct [(0, 3), (1, 9), (2, 3), (3, 3), (4, 22)] := by kernel_rfl
@[go_sem] theorem Tryz.sz23 : sz Tryz.prog 23 = some 5 := by kernel_rfl
@[go_sem] theorem Tryz.by23 : by' Tryz.prog 23 = some 64 := by kernel_rfl
@[go_sem] theorem Tryz.zr23 : zro Tryz.prog 23 = some ([.int .i64 0, .string ⟨#[]⟩, .int .i64 0, .int .i64 0, .slice none 0 0]) := by kernel_rfl
@[go_sem] theorem Tryz.tk24 : tk Tryz.prog 24 = .struct [(0, 3), (1, 9), (2, 3), (3, 3), (4, 22)] := by kernel_rfl
@[go_sem] theorem Tryz.sz24 : sz Tryz.prog 24 = some 5 := by kernel_rfl
@[go_sem] theorem Tryz.by24 : by' Tryz.prog 24 = some 64 := by kernel_rfl
@[go_sem] theorem Tryz.zr24 : zro Tryz.prog 24 = some ([.int .i64 0, .string ⟨#[]⟩, .int .i64 0, .int .i64 0, .slice none 0 0]) := by kernel_rfl
@[go_sem] theorem Tryz.tk25 : tk Tryz.prog 25 = .struct [(0, 3), (1, 3), (2, 9)] := by kernel_rfl
@[go_sem] theorem Tryz.sz25 : sz Tryz.prog 25 = some 3 := by kernel_rfl
@[go_sem] theorem Tryz.by25 : by' Tryz.prog 25 = some 32 := by kernel_rfl
@[go_sem] theorem Tryz.eq25 : eqOk Tryz.prog 25 = true := by kernel_rfl
@[go_sem] theorem Tryz.zr25 : zro Tryz.prog 25 = some ([.int .i64 0, .int .i64 0, .string ⟨#[]⟩]) := by kernel_rfl
@[go_sem] theorem Tryz.tk26 : tk Tryz.prog 26 = .struct [(0, 3), (1, 3), (2, 9)] := by kernel_rfl
@[go_sem] theorem Tryz.sz26 : sz Tryz.prog 26 = some 3 := by kernel_rfl
@[go_sem] theorem Tryz.by26 : by' Tryz.prog 26 = some 32 := by kernel_rfl
@[go_sem] theorem Tryz.eq26 : eqOk Tryz.prog 26 = true := by kernel_rfl
@[go_sem] theorem Tryz.zr26 : zro Tryz.prog 26 = some ([.int .i64 0, .int .i64 0, .string ⟨#[]⟩]) := by kernel_rfl
@[go_sem] theorem Tryz.tk27 : tk Tryz.prog 27 = .func := by kernel_rfl
@[go_sem] theorem Tryz.sz27 : sz Tryz.prog 27 = some 1 := by kernel_rfl
@[go_sem] theorem Tryz.by27 : by' Tryz.prog 27 = some 8 := by kernel_rfl
@[go_sem] theorem Tryz.zr27 : zro Tryz.prog 27 = some ([.nilFunc]) := by kernel_rfl
@[go_sem] theorem Tryz.tk28 : tk Tryz.prog 28 = .func := by kernel_rfl
@[go_sem] theorem Tryz.sz28 : sz Tryz.prog 28 = some 1 := by kernel_rfl
@[go_sem] theorem Tryz.by28 : by' Tryz.prog 28 = some 8 := by kernel_rfl
@[go_sem] theorem Tryz.zr28 : zro Tryz.prog 28 = some ([.nilFunc]) := by kernel_rfl
@[go_sem] theorem Tryz.tk29 : tk Tryz.prog 29 = .int .i64 := by kernel_rfl
@[go_sem] theorem Tryz.sz29 : sz Tryz.prog 29 = some 1 := by kernel_rfl
@[go_sem] theorem Tryz.by29 : by' Tryz.prog 29 = some 8 := by kernel_rfl
@[go_sem] theorem Tryz.un29 : (Tryz.prog.underlying 29).isSome = true := by kernel_rfl
@[go_sem] theorem Tryz.zr29 : zro Tryz.prog 29 = some ([.int .i64 0]) := by kernel_rfl
@[go_sem] theorem Tryz.tk31 : tk Tryz.prog 31 = .func := by kernel_rfl
@[go_sem] theorem Tryz.sz31 : sz Tryz.prog 31 = some 1 := by kernel_rfl
@[go_sem] theorem Tryz.by31 : by' Tryz.prog 31 = some 8 := by kernel_rfl
@[go_sem] theorem Tryz.zr31 : zro Tryz.prog 31 = some ([.nilFunc]) := by kernel_rfl
@[go_sem] theorem Tryz.tk32 : tk Tryz.prog 32 = .slice 58 := by kernel_rfl
@[go_sem] theorem Tryz.sz32 : sz Tryz.prog 32 = some 1 := by kernel_rfl
@[go_sem] theorem Tryz.by32 : by' Tryz.prog 32 = some 24 := by kernel_rfl
@[go_sem] theorem Tryz.zr32 : zro Tryz.prog 32 = some ([.slice none 0 0]) := by kernel_rfl
@[go_sem] theorem Tryz.tk33 : tk Tryz.prog 33 = .struct [(0, 3), (1, 9), (2, 3), (3, 3), (4, 32)] := by kernel_rfl
@[go_sem] theorem Tryz.sz33 : sz Tryz.prog 33 = some 5 := by kernel_rfl
@[go_sem] theorem Tryz.by33 : by' Tryz.prog 33 = some 64 := by kernel_rfl
@[go_sem] theorem Tryz.zr33 : zro Tryz.prog 33 = some ([.int .i64 0, .string ⟨#[]⟩, .int .i64 0, .int .i64 0, .slice none 0 0]) := by kernel_rfl
@[go_sem] theorem Tryz.tk34 : tk Tryz.prog 34 = .struct [(0, 3), (1, 9), (2, 3), (3, 3), (4, 32)] := by kernel_rfl
@[go_sem] theorem Tryz.sz34 : sz Tryz.prog 34 = some 5 := by kernel_rfl
@[go_sem] theorem Tryz.by34 : by' Tryz.prog 34 = some 64 := by kernel_rfl
@[go_sem] theorem Tryz.zr34 : zro Tryz.prog 34 = some ([.int .i64 0, .string ⟨#[]⟩, .int .i64 0, .int .i64 0, .slice none 0 0]) := by kernel_rfl
@[go_sem] theorem Tryz.tk36 : tk Tryz.prog 36 = .func := by kernel_rfl
@[go_sem] theorem Tryz.sz36 : sz Tryz.prog 36 = some 1 := by kernel_rfl
@[go_sem] theorem Tryz.by36 : by' Tryz.prog 36 = some 8 := by kernel_rfl
@[go_sem] theorem Tryz.zr36 : zro Tryz.prog 36 = some ([.nilFunc]) := by kernel_rfl
@[go_sem] theorem Tryz.tk37 : tk Tryz.prog 37 = .func := by kernel_rfl
@[go_sem] theorem Tryz.sz37 : sz Tryz.prog 37 = some 1 := by kernel_rfl
@[go_sem] theorem Tryz.by37 : by' Tryz.prog 37 = some 8 := by kernel_rfl
@[go_sem] theorem Tryz.zr37 : zro Tryz.prog 37 = some ([.nilFunc]) := by kernel_rfl
@[go_sem] theorem Tryz.tk38 : tk Tryz.prog 38 = .func := by kernel_rfl
@[go_sem] theorem Tryz.sz38 : sz Tryz.prog 38 = some 1 := by kernel_rfl
@[go_sem] theorem Tryz.by38 : by' Tryz.prog 38 = some 8 := by kernel_rfl
@[go_sem] theorem Tryz.zr38 : zro Tryz.prog 38 = some ([.nilFunc]) := by kernel_rfl
@[go_sem] theorem Tryz.tk39 : tk Tryz.prog 39 = .func := by kernel_rfl
@[go_sem] theorem Tryz.sz39 : sz Tryz.prog 39 = some 1 := by kernel_rfl
@[go_sem] theorem Tryz.by39 : by' Tryz.prog 39 = some 8 := by kernel_rfl
@[go_sem] theorem Tryz.zr39 : zro Tryz.prog 39 = some ([.nilFunc]) := by kernel_rfl
@[go_sem] theorem Tryz.tk40 : tk Tryz.prog 40 = .func := by kernel_rfl
@[go_sem] theorem Tryz.sz40 : sz Tryz.prog 40 = some 1 := by kernel_rfl
@[go_sem] theorem Tryz.by40 : by' Tryz.prog 40 = some 8 := by kernel_rfl
@[go_sem] theorem Tryz.zr40 : zro Tryz.prog 40 = some ([.nilFunc]) := by kernel_rfl
@[go_sem] theorem Tryz.tk41 : tk Tryz.prog 41 = .slice 26 := by kernel_rfl
@[go_sem] theorem Tryz.sz41 : sz Tryz.prog 41 = some 1 := by kernel_rfl
@[go_sem] theorem Tryz.by41 : by' Tryz.prog 41 = some 24 := by kernel_rfl
@[go_sem] theorem Tryz.zr41 : zro Tryz.prog 41 = some ([.slice none 0 0]) := by kernel_rfl
@[go_sem] theorem Tryz.tk43 : tk Tryz.prog 43 = .func := by kernel_rfl
@[go_sem] theorem Tryz.sz43 : sz Tryz.prog 43 = some 1 := by kernel_rfl
@[go_sem] theorem Tryz.by43 : by' Tryz.prog 43 = some 8 := by kernel_rfl
@[go_sem] theorem Tryz.zr43 : zro Tryz.prog 43 = some ([.nilFunc]) := by kernel_rfl
@[go_sem] theorem Tryz.tk44 : tk Tryz.prog 44 = .slice 47 := by kernel_rfl
@[go_sem] theorem Tryz.sz44 : sz Tryz.prog 44 = some 1 := by kernel_rfl
@[go_sem] theorem Tryz.by44 : by' Tryz.prog 44 = some 24 := by kernel_rfl
@[go_sem] theorem Tryz.zr44 : zro Tryz.prog 44 = some ([.slice none 0 0]) := by kernel_rfl
@[go_sem] theorem Tryz.tk46 : tk Tryz.prog 46 = .func := by kernel_rfl
@[go_sem] theorem Tryz.sz46 : sz Tryz.prog 46 = some 1 := by kernel_rfl
@[go_sem] theorem Tryz.by46 : by' Tryz.prog 46 = some 8 := by kernel_rfl
@[go_sem] theorem Tryz.zr46 : zro Tryz.prog 46 = some ([.nilFunc]) := by kernel_rfl
@[go_sem] theorem Tryz.tk47 : tk Tryz.prog 47 = .struct [(0, 3), (1, 3), (2, 9)] := by kernel_rfl
@[go_sem] theorem Tryz.sz47 : sz Tryz.prog 47 = some 3 := by kernel_rfl
@[go_sem] theorem Tryz.by47 : by' Tryz.prog 47 = some 32 := by kernel_rfl
@[go_sem] theorem Tryz.eq47 : eqOk Tryz.prog 47 = true := by kernel_rfl
@[go_sem] theorem Tryz.zr47 : zro Tryz.prog 47 = some ([.int .i64 0, .int .i64 0, .string ⟨#[]⟩]) := by kernel_rfl
@[go_sem] theorem Tryz.tk48 : tk Tryz.prog 48 = .func := by kernel_rfl
@[go_sem] theorem Tryz.sz48 : sz Tryz.prog 48 = some 1 := by kernel_rfl
@[go_sem] theorem Tryz.by48 : by' Tryz.prog 48 = some 8 := by kernel_rfl
@[go_sem] theorem Tryz.zr48 : zro Tryz.prog 48 = some ([.nilFunc]) := by kernel_rfl
@[go_sem] theorem Tryz.tk49 : tk Tryz.prog 49 = .func := by kernel_rfl
@[go_sem] theorem Tryz.sz49 : sz Tryz.prog 49 = some 1 := by kernel_rfl
@[go_sem] theorem Tryz.by49 : by' Tryz.prog 49 = some 8 := by kernel_rfl
@[go_sem] theorem Tryz.zr49 : zro Tryz.prog 49 = some ([.nilFunc]) := by kernel_rfl
@[go_sem] theorem Tryz.tk50 : tk Tryz.prog 50 = .func := by kernel_rfl
@[go_sem] theorem Tryz.sz50 : sz Tryz.prog 50 = some 1 := by kernel_rfl
@[go_sem] theorem Tryz.by50 : by' Tryz.prog 50 = some 8 := by kernel_rfl
@[go_sem] theorem Tryz.zr50 : zro Tryz.prog 50 = some ([.nilFunc]) := by kernel_rfl
@[go_sem] theorem Tryz.tk51 : tk Tryz.prog 51 = .func := by kernel_rfl
@[go_sem] theorem Tryz.sz51 : sz Tryz.prog 51 = some 1 := by kernel_rfl
@[go_sem] theorem Tryz.by51 : by' Tryz.prog 51 = some 8 := by kernel_rfl
@[go_sem] theorem Tryz.zr51 : zro Tryz.prog 51 = some ([.nilFunc]) := by kernel_rfl
@[go_sem] theorem Tryz.tk53 : tk Tryz.prog 53 = .func := by kernel_rfl
@[go_sem] theorem Tryz.sz53 : sz Tryz.prog 53 = some 1 := by kernel_rfl
@[go_sem] theorem Tryz.by53 : by' Tryz.prog 53 = some 8 := by kernel_rfl
@[go_sem] theorem Tryz.zr53 : zro Tryz.prog 53 = some ([.nilFunc]) := by kernel_rfl
@[go_sem] theorem Tryz.tk55 : tk Tryz.prog 55 = .func := by kernel_rfl
@[go_sem] theorem Tryz.sz55 : sz Tryz.prog 55 = some 1 := by kernel_rfl
@[go_sem] theorem Tryz.by55 : by' Tryz.prog 55 = some 8 := by kernel_rfl
@[go_sem] theorem Tryz.zr55 : zro Tryz.prog 55 = some ([.nilFunc]) := by kernel_rfl
@[go_sem] theorem Tryz.tk56 : tk Tryz.prog 56 = .func := by kernel_rfl
@[go_sem] theorem Tryz.sz56 : sz Tryz.prog 56 = some 1 := by kernel_rfl
@[go_sem] theorem Tryz.by56 : by' Tryz.prog 56 = some 8 := by kernel_rfl
@[go_sem] theorem Tryz.zr56 : zro Tryz.prog 56 = some ([.nilFunc]) := by kernel_rfl
@[go_sem] theorem Tryz.tk57 : tk Tryz.prog 57 = .struct [(0, 3), (1, 3), (2, 9), (3, 4), (4, 4), (5, 47)] := by kernel_rfl
@[go_sem] theorem Tryz.sz57 : sz Tryz.prog 57 = some 8 := by kernel_rfl
@[go_sem] theorem Tryz.by57 : by' Tryz.prog 57 = some 72 := by kernel_rfl
@[go_sem] theorem Tryz.zr57 : zro Tryz.prog 57 = some ([.int .i64 0, .int .i64 0, .string ⟨#[]⟩, .bool false, .bool false, .int .i64 0, .int .i64 0, .string ⟨#[]⟩]) := by kernel_rfl
@[go_sem] theorem Tryz.tk58 : tk Tryz.prog 58 = .struct [(0, 3), (1, 3), (2, 9), (3, 4), (4, 4), (5, 47)] := by kernel_rfl
@[go_sem] theorem Tryz.sz58 : sz Tryz.prog 58 = some 8 := by kernel_rfl
@[go_sem] theorem Tryz.by58 : by' Tryz.prog 58 = some 72 := by kernel_rfl
@[go_sem] theorem Tryz.zr58 : zro Tryz.prog 58 = some ([.int .i64 0, .int .i64 0, .string ⟨#[]⟩, .bool false, .bool false, .int .i64 0, .int .i64 0, .string ⟨#[]⟩]) := by kernel_rfl
@[go_sem] theorem Tryz.tk59 : tk Tryz.prog 59 = .func := by kernel_rfl
@[go_sem] theorem Tryz.sz59 : sz Tryz.prog 59 = some 1 := by kernel_rfl
@[go_sem] theorem Tryz.by59 : by' Tryz.prog 59 = some 8 := by kernel_rfl
@[go_sem] theorem Tryz.zr59 : zro Tryz.prog 59 = some ([.nilFunc]) := by kernel_rfl
@[go_sem] theorem Tryz.tk60 : tk Tryz.prog 60 = .func := by kernel_rfl
@[go_sem] theorem Tryz.sz60 : sz Tryz.prog 60 = some 1 := by kernel_rfl
@[go_sem] theorem Tryz.by60 : by' Tryz.prog 60 = some 8 := by kernel_rfl
@[go_sem] theorem Tryz.zr60 : zro Tryz.prog 60 = some ([.nilFunc]) := by kernel_rfl
@[go_sem] theorem Tryz.tk61 : tk Tryz.prog 61 = .slice 69 := by kernel_rfl
@[go_sem] theorem Tryz.sz61 : sz Tryz.prog 61 = some 1 := by kernel_rfl
@[go_sem] theorem Tryz.by61 : by' Tryz.prog 61 = some 24 := by kernel_rfl
@[go_sem] theorem Tryz.zr61 : zro Tryz.prog 61 = some ([.slice none 0 0]) := by kernel_rfl
@[go_sem] theorem Tryz.tk62 : tk Tryz.prog 62 = .ptr 66 := by kernel_rfl
@[go_sem] theorem Tryz.sz62 : sz Tryz.prog 62 = some 1 := by kernel_rfl
@[go_sem] theorem Tryz.by62 : by' Tryz.prog 62 = some 8 := by kernel_rfl
@[go_sem] theorem Tryz.zr62 : zro Tryz.prog 62 = some ([.pointer none]) := by kernel_rfl
@[go_sem] theorem Tryz.tk63 : tk Tryz.prog 63 = .struct [(0, 3), (1, 3), (2, 3), (3, 22)] := by kernel_rfl
@[go_sem] theorem Tryz.sz63 : sz Tryz.prog 63 = some 4 := by kernel_rfl
@[go_sem] theorem Tryz.by63 : by' Tryz.prog 63 = some 48 := by kernel_rfl
@[go_sem] theorem Tryz.zr63 : zro Tryz.prog 63 = some ([.int .i64 0, .int .i64 0, .int .i64 0, .slice none 0 0]) := by kernel_rfl
@[go_sem] theorem Tryz.tk64 : tk Tryz.prog 64 = .struct [(0, 3), (1, 3), (2, 3), (3, 22)] := by kernel_rfl
@[go_sem] theorem Tryz.sz64 : sz Tryz.prog 64 = some 4 := by kernel_rfl
@[go_sem] theorem Tryz.by64 : by' Tryz.prog 64 = some 48 := by kernel_rfl
@[go_sem] theorem Tryz.zr64 : zro Tryz.prog 64 = some ([.int .i64 0, .int .i64 0, .int .i64 0, .slice none 0 0]) := by kernel_rfl
@[go_sem] theorem Tryz.tk65 : tk Tryz.prog 65 = .struct [(0, 64), (4, 24), (9, 41), (10, 41)] := by kernel_rfl
@[go_sem] theorem Tryz.sz65 : sz Tryz.prog 65 = some 11 := by kernel_rfl
@[go_sem] theorem Tryz.by65 : by' Tryz.prog 65 = some 160 := by kernel_rfl
@[go_sem] theorem Tryz.zr65 : zro Tryz.prog 65 = some ([.int .i64 0, .int .i64 0, .int .i64 0, .slice none 0 0, .int .i64 0, .string ⟨#[]⟩, .int .i64 0, .int .i64 0, .slice none 0 0, .slice none 0 0, .slice none 0 0]) := by kernel_rfl
@[go_sem] theorem Tryz.tk66 : tk Tryz.prog 66 = .struct [(0, 64), (4, 24), (9, 41), (10, 41)] := by kernel_rfl
@[go_sem] theorem Tryz.sz66 : sz Tryz.prog 66 = some 11 := by kernel_rfl
@[go_sem] theorem Tryz.by66 : by' Tryz.prog 66 = some 160 := by kernel_rfl
@[go_sem] theorem Tryz.zr66 : zro Tryz.prog 66 = some ([.int .i64 0, .int .i64 0, .int .i64 0, .slice none 0 0, .int .i64 0, .string ⟨#[]⟩, .int .i64 0, .int .i64 0, .slice none 0 0, .slice none 0 0, .slice none 0 0]) := by kernel_rfl
@[go_sem] theorem Tryz.tk67 : tk Tryz.prog 67 = .func := by kernel_rfl
@[go_sem] theorem Tryz.sz67 : sz Tryz.prog 67 = some 1 := by kernel_rfl
@[go_sem] theorem Tryz.by67 : by' Tryz.prog 67 = some 8 := by kernel_rfl
@[go_sem] theorem Tryz.zr67 : zro Tryz.prog 67 = some ([.nilFunc]) := by kernel_rfl
@[go_sem] theorem Tryz.tk68 : tk Tryz.prog 68 = .struct [(0, 4), (1, 5), (2, 5), (3, 9)] := by kernel_rfl
@[go_sem] theorem Tryz.sz68 : sz Tryz.prog 68 = some 4 := by kernel_rfl
@[go_sem] theorem Tryz.by68 : by' Tryz.prog 68 = some 24 := by kernel_rfl
@[go_sem] theorem Tryz.eq68 : eqOk Tryz.prog 68 = true := by kernel_rfl
@[go_sem] theorem Tryz.zr68 : zro Tryz.prog 68 = some ([.bool false, .int .u8 0, .int .u8 0, .string ⟨#[]⟩]) := by kernel_rfl
@[go_sem] theorem Tryz.tk69 : tk Tryz.prog 69 = .struct [(0, 4), (1, 5), (2, 5), (3, 9)] := by kernel_rfl
@[go_sem] theorem Tryz.sz69 : sz Tryz.prog 69 = some 4 := by kernel_rfl
@[go_sem] theorem Tryz.by69 : by' Tryz.prog 69 = some 24 := by kernel_rfl
@[go_sem] theorem Tryz.eq69 : eqOk Tryz.prog 69 = true := by kernel_rfl
@[go_sem] theorem Tryz.zr69 : zro Tryz.prog 69 = some ([.bool false, .int .u8 0, .int .u8 0, .string ⟨#[]⟩]) := by kernel_rfl
@[go_sem] theorem Tryz.tk70 : tk Tryz.prog 70 = .func := by kernel_rfl
@[go_sem] theorem Tryz.sz70 : sz Tryz.prog 70 = some 1 := by kernel_rfl
@[go_sem] theorem Tryz.by70 : by' Tryz.prog 70 = some 8 := by kernel_rfl
@[go_sem] theorem Tryz.zr70 : zro Tryz.prog 70 = some ([.nilFunc]) := by kernel_rfl
@[go_sem] theorem Tryz.tk71 : tk Tryz.prog 71 = .func := by kernel_rfl
@[go_sem] theorem Tryz.sz71 : sz Tryz.prog 71 = some 1 := by kernel_rfl
@[go_sem] theorem Tryz.by71 : by' Tryz.prog 71 = some 8 := by kernel_rfl
@[go_sem] theorem Tryz.zr71 : zro Tryz.prog 71 = some ([.nilFunc]) := by kernel_rfl
@[go_sem] theorem Tryz.tk72 : tk Tryz.prog 72 = .struct [(0, 3), (1, 3), (2, 3), (3, 32)] := by kernel_rfl
@[go_sem] theorem Tryz.sz72 : sz Tryz.prog 72 = some 4 := by kernel_rfl
@[go_sem] theorem Tryz.by72 : by' Tryz.prog 72 = some 48 := by kernel_rfl
@[go_sem] theorem Tryz.zr72 : zro Tryz.prog 72 = some ([.int .i64 0, .int .i64 0, .int .i64 0, .slice none 0 0]) := by kernel_rfl
@[go_sem] theorem Tryz.tk73 : tk Tryz.prog 73 = .struct [(0, 3), (1, 3), (2, 3), (3, 32)] := by kernel_rfl
@[go_sem] theorem Tryz.sz73 : sz Tryz.prog 73 = some 4 := by kernel_rfl
@[go_sem] theorem Tryz.by73 : by' Tryz.prog 73 = some 48 := by kernel_rfl
@[go_sem] theorem Tryz.zr73 : zro Tryz.prog 73 = some ([.int .i64 0, .int .i64 0, .int .i64 0, .slice none 0 0]) := by kernel_rfl
@[go_sem] theorem Tryz.tk74 : tk Tryz.prog 74 = .func := by kernel_rfl
@[go_sem] theorem Tryz.sz74 : sz Tryz.prog 74 = some 1 := by kernel_rfl
@[go_sem] theorem Tryz.by74 : by' Tryz.prog 74 = some 8 := by kernel_rfl
@[go_sem] theorem Tryz.zr74 : zro Tryz.prog 74 = some ([.nilFunc]) := by kernel_rfl
@[go_sem] theorem Tryz.tk75 : tk Tryz.prog 75 = .func := by kernel_rfl
@[go_sem] theorem Tryz.sz75 : sz Tryz.prog 75 = some 1 := by kernel_rfl
@[go_sem] theorem Tryz.by75 : by' Tryz.prog 75 = some 8 := by kernel_rfl
@[go_sem] theorem Tryz.zr75 : zro Tryz.prog 75 = some ([.nilFunc]) := by kernel_rfl
@[go_sem] theorem Tryz.tk76 : tk Tryz.prog 76 = .slice 5 := by kernel_rfl
@[go_sem] theorem Tryz.sz76 : sz Tryz.prog 76 = some 1 := by kernel_rfl
@[go_sem] theorem Tryz.by76 : by' Tryz.prog 76 = some 24 := by kernel_rfl
@[go_sem] theorem Tryz.zr76 : zro Tryz.prog 76 = some ([.slice none 0 0]) := by kernel_rfl
@[go_sem] theorem Tryz.tk78 : tk Tryz.prog 78 = .func := by kernel_rfl
@[go_sem] theorem Tryz.sz78 : sz Tryz.prog 78 = some 1 := by kernel_rfl
@[go_sem] theorem Tryz.by78 : by' Tryz.prog 78 = some 8 := by kernel_rfl
@[go_sem] theorem Tryz.zr78 : zro Tryz.prog 78 = some ([.nilFunc]) := by kernel_rfl
@[go_sem] theorem Tryz.tk79 : tk Tryz.prog 79 = .func := by kernel_rfl
@[go_sem] theorem Tryz.sz79 : sz Tryz.prog 79 = some 1 := by kernel_rfl
@[go_sem] theorem Tryz.by79 : by' Tryz.prog 79 = some 8 := by kernel_rfl
@[go_sem] theorem Tryz.zr79 : zro Tryz.prog 79 = some ([.nilFunc]) := by kernel_rfl
@[go_sem] theorem Tryz.tk80 : tk Tryz.prog 80 = .func := by kernel_rfl
@[go_sem] theorem Tryz.sz80 : sz Tryz.prog 80 = some 1 := by kernel_rfl
@[go_sem] theorem Tryz.by80 : by' Tryz.prog 80 = some 8 := by kernel_rfl
@[go_sem] theorem Tryz.zr80 : zro Tryz.prog 80 = some ([.nilFunc]) := by kernel_rfl
@[go_sem] theorem Tryz.tk81 : tk Tryz.prog 81 = .struct [(0, 3), (1, 3), (2, 9), (3, 4), (4, 4), (5, 26)] := by kernel_rfl
@[go_sem] theorem Tryz.sz81 : sz Tryz.prog 81 = some 8 := by kernel_rfl
@[go_sem] theorem Tryz.by81 : by' Tryz.prog 81 = some 72 := by kernel_rfl
@[go_sem] theorem Tryz.zr81 : zro Tryz.prog 81 = some ([.int .i64 0, .int .i64 0, .string ⟨#[]⟩, .bool false, .bool false, .int .i64 0, .int .i64 0, .string ⟨#[]⟩]) := by kernel_rfl
@[go_sem] theorem Tryz.tk82 : tk Tryz.prog 82 = .struct [(0, 3), (1, 3), (2, 9), (3, 4), (4, 4), (5, 26)] := by kernel_rfl
@[go_sem] theorem Tryz.sz82 : sz Tryz.prog 82 = some 8 := by kernel_rfl
@[go_sem] theorem Tryz.by82 : by' Tryz.prog 82 = some 72 := by kernel_rfl
@[go_sem] theorem Tryz.zr82 : zro Tryz.prog 82 = some ([.int .i64 0, .int .i64 0, .string ⟨#[]⟩, .bool false, .bool false, .int .i64 0, .int .i64 0, .string ⟨#[]⟩]) := by kernel_rfl
@[go_sem] theorem Tryz.tk83 : tk Tryz.prog 83 = .func := by kernel_rfl
@[go_sem] theorem Tryz.sz83 : sz Tryz.prog 83 = some 1 := by kernel_rfl
@[go_sem] theorem Tryz.by83 : by' Tryz.prog 83 = some 8 := by kernel_rfl
@[go_sem] theorem Tryz.zr83 : zro Tryz.prog 83 = some ([.nilFunc]) := by kernel_rfl
@[go_sem] theorem Tryz.tk84 : tk Tryz.prog 84 = .func := by kernel_rfl
@[go_sem] theorem Tryz.sz84 : sz Tryz.prog 84 = some 1 := by kernel_rfl
@[go_sem] theorem Tryz.by84 : by' Tryz.prog 84 = some 8 := by kernel_rfl
@[go_sem] theorem Tryz.zr84 : zro Tryz.prog 84 = some ([.nilFunc]) := by kernel_rfl
@[go_sem] theorem Tryz.tk85 : tk Tryz.prog 85 = .func := by kernel_rfl
@[go_sem] theorem Tryz.sz85 : sz Tryz.prog 85 = some 1 := by kernel_rfl
@[go_sem] theorem Tryz.by85 : by' Tryz.prog 85 = some 8 := by kernel_rfl
@[go_sem] theorem Tryz.zr85 : zro Tryz.prog 85 = some ([.nilFunc]) := by kernel_rfl
@[go_sem] theorem Tryz.tk86 : tk Tryz.prog 86 = .func := by kernel_rfl
@[go_sem] theorem Tryz.sz86 : sz Tryz.prog 86 = some 1 := by kernel_rfl
@[go_sem] theorem Tryz.by86 : by' Tryz.prog 86 = some 8 := by kernel_rfl
@[go_sem] theorem Tryz.zr86 : zro Tryz.prog 86 = some ([.nilFunc]) := by kernel_rfl
@[go_sem] theorem Tryz.tk87 : tk Tryz.prog 87 = .func := by kernel_rfl
@[go_sem] theorem Tryz.sz87 : sz Tryz.prog 87 = some 1 := by kernel_rfl
@[go_sem] theorem Tryz.by87 : by' Tryz.prog 87 = some 8 := by kernel_rfl
@[go_sem] theorem Tryz.zr87 : zro Tryz.prog 87 = some ([.nilFunc]) := by kernel_rfl
@[go_sem] theorem Tryz.tk88 : tk Tryz.prog 88 = .func := by kernel_rfl
@[go_sem] theorem Tryz.sz88 : sz Tryz.prog 88 = some 1 := by kernel_rfl
@[go_sem] theorem Tryz.by88 : by' Tryz.prog 88 = some 8 := by kernel_rfl
@[go_sem] theorem Tryz.zr88 : zro Tryz.prog 88 = some ([.nilFunc]) := by kernel_rfl
@[go_sem] theorem Tryz.tk89 : tk Tryz.prog 89 = .ptr 82 := by kernel_rfl
@[go_sem] theorem Tryz.sz89 : sz Tryz.prog 89 = some 1 := by kernel_rfl
@[go_sem] theorem Tryz.by89 : by' Tryz.prog 89 = some 8 := by kernel_rfl
@[go_sem] theorem Tryz.zr89 : zro Tryz.prog 89 = some ([.pointer none]) := by kernel_rfl
@[go_sem] theorem Tryz.tk91 : tk Tryz.prog 91 = .struct [(0, 3), (1, 3)] := by kernel_rfl
@[go_sem] theorem Tryz.sz91 : sz Tryz.prog 91 = some 2 := by kernel_rfl
@[go_sem] theorem Tryz.by91 : by' Tryz.prog 91 = some 16 := by kernel_rfl
@[go_sem] theorem Tryz.eq91 : eqOk Tryz.prog 91 = true := by kernel_rfl
@[go_sem] theorem Tryz.zr91 : zro Tryz.prog 91 = some ([.int .i64 0, .int .i64 0]) := by kernel_rfl
@[go_sem] theorem Tryz.tk92 : tk Tryz.prog 92 = .struct [(0, 3), (1, 3)] := by kernel_rfl
@[go_sem] theorem Tryz.sz92 : sz Tryz.prog 92 = some 2 := by kernel_rfl
@[go_sem] theorem Tryz.by92 : by' Tryz.prog 92 = some 16 := by kernel_rfl
@[go_sem] theorem Tryz.eq92 : eqOk Tryz.prog 92 = true := by kernel_rfl
@[go_sem] theorem Tryz.zr92 : zro Tryz.prog 92 = some ([.int .i64 0, .int .i64 0]) := by kernel_rfl
@[go_sem] theorem Tryz.tk93 : tk Tryz.prog 93 = .func := by kernel_rfl
@[go_sem] theorem Tryz.sz93 : sz Tryz.prog 93 = some 1 := by kernel_rfl
@[go_sem] theorem Tryz.by93 : by' Tryz.prog 93 = some 8 := by kernel_rfl
@[go_sem] theorem Tryz.zr93 : zro Tryz.prog 93 = some ([.nilFunc]) := by kernel_rfl
@[go_sem] theorem Tryz.tk94 : tk Tryz.prog 94 = .func := by kernel_rfl
@[go_sem] theorem Tryz.sz94 : sz Tryz.prog 94 = some 1 := by kernel_rfl
@[go_sem] theorem Tryz.by94 : by' Tryz.prog 94 = some 8 := by kernel_rfl
@[go_sem] theorem Tryz.zr94 : zro Tryz.prog 94 = some ([.nilFunc]) := by kernel_rfl
@[go_sem] theorem Tryz.tk95 : tk Tryz.prog 95 = .func := by kernel_rfl
@[go_sem] theorem Tryz.sz95 : sz Tryz.prog 95 = some 1 := by kernel_rfl
@[go_sem] theorem Tryz.by95 : by' Tryz.prog 95 = some 8 := by kernel_rfl
@[go_sem] theorem Tryz.zr95 : zro Tryz.prog 95 = some ([.nilFunc]) := by kernel_rfl
@[go_sem] theorem Tryz.tk96 : tk Tryz.prog 96 = .func := by kernel_rfl
@[go_sem] theorem Tryz.sz96 : sz Tryz.prog 96 = some 1 := by kernel_rfl
@[go_sem] theorem Tryz.by96 : by' Tryz.prog 96 = some 8 := by kernel_rfl
@[go_sem] theorem Tryz.zr96 : zro Tryz.prog 96 = some ([.nilFunc]) := by kernel_rfl
@[go_sem] theorem Tryz.tk97 : tk Tryz.prog 97 = .func := by kernel_rfl
@[go_sem] theorem Tryz.sz97 : sz Tryz.prog 97 = some 1 := by kernel_rfl
@[go_sem] theorem Tryz.by97 : by' Tryz.prog 97 = some 8 := by kernel_rfl
@[go_sem] theorem Tryz.zr97 : zro Tryz.prog 97 = some ([.nilFunc]) := by kernel_rfl
@[go_sem] theorem Tryz.tk98 : tk Tryz.prog 98 = .func := by kernel_rfl
@[go_sem] theorem Tryz.sz98 : sz Tryz.prog 98 = some 1 := by kernel_rfl
@[go_sem] theorem Tryz.by98 : by' Tryz.prog 98 = some 8 := by kernel_rfl
@[go_sem] theorem Tryz.zr98 : zro Tryz.prog 98 = some ([.nilFunc]) := by kernel_rfl
@[go_sem] theorem Tryz.tk99 : tk Tryz.prog 99 = .func := by kernel_rfl
@[go_sem] theorem Tryz.sz99 : sz Tryz.prog 99 = some 1 := by kernel_rfl
@[go_sem] theorem Tryz.by99 : by' Tryz.prog 99 = some 8 := by kernel_rfl
@[go_sem] theorem Tryz.zr99 : zro Tryz.prog 99 = some ([.nilFunc]) := by kernel_rfl
@[go_sem] theorem Tryz.tk100 : tk Tryz.prog 100 = .func := by kernel_rfl
@[go_sem] theorem Tryz.sz100 : sz Tryz.prog 100 = some 1 := by kernel_rfl
@[go_sem] theorem Tryz.by100 : by' Tryz.prog 100 = some 8 := by kernel_rfl
@[go_sem] theorem Tryz.zr100 : zro Tryz.prog 100 = some ([.nilFunc]) := by kernel_rfl
@[go_sem] theorem Tryz.tk102 : tk Tryz.prog 102 = .func := by kernel_rfl
@[go_sem] theorem Tryz.sz102 : sz Tryz.prog 102 = some 1 := by kernel_rfl
@[go_sem] theorem Tryz.by102 : by' Tryz.prog 102 = some 8 := by kernel_rfl
@[go_sem] theorem Tryz.zr102 : zro Tryz.prog 102 = some ([.nilFunc]) := by kernel_rfl
@[go_sem] theorem Tryz.tk103 : tk Tryz.prog 103 = .func := by kernel_rfl
@[go_sem] theorem Tryz.sz103 : sz Tryz.prog 103 = some 1 := by kernel_rfl
@[go_sem] theorem Tryz.by103 : by' Tryz.prog 103 = some 8 := by kernel_rfl
@[go_sem] theorem Tryz.zr103 : zro Tryz.prog 103 = some ([.nilFunc]) := by kernel_rfl
@[go_sem] theorem Tryz.tk104 : tk Tryz.prog 104 = .func := by kernel_rfl
@[go_sem] theorem Tryz.sz104 : sz Tryz.prog 104 = some 1 := by kernel_rfl
@[go_sem] theorem Tryz.by104 : by' Tryz.prog 104 = some 8 := by kernel_rfl
@[go_sem] theorem Tryz.zr104 : zro Tryz.prog 104 = some ([.nilFunc]) := by kernel_rfl
@[go_sem] theorem Tryz.tk106 : tk Tryz.prog 106 = .func := by kernel_rfl
@[go_sem] theorem Tryz.sz106 : sz Tryz.prog 106 = some 1 := by kernel_rfl
@[go_sem] theorem Tryz.by106 : by' Tryz.prog 106 = some 8 := by kernel_rfl
@[go_sem] theorem Tryz.zr106 : zro Tryz.prog 106 = some ([.nilFunc]) := by kernel_rfl
@[go_sem] theorem Tryz.tk107 : tk Tryz.prog 107 = .func := by kernel_rfl
@[go_sem] theorem Tryz.sz107 : sz Tryz.prog 107 = some 1 := by kernel_rfl
@[go_sem] theorem Tryz.by107 : by' Tryz.prog 107 = some 8 := by kernel_rfl
@[go_sem] theorem Tryz.zr107 : zro Tryz.prog 107 = some ([.nilFunc]) := by kernel_rfl
@[go_sem] theorem Tryz.tk108 : tk Tryz.prog 108 = .arr 4 5 := by kernel_rfl
@[go_sem] theorem Tryz.sz108 : sz Tryz.prog 108 = some 4 := by kernel_rfl
@[go_sem] theorem Tryz.by108 : by' Tryz.prog 108 = some 4 := by kernel_rfl
@[go_sem] theorem Tryz.eq108 : eqOk Tryz.prog 108 = true := by kernel_rfl
@[go_sem] theorem Tryz.zr108 : zro Tryz.prog 108 = some ([.int .u8 0, .int .u8 0, .int .u8 0, .int .u8 0]) := by kernel_rfl
@[go_sem] theorem Tryz.tk109 : tk Tryz.prog 109 = .func := by kernel_rfl
@[go_sem] theorem Tryz.sz109 : sz Tryz.prog 109 = some 1 := by kernel_rfl
@[go_sem] theorem Tryz.by109 : by' Tryz.prog 109 = some 8 := by kernel_rfl
@[go_sem] theorem Tryz.zr109 : zro Tryz.prog 109 = some ([.nilFunc]) := by kernel_rfl
@[go_sem] theorem Tryz.tk110 : tk Tryz.prog 110 = .int .u32 := by kernel_rfl
@[go_sem] theorem Tryz.sz110 : sz Tryz.prog 110 = some 1 := by kernel_rfl
@[go_sem] theorem Tryz.by110 : by' Tryz.prog 110 = some 4 := by kernel_rfl
@[go_sem] theorem Tryz.un110 : (Tryz.prog.underlying 110).isSome = true := by kernel_rfl
@[go_sem] theorem Tryz.zr110 : zro Tryz.prog 110 = some ([.int .u32 0]) := by kernel_rfl
@[go_sem] theorem Tryz.tk111 : tk Tryz.prog 111 = .func := by kernel_rfl
@[go_sem] theorem Tryz.sz111 : sz Tryz.prog 111 = some 1 := by kernel_rfl
@[go_sem] theorem Tryz.by111 : by' Tryz.prog 111 = some 8 := by kernel_rfl
@[go_sem] theorem Tryz.zr111 : zro Tryz.prog 111 = some ([.nilFunc]) := by kernel_rfl
@[go_sem] theorem Tryz.tk112 : tk Tryz.prog 112 = .func := by kernel_rfl
@[go_sem] theorem Tryz.sz112 : sz Tryz.prog 112 = some 1 := by kernel_rfl
@[go_sem] theorem Tryz.by112 : by' Tryz.prog 112 = some 8 := by kernel_rfl
@[go_sem] theorem Tryz.zr112 : zro Tryz.prog 112 = some ([.nilFunc]) := by kernel_rfl
@[go_sem] theorem Tryz.tk113 : tk Tryz.prog 113 = .func := by kernel_rfl
@[go_sem] theorem Tryz.sz113 : sz Tryz.prog 113 = some 1 := by kernel_rfl
@[go_sem] theorem Tryz.by113 : by' Tryz.prog 113 = some 8 := by kernel_rfl
@[go_sem] theorem Tryz.zr113 : zro Tryz.prog 113 = some ([.nilFunc]) := by kernel_rfl
@[go_sem] theorem Tryz.tk114 : tk Tryz.prog 114 = .arr 10 83 := by kernel_rfl
@[go_sem] theorem Tryz.sz114 : sz Tryz.prog 114 = some 10 := by kernel_rfl
@[go_sem] theorem Tryz.by114 : by' Tryz.prog 114 = some 80 := by kernel_rfl
@[go_sem] theorem Tryz.zr114 : zro Tryz.prog 114 = some (List.replicate 10 (.nilFunc)) := by kernel_rfl
@[go_sem] theorem Tryz.tk115 : tk Tryz.prog 115 = .iface := by kernel_rfl
@[go_sem] theorem Tryz.sz115 : sz Tryz.prog 115 = some 1 := by kernel_rfl
@[go_sem] theorem Tryz.by115 : by' Tryz.prog 115 = some 16 := by kernel_rfl
@[go_sem] theorem Tryz.zr115 : zro Tryz.prog 115 = some ([.nilIface]) := by kernel_rfl
@[go_sem] theorem Tryz.tk116 : tk Tryz.prog 116 = .iface := by kernel_rfl
@[go_sem] theorem Tryz.sz116 : sz Tryz.prog 116 = some 1 := by kernel_rfl
@[go_sem] theorem Tryz.by116 : by' Tryz.prog 116 = some 16 := by kernel_rfl
@[go_sem] theorem Tryz.zr116 : zro Tryz.prog 116 = some ([.nilIface]) := by kernel_rfl
@[go_sem] theorem Tryz.tk118 : tk Tryz.prog 118 = .func := by kernel_rfl
@[go_sem] theorem Tryz.sz118 : sz Tryz.prog 118 = some 1 := by kernel_rfl
@[go_sem] theorem Tryz.by118 : by' Tryz.prog 118 = some 8 := by kernel_rfl
@[go_sem] theorem Tryz.zr118 : zro Tryz.prog 118 = some ([.nilFunc]) := by kernel_rfl
@[go_sem] theorem Tryz.tk119 : tk Tryz.prog 119 = .func := by kernel_rfl
@[go_sem] theorem Tryz.sz119 : sz Tryz.prog 119 = some 1 := by kernel_rfl
@[go_sem] theorem Tryz.by119 : by' Tryz.prog 119 = some 8 := by kernel_rfl
@[go_sem] theorem Tryz.zr119 : zro Tryz.prog 119 = some ([.nilFunc]) := by kernel_rfl
@[go_sem] theorem Tryz.tk120 : tk Tryz.prog 120 = .func := by kernel_rfl
@[go_sem] theorem Tryz.sz120 : sz Tryz.prog 120 = some 1 := by kernel_rfl
@[go_sem] theorem Tryz.by120 : by' Tryz.prog 120 = some 8 := by kernel_rfl
@[go_sem] theorem Tryz.zr120 : zro Tryz.prog 120 = some ([.nilFunc]) := by kernel_rfl
@[go_sem] theorem Tryz.tk121 : tk Tryz.prog 121 = .func := by kernel_rfl
@[go_sem] theorem Tryz.sz121 : sz Tryz.prog 121 = some 1 := by kernel_rfl
@[go_sem] theorem Tryz.by121 : by' Tryz.prog 121 = some 8 := by kernel_rfl
@[go_sem] theorem Tryz.zr121 : zro Tryz.prog 121 = some ([.nilFunc]) := by kernel_rfl
@[go_sem] theorem Tryz.tk122 : tk Tryz.prog 122 = .func := by kernel_rfl
@[go_sem] theorem Tryz.sz122 : sz Tryz.prog 122 = some 1 := by kernel_rfl
@[go_sem] theorem Tryz.by122 : by' Tryz.prog 122 = some 8 := by kernel_rfl
@[go_sem] theorem Tryz.zr122 : zro Tryz.prog 122 = some ([.nilFunc]) := by kernel_rfl
@[go_sem] theorem Tryz.tk124 : tk Tryz.prog 124 = .func := by kernel_rfl
@[go_sem] theorem Tryz.sz124 : sz Tryz.prog 124 = some 1 := by kernel_rfl
@[go_sem] theorem Tryz.by124 : by' Tryz.prog 124 = some 8 := by kernel_rfl
@[go_sem] theorem Tryz.zr124 : zro Tryz.prog 124 = some ([.nilFunc]) := by kernel_rfl
@[go_sem] theorem Tryz.tk125 : tk Tryz.prog 125 = .int .u64 := by kernel_rfl
@[go_sem] theorem Tryz.sz125 : sz Tryz.prog 125 = some 1 := by kernel_rfl
@[go_sem] theorem Tryz.by125 : by' Tryz.prog 125 = some 8 := by kernel_rfl
@[go_sem] theorem Tryz.un125 : (Tryz.prog.underlying 125).isSome = true := by kernel_rfl
@[go_sem] theorem Tryz.zr125 : zro Tryz.prog 125 = some ([.int .u64 0]) := by kernel_rfl
@[go_sem] theorem Tryz.tk126 : tk Tryz.prog 126 = .arr 2 110 := by kernel_rfl
@[go_sem] theorem Tryz.sz126 : sz Tryz.prog 126 = some 2 := by kernel_rfl
@[go_sem] theorem Tryz.by126 : by' Tryz.prog 126 = some 8 := by kernel_rfl
@[go_sem] theorem Tryz.eq126 : eqOk Tryz.prog 126 = true := by kernel_rfl
@[go_sem] theorem Tryz.zr126 : zro Tryz.prog 126 = some ([.int .u32 0, .int .u32 0]) := by kernel_rfl
@[go_sem] theorem Tryz.tk127 : tk Tryz.prog 127 = .func := by kernel_rfl
@[go_sem] theorem Tryz.sz127 : sz Tryz.prog 127 = some 1 := by kernel_rfl
@[go_sem] theorem Tryz.by127 : by' Tryz.prog 127 = some 8 := by kernel_rfl
@[go_sem] theorem Tryz.zr127 : zro Tryz.prog 127 = some ([.nilFunc]) := by kernel_rfl
@[go_sem] theorem Tryz.tk128 : tk Tryz.prog 128 = .func := by kernel_rfl
@[go_sem] theorem Tryz.sz128 : sz Tryz.prog 128 = some 1 := by kernel_rfl
@[go_sem] theorem Tryz.by128 : by' Tryz.prog 128 = some 8 := by kernel_rfl
@[go_sem] theorem Tryz.zr128 : zro Tryz.prog 128 = some ([.nilFunc]) := by kernel_rfl
@[go_sem] theorem Tryz.tk129 : tk Tryz.prog 129 = .arr 256 5 := by kernel_rfl
@[go_sem] theorem Tryz.sz129 : sz Tryz.prog 129 = some 256 := by kernel_rfl
@[go_sem] theorem Tryz.by129 : by' Tryz.prog 129 = some 256 := by kernel_rfl
@[go_sem] theorem Tryz.eq129 : eqOk Tryz.prog 129 = true := by kernel_rfl
@[go_sem] theorem Tryz.zr129 : zro Tryz.prog 129 = some (List.replicate 256 (.int .u8 0)) := by kernel_rfl
@[go_sem] theorem Tryz.tk130 : tk Tryz.prog 130 = .func := by kernel_rfl
@[go_sem] theorem Tryz.sz130 : sz Tryz.prog 130 = some 1 := by kernel_rfl
@[go_sem] theorem Tryz.by130 : by' Tryz.prog 130 = some 8 := by kernel_rfl
@[go_sem] theorem Tryz.zr130 : zro Tryz.prog 130 = some ([.nilFunc]) := by kernel_rfl
@[go_sem] theorem Tryz.tk131 : tk Tryz.prog 131 = .func := by kernel_rfl
@[go_sem] theorem Tryz.sz131 : sz Tryz.prog 131 = some 1 := by kernel_rfl
@[go_sem] theorem Tryz.by131 : by' Tryz.prog 131 = some 8 := by kernel_rfl
@[go_sem] theorem Tryz.zr131 : zro Tryz.prog 131 = some ([.nilFunc]) := by kernel_rfl
@[go_sem] theorem Tryz.tk132 : tk Tryz.prog 132 = .func := by kernel_rfl
@[go_sem] theorem Tryz.sz132 : sz Tryz.prog 132 = some 1 := by kernel_rfl
@[go_sem] theorem Tryz.by132 : by' Tryz.prog 132 = some 8 := by kernel_rfl
@[go_sem] theorem Tryz.zr132 : zro Tryz.prog 132 = some ([.nilFunc]) := by kernel_rfl
@[go_sem] theorem Tryz.tk134 : tk Tryz.prog 134 = .func := by kernel_rfl
@[go_sem] theorem Tryz.sz134 : sz Tryz.prog 134 = some 1 := by kernel_rfl
@[go_sem] theorem Tryz.by134 : by' Tryz.prog 134 = some 8 := by kernel_rfl
@[go_sem] theorem Tryz.zr134 : zro Tryz.prog 134 = some ([.nilFunc]) := by kernel_rfl
@[go_sem] theorem Tryz.tk135 : tk Tryz.prog 135 = .func := by kernel_rfl
@[go_sem] theorem Tryz.sz135 : sz Tryz.prog 135 = some 1 := by kernel_rfl
@[go_sem] theorem Tryz.by135 : by' Tryz.prog 135 = some 8 := by kernel_rfl
@[go_sem] theorem Tryz.zr135 : zro Tryz.prog 135 = some ([.nilFunc]) := by kernel_rfl
@[go_sem] theorem Tryz.tk136 : tk Tryz.prog 136 = .func := by kernel_rfl
@[go_sem] theorem Tryz.sz136 : sz Tryz.prog 136 = some 1 := by kernel_rfl
@[go_sem] theorem Tryz.by136 : by' Tryz.prog 136 = some 8 := by kernel_rfl
@[go_sem] theorem Tryz.zr136 : zro Tryz.prog 136 = some ([.nilFunc]) := by kernel_rfl
@[go_sem] theorem Tryz.tk137 : tk Tryz.prog 137 = .func := by kernel_rfl
@[go_sem] theorem Tryz.sz137 : sz Tryz.prog 137 = some 1 := by kernel_rfl
@[go_sem] theorem Tryz.by137 : by' Tryz.prog 137 = some 8 := by kernel_rfl
@[go_sem] theorem Tryz.zr137 : zro Tryz.prog 137 = some ([.nilFunc]) := by kernel_rfl
@[go_sem] theorem Tryz.tk138 : tk Tryz.prog 138 = .ptr 24 := by kernel_rfl
@[go_sem] theorem Tryz.sz138 : sz Tryz.prog 138 = some 1 := by kernel_rfl
@[go_sem] theorem Tryz.by138 : by' Tryz.prog 138 = some 8 := by kernel_rfl
@[go_sem] theorem Tryz.zr138 : zro Tryz.prog 138 = some ([.pointer none]) := by kernel_rfl
@[go_sem] theorem Tryz.tk139 : tk Tryz.prog 139 = .func := by kernel_rfl
@[go_sem] theorem Tryz.sz139 : sz Tryz.prog 139 = some 1 := by kernel_rfl
@[go_sem] theorem Tryz.by139 : by' Tryz.prog 139 = some 8 := by kernel_rfl
@[go_sem] theorem Tryz.zr139 : zro Tryz.prog 139 = some ([.nilFunc]) := by kernel_rfl
@[go_sem] theorem Tryz.tk140 : tk Tryz.prog 140 = .func := by kernel_rfl
@[go_sem] theorem Tryz.sz140 : sz Tryz.prog 140 = some 1 := by kernel_rfl
@[go_sem] theorem Tryz.by140 : by' Tryz.prog 140 = some 8 := by kernel_rfl
@[go_sem] theorem Tryz.zr140 : zro Tryz.prog 140 = some ([.nilFunc]) := by kernel_rfl
@[go_sem] theorem Tryz.tk141 : tk Tryz.prog 141 = .func := by kernel_rfl
@[go_sem] theorem Tryz.sz141 : sz Tryz.prog 141 = some 1 := by kernel_rfl
@[go_sem] theorem Tryz.by141 : by' Tryz.prog 141 = some 8 := by kernel_rfl
@[go_sem] theorem Tryz.zr141 : zro Tryz.prog 141 = some ([.nilFunc]) := by kernel_rfl
@[go_sem] theorem Tryz.tk142 : tk Tryz.prog 142 = .func := by kernel_rfl
@[go_sem] theorem Tryz.sz142 : sz Tryz.prog 142 = some 1 := by kernel_rfl
@[go_sem] theorem Tryz.by142 : by' Tryz.prog 142 = some 8 := by kernel_rfl
@[go_sem] theorem Tryz.zr142 : zro Tryz.prog 142 = some ([.nilFunc]) := by kernel_rfl
@[go_sem] theorem Tryz.tk143 : tk Tryz.prog 143 = .arr 24 5 := by kernel_rfl
@[go_sem] theorem Tryz.sz143 : sz Tryz.prog 143 = some 24 := by kernel_rfl
@[go_sem] theorem Tryz.by143 : by' Tryz.prog 143 = some 24 := by kernel_rfl
@[go_sem] theorem Tryz.eq143 : eqOk Tryz.prog 143 = true := by kernel_rfl
@[go_sem] theorem Tryz.zr143 : zro Tryz.prog 143 = some (List.replicate 24 (.int .u8 0)) := by kernel_rfl
@[go_sem] theorem Tryz.tk144 : tk Tryz.prog 144 = .int .u64 := by kernel_rfl
@[go_sem] theorem Tryz.sz144 : sz Tryz.prog 144 = some 1 := by kernel_rfl
@[go_sem] theorem Tryz.by144 : by' Tryz.prog 144 = some 8 := by kernel_rfl
@[go_sem] theorem Tryz.un144 : (Tryz.prog.underlying 144).isSome = true := by kernel_rfl
@[go_sem] theorem Tryz.zr144 : zro Tryz.prog 144 = some ([.int .u64 0]) := by kernel_rfl
@[go_sem] theorem Tryz.tk145 : tk Tryz.prog 145 = .func := by kernel_rfl
@[go_sem] theorem Tryz.sz145 : sz Tryz.prog 145 = some 1 := by kernel_rfl
@[go_sem] theorem Tryz.by145 : by' Tryz.prog 145 = some 8 := by kernel_rfl
@[go_sem] theorem Tryz.zr145 : zro Tryz.prog 145 = some ([.nilFunc]) := by kernel_rfl
@[go_sem] theorem Tryz.tk146 : tk Tryz.prog 146 = .func := by kernel_rfl
@[go_sem] theorem Tryz.sz146 : sz Tryz.prog 146 = some 1 := by kernel_rfl
@[go_sem] theorem Tryz.by146 : by' Tryz.prog 146 = some 8 := by kernel_rfl
@[go_sem] theorem Tryz.zr146 : zro Tryz.prog 146 = some ([.nilFunc]) := by kernel_rfl
@[go_sem] theorem Tryz.tk148 : tk Tryz.prog 148 = .func := by kernel_rfl
@[go_sem] theorem Tryz.sz148 : sz Tryz.prog 148 = some 1 := by kernel_rfl
@[go_sem] theorem Tryz.by148 : by' Tryz.prog 148 = some 8 := by kernel_rfl
@[go_sem] theorem Tryz.zr148 : zro Tryz.prog 148 = some ([.nilFunc]) := by kernel_rfl
@[go_sem] theorem Tryz.tk149 : tk Tryz.prog 149 = .int .i64 := by kernel_rfl
@[go_sem] theorem Tryz.sz149 : sz Tryz.prog 149 = some 1 := by kernel_rfl
@[go_sem] theorem Tryz.by149 : by' Tryz.prog 149 = some 8 := by kernel_rfl
@[go_sem] theorem Tryz.un149 : (Tryz.prog.underlying 149).isSome = true := by kernel_rfl
@[go_sem] theorem Tryz.zr149 : zro Tryz.prog 149 = some ([.int .i64 0]) := by kernel_rfl
@[go_sem] theorem Tryz.tk151 : tk Tryz.prog 151 = .func := by kernel_rfl
@[go_sem] theorem Tryz.sz151 : sz Tryz.prog 151 = some 1 := by kernel_rfl
@[go_sem] theorem Tryz.by151 : by' Tryz.prog 151 = some 8 := by kernel_rfl
@[go_sem] theorem Tryz.zr151 : zro Tryz.prog 151 = some ([.nilFunc]) := by kernel_rfl
@[go_sem] theorem Tryz.tk152 : tk Tryz.prog 152 = .ptr 165 := by kernel_rfl
@[go_sem] theorem Tryz.sz152 : sz Tryz.prog 152 = some 1 := by kernel_rfl
@[go_sem] theorem Tryz.by152 : by' Tryz.prog 152 = some 8 := by kernel_rfl
@[go_sem] theorem Tryz.zr152 : zro Tryz.prog 152 = some ([.pointer none]) := by kernel_rfl
@[go_sem] theorem Tryz.tk153 : tk Tryz.prog 153 = .func := by kernel_rfl
@[go_sem] theorem Tryz.sz153 : sz Tryz.prog 153 = some 1 := by kernel_rfl
@[go_sem] theorem Tryz.by153 : by' Tryz.prog 153 = some 8 := by kernel_rfl
@[go_sem] theorem Tryz.zr153 : zro Tryz.prog 153 = some ([.nilFunc]) := by kernel_rfl
@[go_sem] theorem Tryz.tk154 : tk Tryz.prog 154 = .func := by kernel_rfl
@[go_sem] theorem Tryz.sz154 : sz Tryz.prog 154 = some 1 := by kernel_rfl
@[go_sem] theorem Tryz.by154 : by' Tryz.prog 154 = some 8 := by kernel_rfl
@[go_sem] theorem Tryz.zr154 : zro Tryz.prog 154 = some ([.nilFunc]) := by kernel_rfl
@[go_sem] theorem Tryz.tk155 : tk Tryz.prog 155 = .func := by kernel_rfl
@[go_sem] theorem Tryz.sz155 : sz Tryz.prog 155 = some 1 := by kernel_rfl
@[go_sem] theorem Tryz.by155 : by' Tryz.prog 155 = some 8 := by kernel_rfl
@[go_sem] theorem Tryz.zr155 : zro Tryz.prog 155 = some ([.nilFunc]) := by kernel_rfl
@[go_sem] theorem Tryz.tk156 : tk Tryz.prog 156 = .func := by kernel_rfl
@[go_sem] theorem Tryz.sz156 : sz Tryz.prog 156 = some 1 := by kernel_rfl
@[go_sem] theorem Tryz.by156 : by' Tryz.prog 156 = some 8 := by kernel_rfl
@[go_sem] theorem Tryz.zr156 : zro Tryz.prog 156 = some ([.nilFunc]) := by kernel_rfl
@[go_sem] theorem Tryz.tk157 : tk Tryz.prog 157 = .func := by kernel_rfl
@[go_sem] theorem Tryz.sz157 : sz Tryz.prog 157 = some 1 := by kernel_rfl
@[go_sem] theorem Tryz.by157 : by' Tryz.prog 157 = some 8 := by kernel_rfl
@[go_sem] theorem Tryz.zr157 : zro Tryz.prog 157 = some ([.nilFunc]) := by kernel_rfl
@[go_sem] theorem Tryz.tk158 : tk Tryz.prog 158 = .arr 20 144 := by kernel_rfl
@[go_sem] theorem Tryz.sz158 : sz Tryz.prog 158 = some 20 := by kernel_rfl
@[go_sem] theorem Tryz.by158 : by' Tryz.prog 158 = some 160 := by kernel_rfl
@[go_sem] theorem Tryz.eq158 : eqOk Tryz.prog 158 = true := by kernel_rfl
@[go_sem] theorem Tryz.zr158 : zro Tryz.prog 158 = some (List.replicate 20 (.int .u64 0)) := by kernel_rfl
@[go_sem] theorem Tryz.tk159 : tk Tryz.prog 159 = .arr 65 5 := by kernel_rfl
@[go_sem] theorem Tryz.sz159 : sz Tryz.prog 159 = some 65 := by kernel_rfl
@[go_sem] theorem Tryz.by159 : by' Tryz.prog 159 = some 65 := by kernel_rfl
@[go_sem] theorem Tryz.eq159 : eqOk Tryz.prog 159 = true := by kernel_rfl
@[go_sem] theorem Tryz.zr159 : zro Tryz.prog 159 = some (List.replicate 65 (.int .u8 0)) := by kernel_rfl
@[go_sem] theorem Tryz.tk160 : tk Tryz.prog 160 = .func := by kernel_rfl
@[go_sem] theorem Tryz.sz160 : sz Tryz.prog 160 = some 1 := by kernel_rfl
@[go_sem] theorem Tryz.by160 : by' Tryz.prog 160 = some 8 := by kernel_rfl
@[go_sem] theorem Tryz.zr160 : zro Tryz.prog 160 = some ([.nilFunc]) := by kernel_rfl
@[go_sem] theorem Tryz.tk162 : tk Tryz.prog 162 = .func := by kernel_rfl
@[go_sem] theorem Tryz.sz162 : sz Tryz.prog 162 = some 1 := by kernel_rfl
@[go_sem] theorem Tryz.by162 : by' Tryz.prog 162 = some 8 := by kernel_rfl
@[go_sem] theorem Tryz.zr162 : zro Tryz.prog 162 = some ([.nilFunc]) := by kernel_rfl
@[go_sem] theorem Tryz.tk163 : tk Tryz.prog 163 = .func := by kernel_rfl
@[go_sem] theorem Tryz.sz163 : sz Tryz.prog 163 = some 1 := by kernel_rfl
@[go_sem] theorem Tryz.by163 : by' Tryz.prog 163 = some 8 := by kernel_rfl
@[go_sem] theorem Tryz.zr163 : zro Tryz.prog 163 = some ([.nilFunc]) := by kernel_rfl
@[go_sem] theorem Tryz.tk164 : tk Tryz.prog 164 = .struct [(0, 9), (1, 9), (2, 116)] := by kernel_rfl
@[go_sem] theorem Tryz.sz164 : sz Tryz.prog 164 = some 3 := by kernel_rfl
@[go_sem] theorem Tryz.by164 : by' Tryz.prog 164 = some 48 := by kernel_rfl
@[go_sem] theorem Tryz.zr164 : zro Tryz.prog 164 = some ([.string ⟨#[]⟩, .string ⟨#[]⟩, .nilIface]) := by kernel_rfl
@[go_sem] theorem Tryz.tk165 : tk Tryz.prog 165 = .struct [(0, 9), (1, 9), (2, 116)] := by kernel_rfl
@[go_sem] theorem Tryz.sz165 : sz Tryz.prog 165 = some 3 := by kernel_rfl
@[go_sem] theorem Tryz.by165 : by' Tryz.prog 165 = some 48 := by kernel_rfl
@[go_sem] theorem Tryz.zr165 : zro Tryz.prog 165 = some ([.string ⟨#[]⟩, .string ⟨#[]⟩, .nilIface]) := by kernel_rfl
@[go_sem] theorem Tryz.tk166 : tk Tryz.prog 166 = .func := by kernel_rfl
@[go_sem] theorem Tryz.sz166 : sz Tryz.prog 166 = some 1 := by kernel_rfl
@[go_sem] theorem Tryz.by166 : by' Tryz.prog 166 = some 8 := by kernel_rfl
@[go_sem] theorem Tryz.zr166 : zro Tryz.prog 166 = some ([.nilFunc]) := by kernel_rfl
@[go_sem] theorem Tryz.tk167 : tk Tryz.prog 167 = .func := by kernel_rfl
@[go_sem] theorem Tryz.sz167 : sz Tryz.prog 167 = some 1 := by kernel_rfl
@[go_sem] theorem Tryz.by167 : by' Tryz.prog 167 = some 8 := by kernel_rfl
@[go_sem] theorem Tryz.zr167 : zro Tryz.prog 167 = some ([.nilFunc]) := by kernel_rfl
@[go_sem] theorem Tryz.tk168 : tk Tryz.prog 168 = .func := by kernel_rfl
@[go_sem] theorem Tryz.sz168 : sz Tryz.prog 168 = some 1 := by kernel_rfl
@[go_sem] theorem Tryz.by168 : by' Tryz.prog 168 = some 8 := by kernel_rfl
@[go_sem] theorem Tryz.zr168 : zro Tryz.prog 168 = some ([.nilFunc]) := by kernel_rfl
@[go_sem] theorem Tryz.tk169 : tk Tryz.prog 169 = .func := by kernel_rfl
@[go_sem] theorem Tryz.sz169 : sz Tryz.prog 169 = some 1 := by kernel_rfl
@[go_sem] theorem Tryz.by169 : by' Tryz.prog 169 = some 8 := by kernel_rfl
@[go_sem] theorem Tryz.zr169 : zro Tryz.prog 169 = some ([.nilFunc]) := by kernel_rfl
@[go_sem] theorem Tryz.tk170 : tk Tryz.prog 170 = .ptr 5 := by kernel_rfl
@[go_sem] theorem Tryz.sz170 : sz Tryz.prog 170 = some 1 := by kernel_rfl
@[go_sem] theorem Tryz.by170 : by' Tryz.prog 170 = some 8 := by kernel_rfl
@[go_sem] theorem Tryz.zr170 : zro Tryz.prog 170 = some ([.pointer none]) := by kernel_rfl
@[go_sem] theorem Tryz.tk171 : tk Tryz.prog 171 = .ptr 173 := by kernel_rfl
@[go_sem] theorem Tryz.sz171 : sz Tryz.prog 171 = some 1 := by kernel_rfl
@[go_sem] theorem Tryz.by171 : by' Tryz.prog 171 = some 8 := by kernel_rfl
@[go_sem] theorem Tryz.zr171 : zro Tryz.prog 171 = some ([.pointer none]) := by kernel_rfl
@[go_sem] theorem Tryz.tk172 : tk Tryz.prog 172 = .struct [(0, 9)] := by kernel_rfl
@[go_sem] theorem Tryz.sz172 : sz Tryz.prog 172 = some 1 := by kernel_rfl
@[go_sem] theorem Tryz.by172 : by' Tryz.prog 172 = some 16 := by kernel_rfl
@[go_sem] theorem Tryz.eq172 : eqOk Tryz.prog 172 = true := by kernel_rfl
@[go_sem] theorem Tryz.zr172 : zro Tryz.prog 172 = some ([.string ⟨#[]⟩]) := by kernel_rfl
@[go_sem] theorem Tryz.tk173 : tk Tryz.prog 173 = .struct [(0, 9)] := by kernel_rfl
@[go_sem] theorem Tryz.sz173 : sz Tryz.prog 173 = some 1 := by kernel_rfl
@[go_sem] theorem Tryz.by173 : by' Tryz.prog 173 = some 16 := by kernel_rfl
@[go_sem] theorem Tryz.eq173 : eqOk Tryz.prog 173 = true := by kernel_rfl
@[go_sem] theorem Tryz.zr173 : zro Tryz.prog 173 = some ([.string ⟨#[]⟩]) := by kernel_rfl
@[go_sem] theorem Tryz.tk175 : tk Tryz.prog 175 = .func := by kernel_rfl
@[go_sem] theorem Tryz.sz175 : sz Tryz.prog 175 = some 1 := by kernel_rfl
@[go_sem] theorem Tryz.by175 : by' Tryz.prog 175 = some 8 := by kernel_rfl
@[go_sem] theorem Tryz.zr175 : zro Tryz.prog 175 = some ([.nilFunc]) := by kernel_rfl
@[go_sem] theorem Tryz.tk176 : tk Tryz.prog 176 = .arr 32 5 := by kernel_rfl
@[go_sem] theorem Tryz.sz176 : sz Tryz.prog 176 = some 32 := by kernel_rfl
@[go_sem] theorem Tryz.by176 : by' Tryz.prog 176 = some 32 := by kernel_rfl
@[go_sem] theorem Tryz.eq176 : eqOk Tryz.prog 176 = true := by kernel_rfl
@[go_sem] theorem Tryz.zr176 : zro Tryz.prog 176 = some (List.replicate 32 (.int .u8 0)) := by kernel_rfl
@[go_sem] theorem Tryz.tk177 : tk Tryz.prog 177 = .arr 64 5 := by kernel_rfl
@[go_sem] theorem Tryz.sz177 : sz Tryz.prog 177 = some 64 := by kernel_rfl
@[go_sem] theorem Tryz.by177 : by' Tryz.prog 177 = some 64 := by kernel_rfl
@[go_sem] theorem Tryz.eq177 : eqOk Tryz.prog 177 = true := by kernel_rfl
@[go_sem] theorem Tryz.zr177 : zro Tryz.prog 177 = some (List.replicate 64 (.int .u8 0)) := by kernel_rfl
@[go_sem] theorem Tryz.tk178 : tk Tryz.prog 178 = .func := by kernel_rfl
@[go_sem] theorem Tryz.sz178 : sz Tryz.prog 178 = some 1 := by kernel_rfl
@[go_sem] theorem Tryz.by178 : by' Tryz.prog 178 = some 8 := by kernel_rfl
@[go_sem] theorem Tryz.zr178 : zro Tryz.prog 178 = some ([.nilFunc]) := by kernel_rfl
@[go_sem] theorem Tryz.tk179 : tk Tryz.prog 179 = .struct [(0, 17), (1, 17), (2, 17), (3, 9)] := by kernel_rfl
@[go_sem] theorem Tryz.sz179 : sz Tryz.prog 179 = some 4 := by kernel_rfl
@[go_sem] theorem Tryz.by179 : by' Tryz.prog 179 = some 40 := by kernel_rfl
@[go_sem] theorem Tryz.zr179 : zro Tryz.prog 179 = some ([.pointer none, .pointer none, .pointer none, .string ⟨#[]⟩]) := by kernel_rfl
@[go_sem] theorem Tryz.tk180 : tk Tryz.prog 180 = .struct [(0, 17), (1, 17), (2, 17), (3, 9)] := by kernel_rfl
@[go_sem] theorem Tryz.sz180 : sz Tryz.prog 180 = some 4 := by kernel_rfl
@[go_sem] theorem Tryz.by180 : by' Tryz.prog 180 = some 40 := by kernel_rfl
@[go_sem] theorem Tryz.zr180 : zro Tryz.prog 180 = some ([.pointer none, .pointer none, .pointer none, .string ⟨#[]⟩]) := by kernel_rfl
@[go_sem] theorem Tryz.tk181 : tk Tryz.prog 181 = .arr 0 16 := by kernel_rfl
@[go_sem] theorem Tryz.sz181 : sz Tryz.prog 181 = some 0 := by kernel_rfl
@[go_sem] theorem Tryz.by181 : by' Tryz.prog 181 = some 0 := by kernel_rfl
@[go_sem] theorem Tryz.zr181 : zro Tryz.prog 181 = some ([]) := by kernel_rfl
@[go_sem] theorem Tryz.tk182 : tk Tryz.prog 182 = .struct [(0, 181)] := by kernel_rfl
@[go_sem] theorem Tryz.sz182 : sz Tryz.prog 182 = some 0 := by kernel_rfl
@[go_sem] theorem Tryz.by182 : by' Tryz.prog 182 = some 0 := by kernel_rfl
@[go_sem] theorem Tryz.zr182 : zro Tryz.prog 182 = some ([]) := by kernel_rfl
@[go_sem] theorem Tryz.tk183 : tk Tryz.prog 183 = .struct [(0, 181)] := by kernel_rfl
@[go_sem] theorem Tryz.sz183 : sz Tryz.prog 183 = some 0 := by kernel_rfl
@[go_sem] theorem Tryz.by183 : by' Tryz.prog 183 = some 0 := by kernel_rfl
@[go_sem] theorem Tryz.zr183 : zro Tryz.prog 183 = some ([]) := by kernel_rfl
@[go_sem] theorem Tryz.tk184 : tk Tryz.prog 184 = .func := by kernel_rfl
@[go_sem] theorem Tryz.sz184 : sz Tryz.prog 184 = some 1 := by kernel_rfl
@[go_sem] theorem Tryz.by184 : by' Tryz.prog 184 = some 8 := by kernel_rfl
@[go_sem] theorem Tryz.zr184 : zro Tryz.prog 184 = some ([.nilFunc]) := by kernel_rfl
@[go_sem] theorem Tryz.tk185 : tk Tryz.prog 185 = .int .u8 := by kernel_rfl
@[go_sem] theorem Tryz.sz185 : sz Tryz.prog 185 = some 1 := by kernel_rfl
@[go_sem] theorem Tryz.by185 : by' Tryz.prog 185 = some 1 := by kernel_rfl
@[go_sem] theorem Tryz.un185 : (Tryz.prog.underlying 185).isSome = true := by kernel_rfl
@[go_sem] theorem Tryz.zr185 : zro Tryz.prog 185 = some ([.int .u8 0]) := by kernel_rfl
@[go_sem] theorem Tryz.tk186 : tk Tryz.prog 186 = .int .u8 := by kernel_rfl
@[go_sem] theorem Tryz.sz186 : sz Tryz.prog 186 = some 1 := by kernel_rfl
@[go_sem] theorem Tryz.by186 : by' Tryz.prog 186 = some 1 := by kernel_rfl
@[go_sem] theorem Tryz.un186 : (Tryz.prog.underlying 186).isSome = true := by kernel_rfl
@[go_sem] theorem Tryz.zr186 : zro Tryz.prog 186 = some ([.int .u8 0]) := by kernel_rfl
@[go_sem] theorem Tryz.tk187 : tk Tryz.prog 187 = .func := by kernel_rfl
@[go_sem] theorem Tryz.sz187 : sz Tryz.prog 187 = some 1 := by kernel_rfl
@[go_sem] theorem Tryz.by187 : by' Tryz.prog 187 = some 8 := by kernel_rfl
@[go_sem] theorem Tryz.zr187 : zro Tryz.prog 187 = some ([.nilFunc]) := by kernel_rfl
@[go_sem] theorem Tryz.tk188 : tk Tryz.prog 188 = .int .i32 := by kernel_rfl
@[go_sem] theorem Tryz.sz188 : sz Tryz.prog 188 = some 1 := by kernel_rfl
@[go_sem] theorem Tryz.by188 : by' Tryz.prog 188 = some 4 := by kernel_rfl
@[go_sem] theorem Tryz.un188 : (Tryz.prog.underlying 188).isSome = true := by kernel_rfl
@[go_sem] theorem Tryz.zr188 : zro Tryz.prog 188 = some ([.int .i32 0]) := by kernel_rfl
@[go_sem] theorem Tryz.tk189 : tk Tryz.prog 189 = .int .i32 := by kernel_rfl
@[go_sem] theorem Tryz.sz189 : sz Tryz.prog 189 = some 1 := by kernel_rfl
@[go_sem] theorem Tryz.by189 : by' Tryz.prog 189 = some 4 := by kernel_rfl
@[go_sem] theorem Tryz.un189 : (Tryz.prog.underlying 189).isSome = true := by kernel_rfl
@[go_sem] theorem Tryz.zr189 : zro Tryz.prog 189 = some ([.int .i32 0]) := by kernel_rfl
@[go_sem] theorem Tryz.tk190 : tk Tryz.prog 190 = .struct [(0, 12), (1, 12), (2, 110), (3, 185), (4, 5), (5, 5), (6, 186), (7, 187), (8, 170), (9, 188), (10, 189)] := by kernel_rfl
@[go_sem] theorem Tryz.sz190 : sz Tryz.prog 190 = some 11 := by kernel_rfl
@[go_sem] theorem Tryz.by190 : by' Tryz.prog 190 = some 48 := by kernel_rfl
@[go_sem] theorem Tryz.zr190 : zro Tryz.prog 190 = some ([.int .u64 0, .int .u64 0, .int .u32 0, .int .u8 0, .int .u8 0, .int .u8 0, .int .u8 0, .nilFunc, .pointer none, .int .i32 0, .int .i32 0]) := by kernel_rfl
@[go_sem] theorem Tryz.tk191 : tk Tryz.prog 191 = .struct [(0, 12), (1, 12), (2, 110), (3, 185), (4, 5), (5, 5), (6, 186), (7, 187), (8, 170), (9, 188), (10, 189)] := by kernel_rfl
@[go_sem] theorem Tryz.sz191 : sz Tryz.prog 191 = some 11 := by kernel_rfl
@[go_sem] theorem Tryz.by191 : by' Tryz.prog 191 = some 48 := by kernel_rfl
@[go_sem] theorem Tryz.zr191 : zro Tryz.prog 191 = some ([.int .u64 0, .int .u64 0, .int .u32 0, .int .u8 0, .int .u8 0, .int .u8 0, .int .u8 0, .nilFunc, .pointer none, .int .i32 0, .int .i32 0]) := by kernel_rfl
@[go_sem] theorem Tryz.tk192 : tk Tryz.prog 192 = .other := by kernel_rfl
@[go_sem] theorem Tryz.sz192 : sz Tryz.prog 192 = some 1 := by kernel_rfl
@[go_sem] theorem Tryz.by192 : by' Tryz.prog 192 = some 8 := by kernel_rfl
@[go_sem] theorem Tryz.zr192 : zro Tryz.prog 192 = some ([.pointer none]) := by kernel_rfl
end Go.Proofs.YtlpcdpjkdodmcaaGreatDoor
end

section
namespace Go.Proofs.YtlpcdpjkdodmcaaGreatDoor
open Go Go.AL
set_option maxRecDepth 10000
def cls (b : Nat) : Int := if b = 32 ∨ (9 ≤ b ∧ b ≤ 13 ∧ b ≠ 11) then 1 else if b = 36 then 4 else if (48 ≤ b ∧ b ≤ 57) ∨ (65 ≤ b ∧ b ≤ 90) ∨ (97 ≤ b ∧ b ≤ 122) ∨ b = 45 ∨ b = 95 ∨ b = 46 then 2 else if 32 < b ∧ b ≤ 126 then 3 else 0
def clsAr : List IV := colF .u8 256 fun j => cls j
theorem tab_set (k : Nat) (v : Int) (hv : cls k = v) : (rowsF .u8 256 fun j => if j < k then cls j else 0).set k [.v (.int .u8 v)] = rowsF .u8 256 fun j => if j < k + 1 then cls j else 0 := by
  refine rowsF_set .u8 _ _ v fun j _ => ?_
  by_cases h : j = k
  · subst h; simp [hv]
  · by_cases h' : j < k
    · have : j < k + 1 := by omega
      simp [h, h', this]
    · have : ¬ j < k + 1 := by omega
      simp [h, h', this]
theorem tab_same (k : Nat) (hv : cls k = 0) : (rowsF .u8 256 fun j => if j < k then cls j else 0) = rowsF .u8 256 fun j => if j < k + 1 then cls j else 0 := by
  refine rowsF_congr .u8 _ _ fun j _ => ?_
  by_cases h : j = k
  · subst h; simp [hv]
  · by_cases h' : j < k
    · have : j < k + 1 := by omega
      simp [h', this]
    · have : ¬ j < k + 1 := by omega
      simp [h', this]
theorem classes_spec : PFn Tryz.prog 76 [] (.ar clsAr) := by
  refine ACall.walk [0, 1, 2, 3, 4, 8, 25, 30, 67] [0] Tryz.func76 rfl Tryz.ntmps76 (by kernel_rfl) (by rfl) rfl fun W own I0 φ0 lay => ?_
  repeat (first | refine xA ?_ | refine xB ?_ | refine xC ?_ | refine xE ?_ | refine xD ?_ | refine xK ?_ | refine xS ?_ | refine xM ?_ | refine xT ?_ | refine xF ?_ | ((first | refine xR ?_ | refine xW ?_ | refine vq_id ?_); simp only [go_sem, Nat.reduceAdd, Nat.reduceLeDiff, Nat.reduceSub, Int.reduceToNat, reduceCtorEq]) | (refine ⟨by first | omega | (intros; simp_all; done) | (intros; simp_all; omega), ?_⟩; try simp only [go_sem, Nat.reduceAdd, Nat.reduceLeDiff, Nat.reduceSub, Int.reduceToNat, reduceCtorEq]))
  refine AP.loop rfl (α := Nat) (fun k => [(0, .ob 0 0), (3, .im (.v (.int .i64 k)))]) (fun k => [(0, .vec 129 1 (rowsF .u8 256 fun j => if j < k then cls j else 0))]) (fun k => k ≤ 256) (fun k => 256 - k) 0 (by simp) (Sub.cons rfl (Sub.cons rfl (Sub.nil _))) (by simp) fun k hk => ?_
  have hw := wr (x := (k : Int) + 1) (by omega)
  repeat (first | refine xA ?_ | refine xB ?_ | refine xC ?_ | refine xE ?_ | refine xD ?_ | refine xK ?_ | refine xS ?_ | refine xM ?_ | refine xT ?_ | refine xF ?_ | ((first | refine xR ?_ | refine xW ?_ | refine vq_id ?_); simp only [go_sem, Nat.reduceAdd, Nat.reduceLeDiff, Nat.reduceSub, Int.reduceToNat, reduceCtorEq, hw]) | (refine ⟨by first | omega | (intros; simp_all; done) | (intros; simp_all; omega), ?_⟩; try simp only [go_sem, Nat.reduceAdd, Nat.reduceLeDiff, Nat.reduceSub, Int.reduceToNat, reduceCtorEq, hw]))
  refine AP.cond rfl rfl (fun hc => ?_) (fun hc => ?_)
  · have hk' : k < 256 := by simp at hc; omega
    have hu : IntKind.u8.wrap (k : Int) = k := by simp [IntKind.wrap, IntKind.bits, IntKind.signed]; omega
    have fin : ∀ v : Int, cls k = v → _ := fun v hv => congrArg (fun x => [(0, Ob.vec 129 1 x)]) (tab_set k v hv)
    repeat (first | refine xA ?_ | refine xB ?_ | refine xC ?_ | refine xE ?_ | refine xD ?_ | refine xK ?_ | refine xS ?_ | refine xM ?_ | refine xT ?_ | refine xF ?_ | ((first | refine xR ?_ | refine xW ?_ | refine vq_id ?_); simp only [go_sem, Nat.reduceAdd, Nat.reduceLeDiff, Nat.reduceSub, Int.reduceToNat, reduceCtorEq, hw, hu, rowsF_get .u8 _ hk']) | (refine ⟨by first | omega | (intros; simp_all; done) | (intros; simp_all; omega), ?_⟩; try simp only [go_sem, Nat.reduceAdd, Nat.reduceLeDiff, Nat.reduceSub, Int.reduceToNat, reduceCtorEq, hw, hu, rowsF_get .u8 _ hk']))
    refine AP.cond rfl rfl (fun h1 => ?_) (fun h1 => ?_)
    · repeat (first | refine xA ?_ | refine xB ?_ | refine xC ?_ | refine xE ?_ | refine xD ?_ | refine xK ?_ | refine xS ?_ | refine xM ?_ | refine xT ?_ | refine xF ?_ | ((first | refine xR ?_ | refine xW ?_ | refine vq_id ?_); simp only [go_sem, Nat.reduceAdd, Nat.reduceLeDiff, Nat.reduceSub, Int.reduceToNat, reduceCtorEq, hw, hu, rowsF_get .u8 _ hk']) | (refine ⟨by first | omega | (intros; simp_all; done) | (intros; simp_all; omega), ?_⟩; try simp only [go_sem, Nat.reduceAdd, Nat.reduceLeDiff, Nat.reduceSub, Int.reduceToNat, reduceCtorEq, hw, hu, rowsF_get .u8 _ hk']))
      exact AE.round (k + 1) (by omega) (by omega) (Sub.cons rfl (Sub.cons rfl (Sub.nil _))) (fin 1 (by simp at h1; unfold cls; grind))
    · repeat (first | refine xA ?_ | refine xB ?_ | refine xC ?_ | refine xE ?_ | refine xD ?_ | refine xK ?_ | refine xS ?_ | refine xM ?_ | refine xT ?_ | refine xF ?_ | ((first | refine xR ?_ | refine xW ?_ | refine vq_id ?_); simp only [go_sem, Nat.reduceAdd, Nat.reduceLeDiff, Nat.reduceSub, Int.reduceToNat, reduceCtorEq, hw, hu, rowsF_get .u8 _ hk']) | (refine ⟨by first | omega | (intros; simp_all; done) | (intros; simp_all; omega), ?_⟩; try simp only [go_sem, Nat.reduceAdd, Nat.reduceLeDiff, Nat.reduceSub, Int.reduceToNat, reduceCtorEq, hw, hu, rowsF_get .u8 _ hk']))
      refine AP.cond rfl rfl (fun h2 => ?_) (fun h2 => ?_)
      · repeat (first | refine xA ?_ | refine xB ?_ | refine xC ?_ | refine xE ?_ | refine xD ?_ | refine xK ?_ | refine xS ?_ | refine xM ?_ | refine xT ?_ | refine xF ?_ | ((first | refine xR ?_ | refine xW ?_ | refine vq_id ?_); simp only [go_sem, Nat.reduceAdd, Nat.reduceLeDiff, Nat.reduceSub, Int.reduceToNat, reduceCtorEq, hw, hu, rowsF_get .u8 _ hk']) | (refine ⟨by first | omega | (intros; simp_all; done) | (intros; simp_all; omega), ?_⟩; try simp only [go_sem, Nat.reduceAdd, Nat.reduceLeDiff, Nat.reduceSub, Int.reduceToNat, reduceCtorEq, hw, hu, rowsF_get .u8 _ hk']))
        exact AE.round (k + 1) (by omega) (by omega) (Sub.cons rfl (Sub.cons rfl (Sub.nil _))) (fin 4 (by simp at h1 h2; unfold cls; grind))
      · repeat (first | refine xA ?_ | refine xB ?_ | refine xC ?_ | refine xE ?_ | refine xD ?_ | refine xK ?_ | refine xS ?_ | refine xM ?_ | refine xT ?_ | refine xF ?_ | ((first | refine xR ?_ | refine xW ?_ | refine vq_id ?_); simp only [go_sem, Nat.reduceAdd, Nat.reduceLeDiff, Nat.reduceSub, Int.reduceToNat, reduceCtorEq, hw, hu, rowsF_get .u8 _ hk']) | (refine ⟨by first | omega | (intros; simp_all; done) | (intros; simp_all; omega), ?_⟩; try simp only [go_sem, Nat.reduceAdd, Nat.reduceLeDiff, Nat.reduceSub, Int.reduceToNat, reduceCtorEq, hw, hu, rowsF_get .u8 _ hk']))
        refine AP.cond rfl rfl (fun h3 => ?_) (fun h3 => ?_)
        · repeat (first | refine xA ?_ | refine xB ?_ | refine xC ?_ | refine xE ?_ | refine xD ?_ | refine xK ?_ | refine xS ?_ | refine xM ?_ | refine xT ?_ | refine xF ?_ | ((first | refine xR ?_ | refine xW ?_ | refine vq_id ?_); simp only [go_sem, Nat.reduceAdd, Nat.reduceLeDiff, Nat.reduceSub, Int.reduceToNat, reduceCtorEq, hw, hu, rowsF_get .u8 _ hk']) | (refine ⟨by first | omega | (intros; simp_all; done) | (intros; simp_all; omega), ?_⟩; try simp only [go_sem, Nat.reduceAdd, Nat.reduceLeDiff, Nat.reduceSub, Int.reduceToNat, reduceCtorEq, hw, hu, rowsF_get .u8 _ hk']))
          exact AE.round (k + 1) (by omega) (by omega) (Sub.cons rfl (Sub.cons rfl (Sub.nil _))) (fin 2 (by simp at h1 h2 h3; unfold cls; grind))
        · repeat (first | refine xA ?_ | refine xB ?_ | refine xC ?_ | refine xE ?_ | refine xD ?_ | refine xK ?_ | refine xS ?_ | refine xM ?_ | refine xT ?_ | refine xF ?_ | ((first | refine xR ?_ | refine xW ?_ | refine vq_id ?_); simp only [go_sem, Nat.reduceAdd, Nat.reduceLeDiff, Nat.reduceSub, Int.reduceToNat, reduceCtorEq, hw, hu, rowsF_get .u8 _ hk']) | (refine ⟨by first | omega | (intros; simp_all; done) | (intros; simp_all; omega), ?_⟩; try simp only [go_sem, Nat.reduceAdd, Nat.reduceLeDiff, Nat.reduceSub, Int.reduceToNat, reduceCtorEq, hw, hu, rowsF_get .u8 _ hk']))
          refine AP.cond rfl rfl (fun h4 => ?_) (fun h4 => ?_)
          · repeat (first | refine xA ?_ | refine xB ?_ | refine xC ?_ | refine xE ?_ | refine xD ?_ | refine xK ?_ | refine xS ?_ | refine xM ?_ | refine xT ?_ | refine xF ?_ | ((first | refine xR ?_ | refine xW ?_ | refine vq_id ?_); simp only [go_sem, Nat.reduceAdd, Nat.reduceLeDiff, Nat.reduceSub, Int.reduceToNat, reduceCtorEq, hw, hu, rowsF_get .u8 _ hk']) | (refine ⟨by first | omega | (intros; simp_all; done) | (intros; simp_all; omega), ?_⟩; try simp only [go_sem, Nat.reduceAdd, Nat.reduceLeDiff, Nat.reduceSub, Int.reduceToNat, reduceCtorEq, hw, hu, rowsF_get .u8 _ hk']))
            exact AE.round (k + 1) (by omega) (by omega) (Sub.cons rfl (Sub.cons rfl (Sub.nil _))) (fin 3 (by simp at h1 h2 h3 h4; unfold cls; grind))
          · repeat (first | refine xA ?_ | refine xB ?_ | refine xC ?_ | refine xE ?_ | refine xD ?_ | refine xK ?_ | refine xS ?_ | refine xM ?_ | refine xT ?_ | refine xF ?_ | ((first | refine xR ?_ | refine xW ?_ | refine vq_id ?_); simp only [go_sem, Nat.reduceAdd, Nat.reduceLeDiff, Nat.reduceSub, Int.reduceToNat, reduceCtorEq, hw, hu, rowsF_get .u8 _ hk']) | (refine ⟨by first | omega | (intros; simp_all; done) | (intros; simp_all; omega), ?_⟩; try simp only [go_sem, Nat.reduceAdd, Nat.reduceLeDiff, Nat.reduceSub, Int.reduceToNat, reduceCtorEq, hw, hu, rowsF_get .u8 _ hk']))
            exact AE.round (k + 1) (by omega) (by omega) (Sub.cons rfl (Sub.cons rfl (Sub.nil _))) (congrArg (fun x => [(0, Ob.vec 129 1 x)]) (tab_same k (by simp at h1 h2 h3 h4; unfold cls; grind)))
  · repeat (first | refine xA ?_ | refine xB ?_ | refine xC ?_ | refine xE ?_ | refine xD ?_ | refine xK ?_ | refine xS ?_ | refine xM ?_ | refine xT ?_ | refine xF ?_ | ((first | refine xR ?_ | refine xW ?_ | refine vq_id ?_); simp only [go_sem, Nat.reduceAdd, Nat.reduceLeDiff, Nat.reduceSub, Int.reduceToNat, reduceCtorEq]) | (refine ⟨by first | omega | (intros; simp_all; done) | (intros; simp_all; omega), ?_⟩; try simp only [go_sem, Nat.reduceAdd, Nat.reduceLeDiff, Nat.reduceSub, Int.reduceToNat, reduceCtorEq]))
    refine AE.ret0 rfl ⟨⟨rfl, by rw [rowsF_flat, colF_len]; kernel_rfl⟩, trivial⟩ rfl ⟨rfl, ?_⟩
    simp only [tupOf, rowsF_flat, clsAr]
    rw [colF_congr]
    intro j hj
    have : j < k := by simp at hc; omega
    simp [this]
end Go.Proofs.YtlpcdpjkdodmcaaGreatDoor
end

section
namespace Go.Proofs.YtlpcdpjkdodmcaaGreatDoor
open Go Go.AL
set_option maxRecDepth 10000
def rowsI (k : IntKind) (l : List Int) : List (List IV) := l.map fun x => [.v (.int k x)]
theorem rowsI_len (k : IntKind) (l : List Int) : (rowsI k l).length = l.length := by simp [rowsI]
theorem rowsI_get (k : IntKind) (l : List Int) (i : Nat) (h : i < l.length) : (rowsI k l).getD i [] = [.v (.int k (l.getD i 0))] := by simp [rowsI, List.getD_eq_getElem?_getD, h]
attribute [go_sem] rowsI_len
def idx (l : List Int) (x : Int) : Int := if x ∈ l then l.idxOf x else -1
theorem idx_at (l : List Int) (x : Int) (k : Nat) (h : x ∉ l.take k) (hk : k < l.length) (e : x = l.getD k 0) : idx l x = k := by
  have hm : x ∈ l := by rw [e, List.getD_eq_getElem?_getD, List.getElem?_eq_getElem hk]; simp
  unfold idx
  rw [if_pos hm]
  have h1 : l.idxOf x < l.length := List.idxOf_lt_length_of_mem hm
  have h2 : ¬ l.idxOf x < k := fun hlt => h (by
    rw [List.mem_take_iff_getElem]
    exact ⟨l.idxOf x, by omega, by simp⟩)
  have h3 : l.idxOf x ≤ k := by
    rw [List.getD_eq_getElem?_getD, List.getElem?_eq_getElem hk] at e
    simp at e
    rcases Nat.lt_or_ge k (l.idxOf x) with h' | h'
    · have := List.not_of_lt_findIdx h'
      simp [← e] at this
    · exact h'
  omega
theorem take_step (l : List Int) (x : Int) (k : Nat) (h : x ∉ l.take k) (hk : k < l.length) (e : ¬ x = l.getD k 0) : x ∉ l.take (k + 1) := by
  rw [List.take_add_one, List.getElem?_eq_getElem hk]
  intro hm
  rw [List.getD_eq_getElem?_getD, List.getElem?_eq_getElem hk] at e
  rcases List.mem_append.1 hm with hm | hm
  · exact h hm
  · simp at hm e; exact e hm
theorem index_spec (l : List Int) (x : Int) (hl : l.length ≤ 1000000000) : PFn Tryz.prog 89 [.im (.sl 1 (rowsI .u8 l)), .im (.v (.int .u8 x))] (Iv (idx l x)) := by
  refine ACall.walk [0, 1, 4, 5, 7, 8, 9, 16] [] Tryz.func89 rfl Tryz.ntmps89 (by kernel_rfl) (by rfl) rfl fun W own I0 φ0 lay => ?_
  repeat (first | refine xA ?_ | refine xB ?_ | refine xC ?_ | refine xE ?_ | refine xD ?_ | refine xK ?_ | refine xS ?_ | refine xM ?_ | refine xT ?_ | refine xF ?_ | ((first | refine xR ?_ | refine xW ?_ | refine vq_id ?_); simp only [go_sem, Nat.reduceAdd, Nat.reduceLeDiff, Nat.reduceSub, Int.reduceToNat, reduceCtorEq]) | (refine ⟨by first | omega | (intros; simp_all; done) | (intros; simp_all; omega), ?_⟩; try simp only [go_sem, Nat.reduceAdd, Nat.reduceLeDiff, Nat.reduceSub, Int.reduceToNat, reduceCtorEq]))
  refine AP.loop rfl (α := Nat) (fun k => [(0, .im (.sl 1 (rowsI .u8 l))), (1, .im (.v (.int .u8 x))), (7, Iv l.length), (8, Iv k)]) (fun k => []) (fun k => k ≤ l.length ∧ x ∉ l.take k) (fun k => l.length - k) 0 (by simp) (Sub.cons rfl (Sub.cons rfl (Sub.cons rfl (Sub.cons rfl (Sub.nil _))))) (by simp) fun k hk => ?_
  obtain ⟨hk, hx⟩ := hk
  have hw := wr (x := (k : Int) + 1) (by omega)
  repeat (first | refine xA ?_ | refine xB ?_ | refine xC ?_ | refine xE ?_ | refine xD ?_ | refine xK ?_ | refine xS ?_ | refine xM ?_ | refine xT ?_ | refine xF ?_ | ((first | refine xR ?_ | refine xW ?_ | refine vq_id ?_); simp only [go_sem, Nat.reduceAdd, Nat.reduceLeDiff, Nat.reduceSub, Int.reduceToNat, reduceCtorEq, hw]) | (refine ⟨by first | omega | (intros; simp_all; done) | (intros; simp_all; omega), ?_⟩; try simp only [go_sem, Nat.reduceAdd, Nat.reduceLeDiff, Nat.reduceSub, Int.reduceToNat, reduceCtorEq, hw]))
  refine AP.cond rfl rfl (fun hc => ?_) (fun hc => ?_)
  · have hk' : k < l.length := by simp at hc; omega
    repeat (first | refine xA ?_ | refine xB ?_ | refine xC ?_ | refine xE ?_ | refine xD ?_ | refine xK ?_ | refine xS ?_ | refine xM ?_ | refine xT ?_ | refine xF ?_ | ((first | refine xR ?_ | refine xW ?_ | refine vq_id ?_); simp only [go_sem, Nat.reduceAdd, Nat.reduceLeDiff, Nat.reduceSub, Int.reduceToNat, reduceCtorEq, hw, rowsI_get .u8 _ _ hk']) | (refine ⟨by first | omega | (intros; simp_all; done) | (intros; simp_all; omega), ?_⟩; try simp only [go_sem, Nat.reduceAdd, Nat.reduceLeDiff, Nat.reduceSub, Int.reduceToNat, reduceCtorEq, hw, rowsI_get .u8 _ _ hk']))
    refine AP.cond rfl rfl (fun h1 => ?_) (fun h1 => ?_)
    · repeat (first | refine xA ?_ | refine xB ?_ | refine xC ?_ | refine xE ?_ | refine xD ?_ | refine xK ?_ | refine xS ?_ | refine xM ?_ | refine xT ?_ | refine xF ?_ | ((first | refine xR ?_ | refine xW ?_ | refine vq_id ?_); simp only [go_sem, Nat.reduceAdd, Nat.reduceLeDiff, Nat.reduceSub, Int.reduceToNat, reduceCtorEq, hw]) | (refine ⟨by first | omega | (intros; simp_all; done) | (intros; simp_all; omega), ?_⟩; try simp only [go_sem, Nat.reduceAdd, Nat.reduceLeDiff, Nat.reduceSub, Int.reduceToNat, reduceCtorEq, hw]))
      exact AE.ret rfl ⟨rfl, trivial⟩ ⟨rfl, by rw [idx_at l x k hx hk' (by simpa using h1)]; rfl⟩
    · repeat (first | refine xA ?_ | refine xB ?_ | refine xC ?_ | refine xE ?_ | refine xD ?_ | refine xK ?_ | refine xS ?_ | refine xM ?_ | refine xT ?_ | refine xF ?_ | ((first | refine xR ?_ | refine xW ?_ | refine vq_id ?_); simp only [go_sem, Nat.reduceAdd, Nat.reduceLeDiff, Nat.reduceSub, Int.reduceToNat, reduceCtorEq, hw]) | (refine ⟨by first | omega | (intros; simp_all; done) | (intros; simp_all; omega), ?_⟩; try simp only [go_sem, Nat.reduceAdd, Nat.reduceLeDiff, Nat.reduceSub, Int.reduceToNat, reduceCtorEq, hw]))
      exact AE.round (k + 1) ⟨by omega, take_step l x k hx hk' (by simpa using h1)⟩ (by omega) (Sub.cons rfl (Sub.cons rfl (Sub.cons rfl (Sub.cons rfl (Sub.nil _))))) rfl
  · repeat (first | refine xA ?_ | refine xB ?_ | refine xC ?_ | refine xE ?_ | refine xD ?_ | refine xK ?_ | refine xS ?_ | refine xM ?_ | refine xT ?_ | refine xF ?_ | ((first | refine xR ?_ | refine xW ?_ | refine vq_id ?_); simp only [go_sem, Nat.reduceAdd, Nat.reduceLeDiff, Nat.reduceSub, Int.reduceToNat, reduceCtorEq]) | (refine ⟨by first | omega | (intros; simp_all; done) | (intros; simp_all; omega), ?_⟩; try simp only [go_sem, Nat.reduceAdd, Nat.reduceLeDiff, Nat.reduceSub, Int.reduceToNat, reduceCtorEq]))
    refine AE.ret rfl ⟨rfl, trivial⟩ ⟨rfl, ?_⟩
    have : ¬ x ∈ l := by
      have hk' : k = l.length := by simp at hc; omega
      rw [hk', List.take_length] at hx; exact hx
    simp [idx, this, tupOf, AV.st]
theorem contains_spec (l : List Int) (x : Int) (hl : l.length ≤ 1000000000) : PFn Tryz.prog 77 [.im (.sl 1 (rowsI .u8 l)), .im (.v (.int .u8 x))] (Bv (decide (x ∈ l))) := by
  refine ACall.walk [0, 1, 4] [] Tryz.func77 rfl Tryz.ntmps77 (by kernel_rfl) (by rfl) rfl fun W own I0 φ0 lay => ?_
  repeat (first | refine xA ?_ | refine xB ?_ | refine xC ?_ | refine xE ?_ | refine xD ?_ | refine xK ?_ | refine xS ?_ | refine xM ?_ | refine xT ?_ | refine xF ?_ | ((first | refine xR ?_ | refine xW ?_ | refine vq_id ?_); simp only [go_sem, Nat.reduceAdd, Nat.reduceLeDiff, Nat.reduceSub, Int.reduceToNat, reduceCtorEq]) | (refine ⟨by first | omega | (intros; simp_all; done) | (intros; simp_all; omega), ?_⟩; try simp only [go_sem, Nat.reduceAdd, Nat.reduceLeDiff, Nat.reduceSub, Int.reduceToNat, reduceCtorEq]))
  refine AQ.fn (by kernel_rfl) rfl rfl rfl (index_spec l x hl) rfl ?_
  repeat (first | refine xA ?_ | refine xB ?_ | refine xC ?_ | refine xE ?_ | refine xD ?_ | refine xK ?_ | refine xS ?_ | refine xM ?_ | refine xT ?_ | refine xF ?_ | ((first | refine xR ?_ | refine xW ?_ | refine vq_id ?_); simp only [go_sem, Nat.reduceAdd, Nat.reduceLeDiff, Nat.reduceSub, Int.reduceToNat, reduceCtorEq]) | (refine ⟨by first | omega | (intros; simp_all; done) | (intros; simp_all; omega), ?_⟩; try simp only [go_sem, Nat.reduceAdd, Nat.reduceLeDiff, Nat.reduceSub, Int.reduceToNat, reduceCtorEq]))
  refine AE.ret rfl ⟨rfl, trivial⟩ ⟨rfl, ?_⟩
  simp only [tupOf, idx]
  split
  · simp [*, AV.st]
  · simp [*, AV.st]
end Go.Proofs.YtlpcdpjkdodmcaaGreatDoor
end

section
namespace Go.Proofs.YtlpcdpjkdodmcaaGreatDoor
open Go Go.AL Go.RowKit
set_option maxRecDepth 10000
def tabRows : List (List IV) := rowsF .u8 256 fun j => cls j
theorem tab_get (b : UInt8) : tabRows.getD b.toNat [] = [.v (.int .u8 (cls b.toNat))] := rowsF_get .u8 _ b.toNat_lt
theorem cls_map : clsAr.map (fun c => [c]) = tabRows := colF_rows _ _ _
theorem tabRows_len : tabRows.length = 256 := rowsF_len _ _ _
theorem clsAr_len : clsAr.length = 256 := colF_len _ _ _
attribute [go_sem] tab_get tabRows_len clsAr_len cls_map
theorem all_step (t : List UInt8) (p : UInt8 → Bool) (k : Nat) (hk : k < t.length) (h : (t.take k).all p = true) (h' : p (t.getD k 0) = true) : (t.take (k + 1)).all p = true := by
  rw [List.take_add_one, List.getElem?_eq_getElem hk, List.all_append, h]
  rw [List.getD_eq_getElem?_getD, List.getElem?_eq_getElem hk] at h'
  simpa using h'
theorem all_no (t : List UInt8) (p : UInt8 → Bool) (k : Nat) (hk : k < t.length) (h' : p (t.getD k 0) = false) : t.all p = false := by
  rw [List.getD_eq_getElem?_getD, List.getElem?_eq_getElem hk] at h'
  rw [List.all_eq_false]
  exact ⟨t[k], List.getElem_mem hk, by simpa using h'⟩
def onlyOk (t : List UInt8) (l : List Int) : Bool := !(t == []) && decide (t.length ≤ 60) && t.all fun b => decide (cls b.toNat ∈ l)
theorem only_spec (t : List UInt8) (l : List Int) (hl : l.length ≤ 1000000000) (ht : t.length ≤ 9223372036854775807) : PFn Tryz.prog 59 [Sv t, .im (.sl 1 (rowsI .u8 l))] (Bv (onlyOk t l)) := by
  refine ACall.walk [0, 1, 4, 5, 6, 13, 16, 17, 18, 27] [5] Tryz.func59 rfl Tryz.ntmps59 (by kernel_rfl) (by rfl) rfl fun W own I0 φ0 lay => ?_
  repeat (first | refine xA ?_ | refine xB ?_ | refine xC ?_ | refine xE ?_ | refine xD ?_ | refine xK ?_ | refine xS ?_ | refine xM ?_ | refine xT ?_ | refine xF ?_ | ((first | refine xR ?_ | refine xW ?_ | refine vq_id ?_); simp only [go_sem, Nat.reduceAdd, Nat.reduceLeDiff, Nat.reduceSub, Int.reduceToNat, reduceCtorEq]) | (refine ⟨by first | omega | (intros; simp_all; done) | (intros; simp_all; omega), ?_⟩; try simp only [go_sem, Nat.reduceAdd, Nat.reduceLeDiff, Nat.reduceSub, Int.reduceToNat, reduceCtorEq]))
  refine AP.cond rfl rfl (fun h1 => ?_) (fun h1 => ?_)
  · repeat (first | refine xA ?_ | refine xB ?_ | refine xC ?_ | refine xE ?_ | refine xD ?_ | refine xK ?_ | refine xS ?_ | refine xM ?_ | refine xT ?_ | refine xF ?_ | ((first | refine xR ?_ | refine xW ?_ | refine vq_id ?_); simp only [go_sem, Nat.reduceAdd, Nat.reduceLeDiff, Nat.reduceSub, Int.reduceToNat, reduceCtorEq]) | (refine ⟨by first | omega | (intros; simp_all; done) | (intros; simp_all; omega), ?_⟩; try simp only [go_sem, Nat.reduceAdd, Nat.reduceLeDiff, Nat.reduceSub, Int.reduceToNat, reduceCtorEq]))
    refine AE.ret rfl ⟨rfl, trivial⟩ ⟨rfl, ?_⟩
    have : onlyOk t l = false := by
      simp only [onlyOk, Bool.or_eq_true, decide_eq_true_eq] at h1 ⊢
      rcases h1 with h1 | h1
      · simp [h1]
      · have : ¬ t.length ≤ 60 := by omega
        simp [this]
    rw [this]; rfl
  · have ha : (t == []) = false ∧ t.length ≤ 60 := by simp at h1 ⊢; exact ⟨h1.1, by omega⟩
    repeat (first | refine xA ?_ | refine xB ?_ | refine xC ?_ | refine xE ?_ | refine xD ?_ | refine xK ?_ | refine xS ?_ | refine xM ?_ | refine xT ?_ | refine xF ?_ | ((first | refine xR ?_ | refine xW ?_ | refine vq_id ?_); simp only [go_sem, Nat.reduceAdd, Nat.reduceLeDiff, Nat.reduceSub, Int.reduceToNat, reduceCtorEq]) | (refine ⟨by first | omega | (intros; simp_all; done) | (intros; simp_all; omega), ?_⟩; try simp only [go_sem, Nat.reduceAdd, Nat.reduceLeDiff, Nat.reduceSub, Int.reduceToNat, reduceCtorEq]))
    refine AQ.fn (by kernel_rfl) rfl rfl rfl classes_spec rfl ?_
    repeat (first | refine xA ?_ | refine xB ?_ | refine xC ?_ | refine xE ?_ | refine xD ?_ | refine xK ?_ | refine xS ?_ | refine xM ?_ | refine xT ?_ | refine xF ?_ | ((first | refine xR ?_ | refine xW ?_ | refine vq_id ?_); simp only [go_sem, Nat.reduceAdd, Nat.reduceLeDiff, Nat.reduceSub, Int.reduceToNat, reduceCtorEq]) | (refine ⟨by first | omega | (intros; simp_all; done) | (intros; simp_all; omega), ?_⟩; try simp only [go_sem, Nat.reduceAdd, Nat.reduceLeDiff, Nat.reduceSub, Int.reduceToNat, reduceCtorEq]))
    refine AP.loop rfl (α := Nat) (fun k => [(0, Sv t), (1, .im (.sl 1 (rowsI .u8 l))), (5, .ob 0 0), (16, Iv t.length), (17, Iv k)]) (fun k => [(0, .vec 129 1 tabRows)]) (fun k => k ≤ t.length ∧ ((t.take k).all fun b => decide (cls b.toNat ∈ l)) = true) (fun k => t.length - k) 0 (by simp) (Sub.cons rfl (Sub.cons rfl (Sub.cons rfl (Sub.cons rfl (Sub.cons rfl (Sub.nil _)))))) (by simp) fun k hk => ?_
    obtain ⟨hk, hx⟩ := hk
    have hw := wr (x := (k : Int) + 1) (by omega)
    repeat (first | refine xA ?_ | refine xB ?_ | refine xC ?_ | refine xE ?_ | refine xD ?_ | refine xK ?_ | refine xS ?_ | refine xM ?_ | refine xT ?_ | refine xF ?_ | ((first | refine xR ?_ | refine xW ?_ | refine vq_id ?_); simp only [go_sem, Nat.reduceAdd, Nat.reduceLeDiff, Nat.reduceSub, Int.reduceToNat, reduceCtorEq, hw]) | (refine ⟨by first | omega | (intros; simp_all; done) | (intros; simp_all; omega), ?_⟩; try simp only [go_sem, Nat.reduceAdd, Nat.reduceLeDiff, Nat.reduceSub, Int.reduceToNat, reduceCtorEq, hw]))
    refine AP.cond rfl rfl (fun hc => ?_) (fun hc => ?_)
    · have hk' : k < t.length := by simp at hc; omega
      have hb := (t.getD k 0).toNat_lt
      repeat (first | refine xA ?_ | refine xB ?_ | refine xC ?_ | refine xE ?_ | refine xD ?_ | refine xK ?_ | refine xS ?_ | refine xM ?_ | refine xT ?_ | refine xF ?_ | ((first | refine xR ?_ | refine xW ?_ | refine vq_id ?_); simp only [go_sem, Nat.reduceAdd, Nat.reduceLeDiff, Nat.reduceSub, Int.reduceToNat, reduceCtorEq, hw]) | (refine ⟨by first | omega | (intros; simp_all; done) | (intros; simp_all; omega), ?_⟩; try simp only [go_sem, Nat.reduceAdd, Nat.reduceLeDiff, Nat.reduceSub, Int.reduceToNat, reduceCtorEq, hw]))
      refine AQ.fn (by kernel_rfl) rfl rfl rfl (contains_spec l (cls (t.getD k 0).toNat) hl) rfl ?_
      repeat (first | refine xA ?_ | refine xB ?_ | refine xC ?_ | refine xE ?_ | refine xD ?_ | refine xK ?_ | refine xS ?_ | refine xM ?_ | refine xT ?_ | refine xF ?_ | ((first | refine xR ?_ | refine xW ?_ | refine vq_id ?_); simp only [go_sem, Nat.reduceAdd, Nat.reduceLeDiff, Nat.reduceSub, Int.reduceToNat, reduceCtorEq, hw]) | (refine ⟨by first | omega | (intros; simp_all; done) | (intros; simp_all; omega), ?_⟩; try simp only [go_sem, Nat.reduceAdd, Nat.reduceLeDiff, Nat.reduceSub, Int.reduceToNat, reduceCtorEq, hw]))
      refine AP.cond rfl rfl (fun h2 => ?_) (fun h2 => ?_)
      · repeat (first | refine xA ?_ | refine xB ?_ | refine xC ?_ | refine xE ?_ | refine xD ?_ | refine xK ?_ | refine xS ?_ | refine xM ?_ | refine xT ?_ | refine xF ?_ | ((first | refine xR ?_ | refine xW ?_ | refine vq_id ?_); simp only [go_sem, Nat.reduceAdd, Nat.reduceLeDiff, Nat.reduceSub, Int.reduceToNat, reduceCtorEq, hw]) | (refine ⟨by first | omega | (intros; simp_all; done) | (intros; simp_all; omega), ?_⟩; try simp only [go_sem, Nat.reduceAdd, Nat.reduceLeDiff, Nat.reduceSub, Int.reduceToNat, reduceCtorEq, hw]))
        refine AE.ret0 rfl ⟨rfl, trivial⟩ rfl ⟨rfl, ?_⟩
        have : onlyOk t l = false := by
          rw [onlyOk, all_no t _ k hk' (by simpa using h2)]; simp
        rw [this]; rfl
      · repeat (first | refine xA ?_ | refine xB ?_ | refine xC ?_ | refine xE ?_ | refine xD ?_ | refine xK ?_ | refine xS ?_ | refine xM ?_ | refine xT ?_ | refine xF ?_ | ((first | refine xR ?_ | refine xW ?_ | refine vq_id ?_); simp only [go_sem, Nat.reduceAdd, Nat.reduceLeDiff, Nat.reduceSub, Int.reduceToNat, reduceCtorEq, hw]) | (refine ⟨by first | omega | (intros; simp_all; done) | (intros; simp_all; omega), ?_⟩; try simp only [go_sem, Nat.reduceAdd, Nat.reduceLeDiff, Nat.reduceSub, Int.reduceToNat, reduceCtorEq, hw]))
        exact AE.round (k + 1) ⟨by omega, all_step t _ k hk' hx (by simpa using h2)⟩ (by omega) (Sub.cons rfl (Sub.cons rfl (Sub.cons rfl (Sub.cons rfl (Sub.cons rfl (Sub.nil _)))))) rfl
    · repeat (first | refine xA ?_ | refine xB ?_ | refine xC ?_ | refine xE ?_ | refine xD ?_ | refine xK ?_ | refine xS ?_ | refine xM ?_ | refine xT ?_ | refine xF ?_ | ((first | refine xR ?_ | refine xW ?_ | refine vq_id ?_); simp only [go_sem, Nat.reduceAdd, Nat.reduceLeDiff, Nat.reduceSub, Int.reduceToNat, reduceCtorEq, hw]) | (refine ⟨by first | omega | (intros; simp_all; done) | (intros; simp_all; omega), ?_⟩; try simp only [go_sem, Nat.reduceAdd, Nat.reduceLeDiff, Nat.reduceSub, Int.reduceToNat, reduceCtorEq, hw]))
      refine AE.ret0 rfl ⟨rfl, trivial⟩ rfl ⟨rfl, ?_⟩
      have hk' : k = t.length := by simp at hc; omega
      rw [hk', List.take_length] at hx
      have : onlyOk t l = true := by rw [onlyOk, hx]; simp [ha]
      rw [this]; rfl
theorem isLabel_spec (t : List UInt8) (ht : t.length ≤ 9223372036854775807) : PFn Tryz.prog 62 [Sv t] (Bv (onlyOk t [2])) := by
  refine ACall.walk [0, 2] [] Tryz.func62 rfl Tryz.ntmps62 (by kernel_rfl) (by rfl) rfl fun W own I0 φ0 lay => ?_
  repeat (first | refine xA ?_ | refine xB ?_ | refine xC ?_ | refine xE ?_ | refine xD ?_ | refine xK ?_ | refine xS ?_ | refine xM ?_ | refine xT ?_ | refine xF ?_ | ((first | refine xR ?_ | refine xW ?_ | refine vq_id ?_); simp only [go_sem, Nat.reduceAdd, Nat.reduceLeDiff, Nat.reduceSub, Int.reduceToNat, reduceCtorEq]) | (refine ⟨by first | omega | (intros; simp_all; done) | (intros; simp_all; omega), ?_⟩; try simp only [go_sem, Nat.reduceAdd, Nat.reduceLeDiff, Nat.reduceSub, Int.reduceToNat, reduceCtorEq]))
  refine AQ.fn (by kernel_rfl) rfl rfl rfl (only_spec t [2] (by simp) ht) rfl ?_
  repeat (first | refine xA ?_ | refine xB ?_ | refine xC ?_ | refine xE ?_ | refine xD ?_ | refine xK ?_ | refine xS ?_ | refine xM ?_ | refine xT ?_ | refine xF ?_ | ((first | refine xR ?_ | refine xW ?_ | refine vq_id ?_); simp only [go_sem, Nat.reduceAdd, Nat.reduceLeDiff, Nat.reduceSub, Int.reduceToNat, reduceCtorEq]) | (refine ⟨by first | omega | (intros; simp_all; done) | (intros; simp_all; omega), ?_⟩; try simp only [go_sem, Nat.reduceAdd, Nat.reduceLeDiff, Nat.reduceSub, Int.reduceToNat, reduceCtorEq]))
  exact AE.ret rfl ⟨rfl, trivial⟩ ⟨rfl, rfl⟩
end Go.Proofs.YtlpcdpjkdodmcaaGreatDoor
end

section
namespace Go.Proofs.YtlpcdpjkdodmcaaGreatDoor
open Go Go.AL Go.RowKit
set_option maxRecDepth 10000
set_option maxHeartbeats 4000000
def sp (b : UInt8) : Bool := cls b.toNat == 1
def pr (b : UInt8) : Bool := !(cls b.toNat == 0) && !(sp b)
theorem byte_all {p : Nat → Bool} (h : (List.range 256).all p = true) (b : UInt8) : p b.toNat = true := by
  rw [List.all_eq_true] at h
  exact h _ (List.mem_range.2 b.toNat_lt)
theorem pr_eq (b : UInt8) : pr b = (decide (33 ≤ (b.toNat : Int)) && decide ((b.toNat : Int) ≤ 126)) := by
  have := byte_all (p := fun n => (!(cls n == 0) && !(cls n == 1)) == (decide (33 ≤ (n : Int)) && decide ((n : Int) ≤ 126))) (by decide +kernel) b
  rw [beq_iff_eq] at this
  exact this
theorem printable_spec (b : UInt8) : PFn Tryz.prog 78 [.im (.v (.int .u8 b.toNat))] (Bv (pr b)) := by
  refine ACall.walk [0, 2] [] Tryz.func78 rfl Tryz.ntmps78 (by kernel_rfl) (by rfl) rfl fun W own I0 φ0 lay => ?_
  repeat (first | refine xA ?_ | refine xB ?_ | refine xC ?_ | refine xE ?_ | refine xD ?_ | refine xK ?_ | refine xS ?_ | refine xM ?_ | refine xT ?_ | refine xF ?_ | ((first | refine xR ?_ | refine xW ?_ | refine vq_id ?_); simp only [go_sem, Nat.reduceAdd, Nat.reduceLeDiff, Nat.reduceSub, Int.reduceToNat, reduceCtorEq]) | (refine ⟨by first | omega | (intros; simp_all; done) | (intros; simp_all; omega), ?_⟩; try simp only [go_sem, Nat.reduceAdd, Nat.reduceLeDiff, Nat.reduceSub, Int.reduceToNat, reduceCtorEq]))
  refine AE.ret rfl ⟨rfl, trivial⟩ ⟨rfl, ?_⟩
  rw [pr_eq]; rfl
theorem isSymbol_spec (t : List UInt8) (ht : t.length ≤ 9223372036854775807) : PFn Tryz.prog 31 [Sv t] (Bv (onlyOk t [2, 3])) := by
  refine ACall.walk [0, 2] [] Tryz.func31 rfl Tryz.ntmps31 (by kernel_rfl) (by rfl) rfl fun W own I0 φ0 lay => ?_
  repeat (first | refine xA ?_ | refine xB ?_ | refine xC ?_ | refine xE ?_ | refine xD ?_ | refine xK ?_ | refine xS ?_ | refine xM ?_ | refine xT ?_ | refine xF ?_ | ((first | refine xR ?_ | refine xW ?_ | refine vq_id ?_); simp only [go_sem, Nat.reduceAdd, Nat.reduceLeDiff, Nat.reduceSub, Int.reduceToNat, reduceCtorEq]) | (refine ⟨by first | omega | (intros; simp_all; done) | (intros; simp_all; omega), ?_⟩; try simp only [go_sem, Nat.reduceAdd, Nat.reduceLeDiff, Nat.reduceSub, Int.reduceToNat, reduceCtorEq]))
  refine AQ.fn (by kernel_rfl) rfl rfl rfl (only_spec t [2, 3] (by simp) ht) rfl ?_
  repeat (first | refine xA ?_ | refine xB ?_ | refine xC ?_ | refine xE ?_ | refine xD ?_ | refine xK ?_ | refine xS ?_ | refine xM ?_ | refine xT ?_ | refine xF ?_ | ((first | refine xR ?_ | refine xW ?_ | refine vq_id ?_); simp only [go_sem, Nat.reduceAdd, Nat.reduceLeDiff, Nat.reduceSub, Int.reduceToNat, reduceCtorEq]) | (refine ⟨by first | omega | (intros; simp_all; done) | (intros; simp_all; omega), ?_⟩; try simp only [go_sem, Nat.reduceAdd, Nat.reduceLeDiff, Nat.reduceSub, Int.reduceToNat, reduceCtorEq]))
  exact AE.ret rfl ⟨rfl, trivial⟩ ⟨rfl, rfl⟩
def word (t : List UInt8) : Bool := t.all pr && !(t == [])
theorem isWord_ref (t : List UInt8) (ht : t.length ≤ 9223372036854775807) : PFn Tryz.prog 60 [Sv t] (Bv (word t)) := by
  refine ACall.walk [0, 2, 3, 7, 14] [] Tryz.func60 rfl Tryz.ntmps60 (by kernel_rfl) (by rfl) rfl fun W own I0 φ0 lay => ?_
  repeat (first | refine xA ?_ | refine xB ?_ | refine xC ?_ | refine xE ?_ | refine xD ?_ | refine xK ?_ | refine xS ?_ | refine xM ?_ | refine xT ?_ | refine xF ?_ | ((first | refine xR ?_ | refine xW ?_ | refine vq_id ?_); simp only [go_sem, Nat.reduceAdd, Nat.reduceLeDiff, Nat.reduceSub, Int.reduceToNat, reduceCtorEq]) | (refine ⟨by first | omega | (intros; simp_all; done) | (intros; simp_all; omega), ?_⟩; try simp only [go_sem, Nat.reduceAdd, Nat.reduceLeDiff, Nat.reduceSub, Int.reduceToNat, reduceCtorEq]))
  refine AP.loop rfl (α := Nat) (fun k => [(0, Sv t), (3, Iv k)]) (fun k => []) (fun k => k ≤ t.length ∧ (t.take k).all pr = true) (fun k => t.length - k) 0 (by simp) (by repeat (first | exact Sub.nil _ | refine Sub.cons rfl ?_)) (by simp) fun k hk => ?_
  obtain ⟨hk, hx⟩ := hk
  repeat (first | refine xA ?_ | refine xB ?_ | refine xC ?_ | refine xE ?_ | refine xD ?_ | refine xK ?_ | refine xS ?_ | refine xM ?_ | refine xT ?_ | refine xF ?_ | ((first | refine xR ?_ | refine xW ?_ | refine vq_id ?_); simp only [go_sem, Nat.reduceAdd, Nat.reduceLeDiff, Nat.reduceSub, Int.reduceToNat, reduceCtorEq]) | (refine ⟨by first | omega | (intros; simp_all; done) | (intros; simp_all; omega), ?_⟩; try simp only [go_sem, Nat.reduceAdd, Nat.reduceLeDiff, Nat.reduceSub, Int.reduceToNat, reduceCtorEq]))
  refine AP.cond rfl rfl (fun hc => ?_) (fun hc => ?_)
  · have hk' : k < t.length := by simp at hc; omega
    have hw := wr (x := (k : Int) + 1) (by omega)
    repeat (first | refine xA ?_ | refine xB ?_ | refine xC ?_ | refine xE ?_ | refine xD ?_ | refine xK ?_ | refine xS ?_ | refine xM ?_ | refine xT ?_ | refine xF ?_ | ((first | refine xR ?_ | refine xW ?_ | refine vq_id ?_); simp only [go_sem, Nat.reduceAdd, Nat.reduceLeDiff, Nat.reduceSub, Int.reduceToNat, reduceCtorEq, hw]) | (refine ⟨by first | omega | (intros; simp_all; done) | (intros; simp_all; omega), ?_⟩; try simp only [go_sem, Nat.reduceAdd, Nat.reduceLeDiff, Nat.reduceSub, Int.reduceToNat, reduceCtorEq, hw]))
    refine AQ.fn (by kernel_rfl) rfl rfl rfl (printable_spec (t.getD k 0)) rfl ?_
    repeat (first | refine xA ?_ | refine xB ?_ | refine xC ?_ | refine xE ?_ | refine xD ?_ | refine xK ?_ | refine xS ?_ | refine xM ?_ | refine xT ?_ | refine xF ?_ | ((first | refine xR ?_ | refine xW ?_ | refine vq_id ?_); simp only [go_sem, Nat.reduceAdd, Nat.reduceLeDiff, Nat.reduceSub, Int.reduceToNat, reduceCtorEq, hw]) | (refine ⟨by first | omega | (intros; simp_all; done) | (intros; simp_all; omega), ?_⟩; try simp only [go_sem, Nat.reduceAdd, Nat.reduceLeDiff, Nat.reduceSub, Int.reduceToNat, reduceCtorEq, hw]))
    refine AP.cond rfl rfl (fun h2 => ?_) (fun h2 => ?_)
    · repeat (first | refine xA ?_ | refine xB ?_ | refine xC ?_ | refine xE ?_ | refine xD ?_ | refine xK ?_ | refine xS ?_ | refine xM ?_ | refine xT ?_ | refine xF ?_ | ((first | refine xR ?_ | refine xW ?_ | refine vq_id ?_); simp only [go_sem, Nat.reduceAdd, Nat.reduceLeDiff, Nat.reduceSub, Int.reduceToNat, reduceCtorEq, hw]) | (refine ⟨by first | omega | (intros; simp_all; done) | (intros; simp_all; omega), ?_⟩; try simp only [go_sem, Nat.reduceAdd, Nat.reduceLeDiff, Nat.reduceSub, Int.reduceToNat, reduceCtorEq, hw]))
      refine AE.ret rfl ⟨rfl, trivial⟩ ⟨rfl, ?_⟩
      rw [word, all_no t pr k hk' (by simpa using h2)]; rfl
    · repeat (first | refine xA ?_ | refine xB ?_ | refine xC ?_ | refine xE ?_ | refine xD ?_ | refine xK ?_ | refine xS ?_ | refine xM ?_ | refine xT ?_ | refine xF ?_ | ((first | refine xR ?_ | refine xW ?_ | refine vq_id ?_); simp only [go_sem, Nat.reduceAdd, Nat.reduceLeDiff, Nat.reduceSub, Int.reduceToNat, reduceCtorEq, hw]) | (refine ⟨by first | omega | (intros; simp_all; done) | (intros; simp_all; omega), ?_⟩; try simp only [go_sem, Nat.reduceAdd, Nat.reduceLeDiff, Nat.reduceSub, Int.reduceToNat, reduceCtorEq, hw]))
      exact AE.round (k + 1) ⟨by omega, all_step t pr k hk' hx (by simpa using h2)⟩ (by omega) (by repeat (first | exact Sub.nil _ | refine Sub.cons rfl ?_)) rfl
  · repeat (first | refine xA ?_ | refine xB ?_ | refine xC ?_ | refine xE ?_ | refine xD ?_ | refine xK ?_ | refine xS ?_ | refine xM ?_ | refine xT ?_ | refine xF ?_ | ((first | refine xR ?_ | refine xW ?_ | refine vq_id ?_); simp only [go_sem, Nat.reduceAdd, Nat.reduceLeDiff, Nat.reduceSub, Int.reduceToNat, reduceCtorEq]) | (refine ⟨by first | omega | (intros; simp_all; done) | (intros; simp_all; omega), ?_⟩; try simp only [go_sem, Nat.reduceAdd, Nat.reduceLeDiff, Nat.reduceSub, Int.reduceToNat, reduceCtorEq]))
    have hk' : k = t.length := by simp at hc; omega
    rw [hk', List.take_length] at hx
    refine AE.ret rfl ⟨rfl, trivial⟩ ⟨rfl, ?_⟩
    rw [word, hx]; rfl
def nodol (t : List UInt8) : Bool := t.all fun b => !((b.toNat : Int) == 36)
theorem sym_byte (b : UInt8) : (!((b.toNat : Int) == 36) && pr b) = decide (cls b.toNat ∈ [2, 3]) := by
  have := byte_all (p := fun n => ((!((n : Int) == 36)) && (!(cls n == 0) && !(cls n == 1))) == decide (cls n ∈ [2, 3])) (by decide +kernel) b
  rw [beq_iff_eq] at this
  exact this
theorem all_and (t : List UInt8) (p q : UInt8 → Bool) : (t.all p && t.all q) = t.all fun b => p b && q b := by
  induction t with
  | nil => rfl
  | cons b t ih => simp only [List.all_cons, ← ih]; cases p b <;> cases q b <;> simp
theorem sym_eq (t : List UInt8) : (nodol t && (word t && decide (t.length ≤ 60))) = onlyOk t [2, 3] := by
  unfold word nodol onlyOk
  rw [← Bool.and_assoc, ← Bool.and_assoc, all_and]
  simp only [sym_byte]
  cases t.all fun b => decide (cls b.toNat ∈ [2, 3]) <;> cases (t == []) <;> simp
theorem isSymbol_ref (t : List UInt8) (ht : t.length ≤ 9223372036854775807) : PFn Tryz.prog 33 [Sv t] (Bv (onlyOk t [2, 3])) := by
  refine ACall.walk [0, 2, 3, 7, 13] [] Tryz.func33 rfl Tryz.ntmps33 (by kernel_rfl) (by rfl) rfl fun W own I0 φ0 lay => ?_
  repeat (first | refine xA ?_ | refine xB ?_ | refine xC ?_ | refine xE ?_ | refine xD ?_ | refine xK ?_ | refine xS ?_ | refine xM ?_ | refine xT ?_ | refine xF ?_ | ((first | refine xR ?_ | refine xW ?_ | refine vq_id ?_); simp only [go_sem, Nat.reduceAdd, Nat.reduceLeDiff, Nat.reduceSub, Int.reduceToNat, reduceCtorEq]) | (refine ⟨by first | omega | (intros; simp_all; done) | (intros; simp_all; omega), ?_⟩; try simp only [go_sem, Nat.reduceAdd, Nat.reduceLeDiff, Nat.reduceSub, Int.reduceToNat, reduceCtorEq]))
  refine AP.loop rfl (α := Nat) (fun k => [(0, Sv t), (3, Iv k)]) (fun k => []) (fun k => k ≤ t.length ∧ (t.take k).all (fun b => !((b.toNat : Int) == 36)) = true) (fun k => t.length - k) 0 (by simp) (by repeat (first | exact Sub.nil _ | refine Sub.cons rfl ?_)) (by simp) fun k hk => ?_
  obtain ⟨hk, hx⟩ := hk
  repeat (first | refine xA ?_ | refine xB ?_ | refine xC ?_ | refine xE ?_ | refine xD ?_ | refine xK ?_ | refine xS ?_ | refine xM ?_ | refine xT ?_ | refine xF ?_ | ((first | refine xR ?_ | refine xW ?_ | refine vq_id ?_); simp only [go_sem, Nat.reduceAdd, Nat.reduceLeDiff, Nat.reduceSub, Int.reduceToNat, reduceCtorEq]) | (refine ⟨by first | omega | (intros; simp_all; done) | (intros; simp_all; omega), ?_⟩; try simp only [go_sem, Nat.reduceAdd, Nat.reduceLeDiff, Nat.reduceSub, Int.reduceToNat, reduceCtorEq]))
  refine AP.cond rfl rfl (fun hc => ?_) (fun hc => ?_)
  · have hk' : k < t.length := by simp at hc; omega
    have hw := wr (x := (k : Int) + 1) (by omega)
    repeat (first | refine xA ?_ | refine xB ?_ | refine xC ?_ | refine xE ?_ | refine xD ?_ | refine xK ?_ | refine xS ?_ | refine xM ?_ | refine xT ?_ | refine xF ?_ | ((first | refine xR ?_ | refine xW ?_ | refine vq_id ?_); simp only [go_sem, Nat.reduceAdd, Nat.reduceLeDiff, Nat.reduceSub, Int.reduceToNat, reduceCtorEq, hw]) | (refine ⟨by first | omega | (intros; simp_all; done) | (intros; simp_all; omega), ?_⟩; try simp only [go_sem, Nat.reduceAdd, Nat.reduceLeDiff, Nat.reduceSub, Int.reduceToNat, reduceCtorEq, hw]))
    refine AP.cond rfl rfl (fun h2 => ?_) (fun h2 => ?_)
    · repeat (first | refine xA ?_ | refine xB ?_ | refine xC ?_ | refine xE ?_ | refine xD ?_ | refine xK ?_ | refine xS ?_ | refine xM ?_ | refine xT ?_ | refine xF ?_ | ((first | refine xR ?_ | refine xW ?_ | refine vq_id ?_); simp only [go_sem, Nat.reduceAdd, Nat.reduceLeDiff, Nat.reduceSub, Int.reduceToNat, reduceCtorEq, hw]) | (refine ⟨by first | omega | (intros; simp_all; done) | (intros; simp_all; omega), ?_⟩; try simp only [go_sem, Nat.reduceAdd, Nat.reduceLeDiff, Nat.reduceSub, Int.reduceToNat, reduceCtorEq, hw]))
      refine AE.ret rfl ⟨rfl, trivial⟩ ⟨rfl, ?_⟩
      rw [← sym_eq, nodol, all_no t _ k hk' (by rw [h2]; rfl)]; rfl
    · repeat (first | refine xA ?_ | refine xB ?_ | refine xC ?_ | refine xE ?_ | refine xD ?_ | refine xK ?_ | refine xS ?_ | refine xM ?_ | refine xT ?_ | refine xF ?_ | ((first | refine xR ?_ | refine xW ?_ | refine vq_id ?_); simp only [go_sem, Nat.reduceAdd, Nat.reduceLeDiff, Nat.reduceSub, Int.reduceToNat, reduceCtorEq, hw]) | (refine ⟨by first | omega | (intros; simp_all; done) | (intros; simp_all; omega), ?_⟩; try simp only [go_sem, Nat.reduceAdd, Nat.reduceLeDiff, Nat.reduceSub, Int.reduceToNat, reduceCtorEq, hw]))
      exact AE.round (k + 1) ⟨by omega, all_step t _ k hk' hx (by rw [h2]; rfl)⟩ (by omega) (by repeat (first | exact Sub.nil _ | refine Sub.cons rfl ?_)) rfl
  · repeat (first | refine xA ?_ | refine xB ?_ | refine xC ?_ | refine xE ?_ | refine xD ?_ | refine xK ?_ | refine xS ?_ | refine xM ?_ | refine xT ?_ | refine xF ?_ | ((first | refine xR ?_ | refine xW ?_ | refine vq_id ?_); simp only [go_sem, Nat.reduceAdd, Nat.reduceLeDiff, Nat.reduceSub, Int.reduceToNat, reduceCtorEq]) | (refine ⟨by first | omega | (intros; simp_all; done) | (intros; simp_all; omega), ?_⟩; try simp only [go_sem, Nat.reduceAdd, Nat.reduceLeDiff, Nat.reduceSub, Int.reduceToNat, reduceCtorEq]))
    have hk' : k = t.length := by simp at hc; omega
    rw [hk', List.take_length] at hx
    refine AQ.fn (by kernel_rfl) rfl rfl rfl (isWord_ref t ht) rfl ?_
    repeat (first | refine xA ?_ | refine xB ?_ | refine xC ?_ | refine xE ?_ | refine xD ?_ | refine xK ?_ | refine xS ?_ | refine xM ?_ | refine xT ?_ | refine xF ?_ | ((first | refine xR ?_ | refine xW ?_ | refine vq_id ?_); simp only [go_sem, Nat.reduceAdd, Nat.reduceLeDiff, Nat.reduceSub, Int.reduceToNat, reduceCtorEq]) | (refine ⟨by first | omega | (intros; simp_all; done) | (intros; simp_all; omega), ?_⟩; try simp only [go_sem, Nat.reduceAdd, Nat.reduceLeDiff, Nat.reduceSub, Int.reduceToNat, reduceCtorEq]))
    refine AE.ret rfl ⟨rfl, trivial⟩ ⟨rfl, ?_⟩
    rw [← sym_eq, nodol, hx]; 
    have : decide ((t.length : Int) ≤ 60) = decide (t.length ≤ 60) := by rw [decide_eq_decide]; omega
    simp only [tupOf, AV.st, this, Bool.true_and]
theorem lab_byte (b : UInt8) : (!(decide (97 ≤ (b.toNat : Int)) && decide ((b.toNat : Int) ≤ 122) || decide (65 ≤ (b.toNat : Int)) && decide ((b.toNat : Int) ≤ 90)) && (decide ((b.toNat : Int) < 48) || decide (57 < (b.toNat : Int))) && (b.toNat : Int) != 45 && (b.toNat : Int) != 95 && (b.toNat : Int) != 46) = !(decide (cls b.toNat ∈ [2])) := by
  have := byte_all (p := fun n => (!(decide (97 ≤ (n : Int)) && decide ((n : Int) ≤ 122) || decide (65 ≤ (n : Int)) && decide ((n : Int) ≤ 90)) && (decide ((n : Int) < 48) || decide (57 < (n : Int))) && (n : Int) != 45 && (n : Int) != 95 && (n : Int) != 46) == !(decide (cls n ∈ [2]))) (by decide +kernel) b
  rw [beq_iff_eq] at this
  exact this
theorem isLabel_ref (t : List UInt8) (ht : t.length ≤ 9223372036854775807) : PFn Tryz.prog 85 [Sv t] (Bv (onlyOk t [2])) := by
  refine ACall.walk [0, 2, 3, 4, 5, 9, 50] [] Tryz.func85 rfl Tryz.ntmps85 (by kernel_rfl) (by rfl) rfl fun W own I0 φ0 lay => ?_
  repeat (first | refine xA ?_ | refine xB ?_ | refine xC ?_ | refine xE ?_ | refine xD ?_ | refine xK ?_ | refine xS ?_ | refine xM ?_ | refine xT ?_ | refine xF ?_ | ((first | refine xR ?_ | refine xW ?_ | refine vq_id ?_); simp only [go_sem, Nat.reduceAdd, Nat.reduceLeDiff, Nat.reduceSub, Int.reduceToNat, reduceCtorEq]) | (refine ⟨by first | omega | (intros; simp_all; done) | (intros; simp_all; omega), ?_⟩; try simp only [go_sem, Nat.reduceAdd, Nat.reduceLeDiff, Nat.reduceSub, Int.reduceToNat, reduceCtorEq]))
  refine AP.loop rfl (α := Nat) (fun k => [(0, Sv t), (3, Iv k)]) (fun k => []) (fun k => k ≤ t.length ∧ (t.take k).all (fun b => decide (cls b.toNat ∈ [2])) = true) (fun k => t.length - k) 0 (by simp) (by repeat (first | exact Sub.nil _ | refine Sub.cons rfl ?_)) (by simp) fun k hk => ?_
  obtain ⟨hk, hx⟩ := hk
  repeat (first | refine xA ?_ | refine xB ?_ | refine xC ?_ | refine xE ?_ | refine xD ?_ | refine xK ?_ | refine xS ?_ | refine xM ?_ | refine xT ?_ | refine xF ?_ | ((first | refine xR ?_ | refine xW ?_ | refine vq_id ?_); simp only [go_sem, Nat.reduceAdd, Nat.reduceLeDiff, Nat.reduceSub, Int.reduceToNat, reduceCtorEq]) | (refine ⟨by first | omega | (intros; simp_all; done) | (intros; simp_all; omega), ?_⟩; try simp only [go_sem, Nat.reduceAdd, Nat.reduceLeDiff, Nat.reduceSub, Int.reduceToNat, reduceCtorEq]))
  refine AP.cond rfl rfl (fun hc => ?_) (fun hc => ?_)
  · have hk' : k < t.length := by simp at hc; omega
    have hw := wr (x := (k : Int) + 1) (by omega)
    repeat (first | refine xA ?_ | refine xB ?_ | refine xC ?_ | refine xE ?_ | refine xD ?_ | refine xK ?_ | refine xS ?_ | refine xM ?_ | refine xT ?_ | refine xF ?_ | ((first | refine xR ?_ | refine xW ?_ | refine vq_id ?_); simp only [go_sem, Nat.reduceAdd, Nat.reduceLeDiff, Nat.reduceSub, Int.reduceToNat, reduceCtorEq, hw]) | (refine ⟨by first | omega | (intros; simp_all; done) | (intros; simp_all; omega), ?_⟩; try simp only [go_sem, Nat.reduceAdd, Nat.reduceLeDiff, Nat.reduceSub, Int.reduceToNat, reduceCtorEq, hw]))
    refine AP.cond rfl rfl (fun h2 => ?_) (fun h2 => ?_)
    · repeat (first | refine xA ?_ | refine xB ?_ | refine xC ?_ | refine xE ?_ | refine xD ?_ | refine xK ?_ | refine xS ?_ | refine xM ?_ | refine xT ?_ | refine xF ?_ | ((first | refine xR ?_ | refine xW ?_ | refine vq_id ?_); simp only [go_sem, Nat.reduceAdd, Nat.reduceLeDiff, Nat.reduceSub, Int.reduceToNat, reduceCtorEq, hw]) | (refine ⟨by first | omega | (intros; simp_all; done) | (intros; simp_all; omega), ?_⟩; try simp only [go_sem, Nat.reduceAdd, Nat.reduceLeDiff, Nat.reduceSub, Int.reduceToNat, reduceCtorEq, hw]))
      rw [lab_byte, Bool.not_eq_true'] at h2
      refine AE.ret rfl ⟨rfl, trivial⟩ ⟨rfl, ?_⟩
      have : onlyOk t [2] = false := by rw [onlyOk, all_no t _ k hk' h2, Bool.and_false]
      rw [this]; rfl
    · repeat (first | refine xA ?_ | refine xB ?_ | refine xC ?_ | refine xE ?_ | refine xD ?_ | refine xK ?_ | refine xS ?_ | refine xM ?_ | refine xT ?_ | refine xF ?_ | ((first | refine xR ?_ | refine xW ?_ | refine vq_id ?_); simp only [go_sem, Nat.reduceAdd, Nat.reduceLeDiff, Nat.reduceSub, Int.reduceToNat, reduceCtorEq, hw]) | (refine ⟨by first | omega | (intros; simp_all; done) | (intros; simp_all; omega), ?_⟩; try simp only [go_sem, Nat.reduceAdd, Nat.reduceLeDiff, Nat.reduceSub, Int.reduceToNat, reduceCtorEq, hw]))
      rw [lab_byte, Bool.not_eq_false'] at h2
      exact AE.round (k + 1) ⟨by omega, all_step t _ k hk' hx h2⟩ (by omega) (by repeat (first | exact Sub.nil _ | refine Sub.cons rfl ?_)) rfl
  · repeat (first | refine xA ?_ | refine xB ?_ | refine xC ?_ | refine xE ?_ | refine xD ?_ | refine xK ?_ | refine xS ?_ | refine xM ?_ | refine xT ?_ | refine xF ?_ | ((first | refine xR ?_ | refine xW ?_ | refine vq_id ?_); simp only [go_sem, Nat.reduceAdd, Nat.reduceLeDiff, Nat.reduceSub, Int.reduceToNat, reduceCtorEq]) | (refine ⟨by first | omega | (intros; simp_all; done) | (intros; simp_all; omega), ?_⟩; try simp only [go_sem, Nat.reduceAdd, Nat.reduceLeDiff, Nat.reduceSub, Int.reduceToNat, reduceCtorEq]))
    have hk' : k = t.length := by simp at hc; omega
    rw [hk', List.take_length] at hx
    refine AE.ret rfl ⟨rfl, trivial⟩ ⟨rfl, ?_⟩
    have : decide ((t.length : Int) ≤ 60) = decide (t.length ≤ 60) := by rw [decide_eq_decide]; omega
    simp only [tupOf, AV.st, this, onlyOk, hx, Bool.and_true]
end Go.Proofs.YtlpcdpjkdodmcaaGreatDoor
end

section
namespace Go.Proofs.YtlpcdpjkdodmcaaGreatDoor
open Go Go.AL Go.RowKit
set_option maxRecDepth 10000
set_option maxHeartbeats 4000000
def adStep (s : Nat × Nat) (x : UInt8) : Nat × Nat := ((s.1 + x.toNat) % 65521, (s.2 + (s.1 + x.toNat) % 65521) % 65521)
def ad (l : List UInt8) : Nat × Nat := l.foldl adStep (1, 0)
def adSum (l : List UInt8) : Nat := (ad l).2 * 65536 + (ad l).1
theorem ad_step (l : List UInt8) (k : Nat) (hk : k < l.length) : ad (l.take (k + 1)) = adStep (ad (l.take k)) (l.getD k 0) := by
  rw [List.take_add_one, List.getElem?_eq_getElem hk, ad, List.foldl_append, List.getD_eq_getElem?_getD, List.getElem?_eq_getElem hk]
  rfl
theorem ad_lt (l : List UInt8) : (ad l).1 < 65521 ∧ (ad l).2 < 65521 := by
  rcases List.eq_nil_or_concat l with rfl | ⟨r, x, rfl⟩
  · exact ⟨by decide, by decide⟩
  · rw [List.concat_eq_append, ad, List.foldl_append]
    exact ⟨Nat.mod_lt _ (by decide), Nat.mod_lt _ (by decide)⟩
end Go.Proofs.YtlpcdpjkdodmcaaGreatDoor
end

section
namespace Go.Proofs.YtlpcdpjkdodmcaaGreatDoor
open Go Go.AL Go.RowKit
set_option maxRecDepth 10000
set_option maxHeartbeats 4000000
def be4 (n : Nat) : List UInt8 := [UInt8.ofNat (n / 16777216), UInt8.ofNat (n / 65536), UInt8.ofNat (n / 256), UInt8.ofNat n]
theorem u8w (m : Nat) : IntKind.u8.wrap (m : Int) = ((UInt8.ofNat m).toNat : Int) := by
  simp only [IntKind.wrap, IntKind.bits, IntKind.signed, UInt8.toNat_ofNat']
  simp
theorem fd (n : Nat) (k : Nat) : (n : Int).fdiv ((2 : Int) ^ k) = ((n / 2 ^ k : Nat) : Int) := by
  rw [Int.fdiv_eq_ediv_of_nonneg _ (by exact_mod_cast Nat.zero_le _)]
  norm_cast
end Go.Proofs.YtlpcdpjkdodmcaaGreatDoor
end

section
namespace Go.Proofs.YtlpcdpjkdodmcaaGreatDoor
open Go Go.AL Go.RowKit
set_option maxRecDepth 10000
set_option maxHeartbeats 4000000
end Go.Proofs.YtlpcdpjkdodmcaaGreatDoor
end

section
namespace Go.Proofs.YtlpcdpjkdodmcaaGreatDoor
open Go Go.AL Go.RowKit
set_option maxRecDepth 10000
set_option maxHeartbeats 4000000
theorem or_u32 (x y k : Nat) (hx : x < 2 ^ k) (hb : y * 2 ^ k + x < 4294967296) : bOr .u32 ((y * 2 ^ k : Nat) : Int) (x : Int) = ((y * 2 ^ k + x : Nat) : Int) := by
  show IntKind.u32.wrap ((BitVec.ofInt 32 ((y * 2 ^ k : Nat) : Int) ||| BitVec.ofInt 32 (x : Int)).toNat : Int) = _
  have e1 : (BitVec.ofInt 32 (x : Int)).toNat = x := by
    rw [BitVec.ofInt_natCast, BitVec.toNat_ofNat]
    exact Nat.mod_eq_of_lt (by omega)
  have e2 : (BitVec.ofInt 32 ((y * 2 ^ k : Nat) : Int)).toNat = y * 2 ^ k := by
    rw [BitVec.ofInt_natCast, BitVec.toNat_ofNat]
    exact Nat.mod_eq_of_lt (by omega)
  have e3 : y * 2 ^ k ||| x = y * 2 ^ k + x := by
    rw [← Nat.shiftLeft_eq, ← Nat.shiftLeft_add_eq_or_of_lt hx]
  rw [BitVec.toNat_or, e1, e2, e3]
  simp only [IntKind.wrap, IntKind.bits, IntKind.signed, Bool.false_and, Bool.false_eq_true, if_false]
  omega
theorem u32w (n : Nat) (h : n < 4294967296) : IntKind.u32.wrap (n : Int) = (n : Int) := by
  simp only [IntKind.wrap, IntKind.bits, IntKind.signed, Bool.false_and, Bool.false_eq_true, if_false]
  omega
abbrev A4 (n : Nat) : List IV := (be4 n).map fun x => .v (.int .u8 x.toNat)
theorem bytesOf_spec (n : Nat) (hn : n < 4294967296) : PFn Tryz.prog 55 [.im (.v (.int .u32 n))] (.ar (A4 n)) := by
  refine ACall.walk [0, 2] [2] Tryz.func55 rfl Tryz.ntmps55 (by kernel_rfl) (by rfl) rfl fun W own I0 φ0 lay => ?_
  have h1 := fd n (min 24 32)
  have h2 := fd n (min 16 32)
  have h3 := fd n (min 8 32)
  have w1 := u8w (n / 2 ^ min 24 32)
  have w2 := u8w (n / 2 ^ min 16 32)
  have w3 := u8w (n / 2 ^ min 8 32)
  have w4 := u8w n
  repeat (first | refine xA ?_ | refine xB ?_ | refine xC ?_ | refine xE ?_ | refine xD ?_ | refine xK ?_ | refine xS ?_ | refine xM ?_ | refine xT ?_ | refine xF ?_ | ((first | refine xR ?_ | refine xW ?_ | refine vq_id ?_); simp only [go_sem, Nat.reduceAdd, Nat.reduceLeDiff, Nat.reduceSub, Int.reduceToNat, reduceCtorEq, h1, h2, h3, w1, w2, w3, w4, Nat.reduceMul, List.set_cons_zero, List.set_cons_succ, List.map_cons, List.map_nil, List.length_cons, List.length_nil, List.flatten_cons, List.flatten_nil, List.cons_append, List.nil_append]) | (refine ⟨by first | omega | (intros; simp_all; done) | (intros; simp_all; omega), ?_⟩; try simp only [go_sem, Nat.reduceAdd, Nat.reduceLeDiff, Nat.reduceSub, Int.reduceToNat, reduceCtorEq, h1, h2, h3, w1, w2, w3, w4, Nat.reduceMul, List.set_cons_zero, List.set_cons_succ, List.map_cons, List.map_nil, List.length_cons, List.length_nil, List.flatten_cons, List.flatten_nil, List.cons_append, List.nil_append]))
  exact AE.ret0 rfl ⟨⟨rfl, rfl⟩, trivial⟩ rfl ⟨rfl, rfl⟩
abbrev P2 (s : Nat × Nat) : List IV := [.v (.int .u32 s.1), .v (.int .u32 s.2)]
theorem step_spec (s : Nat × Nat) (x : UInt8) (h1 : s.1 < 65521) (h2 : s.2 < 65521) : PFn Tryz.prog 75 [.agg [.im (.v (.int .u32 s.1)), .im (.v (.int .u32 s.2))], .im (.v (.int .u8 x.toNat))] (.ar (P2 (adStep s x))) := by
  have hb := x.toNat_lt
  obtain ⟨A, B⟩ := s
  simp only at h1 h2
  have e1 := u32w x.toNat (by omega)
  have e2 : IntKind.u32.wrap ((A : Int) + (x.toNat : Int)) = ((A + x.toNat : Nat) : Int) := by rw [← Int.natCast_add]; exact u32w (A + x.toNat) (by omega)
  have m1 : (((A + x.toNat : Nat) : Int)).tmod 65521 = ((A + x.toNat) % 65521 : Nat) := by rw [Int.tmod_eq_emod_of_nonneg (by omega)]; omega
  obtain ⟨A2, hA2⟩ : ∃ A2, (A + x.toNat) % 65521 = A2 := ⟨_, rfl⟩
  have h3 : A2 < 65521 := by omega
  rw [hA2] at m1
  have e5 : IntKind.u32.wrap ((B : Int) + (A2 : Int)) = ((B + A2 : Nat) : Int) := by rw [← Int.natCast_add]; exact u32w (B + A2) (by omega)
  have m2 : (((B + A2 : Nat) : Int)).tmod 65521 = ((B + A2) % 65521 : Nat) := by rw [Int.tmod_eq_emod_of_nonneg (by omega)]; omega
  refine ACall.walk [0, 1, 2, 4, 5] [4] Tryz.func75 rfl Tryz.ntmps75 (by kernel_rfl) (by rfl) rfl fun W own I0 φ0 lay => ?_
  repeat (first | refine xA ?_ | refine xB ?_ | refine xC ?_ | refine xE ?_ | refine xD ?_ | refine xK ?_ | refine xS ?_ | refine xM ?_ | refine xT ?_ | refine xF ?_ | ((first | refine xR ?_ | refine xW ?_ | refine vq_id ?_); simp only [go_sem, Nat.reduceAdd, Nat.reduceLeDiff, Nat.reduceSub, Int.reduceToNat, reduceCtorEq, P2, List.getD_cons_zero, List.getD_cons_succ, List.drop_succ_cons, List.drop_zero, List.take_succ_cons, List.take_zero, e1, e2, m1, e5, m2, Nat.reduceMul, List.set_cons_zero, List.set_cons_succ, List.map_cons, List.map_nil, List.length_cons, List.length_nil, List.flatten_cons, List.flatten_nil, List.cons_append, List.nil_append]) | (refine ⟨by first | omega | (intros; simp_all; done) | (intros; simp_all; omega), ?_⟩; try simp only [go_sem, Nat.reduceAdd, Nat.reduceLeDiff, Nat.reduceSub, Int.reduceToNat, reduceCtorEq, P2, List.getD_cons_zero, List.getD_cons_succ, List.drop_succ_cons, List.drop_zero, List.take_succ_cons, List.take_zero, e1, e2, m1, e5, m2, Nat.reduceMul, List.set_cons_zero, List.set_cons_succ, List.map_cons, List.map_nil, List.length_cons, List.length_nil, List.flatten_cons, List.flatten_nil, List.cons_append, List.nil_append]))
  refine AE.ret0 rfl ⟨⟨rfl, rfl⟩, trivial⟩ rfl ⟨rfl, ?_⟩
  simp only [tupOf, AV.st, adStep, hA2, P2]
  rfl
end Go.Proofs.YtlpcdpjkdodmcaaGreatDoor
end

section
namespace Go.Proofs.YtlpcdpjkdodmcaaGreatDoor
open Go Go.AL Go.RowKit
set_option maxRecDepth 10000
set_option maxHeartbeats 4000000
abbrev G2 (s : Nat × Nat) : List AV := [.im (.v (.int .u32 s.1)), .im (.v (.int .u32 s.2))]
theorem fold_spec (l : List UInt8) (hl : l.length ≤ 1000000000) : PFn Tryz.prog 74 [.im (.sl 1 (byteR l)), .agg (G2 (1, 0)), .fn 75 [] []] (.ar (P2 (ad l))) := by
  refine ACall.walk [0, 1, 2, 4, 6, 8, 9, 10, 11, 12] [4, 6] Tryz.func74 rfl Tryz.ntmps74 (by kernel_rfl) (by rfl) rfl fun W own I0 φ0 lay => ?_
  repeat (first | refine xA ?_ | refine xB ?_ | refine xC ?_ | refine xE ?_ | refine xD ?_ | refine xK ?_ | refine xS ?_ | refine xM ?_ | refine xT ?_ | refine xF ?_ | ((first | refine xR ?_ | refine xW ?_ | refine vq_id ?_); simp only [go_sem, Nat.reduceAdd, Nat.reduceLeDiff, Nat.reduceSub, Int.reduceToNat, reduceCtorEq, G2]) | (refine ⟨by first | omega | (intros; simp_all; done) | (intros; simp_all; omega), ?_⟩; try simp only [go_sem, Nat.reduceAdd, Nat.reduceLeDiff, Nat.reduceSub, Int.reduceToNat, reduceCtorEq, G2]))
  refine AP.loop rfl (α := Nat) (fun k => [(2, .fn 75 [] []), (4, .ob 0 0), (6, .ob 1 0), (9, .im (.sl 1 (byteR l))), (10, Iv l.length), (11, Iv k)]) (fun k => [(1, .vec 126 1 [[.v (.int .u32 0)], [.v (.int .u32 0)]]), (0, .var 126 (G2 (ad (l.take k))))]) (fun k => k ≤ l.length) (fun k => l.length - k) 0 (by simp) (by rw [← byteR_len]; exact (by repeat (first | exact Sub.nil _ | refine Sub.cons rfl ?_))) rfl fun k hk => ?_
  have hw := wr (x := (k : Int) + 1) (by omega)
  obtain ⟨h1, h2⟩ := ad_lt (l.take k)
  repeat (first | refine xA ?_ | refine xB ?_ | refine xC ?_ | refine xE ?_ | refine xD ?_ | refine xK ?_ | refine xS ?_ | refine xM ?_ | refine xT ?_ | refine xF ?_ | ((first | refine xR ?_ | refine xW ?_ | refine vq_id ?_); simp only [go_sem, Nat.reduceAdd, Nat.reduceLeDiff, Nat.reduceSub, Int.reduceToNat, reduceCtorEq, hw]) | (refine ⟨by first | omega | (intros; simp_all; done) | (intros; simp_all; omega), ?_⟩; try simp only [go_sem, Nat.reduceAdd, Nat.reduceLeDiff, Nat.reduceSub, Int.reduceToNat, reduceCtorEq, hw]))
  refine AP.cond rfl rfl (fun hc => ?_) (fun hc => ?_)
  · have hk' : k < l.length := by simp at hc; omega
    have hst := ad_step l k hk'
    have hg := byteR_get l k hk'
    have hsp := step_spec (ad (l.take k)) (l.getD k 0) h1 h2
    rw [← hst] at hsp
    have e1 : byteR_len l = byteR_len l := rfl
    repeat (first | refine xA ?_ | refine xB ?_ | refine xC ?_ | refine xE ?_ | refine xD ?_ | refine xK ?_ | refine xS ?_ | refine xM ?_ | refine xT ?_ | refine xF ?_ | ((first | refine xR ?_ | refine xW ?_ | refine vq_id ?_); simp only [go_sem, Nat.reduceAdd, Nat.reduceLeDiff, Nat.reduceSub, Int.reduceToNat, reduceCtorEq, hw, byteR_len, hg, G2]) | (refine ⟨by first | omega | (intros; simp_all; done) | (intros; simp_all; omega), ?_⟩; try simp only [go_sem, Nat.reduceAdd, Nat.reduceLeDiff, Nat.reduceSub, Int.reduceToNat, reduceCtorEq, hw, byteR_len, hg, G2]))
    refine AQ.fnL ([.agg (G2 (ad (l.take k))), .im (.v (.int .u8 (l.getD k 0).toNat))]) (by kernel_rfl) rfl rfl rfl (by ((try simp only [List.nil_append, List.append_nil, List.cons_append, List.map_cons, List.map_nil, AV.st, constAV]); repeat (first | with_reducible exact LentC.nil | with_reducible exact LentAs.nil | with_reducible refine LentC.cons ?_ ?_ | with_reducible refine LentAs.cons ?_ ?_ | with_reducible exact Lent.im _ | with_reducible exact LentA.im _ | with_reducible refine LentA.of ?_ | with_reducible refine LentA.agg ?_ | ((with_reducible apply Lent.osw); rfl; simp only [blkR_len, wrR_len, byteR_len, List.length_append, List.length_cons, List.length_nil]) | ((with_reducible apply Lent.ob0); rfl)))) (hsp) rfl (fun _ => rfl) ?_
    repeat (first | refine xA ?_ | refine xB ?_ | refine xC ?_ | refine xE ?_ | refine xD ?_ | refine xK ?_ | refine xS ?_ | refine xM ?_ | refine xT ?_ | refine xF ?_ | ((first | refine xR ?_ | refine xW ?_ | refine vq_id ?_); simp only [go_sem, Nat.reduceAdd, Nat.reduceLeDiff, Nat.reduceSub, Int.reduceToNat, reduceCtorEq, hw, byteR_len, hg, G2]) | (refine ⟨by first | omega | (intros; simp_all; done) | (intros; simp_all; omega), ?_⟩; try simp only [go_sem, Nat.reduceAdd, Nat.reduceLeDiff, Nat.reduceSub, Int.reduceToNat, reduceCtorEq, hw, byteR_len, hg, G2]))
    refine AE.round (k + 1) (by omega) (by omega) (by repeat (first | exact Sub.nil _ | refine Sub.cons rfl ?_)) rfl
  · have hk' : k = l.length := by simp at hc; omega
    rw [hk', List.take_length] at h1 h2 ⊢
    repeat (first | refine xA ?_ | refine xB ?_ | refine xC ?_ | refine xE ?_ | refine xD ?_ | refine xK ?_ | refine xS ?_ | refine xM ?_ | refine xT ?_ | refine xF ?_ | ((first | refine xR ?_ | refine xW ?_ | refine vq_id ?_); simp only [go_sem, Nat.reduceAdd, Nat.reduceLeDiff, Nat.reduceSub, Int.reduceToNat, reduceCtorEq, G2]) | (refine ⟨by first | omega | (intros; simp_all; done) | (intros; simp_all; omega), ?_⟩; try simp only [go_sem, Nat.reduceAdd, Nat.reduceLeDiff, Nat.reduceSub, Int.reduceToNat, reduceCtorEq, G2]))
    exact AE.ret0 rfl ⟨⟨rfl, rfl⟩, trivial⟩ rfl ⟨rfl, rfl⟩
theorem checksum_spec (l : List UInt8) (hl : l.length ≤ 1000000000) : PFn Tryz.prog 56 [.im (.sl 1 (byteR l))] (.im (.v (.int .u32 (adSum l)))) := by
  refine ACall.walk [0, 2, 3] [3] Tryz.func56 rfl Tryz.ntmps56 (by kernel_rfl) (by rfl) rfl fun W own I0 φ0 lay => ?_
  repeat (first | refine xA ?_ | refine xB ?_ | refine xC ?_ | refine xE ?_ | refine xD ?_ | refine xK ?_ | refine xS ?_ | refine xM ?_ | refine xT ?_ | refine xF ?_ | ((first | refine xR ?_ | refine xW ?_ | refine vq_id ?_); simp only [go_sem, Nat.reduceAdd, Nat.reduceLeDiff, Nat.reduceSub, Int.reduceToNat, reduceCtorEq, G2]) | (refine ⟨by first | omega | (intros; simp_all; done) | (intros; simp_all; omega), ?_⟩; try simp only [go_sem, Nat.reduceAdd, Nat.reduceLeDiff, Nat.reduceSub, Int.reduceToNat, reduceCtorEq, G2]))
  refine AQ.fn (by kernel_rfl) rfl rfl rfl (fold_spec l hl) rfl ?_
  repeat (first | refine xA ?_ | refine xB ?_ | refine xC ?_ | refine xE ?_ | refine xD ?_ | refine xK ?_ | refine xS ?_ | refine xM ?_ | refine xT ?_ | refine xF ?_ | ((first | refine xR ?_ | refine xW ?_ | refine vq_id ?_); simp only [go_sem, Nat.reduceAdd, Nat.reduceLeDiff, Nat.reduceSub, Int.reduceToNat, reduceCtorEq, P2]) | (refine ⟨by first | omega | (intros; simp_all; done) | (intros; simp_all; omega), ?_⟩; try simp only [go_sem, Nat.reduceAdd, Nat.reduceLeDiff, Nat.reduceSub, Int.reduceToNat, reduceCtorEq, P2]))
  refine AE.ret0 rfl ⟨rfl, trivial⟩ rfl ⟨rfl, ?_⟩
  obtain ⟨h1, h2⟩ := ad_lt l
  have e1 : IntKind.u32.wrap (((ad l).2 : Int) * 2 ^ min 16 32) = (((ad l).2 * 2 ^ 16 : Nat) : Int) := by
    rw [show (2 : Int) ^ min 16 32 = ((65536 : Nat) : Int) from rfl, ← Int.natCast_mul]
    exact u32w ((ad l).2 * 65536) (by omega)
  have e2 := or_u32 (ad l).1 (ad l).2 16 (by omega) (by omega)
  simp only [tupOf, AV.st]
  rw [e1, e2]
  rfl
end Go.Proofs.YtlpcdpjkdodmcaaGreatDoor
end

section
namespace Go.Proofs
open Go.Shelf
def Tryz.laysM171_ren : Go.Shelf.Ren := ⟨fun | 171 => 36 | 243 => 67 | 246 => 80 | 283 => 91 | 284 => 92 | 285 => 93 | 286 => 94 | 129 => 102 | 317 => 101 | 318 => 103 | 319 => 104 | 320 => 105 | 337 => 113 | 338 => 114 | n => n, fun | 3 => 3 | 9 => 9 | 2 => 2 | 4 => 4 | 171 => 143 | 0 => 0 | 53 => 144 | 37 => 76 | 5 => 5 | 173 => 147 | 212 => 158 | 51 => 110 | 20 => 20 | 213 => 159 | 46 => 125 | 232 => 176 | 233 => 177 | n => n, fun | 17 => 0 | 18 => 4 | 19 => 5 | n => n⟩
theorem Tryz.laysM171 : Go.Proofs.LaysM.n171 Tryz.prog Tryz.laysM171_ren := {
  mixed := by kernel_rfl
  f129 := Tryz.func102.trans (congrArg some (by kernel_rfl))
  f171 := Tryz.func36.trans (congrArg some (by kernel_rfl))
  f243 := Tryz.func67.trans (congrArg some (by kernel_rfl))
  f246 := Tryz.func80.trans (congrArg some (by kernel_rfl))
  f283 := Tryz.func91.trans (congrArg some (by kernel_rfl))
  f284 := Tryz.func92.trans (congrArg some (by kernel_rfl))
  f285 := Tryz.func93.trans (congrArg some (by kernel_rfl))
  f286 := Tryz.func94.trans (congrArg some (by kernel_rfl))
  f317 := Tryz.func101.trans (congrArg some (by kernel_rfl))
  f318 := Tryz.func103.trans (congrArg some (by kernel_rfl))
  f319 := Tryz.func104.trans (congrArg some (by kernel_rfl))
  f320 := Tryz.func105.trans (congrArg some (by kernel_rfl))
  f337 := Tryz.func113.trans (congrArg some (by kernel_rfl))
  f338 := Tryz.func114.trans (congrArg some (by kernel_rfl))
  t0 := Tryz.underlying0
  a0 := Tryz.isAgg0
  z0 := Tryz.sizeOf0
  v0 := Tryz.zeroValue0
  t2 := Tryz.underlying2
  a2 := Tryz.isAgg2
  z2 := Tryz.sizeOf2
  v2 := Tryz.zeroValue2
  t3 := Tryz.underlying3
  a3 := Tryz.isAgg3
  z3 := Tryz.sizeOf3
  v3 := Tryz.zeroValue3
  t4 := Tryz.underlying4
  a4 := Tryz.isAgg4
  z4 := Tryz.sizeOf4
  v4 := Tryz.zeroValue4
  t5 := Tryz.underlying5
  a5 := Tryz.isAgg5
  z5 := Tryz.sizeOf5
  v5 := Tryz.zeroValue5
  t9 := Tryz.underlying9
  a9 := Tryz.isAgg9
  z9 := Tryz.sizeOf9
  v9 := Tryz.zeroValue9
  t20 := Tryz.underlying20
  a20 := Tryz.isAgg20
  z20 := Tryz.sizeOf20
  v20 := Tryz.zeroValue20
  t37 := Tryz.underlying76
  a37 := Tryz.isAgg76
  z37 := Tryz.sizeOf76
  v37 := Tryz.zeroValue76
  t46 := Tryz.underlying125
  a46 := Tryz.isAgg125
  z46 := Tryz.sizeOf125
  v46 := Tryz.zeroValue125
  t51 := Tryz.underlying110
  a51 := Tryz.isAgg110
  z51 := Tryz.sizeOf110
  v51 := Tryz.zeroValue110
  t53 := Tryz.underlying144
  a53 := Tryz.isAgg144
  z53 := Tryz.sizeOf144
  v53 := Tryz.zeroValue144
  t171 := Tryz.underlying143
  a171 := Tryz.isAgg143
  z171 := Tryz.sizeOf143
  v171 := Tryz.zeroValue143
  t173 := Tryz.underlying147
  a173 := Tryz.isAgg147
  z173 := Tryz.sizeOf147
  v173 := Tryz.zeroValue147
  t212 := Tryz.underlying158
  a212 := Tryz.isAgg158
  z212 := Tryz.sizeOf158
  v212 := Tryz.zeroValue158
  t213 := Tryz.underlying159
  a213 := Tryz.isAgg159
  z213 := Tryz.sizeOf159
  t232 := Tryz.underlying176
  a232 := Tryz.isAgg176
  z232 := Tryz.sizeOf176
  v232 := Tryz.zeroValue176
  t233 := Tryz.underlying177
  a233 := Tryz.isAgg177
  z233 := Tryz.sizeOf177
  v233 := Tryz.zeroValue177
  g17 := by kernel_rfl
  g18 := by kernel_rfl
  g19 := by kernel_rfl
  i0 := by kernel_rfl
  i2 := by kernel_rfl
  i3 := by kernel_rfl
  i4 := by kernel_rfl
  i5 := by kernel_rfl
  i9 := by kernel_rfl
  i20 := by kernel_rfl
  i37 := by kernel_rfl
  i46 := by kernel_rfl
  i51 := by kernel_rfl
  i53 := by kernel_rfl
  i171 := by kernel_rfl
  i173 := by kernel_rfl
  i212 := by kernel_rfl
  i232 := by kernel_rfl
  i233 := by kernel_rfl
  m17 := by kernel_rfl
  m18 := by kernel_rfl
  m19 := by kernel_rfl }
open Go.RowKit Go.Sort Go.Lib in
theorem Tryz.strconv_Itoa (n : Int) (h0 : -9223372036854775808 ≤ n) (h1 : n ≤ 9223372036854775807) (w : World) (htab : Lib.TabIs Tryz.prog w "internal/strconv.uint64pow10" .u64 Lib.pow10Tab) :
    Calls Tryz.prog 36 #[.int .i64 n] w fun e w' => e = .returned (.string ⟨(Lib.itoa n).toArray⟩) ∧ ∃ k os, w' = grow (w.drewN k) os := Any.strconv_Itoa Tryz.laysM171 n h0 h1 w htab
def Tryz.laysC172_ren : Go.Shelf.Ren := ⟨fun | 172 => 68 | 244 => 81 | 245 => 82 | 247 => 95 | 279 => 96 | 280 => 97 | 281 => 98 | 282 => 99 | 287 => 106 | 316 => 107 | 171 => 36 | 205 => 108 | 321 => 115 | 322 => 116 | 243 => 67 | 246 => 80 | 283 => 91 | 284 => 92 | 285 => 93 | 286 => 94 | 129 => 102 | 317 => 101 | 318 => 103 | 319 => 104 | 320 => 105 | 337 => 113 | 338 => 114 | n => n, fun | 9 => 9 | 3 => 3 | 75 => 116 | 76 => 117 | 4 => 4 | 5 => 5 | 167 => 149 | 37 => 76 | 0 => 0 | 85 => 150 | 2 => 2 | 168 => 152 | 53 => 144 | 175 => 161 | 46 => 125 | 210 => 165 | 127 => 170 | 145 => 173 | 143 => 171 | 21 => 21 | 171 => 143 | 173 => 147 | 212 => 158 | 51 => 110 | 20 => 20 | 213 => 159 | 232 => 176 | 233 => 177 | 80 => 178 | n => n, fun | 15 => 1 | 16 => 2 | 17 => 0 | 18 => 4 | 19 => 5 | n => n⟩
theorem Tryz.laysC172 : Go.Proofs.LaysC.n172 Tryz.prog Tryz.laysC172_ren := {
  mixed := by kernel_rfl
  f129 := Tryz.func102.trans (congrArg some (by kernel_rfl))
  f171 := Tryz.func36.trans (congrArg some (by kernel_rfl))
  f172 := Tryz.func68.trans (congrArg some (by kernel_rfl))
  f205 := Tryz.func108.trans (congrArg some (by kernel_rfl))
  f243 := Tryz.func67.trans (congrArg some (by kernel_rfl))
  f244 := Tryz.func81.trans (congrArg some (by kernel_rfl))
  f245 := Tryz.func82.trans (congrArg some (by kernel_rfl))
  f246 := Tryz.func80.trans (congrArg some (by kernel_rfl))
  f247 := Tryz.func95.trans (congrArg some (by kernel_rfl))
  f279 := Tryz.func96.trans (congrArg some (by kernel_rfl))
  f280 := Tryz.func97.trans (congrArg some (by kernel_rfl))
  f281 := Tryz.func98.trans (congrArg some (by kernel_rfl))
  f282 := Tryz.func99.trans (congrArg some (by kernel_rfl))
  f283 := Tryz.func91.trans (congrArg some (by kernel_rfl))
  f284 := Tryz.func92.trans (congrArg some (by kernel_rfl))
  f285 := Tryz.func93.trans (congrArg some (by kernel_rfl))
  f286 := Tryz.func94.trans (congrArg some (by kernel_rfl))
  f287 := Tryz.func106.trans (congrArg some (by kernel_rfl))
  f316 := Tryz.func107.trans (congrArg some (by kernel_rfl))
  f317 := Tryz.func101.trans (congrArg some (by kernel_rfl))
  f318 := Tryz.func103.trans (congrArg some (by kernel_rfl))
  f319 := Tryz.func104.trans (congrArg some (by kernel_rfl))
  f320 := Tryz.func105.trans (congrArg some (by kernel_rfl))
  f321 := Tryz.func115.trans (congrArg some (by kernel_rfl))
  f322 := Tryz.func116.trans (congrArg some (by kernel_rfl))
  f337 := Tryz.func113.trans (congrArg some (by kernel_rfl))
  f338 := Tryz.func114.trans (congrArg some (by kernel_rfl))
  t0 := Tryz.underlying0
  a0 := Tryz.isAgg0
  z0 := Tryz.sizeOf0
  v0 := Tryz.zeroValue0
  t2 := Tryz.underlying2
  a2 := Tryz.isAgg2
  z2 := Tryz.sizeOf2
  v2 := Tryz.zeroValue2
  t3 := Tryz.underlying3
  a3 := Tryz.isAgg3
  z3 := Tryz.sizeOf3
  v3 := Tryz.zeroValue3
  t4 := Tryz.underlying4
  a4 := Tryz.isAgg4
  z4 := Tryz.sizeOf4
  v4 := Tryz.zeroValue4
  t5 := Tryz.underlying5
  a5 := Tryz.isAgg5
  z5 := Tryz.sizeOf5
  v5 := Tryz.zeroValue5
  t9 := Tryz.underlying9
  a9 := Tryz.isAgg9
  z9 := Tryz.sizeOf9
  v9 := Tryz.zeroValue9
  t20 := Tryz.underlying20
  a20 := Tryz.isAgg20
  z20 := Tryz.sizeOf20
  v20 := Tryz.zeroValue20
  t21 := Tryz.underlying21
  a21 := Tryz.isAgg21
  z21 := Tryz.sizeOf21
  v21 := Tryz.zeroValue21
  t37 := Tryz.underlying76
  a37 := Tryz.isAgg76
  z37 := Tryz.sizeOf76
  v37 := Tryz.zeroValue76
  t46 := Tryz.underlying125
  a46 := Tryz.isAgg125
  z46 := Tryz.sizeOf125
  v46 := Tryz.zeroValue125
  t51 := Tryz.underlying110
  a51 := Tryz.isAgg110
  z51 := Tryz.sizeOf110
  v51 := Tryz.zeroValue110
  t53 := Tryz.underlying144
  a53 := Tryz.isAgg144
  z53 := Tryz.sizeOf144
  v53 := Tryz.zeroValue144
  t75 := Tryz.underlying116
  a75 := Tryz.isAgg116
  z75 := Tryz.sizeOf116
  v75 := Tryz.zeroValue116
  t76 := Tryz.underlying117
  a76 := Tryz.isAgg117
  z76 := Tryz.sizeOf117
  v76 := Tryz.zeroValue117
  t85 := Tryz.underlying150
  a85 := Tryz.isAgg150
  z85 := Tryz.sizeOf150
  v85 := Tryz.zeroValue150
  t127 := Tryz.underlying170
  a127 := Tryz.isAgg170
  z127 := Tryz.sizeOf170
  v127 := Tryz.zeroValue170
  t143 := Tryz.underlying171
  a143 := Tryz.isAgg171
  z143 := Tryz.sizeOf171
  v143 := Tryz.zeroValue171
  t145 := Tryz.underlying173
  a145 := Tryz.isAgg173
  z145 := Tryz.sizeOf173
  v145 := Tryz.zeroValue173
  t167 := Tryz.underlying149
  a167 := Tryz.isAgg149
  z167 := Tryz.sizeOf149
  v167 := Tryz.zeroValue149
  t168 := Tryz.underlying152
  a168 := Tryz.isAgg152
  z168 := Tryz.sizeOf152
  v168 := Tryz.zeroValue152
  t171 := Tryz.underlying143
  a171 := Tryz.isAgg143
  z171 := Tryz.sizeOf143
  v171 := Tryz.zeroValue143
  t173 := Tryz.underlying147
  a173 := Tryz.isAgg147
  z173 := Tryz.sizeOf147
  v173 := Tryz.zeroValue147
  t175 := Tryz.underlying161
  a175 := Tryz.isAgg161
  z175 := Tryz.sizeOf161
  v175 := Tryz.zeroValue161
  t210 := Tryz.underlying165
  a210 := Tryz.isAgg165
  z210 := Tryz.sizeOf165
  v210 := Tryz.zeroValue165
  t212 := Tryz.underlying158
  a212 := Tryz.isAgg158
  z212 := Tryz.sizeOf158
  v212 := Tryz.zeroValue158
  t213 := Tryz.underlying159
  a213 := Tryz.isAgg159
  z213 := Tryz.sizeOf159
  t232 := Tryz.underlying176
  a232 := Tryz.isAgg176
  z232 := Tryz.sizeOf176
  v232 := Tryz.zeroValue176
  t233 := Tryz.underlying177
  a233 := Tryz.isAgg177
  z233 := Tryz.sizeOf177
  v233 := Tryz.zeroValue177
  g15 := by kernel_rfl
  g16 := by kernel_rfl
  g17 := by kernel_rfl
  g18 := by kernel_rfl
  g19 := by kernel_rfl
  t80 := Tryz.underlying178
  a80 := Tryz.isAgg178
  z80 := Tryz.sizeOf178
  v80 := Tryz.zeroValue178
  i0 := by kernel_rfl
  i2 := by kernel_rfl
  i3 := by kernel_rfl
  i4 := by kernel_rfl
  i5 := by kernel_rfl
  i9 := by kernel_rfl
  i20 := by kernel_rfl
  i21 := by kernel_rfl
  i37 := by kernel_rfl
  i46 := by kernel_rfl
  i51 := by kernel_rfl
  i53 := by kernel_rfl
  i75 := by kernel_rfl
  i76 := by kernel_rfl
  i80 := by kernel_rfl
  i85 := by kernel_rfl
  i127 := by kernel_rfl
  i143 := by kernel_rfl
  i145 := by kernel_rfl
  i167 := by kernel_rfl
  i168 := by kernel_rfl
  i171 := by kernel_rfl
  i173 := by kernel_rfl
  i175 := by kernel_rfl
  i210 := by kernel_rfl
  i212 := by kernel_rfl
  i232 := by kernel_rfl
  i233 := by kernel_rfl
  m15 := by kernel_rfl
  m16 := by kernel_rfl
  m17 := by kernel_rfl
  m18 := by kernel_rfl
  m19 := by kernel_rfl
  c0 := by kernel_rfl
  c2 := by kernel_rfl
  c3 := by kernel_rfl
  c4 := by kernel_rfl
  c5 := by kernel_rfl
  c9 := by kernel_rfl
  c20 := by kernel_rfl
  c21 := by kernel_rfl
  c37 := by kernel_rfl
  c46 := by kernel_rfl
  c51 := by kernel_rfl
  c53 := by kernel_rfl
  c75 := by kernel_rfl
  c76 := by kernel_rfl
  c80 := by kernel_rfl
  c85 := by kernel_rfl
  c127 := by kernel_rfl
  c143 := by kernel_rfl
  c145 := by kernel_rfl
  c167 := by kernel_rfl
  c168 := by kernel_rfl
  c171 := by kernel_rfl
  c173 := by kernel_rfl
  c175 := by kernel_rfl
  c210 := by kernel_rfl
  c212 := by kernel_rfl
  c213 := by kernel_rfl
  c232 := by kernel_rfl
  c233 := by kernel_rfl }
open Go.RowKit in
theorem Tryz.strconv_Atoi_ok (s : ByteArray) (hmax : s.size ≤ 9223372036854775806) (v : Int) (h : Lib.atoiAll s.data.toList = .ok v) (w : World) :
    Calls Tryz.prog 68 #[.string s] w fun e w' => e = .returned (.tuple #[.int .i64 v, .nilIface]) ∧ (w' = w ∨ ∃ t, w' = Lib.bytesWorld w 5 t) := Any.strconv_Atoi_ok Tryz.laysC172 s hmax v h w
open Go.RowKit in
theorem Tryz.strconv_Atoi_range_var (s : ByteArray) (hlim : s.size ≤ 281474976710656) (h : Lib.atoiAll s.data.toList = .range) (tp : TypeId) (p : Value) (w : World) (hvar : w.var? Tryz.prog "strconv.ErrRange" = some #[.iface tp p]) :
    Calls Tryz.prog 68 #[.string s] w fun e w' => ∃ N, e = .returned (.tuple #[.int .i64 (Lib.atoiSat s.data.toList), .iface 152 (.pointer (some ⟨N, 0, none⟩))]) ∧ w.heap.size ≤ N ∧ w'.heap[N]? = some (.cells #[.string ⟨#[65, 116, 111, 105]⟩, .string s, .iface tp p] 165 (0, 0)) ∧ Below w.heap.size w w' := Any.strconv_Atoi_range_var Tryz.laysC172 s hlim h tp p w hvar
def Tryz.lays219_ren : Go.Shelf.Ren := ⟨fun | 219 => 100 | 217 => 109 | 225 => 110 | 224 => 111 | 267 => 112 | 266 => 117 | 314 => 118 | n => n, fun | 9 => 9 | 3 => 3 | 4 => 4 | 5 => 5 | 46 => 125 | 146 => 174 | 51 => 110 | n => n, fun | 1 => 3 | n => n⟩
theorem Tryz.lays219 : Go.Proofs.Lays.n219 Tryz.prog Tryz.lays219_ren := {
  mixed := by kernel_rfl
  f217 := Tryz.func109.trans (congrArg some (by kernel_rfl))
  f219 := Tryz.func100.trans (congrArg some (by kernel_rfl))
  f224 := Tryz.func111.trans (congrArg some (by kernel_rfl))
  f225 := Tryz.func110.trans (congrArg some (by kernel_rfl))
  f266 := Tryz.func117.trans (congrArg some (by kernel_rfl))
  f267 := Tryz.func112.trans (congrArg some (by kernel_rfl))
  f314 := Tryz.func118.trans (congrArg some (by kernel_rfl))
  t3 := Tryz.underlying3
  a3 := Tryz.isAgg3
  z3 := Tryz.sizeOf3
  v3 := Tryz.zeroValue3
  t4 := Tryz.underlying4
  a4 := Tryz.isAgg4
  z4 := Tryz.sizeOf4
  v4 := Tryz.zeroValue4
  t5 := Tryz.underlying5
  a5 := Tryz.isAgg5
  z5 := Tryz.sizeOf5
  v5 := Tryz.zeroValue5
  t9 := Tryz.underlying9
  a9 := Tryz.isAgg9
  z9 := Tryz.sizeOf9
  v9 := Tryz.zeroValue9
  t46 := Tryz.underlying125
  a46 := Tryz.isAgg125
  z46 := Tryz.sizeOf125
  v46 := Tryz.zeroValue125
  t51 := Tryz.underlying110
  a51 := Tryz.isAgg110
  z51 := Tryz.sizeOf110
  v51 := Tryz.zeroValue110
  t146 := Tryz.underlying174
  a146 := Tryz.isAgg174
  z146 := Tryz.sizeOf174
  v146 := Tryz.zeroValue174
  g1 := by kernel_rfl }
open Go.RowKit Go.Lib in
theorem Tryz.stringslite_Index_one (s : ByteArray) (c : UInt8) (w : World) :
    Calls Tryz.prog 100 #[.string s, .string ⟨#[c]⟩] w fun e w' => e = .returned (.int .i64 (Lib.indexByte s.data.toList c)) ∧ w' = w := Any.stringslite_Index_one Tryz.lays219 s c w
end Go.Proofs
namespace Go.Proofs.YtlpcdpjkdodmcaaGreatDoor
open Go Go.AL Go.RowKit Go.Sort Go.Proofs
set_option maxRecDepth 10000
set_option maxHeartbeats 4000000
def atoiV (l : List UInt8) : Int × Bool := match Lib.atoiAll l with
  | .ok v => (v, true)
  | .range => (Lib.atoiSat l, false)
  | _ => (0, false)
def erV (b : Bool) : AV := bif b then .im (.v .nilIface) else .wr (.iface 152) .top
theorem var_of {P : Program} {w : World} {I : Nat → Prop} {n : String} {Q : Obj → Prop} (hV : VK P w I) (hm : (n, Q) ∈ laidVars) (hs : (P.globalNamed n).isSome = true) : ∃ g o, P.globalNamed n = some g ∧ w.heap[g]? = some o ∧ Q o := by
  obtain ⟨g, hg⟩ := Option.isSome_iff_exists.1 hs
  obtain ⟨_, o, h1, h2⟩ := hV _ hm g hg
  exact ⟨g, o, hg, h1, h2⟩
theorem atoi_spec (l : List UInt8) (hl : l.length ≤ 1000000000) : PFn Tryz.prog 68 [Sv l] (.tup [Iv (atoiV l).1, erV (atoiV l).2]) := by
  refine PFn.of_belowV (by rfl) (by cases (atoiV l).2 <;> rfl) fun w φ I vs hd hI hV => ?_
  simp only [AV.dens] at hd
  obtain ⟨u, us, rfl, hu, rfl⟩ := hd
  rw [den_s] at hu
  subst hu
  have hb : (BA l).data.toList = l := BA_data l
  have hsz : (BA l).size = l.length := rfl
  cases h : Lib.atoiAll l with
  | ok v =>
    have e : atoiV l = (v, true) := by simp [atoiV, h]
    rw [e]
    refine (Tryz.strconv_Atoi_ok (BA l) (by omega) v (by rw [hb]; exact h) w).mono fun e w' ⟨he, hw⟩ => ⟨_, he, ?_, ?_⟩
    · simp only [AV.den, AV.dens, IV.den, erV, cond_true]
      exact ⟨_, ⟨_, _, rfl, ⟨rfl, rfl⟩, _, _, rfl, ⟨rfl, rfl⟩, rfl⟩, rfl⟩
    · rcases hw with rfl | ⟨t, rfl⟩
      · exact Below.refl _ _
      · exact Lib.bytesWorld_below _ _ _
  | range =>
    have e : atoiV l = (Lib.atoiSat l, false) := by simp [atoiV, h]
    rw [e]
    obtain ⟨g, o, hg, ho, tp, p, T, fz, rfl⟩ := var_of (n := "strconv.ErrRange") hV (by simp only [laidVars, List.mem_cons]; exact .inr (.inl rfl)) (by rfl)
    refine (Tryz.strconv_Atoi_range_var (BA l) (by omega) (by rw [hb]; exact h) tp p w (by simp only [World.var?, hg, Option.bind_some, ho])).mono fun e w' ⟨N, he, _, _, hw⟩ => ⟨_, he, ?_, hw⟩
    rw [hb]
    simp only [AV.den, AV.dens, IV.den, erV, cond_false, WK.rel]
    exact ⟨_, ⟨_, _, rfl, ⟨rfl, rfl⟩, _, _, rfl, ⟨_, rfl, trivial⟩, rfl⟩, rfl⟩
  | _ =>
    have e : atoiV l = (0, false) := by simp [atoiV, h]
    rw [e]
    obtain ⟨g, o, hg, ho, tp, p, T, fz, rfl⟩ := var_of (n := "strconv.ErrSyntax") hV (by simp only [laidVars, List.mem_cons]; exact .inl rfl) (by rfl)
    refine (Any.strconv_Atoi_syntax_var Tryz.laysC172 (BA l) (by omega) (by rw [hb]; exact h) tp p w (by simp only [World.var?, hg, Option.bind_some, ho])).mono fun e w' ⟨N, he, _, _, hw⟩ => ⟨_, he, ?_, hw⟩
    simp only [AV.den, AV.dens, IV.den, erV, cond_false, WK.rel]
    exact ⟨_, ⟨_, _, rfl, ⟨rfl, rfl⟩, _, _, rfl, ⟨_, rfl, trivial⟩, rfl⟩, rfl⟩
theorem atoiV_bounds (l : List UInt8) : -9223372036854775808 ≤ (atoiV l).1 ∧ (atoiV l).1 ≤ 9223372036854775807 := by
  unfold atoiV
  split
  · rename_i v h; exact Lib.atoiAll_bounds h
  · exact Lib.atoiSat_bounds l
  · simp
theorem itoa_spec (n : Int) (h : -9223372036854775808 ≤ n ∧ n ≤ 9223372036854775807) : PFn Tryz.prog 36 [Iv n] (Sv (Lib.itoa n)) := by
  refine PFn.of_belowV (by rfl) rfl fun w φ I vs hd hI hV => ?_
  simp only [AV.dens] at hd
  obtain ⟨u, us, rfl, hu, rfl⟩ := hd
  rw [den_i] at hu
  subst hu
  obtain ⟨g, o, hg, ho, T, fz, rfl⟩ := var_of (n := "internal/strconv.uint64pow10") hV (by simp only [laidVars, List.mem_cons]; exact .inr (.inr (.inl rfl))) (by rfl)
  refine (Tryz.strconv_Itoa n h.1 h.2 w (by simp only [Lib.TabIs, World.var?, hg, Option.bind_some, ho]; rfl)).mono fun e w' ⟨he, k, os, hw⟩ => ⟨_, he, by rw [den_s]; rfl, ?_⟩
  subst hw
  refine ⟨rfl, rfl, rfl, ?_, fun j hj => ?_⟩
  · rw [size_grow]; exact Nat.le_add_right _ _
  · show (w.heap ++ os)[j]? = _
    rw [Array.getElem?_append_left hj]
theorem sindex_spec (l : List UInt8) (c : UInt8) : PFn Tryz.prog 100 [Sv l, Sv [c]] (Iv (Lib.indexByte l c)) := by
  refine PFn.of_belowV (by rfl) rfl fun w φ I vs hd hI hV => ?_
  simp only [AV.dens] at hd
  obtain ⟨u, us, rfl, hu, u2, us2, rfl, hu2, rfl⟩ := hd
  rw [den_s] at hu hu2
  subst hu; subst hu2
  refine (Tryz.stringslite_Index_one (BA l) c w).mono fun e w' ⟨he, hw⟩ => ⟨_, he, ?_, ?_⟩
  · rw [den_i]
    have : (BA l).data.toList = l := BA_data l
    rw [this]
  · subst hw; exact Below.refl _ _
end Go.Proofs.YtlpcdpjkdodmcaaGreatDoor
end

section
namespace Go.Proofs.YtlpcdpjkdodmcaaGreatDoor
open Go Go.AL Go.RowKit
set_option maxRecDepth 10000
set_option maxHeartbeats 4000000
def cutS (l : List UInt8) : List UInt8 × List UInt8 × Bool :=
  if Lib.indexByte l 32 < 0 then (l, [], false) else (l.take (Lib.indexByte l 32).toNat, l.drop ((Lib.indexByte l 32).toNat + 1), true)
theorem cut_in (l : List UInt8) (hl : l.length ≤ 1000000000) : PFn Tryz.prog 90 [Sv l, Sv [32]] (.tup [Sv (cutS l).1, Sv (cutS l).2.1, Bv (cutS l).2.2]) := by
  refine ACall.walk [0, 1, 4, 5, 6, 7, 12] [] Tryz.func90 rfl Tryz.ntmps90 (by kernel_rfl) (by rfl) rfl fun W own I0 φ0 lay => ?_
  repeat (first | refine xA ?_ | refine xB ?_ | refine xC ?_ | refine xE ?_ | refine xD ?_ | refine xK ?_ | refine xS ?_ | refine xM ?_ | refine xT ?_ | refine xF ?_ | ((first | refine xR ?_ | refine xW ?_ | refine vq_id ?_); simp only [go_sem, Nat.reduceAdd, Nat.reduceLeDiff, Nat.reduceSub, Int.reduceToNat, reduceCtorEq]) | (refine ⟨by first | omega | (intros; simp_all; done) | (intros; simp_all; omega), ?_⟩; try simp only [go_sem, Nat.reduceAdd, Nat.reduceLeDiff, Nat.reduceSub, Int.reduceToNat, reduceCtorEq]))
  refine AQ.fn (by kernel_rfl) rfl rfl rfl (sindex_spec l 32) rfl ?_
  repeat (first | refine xA ?_ | refine xB ?_ | refine xC ?_ | refine xE ?_ | refine xD ?_ | refine xK ?_ | refine xS ?_ | refine xM ?_ | refine xT ?_ | refine xF ?_ | ((first | refine xR ?_ | refine xW ?_ | refine vq_id ?_); simp only [go_sem, Nat.reduceAdd, Nat.reduceLeDiff, Nat.reduceSub, Int.reduceToNat, reduceCtorEq]) | (refine ⟨by first | omega | (intros; simp_all; done) | (intros; simp_all; omega), ?_⟩; try simp only [go_sem, Nat.reduceAdd, Nat.reduceLeDiff, Nat.reduceSub, Int.reduceToNat, reduceCtorEq]))
  have hge := Lib.indexByte_ge l 32
  refine AP.cond rfl rfl (fun hc => ?_) (fun hc => ?_)
  · simp only [decide_eq_true_eq] at hc
    obtain ⟨k, hk⟩ : ∃ k : Nat, Lib.indexByte l 32 = k := ⟨_, (Int.toNat_of_nonneg hc).symm⟩
    have hlt : k < l.length := by
      have := (Lib.indexByte_some hk).1
      exact (List.getElem?_eq_some_iff.1 this).1
    have e : cutS l = (l.take k, l.drop (k + 1), true) := by simp [cutS, hk]
    rw [e]
    have hw : IntKind.i64.wrap ((k : Int) + ((1 : Nat) : Int)) = ((k + 1 : Nat) : Int) := by rw [← Int.natCast_add]; exact wr (by omega)
    have hs1 : (BA [(32 : UInt8)]).size = 1 := rfl
    repeat (first | refine xA ?_ | refine xB ?_ | refine xC ?_ | refine xE ?_ | refine xD ?_ | refine xK ?_ | refine xS ?_ | refine xM ?_ | refine xT ?_ | refine xF ?_ | ((first | refine xR ?_ | refine xW ?_ | refine vq_id ?_); simp only [go_sem, Nat.reduceAdd, Nat.reduceLeDiff, Nat.reduceSub, Int.reduceToNat, reduceCtorEq, hk, hw, hs1, BA_size, BA_extract, Int.toNat_natCast]) | (refine ⟨by first | omega | (intros; simp_all; done) | (intros; simp_all; omega), ?_⟩; try simp only [go_sem, Nat.reduceAdd, Nat.reduceLeDiff, Nat.reduceSub, Int.reduceToNat, reduceCtorEq, hk, hw, hs1, BA_size, BA_extract, Int.toNat_natCast]))
    refine AE.ret0 rfl ⟨rfl, rfl, rfl, trivial⟩ rfl ⟨rfl, ?_⟩
    simp only [tupOf, AV.st, List.drop_zero, Nat.sub_zero]
    rw [List.take_of_length_le (l := l.drop (k + 1)) (by simp)]
  · simp only [decide_eq_false_iff_not] at hc
    have e : cutS l = (l, [], false) := by simp [cutS]; omega
    rw [e]
    repeat (first | refine xA ?_ | refine xB ?_ | refine xC ?_ | refine xE ?_ | refine xD ?_ | refine xK ?_ | refine xS ?_ | refine xM ?_ | refine xT ?_ | refine xF ?_ | ((first | refine xR ?_ | refine xW ?_ | refine vq_id ?_); simp only [go_sem, Nat.reduceAdd, Nat.reduceLeDiff, Nat.reduceSub, Int.reduceToNat, reduceCtorEq]) | (refine ⟨by first | omega | (intros; simp_all; done) | (intros; simp_all; omega), ?_⟩; try simp only [go_sem, Nat.reduceAdd, Nat.reduceLeDiff, Nat.reduceSub, Int.reduceToNat, reduceCtorEq]))
    exact AE.ret0 rfl ⟨rfl, rfl, rfl, trivial⟩ rfl ⟨rfl, rfl⟩
theorem cut_spec (l : List UInt8) (hl : l.length ≤ 1000000000) : PFn Tryz.prog 79 [Sv l, Sv [32]] (.tup [Sv (cutS l).1, Sv (cutS l).2.1, Bv (cutS l).2.2]) := by
  refine ACall.walk [0, 1, 4, 5, 6] [] Tryz.func79 rfl Tryz.ntmps79 (by kernel_rfl) (by rfl) rfl fun W own I0 φ0 lay => ?_
  repeat (first | refine xA ?_ | refine xB ?_ | refine xC ?_ | refine xE ?_ | refine xD ?_ | refine xK ?_ | refine xS ?_ | refine xM ?_ | refine xT ?_ | refine xF ?_ | ((first | refine xR ?_ | refine xW ?_ | refine vq_id ?_); simp only [go_sem, Nat.reduceAdd, Nat.reduceLeDiff, Nat.reduceSub, Int.reduceToNat, reduceCtorEq]) | (refine ⟨by first | omega | (intros; simp_all; done) | (intros; simp_all; omega), ?_⟩; try simp only [go_sem, Nat.reduceAdd, Nat.reduceLeDiff, Nat.reduceSub, Int.reduceToNat, reduceCtorEq]))
  refine AQ.fn (by kernel_rfl) rfl rfl rfl (cut_in l hl) rfl ?_
  repeat (first | refine xA ?_ | refine xB ?_ | refine xC ?_ | refine xE ?_ | refine xD ?_ | refine xK ?_ | refine xS ?_ | refine xM ?_ | refine xT ?_ | refine xF ?_ | ((first | refine xR ?_ | refine xW ?_ | refine vq_id ?_); simp only [go_sem, Nat.reduceAdd, Nat.reduceLeDiff, Nat.reduceSub, Int.reduceToNat, reduceCtorEq]) | (refine ⟨by first | omega | (intros; simp_all; done) | (intros; simp_all; omega), ?_⟩; try simp only [go_sem, Nat.reduceAdd, Nat.reduceLeDiff, Nat.reduceSub, Int.reduceToNat, reduceCtorEq]))
  exact AE.ret0 rfl ⟨rfl, rfl, rfl, trivial⟩ rfl ⟨rfl, rfl⟩
def numB (a b : Int) (l : List UInt8) : Bool := (atoiV l).2 && Lib.itoa (atoiV l).1 == l && decide (a ≤ (atoiV l).1) && decide ((atoiV l).1 ≤ b)
theorem number_spec (a b : Int) (l : List UInt8) (hl : l.length ≤ 1000000000) : PFn Tryz.prog 38 [.agg [Iv a, Iv b], Sv l] (.tup [Iv (atoiV l).1, Bv (numB a b l)]) := by
  have hsp := atoi_spec l hl
  have hb := atoiV_bounds l
  unfold numB
  obtain ⟨⟨n, ok⟩, hn⟩ : ∃ p, atoiV l = p := ⟨_, rfl⟩
  rw [hn] at hsp hb ⊢
  simp only at hsp hb ⊢
  have hit := itoa_spec n hb
  cases ok with
  | false =>
    refine ACall.walk [0, 1, 2, 4, 5, 6, 7] [] Tryz.func38 rfl Tryz.ntmps38 (by kernel_rfl) (by rfl) rfl fun W own I0 φ0 lay => ?_
    repeat (first | refine xA ?_ | refine xB ?_ | refine xC ?_ | refine xE ?_ | refine xD ?_ | refine xK ?_ | refine xS ?_ | refine xM ?_ | refine xT ?_ | refine xF ?_ | ((first | refine xR ?_ | refine xW ?_ | refine vq_id ?_); simp only [go_sem, Nat.reduceAdd, Nat.reduceLeDiff, Nat.reduceSub, Int.reduceToNat, reduceCtorEq]) | (refine ⟨by first | omega | (intros; simp_all; done) | (intros; simp_all; omega), ?_⟩; try simp only [go_sem, Nat.reduceAdd, Nat.reduceLeDiff, Nat.reduceSub, Int.reduceToNat, reduceCtorEq]))
    refine AQ.fn (by kernel_rfl) rfl rfl rfl (hsp) rfl ?_
    repeat (first | refine xA ?_ | refine xB ?_ | refine xC ?_ | refine xE ?_ | refine xD ?_ | refine xK ?_ | refine xS ?_ | refine xM ?_ | refine xT ?_ | refine xF ?_ | ((first | refine xR ?_ | refine xW ?_ | refine vq_id ?_); simp only [go_sem, Nat.reduceAdd, Nat.reduceLeDiff, Nat.reduceSub, Int.reduceToNat, reduceCtorEq, erV]) | (refine ⟨by first | omega | (intros; simp_all; done) | (intros; simp_all; omega), ?_⟩; try simp only [go_sem, Nat.reduceAdd, Nat.reduceLeDiff, Nat.reduceSub, Int.reduceToNat, reduceCtorEq, erV]))
    refine AP.drawE 23 (Tree.node [] [0, 1, 2, 3, 4, 6] [5] [Tree.node [0, 6] [7, 8, 9, 10, 11, 12, 13, 14, 15, 16, 17, 18, 19, 20, 21, 22] [] []]) (by kernel_rfl) rfl (by kernel_rfl) (by kernel_rfl) ?_
    refine vd_node ?_
    simp only [go_sem, Nat.reduceAdd, Nat.reduceLeDiff, Nat.reduceSub, Int.reduceToNat, reduceCtorEq]
    repeat' (first | with_reducible exact True.intro | with_reducible refine And.intro (by omega) ?_ | with_reducible refine And.intro ?_ ?_ | (refine AQ.nx rfl ?_; simp only [go_sem, Nat.reduceAdd, Nat.reduceLeDiff, Nat.reduceSub, Int.reduceToNat, reduceCtorEq]) | refine AQ.skip (by kernel_rfl) rfl ?_; simp only [go_sem, Nat.reduceAdd, Nat.reduceLeDiff, Nat.reduceSub, Int.reduceToNat, reduceCtorEq] | refine AQ.done ?_ | (refine AQ.go (by kernel_rfl) ?_; simp only [go_sem, Nat.reduceAdd, Nat.reduceLeDiff, Nat.reduceSub, Int.reduceToNat, reduceCtorEq]; repeat (with_reducible refine And.intro (by omega) ?_); refine AQ.nx rfl ?_; simp only [go_sem, Nat.reduceAdd, Nat.reduceLeDiff, Nat.reduceSub, Int.reduceToNat, reduceCtorEq]))
    all_goals first
      | (intro h; exact h.elim)
      | (repeat (first | refine xA ?_ | refine xB ?_ | refine xC ?_ | refine xE ?_ | refine xD ?_ | refine xK ?_ | refine xS ?_ | refine xM ?_ | refine xT ?_ | refine xF ?_ | ((first | refine xR ?_ | refine xW ?_ | refine vq_id ?_); simp only [go_sem, Nat.reduceAdd, Nat.reduceLeDiff, Nat.reduceSub, Int.reduceToNat, reduceCtorEq]) | (refine ⟨by first | omega | (intros; simp_all; done) | (intros; simp_all; omega), ?_⟩; try simp only [go_sem, Nat.reduceAdd, Nat.reduceLeDiff, Nat.reduceSub, Int.reduceToNat, reduceCtorEq])); exact AE.ret0 rfl ⟨rfl, rfl, trivial⟩ rfl ⟨rfl, rfl⟩)
  | true =>
    refine ACall.walk [0, 1, 2, 4, 5, 6, 7] [] Tryz.func38 rfl Tryz.ntmps38 (by kernel_rfl) (by rfl) rfl fun W own I0 φ0 lay => ?_
    repeat (first | refine xA ?_ | refine xB ?_ | refine xC ?_ | refine xE ?_ | refine xD ?_ | refine xK ?_ | refine xS ?_ | refine xM ?_ | refine xT ?_ | refine xF ?_ | ((first | refine xR ?_ | refine xW ?_ | refine vq_id ?_); simp only [go_sem, Nat.reduceAdd, Nat.reduceLeDiff, Nat.reduceSub, Int.reduceToNat, reduceCtorEq]) | (refine ⟨by first | omega | (intros; simp_all; done) | (intros; simp_all; omega), ?_⟩; try simp only [go_sem, Nat.reduceAdd, Nat.reduceLeDiff, Nat.reduceSub, Int.reduceToNat, reduceCtorEq]))
    refine AQ.fn (by kernel_rfl) rfl rfl rfl (hsp) rfl ?_
    repeat (first | refine xA ?_ | refine xB ?_ | refine xC ?_ | refine xE ?_ | refine xD ?_ | refine xK ?_ | refine xS ?_ | refine xM ?_ | refine xT ?_ | refine xF ?_ | ((first | refine xR ?_ | refine xW ?_ | refine vq_id ?_); simp only [go_sem, Nat.reduceAdd, Nat.reduceLeDiff, Nat.reduceSub, Int.reduceToNat, reduceCtorEq, erV]) | (refine ⟨by first | omega | (intros; simp_all; done) | (intros; simp_all; omega), ?_⟩; try simp only [go_sem, Nat.reduceAdd, Nat.reduceLeDiff, Nat.reduceSub, Int.reduceToNat, reduceCtorEq, erV]))
    refine AP.drawE 23 (Tree.node [] [0, 1, 2, 3, 4, 6] [5] [Tree.node [0, 6] [7, 8, 9, 10, 11, 12, 13, 14, 15, 16, 17, 18, 19, 20, 21, 22] [] []]) (by kernel_rfl) rfl (by kernel_rfl) (by kernel_rfl) ?_
    refine vd_node ?_
    simp only [go_sem, Nat.reduceAdd, Nat.reduceLeDiff, Nat.reduceSub, Int.reduceToNat, reduceCtorEq]
    repeat' (first | with_reducible exact True.intro | with_reducible refine And.intro (by omega) ?_ | with_reducible refine And.intro ?_ ?_ | (refine AQ.nx rfl ?_; simp only [go_sem, Nat.reduceAdd, Nat.reduceLeDiff, Nat.reduceSub, Int.reduceToNat, reduceCtorEq]) | (refine AQ.fn_g (by kernel_rfl) rfl rfl (fun h => by first | (simp [gs, AV.g]; done) | (simp [gs, AV.g, constAV]; done) | (simp [gs, AV.g, constAV, bw] at h ⊢; done) | (simp [gs, AV.g, constAV, bw] at h ⊢; exact h) | (simp [gs, AV.g, constAV, bw] at h ⊢; simp [h]; done) | (simp [bw] at h; done) | (simp [gs, AV.g, bw] at h ⊢; simp [h]; done) | (simp [gs, AV.g, bw] at h ⊢; exact h.1) | (simp [gs, AV.g]; rfl) | (simp [gs, AV.g, bw] at h ⊢; rfl) | (simp [gs, AV.g, bw] at h ⊢; simp [h]; rfl) | (simp [gs, AV.g, bw] at h ⊢; simp_all)) rfl (fun _ => hit) rfl ?_; simp only [go_sem, Nat.reduceAdd, Nat.reduceLeDiff, Nat.reduceSub, Int.reduceToNat, reduceCtorEq]) | refine AQ.done ?_ | (refine AQ.go (by kernel_rfl) ?_; simp only [go_sem, Nat.reduceAdd, Nat.reduceLeDiff, Nat.reduceSub, Int.reduceToNat, reduceCtorEq]; repeat (with_reducible refine And.intro (by omega) ?_); refine AQ.nx rfl ?_; simp only [go_sem, Nat.reduceAdd, Nat.reduceLeDiff, Nat.reduceSub, Int.reduceToNat, reduceCtorEq]))
    all_goals first
      | (exact fun h => ⟨h, h⟩)
      | (repeat (first | refine xA ?_ | refine xB ?_ | refine xC ?_ | refine xE ?_ | refine xD ?_ | refine xK ?_ | refine xS ?_ | refine xM ?_ | refine xT ?_ | refine xF ?_ | ((first | refine xR ?_ | refine xW ?_ | refine vq_id ?_); simp only [go_sem, Nat.reduceAdd, Nat.reduceLeDiff, Nat.reduceSub, Int.reduceToNat, reduceCtorEq]) | (refine ⟨by first | omega | (intros; simp_all; done) | (intros; simp_all; omega), ?_⟩; try simp only [go_sem, Nat.reduceAdd, Nat.reduceLeDiff, Nat.reduceSub, Int.reduceToNat, reduceCtorEq])); exact AE.ret0 rfl ⟨rfl, rfl, trivial⟩ rfl ⟨rfl, by simp [tupOf, AV.st]⟩)
theorem one_spec (a b : Int) (l : List UInt8) (hl : l.length ≤ 1000000000) : PFn Tryz.prog 64 [.agg [Iv a, Iv b], Sv l] (Bv (numB a b l)) := by
  refine ACall.walk [0, 1, 2, 4, 6] [] Tryz.func64 rfl Tryz.ntmps64 (by kernel_rfl) (by rfl) rfl fun W own I0 φ0 lay => ?_
  repeat (first | refine xA ?_ | refine xB ?_ | refine xC ?_ | refine xE ?_ | refine xD ?_ | refine xK ?_ | refine xS ?_ | refine xM ?_ | refine xT ?_ | refine xF ?_ | ((first | refine xR ?_ | refine xW ?_ | refine vq_id ?_); simp only [go_sem, Nat.reduceAdd, Nat.reduceLeDiff, Nat.reduceSub, Int.reduceToNat, reduceCtorEq]) | (refine ⟨by first | omega | (intros; simp_all; done) | (intros; simp_all; omega), ?_⟩; try simp only [go_sem, Nat.reduceAdd, Nat.reduceLeDiff, Nat.reduceSub, Int.reduceToNat, reduceCtorEq]))
  refine AQ.fn (by kernel_rfl) rfl rfl rfl (number_spec a b l hl) rfl ?_
  repeat (first | refine xA ?_ | refine xB ?_ | refine xC ?_ | refine xE ?_ | refine xD ?_ | refine xK ?_ | refine xS ?_ | refine xM ?_ | refine xT ?_ | refine xF ?_ | ((first | refine xR ?_ | refine xW ?_ | refine vq_id ?_); simp only [go_sem, Nat.reduceAdd, Nat.reduceLeDiff, Nat.reduceSub, Int.reduceToNat, reduceCtorEq]) | (refine ⟨by first | omega | (intros; simp_all; done) | (intros; simp_all; omega), ?_⟩; try simp only [go_sem, Nat.reduceAdd, Nat.reduceLeDiff, Nat.reduceSub, Int.reduceToNat, reduceCtorEq]))
  exact AE.ret0 rfl ⟨rfl, trivial⟩ rfl ⟨rfl, rfl⟩
def twoB (a b : Int) (l : List UInt8) : Bool := (cutS l).2.2 && numB a b (cutS l).1 && numB a b (cutS l).2.1
theorem cutS_len (l : List UInt8) : (cutS l).1.length ≤ l.length ∧ (cutS l).2.1.length ≤ l.length := by
  unfold cutS
  split
  · simp
  · constructor
    · rw [List.length_take]; exact Nat.min_le_right _ _
    · rw [List.length_drop]; exact Nat.sub_le _ _
theorem two_spec (a b : Int) (l : List UInt8) (hl : l.length ≤ 1000000000) : PFn Tryz.prog 66 [.agg [Iv a, Iv b], Sv l] (Bv (twoB a b l)) := by
  have hlen := cutS_len l
  have h1 := one_spec a b (cutS l).1 (by omega)
  have h2 := one_spec a b (cutS l).2.1 (by omega)
  unfold twoB
  cases hc : (cutS l).2.2 with
  | false =>
    refine ACall.walk [0, 1, 2, 4, 5, 6, 7] [] Tryz.func66 rfl Tryz.ntmps66 (by kernel_rfl) (by rfl) rfl fun W own I0 φ0 lay => ?_
    repeat (first | refine xA ?_ | refine xB ?_ | refine xC ?_ | refine xE ?_ | refine xD ?_ | refine xK ?_ | refine xS ?_ | refine xM ?_ | refine xT ?_ | refine xF ?_ | ((first | refine xR ?_ | refine xW ?_ | refine vq_id ?_); simp only [go_sem, Nat.reduceAdd, Nat.reduceLeDiff, Nat.reduceSub, Int.reduceToNat, reduceCtorEq]) | (refine ⟨by first | omega | (intros; simp_all; done) | (intros; simp_all; omega), ?_⟩; try simp only [go_sem, Nat.reduceAdd, Nat.reduceLeDiff, Nat.reduceSub, Int.reduceToNat, reduceCtorEq]))
    refine AQ.fn (by kernel_rfl) rfl rfl rfl (cut_spec l hl) rfl ?_
    repeat (first | refine xA ?_ | refine xB ?_ | refine xC ?_ | refine xE ?_ | refine xD ?_ | refine xK ?_ | refine xS ?_ | refine xM ?_ | refine xT ?_ | refine xF ?_ | ((first | refine xR ?_ | refine xW ?_ | refine vq_id ?_); simp only [go_sem, Nat.reduceAdd, Nat.reduceLeDiff, Nat.reduceSub, Int.reduceToNat, reduceCtorEq, hc]) | (refine ⟨by first | omega | (intros; simp_all; done) | (intros; simp_all; omega), ?_⟩; try simp only [go_sem, Nat.reduceAdd, Nat.reduceLeDiff, Nat.reduceSub, Int.reduceToNat, reduceCtorEq, hc]))
    exact AE.ret0 rfl ⟨rfl, trivial⟩ rfl ⟨rfl, rfl⟩
  | true =>
    refine ACall.walk [0, 1, 2, 4, 5, 6, 7] [] Tryz.func66 rfl Tryz.ntmps66 (by kernel_rfl) (by rfl) rfl fun W own I0 φ0 lay => ?_
    repeat (first | refine xA ?_ | refine xB ?_ | refine xC ?_ | refine xE ?_ | refine xD ?_ | refine xK ?_ | refine xS ?_ | refine xM ?_ | refine xT ?_ | refine xF ?_ | ((first | refine xR ?_ | refine xW ?_ | refine vq_id ?_); simp only [go_sem, Nat.reduceAdd, Nat.reduceLeDiff, Nat.reduceSub, Int.reduceToNat, reduceCtorEq]) | (refine ⟨by first | omega | (intros; simp_all; done) | (intros; simp_all; omega), ?_⟩; try simp only [go_sem, Nat.reduceAdd, Nat.reduceLeDiff, Nat.reduceSub, Int.reduceToNat, reduceCtorEq]))
    refine AQ.fn (by kernel_rfl) rfl rfl rfl (cut_spec l hl) rfl ?_
    repeat (first | refine xA ?_ | refine xB ?_ | refine xC ?_ | refine xE ?_ | refine xD ?_ | refine xK ?_ | refine xS ?_ | refine xM ?_ | refine xT ?_ | refine xF ?_ | ((first | refine xR ?_ | refine xW ?_ | refine vq_id ?_); simp only [go_sem, Nat.reduceAdd, Nat.reduceLeDiff, Nat.reduceSub, Int.reduceToNat, reduceCtorEq, hc]) | (refine ⟨by first | omega | (intros; simp_all; done) | (intros; simp_all; omega), ?_⟩; try simp only [go_sem, Nat.reduceAdd, Nat.reduceLeDiff, Nat.reduceSub, Int.reduceToNat, reduceCtorEq, hc]))
    refine AQ.fn_g (by kernel_rfl) rfl rfl (fun h => by first | (simp [gs, AV.g]; done) | (simp [gs, AV.g, constAV]; done) | (simp [gs, AV.g, constAV, bw] at h ⊢; done) | (simp [gs, AV.g, constAV, bw] at h ⊢; exact h) | (simp [gs, AV.g, constAV, bw] at h ⊢; simp [h]; done) | (simp [bw] at h; done) | (simp [gs, AV.g, bw] at h ⊢; simp [h]; done) | (simp [gs, AV.g, bw] at h ⊢; exact h.1) | (simp [gs, AV.g]; rfl) | (simp [gs, AV.g, bw] at h ⊢; rfl) | (simp [gs, AV.g, bw] at h ⊢; simp [h]; rfl) | (simp [gs, AV.g, bw] at h ⊢; simp_all)) rfl (fun _ => h1) rfl ?_
    repeat (first | refine xA ?_ | refine xB ?_ | refine xC ?_ | refine xE ?_ | refine xD ?_ | refine xK ?_ | refine xS ?_ | refine xM ?_ | refine xT ?_ | refine xF ?_ | ((first | refine xR ?_ | refine xW ?_ | refine vq_id ?_); simp only [go_sem, Nat.reduceAdd, Nat.reduceLeDiff, Nat.reduceSub, Int.reduceToNat, reduceCtorEq, hc]) | (refine ⟨by first | omega | (intros; simp_all; done) | (intros; simp_all; omega), ?_⟩; try simp only [go_sem, Nat.reduceAdd, Nat.reduceLeDiff, Nat.reduceSub, Int.reduceToNat, reduceCtorEq, hc]))
    refine AQ.fn_g (by kernel_rfl) rfl rfl (fun h => by first | (simp [gs, AV.g]; done) | (simp [gs, AV.g, constAV]; done) | (simp [gs, AV.g, constAV, bw] at h ⊢; done) | (simp [gs, AV.g, constAV, bw] at h ⊢; exact h) | (simp [gs, AV.g, constAV, bw] at h ⊢; simp [h]; done) | (simp [bw] at h; done) | (simp [gs, AV.g, bw] at h ⊢; simp [h]; done) | (simp [gs, AV.g, bw] at h ⊢; exact h.1) | (simp [gs, AV.g]; rfl) | (simp [gs, AV.g, bw] at h ⊢; rfl) | (simp [gs, AV.g, bw] at h ⊢; simp [h]; rfl) | (simp [gs, AV.g, bw] at h ⊢; simp_all)) rfl (fun _ => h2) rfl ?_
    repeat (first | refine xA ?_ | refine xB ?_ | refine xC ?_ | refine xE ?_ | refine xD ?_ | refine xK ?_ | refine xS ?_ | refine xM ?_ | refine xT ?_ | refine xF ?_ | ((first | refine xR ?_ | refine xW ?_ | refine vq_id ?_); simp only [go_sem, Nat.reduceAdd, Nat.reduceLeDiff, Nat.reduceSub, Int.reduceToNat, reduceCtorEq, hc]) | (refine ⟨by first | omega | (intros; simp_all; done) | (intros; simp_all; omega), ?_⟩; try simp only [go_sem, Nat.reduceAdd, Nat.reduceLeDiff, Nat.reduceSub, Int.reduceToNat, reduceCtorEq, hc]))
    exact AE.ret0 rfl ⟨rfl, trivial⟩ rfl ⟨rfl, by simp [tupOf, AV.st]⟩
end Go.Proofs.YtlpcdpjkdodmcaaGreatDoor
end

section
namespace Go.Proofs.YtlpcdpjkdodmcaaGreatDoor
open Go Go.AL Go.RowKit
set_option maxRecDepth 10000
set_option maxHeartbeats 4000000
def digs (l : List UInt8) : Nat := l.foldl (fun n c => 10 * n + (c.toNat - 48)) 0
def isDig (c : UInt8) : Bool := decide (48 ≤ c.toNat) && decide (c.toNat ≤ 57)
def badHead (l : List UInt8) : Bool := decide (l.length = 0) || decide (10 < l.length) || (decide (1 < l.length) && decide ((l.getD 0 0).toNat = 48))
def numR (a b : Int) (l : List UInt8) : Bool := !badHead l && l.all isDig && decide (a ≤ digs l) && decide ((digs l : Int) ≤ b)
theorem digs_step (l : List UInt8) (k : Nat) (hk : k < l.length) : digs (l.take (k + 1)) = 10 * digs (l.take k) + ((l.getD k 0).toNat - 48) := by
  rw [List.take_add_one, List.getElem?_eq_getElem hk, digs, List.foldl_append, List.getD_eq_getElem?_getD, List.getElem?_eq_getElem hk]
  rfl
theorem digs_lt (l : List UInt8) (h : ∀ c ∈ l, c.toNat ≤ 57) : digs l < 10 ^ l.length := by
  have : ∀ (l : List UInt8) (n : Nat), (∀ c ∈ l, c.toNat ≤ 57) → l.foldl (fun n c => 10 * n + (c.toNat - 48)) n < (n + 1) * 10 ^ l.length := by
    intro l
    induction l with
    | nil => intro n _; simp
    | cons c l ih =>
      intro n h
      simp only [List.foldl_cons, List.length_cons]
      have h1 := ih (10 * n + (c.toNat - 48)) (fun d hd => h d (by simp [hd]))
      have h2 := h c (by simp)
      have h3 : (10 * n + (c.toNat - 48) + 1) * 10 ^ l.length ≤ (10 * (n + 1)) * 10 ^ l.length := Nat.mul_le_mul_right _ (by omega)
      have h4 : (10 * (n + 1)) * 10 ^ l.length = (n + 1) * 10 ^ (l.length + 1) := by rw [Nat.pow_succ, Nat.mul_comm 10, Nat.mul_assoc, Nat.mul_comm 10]
      omega
  have := this l 0 h
  simpa [digs] using this
theorem digs_lt10 (l : List UInt8) (h : ∀ c ∈ l, isDig c = true) (hl : l.length ≤ 10) : digs l < 10000000000 := by
  have h1 := digs_lt l (fun c hc => by have := h c hc; simp [isDig] at this; exact this.2)
  have h2 : 10 ^ l.length ≤ 10 ^ 10 := Nat.pow_le_pow_right (by decide) hl
  omega
theorem refnum_spec (a b : Int) (l : List UInt8) (hl : l.length ≤ 1000000000) : PFn Tryz.prog 86 [Sv l, Iv a, Iv b] (Bv (numR a b l)) := by
  have hh : ((l.length : Int) == 0 || decide (10 < (l.length : Int)) || decide (1 < (l.length : Int)) && (((l.getD 0 0).toNat : Int) == 48)) = badHead l := by
    unfold badHead
    rw [Bool.eq_iff_iff]
    simp only [Bool.or_eq_true, Bool.and_eq_true, beq_iff_eq, decide_eq_true_eq]
    omega
  refine ACall.walk [0, 1, 2, 6, 7, 8, 26, 30, 42] [] Tryz.func86 rfl Tryz.ntmps86 (by kernel_rfl) (by rfl) rfl fun W own I0 φ0 lay => ?_
  repeat (first | refine xA ?_ | refine xB ?_ | refine xC ?_ | refine xE ?_ | refine xD ?_ | refine xK ?_ | refine xS ?_ | refine xM ?_ | refine xT ?_ | refine xF ?_ | ((first | refine xR ?_ | refine xW ?_ | refine vq_id ?_); simp only [go_sem, Nat.reduceAdd, Nat.reduceLeDiff, Nat.reduceSub, Int.reduceToNat, reduceCtorEq, BA_size, BA_data, hh]) | (refine ⟨by first | omega | (intros; simp_all; done) | (intros; simp_all; omega), ?_⟩; try simp only [go_sem, Nat.reduceAdd, Nat.reduceLeDiff, Nat.reduceSub, Int.reduceToNat, reduceCtorEq, BA_size, BA_data, hh]))
  unfold numR
  refine AP.cond rfl rfl (fun hc => ?_) (fun hc => ?_)
  · rw [hc]
    repeat (first | refine xA ?_ | refine xB ?_ | refine xC ?_ | refine xE ?_ | refine xD ?_ | refine xK ?_ | refine xS ?_ | refine xM ?_ | refine xT ?_ | refine xF ?_ | ((first | refine xR ?_ | refine xW ?_ | refine vq_id ?_); simp only [go_sem, Nat.reduceAdd, Nat.reduceLeDiff, Nat.reduceSub, Int.reduceToNat, reduceCtorEq]) | (refine ⟨by first | omega | (intros; simp_all; done) | (intros; simp_all; omega), ?_⟩; try simp only [go_sem, Nat.reduceAdd, Nat.reduceLeDiff, Nat.reduceSub, Int.reduceToNat, reduceCtorEq]))
    exact AE.ret0 rfl ⟨rfl, trivial⟩ rfl ⟨rfl, rfl⟩
  · have hlen : l.length ≤ 10 := by simp [badHead] at hc; omega
    rw [hc]
    repeat (first | refine xA ?_ | refine xB ?_ | refine xC ?_ | refine xE ?_ | refine xD ?_ | refine xK ?_ | refine xS ?_ | refine xM ?_ | refine xT ?_ | refine xF ?_ | ((first | refine xR ?_ | refine xW ?_ | refine vq_id ?_); simp only [go_sem, Nat.reduceAdd, Nat.reduceLeDiff, Nat.reduceSub, Int.reduceToNat, reduceCtorEq]) | (refine ⟨by first | omega | (intros; simp_all; done) | (intros; simp_all; omega), ?_⟩; try simp only [go_sem, Nat.reduceAdd, Nat.reduceLeDiff, Nat.reduceSub, Int.reduceToNat, reduceCtorEq]))
    refine AP.loop rfl (α := Nat) (fun k => [(0, Sv l), (1, Iv a), (2, Iv b), (7, Iv (digs (l.take k))), (8, Iv k)]) (fun k => []) (fun k => k ≤ l.length ∧ ∀ c ∈ l.take k, isDig c = true) (fun k => l.length - k) 0 (by simp) (by repeat (first | exact Sub.nil _ | refine Sub.cons rfl ?_)) rfl fun k ⟨hk, hd⟩ => ?_
    have hw := wr (x := (k : Int) + 1) (by omega)
    repeat (first | refine xA ?_ | refine xB ?_ | refine xC ?_ | refine xE ?_ | refine xD ?_ | refine xK ?_ | refine xS ?_ | refine xM ?_ | refine xT ?_ | refine xF ?_ | ((first | refine xR ?_ | refine xW ?_ | refine vq_id ?_); simp only [go_sem, Nat.reduceAdd, Nat.reduceLeDiff, Nat.reduceSub, Int.reduceToNat, reduceCtorEq, BA_size]) | (refine ⟨by first | omega | (intros; simp_all; done) | (intros; simp_all; omega), ?_⟩; try simp only [go_sem, Nat.reduceAdd, Nat.reduceLeDiff, Nat.reduceSub, Int.reduceToNat, reduceCtorEq, BA_size]))
    refine AP.cond rfl rfl (fun hc2 => ?_) (fun hc2 => ?_)
    · have hk' : k < l.length := by simp at hc2; omega
      obtain ⟨c, hcc⟩ : ∃ c, l.getD k 0 = c := ⟨_, rfl⟩
      have hb := c.toNat_lt
      repeat (first | refine xA ?_ | refine xB ?_ | refine xC ?_ | refine xE ?_ | refine xD ?_ | refine xK ?_ | refine xS ?_ | refine xM ?_ | refine xT ?_ | refine xF ?_ | ((first | refine xR ?_ | refine xW ?_ | refine vq_id ?_); simp only [go_sem, Nat.reduceAdd, Nat.reduceLeDiff, Nat.reduceSub, Int.reduceToNat, reduceCtorEq, BA_size, hcc, Int.toNat_natCast]) | (refine ⟨by first | omega | (intros; simp_all; done) | (intros; simp_all; omega), ?_⟩; try simp only [go_sem, Nat.reduceAdd, Nat.reduceLeDiff, Nat.reduceSub, Int.reduceToNat, reduceCtorEq, BA_size, hcc, Int.toNat_natCast]))
      refine AP.cond rfl rfl (fun hc3 => ?_) (fun hc3 => ?_)
      · have hnd : l.all isDig = false := by
          rw [List.all_eq_false]
          refine ⟨c, ?_, ?_⟩
          · rw [← hcc, List.getD_eq_getElem?_getD, List.getElem?_eq_getElem hk']; exact List.getElem_mem hk'
          · simp only [Bool.or_eq_true, decide_eq_true_eq] at hc3
            simp only [isDig, Bool.and_eq_true, decide_eq_true_eq]
            omega
        rw [hnd]
        repeat (first | refine xA ?_ | refine xB ?_ | refine xC ?_ | refine xE ?_ | refine xD ?_ | refine xK ?_ | refine xS ?_ | refine xM ?_ | refine xT ?_ | refine xF ?_ | ((first | refine xR ?_ | refine xW ?_ | refine vq_id ?_); simp only [go_sem, Nat.reduceAdd, Nat.reduceLeDiff, Nat.reduceSub, Int.reduceToNat, reduceCtorEq]) | (refine ⟨by first | omega | (intros; simp_all; done) | (intros; simp_all; omega), ?_⟩; try simp only [go_sem, Nat.reduceAdd, Nat.reduceLeDiff, Nat.reduceSub, Int.reduceToNat, reduceCtorEq]))
        exact AE.ret0 rfl ⟨rfl, trivial⟩ rfl ⟨rfl, rfl⟩
      · have hcd : 48 ≤ c.toNat ∧ c.toNat ≤ 57 := by
          simp only [Bool.or_eq_false_iff, decide_eq_false_iff_not] at hc3
          omega
        have hst := digs_step l k hk'
        rw [hcc] at hst
        have hlt := digs_lt10 (l.take k) hd (by rw [List.length_take]; omega)
        have w1 := wr (x := 10 * (digs (l.take k) : Int)) (by omega)
        have w2 : IntKind.u8.wrap ((c.toNat : Int) - 48) = ((c.toNat - 48 : Nat) : Int) := by
          simp only [IntKind.wrap, IntKind.bits, IntKind.signed, Bool.false_and, Bool.false_eq_true, if_false]
          omega
        have w3 := wr (x := ((c.toNat - 48 : Nat) : Int)) (by omega)
        have w4 : IntKind.i64.wrap (10 * (digs (l.take k) : Int) + ((c.toNat - 48 : Nat) : Int)) = ((10 * digs (l.take k) + (c.toNat - 48) : Nat) : Int) := by rw [wr (by omega)]; omega
        repeat (first | refine xA ?_ | refine xB ?_ | refine xC ?_ | refine xE ?_ | refine xD ?_ | refine xK ?_ | refine xS ?_ | refine xM ?_ | refine xT ?_ | refine xF ?_ | ((first | refine xR ?_ | refine xW ?_ | refine vq_id ?_); simp only [go_sem, Nat.reduceAdd, Nat.reduceLeDiff, Nat.reduceSub, Int.reduceToNat, reduceCtorEq, BA_size, hcc, Int.toNat_natCast, hw, w1, w2, w3, w4]) | (refine ⟨by first | omega | (intros; simp_all; done) | (intros; simp_all; omega), ?_⟩; try simp only [go_sem, Nat.reduceAdd, Nat.reduceLeDiff, Nat.reduceSub, Int.reduceToNat, reduceCtorEq, BA_size, hcc, Int.toNat_natCast, hw, w1, w2, w3, w4]))
        refine AE.round (k + 1) ⟨by omega, fun d hd' => ?_⟩ (by omega) ?_ rfl
        · rw [List.take_add_one, List.getElem?_eq_getElem hk'] at hd'
          rcases List.mem_append.1 hd' with h | h
          · exact hd d h
          · have : d = c := by
              have e : l[k] = c := by rw [← hcc, List.getD_eq_getElem?_getD, List.getElem?_eq_getElem hk']; rfl
              simpa [e] using h
            rw [this]
            simp [isDig, hcd]
        · rw [hst]
          exact (by repeat (first | exact Sub.nil _ | refine Sub.cons rfl ?_))
    · have hk' : k = l.length := by simp at hc2; omega
      rw [hk', List.take_length] at hd ⊢
      have hall : l.all isDig = true := List.all_eq_true.2 hd
      rw [hall]
      repeat (first | refine xA ?_ | refine xB ?_ | refine xC ?_ | refine xE ?_ | refine xD ?_ | refine xK ?_ | refine xS ?_ | refine xM ?_ | refine xT ?_ | refine xF ?_ | ((first | refine xR ?_ | refine xW ?_ | refine vq_id ?_); simp only [go_sem, Nat.reduceAdd, Nat.reduceLeDiff, Nat.reduceSub, Int.reduceToNat, reduceCtorEq]) | (refine ⟨by first | omega | (intros; simp_all; done) | (intros; simp_all; omega), ?_⟩; try simp only [go_sem, Nat.reduceAdd, Nat.reduceLeDiff, Nat.reduceSub, Int.reduceToNat, reduceCtorEq]))
      refine AE.ret0 rfl ⟨rfl, trivial⟩ rfl ⟨rfl, ?_⟩
      simp [tupOf, AV.st]
end Go.Proofs.YtlpcdpjkdodmcaaGreatDoor
end

section
namespace Go.Proofs.YtlpcdpjkdodmcaaGreatDoor
open Go Go.AL
theorem digs_snoc (l : List UInt8) (c : UInt8) : digs (l ++ [c]) = 10 * digs l + (c.toNat - 48) := by simp [digs, List.foldl_append]
theorem ofn (d : Nat) (h : d < 10) : (UInt8.ofNat (48 + d)).toNat = 48 + d := by
  rw [UInt8.toNat_ofNat']; omega
theorem dec_facts : ∀ (u : Nat), digs (Lib.decDigits u) = u ∧ (∀ c ∈ Lib.decDigits u, isDig c = true) ∧ Lib.decDigits u ≠ [] ∧ (∀ k, 1 ≤ k → u < 10 ^ k → (Lib.decDigits u).length ≤ k) ∧ (u ≠ 0 → ((Lib.decDigits u).getD 0 0).toNat ≠ 48) ∧ (1 < (Lib.decDigits u).length → u ≠ 0) := by
  intro u
  induction u using Nat.strongRecOn with
  | _ u ih =>
    rw [Lib.decDigits]
    by_cases h : u < 10
    · rw [dif_pos h]
      refine ⟨?_, ?_, by simp, ?_, ?_, by simp⟩
      · simp only [digs, List.foldl_cons, List.foldl_nil, ofn u h]; omega
      · intro c hc
        simp only [List.mem_singleton] at hc
        subst hc
        simp only [isDig, ofn u h, Bool.and_eq_true, decide_eq_true_eq]; omega
      · intro k hk _; simpa using hk
      · intro h0; simp only [List.getD_cons_zero, ofn u h]; omega
    · rw [dif_neg h]
      obtain ⟨h1, h2, h3, h4, h5, h6⟩ := ih (u / 10) (by omega)
      have hm : u % 10 < 10 := Nat.mod_lt _ (by decide)
      refine ⟨?_, ?_, by simp, ?_, ?_, fun _ => by omega⟩
      · rw [digs_snoc, h1, ofn _ hm]; omega
      · intro c hc
        rcases List.mem_append.1 hc with hc | hc
        · exact h2 c hc
        · simp only [List.mem_singleton] at hc
          subst hc
          simp only [isDig, ofn _ hm, Bool.and_eq_true, decide_eq_true_eq]; omega
      · intro k hk hu
        match k, hk with
        | 1, _ => omega
        | k + 2, _ =>
          have := h4 (k + 1) (by omega) (by rw [Nat.pow_succ] at hu; omega)
          rw [List.length_append, List.length_singleton]; omega
      · intro _
        have h7 := h5 (by omega)
        match hd : Lib.decDigits (u / 10), h3 with
        | x :: r, _ => rw [hd] at h7; simpa using h7
theorem dec_uniq : ∀ (n : Nat) (l : List UInt8), l.length = n + 1 → (∀ c ∈ l, isDig c = true) → (1 < l.length → (l.getD 0 0).toNat ≠ 48) → Lib.decDigits (digs l) = l ∧ ((l.getD 0 0).toNat ≠ 48 → digs l ≠ 0)
  | 0, l, hl, hd, _ => by
    match l, hl with
    | [c], _ =>
      have hc := hd c (by simp)
      simp only [isDig, Bool.and_eq_true, decide_eq_true_eq] at hc
      have e : digs [c] = c.toNat - 48 := by simp [digs]
      rw [e]
      refine ⟨?_, fun h => by simp only [List.getD_cons_zero] at h; omega⟩
      rw [Lib.decDigits, dif_pos (by omega)]
      have : UInt8.ofNat (48 + (c.toNat - 48)) = c := by
        rw [show 48 + (c.toNat - 48) = c.toNat by omega]; simp
      rw [this]
  | n + 1, l, hl, hd, hz => by
    obtain ⟨r, c, rfl⟩ : ∃ r c, l = r ++ [c] := by
      rcases List.eq_nil_or_concat l with rfl | ⟨r, c, rfl⟩
      · simp at hl
      · exact ⟨r, c, List.concat_eq_append⟩
    have hrl : r.length = n + 1 := by simp at hl; omega
    have hg : (r ++ [c]).getD 0 0 = r.getD 0 0 := by
      match r, hrl with
      | x :: r, _ => rfl
    rw [hg] at hz ⊢
    have h0 := hz (by rw [List.length_append, List.length_singleton]; omega)
    obtain ⟨h1, h2⟩ := dec_uniq n r hrl (fun d hd' => hd d (by simp [hd'])) (fun _ => h0)
    have hc := hd c (by simp)
    simp only [isDig, Bool.and_eq_true, decide_eq_true_eq] at hc
    have h3 := h2 h0
    rw [digs_snoc]
    refine ⟨?_, fun _ => by omega⟩
    rw [Lib.decDigits, dif_neg (by omega), show (10 * digs r + (c.toNat - 48)) / 10 = digs r by omega, h1, show (10 * digs r + (c.toNat - 48)) % 10 = c.toNat - 48 by omega]
    have : UInt8.ofNat (48 + (c.toNat - 48)) = c := by
      rw [show 48 + (c.toNat - 48) = c.toNat by omega]; simp
    rw [this]
theorem parse_digs : ∀ (l : List UInt8) (acc : Nat), (∀ c ∈ l, isDig c = true) → (l.foldl (fun n c => 10 * n + (c.toNat - 48)) acc) < 100000000000 → Lib.parseUint10 acc l = .ok (l.foldl (fun n c => 10 * n + (c.toNat - 48)) acc)
  | [], acc, _, _ => rfl
  | c :: r, acc, hd, hlt => by
    have hc := hd c (by simp)
    simp only [isDig, Bool.and_eq_true, decide_eq_true_eq] at hc
    have hmono : ∀ (r : List UInt8) (a : Nat), a ≤ r.foldl (fun n c => 10 * n + (c.toNat - 48)) a := by
      intro r
      induction r with
      | nil => intro a; exact Nat.le_refl _
      | cons x r ih => intro a; simp only [List.foldl_cons]; exact Nat.le_trans (by omega) (ih _)
    simp only [List.foldl_cons] at hlt ⊢
    have h1 := hmono r (10 * acc + (c.toNat - 48))
    rw [Lib.parseUint10, if_pos ⟨hc.1, hc.2⟩, if_neg (by omega), if_neg (by omega), show acc * 10 + (c.toNat - 48) = 10 * acc + (c.toNat - 48) by omega]
    exact parse_digs r _ (fun d hd' => hd d (by simp [hd'])) hlt
theorem atoi_digs (l : List UInt8) (hd : ∀ c ∈ l, isDig c = true) (hn : l ≠ []) (hlt : digs l < 100000000000) : atoiV l = ((digs l : Int), true) := by
  match l, hn with
  | c :: r, _ =>
    have hc := hd c (by simp)
    simp only [isDig, Bool.and_eq_true, decide_eq_true_eq] at hc
    have : Lib.atoiAll (c :: r) = .ok (digs (c :: r) : Int) := by
      rw [Lib.atoiAll_plain c r (by omega) (by omega), Lib.parseMag, if_neg (by simp), parse_digs (c :: r) 0 hd hlt]
      show (if 9223372036854775808 ≤ digs (c :: r) then Lib.NumEnd.range else .ok ((digs (c :: r) : Nat) : Int)) = _
      rw [if_neg (by omega)]
    simp only [atoiV, this]
theorem num_same (a b : Int) (l : List UInt8) (ha : 0 ≤ a) (hb : b ≤ 2147483647) : numB a b l = numR a b l := by
  rw [Bool.eq_iff_iff]
  unfold numB numR badHead
  simp only [Bool.and_eq_true, Bool.not_eq_true', Bool.or_eq_false_iff, Bool.and_eq_false_iff, decide_eq_true_eq, decide_eq_false_iff_not, beq_iff_eq, List.all_eq_true]
  constructor
  · rintro ⟨⟨⟨h1, h2⟩, h3⟩, h4⟩
    generalize (atoiV l).1 = n at *
    have e : Lib.itoa n = Lib.decDigits n.toNat := by rw [Lib.itoa, if_neg (by omega)]
    rw [e] at h2
    subst h2
    obtain ⟨f1, f2, f3, f4, f5, f6⟩ := dec_facts n.toNat
    have f7 := f4 10 (by decide) (by omega)
    have hlen : (Lib.decDigits n.toNat).length ≠ 0 := by rw [Ne, List.length_eq_zero_iff]; exact f3
    refine ⟨⟨⟨⟨⟨hlen, by omega⟩, ?_⟩, f2⟩, by rw [f1]; omega⟩, by rw [f1]; omega⟩
    by_cases h : 1 < (Lib.decDigits n.toNat).length
    · exact .inr (f5 (f6 h))
    · exact .inl h
  · rintro ⟨⟨⟨⟨⟨h1, h2⟩, h3⟩, h4⟩, h5⟩, h6⟩
    have hne : l ≠ [] := by rwa [Ne, ← List.length_eq_zero_iff]
    have hlt := digs_lt10 l h4 (by omega)
    rw [atoi_digs l h4 hne (by omega)]
    refine ⟨⟨⟨rfl, ?_⟩, h5⟩, h6⟩
    have e : Lib.itoa (digs l : Int) = Lib.decDigits (digs l) := by rw [Lib.itoa, if_neg (by omega)]; rfl
    show Lib.itoa (digs l : Int) = l
    rw [e]
    exact (dec_uniq (l.length - 1) l (by omega) h4 (fun h => h3.resolve_left (by omega))).1
end Go.Proofs.YtlpcdpjkdodmcaaGreatDoor
end

section
namespace Go.Proofs.YtlpcdpjkdodmcaaGreatDoor
open Go Go.AL Go.RowKit
set_option maxRecDepth 10000
set_option maxHeartbeats 4000000
def pairR (l : List UInt8) : Bool := (cutS l).2.2 && numR 0 2147483647 (cutS l).1 && numR 0 2147483647 (cutS l).2.1
theorem cutS_at (l : List UInt8) (k : Nat) (hk : k < l.length) (h : l.getD k 0 = 32) (hn : ∀ j, j < k → l.getD j 0 ≠ 32) : cutS l = (l.take k, l.drop (k + 1), true) := by
  have hge := Lib.indexByte_ge l 32
  have hk1 : l[k]? = some 32 := by rw [List.getElem?_eq_getElem hk]; rw [List.getD_eq_getElem?_getD, List.getElem?_eq_getElem hk] at h; exact congrArg some h
  have e : Lib.indexByte l 32 = k := by
    by_cases h0 : Lib.indexByte l 32 = -1
    · exact absurd hk1 (Lib.indexByte_none h0 k)
    · obtain ⟨o, ho⟩ : ∃ o : Nat, Lib.indexByte l 32 = o := ⟨(Lib.indexByte l 32).toNat, by omega⟩
      obtain ⟨h1, h2⟩ := Lib.indexByte_some ho
      rw [ho]
      rcases Nat.lt_trichotomy o k with h3 | h3 | h3
      · have := hn o h3
        rw [List.getD_eq_getElem?_getD, h1] at this
        exact absurd rfl this
      · rw [h3]
      · exact absurd hk1 (h2 k h3)
  simp [cutS, e]
theorem cutS_none (l : List UInt8) (hn : ∀ j, j < l.length → l.getD j 0 ≠ 32) : (cutS l).2.2 = false := by
  have hge := Lib.indexByte_ge l 32
  by_cases h0 : Lib.indexByte l 32 = -1
  · simp [cutS, h0]
  · obtain ⟨o, ho⟩ : ∃ o : Nat, Lib.indexByte l 32 = o := ⟨(Lib.indexByte l 32).toNat, by omega⟩
    have h1 := (Lib.indexByte_some ho).1
    have := hn o (List.getElem?_eq_some_iff.1 h1).1
    rw [List.getD_eq_getElem?_getD, h1] at this
    exact absurd rfl this
theorem pair_ref (l : List UInt8) (hl : l.length ≤ 1000000000) : PFn Tryz.prog 87 [Sv l] (Bv (pairR l)) := by
  refine ACall.walk [0, 2, 3, 7, 13] [] Tryz.func87 rfl Tryz.ntmps87 (by kernel_rfl) (by rfl) rfl fun W own I0 φ0 lay => ?_
  repeat (first | refine xA ?_ | refine xB ?_ | refine xC ?_ | refine xE ?_ | refine xD ?_ | refine xK ?_ | refine xS ?_ | refine xM ?_ | refine xT ?_ | refine xF ?_ | ((first | refine xR ?_ | refine xW ?_ | refine vq_id ?_); simp only [go_sem, Nat.reduceAdd, Nat.reduceLeDiff, Nat.reduceSub, Int.reduceToNat, reduceCtorEq]) | (refine ⟨by first | omega | (intros; simp_all; done) | (intros; simp_all; omega), ?_⟩; try simp only [go_sem, Nat.reduceAdd, Nat.reduceLeDiff, Nat.reduceSub, Int.reduceToNat, reduceCtorEq]))
  refine AP.loop rfl (α := Nat) (fun k => [(0, Sv l), (3, Iv k)]) (fun k => []) (fun k => k ≤ l.length ∧ ∀ j, j < k → l.getD j 0 ≠ 32) (fun k => l.length - k) 0 (by simp) (by repeat (first | exact Sub.nil _ | refine Sub.cons rfl ?_)) rfl fun k ⟨hk, hd⟩ => ?_
  have hw := wr (x := (k : Int) + 1) (by omega)
  repeat (first | refine xA ?_ | refine xB ?_ | refine xC ?_ | refine xE ?_ | refine xD ?_ | refine xK ?_ | refine xS ?_ | refine xM ?_ | refine xT ?_ | refine xF ?_ | ((first | refine xR ?_ | refine xW ?_ | refine vq_id ?_); simp only [go_sem, Nat.reduceAdd, Nat.reduceLeDiff, Nat.reduceSub, Int.reduceToNat, reduceCtorEq, BA_size]) | (refine ⟨by first | omega | (intros; simp_all; done) | (intros; simp_all; omega), ?_⟩; try simp only [go_sem, Nat.reduceAdd, Nat.reduceLeDiff, Nat.reduceSub, Int.reduceToNat, reduceCtorEq, BA_size]))
  refine AP.cond rfl rfl (fun hc => ?_) (fun hc => ?_)
  · have hk' : k < l.length := by simp at hc; omega
    obtain ⟨c, hcc⟩ : ∃ c, l.getD k 0 = c := ⟨_, rfl⟩
    repeat (first | refine xA ?_ | refine xB ?_ | refine xC ?_ | refine xE ?_ | refine xD ?_ | refine xK ?_ | refine xS ?_ | refine xM ?_ | refine xT ?_ | refine xF ?_ | ((first | refine xR ?_ | refine xW ?_ | refine vq_id ?_); simp only [go_sem, Nat.reduceAdd, Nat.reduceLeDiff, Nat.reduceSub, Int.reduceToNat, reduceCtorEq, BA_size, hcc, Int.toNat_natCast]) | (refine ⟨by first | omega | (intros; simp_all; done) | (intros; simp_all; omega), ?_⟩; try simp only [go_sem, Nat.reduceAdd, Nat.reduceLeDiff, Nat.reduceSub, Int.reduceToNat, reduceCtorEq, BA_size, hcc, Int.toNat_natCast]))
    refine AP.cond rfl rfl (fun hc2 => ?_) (fun hc2 => ?_)
    · have h32 : c = 32 := by
        simp only [beq_iff_eq] at hc2
        exact UInt8.toNat_inj.1 (by rw [show ((32 : UInt8).toNat) = 32 from rfl]; omega)
      rw [h32] at hcc
      have hcut := cutS_at l k hk' hcc hd
      unfold pairR
      rw [hcut]
      simp only [Bool.true_and]
      have hs1 := refnum_spec 0 2147483647 (l.take k) (by rw [List.length_take]; omega)
      have hs2 := refnum_spec 0 2147483647 (l.drop (k + 1)) (by rw [List.length_drop]; omega)
      have e1 : (l.drop 0).take (k - 0) = l.take k := by simp
      have e2 : ((k : Int) + 1).toNat = k + 1 := by omega
      have e3 : (l.drop (k + 1)).take (l.length - (k + 1)) = l.drop (k + 1) := List.take_of_length_le (by rw [List.length_drop]; omega)
      repeat (first | refine xA ?_ | refine xB ?_ | refine xC ?_ | refine xE ?_ | refine xD ?_ | refine xK ?_ | refine xS ?_ | refine xM ?_ | refine xT ?_ | refine xF ?_ | ((first | refine xR ?_ | refine xW ?_ | refine vq_id ?_); simp only [go_sem, Nat.reduceAdd, Nat.reduceLeDiff, Nat.reduceSub, Int.reduceToNat, reduceCtorEq, BA_size, BA_extract, hw, e1, Int.toNat_natCast]) | (refine ⟨by first | omega | (intros; simp_all; done) | (intros; simp_all; omega), ?_⟩; try simp only [go_sem, Nat.reduceAdd, Nat.reduceLeDiff, Nat.reduceSub, Int.reduceToNat, reduceCtorEq, BA_size, BA_extract, hw, e1, Int.toNat_natCast]))
      refine AQ.fn (by kernel_rfl) rfl rfl rfl (hs1) rfl ?_
      repeat (first | refine xA ?_ | refine xB ?_ | refine xC ?_ | refine xE ?_ | refine xD ?_ | refine xK ?_ | refine xS ?_ | refine xM ?_ | refine xT ?_ | refine xF ?_ | ((first | refine xR ?_ | refine xW ?_ | refine vq_id ?_); simp only [go_sem, Nat.reduceAdd, Nat.reduceLeDiff, Nat.reduceSub, Int.reduceToNat, reduceCtorEq, BA_size, BA_extract, hw, e2, e3]) | (refine ⟨by first | omega | (intros; simp_all; done) | (intros; simp_all; omega), ?_⟩; try simp only [go_sem, Nat.reduceAdd, Nat.reduceLeDiff, Nat.reduceSub, Int.reduceToNat, reduceCtorEq, BA_size, BA_extract, hw, e2, e3]))
      refine AQ.fn_g (by kernel_rfl) rfl rfl (fun h => by first | (simp [gs, AV.g]; done) | (simp [gs, AV.g, constAV]; done) | (simp [gs, AV.g, constAV, bw] at h ⊢; done) | (simp [gs, AV.g, constAV, bw] at h ⊢; exact h) | (simp [gs, AV.g, constAV, bw] at h ⊢; simp [h]; done) | (simp [bw] at h; done) | (simp [gs, AV.g, bw] at h ⊢; simp [h]; done) | (simp [gs, AV.g, bw] at h ⊢; exact h.1) | (simp [gs, AV.g]; rfl) | (simp [gs, AV.g, bw] at h ⊢; rfl) | (simp [gs, AV.g, bw] at h ⊢; simp [h]; rfl) | (simp [gs, AV.g, bw] at h ⊢; simp_all)) rfl (fun _ => hs2) rfl ?_
      repeat (first | refine xA ?_ | refine xB ?_ | refine xC ?_ | refine xE ?_ | refine xD ?_ | refine xK ?_ | refine xS ?_ | refine xM ?_ | refine xT ?_ | refine xF ?_ | ((first | refine xR ?_ | refine xW ?_ | refine vq_id ?_); simp only [go_sem, Nat.reduceAdd, Nat.reduceLeDiff, Nat.reduceSub, Int.reduceToNat, reduceCtorEq]) | (refine ⟨by first | omega | (intros; simp_all; done) | (intros; simp_all; omega), ?_⟩; try simp only [go_sem, Nat.reduceAdd, Nat.reduceLeDiff, Nat.reduceSub, Int.reduceToNat, reduceCtorEq]))
      exact AE.ret0 rfl ⟨rfl, trivial⟩ rfl ⟨rfl, by simp [tupOf, AV.st]⟩
    · repeat (first | refine xA ?_ | refine xB ?_ | refine xC ?_ | refine xE ?_ | refine xD ?_ | refine xK ?_ | refine xS ?_ | refine xM ?_ | refine xT ?_ | refine xF ?_ | ((first | refine xR ?_ | refine xW ?_ | refine vq_id ?_); simp only [go_sem, Nat.reduceAdd, Nat.reduceLeDiff, Nat.reduceSub, Int.reduceToNat, reduceCtorEq, hw]) | (refine ⟨by first | omega | (intros; simp_all; done) | (intros; simp_all; omega), ?_⟩; try simp only [go_sem, Nat.reduceAdd, Nat.reduceLeDiff, Nat.reduceSub, Int.reduceToNat, reduceCtorEq, hw]))
      refine AE.round (k + 1) ⟨by omega, fun j hj => ?_⟩ (by omega) (by repeat (first | exact Sub.nil _ | refine Sub.cons rfl ?_)) rfl
      rcases Nat.lt_or_ge j k with h | h
      · exact hd j h
      · have : j = k := by omega
        subst this
        rw [hcc]
        intro h32
        subst h32
        simp at hc2
  · have hk' : k = l.length := by simp at hc; omega
    rw [hk'] at hd
    have := cutS_none l hd
    unfold pairR
    rw [this]
    repeat (first | refine xA ?_ | refine xB ?_ | refine xC ?_ | refine xE ?_ | refine xD ?_ | refine xK ?_ | refine xS ?_ | refine xM ?_ | refine xT ?_ | refine xF ?_ | ((first | refine xR ?_ | refine xW ?_ | refine vq_id ?_); simp only [go_sem, Nat.reduceAdd, Nat.reduceLeDiff, Nat.reduceSub, Int.reduceToNat, reduceCtorEq]) | (refine ⟨by first | omega | (intros; simp_all; done) | (intros; simp_all; omega), ?_⟩; try simp only [go_sem, Nat.reduceAdd, Nat.reduceLeDiff, Nat.reduceSub, Int.reduceToNat, reduceCtorEq]))
    exact AE.ret0 rfl ⟨rfl, trivial⟩ rfl ⟨rfl, rfl⟩
theorem two_same (l : List UInt8) : twoB 0 2147483647 l = pairR l := by
  unfold twoB pairR
  rw [num_same _ _ _ (by decide) (by decide), num_same _ _ _ (by decide) (by decide)]
def bodyB (k : Int) (l : List UInt8) : Bool :=
  if k = 1 then onlyOk l [2, 3] else if k = 3 then onlyOk l [2] else if k = 4 then l == [] || onlyOk l [2] else if k = 5 then numR 1 2147483647 l else if k = 6 then l == [] else if k = 7 then numR 1 16 l else if k = 9 then pairR l else true
def msgE (k n : Int) (l : List UInt8) : Int :=
  if k < 1 ∨ 9 < k then 411 else if n < 1 ∨ 2147483647 < n then 412 else if 20000 < l.length then 4 else if bodyB k l then 0 else 2
theorem body_ref (k : Int) (l : List UInt8) (hl : l.length ≤ 1000000000) : PFn Tryz.prog 71 [Iv k, Sv l] (Bv (bodyB k l)) := by
  have h1 := isSymbol_ref l (by omega)
  have h2 := isLabel_ref l (by omega)
  have h3 := refnum_spec 1 2147483647 l hl
  have h4 := refnum_spec 1 16 l hl
  have h5 := pair_ref l hl
  refine ACall.walk [0, 1, 4, 5, 6, 10, 14, 22, 26, 30, 34] [] Tryz.func71 rfl Tryz.ntmps71 (by kernel_rfl) (by rfl) rfl fun W own I0 φ0 lay => ?_
  repeat (first | refine xA ?_ | refine xB ?_ | refine xC ?_ | refine xE ?_ | refine xD ?_ | refine xK ?_ | refine xS ?_ | refine xM ?_ | refine xT ?_ | refine xF ?_ | ((first | refine xR ?_ | refine xW ?_ | refine vq_id ?_); simp only [go_sem, Nat.reduceAdd, Nat.reduceLeDiff, Nat.reduceSub, Int.reduceToNat, reduceCtorEq]) | (refine ⟨by first | omega | (intros; simp_all; done) | (intros; simp_all; omega), ?_⟩; try simp only [go_sem, Nat.reduceAdd, Nat.reduceLeDiff, Nat.reduceSub, Int.reduceToNat, reduceCtorEq]))
  unfold bodyB
  refine AP.cond rfl rfl (fun hc => ?_) (fun hc => ?_)
  · simp only [beq_iff_eq] at hc; subst hc
    repeat (first | refine xA ?_ | refine xB ?_ | refine xC ?_ | refine xE ?_ | refine xD ?_ | refine xK ?_ | refine xS ?_ | refine xM ?_ | refine xT ?_ | refine xF ?_ | ((first | refine xR ?_ | refine xW ?_ | refine vq_id ?_); simp only [go_sem, Nat.reduceAdd, Nat.reduceLeDiff, Nat.reduceSub, Int.reduceToNat, reduceCtorEq]) | (refine ⟨by first | omega | (intros; simp_all; done) | (intros; simp_all; omega), ?_⟩; try simp only [go_sem, Nat.reduceAdd, Nat.reduceLeDiff, Nat.reduceSub, Int.reduceToNat, reduceCtorEq]))
    refine AQ.fn (by kernel_rfl) rfl rfl rfl (h1) rfl ?_
    repeat (first | refine xA ?_ | refine xB ?_ | refine xC ?_ | refine xE ?_ | refine xD ?_ | refine xK ?_ | refine xS ?_ | refine xM ?_ | refine xT ?_ | refine xF ?_ | ((first | refine xR ?_ | refine xW ?_ | refine vq_id ?_); simp only [go_sem, Nat.reduceAdd, Nat.reduceLeDiff, Nat.reduceSub, Int.reduceToNat, reduceCtorEq]) | (refine ⟨by first | omega | (intros; simp_all; done) | (intros; simp_all; omega), ?_⟩; try simp only [go_sem, Nat.reduceAdd, Nat.reduceLeDiff, Nat.reduceSub, Int.reduceToNat, reduceCtorEq]))
    exact AE.ret0 rfl ⟨rfl, trivial⟩ rfl ⟨rfl, rfl⟩
  simp only [beq_eq_false_iff_ne] at hc
  rw [if_neg hc]
  repeat (first | refine xA ?_ | refine xB ?_ | refine xC ?_ | refine xE ?_ | refine xD ?_ | refine xK ?_ | refine xS ?_ | refine xM ?_ | refine xT ?_ | refine xF ?_ | ((first | refine xR ?_ | refine xW ?_ | refine vq_id ?_); simp only [go_sem, Nat.reduceAdd, Nat.reduceLeDiff, Nat.reduceSub, Int.reduceToNat, reduceCtorEq]) | (refine ⟨by first | omega | (intros; simp_all; done) | (intros; simp_all; omega), ?_⟩; try simp only [go_sem, Nat.reduceAdd, Nat.reduceLeDiff, Nat.reduceSub, Int.reduceToNat, reduceCtorEq]))
  refine AP.cond rfl rfl (fun hc => ?_) (fun hc => ?_)
  · simp only [beq_iff_eq] at hc; subst hc
    repeat (first | refine xA ?_ | refine xB ?_ | refine xC ?_ | refine xE ?_ | refine xD ?_ | refine xK ?_ | refine xS ?_ | refine xM ?_ | refine xT ?_ | refine xF ?_ | ((first | refine xR ?_ | refine xW ?_ | refine vq_id ?_); simp only [go_sem, Nat.reduceAdd, Nat.reduceLeDiff, Nat.reduceSub, Int.reduceToNat, reduceCtorEq]) | (refine ⟨by first | omega | (intros; simp_all; done) | (intros; simp_all; omega), ?_⟩; try simp only [go_sem, Nat.reduceAdd, Nat.reduceLeDiff, Nat.reduceSub, Int.reduceToNat, reduceCtorEq]))
    refine AQ.fn (by kernel_rfl) rfl rfl rfl (h2) rfl ?_
    repeat (first | refine xA ?_ | refine xB ?_ | refine xC ?_ | refine xE ?_ | refine xD ?_ | refine xK ?_ | refine xS ?_ | refine xM ?_ | refine xT ?_ | refine xF ?_ | ((first | refine xR ?_ | refine xW ?_ | refine vq_id ?_); simp only [go_sem, Nat.reduceAdd, Nat.reduceLeDiff, Nat.reduceSub, Int.reduceToNat, reduceCtorEq]) | (refine ⟨by first | omega | (intros; simp_all; done) | (intros; simp_all; omega), ?_⟩; try simp only [go_sem, Nat.reduceAdd, Nat.reduceLeDiff, Nat.reduceSub, Int.reduceToNat, reduceCtorEq]))
    exact AE.ret0 rfl ⟨rfl, trivial⟩ rfl ⟨rfl, rfl⟩
  simp only [beq_eq_false_iff_ne] at hc
  rw [if_neg hc]
  repeat (first | refine xA ?_ | refine xB ?_ | refine xC ?_ | refine xE ?_ | refine xD ?_ | refine xK ?_ | refine xS ?_ | refine xM ?_ | refine xT ?_ | refine xF ?_ | ((first | refine xR ?_ | refine xW ?_ | refine vq_id ?_); simp only [go_sem, Nat.reduceAdd, Nat.reduceLeDiff, Nat.reduceSub, Int.reduceToNat, reduceCtorEq]) | (refine ⟨by first | omega | (intros; simp_all; done) | (intros; simp_all; omega), ?_⟩; try simp only [go_sem, Nat.reduceAdd, Nat.reduceLeDiff, Nat.reduceSub, Int.reduceToNat, reduceCtorEq]))
  refine AP.cond rfl rfl (fun hc => ?_) (fun hc => ?_)
  · simp only [beq_iff_eq] at hc; subst hc
    repeat (first | refine xA ?_ | refine xB ?_ | refine xC ?_ | refine xE ?_ | refine xD ?_ | refine xK ?_ | refine xS ?_ | refine xM ?_ | refine xT ?_ | refine xF ?_ | ((first | refine xR ?_ | refine xW ?_ | refine vq_id ?_); simp only [go_sem, Nat.reduceAdd, Nat.reduceLeDiff, Nat.reduceSub, Int.reduceToNat, reduceCtorEq]) | (refine ⟨by first | omega | (intros; simp_all; done) | (intros; simp_all; omega), ?_⟩; try simp only [go_sem, Nat.reduceAdd, Nat.reduceLeDiff, Nat.reduceSub, Int.reduceToNat, reduceCtorEq]))
    refine AQ.fn_g (by kernel_rfl) rfl rfl (fun h => by first | (simp [gs, AV.g]; done) | (simp [gs, AV.g, constAV]; done) | (simp [gs, AV.g, constAV, bw] at h ⊢; done) | (simp [gs, AV.g, constAV, bw] at h ⊢; exact h) | (simp [gs, AV.g, constAV, bw] at h ⊢; simp [h]; done) | (simp [bw] at h; done) | (simp [gs, AV.g, bw] at h ⊢; simp [h]; done) | (simp [gs, AV.g, bw] at h ⊢; exact h.1) | (simp [gs, AV.g]; rfl) | (simp [gs, AV.g, bw] at h ⊢; rfl) | (simp [gs, AV.g, bw] at h ⊢; simp [h]; rfl) | (simp [gs, AV.g, bw] at h ⊢; simp_all)) rfl (fun _ => h2) rfl ?_
    repeat (first | refine xA ?_ | refine xB ?_ | refine xC ?_ | refine xE ?_ | refine xD ?_ | refine xK ?_ | refine xS ?_ | refine xM ?_ | refine xT ?_ | refine xF ?_ | ((first | refine xR ?_ | refine xW ?_ | refine vq_id ?_); simp only [go_sem, Nat.reduceAdd, Nat.reduceLeDiff, Nat.reduceSub, Int.reduceToNat, reduceCtorEq]) | (refine ⟨by first | omega | (intros; simp_all; done) | (intros; simp_all; omega), ?_⟩; try simp only [go_sem, Nat.reduceAdd, Nat.reduceLeDiff, Nat.reduceSub, Int.reduceToNat, reduceCtorEq]))
    exact AE.ret0 rfl ⟨rfl, trivial⟩ rfl ⟨rfl, by simp [tupOf, AV.st]⟩
  simp only [beq_eq_false_iff_ne] at hc
  rw [if_neg hc]
  repeat (first | refine xA ?_ | refine xB ?_ | refine xC ?_ | refine xE ?_ | refine xD ?_ | refine xK ?_ | refine xS ?_ | refine xM ?_ | refine xT ?_ | refine xF ?_ | ((first | refine xR ?_ | refine xW ?_ | refine vq_id ?_); simp only [go_sem, Nat.reduceAdd, Nat.reduceLeDiff, Nat.reduceSub, Int.reduceToNat, reduceCtorEq]) | (refine ⟨by first | omega | (intros; simp_all; done) | (intros; simp_all; omega), ?_⟩; try simp only [go_sem, Nat.reduceAdd, Nat.reduceLeDiff, Nat.reduceSub, Int.reduceToNat, reduceCtorEq]))
  refine AP.cond rfl rfl (fun hc => ?_) (fun hc => ?_)
  · simp only [beq_iff_eq] at hc; subst hc
    repeat (first | refine xA ?_ | refine xB ?_ | refine xC ?_ | refine xE ?_ | refine xD ?_ | refine xK ?_ | refine xS ?_ | refine xM ?_ | refine xT ?_ | refine xF ?_ | ((first | refine xR ?_ | refine xW ?_ | refine vq_id ?_); simp only [go_sem, Nat.reduceAdd, Nat.reduceLeDiff, Nat.reduceSub, Int.reduceToNat, reduceCtorEq]) | (refine ⟨by first | omega | (intros; simp_all; done) | (intros; simp_all; omega), ?_⟩; try simp only [go_sem, Nat.reduceAdd, Nat.reduceLeDiff, Nat.reduceSub, Int.reduceToNat, reduceCtorEq]))
    refine AQ.fn (by kernel_rfl) rfl rfl rfl (h3) rfl ?_
    repeat (first | refine xA ?_ | refine xB ?_ | refine xC ?_ | refine xE ?_ | refine xD ?_ | refine xK ?_ | refine xS ?_ | refine xM ?_ | refine xT ?_ | refine xF ?_ | ((first | refine xR ?_ | refine xW ?_ | refine vq_id ?_); simp only [go_sem, Nat.reduceAdd, Nat.reduceLeDiff, Nat.reduceSub, Int.reduceToNat, reduceCtorEq]) | (refine ⟨by first | omega | (intros; simp_all; done) | (intros; simp_all; omega), ?_⟩; try simp only [go_sem, Nat.reduceAdd, Nat.reduceLeDiff, Nat.reduceSub, Int.reduceToNat, reduceCtorEq]))
    exact AE.ret0 rfl ⟨rfl, trivial⟩ rfl ⟨rfl, rfl⟩
  simp only [beq_eq_false_iff_ne] at hc
  rw [if_neg hc]
  repeat (first | refine xA ?_ | refine xB ?_ | refine xC ?_ | refine xE ?_ | refine xD ?_ | refine xK ?_ | refine xS ?_ | refine xM ?_ | refine xT ?_ | refine xF ?_ | ((first | refine xR ?_ | refine xW ?_ | refine vq_id ?_); simp only [go_sem, Nat.reduceAdd, Nat.reduceLeDiff, Nat.reduceSub, Int.reduceToNat, reduceCtorEq]) | (refine ⟨by first | omega | (intros; simp_all; done) | (intros; simp_all; omega), ?_⟩; try simp only [go_sem, Nat.reduceAdd, Nat.reduceLeDiff, Nat.reduceSub, Int.reduceToNat, reduceCtorEq]))
  refine AP.cond rfl rfl (fun hc => ?_) (fun hc => ?_)
  · simp only [beq_iff_eq] at hc; subst hc
    repeat (first | refine xA ?_ | refine xB ?_ | refine xC ?_ | refine xE ?_ | refine xD ?_ | refine xK ?_ | refine xS ?_ | refine xM ?_ | refine xT ?_ | refine xF ?_ | ((first | refine xR ?_ | refine xW ?_ | refine vq_id ?_); simp only [go_sem, Nat.reduceAdd, Nat.reduceLeDiff, Nat.reduceSub, Int.reduceToNat, reduceCtorEq]) | (refine ⟨by first | omega | (intros; simp_all; done) | (intros; simp_all; omega), ?_⟩; try simp only [go_sem, Nat.reduceAdd, Nat.reduceLeDiff, Nat.reduceSub, Int.reduceToNat, reduceCtorEq]))
    exact AE.ret0 rfl ⟨rfl, trivial⟩ rfl ⟨rfl, rfl⟩
  simp only [beq_eq_false_iff_ne] at hc
  rw [if_neg hc]
  repeat (first | refine xA ?_ | refine xB ?_ | refine xC ?_ | refine xE ?_ | refine xD ?_ | refine xK ?_ | refine xS ?_ | refine xM ?_ | refine xT ?_ | refine xF ?_ | ((first | refine xR ?_ | refine xW ?_ | refine vq_id ?_); simp only [go_sem, Nat.reduceAdd, Nat.reduceLeDiff, Nat.reduceSub, Int.reduceToNat, reduceCtorEq]) | (refine ⟨by first | omega | (intros; simp_all; done) | (intros; simp_all; omega), ?_⟩; try simp only [go_sem, Nat.reduceAdd, Nat.reduceLeDiff, Nat.reduceSub, Int.reduceToNat, reduceCtorEq]))
  refine AP.cond rfl rfl (fun hc => ?_) (fun hc => ?_)
  · simp only [beq_iff_eq] at hc; subst hc
    repeat (first | refine xA ?_ | refine xB ?_ | refine xC ?_ | refine xE ?_ | refine xD ?_ | refine xK ?_ | refine xS ?_ | refine xM ?_ | refine xT ?_ | refine xF ?_ | ((first | refine xR ?_ | refine xW ?_ | refine vq_id ?_); simp only [go_sem, Nat.reduceAdd, Nat.reduceLeDiff, Nat.reduceSub, Int.reduceToNat, reduceCtorEq]) | (refine ⟨by first | omega | (intros; simp_all; done) | (intros; simp_all; omega), ?_⟩; try simp only [go_sem, Nat.reduceAdd, Nat.reduceLeDiff, Nat.reduceSub, Int.reduceToNat, reduceCtorEq]))
    refine AQ.fn (by kernel_rfl) rfl rfl rfl (h4) rfl ?_
    repeat (first | refine xA ?_ | refine xB ?_ | refine xC ?_ | refine xE ?_ | refine xD ?_ | refine xK ?_ | refine xS ?_ | refine xM ?_ | refine xT ?_ | refine xF ?_ | ((first | refine xR ?_ | refine xW ?_ | refine vq_id ?_); simp only [go_sem, Nat.reduceAdd, Nat.reduceLeDiff, Nat.reduceSub, Int.reduceToNat, reduceCtorEq]) | (refine ⟨by first | omega | (intros; simp_all; done) | (intros; simp_all; omega), ?_⟩; try simp only [go_sem, Nat.reduceAdd, Nat.reduceLeDiff, Nat.reduceSub, Int.reduceToNat, reduceCtorEq]))
    exact AE.ret0 rfl ⟨rfl, trivial⟩ rfl ⟨rfl, rfl⟩
  simp only [beq_eq_false_iff_ne] at hc
  rw [if_neg hc]
  repeat (first | refine xA ?_ | refine xB ?_ | refine xC ?_ | refine xE ?_ | refine xD ?_ | refine xK ?_ | refine xS ?_ | refine xM ?_ | refine xT ?_ | refine xF ?_ | ((first | refine xR ?_ | refine xW ?_ | refine vq_id ?_); simp only [go_sem, Nat.reduceAdd, Nat.reduceLeDiff, Nat.reduceSub, Int.reduceToNat, reduceCtorEq]) | (refine ⟨by first | omega | (intros; simp_all; done) | (intros; simp_all; omega), ?_⟩; try simp only [go_sem, Nat.reduceAdd, Nat.reduceLeDiff, Nat.reduceSub, Int.reduceToNat, reduceCtorEq]))
  refine AP.cond rfl rfl (fun hc => ?_) (fun hc => ?_)
  · simp only [beq_iff_eq] at hc; subst hc
    repeat (first | refine xA ?_ | refine xB ?_ | refine xC ?_ | refine xE ?_ | refine xD ?_ | refine xK ?_ | refine xS ?_ | refine xM ?_ | refine xT ?_ | refine xF ?_ | ((first | refine xR ?_ | refine xW ?_ | refine vq_id ?_); simp only [go_sem, Nat.reduceAdd, Nat.reduceLeDiff, Nat.reduceSub, Int.reduceToNat, reduceCtorEq]) | (refine ⟨by first | omega | (intros; simp_all; done) | (intros; simp_all; omega), ?_⟩; try simp only [go_sem, Nat.reduceAdd, Nat.reduceLeDiff, Nat.reduceSub, Int.reduceToNat, reduceCtorEq]))
    refine AQ.fn (by kernel_rfl) rfl rfl rfl (h5) rfl ?_
    repeat (first | refine xA ?_ | refine xB ?_ | refine xC ?_ | refine xE ?_ | refine xD ?_ | refine xK ?_ | refine xS ?_ | refine xM ?_ | refine xT ?_ | refine xF ?_ | ((first | refine xR ?_ | refine xW ?_ | refine vq_id ?_); simp only [go_sem, Nat.reduceAdd, Nat.reduceLeDiff, Nat.reduceSub, Int.reduceToNat, reduceCtorEq]) | (refine ⟨by first | omega | (intros; simp_all; done) | (intros; simp_all; omega), ?_⟩; try simp only [go_sem, Nat.reduceAdd, Nat.reduceLeDiff, Nat.reduceSub, Int.reduceToNat, reduceCtorEq]))
    exact AE.ret0 rfl ⟨rfl, trivial⟩ rfl ⟨rfl, rfl⟩
  simp only [beq_eq_false_iff_ne] at hc
  rw [if_neg hc]
  repeat (first | refine xA ?_ | refine xB ?_ | refine xC ?_ | refine xE ?_ | refine xD ?_ | refine xK ?_ | refine xS ?_ | refine xM ?_ | refine xT ?_ | refine xF ?_ | ((first | refine xR ?_ | refine xW ?_ | refine vq_id ?_); simp only [go_sem, Nat.reduceAdd, Nat.reduceLeDiff, Nat.reduceSub, Int.reduceToNat, reduceCtorEq]) | (refine ⟨by first | omega | (intros; simp_all; done) | (intros; simp_all; omega), ?_⟩; try simp only [go_sem, Nat.reduceAdd, Nat.reduceLeDiff, Nat.reduceSub, Int.reduceToNat, reduceCtorEq]))
  exact AE.ret0 rfl ⟨rfl, trivial⟩ rfl ⟨rfl, rfl⟩
theorem wrong_ref (k n : Int) (l : List UInt8) : PFn Tryz.prog 50 [.agg [Iv k, Iv n, Sv l]] (Iv (msgE k n l)) := by
  refine ACall.walk [0, 1, 2, 3, 12, 21, 26] [] Tryz.func50 rfl Tryz.ntmps50 (by kernel_rfl) (by rfl) rfl fun W own I0 φ0 lay => ?_
  repeat (first | refine xA ?_ | refine xB ?_ | refine xC ?_ | refine xE ?_ | refine xD ?_ | refine xK ?_ | refine xS ?_ | refine xM ?_ | refine xT ?_ | refine xF ?_ | ((first | refine xR ?_ | refine xW ?_ | refine vq_id ?_); simp only [go_sem, Nat.reduceAdd, Nat.reduceLeDiff, Nat.reduceSub, Int.reduceToNat, reduceCtorEq]) | (refine ⟨by first | omega | (intros; simp_all; done) | (intros; simp_all; omega), ?_⟩; try simp only [go_sem, Nat.reduceAdd, Nat.reduceLeDiff, Nat.reduceSub, Int.reduceToNat, reduceCtorEq]))
  unfold msgE
  refine AP.cond rfl rfl (fun hc => ?_) (fun hc => ?_)
  · simp only [Bool.or_eq_true, decide_eq_true_eq] at hc
    rw [if_pos hc]
    repeat (first | refine xA ?_ | refine xB ?_ | refine xC ?_ | refine xE ?_ | refine xD ?_ | refine xK ?_ | refine xS ?_ | refine xM ?_ | refine xT ?_ | refine xF ?_ | ((first | refine xR ?_ | refine xW ?_ | refine vq_id ?_); simp only [go_sem, Nat.reduceAdd, Nat.reduceLeDiff, Nat.reduceSub, Int.reduceToNat, reduceCtorEq]) | (refine ⟨by first | omega | (intros; simp_all; done) | (intros; simp_all; omega), ?_⟩; try simp only [go_sem, Nat.reduceAdd, Nat.reduceLeDiff, Nat.reduceSub, Int.reduceToNat, reduceCtorEq]))
    exact AE.ret0 rfl ⟨rfl, trivial⟩ rfl ⟨rfl, rfl⟩
  simp only [Bool.or_eq_false_iff, decide_eq_false_iff_not] at hc
  rw [if_neg (by omega)]
  repeat (first | refine xA ?_ | refine xB ?_ | refine xC ?_ | refine xE ?_ | refine xD ?_ | refine xK ?_ | refine xS ?_ | refine xM ?_ | refine xT ?_ | refine xF ?_ | ((first | refine xR ?_ | refine xW ?_ | refine vq_id ?_); simp only [go_sem, Nat.reduceAdd, Nat.reduceLeDiff, Nat.reduceSub, Int.reduceToNat, reduceCtorEq]) | (refine ⟨by first | omega | (intros; simp_all; done) | (intros; simp_all; omega), ?_⟩; try simp only [go_sem, Nat.reduceAdd, Nat.reduceLeDiff, Nat.reduceSub, Int.reduceToNat, reduceCtorEq]))
  refine AP.cond rfl rfl (fun hc2 => ?_) (fun hc2 => ?_)
  · simp only [Bool.or_eq_true, decide_eq_true_eq] at hc2
    rw [if_pos hc2]
    repeat (first | refine xA ?_ | refine xB ?_ | refine xC ?_ | refine xE ?_ | refine xD ?_ | refine xK ?_ | refine xS ?_ | refine xM ?_ | refine xT ?_ | refine xF ?_ | ((first | refine xR ?_ | refine xW ?_ | refine vq_id ?_); simp only [go_sem, Nat.reduceAdd, Nat.reduceLeDiff, Nat.reduceSub, Int.reduceToNat, reduceCtorEq]) | (refine ⟨by first | omega | (intros; simp_all; done) | (intros; simp_all; omega), ?_⟩; try simp only [go_sem, Nat.reduceAdd, Nat.reduceLeDiff, Nat.reduceSub, Int.reduceToNat, reduceCtorEq]))
    exact AE.ret0 rfl ⟨rfl, trivial⟩ rfl ⟨rfl, rfl⟩
  simp only [Bool.or_eq_false_iff, decide_eq_false_iff_not] at hc2
  rw [if_neg (by omega)]
  repeat (first | refine xA ?_ | refine xB ?_ | refine xC ?_ | refine xE ?_ | refine xD ?_ | refine xK ?_ | refine xS ?_ | refine xM ?_ | refine xT ?_ | refine xF ?_ | ((first | refine xR ?_ | refine xW ?_ | refine vq_id ?_); simp only [go_sem, Nat.reduceAdd, Nat.reduceLeDiff, Nat.reduceSub, Int.reduceToNat, reduceCtorEq, BA_size]) | (refine ⟨by first | omega | (intros; simp_all; done) | (intros; simp_all; omega), ?_⟩; try simp only [go_sem, Nat.reduceAdd, Nat.reduceLeDiff, Nat.reduceSub, Int.reduceToNat, reduceCtorEq, BA_size]))
  refine AP.cond rfl rfl (fun hc3 => ?_) (fun hc3 => ?_)
  · simp only [decide_eq_true_eq] at hc3
    rw [if_pos (by omega)]
    repeat (first | refine xA ?_ | refine xB ?_ | refine xC ?_ | refine xE ?_ | refine xD ?_ | refine xK ?_ | refine xS ?_ | refine xM ?_ | refine xT ?_ | refine xF ?_ | ((first | refine xR ?_ | refine xW ?_ | refine vq_id ?_); simp only [go_sem, Nat.reduceAdd, Nat.reduceLeDiff, Nat.reduceSub, Int.reduceToNat, reduceCtorEq]) | (refine ⟨by first | omega | (intros; simp_all; done) | (intros; simp_all; omega), ?_⟩; try simp only [go_sem, Nat.reduceAdd, Nat.reduceLeDiff, Nat.reduceSub, Int.reduceToNat, reduceCtorEq]))
    exact AE.ret0 rfl ⟨rfl, trivial⟩ rfl ⟨rfl, rfl⟩
  simp only [decide_eq_false_iff_not] at hc3
  rw [if_neg (by omega)]
  have hb := body_ref k l (by omega)
  repeat (first | refine xA ?_ | refine xB ?_ | refine xC ?_ | refine xE ?_ | refine xD ?_ | refine xK ?_ | refine xS ?_ | refine xM ?_ | refine xT ?_ | refine xF ?_ | ((first | refine xR ?_ | refine xW ?_ | refine vq_id ?_); simp only [go_sem, Nat.reduceAdd, Nat.reduceLeDiff, Nat.reduceSub, Int.reduceToNat, reduceCtorEq]) | (refine ⟨by first | omega | (intros; simp_all; done) | (intros; simp_all; omega), ?_⟩; try simp only [go_sem, Nat.reduceAdd, Nat.reduceLeDiff, Nat.reduceSub, Int.reduceToNat, reduceCtorEq]))
  refine AQ.fn (by kernel_rfl) rfl rfl rfl (hb) rfl ?_
  repeat (first | refine xA ?_ | refine xB ?_ | refine xC ?_ | refine xE ?_ | refine xD ?_ | refine xK ?_ | refine xS ?_ | refine xM ?_ | refine xT ?_ | refine xF ?_ | ((first | refine xR ?_ | refine xW ?_ | refine vq_id ?_); simp only [go_sem, Nat.reduceAdd, Nat.reduceLeDiff, Nat.reduceSub, Int.reduceToNat, reduceCtorEq]) | (refine ⟨by first | omega | (intros; simp_all; done) | (intros; simp_all; omega), ?_⟩; try simp only [go_sem, Nat.reduceAdd, Nat.reduceLeDiff, Nat.reduceSub, Int.reduceToNat, reduceCtorEq]))
  refine AP.cond rfl rfl (fun hc4 => ?_) (fun hc4 => ?_)
  · simp only [Bool.not_eq_true'] at hc4
    rw [hc4]
    repeat (first | refine xA ?_ | refine xB ?_ | refine xC ?_ | refine xE ?_ | refine xD ?_ | refine xK ?_ | refine xS ?_ | refine xM ?_ | refine xT ?_ | refine xF ?_ | ((first | refine xR ?_ | refine xW ?_ | refine vq_id ?_); simp only [go_sem, Nat.reduceAdd, Nat.reduceLeDiff, Nat.reduceSub, Int.reduceToNat, reduceCtorEq]) | (refine ⟨by first | omega | (intros; simp_all; done) | (intros; simp_all; omega), ?_⟩; try simp only [go_sem, Nat.reduceAdd, Nat.reduceLeDiff, Nat.reduceSub, Int.reduceToNat, reduceCtorEq]))
    exact AE.ret0 rfl ⟨rfl, trivial⟩ rfl ⟨rfl, rfl⟩
  simp only [Bool.not_eq_false'] at hc4
  rw [hc4]
  repeat (first | refine xA ?_ | refine xB ?_ | refine xC ?_ | refine xE ?_ | refine xD ?_ | refine xK ?_ | refine xS ?_ | refine xM ?_ | refine xT ?_ | refine xF ?_ | ((first | refine xR ?_ | refine xW ?_ | refine vq_id ?_); simp only [go_sem, Nat.reduceAdd, Nat.reduceLeDiff, Nat.reduceSub, Int.reduceToNat, reduceCtorEq]) | (refine ⟨by first | omega | (intros; simp_all; done) | (intros; simp_all; omega), ?_⟩; try simp only [go_sem, Nat.reduceAdd, Nat.reduceLeDiff, Nat.reduceSub, Int.reduceToNat, reduceCtorEq]))
  exact AE.ret0 rfl ⟨rfl, trivial⟩ rfl ⟨rfl, rfl⟩
end Go.Proofs.YtlpcdpjkdodmcaaGreatDoor
end

section
namespace Go.Proofs.YtlpcdpjkdodmcaaGreatDoor
open Go Go.AL Go.RowKit
set_option maxRecDepth 10000
set_option maxHeartbeats 4000000
theorem any_spec (l : List UInt8) : PFn Tryz.prog 61 [Sv l] (Bv true) := by
  refine ACall.walk [0, 2] [] Tryz.func61 rfl Tryz.ntmps61 (by kernel_rfl) (by rfl) rfl fun W own I0 φ0 lay => ?_
  repeat (first | refine xA ?_ | refine xB ?_ | refine xC ?_ | refine xE ?_ | refine xD ?_ | refine xK ?_ | refine xS ?_ | refine xM ?_ | refine xT ?_ | refine xF ?_ | ((first | refine xR ?_ | refine xW ?_ | refine vq_id ?_); simp only [go_sem, Nat.reduceAdd, Nat.reduceLeDiff, Nat.reduceSub, Int.reduceToNat, reduceCtorEq]) | (refine ⟨by first | omega | (intros; simp_all; done) | (intros; simp_all; omega), ?_⟩; try simp only [go_sem, Nat.reduceAdd, Nat.reduceLeDiff, Nat.reduceSub, Int.reduceToNat, reduceCtorEq]))
  exact AE.ret0 rfl ⟨rfl, trivial⟩ rfl ⟨rfl, rfl⟩
theorem list_spec (l : List UInt8) (hl : l.length ≤ 1000000000) : PFn Tryz.prog 63 [Sv l] (Bv (l == [] || onlyOk l [2])) := by
  have h := isLabel_spec l (by omega)
  refine ACall.walk [0, 2] [] Tryz.func63 rfl Tryz.ntmps63 (by kernel_rfl) (by rfl) rfl fun W own I0 φ0 lay => ?_
  repeat (first | refine xA ?_ | refine xB ?_ | refine xC ?_ | refine xE ?_ | refine xD ?_ | refine xK ?_ | refine xS ?_ | refine xM ?_ | refine xT ?_ | refine xF ?_ | ((first | refine xR ?_ | refine xW ?_ | refine vq_id ?_); simp only [go_sem, Nat.reduceAdd, Nat.reduceLeDiff, Nat.reduceSub, Int.reduceToNat, reduceCtorEq]) | (refine ⟨by first | omega | (intros; simp_all; done) | (intros; simp_all; omega), ?_⟩; try simp only [go_sem, Nat.reduceAdd, Nat.reduceLeDiff, Nat.reduceSub, Int.reduceToNat, reduceCtorEq]))
  refine AQ.fn_g (by kernel_rfl) rfl rfl (fun h => by first | (simp [gs, AV.g]; done) | (simp [gs, AV.g, constAV]; done) | (simp [gs, AV.g, constAV, bw] at h ⊢; done) | (simp [gs, AV.g, constAV, bw] at h ⊢; exact h) | (simp [gs, AV.g, constAV, bw] at h ⊢; simp [h]; done) | (simp [bw] at h; done) | (simp [gs, AV.g, bw] at h ⊢; simp [h]; done) | (simp [gs, AV.g, bw] at h ⊢; exact h.1) | (simp [gs, AV.g]; rfl) | (simp [gs, AV.g, bw] at h ⊢; rfl) | (simp [gs, AV.g, bw] at h ⊢; simp [h]; rfl) | (simp [gs, AV.g, bw] at h ⊢; simp_all)) rfl (fun _ => h) rfl ?_
  repeat (first | refine xA ?_ | refine xB ?_ | refine xC ?_ | refine xE ?_ | refine xD ?_ | refine xK ?_ | refine xS ?_ | refine xM ?_ | refine xT ?_ | refine xF ?_ | ((first | refine xR ?_ | refine xW ?_ | refine vq_id ?_); simp only [go_sem, Nat.reduceAdd, Nat.reduceLeDiff, Nat.reduceSub, Int.reduceToNat, reduceCtorEq]) | (refine ⟨by first | omega | (intros; simp_all; done) | (intros; simp_all; omega), ?_⟩; try simp only [go_sem, Nat.reduceAdd, Nat.reduceLeDiff, Nat.reduceSub, Int.reduceToNat, reduceCtorEq]))
  exact AE.ret0 rfl ⟨rfl, trivial⟩ rfl ⟨rfl, by simp [tupOf, AV.st]⟩
theorem bye_spec (l : List UInt8) : PFn Tryz.prog 65 [Sv l] (Bv (l == [])) := by
  refine ACall.walk [0, 2] [] Tryz.func65 rfl Tryz.ntmps65 (by kernel_rfl) (by rfl) rfl fun W own I0 φ0 lay => ?_
  repeat (first | refine xA ?_ | refine xB ?_ | refine xC ?_ | refine xE ?_ | refine xD ?_ | refine xK ?_ | refine xS ?_ | refine xM ?_ | refine xT ?_ | refine xF ?_ | ((first | refine xR ?_ | refine xW ?_ | refine vq_id ?_); simp only [go_sem, Nat.reduceAdd, Nat.reduceLeDiff, Nat.reduceSub, Int.reduceToNat, reduceCtorEq]) | (refine ⟨by first | omega | (intros; simp_all; done) | (intros; simp_all; omega), ?_⟩; try simp only [go_sem, Nat.reduceAdd, Nat.reduceLeDiff, Nat.reduceSub, Int.reduceToNat, reduceCtorEq]))
  exact AE.ret0 rfl ⟨rfl, trivial⟩ rfl ⟨rfl, rfl⟩
theorem error_spec (k n : Int) (l : List UInt8) : PFn Tryz.prog 35 [.agg [Iv k, Iv n, Sv l]] (Iv (msgE k n l)) := by
  refine ACall.walk [0, 1, 2, 3, 4, 14, 23, 32, 37] [4] Tryz.func35 rfl Tryz.ntmps35 (by kernel_rfl) (by rfl) rfl fun W own I0 φ0 lay => ?_
  have hz : List.replicate 10 Value.nilFunc = [.nilFunc, .nilFunc, .nilFunc, .nilFunc, .nilFunc, .nilFunc, .nilFunc, .nilFunc, .nilFunc, .nilFunc] := rfl
  repeat (first | refine xA ?_ | refine xB ?_ | refine xC ?_ | refine xE ?_ | refine xD ?_ | refine xK ?_ | refine xS ?_ | refine xM ?_ | refine xT ?_ | refine xF ?_ | ((first | refine xR ?_ | refine xW ?_ | refine vq_id ?_); simp only [go_sem, Nat.reduceAdd, Nat.reduceLeDiff, Nat.reduceSub, Int.reduceToNat, reduceCtorEq, hz, List.map_cons, List.map_nil, Nat.reduceMul, List.set_cons_zero, List.set_cons_succ]) | (refine ⟨by first | omega | (intros; simp_all; done) | (intros; simp_all; omega), ?_⟩; try simp only [go_sem, Nat.reduceAdd, Nat.reduceLeDiff, Nat.reduceSub, Int.reduceToNat, reduceCtorEq, hz, List.map_cons, List.map_nil, Nat.reduceMul, List.set_cons_zero, List.set_cons_succ]))
  unfold msgE
  refine AP.cond rfl rfl (fun hc => ?_) (fun hc => ?_)
  · simp only [Bool.or_eq_true, decide_eq_true_eq] at hc
    rw [if_pos hc]
    repeat (first | refine xA ?_ | refine xB ?_ | refine xC ?_ | refine xE ?_ | refine xD ?_ | refine xK ?_ | refine xS ?_ | refine xM ?_ | refine xT ?_ | refine xF ?_ | ((first | refine xR ?_ | refine xW ?_ | refine vq_id ?_); simp only [go_sem, Nat.reduceAdd, Nat.reduceLeDiff, Nat.reduceSub, Int.reduceToNat, reduceCtorEq]) | (refine ⟨by first | omega | (intros; simp_all; done) | (intros; simp_all; omega), ?_⟩; try simp only [go_sem, Nat.reduceAdd, Nat.reduceLeDiff, Nat.reduceSub, Int.reduceToNat, reduceCtorEq]))
    exact AE.ret0 rfl ⟨rfl, trivial⟩ rfl ⟨rfl, rfl⟩
  simp only [Bool.or_eq_false_iff, decide_eq_false_iff_not] at hc
  rw [if_neg (by omega)]
  repeat (first | refine xA ?_ | refine xB ?_ | refine xC ?_ | refine xE ?_ | refine xD ?_ | refine xK ?_ | refine xS ?_ | refine xM ?_ | refine xT ?_ | refine xF ?_ | ((first | refine xR ?_ | refine xW ?_ | refine vq_id ?_); simp only [go_sem, Nat.reduceAdd, Nat.reduceLeDiff, Nat.reduceSub, Int.reduceToNat, reduceCtorEq]) | (refine ⟨by first | omega | (intros; simp_all; done) | (intros; simp_all; omega), ?_⟩; try simp only [go_sem, Nat.reduceAdd, Nat.reduceLeDiff, Nat.reduceSub, Int.reduceToNat, reduceCtorEq]))
  refine AP.cond rfl rfl (fun hc2 => ?_) (fun hc2 => ?_)
  · simp only [Bool.or_eq_true, decide_eq_true_eq] at hc2
    rw [if_pos hc2]
    repeat (first | refine xA ?_ | refine xB ?_ | refine xC ?_ | refine xE ?_ | refine xD ?_ | refine xK ?_ | refine xS ?_ | refine xM ?_ | refine xT ?_ | refine xF ?_ | ((first | refine xR ?_ | refine xW ?_ | refine vq_id ?_); simp only [go_sem, Nat.reduceAdd, Nat.reduceLeDiff, Nat.reduceSub, Int.reduceToNat, reduceCtorEq]) | (refine ⟨by first | omega | (intros; simp_all; done) | (intros; simp_all; omega), ?_⟩; try simp only [go_sem, Nat.reduceAdd, Nat.reduceLeDiff, Nat.reduceSub, Int.reduceToNat, reduceCtorEq]))
    exact AE.ret0 rfl ⟨rfl, trivial⟩ rfl ⟨rfl, rfl⟩
  simp only [Bool.or_eq_false_iff, decide_eq_false_iff_not] at hc2
  rw [if_neg (by omega)]
  repeat (first | refine xA ?_ | refine xB ?_ | refine xC ?_ | refine xE ?_ | refine xD ?_ | refine xK ?_ | refine xS ?_ | refine xM ?_ | refine xT ?_ | refine xF ?_ | ((first | refine xR ?_ | refine xW ?_ | refine vq_id ?_); simp only [go_sem, Nat.reduceAdd, Nat.reduceLeDiff, Nat.reduceSub, Int.reduceToNat, reduceCtorEq, BA_size]) | (refine ⟨by first | omega | (intros; simp_all; done) | (intros; simp_all; omega), ?_⟩; try simp only [go_sem, Nat.reduceAdd, Nat.reduceLeDiff, Nat.reduceSub, Int.reduceToNat, reduceCtorEq, BA_size]))
  refine AP.cond rfl rfl (fun hc3 => ?_) (fun hc3 => ?_)
  · simp only [decide_eq_true_eq] at hc3
    rw [if_pos (by omega)]
    repeat (first | refine xA ?_ | refine xB ?_ | refine xC ?_ | refine xE ?_ | refine xD ?_ | refine xK ?_ | refine xS ?_ | refine xM ?_ | refine xT ?_ | refine xF ?_ | ((first | refine xR ?_ | refine xW ?_ | refine vq_id ?_); simp only [go_sem, Nat.reduceAdd, Nat.reduceLeDiff, Nat.reduceSub, Int.reduceToNat, reduceCtorEq]) | (refine ⟨by first | omega | (intros; simp_all; done) | (intros; simp_all; omega), ?_⟩; try simp only [go_sem, Nat.reduceAdd, Nat.reduceLeDiff, Nat.reduceSub, Int.reduceToNat, reduceCtorEq]))
    exact AE.ret0 rfl ⟨rfl, trivial⟩ rfl ⟨rfl, rfl⟩
  simp only [decide_eq_false_iff_not] at hc3
  rw [if_neg (by omega)]
  have h1 := isSymbol_spec l (by omega)
  have h2 := any_spec l
  have h3 := isLabel_spec l (by omega)
  have h4 := list_spec l (by omega)
  have h5 := one_spec 1 2147483647 l (by omega)
  have h6 := bye_spec l
  have h7 := one_spec 1 16 l (by omega)
  have h9 := two_spec 0 2147483647 l (by omega)
  rw [num_same _ _ _ (by decide) (by decide)] at h5 h7
  rw [two_same] at h9
  have hk : k = 1 ∨ k = 2 ∨ k = 3 ∨ k = 4 ∨ k = 5 ∨ k = 6 ∨ k = 7 ∨ k = 8 ∨ k = 9 := by omega
  clear hc hc2 hc3 hz
  rcases hk with rfl | rfl | rfl | rfl | rfl | rfl | rfl | rfl | rfl
  · have e : bodyB 1 l = (onlyOk l [2, 3]) := by simp [bodyB]
    rw [e]
    generalize (onlyOk l [2, 3]) = b at h1 ⊢
    repeat (first | refine xA ?_ | refine xB ?_ | refine xC ?_ | refine xE ?_ | refine xD ?_ | refine xK ?_ | refine xS ?_ | refine xM ?_ | refine xT ?_ | refine xF ?_ | ((first | refine xR ?_ | refine xW ?_ | refine vq_id ?_); simp only [go_sem, Nat.reduceAdd, Nat.reduceLeDiff, Nat.reduceSub, Int.reduceToNat, reduceCtorEq]) | (refine ⟨by first | omega | (intros; simp_all; done) | (intros; simp_all; omega), ?_⟩; try simp only [go_sem, Nat.reduceAdd, Nat.reduceLeDiff, Nat.reduceSub, Int.reduceToNat, reduceCtorEq]))
    refine AP.drawE 9 (Tree.node [] [0, 1, 2, 3, 4, 5] [6] [Tree.node [] [7, 8] [] []]) (by kernel_rfl) rfl (by kernel_rfl) (by kernel_rfl) ?_
    refine vd_node ?_
    simp only [go_sem, Nat.reduceAdd, Nat.reduceLeDiff, Nat.reduceSub, Int.reduceToNat, reduceCtorEq]
    repeat' (first | with_reducible exact True.intro | with_reducible refine And.intro (by omega) ?_ | with_reducible refine And.intro ?_ ?_ | (refine AQ.nx rfl ?_; simp only [go_sem, Nat.reduceAdd, Nat.reduceLeDiff, Nat.reduceSub, Int.reduceToNat, reduceCtorEq, Int.reduceToNat, Int.reduceLE, Int.reduceLT]) | (refine AQ.fnL ([Sv l]) (by kernel_rfl) rfl rfl rfl (by ((try simp only [List.nil_append, List.append_nil, List.cons_append, List.map_cons, List.map_nil, AV.st, constAV]); repeat (first | with_reducible exact LentC.nil | with_reducible exact LentAs.nil | with_reducible refine LentC.cons ?_ ?_ | with_reducible refine LentAs.cons ?_ ?_ | with_reducible exact Lent.im _ | with_reducible exact LentA.im _ | with_reducible refine LentA.of ?_ | with_reducible refine LentA.agg ?_ | ((with_reducible apply Lent.osw); rfl; simp only [blkR_len, wrR_len, byteR_len, List.length_append, List.length_cons, List.length_nil]) | ((with_reducible apply Lent.ob0); rfl)))) (h1) rfl (fun _ => rfl) ?_; simp only [go_sem, Nat.reduceAdd, Nat.reduceLeDiff, Nat.reduceSub, Int.reduceToNat, reduceCtorEq]) | refine AQ.done ?_ | (refine AQ.go (by kernel_rfl) ?_; simp only [go_sem, Nat.reduceAdd, Nat.reduceLeDiff, Nat.reduceSub, Int.reduceToNat, reduceCtorEq, Int.reduceToNat, Int.reduceLE, Int.reduceLT]; repeat (with_reducible refine And.intro (by omega) ?_); refine AQ.nx rfl ?_; simp only [go_sem, Nat.reduceAdd, Nat.reduceLeDiff, Nat.reduceSub, Int.reduceToNat, reduceCtorEq, Int.reduceToNat, Int.reduceLE, Int.reduceLT]))
    all_goals cases b
    all_goals
      repeat (first | refine xA ?_ | refine xB ?_ | refine xC ?_ | refine xE ?_ | refine xD ?_ | refine xK ?_ | refine xS ?_ | refine xM ?_ | refine xT ?_ | refine xF ?_ | ((first | refine xR ?_ | refine xW ?_ | refine vq_id ?_); simp only [go_sem, Nat.reduceAdd, Nat.reduceLeDiff, Nat.reduceSub, Int.reduceToNat, reduceCtorEq, Bool.not_true, Bool.not_false]) | (refine ⟨by first | omega | (intros; simp_all; done) | (intros; simp_all; omega), ?_⟩; try simp only [go_sem, Nat.reduceAdd, Nat.reduceLeDiff, Nat.reduceSub, Int.reduceToNat, reduceCtorEq, Bool.not_true, Bool.not_false]))
      exact AE.ret0 rfl ⟨rfl, trivial⟩ rfl ⟨rfl, rfl⟩
  · have e : bodyB 2 l = (true) := by simp [bodyB]
    rw [e]
    repeat (first | refine xA ?_ | refine xB ?_ | refine xC ?_ | refine xE ?_ | refine xD ?_ | refine xK ?_ | refine xS ?_ | refine xM ?_ | refine xT ?_ | refine xF ?_ | ((first | refine xR ?_ | refine xW ?_ | refine vq_id ?_); simp only [go_sem, Nat.reduceAdd, Nat.reduceLeDiff, Nat.reduceSub, Int.reduceToNat, reduceCtorEq]) | (refine ⟨by first | omega | (intros; simp_all; done) | (intros; simp_all; omega), ?_⟩; try simp only [go_sem, Nat.reduceAdd, Nat.reduceLeDiff, Nat.reduceSub, Int.reduceToNat, reduceCtorEq]))
    refine AP.drawE 9 (Tree.node [] [0, 1, 2, 3, 4, 5] [6] [Tree.node [] [7, 8] [] []]) (by kernel_rfl) rfl (by kernel_rfl) (by kernel_rfl) ?_
    refine vd_node ?_
    simp only [go_sem, Nat.reduceAdd, Nat.reduceLeDiff, Nat.reduceSub, Int.reduceToNat, reduceCtorEq]
    repeat' (first | with_reducible exact True.intro | with_reducible refine And.intro (by omega) ?_ | with_reducible refine And.intro ?_ ?_ | (refine AQ.nx rfl ?_; simp only [go_sem, Nat.reduceAdd, Nat.reduceLeDiff, Nat.reduceSub, Int.reduceToNat, reduceCtorEq, Int.reduceToNat, Int.reduceLE, Int.reduceLT]) | (refine AQ.fnL ([Sv l]) (by kernel_rfl) rfl rfl rfl (by ((try simp only [List.nil_append, List.append_nil, List.cons_append, List.map_cons, List.map_nil, AV.st, constAV]); repeat (first | with_reducible exact LentC.nil | with_reducible exact LentAs.nil | with_reducible refine LentC.cons ?_ ?_ | with_reducible refine LentAs.cons ?_ ?_ | with_reducible exact Lent.im _ | with_reducible exact LentA.im _ | with_reducible refine LentA.of ?_ | with_reducible refine LentA.agg ?_ | ((with_reducible apply Lent.osw); rfl; simp only [blkR_len, wrR_len, byteR_len, List.length_append, List.length_cons, List.length_nil]) | ((with_reducible apply Lent.ob0); rfl)))) (h2) rfl (fun _ => rfl) ?_; simp only [go_sem, Nat.reduceAdd, Nat.reduceLeDiff, Nat.reduceSub, Int.reduceToNat, reduceCtorEq]) | refine AQ.done ?_ | (refine AQ.go (by kernel_rfl) ?_; simp only [go_sem, Nat.reduceAdd, Nat.reduceLeDiff, Nat.reduceSub, Int.reduceToNat, reduceCtorEq, Int.reduceToNat, Int.reduceLE, Int.reduceLT]; repeat (with_reducible refine And.intro (by omega) ?_); refine AQ.nx rfl ?_; simp only [go_sem, Nat.reduceAdd, Nat.reduceLeDiff, Nat.reduceSub, Int.reduceToNat, reduceCtorEq, Int.reduceToNat, Int.reduceLE, Int.reduceLT]))
    repeat (first | refine xA ?_ | refine xB ?_ | refine xC ?_ | refine xE ?_ | refine xD ?_ | refine xK ?_ | refine xS ?_ | refine xM ?_ | refine xT ?_ | refine xF ?_ | ((first | refine xR ?_ | refine xW ?_ | refine vq_id ?_); simp only [go_sem, Nat.reduceAdd, Nat.reduceLeDiff, Nat.reduceSub, Int.reduceToNat, reduceCtorEq, Bool.not_true]) | (refine ⟨by first | omega | (intros; simp_all; done) | (intros; simp_all; omega), ?_⟩; try simp only [go_sem, Nat.reduceAdd, Nat.reduceLeDiff, Nat.reduceSub, Int.reduceToNat, reduceCtorEq, Bool.not_true]))
    exact AE.ret0 rfl ⟨rfl, trivial⟩ rfl ⟨rfl, rfl⟩
  · have e : bodyB 3 l = (onlyOk l [2]) := by simp [bodyB]
    rw [e]
    generalize (onlyOk l [2]) = b at h3 ⊢
    repeat (first | refine xA ?_ | refine xB ?_ | refine xC ?_ | refine xE ?_ | refine xD ?_ | refine xK ?_ | refine xS ?_ | refine xM ?_ | refine xT ?_ | refine xF ?_ | ((first | refine xR ?_ | refine xW ?_ | refine vq_id ?_); simp only [go_sem, Nat.reduceAdd, Nat.reduceLeDiff, Nat.reduceSub, Int.reduceToNat, reduceCtorEq]) | (refine ⟨by first | omega | (intros; simp_all; done) | (intros; simp_all; omega), ?_⟩; try simp only [go_sem, Nat.reduceAdd, Nat.reduceLeDiff, Nat.reduceSub, Int.reduceToNat, reduceCtorEq]))
    refine AP.drawE 9 (Tree.node [] [0, 1, 2, 3, 4, 5] [6] [Tree.node [] [7, 8] [] []]) (by kernel_rfl) rfl (by kernel_rfl) (by kernel_rfl) ?_
    refine vd_node ?_
    simp only [go_sem, Nat.reduceAdd, Nat.reduceLeDiff, Nat.reduceSub, Int.reduceToNat, reduceCtorEq]
    repeat' (first | with_reducible exact True.intro | with_reducible refine And.intro (by omega) ?_ | with_reducible refine And.intro ?_ ?_ | (refine AQ.nx rfl ?_; simp only [go_sem, Nat.reduceAdd, Nat.reduceLeDiff, Nat.reduceSub, Int.reduceToNat, reduceCtorEq, Int.reduceToNat, Int.reduceLE, Int.reduceLT]) | (refine AQ.fnL ([Sv l]) (by kernel_rfl) rfl rfl rfl (by ((try simp only [List.nil_append, List.append_nil, List.cons_append, List.map_cons, List.map_nil, AV.st, constAV]); repeat (first | with_reducible exact LentC.nil | with_reducible exact LentAs.nil | with_reducible refine LentC.cons ?_ ?_ | with_reducible refine LentAs.cons ?_ ?_ | with_reducible exact Lent.im _ | with_reducible exact LentA.im _ | with_reducible refine LentA.of ?_ | with_reducible refine LentA.agg ?_ | ((with_reducible apply Lent.osw); rfl; simp only [blkR_len, wrR_len, byteR_len, List.length_append, List.length_cons, List.length_nil]) | ((with_reducible apply Lent.ob0); rfl)))) (h3) rfl (fun _ => rfl) ?_; simp only [go_sem, Nat.reduceAdd, Nat.reduceLeDiff, Nat.reduceSub, Int.reduceToNat, reduceCtorEq]) | refine AQ.done ?_ | (refine AQ.go (by kernel_rfl) ?_; simp only [go_sem, Nat.reduceAdd, Nat.reduceLeDiff, Nat.reduceSub, Int.reduceToNat, reduceCtorEq, Int.reduceToNat, Int.reduceLE, Int.reduceLT]; repeat (with_reducible refine And.intro (by omega) ?_); refine AQ.nx rfl ?_; simp only [go_sem, Nat.reduceAdd, Nat.reduceLeDiff, Nat.reduceSub, Int.reduceToNat, reduceCtorEq, Int.reduceToNat, Int.reduceLE, Int.reduceLT]))
    all_goals cases b
    all_goals
      repeat (first | refine xA ?_ | refine xB ?_ | refine xC ?_ | refine xE ?_ | refine xD ?_ | refine xK ?_ | refine xS ?_ | refine xM ?_ | refine xT ?_ | refine xF ?_ | ((first | refine xR ?_ | refine xW ?_ | refine vq_id ?_); simp only [go_sem, Nat.reduceAdd, Nat.reduceLeDiff, Nat.reduceSub, Int.reduceToNat, reduceCtorEq, Bool.not_true, Bool.not_false]) | (refine ⟨by first | omega | (intros; simp_all; done) | (intros; simp_all; omega), ?_⟩; try simp only [go_sem, Nat.reduceAdd, Nat.reduceLeDiff, Nat.reduceSub, Int.reduceToNat, reduceCtorEq, Bool.not_true, Bool.not_false]))
      exact AE.ret0 rfl ⟨rfl, trivial⟩ rfl ⟨rfl, rfl⟩
  · have e : bodyB 4 l = (l == [] || onlyOk l [2]) := by simp [bodyB]
    rw [e]
    generalize (l == [] || onlyOk l [2]) = b at h4 ⊢
    repeat (first | refine xA ?_ | refine xB ?_ | refine xC ?_ | refine xE ?_ | refine xD ?_ | refine xK ?_ | refine xS ?_ | refine xM ?_ | refine xT ?_ | refine xF ?_ | ((first | refine xR ?_ | refine xW ?_ | refine vq_id ?_); simp only [go_sem, Nat.reduceAdd, Nat.reduceLeDiff, Nat.reduceSub, Int.reduceToNat, reduceCtorEq]) | (refine ⟨by first | omega | (intros; simp_all; done) | (intros; simp_all; omega), ?_⟩; try simp only [go_sem, Nat.reduceAdd, Nat.reduceLeDiff, Nat.reduceSub, Int.reduceToNat, reduceCtorEq]))
    refine AP.drawE 9 (Tree.node [] [0, 1, 2, 3, 4, 5] [6] [Tree.node [] [7, 8] [] []]) (by kernel_rfl) rfl (by kernel_rfl) (by kernel_rfl) ?_
    refine vd_node ?_
    simp only [go_sem, Nat.reduceAdd, Nat.reduceLeDiff, Nat.reduceSub, Int.reduceToNat, reduceCtorEq]
    repeat' (first | with_reducible exact True.intro | with_reducible refine And.intro (by omega) ?_ | with_reducible refine And.intro ?_ ?_ | (refine AQ.nx rfl ?_; simp only [go_sem, Nat.reduceAdd, Nat.reduceLeDiff, Nat.reduceSub, Int.reduceToNat, reduceCtorEq, Int.reduceToNat, Int.reduceLE, Int.reduceLT]) | (refine AQ.fnL ([Sv l]) (by kernel_rfl) rfl rfl rfl (by ((try simp only [List.nil_append, List.append_nil, List.cons_append, List.map_cons, List.map_nil, AV.st, constAV]); repeat (first | with_reducible exact LentC.nil | with_reducible exact LentAs.nil | with_reducible refine LentC.cons ?_ ?_ | with_reducible refine LentAs.cons ?_ ?_ | with_reducible exact Lent.im _ | with_reducible exact LentA.im _ | with_reducible refine LentA.of ?_ | with_reducible refine LentA.agg ?_ | ((with_reducible apply Lent.osw); rfl; simp only [blkR_len, wrR_len, byteR_len, List.length_append, List.length_cons, List.length_nil]) | ((with_reducible apply Lent.ob0); rfl)))) (h4) rfl (fun _ => rfl) ?_; simp only [go_sem, Nat.reduceAdd, Nat.reduceLeDiff, Nat.reduceSub, Int.reduceToNat, reduceCtorEq]) | refine AQ.done ?_ | (refine AQ.go (by kernel_rfl) ?_; simp only [go_sem, Nat.reduceAdd, Nat.reduceLeDiff, Nat.reduceSub, Int.reduceToNat, reduceCtorEq, Int.reduceToNat, Int.reduceLE, Int.reduceLT]; repeat (with_reducible refine And.intro (by omega) ?_); refine AQ.nx rfl ?_; simp only [go_sem, Nat.reduceAdd, Nat.reduceLeDiff, Nat.reduceSub, Int.reduceToNat, reduceCtorEq, Int.reduceToNat, Int.reduceLE, Int.reduceLT]))
    all_goals cases b
    all_goals
      repeat (first | refine xA ?_ | refine xB ?_ | refine xC ?_ | refine xE ?_ | refine xD ?_ | refine xK ?_ | refine xS ?_ | refine xM ?_ | refine xT ?_ | refine xF ?_ | ((first | refine xR ?_ | refine xW ?_ | refine vq_id ?_); simp only [go_sem, Nat.reduceAdd, Nat.reduceLeDiff, Nat.reduceSub, Int.reduceToNat, reduceCtorEq, Bool.not_true, Bool.not_false]) | (refine ⟨by first | omega | (intros; simp_all; done) | (intros; simp_all; omega), ?_⟩; try simp only [go_sem, Nat.reduceAdd, Nat.reduceLeDiff, Nat.reduceSub, Int.reduceToNat, reduceCtorEq, Bool.not_true, Bool.not_false]))
      exact AE.ret0 rfl ⟨rfl, trivial⟩ rfl ⟨rfl, rfl⟩
  · have e : bodyB 5 l = (numR 1 2147483647 l) := by simp [bodyB]
    rw [e]
    generalize (numR 1 2147483647 l) = b at h5 ⊢
    repeat (first | refine xA ?_ | refine xB ?_ | refine xC ?_ | refine xE ?_ | refine xD ?_ | refine xK ?_ | refine xS ?_ | refine xM ?_ | refine xT ?_ | refine xF ?_ | ((first | refine xR ?_ | refine xW ?_ | refine vq_id ?_); simp only [go_sem, Nat.reduceAdd, Nat.reduceLeDiff, Nat.reduceSub, Int.reduceToNat, reduceCtorEq]) | (refine ⟨by first | omega | (intros; simp_all; done) | (intros; simp_all; omega), ?_⟩; try simp only [go_sem, Nat.reduceAdd, Nat.reduceLeDiff, Nat.reduceSub, Int.reduceToNat, reduceCtorEq]))
    refine AP.drawE 9 (Tree.node [] [0, 1, 2, 3, 4, 5] [6] [Tree.node [] [7, 8] [] []]) (by kernel_rfl) rfl (by kernel_rfl) (by kernel_rfl) ?_
    refine vd_node ?_
    simp only [go_sem, Nat.reduceAdd, Nat.reduceLeDiff, Nat.reduceSub, Int.reduceToNat, reduceCtorEq]
    repeat' (first | with_reducible exact True.intro | with_reducible refine And.intro (by omega) ?_ | with_reducible refine And.intro ?_ ?_ | (refine AQ.nx rfl ?_; simp only [go_sem, Nat.reduceAdd, Nat.reduceLeDiff, Nat.reduceSub, Int.reduceToNat, reduceCtorEq, Int.reduceToNat, Int.reduceLE, Int.reduceLT]) | (refine AQ.fnL ([.agg [Iv 1, Iv 2147483647], Sv l]) (by kernel_rfl) rfl rfl rfl (by ((try simp only [List.nil_append, List.append_nil, List.cons_append, List.map_cons, List.map_nil, AV.st, constAV]); repeat (first | with_reducible exact LentC.nil | with_reducible exact LentAs.nil | with_reducible refine LentC.cons ?_ ?_ | with_reducible refine LentAs.cons ?_ ?_ | with_reducible exact Lent.im _ | with_reducible exact LentA.im _ | with_reducible refine LentA.of ?_ | with_reducible refine LentA.agg ?_ | ((with_reducible apply Lent.osw); rfl; simp only [blkR_len, wrR_len, byteR_len, List.length_append, List.length_cons, List.length_nil]) | ((with_reducible apply Lent.ob0); rfl)))) (h5) rfl (fun _ => rfl) ?_; simp only [go_sem, Nat.reduceAdd, Nat.reduceLeDiff, Nat.reduceSub, Int.reduceToNat, reduceCtorEq]) | refine AQ.done ?_ | (refine AQ.go (by kernel_rfl) ?_; simp only [go_sem, Nat.reduceAdd, Nat.reduceLeDiff, Nat.reduceSub, Int.reduceToNat, reduceCtorEq, Int.reduceToNat, Int.reduceLE, Int.reduceLT]; repeat (with_reducible refine And.intro (by omega) ?_); refine AQ.nx rfl ?_; simp only [go_sem, Nat.reduceAdd, Nat.reduceLeDiff, Nat.reduceSub, Int.reduceToNat, reduceCtorEq, Int.reduceToNat, Int.reduceLE, Int.reduceLT]))
    all_goals cases b
    all_goals
      repeat (first | refine xA ?_ | refine xB ?_ | refine xC ?_ | refine xE ?_ | refine xD ?_ | refine xK ?_ | refine xS ?_ | refine xM ?_ | refine xT ?_ | refine xF ?_ | ((first | refine xR ?_ | refine xW ?_ | refine vq_id ?_); simp only [go_sem, Nat.reduceAdd, Nat.reduceLeDiff, Nat.reduceSub, Int.reduceToNat, reduceCtorEq, Bool.not_true, Bool.not_false]) | (refine ⟨by first | omega | (intros; simp_all; done) | (intros; simp_all; omega), ?_⟩; try simp only [go_sem, Nat.reduceAdd, Nat.reduceLeDiff, Nat.reduceSub, Int.reduceToNat, reduceCtorEq, Bool.not_true, Bool.not_false]))
      exact AE.ret0 rfl ⟨rfl, trivial⟩ rfl ⟨rfl, rfl⟩
  · have e : bodyB 6 l = (l == []) := by simp [bodyB]
    rw [e]
    generalize (l == []) = b at h6 ⊢
    repeat (first | refine xA ?_ | refine xB ?_ | refine xC ?_ | refine xE ?_ | refine xD ?_ | refine xK ?_ | refine xS ?_ | refine xM ?_ | refine xT ?_ | refine xF ?_ | ((first | refine xR ?_ | refine xW ?_ | refine vq_id ?_); simp only [go_sem, Nat.reduceAdd, Nat.reduceLeDiff, Nat.reduceSub, Int.reduceToNat, reduceCtorEq]) | (refine ⟨by first | omega | (intros; simp_all; done) | (intros; simp_all; omega), ?_⟩; try simp only [go_sem, Nat.reduceAdd, Nat.reduceLeDiff, Nat.reduceSub, Int.reduceToNat, reduceCtorEq]))
    refine AP.drawE 9 (Tree.node [] [0, 1, 2, 3, 4, 5] [6] [Tree.node [] [7, 8] [] []]) (by kernel_rfl) rfl (by kernel_rfl) (by kernel_rfl) ?_
    refine vd_node ?_
    simp only [go_sem, Nat.reduceAdd, Nat.reduceLeDiff, Nat.reduceSub, Int.reduceToNat, reduceCtorEq]
    repeat' (first | with_reducible exact True.intro | with_reducible refine And.intro (by omega) ?_ | with_reducible refine And.intro ?_ ?_ | (refine AQ.nx rfl ?_; simp only [go_sem, Nat.reduceAdd, Nat.reduceLeDiff, Nat.reduceSub, Int.reduceToNat, reduceCtorEq, Int.reduceToNat, Int.reduceLE, Int.reduceLT]) | (refine AQ.fnL ([Sv l]) (by kernel_rfl) rfl rfl rfl (by ((try simp only [List.nil_append, List.append_nil, List.cons_append, List.map_cons, List.map_nil, AV.st, constAV]); repeat (first | with_reducible exact LentC.nil | with_reducible exact LentAs.nil | with_reducible refine LentC.cons ?_ ?_ | with_reducible refine LentAs.cons ?_ ?_ | with_reducible exact Lent.im _ | with_reducible exact LentA.im _ | with_reducible refine LentA.of ?_ | with_reducible refine LentA.agg ?_ | ((with_reducible apply Lent.osw); rfl; simp only [blkR_len, wrR_len, byteR_len, List.length_append, List.length_cons, List.length_nil]) | ((with_reducible apply Lent.ob0); rfl)))) (h6) rfl (fun _ => rfl) ?_; simp only [go_sem, Nat.reduceAdd, Nat.reduceLeDiff, Nat.reduceSub, Int.reduceToNat, reduceCtorEq]) | refine AQ.done ?_ | (refine AQ.go (by kernel_rfl) ?_; simp only [go_sem, Nat.reduceAdd, Nat.reduceLeDiff, Nat.reduceSub, Int.reduceToNat, reduceCtorEq, Int.reduceToNat, Int.reduceLE, Int.reduceLT]; repeat (with_reducible refine And.intro (by omega) ?_); refine AQ.nx rfl ?_; simp only [go_sem, Nat.reduceAdd, Nat.reduceLeDiff, Nat.reduceSub, Int.reduceToNat, reduceCtorEq, Int.reduceToNat, Int.reduceLE, Int.reduceLT]))
    all_goals cases b
    all_goals
      repeat (first | refine xA ?_ | refine xB ?_ | refine xC ?_ | refine xE ?_ | refine xD ?_ | refine xK ?_ | refine xS ?_ | refine xM ?_ | refine xT ?_ | refine xF ?_ | ((first | refine xR ?_ | refine xW ?_ | refine vq_id ?_); simp only [go_sem, Nat.reduceAdd, Nat.reduceLeDiff, Nat.reduceSub, Int.reduceToNat, reduceCtorEq, Bool.not_true, Bool.not_false]) | (refine ⟨by first | omega | (intros; simp_all; done) | (intros; simp_all; omega), ?_⟩; try simp only [go_sem, Nat.reduceAdd, Nat.reduceLeDiff, Nat.reduceSub, Int.reduceToNat, reduceCtorEq, Bool.not_true, Bool.not_false]))
      exact AE.ret0 rfl ⟨rfl, trivial⟩ rfl ⟨rfl, rfl⟩
  · have e : bodyB 7 l = (numR 1 16 l) := by simp [bodyB]
    rw [e]
    generalize (numR 1 16 l) = b at h7 ⊢
    repeat (first | refine xA ?_ | refine xB ?_ | refine xC ?_ | refine xE ?_ | refine xD ?_ | refine xK ?_ | refine xS ?_ | refine xM ?_ | refine xT ?_ | refine xF ?_ | ((first | refine xR ?_ | refine xW ?_ | refine vq_id ?_); simp only [go_sem, Nat.reduceAdd, Nat.reduceLeDiff, Nat.reduceSub, Int.reduceToNat, reduceCtorEq]) | (refine ⟨by first | omega | (intros; simp_all; done) | (intros; simp_all; omega), ?_⟩; try simp only [go_sem, Nat.reduceAdd, Nat.reduceLeDiff, Nat.reduceSub, Int.reduceToNat, reduceCtorEq]))
    refine AP.drawE 9 (Tree.node [] [0, 1, 2, 3, 4, 5] [6] [Tree.node [] [7, 8] [] []]) (by kernel_rfl) rfl (by kernel_rfl) (by kernel_rfl) ?_
    refine vd_node ?_
    simp only [go_sem, Nat.reduceAdd, Nat.reduceLeDiff, Nat.reduceSub, Int.reduceToNat, reduceCtorEq]
    repeat' (first | with_reducible exact True.intro | with_reducible refine And.intro (by omega) ?_ | with_reducible refine And.intro ?_ ?_ | (refine AQ.nx rfl ?_; simp only [go_sem, Nat.reduceAdd, Nat.reduceLeDiff, Nat.reduceSub, Int.reduceToNat, reduceCtorEq, Int.reduceToNat, Int.reduceLE, Int.reduceLT]) | (refine AQ.fnL ([.agg [Iv 1, Iv 16], Sv l]) (by kernel_rfl) rfl rfl rfl (by ((try simp only [List.nil_append, List.append_nil, List.cons_append, List.map_cons, List.map_nil, AV.st, constAV]); repeat (first | with_reducible exact LentC.nil | with_reducible exact LentAs.nil | with_reducible refine LentC.cons ?_ ?_ | with_reducible refine LentAs.cons ?_ ?_ | with_reducible exact Lent.im _ | with_reducible exact LentA.im _ | with_reducible refine LentA.of ?_ | with_reducible refine LentA.agg ?_ | ((with_reducible apply Lent.osw); rfl; simp only [blkR_len, wrR_len, byteR_len, List.length_append, List.length_cons, List.length_nil]) | ((with_reducible apply Lent.ob0); rfl)))) (h7) rfl (fun _ => rfl) ?_; simp only [go_sem, Nat.reduceAdd, Nat.reduceLeDiff, Nat.reduceSub, Int.reduceToNat, reduceCtorEq]) | refine AQ.done ?_ | (refine AQ.go (by kernel_rfl) ?_; simp only [go_sem, Nat.reduceAdd, Nat.reduceLeDiff, Nat.reduceSub, Int.reduceToNat, reduceCtorEq, Int.reduceToNat, Int.reduceLE, Int.reduceLT]; repeat (with_reducible refine And.intro (by omega) ?_); refine AQ.nx rfl ?_; simp only [go_sem, Nat.reduceAdd, Nat.reduceLeDiff, Nat.reduceSub, Int.reduceToNat, reduceCtorEq, Int.reduceToNat, Int.reduceLE, Int.reduceLT]))
    all_goals cases b
    all_goals
      repeat (first | refine xA ?_ | refine xB ?_ | refine xC ?_ | refine xE ?_ | refine xD ?_ | refine xK ?_ | refine xS ?_ | refine xM ?_ | refine xT ?_ | refine xF ?_ | ((first | refine xR ?_ | refine xW ?_ | refine vq_id ?_); simp only [go_sem, Nat.reduceAdd, Nat.reduceLeDiff, Nat.reduceSub, Int.reduceToNat, reduceCtorEq, Bool.not_true, Bool.not_false]) | (refine ⟨by first | omega | (intros; simp_all; done) | (intros; simp_all; omega), ?_⟩; try simp only [go_sem, Nat.reduceAdd, Nat.reduceLeDiff, Nat.reduceSub, Int.reduceToNat, reduceCtorEq, Bool.not_true, Bool.not_false]))
      exact AE.ret0 rfl ⟨rfl, trivial⟩ rfl ⟨rfl, rfl⟩
  · have e : bodyB 8 l = (true) := by simp [bodyB]
    rw [e]
    repeat (first | refine xA ?_ | refine xB ?_ | refine xC ?_ | refine xE ?_ | refine xD ?_ | refine xK ?_ | refine xS ?_ | refine xM ?_ | refine xT ?_ | refine xF ?_ | ((first | refine xR ?_ | refine xW ?_ | refine vq_id ?_); simp only [go_sem, Nat.reduceAdd, Nat.reduceLeDiff, Nat.reduceSub, Int.reduceToNat, reduceCtorEq]) | (refine ⟨by first | omega | (intros; simp_all; done) | (intros; simp_all; omega), ?_⟩; try simp only [go_sem, Nat.reduceAdd, Nat.reduceLeDiff, Nat.reduceSub, Int.reduceToNat, reduceCtorEq]))
    refine AP.drawE 9 (Tree.node [] [0, 1, 2, 3, 4, 5] [6] [Tree.node [] [7, 8] [] []]) (by kernel_rfl) rfl (by kernel_rfl) (by kernel_rfl) ?_
    refine vd_node ?_
    simp only [go_sem, Nat.reduceAdd, Nat.reduceLeDiff, Nat.reduceSub, Int.reduceToNat, reduceCtorEq]
    repeat' (first | with_reducible exact True.intro | with_reducible refine And.intro (by omega) ?_ | with_reducible refine And.intro ?_ ?_ | (refine AQ.nx rfl ?_; simp only [go_sem, Nat.reduceAdd, Nat.reduceLeDiff, Nat.reduceSub, Int.reduceToNat, reduceCtorEq, Int.reduceToNat, Int.reduceLE, Int.reduceLT]) | (refine AQ.fnL ([Sv l]) (by kernel_rfl) rfl rfl rfl (by ((try simp only [List.nil_append, List.append_nil, List.cons_append, List.map_cons, List.map_nil, AV.st, constAV]); repeat (first | with_reducible exact LentC.nil | with_reducible exact LentAs.nil | with_reducible refine LentC.cons ?_ ?_ | with_reducible refine LentAs.cons ?_ ?_ | with_reducible exact Lent.im _ | with_reducible exact LentA.im _ | with_reducible refine LentA.of ?_ | with_reducible refine LentA.agg ?_ | ((with_reducible apply Lent.osw); rfl; simp only [blkR_len, wrR_len, byteR_len, List.length_append, List.length_cons, List.length_nil]) | ((with_reducible apply Lent.ob0); rfl)))) (h2) rfl (fun _ => rfl) ?_; simp only [go_sem, Nat.reduceAdd, Nat.reduceLeDiff, Nat.reduceSub, Int.reduceToNat, reduceCtorEq]) | refine AQ.done ?_ | (refine AQ.go (by kernel_rfl) ?_; simp only [go_sem, Nat.reduceAdd, Nat.reduceLeDiff, Nat.reduceSub, Int.reduceToNat, reduceCtorEq, Int.reduceToNat, Int.reduceLE, Int.reduceLT]; repeat (with_reducible refine And.intro (by omega) ?_); refine AQ.nx rfl ?_; simp only [go_sem, Nat.reduceAdd, Nat.reduceLeDiff, Nat.reduceSub, Int.reduceToNat, reduceCtorEq, Int.reduceToNat, Int.reduceLE, Int.reduceLT]))
    repeat (first | refine xA ?_ | refine xB ?_ | refine xC ?_ | refine xE ?_ | refine xD ?_ | refine xK ?_ | refine xS ?_ | refine xM ?_ | refine xT ?_ | refine xF ?_ | ((first | refine xR ?_ | refine xW ?_ | refine vq_id ?_); simp only [go_sem, Nat.reduceAdd, Nat.reduceLeDiff, Nat.reduceSub, Int.reduceToNat, reduceCtorEq, Bool.not_true]) | (refine ⟨by first | omega | (intros; simp_all; done) | (intros; simp_all; omega), ?_⟩; try simp only [go_sem, Nat.reduceAdd, Nat.reduceLeDiff, Nat.reduceSub, Int.reduceToNat, reduceCtorEq, Bool.not_true]))
    exact AE.ret0 rfl ⟨rfl, trivial⟩ rfl ⟨rfl, rfl⟩
  · have e : bodyB 9 l = (pairR l) := by simp [bodyB]
    rw [e]
    generalize (pairR l) = b at h9 ⊢
    repeat (first | refine xA ?_ | refine xB ?_ | refine xC ?_ | refine xE ?_ | refine xD ?_ | refine xK ?_ | refine xS ?_ | refine xM ?_ | refine xT ?_ | refine xF ?_ | ((first | refine xR ?_ | refine xW ?_ | refine vq_id ?_); simp only [go_sem, Nat.reduceAdd, Nat.reduceLeDiff, Nat.reduceSub, Int.reduceToNat, reduceCtorEq]) | (refine ⟨by first | omega | (intros; simp_all; done) | (intros; simp_all; omega), ?_⟩; try simp only [go_sem, Nat.reduceAdd, Nat.reduceLeDiff, Nat.reduceSub, Int.reduceToNat, reduceCtorEq]))
    refine AP.drawE 9 (Tree.node [] [0, 1, 2, 3, 4, 5] [6] [Tree.node [] [7, 8] [] []]) (by kernel_rfl) rfl (by kernel_rfl) (by kernel_rfl) ?_
    refine vd_node ?_
    simp only [go_sem, Nat.reduceAdd, Nat.reduceLeDiff, Nat.reduceSub, Int.reduceToNat, reduceCtorEq]
    repeat' (first | with_reducible exact True.intro | with_reducible refine And.intro (by omega) ?_ | with_reducible refine And.intro ?_ ?_ | (refine AQ.nx rfl ?_; simp only [go_sem, Nat.reduceAdd, Nat.reduceLeDiff, Nat.reduceSub, Int.reduceToNat, reduceCtorEq, Int.reduceToNat, Int.reduceLE, Int.reduceLT]) | (refine AQ.fnL ([.agg [Iv 0, Iv 2147483647], Sv l]) (by kernel_rfl) rfl rfl rfl (by ((try simp only [List.nil_append, List.append_nil, List.cons_append, List.map_cons, List.map_nil, AV.st, constAV]); repeat (first | with_reducible exact LentC.nil | with_reducible exact LentAs.nil | with_reducible refine LentC.cons ?_ ?_ | with_reducible refine LentAs.cons ?_ ?_ | with_reducible exact Lent.im _ | with_reducible exact LentA.im _ | with_reducible refine LentA.of ?_ | with_reducible refine LentA.agg ?_ | ((with_reducible apply Lent.osw); rfl; simp only [blkR_len, wrR_len, byteR_len, List.length_append, List.length_cons, List.length_nil]) | ((with_reducible apply Lent.ob0); rfl)))) (h9) rfl (fun _ => rfl) ?_; simp only [go_sem, Nat.reduceAdd, Nat.reduceLeDiff, Nat.reduceSub, Int.reduceToNat, reduceCtorEq]) | refine AQ.done ?_ | (refine AQ.go (by kernel_rfl) ?_; simp only [go_sem, Nat.reduceAdd, Nat.reduceLeDiff, Nat.reduceSub, Int.reduceToNat, reduceCtorEq, Int.reduceToNat, Int.reduceLE, Int.reduceLT]; repeat (with_reducible refine And.intro (by omega) ?_); refine AQ.nx rfl ?_; simp only [go_sem, Nat.reduceAdd, Nat.reduceLeDiff, Nat.reduceSub, Int.reduceToNat, reduceCtorEq, Int.reduceToNat, Int.reduceLE, Int.reduceLT]))
    all_goals cases b
    all_goals
      repeat (first | refine xA ?_ | refine xB ?_ | refine xC ?_ | refine xE ?_ | refine xD ?_ | refine xK ?_ | refine xS ?_ | refine xM ?_ | refine xT ?_ | refine xF ?_ | ((first | refine xR ?_ | refine xW ?_ | refine vq_id ?_); simp only [go_sem, Nat.reduceAdd, Nat.reduceLeDiff, Nat.reduceSub, Int.reduceToNat, reduceCtorEq, Bool.not_true, Bool.not_false]) | (refine ⟨by first | omega | (intros; simp_all; done) | (intros; simp_all; omega), ?_⟩; try simp only [go_sem, Nat.reduceAdd, Nat.reduceLeDiff, Nat.reduceSub, Int.reduceToNat, reduceCtorEq, Bool.not_true, Bool.not_false]))
      exact AE.ret0 rfl ⟨rfl, trivial⟩ rfl ⟨rfl, rfl⟩
end Go.Proofs.YtlpcdpjkdodmcaaGreatDoor
end
