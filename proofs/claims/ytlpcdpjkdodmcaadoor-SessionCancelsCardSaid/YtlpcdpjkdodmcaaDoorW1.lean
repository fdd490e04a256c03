import Derived.Test.YtlpcdpjkdodmcaaDoorAl3
import Derived.Test.YtlpcdpjkdodmcaaDoorChecked
import Derived.KernelRfl
import Derived.Shelf.LaysM
import Derived.Shelf.Strconv.Itoa3
import Derived.Shelf.LaysC
import Derived.Shelf.Strconv.AtoiAll
import Derived.Shelf.Strconv.ErrVarAll
import Derived.Shelf.Strings.Search2
import Derived.Lib.AtoiErrMem
import Derived.Lib.IndexLaws
import Derived.Lib.AtoiAllCases
import Derived.Shelf.Spec.SlicesGrow
import Derived.Test.YtlpcdpjkdodmcaaDoorCards
import Derived.Test.YtlpcdpjkdodmcaaDoorTie
import Derived.Stop.LaidErr
import Derived.Lib.LaidTab
set_option linter.unusedSimpArgs false
set_option linter.unusedVariables false
set_option linter.unnecessarySimpa false
section

end

section
namespace Go.Proofs.YtlpcdpjkdodmcaaDoor
open Go Go.AL
@[go_sem] theorem Tryd.tk1 : tk Tryd.prog 1 = .func := by kernel_rfl
@[go_sem] theorem Tryd.sz1 : sz Tryd.prog 1 = some 1 := by kernel_rfl
@[go_sem] theorem Tryd.by1 : by' Tryd.prog 1 = some 8 := by kernel_rfl
@[go_sem] theorem Tryd.zr1 : zro Tryd.prog 1 = some ([.nilFunc]) := by kernel_rfl
@[go_sem] theorem Tryd.tk2 : tk Tryd.prog 2 = .int .i64 := by kernel_rfl
@[go_sem] theorem Tryd.sz2 : sz Tryd.prog 2 = some 1 := by kernel_rfl
@[go_sem] theorem Tryd.by2 : by' Tryd.prog 2 = some 8 := by kernel_rfl
@[go_sem] theorem Tryd.un2 : (Tryd.prog.underlying 2).isSome = true := by kernel_rfl
@[go_sem] theorem Tryd.zr2 : zro Tryd.prog 2 = some ([.int .i64 0]) := by kernel_rfl
@[go_sem] theorem Tryd.tk3 : tk Tryd.prog 3 = .int .i64 := by kernel_rfl
@[go_sem] theorem Tryd.sz3 : sz Tryd.prog 3 = some 1 := by kernel_rfl
@[go_sem] theorem Tryd.by3 : by' Tryd.prog 3 = some 8 := by kernel_rfl
@[go_sem] theorem Tryd.un3 : (Tryd.prog.underlying 3).isSome = true := by kernel_rfl
@[go_sem] theorem Tryd.zr3 : zro Tryd.prog 3 = some ([.int .i64 0]) := by kernel_rfl
@[go_sem] theorem Tryd.tk4 : tk Tryd.prog 4 = .bool := by kernel_rfl
@[go_sem] theorem Tryd.sz4 : sz Tryd.prog 4 = some 1 := by kernel_rfl
@[go_sem] theorem Tryd.by4 : by' Tryd.prog 4 = some 1 := by kernel_rfl
@[go_sem] theorem Tryd.un4 : (Tryd.prog.underlying 4).isSome = true := by kernel_rfl
@[go_sem] theorem Tryd.zr4 : zro Tryd.prog 4 = some ([.bool false]) := by kernel_rfl
@[go_sem] theorem Tryd.tk5 : tk Tryd.prog 5 = .int .u8 := by kernel_rfl
@[go_sem] theorem Tryd.sz5 : sz Tryd.prog 5 = some 1 := by kernel_rfl
@[go_sem] theorem Tryd.by5 : by' Tryd.prog 5 = some 1 := by kernel_rfl
@[go_sem] theorem Tryd.un5 : (Tryd.prog.underlying 5).isSome = true := by kernel_rfl
@[go_sem] theorem Tryd.zr5 : zro Tryd.prog 5 = some ([.int .u8 0]) := by kernel_rfl
@[go_sem] theorem Tryd.tk6 : tk Tryd.prog 6 = .int .u8 := by kernel_rfl
@[go_sem] theorem Tryd.sz6 : sz Tryd.prog 6 = some 1 := by kernel_rfl
@[go_sem] theorem Tryd.by6 : by' Tryd.prog 6 = some 1 := by kernel_rfl
@[go_sem] theorem Tryd.un6 : (Tryd.prog.underlying 6).isSome = true := by kernel_rfl
@[go_sem] theorem Tryd.zr6 : zro Tryd.prog 6 = some ([.int .u8 0]) := by kernel_rfl
@[go_sem] theorem Tryd.tk7 : tk Tryd.prog 7 = .struct [(0, 2), (1, 3), (2, 4), (3, 6)] := by kernel_rfl
@[go_sem] theorem Tryd.sz7 : sz Tryd.prog 7 = some 4 := by kernel_rfl
@[go_sem] theorem Tryd.by7 : by' Tryd.prog 7 = some 24 := by kernel_rfl
@[go_sem] theorem Tryd.eq7 : eqOk Tryd.prog 7 = true := by kernel_rfl
@[go_sem] theorem Tryd.zr7 : zro Tryd.prog 7 = some ([.int .i64 0, .int .i64 0, .bool false, .int .u8 0]) := by kernel_rfl
@[go_sem] theorem Tryd.tk8 : tk Tryd.prog 8 = .struct [(0, 2), (1, 3), (2, 4), (3, 6)] := by kernel_rfl
@[go_sem] theorem Tryd.sz8 : sz Tryd.prog 8 = some 4 := by kernel_rfl
@[go_sem] theorem Tryd.by8 : by' Tryd.prog 8 = some 24 := by kernel_rfl
@[go_sem] theorem Tryd.eq8 : eqOk Tryd.prog 8 = true := by kernel_rfl
@[go_sem] theorem Tryd.zr8 : zro Tryd.prog 8 = some ([.int .i64 0, .int .i64 0, .bool false, .int .u8 0]) := by kernel_rfl
@[go_sem] theorem Tryd.tk9 : tk Tryd.prog 9 = .str := by kernel_rfl
@[go_sem] theorem Tryd.sz9 : sz Tryd.prog 9 = some 1 := by kernel_rfl
@[go_sem] theorem Tryd.by9 : by' Tryd.prog 9 = some 16 := by kernel_rfl
@[go_sem] theorem Tryd.un9 : (Tryd.prog.underlying 9).isSome = true := by kernel_rfl
@[go_sem] theorem Tryd.zr9 : zro Tryd.prog 9 = some ([.string ⟨#[]⟩]) := by kernel_rfl
@[go_sem] theorem Tryd.tk10 : tk Tryd.prog 10 = .str := by kernel_rfl
@[go_sem] theorem Tryd.sz10 : sz Tryd.prog 10 = some 1 := by kernel_rfl
@[go_sem] theorem Tryd.by10 : by' Tryd.prog 10 = some 16 := by kernel_rfl
@[go_sem] theorem Tryd.un10 : (Tryd.prog.underlying 10).isSome = true := by kernel_rfl
@[go_sem] theorem Tryd.zr10 : zro Tryd.prog 10 = some ([.string ⟨#[]⟩]) := by kernel_rfl
@[go_sem] theorem Tryd.tk11 : tk Tryd.prog 11 = .str := by kernel_rfl
@[go_sem] theorem Tryd.sz11 : sz Tryd.prog 11 = some 1 := by kernel_rfl
@[go_sem] theorem Tryd.by11 : by' Tryd.prog 11 = some 16 := by kernel_rfl
@[go_sem] theorem Tryd.un11 : (Tryd.prog.underlying 11).isSome = true := by kernel_rfl
@[go_sem] theorem Tryd.zr11 : zro Tryd.prog 11 = some ([.string ⟨#[]⟩]) := by kernel_rfl
@[go_sem] theorem Tryd.tk12 : tk Tryd.prog 12 = .int .u64 := by kernel_rfl
@[go_sem] theorem Tryd.sz12 : sz Tryd.prog 12 = some 1 := by kernel_rfl
@[go_sem] theorem Tryd.by12 : by' Tryd.prog 12 = some 8 := by kernel_rfl
@[go_sem] theorem Tryd.un12 : (Tryd.prog.underlying 12).isSome = true := by kernel_rfl
@[go_sem] theorem Tryd.zr12 : zro Tryd.prog 12 = some ([.int .u64 0]) := by kernel_rfl
@[go_sem] theorem Tryd.tk13 : tk Tryd.prog 13 = .struct [(0, 9), (1, 12)] := by kernel_rfl
@[go_sem] theorem Tryd.sz13 : sz Tryd.prog 13 = some 2 := by kernel_rfl
@[go_sem] theorem Tryd.by13 : by' Tryd.prog 13 = some 24 := by kernel_rfl
@[go_sem] theorem Tryd.zr13 : zro Tryd.prog 13 = some ([.string ⟨#[]⟩, .int .u64 0]) := by kernel_rfl
@[go_sem] theorem Tryd.tk14 : tk Tryd.prog 14 = .struct [(0, 9), (1, 12)] := by kernel_rfl
@[go_sem] theorem Tryd.sz14 : sz Tryd.prog 14 = some 2 := by kernel_rfl
@[go_sem] theorem Tryd.by14 : by' Tryd.prog 14 = some 24 := by kernel_rfl
@[go_sem] theorem Tryd.zr14 : zro Tryd.prog 14 = some ([.string ⟨#[]⟩, .int .u64 0]) := by kernel_rfl
@[go_sem] theorem Tryd.tk15 : tk Tryd.prog 15 = .ptr 192 := by kernel_rfl
@[go_sem] theorem Tryd.sz15 : sz Tryd.prog 15 = some 1 := by kernel_rfl
@[go_sem] theorem Tryd.by15 : by' Tryd.prog 15 = some 8 := by kernel_rfl
@[go_sem] theorem Tryd.zr15 : zro Tryd.prog 15 = some ([.pointer none]) := by kernel_rfl
@[go_sem] theorem Tryd.tk16 : tk Tryd.prog 16 = .ptr 195 := by kernel_rfl
@[go_sem] theorem Tryd.sz16 : sz Tryd.prog 16 = some 1 := by kernel_rfl
@[go_sem] theorem Tryd.by16 : by' Tryd.prog 16 = some 8 := by kernel_rfl
@[go_sem] theorem Tryd.zr16 : zro Tryd.prog 16 = some ([.pointer none]) := by kernel_rfl
@[go_sem] theorem Tryd.tk17 : tk Tryd.prog 17 = .ptr 203 := by kernel_rfl
@[go_sem] theorem Tryd.sz17 : sz Tryd.prog 17 = some 1 := by kernel_rfl
@[go_sem] theorem Tryd.by17 : by' Tryd.prog 17 = some 8 := by kernel_rfl
@[go_sem] theorem Tryd.zr17 : zro Tryd.prog 17 = some ([.pointer none]) := by kernel_rfl
@[go_sem] theorem Tryd.tk18 : tk Tryd.prog 18 = .struct [(0, 17)] := by kernel_rfl
@[go_sem] theorem Tryd.sz18 : sz Tryd.prog 18 = some 1 := by kernel_rfl
@[go_sem] theorem Tryd.by18 : by' Tryd.prog 18 = some 8 := by kernel_rfl
@[go_sem] theorem Tryd.zr18 : zro Tryd.prog 18 = some ([.pointer none]) := by kernel_rfl
@[go_sem] theorem Tryd.tk19 : tk Tryd.prog 19 = .struct [(0, 17)] := by kernel_rfl
@[go_sem] theorem Tryd.sz19 : sz Tryd.prog 19 = some 1 := by kernel_rfl
@[go_sem] theorem Tryd.by19 : by' Tryd.prog 19 = some 8 := by kernel_rfl
@[go_sem] theorem Tryd.zr19 : zro Tryd.prog 19 = some ([.pointer none]) := by kernel_rfl
@[go_sem] theorem Tryd.tk20 : tk Tryd.prog 20 = .iface := by kernel_rfl
@[go_sem] theorem Tryd.sz20 : sz Tryd.prog 20 = some 1 := by kernel_rfl
@[go_sem] theorem Tryd.by20 : by' Tryd.prog 20 = some 16 := by kernel_rfl
@[go_sem] theorem Tryd.zr20 : zro Tryd.prog 20 = some ([.nilIface]) := by kernel_rfl
@[go_sem] theorem Tryd.tk21 : tk Tryd.prog 21 = .int .i32 := by kernel_rfl
@[go_sem] theorem Tryd.sz21 : sz Tryd.prog 21 = some 1 := by kernel_rfl
@[go_sem] theorem Tryd.by21 : by' Tryd.prog 21 = some 4 := by kernel_rfl
@[go_sem] theorem Tryd.un21 : (Tryd.prog.underlying 21).isSome = true := by kernel_rfl
@[go_sem] theorem Tryd.zr21 : zro Tryd.prog 21 = some ([.int .i32 0]) := by kernel_rfl
@[go_sem] theorem Tryd.tk22 : tk Tryd.prog 22 = .struct [(0, 3), (1, 3), (2, 9)] := by kernel_rfl
@[go_sem] theorem Tryd.sz22 : sz Tryd.prog 22 = some 3 := by kernel_rfl
@[go_sem] theorem Tryd.by22 : by' Tryd.prog 22 = some 32 := by kernel_rfl
@[go_sem] theorem Tryd.eq22 : eqOk Tryd.prog 22 = true := by kernel_rfl
@[go_sem] theorem Tryd.zr22 : zro Tryd.prog 22 = some ([.int .i64 0, .int .i64 0, .string ⟨#[]⟩]) := by kernel_rfl
@[go_sem] theorem Tryd.tk23 : tk Tryd.prog 23 = .struct [(0, 3), (1, 3), (2, 9)] := by kernel_rfl
@[go_sem] theorem Tryd.sz23 : sz Tryd.prog 23 = some 3 := by kernel_rfl
@[go_sem] theorem Tryd.by23 : by' Tryd.prog 23 = some 32 := by kernel_rfl
@[go_sem] theorem Tryd.eq23 : eqOk Tryd.prog 23 = true := by kernel_rfl
@[go_sem] theorem Tryd.zr23 : zro Tryd.prog 23 = some ([.int .i64 0, .int .i64 0, .string ⟨#[]⟩]) := by kernel_rfl
@[go_sem] theorem Tryd.tk24 : tk Tryd.prog 24 = .slice 5 := by kernel_rfl
@[go_sem] theorem Tryd.sz24 : sz Tryd.prog 24 = some 1 := by kernel_rfl
@[go_sem] theorem Tryd.by24 : by' Tryd.prog 24 = some 24 := by kernel_rfl
@[go_sem] theorem Tryd.zr24 : zro Tryd.prog 24 = some ([.slice none 0 0]) := by kernel_rfl
@[go_sem] theorem Tryd.tk25 : tk Tryd.prog 25 = .func := by kernel_rfl
@[go_sem] theorem Tryd.sz25 : sz Tryd.prog 25 = some 1 := by kernel_rfl
@[go_sem] theorem Tryd.by25 : by' Tryd.prog 25 = some 8 := by kernel_rfl
@[go_sem] theorem Tryd.zr25 : zro Tryd.prog 25 = some ([.nilFunc]) := by kernel_rfl
@[go_sem] theorem Tryd.tk26 : tk Tryd.prog 26 = .int .i64 := by kernel_rfl
@[go_sem] theorem Tryd.sz26 : sz Tryd.prog 26 = some 1 := by kernel_rfl
@[go_sem] theorem Tryd.by26 : by' Tryd.prog 26 = some 8 := by kernel_rfl
@[go_sem] theorem Tryd.un26 : (Tryd.prog.underlying 26).isSome = true := by kernel_rfl
@[go_sem] theorem Tryd.zr26 : zro Tryd.prog 26 = some ([.int .i64 0]) := by kernel_rfl
@[go_sem] theorem Tryd.tk28 : tk Tryd.prog 28 = .func := by kernel_rfl
@[go_sem] theorem Tryd.sz28 : sz Tryd.prog 28 = some 1 := by kernel_rfl
@[go_sem] theorem Tryd.by28 : by' Tryd.prog 28 = some 8 := by kernel_rfl
@[go_sem] theorem Tryd.zr28 : zro Tryd.prog 28 = some ([.nilFunc]) := by kernel_rfl
@[go_sem] theorem Tryd.tk29 : tk Tryd.prog 29 = .func := by kernel_rfl
@[go_sem] theorem Tryd.sz29 : sz Tryd.prog 29 = some 1 := by kernel_rfl
@[go_sem] theorem Tryd.by29 : by' Tryd.prog 29 = some 8 := by kernel_rfl
@[go_sem] theorem Tryd.zr29 : zro Tryd.prog 29 = some ([.nilFunc]) := by kernel_rfl
@[go_sem] theorem Tryd.tk30 : tk Tryd.prog 30 = .struct [(0, 3), (1, 3), (2, 9)] := by kernel_rfl
@[go_sem] theorem Tryd.sz30 : sz Tryd.prog 30 = some 3 := by kernel_rfl
@[go_sem] theorem Tryd.by30 : by' Tryd.prog 30 = some 32 := by kernel_rfl
@[go_sem] theorem Tryd.eq30 : eqOk Tryd.prog 30 = true := by kernel_rfl
@[go_sem] theorem Tryd.zr30 : zro Tryd.prog 30 = some ([.int .i64 0, .int .i64 0, .string ⟨#[]⟩]) := by kernel_rfl
@[go_sem] theorem Tryd.tk32 : tk Tryd.prog 32 = .func := by kernel_rfl
@[go_sem] theorem Tryd.sz32 : sz Tryd.prog 32 = some 1 := by kernel_rfl
@[go_sem] theorem Tryd.by32 : by' Tryd.prog 32 = some 8 := by kernel_rfl
@[go_sem] theorem Tryd.zr32 : zro Tryd.prog 32 = some ([.nilFunc]) := by kernel_rfl
@[go_sem] theorem Tryd.tk34 : tk Tryd.prog 34 = .func := by kernel_rfl
@[go_sem] theorem Tryd.sz34 : sz Tryd.prog 34 = some 1 := by kernel_rfl
@[go_sem] theorem Tryd.by34 : by' Tryd.prog 34 = some 8 := by kernel_rfl
@[go_sem] theorem Tryd.zr34 : zro Tryd.prog 34 = some ([.nilFunc]) := by kernel_rfl
@[go_sem] theorem Tryd.tk35 : tk Tryd.prog 35 = .struct [(0, 24)] := by kernel_rfl
@[go_sem] theorem Tryd.sz35 : sz Tryd.prog 35 = some 1 := by kernel_rfl
@[go_sem] theorem Tryd.by35 : by' Tryd.prog 35 = some 24 := by kernel_rfl
@[go_sem] theorem Tryd.zr35 : zro Tryd.prog 35 = some ([.slice none 0 0]) := by kernel_rfl
@[go_sem] theorem Tryd.tk36 : tk Tryd.prog 36 = .struct [(0, 24)] := by kernel_rfl
@[go_sem] theorem Tryd.sz36 : sz Tryd.prog 36 = some 1 := by kernel_rfl
@[go_sem] theorem Tryd.by36 : by' Tryd.prog 36 = some 24 := by kernel_rfl
@[go_sem] theorem Tryd.zr36 : zro Tryd.prog 36 = some ([.slice none 0 0]) := by kernel_rfl
@[go_sem] theorem Tryd.tk37 : tk Tryd.prog 37 = .slice 23 := by kernel_rfl
@[go_sem] theorem Tryd.sz37 : sz Tryd.prog 37 = some 1 := by kernel_rfl
@[go_sem] theorem Tryd.by37 : by' Tryd.prog 37 = some 24 := by kernel_rfl
@[go_sem] theorem Tryd.zr37 : zro Tryd.prog 37 = some ([.slice none 0 0]) := by kernel_rfl
@[go_sem] theorem Tryd.tk39 : tk Tryd.prog 39 = .func := by kernel_rfl
@[go_sem] theorem Tryd.sz39 : sz Tryd.prog 39 = some 1 := by kernel_rfl
@[go_sem] theorem Tryd.by39 : by' Tryd.prog 39 = some 8 := by kernel_rfl
@[go_sem] theorem Tryd.zr39 : zro Tryd.prog 39 = some ([.nilFunc]) := by kernel_rfl
@[go_sem] theorem Tryd.tk40 : tk Tryd.prog 40 = .slice 30 := by kernel_rfl
@[go_sem] theorem Tryd.sz40 : sz Tryd.prog 40 = some 1 := by kernel_rfl
@[go_sem] theorem Tryd.by40 : by' Tryd.prog 40 = some 24 := by kernel_rfl
@[go_sem] theorem Tryd.zr40 : zro Tryd.prog 40 = some ([.slice none 0 0]) := by kernel_rfl
@[go_sem] theorem Tryd.tk42 : tk Tryd.prog 42 = .func := by kernel_rfl
@[go_sem] theorem Tryd.sz42 : sz Tryd.prog 42 = some 1 := by kernel_rfl
@[go_sem] theorem Tryd.by42 : by' Tryd.prog 42 = some 8 := by kernel_rfl
@[go_sem] theorem Tryd.zr42 : zro Tryd.prog 42 = some ([.nilFunc]) := by kernel_rfl
@[go_sem] theorem Tryd.tk43 : tk Tryd.prog 43 = .func := by kernel_rfl
@[go_sem] theorem Tryd.sz43 : sz Tryd.prog 43 = some 1 := by kernel_rfl
@[go_sem] theorem Tryd.by43 : by' Tryd.prog 43 = some 8 := by kernel_rfl
@[go_sem] theorem Tryd.zr43 : zro Tryd.prog 43 = some ([.nilFunc]) := by kernel_rfl
@[go_sem] theorem Tryd.tk44 : tk Tryd.prog 44 = .func := by kernel_rfl
@[go_sem] theorem Tryd.sz44 : sz Tryd.prog 44 = some 1 := by kernel_rfl
@[go_sem] theorem Tryd.by44 : by' Tryd.prog 44 = some 8 := by kernel_rfl
@[go_sem] theorem Tryd.zr44 : zro Tryd.prog 44 = some ([.nilFunc]) := by kernel_rfl
@[go_sem] theorem Tryd.tk45 : tk Tryd.prog 45 = .func := by kernel_rfl
@[go_sem] theorem Tryd.sz45 : sz Tryd.prog 45 = some 1 := by kernel_rfl
@[go_sem] theorem Tryd.by45 : by' Tryd.prog 45 = some 8 := by kernel_rfl
@[go_sem] theorem Tryd.zr45 : zro Tryd.prog 45 = some ([.nilFunc]) := by kernel_rfl
@[go_sem] theorem Tryd.tk46 : tk Tryd.prog 46 = .func := by kernel_rfl
@[go_sem] theorem Tryd.sz46 : sz Tryd.prog 46 = some 1 := by kernel_rfl
@[go_sem] theorem Tryd.by46 : by' Tryd.prog 46 = some 8 := by kernel_rfl
@[go_sem] theorem Tryd.zr46 : zro Tryd.prog 46 = some ([.nilFunc]) := by kernel_rfl
@[go_sem] theorem Tryd.tk47 : tk Tryd.prog 47 = .int .u16 := by kernel_rfl
@[go_sem] theorem Tryd.sz47 : sz Tryd.prog 47 = some 1 := by kernel_rfl
@[go_sem] theorem Tryd.by47 : by' Tryd.prog 47 = some 2 := by kernel_rfl
@[go_sem] theorem Tryd.un47 : (Tryd.prog.underlying 47).isSome = true := by kernel_rfl
@[go_sem] theorem Tryd.zr47 : zro Tryd.prog 47 = some ([.int .u16 0]) := by kernel_rfl
@[go_sem] theorem Tryd.tk48 : tk Tryd.prog 48 = .func := by kernel_rfl
@[go_sem] theorem Tryd.sz48 : sz Tryd.prog 48 = some 1 := by kernel_rfl
@[go_sem] theorem Tryd.by48 : by' Tryd.prog 48 = some 8 := by kernel_rfl
@[go_sem] theorem Tryd.zr48 : zro Tryd.prog 48 = some ([.nilFunc]) := by kernel_rfl
@[go_sem] theorem Tryd.tk49 : tk Tryd.prog 49 = .func := by kernel_rfl
@[go_sem] theorem Tryd.sz49 : sz Tryd.prog 49 = some 1 := by kernel_rfl
@[go_sem] theorem Tryd.by49 : by' Tryd.prog 49 = some 8 := by kernel_rfl
@[go_sem] theorem Tryd.zr49 : zro Tryd.prog 49 = some ([.nilFunc]) := by kernel_rfl
@[go_sem] theorem Tryd.tk50 : tk Tryd.prog 50 = .func := by kernel_rfl
@[go_sem] theorem Tryd.sz50 : sz Tryd.prog 50 = some 1 := by kernel_rfl
@[go_sem] theorem Tryd.by50 : by' Tryd.prog 50 = some 8 := by kernel_rfl
@[go_sem] theorem Tryd.zr50 : zro Tryd.prog 50 = some ([.nilFunc]) := by kernel_rfl
@[go_sem] theorem Tryd.tk51 : tk Tryd.prog 51 = .func := by kernel_rfl
@[go_sem] theorem Tryd.sz51 : sz Tryd.prog 51 = some 1 := by kernel_rfl
@[go_sem] theorem Tryd.by51 : by' Tryd.prog 51 = some 8 := by kernel_rfl
@[go_sem] theorem Tryd.zr51 : zro Tryd.prog 51 = some ([.nilFunc]) := by kernel_rfl
@[go_sem] theorem Tryd.tk52 : tk Tryd.prog 52 = .func := by kernel_rfl
@[go_sem] theorem Tryd.sz52 : sz Tryd.prog 52 = some 1 := by kernel_rfl
@[go_sem] theorem Tryd.by52 : by' Tryd.prog 52 = some 8 := by kernel_rfl
@[go_sem] theorem Tryd.zr52 : zro Tryd.prog 52 = some ([.nilFunc]) := by kernel_rfl
@[go_sem] theorem Tryd.tk53 : tk Tryd.prog 53 = .slice 67 := by kernel_rfl
@[go_sem] theorem Tryd.sz53 : sz Tryd.prog 53 = some 1 := by kernel_rfl
@[go_sem] theorem Tryd.by53 : by' Tryd.prog 53 = some 24 := by kernel_rfl
@[go_sem] theorem Tryd.zr53 : zro Tryd.prog 53 = some ([.slice none 0 0]) := by kernel_rfl
@[go_sem] theorem Tryd.tk54 : tk Tryd.prog 54 = .struct [(0, 3), (1, 3), (2, 3), (3, 53)] := by kernel_rfl
@[go_sem] theorem Tryd.sz54 : sz Tryd.prog 54 = some 4 := by kernel_rfl
@[go_sem] theorem Tryd.by54 : by' Tryd.prog 54 = some 48 := by kernel_rfl
@[go_sem] theorem Tryd.zr54 : zro Tryd.prog 54 = some ([.int .i64 0, .int .i64 0, .int .i64 0, .slice none 0 0]) := by kernel_rfl
@[go_sem] theorem Tryd.tk55 : tk Tryd.prog 55 = .struct [(0, 3), (1, 3), (2, 3), (3, 53)] := by kernel_rfl
@[go_sem] theorem Tryd.sz55 : sz Tryd.prog 55 = some 4 := by kernel_rfl
@[go_sem] theorem Tryd.by55 : by' Tryd.prog 55 = some 48 := by kernel_rfl
@[go_sem] theorem Tryd.zr55 : zro Tryd.prog 55 = some ([.int .i64 0, .int .i64 0, .int .i64 0, .slice none 0 0]) := by kernel_rfl
@[go_sem] theorem Tryd.tk56 : tk Tryd.prog 56 = .func := by kernel_rfl
@[go_sem] theorem Tryd.sz56 : sz Tryd.prog 56 = some 1 := by kernel_rfl
@[go_sem] theorem Tryd.by56 : by' Tryd.prog 56 = some 8 := by kernel_rfl
@[go_sem] theorem Tryd.zr56 : zro Tryd.prog 56 = some ([.nilFunc]) := by kernel_rfl
@[go_sem] theorem Tryd.tk58 : tk Tryd.prog 58 = .func := by kernel_rfl
@[go_sem] theorem Tryd.sz58 : sz Tryd.prog 58 = some 1 := by kernel_rfl
@[go_sem] theorem Tryd.by58 : by' Tryd.prog 58 = some 8 := by kernel_rfl
@[go_sem] theorem Tryd.zr58 : zro Tryd.prog 58 = some ([.nilFunc]) := by kernel_rfl
@[go_sem] theorem Tryd.tk59 : tk Tryd.prog 59 = .slice 71 := by kernel_rfl
@[go_sem] theorem Tryd.sz59 : sz Tryd.prog 59 = some 1 := by kernel_rfl
@[go_sem] theorem Tryd.by59 : by' Tryd.prog 59 = some 24 := by kernel_rfl
@[go_sem] theorem Tryd.zr59 : zro Tryd.prog 59 = some ([.slice none 0 0]) := by kernel_rfl
@[go_sem] theorem Tryd.tk60 : tk Tryd.prog 60 = .struct [(0, 3), (1, 3), (2, 3), (3, 59)] := by kernel_rfl
@[go_sem] theorem Tryd.sz60 : sz Tryd.prog 60 = some 4 := by kernel_rfl
@[go_sem] theorem Tryd.by60 : by' Tryd.prog 60 = some 48 := by kernel_rfl
@[go_sem] theorem Tryd.zr60 : zro Tryd.prog 60 = some ([.int .i64 0, .int .i64 0, .int .i64 0, .slice none 0 0]) := by kernel_rfl
@[go_sem] theorem Tryd.tk61 : tk Tryd.prog 61 = .struct [(0, 3), (1, 3), (2, 3), (3, 59)] := by kernel_rfl
@[go_sem] theorem Tryd.sz61 : sz Tryd.prog 61 = some 4 := by kernel_rfl
@[go_sem] theorem Tryd.by61 : by' Tryd.prog 61 = some 48 := by kernel_rfl
@[go_sem] theorem Tryd.zr61 : zro Tryd.prog 61 = some ([.int .i64 0, .int .i64 0, .int .i64 0, .slice none 0 0]) := by kernel_rfl
@[go_sem] theorem Tryd.tk63 : tk Tryd.prog 63 = .func := by kernel_rfl
@[go_sem] theorem Tryd.sz63 : sz Tryd.prog 63 = some 1 := by kernel_rfl
@[go_sem] theorem Tryd.by63 : by' Tryd.prog 63 = some 8 := by kernel_rfl
@[go_sem] theorem Tryd.zr63 : zro Tryd.prog 63 = some ([.nilFunc]) := by kernel_rfl
@[go_sem] theorem Tryd.tk64 : tk Tryd.prog 64 = .func := by kernel_rfl
@[go_sem] theorem Tryd.sz64 : sz Tryd.prog 64 = some 1 := by kernel_rfl
@[go_sem] theorem Tryd.by64 : by' Tryd.prog 64 = some 8 := by kernel_rfl
@[go_sem] theorem Tryd.zr64 : zro Tryd.prog 64 = some ([.nilFunc]) := by kernel_rfl
@[go_sem] theorem Tryd.tk65 : tk Tryd.prog 65 = .func := by kernel_rfl
@[go_sem] theorem Tryd.sz65 : sz Tryd.prog 65 = some 1 := by kernel_rfl
@[go_sem] theorem Tryd.by65 : by' Tryd.prog 65 = some 8 := by kernel_rfl
@[go_sem] theorem Tryd.zr65 : zro Tryd.prog 65 = some ([.nilFunc]) := by kernel_rfl
@[go_sem] theorem Tryd.tk66 : tk Tryd.prog 66 = .struct [(0, 3), (1, 3), (2, 9), (3, 4), (4, 4), (5, 23)] := by kernel_rfl
@[go_sem] theorem Tryd.sz66 : sz Tryd.prog 66 = some 8 := by kernel_rfl
@[go_sem] theorem Tryd.by66 : by' Tryd.prog 66 = some 72 := by kernel_rfl
@[go_sem] theorem Tryd.zr66 : zro Tryd.prog 66 = some ([.int .i64 0, .int .i64 0, .string ⟨#[]⟩, .bool false, .bool false, .int .i64 0, .int .i64 0, .string ⟨#[]⟩]) := by kernel_rfl
@[go_sem] theorem Tryd.tk67 : tk Tryd.prog 67 = .struct [(0, 3), (1, 3), (2, 9), (3, 4), (4, 4), (5, 23)] := by kernel_rfl
@[go_sem] theorem Tryd.sz67 : sz Tryd.prog 67 = some 8 := by kernel_rfl
@[go_sem] theorem Tryd.by67 : by' Tryd.prog 67 = some 72 := by kernel_rfl
@[go_sem] theorem Tryd.zr67 : zro Tryd.prog 67 = some ([.int .i64 0, .int .i64 0, .string ⟨#[]⟩, .bool false, .bool false, .int .i64 0, .int .i64 0, .string ⟨#[]⟩]) := by kernel_rfl
@[go_sem] theorem Tryd.tk69 : tk Tryd.prog 69 = .func := by kernel_rfl
@[go_sem] theorem Tryd.sz69 : sz Tryd.prog 69 = some 1 := by kernel_rfl
@[go_sem] theorem Tryd.by69 : by' Tryd.prog 69 = some 8 := by kernel_rfl
@[go_sem] theorem Tryd.zr69 : zro Tryd.prog 69 = some ([.nilFunc]) := by kernel_rfl
@[go_sem] theorem Tryd.tk70 : tk Tryd.prog 70 = .struct [(0, 3), (1, 3), (2, 9), (3, 4), (4, 4), (5, 30)] := by kernel_rfl
@[go_sem] theorem Tryd.sz70 : sz Tryd.prog 70 = some 8 := by kernel_rfl
@[go_sem] theorem Tryd.by70 : by' Tryd.prog 70 = some 72 := by kernel_rfl
@[go_sem] theorem Tryd.zr70 : zro Tryd.prog 70 = some ([.int .i64 0, .int .i64 0, .string ⟨#[]⟩, .bool false, .bool false, .int .i64 0, .int .i64 0, .string ⟨#[]⟩]) := by kernel_rfl
@[go_sem] theorem Tryd.tk71 : tk Tryd.prog 71 = .struct [(0, 3), (1, 3), (2, 9), (3, 4), (4, 4), (5, 30)] := by kernel_rfl
@[go_sem] theorem Tryd.sz71 : sz Tryd.prog 71 = some 8 := by kernel_rfl
@[go_sem] theorem Tryd.by71 : by' Tryd.prog 71 = some 72 := by kernel_rfl
@[go_sem] theorem Tryd.zr71 : zro Tryd.prog 71 = some ([.int .i64 0, .int .i64 0, .string ⟨#[]⟩, .bool false, .bool false, .int .i64 0, .int .i64 0, .string ⟨#[]⟩]) := by kernel_rfl
@[go_sem] theorem Tryd.tk73 : tk Tryd.prog 73 = .func := by kernel_rfl
@[go_sem] theorem Tryd.sz73 : sz Tryd.prog 73 = some 1 := by kernel_rfl
@[go_sem] theorem Tryd.by73 : by' Tryd.prog 73 = some 8 := by kernel_rfl
@[go_sem] theorem Tryd.zr73 : zro Tryd.prog 73 = some ([.nilFunc]) := by kernel_rfl
@[go_sem] theorem Tryd.tk74 : tk Tryd.prog 74 = .func := by kernel_rfl
@[go_sem] theorem Tryd.sz74 : sz Tryd.prog 74 = some 1 := by kernel_rfl
@[go_sem] theorem Tryd.by74 : by' Tryd.prog 74 = some 8 := by kernel_rfl
@[go_sem] theorem Tryd.zr74 : zro Tryd.prog 74 = some ([.nilFunc]) := by kernel_rfl
@[go_sem] theorem Tryd.tk75 : tk Tryd.prog 75 = .func := by kernel_rfl
@[go_sem] theorem Tryd.sz75 : sz Tryd.prog 75 = some 1 := by kernel_rfl
@[go_sem] theorem Tryd.by75 : by' Tryd.prog 75 = some 8 := by kernel_rfl
@[go_sem] theorem Tryd.zr75 : zro Tryd.prog 75 = some ([.nilFunc]) := by kernel_rfl
@[go_sem] theorem Tryd.tk76 : tk Tryd.prog 76 = .func := by kernel_rfl
@[go_sem] theorem Tryd.sz76 : sz Tryd.prog 76 = some 1 := by kernel_rfl
@[go_sem] theorem Tryd.by76 : by' Tryd.prog 76 = some 8 := by kernel_rfl
@[go_sem] theorem Tryd.zr76 : zro Tryd.prog 76 = some ([.nilFunc]) := by kernel_rfl
@[go_sem] theorem Tryd.tk77 : tk Tryd.prog 77 = .struct [(0, 3), (1, 9), (2, 3), (3, 3), (4, 53)] := by kernel_rfl
@[go_sem] theorem Tryd.sz77 : sz Tryd.prog 77 = some 5 := by kernel_rfl
@[go_sem] theorem Tryd.by77 : by' Tryd.prog 77 = some 64 := by kernel_rfl
@[go_sem] theorem Tryd.zr77 : zro Tryd.prog 77 = some ([.int .i64 0, .string ⟨#[]⟩, .int .i64 0, .int .i64 0, .slice none 0 0]) := by kernel_rfl
@[go_sem] theorem Tryd.tk78 : tk Tryd.prog 78 = .struct [(0, 3), (1, 9), (2, 3), (3, 3), (4, 53)] := by kernel_rfl
@[go_sem] theorem Tryd.sz78 : sz Tryd.prog 78 = some 5 := by kernel_rfl
@[go_sem] theorem Tryd.by78 : by' Tryd.prog 78 = some 64 := by kernel_rfl
@[go_sem] theorem Tryd.zr78 : zro Tryd.prog 78 = some ([.int .i64 0, .string ⟨#[]⟩, .int .i64 0, .int .i64 0, .slice none 0 0]) := by kernel_rfl
@[go_sem] theorem Tryd.tk80 : tk Tryd.prog 80 = .func := by kernel_rfl
@[go_sem] theorem Tryd.sz80 : sz Tryd.prog 80 = some 1 := by kernel_rfl
@[go_sem] theorem Tryd.by80 : by' Tryd.prog 80 = some 8 := by kernel_rfl
@[go_sem] theorem Tryd.zr80 : zro Tryd.prog 80 = some ([.nilFunc]) := by kernel_rfl
@[go_sem] theorem Tryd.tk81 : tk Tryd.prog 81 = .ptr 83 := by kernel_rfl
@[go_sem] theorem Tryd.sz81 : sz Tryd.prog 81 = some 1 := by kernel_rfl
@[go_sem] theorem Tryd.by81 : by' Tryd.prog 81 = some 8 := by kernel_rfl
@[go_sem] theorem Tryd.zr81 : zro Tryd.prog 81 = some ([.pointer none]) := by kernel_rfl
@[go_sem] theorem Tryd.tk82 : tk Tryd.prog 82 = .struct [(0, 55), (4, 78), (9, 37), (10, 37)] := by kernel_rfl
@[go_sem] theorem Tryd.sz82 : sz Tryd.prog 82 = some 11 := by kernel_rfl
@[go_sem] theorem Tryd.by82 : by' Tryd.prog 82 = some 160 := by kernel_rfl
@[go_sem] theorem Tryd.zr82 : zro Tryd.prog 82 = some ([.int .i64 0, .int .i64 0, .int .i64 0, .slice none 0 0, .int .i64 0, .string ⟨#[]⟩, .int .i64 0, .int .i64 0, .slice none 0 0, .slice none 0 0, .slice none 0 0]) := by kernel_rfl
@[go_sem] theorem Tryd.tk83 : tk Tryd.prog 83 = .struct [(0, 55), (4, 78), (9, 37), (10, 37)] := by kernel_rfl
@[go_sem] theorem Tryd.sz83 : sz Tryd.prog 83 = some 11 := by kernel_rfl
@[go_sem] theorem Tryd.by83 : by' Tryd.prog 83 = some 160 := by kernel_rfl
@[go_sem] theorem Tryd.zr83 : zro Tryd.prog 83 = some ([.int .i64 0, .int .i64 0, .int .i64 0, .slice none 0 0, .int .i64 0, .string ⟨#[]⟩, .int .i64 0, .int .i64 0, .slice none 0 0, .slice none 0 0, .slice none 0 0]) := by kernel_rfl
@[go_sem] theorem Tryd.tk84 : tk Tryd.prog 84 = .func := by kernel_rfl
@[go_sem] theorem Tryd.sz84 : sz Tryd.prog 84 = some 1 := by kernel_rfl
@[go_sem] theorem Tryd.by84 : by' Tryd.prog 84 = some 8 := by kernel_rfl
@[go_sem] theorem Tryd.zr84 : zro Tryd.prog 84 = some ([.nilFunc]) := by kernel_rfl
@[go_sem] theorem Tryd.tk85 : tk Tryd.prog 85 = .slice 3 := by kernel_rfl
@[go_sem] theorem Tryd.sz85 : sz Tryd.prog 85 = some 1 := by kernel_rfl
@[go_sem] theorem Tryd.by85 : by' Tryd.prog 85 = some 24 := by kernel_rfl
@[go_sem] theorem Tryd.zr85 : zro Tryd.prog 85 = some ([.slice none 0 0]) := by kernel_rfl
@[go_sem] theorem Tryd.tk87 : tk Tryd.prog 87 = .func := by kernel_rfl
@[go_sem] theorem Tryd.sz87 : sz Tryd.prog 87 = some 1 := by kernel_rfl
@[go_sem] theorem Tryd.by87 : by' Tryd.prog 87 = some 8 := by kernel_rfl
@[go_sem] theorem Tryd.zr87 : zro Tryd.prog 87 = some ([.nilFunc]) := by kernel_rfl
@[go_sem] theorem Tryd.tk88 : tk Tryd.prog 88 = .func := by kernel_rfl
@[go_sem] theorem Tryd.sz88 : sz Tryd.prog 88 = some 1 := by kernel_rfl
@[go_sem] theorem Tryd.by88 : by' Tryd.prog 88 = some 8 := by kernel_rfl
@[go_sem] theorem Tryd.zr88 : zro Tryd.prog 88 = some ([.nilFunc]) := by kernel_rfl
@[go_sem] theorem Tryd.tk89 : tk Tryd.prog 89 = .struct [(0, 4), (1, 5), (2, 5), (3, 9)] := by kernel_rfl
@[go_sem] theorem Tryd.sz89 : sz Tryd.prog 89 = some 4 := by kernel_rfl
@[go_sem] theorem Tryd.by89 : by' Tryd.prog 89 = some 24 := by kernel_rfl
@[go_sem] theorem Tryd.eq89 : eqOk Tryd.prog 89 = true := by kernel_rfl
@[go_sem] theorem Tryd.zr89 : zro Tryd.prog 89 = some ([.bool false, .int .u8 0, .int .u8 0, .string ⟨#[]⟩]) := by kernel_rfl
@[go_sem] theorem Tryd.tk90 : tk Tryd.prog 90 = .struct [(0, 4), (1, 5), (2, 5), (3, 9)] := by kernel_rfl
@[go_sem] theorem Tryd.sz90 : sz Tryd.prog 90 = some 4 := by kernel_rfl
@[go_sem] theorem Tryd.by90 : by' Tryd.prog 90 = some 24 := by kernel_rfl
@[go_sem] theorem Tryd.eq90 : eqOk Tryd.prog 90 = true := by kernel_rfl
@[go_sem] theorem Tryd.zr90 : zro Tryd.prog 90 = some ([.bool false, .int .u8 0, .int .u8 0, .string ⟨#[]⟩]) := by kernel_rfl
@[go_sem] theorem Tryd.tk91 : tk Tryd.prog 91 = .func := by kernel_rfl
@[go_sem] theorem Tryd.sz91 : sz Tryd.prog 91 = some 1 := by kernel_rfl
@[go_sem] theorem Tryd.by91 : by' Tryd.prog 91 = some 8 := by kernel_rfl
@[go_sem] theorem Tryd.zr91 : zro Tryd.prog 91 = some ([.nilFunc]) := by kernel_rfl
@[go_sem] theorem Tryd.tk92 : tk Tryd.prog 92 = .func := by kernel_rfl
@[go_sem] theorem Tryd.sz92 : sz Tryd.prog 92 = some 1 := by kernel_rfl
@[go_sem] theorem Tryd.by92 : by' Tryd.prog 92 = some 8 := by kernel_rfl
@[go_sem] theorem Tryd.zr92 : zro Tryd.prog 92 = some ([.nilFunc]) := by kernel_rfl
@[go_sem] theorem Tryd.tk93 : tk Tryd.prog 93 = .arr 4 5 := by kernel_rfl
@[go_sem] theorem Tryd.sz93 : sz Tryd.prog 93 = some 4 := by kernel_rfl
@[go_sem] theorem Tryd.by93 : by' Tryd.prog 93 = some 4 := by kernel_rfl
@[go_sem] theorem Tryd.eq93 : eqOk Tryd.prog 93 = true := by kernel_rfl
@[go_sem] theorem Tryd.zr93 : zro Tryd.prog 93 = some ([.int .u8 0, .int .u8 0, .int .u8 0, .int .u8 0]) := by kernel_rfl
@[go_sem] theorem Tryd.tk94 : tk Tryd.prog 94 = .func := by kernel_rfl
@[go_sem] theorem Tryd.sz94 : sz Tryd.prog 94 = some 1 := by kernel_rfl
@[go_sem] theorem Tryd.by94 : by' Tryd.prog 94 = some 8 := by kernel_rfl
@[go_sem] theorem Tryd.zr94 : zro Tryd.prog 94 = some ([.nilFunc]) := by kernel_rfl
@[go_sem] theorem Tryd.tk95 : tk Tryd.prog 95 = .int .u32 := by kernel_rfl
@[go_sem] theorem Tryd.sz95 : sz Tryd.prog 95 = some 1 := by kernel_rfl
@[go_sem] theorem Tryd.by95 : by' Tryd.prog 95 = some 4 := by kernel_rfl
@[go_sem] theorem Tryd.un95 : (Tryd.prog.underlying 95).isSome = true := by kernel_rfl
@[go_sem] theorem Tryd.zr95 : zro Tryd.prog 95 = some ([.int .u32 0]) := by kernel_rfl
@[go_sem] theorem Tryd.tk96 : tk Tryd.prog 96 = .func := by kernel_rfl
@[go_sem] theorem Tryd.sz96 : sz Tryd.prog 96 = some 1 := by kernel_rfl
@[go_sem] theorem Tryd.by96 : by' Tryd.prog 96 = some 8 := by kernel_rfl
@[go_sem] theorem Tryd.zr96 : zro Tryd.prog 96 = some ([.nilFunc]) := by kernel_rfl
@[go_sem] theorem Tryd.tk97 : tk Tryd.prog 97 = .func := by kernel_rfl
@[go_sem] theorem Tryd.sz97 : sz Tryd.prog 97 = some 1 := by kernel_rfl
@[go_sem] theorem Tryd.by97 : by' Tryd.prog 97 = some 8 := by kernel_rfl
@[go_sem] theorem Tryd.zr97 : zro Tryd.prog 97 = some ([.nilFunc]) := by kernel_rfl
@[go_sem] theorem Tryd.tk98 : tk Tryd.prog 98 = .func := by kernel_rfl
@[go_sem] theorem Tryd.sz98 : sz Tryd.prog 98 = some 1 := by kernel_rfl
@[go_sem] theorem Tryd.by98 : by' Tryd.prog 98 = some 8 := by kernel_rfl
@[go_sem] theorem Tryd.zr98 : zro Tryd.prog 98 = some ([.nilFunc]) := by kernel_rfl
@[go_sem] theorem Tryd.tk99 : tk Tryd.prog 99 = .func := by kernel_rfl
@[go_sem] theorem Tryd.sz99 : sz Tryd.prog 99 = some 1 := by kernel_rfl
@[go_sem] theorem Tryd.by99 : by' Tryd.prog 99 = some 8 := by kernel_rfl
@[go_sem] theorem Tryd.zr99 : zro Tryd.prog 99 = some ([.nilFunc]) := by kernel_rfl
@[go_sem] theorem Tryd.tk100 : tk Tryd.prog 100 = .func := by kernel_rfl
@[go_sem] theorem Tryd.sz100 : sz Tryd.prog 100 = some 1 := by kernel_rfl
@[go_sem] theorem Tryd.by100 : by' Tryd.prog 100 = some 8 := by kernel_rfl
@[go_sem] theorem Tryd.zr100 : zro Tryd.prog 100 = some ([.nilFunc]) := by kernel_rfl
@[go_sem] theorem Tryd.tk101 : tk Tryd.prog 101 = .func := by kernel_rfl
@[go_sem] theorem Tryd.sz101 : sz Tryd.prog 101 = some 1 := by kernel_rfl
@[go_sem] theorem Tryd.by101 : by' Tryd.prog 101 = some 8 := by kernel_rfl
@[go_sem] theorem Tryd.zr101 : zro Tryd.prog 101 = some ([.nilFunc]) := by kernel_rfl
@[go_sem] theorem Tryd.tk102 : tk Tryd.prog 102 = .func := by kernel_rfl
@[go_sem] theorem Tryd.sz102 : sz Tryd.prog 102 = some 1 := by kernel_rfl
@[go_sem] theorem Tryd.by102 : by' Tryd.prog 102 = some 8 := by kernel_rfl
@[go_sem] theorem Tryd.zr102 : zro Tryd.prog 102 = some ([.nilFunc]) := by kernel_rfl
@[go_sem] theorem Tryd.tk103 : tk Tryd.prog 103 = .func := by kernel_rfl
@[go_sem] theorem Tryd.sz103 : sz Tryd.prog 103 = some 1 := by kernel_rfl
@[go_sem] theorem Tryd.by103 : by' Tryd.prog 103 = some 8 := by kernel_rfl
@[go_sem] theorem Tryd.zr103 : zro Tryd.prog 103 = some ([.nilFunc]) := by kernel_rfl
@[go_sem] theorem Tryd.tk104 : tk Tryd.prog 104 = .func := by kernel_rfl
@[go_sem] theorem Tryd.sz104 : sz Tryd.prog 104 = some 1 := by kernel_rfl
@[go_sem] theorem Tryd.by104 : by' Tryd.prog 104 = some 8 := by kernel_rfl
@[go_sem] theorem Tryd.zr104 : zro Tryd.prog 104 = some ([.nilFunc]) := by kernel_rfl
@[go_sem] theorem Tryd.tk105 : tk Tryd.prog 105 = .func := by kernel_rfl
@[go_sem] theorem Tryd.sz105 : sz Tryd.prog 105 = some 1 := by kernel_rfl
@[go_sem] theorem Tryd.by105 : by' Tryd.prog 105 = some 8 := by kernel_rfl
@[go_sem] theorem Tryd.zr105 : zro Tryd.prog 105 = some ([.nilFunc]) := by kernel_rfl
@[go_sem] theorem Tryd.tk107 : tk Tryd.prog 107 = .struct [(0, 3), (1, 3)] := by kernel_rfl
@[go_sem] theorem Tryd.sz107 : sz Tryd.prog 107 = some 2 := by kernel_rfl
@[go_sem] theorem Tryd.by107 : by' Tryd.prog 107 = some 16 := by kernel_rfl
@[go_sem] theorem Tryd.eq107 : eqOk Tryd.prog 107 = true := by kernel_rfl
@[go_sem] theorem Tryd.zr107 : zro Tryd.prog 107 = some ([.int .i64 0, .int .i64 0]) := by kernel_rfl
@[go_sem] theorem Tryd.tk108 : tk Tryd.prog 108 = .struct [(0, 3), (1, 3)] := by kernel_rfl
@[go_sem] theorem Tryd.sz108 : sz Tryd.prog 108 = some 2 := by kernel_rfl
@[go_sem] theorem Tryd.by108 : by' Tryd.prog 108 = some 16 := by kernel_rfl
@[go_sem] theorem Tryd.eq108 : eqOk Tryd.prog 108 = true := by kernel_rfl
@[go_sem] theorem Tryd.zr108 : zro Tryd.prog 108 = some ([.int .i64 0, .int .i64 0]) := by kernel_rfl
@[go_sem] theorem Tryd.tk109 : tk Tryd.prog 109 = .func := by kernel_rfl
@[go_sem] theorem Tryd.sz109 : sz Tryd.prog 109 = some 1 := by kernel_rfl
@[go_sem] theorem Tryd.by109 : by' Tryd.prog 109 = some 8 := by kernel_rfl
@[go_sem] theorem Tryd.zr109 : zro Tryd.prog 109 = some ([.nilFunc]) := by kernel_rfl
@[go_sem] theorem Tryd.tk110 : tk Tryd.prog 110 = .func := by kernel_rfl
@[go_sem] theorem Tryd.sz110 : sz Tryd.prog 110 = some 1 := by kernel_rfl
@[go_sem] theorem Tryd.by110 : by' Tryd.prog 110 = some 8 := by kernel_rfl
@[go_sem] theorem Tryd.zr110 : zro Tryd.prog 110 = some ([.nilFunc]) := by kernel_rfl
@[go_sem] theorem Tryd.tk111 : tk Tryd.prog 111 = .func := by kernel_rfl
@[go_sem] theorem Tryd.sz111 : sz Tryd.prog 111 = some 1 := by kernel_rfl
@[go_sem] theorem Tryd.by111 : by' Tryd.prog 111 = some 8 := by kernel_rfl
@[go_sem] theorem Tryd.zr111 : zro Tryd.prog 111 = some ([.nilFunc]) := by kernel_rfl
@[go_sem] theorem Tryd.tk112 : tk Tryd.prog 112 = .func := by kernel_rfl
@[go_sem] theorem Tryd.sz112 : sz Tryd.prog 112 = some 1 := by kernel_rfl
@[go_sem] theorem Tryd.by112 : by' Tryd.prog 112 = some 8 := by kernel_rfl
@[go_sem] theorem Tryd.zr112 : zro Tryd.prog 112 = some ([.nilFunc]) := by kernel_rfl
@[go_sem] theorem Tryd.tk113 : tk Tryd.prog 113 = .func := by kernel_rfl
@[go_sem] theorem Tryd.sz113 : sz Tryd.prog 113 = some 1 := by kernel_rfl
@[go_sem] theorem Tryd.by113 : by' Tryd.prog 113 = some 8 := by kernel_rfl
@[go_sem] theorem Tryd.zr113 : zro Tryd.prog 113 = some ([.nilFunc]) := by kernel_rfl
@[go_sem] theorem Tryd.tk114 : tk Tryd.prog 114 = .func := by kernel_rfl
@[go_sem] theorem Tryd.sz114 : sz Tryd.prog 114 = some 1 := by kernel_rfl
@[go_sem] theorem Tryd.by114 : by' Tryd.prog 114 = some 8 := by kernel_rfl
@[go_sem] theorem Tryd.zr114 : zro Tryd.prog 114 = some ([.nilFunc]) := by kernel_rfl
@[go_sem] theorem Tryd.tk115 : tk Tryd.prog 115 = .func := by kernel_rfl
@[go_sem] theorem Tryd.sz115 : sz Tryd.prog 115 = some 1 := by kernel_rfl
@[go_sem] theorem Tryd.by115 : by' Tryd.prog 115 = some 8 := by kernel_rfl
@[go_sem] theorem Tryd.zr115 : zro Tryd.prog 115 = some ([.nilFunc]) := by kernel_rfl
@[go_sem] theorem Tryd.tk116 : tk Tryd.prog 116 = .func := by kernel_rfl
@[go_sem] theorem Tryd.sz116 : sz Tryd.prog 116 = some 1 := by kernel_rfl
@[go_sem] theorem Tryd.by116 : by' Tryd.prog 116 = some 8 := by kernel_rfl
@[go_sem] theorem Tryd.zr116 : zro Tryd.prog 116 = some ([.nilFunc]) := by kernel_rfl
@[go_sem] theorem Tryd.tk117 : tk Tryd.prog 117 = .func := by kernel_rfl
@[go_sem] theorem Tryd.sz117 : sz Tryd.prog 117 = some 1 := by kernel_rfl
@[go_sem] theorem Tryd.by117 : by' Tryd.prog 117 = some 8 := by kernel_rfl
@[go_sem] theorem Tryd.zr117 : zro Tryd.prog 117 = some ([.nilFunc]) := by kernel_rfl
@[go_sem] theorem Tryd.tk119 : tk Tryd.prog 119 = .func := by kernel_rfl
@[go_sem] theorem Tryd.sz119 : sz Tryd.prog 119 = some 1 := by kernel_rfl
@[go_sem] theorem Tryd.by119 : by' Tryd.prog 119 = some 8 := by kernel_rfl
@[go_sem] theorem Tryd.zr119 : zro Tryd.prog 119 = some ([.nilFunc]) := by kernel_rfl
@[go_sem] theorem Tryd.tk120 : tk Tryd.prog 120 = .func := by kernel_rfl
@[go_sem] theorem Tryd.sz120 : sz Tryd.prog 120 = some 1 := by kernel_rfl
@[go_sem] theorem Tryd.by120 : by' Tryd.prog 120 = some 8 := by kernel_rfl
@[go_sem] theorem Tryd.zr120 : zro Tryd.prog 120 = some ([.nilFunc]) := by kernel_rfl
@[go_sem] theorem Tryd.tk121 : tk Tryd.prog 121 = .arr 10 120 := by kernel_rfl
@[go_sem] theorem Tryd.sz121 : sz Tryd.prog 121 = some 10 := by kernel_rfl
@[go_sem] theorem Tryd.by121 : by' Tryd.prog 121 = some 80 := by kernel_rfl
@[go_sem] theorem Tryd.zr121 : zro Tryd.prog 121 = some (List.replicate 10 (.nilFunc)) := by kernel_rfl
@[go_sem] theorem Tryd.tk122 : tk Tryd.prog 122 = .int .u64 := by kernel_rfl
@[go_sem] theorem Tryd.sz122 : sz Tryd.prog 122 = some 1 := by kernel_rfl
@[go_sem] theorem Tryd.by122 : by' Tryd.prog 122 = some 8 := by kernel_rfl
@[go_sem] theorem Tryd.un122 : (Tryd.prog.underlying 122).isSome = true := by kernel_rfl
@[go_sem] theorem Tryd.zr122 : zro Tryd.prog 122 = some ([.int .u64 0]) := by kernel_rfl
@[go_sem] theorem Tryd.tk123 : tk Tryd.prog 123 = .arr 2 95 := by kernel_rfl
@[go_sem] theorem Tryd.sz123 : sz Tryd.prog 123 = some 2 := by kernel_rfl
@[go_sem] theorem Tryd.by123 : by' Tryd.prog 123 = some 8 := by kernel_rfl
@[go_sem] theorem Tryd.eq123 : eqOk Tryd.prog 123 = true := by kernel_rfl
@[go_sem] theorem Tryd.zr123 : zro Tryd.prog 123 = some ([.int .u32 0, .int .u32 0]) := by kernel_rfl
@[go_sem] theorem Tryd.tk124 : tk Tryd.prog 124 = .func := by kernel_rfl
@[go_sem] theorem Tryd.sz124 : sz Tryd.prog 124 = some 1 := by kernel_rfl
@[go_sem] theorem Tryd.by124 : by' Tryd.prog 124 = some 8 := by kernel_rfl
@[go_sem] theorem Tryd.zr124 : zro Tryd.prog 124 = some ([.nilFunc]) := by kernel_rfl
@[go_sem] theorem Tryd.tk125 : tk Tryd.prog 125 = .func := by kernel_rfl
@[go_sem] theorem Tryd.sz125 : sz Tryd.prog 125 = some 1 := by kernel_rfl
@[go_sem] theorem Tryd.by125 : by' Tryd.prog 125 = some 8 := by kernel_rfl
@[go_sem] theorem Tryd.zr125 : zro Tryd.prog 125 = some ([.nilFunc]) := by kernel_rfl
@[go_sem] theorem Tryd.tk126 : tk Tryd.prog 126 = .slice 24 := by kernel_rfl
@[go_sem] theorem Tryd.sz126 : sz Tryd.prog 126 = some 1 := by kernel_rfl
@[go_sem] theorem Tryd.by126 : by' Tryd.prog 126 = some 24 := by kernel_rfl
@[go_sem] theorem Tryd.zr126 : zro Tryd.prog 126 = some ([.slice none 0 0]) := by kernel_rfl
@[go_sem] theorem Tryd.tk127 : tk Tryd.prog 127 = .func := by kernel_rfl
@[go_sem] theorem Tryd.sz127 : sz Tryd.prog 127 = some 1 := by kernel_rfl
@[go_sem] theorem Tryd.by127 : by' Tryd.prog 127 = some 8 := by kernel_rfl
@[go_sem] theorem Tryd.zr127 : zro Tryd.prog 127 = some ([.nilFunc]) := by kernel_rfl
@[go_sem] theorem Tryd.tk128 : tk Tryd.prog 128 = .func := by kernel_rfl
@[go_sem] theorem Tryd.sz128 : sz Tryd.prog 128 = some 1 := by kernel_rfl
@[go_sem] theorem Tryd.by128 : by' Tryd.prog 128 = some 8 := by kernel_rfl
@[go_sem] theorem Tryd.zr128 : zro Tryd.prog 128 = some ([.nilFunc]) := by kernel_rfl
@[go_sem] theorem Tryd.tk129 : tk Tryd.prog 129 = .func := by kernel_rfl
@[go_sem] theorem Tryd.sz129 : sz Tryd.prog 129 = some 1 := by kernel_rfl
@[go_sem] theorem Tryd.by129 : by' Tryd.prog 129 = some 8 := by kernel_rfl
@[go_sem] theorem Tryd.zr129 : zro Tryd.prog 129 = some ([.nilFunc]) := by kernel_rfl
@[go_sem] theorem Tryd.tk130 : tk Tryd.prog 130 = .iface := by kernel_rfl
@[go_sem] theorem Tryd.sz130 : sz Tryd.prog 130 = some 1 := by kernel_rfl
@[go_sem] theorem Tryd.by130 : by' Tryd.prog 130 = some 16 := by kernel_rfl
@[go_sem] theorem Tryd.zr130 : zro Tryd.prog 130 = some ([.nilIface]) := by kernel_rfl
@[go_sem] theorem Tryd.tk131 : tk Tryd.prog 131 = .iface := by kernel_rfl
@[go_sem] theorem Tryd.sz131 : sz Tryd.prog 131 = some 1 := by kernel_rfl
@[go_sem] theorem Tryd.by131 : by' Tryd.prog 131 = some 16 := by kernel_rfl
@[go_sem] theorem Tryd.zr131 : zro Tryd.prog 131 = some ([.nilIface]) := by kernel_rfl
@[go_sem] theorem Tryd.tk133 : tk Tryd.prog 133 = .func := by kernel_rfl
@[go_sem] theorem Tryd.sz133 : sz Tryd.prog 133 = some 1 := by kernel_rfl
@[go_sem] theorem Tryd.by133 : by' Tryd.prog 133 = some 8 := by kernel_rfl
@[go_sem] theorem Tryd.zr133 : zro Tryd.prog 133 = some ([.nilFunc]) := by kernel_rfl
@[go_sem] theorem Tryd.tk134 : tk Tryd.prog 134 = .func := by kernel_rfl
@[go_sem] theorem Tryd.sz134 : sz Tryd.prog 134 = some 1 := by kernel_rfl
@[go_sem] theorem Tryd.by134 : by' Tryd.prog 134 = some 8 := by kernel_rfl
@[go_sem] theorem Tryd.zr134 : zro Tryd.prog 134 = some ([.nilFunc]) := by kernel_rfl
@[go_sem] theorem Tryd.tk135 : tk Tryd.prog 135 = .ptr 67 := by kernel_rfl
@[go_sem] theorem Tryd.sz135 : sz Tryd.prog 135 = some 1 := by kernel_rfl
@[go_sem] theorem Tryd.by135 : by' Tryd.prog 135 = some 8 := by kernel_rfl
@[go_sem] theorem Tryd.zr135 : zro Tryd.prog 135 = some ([.pointer none]) := by kernel_rfl
@[go_sem] theorem Tryd.tk136 : tk Tryd.prog 136 = .func := by kernel_rfl
@[go_sem] theorem Tryd.sz136 : sz Tryd.prog 136 = some 1 := by kernel_rfl
@[go_sem] theorem Tryd.by136 : by' Tryd.prog 136 = some 8 := by kernel_rfl
@[go_sem] theorem Tryd.zr136 : zro Tryd.prog 136 = some ([.nilFunc]) := by kernel_rfl
@[go_sem] theorem Tryd.tk137 : tk Tryd.prog 137 = .func := by kernel_rfl
@[go_sem] theorem Tryd.sz137 : sz Tryd.prog 137 = some 1 := by kernel_rfl
@[go_sem] theorem Tryd.by137 : by' Tryd.prog 137 = some 8 := by kernel_rfl
@[go_sem] theorem Tryd.zr137 : zro Tryd.prog 137 = some ([.nilFunc]) := by kernel_rfl
@[go_sem] theorem Tryd.tk138 : tk Tryd.prog 138 = .func := by kernel_rfl
@[go_sem] theorem Tryd.sz138 : sz Tryd.prog 138 = some 1 := by kernel_rfl
@[go_sem] theorem Tryd.by138 : by' Tryd.prog 138 = some 8 := by kernel_rfl
@[go_sem] theorem Tryd.zr138 : zro Tryd.prog 138 = some ([.nilFunc]) := by kernel_rfl
@[go_sem] theorem Tryd.tk139 : tk Tryd.prog 139 = .func := by kernel_rfl
@[go_sem] theorem Tryd.sz139 : sz Tryd.prog 139 = some 1 := by kernel_rfl
@[go_sem] theorem Tryd.by139 : by' Tryd.prog 139 = some 8 := by kernel_rfl
@[go_sem] theorem Tryd.zr139 : zro Tryd.prog 139 = some ([.nilFunc]) := by kernel_rfl
@[go_sem] theorem Tryd.tk140 : tk Tryd.prog 140 = .func := by kernel_rfl
@[go_sem] theorem Tryd.sz140 : sz Tryd.prog 140 = some 1 := by kernel_rfl
@[go_sem] theorem Tryd.by140 : by' Tryd.prog 140 = some 8 := by kernel_rfl
@[go_sem] theorem Tryd.zr140 : zro Tryd.prog 140 = some ([.nilFunc]) := by kernel_rfl
@[go_sem] theorem Tryd.tk141 : tk Tryd.prog 141 = .func := by kernel_rfl
@[go_sem] theorem Tryd.sz141 : sz Tryd.prog 141 = some 1 := by kernel_rfl
@[go_sem] theorem Tryd.by141 : by' Tryd.prog 141 = some 8 := by kernel_rfl
@[go_sem] theorem Tryd.zr141 : zro Tryd.prog 141 = some ([.nilFunc]) := by kernel_rfl
@[go_sem] theorem Tryd.tk143 : tk Tryd.prog 143 = .func := by kernel_rfl
@[go_sem] theorem Tryd.sz143 : sz Tryd.prog 143 = some 1 := by kernel_rfl
@[go_sem] theorem Tryd.by143 : by' Tryd.prog 143 = some 8 := by kernel_rfl
@[go_sem] theorem Tryd.zr143 : zro Tryd.prog 143 = some ([.nilFunc]) := by kernel_rfl
@[go_sem] theorem Tryd.tk144 : tk Tryd.prog 144 = .func := by kernel_rfl
@[go_sem] theorem Tryd.sz144 : sz Tryd.prog 144 = some 1 := by kernel_rfl
@[go_sem] theorem Tryd.by144 : by' Tryd.prog 144 = some 8 := by kernel_rfl
@[go_sem] theorem Tryd.zr144 : zro Tryd.prog 144 = some ([.nilFunc]) := by kernel_rfl
@[go_sem] theorem Tryd.tk145 : tk Tryd.prog 145 = .func := by kernel_rfl
@[go_sem] theorem Tryd.sz145 : sz Tryd.prog 145 = some 1 := by kernel_rfl
@[go_sem] theorem Tryd.by145 : by' Tryd.prog 145 = some 8 := by kernel_rfl
@[go_sem] theorem Tryd.zr145 : zro Tryd.prog 145 = some ([.nilFunc]) := by kernel_rfl
@[go_sem] theorem Tryd.tk146 : tk Tryd.prog 146 = .func := by kernel_rfl
@[go_sem] theorem Tryd.sz146 : sz Tryd.prog 146 = some 1 := by kernel_rfl
@[go_sem] theorem Tryd.by146 : by' Tryd.prog 146 = some 8 := by kernel_rfl
@[go_sem] theorem Tryd.zr146 : zro Tryd.prog 146 = some ([.nilFunc]) := by kernel_rfl
@[go_sem] theorem Tryd.tk147 : tk Tryd.prog 147 = .ptr 78 := by kernel_rfl
@[go_sem] theorem Tryd.sz147 : sz Tryd.prog 147 = some 1 := by kernel_rfl
@[go_sem] theorem Tryd.by147 : by' Tryd.prog 147 = some 8 := by kernel_rfl
@[go_sem] theorem Tryd.zr147 : zro Tryd.prog 147 = some ([.pointer none]) := by kernel_rfl
@[go_sem] theorem Tryd.tk148 : tk Tryd.prog 148 = .arr 256 5 := by kernel_rfl
@[go_sem] theorem Tryd.sz148 : sz Tryd.prog 148 = some 256 := by kernel_rfl
@[go_sem] theorem Tryd.by148 : by' Tryd.prog 148 = some 256 := by kernel_rfl
@[go_sem] theorem Tryd.eq148 : eqOk Tryd.prog 148 = true := by kernel_rfl
@[go_sem] theorem Tryd.zr148 : zro Tryd.prog 148 = some (List.replicate 256 (.int .u8 0)) := by kernel_rfl
@[go_sem] theorem Tryd.tk149 : tk Tryd.prog 149 = .func := by kernel_rfl
@[go_sem] theorem Tryd.sz149 : sz Tryd.prog 149 = some 1 := by kernel_rfl
@[go_sem] theorem Tryd.by149 : by' Tryd.prog 149 = some 8 := by kernel_rfl
@[go_sem] theorem Tryd.zr149 : zro Tryd.prog 149 = some ([.nilFunc]) := by kernel_rfl
@[go_sem] theorem Tryd.tk150 : tk Tryd.prog 150 = .func := by kernel_rfl
@[go_sem] theorem Tryd.sz150 : sz Tryd.prog 150 = some 1 := by kernel_rfl
@[go_sem] theorem Tryd.by150 : by' Tryd.prog 150 = some 8 := by kernel_rfl
@[go_sem] theorem Tryd.zr150 : zro Tryd.prog 150 = some ([.nilFunc]) := by kernel_rfl
@[go_sem] theorem Tryd.tk151 : tk Tryd.prog 151 = .int .i64 := by kernel_rfl
@[go_sem] theorem Tryd.sz151 : sz Tryd.prog 151 = some 1 := by kernel_rfl
@[go_sem] theorem Tryd.by151 : by' Tryd.prog 151 = some 8 := by kernel_rfl
@[go_sem] theorem Tryd.un151 : (Tryd.prog.underlying 151).isSome = true := by kernel_rfl
@[go_sem] theorem Tryd.zr151 : zro Tryd.prog 151 = some ([.int .i64 0]) := by kernel_rfl
@[go_sem] theorem Tryd.tk153 : tk Tryd.prog 153 = .func := by kernel_rfl
@[go_sem] theorem Tryd.sz153 : sz Tryd.prog 153 = some 1 := by kernel_rfl
@[go_sem] theorem Tryd.by153 : by' Tryd.prog 153 = some 8 := by kernel_rfl
@[go_sem] theorem Tryd.zr153 : zro Tryd.prog 153 = some ([.nilFunc]) := by kernel_rfl
@[go_sem] theorem Tryd.tk154 : tk Tryd.prog 154 = .ptr 166 := by kernel_rfl
@[go_sem] theorem Tryd.sz154 : sz Tryd.prog 154 = some 1 := by kernel_rfl
@[go_sem] theorem Tryd.by154 : by' Tryd.prog 154 = some 8 := by kernel_rfl
@[go_sem] theorem Tryd.zr154 : zro Tryd.prog 154 = some ([.pointer none]) := by kernel_rfl
@[go_sem] theorem Tryd.tk155 : tk Tryd.prog 155 = .func := by kernel_rfl
@[go_sem] theorem Tryd.sz155 : sz Tryd.prog 155 = some 1 := by kernel_rfl
@[go_sem] theorem Tryd.by155 : by' Tryd.prog 155 = some 8 := by kernel_rfl
@[go_sem] theorem Tryd.zr155 : zro Tryd.prog 155 = some ([.nilFunc]) := by kernel_rfl
@[go_sem] theorem Tryd.tk156 : tk Tryd.prog 156 = .func := by kernel_rfl
@[go_sem] theorem Tryd.sz156 : sz Tryd.prog 156 = some 1 := by kernel_rfl
@[go_sem] theorem Tryd.by156 : by' Tryd.prog 156 = some 8 := by kernel_rfl
@[go_sem] theorem Tryd.zr156 : zro Tryd.prog 156 = some ([.nilFunc]) := by kernel_rfl
@[go_sem] theorem Tryd.tk157 : tk Tryd.prog 157 = .func := by kernel_rfl
@[go_sem] theorem Tryd.sz157 : sz Tryd.prog 157 = some 1 := by kernel_rfl
@[go_sem] theorem Tryd.by157 : by' Tryd.prog 157 = some 8 := by kernel_rfl
@[go_sem] theorem Tryd.zr157 : zro Tryd.prog 157 = some ([.nilFunc]) := by kernel_rfl
@[go_sem] theorem Tryd.tk158 : tk Tryd.prog 158 = .func := by kernel_rfl
@[go_sem] theorem Tryd.sz158 : sz Tryd.prog 158 = some 1 := by kernel_rfl
@[go_sem] theorem Tryd.by158 : by' Tryd.prog 158 = some 8 := by kernel_rfl
@[go_sem] theorem Tryd.zr158 : zro Tryd.prog 158 = some ([.nilFunc]) := by kernel_rfl
@[go_sem] theorem Tryd.tk159 : tk Tryd.prog 159 = .func := by kernel_rfl
@[go_sem] theorem Tryd.sz159 : sz Tryd.prog 159 = some 1 := by kernel_rfl
@[go_sem] theorem Tryd.by159 : by' Tryd.prog 159 = some 8 := by kernel_rfl
@[go_sem] theorem Tryd.zr159 : zro Tryd.prog 159 = some ([.nilFunc]) := by kernel_rfl
@[go_sem] theorem Tryd.tk160 : tk Tryd.prog 160 = .func := by kernel_rfl
@[go_sem] theorem Tryd.sz160 : sz Tryd.prog 160 = some 1 := by kernel_rfl
@[go_sem] theorem Tryd.by160 : by' Tryd.prog 160 = some 8 := by kernel_rfl
@[go_sem] theorem Tryd.zr160 : zro Tryd.prog 160 = some ([.nilFunc]) := by kernel_rfl
@[go_sem] theorem Tryd.tk161 : tk Tryd.prog 161 = .int .u64 := by kernel_rfl
@[go_sem] theorem Tryd.sz161 : sz Tryd.prog 161 = some 1 := by kernel_rfl
@[go_sem] theorem Tryd.by161 : by' Tryd.prog 161 = some 8 := by kernel_rfl
@[go_sem] theorem Tryd.un161 : (Tryd.prog.underlying 161).isSome = true := by kernel_rfl
@[go_sem] theorem Tryd.zr161 : zro Tryd.prog 161 = some ([.int .u64 0]) := by kernel_rfl
@[go_sem] theorem Tryd.tk163 : tk Tryd.prog 163 = .func := by kernel_rfl
@[go_sem] theorem Tryd.sz163 : sz Tryd.prog 163 = some 1 := by kernel_rfl
@[go_sem] theorem Tryd.by163 : by' Tryd.prog 163 = some 8 := by kernel_rfl
@[go_sem] theorem Tryd.zr163 : zro Tryd.prog 163 = some ([.nilFunc]) := by kernel_rfl
@[go_sem] theorem Tryd.tk164 : tk Tryd.prog 164 = .func := by kernel_rfl
@[go_sem] theorem Tryd.sz164 : sz Tryd.prog 164 = some 1 := by kernel_rfl
@[go_sem] theorem Tryd.by164 : by' Tryd.prog 164 = some 8 := by kernel_rfl
@[go_sem] theorem Tryd.zr164 : zro Tryd.prog 164 = some ([.nilFunc]) := by kernel_rfl
@[go_sem] theorem Tryd.tk165 : tk Tryd.prog 165 = .struct [(0, 9), (1, 9), (2, 131)] := by kernel_rfl
@[go_sem] theorem Tryd.sz165 : sz Tryd.prog 165 = some 3 := by kernel_rfl
@[go_sem] theorem Tryd.by165 : by' Tryd.prog 165 = some 48 := by kernel_rfl
@[go_sem] theorem Tryd.zr165 : zro Tryd.prog 165 = some ([.string ⟨#[]⟩, .string ⟨#[]⟩, .nilIface]) := by kernel_rfl
@[go_sem] theorem Tryd.tk166 : tk Tryd.prog 166 = .struct [(0, 9), (1, 9), (2, 131)] := by kernel_rfl
@[go_sem] theorem Tryd.sz166 : sz Tryd.prog 166 = some 3 := by kernel_rfl
@[go_sem] theorem Tryd.by166 : by' Tryd.prog 166 = some 48 := by kernel_rfl
@[go_sem] theorem Tryd.zr166 : zro Tryd.prog 166 = some ([.string ⟨#[]⟩, .string ⟨#[]⟩, .nilIface]) := by kernel_rfl
@[go_sem] theorem Tryd.tk167 : tk Tryd.prog 167 = .func := by kernel_rfl
@[go_sem] theorem Tryd.sz167 : sz Tryd.prog 167 = some 1 := by kernel_rfl
@[go_sem] theorem Tryd.by167 : by' Tryd.prog 167 = some 8 := by kernel_rfl
@[go_sem] theorem Tryd.zr167 : zro Tryd.prog 167 = some ([.nilFunc]) := by kernel_rfl
@[go_sem] theorem Tryd.tk168 : tk Tryd.prog 168 = .arr 24 5 := by kernel_rfl
@[go_sem] theorem Tryd.sz168 : sz Tryd.prog 168 = some 24 := by kernel_rfl
@[go_sem] theorem Tryd.by168 : by' Tryd.prog 168 = some 24 := by kernel_rfl
@[go_sem] theorem Tryd.eq168 : eqOk Tryd.prog 168 = true := by kernel_rfl
@[go_sem] theorem Tryd.zr168 : zro Tryd.prog 168 = some (List.replicate 24 (.int .u8 0)) := by kernel_rfl
@[go_sem] theorem Tryd.tk169 : tk Tryd.prog 169 = .func := by kernel_rfl
@[go_sem] theorem Tryd.sz169 : sz Tryd.prog 169 = some 1 := by kernel_rfl
@[go_sem] theorem Tryd.by169 : by' Tryd.prog 169 = some 8 := by kernel_rfl
@[go_sem] theorem Tryd.zr169 : zro Tryd.prog 169 = some ([.nilFunc]) := by kernel_rfl
@[go_sem] theorem Tryd.tk170 : tk Tryd.prog 170 = .func := by kernel_rfl
@[go_sem] theorem Tryd.sz170 : sz Tryd.prog 170 = some 1 := by kernel_rfl
@[go_sem] theorem Tryd.by170 : by' Tryd.prog 170 = some 8 := by kernel_rfl
@[go_sem] theorem Tryd.zr170 : zro Tryd.prog 170 = some ([.nilFunc]) := by kernel_rfl
@[go_sem] theorem Tryd.tk172 : tk Tryd.prog 172 = .func := by kernel_rfl
@[go_sem] theorem Tryd.sz172 : sz Tryd.prog 172 = some 1 := by kernel_rfl
@[go_sem] theorem Tryd.by172 : by' Tryd.prog 172 = some 8 := by kernel_rfl
@[go_sem] theorem Tryd.zr172 : zro Tryd.prog 172 = some ([.nilFunc]) := by kernel_rfl
@[go_sem] theorem Tryd.tk173 : tk Tryd.prog 173 = .func := by kernel_rfl
@[go_sem] theorem Tryd.sz173 : sz Tryd.prog 173 = some 1 := by kernel_rfl
@[go_sem] theorem Tryd.by173 : by' Tryd.prog 173 = some 8 := by kernel_rfl
@[go_sem] theorem Tryd.zr173 : zro Tryd.prog 173 = some ([.nilFunc]) := by kernel_rfl
@[go_sem] theorem Tryd.tk174 : tk Tryd.prog 174 = .func := by kernel_rfl
@[go_sem] theorem Tryd.sz174 : sz Tryd.prog 174 = some 1 := by kernel_rfl
@[go_sem] theorem Tryd.by174 : by' Tryd.prog 174 = some 8 := by kernel_rfl
@[go_sem] theorem Tryd.zr174 : zro Tryd.prog 174 = some ([.nilFunc]) := by kernel_rfl
@[go_sem] theorem Tryd.tk175 : tk Tryd.prog 175 = .func := by kernel_rfl
@[go_sem] theorem Tryd.sz175 : sz Tryd.prog 175 = some 1 := by kernel_rfl
@[go_sem] theorem Tryd.by175 : by' Tryd.prog 175 = some 8 := by kernel_rfl
@[go_sem] theorem Tryd.zr175 : zro Tryd.prog 175 = some ([.nilFunc]) := by kernel_rfl
@[go_sem] theorem Tryd.tk176 : tk Tryd.prog 176 = .ptr 5 := by kernel_rfl
@[go_sem] theorem Tryd.sz176 : sz Tryd.prog 176 = some 1 := by kernel_rfl
@[go_sem] theorem Tryd.by176 : by' Tryd.prog 176 = some 8 := by kernel_rfl
@[go_sem] theorem Tryd.zr176 : zro Tryd.prog 176 = some ([.pointer none]) := by kernel_rfl
@[go_sem] theorem Tryd.tk177 : tk Tryd.prog 177 = .ptr 179 := by kernel_rfl
@[go_sem] theorem Tryd.sz177 : sz Tryd.prog 177 = some 1 := by kernel_rfl
@[go_sem] theorem Tryd.by177 : by' Tryd.prog 177 = some 8 := by kernel_rfl
@[go_sem] theorem Tryd.zr177 : zro Tryd.prog 177 = some ([.pointer none]) := by kernel_rfl
@[go_sem] theorem Tryd.tk178 : tk Tryd.prog 178 = .struct [(0, 9)] := by kernel_rfl
@[go_sem] theorem Tryd.sz178 : sz Tryd.prog 178 = some 1 := by kernel_rfl
@[go_sem] theorem Tryd.by178 : by' Tryd.prog 178 = some 16 := by kernel_rfl
@[go_sem] theorem Tryd.eq178 : eqOk Tryd.prog 178 = true := by kernel_rfl
@[go_sem] theorem Tryd.zr178 : zro Tryd.prog 178 = some ([.string ⟨#[]⟩]) := by kernel_rfl
@[go_sem] theorem Tryd.tk179 : tk Tryd.prog 179 = .struct [(0, 9)] := by kernel_rfl
@[go_sem] theorem Tryd.sz179 : sz Tryd.prog 179 = some 1 := by kernel_rfl
@[go_sem] theorem Tryd.by179 : by' Tryd.prog 179 = some 16 := by kernel_rfl
@[go_sem] theorem Tryd.eq179 : eqOk Tryd.prog 179 = true := by kernel_rfl
@[go_sem] theorem Tryd.zr179 : zro Tryd.prog 179 = some ([.string ⟨#[]⟩]) := by kernel_rfl
@[go_sem] theorem Tryd.tk180 : tk Tryd.prog 180 = .func := by kernel_rfl
@[go_sem] theorem Tryd.sz180 : sz Tryd.prog 180 = some 1 := by kernel_rfl
@[go_sem] theorem Tryd.by180 : by' Tryd.prog 180 = some 8 := by kernel_rfl
@[go_sem] theorem Tryd.zr180 : zro Tryd.prog 180 = some ([.nilFunc]) := by kernel_rfl
@[go_sem] theorem Tryd.tk181 : tk Tryd.prog 181 = .arr 20 161 := by kernel_rfl
@[go_sem] theorem Tryd.sz181 : sz Tryd.prog 181 = some 20 := by kernel_rfl
@[go_sem] theorem Tryd.by181 : by' Tryd.prog 181 = some 160 := by kernel_rfl
@[go_sem] theorem Tryd.eq181 : eqOk Tryd.prog 181 = true := by kernel_rfl
@[go_sem] theorem Tryd.zr181 : zro Tryd.prog 181 = some (List.replicate 20 (.int .u64 0)) := by kernel_rfl
@[go_sem] theorem Tryd.tk182 : tk Tryd.prog 182 = .arr 65 5 := by kernel_rfl
@[go_sem] theorem Tryd.sz182 : sz Tryd.prog 182 = some 65 := by kernel_rfl
@[go_sem] theorem Tryd.by182 : by' Tryd.prog 182 = some 65 := by kernel_rfl
@[go_sem] theorem Tryd.eq182 : eqOk Tryd.prog 182 = true := by kernel_rfl
@[go_sem] theorem Tryd.zr182 : zro Tryd.prog 182 = some (List.replicate 65 (.int .u8 0)) := by kernel_rfl
@[go_sem] theorem Tryd.tk183 : tk Tryd.prog 183 = .func := by kernel_rfl
@[go_sem] theorem Tryd.sz183 : sz Tryd.prog 183 = some 1 := by kernel_rfl
@[go_sem] theorem Tryd.by183 : by' Tryd.prog 183 = some 8 := by kernel_rfl
@[go_sem] theorem Tryd.zr183 : zro Tryd.prog 183 = some ([.nilFunc]) := by kernel_rfl
@[go_sem] theorem Tryd.tk184 : tk Tryd.prog 184 = .func := by kernel_rfl
@[go_sem] theorem Tryd.sz184 : sz Tryd.prog 184 = some 1 := by kernel_rfl
@[go_sem] theorem Tryd.by184 : by' Tryd.prog 184 = some 8 := by kernel_rfl
@[go_sem] theorem Tryd.zr184 : zro Tryd.prog 184 = some ([.nilFunc]) := by kernel_rfl
@[go_sem] theorem Tryd.tk186 : tk Tryd.prog 186 = .func := by kernel_rfl
@[go_sem] theorem Tryd.sz186 : sz Tryd.prog 186 = some 1 := by kernel_rfl
@[go_sem] theorem Tryd.by186 : by' Tryd.prog 186 = some 8 := by kernel_rfl
@[go_sem] theorem Tryd.zr186 : zro Tryd.prog 186 = some ([.nilFunc]) := by kernel_rfl
@[go_sem] theorem Tryd.tk187 : tk Tryd.prog 187 = .func := by kernel_rfl
@[go_sem] theorem Tryd.sz187 : sz Tryd.prog 187 = some 1 := by kernel_rfl
@[go_sem] theorem Tryd.by187 : by' Tryd.prog 187 = some 8 := by kernel_rfl
@[go_sem] theorem Tryd.zr187 : zro Tryd.prog 187 = some ([.nilFunc]) := by kernel_rfl
@[go_sem] theorem Tryd.tk188 : tk Tryd.prog 188 = .arr 32 5 := by kernel_rfl
@[go_sem] theorem Tryd.sz188 : sz Tryd.prog 188 = some 32 := by kernel_rfl
@[go_sem] theorem Tryd.by188 : by' Tryd.prog 188 = some 32 := by kernel_rfl
@[go_sem] theorem Tryd.eq188 : eqOk Tryd.prog 188 = true := by kernel_rfl
@[go_sem] theorem Tryd.zr188 : zro Tryd.prog 188 = some (List.replicate 32 (.int .u8 0)) := by kernel_rfl
@[go_sem] theorem Tryd.tk189 : tk Tryd.prog 189 = .arr 64 5 := by kernel_rfl
@[go_sem] theorem Tryd.sz189 : sz Tryd.prog 189 = some 64 := by kernel_rfl
@[go_sem] theorem Tryd.by189 : by' Tryd.prog 189 = some 64 := by kernel_rfl
@[go_sem] theorem Tryd.eq189 : eqOk Tryd.prog 189 = true := by kernel_rfl
@[go_sem] theorem Tryd.zr189 : zro Tryd.prog 189 = some (List.replicate 64 (.int .u8 0)) := by kernel_rfl
@[go_sem] theorem Tryd.tk190 : tk Tryd.prog 190 = .func := by kernel_rfl
@[go_sem] theorem Tryd.sz190 : sz Tryd.prog 190 = some 1 := by kernel_rfl
@[go_sem] theorem Tryd.by190 : by' Tryd.prog 190 = some 8 := by kernel_rfl
@[go_sem] theorem Tryd.zr190 : zro Tryd.prog 190 = some ([.nilFunc]) := by kernel_rfl
@[go_sem] theorem Tryd.tk191 : tk Tryd.prog 191 = .struct [(0, 17), (1, 17), (2, 17), (3, 9)] := by kernel_rfl
@[go_sem] theorem Tryd.sz191 : sz Tryd.prog 191 = some 4 := by kernel_rfl
@[go_sem] theorem Tryd.by191 : by' Tryd.prog 191 = some 40 := by kernel_rfl
@[go_sem] theorem Tryd.zr191 : zro Tryd.prog 191 = some ([.pointer none, .pointer none, .pointer none, .string ⟨#[]⟩]) := by kernel_rfl
@[go_sem] theorem Tryd.tk192 : tk Tryd.prog 192 = .struct [(0, 17), (1, 17), (2, 17), (3, 9)] := by kernel_rfl
@[go_sem] theorem Tryd.sz192 : sz Tryd.prog 192 = some 4 := by kernel_rfl
@[go_sem] theorem Tryd.by192 : by' Tryd.prog 192 = some 40 := by kernel_rfl
@[go_sem] theorem Tryd.zr192 : zro Tryd.prog 192 = some ([.pointer none, .pointer none, .pointer none, .string ⟨#[]⟩]) := by kernel_rfl
@[go_sem] theorem Tryd.tk193 : tk Tryd.prog 193 = .arr 0 16 := by kernel_rfl
@[go_sem] theorem Tryd.sz193 : sz Tryd.prog 193 = some 0 := by kernel_rfl
@[go_sem] theorem Tryd.by193 : by' Tryd.prog 193 = some 0 := by kernel_rfl
@[go_sem] theorem Tryd.zr193 : zro Tryd.prog 193 = some ([]) := by kernel_rfl
@[go_sem] theorem Tryd.tk194 : tk Tryd.prog 194 = .struct [(0, 193)] := by kernel_rfl
@[go_sem] theorem Tryd.sz194 : sz Tryd.prog 194 = some 0 := by kernel_rfl
@[go_sem] theorem Tryd.by194 : by' Tryd.prog 194 = some 0 := by kernel_rfl
@[go_sem] theorem Tryd.zr194 : zro Tryd.prog 194 = some ([]) := by kernel_rfl
@[go_sem] theorem Tryd.tk195 : tk Tryd.prog 195 = .struct [(0, 193)] := by kernel_rfl
@[go_sem] theorem Tryd.sz195 : sz Tryd.prog 195 = some 0 := by kernel_rfl
@[go_sem] theorem Tryd.by195 : by' Tryd.prog 195 = some 0 := by kernel_rfl
@[go_sem] theorem Tryd.zr195 : zro Tryd.prog 195 = some ([]) := by kernel_rfl
@[go_sem] theorem Tryd.tk196 : tk Tryd.prog 196 = .func := by kernel_rfl
@[go_sem] theorem Tryd.sz196 : sz Tryd.prog 196 = some 1 := by kernel_rfl
@[go_sem] theorem Tryd.by196 : by' Tryd.prog 196 = some 8 := by kernel_rfl
@[go_sem] theorem Tryd.zr196 : zro Tryd.prog 196 = some ([.nilFunc]) := by kernel_rfl
@[go_sem] theorem Tryd.tk197 : tk Tryd.prog 197 = .int .u8 := by kernel_rfl
@[go_sem] theorem Tryd.sz197 : sz Tryd.prog 197 = some 1 := by kernel_rfl
@[go_sem] theorem Tryd.by197 : by' Tryd.prog 197 = some 1 := by kernel_rfl
@[go_sem] theorem Tryd.un197 : (Tryd.prog.underlying 197).isSome = true := by kernel_rfl
@[go_sem] theorem Tryd.zr197 : zro Tryd.prog 197 = some ([.int .u8 0]) := by kernel_rfl
@[go_sem] theorem Tryd.tk198 : tk Tryd.prog 198 = .int .u8 := by kernel_rfl
@[go_sem] theorem Tryd.sz198 : sz Tryd.prog 198 = some 1 := by kernel_rfl
@[go_sem] theorem Tryd.by198 : by' Tryd.prog 198 = some 1 := by kernel_rfl
@[go_sem] theorem Tryd.un198 : (Tryd.prog.underlying 198).isSome = true := by kernel_rfl
@[go_sem] theorem Tryd.zr198 : zro Tryd.prog 198 = some ([.int .u8 0]) := by kernel_rfl
@[go_sem] theorem Tryd.tk199 : tk Tryd.prog 199 = .func := by kernel_rfl
@[go_sem] theorem Tryd.sz199 : sz Tryd.prog 199 = some 1 := by kernel_rfl
@[go_sem] theorem Tryd.by199 : by' Tryd.prog 199 = some 8 := by kernel_rfl
@[go_sem] theorem Tryd.zr199 : zro Tryd.prog 199 = some ([.nilFunc]) := by kernel_rfl
@[go_sem] theorem Tryd.tk200 : tk Tryd.prog 200 = .int .i32 := by kernel_rfl
@[go_sem] theorem Tryd.sz200 : sz Tryd.prog 200 = some 1 := by kernel_rfl
@[go_sem] theorem Tryd.by200 : by' Tryd.prog 200 = some 4 := by kernel_rfl
@[go_sem] theorem Tryd.un200 : (Tryd.prog.underlying 200).isSome = true := by kernel_rfl
@[go_sem] theorem Tryd.zr200 : zro Tryd.prog 200 = some ([.int .i32 0]) := by kernel_rfl
@[go_sem] theorem Tryd.tk201 : tk Tryd.prog 201 = .int .i32 := by kernel_rfl
@[go_sem] theorem Tryd.sz201 : sz Tryd.prog 201 = some 1 := by kernel_rfl
@[go_sem] theorem Tryd.by201 : by' Tryd.prog 201 = some 4 := by kernel_rfl
@[go_sem] theorem Tryd.un201 : (Tryd.prog.underlying 201).isSome = true := by kernel_rfl
@[go_sem] theorem Tryd.zr201 : zro Tryd.prog 201 = some ([.int .i32 0]) := by kernel_rfl
@[go_sem] theorem Tryd.tk202 : tk Tryd.prog 202 = .struct [(0, 12), (1, 12), (2, 95), (3, 197), (4, 5), (5, 5), (6, 198), (7, 199), (8, 176), (9, 200), (10, 201)] := by kernel_rfl
@[go_sem] theorem Tryd.sz202 : sz Tryd.prog 202 = some 11 := by kernel_rfl
@[go_sem] theorem Tryd.by202 : by' Tryd.prog 202 = some 48 := by kernel_rfl
@[go_sem] theorem Tryd.zr202 : zro Tryd.prog 202 = some ([.int .u64 0, .int .u64 0, .int .u32 0, .int .u8 0, .int .u8 0, .int .u8 0, .int .u8 0, .nilFunc, .pointer none, .int .i32 0, .int .i32 0]) := by kernel_rfl
@[go_sem] theorem Tryd.tk203 : tk Tryd.prog 203 = .struct [(0, 12), (1, 12), (2, 95), (3, 197), (4, 5), (5, 5), (6, 198), (7, 199), (8, 176), (9, 200), (10, 201)] := by kernel_rfl
@[go_sem] theorem Tryd.sz203 : sz Tryd.prog 203 = some 11 := by kernel_rfl
@[go_sem] theorem Tryd.by203 : by' Tryd.prog 203 = some 48 := by kernel_rfl
@[go_sem] theorem Tryd.zr203 : zro Tryd.prog 203 = some ([.int .u64 0, .int .u64 0, .int .u32 0, .int .u8 0, .int .u8 0, .int .u8 0, .int .u8 0, .nilFunc, .pointer none, .int .i32 0, .int .i32 0]) := by kernel_rfl
@[go_sem] theorem Tryd.tk204 : tk Tryd.prog 204 = .other := by kernel_rfl
@[go_sem] theorem Tryd.sz204 : sz Tryd.prog 204 = some 1 := by kernel_rfl
@[go_sem] theorem Tryd.by204 : by' Tryd.prog 204 = some 8 := by kernel_rfl
@[go_sem] theorem Tryd.zr204 : zro Tryd.prog 204 = some ([.pointer none]) := by kernel_rfl
end Go.Proofs.YtlpcdpjkdodmcaaDoor
end

section
namespace Go.Proofs.YtlpcdpjkdodmcaaDoor
open Go Go.AL
set_option maxRecDepth 10000
def cls (b : Nat) : Int := if b = 32 ∨ (9 ≤ b ∧ b ≤ 13 ∧ b ≠ 11) then 1 else if b = 36 then 4 else if (48 ≤ b ∧ b ≤ 57) ∨ (65 ≤ b ∧ b ≤ 90) ∨ (97 ≤ b ∧ b ≤ 122) ∨ b = 45 ∨ b = 95 ∨ b = 46 then 2 else if 32 < b ∧ b ≤ 126 then 3 else 0
def clsAr : List IV := colF .u8 256 fun j => cls j
theorem tab_set (k : Nat) (v : Int) (hv : cls k = v) : (rowsF .u8 256 fun j => if j < k then cls j else 0).set k [.v (.int .u8 v)] = rowsF .u8 256 fun j => if j < k + 1 then cls j else 0 := by
  refine rowsF_set .u8 _ _ v fun j _ => ?_
  by_cases h : j = k
  · subst h; simp [hv]
  · by_cases h' : j < k
    · have : j < k + 1 := by omega
      simp [h, h', this]
    · have : ¬ j < k + 1 := by omega
      simp [h, h', this]
theorem tab_same (k : Nat) (hv : cls k = 0) : (rowsF .u8 256 fun j => if j < k then cls j else 0) = rowsF .u8 256 fun j => if j < k + 1 then cls j else 0 := by
  refine rowsF_congr .u8 _ _ fun j _ => ?_
  by_cases h : j = k
  · subst h; simp [hv]
  · by_cases h' : j < k
    · have : j < k + 1 := by omega
      simp [h', this]
    · have : ¬ j < k + 1 := by omega
      simp [h', this]
theorem classes_spec : PFn Tryd.prog 94 [] (.ar clsAr) := by
  refine ACall.walk [0, 1, 2, 3, 4, 8, 25, 30, 67] [0] Tryd.func94 rfl Tryd.ntmps94 (by kernel_rfl) (by rfl) rfl fun W own I0 φ0 lay => ?_
  repeat (first | refine xA ?_ | refine xB ?_ | refine xC ?_ | refine xE ?_ | refine xD ?_ | refine xK ?_ | refine xS ?_ | refine xM ?_ | refine xT ?_ | refine xF ?_ | ((first | refine xR ?_ | refine xW ?_ | refine vq_id ?_); simp only [go_sem, Nat.reduceAdd, Nat.reduceLeDiff, Nat.reduceSub, Int.reduceToNat, reduceCtorEq]) | (refine ⟨by first | omega | (intros; simp_all; done) | (intros; simp_all; omega), ?_⟩; try simp only [go_sem, Nat.reduceAdd, Nat.reduceLeDiff, Nat.reduceSub, Int.reduceToNat, reduceCtorEq]))
  refine AP.loop rfl (α := Nat) (fun k => [(0, .ob 0 0), (3, .im (.v (.int .i64 k)))]) (fun k => [(0, .vec 148 1 (rowsF .u8 256 fun j => if j < k then cls j else 0))]) (fun k => k ≤ 256) (fun k => 256 - k) 0 (by simp) (Sub.cons rfl (Sub.cons rfl (Sub.nil _))) (by simp) fun k hk => ?_
  have hw := wr (x := (k : Int) + 1) (by omega)
  repeat (first | refine xA ?_ | refine xB ?_ | refine xC ?_ | refine xE ?_ | refine xD ?_ | refine xK ?_ | refine xS ?_ | refine xM ?_ | refine xT ?_ | refine xF ?_ | ((first | refine xR ?_ | refine xW ?_ | refine vq_id ?_); simp only [go_sem, Nat.reduceAdd, Nat.reduceLeDiff, Nat.reduceSub, Int.reduceToNat, reduceCtorEq, hw]) | (refine ⟨by first | omega | (intros; simp_all; done) | (intros; simp_all; omega), ?_⟩; try simp only [go_sem, Nat.reduceAdd, Nat.reduceLeDiff, Nat.reduceSub, Int.reduceToNat, reduceCtorEq, hw]))
  refine AP.cond rfl rfl (fun hc => ?_) (fun hc => ?_)
  · have hk' : k < 256 := by simp at hc; omega
    have hu : IntKind.u8.wrap (k : Int) = k := by simp [IntKind.wrap, IntKind.bits, IntKind.signed]; omega
    have fin : ∀ v : Int, cls k = v → _ := fun v hv => congrArg (fun x => [(0, Ob.vec 148 1 x)]) (tab_set k v hv)
    repeat (first | refine xA ?_ | refine xB ?_ | refine xC ?_ | refine xE ?_ | refine xD ?_ | refine xK ?_ | refine xS ?_ | refine xM ?_ | refine xT ?_ | refine xF ?_ | ((first | refine xR ?_ | refine xW ?_ | refine vq_id ?_); simp only [go_sem, Nat.reduceAdd, Nat.reduceLeDiff, Nat.reduceSub, Int.reduceToNat, reduceCtorEq, hw, hu, rowsF_get .u8 _ hk']) | (refine ⟨by first | omega | (intros; simp_all; done) | (intros; simp_all; omega), ?_⟩; try simp only [go_sem, Nat.reduceAdd, Nat.reduceLeDiff, Nat.reduceSub, Int.reduceToNat, reduceCtorEq, hw, hu, rowsF_get .u8 _ hk']))
    refine AP.cond rfl rfl (fun h1 => ?_) (fun h1 => ?_)
    · repeat (first | refine xA ?_ | refine xB ?_ | refine xC ?_ | refine xE ?_ | refine xD ?_ | refine xK ?_ | refine xS ?_ | refine xM ?_ | refine xT ?_ | refine xF ?_ | ((first | refine xR ?_ | refine xW ?_ | refine vq_id ?_); simp only [go_sem, Nat.reduceAdd, Nat.reduceLeDiff, Nat.reduceSub, Int.reduceToNat, reduceCtorEq, hw, hu, rowsF_get .u8 _ hk']) | (refine ⟨by first | omega | (intros; simp_all; done) | (intros; simp_all; omega), ?_⟩; try simp only [go_sem, Nat.reduceAdd, Nat.reduceLeDiff, Nat.reduceSub, Int.reduceToNat, reduceCtorEq, hw, hu, rowsF_get .u8 _ hk']))
      exact AE.round (k + 1) (by omega) (by omega) (Sub.cons rfl (Sub.cons rfl (Sub.nil _))) (fin 1 (by simp at h1; unfold cls; grind))
    · repeat (first | refine xA ?_ | refine xB ?_ | refine xC ?_ | refine xE ?_ | refine xD ?_ | refine xK ?_ | refine xS ?_ | refine xM ?_ | refine xT ?_ | refine xF ?_ | ((first | refine xR ?_ | refine xW ?_ | refine vq_id ?_); simp only [go_sem, Nat.reduceAdd, Nat.reduceLeDiff, Nat.reduceSub, Int.reduceToNat, reduceCtorEq, hw, hu, rowsF_get .u8 _ hk']) | (refine ⟨by first | omega | (intros; simp_all; done) | (intros; simp_all; omega), ?_⟩; try simp only [go_sem, Nat.reduceAdd, Nat.reduceLeDiff, Nat.reduceSub, Int.reduceToNat, reduceCtorEq, hw, hu, rowsF_get .u8 _ hk']))
      refine AP.cond rfl rfl (fun h2 => ?_) (fun h2 => ?_)
      · repeat (first | refine xA ?_ | refine xB ?_ | refine xC ?_ | refine xE ?_ | refine xD ?_ | refine xK ?_ | refine xS ?_ | refine xM ?_ | refine xT ?_ | refine xF ?_ | ((first | refine xR ?_ | refine xW ?_ | refine vq_id ?_); simp only [go_sem, Nat.reduceAdd, Nat.reduceLeDiff, Nat.reduceSub, Int.reduceToNat, reduceCtorEq, hw, hu, rowsF_get .u8 _ hk']) | (refine ⟨by first | omega | (intros; simp_all; done) | (intros; simp_all; omega), ?_⟩; try simp only [go_sem, Nat.reduceAdd, Nat.reduceLeDiff, Nat.reduceSub, Int.reduceToNat, reduceCtorEq, hw, hu, rowsF_get .u8 _ hk']))
        exact AE.round (k + 1) (by omega) (by omega) (Sub.cons rfl (Sub.cons rfl (Sub.nil _))) (fin 4 (by simp at h1 h2; unfold cls; grind))
      · repeat (first | refine xA ?_ | refine xB ?_ | refine xC ?_ | refine xE ?_ | refine xD ?_ | refine xK ?_ | refine xS ?_ | refine xM ?_ | refine xT ?_ | refine xF ?_ | ((first | refine xR ?_ | refine xW ?_ | refine vq_id ?_); simp only [go_sem, Nat.reduceAdd, Nat.reduceLeDiff, Nat.reduceSub, Int.reduceToNat, reduceCtorEq, hw, hu, rowsF_get .u8 _ hk']) | (refine ⟨by first | omega | (intros; simp_all; done) | (intros; simp_all; omega), ?_⟩; try simp only [go_sem, Nat.reduceAdd, Nat.reduceLeDiff, Nat.reduceSub, Int.reduceToNat, reduceCtorEq, hw, hu, rowsF_get .u8 _ hk']))
        refine AP.cond rfl rfl (fun h3 => ?_) (fun h3 => ?_)
        · repeat (first | refine xA ?_ | refine xB ?_ | refine xC ?_ | refine xE ?_ | refine xD ?_ | refine xK ?_ | refine xS ?_ | refine xM ?_ | refine xT ?_ | refine xF ?_ | ((first | refine xR ?_ | refine xW ?_ | refine vq_id ?_); simp only [go_sem, Nat.reduceAdd, Nat.reduceLeDiff, Nat.reduceSub, Int.reduceToNat, reduceCtorEq, hw, hu, rowsF_get .u8 _ hk']) | (refine ⟨by first | omega | (intros; simp_all; done) | (intros; simp_all; omega), ?_⟩; try simp only [go_sem, Nat.reduceAdd, Nat.reduceLeDiff, Nat.reduceSub, Int.reduceToNat, reduceCtorEq, hw, hu, rowsF_get .u8 _ hk']))
          exact AE.round (k + 1) (by omega) (by omega) (Sub.cons rfl (Sub.cons rfl (Sub.nil _))) (fin 2 (by simp at h1 h2 h3; unfold cls; grind))
        · repeat (first | refine xA ?_ | refine xB ?_ | refine xC ?_ | refine xE ?_ | refine xD ?_ | refine xK ?_ | refine xS ?_ | refine xM ?_ | refine xT ?_ | refine xF ?_ | ((first | refine xR ?_ | refine xW ?_ | refine vq_id ?_); simp only [go_sem, Nat.reduceAdd, Nat.reduceLeDiff, Nat.reduceSub, Int.reduceToNat, reduceCtorEq, hw, hu, rowsF_get .u8 _ hk']) | (refine ⟨by first | omega | (intros; simp_all; done) | (intros; simp_all; omega), ?_⟩; try simp only [go_sem, Nat.reduceAdd, Nat.reduceLeDiff, Nat.reduceSub, Int.reduceToNat, reduceCtorEq, hw, hu, rowsF_get .u8 _ hk']))
          refine AP.cond rfl rfl (fun h4 => ?_) (fun h4 => ?_)
          · repeat (first | refine xA ?_ | refine xB ?_ | refine xC ?_ | refine xE ?_ | refine xD ?_ | refine xK ?_ | refine xS ?_ | refine xM ?_ | refine xT ?_ | refine xF ?_ | ((first | refine xR ?_ | refine xW ?_ | refine vq_id ?_); simp only [go_sem, Nat.reduceAdd, Nat.reduceLeDiff, Nat.reduceSub, Int.reduceToNat, reduceCtorEq, hw, hu, rowsF_get .u8 _ hk']) | (refine ⟨by first | omega | (intros; simp_all; done) | (intros; simp_all; omega), ?_⟩; try simp only [go_sem, Nat.reduceAdd, Nat.reduceLeDiff, Nat.reduceSub, Int.reduceToNat, reduceCtorEq, hw, hu, rowsF_get .u8 _ hk']))
            exact AE.round (k + 1) (by omega) (by omega) (Sub.cons rfl (Sub.cons rfl (Sub.nil _))) (fin 3 (by simp at h1 h2 h3 h4; unfold cls; grind))
          · repeat (first | refine xA ?_ | refine xB ?_ | refine xC ?_ | refine xE ?_ | refine xD ?_ | refine xK ?_ | refine xS ?_ | refine xM ?_ | refine xT ?_ | refine xF ?_ | ((first | refine xR ?_ | refine xW ?_ | refine vq_id ?_); simp only [go_sem, Nat.reduceAdd, Nat.reduceLeDiff, Nat.reduceSub, Int.reduceToNat, reduceCtorEq, hw, hu, rowsF_get .u8 _ hk']) | (refine ⟨by first | omega | (intros; simp_all; done) | (intros; simp_all; omega), ?_⟩; try simp only [go_sem, Nat.reduceAdd, Nat.reduceLeDiff, Nat.reduceSub, Int.reduceToNat, reduceCtorEq, hw, hu, rowsF_get .u8 _ hk']))
            exact AE.round (k + 1) (by omega) (by omega) (Sub.cons rfl (Sub.cons rfl (Sub.nil _))) (congrArg (fun x => [(0, Ob.vec 148 1 x)]) (tab_same k (by simp at h1 h2 h3 h4; unfold cls; grind)))
  · repeat (first | refine xA ?_ | refine xB ?_ | refine xC ?_ | refine xE ?_ | refine xD ?_ | refine xK ?_ | refine xS ?_ | refine xM ?_ | refine xT ?_ | refine xF ?_ | ((first | refine xR ?_ | refine xW ?_ | refine vq_id ?_); simp only [go_sem, Nat.reduceAdd, Nat.reduceLeDiff, Nat.reduceSub, Int.reduceToNat, reduceCtorEq]) | (refine ⟨by first | omega | (intros; simp_all; done) | (intros; simp_all; omega), ?_⟩; try simp only [go_sem, Nat.reduceAdd, Nat.reduceLeDiff, Nat.reduceSub, Int.reduceToNat, reduceCtorEq]))
    refine AE.ret0 rfl ⟨⟨rfl, by rw [rowsF_flat, colF_len]; kernel_rfl⟩, trivial⟩ rfl ⟨rfl, ?_⟩
    simp only [tupOf, rowsF_flat, clsAr]
    rw [colF_congr]
    intro j hj
    have : j < k := by simp at hc; omega
    simp [this]
end Go.Proofs.YtlpcdpjkdodmcaaDoor
end

section
namespace Go.Proofs.YtlpcdpjkdodmcaaDoor
open Go Go.AL
set_option maxRecDepth 10000
def rowsI (k : IntKind) (l : List Int) : List (List IV) := l.map fun x => [.v (.int k x)]
theorem rowsI_len (k : IntKind) (l : List Int) : (rowsI k l).length = l.length := by simp [rowsI]
theorem rowsI_get (k : IntKind) (l : List Int) (i : Nat) (h : i < l.length) : (rowsI k l).getD i [] = [.v (.int k (l.getD i 0))] := by simp [rowsI, List.getD_eq_getElem?_getD, h]
attribute [go_sem] rowsI_len
def idx (l : List Int) (x : Int) : Int := if x ∈ l then l.idxOf x else -1
theorem idx_at (l : List Int) (x : Int) (k : Nat) (h : x ∉ l.take k) (hk : k < l.length) (e : x = l.getD k 0) : idx l x = k := by
  have hm : x ∈ l := by rw [e, List.getD_eq_getElem?_getD, List.getElem?_eq_getElem hk]; simp
  unfold idx
  rw [if_pos hm]
  have h1 : l.idxOf x < l.length := List.idxOf_lt_length_of_mem hm
  have h2 : ¬ l.idxOf x < k := fun hlt => h (by
    rw [List.mem_take_iff_getElem]
    exact ⟨l.idxOf x, by omega, by simp⟩)
  have h3 : l.idxOf x ≤ k := by
    rw [List.getD_eq_getElem?_getD, List.getElem?_eq_getElem hk] at e
    simp at e
    rcases Nat.lt_or_ge k (l.idxOf x) with h' | h'
    · have := List.not_of_lt_findIdx h'
      simp [← e] at this
    · exact h'
  omega
theorem take_step (l : List Int) (x : Int) (k : Nat) (h : x ∉ l.take k) (hk : k < l.length) (e : ¬ x = l.getD k 0) : x ∉ l.take (k + 1) := by
  rw [List.take_add_one, List.getElem?_eq_getElem hk]
  intro hm
  rw [List.getD_eq_getElem?_getD, List.getElem?_eq_getElem hk] at e
  rcases List.mem_append.1 hm with hm | hm
  · exact h hm
  · simp at hm e; exact e hm
theorem index_spec (l : List Int) (x : Int) (hl : l.length ≤ 1000000000) : PFn Tryd.prog 104 [.im (.sl 1 (rowsI .u8 l)), .im (.v (.int .u8 x))] (Iv (idx l x)) := by
  refine ACall.walk [0, 1, 4, 5, 7, 8, 9, 16] [] Tryd.func104 rfl Tryd.ntmps104 (by kernel_rfl) (by rfl) rfl fun W own I0 φ0 lay => ?_
  repeat (first | refine xA ?_ | refine xB ?_ | refine xC ?_ | refine xE ?_ | refine xD ?_ | refine xK ?_ | refine xS ?_ | refine xM ?_ | refine xT ?_ | refine xF ?_ | ((first | refine xR ?_ | refine xW ?_ | refine vq_id ?_); simp only [go_sem, Nat.reduceAdd, Nat.reduceLeDiff, Nat.reduceSub, Int.reduceToNat, reduceCtorEq]) | (refine ⟨by first | omega | (intros; simp_all; done) | (intros; simp_all; omega), ?_⟩; try simp only [go_sem, Nat.reduceAdd, Nat.reduceLeDiff, Nat.reduceSub, Int.reduceToNat, reduceCtorEq]))
  refine AP.loop rfl (α := Nat) (fun k => [(0, .im (.sl 1 (rowsI .u8 l))), (1, .im (.v (.int .u8 x))), (7, Iv l.length), (8, Iv k)]) (fun k => []) (fun k => k ≤ l.length ∧ x ∉ l.take k) (fun k => l.length - k) 0 (by simp) (Sub.cons rfl (Sub.cons rfl (Sub.cons rfl (Sub.cons rfl (Sub.nil _))))) (by simp) fun k hk => ?_
  obtain ⟨hk, hx⟩ := hk
  have hw := wr (x := (k : Int) + 1) (by omega)
  repeat (first | refine xA ?_ | refine xB ?_ | refine xC ?_ | refine xE ?_ | refine xD ?_ | refine xK ?_ | refine xS ?_ | refine xM ?_ | refine xT ?_ | refine xF ?_ | ((first | refine xR ?_ | refine xW ?_ | refine vq_id ?_); simp only [go_sem, Nat.reduceAdd, Nat.reduceLeDiff, Nat.reduceSub, Int.reduceToNat, reduceCtorEq, hw]) | (refine ⟨by first | omega | (intros; simp_all; done) | (intros; simp_all; omega), ?_⟩; try simp only [go_sem, Nat.reduceAdd, Nat.reduceLeDiff, Nat.reduceSub, Int.reduceToNat, reduceCtorEq, hw]))
  refine AP.cond rfl rfl (fun hc => ?_) (fun hc => ?_)
  · have hk' : k < l.length := by simp at hc; omega
    repeat (first | refine xA ?_ | refine xB ?_ | refine xC ?_ | refine xE ?_ | refine xD ?_ | refine xK ?_ | refine xS ?_ | refine xM ?_ | refine xT ?_ | refine xF ?_ | ((first | refine xR ?_ | refine xW ?_ | refine vq_id ?_); simp only [go_sem, Nat.reduceAdd, Nat.reduceLeDiff, Nat.reduceSub, Int.reduceToNat, reduceCtorEq, hw, rowsI_get .u8 _ _ hk']) | (refine ⟨by first | omega | (intros; simp_all; done) | (intros; simp_all; omega), ?_⟩; try simp only [go_sem, Nat.reduceAdd, Nat.reduceLeDiff, Nat.reduceSub, Int.reduceToNat, reduceCtorEq, hw, rowsI_get .u8 _ _ hk']))
    refine AP.cond rfl rfl (fun h1 => ?_) (fun h1 => ?_)
    · repeat (first | refine xA ?_ | refine xB ?_ | refine xC ?_ | refine xE ?_ | refine xD ?_ | refine xK ?_ | refine xS ?_ | refine xM ?_ | refine xT ?_ | refine xF ?_ | ((first | refine xR ?_ | refine xW ?_ | refine vq_id ?_); simp only [go_sem, Nat.reduceAdd, Nat.reduceLeDiff, Nat.reduceSub, Int.reduceToNat, reduceCtorEq, hw]) | (refine ⟨by first | omega | (intros; simp_all; done) | (intros; simp_all; omega), ?_⟩; try simp only [go_sem, Nat.reduceAdd, Nat.reduceLeDiff, Nat.reduceSub, Int.reduceToNat, reduceCtorEq, hw]))
      exact AE.ret rfl ⟨rfl, trivial⟩ ⟨rfl, by rw [idx_at l x k hx hk' (by simpa using h1)]; rfl⟩
    · repeat (first | refine xA ?_ | refine xB ?_ | refine xC ?_ | refine xE ?_ | refine xD ?_ | refine xK ?_ | refine xS ?_ | refine xM ?_ | refine xT ?_ | refine xF ?_ | ((first | refine xR ?_ | refine xW ?_ | refine vq_id ?_); simp only [go_sem, Nat.reduceAdd, Nat.reduceLeDiff, Nat.reduceSub, Int.reduceToNat, reduceCtorEq, hw]) | (refine ⟨by first | omega | (intros; simp_all; done) | (intros; simp_all; omega), ?_⟩; try simp only [go_sem, Nat.reduceAdd, Nat.reduceLeDiff, Nat.reduceSub, Int.reduceToNat, reduceCtorEq, hw]))
      exact AE.round (k + 1) ⟨by omega, take_step l x k hx hk' (by simpa using h1)⟩ (by omega) (Sub.cons rfl (Sub.cons rfl (Sub.cons rfl (Sub.cons rfl (Sub.nil _))))) rfl
  · repeat (first | refine xA ?_ | refine xB ?_ | refine xC ?_ | refine xE ?_ | refine xD ?_ | refine xK ?_ | refine xS ?_ | refine xM ?_ | refine xT ?_ | refine xF ?_ | ((first | refine xR ?_ | refine xW ?_ | refine vq_id ?_); simp only [go_sem, Nat.reduceAdd, Nat.reduceLeDiff, Nat.reduceSub, Int.reduceToNat, reduceCtorEq]) | (refine ⟨by first | omega | (intros; simp_all; done) | (intros; simp_all; omega), ?_⟩; try simp only [go_sem, Nat.reduceAdd, Nat.reduceLeDiff, Nat.reduceSub, Int.reduceToNat, reduceCtorEq]))
    refine AE.ret rfl ⟨rfl, trivial⟩ ⟨rfl, ?_⟩
    have : ¬ x ∈ l := by
      have hk' : k = l.length := by simp at hc; omega
      rw [hk', List.take_length] at hx; exact hx
    simp [idx, this, tupOf, AV.st]
theorem contains_spec (l : List Int) (x : Int) (hl : l.length ≤ 1000000000) : PFn Tryd.prog 95 [.im (.sl 1 (rowsI .u8 l)), .im (.v (.int .u8 x))] (Bv (decide (x ∈ l))) := by
  refine ACall.walk [0, 1, 4] [] Tryd.func95 rfl Tryd.ntmps95 (by kernel_rfl) (by rfl) rfl fun W own I0 φ0 lay => ?_
  repeat (first | refine xA ?_ | refine xB ?_ | refine xC ?_ | refine xE ?_ | refine xD ?_ | refine xK ?_ | refine xS ?_ | refine xM ?_ | refine xT ?_ | refine xF ?_ | ((first | refine xR ?_ | refine xW ?_ | refine vq_id ?_); simp only [go_sem, Nat.reduceAdd, Nat.reduceLeDiff, Nat.reduceSub, Int.reduceToNat, reduceCtorEq]) | (refine ⟨by first | omega | (intros; simp_all; done) | (intros; simp_all; omega), ?_⟩; try simp only [go_sem, Nat.reduceAdd, Nat.reduceLeDiff, Nat.reduceSub, Int.reduceToNat, reduceCtorEq]))
  refine AQ.fn (by kernel_rfl) rfl rfl rfl (index_spec l x hl) rfl ?_
  repeat (first | refine xA ?_ | refine xB ?_ | refine xC ?_ | refine xE ?_ | refine xD ?_ | refine xK ?_ | refine xS ?_ | refine xM ?_ | refine xT ?_ | refine xF ?_ | ((first | refine xR ?_ | refine xW ?_ | refine vq_id ?_); simp only [go_sem, Nat.reduceAdd, Nat.reduceLeDiff, Nat.reduceSub, Int.reduceToNat, reduceCtorEq]) | (refine ⟨by first | omega | (intros; simp_all; done) | (intros; simp_all; omega), ?_⟩; try simp only [go_sem, Nat.reduceAdd, Nat.reduceLeDiff, Nat.reduceSub, Int.reduceToNat, reduceCtorEq]))
  refine AE.ret rfl ⟨rfl, trivial⟩ ⟨rfl, ?_⟩
  simp only [tupOf, idx]
  split
  · simp [*, AV.st]
  · simp [*, AV.st]
end Go.Proofs.YtlpcdpjkdodmcaaDoor
end

section
namespace Go.Proofs.YtlpcdpjkdodmcaaDoor
open Go Go.AL Go.RowKit
set_option maxRecDepth 10000
def tabRows : List (List IV) := rowsF .u8 256 fun j => cls j
theorem tab_get (b : UInt8) : tabRows.getD b.toNat [] = [.v (.int .u8 (cls b.toNat))] := rowsF_get .u8 _ b.toNat_lt
theorem cls_map : clsAr.map (fun c => [c]) = tabRows := colF_rows _ _ _
theorem tabRows_len : tabRows.length = 256 := rowsF_len _ _ _
theorem clsAr_len : clsAr.length = 256 := colF_len _ _ _
attribute [go_sem] tab_get tabRows_len clsAr_len cls_map
theorem all_step (t : List UInt8) (p : UInt8 → Bool) (k : Nat) (hk : k < t.length) (h : (t.take k).all p = true) (h' : p (t.getD k 0) = true) : (t.take (k + 1)).all p = true := by
  rw [List.take_add_one, List.getElem?_eq_getElem hk, List.all_append, h]
  rw [List.getD_eq_getElem?_getD, List.getElem?_eq_getElem hk] at h'
  simpa using h'
theorem all_no (t : List UInt8) (p : UInt8 → Bool) (k : Nat) (hk : k < t.length) (h' : p (t.getD k 0) = false) : t.all p = false := by
  rw [List.getD_eq_getElem?_getD, List.getElem?_eq_getElem hk] at h'
  rw [List.all_eq_false]
  exact ⟨t[k], List.getElem_mem hk, by simpa using h'⟩
def onlyOk (t : List UInt8) (l : List Int) : Bool := !(t == []) && decide (t.length ≤ 60) && t.all fun b => decide (cls b.toNat ∈ l)
theorem only_spec (t : List UInt8) (l : List Int) (hl : l.length ≤ 1000000000) (ht : t.length ≤ 1000000000000) : PFn Tryd.prog 82 [Sv t, .im (.sl 1 (rowsI .u8 l))] (Bv (onlyOk t l)) := by
  refine ACall.walk [0, 1, 4, 5, 6, 13, 16, 17, 18, 27] [5] Tryd.func82 rfl Tryd.ntmps82 (by kernel_rfl) (by rfl) rfl fun W own I0 φ0 lay => ?_
  repeat (first | refine xA ?_ | refine xB ?_ | refine xC ?_ | refine xE ?_ | refine xD ?_ | refine xK ?_ | refine xS ?_ | refine xM ?_ | refine xT ?_ | refine xF ?_ | ((first | refine xR ?_ | refine xW ?_ | refine vq_id ?_); simp only [go_sem, Nat.reduceAdd, Nat.reduceLeDiff, Nat.reduceSub, Int.reduceToNat, reduceCtorEq]) | (refine ⟨by first | omega | (intros; simp_all; done) | (intros; simp_all; omega), ?_⟩; try simp only [go_sem, Nat.reduceAdd, Nat.reduceLeDiff, Nat.reduceSub, Int.reduceToNat, reduceCtorEq]))
  refine AP.cond rfl rfl (fun h1 => ?_) (fun h1 => ?_)
  · repeat (first | refine xA ?_ | refine xB ?_ | refine xC ?_ | refine xE ?_ | refine xD ?_ | refine xK ?_ | refine xS ?_ | refine xM ?_ | refine xT ?_ | refine xF ?_ | ((first | refine xR ?_ | refine xW ?_ | refine vq_id ?_); simp only [go_sem, Nat.reduceAdd, Nat.reduceLeDiff, Nat.reduceSub, Int.reduceToNat, reduceCtorEq]) | (refine ⟨by first | omega | (intros; simp_all; done) | (intros; simp_all; omega), ?_⟩; try simp only [go_sem, Nat.reduceAdd, Nat.reduceLeDiff, Nat.reduceSub, Int.reduceToNat, reduceCtorEq]))
    refine AE.ret rfl ⟨rfl, trivial⟩ ⟨rfl, ?_⟩
    have : onlyOk t l = false := by
      simp only [onlyOk, Bool.or_eq_true, decide_eq_true_eq] at h1 ⊢
      rcases h1 with h1 | h1
      · simp [h1]
      · have : ¬ t.length ≤ 60 := by omega
        simp [this]
    rw [this]; rfl
  · have ha : (t == []) = false ∧ t.length ≤ 60 := by simp at h1 ⊢; exact ⟨h1.1, by omega⟩
    repeat (first | refine xA ?_ | refine xB ?_ | refine xC ?_ | refine xE ?_ | refine xD ?_ | refine xK ?_ | refine xS ?_ | refine xM ?_ | refine xT ?_ | refine xF ?_ | ((first | refine xR ?_ | refine xW ?_ | refine vq_id ?_); simp only [go_sem, Nat.reduceAdd, Nat.reduceLeDiff, Nat.reduceSub, Int.reduceToNat, reduceCtorEq]) | (refine ⟨by first | omega | (intros; simp_all; done) | (intros; simp_all; omega), ?_⟩; try simp only [go_sem, Nat.reduceAdd, Nat.reduceLeDiff, Nat.reduceSub, Int.reduceToNat, reduceCtorEq]))
    refine AQ.fn (by kernel_rfl) rfl rfl rfl classes_spec rfl ?_
    repeat (first | refine xA ?_ | refine xB ?_ | refine xC ?_ | refine xE ?_ | refine xD ?_ | refine xK ?_ | refine xS ?_ | refine xM ?_ | refine xT ?_ | refine xF ?_ | ((first | refine xR ?_ | refine xW ?_ | refine vq_id ?_); simp only [go_sem, Nat.reduceAdd, Nat.reduceLeDiff, Nat.reduceSub, Int.reduceToNat, reduceCtorEq]) | (refine ⟨by first | omega | (intros; simp_all; done) | (intros; simp_all; omega), ?_⟩; try simp only [go_sem, Nat.reduceAdd, Nat.reduceLeDiff, Nat.reduceSub, Int.reduceToNat, reduceCtorEq]))
    refine AP.loop rfl (α := Nat) (fun k => [(0, Sv t), (1, .im (.sl 1 (rowsI .u8 l))), (5, .ob 0 0), (16, Iv t.length), (17, Iv k)]) (fun k => [(0, .vec 148 1 tabRows)]) (fun k => k ≤ t.length ∧ ((t.take k).all fun b => decide (cls b.toNat ∈ l)) = true) (fun k => t.length - k) 0 (by simp) (Sub.cons rfl (Sub.cons rfl (Sub.cons rfl (Sub.cons rfl (Sub.cons rfl (Sub.nil _)))))) (by simp) fun k hk => ?_
    obtain ⟨hk, hx⟩ := hk
    have hw := wr (x := (k : Int) + 1) (by omega)
    repeat (first | refine xA ?_ | refine xB ?_ | refine xC ?_ | refine xE ?_ | refine xD ?_ | refine xK ?_ | refine xS ?_ | refine xM ?_ | refine xT ?_ | refine xF ?_ | ((first | refine xR ?_ | refine xW ?_ | refine vq_id ?_); simp only [go_sem, Nat.reduceAdd, Nat.reduceLeDiff, Nat.reduceSub, Int.reduceToNat, reduceCtorEq, hw]) | (refine ⟨by first | omega | (intros; simp_all; done) | (intros; simp_all; omega), ?_⟩; try simp only [go_sem, Nat.reduceAdd, Nat.reduceLeDiff, Nat.reduceSub, Int.reduceToNat, reduceCtorEq, hw]))
    refine AP.cond rfl rfl (fun hc => ?_) (fun hc => ?_)
    · have hk' : k < t.length := by simp at hc; omega
      have hb := (t.getD k 0).toNat_lt
      repeat (first | refine xA ?_ | refine xB ?_ | refine xC ?_ | refine xE ?_ | refine xD ?_ | refine xK ?_ | refine xS ?_ | refine xM ?_ | refine xT ?_ | refine xF ?_ | ((first | refine xR ?_ | refine xW ?_ | refine vq_id ?_); simp only [go_sem, Nat.reduceAdd, Nat.reduceLeDiff, Nat.reduceSub, Int.reduceToNat, reduceCtorEq, hw]) | (refine ⟨by first | omega | (intros; simp_all; done) | (intros; simp_all; omega), ?_⟩; try simp only [go_sem, Nat.reduceAdd, Nat.reduceLeDiff, Nat.reduceSub, Int.reduceToNat, reduceCtorEq, hw]))
      refine AQ.fn (by kernel_rfl) rfl rfl rfl (contains_spec l (cls (t.getD k 0).toNat) hl) rfl ?_
      repeat (first | refine xA ?_ | refine xB ?_ | refine xC ?_ | refine xE ?_ | refine xD ?_ | refine xK ?_ | refine xS ?_ | refine xM ?_ | refine xT ?_ | refine xF ?_ | ((first | refine xR ?_ | refine xW ?_ | refine vq_id ?_); simp only [go_sem, Nat.reduceAdd, Nat.reduceLeDiff, Nat.reduceSub, Int.reduceToNat, reduceCtorEq, hw]) | (refine ⟨by first | omega | (intros; simp_all; done) | (intros; simp_all; omega), ?_⟩; try simp only [go_sem, Nat.reduceAdd, Nat.reduceLeDiff, Nat.reduceSub, Int.reduceToNat, reduceCtorEq, hw]))
      refine AP.cond rfl rfl (fun h2 => ?_) (fun h2 => ?_)
      · repeat (first | refine xA ?_ | refine xB ?_ | refine xC ?_ | refine xE ?_ | refine xD ?_ | refine xK ?_ | refine xS ?_ | refine xM ?_ | refine xT ?_ | refine xF ?_ | ((first | refine xR ?_ | refine xW ?_ | refine vq_id ?_); simp only [go_sem, Nat.reduceAdd, Nat.reduceLeDiff, Nat.reduceSub, Int.reduceToNat, reduceCtorEq, hw]) | (refine ⟨by first | omega | (intros; simp_all; done) | (intros; simp_all; omega), ?_⟩; try simp only [go_sem, Nat.reduceAdd, Nat.reduceLeDiff, Nat.reduceSub, Int.reduceToNat, reduceCtorEq, hw]))
        refine AE.ret0 rfl ⟨rfl, trivial⟩ rfl ⟨rfl, ?_⟩
        have : onlyOk t l = false := by
          rw [onlyOk, all_no t _ k hk' (by simpa using h2)]; simp
        rw [this]; rfl
      · repeat (first | refine xA ?_ | refine xB ?_ | refine xC ?_ | refine xE ?_ | refine xD ?_ | refine xK ?_ | refine xS ?_ | refine xM ?_ | refine xT ?_ | refine xF ?_ | ((first | refine xR ?_ | refine xW ?_ | refine vq_id ?_); simp only [go_sem, Nat.reduceAdd, Nat.reduceLeDiff, Nat.reduceSub, Int.reduceToNat, reduceCtorEq, hw]) | (refine ⟨by first | omega | (intros; simp_all; done) | (intros; simp_all; omega), ?_⟩; try simp only [go_sem, Nat.reduceAdd, Nat.reduceLeDiff, Nat.reduceSub, Int.reduceToNat, reduceCtorEq, hw]))
        exact AE.round (k + 1) ⟨by omega, all_step t _ k hk' hx (by simpa using h2)⟩ (by omega) (Sub.cons rfl (Sub.cons rfl (Sub.cons rfl (Sub.cons rfl (Sub.cons rfl (Sub.nil _)))))) rfl
    · repeat (first | refine xA ?_ | refine xB ?_ | refine xC ?_ | refine xE ?_ | refine xD ?_ | refine xK ?_ | refine xS ?_ | refine xM ?_ | refine xT ?_ | refine xF ?_ | ((first | refine xR ?_ | refine xW ?_ | refine vq_id ?_); simp only [go_sem, Nat.reduceAdd, Nat.reduceLeDiff, Nat.reduceSub, Int.reduceToNat, reduceCtorEq, hw]) | (refine ⟨by first | omega | (intros; simp_all; done) | (intros; simp_all; omega), ?_⟩; try simp only [go_sem, Nat.reduceAdd, Nat.reduceLeDiff, Nat.reduceSub, Int.reduceToNat, reduceCtorEq, hw]))
      refine AE.ret0 rfl ⟨rfl, trivial⟩ rfl ⟨rfl, ?_⟩
      have hk' : k = t.length := by simp at hc; omega
      rw [hk', List.take_length] at hx
      have : onlyOk t l = true := by rw [onlyOk, hx]; simp [ha]
      rw [this]; rfl
theorem isLabel_spec (t : List UInt8) (ht : t.length ≤ 1000000000000) : PFn Tryd.prog 62 [Sv t] (Bv (onlyOk t [2])) := by
  refine ACall.walk [0, 2] [] Tryd.func62 rfl Tryd.ntmps62 (by kernel_rfl) (by rfl) rfl fun W own I0 φ0 lay => ?_
  repeat (first | refine xA ?_ | refine xB ?_ | refine xC ?_ | refine xE ?_ | refine xD ?_ | refine xK ?_ | refine xS ?_ | refine xM ?_ | refine xT ?_ | refine xF ?_ | ((first | refine xR ?_ | refine xW ?_ | refine vq_id ?_); simp only [go_sem, Nat.reduceAdd, Nat.reduceLeDiff, Nat.reduceSub, Int.reduceToNat, reduceCtorEq]) | (refine ⟨by first | omega | (intros; simp_all; done) | (intros; simp_all; omega), ?_⟩; try simp only [go_sem, Nat.reduceAdd, Nat.reduceLeDiff, Nat.reduceSub, Int.reduceToNat, reduceCtorEq]))
  refine AQ.fn (by kernel_rfl) rfl rfl rfl (only_spec t [2] (by simp) ht) rfl ?_
  repeat (first | refine xA ?_ | refine xB ?_ | refine xC ?_ | refine xE ?_ | refine xD ?_ | refine xK ?_ | refine xS ?_ | refine xM ?_ | refine xT ?_ | refine xF ?_ | ((first | refine xR ?_ | refine xW ?_ | refine vq_id ?_); simp only [go_sem, Nat.reduceAdd, Nat.reduceLeDiff, Nat.reduceSub, Int.reduceToNat, reduceCtorEq]) | (refine ⟨by first | omega | (intros; simp_all; done) | (intros; simp_all; omega), ?_⟩; try simp only [go_sem, Nat.reduceAdd, Nat.reduceLeDiff, Nat.reduceSub, Int.reduceToNat, reduceCtorEq]))
  exact AE.ret rfl ⟨rfl, trivial⟩ ⟨rfl, rfl⟩
end Go.Proofs.YtlpcdpjkdodmcaaDoor
end

section
namespace Go.Proofs.YtlpcdpjkdodmcaaDoor
open Go Go.AL Go.RowKit
set_option maxRecDepth 10000
set_option maxHeartbeats 4000000
def sp (b : UInt8) : Bool := cls b.toNat == 1
theorem isSymbol_spec (t : List UInt8) (ht : t.length ≤ 1000000000000) : PFn Tryd.prog 61 [Sv t] (Bv (onlyOk t [2, 3])) := by
  refine ACall.walk [0, 2] [] Tryd.func61 rfl Tryd.ntmps61 (by kernel_rfl) (by rfl) rfl fun W own I0 φ0 lay => ?_
  repeat (first | refine xA ?_ | refine xB ?_ | refine xC ?_ | refine xE ?_ | refine xD ?_ | refine xK ?_ | refine xS ?_ | refine xM ?_ | refine xT ?_ | refine xF ?_ | ((first | refine xR ?_ | refine xW ?_ | refine vq_id ?_); simp only [go_sem, Nat.reduceAdd, Nat.reduceLeDiff, Nat.reduceSub, Int.reduceToNat, reduceCtorEq]) | (refine ⟨by first | omega | (intros; simp_all; done) | (intros; simp_all; omega), ?_⟩; try simp only [go_sem, Nat.reduceAdd, Nat.reduceLeDiff, Nat.reduceSub, Int.reduceToNat, reduceCtorEq]))
  refine AQ.fn (by kernel_rfl) rfl rfl rfl (only_spec t [2, 3] (by simp) ht) rfl ?_
  repeat (first | refine xA ?_ | refine xB ?_ | refine xC ?_ | refine xE ?_ | refine xD ?_ | refine xK ?_ | refine xS ?_ | refine xM ?_ | refine xT ?_ | refine xF ?_ | ((first | refine xR ?_ | refine xW ?_ | refine vq_id ?_); simp only [go_sem, Nat.reduceAdd, Nat.reduceLeDiff, Nat.reduceSub, Int.reduceToNat, reduceCtorEq]) | (refine ⟨by first | omega | (intros; simp_all; done) | (intros; simp_all; omega), ?_⟩; try simp only [go_sem, Nat.reduceAdd, Nat.reduceLeDiff, Nat.reduceSub, Int.reduceToNat, reduceCtorEq]))
  exact AE.ret rfl ⟨rfl, trivial⟩ ⟨rfl, rfl⟩
end Go.Proofs.YtlpcdpjkdodmcaaDoor
end

section
namespace Go.Proofs.YtlpcdpjkdodmcaaDoor
open Go Go.AL Go.RowKit
set_option maxRecDepth 10000
set_option maxHeartbeats 4000000
def adStep (s : Nat × Nat) (x : UInt8) : Nat × Nat := ((s.1 + x.toNat) % 65521, (s.2 + (s.1 + x.toNat) % 65521) % 65521)
def ad (l : List UInt8) : Nat × Nat := l.foldl adStep (1, 0)
def adSum (l : List UInt8) : Nat := (ad l).2 * 65536 + (ad l).1
theorem ad_step (l : List UInt8) (k : Nat) (hk : k < l.length) : ad (l.take (k + 1)) = adStep (ad (l.take k)) (l.getD k 0) := by
  rw [List.take_add_one, List.getElem?_eq_getElem hk, ad, List.foldl_append, List.getD_eq_getElem?_getD, List.getElem?_eq_getElem hk]
  rfl
theorem ad_lt (l : List UInt8) : (ad l).1 < 65521 ∧ (ad l).2 < 65521 := by
  rcases List.eq_nil_or_concat l with rfl | ⟨r, x, rfl⟩
  · exact ⟨by decide, by decide⟩
  · rw [List.concat_eq_append, ad, List.foldl_append]
    exact ⟨Nat.mod_lt _ (by decide), Nat.mod_lt _ (by decide)⟩
end Go.Proofs.YtlpcdpjkdodmcaaDoor
end

section
namespace Go.Proofs.YtlpcdpjkdodmcaaDoor
open Go Go.AL Go.RowKit
set_option maxRecDepth 10000
set_option maxHeartbeats 4000000
def be4 (n : Nat) : List UInt8 := [UInt8.ofNat (n / 16777216), UInt8.ofNat (n / 65536), UInt8.ofNat (n / 256), UInt8.ofNat n]
theorem u8w (m : Nat) : IntKind.u8.wrap (m : Int) = ((UInt8.ofNat m).toNat : Int) := by
  simp only [IntKind.wrap, IntKind.bits, IntKind.signed, UInt8.toNat_ofNat']
  simp
theorem fd (n : Nat) (k : Nat) : (n : Int).fdiv ((2 : Int) ^ k) = ((n / 2 ^ k : Nat) : Int) := by
  rw [Int.fdiv_eq_ediv_of_nonneg _ (by exact_mod_cast Nat.zero_le _)]
  norm_cast
end Go.Proofs.YtlpcdpjkdodmcaaDoor
end

section
namespace Go.Proofs.YtlpcdpjkdodmcaaDoor
open Go Go.AL Go.RowKit
set_option maxRecDepth 10000
set_option maxHeartbeats 4000000
end Go.Proofs.YtlpcdpjkdodmcaaDoor
end

section
namespace Go.Proofs.YtlpcdpjkdodmcaaDoor
open Go Go.AL Go.RowKit
set_option maxRecDepth 10000
set_option maxHeartbeats 4000000
theorem or_u32 (x y k : Nat) (hx : x < 2 ^ k) (hb : y * 2 ^ k + x < 4294967296) : bOr .u32 ((y * 2 ^ k : Nat) : Int) (x : Int) = ((y * 2 ^ k + x : Nat) : Int) := by
  show IntKind.u32.wrap ((BitVec.ofInt 32 ((y * 2 ^ k : Nat) : Int) ||| BitVec.ofInt 32 (x : Int)).toNat : Int) = _
  have e1 : (BitVec.ofInt 32 (x : Int)).toNat = x := by
    rw [BitVec.ofInt_natCast, BitVec.toNat_ofNat]
    exact Nat.mod_eq_of_lt (by omega)
  have e2 : (BitVec.ofInt 32 ((y * 2 ^ k : Nat) : Int)).toNat = y * 2 ^ k := by
    rw [BitVec.ofInt_natCast, BitVec.toNat_ofNat]
    exact Nat.mod_eq_of_lt (by omega)
  have e3 : y * 2 ^ k ||| x = y * 2 ^ k + x := by
    rw [← Nat.shiftLeft_eq, ← Nat.shiftLeft_add_eq_or_of_lt hx]
  rw [BitVec.toNat_or, e1, e2, e3]
  simp only [IntKind.wrap, IntKind.bits, IntKind.signed, Bool.false_and, Bool.false_eq_true, if_false]
  omega
theorem u32w (n : Nat) (h : n < 4294967296) : IntKind.u32.wrap (n : Int) = (n : Int) := by
  simp only [IntKind.wrap, IntKind.bits, IntKind.signed, Bool.false_and, Bool.false_eq_true, if_false]
  omega
abbrev A4 (n : Nat) : List IV := (be4 n).map fun x => .v (.int .u8 x.toNat)
theorem bytesOf_spec (n : Nat) (hn : n < 4294967296) : PFn Tryd.prog 35 [.im (.v (.int .u32 n))] (.ar (A4 n)) := by
  refine ACall.walk [0, 2] [2] Tryd.func35 rfl Tryd.ntmps35 (by kernel_rfl) (by rfl) rfl fun W own I0 φ0 lay => ?_
  have h1 := fd n (min 24 32)
  have h2 := fd n (min 16 32)
  have h3 := fd n (min 8 32)
  have w1 := u8w (n / 2 ^ min 24 32)
  have w2 := u8w (n / 2 ^ min 16 32)
  have w3 := u8w (n / 2 ^ min 8 32)
  have w4 := u8w n
  repeat (first | refine xA ?_ | refine xB ?_ | refine xC ?_ | refine xE ?_ | refine xD ?_ | refine xK ?_ | refine xS ?_ | refine xM ?_ | refine xT ?_ | refine xF ?_ | ((first | refine xR ?_ | refine xW ?_ | refine vq_id ?_); simp only [go_sem, Nat.reduceAdd, Nat.reduceLeDiff, Nat.reduceSub, Int.reduceToNat, reduceCtorEq, h1, h2, h3, w1, w2, w3, w4, Nat.reduceMul, List.set_cons_zero, List.set_cons_succ, List.map_cons, List.map_nil, List.length_cons, List.length_nil, List.flatten_cons, List.flatten_nil, List.cons_append, List.nil_append]) | (refine ⟨by first | omega | (intros; simp_all; done) | (intros; simp_all; omega), ?_⟩; try simp only [go_sem, Nat.reduceAdd, Nat.reduceLeDiff, Nat.reduceSub, Int.reduceToNat, reduceCtorEq, h1, h2, h3, w1, w2, w3, w4, Nat.reduceMul, List.set_cons_zero, List.set_cons_succ, List.map_cons, List.map_nil, List.length_cons, List.length_nil, List.flatten_cons, List.flatten_nil, List.cons_append, List.nil_append]))
  exact AE.ret0 rfl ⟨⟨rfl, rfl⟩, trivial⟩ rfl ⟨rfl, rfl⟩
abbrev P2 (s : Nat × Nat) : List IV := [.v (.int .u32 s.1), .v (.int .u32 s.2)]
theorem step_spec (s : Nat × Nat) (x : UInt8) (h1 : s.1 < 65521) (h2 : s.2 < 65521) : PFn Tryd.prog 68 [.agg [.im (.v (.int .u32 s.1)), .im (.v (.int .u32 s.2))], .im (.v (.int .u8 x.toNat))] (.ar (P2 (adStep s x))) := by
  have hb := x.toNat_lt
  obtain ⟨A, B⟩ := s
  simp only at h1 h2
  have e1 := u32w x.toNat (by omega)
  have e2 : IntKind.u32.wrap ((A : Int) + (x.toNat : Int)) = ((A + x.toNat : Nat) : Int) := by rw [← Int.natCast_add]; exact u32w (A + x.toNat) (by omega)
  have m1 : (((A + x.toNat : Nat) : Int)).tmod 65521 = ((A + x.toNat) % 65521 : Nat) := by rw [Int.tmod_eq_emod_of_nonneg (by omega)]; omega
  obtain ⟨A2, hA2⟩ : ∃ A2, (A + x.toNat) % 65521 = A2 := ⟨_, rfl⟩
  have h3 : A2 < 65521 := by omega
  rw [hA2] at m1
  have e5 : IntKind.u32.wrap ((B : Int) + (A2 : Int)) = ((B + A2 : Nat) : Int) := by rw [← Int.natCast_add]; exact u32w (B + A2) (by omega)
  have m2 : (((B + A2 : Nat) : Int)).tmod 65521 = ((B + A2) % 65521 : Nat) := by rw [Int.tmod_eq_emod_of_nonneg (by omega)]; omega
  refine ACall.walk [0, 1, 2, 4, 5] [4] Tryd.func68 rfl Tryd.ntmps68 (by kernel_rfl) (by rfl) rfl fun W own I0 φ0 lay => ?_
  repeat (first | refine xA ?_ | refine xB ?_ | refine xC ?_ | refine xE ?_ | refine xD ?_ | refine xK ?_ | refine xS ?_ | refine xM ?_ | refine xT ?_ | refine xF ?_ | ((first | refine xR ?_ | refine xW ?_ | refine vq_id ?_); simp only [go_sem, Nat.reduceAdd, Nat.reduceLeDiff, Nat.reduceSub, Int.reduceToNat, reduceCtorEq, P2, List.getD_cons_zero, List.getD_cons_succ, List.drop_succ_cons, List.drop_zero, List.take_succ_cons, List.take_zero, e1, e2, m1, e5, m2, Nat.reduceMul, List.set_cons_zero, List.set_cons_succ, List.map_cons, List.map_nil, List.length_cons, List.length_nil, List.flatten_cons, List.flatten_nil, List.cons_append, List.nil_append]) | (refine ⟨by first | omega | (intros; simp_all; done) | (intros; simp_all; omega), ?_⟩; try simp only [go_sem, Nat.reduceAdd, Nat.reduceLeDiff, Nat.reduceSub, Int.reduceToNat, reduceCtorEq, P2, List.getD_cons_zero, List.getD_cons_succ, List.drop_succ_cons, List.drop_zero, List.take_succ_cons, List.take_zero, e1, e2, m1, e5, m2, Nat.reduceMul, List.set_cons_zero, List.set_cons_succ, List.map_cons, List.map_nil, List.length_cons, List.length_nil, List.flatten_cons, List.flatten_nil, List.cons_append, List.nil_append]))
  refine AE.ret0 rfl ⟨⟨rfl, rfl⟩, trivial⟩ rfl ⟨rfl, ?_⟩
  simp only [tupOf, AV.st, adStep, hA2, P2]
  rfl
end Go.Proofs.YtlpcdpjkdodmcaaDoor
end

section
namespace Go.Proofs.YtlpcdpjkdodmcaaDoor
open Go Go.AL Go.RowKit
set_option maxRecDepth 10000
set_option maxHeartbeats 4000000
abbrev G2 (s : Nat × Nat) : List AV := [.im (.v (.int .u32 s.1)), .im (.v (.int .u32 s.2))]
theorem fold_spec (l : List UInt8) (hl : l.length ≤ 1000000000) : PFn Tryd.prog 67 [.im (.sl 1 (byteR l)), .agg (G2 (1, 0)), .fn 68 [] []] (.ar (P2 (ad l))) := by
  refine ACall.walk [0, 1, 2, 4, 6, 8, 9, 10, 11, 12] [4, 6] Tryd.func67 rfl Tryd.ntmps67 (by kernel_rfl) (by rfl) rfl fun W own I0 φ0 lay => ?_
  repeat (first | refine xA ?_ | refine xB ?_ | refine xC ?_ | refine xE ?_ | refine xD ?_ | refine xK ?_ | refine xS ?_ | refine xM ?_ | refine xT ?_ | refine xF ?_ | ((first | refine xR ?_ | refine xW ?_ | refine vq_id ?_); simp only [go_sem, Nat.reduceAdd, Nat.reduceLeDiff, Nat.reduceSub, Int.reduceToNat, reduceCtorEq, G2]) | (refine ⟨by first | omega | (intros; simp_all; done) | (intros; simp_all; omega), ?_⟩; try simp only [go_sem, Nat.reduceAdd, Nat.reduceLeDiff, Nat.reduceSub, Int.reduceToNat, reduceCtorEq, G2]))
  refine AP.loop rfl (α := Nat) (fun k => [(2, .fn 68 [] []), (4, .ob 0 0), (6, .ob 1 0), (9, .im (.sl 1 (byteR l))), (10, Iv l.length), (11, Iv k)]) (fun k => [(1, .vec 123 1 [[.v (.int .u32 0)], [.v (.int .u32 0)]]), (0, .var 123 (G2 (ad (l.take k))))]) (fun k => k ≤ l.length) (fun k => l.length - k) 0 (by simp) (by rw [← byteR_len]; exact (by repeat (first | exact Sub.nil _ | refine Sub.cons rfl ?_))) rfl fun k hk => ?_
  have hw := wr (x := (k : Int) + 1) (by omega)
  obtain ⟨h1, h2⟩ := ad_lt (l.take k)
  repeat (first | refine xA ?_ | refine xB ?_ | refine xC ?_ | refine xE ?_ | refine xD ?_ | refine xK ?_ | refine xS ?_ | refine xM ?_ | refine xT ?_ | refine xF ?_ | ((first | refine xR ?_ | refine xW ?_ | refine vq_id ?_); simp only [go_sem, Nat.reduceAdd, Nat.reduceLeDiff, Nat.reduceSub, Int.reduceToNat, reduceCtorEq, hw]) | (refine ⟨by first | omega | (intros; simp_all; done) | (intros; simp_all; omega), ?_⟩; try simp only [go_sem, Nat.reduceAdd, Nat.reduceLeDiff, Nat.reduceSub, Int.reduceToNat, reduceCtorEq, hw]))
  refine AP.cond rfl rfl (fun hc => ?_) (fun hc => ?_)
  · have hk' : k < l.length := by simp at hc; omega
    have hst := ad_step l k hk'
    have hg := byteR_get l k hk'
    have hsp := step_spec (ad (l.take k)) (l.getD k 0) h1 h2
    rw [← hst] at hsp
    have e1 : byteR_len l = byteR_len l := rfl
    repeat (first | refine xA ?_ | refine xB ?_ | refine xC ?_ | refine xE ?_ | refine xD ?_ | refine xK ?_ | refine xS ?_ | refine xM ?_ | refine xT ?_ | refine xF ?_ | ((first | refine xR ?_ | refine xW ?_ | refine vq_id ?_); simp only [go_sem, Nat.reduceAdd, Nat.reduceLeDiff, Nat.reduceSub, Int.reduceToNat, reduceCtorEq, hw, byteR_len, hg, G2]) | (refine ⟨by first | omega | (intros; simp_all; done) | (intros; simp_all; omega), ?_⟩; try simp only [go_sem, Nat.reduceAdd, Nat.reduceLeDiff, Nat.reduceSub, Int.reduceToNat, reduceCtorEq, hw, byteR_len, hg, G2]))
    refine AQ.fnL ([.agg (G2 (ad (l.take k))), .im (.v (.int .u8 (l.getD k 0).toNat))]) (by kernel_rfl) rfl rfl rfl (by ((try simp only [List.nil_append, List.append_nil, List.map_cons, List.map_nil, AV.st, constAV]); repeat (first | with_reducible exact LentC.nil | with_reducible exact LentAs.nil | with_reducible refine LentC.cons ?_ ?_ | with_reducible refine LentAs.cons ?_ ?_ | with_reducible exact Lent.im _ | with_reducible exact LentA.im _ | with_reducible refine LentA.of ?_ | with_reducible refine LentA.agg ?_ | ((with_reducible apply Lent.osw); rfl; simp only [blkR_len, wrR_len, byteR_len, List.length_append, List.length_cons, List.length_nil]) | ((with_reducible apply Lent.ob0); rfl)))) (hsp) rfl (fun _ => rfl) ?_
    repeat (first | refine xA ?_ | refine xB ?_ | refine xC ?_ | refine xE ?_ | refine xD ?_ | refine xK ?_ | refine xS ?_ | refine xM ?_ | refine xT ?_ | refine xF ?_ | ((first | refine xR ?_ | refine xW ?_ | refine vq_id ?_); simp only [go_sem, Nat.reduceAdd, Nat.reduceLeDiff, Nat.reduceSub, Int.reduceToNat, reduceCtorEq, hw, byteR_len, hg, G2]) | (refine ⟨by first | omega | (intros; simp_all; done) | (intros; simp_all; omega), ?_⟩; try simp only [go_sem, Nat.reduceAdd, Nat.reduceLeDiff, Nat.reduceSub, Int.reduceToNat, reduceCtorEq, hw, byteR_len, hg, G2]))
    refine AE.round (k + 1) (by omega) (by omega) (by repeat (first | exact Sub.nil _ | refine Sub.cons rfl ?_)) rfl
  · have hk' : k = l.length := by simp at hc; omega
    rw [hk', List.take_length] at h1 h2 ⊢
    repeat (first | refine xA ?_ | refine xB ?_ | refine xC ?_ | refine xE ?_ | refine xD ?_ | refine xK ?_ | refine xS ?_ | refine xM ?_ | refine xT ?_ | refine xF ?_ | ((first | refine xR ?_ | refine xW ?_ | refine vq_id ?_); simp only [go_sem, Nat.reduceAdd, Nat.reduceLeDiff, Nat.reduceSub, Int.reduceToNat, reduceCtorEq, G2]) | (refine ⟨by first | omega | (intros; simp_all; done) | (intros; simp_all; omega), ?_⟩; try simp only [go_sem, Nat.reduceAdd, Nat.reduceLeDiff, Nat.reduceSub, Int.reduceToNat, reduceCtorEq, G2]))
    exact AE.ret0 rfl ⟨⟨rfl, rfl⟩, trivial⟩ rfl ⟨rfl, rfl⟩
theorem checksum_spec (l : List UInt8) (hl : l.length ≤ 1000000000) : PFn Tryd.prog 36 [.im (.sl 1 (byteR l))] (.im (.v (.int .u32 (adSum l)))) := by
  refine ACall.walk [0, 2, 3] [3] Tryd.func36 rfl Tryd.ntmps36 (by kernel_rfl) (by rfl) rfl fun W own I0 φ0 lay => ?_
  repeat (first | refine xA ?_ | refine xB ?_ | refine xC ?_ | refine xE ?_ | refine xD ?_ | refine xK ?_ | refine xS ?_ | refine xM ?_ | refine xT ?_ | refine xF ?_ | ((first | refine xR ?_ | refine xW ?_ | refine vq_id ?_); simp only [go_sem, Nat.reduceAdd, Nat.reduceLeDiff, Nat.reduceSub, Int.reduceToNat, reduceCtorEq, G2]) | (refine ⟨by first | omega | (intros; simp_all; done) | (intros; simp_all; omega), ?_⟩; try simp only [go_sem, Nat.reduceAdd, Nat.reduceLeDiff, Nat.reduceSub, Int.reduceToNat, reduceCtorEq, G2]))
  refine AQ.fn (by kernel_rfl) rfl rfl rfl (fold_spec l hl) rfl ?_
  repeat (first | refine xA ?_ | refine xB ?_ | refine xC ?_ | refine xE ?_ | refine xD ?_ | refine xK ?_ | refine xS ?_ | refine xM ?_ | refine xT ?_ | refine xF ?_ | ((first | refine xR ?_ | refine xW ?_ | refine vq_id ?_); simp only [go_sem, Nat.reduceAdd, Nat.reduceLeDiff, Nat.reduceSub, Int.reduceToNat, reduceCtorEq, P2]) | (refine ⟨by first | omega | (intros; simp_all; done) | (intros; simp_all; omega), ?_⟩; try simp only [go_sem, Nat.reduceAdd, Nat.reduceLeDiff, Nat.reduceSub, Int.reduceToNat, reduceCtorEq, P2]))
  refine AE.ret0 rfl ⟨rfl, trivial⟩ rfl ⟨rfl, ?_⟩
  obtain ⟨h1, h2⟩ := ad_lt l
  have e1 : IntKind.u32.wrap (((ad l).2 : Int) * 2 ^ min 16 32) = (((ad l).2 * 2 ^ 16 : Nat) : Int) := by
    rw [show (2 : Int) ^ min 16 32 = ((65536 : Nat) : Int) from rfl, ← Int.natCast_mul]
    exact u32w ((ad l).2 * 65536) (by omega)
  have e2 := or_u32 (ad l).1 (ad l).2 16 (by omega) (by omega)
  simp only [tupOf, AV.st]
  rw [e1, e2]
  rfl
end Go.Proofs.YtlpcdpjkdodmcaaDoor
end

section
namespace Go.Proofs
open Go.Shelf
def Tryd.laysM171_ren : Go.Shelf.Ren := ⟨fun | 171 => 74 | 243 => 91 | 246 => 103 | 283 => 110 | 284 => 111 | 285 => 112 | 286 => 113 | 129 => 121 | 317 => 120 | 318 => 122 | 319 => 123 | 320 => 124 | 337 => 127 | 338 => 128 | n => n, fun | 3 => 3 | 9 => 9 | 2 => 2 | 4 => 4 | 171 => 168 | 0 => 0 | 53 => 161 | 37 => 24 | 5 => 5 | 173 => 171 | 212 => 181 | 51 => 95 | 20 => 20 | 213 => 182 | 46 => 122 | 232 => 188 | 233 => 189 | n => n, fun | 17 => 3 | 18 => 4 | 19 => 5 | n => n⟩
theorem Tryd.laysM171 : Go.Proofs.LaysM.n171 Tryd.prog Tryd.laysM171_ren := {
  mixed := by kernel_rfl
  f129 := Tryd.func121.trans (congrArg some (by kernel_rfl))
  f171 := Tryd.func74.trans (congrArg some (by kernel_rfl))
  f243 := Tryd.func91.trans (congrArg some (by kernel_rfl))
  f246 := Tryd.func103.trans (congrArg some (by kernel_rfl))
  f283 := Tryd.func110.trans (congrArg some (by kernel_rfl))
  f284 := Tryd.func111.trans (congrArg some (by kernel_rfl))
  f285 := Tryd.func112.trans (congrArg some (by kernel_rfl))
  f286 := Tryd.func113.trans (congrArg some (by kernel_rfl))
  f317 := Tryd.func120.trans (congrArg some (by kernel_rfl))
  f318 := Tryd.func122.trans (congrArg some (by kernel_rfl))
  f319 := Tryd.func123.trans (congrArg some (by kernel_rfl))
  f320 := Tryd.func124.trans (congrArg some (by kernel_rfl))
  f337 := Tryd.func127.trans (congrArg some (by kernel_rfl))
  f338 := Tryd.func128.trans (congrArg some (by kernel_rfl))
  t0 := Tryd.underlying0
  a0 := Tryd.isAgg0
  z0 := Tryd.sizeOf0
  v0 := Tryd.zeroValue0
  t2 := Tryd.underlying2
  a2 := Tryd.isAgg2
  z2 := Tryd.sizeOf2
  v2 := Tryd.zeroValue2
  t3 := Tryd.underlying3
  a3 := Tryd.isAgg3
  z3 := Tryd.sizeOf3
  v3 := Tryd.zeroValue3
  t4 := Tryd.underlying4
  a4 := Tryd.isAgg4
  z4 := Tryd.sizeOf4
  v4 := Tryd.zeroValue4
  t5 := Tryd.underlying5
  a5 := Tryd.isAgg5
  z5 := Tryd.sizeOf5
  v5 := Tryd.zeroValue5
  t9 := Tryd.underlying9
  a9 := Tryd.isAgg9
  z9 := Tryd.sizeOf9
  v9 := Tryd.zeroValue9
  t20 := Tryd.underlying20
  a20 := Tryd.isAgg20
  z20 := Tryd.sizeOf20
  v20 := Tryd.zeroValue20
  t37 := Tryd.underlying24
  a37 := Tryd.isAgg24
  z37 := Tryd.sizeOf24
  v37 := Tryd.zeroValue24
  t46 := Tryd.underlying122
  a46 := Tryd.isAgg122
  z46 := Tryd.sizeOf122
  v46 := Tryd.zeroValue122
  t51 := Tryd.underlying95
  a51 := Tryd.isAgg95
  z51 := Tryd.sizeOf95
  v51 := Tryd.zeroValue95
  t53 := Tryd.underlying161
  a53 := Tryd.isAgg161
  z53 := Tryd.sizeOf161
  v53 := Tryd.zeroValue161
  t171 := Tryd.underlying168
  a171 := Tryd.isAgg168
  z171 := Tryd.sizeOf168
  v171 := Tryd.zeroValue168
  t173 := Tryd.underlying171
  a173 := Tryd.isAgg171
  z173 := Tryd.sizeOf171
  v173 := Tryd.zeroValue171
  t212 := Tryd.underlying181
  a212 := Tryd.isAgg181
  z212 := Tryd.sizeOf181
  v212 := Tryd.zeroValue181
  t213 := Tryd.underlying182
  a213 := Tryd.isAgg182
  z213 := Tryd.sizeOf182
  t232 := Tryd.underlying188
  a232 := Tryd.isAgg188
  z232 := Tryd.sizeOf188
  v232 := Tryd.zeroValue188
  t233 := Tryd.underlying189
  a233 := Tryd.isAgg189
  z233 := Tryd.sizeOf189
  v233 := Tryd.zeroValue189
  g17 := by kernel_rfl
  g18 := by kernel_rfl
  g19 := by kernel_rfl
  i0 := by kernel_rfl
  i2 := by kernel_rfl
  i3 := by kernel_rfl
  i4 := by kernel_rfl
  i5 := by kernel_rfl
  i9 := by kernel_rfl
  i20 := by kernel_rfl
  i37 := by kernel_rfl
  i46 := by kernel_rfl
  i51 := by kernel_rfl
  i53 := by kernel_rfl
  i171 := by kernel_rfl
  i173 := by kernel_rfl
  i212 := by kernel_rfl
  i232 := by kernel_rfl
  i233 := by kernel_rfl
  m17 := by kernel_rfl
  m18 := by kernel_rfl
  m19 := by kernel_rfl }
open Go.RowKit Go.Sort Go.Lib in
theorem Tryd.strconv_Itoa (n : Int) (h0 : -9223372036854775808 ≤ n) (h1 : n ≤ 9223372036854775807) (w : World) (htab : Lib.TabIs Tryd.prog w "internal/strconv.uint64pow10" .u64 Lib.pow10Tab) :
    Calls Tryd.prog 74 #[.int .i64 n] w fun e w' => e = .returned (.string ⟨(Lib.itoa n).toArray⟩) ∧ ∃ k os, w' = grow (w.drewN k) os := Any.strconv_Itoa Tryd.laysM171 n h0 h1 w htab
def Tryd.laysC172_ren : Go.Shelf.Ren := ⟨fun | 172 => 73 | 244 => 89 | 245 => 90 | 247 => 98 | 279 => 99 | 280 => 100 | 281 => 101 | 282 => 102 | 287 => 107 | 316 => 108 | 171 => 74 | 205 => 109 | 321 => 118 | 322 => 119 | 243 => 91 | 246 => 103 | 283 => 110 | 284 => 111 | 285 => 112 | 286 => 113 | 129 => 121 | 317 => 120 | 318 => 122 | 319 => 123 | 320 => 124 | 337 => 127 | 338 => 128 | n => n, fun | 9 => 9 | 3 => 3 | 75 => 131 | 76 => 132 | 4 => 4 | 5 => 5 | 167 => 151 | 37 => 24 | 0 => 0 | 85 => 152 | 2 => 2 | 168 => 154 | 53 => 161 | 175 => 162 | 46 => 122 | 210 => 166 | 127 => 176 | 145 => 179 | 143 => 177 | 21 => 21 | 171 => 168 | 173 => 171 | 212 => 181 | 51 => 95 | 20 => 20 | 213 => 182 | 232 => 188 | 233 => 189 | 80 => 190 | n => n, fun | 15 => 0 | 16 => 1 | 17 => 3 | 18 => 4 | 19 => 5 | n => n⟩
theorem Tryd.laysC172 : Go.Proofs.LaysC.n172 Tryd.prog Tryd.laysC172_ren := {
  mixed := by kernel_rfl
  f129 := Tryd.func121.trans (congrArg some (by kernel_rfl))
  f171 := Tryd.func74.trans (congrArg some (by kernel_rfl))
  f172 := Tryd.func73.trans (congrArg some (by kernel_rfl))
  f205 := Tryd.func109.trans (congrArg some (by kernel_rfl))
  f243 := Tryd.func91.trans (congrArg some (by kernel_rfl))
  f244 := Tryd.func89.trans (congrArg some (by kernel_rfl))
  f245 := Tryd.func90.trans (congrArg some (by kernel_rfl))
  f246 := Tryd.func103.trans (congrArg some (by kernel_rfl))
  f247 := Tryd.func98.trans (congrArg some (by kernel_rfl))
  f279 := Tryd.func99.trans (congrArg some (by kernel_rfl))
  f280 := Tryd.func100.trans (congrArg some (by kernel_rfl))
  f281 := Tryd.func101.trans (congrArg some (by kernel_rfl))
  f282 := Tryd.func102.trans (congrArg some (by kernel_rfl))
  f283 := Tryd.func110.trans (congrArg some (by kernel_rfl))
  f284 := Tryd.func111.trans (congrArg some (by kernel_rfl))
  f285 := Tryd.func112.trans (congrArg some (by kernel_rfl))
  f286 := Tryd.func113.trans (congrArg some (by kernel_rfl))
  f287 := Tryd.func107.trans (congrArg some (by kernel_rfl))
  f316 := Tryd.func108.trans (congrArg some (by kernel_rfl))
  f317 := Tryd.func120.trans (congrArg some (by kernel_rfl))
  f318 := Tryd.func122.trans (congrArg some (by kernel_rfl))
  f319 := Tryd.func123.trans (congrArg some (by kernel_rfl))
  f320 := Tryd.func124.trans (congrArg some (by kernel_rfl))
  f321 := Tryd.func118.trans (congrArg some (by kernel_rfl))
  f322 := Tryd.func119.trans (congrArg some (by kernel_rfl))
  f337 := Tryd.func127.trans (congrArg some (by kernel_rfl))
  f338 := Tryd.func128.trans (congrArg some (by kernel_rfl))
  t0 := Tryd.underlying0
  a0 := Tryd.isAgg0
  z0 := Tryd.sizeOf0
  v0 := Tryd.zeroValue0
  t2 := Tryd.underlying2
  a2 := Tryd.isAgg2
  z2 := Tryd.sizeOf2
  v2 := Tryd.zeroValue2
  t3 := Tryd.underlying3
  a3 := Tryd.isAgg3
  z3 := Tryd.sizeOf3
  v3 := Tryd.zeroValue3
  t4 := Tryd.underlying4
  a4 := Tryd.isAgg4
  z4 := Tryd.sizeOf4
  v4 := Tryd.zeroValue4
  t5 := Tryd.underlying5
  a5 := Tryd.isAgg5
  z5 := Tryd.sizeOf5
  v5 := Tryd.zeroValue5
  t9 := Tryd.underlying9
  a9 := Tryd.isAgg9
  z9 := Tryd.sizeOf9
  v9 := Tryd.zeroValue9
  t20 := Tryd.underlying20
  a20 := Tryd.isAgg20
  z20 := Tryd.sizeOf20
  v20 := Tryd.zeroValue20
  t21 := Tryd.underlying21
  a21 := Tryd.isAgg21
  z21 := Tryd.sizeOf21
  v21 := Tryd.zeroValue21
  t37 := Tryd.underlying24
  a37 := Tryd.isAgg24
  z37 := Tryd.sizeOf24
  v37 := Tryd.zeroValue24
  t46 := Tryd.underlying122
  a46 := Tryd.isAgg122
  z46 := Tryd.sizeOf122
  v46 := Tryd.zeroValue122
  t51 := Tryd.underlying95
  a51 := Tryd.isAgg95
  z51 := Tryd.sizeOf95
  v51 := Tryd.zeroValue95
  t53 := Tryd.underlying161
  a53 := Tryd.isAgg161
  z53 := Tryd.sizeOf161
  v53 := Tryd.zeroValue161
  t75 := Tryd.underlying131
  a75 := Tryd.isAgg131
  z75 := Tryd.sizeOf131
  v75 := Tryd.zeroValue131
  t76 := Tryd.underlying132
  a76 := Tryd.isAgg132
  z76 := Tryd.sizeOf132
  v76 := Tryd.zeroValue132
  t85 := Tryd.underlying152
  a85 := Tryd.isAgg152
  z85 := Tryd.sizeOf152
  v85 := Tryd.zeroValue152
  t127 := Tryd.underlying176
  a127 := Tryd.isAgg176
  z127 := Tryd.sizeOf176
  v127 := Tryd.zeroValue176
  t143 := Tryd.underlying177
  a143 := Tryd.isAgg177
  z143 := Tryd.sizeOf177
  v143 := Tryd.zeroValue177
  t145 := Tryd.underlying179
  a145 := Tryd.isAgg179
  z145 := Tryd.sizeOf179
  v145 := Tryd.zeroValue179
  t167 := Tryd.underlying151
  a167 := Tryd.isAgg151
  z167 := Tryd.sizeOf151
  v167 := Tryd.zeroValue151
  t168 := Tryd.underlying154
  a168 := Tryd.isAgg154
  z168 := Tryd.sizeOf154
  v168 := Tryd.zeroValue154
  t171 := Tryd.underlying168
  a171 := Tryd.isAgg168
  z171 := Tryd.sizeOf168
  v171 := Tryd.zeroValue168
  t173 := Tryd.underlying171
  a173 := Tryd.isAgg171
  z173 := Tryd.sizeOf171
  v173 := Tryd.zeroValue171
  t175 := Tryd.underlying162
  a175 := Tryd.isAgg162
  z175 := Tryd.sizeOf162
  v175 := Tryd.zeroValue162
  t210 := Tryd.underlying166
  a210 := Tryd.isAgg166
  z210 := Tryd.sizeOf166
  v210 := Tryd.zeroValue166
  t212 := Tryd.underlying181
  a212 := Tryd.isAgg181
  z212 := Tryd.sizeOf181
  v212 := Tryd.zeroValue181
  t213 := Tryd.underlying182
  a213 := Tryd.isAgg182
  z213 := Tryd.sizeOf182
  t232 := Tryd.underlying188
  a232 := Tryd.isAgg188
  z232 := Tryd.sizeOf188
  v232 := Tryd.zeroValue188
  t233 := Tryd.underlying189
  a233 := Tryd.isAgg189
  z233 := Tryd.sizeOf189
  v233 := Tryd.zeroValue189
  g15 := by kernel_rfl
  g16 := by kernel_rfl
  g17 := by kernel_rfl
  g18 := by kernel_rfl
  g19 := by kernel_rfl
  t80 := Tryd.underlying190
  a80 := Tryd.isAgg190
  z80 := Tryd.sizeOf190
  v80 := Tryd.zeroValue190
  i0 := by kernel_rfl
  i2 := by kernel_rfl
  i3 := by kernel_rfl
  i4 := by kernel_rfl
  i5 := by kernel_rfl
  i9 := by kernel_rfl
  i20 := by kernel_rfl
  i21 := by kernel_rfl
  i37 := by kernel_rfl
  i46 := by kernel_rfl
  i51 := by kernel_rfl
  i53 := by kernel_rfl
  i75 := by kernel_rfl
  i76 := by kernel_rfl
  i80 := by kernel_rfl
  i85 := by kernel_rfl
  i127 := by kernel_rfl
  i143 := by kernel_rfl
  i145 := by kernel_rfl
  i167 := by kernel_rfl
  i168 := by kernel_rfl
  i171 := by kernel_rfl
  i173 := by kernel_rfl
  i175 := by kernel_rfl
  i210 := by kernel_rfl
  i212 := by kernel_rfl
  i232 := by kernel_rfl
  i233 := by kernel_rfl
  m15 := by kernel_rfl
  m16 := by kernel_rfl
  m17 := by kernel_rfl
  m18 := by kernel_rfl
  m19 := by kernel_rfl
  c0 := by kernel_rfl
  c2 := by kernel_rfl
  c3 := by kernel_rfl
  c4 := by kernel_rfl
  c5 := by kernel_rfl
  c9 := by kernel_rfl
  c20 := by kernel_rfl
  c21 := by kernel_rfl
  c37 := by kernel_rfl
  c46 := by kernel_rfl
  c51 := by kernel_rfl
  c53 := by kernel_rfl
  c75 := by kernel_rfl
  c76 := by kernel_rfl
  c80 := by kernel_rfl
  c85 := by kernel_rfl
  c127 := by kernel_rfl
  c143 := by kernel_rfl
  c145 := by kernel_rfl
  c167 := by kernel_rfl
  c168 := by kernel_rfl
  c171 := by kernel_rfl
  c173 := by kernel_rfl
  c175 := by kernel_rfl
  c210 := by kernel_rfl
  c212 := by kernel_rfl
  c213 := by kernel_rfl
  c232 := by kernel_rfl
  c233 := by kernel_rfl }
open Go.RowKit in
theorem Tryd.strconv_Atoi_ok (s : ByteArray) (hmax : s.size ≤ 9223372036854775806) (v : Int) (h : Lib.atoiAll s.data.toList = .ok v) (w : World) :
    Calls Tryd.prog 73 #[.string s] w fun e w' => e = .returned (.tuple #[.int .i64 v, .nilIface]) ∧ (w' = w ∨ ∃ t, w' = Lib.bytesWorld w 5 t) := Any.strconv_Atoi_ok Tryd.laysC172 s hmax v h w
open Go.RowKit in
theorem Tryd.strconv_Atoi_range_var (s : ByteArray) (hlim : s.size ≤ 281474976710656) (h : Lib.atoiAll s.data.toList = .range) (tp : TypeId) (p : Value) (w : World) (hvar : w.var? Tryd.prog "strconv.ErrRange" = some #[.iface tp p]) :
    Calls Tryd.prog 73 #[.string s] w fun e w' => ∃ N, e = .returned (.tuple #[.int .i64 (Lib.atoiSat s.data.toList), .iface 154 (.pointer (some ⟨N, 0, none⟩))]) ∧ w.heap.size ≤ N ∧ w'.heap[N]? = some (.cells #[.string ⟨#[65, 116, 111, 105]⟩, .string s, .iface tp p] 166 (0, 0)) ∧ Below w.heap.size w w' := Any.strconv_Atoi_range_var Tryd.laysC172 s hlim h tp p w hvar
def Tryd.lays219_ren : Go.Shelf.Ren := ⟨fun | 219 => 105 | 217 => 114 | 225 => 115 | 224 => 116 | 267 => 117 | 266 => 125 | 314 => 126 | n => n, fun | 9 => 9 | 3 => 3 | 4 => 4 | 5 => 5 | 46 => 122 | 146 => 185 | 51 => 95 | n => n, fun | 1 => 2 | n => n⟩
theorem Tryd.lays219 : Go.Proofs.Lays.n219 Tryd.prog Tryd.lays219_ren := {
  mixed := by kernel_rfl
  f217 := Tryd.func114.trans (congrArg some (by kernel_rfl))
  f219 := Tryd.func105.trans (congrArg some (by kernel_rfl))
  f224 := Tryd.func116.trans (congrArg some (by kernel_rfl))
  f225 := Tryd.func115.trans (congrArg some (by kernel_rfl))
  f266 := Tryd.func125.trans (congrArg some (by kernel_rfl))
  f267 := Tryd.func117.trans (congrArg some (by kernel_rfl))
  f314 := Tryd.func126.trans (congrArg some (by kernel_rfl))
  t3 := Tryd.underlying3
  a3 := Tryd.isAgg3
  z3 := Tryd.sizeOf3
  v3 := Tryd.zeroValue3
  t4 := Tryd.underlying4
  a4 := Tryd.isAgg4
  z4 := Tryd.sizeOf4
  v4 := Tryd.zeroValue4
  t5 := Tryd.underlying5
  a5 := Tryd.isAgg5
  z5 := Tryd.sizeOf5
  v5 := Tryd.zeroValue5
  t9 := Tryd.underlying9
  a9 := Tryd.isAgg9
  z9 := Tryd.sizeOf9
  v9 := Tryd.zeroValue9
  t46 := Tryd.underlying122
  a46 := Tryd.isAgg122
  z46 := Tryd.sizeOf122
  v46 := Tryd.zeroValue122
  t51 := Tryd.underlying95
  a51 := Tryd.isAgg95
  z51 := Tryd.sizeOf95
  v51 := Tryd.zeroValue95
  t146 := Tryd.underlying185
  a146 := Tryd.isAgg185
  z146 := Tryd.sizeOf185
  v146 := Tryd.zeroValue185
  g1 := by kernel_rfl }
open Go.RowKit Go.Lib in
theorem Tryd.stringslite_Index_one (s : ByteArray) (c : UInt8) (w : World) :
    Calls Tryd.prog 105 #[.string s, .string ⟨#[c]⟩] w fun e w' => e = .returned (.int .i64 (Lib.indexByte s.data.toList c)) ∧ w' = w := Any.stringslite_Index_one Tryd.lays219 s c w
end Go.Proofs
namespace Go.Proofs.YtlpcdpjkdodmcaaDoor
open Go Go.AL Go.RowKit Go.Sort Go.Proofs
set_option maxRecDepth 10000
set_option maxHeartbeats 4000000
def atoiV (l : List UInt8) : Int × Bool := match Lib.atoiAll l with
  | .ok v => (v, true)
  | .range => (Lib.atoiSat l, false)
  | _ => (0, false)
def erV (b : Bool) : AV := bif b then .im (.v .nilIface) else .wr (.iface 154) .top
theorem var_of {P : Program} {w : World} {I : Nat → Prop} {n : String} {Q : Obj → Prop} (hV : VK P w I) (hm : (n, Q) ∈ laidVars) (hs : (P.globalNamed n).isSome = true) : ∃ g o, P.globalNamed n = some g ∧ w.heap[g]? = some o ∧ Q o := by
  obtain ⟨g, hg⟩ := Option.isSome_iff_exists.1 hs
  obtain ⟨_, o, h1, h2⟩ := hV _ hm g hg
  exact ⟨g, o, hg, h1, h2⟩
theorem atoi_spec (l : List UInt8) (hl : l.length ≤ 1000000000) : PFn Tryd.prog 73 [Sv l] (.tup [Iv (atoiV l).1, erV (atoiV l).2]) := by
  refine PFn.of_belowV (by rfl) (by cases (atoiV l).2 <;> rfl) fun w φ I vs hd hI hV => ?_
  simp only [AV.dens] at hd
  obtain ⟨u, us, rfl, hu, rfl⟩ := hd
  rw [den_s] at hu
  subst hu
  have hb : (BA l).data.toList = l := BA_data l
  have hsz : (BA l).size = l.length := rfl
  cases h : Lib.atoiAll l with
  | ok v =>
    have e : atoiV l = (v, true) := by simp [atoiV, h]
    rw [e]
    refine (Tryd.strconv_Atoi_ok (BA l) (by omega) v (by rw [hb]; exact h) w).mono fun e w' ⟨he, hw⟩ => ⟨_, he, ?_, ?_⟩
    · simp only [AV.den, AV.dens, IV.den, erV, cond_true]
      exact ⟨_, ⟨_, _, rfl, ⟨rfl, rfl⟩, _, _, rfl, ⟨rfl, rfl⟩, rfl⟩, rfl⟩
    · rcases hw with rfl | ⟨t, rfl⟩
      · exact Below.refl _ _
      · exact Lib.bytesWorld_below _ _ _
  | range =>
    have e : atoiV l = (Lib.atoiSat l, false) := by simp [atoiV, h]
    rw [e]
    obtain ⟨g, o, hg, ho, tp, p, T, fz, rfl⟩ := var_of (n := "strconv.ErrRange") hV (by simp only [laidVars, List.mem_cons]; exact .inr (.inl rfl)) (by rfl)
    refine (Tryd.strconv_Atoi_range_var (BA l) (by omega) (by rw [hb]; exact h) tp p w (by simp only [World.var?, hg, Option.bind_some, ho])).mono fun e w' ⟨N, he, _, _, hw⟩ => ⟨_, he, ?_, hw⟩
    rw [hb]
    simp only [AV.den, AV.dens, IV.den, erV, cond_false, WK.rel]
    exact ⟨_, ⟨_, _, rfl, ⟨rfl, rfl⟩, _, _, rfl, ⟨_, rfl, trivial⟩, rfl⟩, rfl⟩
  | _ =>
    have e : atoiV l = (0, false) := by simp [atoiV, h]
    rw [e]
    obtain ⟨g, o, hg, ho, tp, p, T, fz, rfl⟩ := var_of (n := "strconv.ErrSyntax") hV (by simp only [laidVars, List.mem_cons]; exact .inl rfl) (by rfl)
    refine (Any.strconv_Atoi_syntax_var Tryd.laysC172 (BA l) (by omega) (by rw [hb]; exact h) tp p w (by simp only [World.var?, hg, Option.bind_some, ho])).mono fun e w' ⟨N, he, _, _, hw⟩ => ⟨_, he, ?_, hw⟩
    simp only [AV.den, AV.dens, IV.den, erV, cond_false, WK.rel]
    exact ⟨_, ⟨_, _, rfl, ⟨rfl, rfl⟩, _, _, rfl, ⟨_, rfl, trivial⟩, rfl⟩, rfl⟩
theorem atoiV_bounds (l : List UInt8) : -9223372036854775808 ≤ (atoiV l).1 ∧ (atoiV l).1 ≤ 9223372036854775807 := by
  unfold atoiV
  split
  · rename_i v h; exact Lib.atoiAll_bounds h
  · exact Lib.atoiSat_bounds l
  · simp
theorem itoa_spec (n : Int) (h : -9223372036854775808 ≤ n ∧ n ≤ 9223372036854775807) : PFn Tryd.prog 74 [Iv n] (Sv (Lib.itoa n)) := by
  refine PFn.of_belowV (by rfl) rfl fun w φ I vs hd hI hV => ?_
  simp only [AV.dens] at hd
  obtain ⟨u, us, rfl, hu, rfl⟩ := hd
  rw [den_i] at hu
  subst hu
  obtain ⟨g, o, hg, ho, T, fz, rfl⟩ := var_of (n := "internal/strconv.uint64pow10") hV (by simp only [laidVars, List.mem_cons]; exact .inr (.inr (.inl rfl))) (by rfl)
  refine (Tryd.strconv_Itoa n h.1 h.2 w (by simp only [Lib.TabIs, World.var?, hg, Option.bind_some, ho]; rfl)).mono fun e w' ⟨he, k, os, hw⟩ => ⟨_, he, by rw [den_s]; rfl, ?_⟩
  subst hw
  refine ⟨rfl, rfl, rfl, ?_, fun j hj => ?_⟩
  · rw [size_grow]; exact Nat.le_add_right _ _
  · show (w.heap ++ os)[j]? = _
    rw [Array.getElem?_append_left hj]
theorem sindex_spec (l : List UInt8) (c : UInt8) : PFn Tryd.prog 105 [Sv l, Sv [c]] (Iv (Lib.indexByte l c)) := by
  refine PFn.of_belowV (by rfl) rfl fun w φ I vs hd hI hV => ?_
  simp only [AV.dens] at hd
  obtain ⟨u, us, rfl, hu, u2, us2, rfl, hu2, rfl⟩ := hd
  rw [den_s] at hu hu2
  subst hu; subst hu2
  refine (Tryd.stringslite_Index_one (BA l) c w).mono fun e w' ⟨he, hw⟩ => ⟨_, he, ?_, ?_⟩
  · rw [den_i]
    have : (BA l).data.toList = l := BA_data l
    rw [this]
  · subst hw; exact Below.refl _ _
end Go.Proofs.YtlpcdpjkdodmcaaDoor
end

section
namespace Go.Proofs.YtlpcdpjkdodmcaaDoor
open Go Go.AL Go.RowKit
set_option maxRecDepth 10000
set_option maxHeartbeats 4000000
def cutS (l : List UInt8) : List UInt8 × List UInt8 × Bool :=
  if Lib.indexByte l 32 < 0 then (l, [], false) else (l.take (Lib.indexByte l 32).toNat, l.drop ((Lib.indexByte l 32).toNat + 1), true)
theorem cut_in (l : List UInt8) (hl : l.length ≤ 1000000000) : PFn Tryd.prog 96 [Sv l, Sv [32]] (.tup [Sv (cutS l).1, Sv (cutS l).2.1, Bv (cutS l).2.2]) := by
  refine ACall.walk [0, 1, 4, 5, 6, 7, 12] [] Tryd.func96 rfl Tryd.ntmps96 (by kernel_rfl) (by rfl) rfl fun W own I0 φ0 lay => ?_
  repeat (first | refine xA ?_ | refine xB ?_ | refine xC ?_ | refine xE ?_ | refine xD ?_ | refine xK ?_ | refine xS ?_ | refine xM ?_ | refine xT ?_ | refine xF ?_ | ((first | refine xR ?_ | refine xW ?_ | refine vq_id ?_); simp only [go_sem, Nat.reduceAdd, Nat.reduceLeDiff, Nat.reduceSub, Int.reduceToNat, reduceCtorEq]) | (refine ⟨by first | omega | (intros; simp_all; done) | (intros; simp_all; omega), ?_⟩; try simp only [go_sem, Nat.reduceAdd, Nat.reduceLeDiff, Nat.reduceSub, Int.reduceToNat, reduceCtorEq]))
  refine AQ.fn (by kernel_rfl) rfl rfl rfl (sindex_spec l 32) rfl ?_
  repeat (first | refine xA ?_ | refine xB ?_ | refine xC ?_ | refine xE ?_ | refine xD ?_ | refine xK ?_ | refine xS ?_ | refine xM ?_ | refine xT ?_ | refine xF ?_ | ((first | refine xR ?_ | refine xW ?_ | refine vq_id ?_); simp only [go_sem, Nat.reduceAdd, Nat.reduceLeDiff, Nat.reduceSub, Int.reduceToNat, reduceCtorEq]) | (refine ⟨by first | omega | (intros; simp_all; done) | (intros; simp_all; omega), ?_⟩; try simp only [go_sem, Nat.reduceAdd, Nat.reduceLeDiff, Nat.reduceSub, Int.reduceToNat, reduceCtorEq]))
  have hge := Lib.indexByte_ge l 32
  refine AP.cond rfl rfl (fun hc => ?_) (fun hc => ?_)
  · simp only [decide_eq_true_eq] at hc
    obtain ⟨k, hk⟩ : ∃ k : Nat, Lib.indexByte l 32 = k := ⟨_, (Int.toNat_of_nonneg hc).symm⟩
    have hlt : k < l.length := by
      have := (Lib.indexByte_some hk).1
      exact (List.getElem?_eq_some_iff.1 this).1
    have e : cutS l = (l.take k, l.drop (k + 1), true) := by simp [cutS, hk]
    rw [e]
    have hw : IntKind.i64.wrap ((k : Int) + ((1 : Nat) : Int)) = ((k + 1 : Nat) : Int) := by rw [← Int.natCast_add]; exact wr (by omega)
    have hs1 : (BA [(32 : UInt8)]).size = 1 := rfl
    repeat (first | refine xA ?_ | refine xB ?_ | refine xC ?_ | refine xE ?_ | refine xD ?_ | refine xK ?_ | refine xS ?_ | refine xM ?_ | refine xT ?_ | refine xF ?_ | ((first | refine xR ?_ | refine xW ?_ | refine vq_id ?_); simp only [go_sem, Nat.reduceAdd, Nat.reduceLeDiff, Nat.reduceSub, Int.reduceToNat, reduceCtorEq, hk, hw, hs1, BA_size, BA_extract, Int.toNat_natCast]) | (refine ⟨by first | omega | (intros; simp_all; done) | (intros; simp_all; omega), ?_⟩; try simp only [go_sem, Nat.reduceAdd, Nat.reduceLeDiff, Nat.reduceSub, Int.reduceToNat, reduceCtorEq, hk, hw, hs1, BA_size, BA_extract, Int.toNat_natCast]))
    refine AE.ret0 rfl ⟨rfl, rfl, rfl, trivial⟩ rfl ⟨rfl, ?_⟩
    simp only [tupOf, AV.st, List.drop_zero, Nat.sub_zero]
    rw [List.take_of_length_le (l := l.drop (k + 1)) (by simp)]
  · simp only [decide_eq_false_iff_not] at hc
    have e : cutS l = (l, [], false) := by simp [cutS]; omega
    rw [e]
    repeat (first | refine xA ?_ | refine xB ?_ | refine xC ?_ | refine xE ?_ | refine xD ?_ | refine xK ?_ | refine xS ?_ | refine xM ?_ | refine xT ?_ | refine xF ?_ | ((first | refine xR ?_ | refine xW ?_ | refine vq_id ?_); simp only [go_sem, Nat.reduceAdd, Nat.reduceLeDiff, Nat.reduceSub, Int.reduceToNat, reduceCtorEq]) | (refine ⟨by first | omega | (intros; simp_all; done) | (intros; simp_all; omega), ?_⟩; try simp only [go_sem, Nat.reduceAdd, Nat.reduceLeDiff, Nat.reduceSub, Int.reduceToNat, reduceCtorEq]))
    exact AE.ret0 rfl ⟨rfl, rfl, rfl, trivial⟩ rfl ⟨rfl, rfl⟩
theorem cut_spec (l : List UInt8) (hl : l.length ≤ 1000000000) : PFn Tryd.prog 83 [Sv l, Sv [32]] (.tup [Sv (cutS l).1, Sv (cutS l).2.1, Bv (cutS l).2.2]) := by
  refine ACall.walk [0, 1, 4, 5, 6] [] Tryd.func83 rfl Tryd.ntmps83 (by kernel_rfl) (by rfl) rfl fun W own I0 φ0 lay => ?_
  repeat (first | refine xA ?_ | refine xB ?_ | refine xC ?_ | refine xE ?_ | refine xD ?_ | refine xK ?_ | refine xS ?_ | refine xM ?_ | refine xT ?_ | refine xF ?_ | ((first | refine xR ?_ | refine xW ?_ | refine vq_id ?_); simp only [go_sem, Nat.reduceAdd, Nat.reduceLeDiff, Nat.reduceSub, Int.reduceToNat, reduceCtorEq]) | (refine ⟨by first | omega | (intros; simp_all; done) | (intros; simp_all; omega), ?_⟩; try simp only [go_sem, Nat.reduceAdd, Nat.reduceLeDiff, Nat.reduceSub, Int.reduceToNat, reduceCtorEq]))
  refine AQ.fn (by kernel_rfl) rfl rfl rfl (cut_in l hl) rfl ?_
  repeat (first | refine xA ?_ | refine xB ?_ | refine xC ?_ | refine xE ?_ | refine xD ?_ | refine xK ?_ | refine xS ?_ | refine xM ?_ | refine xT ?_ | refine xF ?_ | ((first | refine xR ?_ | refine xW ?_ | refine vq_id ?_); simp only [go_sem, Nat.reduceAdd, Nat.reduceLeDiff, Nat.reduceSub, Int.reduceToNat, reduceCtorEq]) | (refine ⟨by first | omega | (intros; simp_all; done) | (intros; simp_all; omega), ?_⟩; try simp only [go_sem, Nat.reduceAdd, Nat.reduceLeDiff, Nat.reduceSub, Int.reduceToNat, reduceCtorEq]))
  exact AE.ret0 rfl ⟨rfl, rfl, rfl, trivial⟩ rfl ⟨rfl, rfl⟩
def numB (a b : Int) (l : List UInt8) : Bool := (atoiV l).2 && Lib.itoa (atoiV l).1 == l && decide (a ≤ (atoiV l).1) && decide ((atoiV l).1 ≤ b)
theorem number_spec (a b : Int) (l : List UInt8) (hl : l.length ≤ 1000000000) : PFn Tryd.prog 49 [.agg [Iv a, Iv b], Sv l] (.tup [Iv (atoiV l).1, Bv (numB a b l)]) := by
  have hsp := atoi_spec l hl
  have hb := atoiV_bounds l
  unfold numB
  obtain ⟨⟨n, ok⟩, hn⟩ : ∃ p, atoiV l = p := ⟨_, rfl⟩
  rw [hn] at hsp hb ⊢
  simp only at hsp hb ⊢
  have hit := itoa_spec n hb
  cases ok with
  | false =>
    refine ACall.walk [0, 1, 2, 4, 5, 6, 7] [] Tryd.func49 rfl Tryd.ntmps49 (by kernel_rfl) (by rfl) rfl fun W own I0 φ0 lay => ?_
    repeat (first | refine xA ?_ | refine xB ?_ | refine xC ?_ | refine xE ?_ | refine xD ?_ | refine xK ?_ | refine xS ?_ | refine xM ?_ | refine xT ?_ | refine xF ?_ | ((first | refine xR ?_ | refine xW ?_ | refine vq_id ?_); simp only [go_sem, Nat.reduceAdd, Nat.reduceLeDiff, Nat.reduceSub, Int.reduceToNat, reduceCtorEq]) | (refine ⟨by first | omega | (intros; simp_all; done) | (intros; simp_all; omega), ?_⟩; try simp only [go_sem, Nat.reduceAdd, Nat.reduceLeDiff, Nat.reduceSub, Int.reduceToNat, reduceCtorEq]))
    refine AQ.fn (by kernel_rfl) rfl rfl rfl (hsp) rfl ?_
    repeat (first | refine xA ?_ | refine xB ?_ | refine xC ?_ | refine xE ?_ | refine xD ?_ | refine xK ?_ | refine xS ?_ | refine xM ?_ | refine xT ?_ | refine xF ?_ | ((first | refine xR ?_ | refine xW ?_ | refine vq_id ?_); simp only [go_sem, Nat.reduceAdd, Nat.reduceLeDiff, Nat.reduceSub, Int.reduceToNat, reduceCtorEq, erV]) | (refine ⟨by first | omega | (intros; simp_all; done) | (intros; simp_all; omega), ?_⟩; try simp only [go_sem, Nat.reduceAdd, Nat.reduceLeDiff, Nat.reduceSub, Int.reduceToNat, reduceCtorEq, erV]))
    refine AP.drawE 23 (Tree.node [] [0, 1, 2, 3, 4, 6] [5] [Tree.node [0, 6] [7, 8, 9, 10, 11, 12, 13, 14, 15, 16, 17, 18, 19, 20, 21, 22] [] []]) (by kernel_rfl) rfl (by kernel_rfl) (by kernel_rfl) ?_
    refine vd_node ?_
    simp only [go_sem, Nat.reduceAdd, Nat.reduceLeDiff, Nat.reduceSub, Int.reduceToNat, reduceCtorEq]
    repeat' (first | with_reducible exact True.intro | with_reducible refine And.intro (by omega) ?_ | with_reducible refine And.intro ?_ ?_ | (refine AQ.nx rfl ?_; simp only [go_sem, Nat.reduceAdd, Nat.reduceLeDiff, Nat.reduceSub, Int.reduceToNat, reduceCtorEq]) | refine AQ.skip (by kernel_rfl) rfl ?_; simp only [go_sem, Nat.reduceAdd, Nat.reduceLeDiff, Nat.reduceSub, Int.reduceToNat, reduceCtorEq] | refine AQ.done ?_ | (refine AQ.go (by kernel_rfl) ?_; simp only [go_sem, Nat.reduceAdd, Nat.reduceLeDiff, Nat.reduceSub, Int.reduceToNat, reduceCtorEq]; repeat (with_reducible refine And.intro (by omega) ?_); refine AQ.nx rfl ?_; simp only [go_sem, Nat.reduceAdd, Nat.reduceLeDiff, Nat.reduceSub, Int.reduceToNat, reduceCtorEq]))
    all_goals first
      | (intro h; exact h.elim)
      | (repeat (first | refine xA ?_ | refine xB ?_ | refine xC ?_ | refine xE ?_ | refine xD ?_ | refine xK ?_ | refine xS ?_ | refine xM ?_ | refine xT ?_ | refine xF ?_ | ((first | refine xR ?_ | refine xW ?_ | refine vq_id ?_); simp only [go_sem, Nat.reduceAdd, Nat.reduceLeDiff, Nat.reduceSub, Int.reduceToNat, reduceCtorEq]) | (refine ⟨by first | omega | (intros; simp_all; done) | (intros; simp_all; omega), ?_⟩; try simp only [go_sem, Nat.reduceAdd, Nat.reduceLeDiff, Nat.reduceSub, Int.reduceToNat, reduceCtorEq])); exact AE.ret0 rfl ⟨rfl, rfl, trivial⟩ rfl ⟨rfl, rfl⟩)
  | true =>
    refine ACall.walk [0, 1, 2, 4, 5, 6, 7] [] Tryd.func49 rfl Tryd.ntmps49 (by kernel_rfl) (by rfl) rfl fun W own I0 φ0 lay => ?_
    repeat (first | refine xA ?_ | refine xB ?_ | refine xC ?_ | refine xE ?_ | refine xD ?_ | refine xK ?_ | refine xS ?_ | refine xM ?_ | refine xT ?_ | refine xF ?_ | ((first | refine xR ?_ | refine xW ?_ | refine vq_id ?_); simp only [go_sem, Nat.reduceAdd, Nat.reduceLeDiff, Nat.reduceSub, Int.reduceToNat, reduceCtorEq]) | (refine ⟨by first | omega | (intros; simp_all; done) | (intros; simp_all; omega), ?_⟩; try simp only [go_sem, Nat.reduceAdd, Nat.reduceLeDiff, Nat.reduceSub, Int.reduceToNat, reduceCtorEq]))
    refine AQ.fn (by kernel_rfl) rfl rfl rfl (hsp) rfl ?_
    repeat (first | refine xA ?_ | refine xB ?_ | refine xC ?_ | refine xE ?_ | refine xD ?_ | refine xK ?_ | refine xS ?_ | refine xM ?_ | refine xT ?_ | refine xF ?_ | ((first | refine xR ?_ | refine xW ?_ | refine vq_id ?_); simp only [go_sem, Nat.reduceAdd, Nat.reduceLeDiff, Nat.reduceSub, Int.reduceToNat, reduceCtorEq, erV]) | (refine ⟨by first | omega | (intros; simp_all; done) | (intros; simp_all; omega), ?_⟩; try simp only [go_sem, Nat.reduceAdd, Nat.reduceLeDiff, Nat.reduceSub, Int.reduceToNat, reduceCtorEq, erV]))
    refine AP.drawE 23 (Tree.node [] [0, 1, 2, 3, 4, 6] [5] [Tree.node [0, 6] [7, 8, 9, 10, 11, 12, 13, 14, 15, 16, 17, 18, 19, 20, 21, 22] [] []]) (by kernel_rfl) rfl (by kernel_rfl) (by kernel_rfl) ?_
    refine vd_node ?_
    simp only [go_sem, Nat.reduceAdd, Nat.reduceLeDiff, Nat.reduceSub, Int.reduceToNat, reduceCtorEq]
    repeat' (first | with_reducible exact True.intro | with_reducible refine And.intro (by omega) ?_ | with_reducible refine And.intro ?_ ?_ | (refine AQ.nx rfl ?_; simp only [go_sem, Nat.reduceAdd, Nat.reduceLeDiff, Nat.reduceSub, Int.reduceToNat, reduceCtorEq]) | (refine AQ.fn_g (by kernel_rfl) rfl rfl (fun h => by first | (simp [gs, AV.g]; done) | (simp [gs, AV.g, constAV]; done) | (simp [gs, AV.g, constAV, bw] at h ⊢; done) | (simp [bw] at h; done) | (simp [gs, AV.g, bw] at h ⊢; simp [h]; done) | (simp [gs, AV.g, bw] at h ⊢; exact h.1) | (simp [gs, AV.g]; rfl) | (simp [gs, AV.g, bw] at h ⊢; rfl) | (simp [gs, AV.g, bw] at h ⊢; simp [h]; rfl) | (simp [gs, AV.g, bw] at h ⊢; simp_all)) rfl (fun _ => hit) rfl ?_; simp only [go_sem, Nat.reduceAdd, Nat.reduceLeDiff, Nat.reduceSub, Int.reduceToNat, reduceCtorEq]) | refine AQ.done ?_ | (refine AQ.go (by kernel_rfl) ?_; simp only [go_sem, Nat.reduceAdd, Nat.reduceLeDiff, Nat.reduceSub, Int.reduceToNat, reduceCtorEq]; repeat (with_reducible refine And.intro (by omega) ?_); refine AQ.nx rfl ?_; simp only [go_sem, Nat.reduceAdd, Nat.reduceLeDiff, Nat.reduceSub, Int.reduceToNat, reduceCtorEq]))
    all_goals first
      | (exact fun h => ⟨h, h⟩)
      | (repeat (first | refine xA ?_ | refine xB ?_ | refine xC ?_ | refine xE ?_ | refine xD ?_ | refine xK ?_ | refine xS ?_ | refine xM ?_ | refine xT ?_ | refine xF ?_ | ((first | refine xR ?_ | refine xW ?_ | refine vq_id ?_); simp only [go_sem, Nat.reduceAdd, Nat.reduceLeDiff, Nat.reduceSub, Int.reduceToNat, reduceCtorEq]) | (refine ⟨by first | omega | (intros; simp_all; done) | (intros; simp_all; omega), ?_⟩; try simp only [go_sem, Nat.reduceAdd, Nat.reduceLeDiff, Nat.reduceSub, Int.reduceToNat, reduceCtorEq])); exact AE.ret0 rfl ⟨rfl, rfl, trivial⟩ rfl ⟨rfl, by simp [tupOf, AV.st]⟩)
theorem one_spec (a b : Int) (l : List UInt8) (hl : l.length ≤ 1000000000) : PFn Tryd.prog 64 [.agg [Iv a, Iv b], Sv l] (Bv (numB a b l)) := by
  refine ACall.walk [0, 1, 2, 4, 6] [] Tryd.func64 rfl Tryd.ntmps64 (by kernel_rfl) (by rfl) rfl fun W own I0 φ0 lay => ?_
  repeat (first | refine xA ?_ | refine xB ?_ | refine xC ?_ | refine xE ?_ | refine xD ?_ | refine xK ?_ | refine xS ?_ | refine xM ?_ | refine xT ?_ | refine xF ?_ | ((first | refine xR ?_ | refine xW ?_ | refine vq_id ?_); simp only [go_sem, Nat.reduceAdd, Nat.reduceLeDiff, Nat.reduceSub, Int.reduceToNat, reduceCtorEq]) | (refine ⟨by first | omega | (intros; simp_all; done) | (intros; simp_all; omega), ?_⟩; try simp only [go_sem, Nat.reduceAdd, Nat.reduceLeDiff, Nat.reduceSub, Int.reduceToNat, reduceCtorEq]))
  refine AQ.fn (by kernel_rfl) rfl rfl rfl (number_spec a b l hl) rfl ?_
  repeat (first | refine xA ?_ | refine xB ?_ | refine xC ?_ | refine xE ?_ | refine xD ?_ | refine xK ?_ | refine xS ?_ | refine xM ?_ | refine xT ?_ | refine xF ?_ | ((first | refine xR ?_ | refine xW ?_ | refine vq_id ?_); simp only [go_sem, Nat.reduceAdd, Nat.reduceLeDiff, Nat.reduceSub, Int.reduceToNat, reduceCtorEq]) | (refine ⟨by first | omega | (intros; simp_all; done) | (intros; simp_all; omega), ?_⟩; try simp only [go_sem, Nat.reduceAdd, Nat.reduceLeDiff, Nat.reduceSub, Int.reduceToNat, reduceCtorEq]))
  exact AE.ret0 rfl ⟨rfl, trivial⟩ rfl ⟨rfl, rfl⟩
def twoB (a b : Int) (l : List UInt8) : Bool := (cutS l).2.2 && numB a b (cutS l).1 && numB a b (cutS l).2.1
theorem cutS_len (l : List UInt8) : (cutS l).1.length ≤ l.length ∧ (cutS l).2.1.length ≤ l.length := by
  unfold cutS
  split
  · simp
  · constructor
    · rw [List.length_take]; exact Nat.min_le_right _ _
    · rw [List.length_drop]; exact Nat.sub_le _ _
theorem two_spec (a b : Int) (l : List UInt8) (hl : l.length ≤ 1000000000) : PFn Tryd.prog 66 [.agg [Iv a, Iv b], Sv l] (Bv (twoB a b l)) := by
  have hlen := cutS_len l
  have h1 := one_spec a b (cutS l).1 (by omega)
  have h2 := one_spec a b (cutS l).2.1 (by omega)
  unfold twoB
  cases hc : (cutS l).2.2 with
  | false =>
    refine ACall.walk [0, 1, 2, 4, 5, 6, 7] [] Tryd.func66 rfl Tryd.ntmps66 (by kernel_rfl) (by rfl) rfl fun W own I0 φ0 lay => ?_
    repeat (first | refine xA ?_ | refine xB ?_ | refine xC ?_ | refine xE ?_ | refine xD ?_ | refine xK ?_ | refine xS ?_ | refine xM ?_ | refine xT ?_ | refine xF ?_ | ((first | refine xR ?_ | refine xW ?_ | refine vq_id ?_); simp only [go_sem, Nat.reduceAdd, Nat.reduceLeDiff, Nat.reduceSub, Int.reduceToNat, reduceCtorEq]) | (refine ⟨by first | omega | (intros; simp_all; done) | (intros; simp_all; omega), ?_⟩; try simp only [go_sem, Nat.reduceAdd, Nat.reduceLeDiff, Nat.reduceSub, Int.reduceToNat, reduceCtorEq]))
    refine AQ.fn (by kernel_rfl) rfl rfl rfl (cut_spec l hl) rfl ?_
    repeat (first | refine xA ?_ | refine xB ?_ | refine xC ?_ | refine xE ?_ | refine xD ?_ | refine xK ?_ | refine xS ?_ | refine xM ?_ | refine xT ?_ | refine xF ?_ | ((first | refine xR ?_ | refine xW ?_ | refine vq_id ?_); simp only [go_sem, Nat.reduceAdd, Nat.reduceLeDiff, Nat.reduceSub, Int.reduceToNat, reduceCtorEq, hc]) | (refine ⟨by first | omega | (intros; simp_all; done) | (intros; simp_all; omega), ?_⟩; try simp only [go_sem, Nat.reduceAdd, Nat.reduceLeDiff, Nat.reduceSub, Int.reduceToNat, reduceCtorEq, hc]))
    exact AE.ret0 rfl ⟨rfl, trivial⟩ rfl ⟨rfl, rfl⟩
  | true =>
    refine ACall.walk [0, 1, 2, 4, 5, 6, 7] [] Tryd.func66 rfl Tryd.ntmps66 (by kernel_rfl) (by rfl) rfl fun W own I0 φ0 lay => ?_
    repeat (first | refine xA ?_ | refine xB ?_ | refine xC ?_ | refine xE ?_ | refine xD ?_ | refine xK ?_ | refine xS ?_ | refine xM ?_ | refine xT ?_ | refine xF ?_ | ((first | refine xR ?_ | refine xW ?_ | refine vq_id ?_); simp only [go_sem, Nat.reduceAdd, Nat.reduceLeDiff, Nat.reduceSub, Int.reduceToNat, reduceCtorEq]) | (refine ⟨by first | omega | (intros; simp_all; done) | (intros; simp_all; omega), ?_⟩; try simp only [go_sem, Nat.reduceAdd, Nat.reduceLeDiff, Nat.reduceSub, Int.reduceToNat, reduceCtorEq]))
    refine AQ.fn (by kernel_rfl) rfl rfl rfl (cut_spec l hl) rfl ?_
    repeat (first | refine xA ?_ | refine xB ?_ | refine xC ?_ | refine xE ?_ | refine xD ?_ | refine xK ?_ | refine xS ?_ | refine xM ?_ | refine xT ?_ | refine xF ?_ | ((first | refine xR ?_ | refine xW ?_ | refine vq_id ?_); simp only [go_sem, Nat.reduceAdd, Nat.reduceLeDiff, Nat.reduceSub, Int.reduceToNat, reduceCtorEq, hc]) | (refine ⟨by first | omega | (intros; simp_all; done) | (intros; simp_all; omega), ?_⟩; try simp only [go_sem, Nat.reduceAdd, Nat.reduceLeDiff, Nat.reduceSub, Int.reduceToNat, reduceCtorEq, hc]))
    refine AQ.fn_g (by kernel_rfl) rfl rfl (fun h => by first | (simp [gs, AV.g]; done) | (simp [gs, AV.g, constAV]; done) | (simp [gs, AV.g, constAV, bw] at h ⊢; done) | (simp [bw] at h; done) | (simp [gs, AV.g, bw] at h ⊢; simp [h]; done) | (simp [gs, AV.g, bw] at h ⊢; exact h.1) | (simp [gs, AV.g]; rfl) | (simp [gs, AV.g, bw] at h ⊢; rfl) | (simp [gs, AV.g, bw] at h ⊢; simp [h]; rfl) | (simp [gs, AV.g, bw] at h ⊢; simp_all)) rfl (fun _ => h1) rfl ?_
    repeat (first | refine xA ?_ | refine xB ?_ | refine xC ?_ | refine xE ?_ | refine xD ?_ | refine xK ?_ | refine xS ?_ | refine xM ?_ | refine xT ?_ | refine xF ?_ | ((first | refine xR ?_ | refine xW ?_ | refine vq_id ?_); simp only [go_sem, Nat.reduceAdd, Nat.reduceLeDiff, Nat.reduceSub, Int.reduceToNat, reduceCtorEq, hc]) | (refine ⟨by first | omega | (intros; simp_all; done) | (intros; simp_all; omega), ?_⟩; try simp only [go_sem, Nat.reduceAdd, Nat.reduceLeDiff, Nat.reduceSub, Int.reduceToNat, reduceCtorEq, hc]))
    refine AQ.fn_g (by kernel_rfl) rfl rfl (fun h => by first | (simp [gs, AV.g]; done) | (simp [gs, AV.g, constAV]; done) | (simp [gs, AV.g, constAV, bw] at h ⊢; done) | (simp [bw] at h; done) | (simp [gs, AV.g, bw] at h ⊢; simp [h]; done) | (simp [gs, AV.g, bw] at h ⊢; exact h.1) | (simp [gs, AV.g]; rfl) | (simp [gs, AV.g, bw] at h ⊢; rfl) | (simp [gs, AV.g, bw] at h ⊢; simp [h]; rfl) | (simp [gs, AV.g, bw] at h ⊢; simp_all)) rfl (fun _ => h2) rfl ?_
    repeat (first | refine xA ?_ | refine xB ?_ | refine xC ?_ | refine xE ?_ | refine xD ?_ | refine xK ?_ | refine xS ?_ | refine xM ?_ | refine xT ?_ | refine xF ?_ | ((first | refine xR ?_ | refine xW ?_ | refine vq_id ?_); simp only [go_sem, Nat.reduceAdd, Nat.reduceLeDiff, Nat.reduceSub, Int.reduceToNat, reduceCtorEq, hc]) | (refine ⟨by first | omega | (intros; simp_all; done) | (intros; simp_all; omega), ?_⟩; try simp only [go_sem, Nat.reduceAdd, Nat.reduceLeDiff, Nat.reduceSub, Int.reduceToNat, reduceCtorEq, hc]))
    exact AE.ret0 rfl ⟨rfl, trivial⟩ rfl ⟨rfl, by simp [tupOf, AV.st]⟩
end Go.Proofs.YtlpcdpjkdodmcaaDoor
end

section
namespace Go.Proofs.YtlpcdpjkdodmcaaDoor
open Go Go.AL Go.RowKit
set_option maxRecDepth 10000
set_option maxHeartbeats 4000000
def digs (l : List UInt8) : Nat := l.foldl (fun n c => 10 * n + (c.toNat - 48)) 0
def isDig (c : UInt8) : Bool := decide (48 ≤ c.toNat) && decide (c.toNat ≤ 57)
def badHead (l : List UInt8) : Bool := decide (l.length = 0) || decide (10 < l.length) || (decide (1 < l.length) && decide ((l.getD 0 0).toNat = 48))
def numR (a b : Int) (l : List UInt8) : Bool := !badHead l && l.all isDig && decide (a ≤ digs l) && decide ((digs l : Int) ≤ b)
theorem digs_lt (l : List UInt8) (h : ∀ c ∈ l, c.toNat ≤ 57) : digs l < 10 ^ l.length := by
  have : ∀ (l : List UInt8) (n : Nat), (∀ c ∈ l, c.toNat ≤ 57) → l.foldl (fun n c => 10 * n + (c.toNat - 48)) n < (n + 1) * 10 ^ l.length := by
    intro l
    induction l with
    | nil => intro n _; simp
    | cons c l ih =>
      intro n h
      simp only [List.foldl_cons, List.length_cons]
      have h1 := ih (10 * n + (c.toNat - 48)) (fun d hd => h d (by simp [hd]))
      have h2 := h c (by simp)
      have h3 : (10 * n + (c.toNat - 48) + 1) * 10 ^ l.length ≤ (10 * (n + 1)) * 10 ^ l.length := Nat.mul_le_mul_right _ (by omega)
      have h4 : (10 * (n + 1)) * 10 ^ l.length = (n + 1) * 10 ^ (l.length + 1) := by rw [Nat.pow_succ, Nat.mul_comm 10, Nat.mul_assoc, Nat.mul_comm 10]
      omega
  have := this l 0 h
  simpa [digs] using this
theorem digs_lt10 (l : List UInt8) (h : ∀ c ∈ l, isDig c = true) (hl : l.length ≤ 10) : digs l < 10000000000 := by
  have h1 := digs_lt l (fun c hc => by have := h c hc; simp [isDig] at this; exact this.2)
  have h2 : 10 ^ l.length ≤ 10 ^ 10 := Nat.pow_le_pow_right (by decide) hl
  omega
end Go.Proofs.YtlpcdpjkdodmcaaDoor
end

section
namespace Go.Proofs.YtlpcdpjkdodmcaaDoor
open Go Go.AL
theorem digs_snoc (l : List UInt8) (c : UInt8) : digs (l ++ [c]) = 10 * digs l + (c.toNat - 48) := by simp [digs, List.foldl_append]
theorem ofn (d : Nat) (h : d < 10) : (UInt8.ofNat (48 + d)).toNat = 48 + d := by
  rw [UInt8.toNat_ofNat']; omega
theorem dec_facts : ∀ (u : Nat), digs (Lib.decDigits u) = u ∧ (∀ c ∈ Lib.decDigits u, isDig c = true) ∧ Lib.decDigits u ≠ [] ∧ (∀ k, 1 ≤ k → u < 10 ^ k → (Lib.decDigits u).length ≤ k) ∧ (u ≠ 0 → ((Lib.decDigits u).getD 0 0).toNat ≠ 48) ∧ (1 < (Lib.decDigits u).length → u ≠ 0) := by
  intro u
  induction u using Nat.strongRecOn with
  | _ u ih =>
    rw [Lib.decDigits]
    by_cases h : u < 10
    · rw [dif_pos h]
      refine ⟨?_, ?_, by simp, ?_, ?_, by simp⟩
      · simp only [digs, List.foldl_cons, List.foldl_nil, ofn u h]; omega
      · intro c hc
        simp only [List.mem_singleton] at hc
        subst hc
        simp only [isDig, ofn u h, Bool.and_eq_true, decide_eq_true_eq]; omega
      · intro k hk _; simpa using hk
      · intro h0; simp only [List.getD_cons_zero, ofn u h]; omega
    · rw [dif_neg h]
      obtain ⟨h1, h2, h3, h4, h5, h6⟩ := ih (u / 10) (by omega)
      have hm : u % 10 < 10 := Nat.mod_lt _ (by decide)
      refine ⟨?_, ?_, by simp, ?_, ?_, fun _ => by omega⟩
      · rw [digs_snoc, h1, ofn _ hm]; omega
      · intro c hc
        rcases List.mem_append.1 hc with hc | hc
        · exact h2 c hc
        · simp only [List.mem_singleton] at hc
          subst hc
          simp only [isDig, ofn _ hm, Bool.and_eq_true, decide_eq_true_eq]; omega
      · intro k hk hu
        match k, hk with
        | 1, _ => omega
        | k + 2, _ =>
          have := h4 (k + 1) (by omega) (by rw [Nat.pow_succ] at hu; omega)
          rw [List.length_append, List.length_singleton]; omega
      · intro _
        have h7 := h5 (by omega)
        match hd : Lib.decDigits (u / 10), h3 with
        | x :: r, _ => rw [hd] at h7; simpa using h7
theorem dec_uniq : ∀ (n : Nat) (l : List UInt8), l.length = n + 1 → (∀ c ∈ l, isDig c = true) → (1 < l.length → (l.getD 0 0).toNat ≠ 48) → Lib.decDigits (digs l) = l ∧ ((l.getD 0 0).toNat ≠ 48 → digs l ≠ 0)
  | 0, l, hl, hd, _ => by
    match l, hl with
    | [c], _ =>
      have hc := hd c (by simp)
      simp only [isDig, Bool.and_eq_true, decide_eq_true_eq] at hc
      have e : digs [c] = c.toNat - 48 := by simp [digs]
      rw [e]
      refine ⟨?_, fun h => by simp only [List.getD_cons_zero] at h; omega⟩
      rw [Lib.decDigits, dif_pos (by omega)]
      have : UInt8.ofNat (48 + (c.toNat - 48)) = c := by
        rw [show 48 + (c.toNat - 48) = c.toNat by omega]; simp
      rw [this]
  | n + 1, l, hl, hd, hz => by
    obtain ⟨r, c, rfl⟩ : ∃ r c, l = r ++ [c] := by
      rcases List.eq_nil_or_concat l with rfl | ⟨r, c, rfl⟩
      · simp at hl
      · exact ⟨r, c, List.concat_eq_append⟩
    have hrl : r.length = n + 1 := by simp at hl; omega
    have hg : (r ++ [c]).getD 0 0 = r.getD 0 0 := by
      match r, hrl with
      | x :: r, _ => rfl
    rw [hg] at hz ⊢
    have h0 := hz (by rw [List.length_append, List.length_singleton]; omega)
    obtain ⟨h1, h2⟩ := dec_uniq n r hrl (fun d hd' => hd d (by simp [hd'])) (fun _ => h0)
    have hc := hd c (by simp)
    simp only [isDig, Bool.and_eq_true, decide_eq_true_eq] at hc
    have h3 := h2 h0
    rw [digs_snoc]
    refine ⟨?_, fun _ => by omega⟩
    rw [Lib.decDigits, dif_neg (by omega), show (10 * digs r + (c.toNat - 48)) / 10 = digs r by omega, h1, show (10 * digs r + (c.toNat - 48)) % 10 = c.toNat - 48 by omega]
    have : UInt8.ofNat (48 + (c.toNat - 48)) = c := by
      rw [show 48 + (c.toNat - 48) = c.toNat by omega]; simp
    rw [this]
theorem parse_digs : ∀ (l : List UInt8) (acc : Nat), (∀ c ∈ l, isDig c = true) → (l.foldl (fun n c => 10 * n + (c.toNat - 48)) acc) < 100000000000 → Lib.parseUint10 acc l = .ok (l.foldl (fun n c => 10 * n + (c.toNat - 48)) acc)
  | [], acc, _, _ => rfl
  | c :: r, acc, hd, hlt => by
    have hc := hd c (by simp)
    simp only [isDig, Bool.and_eq_true, decide_eq_true_eq] at hc
    have hmono : ∀ (r : List UInt8) (a : Nat), a ≤ r.foldl (fun n c => 10 * n + (c.toNat - 48)) a := by
      intro r
      induction r with
      | nil => intro a; exact Nat.le_refl _
      | cons x r ih => intro a; simp only [List.foldl_cons]; exact Nat.le_trans (by omega) (ih _)
    simp only [List.foldl_cons] at hlt ⊢
    have h1 := hmono r (10 * acc + (c.toNat - 48))
    rw [Lib.parseUint10, if_pos ⟨hc.1, hc.2⟩, if_neg (by omega), if_neg (by omega), show acc * 10 + (c.toNat - 48) = 10 * acc + (c.toNat - 48) by omega]
    exact parse_digs r _ (fun d hd' => hd d (by simp [hd'])) hlt
theorem atoi_digs (l : List UInt8) (hd : ∀ c ∈ l, isDig c = true) (hn : l ≠ []) (hlt : digs l < 100000000000) : atoiV l = ((digs l : Int), true) := by
  match l, hn with
  | c :: r, _ =>
    have hc := hd c (by simp)
    simp only [isDig, Bool.and_eq_true, decide_eq_true_eq] at hc
    have : Lib.atoiAll (c :: r) = .ok (digs (c :: r) : Int) := by
      rw [Lib.atoiAll_plain c r (by omega) (by omega), Lib.parseMag, if_neg (by simp), parse_digs (c :: r) 0 hd hlt]
      show (if 9223372036854775808 ≤ digs (c :: r) then Lib.NumEnd.range else .ok ((digs (c :: r) : Nat) : Int)) = _
      rw [if_neg (by omega)]
    simp only [atoiV, this]
theorem num_same (a b : Int) (l : List UInt8) (ha : 0 ≤ a) (hb : b ≤ 2147483647) : numB a b l = numR a b l := by
  rw [Bool.eq_iff_iff]
  unfold numB numR badHead
  simp only [Bool.and_eq_true, Bool.not_eq_true', Bool.or_eq_false_iff, Bool.and_eq_false_iff, decide_eq_true_eq, decide_eq_false_iff_not, beq_iff_eq, List.all_eq_true]
  constructor
  · rintro ⟨⟨⟨h1, h2⟩, h3⟩, h4⟩
    generalize (atoiV l).1 = n at *
    have e : Lib.itoa n = Lib.decDigits n.toNat := by rw [Lib.itoa, if_neg (by omega)]
    rw [e] at h2
    subst h2
    obtain ⟨f1, f2, f3, f4, f5, f6⟩ := dec_facts n.toNat
    have f7 := f4 10 (by decide) (by omega)
    have hlen : (Lib.decDigits n.toNat).length ≠ 0 := by rw [Ne, List.length_eq_zero_iff]; exact f3
    refine ⟨⟨⟨⟨⟨hlen, by omega⟩, ?_⟩, f2⟩, by rw [f1]; omega⟩, by rw [f1]; omega⟩
    by_cases h : 1 < (Lib.decDigits n.toNat).length
    · exact .inr (f5 (f6 h))
    · exact .inl h
  · rintro ⟨⟨⟨⟨⟨h1, h2⟩, h3⟩, h4⟩, h5⟩, h6⟩
    have hne : l ≠ [] := by rwa [Ne, ← List.length_eq_zero_iff]
    have hlt := digs_lt10 l h4 (by omega)
    rw [atoi_digs l h4 hne (by omega)]
    refine ⟨⟨⟨rfl, ?_⟩, h5⟩, h6⟩
    have e : Lib.itoa (digs l : Int) = Lib.decDigits (digs l) := by rw [Lib.itoa, if_neg (by omega)]; rfl
    show Lib.itoa (digs l : Int) = l
    rw [e]
    exact (dec_uniq (l.length - 1) l (by omega) h4 (fun h => h3.resolve_left (by omega))).1
end Go.Proofs.YtlpcdpjkdodmcaaDoor
end

section
namespace Go.Proofs.YtlpcdpjkdodmcaaDoor
open Go Go.AL Go.RowKit
set_option maxRecDepth 10000
set_option maxHeartbeats 4000000
def pairR (l : List UInt8) : Bool := (cutS l).2.2 && numR 0 2147483647 (cutS l).1 && numR 0 2147483647 (cutS l).2.1
theorem two_same (l : List UInt8) : twoB 0 2147483647 l = pairR l := by
  unfold twoB pairR
  rw [num_same _ _ _ (by decide) (by decide), num_same _ _ _ (by decide) (by decide)]
def bodyB (k : Int) (l : List UInt8) : Bool :=
  if k = 1 then onlyOk l [2, 3] else if k = 3 then onlyOk l [2] else if k = 4 then l == [] || onlyOk l [2] else if k = 5 then numR 1 2147483647 l else if k = 6 then l == [] else if k = 7 then numR 1 16 l else if k = 9 then pairR l else true
def msgE (k n : Int) (l : List UInt8) : Int :=
  if k < 1 ∨ 9 < k then 411 else if n < 1 ∨ 2147483647 < n then 412 else if 20000 < l.length then 4 else if bodyB k l then 0 else 2
end Go.Proofs.YtlpcdpjkdodmcaaDoor
end

section
namespace Go.Proofs.YtlpcdpjkdodmcaaDoor
open Go Go.AL Go.RowKit
set_option maxRecDepth 10000
set_option maxHeartbeats 4000000
theorem any_spec (l : List UInt8) : PFn Tryd.prog 60 [Sv l] (Bv true) := by
  refine ACall.walk [0, 2] [] Tryd.func60 rfl Tryd.ntmps60 (by kernel_rfl) (by rfl) rfl fun W own I0 φ0 lay => ?_
  repeat (first | refine xA ?_ | refine xB ?_ | refine xC ?_ | refine xE ?_ | refine xD ?_ | refine xK ?_ | refine xS ?_ | refine xM ?_ | refine xT ?_ | refine xF ?_ | ((first | refine xR ?_ | refine xW ?_ | refine vq_id ?_); simp only [go_sem, Nat.reduceAdd, Nat.reduceLeDiff, Nat.reduceSub, Int.reduceToNat, reduceCtorEq]) | (refine ⟨by first | omega | (intros; simp_all; done) | (intros; simp_all; omega), ?_⟩; try simp only [go_sem, Nat.reduceAdd, Nat.reduceLeDiff, Nat.reduceSub, Int.reduceToNat, reduceCtorEq]))
  exact AE.ret0 rfl ⟨rfl, trivial⟩ rfl ⟨rfl, rfl⟩
theorem list_spec (l : List UInt8) (hl : l.length ≤ 1000000000) : PFn Tryd.prog 63 [Sv l] (Bv (l == [] || onlyOk l [2])) := by
  have h := isLabel_spec l (by omega)
  refine ACall.walk [0, 2] [] Tryd.func63 rfl Tryd.ntmps63 (by kernel_rfl) (by rfl) rfl fun W own I0 φ0 lay => ?_
  repeat (first | refine xA ?_ | refine xB ?_ | refine xC ?_ | refine xE ?_ | refine xD ?_ | refine xK ?_ | refine xS ?_ | refine xM ?_ | refine xT ?_ | refine xF ?_ | ((first | refine xR ?_ | refine xW ?_ | refine vq_id ?_); simp only [go_sem, Nat.reduceAdd, Nat.reduceLeDiff, Nat.reduceSub, Int.reduceToNat, reduceCtorEq]) | (refine ⟨by first | omega | (intros; simp_all; done) | (intros; simp_all; omega), ?_⟩; try simp only [go_sem, Nat.reduceAdd, Nat.reduceLeDiff, Nat.reduceSub, Int.reduceToNat, reduceCtorEq]))
  refine AQ.fn_g (by kernel_rfl) rfl rfl (fun h => by first | (simp [gs, AV.g]; done) | (simp [gs, AV.g, constAV]; done) | (simp [gs, AV.g, constAV, bw] at h ⊢; done) | (simp [gs, AV.g, constAV, bw] at h ⊢; exact h) | (simp [gs, AV.g, constAV, bw] at h ⊢; simp [h]; done) | (simp [bw] at h; done) | (simp [gs, AV.g, bw] at h ⊢; simp [h]; done) | (simp [gs, AV.g, bw] at h ⊢; exact h.1) | (simp [gs, AV.g]; rfl) | (simp [gs, AV.g, bw] at h ⊢; rfl) | (simp [gs, AV.g, bw] at h ⊢; simp [h]; rfl) | (simp [gs, AV.g, bw] at h ⊢; simp_all)) rfl (fun _ => h) rfl ?_
  repeat (first | refine xA ?_ | refine xB ?_ | refine xC ?_ | refine xE ?_ | refine xD ?_ | refine xK ?_ | refine xS ?_ | refine xM ?_ | refine xT ?_ | refine xF ?_ | ((first | refine xR ?_ | refine xW ?_ | refine vq_id ?_); simp only [go_sem, Nat.reduceAdd, Nat.reduceLeDiff, Nat.reduceSub, Int.reduceToNat, reduceCtorEq]) | (refine ⟨by first | omega | (intros; simp_all; done) | (intros; simp_all; omega), ?_⟩; try simp only [go_sem, Nat.reduceAdd, Nat.reduceLeDiff, Nat.reduceSub, Int.reduceToNat, reduceCtorEq]))
  exact AE.ret0 rfl ⟨rfl, trivial⟩ rfl ⟨rfl, by simp [tupOf, AV.st]⟩
theorem bye_spec (l : List UInt8) : PFn Tryd.prog 65 [Sv l] (Bv (l == [])) := by
  refine ACall.walk [0, 2] [] Tryd.func65 rfl Tryd.ntmps65 (by kernel_rfl) (by rfl) rfl fun W own I0 φ0 lay => ?_
  repeat (first | refine xA ?_ | refine xB ?_ | refine xC ?_ | refine xE ?_ | refine xD ?_ | refine xK ?_ | refine xS ?_ | refine xM ?_ | refine xT ?_ | refine xF ?_ | ((first | refine xR ?_ | refine xW ?_ | refine vq_id ?_); simp only [go_sem, Nat.reduceAdd, Nat.reduceLeDiff, Nat.reduceSub, Int.reduceToNat, reduceCtorEq]) | (refine ⟨by first | omega | (intros; simp_all; done) | (intros; simp_all; omega), ?_⟩; try simp only [go_sem, Nat.reduceAdd, Nat.reduceLeDiff, Nat.reduceSub, Int.reduceToNat, reduceCtorEq]))
  exact AE.ret0 rfl ⟨rfl, trivial⟩ rfl ⟨rfl, rfl⟩
theorem error_spec (k n : Int) (l : List UInt8) : PFn Tryd.prog 34 [.agg [Iv k, Iv n, Sv l]] (Iv (msgE k n l)) := by
  refine ACall.walk [0, 1, 2, 3, 4, 14, 23, 32, 37] [4] Tryd.func34 rfl Tryd.ntmps34 (by kernel_rfl) (by rfl) rfl fun W own I0 φ0 lay => ?_
  have hz : List.replicate 10 Value.nilFunc = [.nilFunc, .nilFunc, .nilFunc, .nilFunc, .nilFunc, .nilFunc, .nilFunc, .nilFunc, .nilFunc, .nilFunc] := rfl
  repeat (first | refine xA ?_ | refine xB ?_ | refine xC ?_ | refine xE ?_ | refine xD ?_ | refine xK ?_ | refine xS ?_ | refine xM ?_ | refine xT ?_ | refine xF ?_ | ((first | refine xR ?_ | refine xW ?_ | refine vq_id ?_); simp only [go_sem, Nat.reduceAdd, Nat.reduceLeDiff, Nat.reduceSub, Int.reduceToNat, reduceCtorEq, hz, List.map_cons, List.map_nil, Nat.reduceMul, List.set_cons_zero, List.set_cons_succ]) | (refine ⟨by first | omega | (intros; simp_all; done) | (intros; simp_all; omega), ?_⟩; try simp only [go_sem, Nat.reduceAdd, Nat.reduceLeDiff, Nat.reduceSub, Int.reduceToNat, reduceCtorEq, hz, List.map_cons, List.map_nil, Nat.reduceMul, List.set_cons_zero, List.set_cons_succ]))
  unfold msgE
  refine AP.cond rfl rfl (fun hc => ?_) (fun hc => ?_)
  · simp only [Bool.or_eq_true, decide_eq_true_eq] at hc
    rw [if_pos hc]
    repeat (first | refine xA ?_ | refine xB ?_ | refine xC ?_ | refine xE ?_ | refine xD ?_ | refine xK ?_ | refine xS ?_ | refine xM ?_ | refine xT ?_ | refine xF ?_ | ((first | refine xR ?_ | refine xW ?_ | refine vq_id ?_); simp only [go_sem, Nat.reduceAdd, Nat.reduceLeDiff, Nat.reduceSub, Int.reduceToNat, reduceCtorEq]) | (refine ⟨by first | omega | (intros; simp_all; done) | (intros; simp_all; omega), ?_⟩; try simp only [go_sem, Nat.reduceAdd, Nat.reduceLeDiff, Nat.reduceSub, Int.reduceToNat, reduceCtorEq]))
    exact AE.ret0 rfl ⟨rfl, trivial⟩ rfl ⟨rfl, rfl⟩
  simp only [Bool.or_eq_false_iff, decide_eq_false_iff_not] at hc
  rw [if_neg (by omega)]
  repeat (first | refine xA ?_ | refine xB ?_ | refine xC ?_ | refine xE ?_ | refine xD ?_ | refine xK ?_ | refine xS ?_ | refine xM ?_ | refine xT ?_ | refine xF ?_ | ((first | refine xR ?_ | refine xW ?_ | refine vq_id ?_); simp only [go_sem, Nat.reduceAdd, Nat.reduceLeDiff, Nat.reduceSub, Int.reduceToNat, reduceCtorEq]) | (refine ⟨by first | omega | (intros; simp_all; done) | (intros; simp_all; omega), ?_⟩; try simp only [go_sem, Nat.reduceAdd, Nat.reduceLeDiff, Nat.reduceSub, Int.reduceToNat, reduceCtorEq]))
  refine AP.cond rfl rfl (fun hc2 => ?_) (fun hc2 => ?_)
  · simp only [Bool.or_eq_true, decide_eq_true_eq] at hc2
    rw [if_pos hc2]
    repeat (first | refine xA ?_ | refine xB ?_ | refine xC ?_ | refine xE ?_ | refine xD ?_ | refine xK ?_ | refine xS ?_ | refine xM ?_ | refine xT ?_ | refine xF ?_ | ((first | refine xR ?_ | refine xW ?_ | refine vq_id ?_); simp only [go_sem, Nat.reduceAdd, Nat.reduceLeDiff, Nat.reduceSub, Int.reduceToNat, reduceCtorEq]) | (refine ⟨by first | omega | (intros; simp_all; done) | (intros; simp_all; omega), ?_⟩; try simp only [go_sem, Nat.reduceAdd, Nat.reduceLeDiff, Nat.reduceSub, Int.reduceToNat, reduceCtorEq]))
    exact AE.ret0 rfl ⟨rfl, trivial⟩ rfl ⟨rfl, rfl⟩
  simp only [Bool.or_eq_false_iff, decide_eq_false_iff_not] at hc2
  rw [if_neg (by omega)]
  repeat (first | refine xA ?_ | refine xB ?_ | refine xC ?_ | refine xE ?_ | refine xD ?_ | refine xK ?_ | refine xS ?_ | refine xM ?_ | refine xT ?_ | refine xF ?_ | ((first | refine xR ?_ | refine xW ?_ | refine vq_id ?_); simp only [go_sem, Nat.reduceAdd, Nat.reduceLeDiff, Nat.reduceSub, Int.reduceToNat, reduceCtorEq, BA_size]) | (refine ⟨by first | omega | (intros; simp_all; done) | (intros; simp_all; omega), ?_⟩; try simp only [go_sem, Nat.reduceAdd, Nat.reduceLeDiff, Nat.reduceSub, Int.reduceToNat, reduceCtorEq, BA_size]))
  refine AP.cond rfl rfl (fun hc3 => ?_) (fun hc3 => ?_)
  · simp only [decide_eq_true_eq] at hc3
    rw [if_pos (by omega)]
    repeat (first | refine xA ?_ | refine xB ?_ | refine xC ?_ | refine xE ?_ | refine xD ?_ | refine xK ?_ | refine xS ?_ | refine xM ?_ | refine xT ?_ | refine xF ?_ | ((first | refine xR ?_ | refine xW ?_ | refine vq_id ?_); simp only [go_sem, Nat.reduceAdd, Nat.reduceLeDiff, Nat.reduceSub, Int.reduceToNat, reduceCtorEq]) | (refine ⟨by first | omega | (intros; simp_all; done) | (intros; simp_all; omega), ?_⟩; try simp only [go_sem, Nat.reduceAdd, Nat.reduceLeDiff, Nat.reduceSub, Int.reduceToNat, reduceCtorEq]))
    exact AE.ret0 rfl ⟨rfl, trivial⟩ rfl ⟨rfl, rfl⟩
  simp only [decide_eq_false_iff_not] at hc3
  rw [if_neg (by omega)]
  have h1 := isSymbol_spec l (by omega)
  have h2 := any_spec l
  have h3 := isLabel_spec l (by omega)
  have h4 := list_spec l (by omega)
  have h5 := one_spec 1 2147483647 l (by omega)
  have h6 := bye_spec l
  have h7 := one_spec 1 16 l (by omega)
  have h9 := two_spec 0 2147483647 l (by omega)
  rw [num_same _ _ _ (by decide) (by decide)] at h5 h7
  rw [two_same] at h9
  have hk : k = 1 ∨ k = 2 ∨ k = 3 ∨ k = 4 ∨ k = 5 ∨ k = 6 ∨ k = 7 ∨ k = 8 ∨ k = 9 := by omega
  clear hc hc2 hc3 hz
  rcases hk with rfl | rfl | rfl | rfl | rfl | rfl | rfl | rfl | rfl
  · have e : bodyB 1 l = (onlyOk l [2, 3]) := by simp [bodyB]
    rw [e]
    generalize (onlyOk l [2, 3]) = b at h1 ⊢
    repeat (first | refine xA ?_ | refine xB ?_ | refine xC ?_ | refine xE ?_ | refine xD ?_ | refine xK ?_ | refine xS ?_ | refine xM ?_ | refine xT ?_ | refine xF ?_ | ((first | refine xR ?_ | refine xW ?_ | refine vq_id ?_); simp only [go_sem, Nat.reduceAdd, Nat.reduceLeDiff, Nat.reduceSub, Int.reduceToNat, reduceCtorEq]) | (refine ⟨by first | omega | (intros; simp_all; done) | (intros; simp_all; omega), ?_⟩; try simp only [go_sem, Nat.reduceAdd, Nat.reduceLeDiff, Nat.reduceSub, Int.reduceToNat, reduceCtorEq]))
    refine AP.drawE 9 (Tree.node [] [0, 1, 2, 3, 4, 5] [6] [Tree.node [] [7, 8] [] []]) (by kernel_rfl) rfl (by kernel_rfl) (by kernel_rfl) ?_
    refine vd_node ?_
    simp only [go_sem, Nat.reduceAdd, Nat.reduceLeDiff, Nat.reduceSub, Int.reduceToNat, reduceCtorEq]
    repeat' (first | with_reducible exact True.intro | with_reducible refine And.intro (by omega) ?_ | with_reducible refine And.intro ?_ ?_ | (refine AQ.nx rfl ?_; simp only [go_sem, Nat.reduceAdd, Nat.reduceLeDiff, Nat.reduceSub, Int.reduceToNat, reduceCtorEq, Int.reduceToNat, Int.reduceLE, Int.reduceLT]) | (refine AQ.fnL ([Sv l]) (by kernel_rfl) rfl rfl rfl (by ((try simp only [List.nil_append, List.append_nil, List.cons_append, List.map_cons, List.map_nil, AV.st, constAV]); repeat (first | with_reducible exact LentC.nil | with_reducible exact LentAs.nil | with_reducible refine LentC.cons ?_ ?_ | with_reducible refine LentAs.cons ?_ ?_ | with_reducible exact Lent.im _ | with_reducible exact LentA.im _ | with_reducible refine LentA.of ?_ | with_reducible refine LentA.agg ?_ | ((with_reducible apply Lent.osw); rfl; simp only [blkR_len, wrR_len, byteR_len, List.length_append, List.length_cons, List.length_nil]) | ((with_reducible apply Lent.ob0); rfl)))) (h1) rfl (fun _ => rfl) ?_; simp only [go_sem, Nat.reduceAdd, Nat.reduceLeDiff, Nat.reduceSub, Int.reduceToNat, reduceCtorEq]) | refine AQ.done ?_ | (refine AQ.go (by kernel_rfl) ?_; simp only [go_sem, Nat.reduceAdd, Nat.reduceLeDiff, Nat.reduceSub, Int.reduceToNat, reduceCtorEq, Int.reduceToNat, Int.reduceLE, Int.reduceLT]; repeat (with_reducible refine And.intro (by omega) ?_); refine AQ.nx rfl ?_; simp only [go_sem, Nat.reduceAdd, Nat.reduceLeDiff, Nat.reduceSub, Int.reduceToNat, reduceCtorEq, Int.reduceToNat, Int.reduceLE, Int.reduceLT]))
    all_goals cases b
    all_goals
      repeat (first | refine xA ?_ | refine xB ?_ | refine xC ?_ | refine xE ?_ | refine xD ?_ | refine xK ?_ | refine xS ?_ | refine xM ?_ | refine xT ?_ | refine xF ?_ | ((first | refine xR ?_ | refine xW ?_ | refine vq_id ?_); simp only [go_sem, Nat.reduceAdd, Nat.reduceLeDiff, Nat.reduceSub, Int.reduceToNat, reduceCtorEq, Bool.not_true, Bool.not_false]) | (refine ⟨by first | omega | (intros; simp_all; done) | (intros; simp_all; omega), ?_⟩; try simp only [go_sem, Nat.reduceAdd, Nat.reduceLeDiff, Nat.reduceSub, Int.reduceToNat, reduceCtorEq, Bool.not_true, Bool.not_false]))
      exact AE.ret0 rfl ⟨rfl, trivial⟩ rfl ⟨rfl, rfl⟩
  · have e : bodyB 2 l = (true) := by simp [bodyB]
    rw [e]
    repeat (first | refine xA ?_ | refine xB ?_ | refine xC ?_ | refine xE ?_ | refine xD ?_ | refine xK ?_ | refine xS ?_ | refine xM ?_ | refine xT ?_ | refine xF ?_ | ((first | refine xR ?_ | refine xW ?_ | refine vq_id ?_); simp only [go_sem, Nat.reduceAdd, Nat.reduceLeDiff, Nat.reduceSub, Int.reduceToNat, reduceCtorEq]) | (refine ⟨by first | omega | (intros; simp_all; done) | (intros; simp_all; omega), ?_⟩; try simp only [go_sem, Nat.reduceAdd, Nat.reduceLeDiff, Nat.reduceSub, Int.reduceToNat, reduceCtorEq]))
    refine AP.drawE 9 (Tree.node [] [0, 1, 2, 3, 4, 5] [6] [Tree.node [] [7, 8] [] []]) (by kernel_rfl) rfl (by kernel_rfl) (by kernel_rfl) ?_
    refine vd_node ?_
    simp only [go_sem, Nat.reduceAdd, Nat.reduceLeDiff, Nat.reduceSub, Int.reduceToNat, reduceCtorEq]
    repeat' (first | with_reducible exact True.intro | with_reducible refine And.intro (by omega) ?_ | with_reducible refine And.intro ?_ ?_ | (refine AQ.nx rfl ?_; simp only [go_sem, Nat.reduceAdd, Nat.reduceLeDiff, Nat.reduceSub, Int.reduceToNat, reduceCtorEq, Int.reduceToNat, Int.reduceLE, Int.reduceLT]) | (refine AQ.fnL ([Sv l]) (by kernel_rfl) rfl rfl rfl (by ((try simp only [List.nil_append, List.append_nil, List.cons_append, List.map_cons, List.map_nil, AV.st, constAV]); repeat (first | with_reducible exact LentC.nil | with_reducible exact LentAs.nil | with_reducible refine LentC.cons ?_ ?_ | with_reducible refine LentAs.cons ?_ ?_ | with_reducible exact Lent.im _ | with_reducible exact LentA.im _ | with_reducible refine LentA.of ?_ | with_reducible refine LentA.agg ?_ | ((with_reducible apply Lent.osw); rfl; simp only [blkR_len, wrR_len, byteR_len, List.length_append, List.length_cons, List.length_nil]) | ((with_reducible apply Lent.ob0); rfl)))) (h2) rfl (fun _ => rfl) ?_; simp only [go_sem, Nat.reduceAdd, Nat.reduceLeDiff, Nat.reduceSub, Int.reduceToNat, reduceCtorEq]) | refine AQ.done ?_ | (refine AQ.go (by kernel_rfl) ?_; simp only [go_sem, Nat.reduceAdd, Nat.reduceLeDiff, Nat.reduceSub, Int.reduceToNat, reduceCtorEq, Int.reduceToNat, Int.reduceLE, Int.reduceLT]; repeat (with_reducible refine And.intro (by omega) ?_); refine AQ.nx rfl ?_; simp only [go_sem, Nat.reduceAdd, Nat.reduceLeDiff, Nat.reduceSub, Int.reduceToNat, reduceCtorEq, Int.reduceToNat, Int.reduceLE, Int.reduceLT]))
    repeat (first | refine xA ?_ | refine xB ?_ | refine xC ?_ | refine xE ?_ | refine xD ?_ | refine xK ?_ | refine xS ?_ | refine xM ?_ | refine xT ?_ | refine xF ?_ | ((first | refine xR ?_ | refine xW ?_ | refine vq_id ?_); simp only [go_sem, Nat.reduceAdd, Nat.reduceLeDiff, Nat.reduceSub, Int.reduceToNat, reduceCtorEq, Bool.not_true]) | (refine ⟨by first | omega | (intros; simp_all; done) | (intros; simp_all; omega), ?_⟩; try simp only [go_sem, Nat.reduceAdd, Nat.reduceLeDiff, Nat.reduceSub, Int.reduceToNat, reduceCtorEq, Bool.not_true]))
    exact AE.ret0 rfl ⟨rfl, trivial⟩ rfl ⟨rfl, rfl⟩
  · have e : bodyB 3 l = (onlyOk l [2]) := by simp [bodyB]
    rw [e]
    generalize (onlyOk l [2]) = b at h3 ⊢
    repeat (first | refine xA ?_ | refine xB ?_ | refine xC ?_ | refine xE ?_ | refine xD ?_ | refine xK ?_ | refine xS ?_ | refine xM ?_ | refine xT ?_ | refine xF ?_ | ((first | refine xR ?_ | refine xW ?_ | refine vq_id ?_); simp only [go_sem, Nat.reduceAdd, Nat.reduceLeDiff, Nat.reduceSub, Int.reduceToNat, reduceCtorEq]) | (refine ⟨by first | omega | (intros; simp_all; done) | (intros; simp_all; omega), ?_⟩; try simp only [go_sem, Nat.reduceAdd, Nat.reduceLeDiff, Nat.reduceSub, Int.reduceToNat, reduceCtorEq]))
    refine AP.drawE 9 (Tree.node [] [0, 1, 2, 3, 4, 5] [6] [Tree.node [] [7, 8] [] []]) (by kernel_rfl) rfl (by kernel_rfl) (by kernel_rfl) ?_
    refine vd_node ?_
    simp only [go_sem, Nat.reduceAdd, Nat.reduceLeDiff, Nat.reduceSub, Int.reduceToNat, reduceCtorEq]
    repeat' (first | with_reducible exact True.intro | with_reducible refine And.intro (by omega) ?_ | with_reducible refine And.intro ?_ ?_ | (refine AQ.nx rfl ?_; simp only [go_sem, Nat.reduceAdd, Nat.reduceLeDiff, Nat.reduceSub, Int.reduceToNat, reduceCtorEq, Int.reduceToNat, Int.reduceLE, Int.reduceLT]) | (refine AQ.fnL ([Sv l]) (by kernel_rfl) rfl rfl rfl (by ((try simp only [List.nil_append, List.append_nil, List.cons_append, List.map_cons, List.map_nil, AV.st, constAV]); repeat (first | with_reducible exact LentC.nil | with_reducible exact LentAs.nil | with_reducible refine LentC.cons ?_ ?_ | with_reducible refine LentAs.cons ?_ ?_ | with_reducible exact Lent.im _ | with_reducible exact LentA.im _ | with_reducible refine LentA.of ?_ | with_reducible refine LentA.agg ?_ | ((with_reducible apply Lent.osw); rfl; simp only [blkR_len, wrR_len, byteR_len, List.length_append, List.length_cons, List.length_nil]) | ((with_reducible apply Lent.ob0); rfl)))) (h3) rfl (fun _ => rfl) ?_; simp only [go_sem, Nat.reduceAdd, Nat.reduceLeDiff, Nat.reduceSub, Int.reduceToNat, reduceCtorEq]) | refine AQ.done ?_ | (refine AQ.go (by kernel_rfl) ?_; simp only [go_sem, Nat.reduceAdd, Nat.reduceLeDiff, Nat.reduceSub, Int.reduceToNat, reduceCtorEq, Int.reduceToNat, Int.reduceLE, Int.reduceLT]; repeat (with_reducible refine And.intro (by omega) ?_); refine AQ.nx rfl ?_; simp only [go_sem, Nat.reduceAdd, Nat.reduceLeDiff, Nat.reduceSub, Int.reduceToNat, reduceCtorEq, Int.reduceToNat, Int.reduceLE, Int.reduceLT]))
    all_goals cases b
    all_goals
      repeat (first | refine xA ?_ | refine xB ?_ | refine xC ?_ | refine xE ?_ | refine xD ?_ | refine xK ?_ | refine xS ?_ | refine xM ?_ | refine xT ?_ | refine xF ?_ | ((first | refine xR ?_ | refine xW ?_ | refine vq_id ?_); simp only [go_sem, Nat.reduceAdd, Nat.reduceLeDiff, Nat.reduceSub, Int.reduceToNat, reduceCtorEq, Bool.not_true, Bool.not_false]) | (refine ⟨by first | omega | (intros; simp_all; done) | (intros; simp_all; omega), ?_⟩; try simp only [go_sem, Nat.reduceAdd, Nat.reduceLeDiff, Nat.reduceSub, Int.reduceToNat, reduceCtorEq, Bool.not_true, Bool.not_false]))
      exact AE.ret0 rfl ⟨rfl, trivial⟩ rfl ⟨rfl, rfl⟩
  · have e : bodyB 4 l = (l == [] || onlyOk l [2]) := by simp [bodyB]
    rw [e]
    generalize (l == [] || onlyOk l [2]) = b at h4 ⊢
    repeat (first | refine xA ?_ | refine xB ?_ | refine xC ?_ | refine xE ?_ | refine xD ?_ | refine xK ?_ | refine xS ?_ | refine xM ?_ | refine xT ?_ | refine xF ?_ | ((first | refine xR ?_ | refine xW ?_ | refine vq_id ?_); simp only [go_sem, Nat.reduceAdd, Nat.reduceLeDiff, Nat.reduceSub, Int.reduceToNat, reduceCtorEq]) | (refine ⟨by first | omega | (intros; simp_all; done) | (intros; simp_all; omega), ?_⟩; try simp only [go_sem, Nat.reduceAdd, Nat.reduceLeDiff, Nat.reduceSub, Int.reduceToNat, reduceCtorEq]))
    refine AP.drawE 9 (Tree.node [] [0, 1, 2, 3, 4, 5] [6] [Tree.node [] [7, 8] [] []]) (by kernel_rfl) rfl (by kernel_rfl) (by kernel_rfl) ?_
    refine vd_node ?_
    simp only [go_sem, Nat.reduceAdd, Nat.reduceLeDiff, Nat.reduceSub, Int.reduceToNat, reduceCtorEq]
    repeat' (first | with_reducible exact True.intro | with_reducible refine And.intro (by omega) ?_ | with_reducible refine And.intro ?_ ?_ | (refine AQ.nx rfl ?_; simp only [go_sem, Nat.reduceAdd, Nat.reduceLeDiff, Nat.reduceSub, Int.reduceToNat, reduceCtorEq, Int.reduceToNat, Int.reduceLE, Int.reduceLT]) | (refine AQ.fnL ([Sv l]) (by kernel_rfl) rfl rfl rfl (by ((try simp only [List.nil_append, List.append_nil, List.cons_append, List.map_cons, List.map_nil, AV.st, constAV]); repeat (first | with_reducible exact LentC.nil | with_reducible exact LentAs.nil | with_reducible refine LentC.cons ?_ ?_ | with_reducible refine LentAs.cons ?_ ?_ | with_reducible exact Lent.im _ | with_reducible exact LentA.im _ | with_reducible refine LentA.of ?_ | with_reducible refine LentA.agg ?_ | ((with_reducible apply Lent.osw); rfl; simp only [blkR_len, wrR_len, byteR_len, List.length_append, List.length_cons, List.length_nil]) | ((with_reducible apply Lent.ob0); rfl)))) (h4) rfl (fun _ => rfl) ?_; simp only [go_sem, Nat.reduceAdd, Nat.reduceLeDiff, Nat.reduceSub, Int.reduceToNat, reduceCtorEq]) | refine AQ.done ?_ | (refine AQ.go (by kernel_rfl) ?_; simp only [go_sem, Nat.reduceAdd, Nat.reduceLeDiff, Nat.reduceSub, Int.reduceToNat, reduceCtorEq, Int.reduceToNat, Int.reduceLE, Int.reduceLT]; repeat (with_reducible refine And.intro (by omega) ?_); refine AQ.nx rfl ?_; simp only [go_sem, Nat.reduceAdd, Nat.reduceLeDiff, Nat.reduceSub, Int.reduceToNat, reduceCtorEq, Int.reduceToNat, Int.reduceLE, Int.reduceLT]))
    all_goals cases b
    all_goals
      repeat (first | refine xA ?_ | refine xB ?_ | refine xC ?_ | refine xE ?_ | refine xD ?_ | refine xK ?_ | refine xS ?_ | refine xM ?_ | refine xT ?_ | refine xF ?_ | ((first | refine xR ?_ | refine xW ?_ | refine vq_id ?_); simp only [go_sem, Nat.reduceAdd, Nat.reduceLeDiff, Nat.reduceSub, Int.reduceToNat, reduceCtorEq, Bool.not_true, Bool.not_false]) | (refine ⟨by first | omega | (intros; simp_all; done) | (intros; simp_all; omega), ?_⟩; try simp only [go_sem, Nat.reduceAdd, Nat.reduceLeDiff, Nat.reduceSub, Int.reduceToNat, reduceCtorEq, Bool.not_true, Bool.not_false]))
      exact AE.ret0 rfl ⟨rfl, trivial⟩ rfl ⟨rfl, rfl⟩
  · have e : bodyB 5 l = (numR 1 2147483647 l) := by simp [bodyB]
    rw [e]
    generalize (numR 1 2147483647 l) = b at h5 ⊢
    repeat (first | refine xA ?_ | refine xB ?_ | refine xC ?_ | refine xE ?_ | refine xD ?_ | refine xK ?_ | refine xS ?_ | refine xM ?_ | refine xT ?_ | refine xF ?_ | ((first | refine xR ?_ | refine xW ?_ | refine vq_id ?_); simp only [go_sem, Nat.reduceAdd, Nat.reduceLeDiff, Nat.reduceSub, Int.reduceToNat, reduceCtorEq]) | (refine ⟨by first | omega | (intros; simp_all; done) | (intros; simp_all; omega), ?_⟩; try simp only [go_sem, Nat.reduceAdd, Nat.reduceLeDiff, Nat.reduceSub, Int.reduceToNat, reduceCtorEq]))
    refine AP.drawE 9 (Tree.node [] [0, 1, 2, 3, 4, 5] [6] [Tree.node [] [7, 8] [] []]) (by kernel_rfl) rfl (by kernel_rfl) (by kernel_rfl) ?_
    refine vd_node ?_
    simp only [go_sem, Nat.reduceAdd, Nat.reduceLeDiff, Nat.reduceSub, Int.reduceToNat, reduceCtorEq]
    repeat' (first | with_reducible exact True.intro | with_reducible refine And.intro (by omega) ?_ | with_reducible refine And.intro ?_ ?_ | (refine AQ.nx rfl ?_; simp only [go_sem, Nat.reduceAdd, Nat.reduceLeDiff, Nat.reduceSub, Int.reduceToNat, reduceCtorEq, Int.reduceToNat, Int.reduceLE, Int.reduceLT]) | (refine AQ.fnL ([.agg [Iv 1, Iv 2147483647], Sv l]) (by kernel_rfl) rfl rfl rfl (by ((try simp only [List.nil_append, List.append_nil, List.cons_append, List.map_cons, List.map_nil, AV.st, constAV]); repeat (first | with_reducible exact LentC.nil | with_reducible exact LentAs.nil | with_reducible refine LentC.cons ?_ ?_ | with_reducible refine LentAs.cons ?_ ?_ | with_reducible exact Lent.im _ | with_reducible exact LentA.im _ | with_reducible refine LentA.of ?_ | with_reducible refine LentA.agg ?_ | ((with_reducible apply Lent.osw); rfl; simp only [blkR_len, wrR_len, byteR_len, List.length_append, List.length_cons, List.length_nil]) | ((with_reducible apply Lent.ob0); rfl)))) (h5) rfl (fun _ => rfl) ?_; simp only [go_sem, Nat.reduceAdd, Nat.reduceLeDiff, Nat.reduceSub, Int.reduceToNat, reduceCtorEq]) | refine AQ.done ?_ | (refine AQ.go (by kernel_rfl) ?_; simp only [go_sem, Nat.reduceAdd, Nat.reduceLeDiff, Nat.reduceSub, Int.reduceToNat, reduceCtorEq, Int.reduceToNat, Int.reduceLE, Int.reduceLT]; repeat (with_reducible refine And.intro (by omega) ?_); refine AQ.nx rfl ?_; simp only [go_sem, Nat.reduceAdd, Nat.reduceLeDiff, Nat.reduceSub, Int.reduceToNat, reduceCtorEq, Int.reduceToNat, Int.reduceLE, Int.reduceLT]))
    all_goals cases b
    all_goals
      repeat (first | refine xA ?_ | refine xB ?_ | refine xC ?_ | refine xE ?_ | refine xD ?_ | refine xK ?_ | refine xS ?_ | refine xM ?_ | refine xT ?_ | refine xF ?_ | ((first | refine xR ?_ | refine xW ?_ | refine vq_id ?_); simp only [go_sem, Nat.reduceAdd, Nat.reduceLeDiff, Nat.reduceSub, Int.reduceToNat, reduceCtorEq, Bool.not_true, Bool.not_false]) | (refine ⟨by first | omega | (intros; simp_all; done) | (intros; simp_all; omega), ?_⟩; try simp only [go_sem, Nat.reduceAdd, Nat.reduceLeDiff, Nat.reduceSub, Int.reduceToNat, reduceCtorEq, Bool.not_true, Bool.not_false]))
      exact AE.ret0 rfl ⟨rfl, trivial⟩ rfl ⟨rfl, rfl⟩
  · have e : bodyB 6 l = (l == []) := by simp [bodyB]
    rw [e]
    generalize (l == []) = b at h6 ⊢
    repeat (first | refine xA ?_ | refine xB ?_ | refine xC ?_ | refine xE ?_ | refine xD ?_ | refine xK ?_ | refine xS ?_ | refine xM ?_ | refine xT ?_ | refine xF ?_ | ((first | refine xR ?_ | refine xW ?_ | refine vq_id ?_); simp only [go_sem, Nat.reduceAdd, Nat.reduceLeDiff, Nat.reduceSub, Int.reduceToNat, reduceCtorEq]) | (refine ⟨by first | omega | (intros; simp_all; done) | (intros; simp_all; omega), ?_⟩; try simp only [go_sem, Nat.reduceAdd, Nat.reduceLeDiff, Nat.reduceSub, Int.reduceToNat, reduceCtorEq]))
    refine AP.drawE 9 (Tree.node [] [0, 1, 2, 3, 4, 5] [6] [Tree.node [] [7, 8] [] []]) (by kernel_rfl) rfl (by kernel_rfl) (by kernel_rfl) ?_
    refine vd_node ?_
    simp only [go_sem, Nat.reduceAdd, Nat.reduceLeDiff, Nat.reduceSub, Int.reduceToNat, reduceCtorEq]
    repeat' (first | with_reducible exact True.intro | with_reducible refine And.intro (by omega) ?_ | with_reducible refine And.intro ?_ ?_ | (refine AQ.nx rfl ?_; simp only [go_sem, Nat.reduceAdd, Nat.reduceLeDiff, Nat.reduceSub, Int.reduceToNat, reduceCtorEq, Int.reduceToNat, Int.reduceLE, Int.reduceLT]) | (refine AQ.fnL ([Sv l]) (by kernel_rfl) rfl rfl rfl (by ((try simp only [List.nil_append, List.append_nil, List.cons_append, List.map_cons, List.map_nil, AV.st, constAV]); repeat (first | with_reducible exact LentC.nil | with_reducible exact LentAs.nil | with_reducible refine LentC.cons ?_ ?_ | with_reducible refine LentAs.cons ?_ ?_ | with_reducible exact Lent.im _ | with_reducible exact LentA.im _ | with_reducible refine LentA.of ?_ | with_reducible refine LentA.agg ?_ | ((with_reducible apply Lent.osw); rfl; simp only [blkR_len, wrR_len, byteR_len, List.length_append, List.length_cons, List.length_nil]) | ((with_reducible apply Lent.ob0); rfl)))) (h6) rfl (fun _ => rfl) ?_; simp only [go_sem, Nat.reduceAdd, Nat.reduceLeDiff, Nat.reduceSub, Int.reduceToNat, reduceCtorEq]) | refine AQ.done ?_ | (refine AQ.go (by kernel_rfl) ?_; simp only [go_sem, Nat.reduceAdd, Nat.reduceLeDiff, Nat.reduceSub, Int.reduceToNat, reduceCtorEq, Int.reduceToNat, Int.reduceLE, Int.reduceLT]; repeat (with_reducible refine And.intro (by omega) ?_); refine AQ.nx rfl ?_; simp only [go_sem, Nat.reduceAdd, Nat.reduceLeDiff, Nat.reduceSub, Int.reduceToNat, reduceCtorEq, Int.reduceToNat, Int.reduceLE, Int.reduceLT]))
    all_goals cases b
    all_goals
      repeat (first | refine xA ?_ | refine xB ?_ | refine xC ?_ | refine xE ?_ | refine xD ?_ | refine xK ?_ | refine xS ?_ | refine xM ?_ | refine xT ?_ | refine xF ?_ | ((first | refine xR ?_ | refine xW ?_ | refine vq_id ?_); simp only [go_sem, Nat.reduceAdd, Nat.reduceLeDiff, Nat.reduceSub, Int.reduceToNat, reduceCtorEq, Bool.not_true, Bool.not_false]) | (refine ⟨by first | omega | (intros; simp_all; done) | (intros; simp_all; omega), ?_⟩; try simp only [go_sem, Nat.reduceAdd, Nat.reduceLeDiff, Nat.reduceSub, Int.reduceToNat, reduceCtorEq, Bool.not_true, Bool.not_false]))
      exact AE.ret0 rfl ⟨rfl, trivial⟩ rfl ⟨rfl, rfl⟩
  · have e : bodyB 7 l = (numR 1 16 l) := by simp [bodyB]
    rw [e]
    generalize (numR 1 16 l) = b at h7 ⊢
    repeat (first | refine xA ?_ | refine xB ?_ | refine xC ?_ | refine xE ?_ | refine xD ?_ | refine xK ?_ | refine xS ?_ | refine xM ?_ | refine xT ?_ | refine xF ?_ | ((first | refine xR ?_ | refine xW ?_ | refine vq_id ?_); simp only [go_sem, Nat.reduceAdd, Nat.reduceLeDiff, Nat.reduceSub, Int.reduceToNat, reduceCtorEq]) | (refine ⟨by first | omega | (intros; simp_all; done) | (intros; simp_all; omega), ?_⟩; try simp only [go_sem, Nat.reduceAdd, Nat.reduceLeDiff, Nat.reduceSub, Int.reduceToNat, reduceCtorEq]))
    refine AP.drawE 9 (Tree.node [] [0, 1, 2, 3, 4, 5] [6] [Tree.node [] [7, 8] [] []]) (by kernel_rfl) rfl (by kernel_rfl) (by kernel_rfl) ?_
    refine vd_node ?_
    simp only [go_sem, Nat.reduceAdd, Nat.reduceLeDiff, Nat.reduceSub, Int.reduceToNat, reduceCtorEq]
    repeat' (first | with_reducible exact True.intro | with_reducible refine And.intro (by omega) ?_ | with_reducible refine And.intro ?_ ?_ | (refine AQ.nx rfl ?_; simp only [go_sem, Nat.reduceAdd, Nat.reduceLeDiff, Nat.reduceSub, Int.reduceToNat, reduceCtorEq, Int.reduceToNat, Int.reduceLE, Int.reduceLT]) | (refine AQ.fnL ([.agg [Iv 1, Iv 16], Sv l]) (by kernel_rfl) rfl rfl rfl (by ((try simp only [List.nil_append, List.append_nil, List.cons_append, List.map_cons, List.map_nil, AV.st, constAV]); repeat (first | with_reducible exact LentC.nil | with_reducible exact LentAs.nil | with_reducible refine LentC.cons ?_ ?_ | with_reducible refine LentAs.cons ?_ ?_ | with_reducible exact Lent.im _ | with_reducible exact LentA.im _ | with_reducible refine LentA.of ?_ | with_reducible refine LentA.agg ?_ | ((with_reducible apply Lent.osw); rfl; simp only [blkR_len, wrR_len, byteR_len, List.length_append, List.length_cons, List.length_nil]) | ((with_reducible apply Lent.ob0); rfl)))) (h7) rfl (fun _ => rfl) ?_; simp only [go_sem, Nat.reduceAdd, Nat.reduceLeDiff, Nat.reduceSub, Int.reduceToNat, reduceCtorEq]) | refine AQ.done ?_ | (refine AQ.go (by kernel_rfl) ?_; simp only [go_sem, Nat.reduceAdd, Nat.reduceLeDiff, Nat.reduceSub, Int.reduceToNat, reduceCtorEq, Int.reduceToNat, Int.reduceLE, Int.reduceLT]; repeat (with_reducible refine And.intro (by omega) ?_); refine AQ.nx rfl ?_; simp only [go_sem, Nat.reduceAdd, Nat.reduceLeDiff, Nat.reduceSub, Int.reduceToNat, reduceCtorEq, Int.reduceToNat, Int.reduceLE, Int.reduceLT]))
    all_goals cases b
    all_goals
      repeat (first | refine xA ?_ | refine xB ?_ | refine xC ?_ | refine xE ?_ | refine xD ?_ | refine xK ?_ | refine xS ?_ | refine xM ?_ | refine xT ?_ | refine xF ?_ | ((first | refine xR ?_ | refine xW ?_ | refine vq_id ?_); simp only [go_sem, Nat.reduceAdd, Nat.reduceLeDiff, Nat.reduceSub, Int.reduceToNat, reduceCtorEq, Bool.not_true, Bool.not_false]) | (refine ⟨by first | omega | (intros; simp_all; done) | (intros; simp_all; omega), ?_⟩; try simp only [go_sem, Nat.reduceAdd, Nat.reduceLeDiff, Nat.reduceSub, Int.reduceToNat, reduceCtorEq, Bool.not_true, Bool.not_false]))
      exact AE.ret0 rfl ⟨rfl, trivial⟩ rfl ⟨rfl, rfl⟩
  · have e : bodyB 8 l = (true) := by simp [bodyB]
    rw [e]
    repeat (first | refine xA ?_ | refine xB ?_ | refine xC ?_ | refine xE ?_ | refine xD ?_ | refine xK ?_ | refine xS ?_ | refine xM ?_ | refine xT ?_ | refine xF ?_ | ((first | refine xR ?_ | refine xW ?_ | refine vq_id ?_); simp only [go_sem, Nat.reduceAdd, Nat.reduceLeDiff, Nat.reduceSub, Int.reduceToNat, reduceCtorEq]) | (refine ⟨by first | omega | (intros; simp_all; done) | (intros; simp_all; omega), ?_⟩; try simp only [go_sem, Nat.reduceAdd, Nat.reduceLeDiff, Nat.reduceSub, Int.reduceToNat, reduceCtorEq]))
    refine AP.drawE 9 (Tree.node [] [0, 1, 2, 3, 4, 5] [6] [Tree.node [] [7, 8] [] []]) (by kernel_rfl) rfl (by kernel_rfl) (by kernel_rfl) ?_
    refine vd_node ?_
    simp only [go_sem, Nat.reduceAdd, Nat.reduceLeDiff, Nat.reduceSub, Int.reduceToNat, reduceCtorEq]
    repeat' (first | with_reducible exact True.intro | with_reducible refine And.intro (by omega) ?_ | with_reducible refine And.intro ?_ ?_ | (refine AQ.nx rfl ?_; simp only [go_sem, Nat.reduceAdd, Nat.reduceLeDiff, Nat.reduceSub, Int.reduceToNat, reduceCtorEq, Int.reduceToNat, Int.reduceLE, Int.reduceLT]) | (refine AQ.fnL ([Sv l]) (by kernel_rfl) rfl rfl rfl (by ((try simp only [List.nil_append, List.append_nil, List.cons_append, List.map_cons, List.map_nil, AV.st, constAV]); repeat (first | with_reducible exact LentC.nil | with_reducible exact LentAs.nil | with_reducible refine LentC.cons ?_ ?_ | with_reducible refine LentAs.cons ?_ ?_ | with_reducible exact Lent.im _ | with_reducible exact LentA.im _ | with_reducible refine LentA.of ?_ | with_reducible refine LentA.agg ?_ | ((with_reducible apply Lent.osw); rfl; simp only [blkR_len, wrR_len, byteR_len, List.length_append, List.length_cons, List.length_nil]) | ((with_reducible apply Lent.ob0); rfl)))) (h2) rfl (fun _ => rfl) ?_; simp only [go_sem, Nat.reduceAdd, Nat.reduceLeDiff, Nat.reduceSub, Int.reduceToNat, reduceCtorEq]) | refine AQ.done ?_ | (refine AQ.go (by kernel_rfl) ?_; simp only [go_sem, Nat.reduceAdd, Nat.reduceLeDiff, Nat.reduceSub, Int.reduceToNat, reduceCtorEq, Int.reduceToNat, Int.reduceLE, Int.reduceLT]; repeat (with_reducible refine And.intro (by omega) ?_); refine AQ.nx rfl ?_; simp only [go_sem, Nat.reduceAdd, Nat.reduceLeDiff, Nat.reduceSub, Int.reduceToNat, reduceCtorEq, Int.reduceToNat, Int.reduceLE, Int.reduceLT]))
    repeat (first | refine xA ?_ | refine xB ?_ | refine xC ?_ | refine xE ?_ | refine xD ?_ | refine xK ?_ | refine xS ?_ | refine xM ?_ | refine xT ?_ | refine xF ?_ | ((first | refine xR ?_ | refine xW ?_ | refine vq_id ?_); simp only [go_sem, Nat.reduceAdd, Nat.reduceLeDiff, Nat.reduceSub, Int.reduceToNat, reduceCtorEq, Bool.not_true]) | (refine ⟨by first | omega | (intros; simp_all; done) | (intros; simp_all; omega), ?_⟩; try simp only [go_sem, Nat.reduceAdd, Nat.reduceLeDiff, Nat.reduceSub, Int.reduceToNat, reduceCtorEq, Bool.not_true]))
    exact AE.ret0 rfl ⟨rfl, trivial⟩ rfl ⟨rfl, rfl⟩
  · have e : bodyB 9 l = (pairR l) := by simp [bodyB]
    rw [e]
    generalize (pairR l) = b at h9 ⊢
    repeat (first | refine xA ?_ | refine xB ?_ | refine xC ?_ | refine xE ?_ | refine xD ?_ | refine xK ?_ | refine xS ?_ | refine xM ?_ | refine xT ?_ | refine xF ?_ | ((first | refine xR ?_ | refine xW ?_ | refine vq_id ?_); simp only [go_sem, Nat.reduceAdd, Nat.reduceLeDiff, Nat.reduceSub, Int.reduceToNat, reduceCtorEq]) | (refine ⟨by first | omega | (intros; simp_all; done) | (intros; simp_all; omega), ?_⟩; try simp only [go_sem, Nat.reduceAdd, Nat.reduceLeDiff, Nat.reduceSub, Int.reduceToNat, reduceCtorEq]))
    refine AP.drawE 9 (Tree.node [] [0, 1, 2, 3, 4, 5] [6] [Tree.node [] [7, 8] [] []]) (by kernel_rfl) rfl (by kernel_rfl) (by kernel_rfl) ?_
    refine vd_node ?_
    simp only [go_sem, Nat.reduceAdd, Nat.reduceLeDiff, Nat.reduceSub, Int.reduceToNat, reduceCtorEq]
    repeat' (first | with_reducible exact True.intro | with_reducible refine And.intro (by omega) ?_ | with_reducible refine And.intro ?_ ?_ | (refine AQ.nx rfl ?_; simp only [go_sem, Nat.reduceAdd, Nat.reduceLeDiff, Nat.reduceSub, Int.reduceToNat, reduceCtorEq, Int.reduceToNat, Int.reduceLE, Int.reduceLT]) | (refine AQ.fnL ([.agg [Iv 0, Iv 2147483647], Sv l]) (by kernel_rfl) rfl rfl rfl (by ((try simp only [List.nil_append, List.append_nil, List.cons_append, List.map_cons, List.map_nil, AV.st, constAV]); repeat (first | with_reducible exact LentC.nil | with_reducible exact LentAs.nil | with_reducible refine LentC.cons ?_ ?_ | with_reducible refine LentAs.cons ?_ ?_ | with_reducible exact Lent.im _ | with_reducible exact LentA.im _ | with_reducible refine LentA.of ?_ | with_reducible refine LentA.agg ?_ | ((with_reducible apply Lent.osw); rfl; simp only [blkR_len, wrR_len, byteR_len, List.length_append, List.length_cons, List.length_nil]) | ((with_reducible apply Lent.ob0); rfl)))) (h9) rfl (fun _ => rfl) ?_; simp only [go_sem, Nat.reduceAdd, Nat.reduceLeDiff, Nat.reduceSub, Int.reduceToNat, reduceCtorEq]) | refine AQ.done ?_ | (refine AQ.go (by kernel_rfl) ?_; simp only [go_sem, Nat.reduceAdd, Nat.reduceLeDiff, Nat.reduceSub, Int.reduceToNat, reduceCtorEq, Int.reduceToNat, Int.reduceLE, Int.reduceLT]; repeat (with_reducible refine And.intro (by omega) ?_); refine AQ.nx rfl ?_; simp only [go_sem, Nat.reduceAdd, Nat.reduceLeDiff, Nat.reduceSub, Int.reduceToNat, reduceCtorEq, Int.reduceToNat, Int.reduceLE, Int.reduceLT]))
    all_goals cases b
    all_goals
      repeat (first | refine xA ?_ | refine xB ?_ | refine xC ?_ | refine xE ?_ | refine xD ?_ | refine xK ?_ | refine xS ?_ | refine xM ?_ | refine xT ?_ | refine xF ?_ | ((first | refine xR ?_ | refine xW ?_ | refine vq_id ?_); simp only [go_sem, Nat.reduceAdd, Nat.reduceLeDiff, Nat.reduceSub, Int.reduceToNat, reduceCtorEq, Bool.not_true, Bool.not_false]) | (refine ⟨by first | omega | (intros; simp_all; done) | (intros; simp_all; omega), ?_⟩; try simp only [go_sem, Nat.reduceAdd, Nat.reduceLeDiff, Nat.reduceSub, Int.reduceToNat, reduceCtorEq, Bool.not_true, Bool.not_false]))
      exact AE.ret0 rfl ⟨rfl, trivial⟩ rfl ⟨rfl, rfl⟩
end Go.Proofs.YtlpcdpjkdodmcaaDoor
end

section
namespace Go.Proofs.YtlpcdpjkdodmcaaDoor
open Go Go.AL Go.RowKit
set_option maxRecDepth 10000
set_option maxHeartbeats 4000000
def inner (k n : Nat) (l : List UInt8) : List UInt8 := UInt8.ofNat k :: (be4 n ++ l)
def frame (k n : Nat) (l : List UInt8) : List UInt8 := be4 (l.length + 9) ++ (inner k n l ++ be4 (adSum (inner k n l)))
theorem be4_len (n : Nat) : (be4 n).length = 4 := rfl
theorem adSum_lt (l : List UInt8) : adSum l < 4294967296 := by
  obtain ⟨h1, h2⟩ := ad_lt l
  unfold adSum
  omega
theorem u8k (k : Nat) : IntKind.u8.wrap (k : Int) = ((UInt8.ofNat k).toNat : Int) := u8w k
theorem msgE_ok {k n : Int} {l : List UInt8} (h : msgE k n l = 0) : 1 ≤ k ∧ k ≤ 9 ∧ 1 ≤ n ∧ n ≤ 2147483647 ∧ l.length ≤ 20000 ∧ bodyB k l = true := by
  unfold msgE at h
  split at h
  · simp at h
  split at h
  · simp at h
  split at h
  · simp at h
  split at h
  · rename_i h1 h2 h3 h4
    exact ⟨by omega, by omega, by omega, by omega, by omega, h4⟩
  · simp at h
abbrev nilS : AV := .im (.v (.slice none 0 0))
def encV (k n : Int) (l : List UInt8) : AV := if msgE k n l = 0 then .tup [.im (.sl 1 (byteR (frame k.toNat n.toNat l))), Iv 0] else .tup [nilS, Iv (msgE k n l)]
theorem encode_spec (k n : Int) (l : List UInt8) : PFn Tryd.prog 8 [.agg [Iv k, Iv n, Sv l]] (encV k n l) := by
  have hs := error_spec k n l
  unfold encV
  obtain ⟨e, he⟩ : ∃ e, msgE k n l = e := ⟨_, rfl⟩
  rw [he] at hs ⊢
  by_cases h0 : e = 0
  · subst h0
    rw [if_pos rfl]
    obtain ⟨h1, h2, h3, h4, h5, h6⟩ := msgE_ok he
    obtain ⟨K, rfl⟩ : ∃ K : Nat, k = K := ⟨k.toNat, by omega⟩
    obtain ⟨N, rfl⟩ : ∃ N : Nat, n = N := ⟨n.toNat, by omega⟩
    clear he h6
    have b1 := bytesOf_spec (l.length + 9) (by omega)
    have b2 := bytesOf_spec N (by omega)
    have w1 : IntKind.i64.wrap ((l.length : Int) + 9) = ((l.length + 9 : Nat) : Int) := wr (by omega)
    have w2 := u32w (l.length + 9) (by omega)
    have w3 := u32w N (by omega)
    have w4 := u8k K
    refine ACall.walk [0, 1, 2, 3, 4, 5, 6, 7, 8, 12] [5, 6, 8] Tryd.func8 rfl Tryd.ntmps8 (by kernel_rfl) (by rfl) rfl fun W own I0 φ0 lay => ?_
    repeat (first | refine xA ?_ | refine xB ?_ | refine xC ?_ | refine xE ?_ | refine xD ?_ | refine xK ?_ | refine xS ?_ | refine xM ?_ | refine xT ?_ | refine xF ?_ | ((first | refine xR ?_ | refine xW ?_ | refine vq_id ?_); simp only [go_sem, Nat.reduceAdd, Nat.reduceLeDiff, Nat.reduceSub, Int.reduceToNat, reduceCtorEq]) | (refine ⟨by first | omega | (intros; simp_all; done) | (intros; simp_all; omega), ?_⟩; try simp only [go_sem, Nat.reduceAdd, Nat.reduceLeDiff, Nat.reduceSub, Int.reduceToNat, reduceCtorEq]))
    refine AQ.fn (by kernel_rfl) rfl rfl rfl (hs) rfl ?_
    repeat (first | refine xA ?_ | refine xB ?_ | refine xC ?_ | refine xE ?_ | refine xD ?_ | refine xK ?_ | refine xS ?_ | refine xM ?_ | refine xT ?_ | refine xF ?_ | ((first | refine xR ?_ | refine xW ?_ | refine vq_id ?_); simp only [go_sem, Nat.reduceAdd, Nat.reduceLeDiff, Nat.reduceSub, Int.reduceToNat, reduceCtorEq]) | (refine ⟨by first | omega | (intros; simp_all; done) | (intros; simp_all; omega), ?_⟩; try simp only [go_sem, Nat.reduceAdd, Nat.reduceLeDiff, Nat.reduceSub, Int.reduceToNat, reduceCtorEq]))
    refine AP.cut (α := Unit) (fun _ => [(1, .im (.pt [Ii K, Ii N, Si l])), (5, .ob 7 0), (6, .im (.pt (A4 N)))]) (fun _ => [(7, .vec 93 1 ((A4 (l.length + 9)).map fun c => [c]))]) (fun _ => True) ?_ fun _ _ => ?_
    · skip
      refine AP.drawE 14 (Tree.node [] [0, 1, 2, 3, 4, 6, 7, 8] [5, 10, 11] [Tree.node [6, 7, 8] [] [9, 10, 11] [Tree.node [] [] [10, 11] [Tree.node [] [] [11] [Tree.node [] [] [12] [Tree.node [] [] [13] [Tree.node [] [] [] []]]], Tree.node [] [] [10] [Tree.node [] [] [12] [Tree.node [] [] [13] [Tree.node [] [] [] []]]]], Tree.node [6, 7, 8] [] [9, 11] [Tree.node [] [] [11] [Tree.node [] [] [12] [Tree.node [] [] [13] [Tree.node [] [] [] []]]], Tree.node [6, 7, 8] [] [9] [Tree.node [] [] [12] [Tree.node [] [] [13] [Tree.node [] [] [] []]]]], Tree.node [6, 7, 8] [] [9, 10] [Tree.node [] [] [10] [Tree.node [] [] [12] [Tree.node [] [] [13] [Tree.node [] [] [] []]]], Tree.node [6, 7, 8] [] [9] [Tree.node [] [] [12] [Tree.node [] [] [13] [Tree.node [] [] [] []]]]]], Tree.node [0, 1, 2, 3, 4, 6, 7, 8] [] [5, 11] [Tree.node [6, 7, 8] [] [9, 11] [Tree.node [] [] [11] [Tree.node [] [] [12] [Tree.node [] [] [13] [Tree.node [] [] [] []]]], Tree.node [6, 7, 8] [] [9] [Tree.node [] [] [12] [Tree.node [] [] [13] [Tree.node [] [] [] []]]]], Tree.node [0, 1, 2, 3, 4, 6, 7, 8] [] [5] [Tree.node [6, 7, 8] [] [9] [Tree.node [] [] [12] [Tree.node [] [] [13] [Tree.node [] [] [] []]]]]], Tree.node [0, 1, 2, 3, 4, 6, 7, 8] [] [5, 10] [Tree.node [6, 7, 8] [] [9, 10] [Tree.node [] [] [10] [Tree.node [] [] [12] [Tree.node [] [] [13] [Tree.node [] [] [] []]]], Tree.node [6, 7, 8] [] [9] [Tree.node [] [] [12] [Tree.node [] [] [13] [Tree.node [] [] [] []]]]], Tree.node [0, 1, 2, 3, 4, 6, 7, 8] [] [5] [Tree.node [6, 7, 8] [] [9] [Tree.node [] [] [12] [Tree.node [] [] [13] [Tree.node [] [] [] []]]]]]]) (by kernel_rfl) rfl (by kernel_rfl) (by kernel_rfl) ?_
      refine vd_node ?_
      simp only [go_sem, Nat.reduceAdd, Nat.reduceLeDiff, Nat.reduceSub, Int.reduceToNat, reduceCtorEq, BA_size, w1, w2, w3]
      repeat' (first | with_reducible exact True.intro | with_reducible refine And.intro (by omega) ?_ | with_reducible refine And.intro ?_ ?_ | (refine AQ.nx rfl ?_; simp only [go_sem, Nat.reduceAdd, Nat.reduceLeDiff, Nat.reduceSub, Int.reduceToNat, reduceCtorEq, BA_size, w1, w2, w3]) | (refine AQ.fn (by kernel_rfl) rfl rfl rfl (b1) rfl ?_; simp only [go_sem, Nat.reduceAdd, Nat.reduceLeDiff, Nat.reduceSub, Int.reduceToNat, reduceCtorEq]) | (refine AQ.fn (by kernel_rfl) rfl rfl rfl (b2) rfl ?_; simp only [go_sem, Nat.reduceAdd, Nat.reduceLeDiff, Nat.reduceSub, Int.reduceToNat, reduceCtorEq]) | refine AQ.done ?_ | (refine AQ.go (by kernel_rfl) ?_; simp only [go_sem, Nat.reduceAdd, Nat.reduceLeDiff, Nat.reduceSub, Int.reduceToNat, reduceCtorEq, BA_size, w1, w2, w3]; repeat (with_reducible refine And.intro (by omega) ?_); refine AQ.nx rfl ?_; simp only [go_sem, Nat.reduceAdd, Nat.reduceLeDiff, Nat.reduceSub, Int.reduceToNat, reduceCtorEq, BA_size, w1, w2, w3]))
      all_goals first
        | rfl
        | (simp only [go_sem, Nat.reduceAdd, Nat.reduceLeDiff, Nat.reduceSub, Int.reduceToNat, reduceCtorEq]; refine AE.freeze 1 (el := 93) (es := 1) (rows := (A4 N).map fun c => [c]) rfl (by simp [go_sem]) (by simp [go_sem]) ?_; simp only [go_sem, Nat.reduceAdd, Nat.reduceLeDiff, Nat.reduceSub, Int.reduceToNat, reduceCtorEq]; refine AE.rename 0 7 rfl rfl rfl ?_; simp only [go_sem, Nat.reduceAdd, Nat.reduceLeDiff, Nat.reduceSub, Int.reduceToNat, reduceCtorEq]; exact AE.meet () trivial (by repeat (first | exact Sub.nil _ | refine Sub.cons rfl ?_)) rfl)
        | (simp only [go_sem, Nat.reduceAdd, Nat.reduceLeDiff, Nat.reduceSub, Int.reduceToNat, reduceCtorEq]; refine AE.freeze 0 (el := 93) (es := 1) (rows := (A4 N).map fun c => [c]) rfl (by simp [go_sem]) (by simp [go_sem]) ?_; simp only [go_sem, Nat.reduceAdd, Nat.reduceLeDiff, Nat.reduceSub, Int.reduceToNat, reduceCtorEq]; refine AE.rename 1 7 rfl rfl rfl ?_; simp only [go_sem, Nat.reduceAdd, Nat.reduceLeDiff, Nat.reduceSub, Int.reduceToNat, reduceCtorEq]; exact AE.meet () trivial (by repeat (first | exact Sub.nil _ | refine Sub.cons rfl ?_)) rfl)
    have hr1 : ∀ m : Nat, ((A4 m).map fun c => [c]).length = 4 := fun m => rfl
    repeat (first | refine xA ?_ | refine xB ?_ | refine xC ?_ | refine xE ?_ | refine xD ?_ | refine xK ?_ | refine xS ?_ | refine xM ?_ | refine xT ?_ | refine xF ?_ | ((first | refine xR ?_ | refine xW ?_ | refine vq_id ?_); simp only [go_sem, Nat.reduceAdd, Nat.reduceLeDiff, Nat.reduceSub, Int.reduceToNat, reduceCtorEq]) | (refine ⟨by first | omega | (intros; simp_all; done) | (intros; simp_all; omega), ?_⟩; try simp only [go_sem, Nat.reduceAdd, Nat.reduceLeDiff, Nat.reduceSub, Int.reduceToNat, reduceCtorEq]))
    refine AP.drawE 7 (Tree.node [] [0, 1, 2, 3] [4] [Tree.node [0] [] [5] [Tree.node [] [6] [] []]]) (by kernel_rfl) rfl (by kernel_rfl) (by kernel_rfl) ?_
    refine vd_node ?_
    simp only [go_sem, Nat.reduceAdd, Nat.reduceLeDiff, Nat.reduceSub, Int.reduceToNat, reduceCtorEq, w4, hr1]
    repeat' (first | with_reducible exact True.intro | with_reducible refine And.intro (by omega) ?_ | with_reducible refine And.intro ?_ ?_ | (refine AQ.nx rfl ?_; simp only [go_sem, Nat.reduceAdd, Nat.reduceLeDiff, Nat.reduceSub, Int.reduceToNat, reduceCtorEq, w4, hr1]) | (refine AQ.appendG (hnb := rfl) (rows := (A4 (l.length + 9)).map fun c => [c]) (es := 0) (by kernel_rfl) rfl rfl rfl (by rfl) Tryd.tk24 Tryd.sz5 (by show Option.map _ (zro Tryd.prog 5) = _; rw [Tryd.zr5]; rfl) Tryd.by5 (by first | rfl | (simp only [hr1, List.length_append, List.length_cons, List.length_nil]; done) | (simp only [hr1, List.length_append, List.length_cons, List.length_nil]; omega)) (by simp only [hr1, List.length_append, List.length_cons, List.length_nil]; omega) (by simp only [hr1, List.length_append, List.length_cons, List.length_nil]; omega) fun el1 => ?_; simp only [go_sem, Nat.reduceAdd, Nat.reduceLeDiff, Nat.reduceSub, Int.reduceToNat, reduceCtorEq, hr1]) | refine AQ.done ?_ | (refine AQ.go (by kernel_rfl) ?_; simp only [go_sem, Nat.reduceAdd, Nat.reduceLeDiff, Nat.reduceSub, Int.reduceToNat, reduceCtorEq, w4, hr1]; repeat (with_reducible refine And.intro (by omega) ?_); refine AQ.nx rfl ?_; simp only [go_sem, Nat.reduceAdd, Nat.reduceLeDiff, Nat.reduceSub, Int.reduceToNat, reduceCtorEq, w4, hr1]))
    repeat (first | refine xA ?_ | refine xB ?_ | refine xC ?_ | refine xE ?_ | refine xD ?_ | refine xK ?_ | refine xS ?_ | refine xM ?_ | refine xT ?_ | refine xF ?_ | ((first | refine xR ?_ | refine xW ?_ | refine vq_id ?_); simp only [go_sem, Nat.reduceAdd, Nat.reduceLeDiff, Nat.reduceSub, Int.reduceToNat, reduceCtorEq]) | (refine ⟨by first | omega | (intros; simp_all; done) | (intros; simp_all; omega), ?_⟩; try simp only [go_sem, Nat.reduceAdd, Nat.reduceLeDiff, Nat.reduceSub, Int.reduceToNat, reduceCtorEq]))
    have hA : ∀ m : Nat, (A4 m).map (fun c => [c]) = byteR (be4 m) := fun m => rfl
    have hk1 : [[IV.v (Value.int .u8 ((UInt8.ofNat K).toNat : Int))]] = byteR [UInt8.ofNat K] := rfl
    have hB : ((A4 N).take 4).map (fun c => [c]) = byteR (be4 N) := rfl
    have h44 : (A4 N).length = 4 := rfl
    rw [hA, hk1, byteR_append]
    refine AP.drawE 6 (Tree.node [] [0, 1, 3, 4] [2] [Tree.node [3, 4] [] [5] [Tree.node [] [] [] []]]) (by kernel_rfl) rfl (by kernel_rfl) (by kernel_rfl) ?_
    refine vd_node ?_
    simp only [go_sem, Nat.reduceAdd, Nat.reduceLeDiff, Nat.reduceSub, Int.reduceToNat, reduceCtorEq, hB, h44]
    refine AQ.appendG (hnb := rfl) (rows := byteR (be4 (l.length + 9) ++ [UInt8.ofNat K])) (es := 0) (by kernel_rfl) rfl rfl rfl (by rfl) Tryd.tk24 Tryd.sz5 (by show Option.map _ (zro Tryd.prog 5) = _; rw [Tryd.zr5]; rfl) Tryd.by5 (by first | rfl | (simp only [byteR_len, be4_len, List.length_append, List.length_cons, List.length_nil]; done) | (simp only [byteR_len, be4_len, List.length_append, List.length_cons, List.length_nil]; omega)) (by simp only [byteR_len, be4_len, List.length_append, List.length_cons, List.length_nil]; omega) (by simp only [byteR_len, be4_len, List.length_append, List.length_cons, List.length_nil]; omega) fun el1 => ?_
    simp only [go_sem, Nat.reduceAdd, Nat.reduceLeDiff, Nat.reduceSub, Int.reduceToNat, reduceCtorEq, byteR_append, byteR_len, be4_len, List.length_append, List.length_cons, List.length_nil]
    refine AQ.nx rfl ?_
    simp only [go_sem, Nat.reduceAdd, Nat.reduceLeDiff, Nat.reduceSub, Int.reduceToNat, reduceCtorEq]
    refine AQ.appendSG (hnb := rfl) (rows := byteR (be4 (l.length + 9) ++ [UInt8.ofNat K] ++ be4 N)) (l := l) (by kernel_rfl) rfl rfl rfl (by rfl) Tryd.tk24 (by kernel_rfl) Tryd.sz5 Tryd.zr5 Tryd.by5 (by first | rfl | (simp only [byteR_len, be4_len, List.length_append, List.length_cons, List.length_nil]; done) | (simp only [byteR_len, be4_len, List.length_append, List.length_cons, List.length_nil]; omega)) (by simp only [byteR_len, be4_len, List.length_append, List.length_cons, List.length_nil]; omega) fun el1 => ?_
    simp only [go_sem, Nat.reduceAdd, Nat.reduceLeDiff, Nat.reduceSub, Int.reduceToNat, reduceCtorEq, byteR_append, byteR_len, be4_len, List.length_append, List.length_cons, List.length_nil]
    refine AQ.nx rfl ?_
    simp only [go_sem, Nat.reduceAdd, Nat.reduceLeDiff, Nat.reduceSub, Int.reduceToNat, reduceCtorEq]
    repeat (first | refine xA ?_ | refine xB ?_ | refine xC ?_ | refine xE ?_ | refine xD ?_ | refine xK ?_ | refine xS ?_ | refine xM ?_ | refine xT ?_ | refine xF ?_ | ((first | refine xR ?_ | refine xW ?_ | refine vq_id ?_); simp only [go_sem, Nat.reduceAdd, Nat.reduceLeDiff, Nat.reduceSub, Int.reduceToNat, reduceCtorEq]) | (refine ⟨by first | omega | (intros; simp_all; done) | (intros; simp_all; omega), ?_⟩; try simp only [go_sem, Nat.reduceAdd, Nat.reduceLeDiff, Nat.reduceSub, Int.reduceToNat, reduceCtorEq]))
    have hin : be4 (l.length + 9) ++ [UInt8.ofNat K] ++ be4 N ++ l = be4 (l.length + 9) ++ inner K N l := by simp [inner]
    have hil : (inner K N l).length = 5 + l.length := by simp [inner, be4_len]; omega
    have hdr : ((byteR (be4 (l.length + 9) ++ inner K N l)).drop 4).take (9 + l.length - 4) = byteR (inner K N l) := by
      rw [byteR_drop, byteR_take]
      congr 1
      rw [List.drop_append_of_le_length (by rw [be4_len]; exact Nat.le_refl _), show (be4 (l.length + 9)).drop 4 = [] from rfl, List.nil_append]
      exact List.take_of_length_le (by rw [hil]; omega)
    rw [hin]
    have hck := checksum_spec (inner K N l) (by rw [hil]; omega)
    have b3 := bytesOf_spec (adSum (inner K N l)) (adSum_lt _)
    refine AQ.fnL [.im (.sl 1 (byteR (inner K N l)))] (by kernel_rfl) rfl rfl rfl (LentAs.cons (LentA.of (by rw [← hdr]; exact Lent.os rfl (by rw [byteR_len, List.length_append, be4_len, hil]; omega))) LentAs.nil) hck rfl (fun _ => rfl) ?_
    simp only [go_sem, Nat.reduceAdd, Nat.reduceLeDiff, Nat.reduceSub, Int.reduceToNat, reduceCtorEq]
    have h4s : (A4 (adSum (inner K N l))).length = 4 := rfl
    refine AQ.fn (by kernel_rfl) rfl rfl rfl (b3) rfl ?_
    repeat (first | refine xA ?_ | refine xB ?_ | refine xC ?_ | refine xE ?_ | refine xD ?_ | refine xK ?_ | refine xS ?_ | refine xM ?_ | refine xT ?_ | refine xF ?_ | ((first | refine xR ?_ | refine xW ?_ | refine vq_id ?_); simp only [go_sem, Nat.reduceAdd, Nat.reduceLeDiff, Nat.reduceSub, Int.reduceToNat, reduceCtorEq, h4s, hr1]) | (refine ⟨by first | omega | (intros; simp_all; done) | (intros; simp_all; omega), ?_⟩; try simp only [go_sem, Nat.reduceAdd, Nat.reduceLeDiff, Nat.reduceSub, Int.reduceToNat, reduceCtorEq, h4s, hr1]))
    refine AQ.appendOG (hnb := rfl) (rows := byteR (be4 (l.length + 9) ++ inner K N l)) (rows' := byteR (be4 (adSum (inner K N l)))) (xs := byteR (be4 (adSum (inner K N l)))) (es := 0) (by kernel_rfl) rfl rfl rfl (Nat.le_refl _) rfl rfl (by rfl) Tryd.tk24 Tryd.sz5 (by show Option.map _ (zro Tryd.prog 5) = _; rw [Tryd.zr5]; rfl) Tryd.by5 (by rw [byteR_len, List.length_append, be4_len, hil]; omega) (by rw [byteR_len, byteR_len, List.length_append, be4_len, be4_len, hil]; omega) (by rw [byteR_len, byteR_len, List.length_append, be4_len, be4_len, hil]; omega) fun el1 => ?_
    repeat (first | refine xA ?_ | refine xB ?_ | refine xC ?_ | refine xE ?_ | refine xD ?_ | refine xK ?_ | refine xS ?_ | refine xM ?_ | refine xT ?_ | refine xF ?_ | ((first | refine xR ?_ | refine xW ?_ | refine vq_id ?_); simp only [go_sem, Nat.reduceAdd, Nat.reduceLeDiff, Nat.reduceSub, Int.reduceToNat, reduceCtorEq]) | (refine ⟨by first | omega | (intros; simp_all; done) | (intros; simp_all; omega), ?_⟩; try simp only [go_sem, Nat.reduceAdd, Nat.reduceLeDiff, Nat.reduceSub, Int.reduceToNat, reduceCtorEq]))
    refine AE.freeze 7 (rows := byteR (be4 (l.length + 9) ++ inner K N l) ++ byteR (be4 (adSum (inner K N l)))) rfl (by simp [go_sem]) (by simp [go_sem]) ?_
    simp only [go_sem, Nat.reduceAdd, Nat.reduceLeDiff, Nat.reduceSub, Int.reduceToNat, reduceCtorEq]
    refine AE.ret0 rfl ⟨rfl, rfl, trivial⟩ rfl ⟨rfl, ?_⟩
    simp only [tupOf, AV.st, frame, Int.toNat_natCast, byteR_append, List.drop_zero, ← List.length_append]
    rw [List.take_of_length_le (by simp [byteR_len]), List.append_assoc]
  · rw [if_neg h0]
    refine ACall.walk [0, 1, 2, 3, 4, 5, 6, 7, 8, 12] [5, 6, 8] Tryd.func8 rfl Tryd.ntmps8 (by kernel_rfl) (by rfl) rfl fun W own I0 φ0 lay => ?_
    repeat (first | refine xA ?_ | refine xB ?_ | refine xC ?_ | refine xE ?_ | refine xD ?_ | refine xK ?_ | refine xS ?_ | refine xM ?_ | refine xT ?_ | refine xF ?_ | ((first | refine xR ?_ | refine xW ?_ | refine vq_id ?_); simp only [go_sem, Nat.reduceAdd, Nat.reduceLeDiff, Nat.reduceSub, Int.reduceToNat, reduceCtorEq]) | (refine ⟨by first | omega | (intros; simp_all; done) | (intros; simp_all; omega), ?_⟩; try simp only [go_sem, Nat.reduceAdd, Nat.reduceLeDiff, Nat.reduceSub, Int.reduceToNat, reduceCtorEq]))
    refine AQ.fn (by kernel_rfl) rfl rfl rfl (hs) rfl ?_
    repeat (first | refine xA ?_ | refine xB ?_ | refine xC ?_ | refine xE ?_ | refine xD ?_ | refine xK ?_ | refine xS ?_ | refine xM ?_ | refine xT ?_ | refine xF ?_ | ((first | refine xR ?_ | refine xW ?_ | refine vq_id ?_); simp only [go_sem, Nat.reduceAdd, Nat.reduceLeDiff, Nat.reduceSub, Int.reduceToNat, reduceCtorEq]) | (refine ⟨by first | omega | (intros; simp_all; done) | (intros; simp_all; omega), ?_⟩; try simp only [go_sem, Nat.reduceAdd, Nat.reduceLeDiff, Nat.reduceSub, Int.reduceToNat, reduceCtorEq]))
    refine AP.cond rfl rfl (fun hc => ?_) (fun hc => ?_)
    · repeat (first | refine xA ?_ | refine xB ?_ | refine xC ?_ | refine xE ?_ | refine xD ?_ | refine xK ?_ | refine xS ?_ | refine xM ?_ | refine xT ?_ | refine xF ?_ | ((first | refine xR ?_ | refine xW ?_ | refine vq_id ?_); simp only [go_sem, Nat.reduceAdd, Nat.reduceLeDiff, Nat.reduceSub, Int.reduceToNat, reduceCtorEq]) | (refine ⟨by first | omega | (intros; simp_all; done) | (intros; simp_all; omega), ?_⟩; try simp only [go_sem, Nat.reduceAdd, Nat.reduceLeDiff, Nat.reduceSub, Int.reduceToNat, reduceCtorEq]))
      exact AE.ret0 rfl ⟨rfl, rfl, trivial⟩ rfl ⟨rfl, rfl⟩
    · simp at hc; exact absurd hc h0
end Go.Proofs.YtlpcdpjkdodmcaaDoor
end

section
namespace Go.Proofs.YtlpcdpjkdodmcaaDoor
open Go Go.AL Go.RowKit
set_option maxRecDepth 10000
set_option maxHeartbeats 4000000
end Go.Proofs.YtlpcdpjkdodmcaaDoor
end

section
namespace Go.Proofs.YtlpcdpjkdodmcaaDoor
open Go Go.AL Go.RowKit Go.Proofs Go.Shelf
set_option maxRecDepth 10000
set_option maxHeartbeats 4000000
end Go.Proofs.YtlpcdpjkdodmcaaDoor
end

section
namespace Go.Proofs.YtlpcdpjkdodmcaaDoor
open Go Go.AL Go.RowKit
set_option maxRecDepth 10000
set_option maxHeartbeats 4000000
end Go.Proofs.YtlpcdpjkdodmcaaDoor
end

section
namespace Go.Proofs.YtlpcdpjkdodmcaaDoor
open Go Go.AL Go.RowKit
set_option maxRecDepth 10000
set_option maxHeartbeats 4000000
abbrev Msg := Int × Int × List UInt8
def msgR (l : List Msg) : List (List IV) := l.map fun m => [Ii m.1, Ii m.2.1, Si m.2.2]
theorem msgR_len (l : List Msg) : (msgR l).length = l.length := by simp [msgR]
theorem msgR_snoc (l : List Msg) (m : Msg) : msgR l ++ [[Ii m.1, Ii m.2.1, Si m.2.2]] = msgR (l ++ [m]) := by simp [msgR]
end Go.Proofs.YtlpcdpjkdodmcaaDoor
end

section
namespace Go.Proofs.YtlpcdpjkdodmcaaDoor
open Go Go.AL Go.RowKit
set_option maxRecDepth 10000
set_option maxHeartbeats 4000000
end Go.Proofs.YtlpcdpjkdodmcaaDoor
end

section
namespace Go.Proofs.YtlpcdpjkdodmcaaDoor
open Go Go.AL Go.RowKit
set_option maxRecDepth 10000
set_option maxHeartbeats 4000000
theorem beq_spec (a b : List UInt8) : PFn Tryd.prog 14 [.im (.sl 1 (byteR a)), .im (.sl 1 (byteR b))] (Bv (a == b)) := by
  have ha := byteR_bytes a
  have hb := byteR_bytes b
  refine ACall.walk [0, 1, 4] [] Tryd.func14 rfl Tryd.ntmps14 (by kernel_rfl) (by rfl) rfl fun W own I0 φ0 lay => ?_
  repeat (first | refine xA ?_ | refine xB ?_ | refine xC ?_ | refine xE ?_ | refine xD ?_ | refine xK ?_ | refine xS ?_ | refine xM ?_ | refine xT ?_ | refine xF ?_ | ((first | refine xR ?_ | refine xW ?_ | refine vq_id ?_); simp only [go_sem, Nat.reduceAdd, Nat.reduceLeDiff, Nat.reduceSub, Int.reduceToNat, reduceCtorEq, Tryd.underlying24, Option.isSome_some, byteR_back]))
  refine ⟨ha, hb, ?_⟩
  repeat (first | refine xA ?_ | refine xB ?_ | refine xC ?_ | refine xE ?_ | refine xD ?_ | refine xK ?_ | refine xS ?_ | refine xM ?_ | refine xT ?_ | refine xF ?_ | ((first | refine xR ?_ | refine xW ?_ | refine vq_id ?_); simp only [go_sem, Nat.reduceAdd, Nat.reduceLeDiff, Nat.reduceSub, Int.reduceToNat, reduceCtorEq]) | (refine ⟨by first | omega | (intros; simp_all; done) | (intros; simp_all; omega), ?_⟩; try simp only [go_sem, Nat.reduceAdd, Nat.reduceLeDiff, Nat.reduceSub, Int.reduceToNat, reduceCtorEq]))
  exact AE.ret0 rfl ⟨rfl, trivial⟩ rfl ⟨rfl, rfl⟩
theorem msgR_get (l : List Msg) (k : Nat) (h : k < l.length) : ∃ m, l[k]? = some m ∧ (msgR l).getD k [] = [Ii m.1, Ii m.2.1, Si m.2.2] := by
  refine ⟨l[k], List.getElem?_eq_getElem h, ?_⟩
  rw [List.getD_eq_getElem?_getD, msgR, List.getElem?_map, List.getElem?_eq_getElem h]; rfl
theorem awake_spec : PFn Tryd.prog 7 [] (Bv true) := by
  have he := encode_spec 6 1 []
  have e1 : encV 6 1 [] = .tup [.im (.sl 1 (byteR [0, 0, 0, 9, 6, 0, 0, 0, 1, 0, 36, 0, 8])), Iv 0] := by
    have h1 : msgE 6 1 [] = 0 := by decide
    have h2 : frame 6 1 [] = [0, 0, 0, 9, 6, 0, 0, 0, 1, 0, 36, 0, 8] := by decide
    unfold encV
    rw [if_pos h1]
    show AV.tup [.im (.sl 1 (byteR (frame 6 1 []))), Iv 0] = _
    rw [h2]
  rw [e1] at he
  have hb := beq_spec [0, 0, 0, 9, 6, 0, 0, 0, 1, 0, 36, 0, 8] [0, 0, 0, 9, 6, 0, 0, 0, 1, 0, 36, 0, 8]
  rw [beq_self_eq_true] at hb
  refine ACall.walk [0, 1, 2] [] Tryd.func7 rfl Tryd.ntmps7 (by kernel_rfl) (by rfl) rfl fun W own I0 φ0 lay => ?_
  repeat (first | refine xA ?_ | refine xB ?_ | refine xC ?_ | refine xE ?_ | refine xD ?_ | refine xK ?_ | refine xS ?_ | refine xM ?_ | refine xT ?_ | refine xF ?_ | ((first | refine xR ?_ | refine xW ?_ | refine vq_id ?_); simp only [go_sem, Nat.reduceAdd, Nat.reduceLeDiff, Nat.reduceSub, Int.reduceToNat, reduceCtorEq]) | (refine ⟨by first | omega | (intros; simp_all; done) | (intros; simp_all; omega), ?_⟩; try simp only [go_sem, Nat.reduceAdd, Nat.reduceLeDiff, Nat.reduceSub, Int.reduceToNat, reduceCtorEq]))
  refine AQ.fn (by kernel_rfl) rfl rfl rfl (he) rfl ?_
  repeat (first | refine xA ?_ | refine xB ?_ | refine xC ?_ | refine xE ?_ | refine xD ?_ | refine xK ?_ | refine xS ?_ | refine xM ?_ | refine xT ?_ | refine xF ?_ | ((first | refine xR ?_ | refine xW ?_ | refine vq_id ?_); simp only [go_sem, Nat.reduceAdd, Nat.reduceLeDiff, Nat.reduceSub, Int.reduceToNat, reduceCtorEq, beq_self_eq_true]) | (refine ⟨by first | omega | (intros; simp_all; done) | (intros; simp_all; omega), ?_⟩; try simp only [go_sem, Nat.reduceAdd, Nat.reduceLeDiff, Nat.reduceSub, Int.reduceToNat, reduceCtorEq, beq_self_eq_true]))
  refine AQ.guard_yes (by simp only [go_sem]) ?_
  refine AQ.go (by kernel_rfl) ?_
  simp only [go_sem, Nat.reduceAdd, Nat.reduceLeDiff, Nat.reduceSub, Int.reduceToNat, reduceCtorEq]
  refine AQ.fn_g (by kernel_rfl) rfl rfl (fun h => by first | (simp [gs, AV.g]; done) | (simp [gs, AV.g, constAV]; done) | (simp [gs, AV.g, constAV, bw] at h ⊢; done) | (simp [gs, AV.g, constAV, bw] at h ⊢; exact h) | (simp [gs, AV.g, constAV, bw] at h ⊢; simp [h]; done) | (simp [bw] at h; done) | (simp [gs, AV.g, bw] at h ⊢; simp [h]; done) | (simp [gs, AV.g, bw] at h ⊢; exact h.1) | (simp [gs, AV.g]; rfl) | (simp [gs, AV.g, bw] at h ⊢; rfl) | (simp [gs, AV.g, bw] at h ⊢; simp [h]; rfl) | (simp [gs, AV.g, bw] at h ⊢; simp_all)) rfl (fun _ => hb) rfl ?_
  repeat (first | refine xA ?_ | refine xB ?_ | refine xC ?_ | refine xE ?_ | refine xD ?_ | refine xK ?_ | refine xS ?_ | refine xM ?_ | refine xT ?_ | refine xF ?_ | ((first | refine xR ?_ | refine xW ?_ | refine vq_id ?_); simp only [go_sem, Nat.reduceAdd, Nat.reduceLeDiff, Nat.reduceSub, Int.reduceToNat, reduceCtorEq]) | (refine ⟨by first | omega | (intros; simp_all; done) | (intros; simp_all; omega), ?_⟩; try simp only [go_sem, Nat.reduceAdd, Nat.reduceLeDiff, Nat.reduceSub, Int.reduceToNat, reduceCtorEq]))
  exact AE.ret0 rfl ⟨rfl, trivial⟩ rfl ⟨rfl, rfl⟩
end Go.Proofs.YtlpcdpjkdodmcaaDoor
end

section
namespace Go.Proofs.YtlpcdpjkdodmcaaDoor
open Go Go.AL Go.RowKit
set_option maxRecDepth 100000
theorem u8_nat {i : Int} (h : (Lit.int .u8 i).wf = true) : ∃ b : UInt8, i = b.toNat := by
  simp [Lit.wf, IntKind.min, IntKind.max, IntKind.bits, IntKind.signed] at h
  exact ⟨UInt8.ofNat i.toNat, by rw [UInt8.toNat_ofNat']; omega⟩
theorem gSyn : Tryd.prog.globalNamed "strconv.ErrSyntax" = some 0 := by kernel_rfl
theorem gRng : Tryd.prog.globalNamed "strconv.ErrRange" = some 1 := by kernel_rfl
theorem gPow : Tryd.prog.globalNamed "internal/strconv.uint64pow10" = some 3 := by kernel_rfl
theorem gSynT : (Tryd.prog.globals[0]?).map (·.type) = some 131 := by kernel_rfl
theorem gRngT : (Tryd.prog.globals[1]?).map (·.type) = some 131 := by kernel_rfl
theorem gPowT : (Tryd.prog.globals[3]?).map (·.type) = some 181 := by kernel_rfl
theorem row177 (u : TypeId) (h : Tryd.prog.typeName? 3 u = some "*errors.errorString") : u = 177 :=
  typeName_ptr_named (nm := "errors.errorString") (by rw [show "*" ++ "errors.errorString" = "*errors.errorString" by decide]; kernel_rfl) (by kernel_rfl) (by decide) u (by rw [show "*" ++ "errors.errorString" = "*errors.errorString" by decide]; exact h)
theorem var_cells {P : Program} {W : World} {n : String} {g : Nat} {cs : Array Value} (hg : P.globalNamed n = some g) (h : W.var? P n = some cs) : g < W.heap.size ∧ ∃ T fz, W.heap[g]? = some (.cells cs T fz) := by
  unfold World.var? at h
  rw [hg, Option.bind_some] at h
  split at h
  · rename_i cs' T fz hh
    cases h
    refine ⟨?_, T, fz, hh⟩
    rcases Nat.lt_or_ge g W.heap.size with h' | h'
    · exact h'
    · rw [Array.getElem?_eq_none h'] at hh; cases hh
  · cases h
theorem vk_of {W : World} (h : laidMet Tryd.prog [("math/bits.deBruijn32tab", Rows.laid_math_bits_deBruijn32tab), ("math/bits.deBruijn64tab", Rows.laid_math_bits_deBruijn64tab), ("internal/strconv.uint64pow10", Rows.laid_internal_strconv_uint64pow10), ("strconv.ErrRange", Rows.laid_strconv_ErrRange), ("strconv.ErrSyntax", Rows.laid_strconv_ErrSyntax)] W) :
    VK Tryd.prog W (fun g => g < W.heap.size) := by
  have h3 := h.tail.tail
  have h4 := h3.tail
  have h5 := h4.tail
  intro x hx g hg
  simp only [laidVars, List.mem_cons, List.not_mem_nil, or_false] at hx
  rcases hx with rfl | rfl | rfl
  · obtain ⟨a, s, hv, _⟩ := laid_sentinel h5 gSyn gSynT Tryd.underlying131 row177 Tryd.underlying177 Tryd.underlying179 rfl rfl Tryd.underlying9 (by kernel_rfl) (by kernel_rfl)
    obtain ⟨h1, T, fz, h2⟩ := var_cells hg hv
    exact ⟨h1, _, h2, _, _, T, fz, rfl⟩
  · obtain ⟨a, s, hv, _⟩ := laid_sentinel h4 gRng gRngT Tryd.underlying131 row177 Tryd.underlying177 Tryd.underlying179 rfl rfl Tryd.underlying9 (by kernel_rfl) (by kernel_rfl)
    obtain ⟨h1, T, fz, h2⟩ := var_cells hg hv
    exact ⟨h1, _, h2, _, _, T, fz, rfl⟩
  · have ht : Lib.TabIs Tryd.prog W "internal/strconv.uint64pow10" .u64 Lib.pow10Tab := Lib.tabIs_of_head (rest := _) gPow gPowT Tryd.underlying181 Tryd.underlying161 (by kernel_rfl) (by kernel_rfl) h3
    obtain ⟨h1, T, fz, h2⟩ := var_cells hg ht
    exact ⟨h1, _, h2, T, fz, rfl⟩
def synS : ByteArray := { data := #[105, 110, 118, 97, 108, 105, 100, 32, 115, 121, 110, 116, 97, 120] }
def rngS : ByteArray := { data := #[118, 97, 108, 117, 101, 32, 111, 117, 116, 32, 111, 102, 32, 114, 97, 110, 103, 101] }
noncomputable def low : Nat := (World.holding Tryd.prog default ⟨#[], #[], []⟩).heap.size
def litCells (d : DataW Unit) : Array Value := match d with
  | .agg l => (l.map fun x => match x with
    | .lit (.int k z) => Value.int k z
    | _ => .nilIface).toArray
  | _ => #[]
def putCells (cs : Array Value) : Obj → Obj
  | .cells _ t frozen => .cells cs t frozen
  | o => o
noncomputable def laidWorld (os : Os) : World :=
  let w0 := World.holding Tryd.prog os ⟨#[.cells #[.string synS] 179, .cells #[.string rngS] 179], #[], []⟩
  { w0 with heap := ((((w0.heap.modify 0 (putCells #[.iface 177 (.pointer (some ⟨low, 0, none⟩))])).modify 1 (putCells #[.iface 177 (.pointer (some ⟨low + 1, 0, none⟩))])).modify 3 (putCells (litCells Rows.laid_internal_strconv_uint64pow10))).modify 4 (putCells (litCells Rows.laid_math_bits_deBruijn32tab))).modify 5 (putCells (litCells Rows.laid_math_bits_deBruijn64tab)) }
end Go.Proofs.YtlpcdpjkdodmcaaDoor
end

section
namespace Go.Proofs.YtlpcdpjkdodmcaaDoor
open Go Go.AL Go.RowKit
set_option maxRecDepth 10000
set_option maxHeartbeats 4000000
@[go_sem] theorem Tryd.eq71 : eqOk Tryd.prog 71 = true := by kernel_rfl
@[go_sem] theorem Tryd.eq67 : eqOk Tryd.prog 67 = true := by kernel_rfl
@[go_sem] theorem Tryd.no30 : nameOk Tryd.prog 30 = true := by kernel_rfl
@[go_sem] theorem Tryd.no23 : nameOk Tryd.prog 23 = true := by kernel_rfl
theorem ACall.told {P : Program} {f : FuncId} {xs : List AV} {H : Heap} {R R' : AV → Heap → Prop} (h : ACall P f xs H R) (hr : ∀ r H', R r H' → ∃ r', R' r' H' ∧ ∀ w φ I v, AV.den w φ I r v → AV.den w φ I r' v) : ACall P f xs H R' :=
  ⟨h.ent, fun w φ I vs hd hR hV => (h.run w φ I vs hd hR hV).mono fun _ _ ⟨r, H', φ', I', v, h1, h2, h3, h4⟩ => by
    obtain ⟨r', hr', hd'⟩ := hr _ _ h1
    exact ⟨r', H', φ', I', v, hr', h2, hd' _ _ _ _ h3, h4⟩⟩
theorem PFn.told {P : Program} {f : FuncId} {xs : List AV} {r r' : AV} (h : PFn P f xs r) (hr : ∀ w φ I v, AV.den w φ I r v → AV.den w φ I r' v) : PFn P f xs r' :=
  ACall.told h fun _ _ ⟨hH, he⟩ => ⟨r', ⟨hH, rfl⟩, by subst he; exact hr⟩
structure Rq where
  n : Int
  k : Int
  b : List UInt8
  c : Bool
  a : Bool
  ak : Int
  an : Int
  ab : List UInt8
def rqC (r : Rq) : List IV := [Ii r.n, Ii r.k, Si r.b, .v (.bool r.c), .v (.bool r.a), Ii r.ak, Ii r.an, Si r.ab]
def rqR (l : List Rq) : List (List IV) := l.map rqC
theorem rqR_len (l : List Rq) : (rqR l).length = l.length := List.length_map ..
theorem rqR_snoc (l : List Rq) (r : Rq) : rqR (l ++ [r]) = rqR l ++ [rqC r] := by simp [rqR]
theorem rqR_get (l : List Rq) (k : Nat) (h : k < l.length) : ∃ r, l[k]? = some r ∧ (rqR l).getD k [] = [Ii r.n, Ii r.k, Si r.b, .v (.bool r.c), .v (.bool r.a), Ii r.ak, Ii r.an, Si r.ab] := by
  refine ⟨l[k], List.getElem?_eq_getElem h, ?_⟩
  rw [List.getD_eq_getElem?_getD, rqR, List.getElem?_map, List.getElem?_eq_getElem h]; rfl
theorem cloneQ_spec (l : List Rq) (hl : l.length ≤ 1000000000) : ACall Tryd.prog 45 [.im (.sl 8 (rqR l))] [] (fun r H => r = .os 0 8 0 l.length ∧ H = [(0, .vec 67 8 (rqR l))]) := by
  rcases l with _ | ⟨q, l⟩
  · refine ACall.walk [0, 2, 4] [] Tryd.func45 rfl Tryd.ntmps45 (by kernel_rfl) (by rfl) rfl fun W own I0 φ0 lay => ?_
    refine xPP rfl ?_
    refine AP.region rfl (by kernel_rfl) ?_; simp only [go_sem, Nat.reduceAdd, Nat.reduceLeDiff, Nat.reduceSub, Int.reduceToNat, reduceCtorEq]
    refine AQ.done ?_
    refine xEP rfl ?_
    refine AP.regionN 1 rfl (by kernel_rfl) ?_; simp only [go_sem, Nat.reduceAdd, Nat.reduceLeDiff, Nat.reduceSub, Int.reduceToNat, reduceCtorEq]
    refine AQ.isnil (by kernel_rfl) rfl Tryd.tk53 fun b => ?_
    simp only [go_sem, Nat.reduceAdd, Nat.reduceLeDiff, Nat.reduceSub, Int.reduceToNat, reduceCtorEq]
    repeat (first | refine xA ?_ | refine xB ?_ | refine xC ?_ | refine xE ?_ | refine xD ?_ | refine xK ?_ | refine xS ?_ | refine xM ?_ | refine xT ?_ | refine xF ?_ | ((first | refine xR ?_ | refine xW ?_ | refine vq_id ?_); simp only [go_sem, Nat.reduceAdd, Nat.reduceLeDiff, Nat.reduceSub, Int.reduceToNat, reduceCtorEq]) | (refine ⟨by first | omega | (intros; simp_all; done) | (intros; simp_all; omega), ?_⟩; try simp only [go_sem, Nat.reduceAdd, Nat.reduceLeDiff, Nat.reduceSub, Int.reduceToNat, reduceCtorEq]))
    refine AP.cond rfl rfl (fun hb => ?_) (fun hb => ?_)
    · repeat (first | refine xA ?_ | refine xB ?_ | refine xC ?_ | refine xE ?_ | refine xD ?_ | refine xK ?_ | refine xS ?_ | refine xM ?_ | refine xT ?_ | refine xF ?_ | ((first | refine xR ?_ | refine xW ?_ | refine vq_id ?_); simp only [go_sem, Nat.reduceAdd, Nat.reduceLeDiff, Nat.reduceSub, Int.reduceToNat, reduceCtorEq]) | (refine ⟨by first | omega | (intros; simp_all; done) | (intros; simp_all; omega), ?_⟩; try simp only [go_sem, Nat.reduceAdd, Nat.reduceLeDiff, Nat.reduceSub, Int.reduceToNat, reduceCtorEq]))
      refine AE.own 2 67 8 rfl ?_
      simp only [go_sem, Nat.reduceAdd, Nat.reduceLeDiff, Nat.reduceSub, Int.reduceToNat, reduceCtorEq]
      exact AE.ret rfl ⟨rfl, trivial⟩ ⟨by simp [tupOf, AV.st], rfl⟩
    · repeat (first | refine xA ?_ | refine xB ?_ | refine xC ?_ | refine xE ?_ | refine xD ?_ | refine xK ?_ | refine xS ?_ | refine xM ?_ | refine xT ?_ | refine xF ?_ | ((first | refine xR ?_ | refine xW ?_ | refine vq_id ?_); simp only [go_sem, Nat.reduceAdd, Nat.reduceLeDiff, Nat.reduceSub, Int.reduceToNat, reduceCtorEq]) | (refine ⟨by first | omega | (intros; simp_all; done) | (intros; simp_all; omega), ?_⟩; try simp only [go_sem, Nat.reduceAdd, Nat.reduceLeDiff, Nat.reduceSub, Int.reduceToNat, reduceCtorEq]))
      refine AQ.append (hnb := rfl) (rows := []) (es := 7) (by kernel_rfl) rfl rfl rfl (by rfl) Tryd.tk53 Tryd.sz67 (by show Option.map _ (zro Tryd.prog 67) = _; rw [Tryd.zr67]; rfl) Tryd.by67 rfl (by simp only [rqR_len, List.length_nil]; omega) (by simp only [rqR_len, List.length_nil]; omega) ?_
      repeat (first | refine xA ?_ | refine xB ?_ | refine xC ?_ | refine xE ?_ | refine xD ?_ | refine xK ?_ | refine xS ?_ | refine xM ?_ | refine xT ?_ | refine xF ?_ | ((first | refine xR ?_ | refine xW ?_ | refine vq_id ?_); simp only [go_sem, Nat.reduceAdd, Nat.reduceLeDiff, Nat.reduceSub, Int.reduceToNat, reduceCtorEq, List.nil_append, List.length_nil, rqR_len]) | (refine ⟨by first | omega | (intros; simp_all; done) | (intros; simp_all; omega), ?_⟩; try simp only [go_sem, Nat.reduceAdd, Nat.reduceLeDiff, Nat.reduceSub, Int.reduceToNat, reduceCtorEq, List.nil_append, List.length_nil, rqR_len]))
      exact AE.ret rfl ⟨rfl, trivial⟩ ⟨by simp [tupOf, AV.st], rfl⟩
  · have hne : rqR (q :: l) ≠ [] := by simp [rqR]
    refine ACall.walk [0, 2, 4] [] Tryd.func45 rfl Tryd.ntmps45 (by kernel_rfl) (by rfl) rfl fun W own I0 φ0 lay => ?_
    repeat (first | refine xA ?_ | refine xB ?_ | refine xC ?_ | refine xE ?_ | refine xD ?_ | refine xK ?_ | refine xS ?_ | refine xM ?_ | refine xT ?_ | refine xF ?_ | ((first | refine xR ?_ | refine xW ?_ | refine vq_id ?_); simp only [go_sem, Nat.reduceAdd, Nat.reduceLeDiff, Nat.reduceSub, Int.reduceToNat, reduceCtorEq]))
    refine ⟨hne, ?_⟩
    repeat (first | refine xA ?_ | refine xB ?_ | refine xC ?_ | refine xE ?_ | refine xD ?_ | refine xK ?_ | refine xS ?_ | refine xM ?_ | refine xT ?_ | refine xF ?_ | ((first | refine xR ?_ | refine xW ?_ | refine vq_id ?_); simp only [go_sem, Nat.reduceAdd, Nat.reduceLeDiff, Nat.reduceSub, Int.reduceToNat, reduceCtorEq]) | (refine ⟨by first | omega | (intros; simp_all; done) | (intros; simp_all; omega), ?_⟩; try simp only [go_sem, Nat.reduceAdd, Nat.reduceLeDiff, Nat.reduceSub, Int.reduceToNat, reduceCtorEq]))
    refine AQ.append (hnb := rfl) (rows := []) (es := 7) (by kernel_rfl) rfl rfl rfl (by rfl) Tryd.tk53 Tryd.sz67 (by show Option.map _ (zro Tryd.prog 67) = _; rw [Tryd.zr67]; rfl) Tryd.by67 rfl (by simp only [rqR_len, List.length_nil]; omega) (by simp only [rqR_len, List.length_nil]; omega) ?_
    repeat (first | refine xA ?_ | refine xB ?_ | refine xC ?_ | refine xE ?_ | refine xD ?_ | refine xK ?_ | refine xS ?_ | refine xM ?_ | refine xT ?_ | refine xF ?_ | ((first | refine xR ?_ | refine xW ?_ | refine vq_id ?_); simp only [go_sem, Nat.reduceAdd, Nat.reduceLeDiff, Nat.reduceSub, Int.reduceToNat, reduceCtorEq, List.nil_append, List.length_nil, rqR_len]) | (refine ⟨by first | omega | (intros; simp_all; done) | (intros; simp_all; omega), ?_⟩; try simp only [go_sem, Nat.reduceAdd, Nat.reduceLeDiff, Nat.reduceSub, Int.reduceToNat, reduceCtorEq, List.nil_append, List.length_nil, rqR_len]))
    exact AE.ret rfl ⟨rfl, trivial⟩ ⟨by simp [tupOf, AV.st], rfl⟩
end Go.Proofs.YtlpcdpjkdodmcaaDoor
end
