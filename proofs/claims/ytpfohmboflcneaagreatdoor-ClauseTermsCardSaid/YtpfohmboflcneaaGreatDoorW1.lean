import Derived.Test.YtpfohmboflcneaaGreatDoorAl3
import Derived.Test.YtpfohmboflcneaaGreatDoorChecked
import Derived.KernelRfl
import Derived.Lib.ItoaMem
import Derived.Lib.Strings
import Derived.Lib.Walk
import Derived.Lib.BufferWrite
import Derived.Lib.UnsafeStr
import Derived.Lib.Hide
import Derived.Laws.MakeOwn
import Derived.Lib.Builder
set_option linter.unusedSimpArgs false
set_option linter.unusedVariables false
set_option linter.unnecessarySimpa false
section

end
section
namespace Go.Proofs.YtpfohmboflcneaaGreatDoor
open Go Go.AL
@[go_sem] theorem Tryz.tk1:tk Tryz.prog 1= .func:=by kernel_rfl
@[go_sem] theorem Tryz.sz1:sz Tryz.prog 1=some 1:=by kernel_rfl
@[go_sem] theorem Tryz.by1:aQ Tryz.prog 1=some 8:=by kernel_rfl
@[go_sem] theorem Tryz.zr1:ax Tryz.prog 1=some ([.nilFunc]):=by kernel_rfl
@[go_sem] theorem Tryz.tk2:tk Tryz.prog 2= .int .i64:=by kernel_rfl
@[go_sem] theorem Tryz.sz2:sz Tryz.prog 2=some 1:=by kernel_rfl
@[go_sem] theorem Tryz.by2:aQ Tryz.prog 2=some 8:=by kernel_rfl
@[go_sem] theorem Tryz.un2:(Tryz.prog.underlying 2).isSome=true:=by kernel_rfl
@[go_sem] theorem Tryz.zr2:ax Tryz.prog 2=some ([.int .i64 0]):=by kernel_rfl
@[go_sem] theorem Tryz.tk3:tk Tryz.prog 3= .int .i64:=by kernel_rfl
@[go_sem] theorem Tryz.Bt:sz Tryz.prog 3=some 1:=by kernel_rfl
@[go_sem] theorem Tryz.y4:aQ Tryz.prog 3=some 8:=by kernel_rfl
@[go_sem] theorem Tryz.un3:(Tryz.prog.underlying 3).isSome=true:=by kernel_rfl
@[go_sem] theorem Tryz.BN:ax Tryz.prog 3=some ([.int .i64 0]):=by kernel_rfl
@[go_sem] theorem Tryz.tk4:tk Tryz.prog 4= .bool:=by kernel_rfl
@[go_sem] theorem Tryz.sz4:sz Tryz.prog 4=some 1:=by kernel_rfl
@[go_sem] theorem Tryz.by4:aQ Tryz.prog 4=some 1:=by kernel_rfl
@[go_sem] theorem Tryz.un4:(Tryz.prog.underlying 4).isSome=true:=by kernel_rfl
@[go_sem] theorem Tryz.zr4:ax Tryz.prog 4=some ([.bool false]):=by kernel_rfl
@[go_sem] theorem Tryz.tk5:tk Tryz.prog 5= .int .u8:=by kernel_rfl
@[go_sem] theorem Tryz.sz5:sz Tryz.prog 5=some 1:=by kernel_rfl
@[go_sem] theorem Tryz.Uh:aQ Tryz.prog 5=some 1:=by kernel_rfl
@[go_sem] theorem Tryz.un5:(Tryz.prog.underlying 5).isSome=true:=by kernel_rfl
@[go_sem] theorem Tryz.zr5:ax Tryz.prog 5=some ([.int .u8 0]):=by kernel_rfl
@[go_sem] theorem Tryz.tk6:tk Tryz.prog 6= .int .u8:=by kernel_rfl
@[go_sem] theorem Tryz.sz6:sz Tryz.prog 6=some 1:=by kernel_rfl
@[go_sem] theorem Tryz.by6:aQ Tryz.prog 6=some 1:=by kernel_rfl
@[go_sem] theorem Tryz.un6:(Tryz.prog.underlying 6).isSome=true:=by kernel_rfl
@[go_sem] theorem Tryz.zr6:ax Tryz.prog 6=some ([.int .u8 0]):=by kernel_rfl
@[go_sem] theorem Tryz.tk7:tk Tryz.prog 7= .struct [(0,2),(1,3),(2,4),(3,6)]:=by kernel_rfl
@[go_sem] theorem Tryz.sz7:sz Tryz.prog 7=some 4:=by kernel_rfl
@[go_sem] theorem Tryz.by7:aQ Tryz.prog 7=some 24:=by kernel_rfl
@[go_sem] theorem Tryz.eq7:mN Tryz.prog 7=true:=by kernel_rfl
@[go_sem] theorem Tryz.zr7:ax Tryz.prog 7=some ([.int .i64 0,.int .i64 0,.bool false,.int .u8 0]):=by kernel_rfl
@[go_sem] theorem Tryz.tk8:tk Tryz.prog 8= .struct [(0,2),(1,3),(2,4),(3,6)]:=by kernel_rfl
@[go_sem] theorem Tryz.sz8:sz Tryz.prog 8=some 4:=by kernel_rfl
@[go_sem] theorem Tryz.by8:aQ Tryz.prog 8=some 24:=by kernel_rfl
@[go_sem] theorem Tryz.eq8:mN Tryz.prog 8=true:=by kernel_rfl
@[go_sem] theorem Tryz.zr8:ax Tryz.prog 8=some ([.int .i64 0,.int .i64 0,.bool false,.int .u8 0]):=by kernel_rfl
@[go_sem] theorem Tryz.tk9:tk Tryz.prog 9= .str:=by kernel_rfl
@[go_sem] theorem Tryz.sz9:sz Tryz.prog 9=some 1:=by kernel_rfl
@[go_sem] theorem Tryz.by9:aQ Tryz.prog 9=some 16:=by kernel_rfl
@[go_sem] theorem Tryz.un9:(Tryz.prog.underlying 9).isSome=true:=by kernel_rfl
@[go_sem] theorem Tryz.zr9:ax Tryz.prog 9=some ([.string ⟨#[]⟩]):=by kernel_rfl
@[go_sem] theorem Tryz.afu:tk Tryz.prog 10= .str:=by kernel_rfl
@[go_sem] theorem Tryz.aeg:sz Tryz.prog 10=some 1:=by kernel_rfl
@[go_sem] theorem Tryz.acB:aQ Tryz.prog 10=some 16:=by kernel_rfl
@[go_sem] theorem Tryz.agH:(Tryz.prog.underlying 10).isSome=true:=by kernel_rfl
@[go_sem] theorem Tryz.agS:ax Tryz.prog 10=some ([.string ⟨#[]⟩]):=by kernel_rfl
@[go_sem] theorem Tryz.afv:tk Tryz.prog 11= .str:=by kernel_rfl
@[go_sem] theorem Tryz.aeh:sz Tryz.prog 11=some 1:=by kernel_rfl
@[go_sem] theorem Tryz.acC:aQ Tryz.prog 11=some 16:=by kernel_rfl
@[go_sem] theorem Tryz.agI:(Tryz.prog.underlying 11).isSome=true:=by kernel_rfl
@[go_sem] theorem Tryz.agT:ax Tryz.prog 11=some ([.string ⟨#[]⟩]):=by kernel_rfl
@[go_sem] theorem Tryz.afW:tk Tryz.prog 20= .iface:=by kernel_rfl
@[go_sem] theorem Tryz.aeH:sz Tryz.prog 20=some 1:=by kernel_rfl
@[go_sem] theorem Tryz.ac3:aQ Tryz.prog 20=some 16:=by kernel_rfl
@[go_sem] theorem Tryz.ahj:ax Tryz.prog 20=some ([.nilIface]):=by kernel_rfl
@[go_sem] theorem Tryz.afY:tk Tryz.prog 21= .int .i32:=by kernel_rfl
@[go_sem] theorem Tryz.aeJ:sz Tryz.prog 21=some 1:=by kernel_rfl
@[go_sem] theorem Tryz.ac5:aQ Tryz.prog 21=some 4:=by kernel_rfl
@[go_sem] theorem Tryz.agJ:(Tryz.prog.underlying 21).isSome=true:=by kernel_rfl
@[go_sem] theorem Tryz.ahl:ax Tryz.prog 21=some ([.int .i32 0]):=by kernel_rfl
@[go_sem] theorem Tryz.af4:tk Tryz.prog 23= .slice 61:=by kernel_rfl
@[go_sem] theorem Tryz.aeP:sz Tryz.prog 23=some 1:=by kernel_rfl
@[go_sem] theorem Tryz.ada:aQ Tryz.prog 23=some 24:=by kernel_rfl
@[go_sem] theorem Tryz.ahr:ax Tryz.prog 23=some ([.slice none 0 0]):=by kernel_rfl
@[go_sem] theorem Tryz.af8:tk Tryz.prog 24= .func:=by kernel_rfl
@[go_sem] theorem Tryz.aeU:sz Tryz.prog 24=some 1:=by kernel_rfl
@[go_sem] theorem Tryz.adh:aQ Tryz.prog 24=some 8:=by kernel_rfl
@[go_sem] theorem Tryz.ahw:ax Tryz.prog 24=some ([.nilFunc]):=by kernel_rfl
@[go_sem] theorem Tryz.JR:tk Tryz.prog 27= .slice 119:=by kernel_rfl
@[go_sem] theorem Tryz.aeY:sz Tryz.prog 27=some 1:=by kernel_rfl
@[go_sem] theorem Tryz.adl:aQ Tryz.prog 27=some 24:=by kernel_rfl
@[go_sem] theorem Tryz.ahA:ax Tryz.prog 27=some ([.slice none 0 0]):=by kernel_rfl
@[go_sem] theorem Tryz.agd:tk Tryz.prog 30= .int .i64:=by kernel_rfl
@[go_sem] theorem Tryz.ae1:sz Tryz.prog 30=some 1:=by kernel_rfl
@[go_sem] theorem Tryz.ado:aQ Tryz.prog 30=some 8:=by kernel_rfl
@[go_sem] theorem Tryz.agL:(Tryz.prog.underlying 30).isSome=true:=by kernel_rfl
@[go_sem] theorem Tryz.ahD:ax Tryz.prog 30=some ([.int .i64 0]):=by kernel_rfl
@[go_sem] theorem Tryz.agk:tk Tryz.prog 32= .func:=by kernel_rfl
@[go_sem] theorem Tryz.ae7:sz Tryz.prog 32=some 1:=by kernel_rfl
@[go_sem] theorem Tryz.adu:aQ Tryz.prog 32=some 8:=by kernel_rfl
@[go_sem] theorem Tryz.ahJ:ax Tryz.prog 32=some ([.nilFunc]):=by kernel_rfl
@[go_sem] theorem Tryz.BB:tk Tryz.prog 46= .slice 3:=by kernel_rfl
@[go_sem] theorem Tryz.afj:sz Tryz.prog 46=some 1:=by kernel_rfl
@[go_sem] theorem Tryz.adH:aQ Tryz.prog 46=some 24:=by kernel_rfl
@[go_sem] theorem Tryz.ahW:ax Tryz.prog 46=some ([.slice none 0 0]):=by kernel_rfl
@[go_sem] theorem Tryz.iE:tk Tryz.prog 52= .slice 59:=by kernel_rfl
@[go_sem] theorem Tryz.afk:sz Tryz.prog 52=some 1:=by kernel_rfl
@[go_sem] theorem Tryz.adI:aQ Tryz.prog 52=some 24:=by kernel_rfl
@[go_sem] theorem Tryz.ahX:ax Tryz.prog 52=some ([.slice none 0 0]):=by kernel_rfl
@[go_sem] theorem Tryz.R2:tk Tryz.prog 55= .slice 57:=by kernel_rfl
@[go_sem] theorem Tryz.afl:sz Tryz.prog 55=some 1:=by kernel_rfl
@[go_sem] theorem Tryz.adJ:aQ Tryz.prog 55=some 24:=by kernel_rfl
@[go_sem] theorem Tryz.ahY:ax Tryz.prog 55=some ([.slice none 0 0]):=by kernel_rfl
@[go_sem] theorem Tryz.agx:tk Tryz.prog 57= .struct [(0,9),(1,3),(2,55)]:=by kernel_rfl
@[go_sem] theorem Tryz.RZ:sz Tryz.prog 57=some 3:=by kernel_rfl
@[go_sem] theorem Tryz.KZ:aQ Tryz.prog 57=some 48:=by kernel_rfl
@[go_sem] theorem Tryz.S6:ax Tryz.prog 57=some ([.string ⟨#[]⟩,.int .i64 0,.slice none 0 0]):=by kernel_rfl
@[go_sem] theorem Tryz.agy:tk Tryz.prog 59= .struct [(0,3),(1,57)]:=by kernel_rfl
@[go_sem] theorem Tryz.iD:sz Tryz.prog 59=some 4:=by kernel_rfl
@[go_sem] theorem Tryz.iq:aQ Tryz.prog 59=some 56:=by kernel_rfl
@[go_sem] theorem Tryz.iH:ax Tryz.prog 59=some ([.int .i64 0,.string ⟨#[]⟩,.int .i64 0,.slice none 0 0]):=by kernel_rfl
@[go_sem] theorem Tryz.agz:tk Tryz.prog 61= .struct [(0,4),(1,9),(2,55)]:=by kernel_rfl
@[go_sem] theorem Tryz.afm:sz Tryz.prog 61=some 3:=by kernel_rfl
@[go_sem] theorem Tryz.adK:aQ Tryz.prog 61=some 48:=by kernel_rfl
@[go_sem] theorem Tryz.ahZ:ax Tryz.prog 61=some ([.bool false,.string ⟨#[]⟩,.slice none 0 0]):=by kernel_rfl
@[go_sem] theorem Tryz.R3:tk Tryz.prog 64= .slice 98:=by kernel_rfl
@[go_sem] theorem Tryz.afn:sz Tryz.prog 64=some 1:=by kernel_rfl
@[go_sem] theorem Tryz.adL:aQ Tryz.prog 64=some 24:=by kernel_rfl
@[go_sem] theorem Tryz.ah0:ax Tryz.prog 64=some ([.slice none 0 0]):=by kernel_rfl
@[go_sem] theorem Tryz.agA:tk Tryz.prog 65= .func:=by kernel_rfl
@[go_sem] theorem Tryz.afo:sz Tryz.prog 65=some 1:=by kernel_rfl
@[go_sem] theorem Tryz.adM:aQ Tryz.prog 65=some 8:=by kernel_rfl
@[go_sem] theorem Tryz.ah1:ax Tryz.prog 65=some ([.nilFunc]):=by kernel_rfl
@[go_sem] theorem Tryz.agB:tk Tryz.prog 67= .func:=by kernel_rfl
@[go_sem] theorem Tryz.afp:sz Tryz.prog 67=some 1:=by kernel_rfl
@[go_sem] theorem Tryz.adN:aQ Tryz.prog 67=some 8:=by kernel_rfl
@[go_sem] theorem Tryz.ah2:ax Tryz.prog 67=some ([.nilFunc]):=by kernel_rfl
@[go_sem] theorem Tryz.yB:tk Tryz.prog 69= .slice 71:=by kernel_rfl
@[go_sem] theorem Tryz.afq:sz Tryz.prog 69=some 1:=by kernel_rfl
@[go_sem] theorem Tryz.adO:aQ Tryz.prog 69=some 24:=by kernel_rfl
@[go_sem] theorem Tryz.ah3:ax Tryz.prog 69=some ([.slice none 0 0]):=by kernel_rfl
@[go_sem] theorem Tryz.agC:tk Tryz.prog 71= .struct [(0,9),(1,3),(2,69)]:=by kernel_rfl
@[go_sem] theorem Tryz.yA:sz Tryz.prog 71=some 3:=by kernel_rfl
@[go_sem] theorem Tryz.wo:aQ Tryz.prog 71=some 48:=by kernel_rfl
@[go_sem] theorem Tryz.yN:ax Tryz.prog 71=some ([.string ⟨#[]⟩,.int .i64 0,.slice none 0 0]):=by kernel_rfl
@[go_sem] theorem Tryz.agD:tk Tryz.prog 88= .func:=by kernel_rfl
@[go_sem] theorem Tryz.afr:sz Tryz.prog 88=some 1:=by kernel_rfl
@[go_sem] theorem Tryz.adP:aQ Tryz.prog 88=some 8:=by kernel_rfl
@[go_sem] theorem Tryz.ah4:ax Tryz.prog 88=some ([.nilFunc]):=by kernel_rfl
@[go_sem] theorem Tryz.agE:tk Tryz.prog 89= .func:=by kernel_rfl
@[go_sem] theorem Tryz.afs:sz Tryz.prog 89=some 1:=by kernel_rfl
@[go_sem] theorem Tryz.adQ:aQ Tryz.prog 89=some 8:=by kernel_rfl
@[go_sem] theorem Tryz.ah5:ax Tryz.prog 89=some ([.nilFunc]):=by kernel_rfl
@[go_sem] theorem Tryz.agF:tk Tryz.prog 94= .func:=by kernel_rfl
@[go_sem] theorem Tryz.aft:sz Tryz.prog 94=some 1:=by kernel_rfl
@[go_sem] theorem Tryz.adR:aQ Tryz.prog 94=some 8:=by kernel_rfl
@[go_sem] theorem Tryz.ah6:ax Tryz.prog 94=some ([.nilFunc]):=by kernel_rfl
@[go_sem] theorem Tryz.agG:tk Tryz.prog 98= .struct [(0,3),(1,71)]:=by kernel_rfl
@[go_sem] theorem Tryz.R0:sz Tryz.prog 98=some 4:=by kernel_rfl
@[go_sem] theorem Tryz.K2:aQ Tryz.prog 98=some 56:=by kernel_rfl
@[go_sem] theorem Tryz.S7:ax Tryz.prog 98=some ([.int .i64 0,.string ⟨#[]⟩,.int .i64 0,.slice none 0 0]):=by kernel_rfl
@[go_sem] theorem Tryz.afw:tk Tryz.prog 116= .func:=by kernel_rfl
@[go_sem] theorem Tryz.aei:sz Tryz.prog 116=some 1:=by kernel_rfl
@[go_sem] theorem Tryz.acD:aQ Tryz.prog 116=some 8:=by kernel_rfl
@[go_sem] theorem Tryz.agU:ax Tryz.prog 116=some ([.nilFunc]):=by kernel_rfl
@[go_sem] theorem Tryz.afx:tk Tryz.prog 119= .struct [(0,4),(1,9),(2,69)]:=by kernel_rfl
@[go_sem] theorem Tryz.JL:sz Tryz.prog 119=some 3:=by kernel_rfl
@[go_sem] theorem Tryz.Fz:aQ Tryz.prog 119=some 48:=by kernel_rfl
@[go_sem] theorem Tryz.Ke:ax Tryz.prog 119=some ([.bool false,.string ⟨#[]⟩,.slice none 0 0]):=by kernel_rfl
@[go_sem] theorem Tryz.afy:tk Tryz.prog 123= .func:=by kernel_rfl
@[go_sem] theorem Tryz.aej:sz Tryz.prog 123=some 1:=by kernel_rfl
@[go_sem] theorem Tryz.acE:aQ Tryz.prog 123=some 8:=by kernel_rfl
@[go_sem] theorem Tryz.agV:ax Tryz.prog 123=some ([.nilFunc]):=by kernel_rfl
@[go_sem] theorem Tryz.afz:tk Tryz.prog 124= .func:=by kernel_rfl
@[go_sem] theorem Tryz.aek:sz Tryz.prog 124=some 1:=by kernel_rfl
@[go_sem] theorem Tryz.acF:aQ Tryz.prog 124=some 8:=by kernel_rfl
@[go_sem] theorem Tryz.agW:ax Tryz.prog 124=some ([.nilFunc]):=by kernel_rfl
@[go_sem] theorem Tryz.afA:tk Tryz.prog 131= .struct []:=by kernel_rfl
@[go_sem] theorem Tryz.ael:sz Tryz.prog 131=some 0:=by kernel_rfl
@[go_sem] theorem Tryz.acG:aQ Tryz.prog 131=some 0:=by kernel_rfl
@[go_sem] theorem Tryz.agX:ax Tryz.prog 131=some ([]):=by kernel_rfl
@[go_sem] theorem Tryz.afB:tk Tryz.prog 133= .ptr 135:=by kernel_rfl
@[go_sem] theorem Tryz.aem:sz Tryz.prog 133=some 1:=by kernel_rfl
@[go_sem] theorem Tryz.acH:aQ Tryz.prog 133=some 8:=by kernel_rfl
@[go_sem] theorem Tryz.agY:ax Tryz.prog 133=some ([.pointer none]):=by kernel_rfl
@[go_sem] theorem Tryz.afC:tk Tryz.prog 135= .struct [(0,9),(1,3)]:=by kernel_rfl
@[go_sem] theorem Tryz.aen:sz Tryz.prog 135=some 2:=by kernel_rfl
@[go_sem] theorem Tryz.acI:aQ Tryz.prog 135=some 24:=by kernel_rfl
@[go_sem] theorem Tryz.adS:mN Tryz.prog 135=true:=by kernel_rfl
@[go_sem] theorem Tryz.agZ:ax Tryz.prog 135=some ([.string ⟨#[]⟩,.int .i64 0]):=by kernel_rfl
@[go_sem] theorem Tryz.abH:tk Tryz.prog 140= .slice 145:=by kernel_rfl
@[go_sem] theorem Tryz.aeo:sz Tryz.prog 140=some 1:=by kernel_rfl
@[go_sem] theorem Tryz.acJ:aQ Tryz.prog 140=some 24:=by kernel_rfl
@[go_sem] theorem Tryz.ag0:ax Tryz.prog 140=some ([.slice none 0 0]):=by kernel_rfl
@[go_sem] theorem Tryz.afD:tk Tryz.prog 143= .func:=by kernel_rfl
@[go_sem] theorem Tryz.aep:sz Tryz.prog 143=some 1:=by kernel_rfl
@[go_sem] theorem Tryz.acK:aQ Tryz.prog 143=some 8:=by kernel_rfl
@[go_sem] theorem Tryz.ag1:ax Tryz.prog 143=some ([.nilFunc]):=by kernel_rfl
@[go_sem] theorem Tryz.afE:tk Tryz.prog 145= .struct [(0,119),(3,9)]:=by kernel_rfl
@[go_sem] theorem Tryz.abC:sz Tryz.prog 145=some 4:=by kernel_rfl
@[go_sem] theorem Tryz.Uf:aQ Tryz.prog 145=some 64:=by kernel_rfl
@[go_sem] theorem Tryz.acz:ax Tryz.prog 145=some ([.bool false,.string ⟨#[]⟩,.slice none 0 0,.string ⟨#[]⟩]):=by kernel_rfl
@[go_sem] theorem Tryz.afF:tk Tryz.prog 148= .func:=by kernel_rfl
@[go_sem] theorem Tryz.aeq:sz Tryz.prog 148=some 1:=by kernel_rfl
@[go_sem] theorem Tryz.acL:aQ Tryz.prog 148=some 8:=by kernel_rfl
@[go_sem] theorem Tryz.ag2:ax Tryz.prog 148=some ([.nilFunc]):=by kernel_rfl
@[go_sem] theorem Tryz.afG:tk Tryz.prog 149= .map 3 3:=by kernel_rfl
@[go_sem] theorem Tryz.aer:sz Tryz.prog 149=some 1:=by kernel_rfl
@[go_sem] theorem Tryz.acM:aQ Tryz.prog 149=some 8:=by kernel_rfl
@[go_sem] theorem Tryz.ag3:ax Tryz.prog 149=some ([.map none]):=by kernel_rfl
@[go_sem] theorem Tryz.afH:tk Tryz.prog 151= .func:=by kernel_rfl
@[go_sem] theorem Tryz.aes:sz Tryz.prog 151=some 1:=by kernel_rfl
@[go_sem] theorem Tryz.acN:aQ Tryz.prog 151=some 8:=by kernel_rfl
@[go_sem] theorem Tryz.ag4:ax Tryz.prog 151=some ([.nilFunc]):=by kernel_rfl
@[go_sem] theorem Tryz.afI:tk Tryz.prog 153= .func:=by kernel_rfl
@[go_sem] theorem Tryz.aet:sz Tryz.prog 153=some 1:=by kernel_rfl
@[go_sem] theorem Tryz.acO:aQ Tryz.prog 153=some 8:=by kernel_rfl
@[go_sem] theorem Tryz.ag5:ax Tryz.prog 153=some ([.nilFunc]):=by kernel_rfl
@[go_sem] theorem Tryz.afJ:tk Tryz.prog 158= .map 3 71:=by kernel_rfl
@[go_sem] theorem Tryz.aeu:sz Tryz.prog 158=some 1:=by kernel_rfl
@[go_sem] theorem Tryz.acP:aQ Tryz.prog 158=some 8:=by kernel_rfl
@[go_sem] theorem Tryz.ag6:ax Tryz.prog 158=some ([.map none]):=by kernel_rfl
@[go_sem] theorem Tryz.afK:tk Tryz.prog 164= .struct [(0,3),(1,3)]:=by kernel_rfl
@[go_sem] theorem Tryz.aev:sz Tryz.prog 164=some 2:=by kernel_rfl
@[go_sem] theorem Tryz.acQ:aQ Tryz.prog 164=some 16:=by kernel_rfl
@[go_sem] theorem Tryz.adT:mN Tryz.prog 164=true:=by kernel_rfl
@[go_sem] theorem Tryz.ag7:ax Tryz.prog 164=some ([.int .i64 0,.int .i64 0]):=by kernel_rfl
@[go_sem] theorem Tryz.afL:tk Tryz.prog 176= .func:=by kernel_rfl
@[go_sem] theorem Tryz.aew:sz Tryz.prog 176=some 1:=by kernel_rfl
@[go_sem] theorem Tryz.acR:aQ Tryz.prog 176=some 8:=by kernel_rfl
@[go_sem] theorem Tryz.ag8:ax Tryz.prog 176=some ([.nilFunc]):=by kernel_rfl
@[go_sem] theorem Tryz.afM:tk Tryz.prog 178= .ptr 189:=by kernel_rfl
@[go_sem] theorem Tryz.aex:sz Tryz.prog 178=some 1:=by kernel_rfl
@[go_sem] theorem Tryz.acS:aQ Tryz.prog 178=some 8:=by kernel_rfl
@[go_sem] theorem Tryz.ag9:ax Tryz.prog 178=some ([.pointer none]):=by kernel_rfl
@[go_sem] theorem Tryz.afN:tk Tryz.prog 179= .map 187 194:=by kernel_rfl
@[go_sem] theorem Tryz.aey:sz Tryz.prog 179=some 1:=by kernel_rfl
@[go_sem] theorem Tryz.acT:aQ Tryz.prog 179=some 8:=by kernel_rfl
@[go_sem] theorem Tryz.ag_:ax Tryz.prog 179=some ([.map none]):=by kernel_rfl
@[go_sem] theorem Tryz.afO:tk Tryz.prog 182= .func:=by kernel_rfl
@[go_sem] theorem Tryz.aez:sz Tryz.prog 182=some 1:=by kernel_rfl
@[go_sem] theorem Tryz.acU:aQ Tryz.prog 182=some 8:=by kernel_rfl
@[go_sem] theorem Tryz.aha:ax Tryz.prog 182=some ([.nilFunc]):=by kernel_rfl
@[go_sem] theorem Tryz.afP:tk Tryz.prog 183= .func:=by kernel_rfl
@[go_sem] theorem Tryz.aeA:sz Tryz.prog 183=some 1:=by kernel_rfl
@[go_sem] theorem Tryz.acV:aQ Tryz.prog 183=some 8:=by kernel_rfl
@[go_sem] theorem Tryz.ahb:ax Tryz.prog 183=some ([.nilFunc]):=by kernel_rfl
@[go_sem] theorem Tryz.afQ:tk Tryz.prog 184= .func:=by kernel_rfl
@[go_sem] theorem Tryz.aeB:sz Tryz.prog 184=some 1:=by kernel_rfl
@[go_sem] theorem Tryz.acW:aQ Tryz.prog 184=some 8:=by kernel_rfl
@[go_sem] theorem Tryz.ahc:ax Tryz.prog 184=some ([.nilFunc]):=by kernel_rfl
@[go_sem] theorem Tryz.afR:tk Tryz.prog 186= .map 3 187:=by kernel_rfl
@[go_sem] theorem Tryz.aeC:sz Tryz.prog 186=some 1:=by kernel_rfl
@[go_sem] theorem Tryz.acX:aQ Tryz.prog 186=some 8:=by kernel_rfl
@[go_sem] theorem Tryz.ahd:ax Tryz.prog 186=some ([.map none]):=by kernel_rfl
@[go_sem] theorem Tryz.tV:tk Tryz.prog 187= .ptr 192:=by kernel_rfl
@[go_sem] theorem Tryz.qG:sz Tryz.prog 187=some 1:=by kernel_rfl
@[go_sem] theorem Tryz.Ug:aQ Tryz.prog 187=some 8:=by kernel_rfl
@[go_sem] theorem Tryz.Kf:ax Tryz.prog 187=some ([.pointer none]):=by kernel_rfl
@[go_sem] theorem Tryz.afS:tk Tryz.prog 189= .struct [(0,186)]:=by kernel_rfl
@[go_sem] theorem Tryz.aeD:sz Tryz.prog 189=some 1:=by kernel_rfl
@[go_sem] theorem Tryz.acY:aQ Tryz.prog 189=some 8:=by kernel_rfl
@[go_sem] theorem Tryz.ahe:ax Tryz.prog 189=some ([.map none]):=by kernel_rfl
@[go_sem] theorem Tryz.JQ:tk Tryz.prog 190= .slice 187:=by kernel_rfl
@[go_sem] theorem Tryz.aeE:sz Tryz.prog 190=some 1:=by kernel_rfl
@[go_sem] theorem Tryz.acZ:aQ Tryz.prog 190=some 24:=by kernel_rfl
@[go_sem] theorem Tryz.ahf:ax Tryz.prog 190=some ([.slice none 0 0]):=by kernel_rfl
@[go_sem] theorem Tryz.afT:tk Tryz.prog 192= .struct [(0,187),(1,9),(2,3),(3,190)]:=by kernel_rfl
@[go_sem] theorem Tryz.RY:sz Tryz.prog 192=some 4:=by kernel_rfl
@[go_sem] theorem Tryz.ac0:aQ Tryz.prog 192=some 56:=by kernel_rfl
@[go_sem] theorem Tryz.ahg:ax Tryz.prog 192=some ([.pointer none,.string ⟨#[]⟩,.int .i64 0,.slice none 0 0]):=by kernel_rfl
@[go_sem] theorem Tryz.afU:tk Tryz.prog 194= .struct [(0,4),(1,164)]:=by kernel_rfl
@[go_sem] theorem Tryz.aeF:sz Tryz.prog 194=some 3:=by kernel_rfl
@[go_sem] theorem Tryz.ac1:aQ Tryz.prog 194=some 24:=by kernel_rfl
@[go_sem] theorem Tryz.ahh:ax Tryz.prog 194=some ([.bool false,.int .i64 0,.int .i64 0]):=by kernel_rfl
@[go_sem] theorem Tryz.afV:tk Tryz.prog 195= .func:=by kernel_rfl
@[go_sem] theorem Tryz.aeG:sz Tryz.prog 195=some 1:=by kernel_rfl
@[go_sem] theorem Tryz.ac2:aQ Tryz.prog 195=some 8:=by kernel_rfl
@[go_sem] theorem Tryz.ahi:ax Tryz.prog 195=some ([.nilFunc]):=by kernel_rfl
@[go_sem] theorem Tryz.afX:tk Tryz.prog 200= .ptr 46:=by kernel_rfl
@[go_sem] theorem Tryz.aeI:sz Tryz.prog 200=some 1:=by kernel_rfl
@[go_sem] theorem Tryz.ac4:aQ Tryz.prog 200=some 8:=by kernel_rfl
@[go_sem] theorem Tryz.ahk:ax Tryz.prog 200=some ([.pointer none]):=by kernel_rfl
@[go_sem] theorem Tryz.afZ:tk Tryz.prog 213= .struct [(0,71),(3,3)]:=by kernel_rfl
@[go_sem] theorem Tryz.aeK:sz Tryz.prog 213=some 4:=by kernel_rfl
@[go_sem] theorem Tryz.ac6:aQ Tryz.prog 213=some 56:=by kernel_rfl
@[go_sem] theorem Tryz.ahm:ax Tryz.prog 213=some ([.string ⟨#[]⟩,.int .i64 0,.slice none 0 0,.int .i64 0]):=by kernel_rfl
@[go_sem] theorem Tryz.af0:tk Tryz.prog 219= .func:=by kernel_rfl
@[go_sem] theorem Tryz.aeL:sz Tryz.prog 219=some 1:=by kernel_rfl
@[go_sem] theorem Tryz.ac7:aQ Tryz.prog 219=some 8:=by kernel_rfl
@[go_sem] theorem Tryz.ahn:ax Tryz.prog 219=some ([.nilFunc]):=by kernel_rfl
@[go_sem] theorem Tryz.af1:tk Tryz.prog 225= .ptr 164:=by kernel_rfl
@[go_sem] theorem Tryz.aeM:sz Tryz.prog 225=some 1:=by kernel_rfl
@[go_sem] theorem Tryz.ac8:aQ Tryz.prog 225=some 8:=by kernel_rfl
@[go_sem] theorem Tryz.aho:ax Tryz.prog 225=some ([.pointer none]):=by kernel_rfl
@[go_sem] theorem Tryz.af2:tk Tryz.prog 228= .ptr 234:=by kernel_rfl
@[go_sem] theorem Tryz.aeN:sz Tryz.prog 228=some 1:=by kernel_rfl
@[go_sem] theorem Tryz.ac9:aQ Tryz.prog 228=some 8:=by kernel_rfl
@[go_sem] theorem Tryz.ahp:ax Tryz.prog 228=some ([.pointer none]):=by kernel_rfl
@[go_sem] theorem Tryz.af3:tk Tryz.prog 229= .ptr 232:=by kernel_rfl
@[go_sem] theorem Tryz.aeO:sz Tryz.prog 229=some 1:=by kernel_rfl
@[go_sem] theorem Tryz.ac_:aQ Tryz.prog 229=some 8:=by kernel_rfl
@[go_sem] theorem Tryz.ahq:ax Tryz.prog 229=some ([.pointer none]):=by kernel_rfl
@[go_sem] theorem Tryz.abI:tk Tryz.prog 230= .slice 5:=by kernel_rfl
@[go_sem] theorem Tryz.aeQ:sz Tryz.prog 230=some 1:=by kernel_rfl
@[go_sem] theorem Tryz.adb:aQ Tryz.prog 230=some 24:=by kernel_rfl
@[go_sem] theorem Tryz.ahs:ax Tryz.prog 230=some ([.slice none 0 0]):=by kernel_rfl
@[go_sem] theorem Tryz.af5:tk Tryz.prog 232= .struct [(0,229),(1,230)]:=by kernel_rfl
@[go_sem] theorem Tryz.aeR:sz Tryz.prog 232=some 2:=by kernel_rfl
@[go_sem] theorem Tryz.ade:aQ Tryz.prog 232=some 32:=by kernel_rfl
@[go_sem] theorem Tryz.aht:ax Tryz.prog 232=some ([.pointer none,.slice none 0 0]):=by kernel_rfl
@[go_sem] theorem Tryz.af6:tk Tryz.prog 234= .struct [(0,232),(2,4)]:=by kernel_rfl
@[go_sem] theorem Tryz.aeS:sz Tryz.prog 234=some 3:=by kernel_rfl
@[go_sem] theorem Tryz.adf:aQ Tryz.prog 234=some 40:=by kernel_rfl
@[go_sem] theorem Tryz.ahu:ax Tryz.prog 234=some ([.pointer none,.slice none 0 0,.bool false]):=by kernel_rfl
@[go_sem] theorem Tryz.af7:tk Tryz.prog 236= .iface:=by kernel_rfl
@[go_sem] theorem Tryz.aeT:sz Tryz.prog 236=some 1:=by kernel_rfl
@[go_sem] theorem Tryz.adg:aQ Tryz.prog 236=some 16:=by kernel_rfl
@[go_sem] theorem Tryz.ahv:ax Tryz.prog 236=some ([.nilIface]):=by kernel_rfl
@[go_sem] theorem Tryz.af9:tk Tryz.prog 244= .struct [(0,9),(1,4)]:=by kernel_rfl
@[go_sem] theorem Tryz.aeV:sz Tryz.prog 244=some 2:=by kernel_rfl
@[go_sem] theorem Tryz.adi:aQ Tryz.prog 244=some 24:=by kernel_rfl
@[go_sem] theorem Tryz.adU:mN Tryz.prog 244=true:=by kernel_rfl
@[go_sem] theorem Tryz.ahx:ax Tryz.prog 244=some ([.string ⟨#[]⟩,.bool false]):=by kernel_rfl
@[go_sem] theorem Tryz.af_:tk Tryz.prog 245= .slice 244:=by kernel_rfl
@[go_sem] theorem Tryz.aeW:sz Tryz.prog 245=some 1:=by kernel_rfl
@[go_sem] theorem Tryz.adj:aQ Tryz.prog 245=some 24:=by kernel_rfl
@[go_sem] theorem Tryz.ahy:ax Tryz.prog 245=some ([.slice none 0 0]):=by kernel_rfl
@[go_sem] theorem Tryz.aga:tk Tryz.prog 264= .func:=by kernel_rfl
@[go_sem] theorem Tryz.aeX:sz Tryz.prog 264=some 1:=by kernel_rfl
@[go_sem] theorem Tryz.adk:aQ Tryz.prog 264=some 8:=by kernel_rfl
@[go_sem] theorem Tryz.ahz:ax Tryz.prog 264=some ([.nilFunc]):=by kernel_rfl
@[go_sem] theorem Tryz.agb:tk Tryz.prog 278= .ptr 5:=by kernel_rfl
@[go_sem] theorem Tryz.aeZ:sz Tryz.prog 278=some 1:=by kernel_rfl
@[go_sem] theorem Tryz.adm:aQ Tryz.prog 278=some 8:=by kernel_rfl
@[go_sem] theorem Tryz.ahB:ax Tryz.prog 278=some ([.pointer none]):=by kernel_rfl
@[go_sem] theorem Tryz.agc:tk Tryz.prog 295= .int .u64:=by kernel_rfl
@[go_sem] theorem Tryz.ae0:sz Tryz.prog 295=some 1:=by kernel_rfl
@[go_sem] theorem Tryz.adn:aQ Tryz.prog 295=some 8:=by kernel_rfl
@[go_sem] theorem Tryz.agK:(Tryz.prog.underlying 295).isSome=true:=by kernel_rfl
@[go_sem] theorem Tryz.ahC:ax Tryz.prog 295=some ([.int .u64 0]):=by kernel_rfl
@[go_sem] theorem Tryz.age:tk Tryz.prog 300= .other:=by kernel_rfl
@[go_sem] theorem Tryz.ae2:sz Tryz.prog 300=some 1:=by kernel_rfl
@[go_sem] theorem Tryz.adp:aQ Tryz.prog 300=some 8:=by kernel_rfl
@[go_sem] theorem Tryz.ahE:ax Tryz.prog 300=some ([.pointer none]):=by kernel_rfl
@[go_sem] theorem Tryz.agf:tk Tryz.prog 304= .int .i64:=by kernel_rfl
@[go_sem] theorem Tryz.ae3:sz Tryz.prog 304=some 1:=by kernel_rfl
@[go_sem] theorem Tryz.adq:aQ Tryz.prog 304=some 8:=by kernel_rfl
@[go_sem] theorem Tryz.agM:(Tryz.prog.underlying 304).isSome=true:=by kernel_rfl
@[go_sem] theorem Tryz.ahF:ax Tryz.prog 304=some ([.int .i64 0]):=by kernel_rfl
@[go_sem] theorem Tryz.agh:tk Tryz.prog 312= .int .u32:=by kernel_rfl
@[go_sem] theorem Tryz.ae4:sz Tryz.prog 312=some 1:=by kernel_rfl
@[go_sem] theorem Tryz.adr:aQ Tryz.prog 312=some 4:=by kernel_rfl
@[go_sem] theorem Tryz.agO:(Tryz.prog.underlying 312).isSome=true:=by kernel_rfl
@[go_sem] theorem Tryz.ahG:ax Tryz.prog 312=some ([.int .u32 0]):=by kernel_rfl
@[go_sem] theorem Tryz.agi:tk Tryz.prog 314= .int .u64:=by kernel_rfl
@[go_sem] theorem Tryz.ae5:sz Tryz.prog 314=some 1:=by kernel_rfl
@[go_sem] theorem Tryz.ads:aQ Tryz.prog 314=some 8:=by kernel_rfl
@[go_sem] theorem Tryz.agP:(Tryz.prog.underlying 314).isSome=true:=by kernel_rfl
@[go_sem] theorem Tryz.ahH:ax Tryz.prog 314=some ([.int .u64 0]):=by kernel_rfl
@[go_sem] theorem Tryz.agj:tk Tryz.prog 319= .int .i64:=by kernel_rfl
@[go_sem] theorem Tryz.ae6:sz Tryz.prog 319=some 1:=by kernel_rfl
@[go_sem] theorem Tryz.adt:aQ Tryz.prog 319=some 8:=by kernel_rfl
@[go_sem] theorem Tryz.agQ:(Tryz.prog.underlying 319).isSome=true:=by kernel_rfl
@[go_sem] theorem Tryz.ahI:ax Tryz.prog 319=some ([.int .i64 0]):=by kernel_rfl
@[go_sem] theorem Tryz.agl:tk Tryz.prog 322= .ptr 336:=by kernel_rfl
@[go_sem] theorem Tryz.ae8:sz Tryz.prog 322=some 1:=by kernel_rfl
@[go_sem] theorem Tryz.adv:aQ Tryz.prog 322=some 8:=by kernel_rfl
@[go_sem] theorem Tryz.ahK:ax Tryz.prog 322=some ([.pointer none]):=by kernel_rfl
@[go_sem] theorem Tryz.agm:tk Tryz.prog 326= .int .u64:=by kernel_rfl
@[go_sem] theorem Tryz.ae9:sz Tryz.prog 326=some 1:=by kernel_rfl
@[go_sem] theorem Tryz.adw:aQ Tryz.prog 326=some 8:=by kernel_rfl
@[go_sem] theorem Tryz.agR:(Tryz.prog.underlying 326).isSome=true:=by kernel_rfl
@[go_sem] theorem Tryz.ahL:ax Tryz.prog 326=some ([.int .u64 0]):=by kernel_rfl
@[go_sem] theorem Tryz.agn:tk Tryz.prog 330= .ptr 3:=by kernel_rfl
@[go_sem] theorem Tryz.ae_:sz Tryz.prog 330=some 1:=by kernel_rfl
@[go_sem] theorem Tryz.adx:aQ Tryz.prog 330=some 8:=by kernel_rfl
@[go_sem] theorem Tryz.ahM:ax Tryz.prog 330=some ([.pointer none]):=by kernel_rfl
@[go_sem] theorem Tryz.ago:tk Tryz.prog 336= .struct [(0,9),(1,9),(2,236)]:=by kernel_rfl
@[go_sem] theorem Tryz.afa:sz Tryz.prog 336=some 3:=by kernel_rfl
@[go_sem] theorem Tryz.ady:aQ Tryz.prog 336=some 48:=by kernel_rfl
@[go_sem] theorem Tryz.ahN:ax Tryz.prog 336=some ([.string ⟨#[]⟩,.string ⟨#[]⟩,.nilIface]):=by kernel_rfl
@[go_sem] theorem Tryz.agp:tk Tryz.prog 338= .arr 24 5:=by kernel_rfl
@[go_sem] theorem Tryz.afb:sz Tryz.prog 338=some 24:=by kernel_rfl
@[go_sem] theorem Tryz.adz:aQ Tryz.prog 338=some 24:=by kernel_rfl
@[go_sem] theorem Tryz.adV:mN Tryz.prog 338=true:=by kernel_rfl
@[go_sem] theorem Tryz.ahO:ax Tryz.prog 338=some (List.replicate 24 (.int .u8 0)):=by kernel_rfl
@[go_sem] theorem Tryz.agq:tk Tryz.prog 342= .ptr 326:=by kernel_rfl
@[go_sem] theorem Tryz.afc:sz Tryz.prog 342=some 1:=by kernel_rfl
@[go_sem] theorem Tryz.adA:aQ Tryz.prog 342=some 8:=by kernel_rfl
@[go_sem] theorem Tryz.ahP:ax Tryz.prog 342=some ([.pointer none]):=by kernel_rfl
@[go_sem] theorem Tryz.agr:tk Tryz.prog 346= .ptr 348:=by kernel_rfl
@[go_sem] theorem Tryz.afd:sz Tryz.prog 346=some 1:=by kernel_rfl
@[go_sem] theorem Tryz.adB:aQ Tryz.prog 346=some 8:=by kernel_rfl
@[go_sem] theorem Tryz.ahQ:ax Tryz.prog 346=some ([.pointer none]):=by kernel_rfl
@[go_sem] theorem Tryz.ags:tk Tryz.prog 348= .struct [(0,9)]:=by kernel_rfl
@[go_sem] theorem Tryz.afe:sz Tryz.prog 348=some 1:=by kernel_rfl
@[go_sem] theorem Tryz.adC:aQ Tryz.prog 348=some 16:=by kernel_rfl
@[go_sem] theorem Tryz.adW:mN Tryz.prog 348=true:=by kernel_rfl
@[go_sem] theorem Tryz.ahR:ax Tryz.prog 348=some ([.string ⟨#[]⟩]):=by kernel_rfl
@[go_sem] theorem Tryz.agt:tk Tryz.prog 350= .arr 20 314:=by kernel_rfl
@[go_sem] theorem Tryz.aff:sz Tryz.prog 350=some 20:=by kernel_rfl
@[go_sem] theorem Tryz.adD:aQ Tryz.prog 350=some 160:=by kernel_rfl
@[go_sem] theorem Tryz.adX:mN Tryz.prog 350=true:=by kernel_rfl
@[go_sem] theorem Tryz.ahS:ax Tryz.prog 350=some (List.replicate 20 (.int .u64 0)):=by kernel_rfl
@[go_sem] theorem Tryz.agu:tk Tryz.prog 351= .arr 65 5:=by kernel_rfl
@[go_sem] theorem Tryz.afg:sz Tryz.prog 351=some 65:=by kernel_rfl
@[go_sem] theorem Tryz.adE:aQ Tryz.prog 351=some 65:=by kernel_rfl
@[go_sem] theorem Tryz.adY:mN Tryz.prog 351=true:=by kernel_rfl
@[go_sem] theorem Tryz.ahT:ax Tryz.prog 351=some (List.replicate 65 (.int .u8 0)):=by kernel_rfl
@[go_sem] theorem Tryz.agv:tk Tryz.prog 352= .arr 32 5:=by kernel_rfl
@[go_sem] theorem Tryz.afh:sz Tryz.prog 352=some 32:=by kernel_rfl
@[go_sem] theorem Tryz.adF:aQ Tryz.prog 352=some 32:=by kernel_rfl
@[go_sem] theorem Tryz.adZ:mN Tryz.prog 352=true:=by kernel_rfl
@[go_sem] theorem Tryz.ahU:ax Tryz.prog 352=some (List.replicate 32 (.int .u8 0)):=by kernel_rfl
@[go_sem] theorem Tryz.agw:tk Tryz.prog 353= .arr 64 5:=by kernel_rfl
@[go_sem] theorem Tryz.afi:sz Tryz.prog 353=some 64:=by kernel_rfl
@[go_sem] theorem Tryz.adG:aQ Tryz.prog 353=some 64:=by kernel_rfl
@[go_sem] theorem Tryz.ad0:mN Tryz.prog 353=true:=by kernel_rfl
@[go_sem] theorem Tryz.ahV:ax Tryz.prog 353=some (List.replicate 64 (.int .u8 0)):=by kernel_rfl
end Go.Proofs.YtpfohmboflcneaaGreatDoor
end
section
namespace Go.Proofs.YtpfohmboflcneaaGreatDoor
open Go Go.AL Go.RowKit
set_option maxRecDepth 10000
set_option maxHeartbeats 4000000
inductive Tm where
 |mk (nm:List UInt8) (ix:Int) (xs:List Tm)
def Tm.nm:Tm->List UInt8| .mk n _ _=>n
def Tm.ix:Tm->Int| .mk _ i _=>i
def Tm.xs:Tm->List Tm| .mk _ _ a=>a
mutual
def dR:Tm->Tm->Bool
 | .mk n i xs,u=>(n==u.nm&&i==u.ix)&&mO xs u.xs
def mO:List Tm->List Tm->Bool
 |[],[]=>true
 |a::l,b::m=>dR a b&&mO l m
 |_,_=>false
end
mutual
def yC:Tm->List IV
 | .mk nm ix xs=>[Si nm,Ii ix,.sl 3 (aA xs)]
def aA:List Tm->List (List IV)
 |[]=>[]
 |t::l=>yC t::aA l
end
theorem jx (t:Tm):yC t=[Si t.nm,Ii t.ix,.sl 3 (aA t.xs)]:=by cases t;rfl
theorem yD:∀l:List Tm,aA l=l.map yC
 |[]=>rfl
 |t::l=>by rw[aA,yD l];rfl
theorem aj (l:List Tm):(aA l).length=l.length:=by rw[yD,List.length_map]
theorem dh (l:List Tm) (k:Nat) (h:k<l.length):∃t,l[k]?=some t/\(aA l).getD k []=[Si t.nm,Ii t.ix,.sl 3 (aA t.xs)]:=by
 refine⟨l[k],List.getElem?_eq_getElem h,?_⟩
 rw[List.getD_eq_getElem?_getD,yD,List.getElem?_map,List.getElem?_eq_getElem h,<-jx];rfl
abbrev aP (t:Tm):AV:= .agg [Sv t.nm,Iv t.ix,.im (.sl 3 (aA t.xs))]
mutual
def lT:Tm->Prop
 | .mk nm _ xs=>nm.length<=9223372036854775807/\xs.length<=9223372036854775807/\oB xs
def oB:List Tm->Prop
 |[]=>True
 |t::l=>lT t/\oB l
end
theorem R5 {t:Tm}:lT t↔t.nm.length<=9223372036854775807/\t.xs.length<=9223372036854775807/\oB t.xs:=by cases t;rw[lT];rfl
theorem BD:∀{l:List Tm} {k:Nat} {t:Tm},oB l->l[k]?=some t->lT t
 |[],k,t,_,h=>by simp at h
 |u::l,0,t,hs,h=>by rw[oB]at hs;simp at h;exact h▸hs.1
 |u::l,k+1,t,hs,h=>by rw[oB]at hs;simp at h;exact BD hs.2 h
theorem jW {t u:Tm} {k:Nat} (h:t.xs[k]?=some u):SizeOf.sizeOf u<SizeOf.sizeOf t:=by
 cases t with
 |mk nm ix xs=>
  have:=List.sizeOf_lt_of_mem (List.mem_of_getElem? h)
  simp only[Tm.xs]at this
  simp;omega
theorem ai.told {P:Program} {f:FuncId} {xs:List AV} {H:aa} {R R':AV->aa->Prop} (h:ai P f xs H R) (hr:∀r H',R r H'->∃r',R' r' H'/\∀w φ I v,AV.den w φ I r v->AV.den w φ I r' v):ai P f xs H R':=
 ⟨h.gN,fun w φ I vs hd hR hV=>(h.run w φ I vs hd hR hV).mono fun _ _ ⟨r,H',φ',I',v,U,h2,h3,h4⟩=>by
  obtain⟨r',mX,eZ⟩:=hr _ _ U
  exact⟨r',H',φ',I',v,mX,h2,eZ _ _ _ _ h3,h4⟩⟩
theorem aS.told {P:Program} {f:FuncId} {xs:List AV} {r r':AV} (h:aS P f xs r) (hr:∀w φ I v,AV.den w φ I r v->AV.den w φ I r' v):aS P f xs r':=
 ai.told h fun _ _ ⟨hH,he⟩=>⟨r',⟨hH,rfl⟩,by subst he;exact hr⟩
abbrev ew:AV:= .im (.v (.slice none 0 0))
theorem P0 (es:Nat) (w:World) (φ:al) (I:Nat->Prop) (v:Value) (h:AV.den w φ I ew v):AV.den w φ I (.im (.sl es [])) v:=by
 simp only[AV.den]at h⊢
 exact Ja h
@[go_sem] theorem aaX (ρ:Nat->Nat):∀cs:List IV,AV.cU ρ (cs.map AV.im)=cs.map AV.im
 |[]=>rfl
 |c::cs=>by rw[List.map_cons,AV.cU,aaX ρ cs];rfl
mutual
def aE:Tm->Prop
 | .mk nm _ xs=>nm.length<=1000000000/\xs.length<=1000000000/\b_ xs
def b_:List Tm->Prop
 |[]=>True
 |t::l=>aE t/\b_ l
end
theorem dN {t:Tm}:aE t↔t.nm.length<=1000000000/\t.xs.length<=1000000000/\b_ t.xs:=by cases t;rw[aE];rfl
theorem dc:∀{l:List Tm} {k:Nat} {t:Tm},b_ l->l[k]?=some t->aE t
 |[],k,t,_,h=>by simp at h
 |u::l,0,t,hs,h=>by rw[b_]at hs;simp at h;exact h▸hs.1
 |u::l,k+1,t,hs,h=>by rw[b_]at hs;simp at h;exact dc hs.2 h
abbrev tX (w:Tm):List IV:=[Si w.nm,Ii w.ix,.sl 3 (aA w.xs)]
abbrev g_ (t:Tm):IV:= .pt (tX t)
theorem dE {α:Type} {l:List α} {k:Nat} {u:α} (h:l[k]?=some u):l.take (k+1)=l.take k++[u]:=by rw[List.take_add_one,h];rfl
theorem nu {α:Type} {l:List α} {k:Nat} (h:k<=l.length):(l.take k).length=k:=by rw[List.length_take];omega
theorem A3 {α β:Type} (f:α->β) {l:List α} {k:Nat} {u:α} (h:l[k]?=some u):(l.take (k+1)).map f=(l.take k).map f++[f u]:=by
 rw[dE h,List.map_append];rfl
theorem tW (l:List Tm) (w:Tm):aA (l++[w])=aA l++[tX w]:=by
 rw[yD,List.map_append,<-yD,List.map_cons,List.map_nil,jx]
theorem uy (x:Tm) (hs:aE x):aS Tryz.prog 38 [aP x] (aP x):=by
 have dD:=dN.1 hs
 refine ai.walk [0,1,2,3,5,12,13,14,15] [2,3,5] Tryz.func38 rfl Tryz.ntmps38 (by kernel_rfl) (by rfl) rfl fun W own I0 ao lay=>?_
 refine gE @aj ?_
 refine AP.jv 1 2 71 3 rfl rfl ?_
 refine sI ?_
 refine AP.loop rfl (α:=Nat) (fun k=>[(2,.ob 0 0),(3,.ob 1 0),(12,.im (.sl 3 (aA x.xs))),(13,Iv x.xs.length),(14,Iv k)]) (fun k=>[(2,.vec 71 3 (aA (x.xs.take k))),(1,.var 71 [Sv x.nm,Iv x.ix,.os 2 3 0 k]),(0,.var 71 [Sv [],Iv 0,ew])]) (fun k=>k<=x.xs.length) (fun k=>x.xs.length-k) 0 (by omega) (sU) rfl fun k hk=>?_
 rcases Nat.eq_or_lt_of_le hk with aC|ag
 ·subst aC
  rw[List.take_length]
  refine gE @aj ?_
  refine cF ?_
  refine gO ?_
  refine AE.freeze 2 (el:=71) (es:=3) (rows:=aA x.xs) rfl (by simp only[go_sem,Nat.reduceAdd,Nat.reduceLeDiff,Nat.reduceSub,Int.reduceToNat,reduceCtorEq,aj];first|done|trivial|omega|(simp;done)|(simp;omega)) (by simp only[go_sem,Nat.reduceAdd,Nat.reduceLeDiff,Nat.reduceSub,Int.reduceToNat,reduceCtorEq,aj];first|done|trivial|omega|(simp;done)|(simp;omega)) ?_;simp only[go_sem,Nat.reduceAdd,Nat.reduceLeDiff,Nat.reduceSub,Int.reduceToNat,reduceCtorEq,aj]
  rw[List.take_of_length_le (by rw[aj];omega)]
  exact AE.a6 [1,0] rfl ⟨⟨rfl,Nat.le_of_ble_eq_true (by kernel_rfl)⟩,trivial⟩ rfl ⟨rfl,by cases x;rfl⟩
 ·obtain⟨u,hu,aH⟩:=dh x.xs k ag
  have hw:=wr (x:=(k:Int)+1) (by omega)
  have bf:=nu (l:=x.xs) (k:=k) (by omega)
  have ih:=uy u (dc dD.2.2 hu)
  have bl:=dE hu
  refine gE @aj ?_
  refine cT ?_
  refine gE @aH ?_
  refine⟨by rw[aj];omega,?_⟩
  refine gO ?_
  refine AP.bQ 8 (Tree.node [] [0,1,2] [3] [Tree.node [0,1] [] [4] [Tree.node [0,1] [] [5] [Tree.node [] [6] [7] [Tree.node [] [] [] []]]]]) (by kernel_rfl) rfl (by kernel_rfl) (by kernel_rfl) ?_
  refine bO ?_
  refine sI ?_
  refine AQ.fn (by kernel_rfl) rfl rfl rfl (ih) rfl ?_
  refine sI ?_
  refine AQ.nx rfl ?_
  refine sI ?_
  refine AQ.go (by kernel_rfl) ?_
  refine sI ?_
  refine AQ.nx rfl ?_
  refine sI ?_
  refine AQ.kill 2 ?_
  refine sI ?_
  refine AQ.append (hnb:=rfl) (rows:=aA (x.xs.take k)) (es:=2) (by kernel_rfl) rfl rfl rfl (by rfl) Tryz.yB Tryz.yA (by show Option.map _ (ax Tryz.prog 71)=_;rw[Tryz.yN];rfl) Tryz.wo (by first|rfl|(simp only[aj,bf,List.length_cons,List.length_nil];done)|(simp only[aj,bf,List.length_cons,List.length_nil];omega)) (by simp only[aj,bf,List.length_cons,List.length_nil];omega) (by simp only[aj,bf,List.length_cons,List.length_nil];omega) ?_
  refine sI ?_
  refine AQ.nx rfl ?_
  refine sI ?_
  refine AQ.go (by kernel_rfl) ?_
  refine sI ?_
  refine AQ.nx rfl ?_
  refine sI ?_
  refine AQ.done ?_
  refine gE @hw ?_
  refine AE.gQ [3] rfl ?_
  refine sI ?_
  refine AE.round (k+1) (by omega) (by omega) (sU) ?_
  rw[bl,tW,aj,bf]
termination_by SizeOf.sizeOf x
decreasing_by exact jW hu
theorem KP (x:Tm) (hs:aE x):aS Tryz.prog 112 [aP x] (aP x):=by
 have dD:=dN.1 hs
 refine ai.walk [0,1,2,3,5,12,13,14,15] [2,3,5] Tryz.func112 rfl Tryz.ntmps112 (by kernel_rfl) (by rfl) rfl fun W own I0 ao lay=>?_
 refine gE @aj ?_
 refine AP.jv 1 2 57 3 rfl rfl ?_
 refine sI ?_
 refine AP.loop rfl (α:=Nat) (fun k=>[(2,.ob 0 0),(3,.ob 1 0),(12,.im (.sl 3 (aA x.xs))),(13,Iv x.xs.length),(14,Iv k)]) (fun k=>[(2,.vec 57 3 (aA (x.xs.take k))),(1,.var 57 [Sv x.nm,Iv x.ix,.os 2 3 0 k]),(0,.var 57 [Sv [],Iv 0,ew])]) (fun k=>k<=x.xs.length) (fun k=>x.xs.length-k) 0 (by omega) (sU) rfl fun k hk=>?_
 rcases Nat.eq_or_lt_of_le hk with aC|ag
 ·subst aC
  rw[List.take_length]
  refine gE @aj ?_
  refine cF ?_
  refine gO ?_
  refine AE.freeze 2 (el:=57) (es:=3) (rows:=aA x.xs) rfl (by simp only[go_sem,Nat.reduceAdd,Nat.reduceLeDiff,Nat.reduceSub,Int.reduceToNat,reduceCtorEq,aj];first|done|trivial|omega|(simp;done)|(simp;omega)) (by simp only[go_sem,Nat.reduceAdd,Nat.reduceLeDiff,Nat.reduceSub,Int.reduceToNat,reduceCtorEq,aj];first|done|trivial|omega|(simp;done)|(simp;omega)) ?_;simp only[go_sem,Nat.reduceAdd,Nat.reduceLeDiff,Nat.reduceSub,Int.reduceToNat,reduceCtorEq,aj]
  rw[List.take_of_length_le (by rw[aj];omega)]
  exact AE.a6 [1,0] rfl ⟨⟨rfl,Nat.le_of_ble_eq_true (by kernel_rfl)⟩,trivial⟩ rfl ⟨rfl,by cases x;rfl⟩
 ·obtain⟨u,hu,aH⟩:=dh x.xs k ag
  have hw:=wr (x:=(k:Int)+1) (by omega)
  have bf:=nu (l:=x.xs) (k:=k) (by omega)
  have ih:=KP u (dc dD.2.2 hu)
  have bl:=dE hu
  refine gE @aj ?_
  refine cT ?_
  refine gE @aH ?_
  refine⟨by rw[aj];omega,?_⟩
  refine gO ?_
  refine AP.bQ 8 (Tree.node [] [0,1,2] [3] [Tree.node [0,1] [] [4] [Tree.node [0,1] [] [5] [Tree.node [] [6] [7] [Tree.node [] [] [] []]]]]) (by kernel_rfl) rfl (by kernel_rfl) (by kernel_rfl) ?_
  refine bO ?_
  refine sI ?_
  refine AQ.fn (by kernel_rfl) rfl rfl rfl (ih) rfl ?_
  refine sI ?_
  refine AQ.nx rfl ?_
  refine sI ?_
  refine AQ.go (by kernel_rfl) ?_
  refine sI ?_
  refine AQ.nx rfl ?_
  refine sI ?_
  refine AQ.kill 2 ?_
  refine sI ?_
  refine AQ.append (hnb:=rfl) (rows:=aA (x.xs.take k)) (es:=2) (by kernel_rfl) rfl rfl rfl (by rfl) Tryz.R2 Tryz.RZ (by show Option.map _ (ax Tryz.prog 57)=_;rw[Tryz.S6];rfl) Tryz.KZ (by first|rfl|(simp only[aj,bf,List.length_cons,List.length_nil];done)|(simp only[aj,bf,List.length_cons,List.length_nil];omega)) (by simp only[aj,bf,List.length_cons,List.length_nil];omega) (by simp only[aj,bf,List.length_cons,List.length_nil];omega) ?_
  refine sI ?_
  refine AQ.nx rfl ?_
  refine sI ?_
  refine AQ.go (by kernel_rfl) ?_
  refine sI ?_
  refine AQ.nx rfl ?_
  refine sI ?_
  refine AQ.done ?_
  refine gE @hw ?_
  refine AE.gQ [3] rfl ?_
  refine sI ?_
  refine AE.round (k+1) (by omega) (by omega) (sU) ?_
  rw[bl,tW,aj,bf]
termination_by SizeOf.sizeOf x
decreasing_by exact jW hu
end Go.Proofs.YtpfohmboflcneaaGreatDoor
end
section
namespace Go.Proofs.YtpfohmboflcneaaGreatDoor
set_option maxHeartbeats 1000000
mutual
theorem L5:∀s t:Tm,dR s t=true↔s=t
 | .mk n i xs,.mk m k ys=>by
  rw[dR]
  simp only[Bool.and_eq_true,beq_iff_eq,Tm.nm,Tm.ix,Tm.xs,F3 xs ys,Tm.mk.injEq,and_assoc]
theorem F3:∀s t:List Tm,mO s t=true↔s=t
 |[],[]=>by simp[mO]
 |[],_::_=>by simp[mO]
 |_::_,[]=>by simp[mO]
 |a::l,b::m=>by
  rw[mO]
  simp only[Bool.and_eq_true,L5 a b,F3 l m,List.cons.injEq]
end
theorem U4 (s:Tm):dR s s=true:=(L5 s s).2 rfl
mutual
def bJ:Tm->List Int
 | .mk n i xs=>(if n=[]then[i]else[])++aW xs
def aW:List Tm->List Int
 |[]=>[]
 |t::l=>bJ t++aW l
end
mutual
def wT:Tm->Nat
 | .mk _ _ xs=>1+aD xs
def aD:List Tm->Nat
 |[]=>0
 |t::l=>wT t+aD l
end
theorem BH (t:Tm):bJ t=(if t.nm=[]then[t.ix]else[])++aW t.xs:=by cases t;rw[bJ];rfl
theorem nB (t:Tm):wT t=1+aD t.xs:=by cases t;rw[wT];rfl
theorem qI (t:Tm):1<=wT t:=by rw[nB];omega
theorem qJ:∀(l:List Tm) (a:Tm),a∈l->wT a<=aD l
 |[],_,h=>by cases h
 |t::l,a,h=>by
  rw[aD]
  rcases List.mem_cons.1 h with rfl|h
  ·omega
  ·have:=qJ l a h;omega
theorem BJ {t a:Tm} (h:a∈t.xs):wT a<wT t:=by
 rw[nB t];have:=qJ t.xs a h;omega
def qZ (s t:Tm):Bool:=(bJ t).all fun v=>decide ((bJ t).count v<=(bJ s).count v)
theorem UQ (s t:Tm):qZ s t=true↔∀v,(bJ t).count v<=(bJ s).count v:=by
 rw[qZ,List.all_eq_true]
 constructor
 ·intro h v
  by_cases hv:v∈bJ t
  ·exact of_decide_eq_true (h v hv)
  ·rw[List.count_eq_zero_of_not_mem hv];omega
 ·intro h v _;exact decide_eq_true (h v)
mutual
def nP:Tm->Tm->Bool
 | .mk n i xs,t=>
  if qZ (.mk n i xs) t=false then false
  else if wT (.mk n i xs)≠wT t then decide (wT t<wT (.mk n i xs))
  else if n=[]\/t.nm=[]then false
  else if xs.length≠t.xs.length then decide (t.xs.length<xs.length)
  else if n≠t.nm then decide (t.nm<n)
  else oR xs t.xs
def oR:List Tm->List Tm->Bool
 |a::l,b::m=>if dR a b then oR l m else nP a b
 |_,_=>false
end
theorem MK (s t:Tm):nP s t=if qZ s t=false then false
  else if wT s≠wT t then decide (wT t<wT s)
  else if s.nm=[]\/t.nm=[]then false
  else if s.xs.length≠t.xs.length then decide (t.xs.length<s.xs.length)
  else if s.nm≠t.nm then decide (t.nm<s.nm)
  else oR s.xs t.xs:=by cases s;rw[nP];rfl
theorem x4 (a b:List UInt8):a<b\/a=b\/b<a:=by
 rcases List.le_total a b with h|h
 ·rcases List.le_iff_lt_or_eq.1 h with h|h
  ·exact .inl h
  ·exact .inr (.inl h)
 ·rcases List.le_iff_lt_or_eq.1 h with h|h
  ·exact .inr (.inr h)
  ·exact .inr (.inl h.symm)
inductive Lf:Tm->Prop
 |mk (t:Tm) (h:t.nm=[]->t.xs=[]) (h0:t.nm≠[]->t.ix=0) (k:∀a∈t.xs,Lf a):Lf t
mutual
def ak (f:Int->Tm):Tm->Tm
 | .mk n i xs=>if n=[]then f i else .mk n 0 (bn f xs)
def bn (f:Int->Tm):List Tm->List Tm
 |[]=>[]
 |t::l=>ak f t::bn f l
end
theorem ff (f:Int->Tm) (t:Tm):ak f t=if t.nm=[]then f t.ix else .mk t.nm 0 (bn f t.xs):=by cases t;rw[ak];rfl
theorem fy (f:Int->Tm):∀l,bn f l=l.map (ak f)
 |[]=>by rw[bn];rfl
 |t::l=>by rw[bn,fy f l];rfl
def nK (s t:Tm):Int:=if dR s t then 0 else if nP s t then 1 else if nP t s then-1 else 2
end Go.Proofs.YtpfohmboflcneaaGreatDoor
end
section
namespace Go.Proofs.YtpfohmboflcneaaGreatDoor
open Go
def gk (c:UInt8):Bool:=decide (48<=c.toNat)&&decide (c.toNat<=57)
def fN (l:List UInt8):Nat:=l.foldl (fun n c=>10*n+(c.toNat-48)) 0
theorem LP (l:List UInt8) (c:UInt8):fN (l++[c])=10*fN l+(c.toNat-48):=by simp[fN,List.foldl_append]
theorem A9 (d:Nat) (h:d<10):(UInt8.ofNat (48+d)).toNat=48+d:=by
 rw[UInt8.toNat_ofNat'];omega
theorem Lx:∀(u:Nat),fN (Lib.decDigits u)=u/\(∀c∈Lib.decDigits u,gk c=true)/\Lib.decDigits u≠[]/\(∀k,1<=k->u<10^k->(Lib.decDigits u).length<=k)/\(u≠0->((Lib.decDigits u).getD 0 0).toNat≠48)/\(1<(Lib.decDigits u).length->u≠0):=by
 intro u
 induction u using Nat.strongRecOn with
 |_ u ih=>
  rw[Lib.decDigits]
  by_cases h:u<10
  ·rw[dif_pos h]
   refine⟨?_,?_,by simp,?_,?_,by simp⟩
   ·simp only[fN,List.foldl_cons,List.foldl_nil,A9 u h];omega
   ·intro c hc
    simp only[List.mem_singleton]at hc
    subst hc
    simp only[gk,A9 u h,Bool.and_eq_true,decide_eq_true_eq];omega
   ·intro k hk _;simpa using hk
   ·intro h0;simp only[List.getD_cons_zero,A9 u h];omega
  ·rw[dif_neg h]
   obtain⟨U,h2,h3,h4,h5,h6⟩:=ih (u/10) (by omega)
   have hm:u%10<10:=Nat.mod_lt _ (by decide)
   refine⟨?_,?_,by simp,?_,?_,fun _=>by omega⟩
   ·rw[LP,U,A9 _ hm];omega
   ·intro c hc
    rcases List.mem_append.1 hc with hc|hc
    ·exact h2 c hc
    ·simp only[List.mem_singleton]at hc
     subst hc
     simp only[gk,A9 _ hm,Bool.and_eq_true,decide_eq_true_eq];omega
   ·intro k hk hu
    match k,hk with
    |1,_=>omega
    |k+2,_=>
     have:=h4 (k+1) (by omega) (by rw[Nat.pow_succ]at hu;omega)
     rw[List.length_append,List.length_singleton];omega
   ·intro _
    have h7:=h5 (by omega)
    match hd:Lib.decDigits (u/10),h3 with
    |x::r,_=>rw[hd]at h7;simpa using h7
theorem FO:∀(n:Nat) (l:List UInt8),l.length=n+1->(∀c∈l,gk c=true)->(1<l.length->(l.getD 0 0).toNat≠48)->Lib.decDigits (fN l)=l/\((l.getD 0 0).toNat≠48->fN l≠0)
 |0,l,hl,hd,_=>by
  match l,hl with
  |[c],_=>
   have hc:=hd c (by simp)
   simp only[gk,Bool.and_eq_true,decide_eq_true_eq]at hc
   have e:fN [c]=c.toNat-48:=by simp[fN]
   rw[e]
   refine⟨?_,fun h=>by simp only[List.getD_cons_zero]at h;omega⟩
   rw[Lib.decDigits,dif_pos (by omega)]
   have:UInt8.ofNat (48+(c.toNat-48))=c:=by
    rw[show 48+(c.toNat-48)=c.toNat by omega];simp
   rw[this]
 |n+1,l,hl,hd,hz=>by
  obtain⟨r,c,rfl⟩:∃r c,l=r++[c]:=by
   rcases List.eq_nil_or_concat l with rfl|⟨r,c,rfl⟩
   ·simp at hl
   ·exact⟨r,c,List.concat_eq_append⟩
  have s8:r.length=n+1:=by simp at hl;omega
  have hg:(r++[c]).getD 0 0=r.getD 0 0:=by
   match r,s8 with
   |x::r,_=>rfl
  rw[hg]at hz⊢
  have h0:=hz (by rw[List.length_append,List.length_singleton];omega)
  obtain⟨U,h2⟩:=FO n r s8 (fun d eZ=>hd d (by simp[eZ])) (fun _=>h0)
  have hc:=hd c (by simp)
  simp only[gk,Bool.and_eq_true,decide_eq_true_eq]at hc
  have h3:=h2 h0
  rw[LP]
  refine⟨?_,fun _=>by omega⟩
  rw[Lib.decDigits,dif_neg (by omega),show(10*fN r+(c.toNat-48))/10=fN r by omega,U,show(10*fN r+(c.toNat-48))%10=c.toNat-48 by omega]
  have:UInt8.ofNat (48+(c.toNat-48))=c:=by
   rw[show 48+(c.toNat-48)=c.toNat by omega];simp
  rw[this]
def kH (c:UInt8) (first:Bool):Bool:=
 (decide (97<=c.toNat)&&decide (c.toNat<=122)||decide (65<=c.toNat)&&decide (c.toNat<=90))||!first&&((decide (48<=c.toNat)&&decide (c.toNat<=57)||c==95)||c==39)
def cY:Bool->List UInt8->Nat
 |_,[]=>0
 |b,c::l=>if kH c b then 1+cY false l else 0
def iu:List UInt8->Nat
 |[]=>0
 |c::l=>if gk c then 1+iu l else 0
def qy:Bool->List UInt8->Bool
 |_,[]=>true
 |b,c::l=>kH c b&&qy false l
def fq (n:List UInt8):Bool:=decide (n≠[])&&decide (n.length<=60)&&qy true n
theorem A7:∀b l,cY b l<=l.length
 |_,[]=>Nat.zero_le _
 |b,c::l=>by
  rw[cY];split
  ·have:=A7 false l;rw[List.length_cons];omega
  ·exact Nat.zero_le _
theorem LN:∀l,iu l<=l.length
 |[]=>Nat.zero_le _
 |c::l=>by
  rw[iu];split
  ·have:=LN l;rw[List.length_cons];omega
  ·exact Nat.zero_le _
theorem LO:∀l:List UInt8,∀c∈l.take (iu l),gk c=true
 |[]=>by simp
 |c::l=>by
  rw[iu]
  split
  ·rename_i h
   rw[Nat.add_comm,List.take_succ_cons]
   intro d hd
   rcases List.mem_cons.1 hd with rfl|hd
   ·exact h
   ·exact LO l d hd
  ·simp
structure Lt where
 ng:Bool
 pd:List UInt8
 xs:List Tm
mutual
def fb (sh:Bool):Tm->List UInt8
 | .mk n i xs=>if n=[]then 63::(if sh then[]else Lib.itoa i)else n++gl sh xs
def gl (sh:Bool):List Tm->List UInt8
 |[]=>[]
 |t::l=>40::(fb sh t++nw sh l)
def nw (sh:Bool):List Tm->List UInt8
 |[]=>[41]
 |t::l=>44::32::(fb sh t++nw sh l)
end
theorem Sj (sh:Bool) (t:Tm):fb sh t=if t.nm=[]then 63::(if sh then[]else Lib.itoa t.ix)else t.nm++gl sh t.xs:=by cases t;rw[fb];rfl
def uF (ng:Bool):List UInt8:=if ng then[32,33,61,32]else[32,61,32]
def jX (sh:Bool) (l:Lt):List UInt8:=
 if l.pd=[61]then fb sh (l.xs.getD 0 (.mk [] 0 []))++(uF l.ng++fb sh (l.xs.getD 1 (.mk [] 0 [])))
 else(if l.ng then[126]else[])++(l.pd++gl sh l.xs)
def kT (sh:Bool):List Lt->List UInt8
 |[]=>[]
 |l::r=>32::124::32::(jX sh l++kT sh r)
def qH (sh:Bool):List Lt->List UInt8
 |[]=>[91,93]
 |l::r=>jX sh l++kT sh r
def di (s:List UInt8) (i:Nat) (w:List UInt8):Bool:=w.isPrefixOf (s.drop i)
def mz (d:List UInt8):Bool:=decide (1<=d.length)&&decide (d.length<=9)&&(decide (d.length=1)||decide ((d.getD 0 0).toNat≠48))
def pV (s:List UInt8) (i:Nat):Option (Tm×Nat):=
 if mz ((s.drop i).take (iu (s.drop i)))then some (.mk [] (fN ((s.drop i).take (iu (s.drop i)))) [],i+iu (s.drop i))else none
mutual
def pT (s:List UInt8):Nat->Nat->Option (Tm×Nat)
 |0,_=>none
 |f+1,i=>if di s i [63]then pV s (i+1)else
  if cY true (s.drop i)=0 then none else
  if di s (i+cY true (s.drop i)) [40]then
   match pT s f (i+cY true (s.drop i)+1)with
   |none=>none
   |some (t,j)=>match pR s f j with
    |none=>none
    |some (l,k)=>some (.mk ((s.drop i).take (cY true (s.drop i))) 0 (t::l),k)
  else some (.mk ((s.drop i).take (cY true (s.drop i))) 0 [],i+cY true (s.drop i))
def pR (s:List UInt8):Nat->Nat->Option (List Tm×Nat)
 |0,_=>none
 |f+1,i=>if di s i [44,32]then
   match pT s f (i+2)with
   |none=>none
   |some (t,j)=>match pR s f j with
    |none=>none
    |some (l,k)=>some (t::l,k)
  else if di s i [41]then some ([],i+1)else none
end
def pA (s:List UInt8) (f i:Nat):Option (List Tm×Nat):=
 if di s i [40]then
  match pT s f (i+1)with
  |none=>none
  |some (t,j)=>match pR s f j with
   |none=>none
   |some (l,k)=>some (t::l,k)
 else some ([],i)
theorem Qw (s:List UInt8) (f i:Nat):pT s (f+1) i=if di s i [63]then pV s (i+1)else
  if cY true (s.drop i)=0 then none else
  match pA s f (i+cY true (s.drop i))with
  |none=>none
  |some (l,k)=>some (.mk ((s.drop i).take (cY true (s.drop i))) 0 l,k):=by
 rw[pT,pA]
 split
 ·rfl
 ·split
  ·rfl
  ·split
   ·cases pT s f (i+cY true (s.drop i)+1)with
    |none=>rfl
    |some x=>
     obtain⟨t,j⟩:=x
     simp only
     cases pR s f j with
     |none=>rfl
     |some y=>rfl
   ·rfl
def pL (s:List UInt8) (i:Nat):Option (Lt×Nat):=
 if di s i [126]then
  if cY true (s.drop (i+1))=0 then none else
  match pA s (s.length+1) (i+1+cY true (s.drop (i+1)))with
  |none=>none
  |some (l,k)=>some (⟨true,(s.drop (i+1)).take (cY true (s.drop (i+1))),l⟩,k)
 else match pT s (s.length+1) i with
  |none=>none
  |some (t,j)=>
   if di s j [32,61,32]then(match pT s (s.length+1) (j+3)with
    |none=>none
    |some (u,k)=>some (⟨false,[61],[t,u]⟩,k))
   else if di s j [32,33,61,32]then(match pT s (s.length+1) (j+4)with
    |none=>none
    |some (u,k)=>some (⟨true,[61],[t,u]⟩,k))
   else if t.nm=[]then none else some (⟨false,t.nm,t.xs⟩,j)
def pS (s:List UInt8):Nat->Nat->Option (List Lt)
 |0,_=>none
 |f+1,i=>match pL s i with
  |none=>none
  |some (l,j)=>if di s j [32,124,32]then(match pS s f (j+3)with
    |none=>none
    |some r=>some (l::r))
   else if j<s.length then none else some [l]
def pC (s:List UInt8):Option (List Lt):=if s=[91,93]then some []else pS s (s.length+1) 0
theorem qV {s:List UInt8} {i:Nat} {w:List UInt8} (h:di s i w=true):s.drop i=w++s.drop (i+w.length):=by
 obtain⟨r,hr⟩:=List.isPrefixOf_iff_prefix.1 h
 rw[<-List.drop_drop,<-hr,List.drop_left]
theorem KF {s:List UInt8} {i:Nat} {w:List UInt8} (h:di s i w=true):i+w.length<=s.length\/w=[]:=by
 have:=congrArg List.length (qV h)
 rw[List.length_append,List.length_drop,List.length_drop]at this
 rcases w with _|⟨c,w⟩
 ·exact .inr rfl
 ·left;rw[List.length_cons]at*;omega
theorem YF {d:List UInt8} (h:mz d=true) (k:∀c∈d,gk c=true):Lib.itoa (fN d:Int)=d:=by
 simp only[mz,Bool.and_eq_true,Bool.or_eq_true,decide_eq_true_eq]at h
 rw[Lib.itoa_nonneg]
 exact(FO (d.length-1) d (by omega) k (fun U=>by rcases h.2 with h2|h2;omega;exact h2)).1
theorem Qx {s:List UInt8} {i j:Nat} {t:Tm} (h:pV s i=some (t,j)):t.nm=[]/\s.drop i=Lib.itoa t.ix++s.drop j/\i<j/\j<=s.length:=by
 rw[pV]at h
 split at h
 ·rename_i hn
  simp only[Option.some.injEq,Prod.mk.injEq]at h
  obtain⟨rfl,rfl⟩:=h
  have hl:=LN (s.drop i)
  have U:1<=iu (s.drop i):=by
   simp only[mz,Bool.and_eq_true,decide_eq_true_eq,List.length_take]at hn;omega
  rw[List.length_drop]at hl
  refine⟨rfl,?_,by omega,by omega⟩
  show _=Lib.itoa (fN _:Int)++_
  rw[YF hn (LO _),<-List.drop_drop,List.take_append_drop]
 ·cases h
theorem Jp (s:List UInt8):∀f,(∀i t j,pT s f i=some (t,j)->s.drop i=fb false t++s.drop j/\i<j/\j<=s.length)/\
  (∀i l j,pR s f i=some (l,j)->s.drop i=nw false l++s.drop j/\i<j/\j<=s.length)
 |0=>⟨fun i t j h=>(by rw[pT]at h;cases h),fun i l j h=>(by rw[pR]at h;cases h)⟩
 |f+1=>by
  obtain⟨OM,OL⟩:=Jp s f
  refine⟨fun i t j h=>?_,fun i l j h=>?_⟩
  ·rw[pT]at h
   split at h
   ·rename_i hq
    obtain⟨U,h2,h3,h4⟩:=Qx h
    refine⟨?_,by omega,h4⟩
    rw[qV hq,Sj,if_pos U,show i+[(63:UInt8)].length=i+1 from rfl,h2];rfl
   ·split at h
    ·cases h
    ·rename_i hn
     have gV:=A7 true (s.drop i)
     rw[List.length_drop]at gV
     have aK:(s.drop i).take (cY true (s.drop i))≠[]:=by
      intro e
      have:=congrArg List.length e
      rw[List.length_take,List.length_drop,List.length_nil]at this
      omega
     split at h
     ·rename_i ho
      split at h
      ·cases h
      ·rename_i t1 j1 e1
       split at h
       ·cases h
       ·rename_i l1 k1 e2
        simp only[Option.some.injEq,Prod.mk.injEq]at h
        obtain⟨rfl,rfl⟩:=h
        obtain⟨g1,g2,g3⟩:=OM _ _ _ e1
        obtain⟨g4,g5,g6⟩:=OL _ _ _ e2
        refine⟨?_,by omega,g6⟩
        rw[fb,if_neg aK,gl]
        have e3:=qV ho
        rw[show i+cY true (s.drop i)+[(40:UInt8)].length=i+cY true (s.drop i)+1 from rfl,g1,g4]at e3
        have e4:s.drop i=(s.drop i).take (cY true (s.drop i))++s.drop (i+cY true (s.drop i)):=by
         rw[<-List.drop_drop,List.take_append_drop]
        rw[e3]at e4
        simp only[List.cons_append,List.append_assoc,List.nil_append]at e4⊢
        exact e4
     ·simp only[Option.some.injEq,Prod.mk.injEq]at h
      obtain⟨rfl,rfl⟩:=h
      refine⟨?_,by omega,by omega⟩
      rw[fb,if_neg aK,gl,List.append_nil,<-List.drop_drop,List.take_append_drop]
  ·rw[pR]at h
   split at h
   ·rename_i ho
    split at h
    ·cases h
    ·rename_i t1 j1 e1
     split at h
     ·cases h
     ·rename_i l1 k1 e2
      simp only[Option.some.injEq,Prod.mk.injEq]at h
      obtain⟨rfl,rfl⟩:=h
      obtain⟨g1,g2,g3⟩:=OM _ _ _ e1
      obtain⟨g4,g5,g6⟩:=OL _ _ _ e2
      refine⟨?_,by omega,g6⟩
      rw[qV ho,show i+[(44:UInt8),32].length=i+2 from rfl,g1,g4,nw]
      simp only[List.cons_append,List.append_assoc,List.nil_append]
   ·split at h
    ·rename_i ho
     simp only[Option.some.injEq,Prod.mk.injEq]at h
     obtain⟨rfl,rfl⟩:=h
     refine⟨by rw[qV ho,nw];rfl,by omega,?_⟩
     have:=KF ho
     simpa using this
    ·cases h
theorem tI {s:List UInt8} {f i j:Nat} {t:Tm} (h:pT s f i=some (t,j)):s.drop i=fb false t++s.drop j/\i<j/\j<=s.length:=(Jp s f).1 i t j h
theorem Jo {s:List UInt8} {f i j:Nat} {l:List Tm} (h:pR s f i=some (l,j)):s.drop i=nw false l++s.drop j/\i<j/\j<=s.length:=(Jp s f).2 i l j h
theorem aap {s:List UInt8} {f i j:Nat} {l:List Tm} (h:pA s f i=some (l,j)) (hi:i<=s.length):s.drop i=gl false l++s.drop j/\i<=j/\j<=s.length:=by
 rw[pA]at h
 split at h
 ·rename_i ho
  split at h
  ·cases h
  ·rename_i t1 j1 e1
   split at h
   ·cases h
   ·rename_i l1 k1 e2
    simp only[Option.some.injEq,Prod.mk.injEq]at h
    obtain⟨rfl,rfl⟩:=h
    obtain⟨g1,g2,g3⟩:=tI e1
    obtain⟨g4,g5,g6⟩:=Jo e2
    refine⟨?_,by omega,g6⟩
    rw[qV ho,show i+[(40:UInt8)].length=i+1 from rfl,g1,g4,gl]
    simp only[List.cons_append,List.append_assoc,List.nil_append]
 ·simp only[Option.some.injEq,Prod.mk.injEq]at h
  obtain⟨rfl,rfl⟩:=h
  exact⟨by rw[gl];rfl,Nat.le_refl _,hi⟩
end Go.Proofs.YtpfohmboflcneaaGreatDoor
end
section
namespace Go.Proofs.YtpfohmboflcneaaGreatDoor
open Go
set_option maxHeartbeats 1000000
mutual
def bS:Tm->Bool
 | .mk n i xs=>if n=[]then xs.isEmpty&&(decide (0<=i)&&decide (i<1000))else(fq n&&i==0)&&dM xs
def dM:List Tm->Bool
 |[]=>true
 |t::l=>bS t&&dM l
end
theorem mA (t:Tm):bS t=if t.nm=[]then t.xs.isEmpty&&(decide (0<=t.ix)&&decide (t.ix<1000))else(fq t.nm&&t.ix==0)&&dM t.xs:=by cases t;rw[bS];rfl
theorem tH:∀{l:List Tm},dM l=true->∀a∈l,bS a=true
 |[],_,a,h=>by cases h
 |t::l,h,a,ha=>by
  rw[dM,Bool.and_eq_true]at h
  rcases List.mem_cons.1 ha with rfl|ha
  ·exact h.1
  ·exact tH h.2 a ha
theorem Kj:∀(n:Nat) (t:Tm),wT t<=n->bS t=true->Lf t
 |0,t,h,_=>by have:=qI t;omega
 |n+1,t,hn,h=>by
  rw[mA]at h
  by_cases hm:t.nm=[]
  ·rw[if_pos hm,Bool.and_eq_true,List.isEmpty_iff]at h
   exact⟨t,fun _=>h.1,fun h'=>absurd hm h',fun a ha=>by rw[h.1]at ha;cases ha⟩
  ·rw[if_neg hm,Bool.and_eq_true,Bool.and_eq_true,beq_iff_eq]at h
   exact⟨t,fun h'=>absurd h' hm,fun _=>h.1.2,fun a ha=>Kj n a (by have:=BJ ha;omega) (tH h.2 a ha)⟩
theorem Jm {t:Tm} (h:bS t=true):Lf t:=Kj _ t (Nat.le_refl _) h
def kR (l:Lt):Bool:=if l.pd=[61]then decide (l.xs.length=2)&&dM l.xs else fq l.pd&&dM l.xs
theorem P5 {l:List UInt8} (h:cY true l≠0):∃c r,l.take (cY true l)=c::r/\kH c true=true:=by
 match l,h with
 |[],h=>exact absurd rfl h
 |c::l,h=>
  rw[cY]at h⊢
  split at h
  ·rename_i hc
   rw[if_pos hc,Nat.add_comm,List.take_succ_cons]
   exact⟨c,_,rfl,hc⟩
  ·exact absurd rfl h
theorem P6 {c:UInt8} {r:List UInt8} (h:kH c true=true):c::r≠[61]:=by
 intro e
 rw[List.cons.injEq]at e
 rw[e.1]at h
 revert h;decide
theorem aas {s:List UInt8} {f i j:Nat} {t:Tm} (h:pT s f i=some (t,j)) (hn:t.nm≠[]):t.ix=0/\t.nm≠[61]:=by
 match f,h with
 |0,h=>rw[pT]at h;cases h
 |f+1,h=>
  rw[Qw]at h
  split at h
  ·exact absurd (Qx h).1 hn
  ·split at h
   ·cases h
   ·rename_i h0
    obtain⟨c,r,e,hc⟩:=P5 h0
    split at h
    ·cases h
    ·simp only[Option.some.injEq,Prod.mk.injEq]at h
     obtain⟨rfl,rfl⟩:=h
     exact⟨rfl,by show List.take _ _≠_;rw[e];exact P6 hc⟩
theorem abU {t:Tm} (h:t.nm≠[]):fb false t=t.nm++gl false t.xs:=by rw[Sj,if_neg h]
theorem Qt {s:List UInt8} {i j:Nat} {l:Lt} (h:pL s i=some (l,j)):s.drop i=jX false l++s.drop j/\i<j/\j<=s.length:=by
 rw[pL]at h
 split at h
 ·rename_i U
  split at h
  ·cases h
  ·rename_i h0
   obtain⟨c,r,e,hc⟩:=P5 h0
   have gV:=A7 true (s.drop (i+1))
   rw[List.length_drop]at gV
   split at h
   ·cases h
   ·rename_i x k e2
    simp only[Option.some.injEq,Prod.mk.injEq]at h
    obtain⟨rfl,rfl⟩:=h
    obtain⟨g1,g2,g3⟩:=aap e2 (by omega)
    refine⟨?_,by omega,g3⟩
    rw[jX]
    simp only
    rw[if_neg (by rw[e];exact P6 hc),qV U]
    simp only[if_true,List.length_singleton,List.append_assoc]
    rw[<-g1,<-List.drop_drop (i:=cY true (s.drop (i+1))),List.take_append_drop]
 ·split at h
  ·cases h
  ·rename_i t k e1
   obtain⟨g1,g2,g3⟩:=tI e1
   split at h
   ·rename_i h2
    split at h
    ·cases h
    ·rename_i u m e2
     simp only[Option.some.injEq,Prod.mk.injEq]at h
     obtain⟨rfl,rfl⟩:=h
     obtain⟨g4,g5,g6⟩:=tI e2
     refine⟨?_,by omega,g6⟩
     have:=qV h2
     rw[show k+[(32:UInt8),61,32].length=k+3 from rfl,g4]at this
     rw[jX,if_pos rfl,g1,this]
     simp[uF]
   ·split at h
    ·rename_i h2
     split at h
     ·cases h
     ·rename_i u m e2
      simp only[Option.some.injEq,Prod.mk.injEq]at h
      obtain⟨rfl,rfl⟩:=h
      obtain⟨g4,g5,g6⟩:=tI e2
      refine⟨?_,by omega,g6⟩
      have:=qV h2
      rw[show k+[(32:UInt8),33,61,32].length=k+4 from rfl,g4]at this
      rw[jX,if_pos rfl,g1,this]
      simp[uF]
    ·split at h
     ·cases h
     ·rename_i hn
      simp only[Option.some.injEq,Prod.mk.injEq]at h
      obtain⟨rfl,rfl⟩:=h
      refine⟨?_,g2,g3⟩
      rw[jX,if_neg (aas e1 hn).2,g1,abU hn];rfl
mutual
def cL:Tm->Nat
 | .mk _ _ xs=>1+dK xs
def dK:List Tm->Nat
 |[]=>0
 |t::l=>max (cL t) (dK l)
end
theorem LS (t:Tm):cL t=1+dK t.xs:=by cases t;rw[cL];rfl
def mu (l:Lt):Nat:=1+aD l.xs
def cO (c:List Lt):Nat:=(c.map mu).sum
def gv:List Lt->Nat
 |[]=>0
 |l::c=>max (dK l.xs) (gv c)
def eP (eF eR:Int) (t:Tm):Int:=
 if t.nm=[]then(if t.xs≠[]then eF else if t.ix<0\/1000<=t.ix then eR else 0)
 else if fq t.nm=false\/t.ix≠0 then eF else 0
mutual
def k8 (eF eR:Int):Tm->Int
 | .mk n i xs=>if eP eF eR (.mk n i xs)≠0 then eP eF eR (.mk n i xs)else eg eF eR xs
def eg (eF eR:Int):List Tm->Int
 |[]=>0
 |t::l=>if k8 eF eR t≠0 then k8 eF eR t else eg eF eR l
end
theorem Vd (eF eR:Int) (t:Tm):k8 eF eR t=if eP eF eR t≠0 then eP eF eR t else eg eF eR t.xs:=by cases t;rw[k8];rfl
mutual
def b8:Tm->List Tm
 | .mk n i xs=> .mk n i xs::cQ xs
def cQ:List Tm->List Tm
 |[]=>[]
 |t::l=>b8 t++cQ l
end
theorem Bm (t:Tm):b8 t=t::cQ t.xs:=by cases t;rw[b8];rfl
def kn (f:Tm->Int):List Tm->Int
 |[]=>0
 |t::l=>if f t≠0 then f t else kn f l
theorem MD (f:Tm->Int):∀l m,kn f (l++m)=if kn f l≠0 then kn f l else kn f m
 |[],m=>by rw[List.nil_append,kn,if_neg (by decide)]
 |t::l,m=>by
  rw[List.cons_append,kn,kn,MD f l m]
  by_cases h:f t≠0
  ·rw[if_pos h,if_pos h,if_pos h]
  ·rw[if_neg h,if_neg h]
mutual
theorem Mm (eF eR:Int):∀t,k8 eF eR t=kn (eP eF eR) (b8 t)
 | .mk n i xs=>by rw[k8,b8,kn,Mn eF eR xs]
theorem Mn (eF eR:Int):∀l,eg eF eR l=kn (eP eF eR) (cQ l)
 |[]=>by rw[eg,cQ];rfl
 |t::l=>by rw[eg,cQ,MD,Mm eF eR t,Mn eF eR l]
end
def wH (eF eR:Int) (l:Lt):Int:=if(l.pd≠[61]/\fq l.pd=false)\/(l.pd=[61]/\l.xs.length≠2)then eF else eg eF eR l.xs
def l9 (eF eR:Int):List Lt->Int
 |[]=>0
 |l::c=>if wH eF eR l≠0 then wH eF eR l else l9 eF eR c
def ca (eS eD eF eR:Int) (c:List Lt):Int:=
 if 40<c.length then eS else if 4000<cO c then eS else if 100<gv c then eD else l9 eF eR c
theorem Vb {eF eR:Int} (hF:eF≠0) (hR:eR≠0) (t:Tm):eP eF eR t=0↔if t.nm=[]then t.xs=[]/\0<=t.ix/\t.ix<1000 else fq t.nm=true/\t.ix=0:=by
 rw[eP]
 by_cases hn:t.nm=[]
 ·rw[if_pos hn,if_pos hn]
  by_cases hx:t.xs=[]
  ·rw[if_neg (by simpa using hx)]
   by_cases hi:t.ix<0\/1000<=t.ix
   ·rw[if_pos hi];exact⟨fun h=>absurd h hR,fun h=>by omega⟩
   ·rw[if_neg hi];exact⟨fun _=>⟨hx,by omega⟩,fun _=>rfl⟩
  ·rw[if_pos hx];exact⟨fun h=>absurd h hF,fun h=>absurd h.1 hx⟩
 ·rw[if_neg hn,if_neg hn]
  by_cases hb:fq t.nm=false\/t.ix≠0
  ·rw[if_pos hb]
   refine⟨fun h=>absurd h hF,fun h=>?_⟩
   rcases hb with hb|hb
   ·rw[h.1]at hb;cases hb
   ·exact absurd h.2 hb
  ·rw[if_neg hb]
   refine⟨fun _=>⟨?_,?_⟩,fun _=>rfl⟩
   ·rw[<-Bool.not_eq_false];exact fun h=>hb (.inl h)
   ·exact Decidable.byContradiction fun h=>hb (.inr h)
mutual
theorem Ve {eF eR:Int} (hF:eF≠0) (hR:eR≠0):∀t,k8 eF eR t=0↔bS t=true
 | .mk n i xs=>by
  have U:eP eF eR (.mk n i xs)=0↔if n=[]then xs=[]/\0<=i/\i<1000 else fq n=true/\i=0:=Vb hF hR (.mk n i xs)
  have h2:=Ga hF hR xs
  rw[k8,bS]
  by_cases hn:n=[]
  ·rw[if_pos hn]at U⊢
   rw[Bool.and_eq_true,Bool.and_eq_true,List.isEmpty_iff,decide_eq_true_iff,decide_eq_true_iff]
   by_cases h0:eP eF eR (.mk n i xs)=0
   ·rw[if_neg (by simpa using h0)]
    have h3:=U.1 h0
    rw[h3.1,eg];exact⟨fun _=>⟨rfl,h3.2⟩,fun _=>rfl⟩
   ·rw[if_pos h0]
    exact⟨fun h=>absurd h h0,fun h=>absurd (U.2 h) h0⟩
  ·rw[if_neg hn]at U⊢
   rw[Bool.and_eq_true,Bool.and_eq_true,beq_iff_eq,<-h2]
   by_cases h0:eP eF eR (.mk n i xs)=0
   ·rw[if_neg (by simpa using h0)]
    exact⟨fun h=>⟨U.1 h0,h⟩,fun h=>h.2⟩
   ·rw[if_pos h0]
    exact⟨fun h=>absurd h h0,fun h=>absurd (U.2 h.1) h0⟩
theorem Ga {eF eR:Int} (hF:eF≠0) (hR:eR≠0):∀l,eg eF eR l=0↔dM l=true
 |[]=>by rw[eg,dM];simp
 |t::l=>by
  have U:=Ve hF hR t
  have h2:=Ga hF hR l
  rw[eg,dM,Bool.and_eq_true,<-U,<-h2]
  by_cases h0:k8 eF eR t=0
  ·rw[if_neg (by simpa using h0)]
   exact⟨fun h=>⟨h0,h⟩,fun h=>h.2⟩
  ·rw[if_pos h0]
   exact⟨fun h=>absurd h h0,fun h=>absurd h.1 h0⟩
end
theorem Vc {eF eR:Int} (hF:eF≠0) (hR:eR≠0) (l:Lt):wH eF eR l=0↔kR l=true:=by
 have h2:=Ga hF hR l.xs
 rw[wH,kR]
 by_cases hp:l.pd=[61]
 ·rw[if_pos hp,Bool.and_eq_true,decide_eq_true_iff,<-h2]
  by_cases hl:l.xs.length=2
  ·rw[if_neg (by rintro(h|h);exact h.1 hp;exact h.2 hl)]
   exact⟨fun h=>⟨hl,h⟩,fun h=>h.2⟩
  ·rw[if_pos (.inr ⟨hp,hl⟩)]
   exact⟨fun h=>absurd h hF,fun h=>absurd h.1 hl⟩
 ·rw[if_neg hp,Bool.and_eq_true,<-h2]
  by_cases hb:fq l.pd=false
  ·rw[if_pos (.inl ⟨hp,hb⟩)]
   exact⟨fun h=>absurd h hF,fun h=>by rw[hb]at h;cases h.1⟩
  ·rw[if_neg (by rintro(h|h);exact hb h.2;exact hp h.1)]
   exact⟨fun h=>⟨by simpa using hb,h⟩,fun h=>h.2⟩
theorem Ml {eF eR:Int} (hF:eF≠0) (hR:eR≠0):∀c,l9 eF eR c=0↔c.all kR=true
 |[]=>by rw[l9];simp
 |l::c=>by
  have U:=Vc hF hR l
  have h2:=Ml hF hR c
  rw[l9,List.all_cons,Bool.and_eq_true,<-U,<-h2]
  by_cases h0:wH eF eR l=0
  ·rw[if_neg (by simpa using h0)]
   exact⟨fun h=>⟨h0,h⟩,fun h=>h.2⟩
  ·rw[if_pos h0]
   exact⟨fun h=>absurd h h0,fun h=>absurd h.1 h0⟩
theorem Li {eS eD eF eR:Int} (hS:eS≠0) (hD:eD≠0) (hF:eF≠0) (hR:eR≠0) (c:List Lt):
  ca eS eD eF eR c=0↔c.length<=40/\cO c<=4000/\gv c<=100/\c.all kR=true:=by
 rw[ca,<-Ml hF hR]
 by_cases U:40<c.length
 ·rw[if_pos U];exact⟨fun h=>absurd h hS,fun h=>by omega⟩
 ·rw[if_neg U]
  by_cases h2:4000<cO c
  ·rw[if_pos h2];exact⟨fun h=>absurd h hS,fun h=>by omega⟩
  ·rw[if_neg h2]
   by_cases h3:100<gv c
   ·rw[if_pos h3];exact⟨fun h=>absurd h hD,fun h=>by omega⟩
   ·rw[if_neg h3];exact⟨fun h=>⟨by omega,by omega,by omega,h⟩,fun h=>h.2.2.2⟩
def jU (a b:Lt):Bool:=(a.ng==b.ng&&a.pd==b.pd)&&mO a.xs b.xs
theorem Rf (a b:Lt):jU a b=true↔a=b:=by
 rw[jU,Bool.and_eq_true,Bool.and_eq_true,beq_iff_eq,beq_iff_eq,F3]
 cases a;cases b
 simp only[Lt.mk.injEq,and_assoc]
def fv (p:List Lt):List Lt->List Lt
 |[]=>[]
 |x::r=>if p.any (jU x)then fv (p++[x]) r else x::fv (p++[x]) r
def eo (l:Lt):List UInt8:=jX true l
def mr (x:Lt):List Lt->List Lt
 |[]=>[x]
 |y::o=>if eo x<eo y then x::y::o else y::mr x o
def dI (o:List Lt):List Lt->List Lt
 |[]=>o
 |x::r=>dI (mr x o) r
def qW (f:Int->Tm) (l:Lt):Lt:=⟨l.ng,l.pd,bn f l.xs⟩
def eH (c:List Lt):List Int:=c.flatMap fun l=>aW l.xs
def dm (o:List Int):List Int->List Int
 |[]=>o
 |v::l=>dm (if v∈o then o else o++[v]) l
def bt (i:Int):Tm:= .mk [] i []
def ju (c:List Lt):List Lt:=dI [] (fv [] c)
def rnC (c:List Lt) (v:Int):Tm:=bt ((dm [] (eH c)).idxOf v:Nat)
def Ee (c:List Lt):List Lt:=(ju c).map (qW (rnC (ju c)))
theorem Qe:∀(l o:List Int),∃r,dm o l=o++r
 |[],o=>⟨[],by rw[dm,List.append_nil]⟩
 |v::l,o=>by
  rw[dm]
  obtain⟨r,hr⟩:=Qe l (if v∈o then o else o++[v])
  rw[hr]
  split
  ·exact⟨r,rfl⟩
  ·exact⟨v::r,by rw[List.append_assoc];rfl⟩
theorem Eg:∀(l o:List Int),o.Nodup->(dm o l).Nodup
 |[],o,h=>h
 |w::l,o,h=>by
  rw[dm]
  refine Eg l _ ?_
  split
  ·exact h
  ·rename_i hw
   rw[List.nodup_append]
   exact⟨h,by simp,fun a ha b hb e=>hw (by rw[List.mem_singleton]at hb;rw[<-hb,<-e];exact ha)⟩
mutual
theorem K_ (f:Int->Tm):∀t:Tm,bS t=true->(∀v∈bJ t,f v=bt v)->ak f t=t
 | .mk n i xs,h,hv=>by
  rw[bS]at h
  rw[bJ]at hv
  rw[ak]
  by_cases hn:n=[]
  ·rw[if_pos hn,Bool.and_eq_true,List.isEmpty_iff]at h
   rw[if_pos hn,hv i (by rw[if_pos hn];simp),h.1,hn];rfl
  ·rw[if_neg hn,Bool.and_eq_true,Bool.and_eq_true,beq_iff_eq]at h
   rw[if_neg hn,Ld f xs h.2 fun v hm=>hv v (List.mem_append_right _ hm),h.1.2]
theorem Ld (f:Int->Tm):∀l:List Tm,dM l=true->(∀v∈aW l,f v=bt v)->bn f l=l
 |[],_,_=>by rw[bn]
 |t::l,h,hv=>by
  rw[dM,Bool.and_eq_true]at h
  rw[aW]at hv
  rw[bn,K_ f t h.1 fun v hm=>hv v (List.mem_append_left _ hm),Ld f l h.2 fun v hm=>hv v (List.mem_append_right _ hm)]
end
mutual
theorem y8 (f g:Int->Tm):∀t:Tm,ak g (ak f t)=ak (fun v=>ak g (f v)) t
 | .mk n i xs=>by
  rw[ak,ak]
  by_cases hn:n=[]
  ·rw[if_pos hn,if_pos hn]
  ·rw[if_neg hn,if_neg hn,ak,if_neg hn,La f g xs]
theorem La (f g:Int->Tm):∀l:List Tm,bn g (bn f l)=bn (fun v=>ak g (f v)) l
 |[]=>by rw[bn,bn,bn]
 |t::l=>by rw[bn,bn,bn,y8 f g t,La f g l]
end
theorem wq (g:Int->Tm) (v:Int):ak g (bt v)=g v:=by rw[bt,ak,if_pos rfl]
theorem Lc (f:Int->Tm) (l:List Tm):(bn f l).length=l.length:=by rw[fy,List.length_map]
theorem SH (l:Lt) (c:List Lt):eH (l::c)=aW l.xs++eH c:=by rw[eH,List.flatMap_cons];rfl
theorem KD {p:List Lt} {x:Lt}:p.any (jU x)=true↔x∈p:=by
 rw[List.any_eq_true]
 constructor
 ·rintro⟨y,hy,e⟩
  rw[(Rf x y).1 e];exact hy
 ·intro h;exact⟨x,h,(Rf x x).2 rfl⟩
theorem wy:∀(c p:List Lt),(fv p c).Sublist c
 |[],p=>by rw[fv];exact List.Sublist.refl _
 |x::r,p=>by
  rw[fv]
  split
  ·exact(wy r _).cons x
  ·exact(wy r _).cons_cons x
theorem FN:∀(c p:List Lt),∀x∈c,x∈p\/x∈fv p c
 |[],p,x,h=>by cases h
 |y::r,p,x,h=>by
  rw[fv]
  split
  ·rename_i hy
   rcases List.mem_cons.1 h with rfl|h
   ·exact .inl (KD.1 hy)
   ·rcases FN r (p++[y]) x h with h|h
    ·rcases List.mem_append.1 h with h|h
     ·exact .inl h
     ·rw[List.mem_singleton]at h;exact .inl (h▸KD.1 hy)
    ·exact .inr h
  ·rcases List.mem_cons.1 h with rfl|h
   ·exact .inr (by simp)
   ·rcases FN r (p++[y]) x h with h|h
    ·rcases List.mem_append.1 h with h|h
     ·exact .inl h
     ·rw[List.mem_singleton]at h;exact .inr (by simp[h])
    ·exact .inr (by simp[h])
def ni (a b:Lt):Prop:=¬eo b<eo a
theorem O4 {a b c:Lt} (h:ni a b) (k:ni b c):ni a c:=by
 intro hc
 rcases x4 (eo b) (eo c)with U|U|U
 ·exact h (List.lt_trans U hc)
 ·exact h (U▸hc)
 ·exact k U
theorem Ig (x:Lt):∀o,(mr x o).Perm (x::o)
 |[]=>List.Perm.refl _
 |y::o=>by
  rw[mr]
  split
  ·exact List.Perm.refl _
  ·exact((Ig x o).cons y).trans (List.Perm.swap x y o)
theorem vY:∀(c o:List Lt),(dI o c).Perm (o++c)
 |[],o=>by rw[dI,List.append_nil]
 |x::c,o=>by
  rw[dI]
  refine(vY c _).trans (((Ig x o).append_right c).trans ?_)
  exact(List.perm_middle (a:=x) (l₁:=o) (l₂:=c)).symm
theorem OR (x:Lt):∀o,o.Pairwise ni->(mr x o).Pairwise ni
 |[],_=>List.pairwise_singleton _ _
 |y::o,h=>by
  rw[List.pairwise_cons]at h
  rw[mr]
  split
  ·rename_i hx
   have gC:ni x y:=fun h'=>List.lt_irrefl _ (List.lt_trans hx h')
   rw[List.pairwise_cons,List.pairwise_cons]
   exact⟨fun z hz=>(List.mem_cons.1 hz).elim (fun e=>e▸gC) fun hz=>O4 gC (h.1 z hz),h⟩
  ·rename_i hx
   rw[List.pairwise_cons]
   refine⟨fun z hz=>?_,OR x o h.2⟩
   rcases List.mem_cons.1 ((Ig x o).mem_iff.1 hz)with rfl|hz
   ·exact hx
   ·exact h.1 z hz
theorem RF:∀(c o:List Lt),o.Pairwise ni->(dI o c).Pairwise ni
 |[],o,h=>h
 |x::c,o,h=>RF c _ (OR x o h)
theorem Qq {c:List Lt} {x:Lt}:x∈ju c↔x∈c:=by
 rw[ju,(vY _ _).mem_iff,List.nil_append]
 constructor
 ·exact fun h=>(wy c []).subset h
 ·intro h
  rcases FN c [] x h with h|h
  ·cases h
  ·exact h
abbrev Bd:=List (Int×Tm)
def eV:Bd->Int->Option Tm
 |[],_=>none
 |b::m,v=>if b.1=v then some b.2 else eV m v
mutual
def cn:Tm->Tm->Bd->Bd×Bool
 | .mk n i xs,t,m=>if n=[]then(match eV m i with
   |some x=>(m,dR x t)
   |none=>(m++[(i,t)],true))
  else if n≠t.nm\/xs.length≠t.xs.length then(m,false)else er xs t.xs m
def er:List Tm->List Tm->Bd->Bd×Bool
 |a::l,b::k,m=>if(cn a b m).2 then er l k (cn a b m).1 else cn a b m
 |_,_,m=>(m,true)
end
theorem xV:∀{m:Bd} {v:Int} {x:Tm},eV m v=some x->(v,x)∈m
 |[],_,_,h=>by cases h
 |b::m,v,x,h=>by
  rw[eV]at h
  split at h
  ·rename_i e
   simp only[Option.some.injEq]at h
   rw[<-e,<-h];simp
  ·exact List.mem_cons_of_mem _ (xV h)
theorem Pa:∀{m:Bd} {v:Int},eV m v=none->∀b∈m,b.1≠v
 |[],_,_,b,h=>by cases h
 |c::m,v,h,b,hb=>by
  rw[eV]at h
  split at h
  ·cases h
  ·rename_i e
   rcases List.mem_cons.1 hb with rfl|hb
   ·exact e
   ·exact Pa h b hb
def jz (m m':Bd):Prop:=(∃r,m'=m++r)/\((m.map (·.1)).Nodup->(m'.map (·.1)).Nodup)
theorem jz.rfl' (m:Bd):jz m m:=⟨⟨[],by rw[List.append_nil]⟩,id⟩
theorem jz.trans {a b c:Bd} (h:jz a b) (k:jz b c):jz a c:=by
 obtain⟨⟨r,rfl⟩,h2⟩:=h
 obtain⟨⟨q,rfl⟩,k2⟩:=k
 exact⟨⟨r++q,by rw[List.append_assoc]⟩,fun h=>k2 (h2 h)⟩
mutual
theorem Ea:∀(p t:Tm) (m:Bd),jz m (cn p t m).1
 | .mk n i xs,t,m=>by
  rw[cn]
  by_cases hn:n=[]
  ·rw[if_pos hn]
   cases hl:eV m i with
   |some x=>exact jz.rfl' m
   |none=>
    refine⟨⟨[(i,t)],rfl⟩,fun h=>?_⟩
    show((m++[(i,t)]).map (·.1)).Nodup
    rw[List.map_append,List.nodup_append]
    refine⟨h,by simp,fun a ha b hb e=>?_⟩
    simp only[List.map_cons,List.map_nil,List.mem_singleton]at hb
    obtain⟨c,hc,rfl⟩:=List.mem_map.1 ha
    exact Pa hl c hc (e.trans hb)
  ·rw[if_neg hn]
   split
   ·exact jz.rfl' m
   ·exact PN xs t.xs m
theorem PN:∀(l k:List Tm) (m:Bd),jz m (er l k m).1
 |[],k,m=>by rw[er];exact jz.rfl' m;simp
 |_::_,[],m=>by rw[er];exact jz.rfl' m;simp
 |a::l,b::k,m=>by
  rw[er]
  split
  ·exact(Ea a b m).trans (PN l k _)
  ·exact Ea a b m
end
def TL (x y:Lt):Bool:=(x.ng==y.ng&&x.pd==y.pd)&&decide (x.xs.length=y.xs.length)
section
variable {α:Type} (key:α->List UInt8)
def mI (a b:α):Prop:=¬key b<key a
def i_ (k:List UInt8) (l:List α):List α:=l.filter fun x=>key x==k
def nE (l m:List α):Prop:=m.Pairwise (mI key)/\∀k,i_ key k m=i_ key k l
theorem mI.trans {a b c:α} (h:mI key a b) (k:mI key b c):mI key a c:=by
 intro hc
 rcases x4 (key b) (key c)with U|U|U
 ·exact h (List.lt_trans U hc)
 ·exact h (U▸hc)
 ·exact k U
theorem mI.antisymm {a b:α} (h:mI key a b) (k:mI key b a):key a=key b:=by
 rcases x4 (key a) (key b)with U|U|U
 ·exact absurd U k
 ·exact U
 ·exact absurd U h
theorem Qj (k:List UInt8) (l m:List α):i_ key k (l++m)=i_ key k l++i_ key k m:=List.filter_append ..
theorem yh {k:List UInt8} {l:List α} {x:α}:x∈i_ key k l↔x∈l/\key x=k:=by
 rw[i_,List.mem_filter,beq_iff_eq]
theorem yg (k:List UInt8) (x:α) (l:List α):i_ key k (x::l)=if key x=k then x::i_ key k l else i_ key k l:=by
 rw[i_,List.filter_cons]
 by_cases h:key x=k
 ·rw[if_pos h,if_pos (by simpa using h)];rfl
 ·rw[if_neg h,if_neg (by simpa using h)];rfl
theorem nE.mem {l m:List α} (h:nE key l m) {x:α}:x∈m↔x∈l:=by
 have:=h.2 (key x)
 have U:x∈i_ key (key x) m↔x∈m:=by rw[yh];exact⟨fun h=>h.1,fun h=>⟨h,rfl⟩⟩
 have h2:x∈i_ key (key x) l↔x∈l:=by rw[yh];exact⟨fun h=>h.1,fun h=>⟨h,rfl⟩⟩
 rw[<-U,<-h2,this]
theorem RQ:∀(m n:List α),m.Pairwise (mI key)->n.Pairwise (mI key)->(∀k,i_ key k m=i_ key k n)->m=n
 |[],[],_,_,_=>rfl
 |[],b::n,_,_,h=>by
  have:=h (key b)
  rw[yg,if_pos rfl]at this;cases this
 |a::m,[],_,_,h=>by
  have:=h (key a)
  rw[yg,if_pos rfl]at this;cases this
 |a::m,b::n,hm,hn,h=>by
  rw[List.pairwise_cons]at hm hn
  have hb:b∈a::m:=by
   have:b∈i_ key (key b) (a::m):=by rw[h,yh];exact⟨by simp,rfl⟩
   exact((yh key).1 this).1
  have ha:a∈b::n:=by
   have:a∈i_ key (key a) (b::n):=by rw[<-h,yh];exact⟨by simp,rfl⟩
   exact((yh key).1 this).1
  have U:mI key a b:=by
   rcases List.mem_cons.1 hb with e|hb
   ·rw[e];exact List.lt_irrefl _
   ·exact hm.1 b hb
  have h2:mI key b a:=by
   rcases List.mem_cons.1 ha with e|ha
   ·rw[e];exact List.lt_irrefl _
   ·exact hn.1 a ha
  have hk:=mI.antisymm key U h2
  have h3:=h (key a)
  rw[yg,yg,if_pos rfl,if_pos hk.symm,List.cons.injEq]at h3
  obtain⟨rfl,h3⟩:=h3
  rw[RQ m n hm.2 hn.2]
  intro k
  have h4:=h k
  rw[yg,yg]at h4
  by_cases e:key a=k
  ·rw[if_pos e,if_pos e,List.cons.injEq]at h4;exact h4.2
  ·rw[if_neg e,if_neg e]at h4;exact h4
theorem nE.uniq {l m n:List α} (h:nE key l m) (k:nE key l n):m=n:=RQ key m n h.1 k.1 fun x=>(h.2 x).trans (k.2 x).symm
theorem nE.congr {l l' m:List α} (h:nE key l m) (e:∀k,i_ key k l=i_ key k l'):nE key l' m:=⟨h.1,fun k=>(h.2 k).trans (e k)⟩
theorem nE.append {l m p q:List α} (h:nE key l m) (k:nE key (m++p) q):nE key (l++p) q:=
 ⟨k.1,fun x=>by rw[k.2,Qj,Qj,h.2]⟩
end
mutual
def Gg (w:Int->Nat):Tm->Nat
 | .mk n i xs=>if n=[]then w i else MJ w 1 xs
def MJ (w:Int->Nat) (a:Nat):List Tm->Nat
 |[]=>a
 |t::l=>MJ w (min (a+Gg w t) 4001) l
end
mutual
def MH (w:Int->Nat):Tm->Nat
 | .mk n i xs=>if n=[]then w i else MI w 1 xs
def MI (w:Int->Nat) (a:Nat):List Tm->Nat
 |[]=>a
 |t::l=>MI w (max a (MH w t+1)) l
end
def KE (f:Int->Tm) (c:List Lt):List Lt:=c.map (qW f)
theorem pD (l:Lt) (c:List Lt):cO (l::c)=1+aD l.xs+cO c:=by rw[cO,List.map_cons,List.sum_cons];rfl
theorem J6:∀(l:List Tm),l.length<=aD l
 |[]=>Nat.zero_le _
 |t::l=>by rw[aD,List.length_cons];have:=qI t;have:=J6 l;omega
theorem I_:∀(c:List Lt) (l:Lt),l∈c->mu l<=cO c
 |[],_,h=>by cases h
 |m::c,l,h=>by
  rw[pD]
  rcases List.mem_cons.1 h with rfl|h
  ·rw[mu];omega
  ·have:=I_ c l h;omega
theorem ZW {a b:List Lt} (h:a.Perm b):cO a=cO b:=(h.map mu).sum_nat
theorem PV {a b:List Lt} (h:a.Sublist b):cO a<=cO b:=by
 induction h with
 |slnil=>exact Nat.le_refl _
 |cons a _ ih=>rw[pD];omega
 |cons_cons a _ ih=>rw[pD,pD];omega
def dZ (s t:Tm) (f:Int->Tm):Prop:=ak f s=ak f t
structure ss (s t:Tm) (f:Int->Tm):Prop where
 u:dZ s t f
 m:∀g,dZ s t g->∀v,ak g (f v)=g v
 r:∀v,(f v).nm=[]->(f v).ix<=v
 l:∀v,Lf (f v)
theorem Lf.var {t:Tm} (h:Lf t) (hn:t.nm=[]):t=bt t.ix:=by
 obtain⟨_,hx,_,_⟩:=h
 cases t
 simp only[Tm.nm,Tm.xs,Tm.ix]at hn hx⊢
 rw[bt,hn,hx hn]
theorem Lf.args {t:Tm} (h:Lf t):∀a∈t.xs,Lf a:=by obtain⟨_,_,_,k⟩:=h;exact k
theorem Lf.zero {t:Tm} (h:Lf t) (hn:t.nm≠[]):t.ix=0:=by obtain⟨_,_,k,_⟩:=h;exact k hn
theorem BR (v:Int):Lf (bt v):=⟨_,fun _=>rfl,fun h=>absurd rfl h,fun a ha=>by cases ha⟩
theorem sA (f:Int->Tm) {t:Tm} (h:t.nm≠[]):(ak f t).nm=t.nm/\(ak f t).xs=bn f t.xs/\(ak f t).ix=0:=by
 rw[ff,if_neg h];exact⟨rfl,rfl,rfl⟩
theorem ab5 (f g:Int->Tm) (hf:∀v,(f v).nm=[]->(f v).ix<=v) (hg:∀v,(g v).nm=[]->(g v).ix<=v) {a:Tm} (ha:Lf a):
  ∀b:Tm,Lf b->ak g a=b->ak f b=a->a=b:=by
 induction ha with
 |mk a hx h0 k ih=>
  intro b hb e1 e2
  have ha:Lf a:=⟨a,hx,h0,k⟩
  by_cases hn:a.nm=[]
  ·rw[ff,if_pos hn]at e1
   have ei:b.nm=[]:=by
    by_cases h:b.nm=[]
    ·exact h
    ·have:=(sA f h).1
     rw[e2,hn]at this;exact absurd this.symm h
   rw[ff,if_pos ei]at e2
   have U:=hg a.ix (by rw[e1];exact ei)
   have h2:=hf b.ix (by rw[e2];exact hn)
   rw[e1]at U
   rw[e2]at h2
   rw[ha.var hn,hb.var ei,show a.ix=b.ix by omega]
  ·obtain⟨n1,n2,n3⟩:=sA g hn
   rw[e1]at n1 n2 n3
   have ei:b.nm≠[]:=by rw[n1];exact hn
   obtain⟨m1,m2,m3⟩:=sA f ei
   rw[e2]at m2 m3
   have qs:a.xs=b.xs:=by
    rw[n2]
    rw[n2]at m2
    suffices H:∀l:List Tm,(∀x∈l,x∈a.xs)->(∀x∈bn g l,Lf x)->l=bn f (bn g l)->l=bn g l from
     H a.xs (fun _ h=>h) (fun x hx=>hb.args x (by rw[n2];exact hx)) m2
    intro l
    induction l with
    |nil=>intro _ _ _;rw[bn]
    |cons x l AI=>
     intro hm Hj hl
     rw[bn]at Hj
     rw[bn,bn,List.cons.injEq]at hl
     rw[bn,<-ih x (hm x (by simp)) (ak g x) (Hj _ (by simp)) rfl hl.1.symm,<-AI (fun y hy=>hm y (by simp[hy])) (fun y hy=>Hj y (by simp[hy])) hl.2]
   have z1:=ha.zero hn
   cases a;cases b
   simp only[Tm.nm,Tm.xs,Tm.ix]at*
   rw[n1,qs,z1,n3]
theorem ss.uniq {s t:Tm} {f g:Int->Tm} (h:ss s t f) (k:ss s t g) (v:Int):f v=g v:=
 ab5 f g h.r k.r (h.l v) (g v) (k.l v) (h.m g k.u v) (k.m f h.u v)
def ft (l:Bd) (g:Int->Tm):Prop:=∀b∈l,ak g b.2=g b.1
structure gK (l:Bd) (f:Int->Tm):Prop where
 s:ft l f
 m:∀g,ft l g->∀v,ak g (f v)=g v
 r:∀v,(f v).nm=[]->(f v).ix<=v
 lf:∀v,Lf (f v)
 b:∀v,f v≠bt v↔∃x,(v,x)∈l
theorem gK.nil:gK [] bt:=by
 refine⟨fun b h=>?_,fun g _ v=>wq g v,fun v _=>Int.le_refl _,BR,fun v=>⟨fun h=>absurd rfl h,?_⟩⟩
 ·cases h
 ·rintro⟨x,h⟩;cases h
theorem gK.idem {l:Bd} {f:Int->Tm} (h:gK l f) (v:Int):ak f (f v)=f v:=h.m f h.s v
theorem gK.under {l:Bd} {f g:Int->Tm} (h:gK l f) (hg:ft l g) (t:Tm):ak g (ak f t)=ak g t:=by
 rw[y8,show(fun v=>ak g (f v))=g from funext (h.m g hg)]
def mB (v:Int) (t:Tm) (w:Int):Tm:=if w=v then t else bt w
theorem A_ (v:Int) (t:Tm):mB v t v=t:=if_pos rfl
theorem yj {v w:Int} (t:Tm) (h:w≠v):mB v t w=bt w:=if_neg h
mutual
theorem K9 (f:Int->Tm):∀t:Tm,Lf t->(∀v∈bJ t,f v=bt v)->ak f t=t
 | .mk n i xs,h,hv=>by
  rw[bJ]at hv
  rw[ak]
  have h0:=h.zero
  have hk:=h.args
  by_cases hn:n=[]
  ·rw[if_pos hn]at hv⊢
   rw[hv i (by simp)];exact(h.var hn).symm
  ·rw[if_neg hn]at hv⊢
   rw[Lb f xs hk fun v hm=>hv v (by simpa using hm),show i=0 from h0 hn]
theorem Lb (f:Int->Tm):∀l:List Tm,(∀a∈l,Lf a)->(∀v∈aW l,f v=bt v)->bn f l=l
 |[],_,_=>by rw[bn]
 |t::l,h,hv=>by
  rw[aW]at hv
  rw[bn,K9 f t (h t (by simp)) fun v hm=>hv v (List.mem_append_left _ hm),Lb f l (fun a ha=>h a (by simp[ha])) fun v hm=>hv v (List.mem_append_right _ hm)]
end
theorem Fh {f:Int->Tm} (hf:∀v,Lf (f v)) {t:Tm} (h:Lf t):Lf (ak f t):=by
 induction h with
 |mk t hx h0 k ih=>
  rw[ff]
  by_cases hn:t.nm=[]
  ·rw[if_pos hn];exact hf _
  ·rw[if_neg hn]
   refine⟨_,fun h=>absurd h hn,fun _=>rfl,fun a ha=>?_⟩
   rw[show(Tm.mk t.nm 0 (bn f t.xs)).xs=bn f t.xs from rfl,fy]at ha
   obtain⟨b,hb,rfl⟩:=List.mem_map.1 ha
   exact ih b hb
theorem gK.bind {l:Bd} {f:Int->Tm} (h:gK l f) {v:Int} {t:Tm} (hv:f v=bt v) (ht:Lf t) (ho:v∉bJ (ak f t))
  (hr:(ak f t).nm=[]->(ak f t).ix<v):gK (l++[(v,t)]) (fun w=>ak (mB v (ak f t)) (f w)):=by
 have hl:Lf (ak f t):=Fh h.lf ht
 have hk:ak (mB v (ak f t)) (ak f t)=ak f t:=K9 _ _ hl fun w hw=>yj _ fun e=>ho (e▸hw)
 have mh:ak (mB v (ak f t)) (f v)=ak f t:=by rw[hv,wq,A_]
 have dU:∀w,Lf (mB v (ak f t) w):=fun w=>by
  by_cases e:w=v
  ·rw[e,A_];exact hl
  ·rw[yj _ e];exact BR w
 refine⟨fun b hb=>?_,fun g hg w=>?_,fun w hw=>?_,fun w=>Fh dU (h.lf w),fun w=>?_⟩
 ·rcases List.mem_append.1 hb with hb|hb
  ·have:=h.s b hb
   rw[<-y8,this]
  ·rw[List.mem_singleton]at hb
   rw[hb]
   show ak _ t=ak _ (f v)
   rw[<-y8,hk,mh]
 ·have oY:ft l g:=fun b hb=>hg b (List.mem_append_left _ hb)
  have zW:ak g t=g v:=hg (v,t) (by simp)
  have e:(fun u=>ak g (mB v (ak f t) u))=g:=funext fun u=>by
   by_cases e:u=v
   ·rw[e,A_,h.under oY,zW]
   ·rw[yj _ e,wq]
  show ak g (ak _ (f w))=_
  rw[y8,e,h.m g oY]
 ·have AA:(ak (mB v (ak f t)) (f w)).nm=[]:=hw
  show(ak (mB v (ak f t)) (f w)).ix<=w
  have hn:(f w).nm=[]:=by
   by_cases e:(f w).nm=[]
   ·exact e
   ·rw[(sA _ e).1]at AA;exact AA
  have U:=h.r w hn
  rw[ff,if_pos hn]at AA⊢
  by_cases e:(f w).ix=v
  ·rw[e,A_]at AA⊢
   have:=hr AA
   omega
  ·rw[yj _ e];exact U
 ·show ak (mB v (ak f t)) (f w)≠bt w↔_
  constructor
  ·intro aK
   by_cases e:f w=bt w
   ·rw[e,wq]at aK
    by_cases e2:w=v
    ·exact⟨t,by simp[e2]⟩
    ·exact absurd (yj _ e2) aK
   ·obtain⟨x,hx⟩:=(h.b w).1 e
    exact⟨x,List.mem_append_left _ hx⟩
  ·rintro⟨x,hx⟩ e
   rcases List.mem_append.1 hx with hx|hx
   ·have aK:=(h.b w).2 ⟨x,hx⟩
    have hn:(f w).nm=[]:=by
     by_cases e3:(f w).nm=[]
     ·exact e3
     ·have:=(sA (mB v (ak f t)) e3).1
      rw[e]at this;exact this.symm
    have C7:=(h.lf w).var hn
    have ad6:=h.idem w
    rw[C7,wq]at e
    by_cases e4:(f w).ix=v
    ·rw[e4,A_]at e
     have h5:=hr (by rw[e];rfl)
     rw[e]at h5
     have h6:=h.r w hn
     rw[e4]at h6
     have:(bt w).ix=w:=rfl
     omega
    ·rw[yj _ e4]at e
     exact aK (C7.trans e)
   ·rw[List.mem_singleton,Prod.mk.injEq]at hx
    obtain⟨rfl,rfl⟩:=hx
    rw[mh]at e
    exact ho (by rw[e,bt,bJ,if_pos rfl];simp)
theorem ft.snoc {l:Bd} {v:Int} {t:Tm} {g:Int->Tm}:ft (l++[(v,t)]) g↔ft l g/\ak g t=g v:=by
 constructor
 ·exact fun h=>⟨fun b hb=>h b (List.mem_append_left _ hb),h (v,t) (by simp)⟩
 ·rintro⟨U,h2⟩ b hb
  rcases List.mem_append.1 hb with hb|hb
  ·exact U b hb
  ·rw[List.mem_singleton]at hb;rw[hb];exact h2
theorem ft.nil (g:Int->Tm):ft [] g:=fun b h=>by cases h
theorem dZ.fn {s t:Tm} {g:Int->Tm} (hs:s.nm≠[]) (ht:t.nm≠[]):dZ s t g↔s.nm=t.nm/\bn g s.xs=bn g t.xs:=by
 rw[dZ,ff,ff g t,if_neg hs,if_neg ht,Tm.mk.injEq]
 exact⟨fun h=>⟨h.1,h.2.2⟩,fun h=>⟨h.1,rfl,h.2⟩⟩
theorem Un {g:Int->Tm} {l m:List Tm} (h:bn g l=bn g m):l.length=m.length:=by
 have:=congrArg List.length h
 rwa [Lc,Lc]at this
theorem acj (g:Int->Tm) {u:Tm} (h:Lf u):∀v∈bJ u,wT (g v)<=wT (ak g u)/\(u.nm≠[]->wT (g v)<wT (ak g u)):=by
 induction h with
 |mk u hx h0 k ih=>
  intro v hv
  rw[BH]at hv
  rw[ff]
  by_cases hn:u.nm=[]
  ·rw[if_pos hn]at hv⊢
   rw[hx hn,aW,List.append_nil,List.mem_singleton]at hv
   rw[hv];exact⟨Nat.le_refl _,fun h=>absurd hn h⟩
  ·rw[if_neg hn]at hv⊢
   rw[List.nil_append]at hv
   suffices H:∀l:List Tm,(∀a∈l,a∈u.xs)->v∈aW l->wT (g v)<=aD (bn g l) by
    have:=H u.xs (fun _ h=>h) hv
    rw[wT];omega
   intro l
   induction l with
   |nil=>intro _ h;rw[aW]at h;cases h
   |cons a l AI=>
    intro hm h
    rw[aW]at h
    rw[bn,aD]
    rcases List.mem_append.1 h with h|h
    ·have:=(ih a (hm a (by simp)) v h).1;omega
    ·have:=AI (fun x hx=>hm x (by simp[hx])) h;omega
theorem gK.Qi {l:Bd} {f g:Int->Tm} (h:gK l f) {v:Int} {t:Tm} (ht:Lf t) (hn:t.nm≠[]) (ho:v∈bJ (ak f t)) (hg:ft l g):ak g t≠g v:=by
 intro e
 have U:=h.under hg t
 have h2:=(acj g (Fh h.lf ht) v ho).2 (by rw[(sA f hn).1];exact hn)
 rw[U,e]at h2
 omega
theorem gK.x8 {l:Bd} {f:Int->Tm} (h:gK l f) {s t:Tm} (k:∀g,ft l g↔dZ s t g):ss s t f:=
 ⟨(k f).1 h.s,fun g hg v=>h.m g ((k g).2 hg) v,h.r,h.lf⟩
theorem ER:∀(l m:List Int),l.Pairwise (·<·)->m.Pairwise (·<·)->(∀v,v∈l↔v∈m)->l=m
 |[],[],_,_,_=>rfl
 |[],b::m,_,_,h=>by have:=(h b).2 (by simp);cases this
 |a::l,[],_,_,h=>by have:=(h a).1 (by simp);cases this
 |a::l,b::m,hl,hm,h=>by
  rw[List.pairwise_cons]at hl hm
  have U:a∈b::m:=(h a).1 (by simp)
  have h2:b∈a::l:=(h b).2 (by simp)
  have e:a=b:=by
   rcases List.mem_cons.1 U with U|U
   ·exact U
   ·rcases List.mem_cons.1 h2 with h2|h2
    ·exact h2.symm
    ·have:=hm.1 a U;have:=hl.1 b h2;omega
  subst e
  rw[ER l m hl.2 hm.2]
  intro v
  constructor
  ·intro hv
   rcases List.mem_cons.1 ((h v).1 (by simp[hv]))with e|lD
   ·have:=hl.1 v hv;omega
   ·exact lD
  ·intro hv
   rcases List.mem_cons.1 ((h v).2 (by simp[hv]))with e|lD
   ·have:=hm.1 v hv;omega
   ·exact lD
def lH (b:Int×Tm):Bd->Bd
 |[]=>[b]
 |c::o=>if b.1<c.1 then b::c::o else c::lH b o
def cV (o:Bd):Bd->Bd
 |[]=>o
 |b::l=>cV (lH b o) l
theorem DM (b:Int×Tm):∀o,(lH b o).Perm (b::o)
 |[]=>List.Perm.refl _
 |c::o=>by
  rw[lH]
  split
  ·exact List.Perm.refl _
  ·exact((DM b o).cons c).trans (List.Perm.swap b c o)
theorem yx:∀(l o:Bd),(cV o l).Perm (o++l)
 |[],o=>by rw[cV,List.append_nil]
 |b::l,o=>by
  rw[cV]
  exact(yx l _).trans (((DM b o).append_right l).trans (List.perm_middle (a:=b) (l₁:=o) (l₂:=l)).symm)
theorem OQ (b:Int×Tm):∀o:Bd,o.Pairwise (fun x y=>x.1<y.1)->(∀c∈o,c.1≠b.1)->(lH b o).Pairwise (fun x y=>x.1<y.1)
 |[],_,_=>List.pairwise_singleton _ _
 |c::o,h,hn=>by
  rw[List.pairwise_cons]at h
  rw[lH]
  split
  ·rename_i hx
   rw[List.pairwise_cons,List.pairwise_cons]
   exact⟨fun z hz=>(List.mem_cons.1 hz).elim (fun e=>e▸hx) fun hz=>by have:=h.1 z hz;omega,h⟩
  ·rename_i hx
   rw[List.pairwise_cons]
   refine⟨fun z hz=>?_,OQ b o h.2 fun d hd=>hn d (by simp[hd])⟩
   rcases List.mem_cons.1 ((DM b o).mem_iff.1 hz)with rfl|hz
   ·have:=hn c (by simp);omega
   ·exact h.1 z hz
theorem ES:∀(l o:Bd),((o++l).map (·.1)).Nodup->o.Pairwise (fun x y=>x.1<y.1)->(cV o l).Pairwise (fun x y=>x.1<y.1)
 |[],o,_,h=>h
 |b::l,o,hn,h=>by
  have hp:(o++b::l).Perm (lH b o++l):=(List.perm_middle (a:=b) (l₁:=o) (l₂:=l)).trans (((DM b o).symm).append_right l)
  have ga:=(hp.map (·.1)).nodup hn
  rw[cV]
  refine ES l _ ga (OQ b o h fun c hc e=>?_)
  rw[List.map_append,List.nodup_append]at hn
  exact hn.2.2 c.1 (List.mem_map_of_mem hc) b.1 (by simp) e
def pw (f:Int->Tm) (ks:List Int):Bd:=ks.map fun v=>(v,f v)
theorem abp {l:Bd} {f:Int->Tm} {ks:List Int} (hn:(l.map (·.1)).Nodup) (hf:∀b∈l,b.2=f b.1) (hk:ks.Pairwise (·<·)) (hm:∀v,v∈ks↔∃x,(v,x)∈l):cV [] l=pw f ks:=by
 have hp:=yx l []
 rw[List.nil_append]at hp
 have hs:=ES l [] (by rw[List.nil_append];exact hn) List.Pairwise.nil
 have U:(cV [] l).map (·.1)=ks:=by
  refine ER _ _ (List.pairwise_map.2 hs) hk fun v=>?_
  rw[hm,List.mem_map]
  constructor
  ·rintro⟨b,hb,rfl⟩;exact⟨b.2,hp.mem_iff.1 hb⟩
  ·rintro⟨x,hx⟩;exact⟨_,hp.mem_iff.2 hx,rfl⟩
 rw[pw,<-U,List.map_map]
 refine(List.map_id _).symm.trans (List.map_congr_left fun b hb=>?_)
 show b=(b.1,f b.1)
 rw[<-hf b (hp.mem_iff.1 hb)]
theorem Lu:∀(c p:List Lt) (x:Lt),fv p (c++[x])=fv p c++(if(p++c).any (jU x)then[]else[x])
 |[],p,x=>by
  rw[List.nil_append,List.append_nil,fv,fv,fv,List.nil_append]
 |y::c,p,x=>by
  rw[List.cons_append,fv,fv,Lu c,List.append_assoc]
  split<;>rfl
theorem RE:∀(c o:List Lt) (x:Lt),dI o (c++[x])=mr x (dI o c)
 |[],o,x=>rfl
 |y::c,o,x=>by rw[List.cons_append,dI,dI,RE c]
theorem Ie:∀(o1 o2:List Lt) (x:Lt),(o1++o2).Pairwise ni->(∀y∈o2,eo x<eo y)->(∀y,o1.getLast?=some y->ni y x)->mr x (o1++o2)=o1++x::o2
 |[],[],x,_,_,_=>rfl
 |[],y::o2,x,_,h,_=>by rw[List.nil_append,mr,if_pos (h y (by simp))];rfl
 |z::o1,o2,x,hp,h,hl=>by
  rw[List.cons_append,List.pairwise_cons]at hp
  have hz:ni z x:=by
   cases o1 with
   |nil=>exact hl z rfl
   |cons w o1=>
    have Hg:∃y,(w::o1).getLast?=some y/\y∈w::o1:=by
     refine⟨(w::o1).getLast (by simp),List.getLast?_eq_some_getLast (by simp),List.getLast_mem (by simp)⟩
    obtain⟨y,e,hy⟩:=Hg
    have U:ni y x:=hl y (by rw[List.getLast?_cons_cons];exact e)
    exact O4 (hp.1 y (List.mem_append_left _ hy)) U
  rw[List.cons_append,mr,if_neg hz,Ie o1 o2 x hp.2 h fun y hy=>?_]
  ·rfl
  ·cases o1 with
   |nil=>cases hy
   |cons w o1=>exact hl y (by rw[List.getLast?_cons_cons];exact hy)
end Go.Proofs.YtpfohmboflcneaaGreatDoor
end
section
namespace Go.Proofs.YtpfohmboflcneaaGreatDoor
open Go
set_option maxHeartbeats 1000000
structure Nd where
 nm:List UInt8
 num:Int
 ks:List Nat
inductive jy (rt:Nat->Nat) (D:List (Nat×Nat)):Nat->Nat->Prop
 |rt {a b:Nat}:rt a=rt b->jy rt D a b
 |pr {a b:Nat}:(a,b)∈D->jy rt D a b
 |symm {a b:Nat}:jy rt D a b->jy rt D b a
 |trans {a b c:Nat}:jy rt D a b->jy rt D b c->jy rt D a c
theorem jy.mono {r r':Nat->Nat} {D D':List (Nat×Nat)} (U:∀a b,r a=r b->jy r' D' a b) (h2:∀p∈D,jy r' D' p.1 p.2) {a b:Nat} (h:jy r D a b):jy r' D' a b:=by
 induction h with
 |rt h=>exact U _ _ h
 |pr h=>exact h2 _ h
 |symm _ ih=>exact ih.symm
 |trans _ _ i1 i2=>exact i1.trans i2
theorem jy.nil {r:Nat->Nat} {a b:Nat} (h:jy r [] a b):r a=r b:=by
 induction h with
 |rt h=>exact h
 |pr h=>cases h
 |symm _ ih=>exact ih.symm
 |trans _ _ i1 i2=>exact i1.trans i2
def eM (rt:Nat->Nat) (D:List (Nat×Nat)):List Nat->List Nat->Prop
 |[],[]=>True
 |a::l,b::m=>jy rt D a b/\eM rt D l m
 |_,_=>False
theorem eM.mono {r r':Nat->Nat} {D D':List (Nat×Nat)} (U:∀a b,r a=r b->jy r' D' a b) (h2:∀p∈D,jy r' D' p.1 p.2):∀{l m:List Nat},eM r D l m->eM r' D' l m
 |[],[],_=>trivial
 |a::l,b::m,h=>⟨h.1.mono U h2,eM.mono U h2 h.2⟩
 |[],_::_,h=>h.elim
 |_::_,[],h=>h.elim
theorem eM.symm {r:Nat->Nat} {D:List (Nat×Nat)}:∀{l m:List Nat},eM r D l m->eM r D m l
 |[],[],_=>trivial
 |a::l,b::m,h=>⟨h.1.symm,eM.symm h.2⟩
 |[],_::_,h=>h.elim
 |_::_,[],h=>h.elim
theorem eM.trans {r:Nat->Nat} {D:List (Nat×Nat)}:∀{l m k:List Nat},eM r D l m->eM r D m k->eM r D l k
 |[],[],[],_,_=>trivial
 |a::l,b::m,c::k,h,g=>⟨h.1.trans g.1,eM.trans h.2 g.2⟩
 |[],[],_::_,_,g=>g.elim
 |[],_::_,_,h,_=>h.elim
 |_::_,[],_,h,_=>h.elim
 |_::_,_::_,[],_,g=>g.elim
theorem eM.refl {r:Nat->Nat} {D:List (Nat×Nat)}:∀l:List Nat,eM r D l l
 |[]=>trivial
 |_::l=>⟨.rt rfl,eM.refl l⟩
theorem eM.zip {r:Nat->Nat} {D:List (Nat×Nat)}:∀{l m:List Nat},l.length=m.length->(∀p∈l.zip m,p∈D)->eM r D l m
 |[],[],_,_=>trivial
 |a::l,b::m,h,k=>⟨.pr (k (a,b) (by simp)),eM.zip (by simpa using h) fun p hp=>k p (by simp[hp])⟩
 |[],_::_,h,_=>by simp at h
 |_::_,[],h,_=>by simp at h
theorem eM.nil {r:Nat->Nat}:∀{l m:List Nat},eM r [] l m->l.map r=m.map r
 |[],[],_=>rfl
 |a::l,b::m,h=>by rw[List.map_cons,List.map_cons,h.1.nil,eM.nil h.2]
 |[],_::_,h=>h.elim
 |_::_,[],h=>h.elim
structure Good (cl:Nat->Nd) (rt:Nat->Nat) (D:List (Nat×Nat)):Prop where
 i:∀a,rt (rt a)=rt a
 v:∀a,(cl (rt a)).nm=[]->(cl a).nm=[]/\(cl (rt a)).num<=(cl a).num
 f:∀a b,rt a=rt b->(cl a).nm≠[]->(cl b).nm≠[]->(cl a).nm=(cl b).nm/\eM rt D (cl a).ks (cl b).ks
def cK (rt:Nat->Nat) (x y:Nat) (c:Nat):Nat:=if rt c=x then y else rt c
theorem vH {rt:Nat->Nat} {x y a b:Nat} (h:rt a=rt b):cK rt x y a=cK rt x y b:=by rw[cK,cK,h]
variable {cl:Nat->Nd} {rt:Nat->Nat} {D:List (Nat×Nat)}
theorem PI (h:Good cl rt D) {a b:Nat} (hn:rt a≠rt b) (c:Nat):cK rt (rt b) (rt a) (cK rt (rt b) (rt a) c)=cK rt (rt b) (rt a) c:=by
 rw[cK,cK]
 by_cases hc:rt c=rt b
 ·rw[if_pos hc,h.i,if_neg hn]
 ·rw[if_neg hc,h.i,if_neg hc]
theorem Good.same {a b:Nat} (h:Good cl rt ((a,b)::D)) (e:rt a=rt b):Good cl rt D:=
 ⟨h.i,h.v,fun x y gC hx hy=>⟨(h.f x y gC hx hy).1,(h.f x y gC hx hy).2.mono (fun _ _=> .rt) fun p hp=>by
  rcases List.mem_cons.1 hp with rfl|hp
  ·exact .rt e
  ·exact .pr hp⟩⟩
theorem Good.swap {a b:Nat} (h:Good cl rt ((a,b)::D)):Good cl rt ((b,a)::D):=
 ⟨h.i,h.v,fun x y gC hx hy=>⟨(h.f x y gC hx hy).1,(h.f x y gC hx hy).2.mono (fun _ _=> .rt) fun p hp=>by
  rcases List.mem_cons.1 hp with rfl|hp
  ·exact .symm (.pr (by simp))
  ·exact .pr (by simp[hp])⟩⟩
theorem Good.var {a b:Nat} (h:Good cl rt ((a,b)::D)) (hn:rt a≠rt b) (hb:(cl (rt b)).nm=[]) (ho:(cl (rt a)).nm=[]->(cl (rt a)).num<=(cl (rt b)).num):
  Good cl (cK rt (rt b) (rt a)) D:=by
 refine⟨PI h hn,fun c hc=>?_,fun x y gC hx hy=>?_⟩
 ·rw[cK]at hc⊢
  by_cases e:rt c=rt b
  ·rw[if_pos e]at hc⊢
   have U:=h.v c (by rw[e];exact hb)
   rw[e]at U
   have:=ho hc
   exact⟨U.1,by omega⟩
  ·rw[if_neg e]at hc⊢
   exact h.v c hc
 ·have nx:rt x≠rt b:=fun e=>hx (h.v x (by rw[e];exact hb)).1
  have ny:rt y≠rt b:=fun e=>hy (h.v y (by rw[e];exact hb)).1
  rw[cK,cK,if_neg nx,if_neg ny]at gC
  refine⟨(h.f x y gC hx hy).1,(h.f x y gC hx hy).2.mono (fun _ _ e=> .rt (vH e)) fun p hp=>?_⟩
  rcases List.mem_cons.1 hp with rfl|hp
  ·exact .rt (by rw[cK,cK,if_neg hn,if_pos rfl])
  ·exact .pr hp
theorem Good.fn {a b:Nat} (h:Good cl rt ((a,b)::D)) (hn:rt a≠rt b) (ha:(cl (rt a)).nm≠[]) (hb:(cl (rt b)).nm≠[]) (hm:(cl (rt a)).nm=(cl (rt b)).nm) (hl:(cl (rt a)).ks.length=(cl (rt b)).ks.length):
  Good cl (cK rt (rt b) (rt a)) ((cl (rt a)).ks.zip (cl (rt b)).ks++D):=by
 have xc:∀{l m:List Nat},eM rt ((a,b)::D) l m->eM (cK rt (rt b) (rt a)) ((cl (rt a)).ks.zip (cl (rt b)).ks++D) l m:=fun k=>
  k.mono (fun _ _ e=> .rt (vH e)) fun p hp=>by
   rcases List.mem_cons.1 hp with rfl|hp
   ·exact .rt (by rw[cK,cK,if_neg hn,if_pos rfl])
   ·exact .pr (List.mem_append_right _ hp)
 have hz:eM (cK rt (rt b) (rt a)) ((cl (rt a)).ks.zip (cl (rt b)).ks++D) (cl (rt a)).ks (cl (rt b)).ks:=eM.zip hl fun p hp=>List.mem_append_left _ hp
 refine⟨PI h hn,fun c hc=>?_,fun x y gC hx hy=>?_⟩
 ·rw[cK]at hc⊢
  by_cases e:rt c=rt b
  ·rw[if_pos e]at hc;exact absurd hc ha
  ·rw[if_neg e]at hc⊢;exact h.v c hc
 ·rw[cK,cK]at gC
  by_cases ex:rt x=rt b<;>by_cases ey:rt y=rt b
  ·have:=h.f x y (ex.trans ey.symm) hx hy
   exact⟨this.1,xc this.2⟩
  ·rw[if_pos ex,if_neg ey]at gC
   have U:=h.f x (rt b) (by rw[ex,h.i]) hx hb
   have h2:=h.f (rt a) y (by rw[h.i];exact gC) ha hy
   exact⟨U.1.trans (hm.symm.trans h2.1),((xc U.2).trans hz.symm).trans (xc h2.2)⟩
  ·rw[if_neg ex,if_pos ey]at gC
   have U:=h.f x (rt a) (by rw[gC,h.i]) hx ha
   have h2:=h.f (rt b) y (by rw[h.i,ey]) hb hy
   exact⟨U.1.trans (hm.trans h2.1),((xc U.2).trans hz).trans (xc h2.2)⟩
  ·rw[if_neg ex,if_neg ey]at gC
   have:=h.f x y gC hx hy
   exact⟨this.1,xc this.2⟩
def Dn (cl:Nat->Nd) (d:Nat->Tm):Prop:=∀c,d c=if(cl c).nm=[]then bt (cl c).num else .mk (cl c).nm 0 ((cl c).ks.map d)
def kZ (d:Nat->Tm) (rt:Nat->Nat) (g:Int->Tm):Prop:=∀c,ak g (d c)=ak g (d (rt c))
theorem kZ.cK {d:Nat->Tm} {g:Int->Tm} {a b:Nat} (h:kZ d rt g) (e:ak g (d a)=ak g (d b)):kZ d (cK rt (rt b) (rt a)) g:=by
 intro c
 rw[Go.Proofs.YtpfohmboflcneaaGreatDoor.cK]
 by_cases hc:rt c=rt b
 ·rw[if_pos hc,<-h a,e,h b,<-hc,<-h c]
 ·rw[if_neg hc];exact h c
theorem Dn.fn {d:Nat->Tm} (hd:Dn cl d) {c:Nat} (h:(cl c).nm≠[]) (g:Int->Tm):ak g (d c)= .mk (cl c).nm 0 ((cl c).ks.map fun x=>ak g (d x)):=by
 rw[hd c,if_neg h,ak,if_neg h,fy,List.map_map];rfl
theorem kZ.args {d:Nat->Tm} {g:Int->Tm} {a b:Nat} (hd:Dn cl d) (h:kZ d rt g) (e:ak g (d a)=ak g (d b)) (ha:(cl (rt a)).nm≠[]) (hb:(cl (rt b)).nm≠[]):
  (cl (rt a)).nm=(cl (rt b)).nm/\(cl (rt a)).ks.length=(cl (rt b)).ks.length/\∀p∈(cl (rt a)).ks.zip (cl (rt b)).ks,ak g (d p.1)=ak g (d p.2):=by
 rw[h a,h b,hd.fn ha g,hd.fn hb g,Tm.mk.injEq]at e
 obtain⟨e1,_,e2⟩:=e
 have hl:=congrArg List.length e2
 rw[List.length_map,List.length_map]at hl
 refine⟨e1,hl,?_⟩
 suffices H:∀l m:List Nat,(l.map fun x=>ak g (d x))=(m.map fun x=>ak g (d x))->∀p∈l.zip m,ak g (d p.1)=ak g (d p.2) from H _ _ e2
 intro l
 induction l with
 |nil=>intro m _ p hp;simp at hp
 |cons x l ih=>
  intro m hm p hp
  cases m with
  |nil=>simp at hp
  |cons y m=>
   rw[List.map_cons,List.map_cons,List.cons.injEq]at hm
   rw[List.zip_cons_cons]at hp
   rcases List.mem_cons.1 hp with rfl|hp
   ·exact hm.1
   ·exact ih m hm.2 p hp
inductive Tc (cl:Nat->Nd) (rt:Nat->Nat):Nat->Tm->Prop
 |var {c:Nat}:(cl (rt c)).nm=[]->Tc cl rt c (bt (cl (rt c)).num)
 |fn {c:Nat} {ts:List Tm}:(cl (rt c)).nm≠[]->ts.length=(cl (rt c)).ks.length->(∀(k:Nat) (x:Nat) (t:Tm),(cl (rt c)).ks[k]?=some x->ts[k]?=some t->Tc cl rt x t)->Tc cl rt c (.mk (cl (rt c)).nm 0 ts)
theorem Tc.oz {d:Nat->Tm} {g:Int->Tm} (hd:Dn cl d) (h:kZ d rt g) {c:Nat} {t:Tm} (k:Tc cl rt c t):ak g t=ak g (d c):=by
 induction k with
 |@var c hv=>rw[h c,hd (rt c),if_pos hv]
 |@fn c ts hn hl _ ih=>
  rw[h c,hd.fn hn g,ak,if_neg hn,fy,Tm.mk.injEq]
  refine⟨rfl,rfl,?_⟩
  refine List.ext_getElem? fun i=>?_
  rw[List.getElem?_map,List.getElem?_map]
  rcases Nat.lt_or_ge i ts.length with hi|hi
  ·have U:ts[i]?=some ts[i]:=List.getElem?_eq_getElem hi
   have h2:(cl (rt c)).ks[i]?=some (cl (rt c)).ks[i]:=List.getElem?_eq_getElem (by omega)
   rw[U,h2]
   simp only[Option.map_some]
   rw[ih i _ _ h2 U]
  ·rw[List.getElem?_eq_none hi,List.getElem?_eq_none (by omega)];rfl
theorem Tc.lf {c:Nat} {t:Tm} (k:Tc cl rt c t):Lf t:=by
 induction k with
 |var _=>exact BR _
 |@fn c ts hn hl _ ih=>
  refine⟨_,fun h=>absurd h hn,fun _=>rfl,fun a ha=>?_⟩
  obtain⟨i,hi,e⟩:=List.getElem_of_mem ha
  have w6:i<ts.length:=hi
  have U:ts[i]?=some a:=by rw[List.getElem?_eq_getElem w6,<-e];rfl
  exact ih i _ a (List.getElem?_eq_getElem (by omega)) U
theorem Tc.root {c c':Nat} {t:Tm} (k:Tc cl rt c t) (h:Good cl rt D) (e:rt c=rt c'):Tc cl rt c' t:=by
 cases k with
 |var hv=>rw[e]at hv⊢;exact .var hv
 |fn hn hl hk=>rw[e]at hn hl hk⊢;exact .fn hn hl hk
theorem Tc.zg {c:Nat} {t:Tm} (k:Tc cl rt c t):∀{u:Tm},Tc cl rt c u->t=u:=by
 induction k with
 |@var c hv=>
  intro u hu
  cases hu with
  |var _=>rfl
  |fn hn _ _=>exact absurd hv hn
 |@fn c ts hn hl _ ih=>
  intro u hu
  cases hu with
  |var hv=>exact absurd hv hn
  |@fn _ us _ sZ mS=>
   rw[Tm.mk.injEq]
   refine⟨rfl,rfl,List.ext_getElem? fun i=>?_⟩
   rcases Nat.lt_or_ge i ts.length with hi|hi
   ·have U:ts[i]?=some ts[i]:=List.getElem?_eq_getElem hi
    have h2:us[i]?=some us[i]:=List.getElem?_eq_getElem (by omega)
    have h3:(cl (rt c)).ks[i]?=some (cl (rt c)).ks[i]:=List.getElem?_eq_getElem (by omega)
    rw[U,h2,ih i _ _ h3 U (mS i _ _ h3 h2)]
   ·rw[List.getElem?_eq_none hi,List.getElem?_eq_none (by omega)]
end Go.Proofs.YtpfohmboflcneaaGreatDoor
end
section
namespace Go.Proofs.YtpfohmboflcneaaGreatDoor
open Go Go.AL Go.RowKit
set_option maxRecDepth 10000
set_option maxHeartbeats 4000000
abbrev Bi (b:Bool):IV:= .v (.bool b)
abbrev qw (l:Lt):List IV:=[Bi l.ng,Si l.pd,.sl 3 (aA l.xs)]
abbrev D6 (l:Lt):IV:= .pt (qw l)
abbrev ot (l:Lt):AV:= .agg [Bv l.ng,Sv l.pd,.im (.sl 3 (aA l.xs))]
def dv (c:List Lt):List (List IV):=c.map qw
abbrev cq (c:List Lt):AV:= .im (.sl 3 (dv c))
theorem bp (l:List Lt):(dv l).length=l.length:=by rw[dv,List.length_map]
theorem oq (l:List Lt) (k:Nat) (h:k<l.length):∃t,l[k]?=some t/\(dv l).getD k []=[Bi t.ng,Si t.pd,.sl 3 (aA t.xs)]:=by
 refine⟨l[k],List.getElem?_eq_getElem h,?_⟩
 rw[List.getD_eq_getElem?_getD,dv,List.getElem?_map,List.getElem?_eq_getElem h];rfl
theorem IU (l:List Lt) (w:Lt):dv (l++[w])=dv l++[qw w]:=by
 rw[dv,List.map_append];rfl
def py (l:Lt):Prop:=l.pd.length<=1000000000/\l.xs.length<=1000000000/\b_ l.xs
def je (c:List Lt):Prop:=c.length<=1000000000/\∀l∈c,py l
theorem sB {c:List Lt} {k:Nat} {l:Lt} (h:je c) (hk:c[k]?=some l):py l:=h.2 l (List.mem_of_getElem? hk)
def fe {α:Type} (p:α->α->Bool):List α->List α->Bool
 |[],[]=>true
 |a::l,b::m=>p a b&&fe p l m
 |_,_=>false
theorem Cf {α:Type} (p:α->α->Bool):∀(l m:List α),l.length≠m.length->fe p l m=false
 |[],[],h=>by simp at h
 |[],_::_,_=>rfl
 |_::_,[],_=>rfl
 |a::l,b::m,h=>by rw[fe,Cf p l m (by simpa using h),Bool.and_false]
theorem Fp {α:Type} (p:α->α->Bool) (l m:List α) (k:Nat) (t u:α) (ht:l[k]?=some t) (hu:m[k]?=some u):fe p (l.drop k) (m.drop k)=(p t u&&fe p (l.drop (k+1)) (m.drop (k+1))):=by
 obtain⟨U,e1⟩:=List.getElem?_eq_some_iff.1 ht
 obtain⟨h2,e2⟩:=List.getElem?_eq_some_iff.1 hu
 rw[List.drop_eq_getElem_cons U,List.drop_eq_getElem_cons h2,e1,e2,fe]
theorem F2:∀l m:List Tm,mO l m=fe dR l m
 |[],[]=>by rw[mO,fe]
 |[],_::_=>by rw[mO,fe]<;>simp
 |_::_,[]=>by rw[mO,fe]<;>simp
 |a::l,b::m=>by rw[mO,fe,F2 l m]
theorem L4 (t u:Tm):dR t u=((t.nm==u.nm&&t.ix==u.ix)&&fe dR t.xs u.xs):=by cases t;rw[dR,F2];rfl
theorem Bl (t v:Tm) (hs:aE t):aS Tryz.prog 39 [aP t,aP v] (Bv (dR t v)):=by
 have dD:=dN.1 hs
 have he:=L4 t v
 refine ai.walk [0,1,2,3,4,5,26,31,45] [] Tryz.func39 rfl Tryz.ntmps39 (by kernel_rfl) (by rfl) rfl fun W own I0 ao lay=>?_
 refine gE @aj ?_
 refine AP.cond rfl rfl (fun h=>?_) (fun h=>?_)
 ·have:dR t v=false:=by
   rw[he]
   by_cases hl:t.xs.length=v.xs.length
   ·have:(t.nm==v.nm&&t.ix==v.ix)=false:=by
     by_cases hA:t.nm=v.nm
     ·by_cases hB:t.ix=v.ix
      ·simp[hA,hB,hl]at h
      ·simp[hB]
     ·simp[hA]
    rw[this,Bool.false_and]
   ·rw[Cf dR _ _ hl,Bool.and_false]
  refine gO ?_
  exact AE.aG rfl ⟨rfl,trivial⟩ rfl ⟨rfl,by rw[this];rfl⟩
 have hA:t.nm=v.nm:=Classical.byContradiction fun hc=>by simp[hc]at h
 have hB:t.ix=v.ix:=Classical.byContradiction fun hc=>by simp[hc]at h
 have hl:t.xs.length=v.xs.length:=Classical.byContradiction fun hc=>by simp[hA,hB]at h;omega
 have he:dR t v=fe dR t.xs v.xs:=by rw[he,hA,hB];simp
 refine gO ?_
 refine AP.loop rfl (α:=Nat) (fun k=>[(2,.im (g_ t)),(3,.im (g_ v)),(5,Iv k)]) (fun _=>[]) (fun k=>k<=t.xs.length/\dR t v=fe dR (t.xs.drop k) (v.xs.drop k)) (fun k=>t.xs.length-k) 0 ⟨by omega,he⟩ (sU) rfl fun k ⟨hk,hm⟩=>?_
 rcases Nat.eq_or_lt_of_le hk with aC|ag
 ·rw[aC,List.drop_length,hl,List.drop_length,fe]at hm
  refine gE @aj ?_
  refine cF ?_
  refine gO ?_
  exact AE.aG rfl ⟨rfl,trivial⟩ rfl ⟨rfl,by rw[hm];rfl⟩
 ·obtain⟨u,hu,aH⟩:=dh t.xs k ag
  obtain⟨w,bT,dV⟩:=dh v.xs k (by omega)
  rw[Fp dR t.xs v.xs k u w hu bT]at hm
  have hw:=wr (x:=(k:Int)+1) (by omega)
  refine gE @aj ?_
  refine cT ?_
  refine gO ?_
  refine AP.bQ 12 (Tree.node [] [0,1,2,3,4,5,6,7,8,9] [10] [Tree.node [] [11] [] []]) (by kernel_rfl) rfl (by kernel_rfl) (by kernel_rfl) ?_
  refine bO ?_
  refine sE (an @aH (an @dV @aj)) ?_
  refine⟨by omega,by omega,?_⟩
  refine AQ.fn (by kernel_rfl) rfl rfl rfl (Bl u w (dc dD.2.2 hu)) rfl ?_
  refine sI ?_
  refine AQ.nx rfl ?_
  refine sI ?_
  refine AQ.done ?_
  refine gO ?_
  refine AP.cond rfl rfl (fun h5=>?_) (fun h5=>?_)
  ·have h5:dR u w=false:=by simpa using h5
   rw[h5,Bool.false_and]at hm
   refine gO ?_
   exact AE.aG rfl ⟨rfl,trivial⟩ rfl ⟨rfl,by rw[hm];rfl⟩
  ·have h5:dR u w=true:=by simpa using h5
   rw[h5,Bool.true_and]at hm
   refine gE @hw ?_
   exact AE.round (k+1) ⟨by omega,hm⟩ (by omega) (sU) rfl
termination_by SizeOf.sizeOf t
decreasing_by exact jW hu
theorem aba (t v:Lt):jU t v=((t.ng==v.ng&&t.pd==v.pd)&&fe dR t.xs v.xs):=by rw[jU,F2]
theorem L6 (f:FuncId) (p:Tm->Tm->Bool) (xs ys:List Tm) (hx:xs.length<=9223372036854775807) (h:∀(k:Nat) (t u:Tm),xs[k]?=some t->ys[k]?=some u->aS Tryz.prog f [aP t,aP u] (Bv (p t u))):
  aS Tryz.prog 163 [.im (.sl 3 (aA xs)),.im (.sl 3 (aA ys)),.fn f [] []] (Bv (fe p xs ys)):=by
 refine ai.walk [0,1,2,6,7,8,9,14,15,16,17,18,30] [8,9] Tryz.func163 rfl Tryz.ntmps163 (by kernel_rfl) (by rfl) rfl fun W own I0 ao lay=>?_
 refine gE @aj ?_
 refine AP.cond rfl rfl (fun U=>?_) (fun U=>?_)
 ·refine gO ?_
  exact AE.aG rfl ⟨rfl,trivial⟩ rfl ⟨rfl,by rw[Cf p xs ys (by simp at U;omega)];rfl⟩
 ·have U:xs.length=ys.length:=by simp at U;omega
  refine gE @aj ?_
  refine AP.loop rfl (α:=Nat) (fun k=>[(1,.im (.sl 3 (aA ys))),(2,.fn f [] []),(15,.im (.sl 3 (aA xs))),(16,Iv xs.length),(17,Iv k)]) (fun _=>[]) (fun k=>k<=xs.length/\fe p xs ys=fe p (xs.drop k) (ys.drop k)) (fun k=>xs.length-k) 0 ⟨by omega,rfl⟩ (sU) rfl fun k ⟨hk,hm⟩=>?_
  rcases Nat.eq_or_lt_of_le hk with aC|ag
  ·refine gO ?_
   refine cF ?_
   refine gO ?_
   exact AE.aG rfl ⟨rfl,trivial⟩ rfl ⟨rfl,by rw[hm,aC,List.drop_length,U,List.drop_length,fe];rfl⟩
  ·obtain⟨t,ht,aH⟩:=dh xs k ag
   obtain⟨u,hu,dV⟩:=dh ys k (by omega)
   have du:=Fp p xs ys k t u ht hu
   have hw:=wr (x:=(k:Int)+1) (by omega)
   refine gO ?_
   refine cT ?_
   refine gE @aH ?_
   refine⟨by rw[aj];omega,?_⟩
   refine gE @dV ?_
   refine⟨by rw[aj];omega,?_⟩
   refine gO ?_
   refine AQ.y6 [] (by kernel_rfl) rfl rfl rfl rfl rfl rfl (fun k=>by exact trivial) (fun k=>rfl) (fun k=>rfl) (h k t u ht hu) ?_
   refine gO ?_
   refine AP.cond rfl rfl (fun h2=>?_) (fun h2=>?_)
   ·refine gO ?_
    refine AE.a6 [1,0] rfl ⟨rfl,trivial⟩ rfl ⟨rfl,?_⟩
    rw[hm,du,show p t u=false by simpa using h2];rfl
   ·refine gE @hw ?_
    refine AE.gQ [1,0] rfl ?_
    refine sI ?_
    exact AE.round (k+1) ⟨by omega,by rw[hm,du,show p t u=true by simpa using h2,Bool.true_and]⟩ (by omega) (sU) rfl
theorem zk (t u:Tm) (hs:aE t):aS Tryz.prog 97 [aP t,aP u] (Bv (dR t u)):=by
 have dD:=dN.1 hs
 have hc:=L6 97 dR t.xs u.xs (by omega) fun k a b ha hb=>zk a b (dc dD.2.2 ha)
 refine ai.walk [0,1,2,3,4] [] Tryz.func97 rfl Tryz.ntmps97 (by kernel_rfl) (by rfl) rfl fun W own I0 ao lay=>?_
 refine gO ?_
 refine AQ.q_ (by kernel_rfl) rfl rfl (fun h=>by first|(simp[gs,AV.g];done)|(simp[gs,AV.g,cg];done)|(simp[gs,AV.g,cg,bw]at h⊢;done)|(simp[gs,AV.g,cg,bw]at h⊢;exact h)|(simp[gs,AV.g,cg,bw]at h⊢;simp[h];done)|(simp[bw]at h;done)|(simp[gs,AV.g,bw]at h⊢;simp[h];done)|(simp[gs,AV.g,bw]at h⊢;exact h.1)|(simp[gs,AV.g];rfl)|(simp[gs,AV.g,bw]at h⊢;rfl)|(simp[gs,AV.g,bw]at h⊢;simp[h];rfl)|(simp[gs,AV.g,bw]at h⊢;simp_all)) rfl (fun _=>hc) rfl ?_
 refine gO ?_
 exact AE.aG rfl ⟨rfl,trivial⟩ rfl ⟨rfl,by rw[L4];rfl⟩
termination_by SizeOf.sizeOf t
decreasing_by exact jW ha
theorem abb (t u:Lt) (hs:py t):aS Tryz.prog 89 [ot t,ot u] (Bv (jU t u)):=by
 have hx:=hs.2.1
 have hc:=L6 97 dR t.xs u.xs (by omega) fun k a b ha hb=>zk a b (dc hs.2.2 ha)
 refine ai.walk [0,1,2,3,4] [] Tryz.func89 rfl Tryz.ntmps89 (by kernel_rfl) (by rfl) rfl fun W own I0 ao lay=>?_
 refine gO ?_
 refine AQ.q_ (by kernel_rfl) rfl rfl (fun h=>by first|(simp[gs,AV.g];done)|(simp[gs,AV.g,cg];done)|(simp[gs,AV.g,cg,bw]at h⊢;done)|(simp[gs,AV.g,cg,bw]at h⊢;exact h)|(simp[gs,AV.g,cg,bw]at h⊢;simp[h];done)|(simp[bw]at h;done)|(simp[gs,AV.g,bw]at h⊢;simp[h];done)|(simp[gs,AV.g,bw]at h⊢;exact h.1)|(simp[gs,AV.g];rfl)|(simp[gs,AV.g,bw]at h⊢;rfl)|(simp[gs,AV.g,bw]at h⊢;simp[h];rfl)|(simp[gs,AV.g,bw]at h⊢;simp_all)) rfl (fun _=>hc) rfl ?_
 refine gO ?_
 exact AE.aG rfl ⟨rfl,trivial⟩ rfl ⟨rfl,by rw[aba];rfl⟩
mutual
def ja:Tm->Int->Int
 | .mk _ _ xs,m=>bq xs m 1
def bq:List Tm->Int->Int->Int
 |[],_,n=>n
 |t::l,m,n=>if m<n then n else bq l m (n+ja t (m-n))
end
theorem JM (t:Tm) (m:Int):ja t m=bq t.xs m 1:=by cases t;rw[ja];rfl
theorem Bx:∀(l:List Tm) (m n:Int),m<n->bq l m n=n
 |[],m,n,_=>by rw[bq]
 |t::l,m,n,h=>by rw[bq,if_pos h]
theorem v7:∀(l k:List Tm) (m n:Int),bq (l++k) m n=bq k m (bq l m n)
 |[],k,m,n=>by rw[List.nil_append,bq]
 |t::l,k,m,n=>by
  rw[List.cons_append,bq,bq]
  split
  ·rename_i h;rw[Bx k m n h]
  ·exact v7 l k m _
mutual
theorem tU:∀(t:Tm) (m:Int),0<=m->((wT t:Int)<=m->ja t m=wT t)/\(m<wT t->m<ja t m)/\1<=ja t m/\ja t m<=m+1
 | .mk _ _ xs,m,hm=>by
  have h:=Bw xs m 1 hm (by omega) (by omega)
  rw[ja,wT]
  exact⟨fun hh=>by rw[h.1 (by omega)];omega,fun hh=>h.2.1 (by omega),h.2.2.1,h.2.2.2⟩
theorem Bw:∀(l:List Tm) (m n:Int),0<=m->1<=n->n<=m+1->(n+(aD l:Int)<=m->bq l m n=n+aD l)/\(m<n+aD l->m<bq l m n)/\1<=bq l m n/\bq l m n<=m+1
 |[],m,n,hm,U,h2=>by
  rw[bq,aD]
  exact⟨fun _=>by omega,fun h=>by omega,U,h2⟩
 |t::l,m,n,hm,U,h2=>by
  rw[bq,aD]
  have hp:=qI t
  split
  ·rename_i h
   exact⟨fun hh=>by omega,fun _=>h,U,h2⟩
  ·rename_i h
   obtain⟨a1,a2,a3,a4⟩:=tU t (m-n) (by omega)
   obtain⟨b1,b2,b3,b4⟩:=Bw l m (n+ja t (m-n)) hm (by omega) (by omega)
   refine⟨fun hh=>?_,fun hh=>?_,b3,b4⟩
   ·rw[b1 (by rw[a1 (by omega)];omega),a1 (by omega)];omega
   ·by_cases hc:m-n<wT t
    ·have:=a2 hc
     rw[Bx l m _ (by omega)];omega
    ·exact b2 (by rw[a1 (by omega)];omega)
end
def rU (c:List Lt) (m:Int):Int:=bq (c.flatMap (·.xs)) m c.length
theorem yK:∀l k:List Tm,aD (l++k)=aD l+aD k
 |[],k=>by rw[List.nil_append,aD];omega
 |t::l,k=>by rw[List.cons_append,aD,aD,yK l k];omega
theorem I9:∀c:List Lt,cO c=c.length+aD (c.flatMap (·.xs))
 |[]=>by rw[List.flatMap_nil,aD];rfl
 |l::c=>by rw[pD,List.flatMap_cons,yK,List.length_cons,I9 c];omega
theorem PX (c:List Lt) (m:Int) (hm:0<=m):((cO c:Int)<=m->rU c m=cO c)/\(m<cO c->m<rU c m):=by
 rw[rU,I9]
 by_cases h:m<c.length
 ·rw[Bx _ _ _ h]
  exact⟨fun hh=>by omega,fun _=>h⟩
 ·by_cases h0:c.length=0
  ·rw[List.length_eq_zero_iff.1 h0,List.flatMap_nil,bq,aD]
   exact⟨fun _=>rfl,fun hh=>by simpa using hh⟩
  ·obtain⟨a,b,_⟩:=Bw (c.flatMap (·.xs)) m c.length hm (by omega) (by omega)
   exact⟨fun hh=>by rw[a (by omega)];omega,fun hh=>b (by omega)⟩
theorem EU {l:List Tm} {k:Nat} {u:Tm} (h:l[k]?=some u) (m n:Int):bq (l.take (k+1)) m n=if m<bq (l.take k) m n then bq (l.take k) m n else bq (l.take k) m n+ja u (m-bq (l.take k) m n):=by
 rw[dE h,v7,bq]
 split
 ·rfl
 ·rw[bq]
theorem JN {l:List Tm} (k:Nat) (m n:Int) (h:m<bq (l.take k) m n):bq l m n=bq (l.take k) m n:=by
 conv=>lhs;rw[<-List.take_append_drop k l,v7]
 exact Bx _ _ _ h
theorem Bu:∀(l:List Tm) (m n:Int),0<=m->0<=n->n<=bq l m n/\(bq l m n<=n\/bq l m n<=m+1)
 |[],m,n,_,_=>by rw[bq];omega
 |t::l,m,n,hm,h=>by
  rw[bq]
  split
  ·omega
  ·have ha:=tU t (m-n) (by omega)
   have hb:=Bu l m (n+ja t (m-n)) hm (by omega)
   omega
theorem Mi {c:List Lt} {k:Nat} {u:Lt} (h:c[k]?=some u):(c.take (k+1)).flatMap (·.xs)=(c.take k).flatMap (·.xs)++u.xs:=by
 rw[dE h,List.flatMap_append];simp
theorem Va {c:List Lt} {k j:Nat} {u:Lt} (h:c[k]?=some u) (m n:Int) (hn:m<bq (u.xs.take j) m (bq ((c.take k).flatMap (·.xs)) m n)):
  bq (c.flatMap (·.xs)) m n=bq (u.xs.take j) m (bq ((c.take k).flatMap (·.xs)) m n):=by
 have e:c.flatMap (·.xs)=(c.take k).flatMap (·.xs)++(u.xs.take j++(u.xs.drop j++(c.drop (k+1)).flatMap (·.xs))):=by
  have U:c=c.take k++(u::c.drop (k+1)):=by
   obtain⟨U,h2⟩:=List.getElem?_eq_some_iff.1 h
   rw[<-h2,<-List.drop_eq_getElem_cons U,List.take_append_drop]
  conv=>lhs;rw[U]
  rw[List.flatMap_append,List.flatMap_cons,<-List.append_assoc (u.xs.take j),List.take_append_drop]
 rw[e,v7,v7]
 exact Bx _ _ _ hn
def fk {α:Type} (p:α->Bool):List α->Nat->Int
 |[],_=>-1
 |a::l,i=>if p a then i else fk p l (i+1)
theorem DP {α:Type} (p:α->Bool):∀(l:List α) (i:Nat),decide (0<=fk p l i)=l.any p
 |[],i=>by rw[fk];rfl
 |a::l,i=>by
  rw[fk,List.any_cons]
  by_cases h:p a=true
  ·rw[if_pos h,h,Bool.true_or];exact decide_eq_true (by omega)
  ·rw[if_neg h,DP p l (i+1),show p a=false by simpa using h,Bool.false_or]
theorem DQ {α:Type} (p:α->Bool) {l:List α} {k:Nat} {u:α} (h:l[k]?=some u):fk p (l.drop k) k=if p u then(k:Int)else fk p (l.drop (k+1)) (k+1):=by
 obtain⟨U,h2⟩:=List.getElem?_eq_some_iff.1 h
 rw[List.drop_eq_getElem_cons U,h2,fk]
mutual
def jR:Tm->Bool
 | .mk n _ xs=>decide (100<n.length)||xU xs
def xU:List Tm->Bool
 |[]=>false
 |t::l=>jR t||xU l
end
theorem IE:∀l,xU l=l.any jR
 |[]=>rfl
 |t::l=>by rw[xU,IE l,List.any_cons]
theorem Zf (t:Tm):jR t=(decide (100<t.nm.length)||t.xs.any jR):=by cases t;rw[jR,IE];rfl
def kQ (l:Lt):Bool:=decide (100<l.pd.length)||l.xs.any jR
abbrev gD:aa:=[(0,.var 116 [.fn 67 [] [.ob 0 0]])]
abbrev Uv (c:UInt8):AV:= .im (.v (.int .u8 c.toNat))
theorem OO (c:UInt8) (b:Bool):kH c b=((decide ((97:Int)<=c.toNat)&&decide ((c.toNat:Int)<=122)||decide ((65:Int)<=c.toNat)&&decide ((c.toNat:Int)<=90))||(!b&&((decide ((48:Int)<=c.toNat)&&decide ((c.toNat:Int)<=57)||decide ((c.toNat:Int)=95))||decide ((c.toNat:Int)=39)))):=by
 have U:(c==95)=decide ((c.toNat:Int)=95):=by
  rw[Bool.eq_iff_iff,beq_iff_eq,decide_eq_true_iff,<-UInt8.toNat_inj];show c.toNat=95↔_;omega
 have h2:(c==39)=decide ((c.toNat:Int)=39):=by
  rw[Bool.eq_iff_iff,beq_iff_eq,decide_eq_true_iff,<-UInt8.toNat_inj];show c.toNat=39↔_;omega
 have e:∀a d:Nat,decide (a<=d)=decide ((a:Int)<=(d:Int)):=fun a d=>by rw[decide_eq_decide];omega
 rw[kH,U,h2,e,e,e,e,e,e];rfl
theorem OP (c:UInt8) (b:Bool):aS Tryz.prog 148 [Uv c,Bv b] (Bv (kH c b)):=by
 refine ai.walk [0,1,4,5] [] Tryz.func148 rfl Tryz.ntmps148 (by kernel_rfl) (by rfl) rfl fun W own I0 ao lay=>?_
 refine gO ?_
 exact AE.aG rfl ⟨rfl,trivial⟩ rfl ⟨rfl,by rw[OO];rfl⟩
theorem P1 {t:List UInt8} {k:Nat} (h:k<t.length) (b:Bool):qy b (t.drop k)=(kH (t.getD k 0) b&&qy false (t.drop (k+1))):=by
 rw[List.drop_eq_getElem_cons h,qy,List.getD_eq_getElem?_getD,List.getElem?_eq_getElem h];rfl
theorem P2 {t:List UInt8} (h:¬(t=[]\/60<t.length)):fq t=qy true t:=by
 have U:t≠[]:=fun e=>h (.inl e)
 have h2:t.length<=60:=by have:=fun e=>h (.inr e);omega
 rw[fq,decide_eq_true U,decide_eq_true h2];rfl
theorem P4 {t:List UInt8} (h:t=[]\/60<t.length):fq t=false:=by
 rw[fq]
 rcases h with rfl|h
 ·rfl
 ·rw[show decide (t.length<=60)=false from decide_eq_false (by omega),Bool.and_false];rfl
theorem OX (t:List UInt8) (ht:t.length<=9223372036854775807):aS Tryz.prog 72 [Sv t] (Bv (fq t)):=by
 refine ai.walk [0,2,3,10,12,13,14,22] [] Tryz.func72 rfl Tryz.ntmps72 (by kernel_rfl) (by rfl) rfl fun W own I0 ao lay=>?_
 refine gO ?_
 refine AP.cond rfl rfl (fun h=>?_) (fun h=>?_)
 ·have h:t=[]\/60<t.length:=by
   simp at h;rcases h with h|h
   ·exact .inl h
   ·exact .inr (by omega)
  refine gO ?_
  exact AE.aG rfl ⟨rfl,trivial⟩ rfl ⟨rfl,by rw[P4 h];rfl⟩
 ·have h:¬(t=[]\/60<t.length):=by
   intro h';simp at h;rcases h' with h'|h'
   ·exact h.1 h'
   ·omega
  have iU:=P2 h
  refine gO ?_
  refine AP.loop rfl (α:=Nat) (fun k=>[(0,Sv t),(12,Iv t.length),(13,Iv k)]) (fun _=>[]) (fun k=>k<=t.length/\fq t=qy (decide (k=0)) (t.drop k)) (fun k=>t.length-k) 0 ⟨by omega,iU⟩ (sU) rfl fun k ⟨hk,hm⟩=>?_
  rcases Nat.eq_or_lt_of_le hk with aC|ag
  ·refine gO ?_
   refine cF ?_
   refine gO ?_
   exact AE.aG rfl ⟨rfl,trivial⟩ rfl ⟨rfl,by rw[hm,aC,List.drop_length,qy];rfl⟩
  ·have hw:=wr (x:=(k:Int)+1) (by omega)
   have du:=P1 ag (decide (k=0))
   refine gO ?_
   refine cT ?_
   refine gO ?_
   refine AQ.fn (by kernel_rfl) rfl rfl rfl (OP (t.getD k 0) (decide ((k:Int)=0))) rfl ?_
   refine sI ?_
   refine gO ?_
   have hd:decide (k=0)=decide ((k:Int)=0):=by rw[decide_eq_decide];omega
   rw[hd]at du
   refine AP.cond rfl rfl (fun U=>?_) (fun U=>?_)
   ·refine gO ?_
    exact AE.aG rfl ⟨rfl,trivial⟩ rfl ⟨rfl,by rw[hm,hd,du,show kH (t.getD k 0) (decide ((k:Int)=0))=false by simpa using U];rfl⟩
   ·refine gE @hw ?_
    refine AE.round (k+1) ⟨by omega,?_⟩ (by omega) (sU) rfl
    rw[hm,hd,du,show kH (t.getD k 0) (decide ((k:Int)=0))=true by simpa using U];rfl
theorem Zd (c:UInt8) (b:Bool):aS Tryz.prog 151 [Uv c,Bv b] (Bv (kH c b)):=by
 refine ai.walk [0,1,4] [] Tryz.func151 rfl Tryz.ntmps151 (by kernel_rfl) (by rfl) rfl fun W own I0 ao lay=>?_
 refine gO ?_
 refine AE.aG rfl ⟨rfl,trivial⟩ rfl ⟨rfl,?_⟩
 rw[OO,Bool.or_comm (decide ((97:Int)<=c.toNat)&&decide ((c.toNat:Int)<=122))];rfl
theorem OW (t:List UInt8) (ht:t.length<=9223372036854775807):aS Tryz.prog 77 [Sv t] (Bv (fq t)):=by
 refine ai.walk [0,2,3,11,15,24] [] Tryz.func77 rfl Tryz.ntmps77 (by kernel_rfl) (by rfl) rfl fun W own I0 ao lay=>?_
 refine gO ?_
 refine AP.cond rfl rfl (fun h=>?_) (fun h=>?_)
 ·have h:t=[]\/60<t.length:=by
   simp at h;rcases h with h|h
   ·exact .inl (List.length_eq_zero_iff.1 (by omega))
   ·exact .inr (by omega)
  refine gO ?_
  exact AE.aG rfl ⟨rfl,trivial⟩ rfl ⟨rfl,by rw[P4 h];rfl⟩
 ·have h:¬(t=[]\/60<t.length):=by
   intro h';simp at h;rcases h' with h'|h'
   ·rw[h']at h;simp at h
   ·omega
  have iU:=P2 h
  refine gO ?_
  refine AP.loop rfl (α:=Nat) (fun k=>[(0,Sv t),(3,Iv k)]) (fun _=>[]) (fun k=>k<=t.length/\fq t=qy (decide (k=0)) (t.drop k)) (fun k=>t.length-k) 0 ⟨by omega,iU⟩ (sU) rfl fun k ⟨hk,hm⟩=>?_
  rcases Nat.eq_or_lt_of_le hk with aC|ag
  ·refine gO ?_
   refine cF ?_
   refine gO ?_
   exact AE.aG rfl ⟨rfl,trivial⟩ rfl ⟨rfl,by rw[hm,aC,List.drop_length,qy];rfl⟩
  ·have hw:=wr (x:=(k:Int)+1) (by omega)
   have du:=P1 ag (decide (k=0))
   refine gO ?_
   refine cT ?_
   refine gO ?_
   refine AQ.fn (by kernel_rfl) rfl rfl rfl (Zd (t.getD k 0) (decide ((k:Int)=0))) rfl ?_
   refine sI ?_
   refine gO ?_
   have hd:decide (k=0)=decide ((k:Int)=0):=by rw[decide_eq_decide];omega
   rw[hd]at du
   refine AP.cond rfl rfl (fun U=>?_) (fun U=>?_)
   ·refine gO ?_
    exact AE.aG rfl ⟨rfl,trivial⟩ rfl ⟨rfl,by rw[hm,hd,du,show kH (t.getD k 0) (decide ((k:Int)=0))=false by simpa using U];rfl⟩
   ·refine gE @hw ?_
    refine AE.round (k+1) ⟨by omega,?_⟩ (by omega) (sU) rfl
    rw[hm,hd,du,show kH (t.getD k 0) (decide ((k:Int)=0))=true by simpa using U];rfl
theorem Mu (t:Tm) (hs:aE t):aS Tryz.prog 74 [aP t] (Iv (eP 2 3 t)):=by
 have dD:=dN.1 hs
 refine ai.walk [0,1,2,3,10,18,19] [] Tryz.func74 rfl Tryz.ntmps74 (by kernel_rfl) (by rfl) rfl fun W own I0 ao lay=>?_
 refine gO ?_
 refine AP.cond rfl rfl (fun h=>?_) (fun h=>?_)
 ·have hn:t.nm=[]:=by simpa using h
  refine gE @aj ?_
  refine AP.cond rfl rfl (fun U=>?_) (fun U=>?_)
  ·refine gO ?_
   exact AE.aG rfl ⟨rfl,trivial⟩ rfl ⟨rfl,by rw[eP,if_pos hn,if_pos (show t.xs≠[] by intro e;rw[e]at U;simp at U)];rfl⟩
  ·have hx:¬t.xs≠[]:=by simpa using U
   refine gO ?_
   refine AP.cond rfl rfl (fun h2=>?_) (fun h2=>?_)
   ·refine gO ?_
    exact AE.aG rfl ⟨rfl,trivial⟩ rfl ⟨rfl,by rw[eP,if_pos hn,if_neg hx,if_pos (by simpa using h2)];rfl⟩
   ·refine gO ?_
    exact AE.aG rfl ⟨rfl,trivial⟩ rfl ⟨rfl,by rw[eP,if_pos hn,if_neg hx,if_neg (by simpa using h2)];rfl⟩
 ·have hn:¬t.nm=[]:=by simpa using h
  refine gO ?_
  refine AQ.fn (by kernel_rfl) rfl rfl rfl (OX t.nm (by omega)) rfl ?_
  refine sI ?_
  refine gO ?_
  refine AP.cond rfl rfl (fun U=>?_) (fun U=>?_)
  ·refine gO ?_
   exact AE.aG rfl ⟨rfl,trivial⟩ rfl ⟨rfl,by rw[eP,if_neg hn,if_pos (by simpa using U)];rfl⟩
  ·refine gO ?_
   exact AE.aG rfl ⟨rfl,trivial⟩ rfl ⟨rfl,by rw[eP,if_neg hn,if_neg (by simpa using U)];rfl⟩
mutual
def lS:Tm->Int->Int×Int->Int×Int
 | .mk _ _ xs,k,s=>ez xs (k+1) (s.1+1,max s.2 k)
def ez:List Tm->Int->Int×Int->Int×Int
 |[],_,s=>s
 |t::l,k,s=>if 4000<s.1 then s else ez l k (lS t k s)
end
theorem RM (t:Tm) (k:Int) (s:Int×Int):lS t k s=ez t.xs (k+1) (s.1+1,max s.2 k):=by cases t;rw[lS];rfl
theorem RO:∀(l:List Tm) (k:Int) (s:Int×Int),4000<s.1->ez l k s=s
 |[],_,_,_=>by rw[ez]
 |t::l,k,s,h=>by rw[ez,if_pos h]
theorem JK:∀(l m:List Tm) (k:Int) (s:Int×Int),ez (l++m) k s=ez m k (ez l k s)
 |[],m,k,s=>by rw[List.nil_append,ez]
 |t::l,m,k,s=>by
  rw[List.cons_append,ez,ez]
  split
  ·rename_i h;rw[RO m k s h]
  ·exact JK l m k _
mutual
theorem Bo:∀(t:Tm) (k n d:Int),n+wT t<=4000->lS t k (n,d)=(n+wT t,max d (k-1+cL t))
 | .mk _ _ xs,k,n,d,h=>by
  rw[wT]at h
  rw[lS,wT,cL]
  simp only
  rw[RN xs (k+1) (n+1) (max d k) (by omega) (by omega),Prod.mk.injEq]
  omega
theorem RN:∀(l:List Tm) (k n d:Int),k-1<=d->n+aD l<=4000->ez l k (n,d)=(n+aD l,max d (k-1+dK l))
 |[],k,n,d,hd,_=>by rw[ez,aD,dK,Prod.mk.injEq];omega
 |t::l,k,n,d,hd,h=>by
  rw[aD]at h
  rw[ez,if_neg (by simp only;omega),Bo t k n d (by omega),RN l k _ _ (by omega) (by omega),aD,dK,Prod.mk.injEq]
  omega
end
mutual
theorem RJ:∀(t:Tm) (k n d:Int),n+1<=(lS t k (n,d)).1/\(lS t k (n,d)).1<=max (n+1) 4001/\(4000<n+wT t->4000<(lS t k (n,d)).1)
 | .mk _ _ xs,k,n,d=>by
  have h:=JJ xs (k+1) (n+1) (max d k)
  rw[lS,wT]
  simp only
  omega
theorem JJ:∀(l:List Tm) (k n d:Int),n<=(ez l k (n,d)).1/\(ez l k (n,d)).1<=max n 4001/\(4000<n+aD l->4000<(ez l k (n,d)).1)
 |[],k,n,d=>by rw[ez,aD];simp only;omega
 |t::l,k,n,d=>by
  rw[ez]
  by_cases h:4000<(n,d).1
  ·rw[if_pos h];simp only at h⊢;omega
  ·rw[if_neg h,aD]
   simp only at h
   have U:=RJ t k n d
   obtain⟨n1,d1,he⟩:∃n1 d1,lS t k (n,d)=(n1,d1):=⟨_,_,rfl⟩
   have h2:=JJ l k n1 d1
   rw[he]
   have h3:n+wT t<=4000->n1=n+wT t:=fun hh=>by
    have:=Bo t k n d hh
    rw[he,Prod.mk.injEq]at this;exact this.1
   rw[he]at U
   simp only at U
   by_cases hc:n+wT t<=4000
   ·have:=h3 hc;omega
   ·omega
end
theorem abt {l:List Tm} {k:Nat} {u:Tm} (h:l[k]?=some u) (m:Int) (s:Int×Int):ez (l.take (k+1)) m s=if 4000<(ez (l.take k) m s).1 then ez (l.take k) m s else lS u m (ez (l.take k) m s):=by
 rw[dE h,JK,ez]
 split
 ·rfl
 ·rw[ez]
theorem abr {l:List Tm} (k:Nat) (m:Int) (s:Int×Int) (h:4000<(ez (l.take k) m s).1):ez l m s=ez (l.take k) m s:=by
 conv=>lhs;rw[<-List.take_append_drop k l,JK]
 exact RO _ _ _ h
abbrev se (s:Int×Int):aa:=[(0,.var 164 [Iv s.1,Iv s.2])]
theorem Rx (t:Tm) (k n d:Int) (hs:aE t) (hn:0<=n/\n<=1000000000000) (hk:0<=k/\k<=n+1):
  ai Tryz.prog 147 [.ob 0 0,aP t,Iv k] (se (n,d)) (fun r H'=>r= .aI []/\H'=se (lS t k (n,d))):=by
 have dD:=dN.1 hs
 have hx:=dD.2.1
 have HS:=wr (x:=n+1) (by omega)
 have mq:=wr (x:=k+1) (by omega)
 refine ai.walk [0,1,2,4,7,25,26,27,28,35] [7] Tryz.func147 rfl Tryz.ntmps147 (by kernel_rfl) (by rfl) rfl fun W own I0 ao lay=>?_
 refine gE (an @HS @aj) ?_
 refine AP.loop rfl (α:=Nat) (fun j=>[(0,.ob 0 0),(2,Iv k),(25,.im (.sl 3 (aA t.xs))),(26,Iv t.xs.length),(27,Iv j)]) (fun j=>se (ez (t.xs.take j) (k+1) (n+1,max d k))) (fun j=>j<=t.xs.length) (fun j=>t.xs.length-j) 0 (by omega) (sU) (by rw[List.take_zero,ez,show max d k=if d<k then k else d from by split<;>omega];rfl) fun j hj=>?_
 have hb:=JJ (t.xs.take j) (k+1) (n+1) (max d k)
 rcases Nat.eq_or_lt_of_le hj with iS|ag
 ·subst iS
  rw[List.take_length]
  refine gO ?_
  refine cF ?_
  refine gO ?_
  exact AE.kf rfl trivial ⟨rfl,by rw[RM]⟩
 ·obtain⟨u,hu,aH⟩:=dh t.xs j ag
  have hw:=wr (x:=(j:Int)+1) (by omega)
  have bl:=abt hu (k+1) (n+1,max d k)
  have rL:=fun h=>abr (l:=t.xs) j (k+1) (n+1,max d k) h
  obtain⟨n1,d1,he⟩:∃n1 d1,ez (t.xs.take j) (k+1) (n+1,max d k)=(n1,d1):=⟨_,_,rfl⟩
  rw[he]at hb bl rL⊢
  simp only at hb bl rL
  simp only[go_sem,Nat.reduceAdd,Nat.reduceLeDiff,Nat.reduceSub,Int.reduceToNat,reduceCtorEq,se]
  refine gO ?_
  refine cT ?_
  refine gE @aH ?_
  refine⟨by rw[aj];omega,?_⟩
  refine gO ?_
  refine AP.cond rfl rfl (fun U=>?_) (fun U=>?_)
  ·have U:4000<n1:=by simpa using U
   refine gO ?_
   refine AE.gQ [1] rfl ?_
   refine sI ?_
   exact AE.ret rfl ⟨⟩ ⟨rfl,by rw[RM,rL U]⟩
  ·have U:¬4000<n1:=by simpa using U
   rw[if_neg U]at bl
   refine gE @mq ?_
   refine AQ.bW [(0,0)] (by kernel_rfl) rfl rfl rfl rfl rfl rfl (by exact⟨rfl,trivial⟩) rfl (Rx u (k+1) n1 d1 (dc dD.2.2 hu) (by omega) (by omega)) ?_
   rintro r H' ⟨rfl,rfl⟩
   refine⟨rfl,?_⟩
   simp only[go_sem,Nat.reduceAdd,Nat.reduceLeDiff,Nat.reduceSub,Int.reduceToNat,reduceCtorEq,se,dC,fo,cu,fV]
   refine gE @hw ?_
   refine AE.gQ [1] rfl ?_
   refine sI ?_
   exact AE.round (j+1) (by omega) (by omega) (sU) (by rw[bl])
termination_by SizeOf.sizeOf t
decreasing_by exact jW hu
def fm:List Tm->Int×Int->Int×Int
 |[],s=>s
 |t::l,s=>fm l (lS t 1 s)
def fJ:List Lt->Int×Int->Int×Int
 |[],s=>s
 |l::c,s=>fJ c (fm l.xs (s.1+1,s.2))
theorem Pq:∀(l m:List Tm) (s:Int×Int),fm (l++m) s=fm m (fm l s)
 |[],m,s=>rfl
 |t::l,m,s=>by rw[List.cons_append,fm,fm,Pq l m]
theorem Pm:∀(c e:List Lt) (s:Int×Int),fJ (c++e) s=fJ e (fJ c s)
 |[],e,s=>rfl
 |l::c,e,s=>by rw[List.cons_append,fJ,fJ,Pm c e]
theorem Pp:∀(l:List Tm) (n d:Int),0<=d->n+aD l<=4000->fm l (n,d)=(n+aD l,max d (dK l))
 |[],n,d,h,_=>by rw[fm,aD,dK,Prod.mk.injEq];omega
 |t::l,n,d,hd,h=>by
  rw[aD]at h
  rw[fm,Bo t 1 n d (by omega),Pp l _ _ (by omega) (by omega),aD,dK,Prod.mk.injEq];omega
theorem D4:∀(l:List Tm) (n d:Int),n<=(fm l (n,d)).1/\(fm l (n,d)).1<=max n 4000+l.length/\(4000<n+aD l->4000<(fm l (n,d)).1)
 |[],n,d=>by rw[fm,aD];simp only[List.length_nil];omega
 |t::l,n,d=>by
  have U:=RJ t 1 n d
  obtain⟨n1,d1,he⟩:∃n1 d1,lS t 1 (n,d)=(n1,d1):=⟨_,_,rfl⟩
  have h2:=D4 l n1 d1
  have h3:n+wT t<=4000->n1=n+wT t:=fun hh=>by
   have:=Bo t 1 n d hh
   rw[he,Prod.mk.injEq]at this;exact this.1
  rw[he]at U
  simp only at U
  rw[fm,he,aD,List.length_cons]
  by_cases hc:n+wT t<=4000
  ·have:=h3 hc;omega
  ·omega
theorem Pl:∀(c:List Lt) (n d:Int),0<=d->n+cO c<=4000->fJ c (n,d)=(n+cO c,max d (gv c))
 |[],n,d,h,_=>by rw[fJ,gv,Prod.mk.injEq];simp only[cO,List.map_nil,List.sum_nil];omega
 |l::c,n,d,hd,h=>by
  rw[pD]at h
  rw[fJ]
  simp only
  rw[Pp l.xs (n+1) d hd (by omega),Pl c _ _ (by omega) (by omega),pD,gv,Prod.mk.injEq];omega
theorem Po:∀(l:List Tm) (n d:Int),n+aD l<=4000->(fm l (n,d)).1=n+aD l
 |[],n,d,_=>by rw[fm,aD];simp
 |t::l,n,d,h=>by
  rw[aD]at h
  rw[fm,Bo t 1 n d (by omega),Po l _ _ (by omega),aD];omega
theorem IS:∀(c:List Lt) (n d:Int),n<=(fJ c (n,d)).1/\(4000<n+cO c->4000<(fJ c (n,d)).1)
 |[],n,d=>by rw[fJ];simp only[cO,List.map_nil,List.sum_nil];omega
 |l::c,n,d=>by
  have U:=D4 l.xs (n+1) d
  have h3:=Po l.xs (n+1) d
  obtain⟨n1,d1,he⟩:∃n1 d1,fm l.xs (n+1,d)=(n1,d1):=⟨_,_,rfl⟩
  have h2:=IS c n1 d1
  rw[he]at U h3
  simp only at U h3
  rw[fJ]
  simp only
  rw[he,pD]
  by_cases hc:n+1+aD l.xs<=4000
  ·have:=h3 hc;omega
  ·omega
theorem Pn:∀(c:List Lt) (n d:Int),(∀l∈c,l.xs.length<=1000000000)->(fJ c (n,d)).1<=max n 4000+c.length*1000000001
 |[],n,d,_=>by rw[fJ];simp only[List.length_nil];omega
 |l::c,n,d,h=>by
  have U:=D4 l.xs (n+1) d
  obtain⟨n1,d1,he⟩:∃n1 d1,fm l.xs (n+1,d)=(n1,d1):=⟨_,_,rfl⟩
  have h2:=Pn c n1 d1 fun m hm=>h m (by simp[hm])
  have h3:=h l (by simp)
  rw[he]at U
  simp only at U
  rw[fJ]
  simp only
  rw[he,List.length_cons]
  omega
def pv (c:List Lt):Int:=if 40<c.length then 4 else if 4000<cO c then 4 else if 100<gv c then 9 else 0
theorem Zg (c:List Lt) (h:¬40<c.length):pv c=if 4000<(fJ c (0,0)).1 then 4 else if 100<(fJ c (0,0)).2 then 9 else 0:=by
 rw[pv,if_neg h]
 by_cases hc:4000<cO c
 ·rw[if_pos hc,if_pos ((IS c 0 0).2 (by omega))]
 ·have:=Pl c 0 0 (by omega) (by omega)
  rw[if_neg hc,this]
  simp only
  by_cases hd:100<gv c
  ·rw[if_pos hd,if_neg (show¬(4000:Int)<0+(cO c:Int) by omega),if_pos (show(100:Int)<max 0 (gv c:Int) by omega)]
  ·rw[if_neg hd,if_neg (show¬(4000:Int)<0+(cO c:Int) by omega),if_neg (show¬(100:Int)<max 0 (gv c:Int) by omega)]
theorem Zp {l:List Tm} {k:Nat} {u:Tm} (h:l[k]?=some u) (s:Int×Int):fm (l.take (k+1)) s=lS u 1 (fm (l.take k) s):=by
 rw[dE h,Pq];rfl
theorem Zo {c:List Lt} {k:Nat} {u:Lt} (h:c[k]?=some u) (s:Int×Int):fJ (c.take (k+1)) s=fm u.xs ((fJ (c.take k) s).1+1,(fJ (c.take k) s).2):=by
 rw[dE h,Pm];rfl
theorem Zi (c:List Lt) (hs:je c):aS Tryz.prog 71 [cq c] (Iv (pv c)):=by
 refine ai.walk [0,2,3,5,7,10,13,14,15,16,27,28,29,30,42,47] [5,7,12] Tryz.func71 rfl Tryz.ntmps71 (by kernel_rfl) (by rfl) rfl fun W own I0 ao lay=>?_
 refine gE @bp ?_
 refine AP.cond rfl rfl (fun h=>?_) (fun h=>?_)
 ·have h:40<c.length:=by simp at h;omega
  refine gO ?_
  exact AE.aG rfl ⟨rfl,trivial⟩ rfl ⟨rfl,by rw[pv,if_pos h];rfl⟩
 have h:¬40<c.length:=by simp at h;omega
 have en:=Zg c h
 refine gE @bp ?_
 refine AP.loop rfl (α:=Nat) (fun k=>[(3,.ob 0 0),(13,cq c),(14,Iv c.length),(15,Iv k)]) (fun k=>se (fJ (c.take k) (0,0))) (fun k=>k<=c.length) (fun k=>c.length-k) 0 (by omega) (sU) (by rw[List.take_zero,fJ];rfl) fun k hk=>?_
 rcases Nat.eq_or_lt_of_le hk with aC|ag
 ·subst aC
  rw[List.take_length]
  refine gO ?_
  refine cF ?_
  obtain⟨n1,d1,he⟩:∃n1 d1,fJ c (0,0)=(n1,d1):=⟨_,_,rfl⟩
  rw[he]at en⊢
  simp only at en
  simp only[go_sem,Nat.reduceAdd,Nat.reduceLeDiff,Nat.reduceSub,Int.reduceToNat,reduceCtorEq,se]
  refine gO ?_
  refine AP.cond rfl rfl (fun U=>?_) (fun U=>?_)
  ·rw[if_pos (by simpa using U)]at en
   refine gO ?_
   exact AE.a6 [0] rfl ⟨rfl,trivial⟩ rfl ⟨rfl,by rw[en];rfl⟩
  ·rw[if_neg (by simpa using U)]at en
   refine gO ?_
   refine AP.cond rfl rfl (fun h2=>?_) (fun h2=>?_)
   ·rw[if_pos (by simpa using h2)]at en
    refine gO ?_
    exact AE.a6 [0] rfl ⟨rfl,trivial⟩ rfl ⟨rfl,by rw[en];rfl⟩
   ·rw[if_neg (by simpa using h2)]at en
    refine gO ?_
    exact AE.a6 [0] rfl ⟨rfl,trivial⟩ rfl ⟨rfl,by rw[en];rfl⟩
 ·obtain⟨u,hu,aH⟩:=oq c k ag
  have hw:=wr (x:=(k:Int)+1) (by omega)
  have cS:=sB hs hu
  have xp:=cS.2.1
  have gz:=(IS (c.take k) 0 0).1
  have Oi:=Pn (c.take k) 0 0 fun l hl=>(hs.2 l (List.mem_of_mem_take hl)).2.1
  have fi:(c.take k).length<=40:=by rw[List.length_take];omega
  have bl:=Zo hu (0,0)
  obtain⟨n1,d1,he⟩:∃n1 d1,fJ (c.take k) (0,0)=(n1,d1):=⟨_,_,rfl⟩
  rw[he]at gz Oi bl⊢
  simp only at gz Oi bl
  have bT:=wr (x:=n1+1) (by omega)
  simp only[go_sem,Nat.reduceAdd,Nat.reduceLeDiff,Nat.reduceSub,Int.reduceToNat,reduceCtorEq,se]
  refine gO ?_
  refine cT ?_
  refine gE @aH ?_
  refine⟨by rw[bp];omega,?_⟩
  refine gE (an @bT @aj) ?_
  refine AP.loop rfl (α:=Nat) (fun j=>[(3,.ob 0 0),(13,cq c),(14,Iv c.length),(15,Iv k),(27,.im (.sl 3 (aA u.xs))),(28,Iv u.xs.length),(29,Iv j)]) (fun j=>[(1,.var 119 [Bv u.ng,Sv u.pd,.im (.sl 3 (aA u.xs))]),(0,.var 164 [Iv (fm (u.xs.take j) (n1+1,d1)).1,Iv (fm (u.xs.take j) (n1+1,d1)).2])]) (fun j=>j<=u.xs.length) (fun j=>u.xs.length-j) 0 (by omega) (sU) (by rw[List.take_zero,fm];rfl) fun j hj=>?_
  rcases Nat.eq_or_lt_of_le hj with iS|mR
  ·subst iS
   rw[List.take_length]
   refine gO ?_
   refine cF ?_
   refine gE @hw ?_
   refine AE.gQ [1] rfl ?_
   refine sI ?_
   exact AE.round (k+1) (by omega) (by omega) (sU) (by rw[bl])
  ·obtain⟨v,hv,dV⟩:=dh u.xs j mR
   have gi:=wr (x:=(j:Int)+1) (by omega)
   have pa:=Zp hv (n1+1,d1)
   have iw:=D4 (u.xs.take j) (n1+1) d1
   have aed:(u.xs.take j).length<=1000000000:=by rw[List.length_take];omega
   obtain⟨n2,d2,C4⟩:∃n2 d2,fm (u.xs.take j) (n1+1,d1)=(n2,d2):=⟨_,_,rfl⟩
   rw[C4]at iw pa⊢
   simp only at iw
   refine sI ?_
   refine gO ?_
   refine cT ?_
   refine gE @dV ?_
   refine⟨by rw[aj];omega,?_⟩
   refine gO ?_
   refine AQ.bW [(0,0)] (by kernel_rfl) rfl rfl rfl rfl rfl rfl (by exact⟨rfl,trivial⟩) rfl (Rx v 1 n2 d2 (dc cS.2.2 hv) (by omega) (by omega)) ?_
   rintro r H' ⟨rfl,rfl⟩
   refine⟨rfl,?_⟩
   simp only[go_sem,Nat.reduceAdd,Nat.reduceLeDiff,Nat.reduceSub,Int.reduceToNat,reduceCtorEq,se,dC,fo,cu,fV]
   refine gE @gi ?_
   refine AE.gQ [2] rfl ?_
   refine sI ?_
   exact AE.round (j+1) (by omega) (by omega) (sU) (by rw[pa])
theorem Ed (t:Tm) (m:Int) (hs:aE t) (hm:0<=m/\m<=1000000000):aS Tryz.prog 75 [aP t,Iv m] (Iv (ja t m)):=by
 have dD:=dN.1 hs
 refine ai.walk [0,1,2,4,5,6,16] [] Tryz.func75 rfl Tryz.ntmps75 (by kernel_rfl) (by rfl) rfl fun W own I0 ao lay=>?_
 refine gE @aj ?_
 refine AP.loop rfl (α:=Nat) (fun k=>[(1,Iv m),(2,.im (g_ t)),(5,Iv (bq (t.xs.take k) m 1)),(6,Iv k)]) (fun _=>[]) (fun k=>k<=t.xs.length) (fun k=>t.xs.length-k) 0 (by omega) (by rw[List.take_zero,bq];exact(sU)) rfl fun k hk=>?_
 have hx:=dD.2.1
 have hb:=Bw (t.xs.take k) m 1 hm.1 (by omega) (by omega)
 have rL:=JN (l:=t.xs) k m 1
 refine gE @aj ?_
 refine AP.cond rfl rfl (fun U=>?_) (fun U=>?_)
 ·have ag:k<t.xs.length:=by simp at U;omega
  have h2:¬m<bq (t.xs.take k) m 1:=by simp at U;omega
  obtain⟨u,hu,aH⟩:=dh t.xs k ag
  have hw:=wr (x:=(k:Int)+1) (by omega)
  have bl:=EU hu m 1
  rw[if_neg h2]at bl
  clear rL
  generalize hn:bq (t.xs.take k) m 1=n at*
  have ha:=tU u (m-n) (by omega)
  have bT:=wr (x:=m-n) (by omega)
  have gi:=wr (x:=n+ja u (m-n)) (by omega)
  refine gE (an @aH (an @bT @aj)) ?_
  refine AQ.fn (by kernel_rfl) rfl rfl rfl (Ed u (m-n) (dc dD.2.2 hu) (by omega)) rfl ?_
  refine sI ?_
  refine gE (an @hw @gi) ?_
  exact AE.round (k+1) (by omega) (by omega) (by rw[bl];exact(sU)) rfl
 ·have qa:ja t m=bq (t.xs.take k) m 1:=by
   rw[JM]
   by_cases h2:m<bq (t.xs.take k) m 1
   ·exact rL h2
   ·have:k=t.xs.length:=by simp at U;omega
    rw[this,List.take_length]
  refine gO ?_
  exact AE.aG rfl ⟨rfl,trivial⟩ rfl ⟨rfl,by rw[qa];rfl⟩
termination_by SizeOf.sizeOf t
decreasing_by exact jW hu
theorem LU:∀(l:List Tm) (m:Int),0<=m->decide (m<(dK l:Int))=l.any fun a=>decide (m<(cL a:Int))
 |[],m,h=>by rw[dK];exact decide_eq_false (by omega)
 |t::l,m,h=>by
  rw[List.any_cons,<-LU l m h,dK,Bool.eq_iff_iff,Bool.or_eq_true,decide_eq_true_iff,decide_eq_true_iff,decide_eq_true_iff];omega
theorem TP {α:Type} (p:α->Bool) {l:List α} {k:Nat} {u:α} (h:l[k]?=some u):(l.drop k).any p=(p u||(l.drop (k+1)).any p):=by
 obtain⟨U,h2⟩:=List.getElem?_eq_some_iff.1 h
 rw[List.drop_eq_getElem_cons U,h2,List.any_cons]
theorem FP (t:Tm) (m:Int) (hs:aE t) (hm:0<=m/\m<=1000000000):aS Tryz.prog 76 [aP t,Iv m] (Bv (decide (m<(cL t:Int)))):=by
 have dD:=dN.1 hs
 have hx:=dD.2.1
 have hd:=LS t
 refine ai.walk [0,1,2,4,5,7,12,22] [] Tryz.func76 rfl Tryz.ntmps76 (by kernel_rfl) (by rfl) rfl fun W own I0 ao lay=>?_
 refine gO ?_
 refine AP.cond rfl rfl (fun h=>?_) (fun h=>?_)
 ·have h:m<1:=by simpa using h
  refine gO ?_
  exact AE.aG rfl ⟨rfl,trivial⟩ rfl ⟨rfl,by rw[decide_eq_true (by omega)];rfl⟩
 have h:¬m<1:=by simpa using h
 have qa:decide (m<(cL t:Int))=t.xs.any fun a=>decide (m-1<(cL a:Int)):=by
  rw[<-LU t.xs (m-1) (by omega),decide_eq_decide];omega
 have bT:=wr (x:=m-1) (by omega)
 refine gO ?_
 refine AP.loop rfl (α:=Nat) (fun k=>[(1,Iv m),(2,.im (g_ t)),(5,Iv k)]) (fun _=>[]) (fun k=>k<=t.xs.length/\decide (m<(cL t:Int))=(t.xs.drop k).any fun a=>decide (m-1<(cL a:Int))) (fun k=>t.xs.length-k) 0 ⟨by omega,qa⟩ (sU) rfl fun k ⟨hk,gA⟩=>?_
 rcases Nat.eq_or_lt_of_le hk with aC|ag
 ·refine gE @aj ?_
  refine cF ?_
  refine gO ?_
  exact AE.aG rfl ⟨rfl,trivial⟩ rfl ⟨rfl,by rw[gA,aC,List.drop_length];rfl⟩
 ·obtain⟨u,hu,aH⟩:=dh t.xs k ag
  have hw:=wr (x:=(k:Int)+1) (by omega)
  have du:=TP (fun a=>decide (m-1<(cL a:Int))) hu
  refine gE @aj ?_
  refine cT ?_
  refine gE (an @aH (an @bT @aj)) ?_
  refine AQ.fn (by kernel_rfl) rfl rfl rfl (FP u (m-1) (dc dD.2.2 hu) (by omega)) rfl ?_
  refine sI ?_
  refine gO ?_
  refine AP.cond rfl rfl (fun h5=>?_) (fun h5=>?_)
  ·refine gO ?_
   exact AE.aG rfl ⟨rfl,trivial⟩ rfl ⟨rfl,by rw[gA,du,show decide (m-1<(cL u:Int))=true by simpa using h5];rfl⟩
  ·refine gE @hw ?_
   exact AE.round (k+1) ⟨by omega,by rw[gA,du,show decide (m-1<(cL u:Int))=false by simpa using h5];rfl⟩ (by omega) (sU) rfl
termination_by SizeOf.sizeOf t
decreasing_by exact jW hu
theorem F_ {l:List Tm} {k:Nat} {u:Tm} (h:l[k]?=some u):eg 2 3 (l.drop k)=if k8 2 3 u≠0 then k8 2 3 u else eg 2 3 (l.drop (k+1)):=by
 obtain⟨U,h2⟩:=List.getElem?_eq_some_iff.1 h
 rw[List.drop_eq_getElem_cons U,h2,eg]
theorem Mr (t:Tm) (hs:aE t):aS Tryz.prog 78 [aP t] (Iv (k8 2 3 t)):=by
 have dD:=dN.1 hs
 have hx:=dD.2.1
 have hf:=Vd 2 3 t
 have mP:eP 2 3 t=_:=eP.eq_def 2 3 t
 refine ai.walk [0,1,2,3,4,7,11,19,28,33,43] [] Tryz.func78 rfl Tryz.ntmps78 (by kernel_rfl) (by rfl) rfl fun W own I0 ao lay=>?_
 refine gO ?_
 refine AP.cond rfl rfl (fun h=>?_) (fun h=>?_)
 ·have hn:t.nm=[]:=by simpa using h
  rw[if_pos hn]at mP
  refine gE @aj ?_
  refine AP.cond rfl rfl (fun U=>?_) (fun U=>?_)
  ·rw[if_pos (show t.xs≠[] by intro e;rw[e]at U;simp at U)]at mP
   rw[mP]at hf
   refine gO ?_
   exact AE.aG rfl ⟨rfl,trivial⟩ rfl ⟨rfl,by rw[hf];rfl⟩
  ·have kG:t.xs=[]:=by simpa using U
   rw[if_neg (by simpa using kG)]at mP
   refine gO ?_
   refine AP.cond rfl rfl (fun h2=>?_) (fun h2=>?_)
   ·rw[if_pos (by simp at h2;omega)]at mP
    rw[mP]at hf
    refine gO ?_
    exact AE.aG rfl ⟨rfl,trivial⟩ rfl ⟨rfl,by rw[hf];rfl⟩
   ·rw[if_neg (by simp at h2;omega)]at mP
    rw[mP,kG,eg]at hf
    refine gO ?_
    exact AE.aG rfl ⟨rfl,trivial⟩ rfl ⟨rfl,by rw[hf];rfl⟩
 ·have hn:¬t.nm=[]:=by simpa using h
  rw[if_neg hn]at mP
  refine gO ?_
  refine AQ.fn (by kernel_rfl) rfl rfl rfl (OW t.nm (by omega)) rfl ?_
  refine sI ?_
  refine gO ?_
  refine AP.cond rfl rfl (fun U=>?_) (fun U=>?_)
  ·rw[if_pos (by simpa using U)]at mP
   rw[mP]at hf
   refine gO ?_
   exact AE.aG rfl ⟨rfl,trivial⟩ rfl ⟨rfl,by rw[hf];rfl⟩
  ·rw[if_neg (by simpa using U)]at mP
   rw[mP,if_neg (by decide)]at hf
   refine gO ?_
   refine AP.loop rfl (α:=Nat) (fun k=>[(1,.im (g_ t)),(3,Iv k)]) (fun _=>[]) (fun k=>k<=t.xs.length/\k8 2 3 t=eg 2 3 (t.xs.drop k)) (fun k=>t.xs.length-k) 0 ⟨by omega,hf⟩ (sU) rfl fun k ⟨hk,hm⟩=>?_
   rcases Nat.eq_or_lt_of_le hk with aC|ag
   ·refine gE @aj ?_
    refine cF ?_
    refine gO ?_
    exact AE.aG rfl ⟨rfl,trivial⟩ rfl ⟨rfl,by rw[hm,aC,List.drop_length,eg];rfl⟩
   ·obtain⟨u,hu,aH⟩:=dh t.xs k ag
    have hw:=wr (x:=(k:Int)+1) (by omega)
    have du:=F_ hu
    refine gE @aj ?_
    refine cT ?_
    refine gE (an @aH @aj) ?_
    refine AQ.fn (by kernel_rfl) rfl rfl rfl (Mr u (dc dD.2.2 hu)) rfl ?_
    refine sI ?_
    refine gO ?_
    refine AP.cond rfl rfl (fun h5=>?_) (fun h5=>?_)
    ·refine gO ?_
     exact AE.aG rfl ⟨rfl,trivial⟩ rfl ⟨rfl,by rw[hm,du,if_pos (by simpa using h5)];rfl⟩
    ·refine gE @hw ?_
     exact AE.round (k+1) ⟨by omega,by rw[hm,du,if_neg (by simpa using h5)]⟩ (by omega) (sU) rfl
termination_by SizeOf.sizeOf t
decreasing_by exact jW hu
theorem drop_cons {α:Type} {l:List α} {k:Nat} {u:α} (h:l[k]?=some u):l.drop k=u::l.drop (k+1):=by
 obtain⟨U,h2⟩:=List.getElem?_eq_some_iff.1 h
 rw[List.drop_eq_getElem_cons U,h2]
theorem Mk (l:Lt) (c:List Lt):l9 2 3 (l::c)=if(l.pd≠[61]/\fq l.pd=false)\/(l.pd=[61]/\l.xs.length≠2)then 2 else if eg 2 3 l.xs≠0 then eg 2 3 l.xs else l9 2 3 c:=by
 rw[l9,wH]
 by_cases h:(l.pd≠[61]/\fq l.pd=false)\/(l.pd=[61]/\l.xs.length≠2)
 ·rw[if_pos h,if_pos h,if_pos (by decide)]
 ·rw[if_neg h,if_neg h]
theorem Ms (pd:List UInt8) (n:Nat) (b:Bool):(pd==[61]&&(n:Int)!=2||!(pd==[61])&&!b)=true↔(pd≠[61]/\b=false)\/(pd=[61]/\n≠2):=by
 have aJ:((n:Int)=2)↔n=2:=by omega
 by_cases hp:pd=[61]<;>cases b<;>by_cases hl:n=2<;>simp[hp,hl,aJ]
theorem Up (c:List Lt) (hs:je c):aS Tryz.prog 16 [cq c] (Iv (ca 4 9 2 3 c)):=by
 have cG:=hs.1
 have fh:ca 4 9 2 3 c=_:=ca.eq_def 4 9 2 3 c
 have bX:=PX c 4000 (by omega)
 rw[rU]at bX
 refine ai.walk [0,2,3,4,5,6,7,8,9,10,14,18,32,49,53,63,74,78,112,120,133] [] Tryz.func16 rfl Tryz.ntmps16 (by kernel_rfl) (by rfl) rfl fun W own I0 ao lay=>?_
 refine gE @bp ?_
 refine AP.cond rfl rfl (fun h=>?_) (fun h=>?_)
 ·rw[if_pos (by simp at h;omega)]at fh
  refine gO ?_
  exact AE.aG rfl ⟨rfl,trivial⟩ rfl ⟨rfl,by rw[fh];rfl⟩
 rw[if_neg (by simp at h;omega)]at fh
 have MQ:c.length<=40:=by simp at h;omega
 refine gO ?_
 refine AP.loop rfl (α:=Nat) (fun k=>[(0,cq c),(3,Iv (bq ((c.take k).flatMap (·.xs)) 4000 c.length)),(4,Iv k)]) (fun _=>[]) (fun k=>k<=c.length) (fun k=>c.length-k) 0 (by omega) (by rw[List.take_zero,List.flatMap_nil,bq];exact(sU)) rfl fun k hk=>?_
 rcases Nat.eq_or_lt_of_le hk with aC|ag
 ·subst aC
  rw[List.take_length]
  refine gE @bp ?_
  refine cF ?_
  refine sI ?_
  refine gO ?_
  refine AP.cond rfl rfl (fun U=>?_) (fun U=>?_)
  ·have U:4000<bq (c.flatMap (·.xs)) 4000 c.length:=by simpa using U
   rw[if_pos (Classical.byContradiction fun hc=>by have:=bX.1 (by omega);omega)]at fh
   refine gO ?_
   exact AE.aG rfl ⟨rfl,trivial⟩ rfl ⟨rfl,by rw[fh];rfl⟩
  have U:¬4000<bq (c.flatMap (·.xs)) 4000 c.length:=by simpa using U
  rw[if_neg (fun hc=>U (bX.2 (by omega)))]at fh
  refine gO ?_
  refine AP.loop rfl (α:=Nat) (fun k=>[(0,cq c),(6,Iv k)]) (fun _=>[]) (fun k=>k<=c.length/\(100<gv c↔100<gv (c.drop k))) (fun k=>c.length-k) 0 ⟨by omega,Iff.rfl⟩ (sU) rfl fun k ⟨hk,hm⟩=>?_
  rcases Nat.eq_or_lt_of_le hk with aC|ag
  ·rw[aC,List.drop_length,gv]at hm
   rw[if_neg (fun hc=>by have:=hm.1 hc;omega)]at fh
   subst aC
   refine gE @bp ?_
   refine cF ?_
   refine sI ?_
   refine gO ?_
   refine AP.loop rfl (α:=Nat) (fun k=>[(0,cq c),(8,Iv k)]) (fun _=>[]) (fun k=>k<=c.length/\ca 4 9 2 3 c=l9 2 3 (c.drop k)) (fun k=>c.length-k) 0 ⟨by omega,fh⟩ (sU) rfl fun k ⟨hk,gA⟩=>?_
   rcases Nat.eq_or_lt_of_le hk with aC|ag
   ·rw[aC,List.drop_length,l9]at gA
    refine gE @bp ?_
    refine cF ?_
    refine gO ?_
    exact AE.aG rfl ⟨rfl,trivial⟩ rfl ⟨rfl,by rw[gA];rfl⟩
   ·obtain⟨u,hu,aH⟩:=oq c k ag
    have hw:=wr (x:=(k:Int)+1) (by omega)
    have cS:=sB hs hu
    have xp:=cS.2.1
    rw[drop_cons hu,Mk]at gA
    refine gE @bp ?_
    refine cT ?_
    refine gE (an @aH (an @bp @aj)) ?_
    refine AQ.q_ (by kernel_rfl) rfl rfl (fun h=>by first|(simp[gs,AV.g];done)|(simp[gs,AV.g,cg];done)|(simp[gs,AV.g,cg,bw]at h⊢;done)|(simp[gs,AV.g,cg,bw]at h⊢;exact h)|(simp[gs,AV.g,cg,bw]at h⊢;simp[h];done)|(simp[bw]at h;done)|(simp[gs,AV.g,bw]at h⊢;simp[h];done)|(simp[gs,AV.g,bw]at h⊢;exact h.1)|(simp[gs,AV.g];rfl)|(simp[gs,AV.g,bw]at h⊢;rfl)|(simp[gs,AV.g,bw]at h⊢;simp[h];rfl)|(simp[gs,AV.g,bw]at h⊢;simp_all)) rfl (fun _=>OW u.pd (by have:=cS.1;omega)) rfl ?_
    refine sI ?_
    refine gE (an @aH (an @bp @aj)) ?_
    refine AP.cond rfl rfl (fun h5=>?_) (fun h5=>?_)
    ·have h5:=(Ms u.pd u.xs.length (fq u.pd)).1 h5
     rw[if_pos h5]at gA
     refine gO ?_
     exact AE.aG rfl ⟨rfl,trivial⟩ rfl ⟨rfl,by rw[gA];rfl⟩
    ·have h5:¬((u.pd≠[61]/\fq u.pd=false)\/(u.pd=[61]/\u.xs.length≠2)):=fun hh=>by
      have h6:=(Ms u.pd u.xs.length (fq u.pd)).2 hh
      exact absurd (h6.symm.trans h5) (by decide)
     rw[if_neg h5]at gA
     refine gO ?_
     refine AP.loop rfl (α:=Nat) (fun j=>[(0,cq c),(8,Iv k),(9,Iv j)]) (fun _=>[]) (fun j=>j<=u.xs.length/\ca 4 9 2 3 c=if eg 2 3 (u.xs.drop j)≠0 then eg 2 3 (u.xs.drop j)else l9 2 3 (c.drop (k+1))) (fun j=>u.xs.length-j) 0 ⟨by omega,gA⟩ (sU) rfl fun j ⟨hj,iV⟩=>?_
     rcases Nat.eq_or_lt_of_le hj with iS|mR
     ·rw[iS,List.drop_length,eg,if_neg (by decide)]at iV
      refine gE (an @aH (an @bp @aj)) ?_
      refine cF ?_
      refine gE @hw ?_
      exact AE.round (k+1) ⟨by omega,iV⟩ (by omega) (sU) rfl
     ·obtain⟨v,hv,dV⟩:=dh u.xs j mR
      have gi:=wr (x:=(j:Int)+1) (by omega)
      rw[F_ hv]at iV
      refine gE (an @aH (an @bp @aj)) ?_
      refine cT ?_
      refine gE (an @aH (an @dV (an @bp @aj))) ?_
      refine AQ.fn (by kernel_rfl) rfl rfl rfl (Mr v (dc cS.2.2 hv)) rfl ?_
      refine sI ?_
      refine gO ?_
      refine AP.cond rfl rfl (fun h6=>?_) (fun h6=>?_)
      ·have h6:k8 2 3 v≠0:=by simpa using h6
       rw[if_pos h6,if_pos h6]at iV
       refine gO ?_
       exact AE.aG rfl ⟨rfl,trivial⟩ rfl ⟨rfl,by rw[iV];rfl⟩
      ·have h6:¬k8 2 3 v≠0:=by simpa using h6
       rw[if_neg h6]at iV
       refine gE @gi ?_
       exact AE.round (j+1) ⟨by omega,iV⟩ (by omega) (sU) rfl
  ·obtain⟨u,hu,aH⟩:=oq c k ag
   have hw:=wr (x:=(k:Int)+1) (by omega)
   have cS:=sB hs hu
   have xp:=cS.2.1
   have qf:100<gv c↔100<dK u.xs\/100<gv (c.drop (k+1)):=by rw[hm,drop_cons hu,gv];omega
   refine gE @bp ?_
   refine cT ?_
   refine gO ?_
   refine AP.loop rfl (α:=Nat) (fun j=>[(0,cq c),(6,Iv k),(7,Iv j)]) (fun _=>[]) (fun j=>j<=u.xs.length/\(100<gv c↔100<dK (u.xs.drop j)\/100<gv (c.drop (k+1)))) (fun j=>u.xs.length-j) 0 ⟨by omega,qf⟩ (sU) rfl fun j ⟨hj,iV⟩=>?_
   rcases Nat.eq_or_lt_of_le hj with iS|mR
   ·rw[iS,List.drop_length,dK]at iV
    refine gE (an @aH (an @bp @aj)) ?_
    refine cF ?_
    refine gE @hw ?_
    exact AE.round (k+1) ⟨by omega,by omega⟩ (by omega) (sU) rfl
   ·obtain⟨v,hv,dV⟩:=dh u.xs j mR
    have gi:=wr (x:=(j:Int)+1) (by omega)
    rw[drop_cons hv,dK]at iV
    refine gE (an @aH (an @bp @aj)) ?_
    refine cT ?_
    refine gE (an @aH (an @dV (an @bp @aj))) ?_
    refine AQ.fn (by kernel_rfl) rfl rfl rfl (FP v 100 (dc cS.2.2 hv) (by omega)) rfl ?_
    refine sI ?_
    refine gO ?_
    refine AP.cond rfl rfl (fun h5=>?_) (fun h5=>?_)
    ·have h5:(100:Int)<cL v:=by simpa using h5
     rw[if_pos (iV.2 (by omega))]at fh
     refine gO ?_
     exact AE.aG rfl ⟨rfl,trivial⟩ rfl ⟨rfl,by rw[fh];rfl⟩
    ·have h5:¬(100:Int)<cL v:=by simpa using h5
     refine gE @gi ?_
     exact AE.round (j+1) ⟨by omega,by rw[iV];omega⟩ (by omega) (sU) rfl
 ·obtain⟨u,hu,aH⟩:=oq c k ag
  have hw:=wr (x:=(k:Int)+1) (by omega)
  have cS:=sB hs hu
  have xp:=cS.2.1
  have fQ:=Bu ((c.take k).flatMap (·.xs)) 4000 c.length (by omega) (by omega)
  have rz:=Mi hu
  obtain⟨n0,gU⟩:∃n0,bq ((c.take k).flatMap (·.xs)) 4000 c.length=n0:=⟨_,rfl⟩
  rw[gU]at fQ⊢
  refine gE @bp ?_
  refine cT ?_
  refine gO ?_
  refine AP.loop rfl (α:=Nat) (fun j=>[(0,cq c),(3,Iv (bq (u.xs.take j) 4000 n0)),(4,Iv k),(5,Iv j)]) (fun _=>[]) (fun j=>j<=u.xs.length) (fun j=>u.xs.length-j) 0 (by omega) (by rw[List.take_zero,bq];exact(sU)) rfl fun j hj=>?_
  have hb:=Bu (u.xs.take j) 4000 n0 (by omega) (by omega)
  have rL:=JN (l:=u.xs) j 4000 n0
  refine gE (an @aH (an @bp @aj)) ?_
  refine AP.cond rfl rfl (fun U=>?_) (fun U=>?_)
  ·have mR:j<u.xs.length:=by simp at U;omega
   have h2:¬4000<bq (u.xs.take j) 4000 n0:=by simp at U;omega
   obtain⟨v,hv,dV⟩:=dh u.xs j mR
   have gi:=wr (x:=(j:Int)+1) (by omega)
   have bl:=EU hv 4000 n0
   rw[if_neg h2]at bl
   clear rL
   generalize hn:bq (u.xs.take j) 4000 n0=n at*
   have ha:=tU v (4000-n) (by omega)
   have HT:=wr (x:=4000-n) (by omega)
   have HU:=wr (x:=n+ja v (4000-n)) (by omega)
   refine gE (an @aH (an @dV (an @HT (an @bp @aj)))) ?_
   refine AQ.fn (by kernel_rfl) rfl rfl rfl (Ed v (4000-n) (dc cS.2.2 hv) (by omega)) rfl ?_
   refine sI ?_
   refine gE (an @gi @HU) ?_
   exact AE.round (j+1) (by omega) (by omega) (by rw[bl];exact(sU)) rfl
  ·have qa:bq ((c.take (k+1)).flatMap (·.xs)) 4000 c.length=bq (u.xs.take j) 4000 n0:=by
    rw[rz,v7,gU]
    by_cases h2:4000<bq (u.xs.take j) 4000 n0
    ·exact rL h2
    ·have:j=u.xs.length:=by simp at U;omega
     rw[this,List.take_length]
   refine gE @hw ?_
   exact AE.round (k+1) (by omega) (by omega) (by rw[qa];exact(sU)) rfl
def b6 (t:Tm):List Lt:=[⟨false,[80],[t]⟩]
theorem Ro {t:Tm} (h:aE t):je (b6 t):=by
 refine⟨by simp[b6],fun l hl=>?_⟩
 rw[b6,List.mem_singleton]at hl
 subst hl
 exact⟨by simp,by simp,by rw[b_,b_];exact⟨h,trivial⟩⟩
theorem Lh (t:Tm) (hs:aE t):aS Tryz.prog 132 [aP t] (Iv (ca 4 9 2 3 (b6 t))):=by
 have h:=Up (b6 t) (Ro hs)
 have e:cq (b6 t)= .im (.sl 3 [[Bi false,Si [80],.sl 3 [[Si t.nm,Ii t.ix,.sl 3 (aA t.xs)]]]]):=by
  rw[cq,dv,b6,List.map_cons,List.map_nil,qw]
  simp only[aA,jx]
 rw[e]at h
 refine ai.walk [0,1,2] [] Tryz.func132 rfl Tryz.ntmps132 (by kernel_rfl) (by rfl) rfl fun W own I0 ao lay=>?_
 refine gO ?_
 refine AQ.fn (by kernel_rfl) rfl rfl rfl (h) rfl ?_
 refine sI ?_
 refine gO ?_
 exact AE.aG rfl ⟨rfl,trivial⟩ rfl ⟨rfl,rfl⟩
def fL (s t:Tm):Int:=if ca 4 9 2 3 (b6 s)≠0 then ca 4 9 2 3 (b6 s)else ca 4 9 2 3 (b6 t)
theorem JP (s t:Tm) (hs:aE s) (ht:aE t):aS Tryz.prog 124 [aP s,aP t] (Iv (fL s t)):=by
 refine ai.walk [0,1,2,3,4,5,9] [] Tryz.func124 rfl Tryz.ntmps124 (by kernel_rfl) (by rfl) rfl fun W own I0 ao lay=>?_
 refine gO ?_
 refine AQ.fn (by kernel_rfl) rfl rfl rfl (Lh s hs) rfl ?_
 refine sI ?_
 refine gO ?_
 refine AP.cond rfl rfl (fun h=>?_) (fun h=>?_)
 ·refine gO ?_
  exact AE.aG rfl ⟨rfl,trivial⟩ rfl ⟨rfl,by rw[fL,if_pos (by simpa using h)];rfl⟩
 ·refine gO ?_
  refine AQ.fn (by kernel_rfl) rfl rfl rfl (Lh t ht) rfl ?_
  refine sI ?_
  refine gO ?_
  exact AE.aG rfl ⟨rfl,trivial⟩ rfl ⟨rfl,by rw[fL,if_neg (by simpa using h)];rfl⟩
abbrev KR (b:Int×Tm):List IV:=[Ii b.1,Si b.2.nm,Ii b.2.ix,.sl 3 (aA b.2.xs)]
def b9 (l:Bd):List (List IV):=l.map KR
abbrev cp (l:Bd):AV:= .im (.sl 4 (b9 l))
theorem aw (l:Bd):(b9 l).length=l.length:=by rw[b9,List.length_map]
theorem sx (l:Bd) (k:Nat) (h:k<l.length):∃b,l[k]?=some b/\(b9 l).getD k []=[Ii b.1,Si b.2.nm,Ii b.2.ix,.sl 3 (aA b.2.xs)]:=by
 refine⟨l[k],List.getElem?_eq_getElem h,?_⟩
 rw[List.getD_eq_getElem?_getD,b9,List.getElem?_map,List.getElem?_eq_getElem h];rfl
def j8 (l:Bd):Prop:=l.length<=1000000000/\∀b∈l,aE b.2
theorem find_spec (l:Bd) (v:Int) (hs:j8 l):aS Tryz.prog 170 [cp l,Iv v] (Iv (fk (fun b:Int×Tm=>decide (b.1=v)) l 0)):=by
 have hl:=hs.1
 refine ai.walk [0,1,4,5,9,18] [] Tryz.func170 rfl Tryz.ntmps170 (by kernel_rfl) (by rfl) rfl fun W own I0 ao lay=>?_
 refine gO ?_
 refine AP.loop rfl (α:=Nat) (fun k=>[(0,cp l),(1,Iv v),(5,Iv k)]) (fun _=>[]) (fun k=>k<=l.length/\fk (fun b:Int×Tm=>decide (b.1=v)) l 0=fk (fun b:Int×Tm=>decide (b.1=v)) (l.drop k) k) (fun k=>l.length-k) 0 ⟨by omega,rfl⟩ (sU) rfl fun k ⟨hk,hm⟩=>?_
 rcases Nat.eq_or_lt_of_le hk with aC|ag
 ·refine gE @aw ?_
  refine cF ?_
  refine gO ?_
  exact AE.aG rfl ⟨rfl,trivial⟩ rfl ⟨rfl,by rw[hm,aC,List.drop_length,fk];rfl⟩
 ·obtain⟨u,hu,aH⟩:=sx l k ag
  have hw:=wr (x:=(k:Int)+1) (by omega)
  have du:=DQ (fun b:Int×Tm=>decide (b.1=v)) hu
  refine gE @aw ?_
  refine cT ?_
  refine gE (an @aH @aw) ?_
  refine AP.cond rfl rfl (fun U=>?_) (fun U=>?_)
  ·refine gO ?_
   exact AE.aG rfl ⟨rfl,trivial⟩ rfl ⟨rfl,by rw[hm,du,if_pos (by simpa using U)];rfl⟩
  ·refine gE @hw ?_
   exact AE.round (k+1) ⟨by omega,by rw[hm,du,if_neg (by simpa using U)]⟩ (by omega) (sU) rfl
theorem Io:∀(l:Bd) (v:Int) (i:Nat),(eV l v=none->fk (fun b:Int×Tm=>decide (b.1=v)) l i=-1)/\(∀x,eV l v=some x->∃k,fk (fun b:Int×Tm=>decide (b.1=v)) l i=((i+k:Nat):Int)/\l[k]?=some (v,x))
 |[],v,i=>⟨fun _=>by rw[fk],fun x h=>by cases h⟩
 |b::l,v,i=>by
  rw[eV,fk]
  by_cases h:b.1=v
  ·rw[if_pos h,if_pos (decide_eq_true h)]
   refine⟨fun h'=>(by cases h'),fun x hx=>⟨0,rfl,?_⟩⟩
   simp only[Option.some.injEq]at hx
   rw[List.getElem?_cons_zero,<-h,<-hx]
  ·rw[if_neg h,if_neg (by simpa using h)]
   obtain⟨U,h2⟩:=Io l v (i+1)
   refine⟨U,fun x hx=>?_⟩
   obtain⟨k,e1,e2⟩:=h2 x hx
   exact⟨k+1,by rw[e1];congr 1;omega,by rw[List.getElem?_cons_succ];exact e2⟩

mutual
def EJ (l:Bd):Tm->Int
 | .mk n i xs=>if n=[]then(match eV l i with
   |some x=>min (ja x 5000) 5000
   |none=>1)else Rg l xs 1
def Rg (l:Bd):List Tm->Int->Int
 |[],a=>a
 |t::k,a=>Rg l k (min (a+EJ l t) 5000)
end

def TJ (l:Bd):List Tm->Int->Int
 |[],n=>n
 |t::k,n=>if 4000<n+EJ l t then n+EJ l t else TJ l k (n+EJ l t)
theorem zo {c:List Lt} {k:Nat} {u:Lt} (h:c[k]?=some u) (j:Nat):∃r,c.flatMap (·.xs)=((c.take k).flatMap (·.xs)++u.xs.take j)++r:=by
 refine⟨u.xs.drop j++(c.drop (k+1)).flatMap (·.xs),?_⟩
 have U:c=c.take k++(u::c.drop (k+1)):=by rw[<-drop_cons h,List.take_append_drop]
 conv=>lhs;rw[U]
 rw[List.flatMap_append,List.flatMap_cons,List.append_assoc,<-List.append_assoc (u.xs.take j),List.take_append_drop]

theorem Uu (x:AV) (w:World) (φ:al) (I:Nat->Prop) (v:Value) (h:AV.den w φ I (.aI [ew,x]) v):AV.den w φ I (.aI [cq [],x]) v:=by
 rw[AV.den]at h⊢
 obtain⟨us,hu,rfl⟩:=h
 refine⟨us,?_,rfl⟩
 rw[AV.ab]at hu⊢
 obtain⟨a,b,e,U,h2⟩:=hu
 exact⟨a,b,e,P0 3 w φ I a U,h2⟩
structure Yields (P:Program) (nb l n:Nat) (args:Nat->List AV) (Hs:Nat->aa) (m:Nat) (Hx:aa):Prop where
 go:∀k,k<m->k<n->gp P nb l (args k) (Hs k) (fun r H'=>r=Bv true/\H'=Hs (k+1))
 stop:m<n->gp P nb l (args m) (Hs m) (fun r H'=>r=Bv false/\H'=Hx)
 low:∀k k',cE nb (Hs k) (Hs k')
 Pu:∀k,cE nb (Hs k) Hx
def S2 (Hs:Nat->aa) (m:Nat) (Hx:aa) (k:Nat) (r:AV) (H':aa):Prop:=
 (k<=m/\r=Bv true/\H'=Hs k)\/(m<k/\r=Bv false/\H'=Hx)
def Jw (Hs:Nat->aa) (m:Nat) (Hx:aa) (n:Nat) (_:AV) (H':aa):Prop:=(n<=m/\H'=Hs n)\/(m<n/\H'=Hx)
def EX (xs:List Tm) (k:Nat):List AV:=match xs[k]? with
 |some t=>[aP t]
 |none=>[]
theorem BC {xs:List Tm} {k:Nat} {t:Tm} (h:xs[k]?=some t):EX xs k=[aP t]:=by rw[EX,h]
theorem S3 {nb l m:Nat} {Hs:Nat->aa} {Hx:aa} {args:Nat->List AV} {n:Nat} (hy:Yields Tryz.prog nb l n args Hs m Hx) (k q:Nat) (r:AV) (H':aa) (h:S2 Hs m Hx q r H'):cE nb (Hs k) H':=by
 rcases h with⟨_,_,rfl⟩|⟨_,_,rfl⟩
 ·exact hy.low k q
 ·exact hy.Pu k
abbrev t_ (l b:Nat):Ob:= .var 219 [.fn 195 [] [.im (.pt [.v (.func (.yield l) #[] #[])]),.ob b 0]]
theorem JF:∀l m:List Tm,cQ (l++m)=cQ l++cQ m
 |[],m=>by rw[cQ];rfl
 |t::l,m=>by rw[List.cons_append,cQ,cQ,JF l m,List.append_assoc]
theorem abc {l:List Tm} {j:Nat} {u:Tm} (h:l[j]?=some u):cQ l=cQ (l.take j)++(b8 u++cQ (l.drop (j+1))):=by
 conv=>lhs;rw[<-List.take_append_drop j l,drop_cons h]
 rw[JF,cQ]
theorem abd {l:List Tm} {j:Nat} {u:Tm} (h:l[j]?=some u):cQ (l.take (j+1))=cQ (l.take j)++b8 u:=by
 rw[dE h,JF,cQ,cQ,List.append_nil]
theorem SR {nb l m b M:Nat} {Hs:Nat->aa} {Hx:aa} {xs:List Tm} (hy:Yields Tryz.prog nb l xs.length (EX xs) Hs m Hx) (hb:∀k,lk (Hs k) b=some (t_ l b)) (ei:b<nb) (hM:nb<=M) (bX:∀k,bD (Hs k)=M) (fD:∀k r,kg M r (Hs k)=Hs k) (t:Tm) (ht:aE t) (k:Nat) (hk:k<=m) (hx:∀j,j<(b8 t).length->xs[k+j]?=(b8 t)[j]?):
  dz Tryz.prog nb 195 [aP t,.im (.pt [.v (.func (.yield l) #[] #[])]),.ob b 0] (Hs k) (S2 Hs m Hx (k+(b8 t).length)):=by
 have s_:=dN.1 ht
 have hit:xs[k]?=some t:=by
  have:=hx 0 (by rw[Bm];simp)
  rw[Nat.add_zero]at this
  rw[this,Bm];rfl
 have Ac:k<xs.length:=(List.getElem?_eq_some_iff.1 hit).1
 have qs:∀j,j<(cQ t.xs).length->xs[k+1+j]?=(cQ t.xs)[j]?:=fun j hj=>by
  rw[show k+1+j=k+(j+1) by omega,hx (j+1) (by rw[Bm];simpa using hj),Bm];rfl
 have hlen:k+(b8 t).length=k+1+(cQ t.xs).length:=by rw[Bm,List.length_cons];omega
 rw[hlen]
 have cH:Nat.ble nb b=false:=by cases hq:Nat.ble nb b with|false=>rfl|true=>exact absurd (Nat.le_of_ble_eq_true hq) (by omega)
 have M6:Nat.ble nb M=true:=Nat.ble_eq_true_of_le hM
 have CO:Nat.beq M M=true:=by simp
 have Gy:Nat.beq M b=false:=by cases hq:Nat.beq M b with|false=>rfl|true=>exact absurd (Nat.eq_of_beq_eq_true hq) (by omega)
 have Wc:Nat.beq b M=false:=by cases hq:Nat.beq b M with|false=>rfl|true=>exact absurd (Nat.eq_of_beq_eq_true hq) (by omega)
 refine dz.walk [0,1,2,3,4,6,10,12,13,14,15,21] [6] Tryz.func195 rfl Tryz.ntmps195 (by kernel_rfl) (by rfl) fun W own I0 ao lay=>?_
 refine gO ?_
 have Xd:=fun k q r H' h=>S3 hy k q r H' h
 by_cases hm:k<m
 ·have AF:=hy.go k hm Ac
  rw[BC hit]at AF
  refine AQ.yL nb (Nat.ble_eq_true_of_le (Nat.le_refl _)) (by kernel_rfl) rfl ⟨rfl,rfl⟩ rfl rfl AF (fun r H' h=>by rw[h.2];exact hy.low _ _) fun r H' h=>?_
  obtain⟨rfl,rfl⟩:=h
  refine sE @cH ?_
  refine AQ.go (by kernel_rfl) ?_
  refine gE (an @cH @aj) ?_
  refine AP.loop rfl (α:=Nat) (fun j=>[(1,.im (.pt [.v (.func (.yield l) #[] #[])])),(2,.ob b 0),(12,.im (.sl 3 (aA t.xs))),(13,Iv t.xs.length),(14,Iv j)]) (fun j=>Hs (k+1+(cQ (t.xs.take j)).length)) (fun j=>j<=t.xs.length/\k+1+(cQ (t.xs.take j)).length<=m) (fun j=>t.xs.length-j) 0 ⟨by omega,by rw[List.take_zero,cQ];exact hm⟩ (sU) (by rw[List.take_zero,cQ];rfl) fun j ⟨hj,kF⟩=>?_
  rcases Nat.eq_or_lt_of_le hj with iS|ag
  ·subst iS
   rw[List.take_length]at kF⊢
   refine gE @aj ?_
   refine cF ?_
   refine gO ?_
   exact AE.ret rfl ⟨rfl,trivial⟩ (.inl ⟨kF,rfl,rfl⟩)
  ·obtain⟨u,hu,aH⟩:=dh t.xs j ag
   have cS:=dc s_.2.2 hu
   have hw:=wr (x:=(j:Int)+1) (by omega)
   have gg:=abc hu
   have bI:=abd hu
   have ih:=SR hy hb ei hM bX fD u cS (k+1+(cQ (t.xs.take j)).length) kF fun i hi=>by
    have hl:(cQ t.xs).length=(cQ (t.xs.take j)).length+((b8 u).length+(cQ (t.xs.drop (j+1))).length):=by rw[gg,List.length_append,List.length_append]
    rw[Nat.add_assoc,qs _ (by omega),gg,List.getElem?_append_right (by omega),Nat.add_sub_cancel_left,List.getElem?_append_left hi]
   have hn:k+1+(cQ (t.xs.take (j+1))).length=k+1+(cQ (t.xs.take j)).length+(b8 u).length:=by rw[bI,List.length_append];omega
   have hle:(cQ (t.xs.take (j+1))).length<=(cQ t.xs).length:=by
    rw[bI,gg,List.length_append,List.length_append,List.length_append];omega
   refine gE @aj ?_
   refine cT ?_
   refine gE (an @aH (an @hb (an @bX (an @M6 (an @CO @Gy))))) ?_
   refine⟨by rw[aj];omega,?_⟩
   refine gE (an @aH (an @hb (an @bX (an @M6 (an @CO @Gy))))) ?_
   refine AQ.fix M (by simp only[lk,CO,cond_true];rfl) rfl ?_
   refine sE (an @CO (an @Gy (an @Wc @fD))) ?_
   refine AQ.iP nb (Nat.ble_eq_true_of_le (Nat.le_refl _)) (by kernel_rfl) rfl rfl rfl ih (fun r H' h=>Xd _ _ r H' h) fun r H' h=>?_
   rw[<-hn]at h
   rcases h with⟨U,rfl,rfl⟩|⟨U,rfl,rfl⟩
   ·refine sE @cH ?_
    refine AQ.go (by kernel_rfl) ?_
    refine gE (an @cH @hw) ?_
    exact AE.round (j+1) ⟨by omega,U⟩ (by omega) (sU) rfl
   ·refine sE @cH ?_
    refine AQ.go (by kernel_rfl) ?_
    refine gE @cH ?_
    exact AE.ret rfl ⟨rfl,trivial⟩ (.inr ⟨by omega,rfl,rfl⟩)
 ·have fH:k=m:=by omega
  have AF:=hy.stop (by omega)
  rw[<-fH,BC hit]at AF
  refine AQ.yL nb (Nat.ble_eq_true_of_le (Nat.le_refl _)) (by kernel_rfl) rfl ⟨rfl,rfl⟩ rfl rfl AF (fun r H' h=>by rw[h.2];exact hy.Pu _) fun r H' h=>?_
  obtain⟨rfl,rfl⟩:=h
  refine sE @cH ?_
  refine AQ.go (by kernel_rfl) ?_
  refine gE @cH ?_
  exact AE.ret rfl ⟨rfl,trivial⟩ (.inr ⟨by omega,rfl,rfl⟩)
termination_by SizeOf.sizeOf t
decreasing_by exact jW hu
theorem RW {nb l m M:Nat} {Hs:Nat->aa} {Hx:aa} (t:Tm) (ht:aE t) (hy:Yields Tryz.prog (M+1) l (b8 t).length (EX (b8 t)) (fun k=>(M,t_ l M)::Hs k) m ((M,t_ l M)::Hx)) (hM:Nat.ble nb M=true) (bX:∀k,bD (Hs k)=M) (fD:∀k r,kg (M+1) r (Hs k)=Hs k):
  dz Tryz.prog nb 194 [Yl l,.im (g_ t)] (Hs 0) (Jw (fun k=>(M,t_ l M)::Hs k) m ((M,t_ l M)::Hx) (b8 t).length):=by
 refine dz.walk [0,1,2,3] [3] Tryz.func194 rfl Tryz.ntmps194 (by kernel_rfl) (by rfl) fun W own I0 ao lay=>?_
 refine gE (an @bX @hM) ?_
 have U:Nat.beq M (M+1)=false:=by cases hq:Nat.beq M (M+1)with|false=>rfl|true=>exact absurd (Nat.eq_of_beq_eq_true hq) (by omega)
 have h2:Nat.beq M M=true:=by simp
 have h3:Nat.ble M M=true:=Nat.ble_eq_true_of_le (Nat.le_refl _)
 have hw:=SR (k:=0) (xs:=b8 t) hy (fun k=>by simp only[lk,h2,cond_true]) (Nat.lt_succ_self _) (Nat.le_refl _) (fun k=>by simp only[bD,bX,h3,cond_true]) (fun k r=>by simp only[kg,sN,jg,gw,U,fD,cond_false]) t ht (Nat.zero_le _) (fun j _=>by rw[Nat.zero_add])
 rw[Nat.zero_add]at hw
 refine AQ.iP (M+1) (Nat.ble_eq_true_of_le (Nat.le_succ_of_le (Nat.le_of_ble_eq_true hM))) (by kernel_rfl) rfl rfl rfl hw (fun r H' h=>S3 hy _ _ r H' h) fun r H' h=>?_
 rcases h with⟨h4,rfl,rfl⟩|⟨h4,rfl,rfl⟩
 ·refine sI ?_
  refine AQ.go (by kernel_rfl) ?_
  refine gO ?_
  exact AE.kf rfl trivial (.inl ⟨h4,rfl⟩)
 ·refine sI ?_
  refine AQ.go (by kernel_rfl) ?_
  refine gO ?_
  exact AE.kf rfl trivial (.inr ⟨h4,rfl⟩)
theorem RX (t:Tm):aS Tryz.prog 150 [aP t] (.fn 194 [] [.im (g_ t)]):=by
 refine ai.walk [0,1,2] [] Tryz.func150 rfl Tryz.ntmps150 (by kernel_rfl) (by rfl) rfl fun W own I0 ao lay=>?_
 refine gO ?_
 exact AE.aG rfl ⟨rfl,trivial⟩ rfl ⟨rfl,rfl⟩
theorem abD (c:List Lt):aS Tryz.prog 73 [cq c] (.fn 149 [] [.im (.pt [.sl 3 (dv c)])]):=by
 refine ai.walk [0,1,2] [] Tryz.func73 rfl Tryz.ntmps73 (by kernel_rfl) (by rfl) rfl fun W own I0 ao lay=>?_
 refine gO ?_
 exact AE.aG rfl ⟨rfl,trivial⟩ rfl ⟨rfl,rfl⟩
theorem Us (c:List Lt):ca 4 9 2 3 c=if pv c≠0 then pv c else l9 2 3 c:=by
 rw[ca,pv]
 by_cases U:40<c.length
 ·rw[if_pos U,if_pos U,if_pos (by decide)]
 ·rw[if_neg U,if_neg U]
  by_cases h2:4000<cO c
  ·rw[if_pos h2,if_pos h2,if_pos (by decide)]
  ·rw[if_neg h2,if_neg h2]
   by_cases h3:100<gv c
   ·rw[if_pos h3,if_pos h3,if_pos (by decide)]
   ·rw[if_neg h3,if_neg h3,if_neg (by decide)]
theorem Zh {c:List Lt} (h:¬pv c≠0):c.length<=40:=Classical.byContradiction fun hc=>h (by rw[pv,if_pos (by omega)];decide)
theorem Mt (pd:List UInt8) (n:Nat) (b:Bool):((!(pd==[61])&&!b)||(pd==[61]&&(n:Int)!=2))=true↔(pd≠[61]/\b=false)\/(pd=[61]/\n≠2):=by
 have aJ:((n:Int)=2)↔n=2:=by omega
 by_cases hp:pd=[61]<;>cases b<;>by_cases hl:n=2<;>simp[hp,hl,aJ]
noncomputable def gM (l:Nat) (st:iK):Ob:= .lp l 53 st Tryz.f15 [0,1,1,1,0,0,1,1,0,0,1,0,1,1] [46] [(2,.ob 0 0)]
noncomputable def sg (l l2:Nat) (st:iK):Ob:= .lp l2 30 st Tryz.f149 [0,1,1,0,0,1,1,0,0,1,1,0,0,1,1,0,0,1,1] [23] [(2,.im (.pt [.v (.func (.yield l) #[] #[])]))]
noncomputable def jc (l l2:Nat) (st2 st:iK) (e:Int):aa:=[(3,t_ l2 3),(2,sg l l2 st2),(1,gM l st),(0,.var 30 [Iv e])]
theorem Uq (nb l l2:Nat) (t:Tm) (ht:aE t) (hf:eP 2 3 t=0) (hnb:Nat.ble nb 4=true):gp Tryz.prog nb l [aP t] (jc l l2 .busy .ready 0) (fun r H'=>r=Bv true/\H'=jc l l2 .busy .ready 0):=by
 refine gp.walk (b:=1) [2,6,7,46,50] [2] rfl rfl rfl fun w own I0 ao lay=>?_
 simp only[go_sem,Nat.reduceAdd,Nat.reduceLeDiff,Nat.reduceSub,Int.reduceToNat,reduceCtorEq,pQ,jc,gM,sg]
 refine gE @hnb ?_
 refine AE.begin (b:=1) rfl rfl _ ?_
 refine sI ?_
 refine gO ?_
 refine AQ.fn (by kernel_rfl) rfl rfl rfl (Mu t ht) rfl ?_
 refine sI ?_
 refine gE @hf ?_
 refine AE.gQ [4] rfl ?_
 refine sI ?_
 exact AE.vX (b:=1) rfl ⟨rfl,rfl⟩
theorem Ur (nb l l2:Nat) (t:Tm) (ht:aE t) (hf:eP 2 3 t≠0) (hnb:Nat.ble nb 4=true):gp Tryz.prog nb l [aP t] (jc l l2 .busy .ready 0) (fun r H'=>r=Bv false/\H'=jc l l2 .busy (.done .ret) (eP 2 3 t)):=by
 refine gp.walk (b:=1) [2,6,7,46,50] [2] rfl rfl rfl fun w own I0 ao lay=>?_
 simp only[go_sem,Nat.reduceAdd,Nat.reduceLeDiff,Nat.reduceSub,Int.reduceToNat,reduceCtorEq,pQ,jc,gM,sg]
 refine gE @hnb ?_
 refine AE.begin (b:=1) rfl rfl _ ?_
 refine sI ?_
 refine gO ?_
 refine AQ.fn (by kernel_rfl) rfl rfl rfl (Mu t ht) rfl ?_
 refine sI ?_
 refine gO ?_
 refine AP.cond rfl rfl (fun h=>?_) (fun h=>?_)
 ·refine gO ?_
  refine AE.gQ [4] rfl ?_
  refine sI ?_
  exact AE.QX (b:=1) rfl ⟨rfl,rfl⟩
 ·exact absurd (by simpa using h) hf
theorem abM (l l2:Nat) (t:Tm) (ht:aE t) (hf:eP 2 3 t=0):gp Tryz.prog 4 l2 [aP t] (jc l l2 .ready .ready 0) (fun r H'=>r=Bv true/\H'=jc l l2 .ready .ready 0):=by
 have hy:=Uq 4 l l2 t ht hf rfl
 refine gp.walk (b:=2) [2,7,23,26,27] [] rfl rfl rfl fun w own I0 ao lay=>?_
 simp only[go_sem,Nat.reduceAdd,Nat.reduceLeDiff,Nat.reduceSub,Int.reduceToNat,reduceCtorEq,pQ,jc,gM,sg]
 refine gO ?_
 refine AE.begin (b:=2) rfl rfl _ ?_
 refine sI ?_
 refine gO ?_
 refine AQ.fix 4 rfl rfl ?_
 refine sI ?_
 refine AQ.yL 4 (Nat.ble_eq_true_of_le (Nat.le_refl _)) (by kernel_rfl) rfl ⟨rfl,rfl⟩ rfl rfl hy (fun r H' h=>by rw[h.2];exact cE.of _ _ _ rfl) fun r H' h=>?_
 obtain⟨rfl,rfl⟩:=h
 simp only[go_sem,Nat.reduceAdd,Nat.reduceLeDiff,Nat.reduceSub,Int.reduceToNat,reduceCtorEq,jc,gM,sg]
 refine AQ.go (by kernel_rfl) ?_
 refine gO ?_
 exact AE.vX (b:=2) rfl ⟨rfl,rfl⟩
theorem abN (l l2:Nat) (t:Tm) (ht:aE t) (hf:eP 2 3 t≠0):gp Tryz.prog 4 l2 [aP t] (jc l l2 .ready .ready 0) (fun r H'=>r=Bv false/\H'=jc l l2 (.done .ret) (.done .ret) (eP 2 3 t)):=by
 have hy:=Ur 4 l l2 t ht hf rfl
 refine gp.walk (b:=2) [2,7,23,26,27] [] rfl rfl rfl fun w own I0 ao lay=>?_
 simp only[go_sem,Nat.reduceAdd,Nat.reduceLeDiff,Nat.reduceSub,Int.reduceToNat,reduceCtorEq,pQ,jc,gM,sg]
 refine gO ?_
 refine AE.begin (b:=2) rfl rfl _ ?_
 refine sI ?_
 refine gO ?_
 refine AQ.fix 4 rfl rfl ?_
 refine sI ?_
 refine AQ.yL 4 (Nat.ble_eq_true_of_le (Nat.le_refl _)) (by kernel_rfl) rfl ⟨rfl,rfl⟩ rfl rfl hy (fun r H' h=>by rw[h.2];exact cE.of _ _ _ rfl) fun r H' h=>?_
 obtain⟨rfl,rfl⟩:=h
 simp only[go_sem,Nat.reduceAdd,Nat.reduceLeDiff,Nat.reduceSub,Int.reduceToNat,reduceCtorEq,jc,gM,sg]
 refine AQ.go (by kernel_rfl) ?_
 refine gO ?_
 exact AE.QX (b:=2) rfl ⟨rfl,rfl⟩
def uJ (f:Tm->Int):List Tm->Nat
 |[]=>0
 |t::l=>if f t≠0 then 0 else uJ f l+1
theorem MC (f:Tm->Int):∀l:List Tm,(∀k,k<uJ f l->∃t,l[k]?=some t/\f t=0)/\(uJ f l<l.length->∃t,l[uJ f l]?=some t/\f t≠0/\kn f l=f t)/\(l.length<=uJ f l->kn f l=0)
 |[]=>⟨fun k h=>absurd h (Nat.not_lt_zero _),fun h=>absurd h (Nat.not_lt_zero _),fun _=>rfl⟩
 |t::l=>by
  obtain⟨U,h2,h3⟩:=MC f l
  rw[uJ,kn]
  by_cases h:f t≠0
  ·rw[if_pos h,if_pos h]
   exact⟨fun k h=>absurd h (Nat.not_lt_zero _),fun _=>⟨t,rfl,h,rfl⟩,fun h=>absurd h (by simp)⟩
  ·rw[if_neg h,if_neg h]
   refine⟨fun k hk=>?_,fun hk=>?_,fun hk=>h3 (by simpa using hk)⟩
   ·cases k with
    |zero=>exact⟨t,rfl,by simpa using h⟩
    |succ k=>obtain⟨u,h4,h5⟩:=U k (by omega);exact⟨u,h4,h5⟩
   ·obtain⟨u,h4,h5⟩:=h2 (by simpa using hk)
    exact⟨u,by rw[List.getElem?_cons_succ];exact h4,h5⟩
mutual
theorem R4:∀t,aE t->∀u∈b8 t,aE u
 | .mk n i xs,h,u,hu=>by
  rw[b8]at hu
  rcases List.mem_cons.1 hu with rfl|hu
  ·exact h
  ·rw[aE]at h;exact R8 xs h.2.2 u hu
theorem R8:∀l,b_ l->∀u∈cQ l,aE u
 |[],_,u,hu=>by rw[cQ]at hu;cases hu
 |t::l,h,u,hu=>by
  rw[cQ]at hu
  rw[b_]at h
  rcases List.mem_append.1 hu with hu|hu
  ·exact R4 t h.1 u hu
  ·exact R8 l h.2 u hu
end
theorem abE (l:Nat) (u:Lt) (hu:py u):dz Tryz.prog 1 149 [Yl l,.im (.pt [.sl 3 (dv [u])])] [(1,gM l .ready),(0,.var 30 [Iv 0])] (fun _ H'=>H'=[(1,gM l (if eg 2 3 u.xs=0 then .ready else .done .ret)),(0,.var 30 [Iv (eg 2 3 u.xs)])]):=by
 have pj:=hu.2.1
 have vm:dv [u]=[qw u]:=rfl
 rw[vm]
 refine dz.walk [0,1,2,4,6,7,8,9,10,11,15,16,17,18,22,23,27] [4,6,7] Tryz.func149 rfl Tryz.ntmps149 (by kernel_rfl) (by rfl) fun W own I0 ao lay=>?_
 simp only[go_sem,Nat.reduceAdd,Nat.reduceLeDiff,Nat.reduceSub,Int.reduceToNat,reduceCtorEq,gM]
 refine gO ?_
 refine AP.loop rfl (α:=Nat) (fun k=>[(2,.im (.pt [.v (.func (.yield l) #[] #[])])),(8,.im (.sl 3 [qw u])),(9,Iv 1),(10,Iv k)]) (fun k=>[(1,gM l .ready),(0,.var 30 [Iv 0])]) (fun k=>k<=1/\(k=1->eg 2 3 u.xs=0)) (fun k=>1-k) 0 ⟨by omega,by omega⟩ (sU) rfl fun k ⟨hk,mS⟩=>?_
 rcases Nat.eq_or_lt_of_le hk with aC|ag
 ·subst aC
  simp only[go_sem,Nat.reduceAdd,Nat.reduceLeDiff,Nat.reduceSub,Int.reduceToNat,reduceCtorEq,gM]
  refine gO ?_
  refine AE.kf rfl trivial ?_
  rw[mS rfl];rfl
 ·have nW:k=0:=by omega
  subst nW
  have lz:[qw u].getD 0 []=[Bi u.ng,Si u.pd,.sl 3 (aA u.xs)]:=rfl
  simp only[go_sem,Nat.reduceAdd,Nat.reduceLeDiff,Nat.reduceSub,Int.reduceToNat,reduceCtorEq,gM]
  refine gE (an @aj @lz) ?_
  refine AP.fix 2 rfl rfl ?_
  refine sI ?_
  refine AP.loop rfl (α:=Nat) (fun j=>[(2,.im (.pt [.v (.func (.yield l) #[] #[])])),(8,.im (.sl 3 [qw u])),(9,Iv 1),(10,Iv 0),(15,.im (.sl 3 (aA u.xs))),(16,Iv u.xs.length),(17,Iv j)]) (fun j=>[(1,gM l .ready),(0,.var 30 [Iv 0])]) (fun j=>j<=u.xs.length/\eg 2 3 u.xs=eg 2 3 (u.xs.drop j)) (fun j=>u.xs.length-j) 0 ⟨by omega,rfl⟩ (sU) rfl fun j ⟨hj,kF⟩=>?_
  rcases Nat.eq_or_lt_of_le hj with iS|mR
  ·subst iS
   simp only[go_sem,Nat.reduceAdd,Nat.reduceLeDiff,Nat.reduceSub,Int.reduceToNat,reduceCtorEq,gM]
   refine gO ?_
   refine cF ?_
   refine gO ?_
   rw[List.drop_length,eg]at kF
   exact AE.round 1 ⟨by omega,fun _=>kF⟩ (by omega) (sU) rfl
  ·obtain⟨v,hv,dV⟩:=dh u.xs j mR
   have gi:=wr (x:=(j:Int)+1) (by omega)
   simp only[go_sem,Nat.reduceAdd,Nat.reduceLeDiff,Nat.reduceSub,Int.reduceToNat,reduceCtorEq,gM]
   refine gE @aj ?_
   refine cT ?_
   refine gE (an @dV @aj) ?_
   refine AQ.fix 2 rfl rfl ?_
   refine sI ?_
   refine AQ.fn (by kernel_rfl) rfl rfl rfl (RX v) rfl ?_
   refine sI ?_
   refine gO ?_
   have fw:=dc hu.2.2 hv
   rw[F_ hv,Mm]at kF
   obtain⟨qf,gA,iV⟩:=MC (eP 2 3) (b8 v)
   have gg:=R4 v fw
   refine AP.Bg 2 1 2 [(2,.im (.pt [.v (.func (.yield l) #[] #[])]))] (R:=fun l2=>Jw (fun _=>jc l l2 .ready .ready 0) (uJ (eP 2 3) (b8 v)) (jc l l2 (.done .ret) (.done .ret) (kn (eP 2 3) (b8 v))) (b8 v).length) rfl rfl (by kernel_rfl) (sU) rfl rfl (fun l2=>?_) (fun l2 r H' hR=>?_)
   ·refine RW (M:=3) (Hs:=fun _=>[(2,sg l l2 .ready),(1,gM l .ready),(0,.var 30 [Iv 0])]) (Hx:=[(2,sg l l2 (.done .ret)),(1,gM l (.done .ret)),(0,.var 30 [Iv (kn (eP 2 3) (b8 v))])]) v fw ⟨fun k hk Ac=>?_,fun hk=>?_,fun _ _=>cE.of _ _ _ rfl,fun k=>cE.of _ _ _ rfl⟩ rfl (fun _=>rfl) (fun _ _=>rfl)
    ·obtain⟨t,ht,hf⟩:=qf k hk
     rw[BC ht]
     exact abM l l2 t (gg t (List.mem_of_getElem? ht)) hf
    ·obtain⟨t,ht,hf,he⟩:=gA hk
     rw[BC ht,he]
     exact abN l l2 t (gg t (List.mem_of_getElem? ht)) hf
   ·rcases hR with⟨U,rfl⟩|⟨U,rfl⟩
    ·refine⟨cE.of _ _ _ rfl,.ready,_,rfl,rfl,?_⟩
     rw[iV U,if_neg (by decide)]at kF
     simp only[go_sem,Nat.reduceAdd,Nat.reduceLeDiff,Nat.reduceSub,Int.reduceToNat,reduceCtorEq,jc,gM]
     refine gE @gi ?_
     refine AE.gQ [3] rfl ?_
     refine sI ?_
     exact AE.round (j+1) ⟨by omega,kF⟩ (by omega) (sU) rfl
    ·refine⟨cE.of _ _ _ rfl,.done .ret,_,rfl,rfl,?_⟩
     obtain⟨t,ht,hf,he⟩:=gA U
     rw[he,if_pos hf,<-he]at kF
     have aK:eg 2 3 u.xs≠0:=by rw[kF,he];exact hf
     simp only[go_sem,Nat.reduceAdd,Nat.reduceLeDiff,Nat.reduceSub,Int.reduceToNat,reduceCtorEq,jc,gM]
     refine gO ?_
     refine AE.a6 [3] rfl trivial rfl ?_
     rw[if_neg aK,kF];rfl
theorem y9 (c:List Lt) (hs:je c):aS Tryz.prog 15 [cq c] (Iv (ca 4 9 2 3 c)):=by
 have cG:=hs.1
 have fh:=Us c
 refine ai.walk [0,2,3,4,5,6,7,11,13,14,15,16,39,45,46,50] [2,5,6] Tryz.func15 rfl Tryz.ntmps15 (by kernel_rfl) (by rfl) rfl fun W own I0 ao lay=>?_
 refine gE @bp ?_
 refine AQ.fn (by kernel_rfl) rfl rfl rfl (Zi c hs) rfl ?_
 refine sI ?_
 refine gO ?_
 refine AP.cond rfl rfl (fun h=>?_) (fun h=>?_)
 ·have h:pv c≠0:=by simpa using h
  refine gO ?_
  exact AE.a6 [0] rfl ⟨⟨rfl,Nat.le_of_ble_eq_true (by kernel_rfl)⟩,trivial⟩ rfl ⟨rfl,by rw[fh,if_pos h];rfl⟩
 have h:¬pv c≠0:=by simpa using h
 rw[if_neg h]at fh
 have MQ:c.length<=40:=Zh h
 refine gE @bp ?_
 refine AP.loop rfl (α:=Nat) (fun k=>[(0,cq c),(2,.ob 0 0),(13,cq c),(14,Iv c.length),(15,Iv k)]) (fun k=>[(0,.var 30 [Iv 0])]) (fun k=>k<=c.length/\ca 4 9 2 3 c=l9 2 3 (c.drop k)) (fun k=>c.length-k) 0 ⟨by omega,fh⟩ (sU) rfl fun k ⟨hk,hm⟩=>?_
 rcases Nat.eq_or_lt_of_le hk with aC|ag
 ·rw[aC,List.drop_length,l9]at hm
  refine gO ?_
  refine cF ?_
  refine gO ?_
  exact AE.a6 [0] rfl ⟨⟨rfl,Nat.le_of_ble_eq_true (by kernel_rfl)⟩,trivial⟩ rfl ⟨rfl,by rw[hm];rfl⟩
 ·obtain⟨u,hu,aH⟩:=oq c k ag
  have hw:=wr (x:=(k:Int)+1) (by omega)
  have cS:=sB hs hu
  have xp:=cS.2.1
  rw[drop_cons hu,Mk]at hm
  refine gE @bp ?_
  refine cT ?_
  refine gE (an @aH (an @bp @aj)) ?_
  refine AQ.q_ (by kernel_rfl) rfl rfl (fun h=>by first|(simp[gs,AV.g];done)|(simp[gs,AV.g,cg];done)|(simp[gs,AV.g,cg,bw]at h⊢;done)|(simp[gs,AV.g,cg,bw]at h⊢;exact h)|(simp[gs,AV.g,cg,bw]at h⊢;simp[h];done)|(simp[bw]at h;done)|(simp[gs,AV.g,bw]at h⊢;simp[h];done)|(simp[gs,AV.g,bw]at h⊢;exact h.1)|(simp[gs,AV.g];rfl)|(simp[gs,AV.g,bw]at h⊢;rfl)|(simp[gs,AV.g,bw]at h⊢;simp[h];rfl)|(simp[gs,AV.g,bw]at h⊢;simp_all)) rfl (fun _=>OX u.pd (by have:=cS.1;omega)) rfl ?_
  refine sI ?_
  refine gE @aj ?_
  refine AP.cond rfl rfl (fun h5=>?_) (fun h5=>?_)
  ·have h5:=(Mt u.pd u.xs.length (fq u.pd)).1 h5
   rw[if_pos h5]at hm
   refine gO ?_
   exact AE.a6 [1,0] rfl ⟨⟨rfl,Nat.le_of_ble_eq_true (by kernel_rfl)⟩,trivial⟩ rfl ⟨rfl,by rw[hm];rfl⟩
  ·have h5:¬((u.pd≠[61]/\fq u.pd=false)\/(u.pd=[61]/\u.xs.length≠2)):=fun hh=>by
    have h6:=(Mt u.pd u.xs.length (fq u.pd)).2 hh
    exact absurd (h6.symm.trans h5) (by decide)
   rw[if_neg h5]at hm
   have As:List.drop k (List.take (k+1) (dv c))=dv [u]:=by
    rw[dv,<-List.map_take,<-List.map_drop,dE hu,List.drop_append_of_le_length (by rw[List.length_take];omega),List.drop_take_self];rfl
   have mq:((k:Int)+1).toNat=k+1:=by omega
   refine gE @bp ?_
   rw[hw]
   refine AQ.fix 1 rfl rfl ?_
   refine sE (an @mq @As) ?_
   refine AQ.fn (by kernel_rfl) rfl rfl rfl (abD [u]) rfl ?_
   refine sI ?_
   refine gO ?_
   have ht:=fun l=>abE l u cS
   refine AP.Bg 1 0 1 [(2,.ob 0 0)] (R:=fun l _ H'=>H'=[(1,gM l (if eg 2 3 u.xs=0 then .ready else .done .ret)),(0,.var 30 [Iv (eg 2 3 u.xs)])]) rfl rfl (by kernel_rfl) (sU) rfl rfl ht (fun l r H' hR=>?_)
   subst hR
   by_cases hf:eg 2 3 u.xs=0
   ·rw[if_neg (by simpa using hf)]at hm
    rw[if_pos hf,hf]
    refine⟨cE.of _ _ _ rfl,.ready,_,rfl,rfl,?_⟩
    refine sI ?_
    refine gE @hw ?_
    exact AE.round (k+1) ⟨by omega,hm⟩ (by omega) (sU) rfl
   ·rw[if_pos hf]at hm
    rw[if_neg hf]
    refine⟨cE.of _ _ _ rfl,.done .ret,_,rfl,rfl,?_⟩
    refine sI ?_
    refine gO ?_
    exact AE.a6 [0] rfl ⟨⟨rfl,Nat.le_of_ble_eq_true (by kernel_rfl)⟩,trivial⟩ rfl ⟨rfl,by rw[hm];rfl⟩
def eL {α:Type}:List (Int×α)->Int->Option Nat
 |[],_=>none
 |p::m,v=>if p.1=v then some 0 else(eL m v).map (·+1)
def bo {α:Type}:List (Int×α)->Int->Option α
 |[],_=>none
 |p::m,v=>if p.1=v then some p.2 else bo m v
def qD {α:Type} (m:List (Int×α)) (v:Int) (x:α):List (Int×α):=match eL m v with
 |some j=>m.set j (v,x)
 |none=>m++[(v,x)]
theorem vz {α:Type}:∀{m:List (Int×α)} {v:Int} {j:Nat},eL m v=some j->∃x,m[j]?=some (v,x)/\bo m v=some x
 |[],v,j,h=>by cases h
 |p::m,v,j,h=>by
  rw[eL]at h
  rw[bo]
  by_cases hp:p.1=v
  ·rw[if_pos hp]at h⊢
   cases h
   exact⟨p.2,by rw[List.getElem?_cons_zero,<-hp],rfl⟩
  ·rw[if_neg hp]at h⊢
   cases hq:eL m v with
   |none=>rw[hq]at h;cases h
   |some i=>
    rw[hq]at h;cases h
    obtain⟨x,U,h2⟩:=vz hq
    exact⟨x,by rw[List.getElem?_cons_succ];exact U,h2⟩
theorem rQ {α:Type}:∀{m:List (Int×α)} {v:Int},eL m v=none->bo m v=none/\v∉m.map (·.1)
 |[],v,h=>⟨rfl,by simp⟩
 |p::m,v,h=>by
  rw[eL]at h
  rw[bo]
  by_cases hp:p.1=v
  ·rw[if_pos hp]at h;cases h
  ·rw[if_neg hp]at h⊢
   cases hq:eL m v with
   |some i=>rw[hq]at h;cases h
   |none=>
    obtain⟨U,h2⟩:=rQ hq
    exact⟨U,by rw[List.map_cons,List.mem_cons];rintro(h|h);exact hp h.symm;exact h2 h⟩
theorem IH {α:Type} {m:List (Int×α)} {v:Int}:bo m v=none↔eL m v=none:=by
 constructor
 ·intro h
  cases hq:eL m v with
  |none=>rfl
  |some j=>obtain⟨x,_,h2⟩:=vz hq;rw[h]at h2;cases h2
 ·exact fun h=>(rQ h).1
theorem DY {α:Type} {m:List (Int×α)} {v:Int} {x:α} (h:bo m v=some x):∃j,eL m v=some j/\m[j]?=some (v,x):=by
 cases hq:eL m v with
 |none=>rw[(rQ hq).1]at h;cases h
 |some j=>
  obtain⟨y,U,h2⟩:=vz hq
  rw[h]at h2;cases h2
  exact⟨j,rfl,U⟩
theorem Pc {α:Type} (m:List (Int×α)) (v:Int) (x:α) (w:Int):bo (qD m v x) w=if w=v then some x else bo m w:=by
 rw[qD]
 have aR:∀(m:List (Int×α)) (j:Nat),eL m v=some j->bo (m.set j (v,x)) w=if w=v then some x else bo m w:=by
  intro m
  induction m with
  |nil=>intro j h;cases h
  |cons p m ih=>
   intro j h
   rw[eL]at h
   by_cases hp:p.1=v
   ·rw[if_pos hp]at h;cases h
    rw[List.set_cons_zero,bo,bo]
    by_cases hw:w=v
    ·rw[if_pos hw,if_pos hw.symm]
    ·rw[if_neg hw,if_neg (fun h=>hw h.symm),if_neg (fun h=>hw (h.symm.trans hp))]
   ·rw[if_neg hp]at h
    cases hq:eL m v with
    |none=>rw[hq]at h;cases h
    |some i=>
     rw[hq]at h;cases h
     rw[List.set_cons_succ,bo,bo,ih i hq]
     by_cases hw:w=v
     ·rw[if_pos hw,if_neg (fun h=>hp (h.trans hw)),if_pos hw]
     ·rw[if_neg hw,if_neg hw]
 cases hq:eL m v with
 |some j=>exact aR m j hq
 |none=>
  have h0:=(rQ hq).1
  have zJ:∀m:List (Int×α),bo (m++[(v,x)]) w=match bo m w with
   |some y=>some y
   |none=>if v=w then some x else none:=by
   intro m
   induction m with
   |nil=>rw[List.nil_append,bo,bo,bo]
   |cons p m ih=>
    rw[List.cons_append,bo,bo]
    by_cases hp:p.1=w
    ·rw[if_pos hp,if_pos hp]
    ·rw[if_neg hp,if_neg hp,ih]
  rw[zJ]
  by_cases hw:w=v
  ·subst hw;simp only[h0,if_pos]
  ·rw[if_neg hw]
   cases bo m w with
   |some y=>rfl
   |none=>simp only[if_neg (fun h=>hw (Eq.symm h))]
def kI {α:Type} (m:List (Int×α)):List Value:=m.map fun p=> .int .i64 p.1
theorem AT {α:Type} (m:List (Int×α)):(kI m).length=m.length:=List.length_map ..
theorem jQ {α:Type} (m:List (Int×α)):uc (.int .i64) (kI m):=fun v hv=>by
 obtain⟨p,_,rfl⟩:=List.mem_map.1 hv
 rfl
theorem Ip {α:Type} (m:List (Int×α)):∀k∈kI m,k.oneCell'=true:=fun v hv=>by
 obtain⟨p,_,rfl⟩:=List.mem_map.1 hv
 rfl
theorem qt {α:Type} {m:List (Int×α)} {v:Int} (h:eL m v=none):Value.int .i64 v∉kI m:=fun hc=>by
 obtain⟨p,hp,e⟩:=List.mem_map.1 hc
 cases e
 exact(rQ h).2 (List.mem_map.2 ⟨p,hp,rfl⟩)
theorem tn {α:Type} {m:List (Int×α)} {j:Nat} {p:Int×α} (h:m[j]?=some p):(kI m)[j]?=some (.int .i64 p.1):=by rw[kI,List.getElem?_map,h];rfl
theorem DR {α:Type} {m:List (Int×α)} {j:Nat} {k:Value} (h:(kI m)[j]?=some k):∃p,m[j]?=some p/\k= .int .i64 p.1:=by
 rw[kI,List.getElem?_map]at h
 cases hq:m[j]? with
 |none=>rw[hq]at h;cases h
 |some p=>rw[hq]at h;exact⟨p,rfl,by simpa using h.symm⟩
def fp {α:Type} (m:List (Int×α)):Prop:=(m.map (·.1)).Nodup
theorem tq {α:Type} {m:List (Int×α)} (bX:fp m) {v:Int} {x:α} {j i:Nat} (hj:m[j]?=some (v,x)) (hi:(kI m)[i]?=some (.int .i64 v)):i=j:=by
 obtain⟨p,hp,e⟩:=DR hi
 cases e
 have U:(m.map (·.1))[i]?=some p.1:=by rw[List.getElem?_map,hp];rfl
 have h2:(m.map (·.1))[j]?=some p.1:=by rw[List.getElem?_map,hj];rfl
 obtain⟨a1,b1⟩:=List.getElem?_eq_some_iff.1 U
 obtain⟨a2,b2⟩:=List.getElem?_eq_some_iff.1 h2
 exact(List.getElem_inj bX).1 (b1.trans b2.symm)
theorem Iq {α:Type} (m:List (Int×α)) (v:Int) (x:α):kI (qD m v x)=match eL m v with
  |some _=>kI m
  |none=>kI m++[.int .i64 v]:=by
 rw[qD]
 cases h:eL m v with
 |none=>simp[kI]
 |some j=>
  obtain⟨y,U,_⟩:=vz h
  simp only[kI,List.map_set]
  exact List.ext_getElem? fun i=>by
   rw[List.getElem?_set]
   by_cases fT:j=i
   ·subst fT
    rw[if_pos rfl,List.getElem?_map,U]
    have:=(List.getElem?_eq_some_iff.1 U).1
    rw[if_pos (by simpa using this)];rfl
   ·rw[if_neg fT]
theorem ZY {α:Type} {m:List (Int×α)} (h:fp m) (v:Int) (x:α):fp (qD m v x):=by
 have hk:(qD m v x).map (·.1)=match eL m v with
  |some _=>m.map (·.1)
  |none=>m.map (·.1)++[v]:=by
  have:=Iq m v x
  have hi:∀m:List (Int×α),(kI m).map (fun u=>match u with| .int _ n=>n|_=>0)=m.map (·.1):=fun m=>by simp[kI,Function.comp_def]
  rw[<-hi (qD m v x),this]
  cases eL m v with
  |some j=>exact hi m
  |none=>rw[List.map_append,hi];rfl
 rw[fp,hk]
 cases hq:eL m v with
 |some j=>exact h
 |none=>
  refine List.nodup_append.2 ⟨h,by simp,fun a ha b hb=>?_⟩
  rw[List.mem_singleton]at hb
  subst hb
  exact fun e=>(rQ hq).2 (e▸ha)
theorem PW {α:Type}:∀{m:List (Int×α)} {v:Int} {x:α},fp m->(v,x)∈m->bo m v=some x
 |[],v,x,_,h=>by cases h
 |p::m,v,x,bX,h=>by
  rw[fp,List.map_cons,List.nodup_cons]at bX
  rw[bo]
  rcases List.mem_cons.1 h with rfl|h
  ·rw[if_pos rfl]
  ·rw[if_neg (fun e=>bX.1 (List.mem_map.2 ⟨(v,x),h,e.symm⟩)),PW bX.2 h]
theorem xX {α:Type} {m:List (Int×α)} {v:Int} {x:α} (h:bo m v=some x):(v,x)∈m:=by
 obtain⟨j,_,h2⟩:=DY h
 exact List.mem_of_getElem? h2
def vN (m:List (Int×Int)):List AV:=m.map fun p=>Iv p.2
theorem ab7 (m:List (Int×Int)):(vN m).length=m.length:=List.length_map ..
@[go_sem] theorem Bj (ρ:Nat->Nat):∀m:List (Int×Int),AV.cU ρ (vN m)=vN m
 |[]=>rfl
 |_::m=>by rw[vN,List.map_cons,AV.cU,<-vN,Bj ρ m];rfl
@[go_sem] theorem YX (b:Nat):∀m:List (Int×Int),iY b (vN m)=vN m
 |[]=>rfl
 |_::m=>by rw[vN,List.map_cons,iY,<-vN,YX b m];rfl
@[go_sem] theorem iB (b:Nat):∀m:List (Int×Int),AV.mens b (vN m)=false
 |[]=>rfl
 |_::m=>by rw[vN,List.map_cons,AV.mens,<-vN,iB b m];rfl
@[go_sem] theorem Vw (b:Nat):∀m:List (Int×Int),AV.jh b (vN m)=false
 |[]=>rfl
 |_::m=>by rw[vN,List.map_cons,AV.jh,<-vN,Vw b m];rfl
@[go_sem] theorem Mx (b:Nat) (l:List IV):∀m:List (Int×Int),jg b l (vN m)=vN m
 |[]=>rfl
 |_::m=>by rw[vN,List.map_cons,jg,<-vN,Mx b l m];rfl
@[go_sem] theorem Vm (b es:Nat) (rows:List (List IV)):∀m:List (Int×Int),gS b es rows (vN m)=vN m
 |[]=>rfl
 |_::m=>by rw[vN,List.map_cons,gS,<-vN,Vm b es rows m];rfl
@[go_sem] theorem Vj (b:Nat) (rows:List (List IV)):∀m:List (Int×Int),fO b rows (vN m)=True
 |[]=>rfl
 |_::m=>by rw[vN,List.map_cons,fO,<-vN,Vj b rows m];simp[eK]
theorem E3 {m:List (Int×Int)} {j:Nat} {p:Int×Int} (h:m[j]?=some p):(vN m)[j]?=some (Iv p.2):=by rw[vN,List.getElem?_map,h];rfl
theorem Ss (m:List (Int×Int)) (v:Int) (x:Int):vN (qD m v x)=match eL m v with
  |some j=>(vN m).set j ((fun p:Int×Int=>Iv p.2) (v,x))
  |none=>vN m++[(fun p:Int×Int=>Iv p.2) (v,x)]:=by
 rw[qD]
 cases eL m v with
 |none=>simp only[vN,List.map_append];rfl
 |some j=>simp[vN,List.map_set]
def vT (m:List (Int×Tm)):List AV:=m.map fun p=>aP p.2
theorem Sw (m:List (Int×Tm)):(vT m).length=m.length:=List.length_map ..
@[go_sem] theorem tN (ρ:Nat->Nat):∀m:List (Int×Tm),AV.cU ρ (vT m)=vT m
 |[]=>rfl
 |_::m=>by rw[vT,List.map_cons,AV.cU,<-vT,tN ρ m];rfl
@[go_sem] theorem YY (b:Nat):∀m:List (Int×Tm),iY b (vT m)=vT m
 |[]=>rfl
 |_::m=>by rw[vT,List.map_cons,iY,<-vT,YY b m];rfl
@[go_sem] theorem lM (b:Nat):∀m:List (Int×Tm),AV.mens b (vT m)=false
 |[]=>rfl
 |_::m=>by rw[vT,List.map_cons,AV.mens,<-vT,lM b m];rfl
@[go_sem] theorem Vx (b:Nat):∀m:List (Int×Tm),AV.jh b (vT m)=false
 |[]=>rfl
 |_::m=>by rw[vT,List.map_cons,AV.jh,<-vT,Vx b m];rfl
@[go_sem] theorem Vh (b:Nat) (l:List IV):∀m:List (Int×Tm),jg b l (vT m)=vT m
 |[]=>rfl
 |_::m=>by rw[vT,List.map_cons,jg,<-vT,Vh b l m];rfl
@[go_sem] theorem Vn (b es:Nat) (rows:List (List IV)):∀m:List (Int×Tm),gS b es rows (vT m)=vT m
 |[]=>rfl
 |_::m=>by rw[vT,List.map_cons,gS,<-vT,Vn b es rows m];rfl
@[go_sem] theorem Vk (b:Nat) (rows:List (List IV)):∀m:List (Int×Tm),fO b rows (vT m)=True
 |[]=>rfl
 |_::m=>by rw[vT,List.map_cons,fO,<-vT,Vk b rows m];simp[eK,fO]
theorem Su {m:List (Int×Tm)} {j:Nat} {p:Int×Tm} (h:m[j]?=some p):(vT m)[j]?=some (aP p.2):=by rw[vT,List.getElem?_map,h];rfl
def vZ (m:List (Int×Int×Int)):List AV:=m.map fun p=> .agg [Iv p.2.1,Iv p.2.2]
@[go_sem] theorem aaY (ρ:Nat->Nat):∀m:List (Int×Int×Int),AV.cU ρ (vZ m)=vZ m
 |[]=>rfl
 |_::m=>by rw[vZ,List.map_cons,AV.cU,<-vZ,aaY ρ m];rfl
@[go_sem] theorem YZ (b:Nat):∀m:List (Int×Int×Int),iY b (vZ m)=vZ m
 |[]=>rfl
 |_::m=>by rw[vZ,List.map_cons,iY,<-vZ,YZ b m];rfl
@[go_sem] theorem ZL (b:Nat):∀m:List (Int×Int×Int),AV.mens b (vZ m)=false
 |[]=>rfl
 |_::m=>by rw[vZ,List.map_cons,AV.mens,<-vZ,ZL b m];rfl
@[go_sem] theorem Vy (b:Nat):∀m:List (Int×Int×Int),AV.jh b (vZ m)=false
 |[]=>rfl
 |_::m=>by rw[vZ,List.map_cons,AV.jh,<-vZ,Vy b m];rfl
@[go_sem] theorem Vi (b:Nat) (l:List IV):∀m:List (Int×Int×Int),jg b l (vZ m)=vZ m
 |[]=>rfl
 |_::m=>by rw[vZ,List.map_cons,jg,<-vZ,Vi b l m];rfl
@[go_sem] theorem Vo (b es:Nat) (rows:List (List IV)):∀m:List (Int×Int×Int),gS b es rows (vZ m)=vZ m
 |[]=>rfl
 |_::m=>by rw[vZ,List.map_cons,gS,<-vZ,Vo b es rows m];rfl
@[go_sem] theorem Vl (b:Nat) (rows:List (List IV)):∀m:List (Int×Int×Int),fO b rows (vZ m)=True
 |[]=>rfl
 |_::m=>by rw[vZ,List.map_cons,fO,<-vZ,Vl b rows m];simp[eK,fO]
section
open Go.MapKept
variable {C:Cx} {K:List PK} {E:Env} {H:aa}
theorem AQ.Zt {ds:List (Nat×Nat)} {i:Nat} {d:Option Nat} {ty t kt et:TypeId} {pos:String} {af:Array Edge} {os:List Oper} {m k:Operand} {ok:Bool} {b:Nat} {ks:List Value} {cs:List AV} {kv z:Value} {dk:TypeDesc} (xz:AV)
  (ah:ba C.n ({dst:=d,op:= .lookup t m k ok,type:=ty,pos:=pos,after:=af,guard:=none}::os)=true)
  (hm:ev E m=some (.mp b)) (hk:ev E k=some (.im (.v kv))) (hH:lk H b=some (.var (.map ks) cs)) (ht:C.P.underlying t=some (.map kt et)) (hd:C.P.underlying kt=some dk)
  (fF:uc dk ks) (jj:Go.MapKept.IsKey dk kv) (dP:kv∉ks) (hz:(C.P.info? et).bind (·.zero)=some z) (fI:∀w φ I,AV.den w φ I xz z)
  (h:vq C K os (aZ d i ds) (i+1) (a7 d (bif ok then .aI [xz,.im (.v (.bool false))]else xz) E) H):
  AQ C ds i ({dst:=d,op:= .lookup t m k ok,type:=ty,pos:=pos,after:=af,guard:=none}::os) K E H:=by
 refine AQ.val (bif ok then .aI [xz,.im (.v (.bool false))]else xz) ah rfl (fun φ I a w hs=>?_) h
 obtain⟨g,es,clock,fH,hg,hh,aC,mf,kA⟩:=vG hs.st.real hH (aO hs.env hm)
 have gT:=aO hs.env hk
 simp only[AV.den,IV.den]at gT
 rcases A2 aC fF jj with⟨U,_⟩|⟨j',e,U,h2,h3,h4⟩
 ·have AG:(zeroValue et).run C.P w= .ok z w:=by
   cases hi:C.P.info? et with
   |none=>rw[hi]at hz;cases hz
   |some inf=>
    rw[hi]at hz
    simp only[Option.bind_some]at hz
    simp[zeroValue,typeInfo,hi,hz]
  have aF:(Instr.lookup t (a.eval m) (a.eval k) ok).run C.P w= .ok (if ok then .tuple #[z,.bool false]else z) w:=by
   rw[fH,gT.1]
   cases ok<;>simp[Instr.lookup,run_underlying ht,MapKept.run_getObj_map hh,run_checkKey hd jj,run_findKey hd U,AG,Result.andThen]
  refine⟨if ok then .tuple #[z,.bool false]else z,by simp only[execOp,Sem.run_bind,Sem.run_map,aF,Result.andThen_ok,Sem.run_pure],?_⟩
  cases ok with
  |true=>simp only[cond_true,if_true,AV.den,AV.ab,IV.den];exact⟨_,⟨_,_,rfl,fI _ _ _,_,_,rfl,⟨rfl,rfl⟩,rfl⟩,rfl⟩
  |false=>simp only[cond_false,Bool.false_eq_true,if_false];exact fI _ _ _
 ·exact absurd (List.mem_of_getElem? h4) dP
end
theorem u3:Tryz.prog.underlying 3=some (.int .i64):=by kernel_rfl
theorem pN:Tryz.prog.underlying 149=some (.map 3 3):=by kernel_rfl
def bump (m:List (Int×Int)) (v:Int):List (Int×Int):=qD m v ((bo m v).getD 0+1)
def stM (m:List (Int×Int)) (x:Tm):List (Int×Int):=if x.nm=[]then bump m x.ix else m
def eO (xs:List Tm):List (Int×Int):=xs.foldl stM []
def lX (xs:List Tm):List Int:=xs.flatMap fun x=>if x.nm=[]then[x.ix]else[]
theorem Uw (xs:List Tm) (x:Tm):eO (xs++[x])=stM (eO xs) x:=by rw[eO,List.foldl_append];rfl
theorem Mq:∀(xs:List Tm) (m:List (Int×Int)),fp m->fp (xs.foldl stM m)
 |[],m,h=>h
 |x::xs,m,h=>Mq xs _ (by
   rw[stM]
   by_cases hx:x.nm=[]
   ·rw[if_pos hx];exact ZY h _ _
   ·rw[if_neg hx];exact h)
theorem Cl (xs:List Tm):fp (eO xs):=Mq xs [] List.nodup_nil
theorem Mp:∀(xs:List Tm) (m:List (Int×Int)) (v:Int),(∀v,(bo m v).getD 0≥0/\(bo m v=none\/(bo m v).getD 0>0))->
  (bo (xs.foldl stM m) v).getD 0=(bo m v).getD 0+(lX xs).count v/\(bo (xs.foldl stM m) v=none\/(bo (xs.foldl stM m) v).getD 0>0)
 |[],m,v,h=>⟨by simp[lX],(h v).2⟩
 |x::xs,m,v,h=>by
  have U:∀v,(bo (stM m x) v).getD 0=(bo m v).getD 0+((if x.nm=[]then[x.ix]else[]):List Int).count v:=fun v=>by
   rw[stM]
   by_cases hx:x.nm=[]
   ·rw[if_pos hx,if_pos hx,bump,Pc]
    by_cases hv:v=x.ix
    ·subst hv;rw[if_pos rfl];simp
    ·rw[if_neg hv,List.count_cons_of_ne (fun e=>hv e.symm)];simp
   ·rw[if_neg hx,if_neg hx];simp
  have h2:∀v,(bo (stM m x) v).getD 0≥0/\(bo (stM m x) v=none\/(bo (stM m x) v).getD 0>0):=fun v=>by
   refine⟨by rw[U];have:=(h v).1;omega,?_⟩
   by_cases hx:x.nm=[]
   ·by_cases hv:v=x.ix
    ·refine .inr ?_
     rw[U,if_pos hx,<-hv]
     have:=(h v).1
     simp;omega
    ·rw[stM,if_pos hx,bump,Pc,if_neg hv];exact(h v).2
   ·rw[stM,if_neg hx];exact(h v).2
  obtain⟨a,b⟩:=Mp xs (stM m x) v h2
  rw[List.foldl_cons]
  refine⟨?_,b⟩
  rw[a,U,show lX (x::xs)=(if x.nm=[]then[x.ix]else[])++lX xs by simp[lX],List.count_append]
  omega
theorem zc (xs:List Tm) (v:Int):(bo (eO xs) v).getD 0=(lX xs).count v:=by
 have:=(Mp xs [] v fun v=>⟨by simp[bo],.inl rfl⟩).1
 rw[eO,this];simp[bo]
mutual
theorem BI:∀t,bJ t=lX (b8 t)
 | .mk n i xs=>by
  rw[bJ,b8,SK xs]
  by_cases h:n=[]<;>simp[lX,Tm.nm,Tm.ix,h]
theorem SK:∀l,aW l=lX (cQ l)
 |[]=>by rw[aW,cQ];rfl
 |t::l=>by rw[aW,cQ,BI t,SK l];simp[lX]
end
mutual
theorem SO:∀t,wT t=(b8 t).length
 | .mk n i xs=>by rw[wT,b8,SQ xs,List.length_cons];omega
theorem SQ:∀l,aD l=(cQ l).length
 |[]=>by rw[aD,cQ];rfl
 |t::l=>by rw[aD,cQ,SO t,SQ l,List.length_append]
end
theorem count_le (xs:List Tm) (v:Int):(lX xs).count v<=xs.length:=by
 induction xs with
 |nil=>simp[lX]
 |cons x xs ih=>
  rw[show lX (x::xs)=(if x.nm=[]then[x.ix]else[])++lX xs by simp[lX],List.count_append,List.length_cons]
  have:((if x.nm=[]then[x.ix]else[]):List Int).count v<=1:=by
   by_cases hx:x.nm=[]
   ·rw[if_pos hx];exact Nat.le_trans (List.count_le_length) (by simp)
   ·rw[if_neg hx];simp
  omega
noncomputable def uv (l:Nat) (st:iK):Ob:= .lp l 23 st Tryz.f208 [0,1,0,1,1] [10] [(4,.ob 1 0),(5,.ob 2 0)]
noncomputable def sC (l:Nat) (st:iK) (xs:List Tm):aa:=[(4,t_ l 4),(3,uv l st),(2,.var 3 [Iv xs.length]),(1,.var 149 [.mp 0]),(0,.var (.map (kI (eO xs))) (vN (eO xs)))]
theorem UB (l:Nat) (xs:List Tm) (x:Tm) (hx:xs.length<=1000000):gp Tryz.prog 5 l [aP x] (sC l .ready xs) (fun r H'=>r=Bv true/\H'=sC l .ready (xs++[x])):=by
 have hw:=wr (x:=(xs.length:Int)+1) (by omega)
 have bl:=Uw xs x
 have bX:=Cl xs
 have jD:∀v,(0:Int)<=(bo (eO xs) v).getD 0/\(bo (eO xs) v).getD 0<=xs.length:=fun v=>by rw[zc];have:=count_le xs v;omega
 have hlen:((xs.length:Int)+1)=((xs++[x]).length:Nat):=by simp
 refine gp.walk (b:=3) [4,5,6,10,15] [4,5] rfl rfl rfl fun w own I0 ao lay=>?_
 simp only[go_sem,Nat.reduceAdd,Nat.reduceLeDiff,Nat.reduceSub,Int.reduceToNat,reduceCtorEq,pQ,sC,uv]
 refine gO ?_
 refine AE.begin (b:=3) rfl rfl _ ?_
 refine sI ?_
 refine gE @hw ?_
 refine AP.fix 5 rfl rfl ?_
 refine sI ?_
 refine AP.cond rfl rfl (fun h=>?_) (fun h=>?_)
 ·have h:x.nm=[]:=by simpa using h
  rw[stM,if_pos h,bump]at bl
  refine gO ?_
  cases hq:eL (eO xs) x.ix with
  |none=>
   have o9:(bo (eO xs) x.ix).getD 0=0:=by rw[(rQ hq).1];rfl
   rw[o9]at bl
   refine AQ.D5 (by kernel_rfl) rfl rfl rfl pN u3 (jQ _) rfl (qt hq) rfl rfl ?_
   refine sI ?_
   refine gO ?_
   refine AQ.D_ (by kernel_rfl) rfl rfl rfl rfl pN u3 (jQ _) rfl (qt hq) ?_
   refine sI ?_
   refine gO ?_
   refine AE.vX (b:=3) rfl ⟨rfl,?_⟩
   have e1:=Iq (eO xs) x.ix (0+1)
   have e2:=Ss (eO xs) x.ix (0+1)
   rw[hq]at e1 e2
   rw[bl,<-hlen,e1,e2];rfl
  |some j=>
   obtain⟨y,U,h2⟩:=vz hq
   refine AQ.vF j (by kernel_rfl) rfl rfl rfl pN u3 (jQ _) rfl (List.mem_of_getElem? (tn U)) (fun i hi=>tq bX U hi) (E3 U) ?_
   have hy:=jD x.ix
   rw[h2]at bl hy
   have Ov:=wr (x:=y+1) (by simp only[Option.getD_some]at hy;omega)
   refine sI ?_
   refine gE @Ov ?_
   refine AQ.I6 j (by kernel_rfl) rfl rfl rfl rfl pN u3 (jQ _) rfl (List.mem_of_getElem? (tn U)) (fun i hi=>tq bX U hi) ?_
   refine sI ?_
   refine gO ?_
   refine AE.vX (b:=3) rfl ⟨rfl,?_⟩
   have e1:=Iq (eO xs) x.ix (y+1)
   have e2:=Ss (eO xs) x.ix (y+1)
   rw[hq]at e1 e2
   rw[bl,<-hlen,Option.getD_some,e1,e2,Ov];rfl
 ·have h:¬x.nm=[]:=by simpa using h
  rw[stM,if_neg h]at bl
  refine gO ?_
  exact AE.vX (b:=3) rfl ⟨rfl,by rw[bl,<-hlen];rfl⟩
theorem Lr (t:Tm) (ht:aE t) (hw:wT t<=1000000):ai Tryz.prog 208 [aP t] [] (fun r H'=>r= .aI [.mp 0,Iv (wT t)]/\H'=[(0,.var (.map (kI (eO (b8 t)))) (vN (eO (b8 t))))]):=by
 refine ai.walk [0,1,2,3,4,5,6,9,10,15] [4,5,6] Tryz.func208 rfl Tryz.ntmps208 (by kernel_rfl) (by rfl) rfl fun W own I0 ao lay=>?_
 refine gO ?_
 refine AQ.A5 (by kernel_rfl) ?_
 refine sI ?_
 refine gO ?_
 refine AQ.fn (by kernel_rfl) rfl rfl rfl (RX t) rfl ?_
 refine sI ?_
 refine gO ?_
 have hlen:=SO t
 have jk:∀l k k',cE 5 (sC l .ready ((b8 t).take k)) (sC l .ready ((b8 t).take k')):=fun l k k'=>cE.of _ _ _ rfl
 refine AP.Bg 3 0 3 [(4,.ob 1 0),(5,.ob 2 0)] (R:=fun l=>Jw (fun k=>sC l .ready ((b8 t).take k)) (b8 t).length [(4,t_ l 4),(3,uv l .ready),(2,.var 3 []),(1,.var 3 []),(0,.var 3 [])] (b8 t).length) rfl rfl (by kernel_rfl) (sU) rfl rfl (fun l=>?_) (fun l r H' hR=>?_)
 ·refine RW (nb:=3) (M:=4) (m:=(b8 t).length) (Hs:=fun k=>[(3,uv l .ready),(2,.var 3 [Iv ((b8 t).take k).length]),(1,.var 149 [.mp 0]),(0,.var (.map (kI (eO ((b8 t).take k)))) (vN (eO ((b8 t).take k))))]) (Hx:=[(3,uv l .ready),(2,.var 3 []),(1,.var 3 []),(0,.var 3 [])]) t ht ⟨fun k hk Ac=>?_,fun hk=>absurd hk (Nat.lt_irrefl _),fun k k'=>jk l k k',fun k=>cE.of _ _ _ rfl⟩ rfl (fun _=>rfl) (fun _ _=>?_)
  ·obtain⟨u,hu⟩:∃u,(b8 t)[k]?=some u:=⟨_,List.getElem?_eq_getElem Ac⟩
   have:=UB l ((b8 t).take k) u (by rw[List.length_take];omega)
   rw[BC hu]
   rw[<-dE hu]at this
   exact this
  ·simp only[kg,sN,jg,gw,Mx];rfl
 ·rcases hR with⟨U,rfl⟩|⟨U,rfl⟩
  ·refine⟨cE.of _ _ _ rfl,.ready,_,rfl,by simp only[go_sem,Nat.reduceAdd,Nat.reduceLeDiff,Nat.reduceSub,Int.reduceToNat,reduceCtorEq,sC,uv,noMen,AV.mens,AV.men,iB,Bool.or_false];first|done|rfl,?_⟩
   simp only[go_sem,Nat.reduceAdd,Nat.reduceLeDiff,Nat.reduceSub,Int.reduceToNat,reduceCtorEq,sC,uv,List.take_length]
   refine gO ?_
   exact AE.a6 [4,2,1] rfl ⟨rfl,rfl,trivial⟩ (by simp only[go_sem,Nat.reduceAdd,Nat.reduceLeDiff,Nat.reduceSub,Int.reduceToNat,reduceCtorEq,cw,noMen,AV.mens,AV.men,iB,Bool.or_false];first|done|rfl) ⟨by rw[hlen];rfl,rfl⟩
  ·exact absurd U (Nat.lt_irrefl _)
def tZ (bs seen:List Nat):Nat:=(bs.filter fun n=>decide (n∉seen)).length
theorem Sn {bs seen:List Nat} {n:Nat} (h:n∈bs) (hs:n∉seen):tZ bs (seen++[n])<tZ bs seen:=by
 induction bs with
 |nil=>cases h
 |cons a l ih=>
  have hle:∀l:List Nat,tZ l (seen++[n])<=tZ l seen:=fun l=>by
   induction l with
   |nil=>exact Nat.le_refl _
   |cons b m ON=>
    unfold tZ at ON⊢
    by_cases hb:b∈seen
    ·rw[List.filter_cons_of_neg (by simp[hb]),List.filter_cons_of_neg (by simp[hb])];exact ON
    ·by_cases ei:b=n
     ·rw[List.filter_cons_of_neg (by simp[ei]),List.filter_cons_of_pos (by simp[hb]),List.length_cons];omega
     ·rw[List.filter_cons_of_pos (by simp[hb,ei]),List.filter_cons_of_pos (by simp[hb]),List.length_cons,List.length_cons];omega
  by_cases GK:a=n
  ·subst GK
   have:=hle l
   unfold tZ at this⊢
   rw[List.filter_cons_of_neg (by simp),List.filter_cons_of_pos (by simp[hs]),List.length_cons];omega
  ·have U:n∈l:=by rcases List.mem_cons.1 h with e|e;exact absurd e.symm GK;exact e
   have h2:=ih U
   unfold tZ at h2⊢
   by_cases ha:a∈seen
   ·rw[List.filter_cons_of_neg (by simp[ha]),List.filter_cons_of_neg (by simp[ha])];exact h2
   ·rw[List.filter_cons_of_pos (by simp[ha,GK]),List.filter_cons_of_pos (by simp[ha]),List.length_cons,List.length_cons];omega
def qY (a b:List (Int×Int)):Bool:=b.all fun p=>decide (p.2<=(bo a p.1).getD 0)
theorem US (a b:List (Int×Int)) (ha:fp a) (hb:fp b):ai Tryz.prog 209 [.mp 0,.mp 1] [(1,.var (.map (kI b)) (vN b)),(0,.var (.map (kI a)) (vN a))] (fun r H'=>r=Bv (qY a b)/\H'=[(1,.var (.map (kI b)) (vN b)),(0,.var (.map (kI a)) (vN a))]):=by
 refine ai.walk [0,1,4,5,6,8,10,18] [] Tryz.func209 rfl Tryz.ntmps209 (by kernel_rfl) (by rfl) rfl fun W own I0 ao lay=>?_
 refine gO ?_
 refine AQ.I5 (by kernel_rfl) rfl rfl pN fun bs clock bI=>?_
 have cG:(vN b).length=bs.length:=by rw[<-bI.len,ab7,AT]
 have jJ:=Ip b
 refine sI ?_
 refine gO ?_
 refine AP.loop rfl (α:=List Nat) (fun _=>[(0,.mp 0),(8,.ob 2 0)]) (fun seen=>[(2,.var (.raw (kJ clock seen clock)) [.mp 1]),(1,.var (.raw (lK (kI b) bs clock)) (vN b)),(0,.var (.map (kI a)) (vN a))])
  (fun seen=>∀(j n:Nat) (p:Int×Int),bs[j]?=some n->n∈seen->b[j]?=some p->p.2<=(bo a p.1).getD 0) (fun seen=>tZ bs seen) [] (fun _ _ _ _ h _=>by cases h) (sU) rfl fun seen HJ=>?_
 refine gO ?_
 refine AQ.IZ (by kernel_rfl) rfl rfl rfl bI rfl rfl jJ cG (fun iR=>?_) (fun j n key y ei s6 qd hy=>?_)
 ·have nU:qY a b=true:=by
   rw[qY,List.all_eq_true]
   intro p hp
   obtain⟨j,hj⟩:=List.mem_iff_getElem?.1 hp
   have rC:j<bs.length:=by have:=(List.getElem?_eq_some_iff.1 hj).1;rw[<-bI.len,AT];exact this
   exact decide_eq_true (HJ j bs[j] p (List.getElem?_eq_getElem rC) (iR _ (List.getElem_mem _)) hj)
  refine sI ?_
  refine gO ?_
  refine AE.pz 1 rfl bI cG ?_
  refine sI ?_
  exact AE.a6 [2] rfl ⟨rfl,trivial⟩ (by simp only[go_sem,Nat.reduceAdd,Nat.reduceLeDiff,Nat.reduceSub,Int.reduceToNat,reduceCtorEq,cw,noMen,AV.mens,AV.men,iB,Bool.or_false];first|done|rfl) ⟨by rw[nU];rfl,rfl⟩
 ·obtain⟨p,hp,rfl⟩:=DR qd
  have Oy:=E3 hp
  rw[hy]at Oy
  cases Oy
  refine sI ?_
  refine gO ?_
  refine AQ.IY (by kernel_rfl) rfl rfl rfl bI jJ cG ei qd hy ?_
  refine sI ?_
  refine gO ?_
  cases hq:eL a p.1 with
  |none=>
   refine AQ.D5 (by kernel_rfl) rfl rfl rfl pN u3 (jQ _) rfl (qt hq) rfl rfl ?_
   have hv:(bo a p.1).getD 0=0:=by rw[(rQ hq).1];rfl
   refine sI ?_
   refine gO ?_
   refine AP.cond rfl rfl (fun h5=>?_) (fun h5=>?_)
   ·have h5:¬p.2<=(bo a p.1).getD 0:=by rw[hv];simp at h5;omega
    have nU:qY a b=false:=by
     rw[<-Bool.not_eq_true,qY,List.all_eq_true]
     exact fun hc=>h5 (by simpa using hc p (List.mem_of_getElem? hp))
    refine gO ?_
    refine AE.pz 1 rfl bI cG ?_
    refine sI ?_
    exact AE.a6 [2] rfl ⟨rfl,trivial⟩ (by simp only[go_sem,Nat.reduceAdd,Nat.reduceLeDiff,Nat.reduceSub,Int.reduceToNat,reduceCtorEq,cw,noMen,AV.mens,AV.men,iB,Bool.or_false];first|done|rfl) ⟨by rw[nU];rfl,rfl⟩
   ·have h5:p.2<=(bo a p.1).getD 0:=by rw[hv];simp at h5;omega
    refine gO ?_
    refine AE.round (seen++[n]) (fun j' n' v' h7 h8 h9=>?_) (Sn (List.mem_of_getElem? ei) s6) (sU) rfl
    rcases List.mem_append.1 h8 with h8|h8
    ·exact HJ j' n' v' h7 h8 h9
    ·have e1:n'=n:=by simpa using h8
     subst e1
     have e2:j'=j:=by
      obtain⟨a1,b1⟩:=List.getElem?_eq_some_iff.1 h7
      obtain⟨a2,b2⟩:=List.getElem?_eq_some_iff.1 ei
      exact(List.getElem_inj bI.nd).1 (b1.trans b2.symm)
     subst e2
     rw[hp]at h9
     cases h9
     exact h5
  |some j'=>
   obtain⟨x,U,h2⟩:=vz hq
   have hv:(bo a p.1).getD 0=x:=by rw[h2];rfl
   refine AQ.vF j' (by kernel_rfl) rfl rfl rfl pN u3 (jQ _) rfl (List.mem_of_getElem? (show(kI a)[j']?=some (.int .i64 p.1) from tn (p:=(p.1,x)) U)) (fun i hi=>tq ha U hi) (show(vN a)[j']?=some (Iv x) from E3 (p:=(p.1,x)) U) ?_
   refine sI ?_
   refine gO ?_
   refine AP.cond rfl rfl (fun h5=>?_) (fun h5=>?_)
   ·have h5:¬p.2<=(bo a p.1).getD 0:=by rw[hv];simp at h5;omega
    have nU:qY a b=false:=by
     rw[<-Bool.not_eq_true,qY,List.all_eq_true]
     exact fun hc=>h5 (by simpa using hc p (List.mem_of_getElem? hp))
    refine gO ?_
    refine AE.pz 1 rfl bI cG ?_
    refine sI ?_
    exact AE.a6 [2] rfl ⟨rfl,trivial⟩ (by simp only[go_sem,Nat.reduceAdd,Nat.reduceLeDiff,Nat.reduceSub,Int.reduceToNat,reduceCtorEq,cw,noMen,AV.mens,AV.men,iB,Bool.or_false];first|done|rfl) ⟨by rw[nU];rfl,rfl⟩
   ·have h5:p.2<=(bo a p.1).getD 0:=by rw[hv];simp at h5;omega
    refine gO ?_
    refine AE.round (seen++[n]) (fun j' n' v' h7 h8 h9=>?_) (Sn (List.mem_of_getElem? ei) s6) (sU) rfl
    rcases List.mem_append.1 h8 with h8|h8
    ·exact HJ j' n' v' h7 h8 h9
    ·have e1:n'=n:=by simpa using h8
     subst e1
     have e2:j'=j:=by
      obtain⟨a1,b1⟩:=List.getElem?_eq_some_iff.1 h7
      obtain⟨a2,b2⟩:=List.getElem?_eq_some_iff.1 ei
      exact(List.getElem_inj bI.nd).1 (b1.trans b2.symm)
     subst e2
     rw[hp]at h9
     cases h9
     exact h5
theorem UP (s t:Tm):qY (eO (b8 s)) (eO (b8 t))=qZ s t:=by
 rw[Bool.eq_iff_iff,UQ,qY,List.all_eq_true]
 constructor
 ·intro h v
  rw[BI,BI]
  have U:=zc (b8 t) v
  have h2:=zc (b8 s) v
  cases hq:bo (eO (b8 t)) v with
  |none=>rw[hq]at U;simp only[Option.getD_none]at U;omega
  |some x=>
   rw[hq]at U
   have:=h (v,x) (xX hq)
   simp only[decide_eq_true_eq,h2]at this
   simp only[Option.getD_some]at U
   omega
 ·intro h p hp
  have U:=zc (b8 t) p.1
  rw[PW (Cl _) hp,Option.getD_some]at U
  rw[decide_eq_true_eq,zc,U]
  have:=h p.1
  rw[BI,BI]at this
  omega
theorem PT (a:Int):aS Tryz.prog 229 [Iv a] (Bv false):=by
 refine ai.walk [0,2] [] Tryz.func229 rfl Tryz.ntmps229 (by kernel_rfl) (by rfl) rfl fun W own I0 ao lay=>?_
 refine gO ?_
 exact AE.aG rfl ⟨rfl,trivial⟩ rfl ⟨rfl,by simp[eG];rfl⟩
theorem PU (a:List UInt8):aS Tryz.prog 165 [Sv a] (Bv false):=by
 refine ai.walk [0,2] [] Tryz.func165 rfl Tryz.ntmps165 (by kernel_rfl) (by rfl) rfl fun W own I0 ao lay=>?_
 refine gO ?_
 exact AE.aG rfl ⟨rfl,trivial⟩ rfl ⟨rfl,by simp[eG];rfl⟩
def oM (a b:Int):Int:=if a<b then-1 else if b<a then 1 else 0
def nJ (a b:List UInt8):Int:=if a<b then-1 else if b<a then 1 else 0
theorem Uy (a b:Int):aS Tryz.prog 211 [Iv a,Iv b] (Iv (oM a b)):=by
 refine ai.walk [0,1,4,5,6,11,12,13,16,19] [] Tryz.func211 rfl Tryz.ntmps211 (by kernel_rfl) (by rfl) rfl fun W own I0 ao lay=>?_
 refine gO ?_
 refine AQ.fn (by kernel_rfl) rfl rfl rfl (PT a) rfl ?_
 refine sI ?_
 refine gO ?_
 refine AQ.fn (by kernel_rfl) rfl rfl rfl (PT b) rfl ?_
 refine sI ?_
 refine gO ?_
 refine AP.cond rfl rfl (fun h=>?_) (fun h=>?_)
 ·refine gO ?_
  exact AE.aG rfl ⟨rfl,trivial⟩ rfl ⟨rfl,by rw[oM,if_pos (by simpa using h)];rfl⟩
 ·refine gO ?_
  refine AP.cond rfl rfl (fun h2=>?_) (fun h2=>?_)
  ·refine gO ?_
   exact AE.aG rfl ⟨rfl,trivial⟩ rfl ⟨rfl,by rw[oM,if_neg (by simpa using h),if_pos (by simpa using h2)];rfl⟩
  ·refine gO ?_
   exact AE.aG rfl ⟨rfl,trivial⟩ rfl ⟨rfl,by rw[oM,if_neg (by simpa using h),if_neg (by simpa using h2)];rfl⟩
theorem xQ:∀a b:List UInt8,Op.bytesLess a b=decide (a<b)
 |[],[]=>by simp[Op.bytesLess]
 |[],_::_=>by simp[Op.bytesLess]
 |_::_,[]=>by simp[Op.bytesLess]
 |x::a,y::b=>by
  rw[Op.bytesLess,xQ a b,Bool.eq_iff_iff]
  simp only[Bool.or_eq_true,Bool.and_eq_true,decide_eq_true_eq,beq_iff_eq,List.cons_lt_cons_iff]
theorem Zy {a b:List UInt8} (_:Op.bytesLess a b=false) (h2:(!(Op.bytesLess a b||a==b))=true):b<a:=by
 simp only[xQ,Bool.not_eq_true',Bool.or_eq_false_iff,decide_eq_false_iff_not,beq_eq_false_iff_ne]at h2
 rcases x4 a b with h|h|h
 ·exact absurd h h2.1
 ·exact absurd h h2.2
 ·exact h
theorem Zx {a b:List UInt8} (U:Op.bytesLess a b=false) (h2:(!(Op.bytesLess a b||a==b))=false):¬b<a:=by
 intro hc
 rw[U,Bool.false_or,Bool.not_eq_false',beq_iff_eq]at h2
 subst h2
 exact List.lt_irrefl _ hc
theorem Lm (a b:List UInt8):aS Tryz.prog 92 [Sv a,Sv b] (Iv (nJ a b)):=by
 refine ai.walk [0,1,4,5,6,11,12,13,16,19] [] Tryz.func92 rfl Tryz.ntmps92 (by kernel_rfl) (by rfl) rfl fun W own I0 ao lay=>?_
 refine gO ?_
 refine AQ.fn (by kernel_rfl) rfl rfl rfl (PU a) rfl ?_
 refine sI ?_
 refine gO ?_
 refine AQ.fn (by kernel_rfl) rfl rfl rfl (PU b) rfl ?_
 refine sI ?_
 refine gO ?_
 refine AP.cond rfl rfl (fun h=>?_) (fun h=>?_)
 ·refine gO ?_
  exact AE.aG rfl ⟨rfl,trivial⟩ rfl ⟨rfl,by rw[nJ,if_pos (by simpa[xQ]using h)];rfl⟩
 ·refine gO ?_
  refine AP.cond rfl rfl (fun h2=>?_) (fun h2=>?_)
  ·refine gO ?_
   exact AE.aG rfl ⟨rfl,trivial⟩ rfl ⟨rfl,by rw[nJ,if_neg (by simpa[xQ]using h),if_pos (Zy h h2)];rfl⟩
  ·refine gO ?_
   exact AE.aG rfl ⟨rfl,trivial⟩ rfl ⟨rfl,by rw[nJ,if_neg (by simpa[xQ]using h),if_neg (Zx h h2)];rfl⟩
@[go_sem] theorem abh (k:Nat):∀m:List (Int×Int),AV.lR k (vN m)=vN m
 |[]=>rfl
 |_::m=>by rw[vN,List.map_cons,AV.lR,<-vN,abh k m];rfl
theorem aam (a b:Int):aS Tryz.prog 210 [.im (.sl 1 [[Ii a],[Ii b]])] (Iv (if a≠0 then a else b)):=by
 refine ai.walk [0,2,3,5,6,7,8,9,14] [] Tryz.func210 rfl Tryz.ntmps210 (by kernel_rfl) (by rfl) rfl fun W own I0 ao lay=>?_
 refine gO ?_
 refine AP.loop rfl (α:=Nat) (fun k=>[(3,Iv 0),(6,.im (.sl 1 [[Ii a],[Ii b]])),(7,Iv 2),(8,Iv k)]) (fun _=>[]) (fun k=>k<=2/\(0<k->a=0)/\(1<k->b=0)) (fun k=>2-k) 0 ⟨by omega,by omega,by omega⟩ (sU) rfl fun k ⟨hk,U,h2⟩=>?_
 have hw:=wr (x:=(k:Int)+1) (by omega)
 obtain rfl|rfl|rfl:k=0\/k=1\/k=2:=by omega
 ·refine gE (an @List.getD_cons_zero.{0} (an @List.length_cons.{0} @List.length_nil.{0})) ?_
  refine AP.cond rfl rfl (fun h=>?_) (fun h=>?_)
  ·refine gO ?_
   exact AE.aG rfl ⟨rfl,trivial⟩ rfl ⟨rfl,by rw[if_pos (by simpa using h)];rfl⟩
  ·refine gO ?_
   exact AE.round 1 ⟨by omega,fun _=>by simpa using h,by omega⟩ (by omega) (sU) rfl
 ·refine gE (an @List.getD_cons_zero.{0} (an @List.getD_cons_succ.{0} (an @List.length_cons.{0} @List.length_nil.{0}))) ?_
  have ha:=U (by omega)
  refine AP.cond rfl rfl (fun h=>?_) (fun h=>?_)
  ·refine gO ?_
   exact AE.aG rfl ⟨rfl,trivial⟩ rfl ⟨rfl,by rw[if_neg (by simpa using ha)];rfl⟩
  ·refine gO ?_
   exact AE.round 2 ⟨by omega,fun _=>ha,fun _=>by simpa using h⟩ (by omega) (sU) rfl
 ·have ha:=U (by omega)
  have hb:=h2 (by omega)
  refine gO ?_
  exact AE.aG rfl ⟨rfl,trivial⟩ rfl ⟨rfl,by rw[if_neg (by simpa using ha),hb];rfl⟩
theorem UA {s t:Tm} {q:Int} (hg:nP s t=if s.xs.length≠t.xs.length then decide (t.xs.length<s.xs.length)else if s.nm≠t.nm then decide (t.nm<s.nm)else oR s.xs t.xs)
  (hq:(if oM s.xs.length t.xs.length≠0 then oM s.xs.length t.xs.length else nJ s.nm t.nm)=q):(q≠0->nP s t=decide (0<q))/\(q=0->s.xs.length=t.xs.length/\s.nm=t.nm/\nP s t=oR s.xs t.xs):=by
 have hI:oM s.xs.length t.xs.length=if s.xs.length<t.xs.length then-1 else if t.xs.length<s.xs.length then 1 else 0:=by
  rw[oM];simp only[Int.ofNat_lt]
 rw[hI,nJ]at hq
 by_cases U:s.xs.length=t.xs.length
 ·rw[if_neg (by omega:¬s.xs.length<t.xs.length),if_neg (by omega:¬t.xs.length<s.xs.length),if_neg (by decide)]at hq
  rw[if_neg (by omega)]at hg
  rcases x4 s.nm t.nm with h2|h2|h2
  ·rw[if_pos h2]at hq
   rw[if_pos (fun e=>by rw[e]at h2;exact List.lt_irrefl _ h2),decide_eq_false (fun h3=>List.lt_asymm h2 h3)]at hg
   subst hq
   exact⟨fun _=>hg,fun h=>absurd h (by decide)⟩
  ·rw[h2,if_neg (List.lt_irrefl _),if_neg (List.lt_irrefl _)]at hq
   rw[if_neg (by simpa using h2)]at hg
   subst hq
   exact⟨fun h=>absurd rfl h,fun _=>⟨U,h2,hg⟩⟩
  ·rw[if_neg (fun h3=>List.lt_asymm h2 h3),if_pos h2]at hq
   rw[if_pos (fun e=>by rw[e]at h2;exact List.lt_irrefl _ h2),decide_eq_true h2]at hg
   subst hq
   exact⟨fun _=>hg,fun h=>absurd h (by decide)⟩
 ·rw[if_pos U]at hg
  by_cases h2:s.xs.length<t.xs.length
  ·rw[if_pos h2,if_pos (by decide)]at hq
   rw[decide_eq_false (by omega)]at hg
   subst hq
   exact⟨fun _=>hg,fun h=>absurd h (by decide)⟩
  ·rw[if_neg h2,if_pos (show t.xs.length<s.xs.length by omega),if_pos (by decide)]at hq
   rw[decide_eq_true (by omega)]at hg
   subst hq
   exact⟨fun _=>hg,fun h=>absurd h (by decide)⟩
theorem Gh (s t:Tm) (hs:aE s) (ht:aE t) (pe:wT s<=1000000) (rN:wT t<=1000000):aS Tryz.prog 168 [aP s,aP t] (Bv (nP s t)):=by
 have dD:=dN.1 hs
 have s_:=dN.1 ht
 have hg:=MK s t
 have wU:=Lr s hs pe
 have sX:=Lr t ht rN
 have fZ:=US (eO (b8 s)) (eO (b8 t)) (Cl _) (Cl _)
 rw[UP]at fZ
 refine ai.walk [0,1,2,3,4,5,6,7,8,9,10,21,26,33,57,62,63,64,77] [] Tryz.func168 rfl Tryz.ntmps168 (by kernel_rfl) (by rfl) rfl fun W own I0 ao lay=>?_
 refine gO ?_
 refine AQ.uq (by kernel_rfl) rfl rfl rfl wU fun r' H' ⟨e1,e2⟩=>?_
 subst e1;subst e2
 refine sI ?_
 refine gO ?_
 refine AQ.uq (by kernel_rfl) rfl rfl rfl sX fun r' H' ⟨e1,e2⟩=>?_
 subst e1;subst e2
 refine sI ?_
 refine gO ?_
 refine AQ.bW [(1,1),(0,0)] (by kernel_rfl) rfl rfl rfl rfl rfl rfl (by refine⟨?_,?_,trivial⟩<;>(rw[dY,Bj];rfl)) rfl fZ fun r' H' ⟨e1,e2⟩=>?_
 subst e1;subst e2
 refine sH ?_
 refine gO ?_
 refine AP.cond rfl rfl (fun U=>?_) (fun U=>?_)
 ·refine gO ?_
  exact AE.a6 [1,0] rfl ⟨rfl,trivial⟩ (by simp only[go_sem,Nat.reduceAdd,Nat.reduceLeDiff,Nat.reduceSub,Int.reduceToNat,reduceCtorEq,cw,noMen,AV.mens,AV.men,iB,Bool.or_false];first|done|rfl) ⟨rfl,by rw[hg,if_pos (by simpa using U)];rfl⟩
 rw[if_neg (by simpa using U)]at hg
 refine gO ?_
 refine AP.cond rfl rfl (fun h2=>?_) (fun h2=>?_)
 ·refine gO ?_
  refine AE.a6 [1,0] rfl ⟨rfl,trivial⟩ (by simp only[go_sem,Nat.reduceAdd,Nat.reduceLeDiff,Nat.reduceSub,Int.reduceToNat,reduceCtorEq,cw,noMen,AV.mens,AV.men,iB,Bool.or_false];first|done|rfl) ⟨rfl,?_⟩
  rw[hg,if_pos (by simp at h2;omega),show decide (wT t<wT s)=decide ((wT t:Int)<wT s) by rw[decide_eq_decide];omega]
  simp[eG];rfl
 rw[if_neg (by simp at h2;omega)]at hg
 refine gO ?_
 refine AP.cond rfl rfl (fun h3=>?_) (fun h3=>?_)
 ·refine gO ?_
  exact AE.a6 [1,0] rfl ⟨rfl,trivial⟩ (by simp only[go_sem,Nat.reduceAdd,Nat.reduceLeDiff,Nat.reduceSub,Int.reduceToNat,reduceCtorEq,cw,noMen,AV.mens,AV.men,iB,Bool.or_false];first|done|rfl) ⟨rfl,by rw[hg,if_pos (by simpa using h3)];rfl⟩
 rw[if_neg (by simpa using h3)]at hg
 refine gE @aj ?_
 refine AP.bQ 15 (Tree.node [] [0,1,2,3,4,5,7,8,9,10] [6] [Tree.node [7,8,9,10] [] [11] [Tree.node [] [] [12] [Tree.node [] [] [13] [Tree.node [] [14] [] []]]]]) (by kernel_rfl) rfl (by kernel_rfl) (by kernel_rfl) ?_
 refine bO ?_
 refine sE @aj ?_
 refine AQ.fn (by kernel_rfl) rfl rfl rfl (Uy s.xs.length t.xs.length) rfl ?_
 refine sI ?_
 refine AQ.nx rfl ?_
 refine sI ?_
 refine AQ.fn (by kernel_rfl) rfl rfl rfl (Lm s.nm t.nm) rfl ?_
 refine sI ?_
 refine AQ.nx rfl ?_
 refine sI ?_
 refine AQ.go (by kernel_rfl) ?_
 refine sI ?_
 refine AQ.nx rfl ?_
 refine sI ?_
 refine AQ.fn (by kernel_rfl) rfl rfl rfl (aam (oM s.xs.length t.xs.length) (nJ s.nm t.nm)) rfl ?_
 refine sI ?_
 refine AQ.nx rfl ?_
 refine sI ?_
 refine AQ.done ?_
 obtain⟨q,hq⟩:∃q,(if oM s.xs.length t.xs.length≠0 then oM s.xs.length t.xs.length else nJ s.nm t.nm)=q:=⟨_,rfl⟩
 obtain⟨q1,q2⟩:=UA hg hq
 rw[hq]
 refine gO ?_
 refine AP.cond rfl rfl (fun h4=>?_) (fun h4=>?_)
 ·refine gO ?_
  exact AE.a6 [1,0] rfl ⟨rfl,trivial⟩ (by simp only[go_sem,Nat.reduceAdd,Nat.reduceLeDiff,Nat.reduceSub,Int.reduceToNat,reduceCtorEq,cw,noMen,AV.mens,AV.men,iB,Bool.or_false];first|done|rfl) ⟨rfl,by rw[q1 (by simpa using h4)];simp[eG];rfl⟩
 obtain⟨hl,hn,hm⟩:=q2 (by simpa using h4)
 refine gE @aj ?_
 refine AP.loop rfl (α:=Nat) (fun k=>[(2,.im (g_ s)),(3,.im (g_ t)),(62,Iv s.xs.length),(63,Iv k)]) (fun _=>[(1,.var (.map (kI (eO (b8 t)))) (vN (eO (b8 t)))),(0,.var (.map (kI (eO (b8 s)))) (vN (eO (b8 s))))]) (fun k=>k<=s.xs.length/\nP s t=oR (s.xs.drop k) (t.xs.drop k)) (fun k=>s.xs.length-k) 0 ⟨by omega,hm⟩ (sU) rfl fun k ⟨hk,hm⟩=>?_
 rcases Nat.eq_or_lt_of_le hk with aC|ag
 ·rw[aC,List.drop_length,hl,List.drop_length,oR]at hm
  refine gE @aj ?_
  refine cF ?_
  refine gO ?_
  exact AE.a6 [1,0] rfl ⟨rfl,trivial⟩ (by simp only[go_sem,Nat.reduceAdd,Nat.reduceLeDiff,Nat.reduceSub,Int.reduceToNat,reduceCtorEq,cw,noMen,AV.mens,AV.men,iB,Bool.or_false];first|done|rfl) ⟨rfl,by rw[hm];rfl⟩
  all_goals simp
 ·obtain⟨u,hu,aH⟩:=dh s.xs k ag
  obtain⟨w,bT,dV⟩:=dh t.xs k (by omega)
  rw[drop_cons hu,drop_cons bT,oR]at hm
  have hw:=wr (x:=(k:Int)+1) (by omega)
  have cS:=dc dD.2.2 hu
  have lF:=dc s_.2.2 bT
  have Yf:wT u<wT s:=BJ (List.mem_of_getElem? hu)
  have Ou:wT w<wT t:=BJ (List.mem_of_getElem? bT)
  refine gE @aj ?_
  refine cT ?_
  refine gO ?_
  refine AP.bQ 12 (Tree.node [] [0,1,2,3,4,5,6,7,8,9] [10] [Tree.node [] [11] [] []]) (by kernel_rfl) rfl (by kernel_rfl) (by kernel_rfl) ?_
  refine bO ?_
  refine sE (an @aH (an @dV @aj)) ?_
  refine⟨by omega,by omega,?_⟩
  refine AQ.fn (by kernel_rfl) rfl rfl rfl (zk u w cS) rfl ?_
  refine sI ?_
  refine AQ.nx rfl ?_
  refine sI ?_
  refine AQ.done ?_
  refine gO ?_
  refine AP.cond rfl rfl (fun h5=>?_) (fun h5=>?_)
  ·have h5:dR u w=false:=by simpa using h5
   rw[h5,if_neg (by decide)]at hm
   refine gO ?_
   refine AP.bQ 12 (Tree.node [] [0,1,2,3,4,5,6,7,8,9] [10] [Tree.node [] [11] [] []]) (by kernel_rfl) rfl (by kernel_rfl) (by kernel_rfl) ?_
   refine bO ?_
   refine sE (an @aH (an @dV @aj)) ?_
   refine⟨by omega,by omega,?_⟩
   refine AQ.fn (by kernel_rfl) rfl rfl rfl (Gh u w cS lF (by omega) (by omega)) rfl ?_
   refine sI ?_
   refine AQ.nx rfl ?_
   refine sI ?_
   refine AQ.done ?_
   refine gO ?_
   exact AE.a6 [1,0] rfl ⟨rfl,trivial⟩ (by simp only[go_sem,Nat.reduceAdd,Nat.reduceLeDiff,Nat.reduceSub,Int.reduceToNat,reduceCtorEq,cw,noMen,AV.mens,AV.men,iB,Bool.or_false];first|done|rfl) ⟨rfl,by rw[hm];rfl⟩
  ·have h5:dR u w=true:=by simpa using h5
   rw[if_pos h5]at hm
   refine gE @hw ?_
   exact AE.round (k+1) ⟨by omega,hm⟩ (by omega) (sU) rfl
termination_by SizeOf.sizeOf s
decreasing_by exact jW hu
theorem UL (s t:Tm) (hs:aE s) (ht:aE t) (pe:wT s<=1000000) (rN:wT t<=1000000):aS Tryz.prog 101 [aP s,aP t] (Iv (nK s t)):=by
 refine ai.walk [0,1,2,3,4,5,9,13] [] Tryz.func101 rfl Tryz.ntmps101 (by kernel_rfl) (by rfl) rfl fun W own I0 ao lay=>?_
 refine gO ?_
 refine AQ.fn (by kernel_rfl) rfl rfl rfl (zk s t hs) rfl ?_
 refine sI ?_
 refine gO ?_
 refine AP.cond rfl rfl (fun U=>?_) (fun U=>?_)
 ·refine gO ?_
  exact AE.aG rfl ⟨rfl,trivial⟩ rfl ⟨rfl,by rw[nK,if_pos (by simpa using U)];rfl⟩
 refine gO ?_
 refine AQ.fn (by kernel_rfl) rfl rfl rfl (Gh s t hs ht pe rN) rfl ?_
 refine sI ?_
 refine gO ?_
 refine AP.cond rfl rfl (fun h2=>?_) (fun h2=>?_)
 ·refine gO ?_
  exact AE.aG rfl ⟨rfl,trivial⟩ rfl ⟨rfl,by rw[nK,if_neg (by simpa using U),if_pos (by simpa using h2)];rfl⟩
 refine gO ?_
 refine AQ.fn (by kernel_rfl) rfl rfl rfl (Gh t s ht hs rN pe) rfl ?_
 refine sI ?_
 refine gO ?_
 refine AP.cond rfl rfl (fun h3=>?_) (fun h3=>?_)
 ·refine gO ?_
  exact AE.aG rfl ⟨rfl,trivial⟩ rfl ⟨rfl,by rw[nK,if_neg (by simpa using U),if_neg (by simpa using h2),if_pos (by simpa using h3)];rfl⟩
 ·refine gO ?_
  exact AE.aG rfl ⟨rfl,trivial⟩ rfl ⟨rfl,by rw[nK,if_neg (by simpa using U),if_neg (by simpa using h2),if_neg (by simpa using h3)];rfl⟩
theorem abj (t:Tm):aS Tryz.prog 173 [aP t] (cq (b6 t)):=by
 have e:cq (b6 t)= .im (.sl 3 [[Bi false,Si [80],.sl 3 [[Si t.nm,Ii t.ix,.sl 3 (aA t.xs)]]]]):=by
  rw[cq,dv,b6,List.map_cons,List.map_nil,qw]
  simp only[aA,jx]
 rw[e]
 refine ai.walk [0,1,2] [] Tryz.func173 rfl Tryz.ntmps173 (by kernel_rfl) (by rfl) rfl fun W own I0 ao lay=>?_
 refine gO ?_
 exact AE.aG rfl ⟨rfl,trivial⟩ rfl ⟨rfl,rfl⟩
def ir:List Tm->Int
 |[]=>0
 |t::l=>if ca 4 9 2 3 (b6 t)≠0 then ca 4 9 2 3 (b6 t)else ir l
theorem FG (l:List Tm) (hl:l.length<=1000000) (hs:∀t∈l,aE t):aS Tryz.prog 111 [.im (.sl 3 (aA l))] (Iv (ir l)):=by
 refine ai.walk [0,2,4,5,6,7,8,9,16] [4] Tryz.func111 rfl Tryz.ntmps111 (by kernel_rfl) (by rfl) rfl fun W own I0 ao lay=>?_
 refine gE @aj ?_
 refine AP.loop rfl (α:=Nat) (fun k=>[(6,.im (.sl 3 (aA l))),(7,Iv l.length),(8,Iv k)]) (fun _=>[]) (fun k=>k<=l.length/\ir l=ir (l.drop k)) (fun k=>l.length-k) 0 ⟨by omega,rfl⟩ (sU) rfl fun k ⟨hk,hm⟩=>?_
 rcases Nat.eq_or_lt_of_le hk with aC|ag
 ·rw[aC,List.drop_length,ir]at hm
  refine gO ?_
  refine cF ?_
  refine gO ?_
  exact AE.aG rfl ⟨rfl,trivial⟩ rfl ⟨rfl,by rw[hm];rfl⟩
 ·obtain⟨u,hu,aH⟩:=dh l k ag
  have hw:=wr (x:=(k:Int)+1) (by omega)
  rw[drop_cons hu,ir]at hm
  refine gE @aj ?_
  refine cT ?_
  refine gE (an @aH @aj) ?_
  refine AQ.fix 0 rfl rfl ?_
  refine sI ?_
  refine AQ.fn (by kernel_rfl) rfl rfl rfl (abj u) rfl ?_
  refine sI ?_
  refine gO ?_
  refine AQ.fn (by kernel_rfl) rfl rfl rfl (y9 (b6 u) (Ro (hs u (List.mem_of_getElem? hu)))) rfl ?_
  refine sI ?_
  refine gO ?_
  refine AP.cond rfl rfl (fun h=>?_) (fun h=>?_)
  ·rw[if_pos (by simpa using h)]at hm
   refine gO ?_
   exact AE.aG rfl ⟨rfl,trivial⟩ rfl ⟨rfl,by rw[hm];rfl⟩
  ·rw[if_neg (by simpa using h)]at hm
   refine gE @hw ?_
   exact AE.round (k+1) ⟨by omega,hm⟩ (by omega) (sU) rfl
def oN (s t:Tm):Int×Int:=if ir [s,t]≠0 then(0,ir [s,t])else(nK s t,0)
theorem Lj {s:Tm} (h:¬ca 4 9 2 3 (b6 s)≠0):wT s<=4000:=by
 have h0:ca 4 9 2 3 (b6 s)=0:=by simpa using h
 rw[Li (by decide) (by decide) (by decide) (by decide)]at h0
 have:=h0.2.1
 simp only[b6,cO,mu,List.map_cons,List.map_nil,List.sum_cons,List.sum_nil,aD]at this
 omega
theorem Kh (s t:Tm) (hs:aE s) (ht:aE t):aS Tryz.prog 37 [aP s,aP t] (.aI [Iv (oN s t).1,Iv (oN s t).2]):=by
 have hc:=FG [s,t] (by simp) (fun u hu=>by
  rcases List.mem_cons.1 hu with rfl|hu
  ·exact hs
  ·rcases List.mem_cons.1 hu with rfl|hu
   ·exact ht
   ·cases hu)
 have e:(.im (.sl 3 (aA [s,t])):AV)= .im (.sl 3 [[Si s.nm,Ii s.ix,.sl 3 (aA s.xs)],[Si t.nm,Ii t.ix,.sl 3 (aA t.xs)]]):=by simp only[aA,jx]
 rw[e]at hc
 refine ai.walk [0,1,2,3,4,5,6,12] [] Tryz.func37 rfl Tryz.ntmps37 (by kernel_rfl) (by rfl) rfl fun W own I0 ao lay=>?_
 refine gO ?_
 refine AQ.fn (by kernel_rfl) rfl rfl rfl (hc) rfl ?_
 refine sI ?_
 refine gO ?_
 refine AP.cond rfl rfl (fun h=>?_) (fun h=>?_)
 ·refine gO ?_
  exact AE.aG rfl ⟨rfl,rfl,trivial⟩ rfl ⟨rfl,by rw[oN,if_pos (by simpa using h)];rfl⟩
 ·have h:¬ir [s,t]≠0:=by simpa using h
  have hb:wT s<=4000/\wT t<=4000:=by
   rw[ir,ir,ir]at h
   have U:¬ca 4 9 2 3 (b6 s)≠0:=fun hc=>h (by rw[if_pos hc];exact hc)
   rw[if_neg U]at h
   have h2:¬ca 4 9 2 3 (b6 t)≠0:=fun hc=>h (by rw[if_pos hc];exact hc)
   exact⟨Lj U,Lj h2⟩
  refine gO ?_
  refine AQ.fn (by kernel_rfl) rfl rfl rfl (UL s t hs ht (by omega) (by omega)) rfl ?_
  refine sI ?_
  refine gO ?_
  exact AE.aG rfl ⟨rfl,rfl,trivial⟩ rfl ⟨rfl,by rw[oN,if_neg h];rfl⟩
theorem ab9 (n:Int):aS Tryz.prog 95 [Iv n] (.agg [Sv [],Iv n,ew]):=by
 refine ai.walk [0,2] [2] Tryz.func95 rfl Tryz.ntmps95 (by kernel_rfl) (by rfl) rfl fun W own I0 ao lay=>?_
 refine gO ?_
 exact AE.a6 [0] rfl ⟨⟨rfl,Nat.le_of_ble_eq_true (by kernel_rfl)⟩,trivial⟩ rfl ⟨rfl,rfl⟩
theorem E5 (n:Int):aS Tryz.prog 95 [Iv n] (aP (bt n)):=(show aS Tryz.prog 95 [Iv n] (.agg [Sv [],Iv n,.im (.sl 3 [])]) from aS.told (ab9 n) (by repeat' (first|with_reducible exact c6.refl _|with_reducible exact fK.refl _|exact fK.nil _|with_reducible exact bP.refl _|with_reducible exact mD.refl _|with_reducible exact mE.refl _|refine bP.k6 ?_ ?_|refine c6.agg ?_|refine c6.im ?_|refine fK.sl ?_|refine mE.cons ?_ ?_|refine mD.cons ?_ ?_)))
theorem Lg (f:FuncId) (g:Int->Tm) (hg:∀n,aS Tryz.prog f [Iv n] (aP (g n))) (x:Tm) (hs:aE x):aS Tryz.prog 140 [aP x,.fn f [] []] (aP (ak g x)):=by
 have dD:=dN.1 hs
 have hc:=ff g x
 refine ai.walk [0,1,2,4,5,7,10,19,20,21,22] [4,5,7] Tryz.func140 rfl Tryz.ntmps140 (by kernel_rfl) (by rfl) rfl fun W own I0 ao lay=>?_
 refine gO ?_
 refine AP.cond rfl rfl (fun h=>?_) (fun h=>?_)
 ·rw[if_pos (by simpa using h)]at hc
  refine gO ?_
  refine AQ.y6 [] (by kernel_rfl) rfl rfl rfl rfl rfl rfl (fun k=>by exact trivial) (fun k=>rfl) (fun k=>rfl) (hg x.ix) ?_
  refine sI ?_
  refine gO ?_
  exact AE.a6 [0] rfl ⟨⟨rfl,Nat.le_of_ble_eq_true (by kernel_rfl)⟩,trivial⟩ rfl ⟨rfl,by rw[hc];rfl⟩
 rw[if_neg (by simpa using h)]at hc
 refine gE @aj ?_
 rw[fy]at hc
 refine AP.jv 1 2 71 3 rfl rfl ?_
 refine sI ?_
 refine AP.loop rfl (α:=Nat) (fun k=>[(1,.fn f [] []),(4,.ob 0 0),(5,.ob 1 0),(19,.im (.sl 3 (aA x.xs))),(20,Iv x.xs.length),(21,Iv k)]) (fun k=>[(2,.vec 71 3 (aA ((x.xs.take k).map (ak g)))),(1,.var 71 [Sv x.nm,Iv 0,.os 2 3 0 k]),(0,.var 71 [Sv [],Iv 0,ew])]) (fun k=>k<=x.xs.length) (fun k=>x.xs.length-k) 0 (by omega) (sU) rfl fun k hk=>?_
 rcases Nat.eq_or_lt_of_le hk with aC|ag
 ·subst aC
  rw[List.take_length]
  refine gE @aj ?_
  refine cF ?_
  refine gO ?_
  refine AE.freeze 2 (el:=71) (es:=3) (rows:=aA (x.xs.map (ak g))) rfl (by simp only[go_sem,Nat.reduceAdd,Nat.reduceLeDiff,Nat.reduceSub,Int.reduceToNat,reduceCtorEq,aj,List.length_map];first|done|trivial|omega|(simp;done)|(simp;omega)) (by simp only[go_sem,Nat.reduceAdd,Nat.reduceLeDiff,Nat.reduceSub,Int.reduceToNat,reduceCtorEq,aj,List.length_map];first|done|trivial|omega|(simp;done)|(simp;omega)) ?_;simp only[go_sem,Nat.reduceAdd,Nat.reduceLeDiff,Nat.reduceSub,Int.reduceToNat,reduceCtorEq,aj,List.length_map]
  rw[List.take_of_length_le (by rw[aj,List.length_map];omega)]
  exact AE.a6 [1,0] rfl ⟨⟨rfl,Nat.le_of_ble_eq_true (by kernel_rfl)⟩,trivial⟩ rfl ⟨rfl,by rw[hc];rfl⟩
 ·obtain⟨u,hu,aH⟩:=dh x.xs k ag
  have hw:=wr (x:=(k:Int)+1) (by omega)
  have bf:=nu (l:=x.xs) (k:=k) (by omega)
  have ih:=Lg f g hg u (dc dD.2.2 hu)
  have bl:=A3 (ak g) hu
  obtain⟨w,vr⟩:∃w,ak g u=w:=⟨_,rfl⟩
  rw[vr]at ih bl
  refine gE @aj ?_
  refine cT ?_
  refine gE @aH ?_
  refine⟨by rw[aj];omega,?_⟩
  refine gO ?_
  refine AP.bQ 9 (Tree.node [] [0,1,2,3] [4] [Tree.node [0,1] [] [5] [Tree.node [0,1] [] [6] [Tree.node [] [7] [8] [Tree.node [] [] [] []]]]]) (by kernel_rfl) rfl (by kernel_rfl) (by kernel_rfl) ?_
  refine bO ?_
  refine sI ?_
  refine AQ.fn (by kernel_rfl) rfl rfl rfl (ih) rfl ?_
  refine sI ?_
  refine AQ.nx rfl ?_
  refine sI ?_
  refine AQ.go (by kernel_rfl) ?_
  refine sI ?_
  refine AQ.nx rfl ?_
  refine sI ?_
  refine AQ.kill 2 ?_
  refine sI ?_
  refine AQ.append (hnb:=rfl) (rows:=aA ((x.xs.take k).map (ak g))) (es:=2) (by kernel_rfl) rfl rfl rfl (by rfl) Tryz.yB Tryz.yA (by show Option.map _ (ax Tryz.prog 71)=_;rw[Tryz.yN];rfl) Tryz.wo (by first|rfl|(simp only[aj,List.length_map,bf,List.length_cons,List.length_nil];done)|(simp only[aj,List.length_map,bf,List.length_cons,List.length_nil];omega)) (by simp only[aj,List.length_map,bf,List.length_cons,List.length_nil];omega) (by simp only[aj,List.length_map,bf,List.length_cons,List.length_nil];omega) ?_
  refine sI ?_
  refine AQ.nx rfl ?_
  refine sI ?_
  refine AQ.go (by kernel_rfl) ?_
  refine sI ?_
  refine AQ.nx rfl ?_
  refine sI ?_
  refine AQ.done ?_
  refine gE @hw ?_
  refine AE.gQ [3] rfl ?_
  refine sI ?_
  refine AE.round (k+1) (by omega) (by omega) (sU) ?_
  rw[bl,tW,aj,List.length_map,bf]
termination_by SizeOf.sizeOf x
decreasing_by exact jW hu
theorem UO (x:Tm) (hs:aE x):aS Tryz.prog 108 [aP x] (aP (ak bt x)):=by
 have h:=Lg 95 bt E5 x hs
 refine ai.walk [0,1,2] [2] Tryz.func108 rfl Tryz.ntmps108 (by kernel_rfl) (by rfl) rfl fun W own I0 ao lay=>?_
 refine gO ?_
 refine AQ.fn (by kernel_rfl) rfl rfl rfl (h) rfl ?_
 refine sI ?_
 refine gO ?_
 exact AE.a6 [0] rfl ⟨⟨rfl,Nat.le_of_ble_eq_true (by kernel_rfl)⟩,trivial⟩ rfl ⟨rfl,rfl⟩
theorem O_:∀(l:Bd) (v:Int),eV l v=bo l v
 |[],v=>rfl
 |b::l,v=>by rw[eV,bo,O_ l v]
theorem BE:Tryz.prog.underlying 158=some (.map 3 71):=by kernel_rfl
theorem z71:(Tryz.prog.info? 71).bind (·.zero)=some (.agg #[.string (BA []),.int .i64 0,.slice none 0 0]):=by kernel_rfl
theorem acx (w:World) (φ:al) (I:Nat->Prop):AV.den w φ I (.agg [Sv [],Iv 0,ew]) (.agg #[.string (BA []),.int .i64 0,.slice none 0 0]):=by
 simp only[AV.den,AV.ab,IV.den]
 exact⟨[_,_,_],⟨_,_,rfl,⟨rfl,rfl⟩,_,_,rfl,⟨rfl,rfl⟩,_,_,rfl,⟨rfl,rfl⟩,rfl⟩,rfl,by simp[Value.oneCell']⟩

theorem E8:∀(l:List Tm) (k:Nat),aD (l.take k)<=aD l
 |[],k=>by rw[List.take_nil];exact Nat.le_refl _
 |t::l,0=>by rw[List.take_zero,aD];omega
 |t::l,k+1=>by rw[List.take_succ_cons,aD,aD];have:=E8 l k;omega

def Zw (w d:Int->Nat):List Tm->Nat->Option Nat
 |[],n=>some n
 |t::l,n=>if 4000<n+Gg w t\/100<MH d t then none else Zw w d l (n+Gg w t)
theorem Ej {l:Lt} (h:kR l=true):dM l.xs=true:=by
 rw[kR]at h
 split at h<;>exact(Bool.and_eq_true _ _▸h).2
theorem FH {c:List Lt} (h:ca 4 9 2 3 c=0):c.length<=40/\cO c<=4000/\gv c<=100/\∀l∈c,kR l=true:=by
 rw[Li (by decide) (by decide) (by decide) (by decide)]at h
 exact⟨h.1,h.2.1,h.2.2.1,List.all_eq_true.1 h.2.2.2⟩
theorem qX {t:Tm} (h:ca 4 9 2 3 (b6 t)=0):bS t=true/\wT t<=3999/\cL t<=100:=by
 obtain⟨_,U,h2,h3⟩:=FH h
 have h4:=Ej (h3 _ (List.mem_singleton.2 rfl))
 simp only[b6,cO,mu,List.map_cons,List.map_nil,List.sum_cons,List.sum_nil,aD]at U
 simp only[b6,gv,dK]at h2
 exact⟨tH h4 t (List.mem_singleton.2 rfl),by omega,by omega⟩
theorem ai.aan {P:Program} {f:FuncId} {xs:List AV} {H:aa} {c:List Lt} {e:AV} {H0:aa} (h:ai P f xs H (fun r H'=>H'=H0/\(r= .aI [cq c,e]\/c=[]/\r= .aI [ew,e]))):ai P f xs H (fun r H'=>H'=H0/\r= .aI [cq c,e]):=
 ai.told h fun r H' ⟨hH,hr⟩=>⟨_,⟨hH,rfl⟩,by
  rcases hr with rfl|⟨hc,rfl⟩
  ·exact fun _ _ _ _ h=>h
  ·subst hc;exact Uu _⟩
@[go_sem] theorem abi (k:Nat):∀m:List (Int×Tm),AV.lR k (vT m)=vT m
 |[]=>rfl
 |_::m=>by rw[vT,List.map_cons,AV.lR,<-vT,abi k m];rfl
end Go.Proofs.YtpfohmboflcneaaGreatDoor
end
section
namespace Go.Proofs.YtpfohmboflcneaaGreatDoor
open Go Go.AL Go.RowKit
set_option maxRecDepth 10000
set_option linter.unusedSimpArgs false
set_option maxHeartbeats 4000000 in
set_option maxRecDepth 100000 in
theorem Ua (l:List UInt8) (h0:l≠[]) (b g cap:Nat) (p sv:Value) (rest:List Value) (w:World) (own:Nat->Prop) (bh:own g)
  (jE:w.heap[b]?=some (.cells #[p,.slice (some ⟨g,0,none⟩) l.length cap,sv] 234 (0,0))) (hg:w.heap[g]?=some (.cells (Lib.byteCells l++rest).toArray 5 (0,0)))
  (ve:l.length<=cap) (zM:cap<=maxLen):
  Calls Tryz.prog 154 #[.pointer (some ⟨b,0,none⟩)] w fun e w'=>e= .returned (.string ⟨l.toArray⟩)/\Ext own w w':=by
 have i5:(Tryz.prog.info? 5).map (fun i=>(i.zero,i.size,i.bytes))=some (some (Value.int IntKind.u8 0),1,1):=by kernel_rfl
 obtain⟨i0,hi,OA,fI,og⟩:=info_parts i5
 have WE:Tryz.prog.cellsOf 5=1:=by simp[Program.cellsOf,hi,fI]
 have o9:l.length≠0:=by simpa using h0
 have c1:w.drew.cell? ⟨b,1,none⟩=some (.slice (some ⟨g,0,none⟩) l.length cap):=by
  have:w.drew.heap[b]?=some (.cells #[p,.slice (some ⟨g,0,none⟩) l.length cap,sv] 234 (0,0)):=jE
  rw[Lib.cell_of_heap this];rfl
 have sT:(Builtin.unsafeSliceData_ #[230] 278 #[.slice (some ⟨g,0,none⟩) l.length cap]).run Tryz.prog w.drew= .ok (.pointer (some ⟨g,0,none⟩)) w.drew:=
  Lib.run_unsafeSliceData_row _ _ _ _ _ _ (by omega)
 have GG:(Builtin.unsafeString_ #[278,3] 9 #[.pointer (some ⟨g,0,none⟩),.int .i64 l.length]).run Tryz.prog w.drew= .ok (.string ⟨l.toArray⟩) (w.drew.freeze ⟨g,0,none⟩ l.length):=by
  have bR:w.drew.heap[g]?=some (.cells (Lib.byteCells l++rest).toArray 5 (0,0)):=hg
  refine Lib.run_unsafeString_row w.drew 278 3 9 5 Tryz.underlying278 WE g (Lib.byteCells l++rest).toArray.size (by simp[World.shape?,bR]) l h0 (by simp[Lib.byteCells_length]) (by unfold maxLen at zM;omega) ?_
  intro j x hx
  have ag:j<l.length:=by
   rcases Nat.lt_or_ge j l.length with h|h
   ·exact h
   ·rw[List.getElem?_eq_none h]at hx;cases hx
  have e1:(⟨g,0,none⟩:Addr).add j=⟨g,j,none⟩:=by unfold Addr.add;by_cases hj:j=0<;>simp[hj]
  rw[e1,Lib.cell_of_heap bR,List.getElem?_toArray,List.getElem?_append_left (by rw[Lib.byteCells_length];exact ag)]
  simp[Lib.byteCells,hx]
 go_enter Tryz.func154,Tryz.ntmps154
 go_wp2
 go_region
 all_goals(go_wp2;go_ret;exact⟨rfl,(F4 w).trans (U8 w.drew ⟨g,0,none⟩ l.length bh) (fun _ h=> .inl h)⟩)
set_option maxHeartbeats 4000000 in
set_option maxRecDepth 100000 in
theorem T8 (b:Nat) (p sv:Value) (w:World) (own:Nat->Prop) (jE:w.heap[b]?=some (.cells #[p,.slice none 0 0,sv] 234 (0,0))):
  Calls Tryz.prog 154 #[.pointer (some ⟨b,0,none⟩)] w fun e w'=>e= .returned (.string ⟨#[]⟩)/\Ext own w w':=by
 have GG:∀(W:World) (q:Option Addr),(Builtin.unsafeString_ #[278,3] 9 #[.pointer q,.int .i64 0]).run Tryz.prog W= .ok (.string .empty) W:=fun W q=>Lib.run_unsafeString_none W _ _ _ q
 have c1:w.drew.cell? ⟨b,1,none⟩=some (.slice none 0 0):=by
  have:w.drew.heap[b]?=some (.cells #[p,.slice none 0 0,sv] 234 (0,0)):=jE
  rw[Lib.cell_of_heap this];rfl
 have sT:(Builtin.unsafeSliceData_ #[230] 278 #[.slice none 0 0]).run Tryz.prog w.drew= .ok (.pointer none) w.drew:=rfl
 go_enter Tryz.func154,Tryz.ntmps154
 go_wp2
 go_region
 all_goals(go_wp2;go_ret;exact⟨rfl,F4 w⟩)
set_option maxHeartbeats 4000000 in
set_option maxRecDepth 100000 in
theorem T9 (b g:Nat) (p sv:Value) (cur:Array Value) (w:World) (own:Nat->Prop) (jE:w.heap[b]?=some (.cells #[p,.slice (some ⟨g,0,none⟩) 0 0,sv] 234 (0,0))) (hg:w.heap[g]?=some (.cells cur 5 (0,0))):
  Calls Tryz.prog 154 #[.pointer (some ⟨b,0,none⟩)] w fun e w'=>e= .returned (.string ⟨#[]⟩)/\Ext own w w':=by
 have GG:∀(W:World) (q:Option Addr),(Builtin.unsafeString_ #[278,3] 9 #[.pointer q,.int .i64 0]).run Tryz.prog W= .ok (.string .empty) W:=fun W q=>Lib.run_unsafeString_none W _ _ _ q
 have ag:b<w.heap.size:=by
  rcases Nat.lt_or_ge b w.heap.size with h'|h'
  ·exact h'
  ·simp[Array.getElem?_eq_none h']at jE
 have c1:w.drew.cell? ⟨b,1,none⟩=some (.slice (some ⟨g,0,none⟩) 0 0):=by
  have:w.drew.heap[b]?=some (.cells #[p,.slice (some ⟨g,0,none⟩) 0 0,sv] 234 (0,0)):=jE
  rw[Lib.cell_of_heap this];rfl
 have sT:(Builtin.unsafeSliceData_ #[230] 278 #[.slice (some ⟨g,0,none⟩) 0 0]).run Tryz.prog w.drew= .ok (.pointer (some ⟨w.drew.heap.size,0,none⟩)) (w.drew.alloc (.view ⟨g,0,none⟩ 5)):=
  Lib.run_unsafeSliceData_zero w.drew _ _ 5 Tryz.underlying278 ⟨g,0,none⟩ 0 (5,cur.size) (by have bR:w.drew.heap[g]?=some (.cells cur 5 (0,0)):=hg;simp[World.shape?,bR])
 have c2:(w.drew.alloc (.view ⟨g,0,none⟩ 5)).cell? ⟨b,1,none⟩=some (.slice (some ⟨g,0,none⟩) 0 0):=by
  have:(w.drew.alloc (.view ⟨g,0,none⟩ 5)).heap[b]?=_:=(Lib.alloc_old w.drew _ b ag).trans jE
  rw[Lib.cell_of_heap this];rfl
 have c3:(w.alloc (.view ⟨g,0,none⟩ 5)).drew.cell? ⟨b,1,none⟩=some (.slice (some ⟨g,0,none⟩) 0 0):=c2
 have c0:w.cell? ⟨b,1,none⟩=some (.slice (some ⟨g,0,none⟩) 0 0):=c1
 go_enter Tryz.func154,Tryz.ntmps154
 go_wp2
 go_region
 all_goals(go_wp2;go_ret;exact⟨rfl,zl (w:=w) _⟩)
set_option maxHeartbeats 4000000 in
set_option maxRecDepth 100000 in
theorem T_ (b g cap:Nat) (p sv:Value) (w:World) (own:Nat->Prop) (wS:cap≠0) (jE:w.heap[b]?=some (.cells #[p,.slice (some ⟨g,0,none⟩) 0 cap,sv] 234 (0,0))):
  Calls Tryz.prog 154 #[.pointer (some ⟨b,0,none⟩)] w fun e w'=>e= .returned (.string ⟨#[]⟩)/\Ext own w w':=by
 have GG:∀(W:World) (q:Option Addr),(Builtin.unsafeString_ #[278,3] 9 #[.pointer q,.int .i64 0]).run Tryz.prog W= .ok (.string .empty) W:=fun W q=>Lib.run_unsafeString_none W _ _ _ q
 have c1:w.drew.cell? ⟨b,1,none⟩=some (.slice (some ⟨g,0,none⟩) 0 cap):=by
  have:w.drew.heap[b]?=some (.cells #[p,.slice (some ⟨g,0,none⟩) 0 cap,sv] 234 (0,0)):=jE
  rw[Lib.cell_of_heap this];rfl
 have sT:(Builtin.unsafeSliceData_ #[230] 278 #[.slice (some ⟨g,0,none⟩) 0 cap]).run Tryz.prog w.drew= .ok (.pointer (some ⟨g,0,none⟩)) w.drew:=
  Lib.run_unsafeSliceData_row _ _ _ _ _ _ wS
 clear wS
 go_enter Tryz.func154,Tryz.ntmps154
 go_wp2
 go_region
 all_goals(go_wp2;go_ret;exact⟨rfl,F4 w⟩)
theorem K3 {w:World} {I:Nat->Prop}:∀(l:List UInt8) (ae:List (List Value)),IV.aM w I (dO l) ae->ae.flatten=Lib.byteCells l
 |[],ae,h=>by simp only[dO,List.map_nil,IV.aM]at h;subst h;rfl
 |x::l,ae,h=>by
  simp only[dO,List.map_cons,IV.aM,IV.ab,IV.den]at h
  obtain⟨u,au,rfl,⟨v,vs,rfl,⟨rfl,_⟩,rfl⟩,h2⟩:=h
  have:=K3 l au h2
  simp[Lib.byteCells,this]
theorem Ub (l:List UInt8) (p:AV) (sh:Bool):ai Tryz.prog 154 [.ob 0 0] [(0,.var 234 [p,.os 1 1 0 l.length,Bv sh]),(1,.vec 5 1 (dO l))] (fun r H'=>H'=[]/\r=Sv l):=by
 refine ai.drop (r:=Sv l) (by rfl) rfl ⟨rfl,rfl⟩ fun w φ I vs hd hR _=>?_
 simp only[AV.ab,AV.den]at hd
 obtain⟨u,us,rfl,⟨b,hb,rfl⟩,rfl⟩:=hd
 have h0:=hR.own 0 _ _ rfl hb
 simp only[Ob.at,Sh.has,AV.ab,AV.den]at h0
 obtain⟨b',us,GM,jE,⟨u,sn,rfl,_,v,pP,rfl,hv,sv,us3,rfl,_,rfl⟩,_⟩:=h0
 cases GM
 have key:Calls Tryz.prog 154 #[.pointer (some ⟨b,0,none⟩)] w fun e' w'=>e'= .returned (.string ⟨l.toArray⟩)/\Ext (cZ φ) w w':=by
  rcases hv with⟨_,_,hl,rfl⟩|⟨g,c,hg,rfl,h2,h3,h4⟩
  ·have:l=[]:=List.eq_nil_of_length_eq_zero hl
   subst this
   exact T8 b u sv w _ jE
  ·have U:=hR.own 1 _ _ rfl hg
   simp only[Ob.at]at U
   rcases U with⟨U,_⟩|⟨g',ae,rest,cH,G5,hr,_⟩
   ·cases U
   cases cH
   have ej:=K3 l ae hr
   rw[ej]at G5
   simp only[Nat.zero_mul]at jE
   by_cases hl:l=[]
   ·subst hl
    by_cases hc:c=0
    ·subst hc
     exact T9 b g u sv _ w _ jE G5
    ·exact T_ b g c u sv w _ hc jE
   ·exact Ua l hl b g c u sv rest w _ ⟨1,hg⟩ jE G5 h2 h3
 refine key.mono fun e w' ⟨he,hx⟩=>⟨_,he,?_,hx⟩
 rw[mM]
 rfl
theorem KY:∃j,Tryz.prog.info? 232=some j/\j.size≠0:=by
 have h:(Tryz.prog.info? 232).map (·.size)=some 2:=by kernel_rfl
 obtain⟨j,hj,hs⟩:=Option.map_eq_some_iff.1 h
 exact⟨j,hj,by rw[hs];decide⟩
theorem Ue:liesAt Tryz.prog Tryz.prog.depth 234 (3/Tryz.prog.cellsOf 234) 0 232 1=true:=by kernel_rfl
theorem Rj {w:World} {φ:al} {I:Nat->Prop} {H:aa} {b g:Nat} {p q:AV} {sh:Bool} (hR:Real w φ I H) (hl:lk H b=some (.var 234 [p,q,Bv sh])) (hb:φ b=some (some g)):w.shape? g=some (234,3):=by
 have h0:=hR.own b _ _ hl hb
 simp only[Ob.at,Sh.has,AV.ab]at h0
 obtain⟨b',us,GM,jE,⟨u,sn,rfl,_,v,pP,rfl,hv,sv,us3,rfl,_,rfl⟩,_⟩:=h0
 cases GM
 simp[World.shape?,jE]
theorem Jj {C:Cx} {φ:al} {I:Nat->Prop} {E:Env} {H:aa} {a:Act} {w:World} (hs:bB C φ I E H a w) {t:Nat} (ht:lk E t=some (.ob 0 0)):∃g,φ 0=some (some g)/\a.eval (.tmp t)= .pointer (some ⟨g,0,none⟩):=by
 obtain⟨u,hu,hd⟩:=hs.env _ _ ht
 simp only[AV.den]at hd
 obtain⟨g,hg,rfl⟩:=hd
 exact⟨g,hg,by simp only[Act.eval,Array.getD_eq_getD_getElem?,hu,Option.getD_some]⟩
set_option maxRecDepth 10000
set_option maxHeartbeats 1000000
theorem Lp (q:AV) (sh:Bool) (rows:List (List IV)):ai Tryz.prog 196 [.ob 0 0] [(0,.var 234 [.im (.v (.pointer none)),q,Bv sh]),(1,.vec 5 1 rows)] (fun r H'=>H'=[(0,.var 234 [.ob 0 0,q,Bv sh]),(1,.vec 5 1 rows)]/\r= .aI []):=by
 obtain⟨j,hj,u5⟩:=KY
 refine ai.walk [0,6,19] [] Tryz.func196 rfl Tryz.ntmps196 (by kernel_rfl) (by rfl) rfl fun W own I0 ao lay=>?_
 refine gO ?_
 refine AQ.val (.ob 0 0) (by kernel_rfl) rfl (fun φ I a w hs=>?_) ?_
 ·obtain⟨g,hg,nS⟩:=Jj (t:=8) hs rfl
  have cX:=Rj hs.st.real rfl hg
  refine⟨_,?_,by simp only[AV.den];exact⟨g,hg,rfl⟩⟩
  simp only[execOp,nS,Sem.run_bind]
  rw[Lib.run_to_unsafe w ⟨g,0,none⟩ Tryz.underlying229 Tryz.underlying300 hj u5 cX (Nat.zero_lt_succ _)]
  rfl
 refine gO ?_
 refine AQ.val (.ob 0 0) (by kernel_rfl) rfl (fun φ I a w hs=>?_) ?_
 ·obtain⟨g,hg,nS⟩:=Jj (t:=9) hs rfl
  refine⟨_,?_,by simp only[AV.den];exact⟨g,hg,rfl⟩⟩
  simp only[execOp,Sem.run_bind,resolve,invoke,Sem.run_pure,Result.andThen_ok,List.map_toArray,List.map_cons,List.map_nil,nS]
  have hf:a.eval (Operand.func 224)= .func (.func 224) #[] #[]:=rfl
  simp only[hf,Deferred.ofValue,Sem.run_pure,Result.andThen_ok,Array.append_empty,Array.empty_append]
  rw[run_callFunc_extern Tryz.func224 (by kernel_rfl) (by kernel_rfl) (by kernel_rfl) (e:=Extern.AbiNoEscape.same) (by kernel_rfl)]
  rw[Lib.run_noEscape]
  rfl
 refine gO ?_
 refine AQ.val (.ob 0 0) (by kernel_rfl) rfl (fun φ I a w hs=>?_) ?_
 ·obtain⟨g,hg,nS⟩:=Jj (t:=10) hs rfl
  have cX:=Rj hs.st.real rfl hg
  refine⟨_,?_,by simp only[AV.den];exact⟨g,hg,rfl⟩⟩
  simp only[execOp,nS,Sem.run_bind]
  rw[Lib.run_from_unsafe w ⟨g,0,none⟩ Tryz.underlying300 Tryz.underlying229 hj cX Ue]
  rfl
 refine gO ?_
 exact AE.kf rfl trivial ⟨rfl,rfl⟩
theorem Lq (q:AV) (sh:Bool) (rows:List (List IV)):ai Tryz.prog 196 [.ob 0 0] [(0,.var 234 [.ob 0 0,q,Bv sh]),(1,.vec 5 1 rows)] (fun r H'=>H'=[(0,.var 234 [.ob 0 0,q,Bv sh]),(1,.vec 5 1 rows)]/\r= .aI []):=by
 obtain⟨j,hj,u5⟩:=KY
 refine ai.walk [0,6,19] [] Tryz.func196 rfl Tryz.ntmps196 (by kernel_rfl) (by rfl) rfl fun W own I0 ao lay=>?_
 refine gO ?_
 exact AE.kf rfl trivial ⟨rfl,rfl⟩
theorem acw (p:AV) (hp:p= .im (.v (.pointer none))\/p= .ob 0 0) (sh:Bool) (l m:List UInt8) (n:Nat) (hn:n=l.length) (hb:l.length+m.length<=1000000000):
  ai Tryz.prog 152 [.ob 0 0,Sv m] [(0,.var 234 [p,.os 1 1 0 n,Bv sh]),(1,.vec 5 1 (dO l))]
   (fun r H'=>H'=[(0,.var 234 [.ob 0 0,.os 2 1 0 (n+m.length),Bv sh]),(2,.vec 5 1 (dO (l++m)))]/\r= .aI [Iv m.length,.im (.v .nilIface)]):=by
 subst hn
 have jF:ai Tryz.prog 196 [.ob 0 0] [(0,.var 234 [p,.os 1 1 0 l.length,Bv sh]),(1,.vec 5 1 (dO l))] (fun r H'=>H'=[(0,.var 234 [.ob 0 0,.os 1 1 0 l.length,Bv sh]),(1,.vec 5 1 (dO l))]/\r= .aI []):=by
  rcases hp with rfl|rfl
  ·exact Lp _ _ _
  ·exact Lq _ _ _
 have Hw:lP (bA [(0,0),(1,1)] 2) [(0,.var 234 [p,.os 1 1 0 l.length,Bv sh]),(1,.vec 5 1 (dO l))] [(0,.var 234 [p,.os 1 1 0 l.length,Bv sh]),(1,.vec 5 1 (dO l))]:=by
  rcases hp with rfl|rfl
  ·exact⟨rfl,rfl,trivial⟩
  ·exact⟨rfl,rfl,trivial⟩
 refine ai.walk [0,1,4,5] [] Tryz.func152 rfl Tryz.ntmps152 (by kernel_rfl) (by rfl) rfl fun W own I0 ao lay=>?_
 refine gO ?_
 refine AQ.bW [(0,0),(1,1)] (by kernel_rfl) rfl rfl rfl rfl rfl rfl Hw rfl jF ?_
 rintro r H1 ⟨rfl,rfl⟩
 refine⟨rfl,?_⟩
 refine gO ?_
 refine AQ.rename 1 2 rfl rfl rfl ?_
 refine sI ?_
 refine AQ.kill 2 ?_
 refine sI ?_
 refine AQ.TQ (hnb:=rfl) (l:=m) (by kernel_rfl) rfl rfl rfl rfl (by kernel_rfl) (by kernel_rfl) (by kernel_rfl) (by kernel_rfl) (by kernel_rfl) (pZ l).symm (by rw[pZ];omega) ?_
 refine gO ?_
 exact AE.ret rfl ⟨rfl,rfl,trivial⟩ ⟨by rw[pZ,show dO (l++m)=dO l++dO m by simp[dO]],rfl⟩
end Go.Proofs.YtpfohmboflcneaaGreatDoor
end
