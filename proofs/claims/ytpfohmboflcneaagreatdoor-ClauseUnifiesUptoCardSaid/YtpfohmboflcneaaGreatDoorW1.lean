import Derived.Test.YtpfohmboflcneaaGreatDoorAl3
import Derived.Test.YtpfohmboflcneaaGreatDoorChecked
import Derived.KernelRfl
import Derived.Lib.ItoaMem
set_option linter.unusedSimpArgs false
set_option linter.unusedVariables false
set_option linter.unnecessarySimpa false
section

end
section
namespace Go.Proofs.YtpfohmboflcneaaGreatDoor
open Go Go.AL
@[go_sem] theorem Tryz.tk1:tk Tryz.prog 1= .func:=by kernel_rfl
@[go_sem] theorem Tryz.sz1:sz Tryz.prog 1=some 1:=by kernel_rfl
@[go_sem] theorem Tryz.by1:aI Tryz.prog 1=some 8:=by kernel_rfl
@[go_sem] theorem Tryz.zr1:aA Tryz.prog 1=some ([.nilFunc]):=by kernel_rfl
@[go_sem] theorem Tryz.tk2:tk Tryz.prog 2= .int .i64:=by kernel_rfl
@[go_sem] theorem Tryz.sz2:sz Tryz.prog 2=some 1:=by kernel_rfl
@[go_sem] theorem Tryz.by2:aI Tryz.prog 2=some 8:=by kernel_rfl
@[go_sem] theorem Tryz.un2:(Tryz.prog.underlying 2).isSome=true:=by kernel_rfl
@[go_sem] theorem Tryz.zr2:aA Tryz.prog 2=some ([.int .i64 0]):=by kernel_rfl
@[go_sem] theorem Tryz.tk3:tk Tryz.prog 3= .int .i64:=by kernel_rfl
@[go_sem] theorem Tryz.sz3:sz Tryz.prog 3=some 1:=by kernel_rfl
@[go_sem] theorem Tryz.Td:aI Tryz.prog 3=some 8:=by kernel_rfl
@[go_sem] theorem Tryz.un3:(Tryz.prog.underlying 3).isSome=true:=by kernel_rfl
@[go_sem] theorem Tryz.zr3:aA Tryz.prog 3=some ([.int .i64 0]):=by kernel_rfl
@[go_sem] theorem Tryz.tk4:tk Tryz.prog 4= .bool:=by kernel_rfl
@[go_sem] theorem Tryz.sz4:sz Tryz.prog 4=some 1:=by kernel_rfl
@[go_sem] theorem Tryz.by4:aI Tryz.prog 4=some 1:=by kernel_rfl
@[go_sem] theorem Tryz.un4:(Tryz.prog.underlying 4).isSome=true:=by kernel_rfl
@[go_sem] theorem Tryz.zr4:aA Tryz.prog 4=some ([.bool false]):=by kernel_rfl
@[go_sem] theorem Tryz.tk5:tk Tryz.prog 5= .int .u8:=by kernel_rfl
@[go_sem] theorem Tryz.sz5:sz Tryz.prog 5=some 1:=by kernel_rfl
@[go_sem] theorem Tryz.Te:aI Tryz.prog 5=some 1:=by kernel_rfl
@[go_sem] theorem Tryz.un5:(Tryz.prog.underlying 5).isSome=true:=by kernel_rfl
@[go_sem] theorem Tryz.zr5:aA Tryz.prog 5=some ([.int .u8 0]):=by kernel_rfl
@[go_sem] theorem Tryz.tk6:tk Tryz.prog 6= .int .u8:=by kernel_rfl
@[go_sem] theorem Tryz.sz6:sz Tryz.prog 6=some 1:=by kernel_rfl
@[go_sem] theorem Tryz.by6:aI Tryz.prog 6=some 1:=by kernel_rfl
@[go_sem] theorem Tryz.un6:(Tryz.prog.underlying 6).isSome=true:=by kernel_rfl
@[go_sem] theorem Tryz.zr6:aA Tryz.prog 6=some ([.int .u8 0]):=by kernel_rfl
@[go_sem] theorem Tryz.tk7:tk Tryz.prog 7= .struct [(0,2),(1,3),(2,4),(3,6)]:=by kernel_rfl
@[go_sem] theorem Tryz.sz7:sz Tryz.prog 7=some 4:=by kernel_rfl
@[go_sem] theorem Tryz.by7:aI Tryz.prog 7=some 24:=by kernel_rfl
@[go_sem] theorem Tryz.eq7:mb Tryz.prog 7=true:=by kernel_rfl
@[go_sem] theorem Tryz.zr7:aA Tryz.prog 7=some ([.int .i64 0,.int .i64 0,.bool false,.int .u8 0]):=by kernel_rfl
@[go_sem] theorem Tryz.tk8:tk Tryz.prog 8= .struct [(0,2),(1,3),(2,4),(3,6)]:=by kernel_rfl
@[go_sem] theorem Tryz.sz8:sz Tryz.prog 8=some 4:=by kernel_rfl
@[go_sem] theorem Tryz.by8:aI Tryz.prog 8=some 24:=by kernel_rfl
@[go_sem] theorem Tryz.eq8:mb Tryz.prog 8=true:=by kernel_rfl
@[go_sem] theorem Tryz.zr8:aA Tryz.prog 8=some ([.int .i64 0,.int .i64 0,.bool false,.int .u8 0]):=by kernel_rfl
@[go_sem] theorem Tryz.tk9:tk Tryz.prog 9= .str:=by kernel_rfl
@[go_sem] theorem Tryz.sz9:sz Tryz.prog 9=some 1:=by kernel_rfl
@[go_sem] theorem Tryz.by9:aI Tryz.prog 9=some 16:=by kernel_rfl
@[go_sem] theorem Tryz.un9:(Tryz.prog.underlying 9).isSome=true:=by kernel_rfl
@[go_sem] theorem Tryz.zr9:aA Tryz.prog 9=some ([.string ⟨#[]⟩]):=by kernel_rfl
@[go_sem] theorem Tryz.aev:tk Tryz.prog 10= .str:=by kernel_rfl
@[go_sem] theorem Tryz.adg:sz Tryz.prog 10=some 1:=by kernel_rfl
@[go_sem] theorem Tryz.abw:aI Tryz.prog 10=some 16:=by kernel_rfl
@[go_sem] theorem Tryz.afI:(Tryz.prog.underlying 10).isSome=true:=by kernel_rfl
@[go_sem] theorem Tryz.afS:aA Tryz.prog 10=some ([.string ⟨#[]⟩]):=by kernel_rfl
@[go_sem] theorem Tryz.aex:tk Tryz.prog 11= .str:=by kernel_rfl
@[go_sem] theorem Tryz.adi:sz Tryz.prog 11=some 1:=by kernel_rfl
@[go_sem] theorem Tryz.aby:aI Tryz.prog 11=some 16:=by kernel_rfl
@[go_sem] theorem Tryz.afJ:(Tryz.prog.underlying 11).isSome=true:=by kernel_rfl
@[go_sem] theorem Tryz.afU:aA Tryz.prog 11=some ([.string ⟨#[]⟩]):=by kernel_rfl
@[go_sem] theorem Tryz.aeY:tk Tryz.prog 20= .iface:=by kernel_rfl
@[go_sem] theorem Tryz.adI:sz Tryz.prog 20=some 1:=by kernel_rfl
@[go_sem] theorem Tryz.abZ:aI Tryz.prog 20=some 16:=by kernel_rfl
@[go_sem] theorem Tryz.agl:aA Tryz.prog 20=some ([.nilIface]):=by kernel_rfl
@[go_sem] theorem Tryz.aeZ:tk Tryz.prog 21= .int .i32:=by kernel_rfl
@[go_sem] theorem Tryz.adJ:sz Tryz.prog 21=some 1:=by kernel_rfl
@[go_sem] theorem Tryz.ab0:aI Tryz.prog 21=some 4:=by kernel_rfl
@[go_sem] theorem Tryz.afK:(Tryz.prog.underlying 21).isSome=true:=by kernel_rfl
@[go_sem] theorem Tryz.agm:aA Tryz.prog 21=some ([.int .i32 0]):=by kernel_rfl
@[go_sem] theorem Tryz.ae5:tk Tryz.prog 23= .slice 61:=by kernel_rfl
@[go_sem] theorem Tryz.adP:sz Tryz.prog 23=some 1:=by kernel_rfl
@[go_sem] theorem Tryz.ab6:aI Tryz.prog 23=some 24:=by kernel_rfl
@[go_sem] theorem Tryz.ags:aA Tryz.prog 23=some ([.slice none 0 0]):=by kernel_rfl
@[go_sem] theorem Tryz.ae9:tk Tryz.prog 24= .func:=by kernel_rfl
@[go_sem] theorem Tryz.adU:sz Tryz.prog 24=some 1:=by kernel_rfl
@[go_sem] theorem Tryz.aca:aI Tryz.prog 24=some 8:=by kernel_rfl
@[go_sem] theorem Tryz.agx:aA Tryz.prog 24=some ([.nilFunc]):=by kernel_rfl
@[go_sem] theorem Tryz.D1:tk Tryz.prog 27= .slice 119:=by kernel_rfl
@[go_sem] theorem Tryz.adY:sz Tryz.prog 27=some 1:=by kernel_rfl
@[go_sem] theorem Tryz.acf:aI Tryz.prog 27=some 24:=by kernel_rfl
@[go_sem] theorem Tryz.agB:aA Tryz.prog 27=some ([.slice none 0 0]):=by kernel_rfl
@[go_sem] theorem Tryz.afe:tk Tryz.prog 30= .int .i64:=by kernel_rfl
@[go_sem] theorem Tryz.ad1:sz Tryz.prog 30=some 1:=by kernel_rfl
@[go_sem] theorem Tryz.aci:aI Tryz.prog 30=some 8:=by kernel_rfl
@[go_sem] theorem Tryz.afM:(Tryz.prog.underlying 30).isSome=true:=by kernel_rfl
@[go_sem] theorem Tryz.agE:aA Tryz.prog 30=some ([.int .i64 0]):=by kernel_rfl
@[go_sem] theorem Tryz.afk:tk Tryz.prog 32= .func:=by kernel_rfl
@[go_sem] theorem Tryz.ad7:sz Tryz.prog 32=some 1:=by kernel_rfl
@[go_sem] theorem Tryz.acp:aI Tryz.prog 32=some 8:=by kernel_rfl
@[go_sem] theorem Tryz.agK:aA Tryz.prog 32=some ([.nilFunc]):=by kernel_rfl
@[go_sem] theorem Tryz.aaG:tk Tryz.prog 46= .slice 3:=by kernel_rfl
@[go_sem] theorem Tryz.aej:sz Tryz.prog 46=some 1:=by kernel_rfl
@[go_sem] theorem Tryz.acD:aI Tryz.prog 46=some 24:=by kernel_rfl
@[go_sem] theorem Tryz.agY:aA Tryz.prog 46=some ([.slice none 0 0]):=by kernel_rfl
@[go_sem] theorem Tryz.afx:tk Tryz.prog 52= .slice 59:=by kernel_rfl
@[go_sem] theorem Tryz.aek:sz Tryz.prog 52=some 1:=by kernel_rfl
@[go_sem] theorem Tryz.acE:aI Tryz.prog 52=some 24:=by kernel_rfl
@[go_sem] theorem Tryz.agZ:aA Tryz.prog 52=some ([.slice none 0 0]):=by kernel_rfl
@[go_sem] theorem Tryz.aaH:tk Tryz.prog 55= .slice 57:=by kernel_rfl
@[go_sem] theorem Tryz.ael:sz Tryz.prog 55=some 1:=by kernel_rfl
@[go_sem] theorem Tryz.acF:aI Tryz.prog 55=some 24:=by kernel_rfl
@[go_sem] theorem Tryz.ag0:aA Tryz.prog 55=some ([.slice none 0 0]):=by kernel_rfl
@[go_sem] theorem Tryz.afy:tk Tryz.prog 57= .struct [(0,9),(1,3),(2,55)]:=by kernel_rfl
@[go_sem] theorem Tryz.aaz:sz Tryz.prog 57=some 3:=by kernel_rfl
@[go_sem] theorem Tryz.Tf:aI Tryz.prog 57=some 48:=by kernel_rfl
@[go_sem] theorem Tryz.abv:aA Tryz.prog 57=some ([.string ⟨#[]⟩,.int .i64 0,.slice none 0 0]):=by kernel_rfl
@[go_sem] theorem Tryz.afz:tk Tryz.prog 59= .struct [(0,3),(1,57)]:=by kernel_rfl
@[go_sem] theorem Tryz.aem:sz Tryz.prog 59=some 4:=by kernel_rfl
@[go_sem] theorem Tryz.acG:aI Tryz.prog 59=some 56:=by kernel_rfl
@[go_sem] theorem Tryz.ag1:aA Tryz.prog 59=some ([.int .i64 0,.string ⟨#[]⟩,.int .i64 0,.slice none 0 0]):=by kernel_rfl
@[go_sem] theorem Tryz.afA:tk Tryz.prog 61= .struct [(0,4),(1,9),(2,55)]:=by kernel_rfl
@[go_sem] theorem Tryz.aen:sz Tryz.prog 61=some 3:=by kernel_rfl
@[go_sem] theorem Tryz.acH:aI Tryz.prog 61=some 48:=by kernel_rfl
@[go_sem] theorem Tryz.ag2:aA Tryz.prog 61=some ([.bool false,.string ⟨#[]⟩,.slice none 0 0]):=by kernel_rfl
@[go_sem] theorem Tryz.QS:tk Tryz.prog 64= .slice 98:=by kernel_rfl
@[go_sem] theorem Tryz.aeo:sz Tryz.prog 64=some 1:=by kernel_rfl
@[go_sem] theorem Tryz.acI:aI Tryz.prog 64=some 24:=by kernel_rfl
@[go_sem] theorem Tryz.ag3:aA Tryz.prog 64=some ([.slice none 0 0]):=by kernel_rfl
@[go_sem] theorem Tryz.afB:tk Tryz.prog 65= .func:=by kernel_rfl
@[go_sem] theorem Tryz.aep:sz Tryz.prog 65=some 1:=by kernel_rfl
@[go_sem] theorem Tryz.acJ:aI Tryz.prog 65=some 8:=by kernel_rfl
@[go_sem] theorem Tryz.ag4:aA Tryz.prog 65=some ([.nilFunc]):=by kernel_rfl
@[go_sem] theorem Tryz.afC:tk Tryz.prog 67= .func:=by kernel_rfl
@[go_sem] theorem Tryz.aeq:sz Tryz.prog 67=some 1:=by kernel_rfl
@[go_sem] theorem Tryz.acK:aI Tryz.prog 67=some 8:=by kernel_rfl
@[go_sem] theorem Tryz.ag5:aA Tryz.prog 67=some ([.nilFunc]):=by kernel_rfl
@[go_sem] theorem Tryz.s8:tk Tryz.prog 69= .slice 71:=by kernel_rfl
@[go_sem] theorem Tryz.aer:sz Tryz.prog 69=some 1:=by kernel_rfl
@[go_sem] theorem Tryz.acL:aI Tryz.prog 69=some 24:=by kernel_rfl
@[go_sem] theorem Tryz.ag6:aA Tryz.prog 69=some ([.slice none 0 0]):=by kernel_rfl
@[go_sem] theorem Tryz.afD:tk Tryz.prog 71= .struct [(0,9),(1,3),(2,69)]:=by kernel_rfl
@[go_sem] theorem Tryz.s6:sz Tryz.prog 71=some 3:=by kernel_rfl
@[go_sem] theorem Tryz.rB:aI Tryz.prog 71=some 48:=by kernel_rfl
@[go_sem] theorem Tryz.td:aA Tryz.prog 71=some ([.string ⟨#[]⟩,.int .i64 0,.slice none 0 0]):=by kernel_rfl
@[go_sem] theorem Tryz.afE:tk Tryz.prog 88= .func:=by kernel_rfl
@[go_sem] theorem Tryz.aes:sz Tryz.prog 88=some 1:=by kernel_rfl
@[go_sem] theorem Tryz.acM:aI Tryz.prog 88=some 8:=by kernel_rfl
@[go_sem] theorem Tryz.ag7:aA Tryz.prog 88=some ([.nilFunc]):=by kernel_rfl
@[go_sem] theorem Tryz.afF:tk Tryz.prog 89= .func:=by kernel_rfl
@[go_sem] theorem Tryz.aet:sz Tryz.prog 89=some 1:=by kernel_rfl
@[go_sem] theorem Tryz.acN:aI Tryz.prog 89=some 8:=by kernel_rfl
@[go_sem] theorem Tryz.ag8:aA Tryz.prog 89=some ([.nilFunc]):=by kernel_rfl
@[go_sem] theorem Tryz.afG:tk Tryz.prog 94= .func:=by kernel_rfl
@[go_sem] theorem Tryz.aeu:sz Tryz.prog 94=some 1:=by kernel_rfl
@[go_sem] theorem Tryz.acO:aI Tryz.prog 94=some 8:=by kernel_rfl
@[go_sem] theorem Tryz.ag9:aA Tryz.prog 94=some ([.nilFunc]):=by kernel_rfl
@[go_sem] theorem Tryz.afH:tk Tryz.prog 98= .struct [(0,3),(1,71)]:=by kernel_rfl
@[go_sem] theorem Tryz.QO:sz Tryz.prog 98=some 4:=by kernel_rfl
@[go_sem] theorem Tryz.Ka:aI Tryz.prog 98=some 56:=by kernel_rfl
@[go_sem] theorem Tryz.RO:aA Tryz.prog 98=some ([.int .i64 0,.string ⟨#[]⟩,.int .i64 0,.slice none 0 0]):=by kernel_rfl
@[go_sem] theorem Tryz.aew:tk Tryz.prog 107= .slice 216:=by kernel_rfl
@[go_sem] theorem Tryz.adh:sz Tryz.prog 107=some 1:=by kernel_rfl
@[go_sem] theorem Tryz.abx:aI Tryz.prog 107=some 24:=by kernel_rfl
@[go_sem] theorem Tryz.afT:aA Tryz.prog 107=some ([.slice none 0 0]):=by kernel_rfl
@[go_sem] theorem Tryz.aey:tk Tryz.prog 116= .func:=by kernel_rfl
@[go_sem] theorem Tryz.adj:sz Tryz.prog 116=some 1:=by kernel_rfl
@[go_sem] theorem Tryz.abz:aI Tryz.prog 116=some 8:=by kernel_rfl
@[go_sem] theorem Tryz.afV:aA Tryz.prog 116=some ([.nilFunc]):=by kernel_rfl
@[go_sem] theorem Tryz.aez:tk Tryz.prog 119= .struct [(0,4),(1,9),(2,69)]:=by kernel_rfl
@[go_sem] theorem Tryz.DY:sz Tryz.prog 119=some 3:=by kernel_rfl
@[go_sem] theorem Tryz.Bn:aI Tryz.prog 119=some 48:=by kernel_rfl
@[go_sem] theorem Tryz.Eh:aA Tryz.prog 119=some ([.bool false,.string ⟨#[]⟩,.slice none 0 0]):=by kernel_rfl
@[go_sem] theorem Tryz.aeA:tk Tryz.prog 123= .func:=by kernel_rfl
@[go_sem] theorem Tryz.adk:sz Tryz.prog 123=some 1:=by kernel_rfl
@[go_sem] theorem Tryz.abA:aI Tryz.prog 123=some 8:=by kernel_rfl
@[go_sem] theorem Tryz.afW:aA Tryz.prog 123=some ([.nilFunc]):=by kernel_rfl
@[go_sem] theorem Tryz.aeB:tk Tryz.prog 124= .func:=by kernel_rfl
@[go_sem] theorem Tryz.adl:sz Tryz.prog 124=some 1:=by kernel_rfl
@[go_sem] theorem Tryz.abB:aI Tryz.prog 124=some 8:=by kernel_rfl
@[go_sem] theorem Tryz.afX:aA Tryz.prog 124=some ([.nilFunc]):=by kernel_rfl
@[go_sem] theorem Tryz.aeC:tk Tryz.prog 131= .struct []:=by kernel_rfl
@[go_sem] theorem Tryz.adm:sz Tryz.prog 131=some 0:=by kernel_rfl
@[go_sem] theorem Tryz.abC:aI Tryz.prog 131=some 0:=by kernel_rfl
@[go_sem] theorem Tryz.afY:aA Tryz.prog 131=some ([]):=by kernel_rfl
@[go_sem] theorem Tryz.aeD:tk Tryz.prog 133= .ptr 135:=by kernel_rfl
@[go_sem] theorem Tryz.adn:sz Tryz.prog 133=some 1:=by kernel_rfl
@[go_sem] theorem Tryz.abD:aI Tryz.prog 133=some 8:=by kernel_rfl
@[go_sem] theorem Tryz.afZ:aA Tryz.prog 133=some ([.pointer none]):=by kernel_rfl
@[go_sem] theorem Tryz.aeE:tk Tryz.prog 135= .struct [(0,9),(1,3)]:=by kernel_rfl
@[go_sem] theorem Tryz.ado:sz Tryz.prog 135=some 2:=by kernel_rfl
@[go_sem] theorem Tryz.abE:aI Tryz.prog 135=some 24:=by kernel_rfl
@[go_sem] theorem Tryz.acP:mb Tryz.prog 135=true:=by kernel_rfl
@[go_sem] theorem Tryz.af0:aA Tryz.prog 135=some ([.string ⟨#[]⟩,.int .i64 0]):=by kernel_rfl
@[go_sem] theorem Tryz.aaE:tk Tryz.prog 140= .slice 145:=by kernel_rfl
@[go_sem] theorem Tryz.adp:sz Tryz.prog 140=some 1:=by kernel_rfl
@[go_sem] theorem Tryz.abF:aI Tryz.prog 140=some 24:=by kernel_rfl
@[go_sem] theorem Tryz.af1:aA Tryz.prog 140=some ([.slice none 0 0]):=by kernel_rfl
@[go_sem] theorem Tryz.aeF:tk Tryz.prog 143= .func:=by kernel_rfl
@[go_sem] theorem Tryz.adq:sz Tryz.prog 143=some 1:=by kernel_rfl
@[go_sem] theorem Tryz.abG:aI Tryz.prog 143=some 8:=by kernel_rfl
@[go_sem] theorem Tryz.af2:aA Tryz.prog 143=some ([.nilFunc]):=by kernel_rfl
@[go_sem] theorem Tryz.aeG:tk Tryz.prog 145= .struct [(0,119),(3,9)]:=by kernel_rfl
@[go_sem] theorem Tryz.aay:sz Tryz.prog 145=some 4:=by kernel_rfl
@[go_sem] theorem Tryz.Ta:aI Tryz.prog 145=some 64:=by kernel_rfl
@[go_sem] theorem Tryz.abu:aA Tryz.prog 145=some ([.bool false,.string ⟨#[]⟩,.slice none 0 0,.string ⟨#[]⟩]):=by kernel_rfl
@[go_sem] theorem Tryz.aeH:tk Tryz.prog 148= .func:=by kernel_rfl
@[go_sem] theorem Tryz.adr:sz Tryz.prog 148=some 1:=by kernel_rfl
@[go_sem] theorem Tryz.abH:aI Tryz.prog 148=some 8:=by kernel_rfl
@[go_sem] theorem Tryz.af3:aA Tryz.prog 148=some ([.nilFunc]):=by kernel_rfl
@[go_sem] theorem Tryz.aeI:tk Tryz.prog 149= .map 3 3:=by kernel_rfl
@[go_sem] theorem Tryz.ads:sz Tryz.prog 149=some 1:=by kernel_rfl
@[go_sem] theorem Tryz.abI:aI Tryz.prog 149=some 8:=by kernel_rfl
@[go_sem] theorem Tryz.af4:aA Tryz.prog 149=some ([.map none]):=by kernel_rfl
@[go_sem] theorem Tryz.aeJ:tk Tryz.prog 151= .func:=by kernel_rfl
@[go_sem] theorem Tryz.adt:sz Tryz.prog 151=some 1:=by kernel_rfl
@[go_sem] theorem Tryz.abJ:aI Tryz.prog 151=some 8:=by kernel_rfl
@[go_sem] theorem Tryz.af5:aA Tryz.prog 151=some ([.nilFunc]):=by kernel_rfl
@[go_sem] theorem Tryz.aeK:tk Tryz.prog 153= .func:=by kernel_rfl
@[go_sem] theorem Tryz.adu:sz Tryz.prog 153=some 1:=by kernel_rfl
@[go_sem] theorem Tryz.abK:aI Tryz.prog 153=some 8:=by kernel_rfl
@[go_sem] theorem Tryz.af6:aA Tryz.prog 153=some ([.nilFunc]):=by kernel_rfl
@[go_sem] theorem Tryz.aeL:tk Tryz.prog 158= .map 3 71:=by kernel_rfl
@[go_sem] theorem Tryz.adv:sz Tryz.prog 158=some 1:=by kernel_rfl
@[go_sem] theorem Tryz.abL:aI Tryz.prog 158=some 8:=by kernel_rfl
@[go_sem] theorem Tryz.af7:aA Tryz.prog 158=some ([.map none]):=by kernel_rfl
@[go_sem] theorem Tryz.aeM:tk Tryz.prog 161= .map 3 164:=by kernel_rfl
@[go_sem] theorem Tryz.adw:sz Tryz.prog 161=some 1:=by kernel_rfl
@[go_sem] theorem Tryz.abM:aI Tryz.prog 161=some 8:=by kernel_rfl
@[go_sem] theorem Tryz.af8:aA Tryz.prog 161=some ([.map none]):=by kernel_rfl
@[go_sem] theorem Tryz.aeN:tk Tryz.prog 164= .struct [(0,3),(1,3)]:=by kernel_rfl
@[go_sem] theorem Tryz.adx:sz Tryz.prog 164=some 2:=by kernel_rfl
@[go_sem] theorem Tryz.abN:aI Tryz.prog 164=some 16:=by kernel_rfl
@[go_sem] theorem Tryz.acQ:mb Tryz.prog 164=true:=by kernel_rfl
@[go_sem] theorem Tryz.af9:aA Tryz.prog 164=some ([.int .i64 0,.int .i64 0]):=by kernel_rfl
@[go_sem] theorem Tryz.aeO:tk Tryz.prog 178= .ptr 189:=by kernel_rfl
@[go_sem] theorem Tryz.ady:sz Tryz.prog 178=some 1:=by kernel_rfl
@[go_sem] theorem Tryz.abO:aI Tryz.prog 178=some 8:=by kernel_rfl
@[go_sem] theorem Tryz.af_:aA Tryz.prog 178=some ([.pointer none]):=by kernel_rfl
@[go_sem] theorem Tryz.aeP:tk Tryz.prog 179= .map 187 194:=by kernel_rfl
@[go_sem] theorem Tryz.adz:sz Tryz.prog 179=some 1:=by kernel_rfl
@[go_sem] theorem Tryz.abP:aI Tryz.prog 179=some 8:=by kernel_rfl
@[go_sem] theorem Tryz.aga:aA Tryz.prog 179=some ([.map none]):=by kernel_rfl
@[go_sem] theorem Tryz.aeQ:tk Tryz.prog 182= .func:=by kernel_rfl
@[go_sem] theorem Tryz.adA:sz Tryz.prog 182=some 1:=by kernel_rfl
@[go_sem] theorem Tryz.abQ:aI Tryz.prog 182=some 8:=by kernel_rfl
@[go_sem] theorem Tryz.agb:aA Tryz.prog 182=some ([.nilFunc]):=by kernel_rfl
@[go_sem] theorem Tryz.aeR:tk Tryz.prog 183= .func:=by kernel_rfl
@[go_sem] theorem Tryz.adB:sz Tryz.prog 183=some 1:=by kernel_rfl
@[go_sem] theorem Tryz.abR:aI Tryz.prog 183=some 8:=by kernel_rfl
@[go_sem] theorem Tryz.agc:aA Tryz.prog 183=some ([.nilFunc]):=by kernel_rfl
@[go_sem] theorem Tryz.aeS:tk Tryz.prog 184= .func:=by kernel_rfl
@[go_sem] theorem Tryz.adC:sz Tryz.prog 184=some 1:=by kernel_rfl
@[go_sem] theorem Tryz.abS:aI Tryz.prog 184=some 8:=by kernel_rfl
@[go_sem] theorem Tryz.agd:aA Tryz.prog 184=some ([.nilFunc]):=by kernel_rfl
@[go_sem] theorem Tryz.aeT:tk Tryz.prog 186= .map 3 187:=by kernel_rfl
@[go_sem] theorem Tryz.adD:sz Tryz.prog 186=some 1:=by kernel_rfl
@[go_sem] theorem Tryz.abT:aI Tryz.prog 186=some 8:=by kernel_rfl
@[go_sem] theorem Tryz.age:aA Tryz.prog 186=some ([.map none]):=by kernel_rfl
@[go_sem] theorem Tryz.s7:tk Tryz.prog 187= .ptr 192:=by kernel_rfl
@[go_sem] theorem Tryz.pU:sz Tryz.prog 187=some 1:=by kernel_rfl
@[go_sem] theorem Tryz.Tb:aI Tryz.prog 187=some 8:=by kernel_rfl
@[go_sem] theorem Tryz.Jr:aA Tryz.prog 187=some ([.pointer none]):=by kernel_rfl
@[go_sem] theorem Tryz.aeU:tk Tryz.prog 189= .struct [(0,186)]:=by kernel_rfl
@[go_sem] theorem Tryz.adE:sz Tryz.prog 189=some 1:=by kernel_rfl
@[go_sem] theorem Tryz.abU:aI Tryz.prog 189=some 8:=by kernel_rfl
@[go_sem] theorem Tryz.agf:aA Tryz.prog 189=some ([.map none]):=by kernel_rfl
@[go_sem] theorem Tryz.IX:tk Tryz.prog 190= .slice 187:=by kernel_rfl
@[go_sem] theorem Tryz.adF:sz Tryz.prog 190=some 1:=by kernel_rfl
@[go_sem] theorem Tryz.abV:aI Tryz.prog 190=some 24:=by kernel_rfl
@[go_sem] theorem Tryz.agh:aA Tryz.prog 190=some ([.slice none 0 0]):=by kernel_rfl
@[go_sem] theorem Tryz.aeV:tk Tryz.prog 192= .struct [(0,187),(1,9),(2,3),(3,190)]:=by kernel_rfl
@[go_sem] theorem Tryz.QN:sz Tryz.prog 192=some 4:=by kernel_rfl
@[go_sem] theorem Tryz.abW:aI Tryz.prog 192=some 56:=by kernel_rfl
@[go_sem] theorem Tryz.agi:aA Tryz.prog 192=some ([.pointer none,.string ⟨#[]⟩,.int .i64 0,.slice none 0 0]):=by kernel_rfl
@[go_sem] theorem Tryz.aeW:tk Tryz.prog 194= .struct [(0,4),(1,164)]:=by kernel_rfl
@[go_sem] theorem Tryz.adG:sz Tryz.prog 194=some 3:=by kernel_rfl
@[go_sem] theorem Tryz.abX:aI Tryz.prog 194=some 24:=by kernel_rfl
@[go_sem] theorem Tryz.agj:aA Tryz.prog 194=some ([.bool false,.int .i64 0,.int .i64 0]):=by kernel_rfl
@[go_sem] theorem Tryz.aeX:tk Tryz.prog 195= .func:=by kernel_rfl
@[go_sem] theorem Tryz.adH:sz Tryz.prog 195=some 1:=by kernel_rfl
@[go_sem] theorem Tryz.abY:aI Tryz.prog 195=some 8:=by kernel_rfl
@[go_sem] theorem Tryz.agk:aA Tryz.prog 195=some ([.nilFunc]):=by kernel_rfl
@[go_sem] theorem Tryz.ae0:tk Tryz.prog 216= .struct [(0,57),(3,3)]:=by kernel_rfl
@[go_sem] theorem Tryz.adK:sz Tryz.prog 216=some 4:=by kernel_rfl
@[go_sem] theorem Tryz.ab1:aI Tryz.prog 216=some 56:=by kernel_rfl
@[go_sem] theorem Tryz.agn:aA Tryz.prog 216=some ([.string ⟨#[]⟩,.int .i64 0,.slice none 0 0,.int .i64 0]):=by kernel_rfl
@[go_sem] theorem Tryz.ae1:tk Tryz.prog 219= .func:=by kernel_rfl
@[go_sem] theorem Tryz.adL:sz Tryz.prog 219=some 1:=by kernel_rfl
@[go_sem] theorem Tryz.ab2:aI Tryz.prog 219=some 8:=by kernel_rfl
@[go_sem] theorem Tryz.ago:aA Tryz.prog 219=some ([.nilFunc]):=by kernel_rfl
@[go_sem] theorem Tryz.ae2:tk Tryz.prog 225= .ptr 164:=by kernel_rfl
@[go_sem] theorem Tryz.adM:sz Tryz.prog 225=some 1:=by kernel_rfl
@[go_sem] theorem Tryz.ab3:aI Tryz.prog 225=some 8:=by kernel_rfl
@[go_sem] theorem Tryz.agp:aA Tryz.prog 225=some ([.pointer none]):=by kernel_rfl
@[go_sem] theorem Tryz.ae3:tk Tryz.prog 228= .ptr 234:=by kernel_rfl
@[go_sem] theorem Tryz.adN:sz Tryz.prog 228=some 1:=by kernel_rfl
@[go_sem] theorem Tryz.ab4:aI Tryz.prog 228=some 8:=by kernel_rfl
@[go_sem] theorem Tryz.agq:aA Tryz.prog 228=some ([.pointer none]):=by kernel_rfl
@[go_sem] theorem Tryz.ae4:tk Tryz.prog 229= .ptr 232:=by kernel_rfl
@[go_sem] theorem Tryz.adO:sz Tryz.prog 229=some 1:=by kernel_rfl
@[go_sem] theorem Tryz.ab5:aI Tryz.prog 229=some 8:=by kernel_rfl
@[go_sem] theorem Tryz.agr:aA Tryz.prog 229=some ([.pointer none]):=by kernel_rfl
@[go_sem] theorem Tryz.aaF:tk Tryz.prog 230= .slice 5:=by kernel_rfl
@[go_sem] theorem Tryz.adQ:sz Tryz.prog 230=some 1:=by kernel_rfl
@[go_sem] theorem Tryz.ab7:aI Tryz.prog 230=some 24:=by kernel_rfl
@[go_sem] theorem Tryz.agt:aA Tryz.prog 230=some ([.slice none 0 0]):=by kernel_rfl
@[go_sem] theorem Tryz.ae6:tk Tryz.prog 232= .struct [(0,229),(1,230)]:=by kernel_rfl
@[go_sem] theorem Tryz.adR:sz Tryz.prog 232=some 2:=by kernel_rfl
@[go_sem] theorem Tryz.ab8:aI Tryz.prog 232=some 32:=by kernel_rfl
@[go_sem] theorem Tryz.agu:aA Tryz.prog 232=some ([.pointer none,.slice none 0 0]):=by kernel_rfl
@[go_sem] theorem Tryz.ae7:tk Tryz.prog 234= .struct [(0,232),(2,4)]:=by kernel_rfl
@[go_sem] theorem Tryz.adS:sz Tryz.prog 234=some 3:=by kernel_rfl
@[go_sem] theorem Tryz.ab9:aI Tryz.prog 234=some 40:=by kernel_rfl
@[go_sem] theorem Tryz.agv:aA Tryz.prog 234=some ([.pointer none,.slice none 0 0,.bool false]):=by kernel_rfl
@[go_sem] theorem Tryz.ae8:tk Tryz.prog 236= .iface:=by kernel_rfl
@[go_sem] theorem Tryz.adT:sz Tryz.prog 236=some 1:=by kernel_rfl
@[go_sem] theorem Tryz.ab_:aI Tryz.prog 236=some 16:=by kernel_rfl
@[go_sem] theorem Tryz.agw:aA Tryz.prog 236=some ([.nilIface]):=by kernel_rfl
@[go_sem] theorem Tryz.ae_:tk Tryz.prog 244= .struct [(0,9),(1,4)]:=by kernel_rfl
@[go_sem] theorem Tryz.adV:sz Tryz.prog 244=some 2:=by kernel_rfl
@[go_sem] theorem Tryz.acb:aI Tryz.prog 244=some 24:=by kernel_rfl
@[go_sem] theorem Tryz.acR:mb Tryz.prog 244=true:=by kernel_rfl
@[go_sem] theorem Tryz.agy:aA Tryz.prog 244=some ([.string ⟨#[]⟩,.bool false]):=by kernel_rfl
@[go_sem] theorem Tryz.afa:tk Tryz.prog 245= .slice 244:=by kernel_rfl
@[go_sem] theorem Tryz.adW:sz Tryz.prog 245=some 1:=by kernel_rfl
@[go_sem] theorem Tryz.acd:aI Tryz.prog 245=some 24:=by kernel_rfl
@[go_sem] theorem Tryz.agz:aA Tryz.prog 245=some ([.slice none 0 0]):=by kernel_rfl
@[go_sem] theorem Tryz.afb:tk Tryz.prog 264= .func:=by kernel_rfl
@[go_sem] theorem Tryz.adX:sz Tryz.prog 264=some 1:=by kernel_rfl
@[go_sem] theorem Tryz.ace:aI Tryz.prog 264=some 8:=by kernel_rfl
@[go_sem] theorem Tryz.agA:aA Tryz.prog 264=some ([.nilFunc]):=by kernel_rfl
@[go_sem] theorem Tryz.afc:tk Tryz.prog 278= .ptr 5:=by kernel_rfl
@[go_sem] theorem Tryz.adZ:sz Tryz.prog 278=some 1:=by kernel_rfl
@[go_sem] theorem Tryz.acg:aI Tryz.prog 278=some 8:=by kernel_rfl
@[go_sem] theorem Tryz.agC:aA Tryz.prog 278=some ([.pointer none]):=by kernel_rfl
@[go_sem] theorem Tryz.afd:tk Tryz.prog 295= .int .u64:=by kernel_rfl
@[go_sem] theorem Tryz.ad0:sz Tryz.prog 295=some 1:=by kernel_rfl
@[go_sem] theorem Tryz.ach:aI Tryz.prog 295=some 8:=by kernel_rfl
@[go_sem] theorem Tryz.afL:(Tryz.prog.underlying 295).isSome=true:=by kernel_rfl
@[go_sem] theorem Tryz.agD:aA Tryz.prog 295=some ([.int .u64 0]):=by kernel_rfl
@[go_sem] theorem Tryz.aff:tk Tryz.prog 300= .other:=by kernel_rfl
@[go_sem] theorem Tryz.ad2:sz Tryz.prog 300=some 1:=by kernel_rfl
@[go_sem] theorem Tryz.acj:aI Tryz.prog 300=some 8:=by kernel_rfl
@[go_sem] theorem Tryz.agF:aA Tryz.prog 300=some ([.pointer none]):=by kernel_rfl
@[go_sem] theorem Tryz.afg:tk Tryz.prog 304= .int .i64:=by kernel_rfl
@[go_sem] theorem Tryz.ad3:sz Tryz.prog 304=some 1:=by kernel_rfl
@[go_sem] theorem Tryz.ack:aI Tryz.prog 304=some 8:=by kernel_rfl
@[go_sem] theorem Tryz.afN:(Tryz.prog.underlying 304).isSome=true:=by kernel_rfl
@[go_sem] theorem Tryz.agG:aA Tryz.prog 304=some ([.int .i64 0]):=by kernel_rfl
@[go_sem] theorem Tryz.afh:tk Tryz.prog 312= .int .u32:=by kernel_rfl
@[go_sem] theorem Tryz.ad4:sz Tryz.prog 312=some 1:=by kernel_rfl
@[go_sem] theorem Tryz.acm:aI Tryz.prog 312=some 4:=by kernel_rfl
@[go_sem] theorem Tryz.afO:(Tryz.prog.underlying 312).isSome=true:=by kernel_rfl
@[go_sem] theorem Tryz.agH:aA Tryz.prog 312=some ([.int .u32 0]):=by kernel_rfl
@[go_sem] theorem Tryz.afi:tk Tryz.prog 314= .int .u64:=by kernel_rfl
@[go_sem] theorem Tryz.ad5:sz Tryz.prog 314=some 1:=by kernel_rfl
@[go_sem] theorem Tryz.acn:aI Tryz.prog 314=some 8:=by kernel_rfl
@[go_sem] theorem Tryz.afP:(Tryz.prog.underlying 314).isSome=true:=by kernel_rfl
@[go_sem] theorem Tryz.agI:aA Tryz.prog 314=some ([.int .u64 0]):=by kernel_rfl
@[go_sem] theorem Tryz.afj:tk Tryz.prog 319= .int .i64:=by kernel_rfl
@[go_sem] theorem Tryz.ad6:sz Tryz.prog 319=some 1:=by kernel_rfl
@[go_sem] theorem Tryz.aco:aI Tryz.prog 319=some 8:=by kernel_rfl
@[go_sem] theorem Tryz.afQ:(Tryz.prog.underlying 319).isSome=true:=by kernel_rfl
@[go_sem] theorem Tryz.agJ:aA Tryz.prog 319=some ([.int .i64 0]):=by kernel_rfl
@[go_sem] theorem Tryz.afl:tk Tryz.prog 322= .ptr 336:=by kernel_rfl
@[go_sem] theorem Tryz.ad8:sz Tryz.prog 322=some 1:=by kernel_rfl
@[go_sem] theorem Tryz.acq:aI Tryz.prog 322=some 8:=by kernel_rfl
@[go_sem] theorem Tryz.agL:aA Tryz.prog 322=some ([.pointer none]):=by kernel_rfl
@[go_sem] theorem Tryz.afm:tk Tryz.prog 326= .int .u64:=by kernel_rfl
@[go_sem] theorem Tryz.ad9:sz Tryz.prog 326=some 1:=by kernel_rfl
@[go_sem] theorem Tryz.acr:aI Tryz.prog 326=some 8:=by kernel_rfl
@[go_sem] theorem Tryz.afR:(Tryz.prog.underlying 326).isSome=true:=by kernel_rfl
@[go_sem] theorem Tryz.agM:aA Tryz.prog 326=some ([.int .u64 0]):=by kernel_rfl
@[go_sem] theorem Tryz.afn:tk Tryz.prog 330= .ptr 3:=by kernel_rfl
@[go_sem] theorem Tryz.ad_:sz Tryz.prog 330=some 1:=by kernel_rfl
@[go_sem] theorem Tryz.acs:aI Tryz.prog 330=some 8:=by kernel_rfl
@[go_sem] theorem Tryz.agO:aA Tryz.prog 330=some ([.pointer none]):=by kernel_rfl
@[go_sem] theorem Tryz.afo:tk Tryz.prog 336= .struct [(0,9),(1,9),(2,236)]:=by kernel_rfl
@[go_sem] theorem Tryz.aea:sz Tryz.prog 336=some 3:=by kernel_rfl
@[go_sem] theorem Tryz.acu:aI Tryz.prog 336=some 48:=by kernel_rfl
@[go_sem] theorem Tryz.agP:aA Tryz.prog 336=some ([.string ⟨#[]⟩,.string ⟨#[]⟩,.nilIface]):=by kernel_rfl
@[go_sem] theorem Tryz.afp:tk Tryz.prog 338= .arr 24 5:=by kernel_rfl
@[go_sem] theorem Tryz.aeb:sz Tryz.prog 338=some 24:=by kernel_rfl
@[go_sem] theorem Tryz.acv:aI Tryz.prog 338=some 24:=by kernel_rfl
@[go_sem] theorem Tryz.acS:mb Tryz.prog 338=true:=by kernel_rfl
@[go_sem] theorem Tryz.agQ:aA Tryz.prog 338=some (List.replicate 24 (.int .u8 0)):=by kernel_rfl
@[go_sem] theorem Tryz.afq:tk Tryz.prog 342= .ptr 326:=by kernel_rfl
@[go_sem] theorem Tryz.aec:sz Tryz.prog 342=some 1:=by kernel_rfl
@[go_sem] theorem Tryz.acw:aI Tryz.prog 342=some 8:=by kernel_rfl
@[go_sem] theorem Tryz.agR:aA Tryz.prog 342=some ([.pointer none]):=by kernel_rfl
@[go_sem] theorem Tryz.afr:tk Tryz.prog 346= .ptr 348:=by kernel_rfl
@[go_sem] theorem Tryz.aed:sz Tryz.prog 346=some 1:=by kernel_rfl
@[go_sem] theorem Tryz.acx:aI Tryz.prog 346=some 8:=by kernel_rfl
@[go_sem] theorem Tryz.agS:aA Tryz.prog 346=some ([.pointer none]):=by kernel_rfl
@[go_sem] theorem Tryz.afs:tk Tryz.prog 348= .struct [(0,9)]:=by kernel_rfl
@[go_sem] theorem Tryz.aee:sz Tryz.prog 348=some 1:=by kernel_rfl
@[go_sem] theorem Tryz.acy:aI Tryz.prog 348=some 16:=by kernel_rfl
@[go_sem] theorem Tryz.acT:mb Tryz.prog 348=true:=by kernel_rfl
@[go_sem] theorem Tryz.agT:aA Tryz.prog 348=some ([.string ⟨#[]⟩]):=by kernel_rfl
@[go_sem] theorem Tryz.aft:tk Tryz.prog 350= .arr 20 314:=by kernel_rfl
@[go_sem] theorem Tryz.aef:sz Tryz.prog 350=some 20:=by kernel_rfl
@[go_sem] theorem Tryz.acz:aI Tryz.prog 350=some 160:=by kernel_rfl
@[go_sem] theorem Tryz.acU:mb Tryz.prog 350=true:=by kernel_rfl
@[go_sem] theorem Tryz.agU:aA Tryz.prog 350=some (List.replicate 20 (.int .u64 0)):=by kernel_rfl
@[go_sem] theorem Tryz.afu:tk Tryz.prog 351= .arr 65 5:=by kernel_rfl
@[go_sem] theorem Tryz.aeg:sz Tryz.prog 351=some 65:=by kernel_rfl
@[go_sem] theorem Tryz.acA:aI Tryz.prog 351=some 65:=by kernel_rfl
@[go_sem] theorem Tryz.acV:mb Tryz.prog 351=true:=by kernel_rfl
@[go_sem] theorem Tryz.agV:aA Tryz.prog 351=some (List.replicate 65 (.int .u8 0)):=by kernel_rfl
@[go_sem] theorem Tryz.afv:tk Tryz.prog 352= .arr 32 5:=by kernel_rfl
@[go_sem] theorem Tryz.aeh:sz Tryz.prog 352=some 32:=by kernel_rfl
@[go_sem] theorem Tryz.acB:aI Tryz.prog 352=some 32:=by kernel_rfl
@[go_sem] theorem Tryz.acW:mb Tryz.prog 352=true:=by kernel_rfl
@[go_sem] theorem Tryz.agW:aA Tryz.prog 352=some (List.replicate 32 (.int .u8 0)):=by kernel_rfl
@[go_sem] theorem Tryz.afw:tk Tryz.prog 353= .arr 64 5:=by kernel_rfl
@[go_sem] theorem Tryz.aei:sz Tryz.prog 353=some 64:=by kernel_rfl
@[go_sem] theorem Tryz.acC:aI Tryz.prog 353=some 64:=by kernel_rfl
@[go_sem] theorem Tryz.acX:mb Tryz.prog 353=true:=by kernel_rfl
@[go_sem] theorem Tryz.agX:aA Tryz.prog 353=some (List.replicate 64 (.int .u8 0)):=by kernel_rfl
end Go.Proofs.YtpfohmboflcneaaGreatDoor
end
section
namespace Go.Proofs.YtpfohmboflcneaaGreatDoor
open Go Go.AL Go.RowKit
set_option maxRecDepth 10000
set_option maxHeartbeats 4000000
inductive Tm where
 |mk (nm:List UInt8) (ix:Int) (xs:List Tm)
def Tm.nm:Tm->List UInt8| .mk n _ _=>n
def Tm.ix:Tm->Int| .mk _ i _=>i
def Tm.xs:Tm->List Tm| .mk _ _ a=>a
mutual
def d_:Tm->Tm->Bool
 | .mk n i xs,u=>(n==u.nm&&i==u.ix)&&mc xs u.xs
def mc:List Tm->List Tm->Bool
 |[],[]=>true
 |a::l,b::m=>d_ a b&&mc l m
 |_,_=>false
end
mutual
def re:Tm->List IV
 | .mk nm ix xs=>[Si nm,Ii ix,.sl 3 (az xs)]
def az:List Tm->List (List IV)
 |[]=>[]
 |t::l=>re t::az l
end
theorem jJ (t:Tm):re t=[Si t.nm,Ii t.ix,.sl 3 (az t.xs)]:=by cases t;rfl
theorem xr:∀l:List Tm,az l=l.map re
 |[]=>rfl
 |t::l=>by rw[az,xr l];rfl
theorem aw (l:List Tm):(az l).length=l.length:=by rw[xr,List.length_map]
theorem fo (l:List Tm) (k:Nat) (h:k<l.length):∃t,l[k]?=some t/\(az l).getD k []=[Si t.nm,Ii t.ix,.sl 3 (az t.xs)]:=by
 refine⟨l[k],List.getElem?_eq_getElem h,?_⟩
 rw[List.getD_eq_getElem?_getD,xr,List.getElem?_map,List.getElem?_eq_getElem h,<-jJ];rfl
abbrev bf (t:Tm):AV:= .agg [Sv t.nm,Iv t.ix,.im (.sl 3 (az t.xs))]
mutual
def jj:Tm->Prop
 | .mk nm _ xs=>nm.length<=9223372036854775807/\xs.length<=9223372036854775807/\nI xs
def nI:List Tm->Prop
 |[]=>True
 |t::l=>jj t/\nI l
end
theorem QV {t:Tm}:jj t↔t.nm.length<=9223372036854775807/\t.xs.length<=9223372036854775807/\nI t.xs:=by cases t;rw[jj];rfl
theorem Az:∀{l:List Tm} {k:Nat} {t:Tm},nI l->l[k]?=some t->jj t
 |[],k,t,_,h=>by simp at h
 |u::l,0,t,hs,h=>by rw[nI]at hs;simp at h;exact h▸hs.1
 |u::l,k+1,t,hs,h=>by rw[nI]at hs;simp at h;exact Az hs.2 h
theorem lX {t u:Tm} {k:Nat} (h:t.xs[k]?=some u):SizeOf.sizeOf u<SizeOf.sizeOf t:=by
 cases t with
 |mk nm ix xs=>
  have:=List.sizeOf_lt_of_mem (List.mem_of_getElem? h)
  simp only[Tm.xs]at this
  simp;omega
theorem ao.told {P:Program} {f:FuncId} {xs:List AV} {H:aa} {R R':AV->aa->Prop} (h:ao P f xs H R) (hr:∀r H',R r H'->∃r',R' r' H'/\∀w φ I v,AV.den w φ I r v->AV.den w φ I r' v):ao P f xs H R':=
 ⟨h.gv,fun w φ I vs hd hR hV=>(h.run w φ I vs hd hR hV).mono fun _ _ ⟨r,H',φ',I',v,U,h2,h3,h4⟩=>by
  obtain⟨r',kW,eM⟩:=hr _ _ U
  exact⟨r',H',φ',I',v,kW,h2,eM _ _ _ _ h3,h4⟩⟩
theorem bh.told {P:Program} {f:FuncId} {xs:List AV} {r r':AV} (h:bh P f xs r) (hr:∀w φ I v,AV.den w φ I r v->AV.den w φ I r' v):bh P f xs r':=
 ao.told h fun _ _ ⟨hH,he⟩=>⟨r',⟨hH,rfl⟩,by subst he;exact hr⟩
abbrev eO:AV:= .im (.v (.slice none 0 0))
theorem OU (es:Nat) (w:World) (φ:ai) (I:Nat->Prop) (v:Value) (h:AV.den w φ I eO v):AV.den w φ I (.im (.sl es [])) v:=by
 simp only[AV.den]at h⊢
 exact Ia h
@[go_sem] theorem ZN (ρ:Nat->Nat):∀cs:List IV,AV.cO ρ (cs.map AV.im)=cs.map AV.im
 |[]=>rfl
 |c::cs=>by rw[List.map_cons,AV.cO,ZN ρ cs];rfl
mutual
def aR:Tm->Prop
 | .mk nm _ xs=>nm.length<=1000000000/\xs.length<=1000000000/\bI xs
def bI:List Tm->Prop
 |[]=>True
 |t::l=>aR t/\bI l
end
theorem ji {t:Tm}:aR t↔t.nm.length<=1000000000/\t.xs.length<=1000000000/\bI t.xs:=by cases t;rw[aR];rfl
theorem gl:∀{l:List Tm} {k:Nat} {t:Tm},bI l->l[k]?=some t->aR t
 |[],k,t,_,h=>by simp at h
 |u::l,0,t,hs,h=>by rw[bI]at hs;simp at h;exact h▸hs.1
 |u::l,k+1,t,hs,h=>by rw[bI]at hs;simp at h;exact gl hs.2 h
abbrev s9 (w:Tm):List IV:=[Si w.nm,Ii w.ix,.sl 3 (az w.xs)]
abbrev xq (t:Tm):IV:= .pt (s9 t)
theorem dX {α:Type} {l:List α} {k:Nat} {u:α} (h:l[k]?=some u):l.take (k+1)=l.take k++[u]:=by rw[List.take_add_one,h];rfl
theorem oO {α:Type} {l:List α} {k:Nat} (h:k<=l.length):(l.take k).length=k:=by rw[List.length_take];omega
theorem uJ {α β:Type} (f:α->β) {l:List α} {k:Nat} {u:α} (h:l[k]?=some u):(l.take (k+1)).map f=(l.take k).map f++[f u]:=by
 rw[dX h,List.map_append];rfl
theorem rh (l:List Tm) (w:Tm):az (l++[w])=az l++[s9 w]:=by
 rw[xr,List.map_append,<-xr,List.map_cons,List.map_nil,jJ]
theorem ym (x:Tm) (hs:aR x):bh Tryz.prog 38 [bf x] (bf x):=by
 have eW:=ji.1 hs
 refine ao.walk [0,1,2,3,5,12,13,14,15] [2,3,5] Tryz.func38 rfl Tryz.ntmps38 (by kernel_rfl) (by rfl) rfl fun W own I0 aq lay=>?_
 refine gE @aw ?_
 refine AP.jg 1 2 71 3 rfl rfl ?_
 refine sI ?_
 refine AP.loop rfl (α:=Nat) (fun k=>[(2,.ob 0 0),(3,.ob 1 0),(12,.im (.sl 3 (az x.xs))),(13,Iv x.xs.length),(14,Iv k)]) (fun k=>[(2,.vec 71 3 (az (x.xs.take k))),(1,.var 71 [Sv x.nm,Iv x.ix,.os 2 3 0 k]),(0,.var 71 [Sv [],Iv 0,eO])]) (fun k=>k<=x.xs.length) (fun k=>x.xs.length-k) 0 (by omega) (sU) rfl fun k hk=>?_
 rcases Nat.eq_or_lt_of_le hk with aM|ag
 ·subst aM
  rw[List.take_length]
  refine gE @aw ?_
  refine cF ?_
  refine gO ?_
  refine AE.freeze 2 (el:=71) (es:=3) (rows:=az x.xs) rfl (by simp only[go_sem,Nat.reduceAdd,Nat.reduceLeDiff,Nat.reduceSub,Int.reduceToNat,reduceCtorEq,aw];first|done|trivial|omega|(simp;done)|(simp;omega)) (by simp only[go_sem,Nat.reduceAdd,Nat.reduceLeDiff,Nat.reduceSub,Int.reduceToNat,reduceCtorEq,aw];first|done|trivial|omega|(simp;done)|(simp;omega)) ?_;simp only[go_sem,Nat.reduceAdd,Nat.reduceLeDiff,Nat.reduceSub,Int.reduceToNat,reduceCtorEq,aw]
  rw[List.take_of_length_le (by rw[aw];omega)]
  exact AE.bm [1,0] rfl ⟨⟨rfl,Nat.le_of_ble_eq_true (by kernel_rfl)⟩,trivial⟩ rfl ⟨rfl,by cases x;rfl⟩
 ·obtain⟨u,hu,aX⟩:=fo x.xs k ag
  have hw:=wr (x:=(k:Int)+1) (by omega)
  have bc:=oO (l:=x.xs) (k:=k) (by omega)
  have ih:=ym u (gl eW.2.2 hu)
  have bP:=dX hu
  refine gE @aw ?_
  refine cT ?_
  refine gE @aX ?_
  refine⟨by rw[aw];omega,?_⟩
  refine gO ?_
  refine AP.db 8 (Tree.node [] [0,1,2] [3] [Tree.node [0,1] [] [4] [Tree.node [0,1] [] [5] [Tree.node [] [6] [7] [Tree.node [] [] [] []]]]]) (by kernel_rfl) rfl (by kernel_rfl) (by kernel_rfl) ?_
  refine c_ ?_
  refine sI ?_
  refine AQ.fn (by kernel_rfl) rfl rfl rfl (ih) rfl ?_
  refine sI ?_
  refine AQ.nx rfl ?_
  refine sI ?_
  refine AQ.go (by kernel_rfl) ?_
  refine sI ?_
  refine AQ.nx rfl ?_
  refine sI ?_
  refine AQ.kill 2 ?_
  refine sI ?_
  refine AQ.append (hnb:=rfl) (rows:=az (x.xs.take k)) (es:=2) (by kernel_rfl) rfl rfl rfl (by rfl) Tryz.s8 Tryz.s6 (by show Option.map _ (aA Tryz.prog 71)=_;rw[Tryz.td];rfl) Tryz.rB (by first|rfl|(simp only[aw,bc,List.length_cons,List.length_nil];done)|(simp only[aw,bc,List.length_cons,List.length_nil];omega)) (by simp only[aw,bc,List.length_cons,List.length_nil];omega) (by simp only[aw,bc,List.length_cons,List.length_nil];omega) ?_
  refine sI ?_
  refine AQ.nx rfl ?_
  refine sI ?_
  refine AQ.go (by kernel_rfl) ?_
  refine sI ?_
  refine AQ.nx rfl ?_
  refine sI ?_
  refine AQ.done ?_
  refine gE @hw ?_
  refine AE.eJ [3] rfl ?_
  refine sI ?_
  refine AE.round (k+1) (by omega) (by omega) (sU) ?_
  rw[bP,rh,aw,bc]
termination_by SizeOf.sizeOf x
decreasing_by exact lX hu
theorem J4 (x:Tm) (hs:aR x):bh Tryz.prog 112 [bf x] (bf x):=by
 have eW:=ji.1 hs
 refine ao.walk [0,1,2,3,5,12,13,14,15] [2,3,5] Tryz.func112 rfl Tryz.ntmps112 (by kernel_rfl) (by rfl) rfl fun W own I0 aq lay=>?_
 refine gE @aw ?_
 refine AP.jg 1 2 57 3 rfl rfl ?_
 refine sI ?_
 refine AP.loop rfl (α:=Nat) (fun k=>[(2,.ob 0 0),(3,.ob 1 0),(12,.im (.sl 3 (az x.xs))),(13,Iv x.xs.length),(14,Iv k)]) (fun k=>[(2,.vec 57 3 (az (x.xs.take k))),(1,.var 57 [Sv x.nm,Iv x.ix,.os 2 3 0 k]),(0,.var 57 [Sv [],Iv 0,eO])]) (fun k=>k<=x.xs.length) (fun k=>x.xs.length-k) 0 (by omega) (sU) rfl fun k hk=>?_
 rcases Nat.eq_or_lt_of_le hk with aM|ag
 ·subst aM
  rw[List.take_length]
  refine gE @aw ?_
  refine cF ?_
  refine gO ?_
  refine AE.freeze 2 (el:=57) (es:=3) (rows:=az x.xs) rfl (by simp only[go_sem,Nat.reduceAdd,Nat.reduceLeDiff,Nat.reduceSub,Int.reduceToNat,reduceCtorEq,aw];first|done|trivial|omega|(simp;done)|(simp;omega)) (by simp only[go_sem,Nat.reduceAdd,Nat.reduceLeDiff,Nat.reduceSub,Int.reduceToNat,reduceCtorEq,aw];first|done|trivial|omega|(simp;done)|(simp;omega)) ?_;simp only[go_sem,Nat.reduceAdd,Nat.reduceLeDiff,Nat.reduceSub,Int.reduceToNat,reduceCtorEq,aw]
  rw[List.take_of_length_le (by rw[aw];omega)]
  exact AE.bm [1,0] rfl ⟨⟨rfl,Nat.le_of_ble_eq_true (by kernel_rfl)⟩,trivial⟩ rfl ⟨rfl,by cases x;rfl⟩
 ·obtain⟨u,hu,aX⟩:=fo x.xs k ag
  have hw:=wr (x:=(k:Int)+1) (by omega)
  have bc:=oO (l:=x.xs) (k:=k) (by omega)
  have ih:=J4 u (gl eW.2.2 hu)
  have bP:=dX hu
  refine gE @aw ?_
  refine cT ?_
  refine gE @aX ?_
  refine⟨by rw[aw];omega,?_⟩
  refine gO ?_
  refine AP.db 8 (Tree.node [] [0,1,2] [3] [Tree.node [0,1] [] [4] [Tree.node [0,1] [] [5] [Tree.node [] [6] [7] [Tree.node [] [] [] []]]]]) (by kernel_rfl) rfl (by kernel_rfl) (by kernel_rfl) ?_
  refine c_ ?_
  refine sI ?_
  refine AQ.fn (by kernel_rfl) rfl rfl rfl (ih) rfl ?_
  refine sI ?_
  refine AQ.nx rfl ?_
  refine sI ?_
  refine AQ.go (by kernel_rfl) ?_
  refine sI ?_
  refine AQ.nx rfl ?_
  refine sI ?_
  refine AQ.kill 2 ?_
  refine sI ?_
  refine AQ.append (hnb:=rfl) (rows:=az (x.xs.take k)) (es:=2) (by kernel_rfl) rfl rfl rfl (by rfl) Tryz.aaH Tryz.aaz (by show Option.map _ (aA Tryz.prog 57)=_;rw[Tryz.abv];rfl) Tryz.Tf (by first|rfl|(simp only[aw,bc,List.length_cons,List.length_nil];done)|(simp only[aw,bc,List.length_cons,List.length_nil];omega)) (by simp only[aw,bc,List.length_cons,List.length_nil];omega) (by simp only[aw,bc,List.length_cons,List.length_nil];omega) ?_
  refine sI ?_
  refine AQ.nx rfl ?_
  refine sI ?_
  refine AQ.go (by kernel_rfl) ?_
  refine sI ?_
  refine AQ.nx rfl ?_
  refine sI ?_
  refine AQ.done ?_
  refine gE @hw ?_
  refine AE.eJ [3] rfl ?_
  refine sI ?_
  refine AE.round (k+1) (by omega) (by omega) (sU) ?_
  rw[bP,rh,aw,bc]
termination_by SizeOf.sizeOf x
decreasing_by exact lX hu
end Go.Proofs.YtpfohmboflcneaaGreatDoor
end
section
namespace Go.Proofs.YtpfohmboflcneaaGreatDoor
set_option maxHeartbeats 1000000
mutual
theorem E4:∀s t:Tm,d_ s t=true↔s=t
 | .mk n i xs,.mk m k ys=>by
  rw[d_]
  simp only[Bool.and_eq_true,beq_iff_eq,Tm.nm,Tm.ix,Tm.xs,E6 xs ys,Tm.mk.injEq,and_assoc]
theorem E6:∀s t:List Tm,mc s t=true↔s=t
 |[],[]=>by simp[mc]
 |[],_::_=>by simp[mc]
 |_::_,[]=>by simp[mc]
 |a::l,b::m=>by
  rw[mc]
  simp only[Bool.and_eq_true,E4 a b,E6 l m,List.cons.injEq]
end
theorem K8 (s:Tm):d_ s s=true:=(E4 s s).2 rfl
mutual
def dm:Tm->List Int
 | .mk n i xs=>(if n=[]then[i]else[])++bJ xs
def bJ:List Tm->List Int
 |[]=>[]
 |t::l=>dm t++bJ l
end
mutual
def wT:Tm->Nat
 | .mk _ _ xs=>1+aK xs
def aK:List Tm->Nat
 |[]=>0
 |t::l=>wT t+aK l
end
theorem Rp (t:Tm):dm t=(if t.nm=[]then[t.ix]else[])++bJ t.xs:=by cases t;rw[dm];rfl
theorem xL (t:Tm):wT t=1+aK t.xs:=by cases t;rw[wT];rfl
theorem u9 (t:Tm):1<=wT t:=by rw[xL];omega
theorem Jj:∀(l:List Tm) (a:Tm),a∈l->wT a<=aK l
 |[],_,h=>by cases h
 |t::l,a,h=>by
  rw[aK]
  rcases List.mem_cons.1 h with rfl|h
  ·omega
  ·have:=Jj l a h;omega
theorem Eb {t a:Tm} (h:a∈t.xs):wT a<wT t:=by
 rw[xL t];have:=Jj t.xs a h;omega
def yn (s t:Tm):Bool:=(dm t).all fun v=>decide ((dm t).count v<=(dm s).count v)
theorem TL (s t:Tm):yn s t=true↔∀v,(dm t).count v<=(dm s).count v:=by
 rw[yn,List.all_eq_true]
 constructor
 ·intro h v
  by_cases hv:v∈dm t
  ·exact of_decide_eq_true (h v hv)
  ·rw[List.count_eq_zero_of_not_mem hv];omega
 ·intro h v _;exact decide_eq_true (h v)
mutual
def o9:Tm->Tm->Bool
 | .mk n i xs,t=>
  if yn (.mk n i xs) t=false then false
  else if wT (.mk n i xs)≠wT t then decide (wT t<wT (.mk n i xs))
  else if n=[]\/t.nm=[]then false
  else if xs.length≠t.xs.length then decide (t.xs.length<xs.length)
  else if n≠t.nm then decide (t.nm<n)
  else rO xs t.xs
def rO:List Tm->List Tm->Bool
 |a::l,b::m=>if d_ a b then rO l m else o9 a b
 |_,_=>false
end
theorem UF (s t:Tm):o9 s t=if yn s t=false then false
  else if wT s≠wT t then decide (wT t<wT s)
  else if s.nm=[]\/t.nm=[]then false
  else if s.xs.length≠t.xs.length then decide (t.xs.length<s.xs.length)
  else if s.nm≠t.nm then decide (t.nm<s.nm)
  else rO s.xs t.xs:=by cases s;rw[o9];rfl
theorem Di (a b:List UInt8):a<b\/a=b\/b<a:=by
 rcases List.le_total a b with h|h
 ·rcases List.le_iff_lt_or_eq.1 h with h|h
  ·exact .inl h
  ·exact .inr (.inl h)
 ·rcases List.le_iff_lt_or_eq.1 h with h|h
  ·exact .inr (.inr h)
  ·exact .inr (.inl h.symm)
inductive Lf:Tm->Prop
 |mk (t:Tm) (h:t.nm=[]->t.xs=[]) (h0:t.nm≠[]->t.ix=0) (k:∀a∈t.xs,Lf a):Lf t
mutual
def al (f:Int->Tm):Tm->Tm
 | .mk n i xs=>if n=[]then f i else .mk n 0 (bK f xs)
def bK (f:Int->Tm):List Tm->List Tm
 |[]=>[]
 |t::l=>al f t::bK f l
end
theorem qe (f:Int->Tm) (t:Tm):al f t=if t.nm=[]then f t.ix else .mk t.nm 0 (bK f t.xs):=by cases t;rw[al];rfl
theorem kH (f:Int->Tm):∀l,bK f l=l.map (al f)
 |[]=>by rw[bK];rfl
 |t::l=>by rw[bK,kH f l];rfl
def vw (s t:Tm):Int:=if d_ s t then 0 else if o9 s t then 1 else if o9 t s then-1 else 2
end Go.Proofs.YtpfohmboflcneaaGreatDoor
end
section
namespace Go.Proofs.YtpfohmboflcneaaGreatDoor
open Go
def fP (c:UInt8):Bool:=decide (48<=c.toNat)&&decide (c.toNat<=57)
def fv (l:List UInt8):Nat:=l.foldl (fun n c=>10*n+(c.toNat-48)) 0
theorem KU (l:List UInt8) (c:UInt8):fv (l++[c])=10*fv l+(c.toNat-48):=by simp[fv,List.foldl_append]
theorem Ae (d:Nat) (h:d<10):(UInt8.ofNat (48+d)).toNat=48+d:=by
 rw[UInt8.toNat_ofNat'];omega
theorem KD:∀(u:Nat),fv (Lib.decDigits u)=u/\(∀c∈Lib.decDigits u,fP c=true)/\Lib.decDigits u≠[]/\(∀k,1<=k->u<10^k->(Lib.decDigits u).length<=k)/\(u≠0->((Lib.decDigits u).getD 0 0).toNat≠48)/\(1<(Lib.decDigits u).length->u≠0):=by
 intro u
 induction u using Nat.strongRecOn with
 |_ u ih=>
  rw[Lib.decDigits]
  by_cases h:u<10
  ·rw[dif_pos h]
   refine⟨?_,?_,by simp,?_,?_,by simp⟩
   ·simp only[fv,List.foldl_cons,List.foldl_nil,Ae u h];omega
   ·intro c hc
    simp only[List.mem_singleton]at hc
    subst hc
    simp only[fP,Ae u h,Bool.and_eq_true,decide_eq_true_eq];omega
   ·intro k hk _;simpa using hk
   ·intro h0;simp only[List.getD_cons_zero,Ae u h];omega
  ·rw[dif_neg h]
   obtain⟨U,h2,h3,h4,h5,h6⟩:=ih (u/10) (by omega)
   have hm:u%10<10:=Nat.mod_lt _ (by decide)
   refine⟨?_,?_,by simp,?_,?_,fun _=>by omega⟩
   ·rw[KU,U,Ae _ hm];omega
   ·intro c hc
    rcases List.mem_append.1 hc with hc|hc
    ·exact h2 c hc
    ·simp only[List.mem_singleton]at hc
     subst hc
     simp only[fP,Ae _ hm,Bool.and_eq_true,decide_eq_true_eq];omega
   ·intro k hk hu
    match k,hk with
    |1,_=>omega
    |k+2,_=>
     have:=h4 (k+1) (by omega) (by rw[Nat.pow_succ]at hu;omega)
     rw[List.length_append,List.length_singleton];omega
   ·intro _
    have h7:=h5 (by omega)
    match hd:Lib.decDigits (u/10),h3 with
    |x::r,_=>rw[hd]at h7;simpa using h7
theorem ES:∀(n:Nat) (l:List UInt8),l.length=n+1->(∀c∈l,fP c=true)->(1<l.length->(l.getD 0 0).toNat≠48)->Lib.decDigits (fv l)=l/\((l.getD 0 0).toNat≠48->fv l≠0)
 |0,l,hl,hd,_=>by
  match l,hl with
  |[c],_=>
   have hc:=hd c (by simp)
   simp only[fP,Bool.and_eq_true,decide_eq_true_eq]at hc
   have e:fv [c]=c.toNat-48:=by simp[fv]
   rw[e]
   refine⟨?_,fun h=>by simp only[List.getD_cons_zero]at h;omega⟩
   rw[Lib.decDigits,dif_pos (by omega)]
   have:UInt8.ofNat (48+(c.toNat-48))=c:=by
    rw[show 48+(c.toNat-48)=c.toNat by omega];simp
   rw[this]
 |n+1,l,hl,hd,hz=>by
  obtain⟨r,c,rfl⟩:∃r c,l=r++[c]:=by
   rcases List.eq_nil_or_concat l with rfl|⟨r,c,rfl⟩
   ·simp at hl
   ·exact⟨r,c,List.concat_eq_append⟩
  have r_:r.length=n+1:=by simp at hl;omega
  have hg:(r++[c]).getD 0 0=r.getD 0 0:=by
   match r,r_ with
   |x::r,_=>rfl
  rw[hg]at hz⊢
  have h0:=hz (by rw[List.length_append,List.length_singleton];omega)
  obtain⟨U,h2⟩:=ES n r r_ (fun d eM=>hd d (by simp[eM])) (fun _=>h0)
  have hc:=hd c (by simp)
  simp only[fP,Bool.and_eq_true,decide_eq_true_eq]at hc
  have h3:=h2 h0
  rw[KU]
  refine⟨?_,fun _=>by omega⟩
  rw[Lib.decDigits,dif_neg (by omega),show(10*fv r+(c.toNat-48))/10=fv r by omega,U,show(10*fv r+(c.toNat-48))%10=c.toNat-48 by omega]
  have:UInt8.ofNat (48+(c.toNat-48))=c:=by
   rw[show 48+(c.toNat-48)=c.toNat by omega];simp
  rw[this]
def mz (c:UInt8) (first:Bool):Bool:=
 (decide (97<=c.toNat)&&decide (c.toNat<=122)||decide (65<=c.toNat)&&decide (c.toNat<=90))||!first&&((decide (48<=c.toNat)&&decide (c.toNat<=57)||c==95)||c==39)
def cM:Bool->List UInt8->Nat
 |_,[]=>0
 |b,c::l=>if mz c b then 1+cM false l else 0
def gX:List UInt8->Nat
 |[]=>0
 |c::l=>if fP c then 1+gX l else 0
def sP:Bool->List UInt8->Bool
 |_,[]=>true
 |b,c::l=>mz c b&&sP false l
def fI (n:List UInt8):Bool:=decide (n≠[])&&decide (n.length<=60)&&sP true n
theorem Ac:∀b l,cM b l<=l.length
 |_,[]=>Nat.zero_le _
 |b,c::l=>by
  rw[cM];split
  ·have:=Ac false l;rw[List.length_cons];omega
  ·exact Nat.zero_le _
theorem KS:∀l,gX l<=l.length
 |[]=>Nat.zero_le _
 |c::l=>by
  rw[gX];split
  ·have:=KS l;rw[List.length_cons];omega
  ·exact Nat.zero_le _
theorem KT:∀l:List UInt8,∀c∈l.take (gX l),fP c=true
 |[]=>by simp
 |c::l=>by
  rw[gX]
  split
  ·rename_i h
   rw[Nat.add_comm,List.take_succ_cons]
   intro d hd
   rcases List.mem_cons.1 hd with rfl|hd
   ·exact h
   ·exact KT l d hd
  ·simp
structure Lt where
 ng:Bool
 pd:List UInt8
 xs:List Tm
mutual
def eT (sh:Bool):Tm->List UInt8
 | .mk n i xs=>if n=[]then 63::(if sh then[]else Lib.itoa i)else n++fQ sh xs
def fQ (sh:Bool):List Tm->List UInt8
 |[]=>[]
 |t::l=>40::(eT sh t++mI sh l)
def mI (sh:Bool):List Tm->List UInt8
 |[]=>[41]
 |t::l=>44::32::(eT sh t++mI sh l)
end
theorem Q7 (sh:Bool) (t:Tm):eT sh t=if t.nm=[]then 63::(if sh then[]else Lib.itoa t.ix)else t.nm++fQ sh t.xs:=by cases t;rw[eT];rfl
def tH (ng:Bool):List UInt8:=if ng then[32,33,61,32]else[32,61,32]
def jK (sh:Bool) (l:Lt):List UInt8:=
 if l.pd=[61]then eT sh (l.xs.getD 0 (.mk [] 0 []))++(tH l.ng++eT sh (l.xs.getD 1 (.mk [] 0 [])))
 else(if l.ng then[126]else[])++(l.pd++fQ sh l.xs)
def kq (sh:Bool):List Lt->List UInt8
 |[]=>[]
 |l::r=>32::124::32::(jK sh l++kq sh r)
def pW (sh:Bool):List Lt->List UInt8
 |[]=>[91,93]
 |l::r=>jK sh l++kq sh r
def cX (s:List UInt8) (i:Nat) (w:List UInt8):Bool:=w.isPrefixOf (s.drop i)
def lU (d:List UInt8):Bool:=decide (1<=d.length)&&decide (d.length<=9)&&(decide (d.length=1)||decide ((d.getD 0 0).toNat≠48))
def pV (s:List UInt8) (i:Nat):Option (Tm×Nat):=
 if lU ((s.drop i).take (gX (s.drop i)))then some (.mk [] (fv ((s.drop i).take (gX (s.drop i)))) [],i+gX (s.drop i))else none
mutual
def pT (s:List UInt8):Nat->Nat->Option (Tm×Nat)
 |0,_=>none
 |f+1,i=>if cX s i [63]then pV s (i+1)else
  if cM true (s.drop i)=0 then none else
  if cX s (i+cM true (s.drop i)) [40]then
   match pT s f (i+cM true (s.drop i)+1)with
   |none=>none
   |some (t,j)=>match pR s f j with
    |none=>none
    |some (l,k)=>some (.mk ((s.drop i).take (cM true (s.drop i))) 0 (t::l),k)
  else some (.mk ((s.drop i).take (cM true (s.drop i))) 0 [],i+cM true (s.drop i))
def pR (s:List UInt8):Nat->Nat->Option (List Tm×Nat)
 |0,_=>none
 |f+1,i=>if cX s i [44,32]then
   match pT s f (i+2)with
   |none=>none
   |some (t,j)=>match pR s f j with
    |none=>none
    |some (l,k)=>some (t::l,k)
  else if cX s i [41]then some ([],i+1)else none
end
def pA (s:List UInt8) (f i:Nat):Option (List Tm×Nat):=
 if cX s i [40]then
  match pT s f (i+1)with
  |none=>none
  |some (t,j)=>match pR s f j with
   |none=>none
   |some (l,k)=>some (t::l,k)
 else some ([],i)
theorem Pu (s:List UInt8) (f i:Nat):pT s (f+1) i=if cX s i [63]then pV s (i+1)else
  if cM true (s.drop i)=0 then none else
  match pA s f (i+cM true (s.drop i))with
  |none=>none
  |some (l,k)=>some (.mk ((s.drop i).take (cM true (s.drop i))) 0 l,k):=by
 rw[pT,pA]
 split
 ·rfl
 ·split
  ·rfl
  ·split
   ·cases pT s f (i+cM true (s.drop i)+1)with
    |none=>rfl
    |some x=>
     obtain⟨t,j⟩:=x
     simp only
     cases pR s f j with
     |none=>rfl
     |some y=>rfl
   ·rfl
def pL (s:List UInt8) (i:Nat):Option (Lt×Nat):=
 if cX s i [126]then
  if cM true (s.drop (i+1))=0 then none else
  match pA s (s.length+1) (i+1+cM true (s.drop (i+1)))with
  |none=>none
  |some (l,k)=>some (⟨true,(s.drop (i+1)).take (cM true (s.drop (i+1))),l⟩,k)
 else match pT s (s.length+1) i with
  |none=>none
  |some (t,j)=>
   if cX s j [32,61,32]then(match pT s (s.length+1) (j+3)with
    |none=>none
    |some (u,k)=>some (⟨false,[61],[t,u]⟩,k))
   else if cX s j [32,33,61,32]then(match pT s (s.length+1) (j+4)with
    |none=>none
    |some (u,k)=>some (⟨true,[61],[t,u]⟩,k))
   else if t.nm=[]then none else some (⟨false,t.nm,t.xs⟩,j)
def pS (s:List UInt8):Nat->Nat->Option (List Lt)
 |0,_=>none
 |f+1,i=>match pL s i with
  |none=>none
  |some (l,j)=>if cX s j [32,124,32]then(match pS s f (j+3)with
    |none=>none
    |some r=>some (l::r))
   else if j<s.length then none else some [l]
def pC (s:List UInt8):Option (List Lt):=if s=[91,93]then some []else pS s (s.length+1) 0
theorem qd {s:List UInt8} {i:Nat} {w:List UInt8} (h:cX s i w=true):s.drop i=w++s.drop (i+w.length):=by
 obtain⟨r,hr⟩:=List.isPrefixOf_iff_prefix.1 h
 rw[<-List.drop_drop,<-hr,List.drop_left]
theorem JT {s:List UInt8} {i:Nat} {w:List UInt8} (h:cX s i w=true):i+w.length<=s.length\/w=[]:=by
 have:=congrArg List.length (qd h)
 rw[List.length_append,List.length_drop,List.length_drop]at this
 rcases w with _|⟨c,w⟩
 ·exact .inr rfl
 ·left;rw[List.length_cons]at*;omega
theorem XD {d:List UInt8} (h:lU d=true) (k:∀c∈d,fP c=true):Lib.itoa (fv d:Int)=d:=by
 simp only[lU,Bool.and_eq_true,Bool.or_eq_true,decide_eq_true_eq]at h
 rw[Lib.itoa_nonneg]
 exact(ES (d.length-1) d (by omega) k (fun U=>by rcases h.2 with h2|h2;omega;exact h2)).1
theorem Pv {s:List UInt8} {i j:Nat} {t:Tm} (h:pV s i=some (t,j)):t.nm=[]/\s.drop i=Lib.itoa t.ix++s.drop j/\i<j/\j<=s.length:=by
 rw[pV]at h
 split at h
 ·rename_i hn
  simp only[Option.some.injEq,Prod.mk.injEq]at h
  obtain⟨rfl,rfl⟩:=h
  have hl:=KS (s.drop i)
  have U:1<=gX (s.drop i):=by
   simp only[lU,Bool.and_eq_true,decide_eq_true_eq,List.length_take]at hn;omega
  rw[List.length_drop]at hl
  refine⟨rfl,?_,by omega,by omega⟩
  show _=Lib.itoa (fv _:Int)++_
  rw[XD hn (KT _),<-List.drop_drop,List.take_append_drop]
 ·cases h
theorem Ip (s:List UInt8):∀f,(∀i t j,pT s f i=some (t,j)->s.drop i=eT false t++s.drop j/\i<j/\j<=s.length)/\
  (∀i l j,pR s f i=some (l,j)->s.drop i=mI false l++s.drop j/\i<j/\j<=s.length)
 |0=>⟨fun i t j h=>(by rw[pT]at h;cases h),fun i l j h=>(by rw[pR]at h;cases h)⟩
 |f+1=>by
  obtain⟨NS,NR⟩:=Ip s f
  refine⟨fun i t j h=>?_,fun i l j h=>?_⟩
  ·rw[pT]at h
   split at h
   ·rename_i hq
    obtain⟨U,h2,h3,h4⟩:=Pv h
    refine⟨?_,by omega,h4⟩
    rw[qd hq,Q7,if_pos U,show i+[(63:UInt8)].length=i+1 from rfl,h2];rfl
   ·split at h
    ·cases h
    ·rename_i hn
     have g_:=Ac true (s.drop i)
     rw[List.length_drop]at g_
     have aC:(s.drop i).take (cM true (s.drop i))≠[]:=by
      intro e
      have:=congrArg List.length e
      rw[List.length_take,List.length_drop,List.length_nil]at this
      omega
     split at h
     ·rename_i ho
      split at h
      ·cases h
      ·rename_i t1 j1 e1
       split at h
       ·cases h
       ·rename_i l1 k1 e2
        simp only[Option.some.injEq,Prod.mk.injEq]at h
        obtain⟨rfl,rfl⟩:=h
        obtain⟨g1,g2,g3⟩:=NS _ _ _ e1
        obtain⟨g4,g5,g6⟩:=NR _ _ _ e2
        refine⟨?_,by omega,g6⟩
        rw[eT,if_neg aC,fQ]
        have e3:=qd ho
        rw[show i+cM true (s.drop i)+[(40:UInt8)].length=i+cM true (s.drop i)+1 from rfl,g1,g4]at e3
        have e4:s.drop i=(s.drop i).take (cM true (s.drop i))++s.drop (i+cM true (s.drop i)):=by
         rw[<-List.drop_drop,List.take_append_drop]
        rw[e3]at e4
        simp only[List.cons_append,List.append_assoc,List.nil_append]at e4⊢
        exact e4
     ·simp only[Option.some.injEq,Prod.mk.injEq]at h
      obtain⟨rfl,rfl⟩:=h
      refine⟨?_,by omega,by omega⟩
      rw[eT,if_neg aC,fQ,List.append_nil,<-List.drop_drop,List.take_append_drop]
  ·rw[pR]at h
   split at h
   ·rename_i ho
    split at h
    ·cases h
    ·rename_i t1 j1 e1
     split at h
     ·cases h
     ·rename_i l1 k1 e2
      simp only[Option.some.injEq,Prod.mk.injEq]at h
      obtain⟨rfl,rfl⟩:=h
      obtain⟨g1,g2,g3⟩:=NS _ _ _ e1
      obtain⟨g4,g5,g6⟩:=NR _ _ _ e2
      refine⟨?_,by omega,g6⟩
      rw[qd ho,show i+[(44:UInt8),32].length=i+2 from rfl,g1,g4,mI]
      simp only[List.cons_append,List.append_assoc,List.nil_append]
   ·split at h
    ·rename_i ho
     simp only[Option.some.injEq,Prod.mk.injEq]at h
     obtain⟨rfl,rfl⟩:=h
     refine⟨by rw[qd ho,mI];rfl,by omega,?_⟩
     have:=JT ho
     simpa using this
    ·cases h
theorem sR {s:List UInt8} {f i j:Nat} {t:Tm} (h:pT s f i=some (t,j)):s.drop i=eT false t++s.drop j/\i<j/\j<=s.length:=(Ip s f).1 i t j h
theorem Io {s:List UInt8} {f i j:Nat} {l:List Tm} (h:pR s f i=some (l,j)):s.drop i=mI false l++s.drop j/\i<j/\j<=s.length:=(Ip s f).2 i l j h
theorem Zc {s:List UInt8} {f i j:Nat} {l:List Tm} (h:pA s f i=some (l,j)) (hi:i<=s.length):s.drop i=fQ false l++s.drop j/\i<=j/\j<=s.length:=by
 rw[pA]at h
 split at h
 ·rename_i ho
  split at h
  ·cases h
  ·rename_i t1 j1 e1
   split at h
   ·cases h
   ·rename_i l1 k1 e2
    simp only[Option.some.injEq,Prod.mk.injEq]at h
    obtain⟨rfl,rfl⟩:=h
    obtain⟨g1,g2,g3⟩:=sR e1
    obtain⟨g4,g5,g6⟩:=Io e2
    refine⟨?_,by omega,g6⟩
    rw[qd ho,show i+[(40:UInt8)].length=i+1 from rfl,g1,g4,fQ]
    simp only[List.cons_append,List.append_assoc,List.nil_append]
 ·simp only[Option.some.injEq,Prod.mk.injEq]at h
  obtain⟨rfl,rfl⟩:=h
  exact⟨by rw[fQ];rfl,Nat.le_refl _,hi⟩
end Go.Proofs.YtpfohmboflcneaaGreatDoor
end
section
namespace Go.Proofs.YtpfohmboflcneaaGreatDoor
open Go
set_option maxHeartbeats 1000000
mutual
def c7:Tm->Bool
 | .mk n i xs=>if n=[]then xs.isEmpty&&(decide (0<=i)&&decide (i<1000))else(fI n&&i==0)&&cB xs
def cB:List Tm->Bool
 |[]=>true
 |t::l=>c7 t&&cB l
end
theorem sQ (t:Tm):c7 t=if t.nm=[]then t.xs.isEmpty&&(decide (0<=t.ix)&&decide (t.ix<1000))else(fI t.nm&&t.ix==0)&&cB t.xs:=by cases t;rw[c7];rfl
theorem qY:∀{l:List Tm},cB l=true->∀a∈l,c7 a=true
 |[],_,a,h=>by cases h
 |t::l,h,a,ha=>by
  rw[cB,Bool.and_eq_true]at h
  rcases List.mem_cons.1 ha with rfl|ha
  ·exact h.1
  ·exact qY h.2 a ha
theorem Jv:∀(n:Nat) (t:Tm),wT t<=n->c7 t=true->Lf t
 |0,t,h,_=>by have:=u9 t;omega
 |n+1,t,hn,h=>by
  rw[sQ]at h
  by_cases hm:t.nm=[]
  ·rw[if_pos hm,Bool.and_eq_true,List.isEmpty_iff]at h
   exact⟨t,fun _=>h.1,fun h'=>absurd hm h',fun a ha=>by rw[h.1]at ha;cases ha⟩
  ·rw[if_neg hm,Bool.and_eq_true,Bool.and_eq_true,beq_iff_eq]at h
   exact⟨t,fun h'=>absurd h' hm,fun _=>h.1.2,fun a ha=>Jv n a (by have:=Eb ha;omega) (qY h.2 a ha)⟩
theorem Pc {t:Tm} (h:c7 t=true):Lf t:=Jv _ t (Nat.le_refl _) h
def iQ (l:Lt):Bool:=if l.pd=[61]then decide (l.xs.length=2)&&cB l.xs else fI l.pd&&cB l.xs
theorem OW {l:List UInt8} (h:cM true l≠0):∃c r,l.take (cM true l)=c::r/\mz c true=true:=by
 match l,h with
 |[],h=>exact absurd rfl h
 |c::l,h=>
  rw[cM]at h⊢
  split at h
  ·rename_i hc
   rw[if_pos hc,Nat.add_comm,List.take_succ_cons]
   exact⟨c,_,rfl,hc⟩
  ·exact absurd rfl h
theorem OX {c:UInt8} {r:List UInt8} (h:mz c true=true):c::r≠[61]:=by
 intro e
 rw[List.cons.injEq]at e
 rw[e.1]at h
 revert h;decide
theorem Zf {s:List UInt8} {f i j:Nat} {t:Tm} (h:pT s f i=some (t,j)) (hn:t.nm≠[]):t.ix=0/\t.nm≠[61]:=by
 match f,h with
 |0,h=>rw[pT]at h;cases h
 |f+1,h=>
  rw[Pu]at h
  split at h
  ·exact absurd (Pv h).1 hn
  ·split at h
   ·cases h
   ·rename_i h0
    obtain⟨c,r,e,hc⟩:=OW h0
    split at h
    ·cases h
    ·simp only[Option.some.injEq,Prod.mk.injEq]at h
     obtain⟨rfl,rfl⟩:=h
     exact⟨rfl,by show List.take _ _≠_;rw[e];exact OX hc⟩
theorem aaU {t:Tm} (h:t.nm≠[]):eT false t=t.nm++fQ false t.xs:=by rw[Q7,if_neg h]
theorem Pr {s:List UInt8} {i j:Nat} {l:Lt} (h:pL s i=some (l,j)):s.drop i=jK false l++s.drop j/\i<j/\j<=s.length:=by
 rw[pL]at h
 split at h
 ·rename_i U
  split at h
  ·cases h
  ·rename_i h0
   obtain⟨c,r,e,hc⟩:=OW h0
   have g_:=Ac true (s.drop (i+1))
   rw[List.length_drop]at g_
   split at h
   ·cases h
   ·rename_i x k e2
    simp only[Option.some.injEq,Prod.mk.injEq]at h
    obtain⟨rfl,rfl⟩:=h
    obtain⟨g1,g2,g3⟩:=Zc e2 (by omega)
    refine⟨?_,by omega,g3⟩
    rw[jK]
    simp only
    rw[if_neg (by rw[e];exact OX hc),qd U]
    simp only[if_true,List.length_singleton,List.append_assoc]
    rw[<-g1,<-List.drop_drop (i:=cM true (s.drop (i+1))),List.take_append_drop]
 ·split at h
  ·cases h
  ·rename_i t k e1
   obtain⟨g1,g2,g3⟩:=sR e1
   split at h
   ·rename_i h2
    split at h
    ·cases h
    ·rename_i u m e2
     simp only[Option.some.injEq,Prod.mk.injEq]at h
     obtain⟨rfl,rfl⟩:=h
     obtain⟨g4,g5,g6⟩:=sR e2
     refine⟨?_,by omega,g6⟩
     have:=qd h2
     rw[show k+[(32:UInt8),61,32].length=k+3 from rfl,g4]at this
     rw[jK,if_pos rfl,g1,this]
     simp[tH]
   ·split at h
    ·rename_i h2
     split at h
     ·cases h
     ·rename_i u m e2
      simp only[Option.some.injEq,Prod.mk.injEq]at h
      obtain⟨rfl,rfl⟩:=h
      obtain⟨g4,g5,g6⟩:=sR e2
      refine⟨?_,by omega,g6⟩
      have:=qd h2
      rw[show k+[(32:UInt8),33,61,32].length=k+4 from rfl,g4]at this
      rw[jK,if_pos rfl,g1,this]
      simp[tH]
    ·split at h
     ·cases h
     ·rename_i hn
      simp only[Option.some.injEq,Prod.mk.injEq]at h
      obtain⟨rfl,rfl⟩:=h
      refine⟨?_,g2,g3⟩
      rw[jK,if_neg (Zf e1 hn).2,g1,aaU hn];rfl
mutual
def cd:Tm->Nat
 | .mk _ _ xs=>1+dj xs
def dj:List Tm->Nat
 |[]=>0
 |t::l=>max (cd t) (dj l)
end
def jF (l:Lt):Nat:=1+aK l.xs
def b8 (c:List Lt):Nat:=(c.map jF).sum
def fw:List Lt->Nat
 |[]=>0
 |l::c=>max (dj l.xs) (fw c)
def ew (eF eR:Int) (t:Tm):Int:=
 if t.nm=[]then(if t.xs≠[]then eF else if t.ix<0\/1000<=t.ix then eR else 0)
 else if fI t.nm=false\/t.ix≠0 then eF else 0
mutual
def me (eF eR:Int):Tm->Int
 | .mk n i xs=>if ew eF eR (.mk n i xs)≠0 then ew eF eR (.mk n i xs)else eg eF eR xs
def eg (eF eR:Int):List Tm->Int
 |[]=>0
 |t::l=>if me eF eR t≠0 then me eF eR t else eg eF eR l
end
mutual
def bZ:Tm->List Tm
 | .mk n i xs=> .mk n i xs::cG xs
def cG:List Tm->List Tm
 |[]=>[]
 |t::l=>bZ t++cG l
end
theorem Ap (t:Tm):bZ t=t::cG t.xs:=by cases t;rw[bZ];rfl
def jT (f:Tm->Int):List Tm->Int
 |[]=>0
 |t::l=>if f t≠0 then f t else jT f l
theorem LG (f:Tm->Int):∀l m,jT f (l++m)=if jT f l≠0 then jT f l else jT f m
 |[],m=>by rw[List.nil_append,jT,if_neg (by decide)]
 |t::l,m=>by
  rw[List.cons_append,jT,jT,LG f l m]
  by_cases h:f t≠0
  ·rw[if_pos h,if_pos h,if_pos h]
  ·rw[if_neg h,if_neg h]
mutual
theorem Lp (eF eR:Int):∀t,me eF eR t=jT (ew eF eR) (bZ t)
 | .mk n i xs=>by rw[me,bZ,jT,Lq eF eR xs]
theorem Lq (eF eR:Int):∀l,eg eF eR l=jT (ew eF eR) (cG l)
 |[]=>by rw[eg,cG];rfl
 |t::l=>by rw[eg,cG,LG,Lp eF eR t,Lq eF eR l]
end
def vI (eF eR:Int) (l:Lt):Int:=if(l.pd≠[61]/\fI l.pd=false)\/(l.pd=[61]/\l.xs.length≠2)then eF else eg eF eR l.xs
def iV (eF eR:Int):List Lt->Int
 |[]=>0
 |l::c=>if vI eF eR l≠0 then vI eF eR l else iV eF eR c
def bp (eS eD eF eR:Int) (c:List Lt):Int:=
 if 40<c.length then eS else if 4000<b8 c then eS else if 100<fw c then eD else iV eF eR c
theorem T6 {eF eR:Int} (hF:eF≠0) (hR:eR≠0) (t:Tm):ew eF eR t=0↔if t.nm=[]then t.xs=[]/\0<=t.ix/\t.ix<1000 else fI t.nm=true/\t.ix=0:=by
 rw[ew]
 by_cases hn:t.nm=[]
 ·rw[if_pos hn,if_pos hn]
  by_cases hx:t.xs=[]
  ·rw[if_neg (by simpa using hx)]
   by_cases hi:t.ix<0\/1000<=t.ix
   ·rw[if_pos hi];exact⟨fun h=>absurd h hR,fun h=>by omega⟩
   ·rw[if_neg hi];exact⟨fun _=>⟨hx,by omega⟩,fun _=>rfl⟩
  ·rw[if_pos hx];exact⟨fun h=>absurd h hF,fun h=>absurd h.1 hx⟩
 ·rw[if_neg hn,if_neg hn]
  by_cases hb:fI t.nm=false\/t.ix≠0
  ·rw[if_pos hb]
   refine⟨fun h=>absurd h hF,fun h=>?_⟩
   rcases hb with hb|hb
   ·rw[h.1]at hb;cases hb
   ·exact absurd h.2 hb
  ·rw[if_neg hb]
   refine⟨fun _=>⟨?_,?_⟩,fun _=>rfl⟩
   ·rw[<-Bool.not_eq_false];exact fun h=>hb (.inl h)
   ·exact Decidable.byContradiction fun h=>hb (.inr h)
mutual
theorem T9 {eF eR:Int} (hF:eF≠0) (hR:eR≠0):∀t,me eF eR t=0↔c7 t=true
 | .mk n i xs=>by
  have U:ew eF eR (.mk n i xs)=0↔if n=[]then xs=[]/\0<=i/\i<1000 else fI n=true/\i=0:=T6 hF hR (.mk n i xs)
  have h2:=Fe hF hR xs
  rw[me,c7]
  by_cases hn:n=[]
  ·rw[if_pos hn]at U⊢
   rw[Bool.and_eq_true,Bool.and_eq_true,List.isEmpty_iff,decide_eq_true_iff,decide_eq_true_iff]
   by_cases h0:ew eF eR (.mk n i xs)=0
   ·rw[if_neg (by simpa using h0)]
    have h3:=U.1 h0
    rw[h3.1,eg];exact⟨fun _=>⟨rfl,h3.2⟩,fun _=>rfl⟩
   ·rw[if_pos h0]
    exact⟨fun h=>absurd h h0,fun h=>absurd (U.2 h) h0⟩
  ·rw[if_neg hn]at U⊢
   rw[Bool.and_eq_true,Bool.and_eq_true,beq_iff_eq,<-h2]
   by_cases h0:ew eF eR (.mk n i xs)=0
   ·rw[if_neg (by simpa using h0)]
    exact⟨fun h=>⟨U.1 h0,h⟩,fun h=>h.2⟩
   ·rw[if_pos h0]
    exact⟨fun h=>absurd h h0,fun h=>absurd (U.2 h.1) h0⟩
theorem Fe {eF eR:Int} (hF:eF≠0) (hR:eR≠0):∀l,eg eF eR l=0↔cB l=true
 |[]=>by rw[eg,cB];simp
 |t::l=>by
  have U:=T9 hF hR t
  have h2:=Fe hF hR l
  rw[eg,cB,Bool.and_eq_true,<-U,<-h2]
  by_cases h0:me eF eR t=0
  ·rw[if_neg (by simpa using h0)]
   exact⟨fun h=>⟨h0,h⟩,fun h=>h.2⟩
  ·rw[if_pos h0]
   exact⟨fun h=>absurd h h0,fun h=>absurd h.1 h0⟩
end
theorem T7 {eF eR:Int} (hF:eF≠0) (hR:eR≠0) (l:Lt):vI eF eR l=0↔iQ l=true:=by
 have h2:=Fe hF hR l.xs
 rw[vI,iQ]
 by_cases hp:l.pd=[61]
 ·rw[if_pos hp,Bool.and_eq_true,decide_eq_true_iff,<-h2]
  by_cases hl:l.xs.length=2
  ·rw[if_neg (by rintro(h|h);exact h.1 hp;exact h.2 hl)]
   exact⟨fun h=>⟨hl,h⟩,fun h=>h.2⟩
  ·rw[if_pos (.inr ⟨hp,hl⟩)]
   exact⟨fun h=>absurd h hF,fun h=>absurd h.1 hl⟩
 ·rw[if_neg hp,Bool.and_eq_true,<-h2]
  by_cases hb:fI l.pd=false
  ·rw[if_pos (.inl ⟨hp,hb⟩)]
   exact⟨fun h=>absurd h hF,fun h=>by rw[hb]at h;cases h.1⟩
  ·rw[if_neg (by rintro(h|h);exact hb h.2;exact hp h.1)]
   exact⟨fun h=>⟨by simpa using hb,h⟩,fun h=>h.2⟩
theorem Lo {eF eR:Int} (hF:eF≠0) (hR:eR≠0):∀c,iV eF eR c=0↔c.all iQ=true
 |[]=>by rw[iV];simp
 |l::c=>by
  have U:=T7 hF hR l
  have h2:=Lo hF hR c
  rw[iV,List.all_cons,Bool.and_eq_true,<-U,<-h2]
  by_cases h0:vI eF eR l=0
  ·rw[if_neg (by simpa using h0)]
   exact⟨fun h=>⟨h0,h⟩,fun h=>h.2⟩
  ·rw[if_pos h0]
   exact⟨fun h=>absurd h h0,fun h=>absurd h.1 h0⟩
theorem EK {eS eD eF eR:Int} (hS:eS≠0) (hD:eD≠0) (hF:eF≠0) (hR:eR≠0) (c:List Lt):
  bp eS eD eF eR c=0↔c.length<=40/\b8 c<=4000/\fw c<=100/\c.all iQ=true:=by
 rw[bp,<-Lo hF hR]
 by_cases U:40<c.length
 ·rw[if_pos U];exact⟨fun h=>absurd h hS,fun h=>by omega⟩
 ·rw[if_neg U]
  by_cases h2:4000<b8 c
  ·rw[if_pos h2];exact⟨fun h=>absurd h hS,fun h=>by omega⟩
  ·rw[if_neg h2]
   by_cases h3:100<fw c
   ·rw[if_pos h3];exact⟨fun h=>absurd h hD,fun h=>by omega⟩
   ·rw[if_neg h3];exact⟨fun h=>⟨by omega,by omega,by omega,h⟩,fun h=>h.2.2.2⟩
def jH (a b:Lt):Bool:=(a.ng==b.ng&&a.pd==b.pd)&&mc a.xs b.xs
theorem Qe (a b:Lt):jH a b=true↔a=b:=by
 rw[jH,Bool.and_eq_true,Bool.and_eq_true,beq_iff_eq,beq_iff_eq,E6]
 cases a;cases b
 simp only[Lt.mk.injEq,and_assoc]
def e8 (p:List Lt):List Lt->List Lt
 |[]=>[]
 |x::r=>if p.any (jH x)then e8 (p++[x]) r else x::e8 (p++[x]) r
def dP (l:Lt):List UInt8:=jK true l
def lR (x:Lt):List Lt->List Lt
 |[]=>[x]
 |y::o=>if dP x<dP y then x::y::o else y::lR x o
def du (o:List Lt):List Lt->List Lt
 |[]=>o
 |x::r=>du (lR x o) r
def fK (f:Int->Tm) (l:Lt):Lt:=⟨l.ng,l.pd,bK f l.xs⟩
def dY (c:List Lt):List Int:=c.flatMap fun l=>bJ l.xs
def c6 (o:List Int):List Int->List Int
 |[]=>o
 |v::l=>c6 (if v∈o then o else o++[v]) l
def bg (i:Int):Tm:= .mk [] i []
def jf (c:List Lt):List Lt:=du [] (e8 [] c)
def ZK (c:List Lt) (v:Int):Tm:=bg ((c6 [] (dY c)).idxOf v:Nat)
def Dr (c:List Lt):List Lt:=(jf c).map (fK (ZK (jf c)))
theorem O6:∀(l o:List Int),∃r,c6 o l=o++r
 |[],o=>⟨[],by rw[c6,List.append_nil]⟩
 |v::l,o=>by
  rw[c6]
  obtain⟨r,hr⟩:=O6 l (if v∈o then o else o++[v])
  rw[hr]
  split
  ·exact⟨r,rfl⟩
  ·exact⟨v::r,by rw[List.append_assoc];rfl⟩
theorem Dt:∀(l o:List Int),o.Nodup->(c6 o l).Nodup
 |[],o,h=>h
 |w::l,o,h=>by
  rw[c6]
  refine Dt l _ ?_
  split
  ·exact h
  ·rename_i hw
   rw[List.nodup_append]
   exact⟨h,by simp,fun a ha b hb e=>hw (by rw[List.mem_singleton]at hb;rw[<-hb,<-e];exact ha)⟩
mutual
theorem Kj (f:Int->Tm):∀t:Tm,c7 t=true->(∀v∈dm t,f v=bg v)->al f t=t
 | .mk n i xs,h,hv=>by
  rw[c7]at h
  rw[dm]at hv
  rw[al]
  by_cases hn:n=[]
  ·rw[if_pos hn,Bool.and_eq_true,List.isEmpty_iff]at h
   rw[if_pos hn,hv i (by rw[if_pos hn];simp),h.1,hn];rfl
  ·rw[if_neg hn,Bool.and_eq_true,Bool.and_eq_true,beq_iff_eq]at h
   rw[if_neg hn,Km f xs h.2 fun v hm=>hv v (List.mem_append_right _ hm),h.1.2]
theorem Km (f:Int->Tm):∀l:List Tm,cB l=true->(∀v∈bJ l,f v=bg v)->bK f l=l
 |[],_,_=>by rw[bK]
 |t::l,h,hv=>by
  rw[cB,Bool.and_eq_true]at h
  rw[bJ]at hv
  rw[bK,Kj f t h.1 fun v hm=>hv v (List.mem_append_left _ hm),Km f l h.2 fun v hm=>hv v (List.mem_append_right _ hm)]
end
mutual
theorem vr (f g:Int->Tm):∀t:Tm,al g (al f t)=al (fun v=>al g (f v)) t
 | .mk n i xs=>by
  rw[al,al]
  by_cases hn:n=[]
  ·rw[if_pos hn,if_pos hn]
  ·rw[if_neg hn,if_neg hn,al,if_neg hn,Kk f g xs]
theorem Kk (f g:Int->Tm):∀l:List Tm,bK g (bK f l)=bK (fun v=>al g (f v)) l
 |[]=>by rw[bK,bK,bK]
 |t::l=>by rw[bK,bK,bK,vr f g t,Kk f g l]
end
theorem yh (g:Int->Tm) (v:Int):al g (bg v)=g v:=by rw[bg,al,if_pos rfl]
theorem Rn (l:Lt) (c:List Lt):dY (l::c)=bJ l.xs++dY c:=by rw[dY,List.flatMap_cons];rfl
theorem JQ {p:List Lt} {x:Lt}:p.any (jH x)=true↔x∈p:=by
 rw[List.any_eq_true]
 constructor
 ·rintro⟨y,hy,e⟩
  rw[(Qe x y).1 e];exact hy
 ·intro h;exact⟨x,h,(Qe x x).2 rfl⟩
theorem vz:∀(c p:List Lt),(e8 p c).Sublist c
 |[],p=>by rw[e8];exact List.Sublist.refl _
 |x::r,p=>by
  rw[e8]
  split
  ·exact(vz r _).cons x
  ·exact(vz r _).cons_cons x
theorem ER:∀(c p:List Lt),∀x∈c,x∈p\/x∈e8 p c
 |[],p,x,h=>by cases h
 |y::r,p,x,h=>by
  rw[e8]
  split
  ·rename_i hy
   rcases List.mem_cons.1 h with rfl|h
   ·exact .inl (JQ.1 hy)
   ·rcases ER r (p++[y]) x h with h|h
    ·rcases List.mem_append.1 h with h|h
     ·exact .inl h
     ·rw[List.mem_singleton]at h;exact .inl (h▸JQ.1 hy)
    ·exact .inr h
  ·rcases List.mem_cons.1 h with rfl|h
   ·exact .inr (by simp)
   ·rcases ER r (p++[y]) x h with h|h
    ·rcases List.mem_append.1 h with h|h
     ·exact .inl h
     ·rw[List.mem_singleton]at h;exact .inr (by simp[h])
    ·exact .inr (by simp[h])
def mC (a b:Lt):Prop:=¬dP b<dP a
theorem N8 {a b c:Lt} (h:mC a b) (k:mC b c):mC a c:=by
 intro hc
 rcases Di (dP b) (dP c)with U|U|U
 ·exact h (List.lt_trans U hc)
 ·exact h (U▸hc)
 ·exact k U
theorem Hb (x:Lt):∀o,(lR x o).Perm (x::o)
 |[]=>List.Perm.refl _
 |y::o=>by
  rw[lR]
  split
  ·exact List.Perm.refl _
  ·exact((Hb x o).cons y).trans (List.Perm.swap x y o)
theorem uW:∀(c o:List Lt),(du o c).Perm (o++c)
 |[],o=>by rw[du,List.append_nil]
 |x::c,o=>by
  rw[du]
  refine(uW c _).trans (((Hb x o).append_right c).trans ?_)
  exact(List.perm_middle (a:=x) (l₁:=o) (l₂:=c)).symm
theorem NW (x:Lt):∀o,o.Pairwise mC->(lR x o).Pairwise mC
 |[],_=>List.pairwise_singleton _ _
 |y::o,h=>by
  rw[List.pairwise_cons]at h
  rw[lR]
  split
  ·rename_i hx
   have ga:mC x y:=fun h'=>List.lt_irrefl _ (List.lt_trans hx h')
   rw[List.pairwise_cons,List.pairwise_cons]
   exact⟨fun z hz=>(List.mem_cons.1 hz).elim (fun e=>e▸ga) fun hz=>N8 ga (h.1 z hz),h⟩
  ·rename_i hx
   rw[List.pairwise_cons]
   refine⟨fun z hz=>?_,NW x o h.2⟩
   rcases List.mem_cons.1 ((Hb x o).mem_iff.1 hz)with rfl|hz
   ·exact hx
   ·exact h.1 z hz
theorem QA:∀(c o:List Lt),o.Pairwise mC->(du o c).Pairwise mC
 |[],o,h=>h
 |x::c,o,h=>QA c _ (NW x o h)
theorem Po {c:List Lt} {x:Lt}:x∈jf c↔x∈c:=by
 rw[jf,(uW _ _).mem_iff,List.nil_append]
 constructor
 ·exact fun h=>(vz c []).subset h
 ·intro h
  rcases ER c [] x h with h|h
  ·cases h
  ·exact h
mutual
theorem Pe (f:Int->Tm):∀t:Tm,c7 t=true->(∀v∈dm t,c7 (f v)=true)->c7 (al f t)=true
 | .mk n i xs,h,k=>by
  rw[c7]at h
  rw[dm]at k
  rw[al]
  by_cases hn:n=[]
  ·rw[if_pos hn]at k⊢;exact k i (by simp)
  ·rw[if_neg hn,Bool.and_eq_true,Bool.and_eq_true]at h
   rw[if_neg hn]at k⊢
   rw[c7,if_neg hn,h.1.1,Pg f xs h.2 fun v hv=>k v (by simpa using hv)];rfl
theorem Pg (f:Int->Tm):∀l:List Tm,cB l=true->(∀v∈bJ l,c7 (f v)=true)->cB (bK f l)=true
 |[],_,_=>by rw[bK,cB]
 |t::l,h,k=>by
  rw[cB,Bool.and_eq_true]at h
  rw[bJ]at k
  rw[bK,cB,Pe f t h.1 fun v hv=>k v (List.mem_append_left _ hv),Pg f l h.2 fun v hv=>k v (List.mem_append_right _ hv)];rfl
end
abbrev Bd:=List (Int×Tm)
def mD:Bd->Int->Option Tm
 |[],_=>none
 |b::m,v=>if b.1=v then some b.2 else mD m v
mutual
def HW:Tm->Tm->Bd->Bd×Bool
 | .mk n i xs,t,m=>if n=[]then(match mD m i with
   |some x=>(m,d_ x t)
   |none=>(m++[(i,t)],true))
  else if n≠t.nm\/xs.length≠t.xs.length then(m,false)else HX xs t.xs m
def HX:List Tm->List Tm->Bd->Bd×Bool
 |a::l,b::k,m=>if(HW a b m).2 then HX l k (HW a b m).1 else HW a b m
 |_,_,m=>(m,true)
end
def AM (m m':Bd):Prop:=(∃r,m'=m++r)/\((m.map (·.1)).Nodup->(m'.map (·.1)).Nodup)
theorem AM.trans {a b c:Bd} (h:AM a b) (k:AM b c):AM a c:=by
 obtain⟨⟨r,rfl⟩,h2⟩:=h
 obtain⟨⟨q,rfl⟩,k2⟩:=k
 exact⟨⟨r++q,by rw[List.append_assoc]⟩,fun h=>k2 (h2 h)⟩
def Sw (x y:Lt):Bool:=(x.ng==y.ng&&x.pd==y.pd)&&decide (x.xs.length=y.xs.length)
section
variable {α:Type} (key:α->List UInt8)
def xP (a b:α):Prop:=¬key b<key a
def oJ (k:List UInt8) (l:List α):List α:=l.filter fun x=>key x==k
def p8 (l m:List α):Prop:=m.Pairwise (xP key)/\∀k,oJ key k m=oJ key k l
theorem xP.trans {a b c:α} (h:xP key a b) (k:xP key b c):xP key a c:=by
 intro hc
 rcases Di (key b) (key c)with U|U|U
 ·exact h (List.lt_trans U hc)
 ·exact h (U▸hc)
 ·exact k U
theorem O_ (k:List UInt8) (l m:List α):oJ key k (l++m)=oJ key k l++oJ key k m:=List.filter_append ..
theorem Pa {k:List UInt8} {l:List α} {x:α}:x∈oJ key k l↔x∈l/\key x=k:=by
 rw[oJ,List.mem_filter,beq_iff_eq]
theorem p8.mem {l m:List α} (h:p8 key l m) {x:α}:x∈m↔x∈l:=by
 have:=h.2 (key x)
 have U:x∈oJ key (key x) m↔x∈m:=by rw[Pa];exact⟨fun h=>h.1,fun h=>⟨h,rfl⟩⟩
 have h2:x∈oJ key (key x) l↔x∈l:=by rw[Pa];exact⟨fun h=>h.1,fun h=>⟨h,rfl⟩⟩
 rw[<-U,<-h2,this]
theorem p8.congr {l l' m:List α} (h:p8 key l m) (e:∀k,oJ key k l=oJ key k l'):p8 key l' m:=⟨h.1,fun k=>(h.2 k).trans (e k)⟩
theorem p8.append {l m p q:List α} (h:p8 key l m) (k:p8 key (m++p) q):p8 key (l++p) q:=
 ⟨k.1,fun x=>by rw[k.2,O_,O_,h.2]⟩
end
def aV (l:Bd) (v:Int):Tm:=(mD l v).getD (bg v)
mutual
def lE (w:Int->Nat):Tm->Nat
 | .mk n i xs=>if n=[]then w i else gA w 1 xs
def gA (w:Int->Nat) (a:Nat):List Tm->Nat
 |[]=>a
 |t::l=>gA w (min (a+lE w t) 4001) l
end
mutual
def lD (w:Int->Nat):Tm->Nat
 | .mk n i xs=>if n=[]then w i else gz w 1 xs
def gz (w:Int->Nat) (a:Nat):List Tm->Nat
 |[]=>a
 |t::l=>gz w (max a (lD w t+1)) l
end
mutual
theorem LQ (f:Int->Tm) (w:Int->Nat):∀t:Tm,(∀v∈dm t,w v=wT (f v)/\w v<=4001)->lE w t=min (wT (al f t)) 4001
 | .mk n i xs,h=>by
  rw[dm]at h
  rw[lE,al]
  by_cases hn:n=[]
  ·rw[if_pos hn]at h⊢
   rw[if_pos hn]
   have:=h i (by simp)
   rw[<-this.1];omega
  ·rw[if_neg hn]at h⊢
   rw[if_neg hn,wT]
   exact LU f w 1 xs (fun v hv=>h v (by simpa using hv)) (by omega)
theorem LU (f:Int->Tm) (w:Int->Nat):∀(a:Nat) (l:List Tm),(∀v∈bJ l,w v=wT (f v)/\w v<=4001)->a<=4001->gA w a l=min (a+aK (bK f l)) 4001
 |a,[],_,ha=>by rw[gA,bK,aK];omega
 |a,t::l,h,ha=>by
  rw[bJ]at h
  rw[gA,bK,aK,LQ f w t fun v hv=>h v (List.mem_append_left _ hv),LU f w _ l (fun v hv=>h v (List.mem_append_right _ hv)) (by omega)]
  omega
end
mutual
theorem LM (f:Int->Tm) (w:Int->Nat):∀t:Tm,(∀v∈dm t,w v=cd (f v))->lD w t=cd (al f t)
 | .mk n i xs,h=>by
  rw[dm]at h
  rw[lD,al]
  by_cases hn:n=[]
  ·rw[if_pos hn]at h⊢
   rw[if_pos hn,h i (by simp)]
  ·rw[if_neg hn]at h⊢
   rw[if_neg hn,cd,LO f w 1 xs fun v hv=>h v (by simpa using hv)]
   by_cases hl:xs=[]
   ·subst hl;rw[if_pos rfl,bK,dj];rfl
   ·rw[if_neg hl];omega
theorem LO (f:Int->Tm) (w:Int->Nat):∀(a:Nat) (l:List Tm),(∀v∈bJ l,w v=cd (f v))->gz w a l=max a (if l=[]then 0 else 1+dj (bK f l))
 |a,[],_=>by rw[gz,if_pos rfl];omega
 |a,t::l,h=>by
  rw[bJ]at h
  rw[gz,if_neg (by simp),bK,dj,LM f w t fun v hv=>h v (List.mem_append_left _ hv),LO f w _ l fun v hv=>h v (List.mem_append_right _ hv)]
  by_cases hl:l=[]
  ·subst hl;rw[if_pos rfl,bK,dj];omega
  ·rw[if_neg hl];omega
end
def cU (f:Int->Tm) (c:List Lt):List Lt:=c.map (fK f)
def mP (c:List Lt):Bool:=decide (4000<b8 c)||decide (100<fw c)
theorem nC (l:Lt) (c:List Lt):b8 (l::c)=1+aK l.xs+b8 c:=by rw[b8,List.map_cons,List.sum_cons];rfl
theorem Jh:∀(l:List Tm),l.length<=aK l
 |[]=>Nat.zero_le _
 |t::l=>by rw[aK,List.length_cons];have:=u9 t;have:=Jh l;omega
theorem Dm:∀(c:List Lt) (l:Lt),l∈c->jF l<=b8 c
 |[],_,h=>by cases h
 |m::c,l,h=>by
  rw[nC]
  rcases List.mem_cons.1 h with rfl|h
  ·rw[jF];omega
  ·have:=Dm c l h;omega
theorem YF {a b:List Lt} (h:a.Perm b):b8 a=b8 b:=(h.map jF).sum_nat
theorem OR {a b:List Lt} (h:a.Sublist b):b8 a<=b8 b:=by
 induction h with
 |slnil=>exact Nat.le_refl _
 |cons a _ ih=>rw[nC];omega
 |cons_cons a _ ih=>rw[nC,nC];omega
def l_ (s t:Tm) (f:Int->Tm):Prop:=al f s=al f t
structure vj (s t:Tm) (f:Int->Tm):Prop where
 u:l_ s t f
 m:∀g,l_ s t g->∀v,al g (f v)=g v
 r:∀v,(f v).nm=[]->(f v).ix<=v
 l:∀v,Lf (f v)
theorem Lf.var {t:Tm} (h:Lf t) (hn:t.nm=[]):t=bg t.ix:=by
 obtain⟨_,hx,_,_⟩:=h
 cases t
 simp only[Tm.nm,Tm.xs,Tm.ix]at hn hx⊢
 rw[bg,hn,hx hn]
theorem Lf.args {t:Tm} (h:Lf t):∀a∈t.xs,Lf a:=by obtain⟨_,_,_,k⟩:=h;exact k
theorem Lf.zero {t:Tm} (h:Lf t) (hn:t.nm≠[]):t.ix=0:=by obtain⟨_,_,k,_⟩:=h;exact k hn
theorem AT (v:Int):Lf (bg v):=⟨_,fun _=>rfl,fun h=>absurd rfl h,fun a ha=>by cases ha⟩
theorem Ki (f:Int->Tm) {t:Tm} (h:t.nm≠[]):(al f t).nm=t.nm/\(al f t).xs=bK f t.xs/\(al f t).ix=0:=by
 rw[qe,if_neg h];exact⟨rfl,rfl,rfl⟩
def ti (l:Bd) (g:Int->Tm):Prop:=∀b∈l,al g b.2=g b.1
structure l8 (l:Bd) (f:Int->Tm):Prop where
 s:ti l f
 m:∀g,ti l g->∀v,al g (f v)=g v
 r:∀v,(f v).nm=[]->(f v).ix<=v
 lf:∀v,Lf (f v)
 b:∀v,f v≠bg v↔∃x,(v,x)∈l
theorem l8.nil:l8 [] bg:=by
 refine⟨fun b h=>?_,fun g _ v=>yh g v,fun v _=>Int.le_refl _,AT,fun v=>⟨fun h=>absurd rfl h,?_⟩⟩
 ·cases h
 ·rintro⟨x,h⟩;cases h
theorem l8.idem {l:Bd} {f:Int->Tm} (h:l8 l f) (v:Int):al f (f v)=f v:=h.m f h.s v
theorem l8.under {l:Bd} {f g:Int->Tm} (h:l8 l f) (hg:ti l g) (t:Tm):al g (al f t)=al g t:=by
 rw[vr,show(fun v=>al g (f v))=g from funext (h.m g hg)]
def lV (v:Int) (t:Tm) (w:Int):Tm:=if w=v then t else bg w
theorem Af (v:Int) (t:Tm):lV v t v=t:=if_pos rfl
theorem w8 {v w:Int} (t:Tm) (h:w≠v):lV v t w=bg w:=if_neg h
mutual
theorem Kh (f:Int->Tm):∀t:Tm,Lf t->(∀v∈dm t,f v=bg v)->al f t=t
 | .mk n i xs,h,hv=>by
  rw[dm]at hv
  rw[al]
  have h0:=h.zero
  have hk:=h.args
  by_cases hn:n=[]
  ·rw[if_pos hn]at hv⊢
   rw[hv i (by simp)];exact(h.var hn).symm
  ·rw[if_neg hn]at hv⊢
   rw[Kl f xs hk fun v hm=>hv v (by simpa using hm),show i=0 from h0 hn]
theorem Kl (f:Int->Tm):∀l:List Tm,(∀a∈l,Lf a)->(∀v∈bJ l,f v=bg v)->bK f l=l
 |[],_,_=>by rw[bK]
 |t::l,h,hv=>by
  rw[bJ]at hv
  rw[bK,Kh f t (h t (by simp)) fun v hm=>hv v (List.mem_append_left _ hm),Kl f l (fun a ha=>h a (by simp[ha])) fun v hm=>hv v (List.mem_append_right _ hm)]
end
theorem Ju {f:Int->Tm} (hf:∀v,Lf (f v)) {t:Tm} (h:Lf t):Lf (al f t):=by
 induction h with
 |mk t hx h0 k ih=>
  rw[qe]
  by_cases hn:t.nm=[]
  ·rw[if_pos hn];exact hf _
  ·rw[if_neg hn]
   refine⟨_,fun h=>absurd h hn,fun _=>rfl,fun a ha=>?_⟩
   rw[show(Tm.mk t.nm 0 (bK f t.xs)).xs=bK f t.xs from rfl,kH]at ha
   obtain⟨b,hb,rfl⟩:=List.mem_map.1 ha
   exact ih b hb
theorem l8.bind {l:Bd} {f:Int->Tm} (h:l8 l f) {v:Int} {t:Tm} (hv:f v=bg v) (ht:Lf t) (ho:v∉dm (al f t))
  (hr:(al f t).nm=[]->(al f t).ix<v):l8 (l++[(v,t)]) (fun w=>al (lV v (al f t)) (f w)):=by
 have hl:Lf (al f t):=Ju h.lf ht
 have hk:al (lV v (al f t)) (al f t)=al f t:=Kh _ _ hl fun w hw=>w8 _ fun e=>ho (e▸hw)
 have pf:al (lV v (al f t)) (f v)=al f t:=by rw[hv,yh,Af]
 have dH:∀w,Lf (lV v (al f t) w):=fun w=>by
  by_cases e:w=v
  ·rw[e,Af];exact hl
  ·rw[w8 _ e];exact AT w
 refine⟨fun b hb=>?_,fun g hg w=>?_,fun w hw=>?_,fun w=>Ju dH (h.lf w),fun w=>?_⟩
 ·rcases List.mem_append.1 hb with hb|hb
  ·have:=h.s b hb
   rw[<-vr,this]
  ·rw[List.mem_singleton]at hb
   rw[hb]
   show al _ t=al _ (f v)
   rw[<-vr,hk,pf]
 ·have oa:ti l g:=fun b hb=>hg b (List.mem_append_left _ hb)
  have y4:al g t=g v:=hg (v,t) (by simp)
  have e:(fun u=>al g (lV v (al f t) u))=g:=funext fun u=>by
   by_cases e:u=v
   ·rw[e,Af,h.under oa,y4]
   ·rw[w8 _ e,yh]
  show al g (al _ (f w))=_
  rw[vr,e,h.m g oa]
 ·have zH:(al (lV v (al f t)) (f w)).nm=[]:=hw
  show(al (lV v (al f t)) (f w)).ix<=w
  have hn:(f w).nm=[]:=by
   by_cases e:(f w).nm=[]
   ·exact e
   ·rw[(Ki _ e).1]at zH;exact zH
  have U:=h.r w hn
  rw[qe,if_pos hn]at zH⊢
  by_cases e:(f w).ix=v
  ·rw[e,Af]at zH⊢
   have:=hr zH
   omega
  ·rw[w8 _ e];exact U
 ·show al (lV v (al f t)) (f w)≠bg w↔_
  constructor
  ·intro aC
   by_cases e:f w=bg w
   ·rw[e,yh]at aC
    by_cases e2:w=v
    ·exact⟨t,by simp[e2]⟩
    ·exact absurd (w8 _ e2) aC
   ·obtain⟨x,hx⟩:=(h.b w).1 e
    exact⟨x,List.mem_append_left _ hx⟩
  ·rintro⟨x,hx⟩ e
   rcases List.mem_append.1 hx with hx|hx
   ·have aC:=(h.b w).2 ⟨x,hx⟩
    have hn:(f w).nm=[]:=by
     by_cases e3:(f w).nm=[]
     ·exact e3
     ·have:=(Ki (lV v (al f t)) e3).1
      rw[e]at this;exact this.symm
    have Cg:=(h.lf w).var hn
    have ac3:=h.idem w
    rw[Cg,yh]at e
    by_cases e4:(f w).ix=v
    ·rw[e4,Af]at e
     have h5:=hr (by rw[e];rfl)
     rw[e]at h5
     have h6:=h.r w hn
     rw[e4]at h6
     have:(bg w).ix=w:=rfl
     omega
    ·rw[w8 _ e4]at e
     exact aC (Cg.trans e)
   ·rw[List.mem_singleton,Prod.mk.injEq]at hx
    obtain⟨rfl,rfl⟩:=hx
    rw[pf]at e
    exact ho (by rw[e,bg,dm,if_pos rfl];simp)
theorem ti.nil (g:Int->Tm):ti [] g:=fun b h=>by cases h
theorem l_.fn {s t:Tm} {g:Int->Tm} (hs:s.nm≠[]) (ht:t.nm≠[]):l_ s t g↔s.nm=t.nm/\bK g s.xs=bK g t.xs:=by
 rw[l_,qe,qe g t,if_neg hs,if_neg ht,Tm.mk.injEq]
 exact⟨fun h=>⟨h.1,h.2.2⟩,fun h=>⟨h.1,rfl,h.2⟩⟩
theorem l8.HQ {l:Bd} {f:Int->Tm} (h:l8 l f) {s t:Tm} (k:∀g,ti l g↔l_ s t g):vj s t f:=
 ⟨(k f).1 h.s,fun g hg v=>h.m g ((k g).2 hg) v,h.r,h.lf⟩
theorem Qy:∀(l m:List Int),l.Pairwise (·<·)->m.Pairwise (·<·)->(∀v,v∈l↔v∈m)->l=m
 |[],[],_,_,_=>rfl
 |[],b::m,_,_,h=>by have:=(h b).2 (by simp);cases this
 |a::l,[],_,_,h=>by have:=(h a).1 (by simp);cases this
 |a::l,b::m,hl,hm,h=>by
  rw[List.pairwise_cons]at hl hm
  have U:a∈b::m:=(h a).1 (by simp)
  have h2:b∈a::l:=(h b).2 (by simp)
  have e:a=b:=by
   rcases List.mem_cons.1 U with U|U
   ·exact U
   ·rcases List.mem_cons.1 h2 with h2|h2
    ·exact h2.symm
    ·have:=hm.1 a U;have:=hl.1 b h2;omega
  subst e
  rw[Qy l m hl.2 hm.2]
  intro v
  constructor
  ·intro hv
   rcases List.mem_cons.1 ((h v).1 (by simp[hv]))with e|k4
   ·have:=hl.1 v hv;omega
   ·exact k4
  ·intro hv
   rcases List.mem_cons.1 ((h v).2 (by simp[hv]))with e|k4
   ·have:=hm.1 v hv;omega
   ·exact k4
def nA (f:Int->Tm) (ks:List Int):Bd:=ks.map fun v=>(v,f v)
theorem KA:∀(c p:List Lt) (x:Lt),e8 p (c++[x])=e8 p c++(if(p++c).any (jH x)then[]else[x])
 |[],p,x=>by
  rw[List.nil_append,List.append_nil,e8,e8,e8,List.nil_append]
 |y::c,p,x=>by
  rw[List.cons_append,e8,e8,KA c,List.append_assoc]
  split<;>rfl
theorem Qz:∀(c o:List Lt) (x:Lt),du o (c++[x])=lR x (du o c)
 |[],o,x=>rfl
 |y::c,o,x=>by rw[List.cons_append,du,du,Qz c]
theorem Ha:∀(o1 o2:List Lt) (x:Lt),(o1++o2).Pairwise mC->(∀y∈o2,dP x<dP y)->(∀y,o1.getLast?=some y->mC y x)->lR x (o1++o2)=o1++x::o2
 |[],[],x,_,_,_=>rfl
 |[],y::o2,x,_,h,_=>by rw[List.nil_append,lR,if_pos (h y (by simp))];rfl
 |z::o1,o2,x,hp,h,hl=>by
  rw[List.cons_append,List.pairwise_cons]at hp
  have hz:mC z x:=by
   cases o1 with
   |nil=>exact hl z rfl
   |cons w o1=>
    have Wc:∃y,(w::o1).getLast?=some y/\y∈w::o1:=by
     refine⟨(w::o1).getLast (by simp),List.getLast?_eq_some_getLast (by simp),List.getLast_mem (by simp)⟩
    obtain⟨y,e,hy⟩:=Wc
    have U:mC y x:=hl y (by rw[List.getLast?_cons_cons];exact e)
    exact N8 (hp.1 y (List.mem_append_left _ hy)) U
  rw[List.cons_append,lR,if_neg hz,Ha o1 o2 x hp.2 h fun y hy=>?_]
  ·rfl
  ·cases o1 with
   |nil=>cases hy
   |cons w o1=>exact hl y (by rw[List.getLast?_cons_cons];exact hy)
end Go.Proofs.YtpfohmboflcneaaGreatDoor
end
section
namespace Go.Proofs.YtpfohmboflcneaaGreatDoor
open Go
set_option maxHeartbeats 1000000
structure Nd where
 nm:List UInt8
 num:Int
 ks:List Nat
inductive jk (rt:Nat->Nat) (D:List (Nat×Nat)):Nat->Nat->Prop
 |rt {a b:Nat}:rt a=rt b->jk rt D a b
 |pr {a b:Nat}:(a,b)∈D->jk rt D a b
 |symm {a b:Nat}:jk rt D a b->jk rt D b a
 |trans {a b c:Nat}:jk rt D a b->jk rt D b c->jk rt D a c
theorem jk.mono {r r':Nat->Nat} {D D':List (Nat×Nat)} (U:∀a b,r a=r b->jk r' D' a b) (h2:∀p∈D,jk r' D' p.1 p.2) {a b:Nat} (h:jk r D a b):jk r' D' a b:=by
 induction h with
 |rt h=>exact U _ _ h
 |pr h=>exact h2 _ h
 |symm _ ih=>exact ih.symm
 |trans _ _ i1 i2=>exact i1.trans i2
theorem jk.nil {r:Nat->Nat} {a b:Nat} (h:jk r [] a b):r a=r b:=by
 induction h with
 |rt h=>exact h
 |pr h=>cases h
 |symm _ ih=>exact ih.symm
 |trans _ _ i1 i2=>exact i1.trans i2
def eo (rt:Nat->Nat) (D:List (Nat×Nat)):List Nat->List Nat->Prop
 |[],[]=>True
 |a::l,b::m=>jk rt D a b/\eo rt D l m
 |_,_=>False
theorem eo.mono {r r':Nat->Nat} {D D':List (Nat×Nat)} (U:∀a b,r a=r b->jk r' D' a b) (h2:∀p∈D,jk r' D' p.1 p.2):∀{l m:List Nat},eo r D l m->eo r' D' l m
 |[],[],_=>trivial
 |a::l,b::m,h=>⟨h.1.mono U h2,eo.mono U h2 h.2⟩
 |[],_::_,h=>h.elim
 |_::_,[],h=>h.elim
theorem eo.symm {r:Nat->Nat} {D:List (Nat×Nat)}:∀{l m:List Nat},eo r D l m->eo r D m l
 |[],[],_=>trivial
 |a::l,b::m,h=>⟨h.1.symm,eo.symm h.2⟩
 |[],_::_,h=>h.elim
 |_::_,[],h=>h.elim
theorem eo.trans {r:Nat->Nat} {D:List (Nat×Nat)}:∀{l m k:List Nat},eo r D l m->eo r D m k->eo r D l k
 |[],[],[],_,_=>trivial
 |a::l,b::m,c::k,h,g=>⟨h.1.trans g.1,eo.trans h.2 g.2⟩
 |[],[],_::_,_,g=>g.elim
 |[],_::_,_,h,_=>h.elim
 |_::_,[],_,h,_=>h.elim
 |_::_,_::_,[],_,g=>g.elim
theorem eo.refl {r:Nat->Nat} {D:List (Nat×Nat)}:∀l:List Nat,eo r D l l
 |[]=>trivial
 |_::l=>⟨.rt rfl,eo.refl l⟩
theorem eo.zip {r:Nat->Nat} {D:List (Nat×Nat)}:∀{l m:List Nat},l.length=m.length->(∀p∈l.zip m,p∈D)->eo r D l m
 |[],[],_,_=>trivial
 |a::l,b::m,h,k=>⟨.pr (k (a,b) (by simp)),eo.zip (by simpa using h) fun p hp=>k p (by simp[hp])⟩
 |[],_::_,h,_=>by simp at h
 |_::_,[],h,_=>by simp at h
theorem eo.nil {r:Nat->Nat}:∀{l m:List Nat},eo r [] l m->l.map r=m.map r
 |[],[],_=>rfl
 |a::l,b::m,h=>by rw[List.map_cons,List.map_cons,h.1.nil,eo.nil h.2]
 |[],_::_,h=>h.elim
 |_::_,[],h=>h.elim
structure Good (cl:Nat->Nd) (rt:Nat->Nat) (D:List (Nat×Nat)):Prop where
 i:∀a,rt (rt a)=rt a
 v:∀a,(cl (rt a)).nm=[]->(cl a).nm=[]/\(cl (rt a)).num<=(cl a).num
 f:∀a b,rt a=rt b->(cl a).nm≠[]->(cl b).nm≠[]->(cl a).nm=(cl b).nm/\eo rt D (cl a).ks (cl b).ks
def cw (rt:Nat->Nat) (x y:Nat) (c:Nat):Nat:=if rt c=x then y else rt c
theorem uK {rt:Nat->Nat} {x y a b:Nat} (h:rt a=rt b):cw rt x y a=cw rt x y b:=by rw[cw,cw,h]
variable {cl:Nat->Nd} {rt:Nat->Nat} {D:List (Nat×Nat)}
theorem OM (h:Good cl rt D) {a b:Nat} (hn:rt a≠rt b) (c:Nat):cw rt (rt b) (rt a) (cw rt (rt b) (rt a) c)=cw rt (rt b) (rt a) c:=by
 rw[cw,cw]
 by_cases hc:rt c=rt b
 ·rw[if_pos hc,h.i,if_neg hn]
 ·rw[if_neg hc,h.i,if_neg hc]
theorem Good.same {a b:Nat} (h:Good cl rt ((a,b)::D)) (e:rt a=rt b):Good cl rt D:=
 ⟨h.i,h.v,fun x y ga hx hy=>⟨(h.f x y ga hx hy).1,(h.f x y ga hx hy).2.mono (fun _ _=> .rt) fun p hp=>by
  rcases List.mem_cons.1 hp with rfl|hp
  ·exact .rt e
  ·exact .pr hp⟩⟩
theorem Good.swap {a b:Nat} (h:Good cl rt ((a,b)::D)):Good cl rt ((b,a)::D):=
 ⟨h.i,h.v,fun x y ga hx hy=>⟨(h.f x y ga hx hy).1,(h.f x y ga hx hy).2.mono (fun _ _=> .rt) fun p hp=>by
  rcases List.mem_cons.1 hp with rfl|hp
  ·exact .symm (.pr (by simp))
  ·exact .pr (by simp[hp])⟩⟩
theorem Good.var {a b:Nat} (h:Good cl rt ((a,b)::D)) (hn:rt a≠rt b) (hb:(cl (rt b)).nm=[]) (ho:(cl (rt a)).nm=[]->(cl (rt a)).num<=(cl (rt b)).num):
  Good cl (cw rt (rt b) (rt a)) D:=by
 refine⟨OM h hn,fun c hc=>?_,fun x y ga hx hy=>?_⟩
 ·rw[cw]at hc⊢
  by_cases e:rt c=rt b
  ·rw[if_pos e]at hc⊢
   have U:=h.v c (by rw[e];exact hb)
   rw[e]at U
   have:=ho hc
   exact⟨U.1,by omega⟩
  ·rw[if_neg e]at hc⊢
   exact h.v c hc
 ·have nx:rt x≠rt b:=fun e=>hx (h.v x (by rw[e];exact hb)).1
  have ny:rt y≠rt b:=fun e=>hy (h.v y (by rw[e];exact hb)).1
  rw[cw,cw,if_neg nx,if_neg ny]at ga
  refine⟨(h.f x y ga hx hy).1,(h.f x y ga hx hy).2.mono (fun _ _ e=> .rt (uK e)) fun p hp=>?_⟩
  rcases List.mem_cons.1 hp with rfl|hp
  ·exact .rt (by rw[cw,cw,if_neg hn,if_pos rfl])
  ·exact .pr hp
theorem Good.fn {a b:Nat} (h:Good cl rt ((a,b)::D)) (hn:rt a≠rt b) (ha:(cl (rt a)).nm≠[]) (hb:(cl (rt b)).nm≠[]) (hm:(cl (rt a)).nm=(cl (rt b)).nm) (hl:(cl (rt a)).ks.length=(cl (rt b)).ks.length):
  Good cl (cw rt (rt b) (rt a)) ((cl (rt a)).ks.zip (cl (rt b)).ks++D):=by
 have wk:∀{l m:List Nat},eo rt ((a,b)::D) l m->eo (cw rt (rt b) (rt a)) ((cl (rt a)).ks.zip (cl (rt b)).ks++D) l m:=fun k=>
  k.mono (fun _ _ e=> .rt (uK e)) fun p hp=>by
   rcases List.mem_cons.1 hp with rfl|hp
   ·exact .rt (by rw[cw,cw,if_neg hn,if_pos rfl])
   ·exact .pr (List.mem_append_right _ hp)
 have hz:eo (cw rt (rt b) (rt a)) ((cl (rt a)).ks.zip (cl (rt b)).ks++D) (cl (rt a)).ks (cl (rt b)).ks:=eo.zip hl fun p hp=>List.mem_append_left _ hp
 refine⟨OM h hn,fun c hc=>?_,fun x y ga hx hy=>?_⟩
 ·rw[cw]at hc⊢
  by_cases e:rt c=rt b
  ·rw[if_pos e]at hc;exact absurd hc ha
  ·rw[if_neg e]at hc⊢;exact h.v c hc
 ·rw[cw,cw]at ga
  by_cases ex:rt x=rt b<;>by_cases ey:rt y=rt b
  ·have:=h.f x y (ex.trans ey.symm) hx hy
   exact⟨this.1,wk this.2⟩
  ·rw[if_pos ex,if_neg ey]at ga
   have U:=h.f x (rt b) (by rw[ex,h.i]) hx hb
   have h2:=h.f (rt a) y (by rw[h.i];exact ga) ha hy
   exact⟨U.1.trans (hm.symm.trans h2.1),((wk U.2).trans hz.symm).trans (wk h2.2)⟩
  ·rw[if_neg ex,if_pos ey]at ga
   have U:=h.f x (rt a) (by rw[ga,h.i]) hx ha
   have h2:=h.f (rt b) y (by rw[h.i,ey]) hb hy
   exact⟨U.1.trans (hm.trans h2.1),((wk U.2).trans hz).trans (wk h2.2)⟩
  ·rw[if_neg ex,if_neg ey]at ga
   have:=h.f x y ga hx hy
   exact⟨this.1,wk this.2⟩
def Dn (cl:Nat->Nd) (d:Nat->Tm):Prop:=∀c,d c=if(cl c).nm=[]then bg (cl c).num else .mk (cl c).nm 0 ((cl c).ks.map d)
def kE (d:Nat->Tm) (rt:Nat->Nat) (g:Int->Tm):Prop:=∀c,al g (d c)=al g (d (rt c))
theorem kE.cw {d:Nat->Tm} {g:Int->Tm} {a b:Nat} (h:kE d rt g) (e:al g (d a)=al g (d b)):kE d (cw rt (rt b) (rt a)) g:=by
 intro c
 rw[Go.Proofs.YtpfohmboflcneaaGreatDoor.cw]
 by_cases hc:rt c=rt b
 ·rw[if_pos hc,<-h a,e,h b,<-hc,<-h c]
 ·rw[if_neg hc];exact h c
theorem Dn.fn {d:Nat->Tm} (hd:Dn cl d) {c:Nat} (h:(cl c).nm≠[]) (g:Int->Tm):al g (d c)= .mk (cl c).nm 0 ((cl c).ks.map fun x=>al g (d x)):=by
 rw[hd c,if_neg h,al,if_neg h,kH,List.map_map];rfl
theorem kE.args {d:Nat->Tm} {g:Int->Tm} {a b:Nat} (hd:Dn cl d) (h:kE d rt g) (e:al g (d a)=al g (d b)) (ha:(cl (rt a)).nm≠[]) (hb:(cl (rt b)).nm≠[]):
  (cl (rt a)).nm=(cl (rt b)).nm/\(cl (rt a)).ks.length=(cl (rt b)).ks.length/\∀p∈(cl (rt a)).ks.zip (cl (rt b)).ks,al g (d p.1)=al g (d p.2):=by
 rw[h a,h b,hd.fn ha g,hd.fn hb g,Tm.mk.injEq]at e
 obtain⟨e1,_,e2⟩:=e
 have hl:=congrArg List.length e2
 rw[List.length_map,List.length_map]at hl
 refine⟨e1,hl,?_⟩
 suffices H:∀l m:List Nat,(l.map fun x=>al g (d x))=(m.map fun x=>al g (d x))->∀p∈l.zip m,al g (d p.1)=al g (d p.2) from H _ _ e2
 intro l
 induction l with
 |nil=>intro m _ p hp;simp at hp
 |cons x l ih=>
  intro m hm p hp
  cases m with
  |nil=>simp at hp
  |cons y m=>
   rw[List.map_cons,List.map_cons,List.cons.injEq]at hm
   rw[List.zip_cons_cons]at hp
   rcases List.mem_cons.1 hp with rfl|hp
   ·exact hm.1
   ·exact ih m hm.2 p hp
inductive Tc (cl:Nat->Nd) (rt:Nat->Nat):Nat->Tm->Prop
 |var {c:Nat}:(cl (rt c)).nm=[]->Tc cl rt c (bg (cl (rt c)).num)
 |fn {c:Nat} {ts:List Tm}:(cl (rt c)).nm≠[]->ts.length=(cl (rt c)).ks.length->(∀(k:Nat) (x:Nat) (t:Tm),(cl (rt c)).ks[k]?=some x->ts[k]?=some t->Tc cl rt x t)->Tc cl rt c (.mk (cl (rt c)).nm 0 ts)
theorem Tc.nF {d:Nat->Tm} {g:Int->Tm} (hd:Dn cl d) (h:kE d rt g) {c:Nat} {t:Tm} (k:Tc cl rt c t):al g t=al g (d c):=by
 induction k with
 |@var c hv=>rw[h c,hd (rt c),if_pos hv]
 |@fn c ts hn hl _ ih=>
  rw[h c,hd.fn hn g,al,if_neg hn,kH,Tm.mk.injEq]
  refine⟨rfl,rfl,?_⟩
  refine List.ext_getElem? fun i=>?_
  rw[List.getElem?_map,List.getElem?_map]
  rcases Nat.lt_or_ge i ts.length with hi|hi
  ·have U:ts[i]?=some ts[i]:=List.getElem?_eq_getElem hi
   have h2:(cl (rt c)).ks[i]?=some (cl (rt c)).ks[i]:=List.getElem?_eq_getElem (by omega)
   rw[U,h2]
   simp only[Option.map_some]
   rw[ih i _ _ h2 U]
  ·rw[List.getElem?_eq_none hi,List.getElem?_eq_none (by omega)];rfl
theorem Tc.lf {c:Nat} {t:Tm} (k:Tc cl rt c t):Lf t:=by
 induction k with
 |var _=>exact AT _
 |@fn c ts hn hl _ ih=>
  refine⟨_,fun h=>absurd h hn,fun _=>rfl,fun a ha=>?_⟩
  obtain⟨i,hi,e⟩:=List.getElem_of_mem ha
  have wc:i<ts.length:=hi
  have U:ts[i]?=some a:=by rw[List.getElem?_eq_getElem wc,<-e];rfl
  exact ih i _ a (List.getElem?_eq_getElem (by omega)) U
theorem Tc.root {c c':Nat} {t:Tm} (k:Tc cl rt c t) (h:Good cl rt D) (e:rt c=rt c'):Tc cl rt c' t:=by
 cases k with
 |var hv=>rw[e]at hv⊢;exact .var hv
 |fn hn hl hk=>rw[e]at hn hl hk⊢;exact .fn hn hl hk
theorem Tc.yr {c:Nat} {t:Tm} (k:Tc cl rt c t):∀{u:Tm},Tc cl rt c u->t=u:=by
 induction k with
 |@var c hv=>
  intro u hu
  cases hu with
  |var _=>rfl
  |fn hn _ _=>exact absurd hv hn
 |@fn c ts hn hl _ ih=>
  intro u hu
  cases hu with
  |var hv=>exact absurd hv hn
  |@fn _ us _ rX lL=>
   rw[Tm.mk.injEq]
   refine⟨rfl,rfl,List.ext_getElem? fun i=>?_⟩
   rcases Nat.lt_or_ge i ts.length with hi|hi
   ·have U:ts[i]?=some ts[i]:=List.getElem?_eq_getElem hi
    have h2:us[i]?=some us[i]:=List.getElem?_eq_getElem (by omega)
    have h3:(cl (rt c)).ks[i]?=some (cl (rt c)).ks[i]:=List.getElem?_eq_getElem (by omega)
    rw[U,h2,ih i _ _ h3 U (lL i _ _ h3 h2)]
   ·rw[List.getElem?_eq_none hi,List.getElem?_eq_none (by omega)]
end Go.Proofs.YtpfohmboflcneaaGreatDoor
end
section
namespace Go.Proofs.YtpfohmboflcneaaGreatDoor
open Go Go.AL Go.RowKit
set_option maxRecDepth 10000
set_option maxHeartbeats 4000000
abbrev Bi (b:Bool):IV:= .v (.bool b)
abbrev pI (l:Lt):List IV:=[Bi l.ng,Si l.pd,.sl 3 (az l.xs)]
abbrev Dg (l:Lt):IV:= .pt (pI l)
abbrev nB (l:Lt):AV:= .agg [Bv l.ng,Sv l.pd,.im (.sl 3 (az l.xs))]
def cD (c:List Lt):List (List IV):=c.map pI
abbrev b6 (c:List Lt):AV:= .im (.sl 3 (cD c))
theorem bn (l:List Lt):(cD l).length=l.length:=by rw[cD,List.length_map]
theorem oC (l:List Lt) (k:Nat) (h:k<l.length):∃t,l[k]?=some t/\(cD l).getD k []=[Bi t.ng,Si t.pd,.sl 3 (az t.xs)]:=by
 refine⟨l[k],List.getElem?_eq_getElem h,?_⟩
 rw[List.getD_eq_getElem?_getD,cD,List.getElem?_map,List.getElem?_eq_getElem h];rfl
theorem Dh (l:List Lt) (w:Lt):cD (l++[w])=cD l++[pI w]:=by
 rw[cD,List.map_append];rfl
def oB (l:Lt):Prop:=l.pd.length<=1000000000/\l.xs.length<=1000000000/\bI l.xs
def ft (c:List Lt):Prop:=c.length<=1000000000/\∀l∈c,oB l
theorem tx {c:List Lt} {k:Nat} {l:Lt} (h:ft c) (hk:c[k]?=some l):oB l:=h.2 l (List.mem_of_getElem? hk)
def gQ {α:Type} (p:α->α->Bool):List α->List α->Bool
 |[],[]=>true
 |a::l,b::m=>p a b&&gQ p l m
 |_,_=>false
theorem Es {α:Type} (p:α->α->Bool):∀(l m:List α),l.length≠m.length->gQ p l m=false
 |[],[],h=>by simp at h
 |[],_::_,_=>rfl
 |_::_,[],_=>rfl
 |a::l,b::m,h=>by rw[gQ,Es p l m (by simpa using h),Bool.and_false]
theorem JN {α:Type} (p:α->α->Bool) (l m:List α) (k:Nat) (t u:α) (ht:l[k]?=some t) (hu:m[k]?=some u):gQ p (l.drop k) (m.drop k)=(p t u&&gQ p (l.drop (k+1)) (m.drop (k+1))):=by
 obtain⟨U,e1⟩:=List.getElem?_eq_some_iff.1 ht
 obtain⟨h2,e2⟩:=List.getElem?_eq_some_iff.1 hu
 rw[List.drop_eq_getElem_cons U,List.drop_eq_getElem_cons h2,e1,e2,gQ]
theorem E5:∀l m:List Tm,mc l m=gQ d_ l m
 |[],[]=>by rw[mc,gQ]
 |[],_::_=>by rw[mc,gQ]<;>simp
 |_::_,[]=>by rw[mc,gQ]<;>simp
 |a::l,b::m=>by rw[mc,gQ,E5 l m]
theorem K7 (t u:Tm):d_ t u=((t.nm==u.nm&&t.ix==u.ix)&&gQ d_ t.xs u.xs):=by cases t;rw[d_,E5];rfl
theorem DR (t v:Tm) (hs:aR t):bh Tryz.prog 39 [bf t,bf v] (Bv (d_ t v)):=by
 have eW:=ji.1 hs
 have he:=K7 t v
 refine ao.walk [0,1,2,3,4,5,26,31,45] [] Tryz.func39 rfl Tryz.ntmps39 (by kernel_rfl) (by rfl) rfl fun W own I0 aq lay=>?_
 refine gE @aw ?_
 refine AP.cond rfl rfl (fun h=>?_) (fun h=>?_)
 ·have:d_ t v=false:=by
   rw[he]
   by_cases hl:t.xs.length=v.xs.length
   ·have:(t.nm==v.nm&&t.ix==v.ix)=false:=by
     by_cases hA:t.nm=v.nm
     ·by_cases hB:t.ix=v.ix
      ·simp[hA,hB,hl]at h
      ·simp[hB]
     ·simp[hA]
    rw[this,Bool.false_and]
   ·rw[Es d_ _ _ hl,Bool.and_false]
  refine gO ?_
  exact AE.bz rfl ⟨rfl,trivial⟩ rfl ⟨rfl,by rw[this];rfl⟩
 have hA:t.nm=v.nm:=Classical.byContradiction fun hc=>by simp[hc]at h
 have hB:t.ix=v.ix:=Classical.byContradiction fun hc=>by simp[hc]at h
 have hl:t.xs.length=v.xs.length:=Classical.byContradiction fun hc=>by simp[hA,hB]at h;omega
 have he:d_ t v=gQ d_ t.xs v.xs:=by rw[he,hA,hB];simp
 refine gO ?_
 refine AP.loop rfl (α:=Nat) (fun k=>[(2,.im (xq t)),(3,.im (xq v)),(5,Iv k)]) (fun _=>[]) (fun k=>k<=t.xs.length/\d_ t v=gQ d_ (t.xs.drop k) (v.xs.drop k)) (fun k=>t.xs.length-k) 0 ⟨by omega,he⟩ (sU) rfl fun k ⟨hk,hm⟩=>?_
 rcases Nat.eq_or_lt_of_le hk with aM|ag
 ·rw[aM,List.drop_length,hl,List.drop_length,gQ]at hm
  refine gE @aw ?_
  refine cF ?_
  refine gO ?_
  exact AE.bz rfl ⟨rfl,trivial⟩ rfl ⟨rfl,by rw[hm];rfl⟩
 ·obtain⟨u,hu,aX⟩:=fo t.xs k ag
  obtain⟨w,cL,jd⟩:=fo v.xs k (by omega)
  rw[JN d_ t.xs v.xs k u w hu cL]at hm
  have hw:=wr (x:=(k:Int)+1) (by omega)
  refine gE @aw ?_
  refine cT ?_
  refine gO ?_
  refine AP.db 12 (Tree.node [] [0,1,2,3,4,5,6,7,8,9] [10] [Tree.node [] [11] [] []]) (by kernel_rfl) rfl (by kernel_rfl) (by kernel_rfl) ?_
  refine c_ ?_
  refine sE (an @aX (an @jd @aw)) ?_
  refine⟨by omega,by omega,?_⟩
  refine AQ.fn (by kernel_rfl) rfl rfl rfl (DR u w (gl eW.2.2 hu)) rfl ?_
  refine sI ?_
  refine AQ.nx rfl ?_
  refine sI ?_
  refine AQ.done ?_
  refine gO ?_
  refine AP.cond rfl rfl (fun h5=>?_) (fun h5=>?_)
  ·have h5:d_ u w=false:=by simpa using h5
   rw[h5,Bool.false_and]at hm
   refine gO ?_
   exact AE.bz rfl ⟨rfl,trivial⟩ rfl ⟨rfl,by rw[hm];rfl⟩
  ·have h5:d_ u w=true:=by simpa using h5
   rw[h5,Bool.true_and]at hm
   refine gE @hw ?_
   exact AE.round (k+1) ⟨by omega,hm⟩ (by omega) (sU) rfl
termination_by SizeOf.sizeOf t
decreasing_by exact lX hu
theorem Z2 (t v:Lt):jH t v=((t.ng==v.ng&&t.pd==v.pd)&&gQ d_ t.xs v.xs):=by rw[jH,E5]
theorem K9 (f:FuncId) (p:Tm->Tm->Bool) (xs ys:List Tm) (hx:xs.length<=9223372036854775807) (h:∀(k:Nat) (t u:Tm),xs[k]?=some t->ys[k]?=some u->bh Tryz.prog f [bf t,bf u] (Bv (p t u))):
  bh Tryz.prog 163 [.im (.sl 3 (az xs)),.im (.sl 3 (az ys)),.fn f [] []] (Bv (gQ p xs ys)):=by
 refine ao.walk [0,1,2,6,7,8,9,14,15,16,17,18,30] [8,9] Tryz.func163 rfl Tryz.ntmps163 (by kernel_rfl) (by rfl) rfl fun W own I0 aq lay=>?_
 refine gE @aw ?_
 refine AP.cond rfl rfl (fun U=>?_) (fun U=>?_)
 ·refine gO ?_
  exact AE.bz rfl ⟨rfl,trivial⟩ rfl ⟨rfl,by rw[Es p xs ys (by simp at U;omega)];rfl⟩
 ·have U:xs.length=ys.length:=by simp at U;omega
  refine gE @aw ?_
  refine AP.loop rfl (α:=Nat) (fun k=>[(1,.im (.sl 3 (az ys))),(2,.fn f [] []),(15,.im (.sl 3 (az xs))),(16,Iv xs.length),(17,Iv k)]) (fun _=>[]) (fun k=>k<=xs.length/\gQ p xs ys=gQ p (xs.drop k) (ys.drop k)) (fun k=>xs.length-k) 0 ⟨by omega,rfl⟩ (sU) rfl fun k ⟨hk,hm⟩=>?_
  rcases Nat.eq_or_lt_of_le hk with aM|ag
  ·refine gO ?_
   refine cF ?_
   refine gO ?_
   exact AE.bz rfl ⟨rfl,trivial⟩ rfl ⟨rfl,by rw[hm,aM,List.drop_length,U,List.drop_length,gQ];rfl⟩
  ·obtain⟨t,ht,aX⟩:=fo xs k ag
   obtain⟨u,hu,jd⟩:=fo ys k (by omega)
   have fZ:=JN p xs ys k t u ht hu
   have hw:=wr (x:=(k:Int)+1) (by omega)
   refine gO ?_
   refine cT ?_
   refine gE @aX ?_
   refine⟨by rw[aw];omega,?_⟩
   refine gE @jd ?_
   refine⟨by rw[aw];omega,?_⟩
   refine gO ?_
   refine AQ.Bo [] (by kernel_rfl) rfl rfl rfl rfl rfl rfl (fun k=>by exact trivial) (fun k=>rfl) (fun k=>rfl) (h k t u ht hu) ?_
   refine gO ?_
   refine AP.cond rfl rfl (fun h2=>?_) (fun h2=>?_)
   ·refine gO ?_
    refine AE.bm [1,0] rfl ⟨rfl,trivial⟩ rfl ⟨rfl,?_⟩
    rw[hm,fZ,show p t u=false by simpa using h2];rfl
   ·refine gE @hw ?_
    refine AE.eJ [1,0] rfl ?_
    refine sI ?_
    exact AE.round (k+1) ⟨by omega,by rw[hm,fZ,show p t u=true by simpa using h2,Bool.true_and]⟩ (by omega) (sU) rfl
theorem BI (t u:Tm) (hs:aR t):bh Tryz.prog 97 [bf t,bf u] (Bv (d_ t u)):=by
 have eW:=ji.1 hs
 have hc:=K9 97 d_ t.xs u.xs (by omega) fun k a b ha hb=>BI a b (gl eW.2.2 ha)
 refine ao.walk [0,1,2,3,4] [] Tryz.func97 rfl Tryz.ntmps97 (by kernel_rfl) (by rfl) rfl fun W own I0 aq lay=>?_
 refine gO ?_
 refine AQ.rK (by kernel_rfl) rfl rfl (fun h=>by first|(simp[gs,AV.g];done)|(simp[gs,AV.g,cn];done)|(simp[gs,AV.g,cn,bw]at h⊢;done)|(simp[gs,AV.g,cn,bw]at h⊢;exact h)|(simp[gs,AV.g,cn,bw]at h⊢;simp[h];done)|(simp[bw]at h;done)|(simp[gs,AV.g,bw]at h⊢;simp[h];done)|(simp[gs,AV.g,bw]at h⊢;exact h.1)|(simp[gs,AV.g];rfl)|(simp[gs,AV.g,bw]at h⊢;rfl)|(simp[gs,AV.g,bw]at h⊢;simp[h];rfl)|(simp[gs,AV.g,bw]at h⊢;simp_all)) rfl (fun _=>hc) rfl ?_
 refine gO ?_
 exact AE.bz rfl ⟨rfl,trivial⟩ rfl ⟨rfl,by rw[K7];rfl⟩
termination_by SizeOf.sizeOf t
decreasing_by exact lX ha
theorem Z3 (t u:Lt) (hs:oB t):bh Tryz.prog 89 [nB t,nB u] (Bv (jH t u)):=by
 have hx:=hs.2.1
 have hc:=K9 97 d_ t.xs u.xs (by omega) fun k a b ha hb=>BI a b (gl hs.2.2 ha)
 refine ao.walk [0,1,2,3,4] [] Tryz.func89 rfl Tryz.ntmps89 (by kernel_rfl) (by rfl) rfl fun W own I0 aq lay=>?_
 refine gO ?_
 refine AQ.rK (by kernel_rfl) rfl rfl (fun h=>by first|(simp[gs,AV.g];done)|(simp[gs,AV.g,cn];done)|(simp[gs,AV.g,cn,bw]at h⊢;done)|(simp[gs,AV.g,cn,bw]at h⊢;exact h)|(simp[gs,AV.g,cn,bw]at h⊢;simp[h];done)|(simp[bw]at h;done)|(simp[gs,AV.g,bw]at h⊢;simp[h];done)|(simp[gs,AV.g,bw]at h⊢;exact h.1)|(simp[gs,AV.g];rfl)|(simp[gs,AV.g,bw]at h⊢;rfl)|(simp[gs,AV.g,bw]at h⊢;simp[h];rfl)|(simp[gs,AV.g,bw]at h⊢;simp_all)) rfl (fun _=>hc) rfl ?_
 refine gO ?_
 exact AE.bz rfl ⟨rfl,trivial⟩ rfl ⟨rfl,by rw[Z2];rfl⟩
mutual
def lq:Tm->Int->Int
 | .mk _ _ xs,m=>b5 xs m 1
def b5:List Tm->Int->Int->Int
 |[],_,n=>n
 |t::l,m,n=>if m<n then n else b5 l m (n+lq t (m-n))
end
theorem QP (t:Tm) (m:Int):lq t m=b5 t.xs m 1:=by cases t;rw[lq];rfl
theorem Av:∀(l:List Tm) (m n:Int),m<n->b5 l m n=n
 |[],m,n,_=>by rw[b5]
 |t::l,m,n,h=>by rw[b5,if_pos h]
theorem xp:∀(l k:List Tm) (m n:Int),b5 (l++k) m n=b5 k m (b5 l m n)
 |[],k,m,n=>by rw[List.nil_append,b5]
 |t::l,k,m,n=>by
  rw[List.cons_append,b5,b5]
  split
  ·rename_i h;rw[Av k m n h]
  ·exact xp l k m _
mutual
theorem Au:∀(t:Tm) (m:Int),0<=m->((wT t:Int)<=m->lq t m=wT t)/\(m<wT t->m<lq t m)/\1<=lq t m/\lq t m<=m+1
 | .mk _ _ xs,m,hm=>by
  have h:=DZ xs m 1 hm (by omega) (by omega)
  rw[lq,wT]
  exact⟨fun hh=>by rw[h.1 (by omega)];omega,fun hh=>h.2.1 (by omega),h.2.2.1,h.2.2.2⟩
theorem DZ:∀(l:List Tm) (m n:Int),0<=m->1<=n->n<=m+1->(n+(aK l:Int)<=m->b5 l m n=n+aK l)/\(m<n+aK l->m<b5 l m n)/\1<=b5 l m n/\b5 l m n<=m+1
 |[],m,n,hm,U,h2=>by
  rw[b5,aK]
  exact⟨fun _=>by omega,fun h=>by omega,U,h2⟩
 |t::l,m,n,hm,U,h2=>by
  rw[b5,aK]
  have hp:=u9 t
  split
  ·rename_i h
   exact⟨fun hh=>by omega,fun _=>h,U,h2⟩
  ·rename_i h
   obtain⟨a1,a2,a3,a4⟩:=Au t (m-n) (by omega)
   obtain⟨b1,b2,b3,b4⟩:=DZ l m (n+lq t (m-n)) hm (by omega) (by omega)
   refine⟨fun hh=>?_,fun hh=>?_,b3,b4⟩
   ·rw[b1 (by rw[a1 (by omega)];omega),a1 (by omega)];omega
   ·by_cases hc:m-n<wT t
    ·have:=a2 hc
     rw[Av l m _ (by omega)];omega
    ·exact b2 (by rw[a1 (by omega)];omega)
end
def sL (c:List Lt) (m:Int):Int:=b5 (c.flatMap (·.xs)) m c.length
theorem Rv:∀l k:List Tm,aK (l++k)=aK l+aK k
 |[],k=>by rw[List.nil_append,aK];omega
 |t::l,k=>by rw[List.cons_append,aK,aK,Rv l k];omega
theorem Dl:∀c:List Lt,b8 c=c.length+aK (c.flatMap (·.xs))
 |[]=>by rw[List.flatMap_nil,aK];rfl
 |l::c=>by rw[nC,List.flatMap_cons,Rv,List.length_cons,Dl c];omega
theorem YH (c:List Lt) (m:Int) (hm:0<=m):((b8 c:Int)<=m->sL c m=b8 c)/\(m<b8 c->m<sL c m):=by
 rw[sL,Dl]
 by_cases h:m<c.length
 ·rw[Av _ _ _ h]
  exact⟨fun hh=>by omega,fun _=>h⟩
 ·by_cases h0:c.length=0
  ·rw[List.length_eq_zero_iff.1 h0,List.flatMap_nil,b5,aK]
   exact⟨fun _=>rfl,fun hh=>by simpa using hh⟩
  ·obtain⟨a,b,_⟩:=DZ (c.flatMap (·.xs)) m c.length hm (by omega) (by omega)
   exact⟨fun hh=>by rw[a (by omega)];omega,fun hh=>b (by omega)⟩
theorem QQ {l:List Tm} {k:Nat} {u:Tm} (h:l[k]?=some u) (m n:Int):b5 (l.take (k+1)) m n=if m<b5 (l.take k) m n then b5 (l.take k) m n else b5 (l.take k) m n+lq u (m-b5 (l.take k) m n):=by
 rw[dX h,xp,b5]
 split
 ·rfl
 ·rw[b5]
theorem aaA {l:List Tm} (k:Nat) (m n:Int) (h:m<b5 (l.take k) m n):b5 l m n=b5 (l.take k) m n:=by
 conv=>lhs;rw[<-List.take_append_drop k l,xp]
 exact Av _ _ _ h
theorem IU:∀(l:List Tm) (m n:Int),0<=m->0<=n->n<=b5 l m n/\(b5 l m n<=n\/b5 l m n<=m+1)
 |[],m,n,_,_=>by rw[b5];omega
 |t::l,m,n,hm,h=>by
  rw[b5]
  split
  ·omega
  ·have ha:=Au t (m-n) (by omega)
   have hb:=IU l m (n+lq t (m-n)) hm (by omega)
   omega
theorem T4 {c:List Lt} {k:Nat} {u:Lt} (h:c[k]?=some u):(c.take (k+1)).flatMap (·.xs)=(c.take k).flatMap (·.xs)++u.xs:=by
 rw[dX h,List.flatMap_append];simp
theorem T3 {c:List Lt} {k j:Nat} {u:Lt} (h:c[k]?=some u) (m n:Int) (hn:m<b5 (u.xs.take j) m (b5 ((c.take k).flatMap (·.xs)) m n)):
  b5 (c.flatMap (·.xs)) m n=b5 (u.xs.take j) m (b5 ((c.take k).flatMap (·.xs)) m n):=by
 have e:c.flatMap (·.xs)=(c.take k).flatMap (·.xs)++(u.xs.take j++(u.xs.drop j++(c.drop (k+1)).flatMap (·.xs))):=by
  have U:c=c.take k++(u::c.drop (k+1)):=by
   obtain⟨U,h2⟩:=List.getElem?_eq_some_iff.1 h
   rw[<-h2,<-List.drop_eq_getElem_cons U,List.take_append_drop]
  conv=>lhs;rw[U]
  rw[List.flatMap_append,List.flatMap_cons,<-List.append_assoc (u.xs.take j),List.take_append_drop]
 rw[e,xp,xp]
 exact Av _ _ _ hn
def iN {α:Type} (p:α->Bool):List α->Nat->Int
 |[],_=>-1
 |a::l,i=>if p a then i else iN p l (i+1)
theorem C1 {α:Type} (p:α->Bool):∀(l:List α) (i:Nat),decide (0<=iN p l i)=l.any p
 |[],i=>by rw[iN];rfl
 |a::l,i=>by
  rw[iN,List.any_cons]
  by_cases h:p a=true
  ·rw[if_pos h,h,Bool.true_or];exact decide_eq_true (by omega)
  ·rw[if_neg h,C1 p l (i+1),show p a=false by simpa using h,Bool.false_or]
theorem Hi {α:Type} (p:α->Bool) {l:List α} {k:Nat} {u:α} (h:l[k]?=some u):iN p (l.drop k) k=if p u then(k:Int)else iN p (l.drop (k+1)) (k+1):=by
 obtain⟨U,h2⟩:=List.getElem?_eq_some_iff.1 h
 rw[List.drop_eq_getElem_cons U,h2,iN]
mutual
def jE:Tm->Bool
 | .mk n _ xs=>decide (100<n.length)||wN xs
def wN:List Tm->Bool
 |[]=>false
 |t::l=>jE t||wN l
end
theorem Hy:∀l,wN l=l.any jE
 |[]=>rfl
 |t::l=>by rw[wN,Hy l,List.any_cons]
theorem Yd (t:Tm):jE t=(decide (100<t.nm.length)||t.xs.any jE):=by cases t;rw[jE,Hy];rfl
def ke (l:Lt):Bool:=decide (100<l.pd.length)||l.xs.any jE
abbrev gg:aa:=[(0,.var 116 [.fn 67 [] [.ob 0 0]])]
abbrev Uv (c:UInt8):AV:= .im (.v (.int .u8 c.toNat))
theorem Xy (c:UInt8) (b:Bool):mz c b=((decide ((97:Int)<=c.toNat)&&decide ((c.toNat:Int)<=122)||decide ((65:Int)<=c.toNat)&&decide ((c.toNat:Int)<=90))||(!b&&((decide ((48:Int)<=c.toNat)&&decide ((c.toNat:Int)<=57)||decide ((c.toNat:Int)=95))||decide ((c.toNat:Int)=39)))):=by
 have U:(c==95)=decide ((c.toNat:Int)=95):=by
  rw[Bool.eq_iff_iff,beq_iff_eq,decide_eq_true_iff,<-UInt8.toNat_inj];show c.toNat=95↔_;omega
 have h2:(c==39)=decide ((c.toNat:Int)=39):=by
  rw[Bool.eq_iff_iff,beq_iff_eq,decide_eq_true_iff,<-UInt8.toNat_inj];show c.toNat=39↔_;omega
 have e:∀a d:Nat,decide (a<=d)=decide ((a:Int)<=(d:Int)):=fun a d=>by rw[decide_eq_decide];omega
 rw[mz,U,h2,e,e,e,e,e,e];rfl
theorem NV (c:UInt8) (b:Bool):bh Tryz.prog 148 [Uv c,Bv b] (Bv (mz c b)):=by
 refine ao.walk [0,1,4,5] [] Tryz.func148 rfl Tryz.ntmps148 (by kernel_rfl) (by rfl) rfl fun W own I0 aq lay=>?_
 refine gO ?_
 exact AE.bz rfl ⟨rfl,trivial⟩ rfl ⟨rfl,by rw[Xy];rfl⟩
theorem YJ {t:List UInt8} {k:Nat} (h:k<t.length) (b:Bool):sP b (t.drop k)=(mz (t.getD k 0) b&&sP false (t.drop (k+1))):=by
 rw[List.drop_eq_getElem_cons h,sP,List.getD_eq_getElem?_getD,List.getElem?_eq_getElem h];rfl
theorem YK {t:List UInt8} (h:¬(t=[]\/60<t.length)):fI t=sP true t:=by
 have U:t≠[]:=fun e=>h (.inl e)
 have h2:t.length<=60:=by have:=fun e=>h (.inr e);omega
 rw[fI,decide_eq_true U,decide_eq_true h2];rfl
theorem YL {t:List UInt8} (h:t=[]\/60<t.length):fI t=false:=by
 rw[fI]
 rcases h with rfl|h
 ·rfl
 ·rw[show decide (t.length<=60)=false from decide_eq_false (by omega),Bool.and_false];rfl
theorem N1 (t:List UInt8) (ht:t.length<=9223372036854775807):bh Tryz.prog 72 [Sv t] (Bv (fI t)):=by
 refine ao.walk [0,2,3,10,12,13,14,22] [] Tryz.func72 rfl Tryz.ntmps72 (by kernel_rfl) (by rfl) rfl fun W own I0 aq lay=>?_
 refine gO ?_
 refine AP.cond rfl rfl (fun h=>?_) (fun h=>?_)
 ·have h:t=[]\/60<t.length:=by
   simp at h;rcases h with h|h
   ·exact .inl h
   ·exact .inr (by omega)
  refine gO ?_
  exact AE.bz rfl ⟨rfl,trivial⟩ rfl ⟨rfl,by rw[YL h];rfl⟩
 ·have h:¬(t=[]\/60<t.length):=by
   intro h';simp at h;rcases h' with h'|h'
   ·exact h.1 h'
   ·omega
  have jv:=YK h
  refine gO ?_
  refine AP.loop rfl (α:=Nat) (fun k=>[(0,Sv t),(12,Iv t.length),(13,Iv k)]) (fun _=>[]) (fun k=>k<=t.length/\fI t=sP (decide (k=0)) (t.drop k)) (fun k=>t.length-k) 0 ⟨by omega,jv⟩ (sU) rfl fun k ⟨hk,hm⟩=>?_
  rcases Nat.eq_or_lt_of_le hk with aM|ag
  ·refine gO ?_
   refine cF ?_
   refine gO ?_
   exact AE.bz rfl ⟨rfl,trivial⟩ rfl ⟨rfl,by rw[hm,aM,List.drop_length,sP];rfl⟩
  ·have hw:=wr (x:=(k:Int)+1) (by omega)
   have fZ:=YJ ag (decide (k=0))
   refine gO ?_
   refine cT ?_
   refine gO ?_
   refine AQ.fn (by kernel_rfl) rfl rfl rfl (NV (t.getD k 0) (decide ((k:Int)=0))) rfl ?_
   refine sI ?_
   refine gO ?_
   have hd:decide (k=0)=decide ((k:Int)=0):=by rw[decide_eq_decide];omega
   rw[hd]at fZ
   refine AP.cond rfl rfl (fun U=>?_) (fun U=>?_)
   ·refine gO ?_
    exact AE.bz rfl ⟨rfl,trivial⟩ rfl ⟨rfl,by rw[hm,hd,fZ,show mz (t.getD k 0) (decide ((k:Int)=0))=false by simpa using U];rfl⟩
   ·refine gE @hw ?_
    refine AE.round (k+1) ⟨by omega,?_⟩ (by omega) (sU) rfl
    rw[hm,hd,fZ,show mz (t.getD k 0) (decide ((k:Int)=0))=true by simpa using U];rfl
theorem Lw (t:Tm) (hs:aR t):bh Tryz.prog 74 [bf t] (Iv (ew 2 3 t)):=by
 have eW:=ji.1 hs
 refine ao.walk [0,1,2,3,10,18,19] [] Tryz.func74 rfl Tryz.ntmps74 (by kernel_rfl) (by rfl) rfl fun W own I0 aq lay=>?_
 refine gO ?_
 refine AP.cond rfl rfl (fun h=>?_) (fun h=>?_)
 ·have hn:t.nm=[]:=by simpa using h
  refine gE @aw ?_
  refine AP.cond rfl rfl (fun U=>?_) (fun U=>?_)
  ·refine gO ?_
   exact AE.bz rfl ⟨rfl,trivial⟩ rfl ⟨rfl,by rw[ew,if_pos hn,if_pos (show t.xs≠[] by intro e;rw[e]at U;simp at U)];rfl⟩
  ·have hx:¬t.xs≠[]:=by simpa using U
   refine gO ?_
   refine AP.cond rfl rfl (fun h2=>?_) (fun h2=>?_)
   ·refine gO ?_
    exact AE.bz rfl ⟨rfl,trivial⟩ rfl ⟨rfl,by rw[ew,if_pos hn,if_neg hx,if_pos (by simpa using h2)];rfl⟩
   ·refine gO ?_
    exact AE.bz rfl ⟨rfl,trivial⟩ rfl ⟨rfl,by rw[ew,if_pos hn,if_neg hx,if_neg (by simpa using h2)];rfl⟩
 ·have hn:¬t.nm=[]:=by simpa using h
  refine gO ?_
  refine AQ.fn (by kernel_rfl) rfl rfl rfl (N1 t.nm (by omega)) rfl ?_
  refine sI ?_
  refine gO ?_
  refine AP.cond rfl rfl (fun U=>?_) (fun U=>?_)
  ·refine gO ?_
   exact AE.bz rfl ⟨rfl,trivial⟩ rfl ⟨rfl,by rw[ew,if_neg hn,if_pos (by simpa using U)];rfl⟩
  ·refine gO ?_
   exact AE.bz rfl ⟨rfl,trivial⟩ rfl ⟨rfl,by rw[ew,if_neg hn,if_neg (by simpa using U)];rfl⟩
mutual
def kn:Tm->Int->Int×Int->Int×Int
 | .mk _ _ xs,k,s=>dQ xs (k+1) (s.1+1,max s.2 k)
def dQ:List Tm->Int->Int×Int->Int×Int
 |[],_,s=>s
 |t::l,k,s=>if 4000<s.1 then s else dQ l k (kn t k s)
end
theorem QD (t:Tm) (k:Int) (s:Int×Int):kn t k s=dQ t.xs (k+1) (s.1+1,max s.2 k):=by cases t;rw[kn];rfl
theorem QF:∀(l:List Tm) (k:Int) (s:Int×Int),4000<s.1->dQ l k s=s
 |[],_,_,_=>by rw[dQ]
 |t::l,k,s,h=>by rw[dQ,if_pos h]
theorem IT:∀(l m:List Tm) (k:Int) (s:Int×Int),dQ (l++m) k s=dQ m k (dQ l k s)
 |[],m,k,s=>by rw[List.nil_append,dQ]
 |t::l,m,k,s=>by
  rw[List.cons_append,dQ,dQ]
  split
  ·rename_i h;rw[QF m k s h]
  ·exact IT l m k _
mutual
theorem xm:∀(t:Tm) (k n d:Int),n+wT t<=4000->kn t k (n,d)=(n+wT t,max d (k-1+cd t))
 | .mk _ _ xs,k,n,d,h=>by
  rw[wT]at h
  rw[kn,wT,cd]
  simp only
  rw[QE xs (k+1) (n+1) (max d k) (by omega) (by omega),Prod.mk.injEq]
  omega
theorem QE:∀(l:List Tm) (k n d:Int),k-1<=d->n+aK l<=4000->dQ l k (n,d)=(n+aK l,max d (k-1+dj l))
 |[],k,n,d,hd,_=>by rw[dQ,aK,dj,Prod.mk.injEq];omega
 |t::l,k,n,d,hd,h=>by
  rw[aK]at h
  rw[dQ,if_neg (by simp only;omega),xm t k n d (by omega),QE l k _ _ (by omega) (by omega),aK,dj,Prod.mk.injEq]
  omega
end
mutual
theorem QC:∀(t:Tm) (k n d:Int),n+1<=(kn t k (n,d)).1/\(kn t k (n,d)).1<=max (n+1) 4001/\(4000<n+wT t->4000<(kn t k (n,d)).1)
 | .mk _ _ xs,k,n,d=>by
  have h:=IS xs (k+1) (n+1) (max d k)
  rw[kn,wT]
  simp only
  omega
theorem IS:∀(l:List Tm) (k n d:Int),n<=(dQ l k (n,d)).1/\(dQ l k (n,d)).1<=max n 4001/\(4000<n+aK l->4000<(dQ l k (n,d)).1)
 |[],k,n,d=>by rw[dQ,aK];simp only;omega
 |t::l,k,n,d=>by
  rw[dQ]
  by_cases h:4000<(n,d).1
  ·rw[if_pos h];simp only at h⊢;omega
  ·rw[if_neg h,aK]
   simp only at h
   have U:=QC t k n d
   obtain⟨n1,d1,he⟩:∃n1 d1,kn t k (n,d)=(n1,d1):=⟨_,_,rfl⟩
   have h2:=IS l k n1 d1
   rw[he]
   have h3:n+wT t<=4000->n1=n+wT t:=fun hh=>by
    have:=xm t k n d hh
    rw[he,Prod.mk.injEq]at this;exact this.1
   rw[he]at U
   simp only at U
   by_cases hc:n+wT t<=4000
   ·have:=h3 hc;omega
   ·omega
end
theorem aap {l:List Tm} {k:Nat} {u:Tm} (h:l[k]?=some u) (m:Int) (s:Int×Int):dQ (l.take (k+1)) m s=if 4000<(dQ (l.take k) m s).1 then dQ (l.take k) m s else kn u m (dQ (l.take k) m s):=by
 rw[dX h,IT,dQ]
 split
 ·rfl
 ·rw[dQ]
theorem aao {l:List Tm} (k:Nat) (m:Int) (s:Int×Int) (h:4000<(dQ (l.take k) m s).1):dQ l m s=dQ (l.take k) m s:=by
 conv=>lhs;rw[<-List.take_append_drop k l,IT]
 exact QF _ _ _ h
abbrev q9 (s:Int×Int):aa:=[(0,.var 164 [Iv s.1,Iv s.2])]
theorem IP (t:Tm) (k n d:Int) (hs:aR t) (hn:0<=n/\n<=1000000000000) (hk:0<=k/\k<=n+1):
  ao Tryz.prog 147 [.ob 0 0,bf t,Iv k] (q9 (n,d)) (fun r H'=>r= .aG []/\H'=q9 (kn t k (n,d))):=by
 have eW:=ji.1 hs
 have hx:=eW.2.1
 have G1:=wr (x:=n+1) (by omega)
 have zI:=wr (x:=k+1) (by omega)
 refine ao.walk [0,1,2,4,7,25,26,27,28,35] [7] Tryz.func147 rfl Tryz.ntmps147 (by kernel_rfl) (by rfl) rfl fun W own I0 aq lay=>?_
 refine gE (an @G1 @aw) ?_
 refine AP.loop rfl (α:=Nat) (fun j=>[(0,.ob 0 0),(2,Iv k),(25,.im (.sl 3 (az t.xs))),(26,Iv t.xs.length),(27,Iv j)]) (fun j=>q9 (dQ (t.xs.take j) (k+1) (n+1,max d k))) (fun j=>j<=t.xs.length) (fun j=>t.xs.length-j) 0 (by omega) (sU) (by rw[List.take_zero,dQ,show max d k=if d<k then k else d from by split<;>omega];rfl) fun j hj=>?_
 have hb:=IS (t.xs.take j) (k+1) (n+1) (max d k)
 rcases Nat.eq_or_lt_of_le hj with iG|ag
 ·subst iG
  rw[List.take_length]
  refine gO ?_
  refine cF ?_
  refine gO ?_
  exact AE.jQ rfl trivial ⟨rfl,by rw[QD]⟩
 ·obtain⟨u,hu,aX⟩:=fo t.xs j ag
  have hw:=wr (x:=(j:Int)+1) (by omega)
  have bP:=aap hu (k+1) (n+1,max d k)
  have GG:=fun h=>aao (l:=t.xs) j (k+1) (n+1,max d k) h
  obtain⟨n1,d1,he⟩:∃n1 d1,dQ (t.xs.take j) (k+1) (n+1,max d k)=(n1,d1):=⟨_,_,rfl⟩
  rw[he]at hb bP GG⊢
  simp only at hb bP GG
  simp only[go_sem,Nat.reduceAdd,Nat.reduceLeDiff,Nat.reduceSub,Int.reduceToNat,reduceCtorEq,q9]
  refine gO ?_
  refine cT ?_
  refine gE @aX ?_
  refine⟨by rw[aw];omega,?_⟩
  refine gO ?_
  refine AP.cond rfl rfl (fun U=>?_) (fun U=>?_)
  ·have U:4000<n1:=by simpa using U
   refine gO ?_
   refine AE.eJ [1] rfl ?_
   refine sI ?_
   exact AE.ret rfl ⟨⟩ ⟨rfl,by rw[QD,GG U]⟩
  ·have U:¬4000<n1:=by simpa using U
   rw[if_neg U]at bP
   refine gE @zI ?_
   refine AQ.bR [(0,0)] (by kernel_rfl) rfl rfl rfl rfl rfl rfl (by exact⟨rfl,trivial⟩) rfl (IP u (k+1) n1 d1 (gl eW.2.2 hu) (by omega) (by omega)) ?_
   rintro r H' ⟨rfl,rfl⟩
   refine⟨rfl,?_⟩
   simp only[go_sem,Nat.reduceAdd,Nat.reduceLeDiff,Nat.reduceSub,Int.reduceToNat,reduceCtorEq,q9,en,h_,cR,jD]
   refine gE @hw ?_
   refine AE.eJ [1] rfl ?_
   refine sI ?_
   exact AE.round (j+1) (by omega) (by omega) (sU) (by rw[bP])
termination_by SizeOf.sizeOf t
decreasing_by exact lX hu
def e6:List Tm->Int×Int->Int×Int
 |[],s=>s
 |t::l,s=>e6 l (kn t 1 s)
def fm:List Lt->Int×Int->Int×Int
 |[],s=>s
 |l::c,s=>fm c (e6 l.xs (s.1+1,s.2))
theorem Ov:∀(l m:List Tm) (s:Int×Int),e6 (l++m) s=e6 m (e6 l s)
 |[],m,s=>rfl
 |t::l,m,s=>by rw[List.cons_append,e6,e6,Ov l m]
theorem Oo:∀(c e:List Lt) (s:Int×Int),fm (c++e) s=fm e (fm c s)
 |[],e,s=>rfl
 |l::c,e,s=>by rw[List.cons_append,fm,fm,Oo c e]
theorem Ou:∀(l:List Tm) (n d:Int),0<=d->n+aK l<=4000->e6 l (n,d)=(n+aK l,max d (dj l))
 |[],n,d,h,_=>by rw[e6,aK,dj,Prod.mk.injEq];omega
 |t::l,n,d,hd,h=>by
  rw[aK]at h
  rw[e6,xm t 1 n d (by omega),Ou l _ _ (by omega) (by omega),aK,dj,Prod.mk.injEq];omega
theorem De:∀(l:List Tm) (n d:Int),n<=(e6 l (n,d)).1/\(e6 l (n,d)).1<=max n 4000+l.length/\(4000<n+aK l->4000<(e6 l (n,d)).1)
 |[],n,d=>by rw[e6,aK];simp only[List.length_nil];omega
 |t::l,n,d=>by
  have U:=QC t 1 n d
  obtain⟨n1,d1,he⟩:∃n1 d1,kn t 1 (n,d)=(n1,d1):=⟨_,_,rfl⟩
  have h2:=De l n1 d1
  have h3:n+wT t<=4000->n1=n+wT t:=fun hh=>by
   have:=xm t 1 n d hh
   rw[he,Prod.mk.injEq]at this;exact this.1
  rw[he]at U
  simp only at U
  rw[e6,he,aK,List.length_cons]
  by_cases hc:n+wT t<=4000
  ·have:=h3 hc;omega
  ·omega
theorem On:∀(c:List Lt) (n d:Int),0<=d->n+b8 c<=4000->fm c (n,d)=(n+b8 c,max d (fw c))
 |[],n,d,h,_=>by rw[fm,fw,Prod.mk.injEq];simp only[b8,List.map_nil,List.sum_nil];omega
 |l::c,n,d,hd,h=>by
  rw[nC]at h
  rw[fm]
  simp only
  rw[Ou l.xs (n+1) d hd (by omega),On c _ _ (by omega) (by omega),nC,fw,Prod.mk.injEq];omega
theorem Ot:∀(l:List Tm) (n d:Int),n+aK l<=4000->(e6 l (n,d)).1=n+aK l
 |[],n,d,_=>by rw[e6,aK];simp
 |t::l,n,d,h=>by
  rw[aK]at h
  rw[e6,xm t 1 n d (by omega),Ot l _ _ (by omega),aK];omega
theorem HK:∀(c:List Lt) (n d:Int),n<=(fm c (n,d)).1/\(4000<n+b8 c->4000<(fm c (n,d)).1)
 |[],n,d=>by rw[fm];simp only[b8,List.map_nil,List.sum_nil];omega
 |l::c,n,d=>by
  have U:=De l.xs (n+1) d
  have h3:=Ot l.xs (n+1) d
  obtain⟨n1,d1,he⟩:∃n1 d1,e6 l.xs (n+1,d)=(n1,d1):=⟨_,_,rfl⟩
  have h2:=HK c n1 d1
  rw[he]at U h3
  simp only at U h3
  rw[fm]
  simp only
  rw[he,nC]
  by_cases hc:n+1+aK l.xs<=4000
  ·have:=h3 hc;omega
  ·omega
theorem Oq:∀(c:List Lt) (n d:Int),(∀l∈c,l.xs.length<=1000000000)->(fm c (n,d)).1<=max n 4000+c.length*1000000001
 |[],n,d,_=>by rw[fm];simp only[List.length_nil];omega
 |l::c,n,d,h=>by
  have U:=De l.xs (n+1) d
  obtain⟨n1,d1,he⟩:∃n1 d1,e6 l.xs (n+1,d)=(n1,d1):=⟨_,_,rfl⟩
  have h2:=Oq c n1 d1 fun m hm=>h m (by simp[hm])
  have h3:=h l (by simp)
  rw[he]at U
  simp only at U
  rw[fm]
  simp only
  rw[he,List.length_cons]
  omega
def oz (c:List Lt):Int:=if 40<c.length then 4 else if 4000<b8 c then 4 else if 100<fw c then 9 else 0
theorem Ye (c:List Lt) (h:¬40<c.length):oz c=if 4000<(fm c (0,0)).1 then 4 else if 100<(fm c (0,0)).2 then 9 else 0:=by
 rw[oz,if_neg h]
 by_cases hc:4000<b8 c
 ·rw[if_pos hc,if_pos ((HK c 0 0).2 (by omega))]
 ·have:=On c 0 0 (by omega) (by omega)
  rw[if_neg hc,this]
  simp only
  by_cases hd:100<fw c
  ·rw[if_pos hd,if_neg (show¬(4000:Int)<0+(b8 c:Int) by omega),if_pos (show(100:Int)<max 0 (fw c:Int) by omega)]
  ·rw[if_neg hd,if_neg (show¬(4000:Int)<0+(b8 c:Int) by omega),if_neg (show¬(100:Int)<max 0 (fw c:Int) by omega)]
theorem Yk {l:List Tm} {k:Nat} {u:Tm} (h:l[k]?=some u) (s:Int×Int):e6 (l.take (k+1)) s=kn u 1 (e6 (l.take k) s):=by
 rw[dX h,Ov];rfl
theorem Yj {c:List Lt} {k:Nat} {u:Lt} (h:c[k]?=some u) (s:Int×Int):fm (c.take (k+1)) s=e6 u.xs ((fm (c.take k) s).1+1,(fm (c.take k) s).2):=by
 rw[dX h,Oo];rfl
theorem Yg (c:List Lt) (hs:ft c):bh Tryz.prog 71 [b6 c] (Iv (oz c)):=by
 refine ao.walk [0,2,3,5,7,10,13,14,15,16,27,28,29,30,42,47] [5,7,12] Tryz.func71 rfl Tryz.ntmps71 (by kernel_rfl) (by rfl) rfl fun W own I0 aq lay=>?_
 refine gE @bn ?_
 refine AP.cond rfl rfl (fun h=>?_) (fun h=>?_)
 ·have h:40<c.length:=by simp at h;omega
  refine gO ?_
  exact AE.bz rfl ⟨rfl,trivial⟩ rfl ⟨rfl,by rw[oz,if_pos h];rfl⟩
 have h:¬40<c.length:=by simp at h;omega
 have eB:=Ye c h
 refine gE @bn ?_
 refine AP.loop rfl (α:=Nat) (fun k=>[(3,.ob 0 0),(13,b6 c),(14,Iv c.length),(15,Iv k)]) (fun k=>q9 (fm (c.take k) (0,0))) (fun k=>k<=c.length) (fun k=>c.length-k) 0 (by omega) (sU) (by rw[List.take_zero,fm];rfl) fun k hk=>?_
 rcases Nat.eq_or_lt_of_le hk with aM|ag
 ·subst aM
  rw[List.take_length]
  refine gO ?_
  refine cF ?_
  obtain⟨n1,d1,he⟩:∃n1 d1,fm c (0,0)=(n1,d1):=⟨_,_,rfl⟩
  rw[he]at eB⊢
  simp only at eB
  simp only[go_sem,Nat.reduceAdd,Nat.reduceLeDiff,Nat.reduceSub,Int.reduceToNat,reduceCtorEq,q9]
  refine gO ?_
  refine AP.cond rfl rfl (fun U=>?_) (fun U=>?_)
  ·rw[if_pos (by simpa using U)]at eB
   refine gO ?_
   exact AE.bm [0] rfl ⟨rfl,trivial⟩ rfl ⟨rfl,by rw[eB];rfl⟩
  ·rw[if_neg (by simpa using U)]at eB
   refine gO ?_
   refine AP.cond rfl rfl (fun h2=>?_) (fun h2=>?_)
   ·rw[if_pos (by simpa using h2)]at eB
    refine gO ?_
    exact AE.bm [0] rfl ⟨rfl,trivial⟩ rfl ⟨rfl,by rw[eB];rfl⟩
   ·rw[if_neg (by simpa using h2)]at eB
    refine gO ?_
    exact AE.bm [0] rfl ⟨rfl,trivial⟩ rfl ⟨rfl,by rw[eB];rfl⟩
 ·obtain⟨u,hu,aX⟩:=oC c k ag
  have hw:=wr (x:=(k:Int)+1) (by omega)
  have cY:=tx hs hu
  have zD:=cY.2.1
  have fE:=(HK (c.take k) 0 0).1
  have Nt:=Oq (c.take k) 0 0 fun l hl=>(hs.2 l (List.mem_of_mem_take hl)).2.1
  have mq:(c.take k).length<=40:=by rw[List.length_take];omega
  have bP:=Yj hu (0,0)
  obtain⟨n1,d1,he⟩:∃n1 d1,fm (c.take k) (0,0)=(n1,d1):=⟨_,_,rfl⟩
  rw[he]at fE Nt bP⊢
  simp only at fE Nt bP
  have cL:=wr (x:=n1+1) (by omega)
  simp only[go_sem,Nat.reduceAdd,Nat.reduceLeDiff,Nat.reduceSub,Int.reduceToNat,reduceCtorEq,q9]
  refine gO ?_
  refine cT ?_
  refine gE @aX ?_
  refine⟨by rw[bn];omega,?_⟩
  refine gE (an @cL @aw) ?_
  refine AP.loop rfl (α:=Nat) (fun j=>[(3,.ob 0 0),(13,b6 c),(14,Iv c.length),(15,Iv k),(27,.im (.sl 3 (az u.xs))),(28,Iv u.xs.length),(29,Iv j)]) (fun j=>[(1,.var 119 [Bv u.ng,Sv u.pd,.im (.sl 3 (az u.xs))]),(0,.var 164 [Iv (e6 (u.xs.take j) (n1+1,d1)).1,Iv (e6 (u.xs.take j) (n1+1,d1)).2])]) (fun j=>j<=u.xs.length) (fun j=>u.xs.length-j) 0 (by omega) (sU) (by rw[List.take_zero,e6];rfl) fun j hj=>?_
  rcases Nat.eq_or_lt_of_le hj with iG|od
  ·subst iG
   rw[List.take_length]
   refine gO ?_
   refine cF ?_
   refine gE @hw ?_
   refine AE.eJ [1] rfl ?_
   refine sI ?_
   exact AE.round (k+1) (by omega) (by omega) (sU) (by rw[bP])
  ·obtain⟨v,hv,jd⟩:=fo u.xs j od
   have iJ:=wr (x:=(j:Int)+1) (by omega)
   have sa:=Yk hv (n1+1,d1)
   have fY:=De (u.xs.take j) (n1+1) d1
   have adb:(u.xs.take j).length<=1000000000:=by rw[List.length_take];omega
   obtain⟨n2,d2,Cc⟩:∃n2 d2,e6 (u.xs.take j) (n1+1,d1)=(n2,d2):=⟨_,_,rfl⟩
   rw[Cc]at fY sa⊢
   simp only at fY
   refine sI ?_
   refine gO ?_
   refine cT ?_
   refine gE @jd ?_
   refine⟨by rw[aw];omega,?_⟩
   refine gO ?_
   refine AQ.bR [(0,0)] (by kernel_rfl) rfl rfl rfl rfl rfl rfl (by exact⟨rfl,trivial⟩) rfl (IP v 1 n2 d2 (gl cY.2.2 hv) (by omega) (by omega)) ?_
   rintro r H' ⟨rfl,rfl⟩
   refine⟨rfl,?_⟩
   simp only[go_sem,Nat.reduceAdd,Nat.reduceLeDiff,Nat.reduceSub,Int.reduceToNat,reduceCtorEq,q9,en,h_,cR,jD]
   refine gE @iJ ?_
   refine AE.eJ [2] rfl ?_
   refine sI ?_
   exact AE.round (j+1) (by omega) (by omega) (sU) (by rw[sa])
theorem T_ {l:List Tm} {k:Nat} {u:Tm} (h:l[k]?=some u):eg 2 3 (l.drop k)=if me 2 3 u≠0 then me 2 3 u else eg 2 3 (l.drop (k+1)):=by
 obtain⟨U,h2⟩:=List.getElem?_eq_some_iff.1 h
 rw[List.drop_eq_getElem_cons U,h2,eg]
theorem drop_cons {α:Type} {l:List α} {k:Nat} {u:α} (h:l[k]?=some u):l.drop k=u::l.drop (k+1):=by
 obtain⟨U,h2⟩:=List.getElem?_eq_some_iff.1 h
 rw[List.drop_eq_getElem_cons U,h2]
theorem Lm (l:Lt) (c:List Lt):iV 2 3 (l::c)=if(l.pd≠[61]/\fI l.pd=false)\/(l.pd=[61]/\l.xs.length≠2)then 2 else if eg 2 3 l.xs≠0 then eg 2 3 l.xs else iV 2 3 c:=by
 rw[iV,vI]
 by_cases h:(l.pd≠[61]/\fI l.pd=false)\/(l.pd=[61]/\l.xs.length≠2)
 ·rw[if_pos h,if_pos h,if_pos (by decide)]
 ·rw[if_neg h,if_neg h]
def aJ (t:Tm):List Lt:=[⟨false,[80],[t]⟩]
theorem DU {t:Tm} (h:aR t):ft (aJ t):=by
 refine⟨by simp[aJ],fun l hl=>?_⟩
 rw[aJ,List.mem_singleton]at hl
 subst hl
 exact⟨by simp,by simp,by rw[bI,bI];exact⟨h,trivial⟩⟩
def gW (s t:Tm):Int:=if bp 4 9 2 3 (aJ s)≠0 then bp 4 9 2 3 (aJ s)else bp 4 9 2 3 (aJ t)
abbrev x9 (b:Int×Tm):List IV:=[Ii b.1,Si b.2.nm,Ii b.2.ix,.sl 3 (az b.2.xs)]
def fq (l:Bd):List (List IV):=l.map x9
abbrev gV (l:Bd):AV:= .im (.sl 4 (fq l))
theorem gU (l:Bd):(fq l).length=l.length:=by rw[fq,List.length_map]
theorem Ev (l:Bd) (k:Nat) (h:k<l.length):∃b,l[k]?=some b/\(fq l).getD k []=[Ii b.1,Si b.2.nm,Ii b.2.ix,.sl 3 (az b.2.xs)]:=by
 refine⟨l[k],List.getElem?_eq_getElem h,?_⟩
 rw[List.getD_eq_getElem?_getD,fq,List.getElem?_map,List.getElem?_eq_getElem h];rfl
def iy (l:Bd):Prop:=l.length<=1000000000/\∀b∈l,aR b.2
mutual
def uY (l:Bd):Tm->Tm
 | .mk n i xs=>if n=[]then(mD l i).getD (.mk n i xs)else .mk n 0 (pX l xs)
def pX (l:Bd):List Tm->List Tm
 |[]=>[]
 |t::k=>uY l t::pX l k
end
theorem aaZ (l:Bd) (t:Tm):uY l t=if t.nm=[]then(mD l t.ix).getD t else .mk t.nm 0 (pX l t.xs):=by cases t;rw[uY];rfl
theorem AB (l:Bd):∀k,pX l k=k.map (uY l)
 |[]=>by rw[pX];rfl
 |t::k=>by rw[pX,AB l k];rfl
theorem aaY (l:Bd) {t:Tm} (h:Lf t):uY l t=al (aV l) t:=by
 induction h with
 |mk t hx h0 k ih=>
  have ht:Lf t:=⟨t,hx,h0,k⟩
  rw[aaZ,qe]
  by_cases hn:t.nm=[]
  ·rw[if_pos hn,if_pos hn,aV]
   have:=ht.var hn
   cases mD l t.ix with
   |none=>exact this
   |some x=>rfl
  ·rw[if_neg hn,if_neg hn,AB,kH,List.map_congr_left ih]
mutual
def sZ (l:Bd):Tm->Int
 | .mk n i xs=>if n=[]then(match mD l i with
   |some x=>min (lq x 5000) 5000
   |none=>1)else Ao l xs 1
def Ao (l:Bd):List Tm->Int->Int
 |[],a=>a
 |t::k,a=>Ao l k (min (a+sZ l t) 5000)
end
mutual
theorem Qf (l:Bd):∀t:Tm,c7 t=true->sZ l t=min (wT (al (aV l) t):Int) 5000
 | .mk n i xs,h=>by
  rw[c7]at h
  rw[sZ,al]
  by_cases hn:n=[]
  ·rw[if_pos hn,if_pos hn,aV]
   cases mD l i with
   |none=>simp only[Option.getD_none,bg,wT,aK];omega
   |some x=>
    simp only[Option.getD_some]
    have:=Au x 5000 (by omega)
    by_cases hc:(wT x:Int)<=5000
    ·rw[this.1 hc]
    ·have:=this.2.1 (by omega);omega
  ·rw[if_neg hn,Bool.and_eq_true]at h
   rw[if_neg hn,if_neg hn,wT,Qg l xs 1 h.2 (by omega)];omega
theorem Qg (l:Bd):∀(k:List Tm) (a:Int),cB k=true->0<=a/\a<=5000->Ao l k a=min (a+aK (bK (aV l) k)) 5000
 |[],a,_,ha=>by rw[Ao,bK,aK];omega
 |t::k,a,h,ha=>by
  rw[cB,Bool.and_eq_true]at h
  rw[Ao,bK,aK,Qf l t h.1,Qg l k _ h.2 (by omega)];omega
end
def fT (p:Bd):Bd->Int
 |[]=>0
 |b::l=>if b.1<0\/999<b.1 then 3 else if(mD p b.1).isSome then 6 else if bp 4 9 2 3 (aJ b.2)≠0 then bp 4 9 2 3 (aJ b.2)else fT (p++[b]) l
theorem S1 {l:Bd} {k:Nat} {u:Int×Tm} (h:l[k]?=some u):fT (l.take k) (l.drop k)=if u.1<0\/999<u.1 then 3 else if(mD (l.take k) u.1).isSome then 6 else if bp 4 9 2 3 (aJ u.2)≠0 then bp 4 9 2 3 (aJ u.2)else fT (l.take (k+1)) (l.drop (k+1)):=by
 rw[drop_cons h,fT,dX h]
def x4 (l:Bd):List Tm->Int->Int
 |[],n=>n
 |t::k,n=>if 4000<n+sZ l t then n+sZ l t else x4 l k (n+sZ l t)
def I6 (l:Bd) (x:Lt):Lt:=⟨x.ng,x.pd,pX l x.xs⟩
theorem yB {c:List Lt} {k:Nat} {u:Lt} (h:c[k]?=some u) (j:Nat):∃r,c.flatMap (·.xs)=((c.take k).flatMap (·.xs)++u.xs.take j)++r:=by
 refine⟨u.xs.drop j++(c.drop (k+1)).flatMap (·.xs),?_⟩
 have U:c=c.take k++(u::c.drop (k+1)):=by rw[<-drop_cons h,List.take_append_drop]
 conv=>lhs;rw[U]
 rw[List.flatMap_append,List.flatMap_cons,List.append_assoc,<-List.append_assoc (u.xs.take j),List.take_append_drop]
def ry (c:List Lt) (l:Bd):List Lt:=c.map (I6 l)
def Bj (c:List Lt) (l:Bd):Int:=if 4000<x4 l (c.flatMap (·.xs)) c.length then 15 else if bp 4 9 2 3 (ry c l)=4\/bp 4 9 2 3 (ry c l)=9 then 15 else 0
def vo (c:List Lt) (l:Bd):List Lt:=if Bj c l=0 then ry c l else[]
def dE (c:List Lt) (l:Bd):Int:=if bp 4 9 2 3 c≠0 then bp 4 9 2 3 c else if fT [] l≠0 then fT [] l else Bj c l
def oU (c:List Lt) (l:Bd):List Lt:=if bp 4 9 2 3 c≠0 then[]else if fT [] l≠0 then[]else vo c l
theorem Tv (x:AV) (w:World) (φ:ai) (I:Nat->Prop) (v:Value) (h:AV.den w φ I (.aG [eO,x]) v):AV.den w φ I (.aG [b6 [],x]) v:=by
 rw[AV.den]at h⊢
 obtain⟨us,hu,rfl⟩:=h
 refine⟨us,?_,rfl⟩
 rw[AV.ab]at hu⊢
 obtain⟨a,b,e,U,h2⟩:=hu
 exact⟨a,b,e,OU 3 w φ I a U,h2⟩
structure Yields (P:Program) (nb l n:Nat) (args:Nat->List AV) (Hs:Nat->aa) (m:Nat) (Hx:aa):Prop where
 go:∀k,k<m->k<n->gN P nb l (args k) (Hs k) (fun r H'=>r=Bv true/\H'=Hs (k+1))
 stop:m<n->gN P nb l (args m) (Hs m) (fun r H'=>r=Bv false/\H'=Hx)
 low:∀k k',cu nb (Hs k) (Hs k')
 Oz:∀k,cu nb (Hs k) Hx
def RG (Hs:Nat->aa) (m:Nat) (Hx:aa) (k:Nat) (r:AV) (H':aa):Prop:=
 (k<=m/\r=Bv true/\H'=Hs k)\/(m<k/\r=Bv false/\H'=Hx)
def Iy (Hs:Nat->aa) (m:Nat) (Hx:aa) (n:Nat) (_:AV) (H':aa):Prop:=(n<=m/\H'=Hs n)\/(m<n/\H'=Hx)
def D3 (xs:List Tm) (k:Nat):List AV:=match xs[k]? with
 |some t=>[bf t]
 |none=>[]
theorem Ay {xs:List Tm} {k:Nat} {t:Tm} (h:xs[k]?=some t):D3 xs k=[bf t]:=by rw[D3,h]
theorem RH {nb l m:Nat} {Hs:Nat->aa} {Hx:aa} {args:Nat->List AV} {n:Nat} (hy:Yields Tryz.prog nb l n args Hs m Hx) (k q:Nat) (r:AV) (H':aa) (h:RG Hs m Hx q r H'):cu nb (Hs k) H':=by
 rcases h with⟨_,_,rfl⟩|⟨_,_,rfl⟩
 ·exact hy.low k q
 ·exact hy.Oz k
abbrev s_ (l b:Nat):Ob:= .var 219 [.fn 195 [] [.im (.pt [.v (.func (.yield l) #[] #[])]),.ob b 0]]
theorem IK:∀l m:List Tm,cG (l++m)=cG l++cG m
 |[],m=>by rw[cG];rfl
 |t::l,m=>by rw[List.cons_append,cG,cG,IK l m,List.append_assoc]
theorem Z8 {l:List Tm} {j:Nat} {u:Tm} (h:l[j]?=some u):cG l=cG (l.take j)++(bZ u++cG (l.drop (j+1))):=by
 conv=>lhs;rw[<-List.take_append_drop j l,drop_cons h]
 rw[IK,cG]
theorem Z9 {l:List Tm} {j:Nat} {u:Tm} (h:l[j]?=some u):cG (l.take (j+1))=cG (l.take j)++bZ u:=by
 rw[dX h,IK,cG,cG,List.append_nil]
theorem Ry {nb l m b M:Nat} {Hs:Nat->aa} {Hx:aa} {xs:List Tm} (hy:Yields Tryz.prog nb l xs.length (D3 xs) Hs m Hx) (hb:∀k,lk (Hs k) b=some (s_ l b)) (eK:b<nb) (hM:nb<=M) (bS:∀k,bB (Hs k)=M) (fg:∀k r,jR M r (Hs k)=Hs k) (t:Tm) (ht:aR t) (k:Nat) (hk:k<=m) (hx:∀j,j<(bZ t).length->xs[k+j]?=(bZ t)[j]?):
  dv Tryz.prog nb 195 [bf t,.im (.pt [.v (.func (.yield l) #[] #[])]),.ob b 0] (Hs k) (RG Hs m Hx (k+(bZ t).length)):=by
 have wz:=ji.1 ht
 have hit:xs[k]?=some t:=by
  have:=hx 0 (by rw[Ap];simp)
  rw[Nat.add_zero]at this
  rw[this,Ap];rfl
 have zd:k<xs.length:=(List.getElem?_eq_some_iff.1 hit).1
 have so:∀j,j<(cG t.xs).length->xs[k+1+j]?=(cG t.xs)[j]?:=fun j hj=>by
  rw[show k+1+j=k+(j+1) by omega,hx (j+1) (by rw[Ap];simpa using hj),Ap];rfl
 have hlen:k+(bZ t).length=k+1+(cG t.xs).length:=by rw[Ap,List.length_cons];omega
 rw[hlen]
 have cq:Nat.ble nb b=false:=by cases hq:Nat.ble nb b with|false=>rfl|true=>exact absurd (Nat.le_of_ble_eq_true hq) (by omega)
 have Mg:Nat.ble nb M=true:=Nat.ble_eq_true_of_le hM
 have BX:Nat.beq M M=true:=by simp
 have FE:Nat.beq M b=false:=by cases hq:Nat.beq M b with|false=>rfl|true=>exact absurd (Nat.eq_of_beq_eq_true hq) (by omega)
 have Vc:Nat.beq b M=false:=by cases hq:Nat.beq b M with|false=>rfl|true=>exact absurd (Nat.eq_of_beq_eq_true hq) (by omega)
 refine dv.walk [0,1,2,3,4,6,10,12,13,14,15,21] [6] Tryz.func195 rfl Tryz.ntmps195 (by kernel_rfl) (by rfl) fun W own I0 aq lay=>?_
 refine gO ?_
 have Wf:=fun k q r H' h=>RH hy k q r H' h
 by_cases hm:k<m
 ·have zN:=hy.go k hm zd
  rw[Ay hit]at zN
  refine AQ.AI nb (Nat.ble_eq_true_of_le (Nat.le_refl _)) (by kernel_rfl) rfl ⟨rfl,rfl⟩ rfl rfl zN (fun r H' h=>by rw[h.2];exact hy.low _ _) fun r H' h=>?_
  obtain⟨rfl,rfl⟩:=h
  refine sE @cq ?_
  refine AQ.go (by kernel_rfl) ?_
  refine gE (an @cq @aw) ?_
  refine AP.loop rfl (α:=Nat) (fun j=>[(1,.im (.pt [.v (.func (.yield l) #[] #[])])),(2,.ob b 0),(12,.im (.sl 3 (az t.xs))),(13,Iv t.xs.length),(14,Iv j)]) (fun j=>Hs (k+1+(cG (t.xs.take j)).length)) (fun j=>j<=t.xs.length/\k+1+(cG (t.xs.take j)).length<=m) (fun j=>t.xs.length-j) 0 ⟨by omega,by rw[List.take_zero,cG];exact hm⟩ (sU) (by rw[List.take_zero,cG];rfl) fun j ⟨hj,lK⟩=>?_
  rcases Nat.eq_or_lt_of_le hj with iG|ag
  ·subst iG
   rw[List.take_length]at lK⊢
   refine gE @aw ?_
   refine cF ?_
   refine gO ?_
   exact AE.ret rfl ⟨rfl,trivial⟩ (.inl ⟨lK,rfl,rfl⟩)
  ·obtain⟨u,hu,aX⟩:=fo t.xs j ag
   have cY:=gl wz.2.2 hu
   have hw:=wr (x:=(j:Int)+1) (by omega)
   have mn:=Z8 hu
   have bG:=Z9 hu
   have ih:=Ry hy hb eK hM bS fg u cY (k+1+(cG (t.xs.take j)).length) lK fun i hi=>by
    have hl:(cG t.xs).length=(cG (t.xs.take j)).length+((bZ u).length+(cG (t.xs.drop (j+1))).length):=by rw[mn,List.length_append,List.length_append]
    rw[Nat.add_assoc,so _ (by omega),mn,List.getElem?_append_right (by omega),Nat.add_sub_cancel_left,List.getElem?_append_left hi]
   have hn:k+1+(cG (t.xs.take (j+1))).length=k+1+(cG (t.xs.take j)).length+(bZ u).length:=by rw[bG,List.length_append];omega
   have hle:(cG (t.xs.take (j+1))).length<=(cG t.xs).length:=by
    rw[bG,mn,List.length_append,List.length_append,List.length_append];omega
   refine gE @aw ?_
   refine cT ?_
   refine gE (an @aX (an @hb (an @bS (an @Mg (an @BX @FE))))) ?_
   refine⟨by rw[aw];omega,?_⟩
   refine gE (an @aX (an @hb (an @bS (an @Mg (an @BX @FE))))) ?_
   refine AQ.fix M (by simp only[lk,BX,cond_true];rfl) rfl ?_
   refine sE (an @BX (an @FE (an @Vc @fg))) ?_
   refine AQ.iB nb (Nat.ble_eq_true_of_le (Nat.le_refl _)) (by kernel_rfl) rfl rfl rfl ih (fun r H' h=>Wf _ _ r H' h) fun r H' h=>?_
   rw[<-hn]at h
   rcases h with⟨U,rfl,rfl⟩|⟨U,rfl,rfl⟩
   ·refine sE @cq ?_
    refine AQ.go (by kernel_rfl) ?_
    refine gE (an @cq @hw) ?_
    exact AE.round (j+1) ⟨by omega,U⟩ (by omega) (sU) rfl
   ·refine sE @cq ?_
    refine AQ.go (by kernel_rfl) ?_
    refine gE @cq ?_
    exact AE.ret rfl ⟨rfl,trivial⟩ (.inr ⟨by omega,rfl,rfl⟩)
 ·have fj:k=m:=by omega
  have zN:=hy.stop (by omega)
  rw[<-fj,Ay hit]at zN
  refine AQ.AI nb (Nat.ble_eq_true_of_le (Nat.le_refl _)) (by kernel_rfl) rfl ⟨rfl,rfl⟩ rfl rfl zN (fun r H' h=>by rw[h.2];exact hy.Oz _) fun r H' h=>?_
  obtain⟨rfl,rfl⟩:=h
  refine sE @cq ?_
  refine AQ.go (by kernel_rfl) ?_
  refine gE @cq ?_
  exact AE.ret rfl ⟨rfl,trivial⟩ (.inr ⟨by omega,rfl,rfl⟩)
termination_by SizeOf.sizeOf t
decreasing_by exact lX hu
theorem QL {nb l m M:Nat} {Hs:Nat->aa} {Hx:aa} (t:Tm) (ht:aR t) (hy:Yields Tryz.prog (M+1) l (bZ t).length (D3 (bZ t)) (fun k=>(M,s_ l M)::Hs k) m ((M,s_ l M)::Hx)) (hM:Nat.ble nb M=true) (bS:∀k,bB (Hs k)=M) (fg:∀k r,jR (M+1) r (Hs k)=Hs k):
  dv Tryz.prog nb 194 [Yl l,.im (xq t)] (Hs 0) (Iy (fun k=>(M,s_ l M)::Hs k) m ((M,s_ l M)::Hx) (bZ t).length):=by
 refine dv.walk [0,1,2,3] [3] Tryz.func194 rfl Tryz.ntmps194 (by kernel_rfl) (by rfl) fun W own I0 aq lay=>?_
 refine gE (an @bS @hM) ?_
 have U:Nat.beq M (M+1)=false:=by cases hq:Nat.beq M (M+1)with|false=>rfl|true=>exact absurd (Nat.eq_of_beq_eq_true hq) (by omega)
 have h2:Nat.beq M M=true:=by simp
 have h3:Nat.ble M M=true:=Nat.ble_eq_true_of_le (Nat.le_refl _)
 have hw:=Ry (k:=0) (xs:=bZ t) hy (fun k=>by simp only[lk,h2,cond_true]) (Nat.lt_succ_self _) (Nat.le_refl _) (fun k=>by simp only[bB,bS,h3,cond_true]) (fun k r=>by simp only[jR,rM,iW,fV,U,fg,cond_false]) t ht (Nat.zero_le _) (fun j _=>by rw[Nat.zero_add])
 rw[Nat.zero_add]at hw
 refine AQ.iB (M+1) (Nat.ble_eq_true_of_le (Nat.le_succ_of_le (Nat.le_of_ble_eq_true hM))) (by kernel_rfl) rfl rfl rfl hw (fun r H' h=>RH hy _ _ r H' h) fun r H' h=>?_
 rcases h with⟨h4,rfl,rfl⟩|⟨h4,rfl,rfl⟩
 ·refine sI ?_
  refine AQ.go (by kernel_rfl) ?_
  refine gO ?_
  exact AE.jQ rfl trivial (.inl ⟨h4,rfl⟩)
 ·refine sI ?_
  refine AQ.go (by kernel_rfl) ?_
  refine gO ?_
  exact AE.jQ rfl trivial (.inr ⟨h4,rfl⟩)
theorem QM (t:Tm):bh Tryz.prog 150 [bf t] (.fn 194 [] [.im (xq t)]):=by
 refine ao.walk [0,1,2] [] Tryz.func150 rfl Tryz.ntmps150 (by kernel_rfl) (by rfl) rfl fun W own I0 aq lay=>?_
 refine gO ?_
 exact AE.bz rfl ⟨rfl,trivial⟩ rfl ⟨rfl,rfl⟩
theorem aaB (c:List Lt):bh Tryz.prog 73 [b6 c] (.fn 149 [] [.im (.pt [.sl 3 (cD c)])]):=by
 refine ao.walk [0,1,2] [] Tryz.func73 rfl Tryz.ntmps73 (by kernel_rfl) (by rfl) rfl fun W own I0 aq lay=>?_
 refine gO ?_
 exact AE.bz rfl ⟨rfl,trivial⟩ rfl ⟨rfl,rfl⟩
theorem Ts (c:List Lt):bp 4 9 2 3 c=if oz c≠0 then oz c else iV 2 3 c:=by
 rw[bp,oz]
 by_cases U:40<c.length
 ·rw[if_pos U,if_pos U,if_pos (by decide)]
 ·rw[if_neg U,if_neg U]
  by_cases h2:4000<b8 c
  ·rw[if_pos h2,if_pos h2,if_pos (by decide)]
  ·rw[if_neg h2,if_neg h2]
   by_cases h3:100<fw c
   ·rw[if_pos h3,if_pos h3,if_pos (by decide)]
   ·rw[if_neg h3,if_neg h3,if_neg (by decide)]
theorem Yf {c:List Lt} (h:¬oz c≠0):c.length<=40:=Classical.byContradiction fun hc=>h (by rw[oz,if_pos (by omega)];decide)
theorem Lv (pd:List UInt8) (n:Nat) (b:Bool):((!(pd==[61])&&!b)||(pd==[61]&&(n:Int)!=2))=true↔(pd≠[61]/\b=false)\/(pd=[61]/\n≠2):=by
 have aD:((n:Int)=2)↔n=2:=by omega
 by_cases hp:pd=[61]<;>cases b<;>by_cases hl:n=2<;>simp[hp,hl,aD]
noncomputable def gq (l:Nat) (st:iq):Ob:= .lp l 53 st Tryz.f15 [0,1,1,1,0,0,1,1,0,0,1,0,1,1] [46] [(2,.ob 0 0)]
noncomputable def ri (l l2:Nat) (st:iq):Ob:= .lp l2 30 st Tryz.f149 [0,1,1,0,0,1,1,0,0,1,1,0,0,1,1,0,0,1,1] [23] [(2,.im (.pt [.v (.func (.yield l) #[] #[])]))]
noncomputable def iT (l l2:Nat) (st2 st:iq) (e:Int):aa:=[(3,s_ l2 3),(2,ri l l2 st2),(1,gq l st),(0,.var 30 [Iv e])]
theorem To (nb l l2:Nat) (t:Tm) (ht:aR t) (hf:ew 2 3 t=0) (hnb:Nat.ble nb 4=true):gN Tryz.prog nb l [bf t] (iT l l2 .busy .ready 0) (fun r H'=>r=Bv true/\H'=iT l l2 .busy .ready 0):=by
 refine gN.walk (b:=1) [2,6,7,46,50] [2] rfl rfl rfl fun w own I0 aq lay=>?_
 simp only[go_sem,Nat.reduceAdd,Nat.reduceLeDiff,Nat.reduceSub,Int.reduceToNat,reduceCtorEq,p3,iT,gq,ri]
 refine gE @hnb ?_
 refine AE.begin (b:=1) rfl rfl _ ?_
 refine sI ?_
 refine gO ?_
 refine AQ.fn (by kernel_rfl) rfl rfl rfl (Lw t ht) rfl ?_
 refine sI ?_
 refine gE @hf ?_
 refine AE.eJ [4] rfl ?_
 refine sI ?_
 exact AE.xh (b:=1) rfl ⟨rfl,rfl⟩
theorem Tp (nb l l2:Nat) (t:Tm) (ht:aR t) (hf:ew 2 3 t≠0) (hnb:Nat.ble nb 4=true):gN Tryz.prog nb l [bf t] (iT l l2 .busy .ready 0) (fun r H'=>r=Bv false/\H'=iT l l2 .busy (.done .ret) (ew 2 3 t)):=by
 refine gN.walk (b:=1) [2,6,7,46,50] [2] rfl rfl rfl fun w own I0 aq lay=>?_
 simp only[go_sem,Nat.reduceAdd,Nat.reduceLeDiff,Nat.reduceSub,Int.reduceToNat,reduceCtorEq,p3,iT,gq,ri]
 refine gE @hnb ?_
 refine AE.begin (b:=1) rfl rfl _ ?_
 refine sI ?_
 refine gO ?_
 refine AQ.fn (by kernel_rfl) rfl rfl rfl (Lw t ht) rfl ?_
 refine sI ?_
 refine gO ?_
 refine AP.cond rfl rfl (fun h=>?_) (fun h=>?_)
 ·refine gO ?_
  refine AE.eJ [4] rfl ?_
  refine sI ?_
  exact AE.PY (b:=1) rfl ⟨rfl,rfl⟩
 ·exact absurd (by simpa using h) hf
theorem aaM (l l2:Nat) (t:Tm) (ht:aR t) (hf:ew 2 3 t=0):gN Tryz.prog 4 l2 [bf t] (iT l l2 .ready .ready 0) (fun r H'=>r=Bv true/\H'=iT l l2 .ready .ready 0):=by
 have hy:=To 4 l l2 t ht hf rfl
 refine gN.walk (b:=2) [2,7,23,26,27] [] rfl rfl rfl fun w own I0 aq lay=>?_
 simp only[go_sem,Nat.reduceAdd,Nat.reduceLeDiff,Nat.reduceSub,Int.reduceToNat,reduceCtorEq,p3,iT,gq,ri]
 refine gO ?_
 refine AE.begin (b:=2) rfl rfl _ ?_
 refine sI ?_
 refine gO ?_
 refine AQ.fix 4 rfl rfl ?_
 refine sI ?_
 refine AQ.AI 4 (Nat.ble_eq_true_of_le (Nat.le_refl _)) (by kernel_rfl) rfl ⟨rfl,rfl⟩ rfl rfl hy (fun r H' h=>by rw[h.2];exact cu.of _ _ _ rfl) fun r H' h=>?_
 obtain⟨rfl,rfl⟩:=h
 simp only[go_sem,Nat.reduceAdd,Nat.reduceLeDiff,Nat.reduceSub,Int.reduceToNat,reduceCtorEq,iT,gq,ri]
 refine AQ.go (by kernel_rfl) ?_
 refine gO ?_
 exact AE.xh (b:=2) rfl ⟨rfl,rfl⟩
theorem aaN (l l2:Nat) (t:Tm) (ht:aR t) (hf:ew 2 3 t≠0):gN Tryz.prog 4 l2 [bf t] (iT l l2 .ready .ready 0) (fun r H'=>r=Bv false/\H'=iT l l2 (.done .ret) (.done .ret) (ew 2 3 t)):=by
 have hy:=Tp 4 l l2 t ht hf rfl
 refine gN.walk (b:=2) [2,7,23,26,27] [] rfl rfl rfl fun w own I0 aq lay=>?_
 simp only[go_sem,Nat.reduceAdd,Nat.reduceLeDiff,Nat.reduceSub,Int.reduceToNat,reduceCtorEq,p3,iT,gq,ri]
 refine gO ?_
 refine AE.begin (b:=2) rfl rfl _ ?_
 refine sI ?_
 refine gO ?_
 refine AQ.fix 4 rfl rfl ?_
 refine sI ?_
 refine AQ.AI 4 (Nat.ble_eq_true_of_le (Nat.le_refl _)) (by kernel_rfl) rfl ⟨rfl,rfl⟩ rfl rfl hy (fun r H' h=>by rw[h.2];exact cu.of _ _ _ rfl) fun r H' h=>?_
 obtain⟨rfl,rfl⟩:=h
 simp only[go_sem,Nat.reduceAdd,Nat.reduceLeDiff,Nat.reduceSub,Int.reduceToNat,reduceCtorEq,iT,gq,ri]
 refine AQ.go (by kernel_rfl) ?_
 refine gO ?_
 exact AE.PY (b:=2) rfl ⟨rfl,rfl⟩
def tL (f:Tm->Int):List Tm->Nat
 |[]=>0
 |t::l=>if f t≠0 then 0 else tL f l+1
theorem LF (f:Tm->Int):∀l:List Tm,(∀k,k<tL f l->∃t,l[k]?=some t/\f t=0)/\(tL f l<l.length->∃t,l[tL f l]?=some t/\f t≠0/\jT f l=f t)/\(l.length<=tL f l->jT f l=0)
 |[]=>⟨fun k h=>absurd h (Nat.not_lt_zero _),fun h=>absurd h (Nat.not_lt_zero _),fun _=>rfl⟩
 |t::l=>by
  obtain⟨U,h2,h3⟩:=LF f l
  rw[tL,jT]
  by_cases h:f t≠0
  ·rw[if_pos h,if_pos h]
   exact⟨fun k h=>absurd h (Nat.not_lt_zero _),fun _=>⟨t,rfl,h,rfl⟩,fun h=>absurd h (by simp)⟩
  ·rw[if_neg h,if_neg h]
   refine⟨fun k hk=>?_,fun hk=>?_,fun hk=>h3 (by simpa using hk)⟩
   ·cases k with
    |zero=>exact⟨t,rfl,by simpa using h⟩
    |succ k=>obtain⟨u,h4,h5⟩:=U k (by omega);exact⟨u,h4,h5⟩
   ·obtain⟨u,h4,h5⟩:=h2 (by simpa using hk)
    exact⟨u,by rw[List.getElem?_cons_succ];exact h4,h5⟩
mutual
theorem QT:∀t,aR t->∀u∈bZ t,aR u
 | .mk n i xs,h,u,hu=>by
  rw[bZ]at hu
  rcases List.mem_cons.1 hu with rfl|hu
  ·exact h
  ·rw[aR]at h;exact QY xs h.2.2 u hu
theorem QY:∀l,bI l->∀u∈cG l,aR u
 |[],_,u,hu=>by rw[cG]at hu;cases hu
 |t::l,h,u,hu=>by
  rw[cG]at hu
  rw[bI]at h
  rcases List.mem_append.1 hu with hu|hu
  ·exact QT t h.1 u hu
  ·exact QY l h.2 u hu
end
theorem aaC (l:Nat) (u:Lt) (hu:oB u):dv Tryz.prog 1 149 [Yl l,.im (.pt [.sl 3 (cD [u])])] [(1,gq l .ready),(0,.var 30 [Iv 0])] (fun _ H'=>H'=[(1,gq l (if eg 2 3 u.xs=0 then .ready else .done .ret)),(0,.var 30 [Iv (eg 2 3 u.xs)])]):=by
 have zK:=hu.2.1
 have zp:cD [u]=[pI u]:=rfl
 rw[zp]
 refine dv.walk [0,1,2,4,6,7,8,9,10,11,15,16,17,18,22,23,27] [4,6,7] Tryz.func149 rfl Tryz.ntmps149 (by kernel_rfl) (by rfl) fun W own I0 aq lay=>?_
 simp only[go_sem,Nat.reduceAdd,Nat.reduceLeDiff,Nat.reduceSub,Int.reduceToNat,reduceCtorEq,gq]
 refine gO ?_
 refine AP.loop rfl (α:=Nat) (fun k=>[(2,.im (.pt [.v (.func (.yield l) #[] #[])])),(8,.im (.sl 3 [pI u])),(9,Iv 1),(10,Iv k)]) (fun k=>[(1,gq l .ready),(0,.var 30 [Iv 0])]) (fun k=>k<=1/\(k=1->eg 2 3 u.xs=0)) (fun k=>1-k) 0 ⟨by omega,by omega⟩ (sU) rfl fun k ⟨hk,lL⟩=>?_
 rcases Nat.eq_or_lt_of_le hk with aM|ag
 ·subst aM
  simp only[go_sem,Nat.reduceAdd,Nat.reduceLeDiff,Nat.reduceSub,Int.reduceToNat,reduceCtorEq,gq]
  refine gO ?_
  refine AE.jQ rfl trivial ?_
  rw[lL rfl];rfl
 ·have mh:k=0:=by omega
  subst mh
  have qI:[pI u].getD 0 []=[Bi u.ng,Si u.pd,.sl 3 (az u.xs)]:=rfl
  simp only[go_sem,Nat.reduceAdd,Nat.reduceLeDiff,Nat.reduceSub,Int.reduceToNat,reduceCtorEq,gq]
  refine gE (an @aw @qI) ?_
  refine AP.fix 2 rfl rfl ?_
  refine sI ?_
  refine AP.loop rfl (α:=Nat) (fun j=>[(2,.im (.pt [.v (.func (.yield l) #[] #[])])),(8,.im (.sl 3 [pI u])),(9,Iv 1),(10,Iv 0),(15,.im (.sl 3 (az u.xs))),(16,Iv u.xs.length),(17,Iv j)]) (fun j=>[(1,gq l .ready),(0,.var 30 [Iv 0])]) (fun j=>j<=u.xs.length/\eg 2 3 u.xs=eg 2 3 (u.xs.drop j)) (fun j=>u.xs.length-j) 0 ⟨by omega,rfl⟩ (sU) rfl fun j ⟨hj,lK⟩=>?_
  rcases Nat.eq_or_lt_of_le hj with iG|od
  ·subst iG
   simp only[go_sem,Nat.reduceAdd,Nat.reduceLeDiff,Nat.reduceSub,Int.reduceToNat,reduceCtorEq,gq]
   refine gO ?_
   refine cF ?_
   refine gO ?_
   rw[List.drop_length,eg]at lK
   exact AE.round 1 ⟨by omega,fun _=>lK⟩ (by omega) (sU) rfl
  ·obtain⟨v,hv,jd⟩:=fo u.xs j od
   have iJ:=wr (x:=(j:Int)+1) (by omega)
   simp only[go_sem,Nat.reduceAdd,Nat.reduceLeDiff,Nat.reduceSub,Int.reduceToNat,reduceCtorEq,gq]
   refine gE @aw ?_
   refine cT ?_
   refine gE (an @jd @aw) ?_
   refine AQ.fix 2 rfl rfl ?_
   refine sI ?_
   refine AQ.fn (by kernel_rfl) rfl rfl rfl (QM v) rfl ?_
   refine sI ?_
   refine gO ?_
   have fF:=gl hu.2.2 hv
   rw[T_ hv,Lp]at lK
   obtain⟨pn,gC,wi⟩:=LF (ew 2 3) (bZ v)
   have mn:=QT v fF
   refine AP.DE 2 1 2 [(2,.im (.pt [.v (.func (.yield l) #[] #[])]))] (R:=fun l2=>Iy (fun _=>iT l l2 .ready .ready 0) (tL (ew 2 3) (bZ v)) (iT l l2 (.done .ret) (.done .ret) (jT (ew 2 3) (bZ v))) (bZ v).length) rfl rfl (by kernel_rfl) (sU) rfl rfl (fun l2=>?_) (fun l2 r H' hR=>?_)
   ·refine QL (M:=3) (Hs:=fun _=>[(2,ri l l2 .ready),(1,gq l .ready),(0,.var 30 [Iv 0])]) (Hx:=[(2,ri l l2 (.done .ret)),(1,gq l (.done .ret)),(0,.var 30 [Iv (jT (ew 2 3) (bZ v))])]) v fF ⟨fun k hk zd=>?_,fun hk=>?_,fun _ _=>cu.of _ _ _ rfl,fun k=>cu.of _ _ _ rfl⟩ rfl (fun _=>rfl) (fun _ _=>rfl)
    ·obtain⟨t,ht,hf⟩:=pn k hk
     rw[Ay ht]
     exact aaM l l2 t (mn t (List.mem_of_getElem? ht)) hf
    ·obtain⟨t,ht,hf,he⟩:=gC hk
     rw[Ay ht,he]
     exact aaN l l2 t (mn t (List.mem_of_getElem? ht)) hf
   ·rcases hR with⟨U,rfl⟩|⟨U,rfl⟩
    ·refine⟨cu.of _ _ _ rfl,.ready,_,rfl,rfl,?_⟩
     rw[wi U,if_neg (by decide)]at lK
     simp only[go_sem,Nat.reduceAdd,Nat.reduceLeDiff,Nat.reduceSub,Int.reduceToNat,reduceCtorEq,iT,gq]
     refine gE @iJ ?_
     refine AE.eJ [3] rfl ?_
     refine sI ?_
     exact AE.round (j+1) ⟨by omega,lK⟩ (by omega) (sU) rfl
    ·refine⟨cu.of _ _ _ rfl,.done .ret,_,rfl,rfl,?_⟩
     obtain⟨t,ht,hf,he⟩:=gC U
     rw[he,if_pos hf,<-he]at lK
     have aC:eg 2 3 u.xs≠0:=by rw[lK,he];exact hf
     simp only[go_sem,Nat.reduceAdd,Nat.reduceLeDiff,Nat.reduceSub,Int.reduceToNat,reduceCtorEq,iT,gq]
     refine gO ?_
     refine AE.bm [3] rfl trivial rfl ?_
     rw[if_neg aC,lK];rfl
theorem vt (c:List Lt) (hs:ft c):bh Tryz.prog 15 [b6 c] (Iv (bp 4 9 2 3 c)):=by
 have cz:=hs.1
 have iZ:=Ts c
 refine ao.walk [0,2,3,4,5,6,7,11,13,14,15,16,39,45,46,50] [2,5,6] Tryz.func15 rfl Tryz.ntmps15 (by kernel_rfl) (by rfl) rfl fun W own I0 aq lay=>?_
 refine gE @bn ?_
 refine AQ.fn (by kernel_rfl) rfl rfl rfl (Yg c hs) rfl ?_
 refine sI ?_
 refine gO ?_
 refine AP.cond rfl rfl (fun h=>?_) (fun h=>?_)
 ·have h:oz c≠0:=by simpa using h
  refine gO ?_
  exact AE.bm [0] rfl ⟨⟨rfl,Nat.le_of_ble_eq_true (by kernel_rfl)⟩,trivial⟩ rfl ⟨rfl,by rw[iZ,if_pos h];rfl⟩
 have h:¬oz c≠0:=by simpa using h
 rw[if_neg h]at iZ
 have UM:c.length<=40:=Yf h
 refine gE @bn ?_
 refine AP.loop rfl (α:=Nat) (fun k=>[(0,b6 c),(2,.ob 0 0),(13,b6 c),(14,Iv c.length),(15,Iv k)]) (fun k=>[(0,.var 30 [Iv 0])]) (fun k=>k<=c.length/\bp 4 9 2 3 c=iV 2 3 (c.drop k)) (fun k=>c.length-k) 0 ⟨by omega,iZ⟩ (sU) rfl fun k ⟨hk,hm⟩=>?_
 rcases Nat.eq_or_lt_of_le hk with aM|ag
 ·rw[aM,List.drop_length,iV]at hm
  refine gO ?_
  refine cF ?_
  refine gO ?_
  exact AE.bm [0] rfl ⟨⟨rfl,Nat.le_of_ble_eq_true (by kernel_rfl)⟩,trivial⟩ rfl ⟨rfl,by rw[hm];rfl⟩
 ·obtain⟨u,hu,aX⟩:=oC c k ag
  have hw:=wr (x:=(k:Int)+1) (by omega)
  have cY:=tx hs hu
  have zD:=cY.2.1
  rw[drop_cons hu,Lm]at hm
  refine gE @bn ?_
  refine cT ?_
  refine gE (an @aX (an @bn @aw)) ?_
  refine AQ.rK (by kernel_rfl) rfl rfl (fun h=>by first|(simp[gs,AV.g];done)|(simp[gs,AV.g,cn];done)|(simp[gs,AV.g,cn,bw]at h⊢;done)|(simp[gs,AV.g,cn,bw]at h⊢;exact h)|(simp[gs,AV.g,cn,bw]at h⊢;simp[h];done)|(simp[bw]at h;done)|(simp[gs,AV.g,bw]at h⊢;simp[h];done)|(simp[gs,AV.g,bw]at h⊢;exact h.1)|(simp[gs,AV.g];rfl)|(simp[gs,AV.g,bw]at h⊢;rfl)|(simp[gs,AV.g,bw]at h⊢;simp[h];rfl)|(simp[gs,AV.g,bw]at h⊢;simp_all)) rfl (fun _=>N1 u.pd (by have:=cY.1;omega)) rfl ?_
  refine sI ?_
  refine gE @aw ?_
  refine AP.cond rfl rfl (fun h5=>?_) (fun h5=>?_)
  ·have h5:=(Lv u.pd u.xs.length (fI u.pd)).1 h5
   rw[if_pos h5]at hm
   refine gO ?_
   exact AE.bm [1,0] rfl ⟨⟨rfl,Nat.le_of_ble_eq_true (by kernel_rfl)⟩,trivial⟩ rfl ⟨rfl,by rw[hm];rfl⟩
  ·have h5:¬((u.pd≠[61]/\fI u.pd=false)\/(u.pd=[61]/\u.xs.length≠2)):=fun hh=>by
    have h6:=(Lv u.pd u.xs.length (fI u.pd)).2 hh
    exact absurd (h6.symm.trans h5) (by decide)
   rw[if_neg h5]at hm
   have GR:List.drop k (List.take (k+1) (cD c))=cD [u]:=by
    rw[cD,<-List.map_take,<-List.map_drop,dX hu,List.drop_append_of_le_length (by rw[List.length_take];omega),List.drop_take_self];rfl
   have zI:((k:Int)+1).toNat=k+1:=by omega
   refine gE @bn ?_
   rw[hw]
   refine AQ.fix 1 rfl rfl ?_
   refine sE (an @zI @GR) ?_
   refine AQ.fn (by kernel_rfl) rfl rfl rfl (aaB [u]) rfl ?_
   refine sI ?_
   refine gO ?_
   have ht:=fun l=>aaC l u cY
   refine AP.DE 1 0 1 [(2,.ob 0 0)] (R:=fun l _ H'=>H'=[(1,gq l (if eg 2 3 u.xs=0 then .ready else .done .ret)),(0,.var 30 [Iv (eg 2 3 u.xs)])]) rfl rfl (by kernel_rfl) (sU) rfl rfl ht (fun l r H' hR=>?_)
   subst hR
   by_cases hf:eg 2 3 u.xs=0
   ·rw[if_neg (by simpa using hf)]at hm
    rw[if_pos hf,hf]
    refine⟨cu.of _ _ _ rfl,.ready,_,rfl,rfl,?_⟩
    refine sI ?_
    refine gE @hw ?_
    exact AE.round (k+1) ⟨by omega,hm⟩ (by omega) (sU) rfl
   ·rw[if_pos hf]at hm
    rw[if_neg hf]
    refine⟨cu.of _ _ _ rfl,.done .ret,_,rfl,rfl,?_⟩
    refine sI ?_
    refine gO ?_
    exact AE.bm [0] rfl ⟨⟨rfl,Nat.le_of_ble_eq_true (by kernel_rfl)⟩,trivial⟩ rfl ⟨rfl,by rw[hm];rfl⟩
def dA {α:Type}:List (Int×α)->Int->Option Nat
 |[],_=>none
 |p::m,v=>if p.1=v then some 0 else(dA m v).map (·+1)
def aU {α:Type}:List (Int×α)->Int->Option α
 |[],_=>none
 |p::m,v=>if p.1=v then some p.2 else aU m v
def nE {α:Type} (m:List (Int×α)) (v:Int) (x:α):List (Int×α):=match dA m v with
 |some j=>m.set j (v,x)
 |none=>m++[(v,x)]
theorem pE {α:Type}:∀{m:List (Int×α)} {v:Int} {j:Nat},dA m v=some j->∃x,m[j]?=some (v,x)/\aU m v=some x
 |[],v,j,h=>by cases h
 |p::m,v,j,h=>by
  rw[dA]at h
  rw[aU]
  by_cases hp:p.1=v
  ·rw[if_pos hp]at h⊢
   cases h
   exact⟨p.2,by rw[List.getElem?_cons_zero,<-hp],rfl⟩
  ·rw[if_neg hp]at h⊢
   cases hq:dA m v with
   |none=>rw[hq]at h;cases h
   |some i=>
    rw[hq]at h;cases h
    obtain⟨x,U,h2⟩:=pE hq
    exact⟨x,by rw[List.getElem?_cons_succ];exact U,h2⟩
theorem nt {α:Type}:∀{m:List (Int×α)} {v:Int},dA m v=none->aU m v=none/\v∉m.map (·.1)
 |[],v,h=>⟨rfl,by simp⟩
 |p::m,v,h=>by
  rw[dA]at h
  rw[aU]
  by_cases hp:p.1=v
  ·rw[if_pos hp]at h;cases h
  ·rw[if_neg hp]at h⊢
   cases hq:dA m v with
   |some i=>rw[hq]at h;cases h
   |none=>
    obtain⟨U,h2⟩:=nt hq
    exact⟨U,by rw[List.map_cons,List.mem_cons];rintro(h|h);exact hp h.symm;exact h2 h⟩
theorem C9 {α:Type} {m:List (Int×α)} {v:Int}:aU m v=none↔dA m v=none:=by
 constructor
 ·intro h
  cases hq:dA m v with
  |none=>rfl
  |some j=>obtain⟨x,_,h2⟩:=pE hq;rw[h]at h2;cases h2
 ·exact fun h=>(nt h).1
theorem zX {α:Type} {m:List (Int×α)} {v:Int} {x:α} (h:aU m v=some x):∃j,dA m v=some j/\m[j]?=some (v,x):=by
 cases hq:dA m v with
 |none=>rw[(nt hq).1]at h;cases h
 |some j=>
  obtain⟨y,U,h2⟩:=pE hq
  rw[h]at h2;cases h2
  exact⟨j,rfl,U⟩
theorem Oe {α:Type} (m:List (Int×α)) (v:Int) (x:α) (w:Int):aU (nE m v x) w=if w=v then some x else aU m w:=by
 rw[nE]
 have aN:∀(m:List (Int×α)) (j:Nat),dA m v=some j->aU (m.set j (v,x)) w=if w=v then some x else aU m w:=by
  intro m
  induction m with
  |nil=>intro j h;cases h
  |cons p m ih=>
   intro j h
   rw[dA]at h
   by_cases hp:p.1=v
   ·rw[if_pos hp]at h;cases h
    rw[List.set_cons_zero,aU,aU]
    by_cases hw:w=v
    ·rw[if_pos hw,if_pos hw.symm]
    ·rw[if_neg hw,if_neg (fun h=>hw h.symm),if_neg (fun h=>hw (h.symm.trans hp))]
   ·rw[if_neg hp]at h
    cases hq:dA m v with
    |none=>rw[hq]at h;cases h
    |some i=>
     rw[hq]at h;cases h
     rw[List.set_cons_succ,aU,aU,ih i hq]
     by_cases hw:w=v
     ·rw[if_pos hw,if_neg (fun h=>hp (h.trans hw)),if_pos hw]
     ·rw[if_neg hw,if_neg hw]
 cases hq:dA m v with
 |some j=>exact aN m j hq
 |none=>
  have h0:=(nt hq).1
  have FO:∀m:List (Int×α),aU (m++[(v,x)]) w=match aU m w with
   |some y=>some y
   |none=>if v=w then some x else none:=by
   intro m
   induction m with
   |nil=>rw[List.nil_append,aU,aU,aU]
   |cons p m ih=>
    rw[List.cons_append,aU,aU]
    by_cases hp:p.1=w
    ·rw[if_pos hp,if_pos hp]
    ·rw[if_neg hp,if_neg hp,ih]
  rw[FO]
  by_cases hw:w=v
  ·subst hw;simp only[h0,if_pos]
  ·rw[if_neg hw]
   cases aU m w with
   |some y=>rfl
   |none=>simp only[if_neg (fun h=>hw (Eq.symm h))]
def kI {α:Type} (m:List (Int×α)):List Value:=m.map fun p=> .int .i64 p.1
theorem wI {α:Type} (m:List (Int×α)):(kI m).length=m.length:=List.length_map ..
theorem gF {α:Type} (m:List (Int×α)):te (.int .i64) (kI m):=fun v hv=>by
 obtain⟨p,_,rfl⟩:=List.mem_map.1 hv
 rfl
theorem Hj {α:Type} (m:List (Int×α)):∀k∈kI m,k.oneCell'=true:=fun v hv=>by
 obtain⟨p,_,rfl⟩:=List.mem_map.1 hv
 rfl
theorem mA {α:Type} {m:List (Int×α)} {v:Int} (h:dA m v=none):Value.int .i64 v∉kI m:=fun hc=>by
 obtain⟨p,hp,e⟩:=List.mem_map.1 hc
 cases e
 exact(nt h).2 (List.mem_map.2 ⟨p,hp,rfl⟩)
theorem qQ {α:Type} {m:List (Int×α)} {j:Nat} {p:Int×α} (h:m[j]?=some p):(kI m)[j]?=some (.int .i64 p.1):=by rw[kI,List.getElem?_map,h];rfl
theorem C2 {α:Type} {m:List (Int×α)} {j:Nat} {k:Value} (h:(kI m)[j]?=some k):∃p,m[j]?=some p/\k= .int .i64 p.1:=by
 rw[kI,List.getElem?_map]at h
 cases hq:m[j]? with
 |none=>rw[hq]at h;cases h
 |some p=>rw[hq]at h;exact⟨p,rfl,by simpa using h.symm⟩
def eE {α:Type} (m:List (Int×α)):Prop:=(m.map (·.1)).Nodup
theorem qR {α:Type} {m:List (Int×α)} (bS:eE m) {v:Int} {x:α} {j i:Nat} (hj:m[j]?=some (v,x)) (hi:(kI m)[i]?=some (.int .i64 v)):i=j:=by
 obtain⟨p,hp,e⟩:=C2 hi
 cases e
 have U:(m.map (·.1))[i]?=some p.1:=by rw[List.getElem?_map,hp];rfl
 have h2:(m.map (·.1))[j]?=some p.1:=by rw[List.getElem?_map,hj];rfl
 obtain⟨a1,b1⟩:=List.getElem?_eq_some_iff.1 U
 obtain⟨a2,b2⟩:=List.getElem?_eq_some_iff.1 h2
 exact(List.getElem_inj bS).1 (b1.trans b2.symm)
theorem Hk {α:Type} (m:List (Int×α)) (v:Int) (x:α):kI (nE m v x)=match dA m v with
  |some _=>kI m
  |none=>kI m++[.int .i64 v]:=by
 rw[nE]
 cases h:dA m v with
 |none=>simp[kI]
 |some j=>
  obtain⟨y,U,_⟩:=pE h
  simp only[kI,List.map_set]
  exact List.ext_getElem? fun i=>by
   rw[List.getElem?_set]
   by_cases fC:j=i
   ·subst fC
    rw[if_pos rfl,List.getElem?_map,U]
    have:=(List.getElem?_eq_some_iff.1 U).1
    rw[if_pos (by simpa using this)];rfl
   ·rw[if_neg fC]
theorem H_ {α:Type} {m:List (Int×α)} (h:eE m) (v:Int) (x:α):eE (nE m v x):=by
 have hk:(nE m v x).map (·.1)=match dA m v with
  |some _=>m.map (·.1)
  |none=>m.map (·.1)++[v]:=by
  have:=Hk m v x
  have hi:∀m:List (Int×α),(kI m).map (fun u=>match u with| .int _ n=>n|_=>0)=m.map (·.1):=fun m=>by simp[kI,Function.comp_def]
  rw[<-hi (nE m v x),this]
  cases dA m v with
  |some j=>exact hi m
  |none=>rw[List.map_append,hi];rfl
 rw[eE,hk]
 cases hq:dA m v with
 |some j=>exact h
 |none=>
  refine List.nodup_append.2 ⟨h,by simp,fun a ha b hb=>?_⟩
  rw[List.mem_singleton]at hb
  subst hb
  exact fun e=>(nt hq).2 (e▸ha)
theorem HZ {α:Type}:∀{m:List (Int×α)} {v:Int} {x:α},eE m->(v,x)∈m->aU m v=some x
 |[],v,x,_,h=>by cases h
 |p::m,v,x,bS,h=>by
  rw[eE,List.map_cons,List.nodup_cons]at bS
  rw[aU]
  rcases List.mem_cons.1 h with rfl|h
  ·rw[if_pos rfl]
  ·rw[if_neg (fun e=>bS.1 (List.mem_map.2 ⟨(v,x),h,e.symm⟩)),HZ bS.2 h]
theorem nw {α:Type} {m:List (Int×α)} {v:Int} {x:α} (h:aU m v=some x):(v,x)∈m:=by
 obtain⟨j,_,h2⟩:=zX h
 exact List.mem_of_getElem? h2
def vN (m:List (Int×Int)):List AV:=m.map fun p=>Iv p.2
theorem aa5 (m:List (Int×Int)):(vN m).length=m.length:=List.length_map ..
@[go_sem] theorem Am (ρ:Nat->Nat):∀m:List (Int×Int),AV.cO ρ (vN m)=vN m
 |[]=>rfl
 |_::m=>by rw[vN,List.map_cons,AV.cO,<-vN,Am ρ m];rfl
@[go_sem] theorem XU (b:Nat):∀m:List (Int×Int),iO b (vN m)=vN m
 |[]=>rfl
 |_::m=>by rw[vN,List.map_cons,iO,<-vN,XU b m];rfl
@[go_sem] theorem hY (b:Nat):∀m:List (Int×Int),AV.mens b (vN m)=false
 |[]=>rfl
 |_::m=>by rw[vN,List.map_cons,AV.mens,<-vN,hY b m];rfl
@[go_sem] theorem Ur (b:Nat):∀m:List (Int×Int),AV.iX b (vN m)=false
 |[]=>rfl
 |_::m=>by rw[vN,List.map_cons,AV.iX,<-vN,Ur b m];rfl
@[go_sem] theorem Lz (b:Nat) (l:List IV):∀m:List (Int×Int),iW b l (vN m)=vN m
 |[]=>rfl
 |_::m=>by rw[vN,List.map_cons,iW,<-vN,Lz b l m];rfl
@[go_sem] theorem Uh (b es:Nat) (rows:List (List IV)):∀m:List (Int×Int),gy b es rows (vN m)=vN m
 |[]=>rfl
 |_::m=>by rw[vN,List.map_cons,gy,<-vN,Uh b es rows m];rfl
@[go_sem] theorem Ue (b:Nat) (rows:List (List IV)):∀m:List (Int×Int),fx b rows (vN m)=True
 |[]=>rfl
 |_::m=>by rw[vN,List.map_cons,fx,<-vN,Ue b rows m];simp[eh]
theorem D8 {m:List (Int×Int)} {j:Nat} {p:Int×Int} (h:m[j]?=some p):(vN m)[j]?=some (Iv p.2):=by rw[vN,List.getElem?_map,h];rfl
theorem Rh (m:List (Int×Int)) (v:Int) (x:Int):vN (nE m v x)=match dA m v with
  |some j=>(vN m).set j ((fun p:Int×Int=>Iv p.2) (v,x))
  |none=>vN m++[(fun p:Int×Int=>Iv p.2) (v,x)]:=by
 rw[nE]
 cases dA m v with
 |none=>simp only[vN,List.map_append];rfl
 |some j=>simp[vN,List.map_set]
def vT (m:List (Int×Tm)):List AV:=m.map fun p=>bf p.2
theorem aa6 (m:List (Int×Tm)):(vT m).length=m.length:=List.length_map ..
@[go_sem] theorem xf (ρ:Nat->Nat):∀m:List (Int×Tm),AV.cO ρ (vT m)=vT m
 |[]=>rfl
 |_::m=>by rw[vT,List.map_cons,AV.cO,<-vT,xf ρ m];rfl
@[go_sem] theorem XV (b:Nat):∀m:List (Int×Tm),iO b (vT m)=vT m
 |[]=>rfl
 |_::m=>by rw[vT,List.map_cons,iO,<-vT,XV b m];rfl
@[go_sem] theorem fH (b:Nat):∀m:List (Int×Tm),AV.mens b (vT m)=false
 |[]=>rfl
 |_::m=>by rw[vT,List.map_cons,AV.mens,<-vT,fH b m];rfl
@[go_sem] theorem Us (b:Nat):∀m:List (Int×Tm),AV.iX b (vT m)=false
 |[]=>rfl
 |_::m=>by rw[vT,List.map_cons,AV.iX,<-vT,Us b m];rfl
@[go_sem] theorem Uc (b:Nat) (l:List IV):∀m:List (Int×Tm),iW b l (vT m)=vT m
 |[]=>rfl
 |_::m=>by rw[vT,List.map_cons,iW,<-vT,Uc b l m];rfl
@[go_sem] theorem Ui (b es:Nat) (rows:List (List IV)):∀m:List (Int×Tm),gy b es rows (vT m)=vT m
 |[]=>rfl
 |_::m=>by rw[vT,List.map_cons,gy,<-vT,Ui b es rows m];rfl
@[go_sem] theorem Uf (b:Nat) (rows:List (List IV)):∀m:List (Int×Tm),fx b rows (vT m)=True
 |[]=>rfl
 |_::m=>by rw[vT,List.map_cons,fx,<-vT,Uf b rows m];simp[eh,fx]
theorem Jb {m:List (Int×Tm)} {j:Nat} {p:Int×Tm} (h:m[j]?=some p):(vT m)[j]?=some (bf p.2):=by rw[vT,List.getElem?_map,h];rfl
def vZ (m:List (Int×Int×Int)):List AV:=m.map fun p=> .agg [Iv p.2.1,Iv p.2.2]
@[go_sem] theorem IE (ρ:Nat->Nat):∀m:List (Int×Int×Int),AV.cO ρ (vZ m)=vZ m
 |[]=>rfl
 |_::m=>by rw[vZ,List.map_cons,AV.cO,<-vZ,IE ρ m];rfl
@[go_sem] theorem XW (b:Nat):∀m:List (Int×Int×Int),iO b (vZ m)=vZ m
 |[]=>rfl
 |_::m=>by rw[vZ,List.map_cons,iO,<-vZ,XW b m];rfl
@[go_sem] theorem iP (b:Nat):∀m:List (Int×Int×Int),AV.mens b (vZ m)=false
 |[]=>rfl
 |_::m=>by rw[vZ,List.map_cons,AV.mens,<-vZ,iP b m];rfl
@[go_sem] theorem Ut (b:Nat):∀m:List (Int×Int×Int),AV.iX b (vZ m)=false
 |[]=>rfl
 |_::m=>by rw[vZ,List.map_cons,AV.iX,<-vZ,Ut b m];rfl
@[go_sem] theorem Ud (b:Nat) (l:List IV):∀m:List (Int×Int×Int),iW b l (vZ m)=vZ m
 |[]=>rfl
 |_::m=>by rw[vZ,List.map_cons,iW,<-vZ,Ud b l m];rfl
@[go_sem] theorem Uj (b es:Nat) (rows:List (List IV)):∀m:List (Int×Int×Int),gy b es rows (vZ m)=vZ m
 |[]=>rfl
 |_::m=>by rw[vZ,List.map_cons,gy,<-vZ,Uj b es rows m];rfl
@[go_sem] theorem Ug (b:Nat) (rows:List (List IV)):∀m:List (Int×Int×Int),fx b rows (vZ m)=True
 |[]=>rfl
 |_::m=>by rw[vZ,List.map_cons,fx,<-vZ,Ug b rows m];simp[eh,fx]
theorem aa7 {m:List (Int×Int×Int)} {j:Nat} {p:Int×Int×Int} (h:m[j]?=some p):(vZ m)[j]?=some (.agg [Iv p.2.1,Iv p.2.2]):=by rw[vZ,List.getElem?_map,h];rfl
section
open Go.MapKept
variable {C:Cx} {K:List PK} {E:Env} {H:aa}
theorem AQ.HM {ds:List (Nat×Nat)} {i:Nat} {d:Option Nat} {ty t kt et:TypeId} {pos:String} {af:Array Edge} {os:List Oper} {m k:Operand} {ok:Bool} {b:Nat} {ks:List Value} {cs:List AV} {kv z:Value} {dk:TypeDesc} (xz:AV)
  (ah:a7 C.n ({dst:=d,op:= .lookup t m k ok,type:=ty,pos:=pos,after:=af,guard:=none}::os)=true)
  (hm:ev E m=some (.mp b)) (hk:ev E k=some (.im (.v kv))) (hH:lk H b=some (.var (.map ks) cs)) (ht:C.P.underlying t=some (.map kt et)) (hd:C.P.underlying kt=some dk)
  (fi:te dk ks) (gZ:Go.MapKept.IsKey dk kv) (dC:kv∉ks) (hz:(C.P.info? et).bind (·.zero)=some z) (fk:∀w φ I,AV.den w φ I xz z)
  (h:vq C K os (aW d i ds) (i+1) (aY d (bif ok then .aG [xz,.im (.v (.bool false))]else xz) E) H):
  AQ C ds i ({dst:=d,op:= .lookup t m k ok,type:=ty,pos:=pos,after:=af,guard:=none}::os) K E H:=by
 refine AQ.val (bif ok then .aG [xz,.im (.v (.bool false))]else xz) ah rfl (fun φ I a w hs=>?_) h
 obtain⟨g,es,clock,fj,hg,hh,aM,lI,jV⟩:=uI hs.st.real hH (aH hs.env hm)
 have gB:=aH hs.env hk
 simp only[AV.den,IV.den]at gB
 rcases z_ aM fi gZ with⟨U,_⟩|⟨j',e,U,h2,h3,h4⟩
 ·have zO:(zeroValue et).run C.P w= .ok z w:=by
   cases hi:C.P.info? et with
   |none=>rw[hi]at hz;cases hz
   |some inf=>
    rw[hi]at hz
    simp only[Option.bind_some]at hz
    simp[zeroValue,typeInfo,hi,hz]
  have aB:(Instr.lookup t (a.eval m) (a.eval k) ok).run C.P w= .ok (if ok then .tuple #[z,.bool false]else z) w:=by
   rw[fj,gB.1]
   cases ok<;>simp[Instr.lookup,run_underlying ht,MapKept.run_getObj_map hh,run_checkKey hd gZ,run_findKey hd U,zO,Result.andThen]
  refine⟨if ok then .tuple #[z,.bool false]else z,by simp only[execOp,Sem.run_bind,Sem.run_map,aB,Result.andThen_ok,Sem.run_pure],?_⟩
  cases ok with
  |true=>simp only[cond_true,if_true,AV.den,AV.ab,IV.den];exact⟨_,⟨_,_,rfl,fk _ _ _,_,_,rfl,⟨rfl,rfl⟩,rfl⟩,rfl⟩
  |false=>simp only[cond_false,Bool.false_eq_true,if_false];exact fk _ _ _
 ·exact absurd (List.mem_of_getElem? h4) dC
end
theorem u3:Tryz.prog.underlying 3=some (.int .i64):=by kernel_rfl
theorem oP:Tryz.prog.underlying 149=some (.map 3 3):=by kernel_rfl
def bump (m:List (Int×Int)) (v:Int):List (Int×Int):=nE m v ((aU m v).getD 0+1)
def stM (m:List (Int×Int)) (x:Tm):List (Int×Int):=if x.nm=[]then bump m x.ix else m
def eu (xs:List Tm):List (Int×Int):=xs.foldl stM []
def ly (xs:List Tm):List Int:=xs.flatMap fun x=>if x.nm=[]then[x.ix]else[]
theorem Tw (xs:List Tm) (x:Tm):eu (xs++[x])=stM (eu xs) x:=by rw[eu,List.foldl_append];rfl
theorem Lu:∀(xs:List Tm) (m:List (Int×Int)),eE m->eE (xs.foldl stM m)
 |[],m,h=>h
 |x::xs,m,h=>Lu xs _ (by
   rw[stM]
   by_cases hx:x.nm=[]
   ·rw[if_pos hx];exact H_ h _ _
   ·rw[if_neg hx];exact h)
theorem Bt (xs:List Tm):eE (eu xs):=Lu xs [] List.nodup_nil
theorem Ls:∀(xs:List Tm) (m:List (Int×Int)) (v:Int),(∀v,(aU m v).getD 0≥0/\(aU m v=none\/(aU m v).getD 0>0))->
  (aU (xs.foldl stM m) v).getD 0=(aU m v).getD 0+(ly xs).count v/\(aU (xs.foldl stM m) v=none\/(aU (xs.foldl stM m) v).getD 0>0)
 |[],m,v,h=>⟨by simp[ly],(h v).2⟩
 |x::xs,m,v,h=>by
  have U:∀v,(aU (stM m x) v).getD 0=(aU m v).getD 0+((if x.nm=[]then[x.ix]else[]):List Int).count v:=fun v=>by
   rw[stM]
   by_cases hx:x.nm=[]
   ·rw[if_pos hx,if_pos hx,bump,Oe]
    by_cases hv:v=x.ix
    ·subst hv;rw[if_pos rfl];simp
    ·rw[if_neg hv,List.count_cons_of_ne (fun e=>hv e.symm)];simp
   ·rw[if_neg hx,if_neg hx];simp
  have h2:∀v,(aU (stM m x) v).getD 0≥0/\(aU (stM m x) v=none\/(aU (stM m x) v).getD 0>0):=fun v=>by
   refine⟨by rw[U];have:=(h v).1;omega,?_⟩
   by_cases hx:x.nm=[]
   ·by_cases hv:v=x.ix
    ·refine .inr ?_
     rw[U,if_pos hx,<-hv]
     have:=(h v).1
     simp;omega
    ·rw[stM,if_pos hx,bump,Oe,if_neg hv];exact(h v).2
   ·rw[stM,if_neg hx];exact(h v).2
  obtain⟨a,b⟩:=Ls xs (stM m x) v h2
  rw[List.foldl_cons]
  refine⟨?_,b⟩
  rw[a,U,show ly (x::xs)=(if x.nm=[]then[x.ix]else[])++ly xs by simp[ly],List.count_append]
  omega
theorem yk (xs:List Tm) (v:Int):(aU (eu xs) v).getD 0=(ly xs).count v:=by
 have:=(Ls xs [] v fun v=>⟨by simp[aU],.inl rfl⟩).1
 rw[eu,this];simp[aU]
mutual
theorem AG:∀t,dm t=ly (bZ t)
 | .mk n i xs=>by
  rw[dm,bZ,Rr xs]
  by_cases h:n=[]<;>simp[ly,Tm.nm,Tm.ix,h]
theorem Rr:∀l,bJ l=ly (cG l)
 |[]=>by rw[bJ,cG];rfl
 |t::l=>by rw[bJ,cG,AG t,Rr l];simp[ly]
end
mutual
theorem Ru:∀t,wT t=(bZ t).length
 | .mk n i xs=>by rw[wT,bZ,Rw xs,List.length_cons];omega
theorem Rw:∀l,aK l=(cG l).length
 |[]=>by rw[aK,cG];rfl
 |t::l=>by rw[aK,cG,Ru t,Rw l,List.length_append]
end
theorem count_le (xs:List Tm) (v:Int):(ly xs).count v<=xs.length:=by
 induction xs with
 |nil=>simp[ly]
 |cons x xs ih=>
  rw[show ly (x::xs)=(if x.nm=[]then[x.ix]else[])++ly xs by simp[ly],List.count_append,List.length_cons]
  have:((if x.nm=[]then[x.ix]else[]):List Int).count v<=1:=by
   by_cases hx:x.nm=[]
   ·rw[if_pos hx];exact Nat.le_trans (List.count_le_length) (by simp)
   ·rw[if_neg hx];simp
  omega
noncomputable def tz (l:Nat) (st:iq):Ob:= .lp l 23 st Tryz.f208 [0,1,0,1,1] [10] [(4,.ob 1 0),(5,.ob 2 0)]
noncomputable def rD (l:Nat) (st:iq) (xs:List Tm):aa:=[(4,s_ l 4),(3,tz l st),(2,.var 3 [Iv xs.length]),(1,.var 149 [.mp 0]),(0,.var (.map (kI (eu xs))) (vN (eu xs)))]
theorem TA (l:Nat) (xs:List Tm) (x:Tm) (hx:xs.length<=1000000):gN Tryz.prog 5 l [bf x] (rD l .ready xs) (fun r H'=>r=Bv true/\H'=rD l .ready (xs++[x])):=by
 have hw:=wr (x:=(xs.length:Int)+1) (by omega)
 have bP:=Tw xs x
 have bS:=Bt xs
 have iF:∀v,(0:Int)<=(aU (eu xs) v).getD 0/\(aU (eu xs) v).getD 0<=xs.length:=fun v=>by rw[yk];have:=count_le xs v;omega
 have hlen:((xs.length:Int)+1)=((xs++[x]).length:Nat):=by simp
 refine gN.walk (b:=3) [4,5,6,10,15] [4,5] rfl rfl rfl fun w own I0 aq lay=>?_
 simp only[go_sem,Nat.reduceAdd,Nat.reduceLeDiff,Nat.reduceSub,Int.reduceToNat,reduceCtorEq,p3,rD,tz]
 refine gO ?_
 refine AE.begin (b:=3) rfl rfl _ ?_
 refine sI ?_
 refine gE @hw ?_
 refine AP.fix 5 rfl rfl ?_
 refine sI ?_
 refine AP.cond rfl rfl (fun h=>?_) (fun h=>?_)
 ·have h:x.nm=[]:=by simpa using h
  rw[stM,if_pos h,bump]at bP
  refine gO ?_
  cases hq:dA (eu xs) x.ix with
  |none=>
   have om:(aU (eu xs) x.ix).getD 0=0:=by rw[(nt hq).1];rfl
   rw[om]at bP
   refine AQ.Df (by kernel_rfl) rfl rfl rfl oP u3 (gF _) rfl (mA hq) rfl rfl ?_
   refine sI ?_
   refine gO ?_
   refine AQ.Ab (by kernel_rfl) rfl rfl rfl rfl oP u3 (gF _) rfl (mA hq) ?_
   refine sI ?_
   refine gO ?_
   refine AE.xh (b:=3) rfl ⟨rfl,?_⟩
   have e1:=Hk (eu xs) x.ix (0+1)
   have e2:=Rh (eu xs) x.ix (0+1)
   rw[hq]at e1 e2
   rw[bP,<-hlen,e1,e2];rfl
  |some j=>
   obtain⟨y,U,h2⟩:=pE hq
   refine AQ.sF j (by kernel_rfl) rfl rfl rfl oP u3 (gF _) rfl (List.mem_of_getElem? (qQ U)) (fun i hi=>qR bS U hi) (D8 U) ?_
   have hy:=iF x.ix
   rw[h2]at bP hy
   have NB:=wr (x:=y+1) (by simp only[Option.getD_some]at hy;omega)
   refine sI ?_
   refine gE @NB ?_
   refine AQ.HV j (by kernel_rfl) rfl rfl rfl rfl oP u3 (gF _) rfl (List.mem_of_getElem? (qQ U)) (fun i hi=>qR bS U hi) ?_
   refine sI ?_
   refine gO ?_
   refine AE.xh (b:=3) rfl ⟨rfl,?_⟩
   have e1:=Hk (eu xs) x.ix (y+1)
   have e2:=Rh (eu xs) x.ix (y+1)
   rw[hq]at e1 e2
   rw[bP,<-hlen,Option.getD_some,e1,e2,NB];rfl
 ·have h:¬x.nm=[]:=by simpa using h
  rw[stM,if_neg h]at bP
  refine gO ?_
  exact AE.xh (b:=3) rfl ⟨rfl,by rw[bP,<-hlen];rfl⟩
theorem Ky (t:Tm) (ht:aR t) (hw:wT t<=1000000):ao Tryz.prog 208 [bf t] [] (fun r H'=>r= .aG [.mp 0,Iv (wT t)]/\H'=[(0,.var (.map (kI (eu (bZ t)))) (vN (eu (bZ t))))]):=by
 refine ao.walk [0,1,2,3,4,5,6,9,10,15] [4,5,6] Tryz.func208 rfl Tryz.ntmps208 (by kernel_rfl) (by rfl) rfl fun W own I0 aq lay=>?_
 refine gO ?_
 refine AQ.wW (by kernel_rfl) ?_
 refine sI ?_
 refine gO ?_
 refine AQ.fn (by kernel_rfl) rfl rfl rfl (QM t) rfl ?_
 refine sI ?_
 refine gO ?_
 have hlen:=Ru t
 have ja:∀l k k',cu 5 (rD l .ready ((bZ t).take k)) (rD l .ready ((bZ t).take k')):=fun l k k'=>cu.of _ _ _ rfl
 refine AP.DE 3 0 3 [(4,.ob 1 0),(5,.ob 2 0)] (R:=fun l=>Iy (fun k=>rD l .ready ((bZ t).take k)) (bZ t).length [(4,s_ l 4),(3,tz l .ready),(2,.var 3 []),(1,.var 3 []),(0,.var 3 [])] (bZ t).length) rfl rfl (by kernel_rfl) (sU) rfl rfl (fun l=>?_) (fun l r H' hR=>?_)
 ·refine QL (nb:=3) (M:=4) (m:=(bZ t).length) (Hs:=fun k=>[(3,tz l .ready),(2,.var 3 [Iv ((bZ t).take k).length]),(1,.var 149 [.mp 0]),(0,.var (.map (kI (eu ((bZ t).take k)))) (vN (eu ((bZ t).take k))))]) (Hx:=[(3,tz l .ready),(2,.var 3 []),(1,.var 3 []),(0,.var 3 [])]) t ht ⟨fun k hk zd=>?_,fun hk=>absurd hk (Nat.lt_irrefl _),fun k k'=>ja l k k',fun k=>cu.of _ _ _ rfl⟩ rfl (fun _=>rfl) (fun _ _=>?_)
  ·obtain⟨u,hu⟩:∃u,(bZ t)[k]?=some u:=⟨_,List.getElem?_eq_getElem zd⟩
   have:=TA l ((bZ t).take k) u (by rw[List.length_take];omega)
   rw[Ay hu]
   rw[<-dX hu]at this
   exact this
  ·simp only[jR,rM,iW,fV,Lz];rfl
 ·rcases hR with⟨U,rfl⟩|⟨U,rfl⟩
  ·refine⟨cu.of _ _ _ rfl,.ready,_,rfl,by simp only[go_sem,Nat.reduceAdd,Nat.reduceLeDiff,Nat.reduceSub,Int.reduceToNat,reduceCtorEq,rD,tz,noMen,AV.mens,AV.men,hY,Bool.or_false];first|done|rfl,?_⟩
   simp only[go_sem,Nat.reduceAdd,Nat.reduceLeDiff,Nat.reduceSub,Int.reduceToNat,reduceCtorEq,rD,tz,List.take_length]
   refine gO ?_
   exact AE.bm [4,2,1] rfl ⟨rfl,rfl,trivial⟩ (by simp only[go_sem,Nat.reduceAdd,Nat.reduceLeDiff,Nat.reduceSub,Int.reduceToNat,reduceCtorEq,bN,noMen,AV.mens,AV.men,hY,Bool.or_false];first|done|rfl) ⟨by rw[hlen];rfl,rfl⟩
  ·exact absurd U (Nat.lt_irrefl _)
def rl (bs seen:List Nat):Nat:=(bs.filter fun n=>decide (n∉seen)).length
theorem I9 {bs seen:List Nat} {n:Nat} (h:n∈bs) (hs:n∉seen):rl bs (seen++[n])<rl bs seen:=by
 induction bs with
 |nil=>cases h
 |cons a l ih=>
  have hle:∀l:List Nat,rl l (seen++[n])<=rl l seen:=fun l=>by
   induction l with
   |nil=>exact Nat.le_refl _
   |cons b m NT=>
    unfold rl at NT⊢
    by_cases hb:b∈seen
    ·rw[List.filter_cons_of_neg (by simp[hb]),List.filter_cons_of_neg (by simp[hb])];exact NT
    ·by_cases eK:b=n
     ·rw[List.filter_cons_of_neg (by simp[eK]),List.filter_cons_of_pos (by simp[hb]),List.length_cons];omega
     ·rw[List.filter_cons_of_pos (by simp[hb,eK]),List.filter_cons_of_pos (by simp[hb]),List.length_cons,List.length_cons];omega
  by_cases FN:a=n
  ·subst FN
   have:=hle l
   unfold rl at this⊢
   rw[List.filter_cons_of_neg (by simp),List.filter_cons_of_pos (by simp[hs]),List.length_cons];omega
  ·have U:n∈l:=by rcases List.mem_cons.1 h with e|e;exact absurd e.symm FN;exact e
   have h2:=ih U
   unfold rl at h2⊢
   by_cases ha:a∈seen
   ·rw[List.filter_cons_of_neg (by simp[ha]),List.filter_cons_of_neg (by simp[ha])];exact h2
   ·rw[List.filter_cons_of_pos (by simp[ha,FN]),List.filter_cons_of_pos (by simp[ha]),List.length_cons,List.length_cons];omega
def qg (a b:List (Int×Int)):Bool:=b.all fun p=>decide (p.2<=(aU a p.1).getD 0)
theorem TM (a b:List (Int×Int)) (ha:eE a) (hb:eE b):ao Tryz.prog 209 [.mp 0,.mp 1] [(1,.var (.map (kI b)) (vN b)),(0,.var (.map (kI a)) (vN a))] (fun r H'=>r=Bv (qg a b)/\H'=[(1,.var (.map (kI b)) (vN b)),(0,.var (.map (kI a)) (vN a))]):=by
 refine ao.walk [0,1,4,5,6,8,10,18] [] Tryz.func209 rfl Tryz.ntmps209 (by kernel_rfl) (by rfl) rfl fun W own I0 aq lay=>?_
 refine gO ?_
 refine AQ.HU (by kernel_rfl) rfl rfl oP fun bs clock bG=>?_
 have cz:(vN b).length=bs.length:=by rw[<-bG.len,aa5,wI]
 have jx:=Hj b
 refine sI ?_
 refine gO ?_
 refine AP.loop rfl (α:=List Nat) (fun _=>[(0,.mp 0),(8,.ob 2 0)]) (fun seen=>[(2,.var (.raw (j0 clock seen clock)) [.mp 1]),(1,.var (.raw (k9 (kI b) bs clock)) (vN b)),(0,.var (.map (kI a)) (vN a))])
  (fun seen=>∀(j n:Nat) (p:Int×Int),bs[j]?=some n->n∈seen->b[j]?=some p->p.2<=(aU a p.1).getD 0) (fun seen=>rl bs seen) [] (fun _ _ _ _ h _=>by cases h) (sU) rfl fun seen GN=>?_
 refine gO ?_
 refine AQ.HS (by kernel_rfl) rfl rfl rfl bG rfl rfl jx cz (fun iE=>?_) (fun j n key y eK qE pj hy=>?_)
 ·have mZ:qg a b=true:=by
   rw[qg,List.all_eq_true]
   intro p hp
   obtain⟨j,hj⟩:=List.mem_iff_getElem?.1 hp
   have pg:j<bs.length:=by have:=(List.getElem?_eq_some_iff.1 hj).1;rw[<-bG.len,wI];exact this
   exact decide_eq_true (GN j bs[j] p (List.getElem?_eq_getElem pg) (iE _ (List.getElem_mem _)) hj)
  refine sI ?_
  refine gO ?_
  refine AE.oD 1 rfl bG cz ?_
  refine sI ?_
  exact AE.bm [2] rfl ⟨rfl,trivial⟩ (by simp only[go_sem,Nat.reduceAdd,Nat.reduceLeDiff,Nat.reduceSub,Int.reduceToNat,reduceCtorEq,bN,noMen,AV.mens,AV.men,hY,Bool.or_false];first|done|rfl) ⟨by rw[mZ];rfl,rfl⟩
 ·obtain⟨p,hp,rfl⟩:=C2 pj
  have zL:=D8 hp
  rw[hy]at zL
  cases zL
  refine sI ?_
  refine gO ?_
  refine AQ.HP (by kernel_rfl) rfl rfl rfl bG jx cz eK pj hy ?_
  refine sI ?_
  refine gO ?_
  cases hq:dA a p.1 with
  |none=>
   refine AQ.Df (by kernel_rfl) rfl rfl rfl oP u3 (gF _) rfl (mA hq) rfl rfl ?_
   have hv:(aU a p.1).getD 0=0:=by rw[(nt hq).1];rfl
   refine sI ?_
   refine gO ?_
   refine AP.cond rfl rfl (fun h5=>?_) (fun h5=>?_)
   ·have h5:¬p.2<=(aU a p.1).getD 0:=by rw[hv];simp at h5;omega
    have mZ:qg a b=false:=by
     rw[<-Bool.not_eq_true,qg,List.all_eq_true]
     exact fun hc=>h5 (by simpa using hc p (List.mem_of_getElem? hp))
    refine gO ?_
    refine AE.oD 1 rfl bG cz ?_
    refine sI ?_
    exact AE.bm [2] rfl ⟨rfl,trivial⟩ (by simp only[go_sem,Nat.reduceAdd,Nat.reduceLeDiff,Nat.reduceSub,Int.reduceToNat,reduceCtorEq,bN,noMen,AV.mens,AV.men,hY,Bool.or_false];first|done|rfl) ⟨by rw[mZ];rfl,rfl⟩
   ·have h5:p.2<=(aU a p.1).getD 0:=by rw[hv];simp at h5;omega
    refine gO ?_
    refine AE.round (seen++[n]) (fun j' n' v' h7 h8 h9=>?_) (I9 (List.mem_of_getElem? eK) qE) (sU) rfl
    rcases List.mem_append.1 h8 with h8|h8
    ·exact GN j' n' v' h7 h8 h9
    ·have e1:n'=n:=by simpa using h8
     subst e1
     have e2:j'=j:=by
      obtain⟨a1,b1⟩:=List.getElem?_eq_some_iff.1 h7
      obtain⟨a2,b2⟩:=List.getElem?_eq_some_iff.1 eK
      exact(List.getElem_inj bG.nd).1 (b1.trans b2.symm)
     subst e2
     rw[hp]at h9
     cases h9
     exact h5
  |some j'=>
   obtain⟨x,U,h2⟩:=pE hq
   have hv:(aU a p.1).getD 0=x:=by rw[h2];rfl
   refine AQ.sF j' (by kernel_rfl) rfl rfl rfl oP u3 (gF _) rfl (List.mem_of_getElem? (show(kI a)[j']?=some (.int .i64 p.1) from qQ (p:=(p.1,x)) U)) (fun i hi=>qR ha U hi) (show(vN a)[j']?=some (Iv x) from D8 (p:=(p.1,x)) U) ?_
   refine sI ?_
   refine gO ?_
   refine AP.cond rfl rfl (fun h5=>?_) (fun h5=>?_)
   ·have h5:¬p.2<=(aU a p.1).getD 0:=by rw[hv];simp at h5;omega
    have mZ:qg a b=false:=by
     rw[<-Bool.not_eq_true,qg,List.all_eq_true]
     exact fun hc=>h5 (by simpa using hc p (List.mem_of_getElem? hp))
    refine gO ?_
    refine AE.oD 1 rfl bG cz ?_
    refine sI ?_
    exact AE.bm [2] rfl ⟨rfl,trivial⟩ (by simp only[go_sem,Nat.reduceAdd,Nat.reduceLeDiff,Nat.reduceSub,Int.reduceToNat,reduceCtorEq,bN,noMen,AV.mens,AV.men,hY,Bool.or_false];first|done|rfl) ⟨by rw[mZ];rfl,rfl⟩
   ·have h5:p.2<=(aU a p.1).getD 0:=by rw[hv];simp at h5;omega
    refine gO ?_
    refine AE.round (seen++[n]) (fun j' n' v' h7 h8 h9=>?_) (I9 (List.mem_of_getElem? eK) qE) (sU) rfl
    rcases List.mem_append.1 h8 with h8|h8
    ·exact GN j' n' v' h7 h8 h9
    ·have e1:n'=n:=by simpa using h8
     subst e1
     have e2:j'=j:=by
      obtain⟨a1,b1⟩:=List.getElem?_eq_some_iff.1 h7
      obtain⟨a2,b2⟩:=List.getElem?_eq_some_iff.1 eK
      exact(List.getElem_inj bG.nd).1 (b1.trans b2.symm)
     subst e2
     rw[hp]at h9
     cases h9
     exact h5
theorem TJ (s t:Tm):qg (eu (bZ s)) (eu (bZ t))=yn s t:=by
 rw[Bool.eq_iff_iff,TL,qg,List.all_eq_true]
 constructor
 ·intro h v
  rw[AG,AG]
  have U:=yk (bZ t) v
  have h2:=yk (bZ s) v
  cases hq:aU (eu (bZ t)) v with
  |none=>rw[hq]at U;simp only[Option.getD_none]at U;omega
  |some x=>
   rw[hq]at U
   have:=h (v,x) (nw hq)
   simp only[decide_eq_true_eq,h2]at this
   simp only[Option.getD_some]at U
   omega
 ·intro h p hp
  have U:=yk (bZ t) p.1
  rw[HZ (Bt _) hp,Option.getD_some]at U
  rw[decide_eq_true_eq,yk,U]
  have:=h p.1
  rw[AG,AG]at this
  omega
theorem OP (a:Int):bh Tryz.prog 229 [Iv a] (Bv false):=by
 refine ao.walk [0,2] [] Tryz.func229 rfl Tryz.ntmps229 (by kernel_rfl) (by rfl) rfl fun W own I0 aq lay=>?_
 refine gO ?_
 exact AE.bz rfl ⟨rfl,trivial⟩ rfl ⟨rfl,by simp[eH];rfl⟩
theorem OQ (a:List UInt8):bh Tryz.prog 165 [Sv a] (Bv false):=by
 refine ao.walk [0,2] [] Tryz.func165 rfl Tryz.ntmps165 (by kernel_rfl) (by rfl) rfl fun W own I0 aq lay=>?_
 refine gO ?_
 exact AE.bz rfl ⟨rfl,trivial⟩ rfl ⟨rfl,by simp[eH];rfl⟩
def nS (a b:Int):Int:=if a<b then-1 else if b<a then 1 else 0
def mQ (a b:List UInt8):Int:=if a<b then-1 else if b<a then 1 else 0
theorem Tx (a b:Int):bh Tryz.prog 211 [Iv a,Iv b] (Iv (nS a b)):=by
 refine ao.walk [0,1,4,5,6,11,12,13,16,19] [] Tryz.func211 rfl Tryz.ntmps211 (by kernel_rfl) (by rfl) rfl fun W own I0 aq lay=>?_
 refine gO ?_
 refine AQ.fn (by kernel_rfl) rfl rfl rfl (OP a) rfl ?_
 refine sI ?_
 refine gO ?_
 refine AQ.fn (by kernel_rfl) rfl rfl rfl (OP b) rfl ?_
 refine sI ?_
 refine gO ?_
 refine AP.cond rfl rfl (fun h=>?_) (fun h=>?_)
 ·refine gO ?_
  exact AE.bz rfl ⟨rfl,trivial⟩ rfl ⟨rfl,by rw[nS,if_pos (by simpa using h)];rfl⟩
 ·refine gO ?_
  refine AP.cond rfl rfl (fun h2=>?_) (fun h2=>?_)
  ·refine gO ?_
   exact AE.bz rfl ⟨rfl,trivial⟩ rfl ⟨rfl,by rw[nS,if_neg (by simpa using h),if_pos (by simpa using h2)];rfl⟩
  ·refine gO ?_
   exact AE.bz rfl ⟨rfl,trivial⟩ rfl ⟨rfl,by rw[nS,if_neg (by simpa using h),if_neg (by simpa using h2)];rfl⟩
theorem zW:∀a b:List UInt8,Op.bytesLess a b=decide (a<b)
 |[],[]=>by simp[Op.bytesLess]
 |[],_::_=>by simp[Op.bytesLess]
 |_::_,[]=>by simp[Op.bytesLess]
 |x::a,y::b=>by
  rw[Op.bytesLess,zW a b,Bool.eq_iff_iff]
  simp only[Bool.or_eq_true,Bool.and_eq_true,decide_eq_true_eq,beq_iff_eq,List.cons_lt_cons_iff]
theorem Yr {a b:List UInt8} (_:Op.bytesLess a b=false) (h2:(!(Op.bytesLess a b||a==b))=true):b<a:=by
 simp only[zW,Bool.not_eq_true',Bool.or_eq_false_iff,decide_eq_false_iff_not,beq_eq_false_iff_ne]at h2
 rcases Di a b with h|h|h
 ·exact absurd h h2.1
 ·exact absurd h h2.2
 ·exact h
theorem Yq {a b:List UInt8} (U:Op.bytesLess a b=false) (h2:(!(Op.bytesLess a b||a==b))=false):¬b<a:=by
 intro hc
 rw[U,Bool.false_or,Bool.not_eq_false',beq_iff_eq]at h2
 subst h2
 exact List.lt_irrefl _ hc
theorem Ku (a b:List UInt8):bh Tryz.prog 92 [Sv a,Sv b] (Iv (mQ a b)):=by
 refine ao.walk [0,1,4,5,6,11,12,13,16,19] [] Tryz.func92 rfl Tryz.ntmps92 (by kernel_rfl) (by rfl) rfl fun W own I0 aq lay=>?_
 refine gO ?_
 refine AQ.fn (by kernel_rfl) rfl rfl rfl (OQ a) rfl ?_
 refine sI ?_
 refine gO ?_
 refine AQ.fn (by kernel_rfl) rfl rfl rfl (OQ b) rfl ?_
 refine sI ?_
 refine gO ?_
 refine AP.cond rfl rfl (fun h=>?_) (fun h=>?_)
 ·refine gO ?_
  exact AE.bz rfl ⟨rfl,trivial⟩ rfl ⟨rfl,by rw[mQ,if_pos (by simpa[zW]using h)];rfl⟩
 ·refine gO ?_
  refine AP.cond rfl rfl (fun h2=>?_) (fun h2=>?_)
  ·refine gO ?_
   exact AE.bz rfl ⟨rfl,trivial⟩ rfl ⟨rfl,by rw[mQ,if_neg (by simpa[zW]using h),if_pos (Yr h h2)];rfl⟩
  ·refine gO ?_
   exact AE.bz rfl ⟨rfl,trivial⟩ rfl ⟨rfl,by rw[mQ,if_neg (by simpa[zW]using h),if_neg (Yq h h2)];rfl⟩
@[go_sem] theorem aad (k:Nat):∀m:List (Int×Int),AV.ln k (vN m)=vN m
 |[]=>rfl
 |_::m=>by rw[vN,List.map_cons,AV.ln,<-vN,aad k m];rfl
theorem Za (a b:Int):bh Tryz.prog 210 [.im (.sl 1 [[Ii a],[Ii b]])] (Iv (if a≠0 then a else b)):=by
 refine ao.walk [0,2,3,5,6,7,8,9,14] [] Tryz.func210 rfl Tryz.ntmps210 (by kernel_rfl) (by rfl) rfl fun W own I0 aq lay=>?_
 refine gO ?_
 refine AP.loop rfl (α:=Nat) (fun k=>[(3,Iv 0),(6,.im (.sl 1 [[Ii a],[Ii b]])),(7,Iv 2),(8,Iv k)]) (fun _=>[]) (fun k=>k<=2/\(0<k->a=0)/\(1<k->b=0)) (fun k=>2-k) 0 ⟨by omega,by omega,by omega⟩ (sU) rfl fun k ⟨hk,U,h2⟩=>?_
 have hw:=wr (x:=(k:Int)+1) (by omega)
 obtain rfl|rfl|rfl:k=0\/k=1\/k=2:=by omega
 ·refine gE (an @List.getD_cons_zero.{0} (an @List.length_cons.{0} @List.length_nil.{0})) ?_
  refine AP.cond rfl rfl (fun h=>?_) (fun h=>?_)
  ·refine gO ?_
   exact AE.bz rfl ⟨rfl,trivial⟩ rfl ⟨rfl,by rw[if_pos (by simpa using h)];rfl⟩
  ·refine gO ?_
   exact AE.round 1 ⟨by omega,fun _=>by simpa using h,by omega⟩ (by omega) (sU) rfl
 ·refine gE (an @List.getD_cons_zero.{0} (an @List.getD_cons_succ.{0} (an @List.length_cons.{0} @List.length_nil.{0}))) ?_
  have ha:=U (by omega)
  refine AP.cond rfl rfl (fun h=>?_) (fun h=>?_)
  ·refine gO ?_
   exact AE.bz rfl ⟨rfl,trivial⟩ rfl ⟨rfl,by rw[if_neg (by simpa using ha)];rfl⟩
  ·refine gO ?_
   exact AE.round 2 ⟨by omega,fun _=>ha,fun _=>by simpa using h⟩ (by omega) (sU) rfl
 ·have ha:=U (by omega)
  have hb:=h2 (by omega)
  refine gO ?_
  exact AE.bz rfl ⟨rfl,trivial⟩ rfl ⟨rfl,by rw[if_neg (by simpa using ha),hb];rfl⟩
theorem Tz {s t:Tm} {q:Int} (hg:o9 s t=if s.xs.length≠t.xs.length then decide (t.xs.length<s.xs.length)else if s.nm≠t.nm then decide (t.nm<s.nm)else rO s.xs t.xs)
  (hq:(if nS s.xs.length t.xs.length≠0 then nS s.xs.length t.xs.length else mQ s.nm t.nm)=q):(q≠0->o9 s t=decide (0<q))/\(q=0->s.xs.length=t.xs.length/\s.nm=t.nm/\o9 s t=rO s.xs t.xs):=by
 have hI:nS s.xs.length t.xs.length=if s.xs.length<t.xs.length then-1 else if t.xs.length<s.xs.length then 1 else 0:=by
  rw[nS];simp only[Int.ofNat_lt]
 rw[hI,mQ]at hq
 by_cases U:s.xs.length=t.xs.length
 ·rw[if_neg (by omega:¬s.xs.length<t.xs.length),if_neg (by omega:¬t.xs.length<s.xs.length),if_neg (by decide)]at hq
  rw[if_neg (by omega)]at hg
  rcases Di s.nm t.nm with h2|h2|h2
  ·rw[if_pos h2]at hq
   rw[if_pos (fun e=>by rw[e]at h2;exact List.lt_irrefl _ h2),decide_eq_false (fun h3=>List.lt_asymm h2 h3)]at hg
   subst hq
   exact⟨fun _=>hg,fun h=>absurd h (by decide)⟩
  ·rw[h2,if_neg (List.lt_irrefl _),if_neg (List.lt_irrefl _)]at hq
   rw[if_neg (by simpa using h2)]at hg
   subst hq
   exact⟨fun h=>absurd rfl h,fun _=>⟨U,h2,hg⟩⟩
  ·rw[if_neg (fun h3=>List.lt_asymm h2 h3),if_pos h2]at hq
   rw[if_pos (fun e=>by rw[e]at h2;exact List.lt_irrefl _ h2),decide_eq_true h2]at hg
   subst hq
   exact⟨fun _=>hg,fun h=>absurd h (by decide)⟩
 ·rw[if_pos U]at hg
  by_cases h2:s.xs.length<t.xs.length
  ·rw[if_pos h2,if_pos (by decide)]at hq
   rw[decide_eq_false (by omega)]at hg
   subst hq
   exact⟨fun _=>hg,fun h=>absurd h (by decide)⟩
  ·rw[if_neg h2,if_pos (show t.xs.length<s.xs.length by omega),if_pos (by decide)]at hq
   rw[decide_eq_true (by omega)]at hg
   subst hq
   exact⟨fun _=>hg,fun h=>absurd h (by decide)⟩
theorem Fm (s t:Tm) (hs:aR s) (ht:aR t) (zy:wT s<=1000000) (zA:wT t<=1000000):bh Tryz.prog 168 [bf s,bf t] (Bv (o9 s t)):=by
 have eW:=ji.1 hs
 have wz:=ji.1 ht
 have hg:=UF s t
 have vY:=Ky s hs zy
 have v7:=Ky t ht zA
 have fe:=TM (eu (bZ s)) (eu (bZ t)) (Bt _) (Bt _)
 rw[TJ]at fe
 refine ao.walk [0,1,2,3,4,5,6,7,8,9,10,21,26,33,57,62,63,64,77] [] Tryz.func168 rfl Tryz.ntmps168 (by kernel_rfl) (by rfl) rfl fun W own I0 aq lay=>?_
 refine gO ?_
 refine AQ.Bp (by kernel_rfl) rfl rfl rfl vY fun r' H' ⟨e1,e2⟩=>?_
 subst e1;subst e2
 refine sI ?_
 refine gO ?_
 refine AQ.Bp (by kernel_rfl) rfl rfl rfl v7 fun r' H' ⟨e1,e2⟩=>?_
 subst e1;subst e2
 refine sI ?_
 refine gO ?_
 refine AQ.bR [(1,1),(0,0)] (by kernel_rfl) rfl rfl rfl rfl rfl rfl (by refine⟨?_,?_,trivial⟩<;>(rw[dK,Am];rfl)) rfl fe fun r' H' ⟨e1,e2⟩=>?_
 subst e1;subst e2
 refine sH ?_
 refine gO ?_
 refine AP.cond rfl rfl (fun U=>?_) (fun U=>?_)
 ·refine gO ?_
  exact AE.bm [1,0] rfl ⟨rfl,trivial⟩ (by simp only[go_sem,Nat.reduceAdd,Nat.reduceLeDiff,Nat.reduceSub,Int.reduceToNat,reduceCtorEq,bN,noMen,AV.mens,AV.men,hY,Bool.or_false];first|done|rfl) ⟨rfl,by rw[hg,if_pos (by simpa using U)];rfl⟩
 rw[if_neg (by simpa using U)]at hg
 refine gO ?_
 refine AP.cond rfl rfl (fun h2=>?_) (fun h2=>?_)
 ·refine gO ?_
  refine AE.bm [1,0] rfl ⟨rfl,trivial⟩ (by simp only[go_sem,Nat.reduceAdd,Nat.reduceLeDiff,Nat.reduceSub,Int.reduceToNat,reduceCtorEq,bN,noMen,AV.mens,AV.men,hY,Bool.or_false];first|done|rfl) ⟨rfl,?_⟩
  rw[hg,if_pos (by simp at h2;omega),show decide (wT t<wT s)=decide ((wT t:Int)<wT s) by rw[decide_eq_decide];omega]
  simp[eH];rfl
 rw[if_neg (by simp at h2;omega)]at hg
 refine gO ?_
 refine AP.cond rfl rfl (fun h3=>?_) (fun h3=>?_)
 ·refine gO ?_
  exact AE.bm [1,0] rfl ⟨rfl,trivial⟩ (by simp only[go_sem,Nat.reduceAdd,Nat.reduceLeDiff,Nat.reduceSub,Int.reduceToNat,reduceCtorEq,bN,noMen,AV.mens,AV.men,hY,Bool.or_false];first|done|rfl) ⟨rfl,by rw[hg,if_pos (by simpa using h3)];rfl⟩
 rw[if_neg (by simpa using h3)]at hg
 refine gE @aw ?_
 refine AP.db 15 (Tree.node [] [0,1,2,3,4,5,7,8,9,10] [6] [Tree.node [7,8,9,10] [] [11] [Tree.node [] [] [12] [Tree.node [] [] [13] [Tree.node [] [14] [] []]]]]) (by kernel_rfl) rfl (by kernel_rfl) (by kernel_rfl) ?_
 refine c_ ?_
 refine sE @aw ?_
 refine AQ.fn (by kernel_rfl) rfl rfl rfl (Tx s.xs.length t.xs.length) rfl ?_
 refine sI ?_
 refine AQ.nx rfl ?_
 refine sI ?_
 refine AQ.fn (by kernel_rfl) rfl rfl rfl (Ku s.nm t.nm) rfl ?_
 refine sI ?_
 refine AQ.nx rfl ?_
 refine sI ?_
 refine AQ.go (by kernel_rfl) ?_
 refine sI ?_
 refine AQ.nx rfl ?_
 refine sI ?_
 refine AQ.fn (by kernel_rfl) rfl rfl rfl (Za (nS s.xs.length t.xs.length) (mQ s.nm t.nm)) rfl ?_
 refine sI ?_
 refine AQ.nx rfl ?_
 refine sI ?_
 refine AQ.done ?_
 obtain⟨q,hq⟩:∃q,(if nS s.xs.length t.xs.length≠0 then nS s.xs.length t.xs.length else mQ s.nm t.nm)=q:=⟨_,rfl⟩
 obtain⟨q1,q2⟩:=Tz hg hq
 rw[hq]
 refine gO ?_
 refine AP.cond rfl rfl (fun h4=>?_) (fun h4=>?_)
 ·refine gO ?_
  exact AE.bm [1,0] rfl ⟨rfl,trivial⟩ (by simp only[go_sem,Nat.reduceAdd,Nat.reduceLeDiff,Nat.reduceSub,Int.reduceToNat,reduceCtorEq,bN,noMen,AV.mens,AV.men,hY,Bool.or_false];first|done|rfl) ⟨rfl,by rw[q1 (by simpa using h4)];simp[eH];rfl⟩
 obtain⟨hl,hn,hm⟩:=q2 (by simpa using h4)
 refine gE @aw ?_
 refine AP.loop rfl (α:=Nat) (fun k=>[(2,.im (xq s)),(3,.im (xq t)),(62,Iv s.xs.length),(63,Iv k)]) (fun _=>[(1,.var (.map (kI (eu (bZ t)))) (vN (eu (bZ t)))),(0,.var (.map (kI (eu (bZ s)))) (vN (eu (bZ s))))]) (fun k=>k<=s.xs.length/\o9 s t=rO (s.xs.drop k) (t.xs.drop k)) (fun k=>s.xs.length-k) 0 ⟨by omega,hm⟩ (sU) rfl fun k ⟨hk,hm⟩=>?_
 rcases Nat.eq_or_lt_of_le hk with aM|ag
 ·rw[aM,List.drop_length,hl,List.drop_length,rO]at hm
  refine gE @aw ?_
  refine cF ?_
  refine gO ?_
  exact AE.bm [1,0] rfl ⟨rfl,trivial⟩ (by simp only[go_sem,Nat.reduceAdd,Nat.reduceLeDiff,Nat.reduceSub,Int.reduceToNat,reduceCtorEq,bN,noMen,AV.mens,AV.men,hY,Bool.or_false];first|done|rfl) ⟨rfl,by rw[hm];rfl⟩
  all_goals simp
 ·obtain⟨u,hu,aX⟩:=fo s.xs k ag
  obtain⟨w,cL,jd⟩:=fo t.xs k (by omega)
  rw[drop_cons hu,drop_cons cL,rO]at hm
  have hw:=wr (x:=(k:Int)+1) (by omega)
  have cY:=gl eW.2.2 hu
  have mr:=gl wz.2.2 cL
  have Xc:wT u<wT s:=Eb (List.mem_of_getElem? hu)
  have hww:wT w<wT t:=Eb (List.mem_of_getElem? cL)
  refine gE @aw ?_
  refine cT ?_
  refine gO ?_
  refine AP.db 12 (Tree.node [] [0,1,2,3,4,5,6,7,8,9] [10] [Tree.node [] [11] [] []]) (by kernel_rfl) rfl (by kernel_rfl) (by kernel_rfl) ?_
  refine c_ ?_
  refine sE (an @aX (an @jd @aw)) ?_
  refine⟨by omega,by omega,?_⟩
  refine AQ.fn (by kernel_rfl) rfl rfl rfl (BI u w cY) rfl ?_
  refine sI ?_
  refine AQ.nx rfl ?_
  refine sI ?_
  refine AQ.done ?_
  refine gO ?_
  refine AP.cond rfl rfl (fun h5=>?_) (fun h5=>?_)
  ·have h5:d_ u w=false:=by simpa using h5
   rw[h5,if_neg (by decide)]at hm
   refine gO ?_
   refine AP.db 12 (Tree.node [] [0,1,2,3,4,5,6,7,8,9] [10] [Tree.node [] [11] [] []]) (by kernel_rfl) rfl (by kernel_rfl) (by kernel_rfl) ?_
   refine c_ ?_
   refine sE (an @aX (an @jd @aw)) ?_
   refine⟨by omega,by omega,?_⟩
   refine AQ.fn (by kernel_rfl) rfl rfl rfl (Fm u w cY mr (by omega) (by omega)) rfl ?_
   refine sI ?_
   refine AQ.nx rfl ?_
   refine sI ?_
   refine AQ.done ?_
   refine gO ?_
   exact AE.bm [1,0] rfl ⟨rfl,trivial⟩ (by simp only[go_sem,Nat.reduceAdd,Nat.reduceLeDiff,Nat.reduceSub,Int.reduceToNat,reduceCtorEq,bN,noMen,AV.mens,AV.men,hY,Bool.or_false];first|done|rfl) ⟨rfl,by rw[hm];rfl⟩
  ·have h5:d_ u w=true:=by simpa using h5
   rw[if_pos h5]at hm
   refine gE @hw ?_
   exact AE.round (k+1) ⟨by omega,hm⟩ (by omega) (sU) rfl
termination_by SizeOf.sizeOf s
decreasing_by exact lX hu
theorem TG (s t:Tm) (hs:aR s) (ht:aR t) (zy:wT s<=1000000) (zA:wT t<=1000000):bh Tryz.prog 101 [bf s,bf t] (Iv (vw s t)):=by
 refine ao.walk [0,1,2,3,4,5,9,13] [] Tryz.func101 rfl Tryz.ntmps101 (by kernel_rfl) (by rfl) rfl fun W own I0 aq lay=>?_
 refine gO ?_
 refine AQ.fn (by kernel_rfl) rfl rfl rfl (BI s t hs) rfl ?_
 refine sI ?_
 refine gO ?_
 refine AP.cond rfl rfl (fun U=>?_) (fun U=>?_)
 ·refine gO ?_
  exact AE.bz rfl ⟨rfl,trivial⟩ rfl ⟨rfl,by rw[vw,if_pos (by simpa using U)];rfl⟩
 refine gO ?_
 refine AQ.fn (by kernel_rfl) rfl rfl rfl (Fm s t hs ht zy zA) rfl ?_
 refine sI ?_
 refine gO ?_
 refine AP.cond rfl rfl (fun h2=>?_) (fun h2=>?_)
 ·refine gO ?_
  exact AE.bz rfl ⟨rfl,trivial⟩ rfl ⟨rfl,by rw[vw,if_neg (by simpa using U),if_pos (by simpa using h2)];rfl⟩
 refine gO ?_
 refine AQ.fn (by kernel_rfl) rfl rfl rfl (Fm t s ht hs zA zy) rfl ?_
 refine sI ?_
 refine gO ?_
 refine AP.cond rfl rfl (fun h3=>?_) (fun h3=>?_)
 ·refine gO ?_
  exact AE.bz rfl ⟨rfl,trivial⟩ rfl ⟨rfl,by rw[vw,if_neg (by simpa using U),if_neg (by simpa using h2),if_pos (by simpa using h3)];rfl⟩
 ·refine gO ?_
  exact AE.bz rfl ⟨rfl,trivial⟩ rfl ⟨rfl,by rw[vw,if_neg (by simpa using U),if_neg (by simpa using h2),if_neg (by simpa using h3)];rfl⟩
theorem aag (t:Tm):bh Tryz.prog 173 [bf t] (b6 (aJ t)):=by
 have e:b6 (aJ t)= .im (.sl 3 [[Bi false,Si [80],.sl 3 [[Si t.nm,Ii t.ix,.sl 3 (az t.xs)]]]]):=by
  rw[b6,cD,aJ,List.map_cons,List.map_nil,pI]
  simp only[az,jJ]
 rw[e]
 refine ao.walk [0,1,2] [] Tryz.func173 rfl Tryz.ntmps173 (by kernel_rfl) (by rfl) rfl fun W own I0 aq lay=>?_
 refine gO ?_
 exact AE.bz rfl ⟨rfl,trivial⟩ rfl ⟨rfl,rfl⟩
def iC:List Tm->Int
 |[]=>0
 |t::l=>if bp 4 9 2 3 (aJ t)≠0 then bp 4 9 2 3 (aJ t)else iC l
theorem EJ (l:List Tm) (hl:l.length<=1000000) (hs:∀t∈l,aR t):bh Tryz.prog 111 [.im (.sl 3 (az l))] (Iv (iC l)):=by
 refine ao.walk [0,2,4,5,6,7,8,9,16] [4] Tryz.func111 rfl Tryz.ntmps111 (by kernel_rfl) (by rfl) rfl fun W own I0 aq lay=>?_
 refine gE @aw ?_
 refine AP.loop rfl (α:=Nat) (fun k=>[(6,.im (.sl 3 (az l))),(7,Iv l.length),(8,Iv k)]) (fun _=>[]) (fun k=>k<=l.length/\iC l=iC (l.drop k)) (fun k=>l.length-k) 0 ⟨by omega,rfl⟩ (sU) rfl fun k ⟨hk,hm⟩=>?_
 rcases Nat.eq_or_lt_of_le hk with aM|ag
 ·rw[aM,List.drop_length,iC]at hm
  refine gO ?_
  refine cF ?_
  refine gO ?_
  exact AE.bz rfl ⟨rfl,trivial⟩ rfl ⟨rfl,by rw[hm];rfl⟩
 ·obtain⟨u,hu,aX⟩:=fo l k ag
  have hw:=wr (x:=(k:Int)+1) (by omega)
  rw[drop_cons hu,iC]at hm
  refine gE @aw ?_
  refine cT ?_
  refine gE (an @aX @aw) ?_
  refine AQ.fix 0 rfl rfl ?_
  refine sI ?_
  refine AQ.fn (by kernel_rfl) rfl rfl rfl (aag u) rfl ?_
  refine sI ?_
  refine gO ?_
  refine AQ.fn (by kernel_rfl) rfl rfl rfl (vt (aJ u) (DU (hs u (List.mem_of_getElem? hu)))) rfl ?_
  refine sI ?_
  refine gO ?_
  refine AP.cond rfl rfl (fun h=>?_) (fun h=>?_)
  ·rw[if_pos (by simpa using h)]at hm
   refine gO ?_
   exact AE.bz rfl ⟨rfl,trivial⟩ rfl ⟨rfl,by rw[hm];rfl⟩
  ·rw[if_neg (by simpa using h)]at hm
   refine gE @hw ?_
   exact AE.round (k+1) ⟨by omega,hm⟩ (by omega) (sU) rfl
def yl (s t:Tm):Int×Int:=if iC [s,t]≠0 then(0,iC [s,t])else(vw s t,0)
theorem Kr {s:Tm} (h:¬bp 4 9 2 3 (aJ s)≠0):wT s<=4000:=by
 have h0:bp 4 9 2 3 (aJ s)=0:=by simpa using h
 rw[EK (by decide) (by decide) (by decide) (by decide)]at h0
 have:=h0.2.1
 simp only[aJ,b8,jF,List.map_cons,List.map_nil,List.sum_cons,List.sum_nil,aK]at this
 omega
theorem RX (s t:Tm) (hs:aR s) (ht:aR t):bh Tryz.prog 37 [bf s,bf t] (.aG [Iv (yl s t).1,Iv (yl s t).2]):=by
 have hc:=EJ [s,t] (by simp) (fun u hu=>by
  rcases List.mem_cons.1 hu with rfl|hu
  ·exact hs
  ·rcases List.mem_cons.1 hu with rfl|hu
   ·exact ht
   ·cases hu)
 have e:(.im (.sl 3 (az [s,t])):AV)= .im (.sl 3 [[Si s.nm,Ii s.ix,.sl 3 (az s.xs)],[Si t.nm,Ii t.ix,.sl 3 (az t.xs)]]):=by simp only[az,jJ]
 rw[e]at hc
 refine ao.walk [0,1,2,3,4,5,6,12] [] Tryz.func37 rfl Tryz.ntmps37 (by kernel_rfl) (by rfl) rfl fun W own I0 aq lay=>?_
 refine gO ?_
 refine AQ.fn (by kernel_rfl) rfl rfl rfl (hc) rfl ?_
 refine sI ?_
 refine gO ?_
 refine AP.cond rfl rfl (fun h=>?_) (fun h=>?_)
 ·refine gO ?_
  exact AE.bz rfl ⟨rfl,rfl,trivial⟩ rfl ⟨rfl,by rw[yl,if_pos (by simpa using h)];rfl⟩
 ·have h:¬iC [s,t]≠0:=by simpa using h
  have hb:wT s<=4000/\wT t<=4000:=by
   rw[iC,iC,iC]at h
   have U:¬bp 4 9 2 3 (aJ s)≠0:=fun hc=>h (by rw[if_pos hc];exact hc)
   rw[if_neg U]at h
   have h2:¬bp 4 9 2 3 (aJ t)≠0:=fun hc=>h (by rw[if_pos hc];exact hc)
   exact⟨Kr U,Kr h2⟩
  refine gO ?_
  refine AQ.fn (by kernel_rfl) rfl rfl rfl (TG s t hs ht (by omega) (by omega)) rfl ?_
  refine sI ?_
  refine gO ?_
  exact AE.bz rfl ⟨rfl,rfl,trivial⟩ rfl ⟨rfl,by rw[yl,if_neg h];rfl⟩
theorem aa8 (n:Int):bh Tryz.prog 95 [Iv n] (.agg [Sv [],Iv n,eO]):=by
 refine ao.walk [0,2] [2] Tryz.func95 rfl Tryz.ntmps95 (by kernel_rfl) (by rfl) rfl fun W own I0 aq lay=>?_
 refine gO ?_
 exact AE.bm [0] rfl ⟨⟨rfl,Nat.le_of_ble_eq_true (by kernel_rfl)⟩,trivial⟩ rfl ⟨rfl,rfl⟩
theorem AF (n:Int):bh Tryz.prog 95 [Iv n] (bf (bg n)):=(show bh Tryz.prog 95 [Iv n] (.agg [Sv [],Iv n,.im (.sl 3 [])]) from bh.told (aa8 n) (by repeat' (first|with_reducible exact da.refl _|with_reducible exact fp.refl _|exact fp.nil _|with_reducible exact bY.refl _|with_reducible exact kg.refl _|with_reducible exact kj.refl _|refine bY.nT ?_ ?_|refine da.agg ?_|refine da.im ?_|refine fp.sl ?_|refine kj.cons ?_ ?_|refine kg.cons ?_ ?_)))
theorem Kq (f:FuncId) (g:Int->Tm) (hg:∀n,bh Tryz.prog f [Iv n] (bf (g n))) (x:Tm) (hs:aR x):bh Tryz.prog 140 [bf x,.fn f [] []] (bf (al g x)):=by
 have eW:=ji.1 hs
 have hc:=qe g x
 refine ao.walk [0,1,2,4,5,7,10,19,20,21,22] [4,5,7] Tryz.func140 rfl Tryz.ntmps140 (by kernel_rfl) (by rfl) rfl fun W own I0 aq lay=>?_
 refine gO ?_
 refine AP.cond rfl rfl (fun h=>?_) (fun h=>?_)
 ·rw[if_pos (by simpa using h)]at hc
  refine gO ?_
  refine AQ.Bo [] (by kernel_rfl) rfl rfl rfl rfl rfl rfl (fun k=>by exact trivial) (fun k=>rfl) (fun k=>rfl) (hg x.ix) ?_
  refine sI ?_
  refine gO ?_
  exact AE.bm [0] rfl ⟨⟨rfl,Nat.le_of_ble_eq_true (by kernel_rfl)⟩,trivial⟩ rfl ⟨rfl,by rw[hc];rfl⟩
 rw[if_neg (by simpa using h)]at hc
 refine gE @aw ?_
 rw[kH]at hc
 refine AP.jg 1 2 71 3 rfl rfl ?_
 refine sI ?_
 refine AP.loop rfl (α:=Nat) (fun k=>[(1,.fn f [] []),(4,.ob 0 0),(5,.ob 1 0),(19,.im (.sl 3 (az x.xs))),(20,Iv x.xs.length),(21,Iv k)]) (fun k=>[(2,.vec 71 3 (az ((x.xs.take k).map (al g)))),(1,.var 71 [Sv x.nm,Iv 0,.os 2 3 0 k]),(0,.var 71 [Sv [],Iv 0,eO])]) (fun k=>k<=x.xs.length) (fun k=>x.xs.length-k) 0 (by omega) (sU) rfl fun k hk=>?_
 rcases Nat.eq_or_lt_of_le hk with aM|ag
 ·subst aM
  rw[List.take_length]
  refine gE @aw ?_
  refine cF ?_
  refine gO ?_
  refine AE.freeze 2 (el:=71) (es:=3) (rows:=az (x.xs.map (al g))) rfl (by simp only[go_sem,Nat.reduceAdd,Nat.reduceLeDiff,Nat.reduceSub,Int.reduceToNat,reduceCtorEq,aw,List.length_map];first|done|trivial|omega|(simp;done)|(simp;omega)) (by simp only[go_sem,Nat.reduceAdd,Nat.reduceLeDiff,Nat.reduceSub,Int.reduceToNat,reduceCtorEq,aw,List.length_map];first|done|trivial|omega|(simp;done)|(simp;omega)) ?_;simp only[go_sem,Nat.reduceAdd,Nat.reduceLeDiff,Nat.reduceSub,Int.reduceToNat,reduceCtorEq,aw,List.length_map]
  rw[List.take_of_length_le (by rw[aw,List.length_map];omega)]
  exact AE.bm [1,0] rfl ⟨⟨rfl,Nat.le_of_ble_eq_true (by kernel_rfl)⟩,trivial⟩ rfl ⟨rfl,by rw[hc];rfl⟩
 ·obtain⟨u,hu,aX⟩:=fo x.xs k ag
  have hw:=wr (x:=(k:Int)+1) (by omega)
  have bc:=oO (l:=x.xs) (k:=k) (by omega)
  have ih:=Kq f g hg u (gl eW.2.2 hu)
  have bP:=uJ (al g) hu
  obtain⟨w,qK⟩:∃w,al g u=w:=⟨_,rfl⟩
  rw[qK]at ih bP
  refine gE @aw ?_
  refine cT ?_
  refine gE @aX ?_
  refine⟨by rw[aw];omega,?_⟩
  refine gO ?_
  refine AP.db 9 (Tree.node [] [0,1,2,3] [4] [Tree.node [0,1] [] [5] [Tree.node [0,1] [] [6] [Tree.node [] [7] [8] [Tree.node [] [] [] []]]]]) (by kernel_rfl) rfl (by kernel_rfl) (by kernel_rfl) ?_
  refine c_ ?_
  refine sI ?_
  refine AQ.fn (by kernel_rfl) rfl rfl rfl (ih) rfl ?_
  refine sI ?_
  refine AQ.nx rfl ?_
  refine sI ?_
  refine AQ.go (by kernel_rfl) ?_
  refine sI ?_
  refine AQ.nx rfl ?_
  refine sI ?_
  refine AQ.kill 2 ?_
  refine sI ?_
  refine AQ.append (hnb:=rfl) (rows:=az ((x.xs.take k).map (al g))) (es:=2) (by kernel_rfl) rfl rfl rfl (by rfl) Tryz.s8 Tryz.s6 (by show Option.map _ (aA Tryz.prog 71)=_;rw[Tryz.td];rfl) Tryz.rB (by first|rfl|(simp only[aw,List.length_map,bc,List.length_cons,List.length_nil];done)|(simp only[aw,List.length_map,bc,List.length_cons,List.length_nil];omega)) (by simp only[aw,List.length_map,bc,List.length_cons,List.length_nil];omega) (by simp only[aw,List.length_map,bc,List.length_cons,List.length_nil];omega) ?_
  refine sI ?_
  refine AQ.nx rfl ?_
  refine sI ?_
  refine AQ.go (by kernel_rfl) ?_
  refine sI ?_
  refine AQ.nx rfl ?_
  refine sI ?_
  refine AQ.done ?_
  refine gE @hw ?_
  refine AE.eJ [3] rfl ?_
  refine sI ?_
  refine AE.round (k+1) (by omega) (by omega) (sU) ?_
  rw[bP,rh,aw,List.length_map,bc]
termination_by SizeOf.sizeOf x
decreasing_by exact lX hu
theorem TI (x:Tm) (hs:aR x):bh Tryz.prog 108 [bf x] (bf (al bg x)):=by
 have h:=Kq 95 bg AF x hs
 refine ao.walk [0,1,2] [2] Tryz.func108 rfl Tryz.ntmps108 (by kernel_rfl) (by rfl) rfl fun W own I0 aq lay=>?_
 refine gO ?_
 refine AQ.fn (by kernel_rfl) rfl rfl rfl (h) rfl ?_
 refine sI ?_
 refine gO ?_
 exact AE.bm [0] rfl ⟨⟨rfl,Nat.le_of_ble_eq_true (by kernel_rfl)⟩,trivial⟩ rfl ⟨rfl,rfl⟩
theorem sB:∀(l:Bd) (v:Int),mD l v=aU l v
 |[],v=>rfl
 |b::l,v=>by rw[mD,aU,sB l v]
theorem xx:Tryz.prog.underlying 158=some (.map 3 71):=by kernel_rfl
theorem RI:(Tryz.prog.info? 71).bind (·.zero)=some (.agg #[.string (BA []),.int .i64 0,.slice none 0 0]):=by kernel_rfl
theorem RJ (w:World) (φ:ai) (I:Nat->Prop):AV.den w φ I (.agg [Sv [],Iv 0,eO]) (.agg #[.string (BA []),.int .i64 0,.slice none 0 0]):=by
 simp only[AV.den,AV.ab,IV.den]
 exact⟨[_,_,_],⟨_,_,rfl,⟨rfl,rfl⟩,_,_,rfl,⟨rfl,rfl⟩,_,_,rfl,⟨rfl,rfl⟩,rfl⟩,rfl,by simp[Value.oneCell']⟩
theorem PH {α:Type} {m:List (Int×α)} {v:Int} (x:α) (h:dA m v=none):nE m v x=m++[(v,x)]:=by rw[nE,h]
theorem S0 (l:Bd) (hs:iy l):ao Tryz.prog 104 [gV l] [] (fun r H'=>(fT [] l=0/\eE l/\r= .aG [.mp 0,Iv 0]/\H'=[(0,.var (.map (kI l)) (vT l))])\/(fT [] l≠0/\r= .aG [.im (.v (.map none)),Iv (fT [] l)]/\H'=[])):=by
 have hl:=hs.1
 refine ao.walk [0,2,3,4,6,8,9,11,12,13,14,24,33,40] [6,7] Tryz.func104 rfl Tryz.ntmps104 (by kernel_rfl) (by rfl) rfl fun W own I0 aq lay=>?_
 refine gO ?_
 refine AQ.wW (by kernel_rfl) ?_
 refine sI ?_
 refine gE @gU ?_
 refine AP.loop rfl (α:=Nat) (fun k=>[(4,.mp 0),(11,gV l),(12,Iv l.length),(13,Iv k)]) (fun k=>[(0,.var (.map (kI (l.take k))) (vT (l.take k)))]) (fun k=>k<=l.length/\eE (l.take k)/\fT [] l=fT (l.take k) (l.drop k)) (fun k=>l.length-k) 0 ⟨by omega,List.nodup_nil,rfl⟩ (sU) rfl fun k ⟨hk,bS,hm⟩=>?_
 rcases Nat.eq_or_lt_of_le hk with aM|ag
 ·rw[aM,List.take_length,List.drop_length,fT]at hm
  rw[aM,List.take_length]at bS
  subst aM
  rw[List.take_length]
  refine gO ?_
  refine cF ?_
  refine gO ?_
  exact AE.bm [] rfl ⟨rfl,rfl,trivial⟩ rfl (.inl ⟨hm,bS,rfl,rfl⟩)
 ·obtain⟨u,hu,aX⟩:=Ev l k ag
  have hw:=wr (x:=(k:Int)+1) (by omega)
  rw[S1 hu,sB]at hm
  have cY:=hs.2 u (List.mem_of_getElem? hu)
  have yU:=EJ [u.2] (by simp) (fun t ht=>by rw[List.mem_singleton]at ht;subst ht;exact cY)
  have e:(.im (.sl 3 (az [u.2])):AV)= .im (.sl 3 [[Si u.2.nm,Ii u.2.ix,.sl 3 (az u.2.xs)]]):=by simp only[az,jJ]
  rw[e]at yU
  have vY:iC [u.2]=bp 4 9 2 3 (aJ u.2):=by
   rw[iC,iC]
   by_cases h:bp 4 9 2 3 (aJ u.2)≠0
   ·rw[if_pos h]
   ·rw[if_neg h];exact(Classical.byContradiction fun hc=>h (fun h2=>hc h2.symm))
  rw[vY]at yU
  refine gE @gU ?_
  refine cT ?_
  refine gE (an @aX @gU) ?_
  cases hq:dA (l.take k) u.1 with
  |some j=>
   obtain⟨x,U,h2⟩:=pE hq
   rw[h2]at hm
   refine AQ.sF j (by kernel_rfl) rfl rfl rfl xx u3 (gF _) rfl (List.mem_of_getElem? (show(kI (l.take k))[j]?=some (.int .i64 u.1) from qQ (p:=(u.1,x)) U)) (fun i hi=>qR bS U hi) (show(vT (l.take k))[j]?=some (bf x) from Jb (p:=(u.1,x)) U) ?_
   refine sI ?_
   refine gO ?_
   refine AP.cond rfl rfl (fun h3=>?_) (fun h3=>?_)
   ·rw[if_pos (by simp at h3;omega)]at hm
    refine gO ?_
    exact AE.bm [2,1,0] rfl ⟨rfl,rfl,trivial⟩ (by simp only[go_sem,Nat.reduceAdd,Nat.reduceLeDiff,Nat.reduceSub,Int.reduceToNat,reduceCtorEq,bN,noMen,AV.mens,AV.men,fH,Bool.or_false];first|done|rfl) (.inr ⟨by rw[hm];decide,by rw[hm];rfl,rfl⟩)
   ·rw[if_neg (by simp at h3;omega),if_pos (show(some x).isSome=true from rfl)]at hm
    refine gO ?_
    exact AE.bm [2,1,0] rfl ⟨rfl,rfl,trivial⟩ (by simp only[go_sem,Nat.reduceAdd,Nat.reduceLeDiff,Nat.reduceSub,Int.reduceToNat,reduceCtorEq,bN,noMen,AV.mens,AV.men,fH,Bool.or_false];first|done|rfl) (.inr ⟨by rw[hm];decide,by rw[hm];rfl,rfl⟩)
  |none=>
   have zj:eE (l.take (k+1)):=by
    have:=H_ bS u.1 u.2
    rw[PH _ hq]at this
    rw[dX hu];exact this
   rw[(nt hq).1]at hm
   refine AQ.HM (.agg [Sv [],Iv 0,eO]) (by kernel_rfl) rfl rfl rfl xx u3 (gF _) rfl (mA hq) RI RJ ?_
   refine sI ?_
   refine gO ?_
   refine AP.cond rfl rfl (fun h3=>?_) (fun h3=>?_)
   ·rw[if_pos (by simp at h3;omega)]at hm
    refine gO ?_
    exact AE.bm [2,1,0] rfl ⟨rfl,rfl,trivial⟩ (by simp only[go_sem,Nat.reduceAdd,Nat.reduceLeDiff,Nat.reduceSub,Int.reduceToNat,reduceCtorEq,bN,noMen,AV.mens,AV.men,fH,Bool.or_false];first|done|rfl) (.inr ⟨by rw[hm];decide,by rw[hm];rfl,rfl⟩)
   ·rw[if_neg (by simp at h3;omega),if_neg (by simp)]at hm
    refine gO ?_
    refine AQ.fn (by kernel_rfl) rfl rfl rfl (yU) rfl ?_
    refine sI ?_
    refine gO ?_
    refine AP.cond rfl rfl (fun h4=>?_) (fun h4=>?_)
    ·have h4:bp 4 9 2 3 (aJ u.2)≠0:=by simpa using h4
     rw[if_pos h4]at hm
     refine gO ?_
     exact AE.bm [2,1,0] rfl ⟨rfl,rfl,trivial⟩ (by simp only[go_sem,Nat.reduceAdd,Nat.reduceLeDiff,Nat.reduceSub,Int.reduceToNat,reduceCtorEq,bN,noMen,AV.mens,AV.men,fH,Bool.or_false];first|done|rfl) (.inr ⟨by rw[hm];exact h4,by rw[hm];rfl,rfl⟩)
    ·have h4:¬bp 4 9 2 3 (aJ u.2)≠0:=by simpa using h4
     rw[if_neg h4]at hm
     refine gO ?_
     refine AQ.Ab (by kernel_rfl) rfl rfl rfl rfl xx u3 (gF _) rfl (mA hq) ?_
     refine sI ?_
     refine gE @hw ?_
     have e1:vT (l.take k)++[bf u.2]=vT (l.take (k+1)):=by rw[dX hu];simp only[vT,List.map_append];rfl
     have e2:kI (l.take k)++[.int .i64 u.1]=kI (l.take (k+1)):=by rw[dX hu];simp only[kI,List.map_append];rfl
     rw[e1,e2]
     refine AE.eJ [2,1] (by simp only[go_sem,Nat.reduceAdd,Nat.reduceLeDiff,Nat.reduceSub,Int.reduceToNat,reduceCtorEq,bN,noMen,AV.mens,AV.men,fH,Bool.or_false];first|done|rfl) ?_
     refine sI ?_
     exact AE.round (k+1) ⟨by omega,zj,hm⟩ (by omega) (sU) rfl
def nG (t:Tm):Int×Int:=(wT t,cd t)
theorem I4:Tryz.prog.underlying 161=some (.map 3 164):=by kernel_rfl
theorem aan (t:Tm) (h:wT t<=4000):kn t 1 (0,0)=nG t:=by
 rw[xm t 1 0 0 (by omega),nG]
 have:(0:Int)<=cd t:=by omega
 simp only[Prod.mk.injEq];omega
theorem XF {α:Type} {m:List (Int×α)} {v:Int} (h:v∉m.map (·.1)):dA m v=none:=by
 cases hq:dA m v with
 |none=>rfl
 |some j=>
  obtain⟨x,U,_⟩:=pE hq
  exact absurd (List.mem_map.2 ⟨(v,x),List.mem_of_getElem? U,rfl⟩) h
theorem abh (l:Bd) (bS:eE l) (hs:iy l) (aO:∀p∈l,wT p.2<=4000):ao Tryz.prog 105 [.mp 0] [(0,.var (.map (kI l)) (vT l))] (fun r H'=>∃m,eE m/\(∀v,aU m v=(aU l v).map nG)/\r= .mp 1/\H'=[(1,.var (.map (kI m)) (vZ m)),(0,.var (.map (kI l)) (vT l))]):=by
 refine ao.walk [0,2,3,4,5,6,9,11] [5,6] Tryz.func105 rfl Tryz.ntmps105 (by kernel_rfl) (by rfl) rfl fun W own I0 aq lay=>?_
 refine gO ?_
 refine AQ.wW (by kernel_rfl) ?_
 refine sI ?_
 refine gO ?_
 refine AQ.HU (by kernel_rfl) rfl rfl xx fun bs clock bG=>?_
 have cz:(vT l).length=bs.length:=by rw[<-bG.len,aa6,wI]
 have jx:=Hj l
 refine sI ?_
 refine gO ?_
 refine AP.loop rfl (α:=List Nat×List (Int×Int×Int)) (fun _=>[(3,.mp 1),(9,.ob 2 0)]) (fun s=>[(2,.var (.raw (j0 clock s.1 clock)) [.mp 0]),(1,.var (.map (kI s.2)) (vZ s.2)),(0,.var (.raw (k9 (kI l) bs clock)) (vT l))])
  (fun s=>eE s.2/\(∀p∈s.2,∃t,(p.1,t)∈l/\p.2=nG t)/\∀(j n:Nat) (p:Int×Tm),bs[j]?=some n->l[j]?=some p->(n∈s.1↔p.1∈s.2.map (·.1))) (fun s=>rl bs s.1) ([],[]) ⟨List.nodup_nil,fun p hp=>(by cases hp),fun j n p _ _=>⟨fun h=>(by cases h),fun h=>(by cases h)⟩⟩ (sU) rfl fun⟨seen,m⟩ ⟨U,h2,h3⟩=>?_
 simp only at U h2 h3⊢
 refine gO ?_
 refine AQ.HS (by kernel_rfl) rfl rfl rfl bG rfl rfl jx cz (fun iE=>?_) (fun j n key y eK qE pj hy=>?_)
 ·have cH:∀v,aU m v=(aU l v).map nG:=fun v=>by
   cases hq:aU m v with
   |some y=>
    obtain⟨t,ht,e⟩:=h2 _ (nw hq)
    rw[HZ bS ht]
    simp only at e
    rw[e];rfl
   |none=>
    cases hp:aU l v with
    |none=>rfl
    |some t=>
     obtain⟨j,_,hj⟩:=zX hp
     have pg:j<bs.length:=by have:=(List.getElem?_eq_some_iff.1 hj).1;rw[<-bG.len,wI];exact this
     have:=(h3 j bs[j] (v,t) (List.getElem?_eq_getElem pg) hj).1 (iE _ (List.getElem_mem _))
     rw[C9]at hq
     exact absurd this (nt hq).2
  refine sI ?_
  refine gO ?_
  refine AE.oD 0 rfl bG cz ?_
  refine sI ?_
  exact AE.bm [2] rfl ⟨rfl,trivial⟩ (by simp only[go_sem,Nat.reduceAdd,Nat.reduceLeDiff,Nat.reduceSub,Int.reduceToNat,reduceCtorEq,bN,noMen,AV.mens,AV.men,fH,iP,Bool.or_false];first|done|rfl) ⟨m,U,cH,rfl,rfl⟩
 ·obtain⟨p,hp,rfl⟩:=C2 pj
  have zL:=Jb hp
  rw[hy]at zL
  cases zL
  have lQ:=List.mem_of_getElem? hp
  have uz:=IP p.2 1 0 0 (hs.2 p lQ) (by omega) (by omega)
  rw[aan p.2 (aO p lQ)]at uz
  have jZ:p.1∉m.map (·.1):=fun hc=>qE ((h3 j n p eK hp).2 hc)
  have hq:=XF jZ
  refine sI ?_
  refine gO ?_
  refine AQ.HP (by kernel_rfl) rfl rfl rfl bG jx cz eK pj hy ?_
  refine sI ?_
  refine gO ?_
  refine AQ.bR [(0,4)] (by kernel_rfl) rfl rfl rfl rfl rfl rfl (by exact⟨rfl,trivial⟩) rfl uz fun r' H' ⟨e1,e2⟩=>?_
  subst e1;subst e2
  refine sH ?_
  refine gO ?_
  refine AQ.Ab (by kernel_rfl) rfl rfl rfl rfl I4 u3 (gF _) rfl (mA hq) ?_
  refine sI ?_
  refine gO ?_
  have e1:vZ m++[.agg [Iv (nG p.2).1,Iv (nG p.2).2]]=vZ (m++[(p.1,nG p.2)]):=by simp only[vZ,List.map_append];rfl
  have e2:kI m++[.int .i64 p.1]=kI (m++[(p.1,nG p.2)]):=by simp only[kI,List.map_append];rfl
  rw[e1,e2]
  refine AE.eJ [4,3] (by simp only[go_sem,Nat.reduceAdd,Nat.reduceLeDiff,Nat.reduceSub,Int.reduceToNat,reduceCtorEq,bN,noMen,AV.mens,AV.men,fH,iP,Bool.or_false];first|done|rfl) ?_
  refine sI ?_
  have zj:eE (m++[(p.1,nG p.2)]):=by
   have:=H_ U p.1 (nG p.2)
   rw[PH _ hq]at this
   exact this
  refine AE.round (seen++[n],m++[(p.1,nG p.2)]) ⟨zj,fun q iI=>?_,fun j' n' p' h7 h9=>?_⟩ (I9 (List.mem_of_getElem? eK) qE) (sU) rfl
  ·rcases List.mem_append.1 iI with h|h
   ·exact h2 q h
   ·rw[List.mem_singleton]at h
    subst h
    exact⟨p.2,lQ,rfl⟩
  ·have h8:=h3 j' n' p' h7 h9
   simp only[List.map_append,List.mem_append,List.map_cons,List.map_nil,List.mem_singleton]
   rw[h8]
   constructor
   ·rintro(h|h)
    ·exact .inl h
    ·subst h
     have e2:j'=j:=by
      obtain⟨a1,b1⟩:=List.getElem?_eq_some_iff.1 h7
      obtain⟨a2,b2⟩:=List.getElem?_eq_some_iff.1 eK
      exact(List.getElem_inj bG.nd).1 (b1.trans b2.symm)
     subst e2
     rw[hp]at h9;cases h9
     exact .inr rfl
   ·rintro(h|h)
    ·exact .inl h
    ·right
     have e1:(l.map (·.1))[j']?=some p'.1:=by rw[List.getElem?_map,h9];rfl
     have e2:(l.map (·.1))[j]?=some p.1:=by rw[List.getElem?_map,hp];rfl
     rw[h]at e1
     obtain⟨a1,b1⟩:=List.getElem?_eq_some_iff.1 e1
     obtain⟨a2,b2⟩:=List.getElem?_eq_some_iff.1 e2
     have:=(List.getElem_inj bS).1 (b1.trans b2.symm)
     subst this
     rw[eK]at h7;cases h7;rfl
theorem z164:(Tryz.prog.info? 164).bind (·.zero)=some (.agg #[.int .i64 0,.int .i64 0]):=by kernel_rfl
theorem abr (w:World) (φ:ai) (I:Nat->Prop):AV.den w φ I (.agg [Iv 0,Iv 0]) (.agg #[.int .i64 0,.int .i64 0]):=by
 simp only[AV.den,AV.ab,IV.den]
 exact⟨[_,_],⟨_,_,rfl,⟨rfl,rfl⟩,_,_,rfl,⟨rfl,rfl⟩,rfl⟩,rfl,by simp[Value.oneCell']⟩
abbrev Fo (m:List (Int×Int×Int)):aa:=[(0,.var (.map (kI m)) (vZ m))]
theorem LR (w:Int->Nat) (t:Tm):lE w t=if t.nm=[]then w t.ix else gA w 1 t.xs:=by cases t;rw[lE];rfl
theorem Uz (w:Int->Nat) (t:Tm):lD w t=if t.nm=[]then w t.ix else gz w 1 t.xs:=by cases t;rw[lD];rfl
theorem LS (w:Int->Nat):∀(l m:List Tm) (a:Nat),gA w a (l++m)=gA w (gA w a l) m
 |[],m,a=>by rw[List.nil_append,gA]
 |t::l,m,a=>by rw[List.cons_append,gA,gA,LS w l m]
theorem LN (w:Int->Nat):∀(l m:List Tm) (a:Nat),gz w a (l++m)=gz w (gz w a l) m
 |[],m,a=>by rw[List.nil_append,gz]
 |t::l,m,a=>by rw[List.cons_append,gz,gz,LN w l m]
theorem UB (w:Int->Nat) {l:List Tm} {k:Nat} {u:Tm} (h:l[k]?=some u) (a:Nat):gA w a (l.take (k+1))=min (gA w a (l.take k)+lE w u) 4001:=by rw[dX h,LS,gA,gA]
theorem UA (w:Int->Nat) {l:List Tm} {k:Nat} {u:Tm} (h:l[k]?=some u) (a:Nat):gz w a (l.take (k+1))=max (gz w a (l.take k)) (lD w u+1):=by rw[dX h,LN,gz,gz]
theorem Fl (w:Int->Nat):∀(l:List Tm) (a:Nat),a<=4001->gA w a l<=4001
 |[],a,h=>by rw[gA];exact h
 |t::l,a,h=>by rw[gA];exact Fl w l _ (by omega)
theorem LP (w:Int->Nat) (hw:∀v,w v<=4001) (t:Tm):lE w t<=4001:=by
 rw[LR]
 split
 ·exact hw _
 ·exact Fl w _ 1 (by omega)
mutual
theorem LL (w:Int->Nat) (D:Nat) (hw:∀v,w v<=D):∀t:Tm,lD w t<=D+wT t
 | .mk n i xs=>by
  rw[lD,wT]
  split
  ·have:=hw i;omega
  ·have:=Fk w D hw xs 1;omega
theorem Fk (w:Int->Nat) (D:Nat) (hw:∀v,w v<=D):∀(l:List Tm) (a:Nat),gz w a l<=max a (D+1+aK l)
 |[],a=>by rw[gz];omega
 |t::l,a=>by
  have U:=LL w D hw t
  have h2:=Fk w D hw l (max a (lD w t+1))
  rw[gz,aK];omega
end
theorem Rx:∀(l:List Tm) (k:Nat),aK (l.take k)<=aK l
 |[],k=>by rw[List.take_nil];exact Nat.le_refl _
 |t::l,0=>by rw[List.take_zero,aK];omega
 |t::l,k+1=>by rw[List.take_succ_cons,aK,aK];have:=Rx l k;omega
theorem LW (m:List (Int×Int×Int)) (wf df:Int->Nat) (bS:eE m) (hm:∀v,(aU m v).getD (1,1)=((wf v:Int),(df v:Int))) (CP:∀v,wf v<=4001) (F1:∀v,df v<=4001) (x:Tm) (hs:aR x) (hwx:wT x<=1000000):
  ao Tryz.prog 106 [bf x,.mp 0] (Fo m) (fun r H'=>r= .agg [Iv (lE wf x),Iv (lD df x)]/\H'=Fo m):=by
 have eW:=ji.1 hs
 have hN:=LR wf x
 have hD:=Uz df x
 refine ao.walk [0,1,2,4,5,6,7,9,10,13,21,26,27,28,29] [4,5,7,9,10] Tryz.func106 rfl Tryz.ntmps106 (by kernel_rfl) (by rfl) rfl fun W own I0 aq lay=>?_
 refine gO ?_
 refine AP.cond rfl rfl (fun h=>?_) (fun h=>?_)
 ·have h:x.nm=[]:=by simpa using h
  rw[if_pos h]at hN hD
  have nf:=hm x.ix
  refine gO ?_
  cases hq:dA m x.ix with
  |none=>
   rw[(nt hq).1,Option.getD_none]at nf
   have e1:((wf x.ix:Nat):Int)=1:=(Prod.mk.inj nf).1.symm
   have e2:((df x.ix:Nat):Int)=1:=(Prod.mk.inj nf).2.symm
   refine AQ.HM (.agg [Iv 0,Iv 0]) (by kernel_rfl) rfl rfl rfl I4 u3 (gF _) rfl (mA hq) z164 abr ?_
   refine sI ?_
   refine gO ?_
   exact AE.bm [2,1] rfl ⟨⟨rfl,Nat.le_of_ble_eq_true (by kernel_rfl)⟩,trivial⟩ (by simp only[go_sem,Nat.reduceAdd,Nat.reduceLeDiff,Nat.reduceSub,Int.reduceToNat,reduceCtorEq,bN,noMen,AV.mens,AV.men,fH,iP,Bool.or_false];first|done|rfl) ⟨by rw[hN,hD,e1,e2];rfl,rfl⟩
  |some j=>
   obtain⟨y,U,h2⟩:=pE hq
   rw[h2,Option.getD_some]at nf
   subst nf
   refine AQ.sF j (by kernel_rfl) rfl rfl rfl I4 u3 (gF _) rfl (List.mem_of_getElem? (show(kI m)[j]?=some (.int .i64 x.ix) from qQ U)) (fun i hi=>qR bS U hi) (aa7 U) ?_
   refine sI ?_
   refine gO ?_
   exact AE.bm [2,1] rfl ⟨⟨rfl,Nat.le_of_ble_eq_true (by kernel_rfl)⟩,trivial⟩ (by simp only[go_sem,Nat.reduceAdd,Nat.reduceLeDiff,Nat.reduceSub,Int.reduceToNat,reduceCtorEq,bN,noMen,AV.mens,AV.men,fH,iP,Bool.or_false];first|done|rfl) ⟨by rw[hN,hD];rfl,rfl⟩
 ·have h:¬x.nm=[]:=by simpa using h
  rw[if_neg h]at hN hD
  refine gE @aw ?_
  refine AP.loop rfl (α:=Nat) (fun k=>[(1,.mp 0),(4,.ob 1 0),(7,.ob 2 0),(26,.im (.sl 3 (az x.xs))),(27,Iv x.xs.length),(28,Iv k)]) (fun k=>(2,.var 164 [Iv (gA wf 1 (x.xs.take k)),Iv (gz df 1 (x.xs.take k))])::(1,.var 164 [Iv 0,Iv 0])::Fo m) (fun k=>k<=x.xs.length) (fun k=>x.xs.length-k) 0 (by omega) (sU) rfl fun k hk=>?_
  rcases Nat.eq_or_lt_of_le hk with aM|ag
  ·subst aM
   rw[List.take_length]
   refine gO ?_
   refine cF ?_
   refine gO ?_
   exact AE.bm [2,1] rfl ⟨⟨rfl,Nat.le_of_ble_eq_true (by kernel_rfl)⟩,trivial⟩ (by simp only[go_sem,Nat.reduceAdd,Nat.reduceLeDiff,Nat.reduceSub,Int.reduceToNat,reduceCtorEq,bN,noMen,AV.mens,AV.men,fH,iP,Bool.or_false];first|done|rfl) ⟨by rw[hN,hD];rfl,rfl⟩
  ·obtain⟨u,hu,aX⟩:=fo x.xs k ag
   have Xc:wT u<wT x:=Eb (List.mem_of_getElem? hu)
   have hw:=wr (x:=(k:Int)+1) (by omega)
   have ih:=LW m wf df bS hm CP F1 u (gl eW.2.2 hu) (by omega)
   have ei:=UB wf hu 1
   have fN:=UA df hu 1
   have cp:=Fl wf (x.xs.take k) 1 (by omega)
   have fY:=LP wf CP u
   have hb3:=Fk df 4001 F1 (x.xs.take k) 1
   have hb4:=LL df 4001 F1 u
   have hb5:aK (x.xs.take k)<=wT x:=by rw[xL];have:=Rx x.xs k;omega
   generalize gA wf 1 (x.xs.take k)=n1 at*
   generalize gz df 1 (x.xs.take k)=d1 at*
   generalize lE wf u=n2 at*
   generalize lD df u=d2 at*
   have cL:=wr (x:=(n1:Int)+n2) (by omega)
   have iJ:=wr (x:=(d2:Int)+1) (by omega)
   refine gO ?_
   refine cT ?_
   refine gE (an @aX @aw) ?_
   refine AQ.fix 3 rfl rfl ?_
   refine sI ?_
   refine AQ.bR [(0,0)] (by kernel_rfl) rfl rfl rfl rfl rfl rfl (by refine⟨?_,trivial⟩;rw[dK,IE];rfl) rfl ih fun r' H' ⟨e1,e2⟩=>?_
   subst e1;subst e2
   refine sH ?_
   refine gO ?_
   refine AP.db 16 (Tree.node [] [0,1,2,3,4,5,6,7,8,9,10,11,12] [13] [Tree.node [8,9,10,11] [14] [15] [Tree.node [] [] [] []]]) (by kernel_rfl) rfl (by kernel_rfl) (by kernel_rfl) ?_
   refine c_ ?_
   refine sI ?_
   refine AQ.go (by kernel_rfl) ?_
   refine sI ?_
   refine AQ.nx rfl ?_
   refine sI ?_
   refine AQ.go (by kernel_rfl) ?_
   refine sI ?_
   refine AQ.nx rfl ?_
   refine sI ?_
   refine AQ.done ?_
   refine gE @hw ?_
   refine AE.eJ [3] (by simp only[go_sem,Nat.reduceAdd,Nat.reduceLeDiff,Nat.reduceSub,Int.reduceToNat,reduceCtorEq,bN,noMen,AV.mens,AV.men,fH,iP,Bool.or_false];first|done|rfl) ?_
   refine sI ?_
   refine AE.round (k+1) (by omega) (by omega) (sU) ?_
   have e1:(if(4001:Int)<(n1:Int)+n2 then 4001 else(n1:Int)+n2)=((min (n1+n2) 4001:Nat):Int):=by split<;>omega
   have e2:(if(d1:Int)<(d2:Int)+1 then(d2:Int)+1 else(d1:Int))=((max d1 (d2+1):Nat):Int):=by split<;>omega
   rw[cL,iJ,e1,e2,ei,fN]
termination_by SizeOf.sizeOf x
decreasing_by exact lX hu
def dW (l:Bd) (v:Int):Tm:=match aU l v with
 |some t=>al bg t
 |none=>bg v
abbrev qb (l:Bd):aa:=[(1,.var 158 [.mp 0]),(0,.var (.map (kI l)) (vT l))]
theorem SE (l:Bd) (bS:eE l) (hs:iy l) (v:Int):ao Tryz.prog 107 [Iv v,.ob 1 0] (qb l) (fun r H'=>r=bf (dW l v)/\H'=qb l):=by
 refine ao.walk [0,1,3,4,5,12] [3,4] Tryz.func107 rfl Tryz.ntmps107 (by kernel_rfl) (by rfl) rfl fun W own I0 aq lay=>?_
 refine gO ?_
 cases hq:dA l v with
 |none=>
  have he:dW l v=bg v:=by rw[dW,(nt hq).1]
  refine AQ.HM (.agg [Sv [],Iv 0,eO]) (by kernel_rfl) rfl rfl rfl xx u3 (gF _) rfl (mA hq) RI RJ ?_
  refine sI ?_
  refine gO ?_
  refine AQ.fn (by kernel_rfl) rfl rfl rfl (AF v) rfl ?_
  refine sI ?_
  refine gO ?_
  exact AE.bm [3,2] rfl ⟨⟨rfl,Nat.le_of_ble_eq_true (by kernel_rfl)⟩,trivial⟩ (by simp only[go_sem,Nat.reduceAdd,Nat.reduceLeDiff,Nat.reduceSub,Int.reduceToNat,reduceCtorEq,bN,noMen,AV.mens,AV.men,fH,iP,Bool.or_false];first|done|rfl) ⟨by rw[he];rfl,rfl⟩
 |some j=>
  obtain⟨y,U,h2⟩:=pE hq
  have he:dW l v=al bg y:=by rw[dW,h2]
  refine AQ.sF j (by kernel_rfl) rfl rfl rfl xx u3 (gF _) rfl (List.mem_of_getElem? (show(kI l)[j]?=some (.int .i64 v) from qQ U)) (fun i hi=>qR bS U hi) (Jb U) ?_
  refine sI ?_
  refine gO ?_
  refine AQ.fn (by kernel_rfl) rfl rfl rfl (TI y (hs.2 _ (List.mem_of_getElem? U))) rfl ?_
  refine sI ?_
  refine gO ?_
  exact AE.bm [3,2] rfl ⟨⟨rfl,Nat.le_of_ble_eq_true (by kernel_rfl)⟩,trivial⟩ (by simp only[go_sem,Nat.reduceAdd,Nat.reduceLeDiff,Nat.reduceSub,Int.reduceToNat,reduceCtorEq,bN,noMen,AV.mens,AV.men,fH,iP,Bool.or_false];first|done|rfl) ⟨by rw[he];rfl,rfl⟩
theorem Ko (l:Bd) (bS:eE l) (hl:iy l) (x:Tm) (hs:aR x):ao Tryz.prog 140 [bf x,.fn 107 [] [.ob 1 0]] (qb l) (fun r H'=>r=bf (al (dW l) x)/\H'=qb l):=by
 have eW:=ji.1 hs
 have hc:=qe (dW l) x
 refine ao.walk [0,1,2,4,5,7,10,19,20,21,22] [4,5,7] Tryz.func140 rfl Tryz.ntmps140 (by kernel_rfl) (by rfl) rfl fun W own I0 aq lay=>?_
 refine gO ?_
 refine AP.cond rfl rfl (fun h=>?_) (fun h=>?_)
 ·rw[if_pos (by simpa using h)]at hc
  refine gO ?_
  refine AQ.bR [(1,1),(0,0)] (by kernel_rfl) rfl rfl rfl rfl rfl rfl (by refine⟨?_,?_,trivial⟩<;>(simp only[dK,AV.cO,AV.rn,xf];rfl)) rfl (SE l bS hl x.ix) fun r' H' ⟨e1,e2⟩=>?_
  subst e1;subst e2
  refine sH ?_
  refine gO ?_
  exact AE.bm [2] rfl ⟨⟨rfl,Nat.le_of_ble_eq_true (by kernel_rfl)⟩,trivial⟩ (by simp only[go_sem,Nat.reduceAdd,Nat.reduceLeDiff,Nat.reduceSub,Int.reduceToNat,reduceCtorEq,bN,noMen,AV.mens,AV.men,fH,iP,Bool.or_false];first|done|rfl) ⟨by rw[hc];rfl,rfl⟩
 rw[if_neg (by simpa using h)]at hc
 refine gE @aw ?_
 rw[kH]at hc
 refine AP.jg 3 2 71 3 rfl rfl ?_
 refine sI ?_
 refine AP.loop rfl (α:=Nat) (fun k=>[(1,.fn 107 [] [.ob 1 0]),(4,.ob 2 0),(5,.ob 3 0),(19,.im (.sl 3 (az x.xs))),(20,Iv x.xs.length),(21,Iv k)]) (fun k=>(4,.vec 71 3 (az ((x.xs.take k).map (al (dW l)))))::(3,.var 71 [Sv x.nm,Iv 0,.os 4 3 0 k])::(2,.var 71 [Sv [],Iv 0,eO])::qb l) (fun k=>k<=x.xs.length) (fun k=>x.xs.length-k) 0 (by omega) (sU) rfl fun k hk=>?_
 rcases Nat.eq_or_lt_of_le hk with aM|ag
 ·subst aM
  rw[List.take_length]
  refine gE @aw ?_
  refine cF ?_
  refine gO ?_
  refine AE.freeze 4 (el:=71) (es:=3) (rows:=az (x.xs.map (al (dW l)))) rfl (by simp only[go_sem,Nat.reduceAdd,Nat.reduceLeDiff,Nat.reduceSub,Int.reduceToNat,reduceCtorEq,aw,List.length_map];first|done|trivial|omega|(simp;done)|(simp;omega)) (by simp only[go_sem,Nat.reduceAdd,Nat.reduceLeDiff,Nat.reduceSub,Int.reduceToNat,reduceCtorEq,aw,List.length_map];first|done|trivial|omega|(simp;done)|(simp;omega)) ?_;simp only[go_sem,Nat.reduceAdd,Nat.reduceLeDiff,Nat.reduceSub,Int.reduceToNat,reduceCtorEq,aw,List.length_map]
  rw[List.take_of_length_le (by rw[aw,List.length_map];omega)]
  exact AE.bm [3,2] rfl ⟨⟨rfl,Nat.le_of_ble_eq_true (by kernel_rfl)⟩,trivial⟩ (by simp only[go_sem,Nat.reduceAdd,Nat.reduceLeDiff,Nat.reduceSub,Int.reduceToNat,reduceCtorEq,bN,noMen,AV.mens,AV.men,fH,iP,Bool.or_false];first|done|rfl) ⟨by rw[hc];rfl,rfl⟩
 ·obtain⟨u,hu,aX⟩:=fo x.xs k ag
  have hw:=wr (x:=(k:Int)+1) (by omega)
  have bc:=oO (l:=x.xs) (k:=k) (by omega)
  have ih:=Ko l bS hl u (gl eW.2.2 hu)
  have bP:=uJ (al (dW l)) hu
  obtain⟨w,qK⟩:∃w,al (dW l) u=w:=⟨_,rfl⟩
  rw[qK]at ih bP
  refine gE @aw ?_
  refine cT ?_
  refine gE @aX ?_
  refine⟨by rw[aw];omega,?_⟩
  refine gO ?_
  refine AP.db 9 (Tree.node [] [0,1,2,3] [4] [Tree.node [0,1] [] [5] [Tree.node [0,1] [] [6] [Tree.node [] [7] [8] [Tree.node [] [] [] []]]]]) (by kernel_rfl) rfl (by kernel_rfl) (by kernel_rfl) ?_
  refine c_ ?_
  refine sI ?_
  refine AQ.bR [(1,1),(0,0)] (by kernel_rfl) rfl rfl rfl rfl rfl rfl (by refine⟨?_,?_,trivial⟩<;>(simp only[dK,AV.cO,AV.rn,xf];rfl)) rfl ih fun r' H' ⟨e1,e2⟩=>?_
  subst e1;subst e2
  refine sH ?_
  refine AQ.nx rfl ?_
  refine sI ?_
  refine AQ.go (by kernel_rfl) ?_
  refine sI ?_
  refine AQ.nx rfl ?_
  refine sI ?_
  refine AQ.kill 4 ?_
  refine sI ?_
  refine AQ.append (hnb:=rfl) (rows:=az ((x.xs.take k).map (al (dW l)))) (es:=2) (by kernel_rfl) rfl rfl rfl (by first|(simp only[go_sem,noMen,AV.mens,AV.men,Bool.or_false];done)|(simp only[go_sem,noMen,AV.mens,AV.men,Bool.or_false];rfl)) Tryz.s8 Tryz.s6 (by show Option.map _ (aA Tryz.prog 71)=_;rw[Tryz.td];rfl) Tryz.rB (by first|rfl|(simp only[aw,List.length_map,bc,List.length_cons,List.length_nil];done)|(simp only[aw,List.length_map,bc,List.length_cons,List.length_nil];omega)) (by simp only[aw,List.length_map,bc,List.length_cons,List.length_nil];omega) (by simp only[aw,List.length_map,bc,List.length_cons,List.length_nil];omega) ?_
  refine sI ?_
  refine AQ.nx rfl ?_
  refine sI ?_
  refine AQ.go (by kernel_rfl) ?_
  refine sI ?_
  refine AQ.nx rfl ?_
  refine sI ?_
  refine AQ.done ?_
  refine gE @hw ?_
  refine AE.eJ [5] (by simp only[go_sem,Nat.reduceAdd,Nat.reduceLeDiff,Nat.reduceSub,Int.reduceToNat,reduceCtorEq,bN,noMen,AV.mens,AV.men,fH,iP,Bool.or_false];first|done|rfl) ?_
  refine sI ?_
  refine AE.round (k+1) (by omega) (by omega) (sU) ?_
  rw[bP,rh,aw,List.length_map,bc];rfl
termination_by SizeOf.sizeOf x
decreasing_by exact lX hu
theorem Tl (l:Bd) (bS:eE l) (hl:iy l) (c:List Lt) (hs:ft c):ao Tryz.prog 93 [b6 c,.fn 107 [] [.ob 1 0]] (qb l) (fun r H'=>r=b6 (cU (dW l) c)/\H'=qb l):=by
 have cz:=hs.1
 refine ao.walk [0,1,4,5,7,8,10,11,12,13,14,23,24,25,26] [7,8,10] Tryz.func93 rfl Tryz.ntmps93 (by kernel_rfl) (by rfl) rfl fun W own I0 aq lay=>?_
 refine gE @bn ?_
 refine AP.own 5 119 3 rfl ?_
 refine sI ?_
 refine AP.loop rfl (α:=Nat) (fun k=>[(1,.fn 107 [] [.ob 1 0]),(5,.os 2 3 0 k),(11,b6 c),(12,Iv c.length),(13,Iv k)]) (fun k=>(2,.vec 119 3 (cD ((c.take k).map (fK (dW l)))))::qb l) (fun k=>k<=c.length) (fun k=>c.length-k) 0 (by omega) (sU) rfl fun k hk=>?_
 rcases Nat.eq_or_lt_of_le hk with aM|ag
 ·subst aM
  rw[List.take_length]
  refine gE @bn ?_
  refine cF ?_
  refine gO ?_
  refine AE.freeze 2 (el:=119) (es:=3) (rows:=cD (c.map (fK (dW l)))) rfl (by simp only[go_sem,Nat.reduceAdd,Nat.reduceLeDiff,Nat.reduceSub,Int.reduceToNat,reduceCtorEq,bn,List.length_map];first|done|trivial|omega|(simp;done)|(simp;omega)) (by simp only[go_sem,Nat.reduceAdd,Nat.reduceLeDiff,Nat.reduceSub,Int.reduceToNat,reduceCtorEq,bn,List.length_map];first|done|trivial|omega|(simp;done)|(simp;omega)) ?_;simp only[go_sem,Nat.reduceAdd,Nat.reduceLeDiff,Nat.reduceSub,Int.reduceToNat,reduceCtorEq,bn,List.length_map]
  rw[List.take_of_length_le (by rw[bn,List.length_map];omega)]
  exact AE.bm [] rfl ⟨rfl,trivial⟩ rfl ⟨rfl,rfl⟩
 ·obtain⟨u,hu,aX⟩:=oC c k ag
  have hw:=wr (x:=(k:Int)+1) (by omega)
  have bc:=oO (l:=c) (k:=k) (by omega)
  have cY:=tx hs hu
  have zD:=cY.2.1
  have bP:=uJ (fK (dW l)) hu
  refine gE @bn ?_
  refine cT ?_
  refine gE @aX ?_
  refine⟨by rw[bn];omega,?_⟩
  refine gE @aw ?_
  refine AP.jg 4 2 71 3 rfl rfl ?_
  refine sI ?_
  have B9:fK (dW l) u=⟨u.ng,u.pd,u.xs.map (al (dW l))⟩:=by rw[fK,kH]
  refine AP.loop rfl (α:=Nat) (fun j=>[(1,.fn 107 [] [.ob 1 0]),(5,.os 2 3 0 k),(8,.ob 4 0),(11,b6 c),(12,Iv c.length),(13,Iv k),(23,.im (.sl 3 (az u.xs))),(24,Iv u.xs.length),(25,Iv j)]) (fun j=>(5,.vec 71 3 (az ((u.xs.take j).map (al (dW l)))))::(4,.var 119 [Bv u.ng,Sv u.pd,.os 5 3 0 j])::(3,.var 119 [Bv u.ng,Sv u.pd,.im (.sl 3 (az u.xs))])::(2,.vec 119 3 (cD ((c.take k).map (fK (dW l)))))::qb l) (fun j=>j<=u.xs.length) (fun j=>u.xs.length-j) 0 (by omega) (sU) rfl fun j hj=>?_
  rcases Nat.eq_or_lt_of_le hj with iG|od
  ·subst iG
   rw[List.take_length]
   refine gE @aw ?_
   refine cF ?_
   refine sI ?_
   refine AP.freeze 5 (el:=71) (es:=3) (rows:=az (u.xs.map (al (dW l)))) rfl (by simp only[go_sem,Nat.reduceAdd,Nat.reduceLeDiff,Nat.reduceSub,Int.reduceToNat,reduceCtorEq,aw,List.length_map];first|done|trivial|omega|(simp;done)|(simp;omega)) (by simp only[go_sem,Nat.reduceAdd,Nat.reduceLeDiff,Nat.reduceSub,Int.reduceToNat,reduceCtorEq,aw,List.length_map];first|done|trivial|omega|(simp;done)|(simp;omega)) ?_;simp only[go_sem,Nat.reduceAdd,Nat.reduceLeDiff,Nat.reduceSub,Int.reduceToNat,reduceCtorEq,aw,List.length_map]
   rw[show List.take u.xs.length (az (u.xs.map (al (dW l))))=az (u.xs.map (al (dW l))) from List.take_of_length_le (by rw[aw,List.length_map];omega)]
   refine gO ?_
   refine AQ.append (hnb:=rfl) (rows:=cD ((c.take k).map (fK (dW l)))) (es:=2) (by kernel_rfl) rfl rfl rfl (by first|(simp only[go_sem,noMen,AV.mens,AV.men,Bool.or_false];done)|(simp only[go_sem,noMen,AV.mens,AV.men,Bool.or_false];rfl)) Tryz.D1 Tryz.DY (by show Option.map _ (aA Tryz.prog 119)=_;rw[Tryz.Eh];rfl) Tryz.Bn (by first|rfl|(simp only[bn,List.length_map,bc,List.length_cons,List.length_nil];done)|(simp only[bn,List.length_map,bc,List.length_cons,List.length_nil];omega)) (by simp only[bn,List.length_map,bc,List.length_cons,List.length_nil];omega) (by simp only[bn,List.length_map,bc,List.length_cons,List.length_nil];omega) ?_
   refine sI ?_
   refine gE @hw ?_
   refine AE.eJ [4,3] (by simp only[go_sem,Nat.reduceAdd,Nat.reduceLeDiff,Nat.reduceSub,Int.reduceToNat,reduceCtorEq,bN,noMen,AV.mens,AV.men,fH,iP,Bool.or_false];first|done|rfl) ?_
   refine sE (an @bn (an @List.length_map.{0,0} @bc)) ?_
   refine AE.round (k+1) (by omega) (by omega) (sU) ?_
   rw[bP,Dh,B9];rfl
  ·obtain⟨v,hv,jd⟩:=fo u.xs j od
   have iJ:=wr (x:=(j:Int)+1) (by have:=cY.2.1;omega)
   have ot:=oO (l:=u.xs) (k:=j) (by omega)
   have ih:=Ko l bS hl v (gl cY.2.2 hv)
   have sa:=uJ (al (dW l)) hv
   obtain⟨w,qK⟩:∃w,al (dW l) v=w:=⟨_,rfl⟩
   rw[qK]at ih sa
   refine gE @aw ?_
   refine cT ?_
   refine gE @jd ?_
   refine⟨by rw[aw];omega,?_⟩
   refine gO ?_
   refine AP.db 9 (Tree.node [] [0,1,2,3] [4] [Tree.node [0,1] [] [5] [Tree.node [0,1] [] [6] [Tree.node [] [7] [8] [Tree.node [] [] [] []]]]]) (by kernel_rfl) rfl (by kernel_rfl) (by kernel_rfl) ?_
   refine c_ ?_
   refine sI ?_
   refine AQ.bR [(1,1),(0,0)] (by kernel_rfl) rfl rfl rfl rfl rfl rfl (by refine⟨?_,?_,trivial⟩<;>(simp only[dK,AV.cO,AV.rn,xf];rfl)) rfl ih fun r' H' ⟨e1,e2⟩=>?_
   subst e1;subst e2
   refine sH ?_
   refine AQ.nx rfl ?_
   refine sI ?_
   refine AQ.go (by kernel_rfl) ?_
   refine sI ?_
   refine AQ.nx rfl ?_
   refine sI ?_
   refine AQ.kill 5 ?_
   refine sI ?_
   refine AQ.append (hnb:=rfl) (rows:=az ((u.xs.take j).map (al (dW l)))) (es:=2) (by kernel_rfl) rfl rfl rfl (by first|(simp only[go_sem,noMen,AV.mens,AV.men,Bool.or_false];done)|(simp only[go_sem,noMen,AV.mens,AV.men,Bool.or_false];rfl)) Tryz.s8 Tryz.s6 (by show Option.map _ (aA Tryz.prog 71)=_;rw[Tryz.td];rfl) Tryz.rB (by first|rfl|(simp only[aw,List.length_map,ot,List.length_cons,List.length_nil];done)|(simp only[aw,List.length_map,ot,List.length_cons,List.length_nil];omega)) (by simp only[aw,List.length_map,ot,List.length_cons,List.length_nil];omega) (by simp only[aw,List.length_map,ot,List.length_cons,List.length_nil];omega) ?_
   refine sI ?_
   refine AQ.nx rfl ?_
   refine sI ?_
   refine AQ.go (by kernel_rfl) ?_
   refine sI ?_
   refine AQ.nx rfl ?_
   refine sI ?_
   refine AQ.done ?_
   refine gE @iJ ?_
   refine AE.eJ [6] (by simp only[go_sem,Nat.reduceAdd,Nat.reduceLeDiff,Nat.reduceSub,Int.reduceToNat,reduceCtorEq,bN,noMen,AV.mens,AV.men,fH,iP,Bool.or_false];first|done|rfl) ?_
   refine sI ?_
   refine AE.round (j+1) (by omega) (by omega) (sU) ?_
   rw[sa,rh,aw,List.length_map,ot];rfl
def pH (w d:Int->Nat):List Tm->Nat->Option Nat
 |[],n=>some n
 |t::l,n=>if 4000<n+lE w t\/100<lD d t then none else pH w d l (n+lE w t)
def oA (w d:Int->Nat):List Lt->Nat->Option Nat
 |[],n=>some n
 |x::c,n=>match pH w d x.xs (n+1)with
  |some m=>oA w d c m
  |none=>none
theorem OB (f:Int->Tm) (w d:Int->Nat) (hw:∀v,w v=wT (f v)/\w v<=4001) (hd:∀v,d v=cd (f v)):∀(ts:List Tm) (n:Nat),
  (∀m,pH w d ts n=some m->m=n+aK (bK f ts)/\dj (bK f ts)<=100)/\(pH w d ts n=none->4000<n+aK (bK f ts)\/100<dj (bK f ts))
 |[],n=>by
  rw[pH,bK,aK,dj]
  exact⟨fun m h=>by cases h;omega,fun h=>by cases h⟩
 |t::l,n=>by
  have U:=LQ f w t fun v _=>hw v
  have h2:=LM f d t fun v _=>hd v
  obtain⟨h3,h4⟩:=OB f w d hw hd l (n+lE w t)
  rw[pH,bK,aK,dj]
  by_cases h:4000<n+lE w t\/100<lD d t
  ·rw[if_pos h]
   exact⟨fun m h=>(by cases h),fun _=>by omega⟩
  ·rw[if_neg h]
   refine⟨fun m hm=>?_,fun hn=>?_⟩
   ·have:=h3 m hm;omega
   ·have:=h4 hn;omega
theorem OA (f:Int->Tm) (w d:Int->Nat) (hw:∀v,w v=wT (f v)/\w v<=4001) (hd:∀v,d v=cd (f v)):∀(c:List Lt) (n:Nat),
  (∀m,oA w d c n=some m->m=n+b8 (cU f c)/\fw (cU f c)<=100)/\(oA w d c n=none->4000<n+b8 (cU f c)\/100<fw (cU f c))
 |[],n=>by
  rw[oA]
  exact⟨fun m h=>by cases h;exact⟨rfl,by show fw []<=100;rw[fw];omega⟩,fun h=>by cases h⟩
 |x::c,n=>by
  obtain⟨U,h2⟩:=OB f w d hw hd x.xs (n+1)
  have e:cU f (x::c)=fK f x::cU f c:=rfl
  rw[oA,e,nC,fw]
  have e2:(fK f x).xs=bK f x.xs:=rfl
  rw[e2]
  cases hq:pH w d x.xs (n+1)with
  |none=>
   refine⟨fun m h=>(by cases h),fun _=>?_⟩
   have:=h2 hq;omega
  |some k=>
   obtain⟨h3,h4⟩:=OA f w d hw hd c k
   have h5:=U k hq
   refine⟨fun m h=>?_,fun h=>?_⟩
   ·have:=h3 m h;omega
   ·have:=h4 h;omega
theorem Y3 {l:List Tm} (h:cB l=true):∀a∈l,Lf a:=fun a ha=>Pc (qY h a ha)
theorem w7 {l:Lt} (h:iQ l=true):cB l.xs=true:=by
 rw[iQ]at h
 split at h<;>exact(Bool.and_eq_true _ _▸h).2
theorem vu {c:List Lt} (h:bp 4 9 2 3 c=0):c.length<=40/\b8 c<=4000/\fw c<=100/\∀l∈c,iQ l=true:=by
 rw[EK (by decide) (by decide) (by decide) (by decide)]at h
 exact⟨h.1,h.2.1,h.2.2.1,List.all_eq_true.1 h.2.2.2⟩
theorem rC {t:Tm} (h:bp 4 9 2 3 (aJ t)=0):c7 t=true/\wT t<=3999/\cd t<=100:=by
 obtain⟨_,U,h2,h3⟩:=vu h
 have h4:=w7 (h3 _ (List.mem_singleton.2 rfl))
 simp only[aJ,b8,jF,List.map_cons,List.map_nil,List.sum_cons,List.sum_nil,aK]at U
 simp only[aJ,fw,dj]at h2
 exact⟨qY h4 t (List.mem_singleton.2 rfl),by omega,by omega⟩
theorem yc:∀(l p:Bd),fT p l=0->∀b∈l,0<=b.1/\b.1<1000/\bp 4 9 2 3 (aJ b.2)=0
 |[],p,_,b,hb=>by cases hb
 |x::l,p,h,b,hb=>by
  rw[fT]at h
  by_cases U:x.1<0\/999<x.1
  ·rw[if_pos U]at h;exact absurd h (by decide)
  ·rw[if_neg U]at h
   by_cases h2:(mD p x.1).isSome=true
   ·rw[if_pos h2]at h;exact absurd h (by decide)
   ·rw[if_neg h2]at h
    by_cases h3:bp 4 9 2 3 (aJ x.2)≠0
    ·rw[if_pos h3]at h;exact absurd h h3
    ·rw[if_neg h3]at h
     rcases List.mem_cons.1 hb with rfl|hb
     ·exact⟨by omega,by omega,by simpa using h3⟩
     ·exact yc l _ h b hb
theorem Z4 {l:Bd} (h:fT [] l=0) (v:Int):dW l v=aV l v:=by
 rw[dW,aV,sB]
 cases hq:aU l v with
 |none=>rfl
 |some t=>
  have:=rC (yc l [] h _ (nw hq)).2.2
  exact Kj _ _ this.1 fun v _=>rfl
theorem Z7 {l:Bd} (h:fT [] l=0) (v:Int):wT (aV l v)<=3999/\cd (aV l v)<=100:=by
 rw[aV,sB]
 cases hq:aU l v with
 |none=>rw[Option.getD_none,bg,wT,aK,cd,dj];omega
 |some t=>exact(rC (yc l [] h _ (nw hq)).2.2).2
theorem JL (l:Bd):∀(ts:List Tm) (n:Int),cB ts=true->x4 l ts n<=n+aK (bK (aV l) ts)
 |[],n,_=>by rw[x4,bK,aK];omega
 |t::k,n,h=>by
  rw[cB,Bool.and_eq_true]at h
  have U:=Qf l t h.1
  rw[x4,bK,aK]
  by_cases hc:4000<n+sZ l t
  ·rw[if_pos hc];omega
  ·rw[if_neg hc];have:=JL l k (n+sZ l t) h.2;omega
theorem Pf:∀l m:List Tm,cB (l++m)=(cB l&&cB m)
 |[],m=>by rw[cB];rfl
 |t::l,m=>by rw[List.cons_append,cB,cB,Pf l m,Bool.and_assoc]
theorem T5 (t:Tm):ew 2 3 t=0\/ew 2 3 t=2\/ew 2 3 t=3:=by
 rw[ew]
 repeat' split
 all_goals decide
mutual
theorem T8:∀t,me 2 3 t=0\/me 2 3 t=2\/me 2 3 t=3
 | .mk n i xs=>by
  rw[me]
  split
  ·exact T5 _
  ·exact Fc xs
theorem Fc:∀l,eg 2 3 l=0\/eg 2 3 l=2\/eg 2 3 l=3
 |[]=>by rw[eg];exact .inl rfl
 |t::l=>by
  rw[eg]
  split
  ·exact T8 t
  ·exact Fc l
end
theorem Ln:∀c,iV 2 3 c=0\/iV 2 3 c=2\/iV 2 3 c=3
 |[]=>by rw[iV];exact .inl rfl
 |l::c=>by
  rw[Lm]
  split
  ·exact .inr (.inl rfl)
  ·split
   ·exact Fc _
   ·exact Ln c
theorem Ph:∀c:List Lt,(∀l∈c,iQ l=true)->cB (c.flatMap (·.xs))=true
 |[],_=>by rw[List.flatMap_nil,cB]
 |l::c,h=>by
  rw[List.flatMap_cons,Pf,w7 (h l (List.mem_cons_self ..)),Ph c fun x hx=>h x (List.mem_cons_of_mem _ hx)];rfl
theorem JS (f:Int->Tm):∀c:List Lt,(cU f c).flatMap (·.xs)=bK f (c.flatMap (·.xs))
 |[]=>by rw[List.flatMap_nil,bK];rfl
 |l::c=>by rw[show cU f (l::c)=fK f l::cU f c from rfl,List.flatMap_cons,List.flatMap_cons,JS f c,kH,kH,fK,kH,List.map_append]
theorem Et {c:List Lt} {l:Bd} (h:∀x∈c,iQ x=true):ry c l=cU (aV l) c:=by
 rw[ry,cU]
 refine List.map_congr_left fun x hx=>?_
 have U:=Y3 (w7 (h x hx))
 rw[I6,fK,AB,kH]
 congr 1
 exact List.map_congr_left fun t ht=>aaY l (U t ht)
theorem JR {c:List Lt} {l:Bd} (hc:bp 4 9 2 3 c=0):Bj c l=if mP (cU (aV l) c)then 15 else 0:=by
 obtain⟨U,h2,h3,h4⟩:=vu hc
 have hlen:(cU (aV l) c).length=c.length:=by rw[cU,List.length_map]
 have ha:=JL l (c.flatMap (·.xs)) c.length (Ph c h4)
 have hn:=Dl (cU (aV l) c)
 rw[JS,hlen]at hn
 have hk:(bp 4 9 2 3 (cU (aV l) c)=4\/bp 4 9 2 3 (cU (aV l) c)=9)↔mP (cU (aV l) c)=true:=by
  rw[bp,if_neg (by omega:¬40<(cU (aV l) c).length),mP,Bool.or_eq_true,decide_eq_true_iff,decide_eq_true_iff]
  by_cases g1:4000<b8 (cU (aV l) c)
  ·rw[if_pos g1];exact⟨fun _=> .inl g1,fun _=> .inl rfl⟩
  ·rw[if_neg g1]
   by_cases g2:100<fw (cU (aV l) c)
   ·rw[if_pos g2];exact⟨fun _=> .inr g2,fun _=> .inr rfl⟩
   ·rw[if_neg g2]
    have hf:iV 2 3 (cU (aV l) c)=0\/iV 2 3 (cU (aV l) c)=2\/iV 2 3 (cU (aV l) c)=3:=Ln _
    exact⟨fun h=>by omega,fun h=>by omega⟩
 rw[Bj,Et h4]
 by_cases hb:mP (cU (aV l) c)=true
 ·rw[if_pos hb]
  split
  ·rfl
  ·rw[if_pos (hk.2 hb)]
 ·rw[if_neg hb,if_neg,if_neg (fun h=>hb (hk.1 h))]
  intro hc
  refine hb ?_
  rw[mP,Bool.or_eq_true,decide_eq_true_iff];left;omega
theorem ao.Pn {P:Program} {f:FuncId} {xs:List AV} {H:aa} {c:List Lt} {e:AV} {H0:aa} (h:ao P f xs H (fun r H'=>H'=H0/\(r= .aG [b6 c,e]\/c=[]/\r= .aG [eO,e]))):ao P f xs H (fun r H'=>H'=H0/\r= .aG [b6 c,e]):=
 ao.told h fun r H' ⟨hH,hr⟩=>⟨_,⟨hH,rfl⟩,by
  rcases hr with rfl|⟨hc,rfl⟩
  ·exact fun _ _ _ _ h=>h
  ·subst hc;exact Tv _⟩
@[go_sem] theorem aae (k:Nat):∀m:List (Int×Tm),AV.ln k (vT m)=vT m
 |[]=>rfl
 |_::m=>by rw[vT,List.map_cons,AV.ln,<-vT,aae k m];rfl
theorem SF (c:List Lt) (l:Bd) (hs:ft c) (hl:iy l):bh Tryz.prog 32 [b6 c,gV l] (.aG [b6 (oU c l),Iv (dE c l)]):=by
 have hE:dE c l=_:=dE.eq_def c l
 have hR:oU c l=_:=oU.eq_def c l
 have cz:=hs.1
 refine ao.Pn ?_
 refine ao.walk [0,1,4,5,6,7,8,9,10,12,14,15,19,27,31,32,33,34,40,41,42,43,59,63] [7,12,14,15] Tryz.func32 rfl Tryz.ntmps32 (by kernel_rfl) (by rfl) rfl fun W own I0 aq lay=>?_
 refine gO ?_
 refine AQ.fn (by kernel_rfl) rfl rfl rfl (vt c hs) rfl ?_
 refine sI ?_
 refine gO ?_
 refine AP.cond rfl rfl (fun U=>?_) (fun U=>?_)
 ·have U:bp 4 9 2 3 c≠0:=by simpa using U
  rw[if_pos U]at hE hR
  refine gO ?_
  exact AE.bz rfl ⟨rfl,rfl,trivial⟩ rfl ⟨rfl,.inr ⟨hR,by rw[hE];rfl⟩⟩
 have U:bp 4 9 2 3 c=0:=by simpa using U
 rw[if_neg (by simpa using U)]at hE hR
 have iF:=S0 l hl
 refine gO ?_
 refine AQ.Bp (by kernel_rfl) rfl rfl rfl iF fun r' H' kW=>?_
 rcases kW with⟨h2,bS,e1,e2⟩|⟨h2,e1,e2⟩
 ·subst e1;subst e2
  rw[if_neg (by simpa using h2)]at hE hR
  have sg:=abh l bS hl fun p hp=>by have:=(rC (yc l [] h2 p hp).2.2).2.1;omega
  refine sI ?_
  refine gO ?_
  refine AQ.bR [(0,0)] (by kernel_rfl) rfl rfl rfl rfl rfl rfl (by refine⟨?_,trivial⟩;simp only[dK,AV.cO,AV.rn,xf];rfl) rfl sg fun r' H' ⟨m,pn,gC,e1,e2⟩=>?_
  subst e1;subst e2
  refine sH ?_
  have V0:∀v,(aU m v).getD (1,1)=((wT (aV l v):Int),(cd (aV l v):Int)):=fun v=>by
   rw[gC v,aV,sB]
   cases aU l v with
   |none=>rw[Option.map_none,Option.getD_none,Option.getD_none,bg,wT,aK,cd,dj];rfl
   |some t=>rfl
  have aO:=Z7 h2
  obtain⟨dq,ej⟩:=OA (aV l) (fun v=>wT (aV l v)) (fun v=>cd (aV l v)) (fun v=>⟨rfl,by have:=aO v;omega⟩) (fun v=>rfl) c 0
  have Mm:=JR (l:=l) U
  obtain⟨mh,oh,lL,y_⟩:=vu U
  have ah:vo c l=if mP (cU (aV l) c)then[]else cU (aV l) c:=by
   rw[vo,Mm,Et y_]
   by_cases hb:mP (cU (aV l) c)=true
   ·rw[if_pos hb,if_pos hb];rfl
   ·rw[if_neg hb,if_neg hb];rfl
  rw[Mm]at hE
  rw[ah]at hR
  have iY:∀n:Nat,4000<n+b8 (cU (aV l) c)-n\/100<fw (cU (aV l) c)->mP (cU (aV l) c)=true:=fun n h=>by
   rw[mP,Bool.or_eq_true,decide_eq_true_iff,decide_eq_true_iff];omega
  refine gE @bn ?_
  refine AP.loop rfl (α:=Nat×Nat) (fun s=>[(0,b6 c),(7,.ob 1 0),(9,.mp 3),(10,Iv s.2),(31,b6 c),(32,Iv c.length),(33,Iv s.1)]) (fun _=>[(3,.var (.map (kI m)) (vZ m)),(1,.var 158 [.mp 0]),(0,.var (.map (kI l)) (vT l))]) (fun s=>s.1<=c.length/\s.2<=4000+s.1/\oA (fun v=>wT (aV l v)) (fun v=>cd (aV l v)) c 0=oA (fun v=>wT (aV l v)) (fun v=>cd (aV l v)) (c.drop s.1) s.2) (fun s=>c.length-s.1) (0,0) ⟨by simp,by simp,rfl⟩ (sU) rfl fun⟨k,n⟩ ⟨hk,hn,hm⟩=>?_
  simp only at hk hn hm⊢
  rcases Nat.eq_or_lt_of_le hk with aM|ag
  ·rw[aM,List.drop_length,oA]at hm
   obtain⟨hp3,hp4⟩:=dq n hm
   subst aM
   refine gO ?_
   refine cF ?_
   refine gO ?_
   refine AP.cond rfl rfl (fun h5=>?_) (fun h5=>?_)
   ·rw[iY 0 (by simp at h5;omega)]at hE hR
    refine gO ?_
    exact AE.bm [3,1,0] rfl ⟨rfl,rfl,trivial⟩ (by simp only[go_sem,Nat.reduceAdd,Nat.reduceLeDiff,Nat.reduceSub,Int.reduceToNat,reduceCtorEq,bN,noMen,AV.mens,AV.men,fH,iP,Bool.or_false];first|done|rfl) ⟨rfl,.inr ⟨hR,by rw[hE];rfl⟩⟩
   ·have hb:¬mP (cU (aV l) c)=true:=by
     rw[mP,Bool.or_eq_true,decide_eq_true_iff,decide_eq_true_iff];simp at h5;omega
    rw[if_neg hb]at hE hR
    have qv:=Tl l bS hl c hs
    have WX:cU (dW l) c=cU (aV l) c:=by
     rw[show dW l=aV l from funext fun v=>Z4 h2 v]
    rw[WX]at qv
    refine gO ?_
    refine AQ.bR [(1,1),(0,0)] (by kernel_rfl) rfl rfl rfl rfl rfl rfl (by refine⟨?_,?_,trivial⟩<;>(simp only[dK,AV.cO,AV.rn,xf];rfl)) rfl qv fun r' H' ⟨e1,e2⟩=>?_
    subst e1;subst e2
    refine sH ?_
    refine gO ?_
    exact AE.bm [3,1,0] rfl ⟨rfl,rfl,trivial⟩ (by simp only[go_sem,Nat.reduceAdd,Nat.reduceLeDiff,Nat.reduceSub,Int.reduceToNat,reduceCtorEq,bN,noMen,AV.mens,AV.men,fH,iP,Bool.or_false];first|done|rfl) ⟨rfl,.inl (by rw[hE,hR];rfl)⟩
  ·obtain⟨u,hu,aX⟩:=oC c k ag
   have hw:=wr (x:=(k:Int)+1) (by omega)
   have cL:=wr (x:=(n:Int)+1) (by omega)
   have cY:=tx hs hu
   have zD:=cY.2.1
   rw[drop_cons hu,oA]at hm
   refine gE @bn ?_
   refine cT ?_
   refine gE (an @aX @cL) ?_
   refine⟨by rw[bn];omega,?_⟩
   refine gE (an @aw @cL) ?_
   refine AP.fix 4 rfl rfl ?_
   refine sI ?_
   refine AP.loop rfl (α:=Nat×Nat) (fun s=>[(0,b6 c),(7,.ob 1 0),(9,.mp 3),(10,Iv s.2),(31,b6 c),(32,Iv c.length),(33,Iv k),(40,.im (.sl 3 (az u.xs))),(41,Iv u.xs.length),(42,Iv s.1)]) (fun _=>[(3,.var (.map (kI m)) (vZ m)),(1,.var 158 [.mp 0]),(0,.var (.map (kI l)) (vT l))]) (fun s=>s.1<=u.xs.length/\s.2<=4000+(k+1)/\oA (fun v=>wT (aV l v)) (fun v=>cd (aV l v)) c 0=match pH (fun v=>wT (aV l v)) (fun v=>cd (aV l v)) (u.xs.drop s.1) s.2 with
    |some m=>oA (fun v=>wT (aV l v)) (fun v=>cd (aV l v)) (c.drop (k+1)) m
    |none=>none) (fun s=>u.xs.length-s.1) (0,n+1) ⟨by simp,by simp only;omega,hm⟩ (sU) rfl fun⟨j,q⟩ ⟨hj,hq,gC⟩=>?_
   simp only at hj hq gC⊢
   rcases Nat.eq_or_lt_of_le hj with iG|od
   ·rw[iG,List.drop_length,pH]at gC
    refine gO ?_
    refine cF ?_
    refine gE @hw ?_
    exact AE.round (k+1,q) ⟨by simp only;omega,by simp only;omega,gC⟩ (by simp only;omega) (sU) rfl
   ·obtain⟨v,hv,jd⟩:=fo u.xs j od
    have iJ:=wr (x:=(j:Int)+1) (by omega)
    have fF:=gl cY.2.2 hv
    have G0:wT v<=1000000:=by
     have h6:=Dm c u (List.mem_of_getElem? hu)
     have h7:=Jj u.xs v (List.mem_of_getElem? hv)
     rw[jF]at h6;omega
    have V2:=LW m (fun v=>wT (aV l v)) (fun v=>cd (aV l v)) pn V0 (fun v=>by have:=aO v;omega) (fun v=>by have:=aO v;omega) v fF G0
    have fY:=LP (fun v=>wT (aV l v)) (fun v=>by have:=aO v;omega) v
    rw[drop_cons hv,pH]at gC
    generalize lE (fun v=>wT (aV l v)) v=n2 at*
    generalize lD (fun v=>cd (aV l v)) v=d2 at*
    have G2:=wr (x:=(q:Int)+n2) (by omega)
    refine gO ?_
    refine cT ?_
    refine gE @jd ?_
    refine⟨by rw[aw];omega,?_⟩
    refine gO ?_
    refine AQ.fix 4 rfl rfl ?_
    refine sI ?_
    refine AQ.bR [(0,3)] (by kernel_rfl) rfl rfl rfl rfl rfl rfl (by refine⟨?_,trivial⟩;simp only[dK,AV.cO,AV.rn,IE];rfl) rfl V2 fun r' H' ⟨e1,e2⟩=>?_
    subst e1;subst e2
    refine sH ?_
    refine gE @G2 ?_
    refine AP.cond rfl rfl (fun h6=>?_) (fun h6=>?_)
    ·have h6:4000<q+n2\/100<d2:=by simp at h6;omega
     rw[if_pos h6]at gC
     have hb:=ej gC
     rw[iY 0 (by omega)]at hE hR
     refine gO ?_
     exact AE.bm [4,3,1,0] rfl ⟨rfl,rfl,trivial⟩ (by simp only[go_sem,Nat.reduceAdd,Nat.reduceLeDiff,Nat.reduceSub,Int.reduceToNat,reduceCtorEq,bN,noMen,AV.mens,AV.men,fH,iP,Bool.or_false];first|done|rfl) ⟨rfl,.inr ⟨hR,by rw[hE];rfl⟩⟩
    ·have h6:¬(4000<q+n2\/100<d2):=by simp at h6;omega
     rw[if_neg h6]at gC
     refine gE @iJ ?_
     refine AE.eJ [4] (by simp only[go_sem,Nat.reduceAdd,Nat.reduceLeDiff,Nat.reduceSub,Int.reduceToNat,reduceCtorEq,bN,noMen,AV.mens,AV.men,fH,iP,Bool.or_false];first|done|rfl) ?_
     refine sI ?_
     exact AE.round (j+1,q+n2) ⟨by simp only;omega,by simp only;omega,gC⟩ (by simp only;omega) (sU) rfl
 ·subst e1;subst e2
  rw[if_pos h2]at hE hR
  refine sI ?_
  refine gO ?_
  refine AP.cond rfl rfl (fun h3=>?_) (fun h3=>?_)
  ·refine gO ?_
   exact AE.bm [0] rfl ⟨rfl,rfl,trivial⟩ (by simp only[go_sem,Nat.reduceAdd,Nat.reduceLeDiff,Nat.reduceSub,Int.reduceToNat,reduceCtorEq,bN,noMen,AV.mens,AV.men,fH,iP,Bool.or_false];first|done|rfl) ⟨rfl,.inr ⟨hR,by rw[hE];rfl⟩⟩
  ·exact absurd (by simpa using h3) h2
end Go.Proofs.YtpfohmboflcneaaGreatDoor
end
