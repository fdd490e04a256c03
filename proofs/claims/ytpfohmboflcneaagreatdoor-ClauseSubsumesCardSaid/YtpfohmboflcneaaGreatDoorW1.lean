import Derived.Test.YtpfohmboflcneaaGreatDoorAl3
import Derived.Test.YtpfohmboflcneaaGreatDoorChecked
import Derived.KernelRfl
import Derived.Lib.ItoaMem
set_option linter.unusedSimpArgs false
set_option linter.unusedVariables false
set_option linter.unnecessarySimpa false
section

end
section
namespace Go.Proofs.YtpfohmboflcneaaGreatDoor
open Go Go.AL
@[go_sem] theorem Tryz.X9:tk Tryz.prog 1= .func:=by kernel_rfl
@[go_sem] theorem Tryz.WO:sz Tryz.prog 1=some 1:=by kernel_rfl
@[go_sem] theorem Tryz.UO:aN Tryz.prog 1=some 8:=by kernel_rfl
@[go_sem] theorem Tryz.ZG:az Tryz.prog 1=some ([.nilFunc]):=by kernel_rfl
@[go_sem] theorem Tryz.Yy:tk Tryz.prog 2= .int .i64:=by kernel_rfl
@[go_sem] theorem Tryz.Xc:sz Tryz.prog 2=some 1:=by kernel_rfl
@[go_sem] theorem Tryz.Vc:aN Tryz.prog 2=some 8:=by kernel_rfl
@[go_sem] theorem Tryz.Zs:(Tryz.prog.underlying 2).isSome=true:=by kernel_rfl
@[go_sem] theorem Tryz.Z4:az Tryz.prog 2=some ([.int .i64 0]):=by kernel_rfl
@[go_sem] theorem Tryz.YR:tk Tryz.prog 3= .int .i64:=by kernel_rfl
@[go_sem] theorem Tryz.Lm:sz Tryz.prog 3=some 1:=by kernel_rfl
@[go_sem] theorem Tryz.Fc:aN Tryz.prog 3=some 8:=by kernel_rfl
@[go_sem] theorem Tryz.Zv:(Tryz.prog.underlying 3).isSome=true:=by kernel_rfl
@[go_sem] theorem Tryz.L7:az Tryz.prog 3=some ([.int .i64 0]):=by kernel_rfl
@[go_sem] theorem Tryz.Za:tk Tryz.prog 4= .bool:=by kernel_rfl
@[go_sem] theorem Tryz.XU:sz Tryz.prog 4=some 1:=by kernel_rfl
@[go_sem] theorem Tryz.VS:aN Tryz.prog 4=some 1:=by kernel_rfl
@[go_sem] theorem Tryz.ZC:(Tryz.prog.underlying 4).isSome=true:=by kernel_rfl
@[go_sem] theorem Tryz.zr4:az Tryz.prog 4=some ([.bool false]):=by kernel_rfl
@[go_sem] theorem Tryz.Zb:tk Tryz.prog 5= .int .u8:=by kernel_rfl
@[go_sem] theorem Tryz.TI:sz Tryz.prog 5=some 1:=by kernel_rfl
@[go_sem] theorem Tryz.Nj:aN Tryz.prog 5=some 1:=by kernel_rfl
@[go_sem] theorem Tryz.ZD:(Tryz.prog.underlying 5).isSome=true:=by kernel_rfl
@[go_sem] theorem Tryz.UJ:az Tryz.prog 5=some ([.int .u8 0]):=by kernel_rfl
@[go_sem] theorem Tryz.Ze:tk Tryz.prog 6= .int .u8:=by kernel_rfl
@[go_sem] theorem Tryz.XY:sz Tryz.prog 6=some 1:=by kernel_rfl
@[go_sem] theorem Tryz.VW:aN Tryz.prog 6=some 1:=by kernel_rfl
@[go_sem] theorem Tryz.ZE:(Tryz.prog.underlying 6).isSome=true:=by kernel_rfl
@[go_sem] theorem Tryz.zr6:az Tryz.prog 6=some ([.int .u8 0]):=by kernel_rfl
@[go_sem] theorem Tryz.Zi:tk Tryz.prog 7= .struct [(0,2),(1,3),(2,4),(3,6)]:=by kernel_rfl
@[go_sem] theorem Tryz.X3:sz Tryz.prog 7=some 4:=by kernel_rfl
@[go_sem] theorem Tryz.V1:aN Tryz.prog 7=some 24:=by kernel_rfl
@[go_sem] theorem Tryz.Wg:kj Tryz.prog 7=true:=by kernel_rfl
@[go_sem] theorem Tryz.zr7:az Tryz.prog 7=some ([.int .i64 0,.int .i64 0,.bool false,.int .u8 0]):=by kernel_rfl
@[go_sem] theorem Tryz.Zk:tk Tryz.prog 8= .struct [(0,2),(1,3),(2,4),(3,6)]:=by kernel_rfl
@[go_sem] theorem Tryz.X4:sz Tryz.prog 8=some 4:=by kernel_rfl
@[go_sem] theorem Tryz.V2:aN Tryz.prog 8=some 24:=by kernel_rfl
@[go_sem] theorem Tryz.Wh:kj Tryz.prog 8=true:=by kernel_rfl
@[go_sem] theorem Tryz.zr8:az Tryz.prog 8=some ([.int .i64 0,.int .i64 0,.bool false,.int .u8 0]):=by kernel_rfl
@[go_sem] theorem Tryz.Zn:tk Tryz.prog 9= .str:=by kernel_rfl
@[go_sem] theorem Tryz.X7:sz Tryz.prog 9=some 1:=by kernel_rfl
@[go_sem] theorem Tryz.V5:aN Tryz.prog 9=some 16:=by kernel_rfl
@[go_sem] theorem Tryz.ZF:(Tryz.prog.underlying 9).isSome=true:=by kernel_rfl
@[go_sem] theorem Tryz.zr9:az Tryz.prog 9=some ([.string ⟨#[]⟩]):=by kernel_rfl
@[go_sem] theorem Tryz.X_:tk Tryz.prog 10= .str:=by kernel_rfl
@[go_sem] theorem Tryz.WQ:sz Tryz.prog 10=some 1:=by kernel_rfl
@[go_sem] theorem Tryz.UP:aN Tryz.prog 10=some 16:=by kernel_rfl
@[go_sem] theorem Tryz.Zq:(Tryz.prog.underlying 10).isSome=true:=by kernel_rfl
@[go_sem] theorem Tryz.ZH:az Tryz.prog 10=some ([.string ⟨#[]⟩]):=by kernel_rfl
@[go_sem] theorem Tryz.Yb:tk Tryz.prog 11= .str:=by kernel_rfl
@[go_sem] theorem Tryz.WS:sz Tryz.prog 11=some 1:=by kernel_rfl
@[go_sem] theorem Tryz.UR:aN Tryz.prog 11=some 16:=by kernel_rfl
@[go_sem] theorem Tryz.Zr:(Tryz.prog.underlying 11).isSome=true:=by kernel_rfl
@[go_sem] theorem Tryz.ZJ:az Tryz.prog 11=some ([.string ⟨#[]⟩]):=by kernel_rfl
@[go_sem] theorem Tryz.Yz:tk Tryz.prog 20= .iface:=by kernel_rfl
@[go_sem] theorem Tryz.Xd:sz Tryz.prog 20=some 1:=by kernel_rfl
@[go_sem] theorem Tryz.Vd:aN Tryz.prog 20=some 16:=by kernel_rfl
@[go_sem] theorem Tryz.Z5:az Tryz.prog 20=some ([.nilIface]):=by kernel_rfl
@[go_sem] theorem Tryz.YB:tk Tryz.prog 21= .int .i32:=by kernel_rfl
@[go_sem] theorem Tryz.Xf:sz Tryz.prog 21=some 1:=by kernel_rfl
@[go_sem] theorem Tryz.Vf:aN Tryz.prog 21=some 4:=by kernel_rfl
@[go_sem] theorem Tryz.Zt:(Tryz.prog.underlying 21).isSome=true:=by kernel_rfl
@[go_sem] theorem Tryz.Z7:az Tryz.prog 21=some ([.int .i32 0]):=by kernel_rfl
@[go_sem] theorem Tryz.TQ:tk Tryz.prog 23= .slice 61:=by kernel_rfl
@[go_sem] theorem Tryz.Xm:sz Tryz.prog 23=some 1:=by kernel_rfl
@[go_sem] theorem Tryz.Vm:aN Tryz.prog 23=some 24:=by kernel_rfl
@[go_sem] theorem Tryz.aad:az Tryz.prog 23=some ([.slice none 0 0]):=by kernel_rfl
@[go_sem] theorem Tryz.YL:tk Tryz.prog 24= .func:=by kernel_rfl
@[go_sem] theorem Tryz.Xr:sz Tryz.prog 24=some 1:=by kernel_rfl
@[go_sem] theorem Tryz.Vr:aN Tryz.prog 24=some 8:=by kernel_rfl
@[go_sem] theorem Tryz.aai:az Tryz.prog 24=some ([.nilFunc]):=by kernel_rfl
@[go_sem] theorem Tryz.wK:tk Tryz.prog 27= .slice 119:=by kernel_rfl
@[go_sem] theorem Tryz.Xv:sz Tryz.prog 27=some 1:=by kernel_rfl
@[go_sem] theorem Tryz.Vv:aN Tryz.prog 27=some 24:=by kernel_rfl
@[go_sem] theorem Tryz.aam:az Tryz.prog 27=some ([.slice none 0 0]):=by kernel_rfl
@[go_sem] theorem Tryz.YS:tk Tryz.prog 30= .int .i64:=by kernel_rfl
@[go_sem] theorem Tryz.Xy:sz Tryz.prog 30=some 1:=by kernel_rfl
@[go_sem] theorem Tryz.Vy:aN Tryz.prog 30=some 8:=by kernel_rfl
@[go_sem] theorem Tryz.Zw:(Tryz.prog.underlying 30).isSome=true:=by kernel_rfl
@[go_sem] theorem Tryz.aap:az Tryz.prog 30=some ([.int .i64 0]):=by kernel_rfl
@[go_sem] theorem Tryz.YY:tk Tryz.prog 32= .func:=by kernel_rfl
@[go_sem] theorem Tryz.XF:sz Tryz.prog 32=some 1:=by kernel_rfl
@[go_sem] theorem Tryz.VE:aN Tryz.prog 32=some 8:=by kernel_rfl
@[go_sem] theorem Tryz.aav:az Tryz.prog 32=some ([.nilFunc]):=by kernel_rfl
@[go_sem] theorem Tryz.Lp:tk Tryz.prog 46= .slice 3:=by kernel_rfl
@[go_sem] theorem Tryz.XV:sz Tryz.prog 46=some 1:=by kernel_rfl
@[go_sem] theorem Tryz.VT:aN Tryz.prog 46=some 24:=by kernel_rfl
@[go_sem] theorem Tryz.aaI:az Tryz.prog 46=some ([.slice none 0 0]):=by kernel_rfl
@[go_sem] theorem Tryz.mr:tk Tryz.prog 52= .slice 59:=by kernel_rfl
@[go_sem] theorem Tryz.XW:sz Tryz.prog 52=some 1:=by kernel_rfl
@[go_sem] theorem Tryz.VU:aN Tryz.prog 52=some 24:=by kernel_rfl
@[go_sem] theorem Tryz.aaJ:az Tryz.prog 52=some ([.slice none 0 0]):=by kernel_rfl
@[go_sem] theorem Tryz.Lq:tk Tryz.prog 55= .slice 57:=by kernel_rfl
@[go_sem] theorem Tryz.XX:sz Tryz.prog 55=some 1:=by kernel_rfl
@[go_sem] theorem Tryz.VV:aN Tryz.prog 55=some 24:=by kernel_rfl
@[go_sem] theorem Tryz.aaK:az Tryz.prog 55=some ([.slice none 0 0]):=by kernel_rfl
@[go_sem] theorem Tryz.Zc:tk Tryz.prog 57= .struct [(0,9),(1,3),(2,55)]:=by kernel_rfl
@[go_sem] theorem Tryz.Ln:sz Tryz.prog 57=some 3:=by kernel_rfl
@[go_sem] theorem Tryz.Fe:aN Tryz.prog 57=some 48:=by kernel_rfl
@[go_sem] theorem Tryz.L8:az Tryz.prog 57=some ([.string ⟨#[]⟩,.int .i64 0,.slice none 0 0]):=by kernel_rfl
@[go_sem] theorem Tryz.Zd:tk Tryz.prog 59= .struct [(0,3),(1,57)]:=by kernel_rfl
@[go_sem] theorem Tryz.mo:sz Tryz.prog 59=some 4:=by kernel_rfl
@[go_sem] theorem Tryz.lO:aN Tryz.prog 59=some 56:=by kernel_rfl
@[go_sem] theorem Tryz.mz:az Tryz.prog 59=some ([.int .i64 0,.string ⟨#[]⟩,.int .i64 0,.slice none 0 0]):=by kernel_rfl
@[go_sem] theorem Tryz.Zf:tk Tryz.prog 61= .struct [(0,4),(1,9),(2,55)]:=by kernel_rfl
@[go_sem] theorem Tryz.TJ:sz Tryz.prog 61=some 3:=by kernel_rfl
@[go_sem] theorem Tryz.Nk:aN Tryz.prog 61=some 48:=by kernel_rfl
@[go_sem] theorem Tryz.UK:az Tryz.prog 61=some ([.bool false,.string ⟨#[]⟩,.slice none 0 0]):=by kernel_rfl
@[go_sem] theorem Tryz.TS:tk Tryz.prog 64= .slice 98:=by kernel_rfl
@[go_sem] theorem Tryz.XZ:sz Tryz.prog 64=some 1:=by kernel_rfl
@[go_sem] theorem Tryz.VX:aN Tryz.prog 64=some 24:=by kernel_rfl
@[go_sem] theorem Tryz.aaL:az Tryz.prog 64=some ([.slice none 0 0]):=by kernel_rfl
@[go_sem] theorem Tryz.Zg:tk Tryz.prog 65= .func:=by kernel_rfl
@[go_sem] theorem Tryz.X0:sz Tryz.prog 65=some 1:=by kernel_rfl
@[go_sem] theorem Tryz.VY:aN Tryz.prog 65=some 8:=by kernel_rfl
@[go_sem] theorem Tryz.aaM:az Tryz.prog 65=some ([.nilFunc]):=by kernel_rfl
@[go_sem] theorem Tryz.Zh:tk Tryz.prog 67= .func:=by kernel_rfl
@[go_sem] theorem Tryz.X1:sz Tryz.prog 67=some 1:=by kernel_rfl
@[go_sem] theorem Tryz.VZ:aN Tryz.prog 67=some 8:=by kernel_rfl
@[go_sem] theorem Tryz.aaN:az Tryz.prog 67=some ([.nilFunc]):=by kernel_rfl
@[go_sem] theorem Tryz.p8:tk Tryz.prog 69= .slice 71:=by kernel_rfl
@[go_sem] theorem Tryz.X2:sz Tryz.prog 69=some 1:=by kernel_rfl
@[go_sem] theorem Tryz.V0:aN Tryz.prog 69=some 24:=by kernel_rfl
@[go_sem] theorem Tryz.aaO:az Tryz.prog 69=some ([.slice none 0 0]):=by kernel_rfl
@[go_sem] theorem Tryz.Zj:tk Tryz.prog 71= .struct [(0,9),(1,3),(2,69)]:=by kernel_rfl
@[go_sem] theorem Tryz.p7:sz Tryz.prog 71=some 3:=by kernel_rfl
@[go_sem] theorem Tryz.oY:aN Tryz.prog 71=some 48:=by kernel_rfl
@[go_sem] theorem Tryz.qb:az Tryz.prog 71=some ([.string ⟨#[]⟩,.int .i64 0,.slice none 0 0]):=by kernel_rfl
@[go_sem] theorem Tryz.Zl:tk Tryz.prog 88= .func:=by kernel_rfl
@[go_sem] theorem Tryz.X5:sz Tryz.prog 88=some 1:=by kernel_rfl
@[go_sem] theorem Tryz.V3:aN Tryz.prog 88=some 8:=by kernel_rfl
@[go_sem] theorem Tryz.aaP:az Tryz.prog 88=some ([.nilFunc]):=by kernel_rfl
@[go_sem] theorem Tryz.Zm:tk Tryz.prog 89= .func:=by kernel_rfl
@[go_sem] theorem Tryz.X6:sz Tryz.prog 89=some 1:=by kernel_rfl
@[go_sem] theorem Tryz.V4:aN Tryz.prog 89=some 8:=by kernel_rfl
@[go_sem] theorem Tryz.aaQ:az Tryz.prog 89=some ([.nilFunc]):=by kernel_rfl
@[go_sem] theorem Tryz.Zo:tk Tryz.prog 94= .func:=by kernel_rfl
@[go_sem] theorem Tryz.X8:sz Tryz.prog 94=some 1:=by kernel_rfl
@[go_sem] theorem Tryz.V6:aN Tryz.prog 94=some 8:=by kernel_rfl
@[go_sem] theorem Tryz.aaR:az Tryz.prog 94=some ([.nilFunc]):=by kernel_rfl
@[go_sem] theorem Tryz.Zp:tk Tryz.prog 98= .struct [(0,3),(1,71)]:=by kernel_rfl
@[go_sem] theorem Tryz.TL:sz Tryz.prog 98=some 4:=by kernel_rfl
@[go_sem] theorem Tryz.Nl:aN Tryz.prog 98=some 56:=by kernel_rfl
@[go_sem] theorem Tryz.UL:az Tryz.prog 98=some ([.int .i64 0,.string ⟨#[]⟩,.int .i64 0,.slice none 0 0]):=by kernel_rfl
@[go_sem] theorem Tryz.Ya:tk Tryz.prog 107= .slice 216:=by kernel_rfl
@[go_sem] theorem Tryz.WR:sz Tryz.prog 107=some 1:=by kernel_rfl
@[go_sem] theorem Tryz.UQ:aN Tryz.prog 107=some 24:=by kernel_rfl
@[go_sem] theorem Tryz.ZI:az Tryz.prog 107=some ([.slice none 0 0]):=by kernel_rfl
@[go_sem] theorem Tryz.Yc:tk Tryz.prog 116= .func:=by kernel_rfl
@[go_sem] theorem Tryz.WT:sz Tryz.prog 116=some 1:=by kernel_rfl
@[go_sem] theorem Tryz.US:aN Tryz.prog 116=some 8:=by kernel_rfl
@[go_sem] theorem Tryz.ZK:az Tryz.prog 116=some ([.nilFunc]):=by kernel_rfl
@[go_sem] theorem Tryz.Yd:tk Tryz.prog 119= .struct [(0,4),(1,9),(2,69)]:=by kernel_rfl
@[go_sem] theorem Tryz.wE:sz Tryz.prog 119=some 3:=by kernel_rfl
@[go_sem] theorem Tryz.tS:aN Tryz.prog 119=some 48:=by kernel_rfl
@[go_sem] theorem Tryz.wW:az Tryz.prog 119=some ([.bool false,.string ⟨#[]⟩,.slice none 0 0]):=by kernel_rfl
@[go_sem] theorem Tryz.Ye:tk Tryz.prog 123= .func:=by kernel_rfl
@[go_sem] theorem Tryz.WU:sz Tryz.prog 123=some 1:=by kernel_rfl
@[go_sem] theorem Tryz.UT:aN Tryz.prog 123=some 8:=by kernel_rfl
@[go_sem] theorem Tryz.ZL:az Tryz.prog 123=some ([.nilFunc]):=by kernel_rfl
@[go_sem] theorem Tryz.Yf:tk Tryz.prog 124= .func:=by kernel_rfl
@[go_sem] theorem Tryz.WV:sz Tryz.prog 124=some 1:=by kernel_rfl
@[go_sem] theorem Tryz.UU:aN Tryz.prog 124=some 8:=by kernel_rfl
@[go_sem] theorem Tryz.ZM:az Tryz.prog 124=some ([.nilFunc]):=by kernel_rfl
@[go_sem] theorem Tryz.Yg:tk Tryz.prog 131= .struct []:=by kernel_rfl
@[go_sem] theorem Tryz.WW:sz Tryz.prog 131=some 0:=by kernel_rfl
@[go_sem] theorem Tryz.UW:aN Tryz.prog 131=some 0:=by kernel_rfl
@[go_sem] theorem Tryz.ZN:az Tryz.prog 131=some ([]):=by kernel_rfl
@[go_sem] theorem Tryz.Yh:tk Tryz.prog 133= .ptr 135:=by kernel_rfl
@[go_sem] theorem Tryz.WX:sz Tryz.prog 133=some 1:=by kernel_rfl
@[go_sem] theorem Tryz.UX:aN Tryz.prog 133=some 8:=by kernel_rfl
@[go_sem] theorem Tryz.ZO:az Tryz.prog 133=some ([.pointer none]):=by kernel_rfl
@[go_sem] theorem Tryz.Yi:tk Tryz.prog 135= .struct [(0,9),(1,3)]:=by kernel_rfl
@[go_sem] theorem Tryz.WY:sz Tryz.prog 135=some 2:=by kernel_rfl
@[go_sem] theorem Tryz.UY:aN Tryz.prog 135=some 24:=by kernel_rfl
@[go_sem] theorem Tryz.V8:kj Tryz.prog 135=true:=by kernel_rfl
@[go_sem] theorem Tryz.ZP:az Tryz.prog 135=some ([.string ⟨#[]⟩,.int .i64 0]):=by kernel_rfl
@[go_sem] theorem Tryz.TP:tk Tryz.prog 140= .slice 145:=by kernel_rfl
@[go_sem] theorem Tryz.WZ:sz Tryz.prog 140=some 1:=by kernel_rfl
@[go_sem] theorem Tryz.UZ:aN Tryz.prog 140=some 24:=by kernel_rfl
@[go_sem] theorem Tryz.ZQ:az Tryz.prog 140=some ([.slice none 0 0]):=by kernel_rfl
@[go_sem] theorem Tryz.Yj:tk Tryz.prog 143= .func:=by kernel_rfl
@[go_sem] theorem Tryz.W0:sz Tryz.prog 143=some 1:=by kernel_rfl
@[go_sem] theorem Tryz.U0:aN Tryz.prog 143=some 8:=by kernel_rfl
@[go_sem] theorem Tryz.ZR:az Tryz.prog 143=some ([.nilFunc]):=by kernel_rfl
@[go_sem] theorem Tryz.Yk:tk Tryz.prog 145= .struct [(0,119),(3,9)]:=by kernel_rfl
@[go_sem] theorem Tryz.TH:sz Tryz.prog 145=some 4:=by kernel_rfl
@[go_sem] theorem Tryz.Ni:aN Tryz.prog 145=some 64:=by kernel_rfl
@[go_sem] theorem Tryz.UI:az Tryz.prog 145=some ([.bool false,.string ⟨#[]⟩,.slice none 0 0,.string ⟨#[]⟩]):=by kernel_rfl
@[go_sem] theorem Tryz.Ym:tk Tryz.prog 148= .func:=by kernel_rfl
@[go_sem] theorem Tryz.W1:sz Tryz.prog 148=some 1:=by kernel_rfl
@[go_sem] theorem Tryz.U1:aN Tryz.prog 148=some 8:=by kernel_rfl
@[go_sem] theorem Tryz.ZS:az Tryz.prog 148=some ([.nilFunc]):=by kernel_rfl
@[go_sem] theorem Tryz.Yn:tk Tryz.prog 149= .map 3 3:=by kernel_rfl
@[go_sem] theorem Tryz.W2:sz Tryz.prog 149=some 1:=by kernel_rfl
@[go_sem] theorem Tryz.U2:aN Tryz.prog 149=some 8:=by kernel_rfl
@[go_sem] theorem Tryz.ZT:az Tryz.prog 149=some ([.map none]):=by kernel_rfl
@[go_sem] theorem Tryz.Yo:tk Tryz.prog 151= .func:=by kernel_rfl
@[go_sem] theorem Tryz.W3:sz Tryz.prog 151=some 1:=by kernel_rfl
@[go_sem] theorem Tryz.U3:aN Tryz.prog 151=some 8:=by kernel_rfl
@[go_sem] theorem Tryz.ZU:az Tryz.prog 151=some ([.nilFunc]):=by kernel_rfl
@[go_sem] theorem Tryz.Yp:tk Tryz.prog 153= .func:=by kernel_rfl
@[go_sem] theorem Tryz.W4:sz Tryz.prog 153=some 1:=by kernel_rfl
@[go_sem] theorem Tryz.U4:aN Tryz.prog 153=some 8:=by kernel_rfl
@[go_sem] theorem Tryz.ZV:az Tryz.prog 153=some ([.nilFunc]):=by kernel_rfl
@[go_sem] theorem Tryz.Yq:tk Tryz.prog 158= .map 3 71:=by kernel_rfl
@[go_sem] theorem Tryz.W5:sz Tryz.prog 158=some 1:=by kernel_rfl
@[go_sem] theorem Tryz.U5:aN Tryz.prog 158=some 8:=by kernel_rfl
@[go_sem] theorem Tryz.ZW:az Tryz.prog 158=some ([.map none]):=by kernel_rfl
@[go_sem] theorem Tryz.Yr:tk Tryz.prog 161= .map 3 164:=by kernel_rfl
@[go_sem] theorem Tryz.W6:sz Tryz.prog 161=some 1:=by kernel_rfl
@[go_sem] theorem Tryz.U6:aN Tryz.prog 161=some 8:=by kernel_rfl
@[go_sem] theorem Tryz.ZX:az Tryz.prog 161=some ([.map none]):=by kernel_rfl
@[go_sem] theorem Tryz.Ys:tk Tryz.prog 164= .struct [(0,3),(1,3)]:=by kernel_rfl
@[go_sem] theorem Tryz.W7:sz Tryz.prog 164=some 2:=by kernel_rfl
@[go_sem] theorem Tryz.U7:aN Tryz.prog 164=some 16:=by kernel_rfl
@[go_sem] theorem Tryz.V9:kj Tryz.prog 164=true:=by kernel_rfl
@[go_sem] theorem Tryz.ZY:az Tryz.prog 164=some ([.int .i64 0,.int .i64 0]):=by kernel_rfl
@[go_sem] theorem Tryz.Yt:tk Tryz.prog 176= .func:=by kernel_rfl
@[go_sem] theorem Tryz.W8:sz Tryz.prog 176=some 1:=by kernel_rfl
@[go_sem] theorem Tryz.U8:aN Tryz.prog 176=some 8:=by kernel_rfl
@[go_sem] theorem Tryz.ZZ:az Tryz.prog 176=some ([.nilFunc]):=by kernel_rfl
@[go_sem] theorem Tryz.Yu:tk Tryz.prog 183= .func:=by kernel_rfl
@[go_sem] theorem Tryz.W9:sz Tryz.prog 183=some 1:=by kernel_rfl
@[go_sem] theorem Tryz.U9:aN Tryz.prog 183=some 8:=by kernel_rfl
@[go_sem] theorem Tryz.Z0:az Tryz.prog 183=some ([.nilFunc]):=by kernel_rfl
@[go_sem] theorem Tryz.Yv:tk Tryz.prog 184= .func:=by kernel_rfl
@[go_sem] theorem Tryz.W_:sz Tryz.prog 184=some 1:=by kernel_rfl
@[go_sem] theorem Tryz.U_:aN Tryz.prog 184=some 8:=by kernel_rfl
@[go_sem] theorem Tryz.Z1:az Tryz.prog 184=some ([.nilFunc]):=by kernel_rfl
@[go_sem] theorem Tryz.Yw:tk Tryz.prog 194= .struct [(0,4),(1,164)]:=by kernel_rfl
@[go_sem] theorem Tryz.Xa:sz Tryz.prog 194=some 3:=by kernel_rfl
@[go_sem] theorem Tryz.Va:aN Tryz.prog 194=some 24:=by kernel_rfl
@[go_sem] theorem Tryz.Z2:az Tryz.prog 194=some ([.bool false,.int .i64 0,.int .i64 0]):=by kernel_rfl
@[go_sem] theorem Tryz.Yx:tk Tryz.prog 195= .func:=by kernel_rfl
@[go_sem] theorem Tryz.Xb:sz Tryz.prog 195=some 1:=by kernel_rfl
@[go_sem] theorem Tryz.Vb:aN Tryz.prog 195=some 8:=by kernel_rfl
@[go_sem] theorem Tryz.Z3:az Tryz.prog 195=some ([.nilFunc]):=by kernel_rfl
@[go_sem] theorem Tryz.YA:tk Tryz.prog 200= .ptr 46:=by kernel_rfl
@[go_sem] theorem Tryz.Xe:sz Tryz.prog 200=some 1:=by kernel_rfl
@[go_sem] theorem Tryz.Ve:aN Tryz.prog 200=some 8:=by kernel_rfl
@[go_sem] theorem Tryz.Z6:az Tryz.prog 200=some ([.pointer none]):=by kernel_rfl
@[go_sem] theorem Tryz.YC:tk Tryz.prog 213= .struct [(0,71),(3,3)]:=by kernel_rfl
@[go_sem] theorem Tryz.Xg:sz Tryz.prog 213=some 4:=by kernel_rfl
@[go_sem] theorem Tryz.Vg:aN Tryz.prog 213=some 56:=by kernel_rfl
@[go_sem] theorem Tryz.Z8:az Tryz.prog 213=some ([.string ⟨#[]⟩,.int .i64 0,.slice none 0 0,.int .i64 0]):=by kernel_rfl
@[go_sem] theorem Tryz.YD:tk Tryz.prog 216= .struct [(0,57),(3,3)]:=by kernel_rfl
@[go_sem] theorem Tryz.Xh:sz Tryz.prog 216=some 4:=by kernel_rfl
@[go_sem] theorem Tryz.Vh:aN Tryz.prog 216=some 56:=by kernel_rfl
@[go_sem] theorem Tryz.Z9:az Tryz.prog 216=some ([.string ⟨#[]⟩,.int .i64 0,.slice none 0 0,.int .i64 0]):=by kernel_rfl
@[go_sem] theorem Tryz.YE:tk Tryz.prog 219= .func:=by kernel_rfl
@[go_sem] theorem Tryz.Xi:sz Tryz.prog 219=some 1:=by kernel_rfl
@[go_sem] theorem Tryz.Vi:aN Tryz.prog 219=some 8:=by kernel_rfl
@[go_sem] theorem Tryz.Z_:az Tryz.prog 219=some ([.nilFunc]):=by kernel_rfl
@[go_sem] theorem Tryz.YF:tk Tryz.prog 225= .ptr 164:=by kernel_rfl
@[go_sem] theorem Tryz.Xj:sz Tryz.prog 225=some 1:=by kernel_rfl
@[go_sem] theorem Tryz.Vj:aN Tryz.prog 225=some 8:=by kernel_rfl
@[go_sem] theorem Tryz.aaa:az Tryz.prog 225=some ([.pointer none]):=by kernel_rfl
@[go_sem] theorem Tryz.YG:tk Tryz.prog 228= .ptr 234:=by kernel_rfl
@[go_sem] theorem Tryz.Xk:sz Tryz.prog 228=some 1:=by kernel_rfl
@[go_sem] theorem Tryz.Vk:aN Tryz.prog 228=some 8:=by kernel_rfl
@[go_sem] theorem Tryz.aab:az Tryz.prog 228=some ([.pointer none]):=by kernel_rfl
@[go_sem] theorem Tryz.YH:tk Tryz.prog 229= .ptr 232:=by kernel_rfl
@[go_sem] theorem Tryz.Xl:sz Tryz.prog 229=some 1:=by kernel_rfl
@[go_sem] theorem Tryz.Vl:aN Tryz.prog 229=some 8:=by kernel_rfl
@[go_sem] theorem Tryz.aac:az Tryz.prog 229=some ([.pointer none]):=by kernel_rfl
@[go_sem] theorem Tryz.TR:tk Tryz.prog 230= .slice 5:=by kernel_rfl
@[go_sem] theorem Tryz.Xn:sz Tryz.prog 230=some 1:=by kernel_rfl
@[go_sem] theorem Tryz.Vn:aN Tryz.prog 230=some 24:=by kernel_rfl
@[go_sem] theorem Tryz.aae:az Tryz.prog 230=some ([.slice none 0 0]):=by kernel_rfl
@[go_sem] theorem Tryz.YI:tk Tryz.prog 232= .struct [(0,229),(1,230)]:=by kernel_rfl
@[go_sem] theorem Tryz.Xo:sz Tryz.prog 232=some 2:=by kernel_rfl
@[go_sem] theorem Tryz.Vo:aN Tryz.prog 232=some 32:=by kernel_rfl
@[go_sem] theorem Tryz.aaf:az Tryz.prog 232=some ([.pointer none,.slice none 0 0]):=by kernel_rfl
@[go_sem] theorem Tryz.YJ:tk Tryz.prog 234= .struct [(0,232),(2,4)]:=by kernel_rfl
@[go_sem] theorem Tryz.Xp:sz Tryz.prog 234=some 3:=by kernel_rfl
@[go_sem] theorem Tryz.Vp:aN Tryz.prog 234=some 40:=by kernel_rfl
@[go_sem] theorem Tryz.aag:az Tryz.prog 234=some ([.pointer none,.slice none 0 0,.bool false]):=by kernel_rfl
@[go_sem] theorem Tryz.YK:tk Tryz.prog 236= .iface:=by kernel_rfl
@[go_sem] theorem Tryz.Xq:sz Tryz.prog 236=some 1:=by kernel_rfl
@[go_sem] theorem Tryz.Vq:aN Tryz.prog 236=some 16:=by kernel_rfl
@[go_sem] theorem Tryz.aah:az Tryz.prog 236=some ([.nilIface]):=by kernel_rfl
@[go_sem] theorem Tryz.YM:tk Tryz.prog 244= .struct [(0,9),(1,4)]:=by kernel_rfl
@[go_sem] theorem Tryz.Xs:sz Tryz.prog 244=some 2:=by kernel_rfl
@[go_sem] theorem Tryz.Vs:aN Tryz.prog 244=some 24:=by kernel_rfl
@[go_sem] theorem Tryz.V_:kj Tryz.prog 244=true:=by kernel_rfl
@[go_sem] theorem Tryz.aaj:az Tryz.prog 244=some ([.string ⟨#[]⟩,.bool false]):=by kernel_rfl
@[go_sem] theorem Tryz.YN:tk Tryz.prog 245= .slice 244:=by kernel_rfl
@[go_sem] theorem Tryz.Xt:sz Tryz.prog 245=some 1:=by kernel_rfl
@[go_sem] theorem Tryz.Vt:aN Tryz.prog 245=some 24:=by kernel_rfl
@[go_sem] theorem Tryz.aak:az Tryz.prog 245=some ([.slice none 0 0]):=by kernel_rfl
@[go_sem] theorem Tryz.YO:tk Tryz.prog 264= .func:=by kernel_rfl
@[go_sem] theorem Tryz.Xu:sz Tryz.prog 264=some 1:=by kernel_rfl
@[go_sem] theorem Tryz.Vu:aN Tryz.prog 264=some 8:=by kernel_rfl
@[go_sem] theorem Tryz.aal:az Tryz.prog 264=some ([.nilFunc]):=by kernel_rfl
@[go_sem] theorem Tryz.YP:tk Tryz.prog 278= .ptr 5:=by kernel_rfl
@[go_sem] theorem Tryz.Xw:sz Tryz.prog 278=some 1:=by kernel_rfl
@[go_sem] theorem Tryz.Vw:aN Tryz.prog 278=some 8:=by kernel_rfl
@[go_sem] theorem Tryz.aan:az Tryz.prog 278=some ([.pointer none]):=by kernel_rfl
@[go_sem] theorem Tryz.YQ:tk Tryz.prog 295= .int .u64:=by kernel_rfl
@[go_sem] theorem Tryz.Xx:sz Tryz.prog 295=some 1:=by kernel_rfl
@[go_sem] theorem Tryz.Vx:aN Tryz.prog 295=some 8:=by kernel_rfl
@[go_sem] theorem Tryz.Zu:(Tryz.prog.underlying 295).isSome=true:=by kernel_rfl
@[go_sem] theorem Tryz.aao:az Tryz.prog 295=some ([.int .u64 0]):=by kernel_rfl
@[go_sem] theorem Tryz.YT:tk Tryz.prog 300= .other:=by kernel_rfl
@[go_sem] theorem Tryz.Xz:sz Tryz.prog 300=some 1:=by kernel_rfl
@[go_sem] theorem Tryz.Vz:aN Tryz.prog 300=some 8:=by kernel_rfl
@[go_sem] theorem Tryz.aaq:az Tryz.prog 300=some ([.pointer none]):=by kernel_rfl
@[go_sem] theorem Tryz.YU:tk Tryz.prog 304= .int .i64:=by kernel_rfl
@[go_sem] theorem Tryz.XB:sz Tryz.prog 304=some 1:=by kernel_rfl
@[go_sem] theorem Tryz.VA:aN Tryz.prog 304=some 8:=by kernel_rfl
@[go_sem] theorem Tryz.Zx:(Tryz.prog.underlying 304).isSome=true:=by kernel_rfl
@[go_sem] theorem Tryz.aar:az Tryz.prog 304=some ([.int .i64 0]):=by kernel_rfl
@[go_sem] theorem Tryz.YV:tk Tryz.prog 312= .int .u32:=by kernel_rfl
@[go_sem] theorem Tryz.XC:sz Tryz.prog 312=some 1:=by kernel_rfl
@[go_sem] theorem Tryz.VB:aN Tryz.prog 312=some 4:=by kernel_rfl
@[go_sem] theorem Tryz.Zy:(Tryz.prog.underlying 312).isSome=true:=by kernel_rfl
@[go_sem] theorem Tryz.aas:az Tryz.prog 312=some ([.int .u32 0]):=by kernel_rfl
@[go_sem] theorem Tryz.YW:tk Tryz.prog 314= .int .u64:=by kernel_rfl
@[go_sem] theorem Tryz.XD:sz Tryz.prog 314=some 1:=by kernel_rfl
@[go_sem] theorem Tryz.VC:aN Tryz.prog 314=some 8:=by kernel_rfl
@[go_sem] theorem Tryz.Zz:(Tryz.prog.underlying 314).isSome=true:=by kernel_rfl
@[go_sem] theorem Tryz.aat:az Tryz.prog 314=some ([.int .u64 0]):=by kernel_rfl
@[go_sem] theorem Tryz.YX:tk Tryz.prog 319= .int .i64:=by kernel_rfl
@[go_sem] theorem Tryz.XE:sz Tryz.prog 319=some 1:=by kernel_rfl
@[go_sem] theorem Tryz.VD:aN Tryz.prog 319=some 8:=by kernel_rfl
@[go_sem] theorem Tryz.ZA:(Tryz.prog.underlying 319).isSome=true:=by kernel_rfl
@[go_sem] theorem Tryz.aau:az Tryz.prog 319=some ([.int .i64 0]):=by kernel_rfl
@[go_sem] theorem Tryz.YZ:tk Tryz.prog 322= .ptr 336:=by kernel_rfl
@[go_sem] theorem Tryz.XG:sz Tryz.prog 322=some 1:=by kernel_rfl
@[go_sem] theorem Tryz.VF:aN Tryz.prog 322=some 8:=by kernel_rfl
@[go_sem] theorem Tryz.aaw:az Tryz.prog 322=some ([.pointer none]):=by kernel_rfl
@[go_sem] theorem Tryz.Y0:tk Tryz.prog 326= .int .u64:=by kernel_rfl
@[go_sem] theorem Tryz.XH:sz Tryz.prog 326=some 1:=by kernel_rfl
@[go_sem] theorem Tryz.VG:aN Tryz.prog 326=some 8:=by kernel_rfl
@[go_sem] theorem Tryz.ZB:(Tryz.prog.underlying 326).isSome=true:=by kernel_rfl
@[go_sem] theorem Tryz.aax:az Tryz.prog 326=some ([.int .u64 0]):=by kernel_rfl
@[go_sem] theorem Tryz.Y1:tk Tryz.prog 330= .ptr 3:=by kernel_rfl
@[go_sem] theorem Tryz.XI:sz Tryz.prog 330=some 1:=by kernel_rfl
@[go_sem] theorem Tryz.VH:aN Tryz.prog 330=some 8:=by kernel_rfl
@[go_sem] theorem Tryz.aay:az Tryz.prog 330=some ([.pointer none]):=by kernel_rfl
@[go_sem] theorem Tryz.Y2:tk Tryz.prog 336= .struct [(0,9),(1,9),(2,236)]:=by kernel_rfl
@[go_sem] theorem Tryz.XJ:sz Tryz.prog 336=some 3:=by kernel_rfl
@[go_sem] theorem Tryz.VI:aN Tryz.prog 336=some 48:=by kernel_rfl
@[go_sem] theorem Tryz.aaz:az Tryz.prog 336=some ([.string ⟨#[]⟩,.string ⟨#[]⟩,.nilIface]):=by kernel_rfl
@[go_sem] theorem Tryz.Y3:tk Tryz.prog 338= .arr 24 5:=by kernel_rfl
@[go_sem] theorem Tryz.XK:sz Tryz.prog 338=some 24:=by kernel_rfl
@[go_sem] theorem Tryz.VJ:aN Tryz.prog 338=some 24:=by kernel_rfl
@[go_sem] theorem Tryz.Wa:kj Tryz.prog 338=true:=by kernel_rfl
@[go_sem] theorem Tryz.aaA:az Tryz.prog 338=some (List.replicate 24 (.int .u8 0)):=by kernel_rfl
@[go_sem] theorem Tryz.Y4:tk Tryz.prog 342= .ptr 326:=by kernel_rfl
@[go_sem] theorem Tryz.XM:sz Tryz.prog 342=some 1:=by kernel_rfl
@[go_sem] theorem Tryz.VL:aN Tryz.prog 342=some 8:=by kernel_rfl
@[go_sem] theorem Tryz.aaB:az Tryz.prog 342=some ([.pointer none]):=by kernel_rfl
@[go_sem] theorem Tryz.Y5:tk Tryz.prog 346= .ptr 348:=by kernel_rfl
@[go_sem] theorem Tryz.XN:sz Tryz.prog 346=some 1:=by kernel_rfl
@[go_sem] theorem Tryz.VM:aN Tryz.prog 346=some 8:=by kernel_rfl
@[go_sem] theorem Tryz.aaC:az Tryz.prog 346=some ([.pointer none]):=by kernel_rfl
@[go_sem] theorem Tryz.Y6:tk Tryz.prog 348= .struct [(0,9)]:=by kernel_rfl
@[go_sem] theorem Tryz.XO:sz Tryz.prog 348=some 1:=by kernel_rfl
@[go_sem] theorem Tryz.VN:aN Tryz.prog 348=some 16:=by kernel_rfl
@[go_sem] theorem Tryz.Wb:kj Tryz.prog 348=true:=by kernel_rfl
@[go_sem] theorem Tryz.aaD:az Tryz.prog 348=some ([.string ⟨#[]⟩]):=by kernel_rfl
@[go_sem] theorem Tryz.Y7:tk Tryz.prog 350= .arr 20 314:=by kernel_rfl
@[go_sem] theorem Tryz.XP:sz Tryz.prog 350=some 20:=by kernel_rfl
@[go_sem] theorem Tryz.VO:aN Tryz.prog 350=some 160:=by kernel_rfl
@[go_sem] theorem Tryz.Wc:kj Tryz.prog 350=true:=by kernel_rfl
@[go_sem] theorem Tryz.aaE:az Tryz.prog 350=some (List.replicate 20 (.int .u64 0)):=by kernel_rfl
@[go_sem] theorem Tryz.Y8:tk Tryz.prog 351= .arr 65 5:=by kernel_rfl
@[go_sem] theorem Tryz.XQ:sz Tryz.prog 351=some 65:=by kernel_rfl
@[go_sem] theorem Tryz.VP:aN Tryz.prog 351=some 65:=by kernel_rfl
@[go_sem] theorem Tryz.Wd:kj Tryz.prog 351=true:=by kernel_rfl
@[go_sem] theorem Tryz.aaF:az Tryz.prog 351=some (List.replicate 65 (.int .u8 0)):=by kernel_rfl
@[go_sem] theorem Tryz.Y9:tk Tryz.prog 352= .arr 32 5:=by kernel_rfl
@[go_sem] theorem Tryz.XR:sz Tryz.prog 352=some 32:=by kernel_rfl
@[go_sem] theorem Tryz.VQ:aN Tryz.prog 352=some 32:=by kernel_rfl
@[go_sem] theorem Tryz.We:kj Tryz.prog 352=true:=by kernel_rfl
@[go_sem] theorem Tryz.aaG:az Tryz.prog 352=some (List.replicate 32 (.int .u8 0)):=by kernel_rfl
@[go_sem] theorem Tryz.Y_:tk Tryz.prog 353= .arr 64 5:=by kernel_rfl
@[go_sem] theorem Tryz.XS:sz Tryz.prog 353=some 64:=by kernel_rfl
@[go_sem] theorem Tryz.VR:aN Tryz.prog 353=some 64:=by kernel_rfl
@[go_sem] theorem Tryz.Wf:kj Tryz.prog 353=true:=by kernel_rfl
@[go_sem] theorem Tryz.aaH:az Tryz.prog 353=some (List.replicate 64 (.int .u8 0)):=by kernel_rfl
end Go.Proofs.YtpfohmboflcneaaGreatDoor
end
section
namespace Go.Proofs.YtpfohmboflcneaaGreatDoor
open Go Go.AL Go.RowKit
set_option maxRecDepth 10000
set_option maxHeartbeats 4000000
inductive Tm where
 |mk (nm:List UInt8) (ix:Int) (xs:List Tm)
def Tm.nm:Tm->List UInt8| .mk n _ _=>n
def Tm.ix:Tm->Int| .mk _ i _=>i
def Tm.xs:Tm->List Tm| .mk _ _ a=>a
mutual
def cX:Tm->Tm->Bool
 | .mk n i xs,u=>(n==u.nm&&i==u.ix)&&kk xs u.xs
def kk:List Tm->List Tm->Bool
 |[],[]=>true
 |a::l,b::m=>cX a b&&kk l m
 |_,_=>false
end
mutual
def rp:Tm->List IV
 | .mk nm ix xs=>[Si nm,Ii ix,.sl 3 (ax xs)]
def ax:List Tm->List (List IV)
 |[]=>[]
 |t::l=>rp t::ax l
end
theorem oN (t:Tm):rp t=[Si t.nm,Ii t.ix,.sl 3 (ax t.xs)]:=by cases t;rfl
theorem rq:∀l:List Tm,ax l=l.map rp
 |[]=>rfl
 |t::l=>by rw[ax,rq l];rfl
theorem ah (l:List Tm):(ax l).length=l.length:=by rw[rq,List.length_map]
theorem cz (l:List Tm) (k:Nat) (h:k<l.length):∃t,l[k]?=some t/\(ax l).getD k []=[Si t.nm,Ii t.ix,.sl 3 (ax t.xs)]:=by
 refine⟨l[k],List.getElem?_eq_getElem h,?_⟩
 rw[List.getD_eq_getElem?_getD,rq,List.getElem?_map,List.getElem?_eq_getElem h,<-oN];rfl
abbrev bp (t:Tm):AV:= .agg [Sv t.nm,Iv t.ix,.im (.sl 3 (ax t.xs))]
mutual
def mu:Tm->Prop
 | .mk nm _ xs=>nm.length<=9223372036854775807/\xs.length<=9223372036854775807/\mw xs
def mw:List Tm->Prop
 |[]=>True
 |t::l=>mu t/\mw l
end
theorem Ls {t:Tm}:mu t↔t.nm.length<=9223372036854775807/\t.xs.length<=9223372036854775807/\mw t.xs:=by cases t;rw[mu];rfl
theorem wM:∀{l:List Tm} {k:Nat} {t:Tm},mw l->l[k]?=some t->mu t
 |[],k,t,_,h=>by simp at h
 |u::l,0,t,hs,h=>by rw[mw]at hs;simp at h;exact h▸hs.1
 |u::l,k+1,t,hs,h=>by rw[mw]at hs;simp at h;exact wM hs.2 h
theorem iF {t u:Tm} {k:Nat} (h:t.xs[k]?=some u):SizeOf.sizeOf u<SizeOf.sizeOf t:=by
 cases t with
 |mk nm ix xs=>
  have:=List.sizeOf_lt_of_mem (List.mem_of_getElem? h)
  simp only[Tm.xs]at this
  simp;omega
theorem aj.told {P:Program} {f:FuncId} {xs:List AV} {H:aa} {R R':AV->aa->Prop} (h:aj P f xs H R) (hr:∀r H',R r H'->∃r',R' r' H'/\∀w φ I v,AV.den w φ I r v->AV.den w φ I r' v):aj P f xs H R':=
 ⟨h.gh,fun w φ I vs hd hR hV=>(h.run w φ I vs hd hR hV).mono fun _ _ ⟨r,H',φ',I',v,U,h2,h3,h4⟩=>by
  obtain⟨r',l8,eg⟩:=hr _ _ U
  exact⟨r',H',φ',I',v,l8,h2,eg _ _ _ _ h3,h4⟩⟩
theorem aP.told {P:Program} {f:FuncId} {xs:List AV} {r r':AV} (h:aP P f xs r) (hr:∀w φ I v,AV.den w φ I r v->AV.den w φ I r' v):aP P f xs r':=
 aj.told h fun _ _ ⟨hH,he⟩=>⟨r',⟨hH,rfl⟩,by subst he;exact hr⟩
abbrev eL:AV:= .im (.v (.slice none 0 0))
theorem Dz (es:Nat) (w:World) (φ:al) (I:Nat->Prop) (v:Value) (h:AV.den w φ I eL v):AV.den w φ I (.im (.sl es [])) v:=by
 simp only[AV.den]at h⊢
 exact Dy h
@[go_sem] theorem SV (ρ:Nat->Nat):∀cs:List IV,AV.cd ρ (cs.map AV.im)=cs.map AV.im
 |[]=>rfl
 |c::cs=>by rw[List.map_cons,AV.cd,SV ρ cs];rfl
mutual
def aU:Tm->Prop
 | .mk nm _ xs=>nm.length<=1000000000/\xs.length<=1000000000/\cq xs
def cq:List Tm->Prop
 |[]=>True
 |t::l=>aU t/\cq l
end
theorem eU {t:Tm}:aU t↔t.nm.length<=1000000000/\t.xs.length<=1000000000/\cq t.xs:=by cases t;rw[aU];rfl
theorem cA:∀{l:List Tm} {k:Nat} {t:Tm},cq l->l[k]?=some t->aU t
 |[],k,t,_,h=>by simp at h
 |u::l,0,t,hs,h=>by rw[cq]at hs;simp at h;exact h▸hs.1
 |u::l,k+1,t,hs,h=>by rw[cq]at hs;simp at h;exact cA hs.2 h
abbrev p9 (w:Tm):List IV:=[Si w.nm,Ii w.ix,.sl 3 (ax w.xs)]
abbrev kQ (t:Tm):IV:= .pt (p9 t)
theorem c7 {α:Type} {l:List α} {k:Nat} {u:α} (h:l[k]?=some u):l.take (k+1)=l.take k++[u]:=by rw[List.take_add_one,h];rfl
theorem gP {α:Type} {l:List α} {k:Nat} (h:k<=l.length):(l.take k).length=k:=by rw[List.length_take];omega
theorem q5 {α β:Type} (f:α->β) {l:List α} {k:Nat} {u:α} (h:l[k]?=some u):(l.take (k+1)).map f=(l.take k).map f++[f u]:=by
 rw[c7 h,List.map_append];rfl
theorem ni (l:List Tm) (w:Tm):ax (l++[w])=ax l++[p9 w]:=by
 rw[rq,List.map_append,<-rq,List.map_cons,List.map_nil,oN]
theorem FE (x:Tm) (hs:aU x):aP Tryz.prog 38 [bp x] (bp x):=by
 have cM:=eU.1 hs
 refine aj.walk [0,1,2,3,5,12,13,14,15] [2,3,5] Tryz.func38 rfl Tryz.ntmps38 (by kernel_rfl) (by rfl) rfl fun W own I0 aq lay=>?_
 refine gE @ah ?_
 refine AP.hO 1 2 71 3 rfl rfl ?_
 refine sI ?_
 refine AP.loop rfl (α:=Nat) (fun k=>[(2,.ob 0 0),(3,.ob 1 0),(12,.im (.sl 3 (ax x.xs))),(13,Iv x.xs.length),(14,Iv k)]) (fun k=>[(2,.vec 71 3 (ax (x.xs.take k))),(1,.var 71 [Sv x.nm,Iv x.ix,.os 2 3 0 k]),(0,.var 71 [Sv [],Iv 0,eL])]) (fun k=>k<=x.xs.length) (fun k=>x.xs.length-k) 0 (by omega) (sU) rfl fun k hk=>?_
 rcases Nat.eq_or_lt_of_le hk with aC|ag
 ·subst aC
  rw[List.take_length]
  refine gE @ah ?_
  refine cF ?_
  refine gO ?_
  refine AE.freeze 2 (el:=71) (es:=3) (rows:=ax x.xs) rfl (by simp only[go_sem,Nat.reduceAdd,Nat.reduceLeDiff,Nat.reduceSub,Int.reduceToNat,reduceCtorEq,ah];first|done|trivial|omega|(simp;done)|(simp;omega)) (by simp only[go_sem,Nat.reduceAdd,Nat.reduceLeDiff,Nat.reduceSub,Int.reduceToNat,reduceCtorEq,ah];first|done|trivial|omega|(simp;done)|(simp;omega)) ?_;simp only[go_sem,Nat.reduceAdd,Nat.reduceLeDiff,Nat.reduceSub,Int.reduceToNat,reduceCtorEq,ah]
  rw[List.take_of_length_le (by rw[ah];omega)]
  exact AE.aX [1,0] rfl ⟨⟨rfl,Nat.le_of_ble_eq_true (by kernel_rfl)⟩,trivial⟩ rfl ⟨rfl,by cases x;rfl⟩
 ·obtain⟨u,hu,aF⟩:=cz x.xs k ag
  have hw:=wr (x:=(k:Int)+1) (by omega)
  have aY:=gP (l:=x.xs) (k:=k) (by omega)
  have ih:=FE u (cA cM.2.2 hu)
  have bc:=c7 hu
  refine gE @ah ?_
  refine cT ?_
  refine gE @aF ?_
  refine⟨by rw[ah];omega,?_⟩
  refine gO ?_
  refine AP.cu 8 (Tree.node [] [0,1,2] [3] [Tree.node [0,1] [] [4] [Tree.node [0,1] [] [5] [Tree.node [] [6] [7] [Tree.node [] [] [] []]]]]) (by kernel_rfl) rfl (by kernel_rfl) (by kernel_rfl) ?_
  refine cr ?_
  refine sI ?_
  refine AQ.fn (by kernel_rfl) rfl rfl rfl (ih) rfl ?_
  refine sI ?_
  refine AQ.nx rfl ?_
  refine sI ?_
  refine AQ.go (by kernel_rfl) ?_
  refine sI ?_
  refine AQ.nx rfl ?_
  refine sI ?_
  refine AQ.kill 2 ?_
  refine sI ?_
  refine AQ.append (hnb:=rfl) (rows:=ax (x.xs.take k)) (es:=2) (by kernel_rfl) rfl rfl rfl (by rfl) Tryz.p8 Tryz.p7 (by show Option.map _ (az Tryz.prog 71)=_;rw[Tryz.qb];rfl) Tryz.oY (by first|rfl|(simp only[ah,aY,List.length_cons,List.length_nil];done)|(simp only[ah,aY,List.length_cons,List.length_nil];omega)) (by simp only[ah,aY,List.length_cons,List.length_nil];omega) (by simp only[ah,aY,List.length_cons,List.length_nil];omega) ?_
  refine sI ?_
  refine AQ.nx rfl ?_
  refine sI ?_
  refine AQ.go (by kernel_rfl) ?_
  refine sI ?_
  refine AQ.nx rfl ?_
  refine sI ?_
  refine AQ.done ?_
  refine gE @hw ?_
  refine AE.dq [3] rfl ?_
  refine sI ?_
  refine AE.round (k+1) (by omega) (by omega) (sU) ?_
  rw[bc,ni,ah,aY]
termination_by SizeOf.sizeOf x
decreasing_by exact iF hu
theorem An (x:Tm) (hs:aU x):aP Tryz.prog 112 [bp x] (bp x):=by
 have cM:=eU.1 hs
 refine aj.walk [0,1,2,3,5,12,13,14,15] [2,3,5] Tryz.func112 rfl Tryz.ntmps112 (by kernel_rfl) (by rfl) rfl fun W own I0 aq lay=>?_
 refine gE @ah ?_
 refine AP.hO 1 2 57 3 rfl rfl ?_
 refine sI ?_
 refine AP.loop rfl (α:=Nat) (fun k=>[(2,.ob 0 0),(3,.ob 1 0),(12,.im (.sl 3 (ax x.xs))),(13,Iv x.xs.length),(14,Iv k)]) (fun k=>[(2,.vec 57 3 (ax (x.xs.take k))),(1,.var 57 [Sv x.nm,Iv x.ix,.os 2 3 0 k]),(0,.var 57 [Sv [],Iv 0,eL])]) (fun k=>k<=x.xs.length) (fun k=>x.xs.length-k) 0 (by omega) (sU) rfl fun k hk=>?_
 rcases Nat.eq_or_lt_of_le hk with aC|ag
 ·subst aC
  rw[List.take_length]
  refine gE @ah ?_
  refine cF ?_
  refine gO ?_
  refine AE.freeze 2 (el:=57) (es:=3) (rows:=ax x.xs) rfl (by simp only[go_sem,Nat.reduceAdd,Nat.reduceLeDiff,Nat.reduceSub,Int.reduceToNat,reduceCtorEq,ah];first|done|trivial|omega|(simp;done)|(simp;omega)) (by simp only[go_sem,Nat.reduceAdd,Nat.reduceLeDiff,Nat.reduceSub,Int.reduceToNat,reduceCtorEq,ah];first|done|trivial|omega|(simp;done)|(simp;omega)) ?_;simp only[go_sem,Nat.reduceAdd,Nat.reduceLeDiff,Nat.reduceSub,Int.reduceToNat,reduceCtorEq,ah]
  rw[List.take_of_length_le (by rw[ah];omega)]
  exact AE.aX [1,0] rfl ⟨⟨rfl,Nat.le_of_ble_eq_true (by kernel_rfl)⟩,trivial⟩ rfl ⟨rfl,by cases x;rfl⟩
 ·obtain⟨u,hu,aF⟩:=cz x.xs k ag
  have hw:=wr (x:=(k:Int)+1) (by omega)
  have aY:=gP (l:=x.xs) (k:=k) (by omega)
  have ih:=An u (cA cM.2.2 hu)
  have bc:=c7 hu
  refine gE @ah ?_
  refine cT ?_
  refine gE @aF ?_
  refine⟨by rw[ah];omega,?_⟩
  refine gO ?_
  refine AP.cu 8 (Tree.node [] [0,1,2] [3] [Tree.node [0,1] [] [4] [Tree.node [0,1] [] [5] [Tree.node [] [6] [7] [Tree.node [] [] [] []]]]]) (by kernel_rfl) rfl (by kernel_rfl) (by kernel_rfl) ?_
  refine cr ?_
  refine sI ?_
  refine AQ.fn (by kernel_rfl) rfl rfl rfl (ih) rfl ?_
  refine sI ?_
  refine AQ.nx rfl ?_
  refine sI ?_
  refine AQ.go (by kernel_rfl) ?_
  refine sI ?_
  refine AQ.nx rfl ?_
  refine sI ?_
  refine AQ.kill 2 ?_
  refine sI ?_
  refine AQ.append (hnb:=rfl) (rows:=ax (x.xs.take k)) (es:=2) (by kernel_rfl) rfl rfl rfl (by rfl) Tryz.Lq Tryz.Ln (by show Option.map _ (az Tryz.prog 57)=_;rw[Tryz.L8];rfl) Tryz.Fe (by first|rfl|(simp only[ah,aY,List.length_cons,List.length_nil];done)|(simp only[ah,aY,List.length_cons,List.length_nil];omega)) (by simp only[ah,aY,List.length_cons,List.length_nil];omega) (by simp only[ah,aY,List.length_cons,List.length_nil];omega) ?_
  refine sI ?_
  refine AQ.nx rfl ?_
  refine sI ?_
  refine AQ.go (by kernel_rfl) ?_
  refine sI ?_
  refine AQ.nx rfl ?_
  refine sI ?_
  refine AQ.done ?_
  refine gE @hw ?_
  refine AE.dq [3] rfl ?_
  refine sI ?_
  refine AE.round (k+1) (by omega) (by omega) (sU) ?_
  rw[bc,ni,ah,aY]
termination_by SizeOf.sizeOf x
decreasing_by exact iF hu
end Go.Proofs.YtpfohmboflcneaaGreatDoor
end
section
namespace Go.Proofs.YtpfohmboflcneaaGreatDoor
set_option maxHeartbeats 1000000
mutual
theorem x5:∀s t:Tm,cX s t=true↔s=t
 | .mk n i xs,.mk m k ys=>by
  rw[cX]
  simp only[Bool.and_eq_true,beq_iff_eq,Tm.nm,Tm.ix,Tm.xs,A2 xs ys,Tm.mk.injEq,and_assoc]
theorem A2:∀s t:List Tm,kk s t=true↔s=t
 |[],[]=>by simp[kk]
 |[],_::_=>by simp[kk]
 |_::_,[]=>by simp[kk]
 |a::l,b::m=>by
  rw[kk]
  simp only[Bool.and_eq_true,x5 a b,A2 l m,List.cons.injEq]
end
theorem N1 (s:Tm):cX s s=true:=(x5 s s).2 rfl
mutual
def dG:Tm->List Int
 | .mk n i xs=>(if n=[]then[i]else[])++bM xs
def bM:List Tm->List Int
 |[]=>[]
 |t::l=>dG t++bM l
end
mutual
def wT:Tm->Nat
 | .mk _ _ xs=>1+aw xs
def aw:List Tm->Nat
 |[]=>0
 |t::l=>wT t+aw l
end
theorem Um (t:Tm):dG t=(if t.nm=[]then[t.ix]else[])++bM t.xs:=by cases t;rw[dG];rfl
theorem tv (t:Tm):wT t=1+aw t.xs:=by cases t;rw[wT];rfl
theorem Ep (t:Tm):1<=wT t:=by rw[tv];omega
theorem wR:∀(l:List Tm) (a:Tm),a∈l->wT a<=aw l
 |[],_,h=>by cases h
 |t::l,a,h=>by
  rw[aw]
  rcases List.mem_cons.1 h with rfl|h
  ·omega
  ·have:=wR l a h;omega
theorem Ac {t a:Tm} (h:a∈t.xs):wT a<wT t:=by
 rw[tv t];have:=wR t.xs a h;omega
def t_ (s t:Tm):Bool:=(dG t).all fun v=>decide ((dG t).count v<=(dG s).count v)
theorem NP (s t:Tm):t_ s t=true↔∀v,(dG t).count v<=(dG s).count v:=by
 rw[t_,List.all_eq_true]
 constructor
 ·intro h v
  by_cases hv:v∈dG t
  ·exact of_decide_eq_true (h v hv)
  ·rw[List.count_eq_zero_of_not_mem hv];omega
 ·intro h v _;exact decide_eq_true (h v)
mutual
def mI:Tm->Tm->Bool
 | .mk n i xs,t=>
  if t_ (.mk n i xs) t=false then false
  else if wT (.mk n i xs)≠wT t then decide (wT t<wT (.mk n i xs))
  else if n=[]\/t.nm=[]then false
  else if xs.length≠t.xs.length then decide (t.xs.length<xs.length)
  else if n≠t.nm then decide (t.nm<n)
  else o_ xs t.xs
def o_:List Tm->List Tm->Bool
 |a::l,b::m=>if cX a b then o_ l m else mI a b
 |_,_=>false
end
theorem OK (s t:Tm):mI s t=if t_ s t=false then false
  else if wT s≠wT t then decide (wT t<wT s)
  else if s.nm=[]\/t.nm=[]then false
  else if s.xs.length≠t.xs.length then decide (t.xs.length<s.xs.length)
  else if s.nm≠t.nm then decide (t.nm<s.nm)
  else o_ s.xs t.xs:=by cases s;rw[mI];rfl
theorem zl (a b:List UInt8):a<b\/a=b\/b<a:=by
 rcases List.le_total a b with h|h
 ·rcases List.le_iff_lt_or_eq.1 h with h|h
  ·exact .inl h
  ·exact .inr (.inl h)
 ·rcases List.le_iff_lt_or_eq.1 h with h|h
  ·exact .inr (.inr h)
  ·exact .inr (.inl h.symm)
inductive Lf:Tm->Prop
 |mk (t:Tm) (h:t.nm=[]->t.xs=[]) (h0:t.nm≠[]->t.ix=0) (k:∀a∈t.xs,Lf a):Lf t
mutual
def aB (f:Int->Tm):Tm->Tm
 | .mk n i xs=>if n=[]then f i else .mk n 0 (bf f xs)
def bf (f:Int->Tm):List Tm->List Tm
 |[]=>[]
 |t::l=>aB f t::bf f l
end
theorem nJ (f:Int->Tm) (t:Tm):aB f t=if t.nm=[]then f t.ix else .mk t.nm 0 (bf f t.xs):=by cases t;rw[aB];rfl
theorem h_ (f:Int->Tm):∀l,bf f l=l.map (aB f)
 |[]=>by rw[bf];rfl
 |t::l=>by rw[bf,h_ f l];rfl
def rL (s t:Tm):Int:=if cX s t then 0 else if mI s t then 1 else if mI t s then-1 else 2
end Go.Proofs.YtpfohmboflcneaaGreatDoor
end
section
namespace Go.Proofs.YtpfohmboflcneaaGreatDoor
open Go
def fq (c:UInt8):Bool:=decide (48<=c.toNat)&&decide (c.toNat<=57)
def fc (l:List UInt8):Nat:=l.foldl (fun n c=>10*n+(c.toNat-48)) 0
theorem F6 (l:List UInt8) (c:UInt8):fc (l++[c])=10*fc l+(c.toNat-48):=by simp[fc,List.foldl_append]
theorem we (d:Nat) (h:d<10):(UInt8.ofNat (48+d)).toNat=48+d:=by
 rw[UInt8.toNat_ofNat'];omega
theorem FN:∀(u:Nat),fc (Lib.decDigits u)=u/\(∀c∈Lib.decDigits u,fq c=true)/\Lib.decDigits u≠[]/\(∀k,1<=k->u<10^k->(Lib.decDigits u).length<=k)/\(u≠0->((Lib.decDigits u).getD 0 0).toNat≠48)/\(1<(Lib.decDigits u).length->u≠0):=by
 intro u
 induction u using Nat.strongRecOn with
 |_ u ih=>
  rw[Lib.decDigits]
  by_cases h:u<10
  ·rw[dif_pos h]
   refine⟨?_,?_,by simp,?_,?_,by simp⟩
   ·simp only[fc,List.foldl_cons,List.foldl_nil,we u h];omega
   ·intro c hc
    simp only[List.mem_singleton]at hc
    subst hc
    simp only[fq,we u h,Bool.and_eq_true,decide_eq_true_eq];omega
   ·intro k hk _;simpa using hk
   ·intro h0;simp only[List.getD_cons_zero,we u h];omega
  ·rw[dif_neg h]
   obtain⟨U,h2,h3,h4,h5,h6⟩:=ih (u/10) (by omega)
   have hm:u%10<10:=Nat.mod_lt _ (by decide)
   refine⟨?_,?_,by simp,?_,?_,fun _=>by omega⟩
   ·rw[F6,U,we _ hm];omega
   ·intro c hc
    rcases List.mem_append.1 hc with hc|hc
    ·exact h2 c hc
    ·simp only[List.mem_singleton]at hc
     subst hc
     simp only[fq,we _ hm,Bool.and_eq_true,decide_eq_true_eq];omega
   ·intro k hk hu
    match k,hk with
    |1,_=>omega
    |k+2,_=>
     have:=h4 (k+1) (by omega) (by rw[Nat.pow_succ]at hu;omega)
     rw[List.length_append,List.length_singleton];omega
   ·intro _
    have h7:=h5 (by omega)
    match hd:Lib.decDigits (u/10),h3 with
    |x::r,_=>rw[hd]at h7;simpa using h7
theorem AM:∀(n:Nat) (l:List UInt8),l.length=n+1->(∀c∈l,fq c=true)->(1<l.length->(l.getD 0 0).toNat≠48)->Lib.decDigits (fc l)=l/\((l.getD 0 0).toNat≠48->fc l≠0)
 |0,l,hl,hd,_=>by
  match l,hl with
  |[c],_=>
   have hc:=hd c (by simp)
   simp only[fq,Bool.and_eq_true,decide_eq_true_eq]at hc
   have e:fc [c]=c.toNat-48:=by simp[fc]
   rw[e]
   refine⟨?_,fun h=>by simp only[List.getD_cons_zero]at h;omega⟩
   rw[Lib.decDigits,dif_pos (by omega)]
   have:UInt8.ofNat (48+(c.toNat-48))=c:=by
    rw[show 48+(c.toNat-48)=c.toNat by omega];simp
   rw[this]
 |n+1,l,hl,hd,hz=>by
  obtain⟨r,c,rfl⟩:∃r c,l=r++[c]:=by
   rcases List.eq_nil_or_concat l with rfl|⟨r,c,rfl⟩
   ·simp at hl
   ·exact⟨r,c,List.concat_eq_append⟩
  have mT:r.length=n+1:=by simp at hl;omega
  have hg:(r++[c]).getD 0 0=r.getD 0 0:=by
   match r,mT with
   |x::r,_=>rfl
  rw[hg]at hz⊢
  have h0:=hz (by rw[List.length_append,List.length_singleton];omega)
  obtain⟨U,h2⟩:=AM n r mT (fun d eg=>hd d (by simp[eg])) (fun _=>h0)
  have hc:=hd c (by simp)
  simp only[fq,Bool.and_eq_true,decide_eq_true_eq]at hc
  have h3:=h2 h0
  rw[F6]
  refine⟨?_,fun _=>by omega⟩
  rw[Lib.decDigits,dif_neg (by omega),show(10*fc r+(c.toNat-48))/10=fc r by omega,U,show(10*fc r+(c.toNat-48))%10=c.toNat-48 by omega]
  have:UInt8.ofNat (48+(c.toNat-48))=c:=by
   rw[show 48+(c.toNat-48)=c.toNat by omega];simp
  rw[this]
def iW (c:UInt8) (first:Bool):Bool:=
 (decide (97<=c.toNat)&&decide (c.toNat<=122)||decide (65<=c.toNat)&&decide (c.toNat<=90))||!first&&((decide (48<=c.toNat)&&decide (c.toNat<=57)||c==95)||c==39)
def cy:Bool->List UInt8->Nat
 |_,[]=>0
 |b,c::l=>if iW c b then 1+cy false l else 0
def gg:List UInt8->Nat
 |[]=>0
 |c::l=>if fq c then 1+gg l else 0
def mY:Bool->List UInt8->Bool
 |_,[]=>true
 |b,c::l=>iW c b&&mY false l
def dW (n:List UInt8):Bool:=decide (n≠[])&&decide (n.length<=60)&&mY true n
theorem wc:∀b l,cy b l<=l.length
 |_,[]=>Nat.zero_le _
 |b,c::l=>by
  rw[cy];split
  ·have:=wc false l;rw[List.length_cons];omega
  ·exact Nat.zero_le _
theorem F4:∀l,gg l<=l.length
 |[]=>Nat.zero_le _
 |c::l=>by
  rw[gg];split
  ·have:=F4 l;rw[List.length_cons];omega
  ·exact Nat.zero_le _
theorem F5:∀l:List UInt8,∀c∈l.take (gg l),fq c=true
 |[]=>by simp
 |c::l=>by
  rw[gg]
  split
  ·rename_i h
   rw[Nat.add_comm,List.take_succ_cons]
   intro d hd
   rcases List.mem_cons.1 hd with rfl|hd
   ·exact h
   ·exact F5 l d hd
  ·simp
structure Lt where
 ng:Bool
 pd:List UInt8
 xs:List Tm
mutual
def er (sh:Bool):Tm->List UInt8
 | .mk n i xs=>if n=[]then 63::(if sh then[]else Lib.itoa i)else n++fv sh xs
def fv (sh:Bool):List Tm->List UInt8
 |[]=>[]
 |t::l=>40::(er sh t++kR sh l)
def kR (sh:Bool):List Tm->List UInt8
 |[]=>[41]
 |t::l=>44::32::(er sh t++kR sh l)
end
theorem LC (sh:Bool) (t:Tm):er sh t=if t.nm=[]then 63::(if sh then[]else Lib.itoa t.ix)else t.nm++fv sh t.xs:=by cases t;rw[er];rfl
def qv (ng:Bool):List UInt8:=if ng then[32,33,61,32]else[32,61,32]
def iG (sh:Bool) (l:Lt):List UInt8:=
 if l.pd=[61]then er sh (l.xs.getD 0 (.mk [] 0 []))++(qv l.ng++er sh (l.xs.getD 1 (.mk [] 0 [])))
 else(if l.ng then[126]else[])++(l.pd++fv sh l.xs)
def jb (sh:Bool):List Lt->List UInt8
 |[]=>[]
 |l::r=>32::124::32::(iG sh l++jb sh r)
def nj (sh:Bool):List Lt->List UInt8
 |[]=>[91,93]
 |l::r=>iG sh l++jb sh r
def cJ (s:List UInt8) (i:Nat) (w:List UInt8):Bool:=w.isPrefixOf (s.drop i)
def ka (d:List UInt8):Bool:=decide (1<=d.length)&&decide (d.length<=9)&&(decide (d.length=1)||decide ((d.getD 0 0).toNat≠48))
def pV (s:List UInt8) (i:Nat):Option (Tm×Nat):=
 if ka ((s.drop i).take (gg (s.drop i)))then some (.mk [] (fc ((s.drop i).take (gg (s.drop i)))) [],i+gg (s.drop i))else none
mutual
def pT (s:List UInt8):Nat->Nat->Option (Tm×Nat)
 |0,_=>none
 |f+1,i=>if cJ s i [63]then pV s (i+1)else
  if cy true (s.drop i)=0 then none else
  if cJ s (i+cy true (s.drop i)) [40]then
   match pT s f (i+cy true (s.drop i)+1)with
   |none=>none
   |some (t,j)=>match pR s f j with
    |none=>none
    |some (l,k)=>some (.mk ((s.drop i).take (cy true (s.drop i))) 0 (t::l),k)
  else some (.mk ((s.drop i).take (cy true (s.drop i))) 0 [],i+cy true (s.drop i))
def pR (s:List UInt8):Nat->Nat->Option (List Tm×Nat)
 |0,_=>none
 |f+1,i=>if cJ s i [44,32]then
   match pT s f (i+2)with
   |none=>none
   |some (t,j)=>match pR s f j with
    |none=>none
    |some (l,k)=>some (t::l,k)
  else if cJ s i [41]then some ([],i+1)else none
end
def pA (s:List UInt8) (f i:Nat):Option (List Tm×Nat):=
 if cJ s i [40]then
  match pT s f (i+1)with
  |none=>none
  |some (t,j)=>match pR s f j with
   |none=>none
   |some (l,k)=>some (t::l,k)
 else some ([],i)
theorem J3 (s:List UInt8) (f i:Nat):pT s (f+1) i=if cJ s i [63]then pV s (i+1)else
  if cy true (s.drop i)=0 then none else
  match pA s f (i+cy true (s.drop i))with
  |none=>none
  |some (l,k)=>some (.mk ((s.drop i).take (cy true (s.drop i))) 0 l,k):=by
 rw[pT,pA]
 split
 ·rfl
 ·split
  ·rfl
  ·split
   ·cases pT s f (i+cy true (s.drop i)+1)with
    |none=>rfl
    |some x=>
     obtain⟨t,j⟩:=x
     simp only
     cases pR s f j with
     |none=>rfl
     |some y=>rfl
   ·rfl
def pL (s:List UInt8) (i:Nat):Option (Lt×Nat):=
 if cJ s i [126]then
  if cy true (s.drop (i+1))=0 then none else
  match pA s (s.length+1) (i+1+cy true (s.drop (i+1)))with
  |none=>none
  |some (l,k)=>some (⟨true,(s.drop (i+1)).take (cy true (s.drop (i+1))),l⟩,k)
 else match pT s (s.length+1) i with
  |none=>none
  |some (t,j)=>
   if cJ s j [32,61,32]then(match pT s (s.length+1) (j+3)with
    |none=>none
    |some (u,k)=>some (⟨false,[61],[t,u]⟩,k))
   else if cJ s j [32,33,61,32]then(match pT s (s.length+1) (j+4)with
    |none=>none
    |some (u,k)=>some (⟨true,[61],[t,u]⟩,k))
   else if t.nm=[]then none else some (⟨false,t.nm,t.xs⟩,j)
def pS (s:List UInt8):Nat->Nat->Option (List Lt)
 |0,_=>none
 |f+1,i=>match pL s i with
  |none=>none
  |some (l,j)=>if cJ s j [32,124,32]then(match pS s f (j+3)with
    |none=>none
    |some r=>some (l::r))
   else if j<s.length then none else some [l]
def pC (s:List UInt8):Option (List Lt):=if s=[91,93]then some []else pS s (s.length+1) 0
theorem nI {s:List UInt8} {i:Nat} {w:List UInt8} (h:cJ s i w=true):s.drop i=w++s.drop (i+w.length):=by
 obtain⟨r,hr⟩:=List.isPrefixOf_iff_prefix.1 h
 rw[<-List.drop_drop,<-hr,List.drop_left]
theorem EZ {s:List UInt8} {i:Nat} {w:List UInt8} (h:cJ s i w=true):i+w.length<=s.length\/w=[]:=by
 have:=congrArg List.length (nI h)
 rw[List.length_append,List.length_drop,List.length_drop]at this
 rcases w with _|⟨c,w⟩
 ·exact .inr rfl
 ·left;rw[List.length_cons]at*;omega
theorem QV {d:List UInt8} (h:ka d=true) (k:∀c∈d,fq c=true):Lib.itoa (fc d:Int)=d:=by
 simp only[ka,Bool.and_eq_true,Bool.or_eq_true,decide_eq_true_eq]at h
 rw[Lib.itoa_nonneg]
 exact(AM (d.length-1) d (by omega) k (fun U=>by rcases h.2 with h2|h2;omega;exact h2)).1
theorem J4 {s:List UInt8} {i j:Nat} {t:Tm} (h:pV s i=some (t,j)):t.nm=[]/\s.drop i=Lib.itoa t.ix++s.drop j/\i<j/\j<=s.length:=by
 rw[pV]at h
 split at h
 ·rename_i hn
  simp only[Option.some.injEq,Prod.mk.injEq]at h
  obtain⟨rfl,rfl⟩:=h
  have hl:=F4 (s.drop i)
  have U:1<=gg (s.drop i):=by
   simp only[ka,Bool.and_eq_true,decide_eq_true_eq,List.length_take]at hn;omega
  rw[List.length_drop]at hl
  refine⟨rfl,?_,by omega,by omega⟩
  show _=Lib.itoa (fc _:Int)++_
  rw[QV hn (F5 _),<-List.drop_drop,List.take_append_drop]
 ·cases h
theorem DH (s:List UInt8):∀f,(∀i t j,pT s f i=some (t,j)->s.drop i=er false t++s.drop j/\i<j/\j<=s.length)/\
  (∀i l j,pR s f i=some (l,j)->s.drop i=kR false l++s.drop j/\i<j/\j<=s.length)
 |0=>⟨fun i t j h=>(by rw[pT]at h;cases h),fun i l j h=>(by rw[pR]at h;cases h)⟩
 |f+1=>by
  obtain⟨Ip,Io⟩:=DH s f
  refine⟨fun i t j h=>?_,fun i l j h=>?_⟩
  ·rw[pT]at h
   split at h
   ·rename_i hq
    obtain⟨U,h2,h3,h4⟩:=J4 h
    refine⟨?_,by omega,h4⟩
    rw[nI hq,LC,if_pos U,show i+[(63:UInt8)].length=i+1 from rfl,h2];rfl
   ·split at h
    ·cases h
    ·rename_i hn
     have gn:=wc true (s.drop i)
     rw[List.length_drop]at gn
     have aR:(s.drop i).take (cy true (s.drop i))≠[]:=by
      intro e
      have:=congrArg List.length e
      rw[List.length_take,List.length_drop,List.length_nil]at this
      omega
     split at h
     ·rename_i ho
      split at h
      ·cases h
      ·rename_i t1 j1 e1
       split at h
       ·cases h
       ·rename_i l1 k1 e2
        simp only[Option.some.injEq,Prod.mk.injEq]at h
        obtain⟨rfl,rfl⟩:=h
        obtain⟨g1,g2,g3⟩:=Ip _ _ _ e1
        obtain⟨g4,g5,g6⟩:=Io _ _ _ e2
        refine⟨?_,by omega,g6⟩
        rw[er,if_neg aR,fv]
        have e3:=nI ho
        rw[show i+cy true (s.drop i)+[(40:UInt8)].length=i+cy true (s.drop i)+1 from rfl,g1,g4]at e3
        have e4:s.drop i=(s.drop i).take (cy true (s.drop i))++s.drop (i+cy true (s.drop i)):=by
         rw[<-List.drop_drop,List.take_append_drop]
        rw[e3]at e4
        simp only[List.cons_append,List.append_assoc,List.nil_append]at e4⊢
        exact e4
     ·simp only[Option.some.injEq,Prod.mk.injEq]at h
      obtain⟨rfl,rfl⟩:=h
      refine⟨?_,by omega,by omega⟩
      rw[er,if_neg aR,fv,List.append_nil,<-List.drop_drop,List.take_append_drop]
  ·rw[pR]at h
   split at h
   ·rename_i ho
    split at h
    ·cases h
    ·rename_i t1 j1 e1
     split at h
     ·cases h
     ·rename_i l1 k1 e2
      simp only[Option.some.injEq,Prod.mk.injEq]at h
      obtain⟨rfl,rfl⟩:=h
      obtain⟨g1,g2,g3⟩:=Ip _ _ _ e1
      obtain⟨g4,g5,g6⟩:=Io _ _ _ e2
      refine⟨?_,by omega,g6⟩
      rw[nI ho,show i+[(44:UInt8),32].length=i+2 from rfl,g1,g4,kR]
      simp only[List.cons_append,List.append_assoc,List.nil_append]
   ·split at h
    ·rename_i ho
     simp only[Option.some.injEq,Prod.mk.injEq]at h
     obtain⟨rfl,rfl⟩:=h
     refine⟨by rw[nI ho,kR];rfl,by omega,?_⟩
     have:=EZ ho
     simpa using this
    ·cases h
theorem pU {s:List UInt8} {f i j:Nat} {t:Tm} (h:pT s f i=some (t,j)):s.drop i=er false t++s.drop j/\i<j/\j<=s.length:=(DH s f).1 i t j h
theorem DG {s:List UInt8} {f i j:Nat} {l:List Tm} (h:pR s f i=some (l,j)):s.drop i=kR false l++s.drop j/\i<j/\j<=s.length:=(DH s f).2 i l j h
theorem Su {s:List UInt8} {f i j:Nat} {l:List Tm} (h:pA s f i=some (l,j)) (hi:i<=s.length):s.drop i=fv false l++s.drop j/\i<=j/\j<=s.length:=by
 rw[pA]at h
 split at h
 ·rename_i ho
  split at h
  ·cases h
  ·rename_i t1 j1 e1
   split at h
   ·cases h
   ·rename_i l1 k1 e2
    simp only[Option.some.injEq,Prod.mk.injEq]at h
    obtain⟨rfl,rfl⟩:=h
    obtain⟨g1,g2,g3⟩:=pU e1
    obtain⟨g4,g5,g6⟩:=DG e2
    refine⟨?_,by omega,g6⟩
    rw[nI ho,show i+[(40:UInt8)].length=i+1 from rfl,g1,g4,fv]
    simp only[List.cons_append,List.append_assoc,List.nil_append]
 ·simp only[Option.some.injEq,Prod.mk.injEq]at h
  obtain⟨rfl,rfl⟩:=h
  exact⟨by rw[fv];rfl,Nat.le_refl _,hi⟩
end Go.Proofs.YtpfohmboflcneaaGreatDoor
end
section
namespace Go.Proofs.YtpfohmboflcneaaGreatDoor
open Go
set_option maxHeartbeats 1000000
mutual
def dE:Tm->Bool
 | .mk n i xs=>if n=[]then xs.isEmpty&&(decide (0<=i)&&decide (i<1000))else(dW n&&i==0)&&cf xs
def cf:List Tm->Bool
 |[]=>true
 |t::l=>dE t&&cf l
end
theorem s6 (t:Tm):dE t=if t.nm=[]then t.xs.isEmpty&&(decide (0<=t.ix)&&decide (t.ix<1000))else(dW t.nm&&t.ix==0)&&cf t.xs:=by cases t;rw[dE];rfl
theorem oD:∀{l:List Tm},cf l=true->∀a∈l,dE a=true
 |[],_,a,h=>by cases h
 |t::l,h,a,ha=>by
  rw[cf,Bool.and_eq_true]at h
  rcases List.mem_cons.1 ha with rfl|ha
  ·exact h.1
  ·exact oD h.2 a ha
theorem EE:∀(n:Nat) (t:Tm),wT t<=n->dE t=true->Lf t
 |0,t,h,_=>by have:=Ep t;omega
 |n+1,t,hn,h=>by
  rw[s6]at h
  by_cases hm:t.nm=[]
  ·rw[if_pos hm,Bool.and_eq_true,List.isEmpty_iff]at h
   exact⟨t,fun _=>h.1,fun h'=>absurd hm h',fun a ha=>by rw[h.1]at ha;cases ha⟩
  ·rw[if_neg hm,Bool.and_eq_true,Bool.and_eq_true,beq_iff_eq]at h
   exact⟨t,fun h'=>absurd h' hm,fun _=>h.1.2,fun a ha=>EE n a (by have:=Ac ha;omega) (oD h.2 a ha)⟩
theorem Sj {t:Tm} (h:dE t=true):Lf t:=EE _ t (Nat.le_refl _) h
def ej (l:Lt):Bool:=if l.pd=[61]then decide (l.xs.length=2)&&cf l.xs else dW l.pd&&cf l.xs
theorem JE {l:List UInt8} (h:cy true l≠0):∃c r,l.take (cy true l)=c::r/\iW c true=true:=by
 match l,h with
 |[],h=>exact absurd rfl h
 |c::l,h=>
  rw[cy]at h⊢
  split at h
  ·rename_i hc
   rw[if_pos hc,Nat.add_comm,List.take_succ_cons]
   exact⟨c,_,rfl,hc⟩
  ·exact absurd rfl h
theorem JF {c:UInt8} {r:List UInt8} (h:iW c true=true):c::r≠[61]:=by
 intro e
 rw[List.cons.injEq]at e
 rw[e.1]at h
 revert h;decide
theorem Sy {s:List UInt8} {f i j:Nat} {t:Tm} (h:pT s f i=some (t,j)) (hn:t.nm≠[]):t.ix=0/\t.nm≠[61]:=by
 match f,h with
 |0,h=>rw[pT]at h;cases h
 |f+1,h=>
  rw[J3]at h
  split at h
  ·exact absurd (J4 h).1 hn
  ·split at h
   ·cases h
   ·rename_i h0
    obtain⟨c,r,e,hc⟩:=JE h0
    split at h
    ·cases h
    ·simp only[Option.some.injEq,Prod.mk.injEq]at h
     obtain⟨rfl,rfl⟩:=h
     exact⟨rfl,by show List.take _ _≠_;rw[e];exact JF hc⟩
theorem T5 {t:Tm} (h:t.nm≠[]):er false t=t.nm++fv false t.xs:=by rw[LC,if_neg h]
theorem J0 {s:List UInt8} {i j:Nat} {l:Lt} (h:pL s i=some (l,j)):s.drop i=iG false l++s.drop j/\i<j/\j<=s.length:=by
 rw[pL]at h
 split at h
 ·rename_i U
  split at h
  ·cases h
  ·rename_i h0
   obtain⟨c,r,e,hc⟩:=JE h0
   have gn:=wc true (s.drop (i+1))
   rw[List.length_drop]at gn
   split at h
   ·cases h
   ·rename_i x k e2
    simp only[Option.some.injEq,Prod.mk.injEq]at h
    obtain⟨rfl,rfl⟩:=h
    obtain⟨g1,g2,g3⟩:=Su e2 (by omega)
    refine⟨?_,by omega,g3⟩
    rw[iG]
    simp only
    rw[if_neg (by rw[e];exact JF hc),nI U]
    simp only[if_true,List.length_singleton,List.append_assoc]
    rw[<-g1,<-List.drop_drop (i:=cy true (s.drop (i+1))),List.take_append_drop]
 ·split at h
  ·cases h
  ·rename_i t k e1
   obtain⟨g1,g2,g3⟩:=pU e1
   split at h
   ·rename_i h2
    split at h
    ·cases h
    ·rename_i u m e2
     simp only[Option.some.injEq,Prod.mk.injEq]at h
     obtain⟨rfl,rfl⟩:=h
     obtain⟨g4,g5,g6⟩:=pU e2
     refine⟨?_,by omega,g6⟩
     have:=nI h2
     rw[show k+[(32:UInt8),61,32].length=k+3 from rfl,g4]at this
     rw[iG,if_pos rfl,g1,this]
     simp[qv]
   ·split at h
    ·rename_i h2
     split at h
     ·cases h
     ·rename_i u m e2
      simp only[Option.some.injEq,Prod.mk.injEq]at h
      obtain⟨rfl,rfl⟩:=h
      obtain⟨g4,g5,g6⟩:=pU e2
      refine⟨?_,by omega,g6⟩
      have:=nI h2
      rw[show k+[(32:UInt8),33,61,32].length=k+4 from rfl,g4]at this
      rw[iG,if_pos rfl,g1,this]
      simp[qv]
    ·split at h
     ·cases h
     ·rename_i hn
      simp only[Option.some.injEq,Prod.mk.injEq]at h
      obtain⟨rfl,rfl⟩:=h
      refine⟨?_,g2,g3⟩
      rw[iG,if_neg (Sy e1 hn).2,g1,T5 hn];rfl
mutual
def cG:Tm->Nat
 | .mk _ _ xs=>1+dm xs
def dm:List Tm->Nat
 |[]=>0
 |t::l=>max (cG t) (dm l)
end
theorem F9 (t:Tm):cG t=1+dm t.xs:=by cases t;rw[cG];rfl
def jE (l:Lt):Nat:=1+aw l.xs
def bC (c:List Lt):Nat:=(c.map jE).sum
def cW:List Lt->Nat
 |[]=>0
 |l::c=>max (dm l.xs) (cW c)
def dp (eF eR:Int) (t:Tm):Int:=
 if t.nm=[]then(if t.xs≠[]then eF else if t.ix<0\/1000<=t.ix then eR else 0)
 else if dW t.nm=false\/t.ix≠0 then eF else 0
mutual
def gF (eF eR:Int):Tm->Int
 | .mk n i xs=>if dp eF eR (.mk n i xs)≠0 then dp eF eR (.mk n i xs)else cY eF eR xs
def cY (eF eR:Int):List Tm->Int
 |[]=>0
 |t::l=>if gF eF eR t≠0 then gF eF eR t else cY eF eR l
end
theorem Od (eF eR:Int) (t:Tm):gF eF eR t=if dp eF eR t≠0 then dp eF eR t else cY eF eR t.xs:=by cases t;rw[gF];rfl
mutual
def bQ:Tm->List Tm
 | .mk n i xs=> .mk n i xs::ck xs
def ck:List Tm->List Tm
 |[]=>[]
 |t::l=>bQ t++ck l
end
theorem wz (t:Tm):bQ t=t::ck t.xs:=by cases t;rw[bQ];rfl
def iN (f:Tm->Int):List Tm->Int
 |[]=>0
 |t::l=>if f t≠0 then f t else iN f l
theorem GN (f:Tm->Int):∀l m,iN f (l++m)=if iN f l≠0 then iN f l else iN f m
 |[],m=>by rw[List.nil_append,iN,if_neg (by decide)]
 |t::l,m=>by
  rw[List.cons_append,iN,iN,GN f l m]
  by_cases h:f t≠0
  ·rw[if_pos h,if_pos h,if_pos h]
  ·rw[if_neg h,if_neg h]
mutual
theorem Gy (eF eR:Int):∀t,gF eF eR t=iN (dp eF eR) (bQ t)
 | .mk n i xs=>by rw[gF,bQ,iN,Gz eF eR xs]
theorem Gz (eF eR:Int):∀l,cY eF eR l=iN (dp eF eR) (ck l)
 |[]=>by rw[cY,ck];rfl
 |t::l=>by rw[cY,ck,GN,Gy eF eR t,Gz eF eR l]
end
def rY (eF eR:Int) (l:Lt):Int:=if(l.pd≠[61]/\dW l.pd=false)\/(l.pd=[61]/\l.xs.length≠2)then eF else cY eF eR l.xs
def fM (eF eR:Int):List Lt->Int
 |[]=>0
 |l::c=>if rY eF eR l≠0 then rY eF eR l else fM eF eR c
def aW (eS eD eF eR:Int) (c:List Lt):Int:=
 if 40<c.length then eS else if 4000<bC c then eS else if 100<cW c then eD else fM eF eR c
theorem Oa {eF eR:Int} (hF:eF≠0) (hR:eR≠0) (t:Tm):dp eF eR t=0↔if t.nm=[]then t.xs=[]/\0<=t.ix/\t.ix<1000 else dW t.nm=true/\t.ix=0:=by
 rw[dp]
 by_cases hn:t.nm=[]
 ·rw[if_pos hn,if_pos hn]
  by_cases hx:t.xs=[]
  ·rw[if_neg (by simpa using hx)]
   by_cases hi:t.ix<0\/1000<=t.ix
   ·rw[if_pos hi];exact⟨fun h=>absurd h hR,fun h=>by omega⟩
   ·rw[if_neg hi];exact⟨fun _=>⟨hx,by omega⟩,fun _=>rfl⟩
  ·rw[if_pos hx];exact⟨fun h=>absurd h hF,fun h=>absurd h.1 hx⟩
 ·rw[if_neg hn,if_neg hn]
  by_cases hb:dW t.nm=false\/t.ix≠0
  ·rw[if_pos hb]
   refine⟨fun h=>absurd h hF,fun h=>?_⟩
   rcases hb with hb|hb
   ·rw[h.1]at hb;cases hb
   ·exact absurd h.2 hb
  ·rw[if_neg hb]
   refine⟨fun _=>⟨?_,?_⟩,fun _=>rfl⟩
   ·rw[<-Bool.not_eq_false];exact fun h=>hb (.inl h)
   ·exact Decidable.byContradiction fun h=>hb (.inr h)
mutual
theorem Of {eF eR:Int} (hF:eF≠0) (hR:eR≠0):∀t,gF eF eR t=0↔dE t=true
 | .mk n i xs=>by
  have U:dp eF eR (.mk n i xs)=0↔if n=[]then xs=[]/\0<=i/\i<1000 else dW n=true/\i=0:=Oa hF hR (.mk n i xs)
  have h2:=Be hF hR xs
  rw[gF,dE]
  by_cases hn:n=[]
  ·rw[if_pos hn]at U⊢
   rw[Bool.and_eq_true,Bool.and_eq_true,List.isEmpty_iff,decide_eq_true_iff,decide_eq_true_iff]
   by_cases h0:dp eF eR (.mk n i xs)=0
   ·rw[if_neg (by simpa using h0)]
    have h3:=U.1 h0
    rw[h3.1,cY];exact⟨fun _=>⟨rfl,h3.2⟩,fun _=>rfl⟩
   ·rw[if_pos h0]
    exact⟨fun h=>absurd h h0,fun h=>absurd (U.2 h) h0⟩
  ·rw[if_neg hn]at U⊢
   rw[Bool.and_eq_true,Bool.and_eq_true,beq_iff_eq,<-h2]
   by_cases h0:dp eF eR (.mk n i xs)=0
   ·rw[if_neg (by simpa using h0)]
    exact⟨fun h=>⟨U.1 h0,h⟩,fun h=>h.2⟩
   ·rw[if_pos h0]
    exact⟨fun h=>absurd h h0,fun h=>absurd (U.2 h.1) h0⟩
theorem Be {eF eR:Int} (hF:eF≠0) (hR:eR≠0):∀l,cY eF eR l=0↔cf l=true
 |[]=>by rw[cY,cf];simp
 |t::l=>by
  have U:=Of hF hR t
  have h2:=Be hF hR l
  rw[cY,cf,Bool.and_eq_true,<-U,<-h2]
  by_cases h0:gF eF eR t=0
  ·rw[if_neg (by simpa using h0)]
   exact⟨fun h=>⟨h0,h⟩,fun h=>h.2⟩
  ·rw[if_pos h0]
   exact⟨fun h=>absurd h h0,fun h=>absurd h.1 h0⟩
end
theorem Oc {eF eR:Int} (hF:eF≠0) (hR:eR≠0) (l:Lt):rY eF eR l=0↔ej l=true:=by
 have h2:=Be hF hR l.xs
 rw[rY,ej]
 by_cases hp:l.pd=[61]
 ·rw[if_pos hp,Bool.and_eq_true,decide_eq_true_iff,<-h2]
  by_cases hl:l.xs.length=2
  ·rw[if_neg (by rintro(h|h);exact h.1 hp;exact h.2 hl)]
   exact⟨fun h=>⟨hl,h⟩,fun h=>h.2⟩
  ·rw[if_pos (.inr ⟨hp,hl⟩)]
   exact⟨fun h=>absurd h hF,fun h=>absurd h.1 hl⟩
 ·rw[if_neg hp,Bool.and_eq_true,<-h2]
  by_cases hb:dW l.pd=false
  ·rw[if_pos (.inl ⟨hp,hb⟩)]
   exact⟨fun h=>absurd h hF,fun h=>by rw[hb]at h;cases h.1⟩
  ·rw[if_neg (by rintro(h|h);exact hb h.2;exact hp h.1)]
   exact⟨fun h=>⟨by simpa using hb,h⟩,fun h=>h.2⟩
theorem Gx {eF eR:Int} (hF:eF≠0) (hR:eR≠0):∀c,fM eF eR c=0↔c.all ej=true
 |[]=>by rw[fM];simp
 |l::c=>by
  have U:=Oc hF hR l
  have h2:=Gx hF hR c
  rw[fM,List.all_cons,Bool.and_eq_true,<-U,<-h2]
  by_cases h0:rY eF eR l=0
  ·rw[if_neg (by simpa using h0)]
   exact⟨fun h=>⟨h0,h⟩,fun h=>h.2⟩
  ·rw[if_pos h0]
   exact⟨fun h=>absurd h h0,fun h=>absurd h.1 h0⟩
theorem xN {eS eD eF eR:Int} (hS:eS≠0) (hD:eD≠0) (hF:eF≠0) (hR:eR≠0) (c:List Lt):
  aW eS eD eF eR c=0↔c.length<=40/\bC c<=4000/\cW c<=100/\c.all ej=true:=by
 rw[aW,<-Gx hF hR]
 by_cases U:40<c.length
 ·rw[if_pos U];exact⟨fun h=>absurd h hS,fun h=>by omega⟩
 ·rw[if_neg U]
  by_cases h2:4000<bC c
  ·rw[if_pos h2];exact⟨fun h=>absurd h hS,fun h=>by omega⟩
  ·rw[if_neg h2]
   by_cases h3:100<cW c
   ·rw[if_pos h3];exact⟨fun h=>absurd h hD,fun h=>by omega⟩
   ·rw[if_neg h3];exact⟨fun h=>⟨by omega,by omega,by omega,h⟩,fun h=>h.2.2.2⟩
def dX (a b:Lt):Bool:=(a.ng==b.ng&&a.pd==b.pd)&&kk a.xs b.xs
theorem DU (a b:Lt):dX a b=true↔a=b:=by
 rw[dX,Bool.and_eq_true,Bool.and_eq_true,beq_iff_eq,beq_iff_eq,A2]
 cases a;cases b
 simp only[Lt.mk.injEq,and_assoc]
def eO (p:List Lt):List Lt->List Lt
 |[]=>[]
 |x::r=>if p.any (dX x)then eO (p++[x]) r else x::eO (p++[x]) r
def dD (l:Lt):List UInt8:=iG true l
def j7 (x:Lt):List Lt->List Lt
 |[]=>[x]
 |y::o=>if dD x<dD y then x::y::o else y::j7 x o
def c_ (o:List Lt):List Lt->List Lt
 |[]=>o
 |x::r=>c_ (j7 x o) r
def ec (f:Int->Tm) (l:Lt):Lt:=⟨l.ng,l.pd,bf f l.xs⟩
def dN (c:List Lt):List Int:=c.flatMap fun l=>bM l.xs
def cO (o:List Int):List Int->List Int
 |[]=>o
 |v::l=>cO (if v∈o then o else o++[v]) l
def cQ (i:Int):Tm:= .mk [] i []
def g_ (c:List Lt):List Lt:=c_ [] (eO [] c)
def SR (c:List Lt) (v:Int):Tm:=cQ ((cO [] (dN c)).idxOf v:Nat)
def zu (c:List Lt):List Lt:=(g_ c).map (ec (SR (g_ c)))
theorem JM:∀(l o:List Int),∃r,cO o l=o++r
 |[],o=>⟨[],by rw[cO,List.append_nil]⟩
 |v::l,o=>by
  rw[cO]
  obtain⟨r,hr⟩:=JM l (if v∈o then o else o++[v])
  rw[hr]
  split
  ·exact⟨r,rfl⟩
  ·exact⟨v::r,by rw[List.append_assoc];rfl⟩
theorem zx:∀(l o:List Int),o.Nodup->(cO o l).Nodup
 |[],o,h=>h
 |w::l,o,h=>by
  rw[cO]
  refine zx l _ ?_
  split
  ·exact h
  ·rename_i hw
   rw[List.nodup_append]
   exact⟨h,by simp,fun a ha b hb e=>hw (by rw[List.mem_singleton]at hb;rw[<-hb,<-e];exact ha)⟩
mutual
theorem AB (f:Int->Tm):∀t:Tm,dE t=true->(∀v∈dG t,f v=cQ v)->aB f t=t
 | .mk n i xs,h,hv=>by
  rw[dE]at h
  rw[dG]at hv
  rw[aB]
  by_cases hn:n=[]
  ·rw[if_pos hn,Bool.and_eq_true,List.isEmpty_iff]at h
   rw[if_pos hn,hv i (by rw[if_pos hn];simp),h.1,hn];rfl
  ·rw[if_neg hn,Bool.and_eq_true,Bool.and_eq_true,beq_iff_eq]at h
   rw[if_neg hn,AD f xs h.2 fun v hm=>hv v (List.mem_append_right _ hm),h.1.2]
theorem AD (f:Int->Tm):∀l:List Tm,cf l=true->(∀v∈bM l,f v=cQ v)->bf f l=l
 |[],_,_=>by rw[bf]
 |t::l,h,hv=>by
  rw[cf,Bool.and_eq_true]at h
  rw[bM]at hv
  rw[bf,AB f t h.1 fun v hm=>hv v (List.mem_append_left _ hm),AD f l h.2 fun v hm=>hv v (List.mem_append_right _ hm)]
end
mutual
theorem tV (f g:Int->Tm):∀t:Tm,aB g (aB f t)=aB (fun v=>aB g (f v)) t
 | .mk n i xs=>by
  rw[aB,aB]
  by_cases hn:n=[]
  ·rw[if_pos hn,if_pos hn]
  ·rw[if_neg hn,if_neg hn,aB,if_neg hn,Fp f g xs]
theorem Fp (f g:Int->Tm):∀l:List Tm,bf g (bf f l)=bf (fun v=>aB g (f v)) l
 |[]=>by rw[bf,bf,bf]
 |t::l=>by rw[bf,bf,bf,tV f g t,Fp f g l]
end
theorem tW (g:Int->Tm) (v:Int):aB g (cQ v)=g v:=by rw[cQ,aB,if_pos rfl]
theorem Fs (f:Int->Tm) (l:List Tm):(bf f l).length=l.length:=by rw[h_,List.length_map]
theorem wg {l:Lt} (h:ej l=true):cf l.xs=true:=by
 rw[ej]at h
 split at h<;>(rw[Bool.and_eq_true]at h;exact h.2)
theorem LM (l:Lt) (c:List Lt):dN (l::c)=bM l.xs++dN c:=by rw[dN,List.flatMap_cons];rfl
theorem EX {p:List Lt} {x:Lt}:p.any (dX x)=true↔x∈p:=by
 rw[List.any_eq_true]
 constructor
 ·rintro⟨y,hy,e⟩
  rw[(DU x y).1 e];exact hy
 ·intro h;exact⟨x,h,(DU x x).2 rfl⟩
theorem rP:∀(c p:List Lt),(eO p c).Sublist c
 |[],p=>by rw[eO];exact List.Sublist.refl _
 |x::r,p=>by
  rw[eO]
  split
  ·exact(rP r _).cons x
  ·exact(rP r _).cons_cons x
theorem AK:∀(c p:List Lt),∀x∈c,x∈p\/x∈eO p c
 |[],p,x,h=>by cases h
 |y::r,p,x,h=>by
  rw[eO]
  split
  ·rename_i hy
   rcases List.mem_cons.1 h with rfl|h
   ·exact .inl (EX.1 hy)
   ·rcases AK r (p++[y]) x h with h|h
    ·rcases List.mem_append.1 h with h|h
     ·exact .inl h
     ·rw[List.mem_singleton]at h;exact .inl (h▸EX.1 hy)
    ·exact .inr h
  ·rcases List.mem_cons.1 h with rfl|h
   ·exact .inr (by simp)
   ·rcases AK r (p++[y]) x h with h|h
    ·rcases List.mem_append.1 h with h|h
     ·exact .inl h
     ·rw[List.mem_singleton]at h;exact .inr (by simp[h])
    ·exact .inr (by simp[h])
def kM (a b:Lt):Prop:=¬dD b<dD a
theorem IJ {a b c:Lt} (h:kM a b) (k:kM b c):kM a c:=by
 intro hc
 rcases zl (dD b) (dD c)with U|U|U
 ·exact h (List.lt_trans U hc)
 ·exact h (U▸hc)
 ·exact k U
theorem CN (x:Lt):∀o,(j7 x o).Perm (x::o)
 |[]=>List.Perm.refl _
 |y::o=>by
  rw[j7]
  split
  ·exact List.Perm.refl _
  ·exact((CN x o).cons y).trans (List.Perm.swap x y o)
theorem rj:∀(c o:List Lt),(c_ o c).Perm (o++c)
 |[],o=>by rw[c_,List.append_nil]
 |x::c,o=>by
  rw[c_]
  refine(rj c _).trans (((CN x o).append_right c).trans ?_)
  exact(List.perm_middle (a:=x) (l₁:=o) (l₂:=c)).symm
theorem Ix (x:Lt):∀o,o.Pairwise kM->(j7 x o).Pairwise kM
 |[],_=>List.pairwise_singleton _ _
 |y::o,h=>by
  rw[List.pairwise_cons]at h
  rw[j7]
  split
  ·rename_i hx
   have ff:kM x y:=fun h'=>List.lt_irrefl _ (List.lt_trans hx h')
   rw[List.pairwise_cons,List.pairwise_cons]
   exact⟨fun z hz=>(List.mem_cons.1 hz).elim (fun e=>e▸ff) fun hz=>IJ ff (h.1 z hz),h⟩
  ·rename_i hx
   rw[List.pairwise_cons]
   refine⟨fun z hz=>?_,Ix x o h.2⟩
   rcases List.mem_cons.1 ((CN x o).mem_iff.1 hz)with rfl|hz
   ·exact hx
   ·exact h.1 z hz
theorem KZ:∀(c o:List Lt),o.Pairwise kM->(c_ o c).Pairwise kM
 |[],o,h=>h
 |x::c,o,h=>KZ c _ (Ix x o h)
theorem JX {c:List Lt} {x:Lt}:x∈g_ c↔x∈c:=by
 rw[g_,(rj _ _).mem_iff,List.nil_append]
 constructor
 ·exact fun h=>(rP c []).subset h
 ·intro h
  rcases AK c [] x h with h|h
  ·cases h
  ·exact h
abbrev Bd:=List (Int×Tm)
def dh:Bd->Int->Option Tm
 |[],_=>none
 |b::m,v=>if b.1=v then some b.2 else dh m v
mutual
def bT:Tm->Tm->Bd->Bd×Bool
 | .mk n i xs,t,m=>if n=[]then(match dh m i with
   |some x=>(m,cX x t)
   |none=>(m++[(i,t)],true))
  else if n≠t.nm\/xs.length≠t.xs.length then(m,false)else b9 xs t.xs m
def b9:List Tm->List Tm->Bd->Bd×Bool
 |a::l,b::k,m=>if(bT a b m).2 then b9 l k (bT a b m).1 else bT a b m
 |_,_,m=>(m,true)
end
def lJ (m:Bd) (f:Int->Tm):Prop:=∀b∈m,f b.1=b.2
theorem zc:∀{m:Bd} {v:Int} {x:Tm},dh m v=some x->(v,x)∈m
 |[],_,_,h=>by cases h
 |b::m,v,x,h=>by
  rw[dh]at h
  split at h
  ·rename_i e
   simp only[Option.some.injEq]at h
   rw[<-e,<-h];simp
  ·exact List.mem_cons_of_mem _ (zc h)
theorem IS:∀{m:Bd} {v:Int},dh m v=none->∀b∈m,b.1≠v
 |[],_,_,b,h=>by cases h
 |c::m,v,h,b,hb=>by
  rw[dh]at h
  split at h
  ·cases h
  ·rename_i e
   rcases List.mem_cons.1 hb with rfl|hb
   ·exact e
   ·exact IS h b hb
def eW (m m':Bd):Prop:=(∃r,m'=m++r)/\((m.map (·.1)).Nodup->(m'.map (·.1)).Nodup)
theorem eW.rfl' (m:Bd):eW m m:=⟨⟨[],by rw[List.append_nil]⟩,id⟩
theorem eW.trans {a b c:Bd} (h:eW a b) (k:eW b c):eW a c:=by
 obtain⟨⟨r,rfl⟩,h2⟩:=h
 obtain⟨⟨q,rfl⟩,k2⟩:=k
 exact⟨⟨r++q,by rw[List.append_assoc]⟩,fun h=>k2 (h2 h)⟩
theorem eW.EU {m m':Bd} (h:eW m m') {f:Int->Tm} (k:lJ m' f):lJ m f:=by
 obtain⟨⟨r,rfl⟩,_⟩:=h
 exact fun b hb=>k b (List.mem_append_left _ hb)
mutual
theorem zo:∀(p t:Tm) (m:Bd),eW m (bT p t m).1
 | .mk n i xs,t,m=>by
  rw[bT]
  by_cases hn:n=[]
  ·rw[if_pos hn]
   cases hl:dh m i with
   |some x=>exact eW.rfl' m
   |none=>
    refine⟨⟨[(i,t)],rfl⟩,fun h=>?_⟩
    show((m++[(i,t)]).map (·.1)).Nodup
    rw[List.map_append,List.nodup_append]
    refine⟨h,by simp,fun a ha b hb e=>?_⟩
    simp only[List.map_cons,List.map_nil,List.mem_singleton]at hb
    obtain⟨c,hc,rfl⟩:=List.mem_map.1 ha
    exact IS hl c hc (e.trans hb)
  ·rw[if_neg hn]
   split
   ·exact eW.rfl' m
   ·exact wa xs t.xs m
theorem wa:∀(l k:List Tm) (m:Bd),eW m (b9 l k m).1
 |[],k,m=>by rw[b9];exact eW.rfl' m;simp
 |_::_,[],m=>by rw[b9];exact eW.rfl' m;simp
 |a::l,b::k,m=>by
  rw[b9]
  split
  ·exact(zo a b m).trans (wa l k _)
  ·exact zo a b m
end
mutual
theorem RY:∀(p t:Tm) (m:Bd) (f:Int->Tm),dE p=true->dE t=true->(bT p t m).2=true->lJ (bT p t m).1 f->aB f p=t
 | .mk n i xs,t,m,f,hp,ht,h,hf=>by
  rw[dE]at hp
  rw[bT]at h hf
  rw[aB]
  by_cases hn:n=[]
  ·rw[if_pos hn]at h hf⊢
   revert h hf
   cases hl:dh m i with
   |some x=>
    intro h hf
    rw[<-(x5 x t).1 h]
    exact hf _ (zc hl)
   |none=>
    intro h hf
    exact hf (i,t) (by simp)
  ·rw[if_neg hn]at h hf hp⊢
   rw[Bool.and_eq_true,Bool.and_eq_true,beq_iff_eq]at hp
   by_cases hc:n≠t.nm\/xs.length≠t.xs.length
   ·rw[if_pos hc]at h;cases h
   ·rw[if_neg hc]at h hf
    have pg:n=t.nm:=Decidable.byContradiction fun e=>hc (.inl e)
    have r8:xs.length=t.xs.length:=Decidable.byContradiction fun e=>hc (.inr e)
    rw[s6,if_neg (pg▸hn),Bool.and_eq_true,Bool.and_eq_true,beq_iff_eq]at ht
    rw[Dt xs t.xs m f r8 hp.2 ht.2 h hf]
    cases t
    simp only[Tm.nm,Tm.xs,Tm.ix]at pg ht⊢
    rw[pg,ht.1.2]
theorem Dt:∀(l k:List Tm) (m:Bd) (f:Int->Tm),l.length=k.length->cf l=true->cf k=true->(b9 l k m).2=true->lJ (b9 l k m).1 f->bf f l=k
 |[],[],m,f,_,_,_,_,_=>by rw[bf]
 |[],_::_,m,f,h,_,_,_,_=>by simp at h
 |_::_,[],m,f,h,_,_,_,_=>by simp at h
 |a::l,b::k,m,f,hl,hp,hk,h,hf=>by
  rw[cf,Bool.and_eq_true]at hp hk
  rw[b9]at h hf
  by_cases U:(bT a b m).2=true
  ·rw[if_pos U]at h hf
   rw[bf,RY a b m f hp.1 hk.1 U ((wa l k _).EU hf),Dt l k _ f (by simpa using hl) hp.2 hk.2 h hf]
  ·rw[if_neg U]at h
   exact absurd h U
end
mutual
theorem RV:∀(p t:Tm) (m:Bd) (f:Int->Tm),lJ m f->aB f p=t->(bT p t m).2=true/\lJ (bT p t m).1 f
 | .mk n i xs,t,m,f,hm,h=>by
  rw[aB]at h
  rw[bT]
  by_cases hn:n=[]
  ·rw[if_pos hn]at h⊢
   cases hl:dh m i with
   |some x=>
    have:=hm _ (zc hl)
    exact⟨(x5 x t).2 (this.symm.trans h),hm⟩
   |none=>
    refine⟨rfl,fun b hb=>?_⟩
    rcases List.mem_append.1 hb with hb|hb
    ·exact hm b hb
    ·rw[List.mem_singleton]at hb;rw[hb];exact h
  ·rw[if_neg hn]at h⊢
   subst h
   rw[if_neg (by rintro(h|h);exact h rfl;exact h (Fs f xs).symm)]
   exact Dp xs (bf f xs) m f hm rfl
theorem Dp:∀(l k:List Tm) (m:Bd) (f:Int->Tm),lJ m f->bf f l=k->(b9 l k m).2=true/\lJ (b9 l k m).1 f
 |[],k,m,f,hm,_=>by rw[b9];exact⟨rfl,hm⟩;simp
 |a::l,k,m,f,hm,h=>by
  rw[bf]at h
  subst h
  obtain⟨U,h2⟩:=RV a (aB f a) m f hm rfl
  rw[b9,if_pos U]
  exact Dp l _ _ f h2 rfl
end
def ke (x y:Lt):Bool:=(x.ng==y.ng&&x.pd==y.pd)&&decide (x.xs.length=y.xs.length)
def bW:List Lt->List Lt->Bd->Option Bd
 |[],_,m=>some m
 |x::c,d,m=>d.findSome? fun y=>if ke x y=true/\(b9 x.xs y.xs m).2=true then bW c d (b9 x.xs y.xs m).1 else none
theorem xq {x y:Lt}:ke x y=true↔x.ng=y.ng/\x.pd=y.pd/\x.xs.length=y.xs.length:=by
 rw[ke,Bool.and_eq_true,Bool.and_eq_true,beq_iff_eq,beq_iff_eq,decide_eq_true_iff,and_assoc]
theorem wx:∀(c d:List Lt) (m m':Bd),bW c d m=some m'->eW m m'
 |[],d,m,m',h=>by rw[bW]at h;simp only[Option.some.injEq]at h;exact h▸eW.rfl' m
 |x::c,d,m,m',h=>by
  rw[bW]at h
  obtain⟨y,_,hy⟩:=List.exists_of_findSome?_eq_some h
  split at hy
  ·exact(wa _ _ _).trans (wx c d _ m' hy)
  ·cases hy
theorem KF:∀(c d:List Lt) (m m':Bd) (f:Int->Tm),c.all ej=true->d.all ej=true->bW c d m=some m'->lJ m' f->∀x∈c,ec f x∈d
 |[],d,m,m',f,_,_,_,_,x,hx=>by cases hx
 |z::c,d,m,m',f,hc,hd,h,hf,x,hx=>by
  rw[List.all_cons,Bool.and_eq_true]at hc
  rw[bW]at h
  obtain⟨y,fg,hy⟩:=List.exists_of_findSome?_eq_some h
  split at hy
  ·rename_i H9
   rcases List.mem_cons.1 hx with rfl|hx
   ·obtain⟨a1,a2,a3⟩:=xq.1 H9.1
    have sF:=List.all_eq_true.1 hd y fg
    have:=Dt x.xs y.xs m f a3 (wg hc.1) (wg sF) H9.2 ((wx c d _ m' hy).EU hf)
    rw[ec,this,a1,a2];exact fg
   ·exact KF c d _ m' f hc.2 hd hy hf x hx
  ·cases hy
theorem KE:∀(c d:List Lt) (m:Bd) (f:Int->Tm),lJ m f->(∀x∈c,ec f x∈d)->(bW c d m).isSome=true
 |[],d,m,f,_,_=>rfl
 |z::c,d,m,f,hm,h=>by
  rw[bW,List.findSome?_isSome_iff]
  refine⟨ec f z,h z (by simp),?_⟩
  obtain⟨U,h2⟩:=Dp z.xs (bf f z.xs) m f hm rfl
  have e:(ec f z).xs=bf f z.xs:=rfl
  rw[e,if_pos ⟨xq.2 ⟨rfl,rfl,by rw[e,Fs]⟩,U⟩]
  exact KE c d _ f h2 fun x hx=>h x (by simp[hx])
theorem Ta {c:List Lt} (h:c.all ej=true):(bW c c []).isSome=true:=by
 refine KE c c [] cQ (fun b hb=>by cases hb) fun x hx=>?_
 obtain⟨ng,pd,xs⟩:=x
 show(⟨ng,pd,bf cQ xs⟩:Lt)∈c
 rw[AD cQ xs (wg (List.all_eq_true.1 h _ hx)) fun v _=>rfl];exact hx
section
variable {α:Type} (key:α->List UInt8)
def tx (a b:α):Prop:=¬key b<key a
def q8 (k:List UInt8) (l:List α):List α:=l.filter fun x=>key x==k
def qe (l m:List α):Prop:=m.Pairwise (tx key)/\∀k,q8 key k m=q8 key k l
theorem tx.trans {a b c:α} (h:tx key a b) (k:tx key b c):tx key a c:=by
 intro hc
 rcases zl (key b) (key c)with U|U|U
 ·exact h (List.lt_trans U hc)
 ·exact h (U▸hc)
 ·exact k U
theorem JQ (k:List UInt8) (l m:List α):q8 key k (l++m)=q8 key k l++q8 key k m:=List.filter_append ..
theorem qe.congr {l l' m:List α} (h:qe key l m) (e:∀k,q8 key k l=q8 key k l'):qe key l' m:=⟨h.1,fun k=>(h.2 k).trans (e k)⟩
theorem qe.append {l m p q:List α} (h:qe key l m) (k:qe key (m++p) q):qe key (l++p) q:=
 ⟨k.1,fun x=>by rw[k.2,JQ,JQ,h.2]⟩
end
def bo (l:Bd) (v:Int):Tm:=(dh l v).getD (cQ v)
mutual
def jT (w:Int->Nat):Tm->Nat
 | .mk n i xs=>if n=[]then w i else fP w 1 xs
def fP (w:Int->Nat) (a:Nat):List Tm->Nat
 |[]=>a
 |t::l=>fP w (min (a+jT w t) 4001) l
end
mutual
def jS (w:Int->Nat):Tm->Nat
 | .mk n i xs=>if n=[]then w i else fO w 1 xs
def fO (w:Int->Nat) (a:Nat):List Tm->Nat
 |[]=>a
 |t::l=>fO w (max a (jS w t+1)) l
end
mutual
theorem GW (f:Int->Tm) (w:Int->Nat):∀t:Tm,(∀v∈dG t,w v=wT (f v)/\w v<=4001)->jT w t=min (wT (aB f t)) 4001
 | .mk n i xs,h=>by
  rw[dG]at h
  rw[jT,aB]
  by_cases hn:n=[]
  ·rw[if_pos hn]at h⊢
   rw[if_pos hn]
   have:=h i (by simp)
   rw[<-this.1];omega
  ·rw[if_neg hn]at h⊢
   rw[if_neg hn,wT]
   exact GZ f w 1 xs (fun v hv=>h v (by simpa using hv)) (by omega)
theorem GZ (f:Int->Tm) (w:Int->Nat):∀(a:Nat) (l:List Tm),(∀v∈bM l,w v=wT (f v)/\w v<=4001)->a<=4001->fP w a l=min (a+aw (bf f l)) 4001
 |a,[],_,ha=>by rw[fP,bf,aw];omega
 |a,t::l,h,ha=>by
  rw[bM]at h
  rw[fP,bf,aw,GW f w t fun v hv=>h v (List.mem_append_left _ hv),GZ f w _ l (fun v hv=>h v (List.mem_append_right _ hv)) (by omega)]
  omega
end
mutual
theorem GR (f:Int->Tm) (w:Int->Nat):∀t:Tm,(∀v∈dG t,w v=cG (f v))->jS w t=cG (aB f t)
 | .mk n i xs,h=>by
  rw[dG]at h
  rw[jS,aB]
  by_cases hn:n=[]
  ·rw[if_pos hn]at h⊢
   rw[if_pos hn,h i (by simp)]
  ·rw[if_neg hn]at h⊢
   rw[if_neg hn,cG,GU f w 1 xs fun v hv=>h v (by simpa using hv)]
   by_cases hl:xs=[]
   ·subst hl;rw[if_pos rfl,bf,dm];rfl
   ·rw[if_neg hl];omega
theorem GU (f:Int->Tm) (w:Int->Nat):∀(a:Nat) (l:List Tm),(∀v∈bM l,w v=cG (f v))->fO w a l=max a (if l=[]then 0 else 1+dm (bf f l))
 |a,[],_=>by rw[fO,if_pos rfl];omega
 |a,t::l,h=>by
  rw[bM]at h
  rw[fO,if_neg (by simp),bf,dm,GR f w t fun v hv=>h v (List.mem_append_left _ hv),GU f w _ l fun v hv=>h v (List.mem_append_right _ hv)]
  by_cases hl:l=[]
  ·subst hl;rw[if_pos rfl,bf,dm];omega
  ·rw[if_neg hl];omega
end
def ct (f:Int->Tm) (c:List Lt):List Lt:=c.map (ec f)
def lL (c:List Lt):Bool:=decide (4000<bC c)||decide (100<cW c)
theorem iB (l:Lt) (c:List Lt):bC (l::c)=1+aw l.xs+bC c:=by rw[bC,List.map_cons,List.sum_cons];rfl
theorem Er:∀(l:List Tm),l.length<=aw l
 |[]=>Nat.zero_le _
 |t::l=>by rw[aw,List.length_cons];have:=Ep t;have:=Er l;omega
theorem zq:∀(c:List Lt) (l:Lt),l∈c->jE l<=bC c
 |[],_,h=>by cases h
 |m::c,l,h=>by
  rw[iB]
  rcases List.mem_cons.1 h with rfl|h
  ·rw[jE];omega
  ·have:=zq c l h;omega
theorem R0 {a b:List Lt} (h:a.Perm b):bC a=bC b:=(h.map jE).sum_nat
theorem Jv {a b:List Lt} (h:a.Sublist b):bC a<=bC b:=by
 induction h with
 |slnil=>exact Nat.le_refl _
 |cons a _ ih=>rw[iB];omega
 |cons_cons a _ ih=>rw[iB,iB];omega
def tB (s t:Tm) (f:Int->Tm):Prop:=aB f s=aB f t
structure UN (s t:Tm) (f:Int->Tm):Prop where
 u:tB s t f
 m:∀g,tB s t g->∀v,aB g (f v)=g v
 r:∀v,(f v).nm=[]->(f v).ix<=v
 l:∀v,Lf (f v)
theorem Lf.var {t:Tm} (h:Lf t) (hn:t.nm=[]):t=cQ t.ix:=by
 obtain⟨_,hx,_,_⟩:=h
 cases t
 simp only[Tm.nm,Tm.xs,Tm.ix]at hn hx⊢
 rw[cQ,hn,hx hn]
theorem Lf.args {t:Tm} (h:Lf t):∀a∈t.xs,Lf a:=by obtain⟨_,_,_,k⟩:=h;exact k
theorem Lf.zero {t:Tm} (h:Lf t) (hn:t.nm≠[]):t.ix=0:=by obtain⟨_,_,k,_⟩:=h;exact k hn
theorem Ai (v:Int):Lf (cQ v):=⟨_,fun _=>rfl,fun h=>absurd rfl h,fun a ha=>by cases ha⟩
theorem Fo (f:Int->Tm) {t:Tm} (h:t.nm≠[]):(aB f t).nm=t.nm/\(aB f t).xs=bf f t.xs/\(aB f t).ix=0:=by
 rw[nJ,if_neg h];exact⟨rfl,rfl,rfl⟩
def rF (l:Bd) (g:Int->Tm):Prop:=∀b∈l,aB g b.2=g b.1
structure nB (l:Bd) (f:Int->Tm):Prop where
 s:rF l f
 m:∀g,rF l g->∀v,aB g (f v)=g v
 r:∀v,(f v).nm=[]->(f v).ix<=v
 lf:∀v,Lf (f v)
 b:∀v,f v≠cQ v↔∃x,(v,x)∈l
theorem nB.nil:nB [] cQ:=by
 refine⟨fun b h=>?_,fun g _ v=>tW g v,fun v _=>Int.le_refl _,Ai,fun v=>⟨fun h=>absurd rfl h,?_⟩⟩
 ·cases h
 ·rintro⟨x,h⟩;cases h
theorem nB.idem {l:Bd} {f:Int->Tm} (h:nB l f) (v:Int):aB f (f v)=f v:=h.m f h.s v
theorem nB.under {l:Bd} {f g:Int->Tm} (h:nB l f) (hg:rF l g) (t:Tm):aB g (aB f t)=aB g t:=by
 rw[tV,show(fun v=>aB g (f v))=g from funext (h.m g hg)]
def mj (v:Int) (t:Tm) (w:Int):Tm:=if w=v then t else cQ w
theorem wh (v:Int) (t:Tm):mj v t v=t:=if_pos rfl
theorem s7 {v w:Int} (t:Tm) (h:w≠v):mj v t w=cQ w:=if_neg h
mutual
theorem Fm (f:Int->Tm):∀t:Tm,Lf t->(∀v∈dG t,f v=cQ v)->aB f t=t
 | .mk n i xs,h,hv=>by
  rw[dG]at hv
  rw[aB]
  have h0:=h.zero
  have hk:=h.args
  by_cases hn:n=[]
  ·rw[if_pos hn]at hv⊢
   rw[hv i (by simp)];exact(h.var hn).symm
  ·rw[if_neg hn]at hv⊢
   rw[Fq f xs hk fun v hm=>hv v (by simpa using hm),show i=0 from h0 hn]
theorem Fq (f:Int->Tm):∀l:List Tm,(∀a∈l,Lf a)->(∀v∈bM l,f v=cQ v)->bf f l=l
 |[],_,_=>by rw[bf]
 |t::l,h,hv=>by
  rw[bM]at hv
  rw[bf,Fm f t (h t (by simp)) fun v hm=>hv v (List.mem_append_left _ hm),Fq f l (fun a ha=>h a (by simp[ha])) fun v hm=>hv v (List.mem_append_right _ hm)]
end
theorem ED {f:Int->Tm} (hf:∀v,Lf (f v)) {t:Tm} (h:Lf t):Lf (aB f t):=by
 induction h with
 |mk t hx h0 k ih=>
  rw[nJ]
  by_cases hn:t.nm=[]
  ·rw[if_pos hn];exact hf _
  ·rw[if_neg hn]
   refine⟨_,fun h=>absurd h hn,fun _=>rfl,fun a ha=>?_⟩
   rw[show(Tm.mk t.nm 0 (bf f t.xs)).xs=bf f t.xs from rfl,h_]at ha
   obtain⟨b,hb,rfl⟩:=List.mem_map.1 ha
   exact ih b hb
theorem nB.bind {l:Bd} {f:Int->Tm} (h:nB l f) {v:Int} {t:Tm} (hv:f v=cQ v) (ht:Lf t) (ho:v∉dG (aB f t))
  (hr:(aB f t).nm=[]->(aB f t).ix<v):nB (l++[(v,t)]) (fun w=>aB (mj v (aB f t)) (f w)):=by
 have hl:Lf (aB f t):=ED h.lf ht
 have hk:aB (mj v (aB f t)) (aB f t)=aB f t:=Fm _ _ hl fun w hw=>s7 _ fun e=>ho (e▸hw)
 have sd:aB (mj v (aB f t)) (f v)=aB f t:=by rw[hv,tW,wh]
 have kA:∀w,Lf (mj v (aB f t) w):=fun w=>by
  by_cases e:w=v
  ·rw[e,wh];exact hl
  ·rw[s7 _ e];exact Ai w
 refine⟨fun b hb=>?_,fun g hg w=>?_,fun w hw=>?_,fun w=>ED kA (h.lf w),fun w=>?_⟩
 ·rcases List.mem_append.1 hb with hb|hb
  ·have:=h.s b hb
   rw[<-tV,this]
  ·rw[List.mem_singleton]at hb
   rw[hb]
   show aB _ t=aB _ (f v)
   rw[<-tV,hk,sd]
 ·have lZ:rF l g:=fun b hb=>hg b (List.mem_append_left _ hb)
  have uL:aB g t=g v:=hg (v,t) (by simp)
  have e:(fun u=>aB g (mj v (aB f t) u))=g:=funext fun u=>by
   by_cases e:u=v
   ·rw[e,wh,h.under lZ,uL]
   ·rw[s7 _ e,tW]
  show aB g (aB _ (f w))=_
  rw[tV,e,h.m g lZ]
 ·have vu:(aB (mj v (aB f t)) (f w)).nm=[]:=hw
  show(aB (mj v (aB f t)) (f w)).ix<=w
  have hn:(f w).nm=[]:=by
   by_cases e:(f w).nm=[]
   ·exact e
   ·rw[(Fo _ e).1]at vu;exact vu
  have U:=h.r w hn
  rw[nJ,if_pos hn]at vu⊢
  by_cases e:(f w).ix=v
  ·rw[e,wh]at vu⊢
   have:=hr vu
   omega
  ·rw[s7 _ e];exact U
 ·show aB (mj v (aB f t)) (f w)≠cQ w↔_
  constructor
  ·intro aR
   by_cases e:f w=cQ w
   ·rw[e,tW]at aR
    by_cases e2:w=v
    ·exact⟨t,by simp[e2]⟩
    ·exact absurd (s7 _ e2) aR
   ·obtain⟨x,hx⟩:=(h.b w).1 e
    exact⟨x,List.mem_append_left _ hx⟩
  ·rintro⟨x,hx⟩ e
   rcases List.mem_append.1 hx with hx|hx
   ·have aR:=(h.b w).2 ⟨x,hx⟩
    have hn:(f w).nm=[]:=by
     by_cases e3:(f w).nm=[]
     ·exact e3
     ·have:=(Fo (mj v (aB f t)) e3).1
      rw[e]at this;exact this.symm
    have yw:=(h.lf w).var hn
    have Ws:=h.idem w
    rw[yw,tW]at e
    by_cases e4:(f w).ix=v
    ·rw[e4,wh]at e
     have h5:=hr (by rw[e];rfl)
     rw[e]at h5
     have h6:=h.r w hn
     rw[e4]at h6
     have:(cQ w).ix=w:=rfl
     omega
    ·rw[s7 _ e4]at e
     exact aR (yw.trans e)
   ·rw[List.mem_singleton,Prod.mk.injEq]at hx
    obtain⟨rfl,rfl⟩:=hx
    rw[sd]at e
    exact ho (by rw[e,cQ,dG,if_pos rfl];simp)
theorem rF.nil (g:Int->Tm):rF [] g:=fun b h=>by cases h
theorem tB.fn {s t:Tm} {g:Int->Tm} (hs:s.nm≠[]) (ht:t.nm≠[]):tB s t g↔s.nm=t.nm/\bf g s.xs=bf g t.xs:=by
 rw[tB,nJ,nJ g t,if_neg hs,if_neg ht,Tm.mk.injEq]
 exact⟨fun h=>⟨h.1,h.2.2⟩,fun h=>⟨h.1,rfl,h.2⟩⟩
theorem KX:∀(l m:List Int),l.Pairwise (·<·)->m.Pairwise (·<·)->(∀v,v∈l↔v∈m)->l=m
 |[],[],_,_,_=>rfl
 |[],b::m,_,_,h=>by have:=(h b).2 (by simp);cases this
 |a::l,[],_,_,h=>by have:=(h a).1 (by simp);cases this
 |a::l,b::m,hl,hm,h=>by
  rw[List.pairwise_cons]at hl hm
  have U:a∈b::m:=(h a).1 (by simp)
  have h2:b∈a::l:=(h b).2 (by simp)
  have e:a=b:=by
   rcases List.mem_cons.1 U with U|U
   ·exact U
   ·rcases List.mem_cons.1 h2 with h2|h2
    ·exact h2.symm
    ·have:=hm.1 a U;have:=hl.1 b h2;omega
  subst e
  rw[KX l m hl.2 hm.2]
  intro v
  constructor
  ·intro hv
   rcases List.mem_cons.1 ((h v).1 (by simp[hv]))with e|ju
   ·have:=hl.1 v hv;omega
   ·exact ju
  ·intro hv
   rcases List.mem_cons.1 ((h v).2 (by simp[hv]))with e|ju
   ·have:=hm.1 v hv;omega
   ·exact ju
def jz (b:Int×Tm):Bd->Bd
 |[]=>[b]
 |c::o=>if b.1<c.1 then b::c::o else c::jz b o
def bF (o:Bd):Bd->Bd
 |[]=>o
 |b::l=>bF (jz b o) l
theorem y4 (b:Int×Tm):∀o,(jz b o).Perm (b::o)
 |[]=>List.Perm.refl _
 |c::o=>by
  rw[jz]
  split
  ·exact List.Perm.refl _
  ·exact((y4 b o).cons c).trans (List.Perm.swap b c o)
theorem ti:∀(l o:Bd),(bF o l).Perm (o++l)
 |[],o=>by rw[bF,List.append_nil]
 |b::l,o=>by
  rw[bF]
  exact(ti l _).trans (((y4 b o).append_right l).trans (List.perm_middle (a:=b) (l₁:=o) (l₂:=l)).symm)
theorem Iw (b:Int×Tm):∀o:Bd,o.Pairwise (fun x y=>x.1<y.1)->(∀c∈o,c.1≠b.1)->(jz b o).Pairwise (fun x y=>x.1<y.1)
 |[],_,_=>List.pairwise_singleton _ _
 |c::o,h,hn=>by
  rw[List.pairwise_cons]at h
  rw[jz]
  split
  ·rename_i hx
   rw[List.pairwise_cons,List.pairwise_cons]
   exact⟨fun z hz=>(List.mem_cons.1 hz).elim (fun e=>e▸hx) fun hz=>by have:=h.1 z hz;omega,h⟩
  ·rename_i hx
   rw[List.pairwise_cons]
   refine⟨fun z hz=>?_,Iw b o h.2 fun d hd=>hn d (by simp[hd])⟩
   rcases List.mem_cons.1 ((y4 b o).mem_iff.1 hz)with rfl|hz
   ·have:=hn c (by simp);omega
   ·exact h.1 z hz
theorem D2:∀(l o:Bd),((o++l).map (·.1)).Nodup->o.Pairwise (fun x y=>x.1<y.1)->(bF o l).Pairwise (fun x y=>x.1<y.1)
 |[],o,_,h=>h
 |b::l,o,hn,h=>by
  have hp:(o++b::l).Perm (jz b o++l):=(List.perm_middle (a:=b) (l₁:=o) (l₂:=l)).trans (((y4 b o).symm).append_right l)
  have jk:=(hp.map (·.1)).nodup hn
  rw[bF]
  refine D2 l _ jk (Iw b o h fun c hc e=>?_)
  rw[List.map_append,List.nodup_append]at hn
  exact hn.2.2 c.1 (List.mem_map_of_mem hc) b.1 (by simp) e
theorem FK:∀(c p:List Lt) (x:Lt),eO p (c++[x])=eO p c++(if(p++c).any (dX x)then[]else[x])
 |[],p,x=>by
  rw[List.nil_append,List.append_nil,eO,eO,eO,List.nil_append]
 |y::c,p,x=>by
  rw[List.cons_append,eO,eO,FK c,List.append_assoc]
  split<;>rfl
theorem KY:∀(c o:List Lt) (x:Lt),c_ o (c++[x])=j7 x (c_ o c)
 |[],o,x=>rfl
 |y::c,o,x=>by rw[List.cons_append,c_,c_,KY c]
theorem CM:∀(o1 o2:List Lt) (x:Lt),(o1++o2).Pairwise kM->(∀y∈o2,dD x<dD y)->(∀y,o1.getLast?=some y->kM y x)->j7 x (o1++o2)=o1++x::o2
 |[],[],x,_,_,_=>rfl
 |[],y::o2,x,_,h,_=>by rw[List.nil_append,j7,if_pos (h y (by simp))];rfl
 |z::o1,o2,x,hp,h,hl=>by
  rw[List.cons_append,List.pairwise_cons]at hp
  have hz:kM z x:=by
   cases o1 with
   |nil=>exact hl z rfl
   |cons w o1=>
    have B1:∃y,(w::o1).getLast?=some y/\y∈w::o1:=by
     refine⟨(w::o1).getLast (by simp),List.getLast?_eq_some_getLast (by simp),List.getLast_mem (by simp)⟩
    obtain⟨y,e,hy⟩:=B1
    have U:kM y x:=hl y (by rw[List.getLast?_cons_cons];exact e)
    exact IJ (hp.1 y (List.mem_append_left _ hy)) U
  rw[List.cons_append,j7,if_neg hz,CM o1 o2 x hp.2 h fun y hy=>?_]
  ·rfl
  ·cases o1 with
   |nil=>cases hy
   |cons w o1=>exact hl y (by rw[List.getLast?_cons_cons];exact hy)
end Go.Proofs.YtpfohmboflcneaaGreatDoor
end
section
namespace Go.Proofs.YtpfohmboflcneaaGreatDoor
open Go
set_option maxHeartbeats 1000000
structure Nd where
 nm:List UInt8
 num:Int
 ks:List Nat
inductive hQ (rt:Nat->Nat) (D:List (Nat×Nat)):Nat->Nat->Prop
 |rt {a b:Nat}:rt a=rt b->hQ rt D a b
 |pr {a b:Nat}:(a,b)∈D->hQ rt D a b
 |symm {a b:Nat}:hQ rt D a b->hQ rt D b a
 |trans {a b c:Nat}:hQ rt D a b->hQ rt D b c->hQ rt D a c
theorem hQ.mono {r r':Nat->Nat} {D D':List (Nat×Nat)} (U:∀a b,r a=r b->hQ r' D' a b) (h2:∀p∈D,hQ r' D' p.1 p.2) {a b:Nat} (h:hQ r D a b):hQ r' D' a b:=by
 induction h with
 |rt h=>exact U _ _ h
 |pr h=>exact h2 _ h
 |symm _ ih=>exact ih.symm
 |trans _ _ i1 i2=>exact i1.trans i2
theorem hQ.nil {r:Nat->Nat} {a b:Nat} (h:hQ r [] a b):r a=r b:=by
 induction h with
 |rt h=>exact h
 |pr h=>cases h
 |symm _ ih=>exact ih.symm
 |trans _ _ i1 i2=>exact i1.trans i2
def d_ (rt:Nat->Nat) (D:List (Nat×Nat)):List Nat->List Nat->Prop
 |[],[]=>True
 |a::l,b::m=>hQ rt D a b/\d_ rt D l m
 |_,_=>False
theorem d_.mono {r r':Nat->Nat} {D D':List (Nat×Nat)} (U:∀a b,r a=r b->hQ r' D' a b) (h2:∀p∈D,hQ r' D' p.1 p.2):∀{l m:List Nat},d_ r D l m->d_ r' D' l m
 |[],[],_=>trivial
 |a::l,b::m,h=>⟨h.1.mono U h2,d_.mono U h2 h.2⟩
 |[],_::_,h=>h.elim
 |_::_,[],h=>h.elim
theorem d_.symm {r:Nat->Nat} {D:List (Nat×Nat)}:∀{l m:List Nat},d_ r D l m->d_ r D m l
 |[],[],_=>trivial
 |a::l,b::m,h=>⟨h.1.symm,d_.symm h.2⟩
 |[],_::_,h=>h.elim
 |_::_,[],h=>h.elim
theorem d_.trans {r:Nat->Nat} {D:List (Nat×Nat)}:∀{l m k:List Nat},d_ r D l m->d_ r D m k->d_ r D l k
 |[],[],[],_,_=>trivial
 |a::l,b::m,c::k,h,g=>⟨h.1.trans g.1,d_.trans h.2 g.2⟩
 |[],[],_::_,_,g=>g.elim
 |[],_::_,_,h,_=>h.elim
 |_::_,[],_,h,_=>h.elim
 |_::_,_::_,[],_,g=>g.elim
theorem d_.refl {r:Nat->Nat} {D:List (Nat×Nat)}:∀l:List Nat,d_ r D l l
 |[]=>trivial
 |_::l=>⟨.rt rfl,d_.refl l⟩
theorem d_.zip {r:Nat->Nat} {D:List (Nat×Nat)}:∀{l m:List Nat},l.length=m.length->(∀p∈l.zip m,p∈D)->d_ r D l m
 |[],[],_,_=>trivial
 |a::l,b::m,h,k=>⟨.pr (k (a,b) (by simp)),d_.zip (by simpa using h) fun p hp=>k p (by simp[hp])⟩
 |[],_::_,h,_=>by simp at h
 |_::_,[],h,_=>by simp at h
theorem d_.nil {r:Nat->Nat}:∀{l m:List Nat},d_ r [] l m->l.map r=m.map r
 |[],[],_=>rfl
 |a::l,b::m,h=>by rw[List.map_cons,List.map_cons,h.1.nil,d_.nil h.2]
 |[],_::_,h=>h.elim
 |_::_,[],h=>h.elim
structure Good (cl:Nat->Nd) (rt:Nat->Nat) (D:List (Nat×Nat)):Prop where
 i:∀a,rt (rt a)=rt a
 v:∀a,(cl (rt a)).nm=[]->(cl a).nm=[]/\(cl (rt a)).num<=(cl a).num
 f:∀a b,rt a=rt b->(cl a).nm≠[]->(cl b).nm≠[]->(cl a).nm=(cl b).nm/\d_ rt D (cl a).ks (cl b).ks
def eT (rt:Nat->Nat) (x y:Nat) (c:Nat):Nat:=if rt c=x then y else rt c
theorem Jq {rt:Nat->Nat} {x y a b:Nat} (h:rt a=rt b):eT rt x y a=eT rt x y b:=by rw[eT,eT,h]
variable {cl:Nat->Nd} {rt:Nat->Nat} {D:List (Nat×Nat)}
theorem Jr (h:Good cl rt D) {a b:Nat} (hn:rt a≠rt b) (c:Nat):eT rt (rt b) (rt a) (eT rt (rt b) (rt a) c)=eT rt (rt b) (rt a) c:=by
 rw[eT,eT]
 by_cases hc:rt c=rt b
 ·rw[if_pos hc,h.i,if_neg hn]
 ·rw[if_neg hc,h.i,if_neg hc]
theorem Good.same {a b:Nat} (h:Good cl rt ((a,b)::D)) (e:rt a=rt b):Good cl rt D:=
 ⟨h.i,h.v,fun x y ff hx hy=>⟨(h.f x y ff hx hy).1,(h.f x y ff hx hy).2.mono (fun _ _=> .rt) fun p hp=>by
  rcases List.mem_cons.1 hp with rfl|hp
  ·exact .rt e
  ·exact .pr hp⟩⟩
theorem Good.swap {a b:Nat} (h:Good cl rt ((a,b)::D)):Good cl rt ((b,a)::D):=
 ⟨h.i,h.v,fun x y ff hx hy=>⟨(h.f x y ff hx hy).1,(h.f x y ff hx hy).2.mono (fun _ _=> .rt) fun p hp=>by
  rcases List.mem_cons.1 hp with rfl|hp
  ·exact .symm (.pr (by simp))
  ·exact .pr (by simp[hp])⟩⟩
theorem Good.var {a b:Nat} (h:Good cl rt ((a,b)::D)) (hn:rt a≠rt b) (hb:(cl (rt b)).nm=[]) (ho:(cl (rt a)).nm=[]->(cl (rt a)).num<=(cl (rt b)).num):
  Good cl (eT rt (rt b) (rt a)) D:=by
 refine⟨Jr h hn,fun c hc=>?_,fun x y ff hx hy=>?_⟩
 ·rw[eT]at hc⊢
  by_cases e:rt c=rt b
  ·rw[if_pos e]at hc⊢
   have U:=h.v c (by rw[e];exact hb)
   rw[e]at U
   have:=ho hc
   exact⟨U.1,by omega⟩
  ·rw[if_neg e]at hc⊢
   exact h.v c hc
 ·have nx:rt x≠rt b:=fun e=>hx (h.v x (by rw[e];exact hb)).1
  have ny:rt y≠rt b:=fun e=>hy (h.v y (by rw[e];exact hb)).1
  rw[eT,eT,if_neg nx,if_neg ny]at ff
  refine⟨(h.f x y ff hx hy).1,(h.f x y ff hx hy).2.mono (fun _ _ e=> .rt (Jq e)) fun p hp=>?_⟩
  rcases List.mem_cons.1 hp with rfl|hp
  ·exact .rt (by rw[eT,eT,if_neg hn,if_pos rfl])
  ·exact .pr hp
theorem Good.fn {a b:Nat} (h:Good cl rt ((a,b)::D)) (hn:rt a≠rt b) (ha:(cl (rt a)).nm≠[]) (hb:(cl (rt b)).nm≠[]) (hm:(cl (rt a)).nm=(cl (rt b)).nm) (hl:(cl (rt a)).ks.length=(cl (rt b)).ks.length):
  Good cl (eT rt (rt b) (rt a)) ((cl (rt a)).ks.zip (cl (rt b)).ks++D):=by
 have sn:∀{l m:List Nat},d_ rt ((a,b)::D) l m->d_ (eT rt (rt b) (rt a)) ((cl (rt a)).ks.zip (cl (rt b)).ks++D) l m:=fun k=>
  k.mono (fun _ _ e=> .rt (Jq e)) fun p hp=>by
   rcases List.mem_cons.1 hp with rfl|hp
   ·exact .rt (by rw[eT,eT,if_neg hn,if_pos rfl])
   ·exact .pr (List.mem_append_right _ hp)
 have hz:d_ (eT rt (rt b) (rt a)) ((cl (rt a)).ks.zip (cl (rt b)).ks++D) (cl (rt a)).ks (cl (rt b)).ks:=d_.zip hl fun p hp=>List.mem_append_left _ hp
 refine⟨Jr h hn,fun c hc=>?_,fun x y ff hx hy=>?_⟩
 ·rw[eT]at hc⊢
  by_cases e:rt c=rt b
  ·rw[if_pos e]at hc;exact absurd hc ha
  ·rw[if_neg e]at hc⊢;exact h.v c hc
 ·rw[eT,eT]at ff
  by_cases ex:rt x=rt b<;>by_cases ey:rt y=rt b
  ·have:=h.f x y (ex.trans ey.symm) hx hy
   exact⟨this.1,sn this.2⟩
  ·rw[if_pos ex,if_neg ey]at ff
   have U:=h.f x (rt b) (by rw[ex,h.i]) hx hb
   have h2:=h.f (rt a) y (by rw[h.i];exact ff) ha hy
   exact⟨U.1.trans (hm.symm.trans h2.1),((sn U.2).trans hz.symm).trans (sn h2.2)⟩
  ·rw[if_neg ex,if_pos ey]at ff
   have U:=h.f x (rt a) (by rw[ff,h.i]) hx ha
   have h2:=h.f (rt b) y (by rw[h.i,ey]) hb hy
   exact⟨U.1.trans (hm.trans h2.1),((sn U.2).trans hz).trans (sn h2.2)⟩
  ·rw[if_neg ex,if_neg ey]at ff
   have:=h.f x y ff hx hy
   exact⟨this.1,sn this.2⟩
def Dn (cl:Nat->Nd) (d:Nat->Tm):Prop:=∀c,d c=if(cl c).nm=[]then cQ (cl c).num else .mk (cl c).nm 0 ((cl c).ks.map d)
def tA (d:Nat->Tm) (rt:Nat->Nat) (g:Int->Tm):Prop:=∀c,aB g (d c)=aB g (d (rt c))
theorem tA.eT {d:Nat->Tm} {g:Int->Tm} {a b:Nat} (h:tA d rt g) (e:aB g (d a)=aB g (d b)):tA d (eT rt (rt b) (rt a)) g:=by
 intro c
 rw[Go.Proofs.YtpfohmboflcneaaGreatDoor.eT]
 by_cases hc:rt c=rt b
 ·rw[if_pos hc,<-h a,e,h b,<-hc,<-h c]
 ·rw[if_neg hc];exact h c
theorem Dn.fn {d:Nat->Tm} (hd:Dn cl d) {c:Nat} (h:(cl c).nm≠[]) (g:Int->Tm):aB g (d c)= .mk (cl c).nm 0 ((cl c).ks.map fun x=>aB g (d x)):=by
 rw[hd c,if_neg h,aB,if_neg h,h_,List.map_map];rfl
theorem tA.args {d:Nat->Tm} {g:Int->Tm} {a b:Nat} (hd:Dn cl d) (h:tA d rt g) (e:aB g (d a)=aB g (d b)) (ha:(cl (rt a)).nm≠[]) (hb:(cl (rt b)).nm≠[]):
  (cl (rt a)).nm=(cl (rt b)).nm/\(cl (rt a)).ks.length=(cl (rt b)).ks.length/\∀p∈(cl (rt a)).ks.zip (cl (rt b)).ks,aB g (d p.1)=aB g (d p.2):=by
 rw[h a,h b,hd.fn ha g,hd.fn hb g,Tm.mk.injEq]at e
 obtain⟨e1,_,e2⟩:=e
 have hl:=congrArg List.length e2
 rw[List.length_map,List.length_map]at hl
 refine⟨e1,hl,?_⟩
 suffices H:∀l m:List Nat,(l.map fun x=>aB g (d x))=(m.map fun x=>aB g (d x))->∀p∈l.zip m,aB g (d p.1)=aB g (d p.2) from H _ _ e2
 intro l
 induction l with
 |nil=>intro m _ p hp;simp at hp
 |cons x l ih=>
  intro m hm p hp
  cases m with
  |nil=>simp at hp
  |cons y m=>
   rw[List.map_cons,List.map_cons,List.cons.injEq]at hm
   rw[List.zip_cons_cons]at hp
   rcases List.mem_cons.1 hp with rfl|hp
   ·exact hm.1
   ·exact ih m hm.2 p hp
inductive Tc (cl:Nat->Nd) (rt:Nat->Nat):Nat->Tm->Prop
 |var {c:Nat}:(cl (rt c)).nm=[]->Tc cl rt c (cQ (cl (rt c)).num)
 |fn {c:Nat} {ts:List Tm}:(cl (rt c)).nm≠[]->ts.length=(cl (rt c)).ks.length->(∀(k:Nat) (x:Nat) (t:Tm),(cl (rt c)).ks[k]?=some x->ts[k]?=some t->Tc cl rt x t)->Tc cl rt c (.mk (cl (rt c)).nm 0 ts)
theorem Tc.lf {c:Nat} {t:Tm} (k:Tc cl rt c t):Lf t:=by
 induction k with
 |var _=>exact Ai _
 |@fn c ts hn hl _ ih=>
  refine⟨_,fun h=>absurd h hn,fun _=>rfl,fun a ha=>?_⟩
  obtain⟨i,hi,e⟩:=List.getElem_of_mem ha
  have se:i<ts.length:=hi
  have U:ts[i]?=some a:=by rw[List.getElem?_eq_getElem se,<-e];rfl
  exact ih i _ a (List.getElem?_eq_getElem (by omega)) U
end Go.Proofs.YtpfohmboflcneaaGreatDoor
end
section
namespace Go.Proofs.YtpfohmboflcneaaGreatDoor
open Go Go.AL Go.RowKit
set_option maxRecDepth 10000
set_option maxHeartbeats 4000000
abbrev Bi (b:Bool):IV:= .v (.bool b)
abbrev j8 (l:Lt):List IV:=[Bi l.ng,Si l.pd,.sl 3 (ax l.xs)]
abbrev sS (l:Lt):IV:= .pt (j8 l)
abbrev jC (l:Lt):AV:= .agg [Bv l.ng,Sv l.pd,.im (.sl 3 (ax l.xs))]
def bP (c:List Lt):List (List IV):=c.map j8
abbrev aK (c:List Lt):AV:= .im (.sl 3 (bP c))
theorem aA (l:List Lt):(bP l).length=l.length:=by rw[bP,List.length_map]
theorem fT (l:List Lt) (k:Nat) (h:k<l.length):∃t,l[k]?=some t/\(bP l).getD k []=[Bi t.ng,Si t.pd,.sl 3 (ax t.xs)]:=by
 refine⟨l[k],List.getElem?_eq_getElem h,?_⟩
 rw[List.getD_eq_getElem?_getD,bP,List.getElem?_map,List.getElem?_eq_getElem h];rfl
theorem sT (l:List Lt) (w:Lt):bP (l++[w])=bP l++[j8 w]:=by
 rw[bP,List.map_append];rfl
def iZ (l:Lt):Prop:=l.pd.length<=1000000000/\l.xs.length<=1000000000/\cq l.xs
def cC (c:List Lt):Prop:=c.length<=1000000000/\∀l∈c,iZ l
theorem kZ {c:List Lt} {k:Nat} {l:Lt} (h:cC c) (hk:c[k]?=some l):iZ l:=h.2 l (List.mem_of_getElem? hk)
theorem tX (c:List Lt) (hs:cC c):aP Tryz.prog 13 [aK c] (aK c):=by
 refine aj.walk [0,2,3,5,6,8,9,10,11,12,21,22,23,24] [5,6,8] Tryz.func13 rfl Tryz.ntmps13 (by kernel_rfl) (by rfl) rfl fun W own I0 aq lay=>?_
 refine gE @aA ?_
 refine AP.own 3 119 3 rfl ?_
 refine sI ?_
 refine AP.loop rfl (α:=Nat) (fun k=>[(3,.os 0 3 0 k),(9,aK c),(10,Iv c.length),(11,Iv k)]) (fun k=>[(0,.vec 119 3 (bP (c.take k)))]) (fun k=>k<=c.length) (fun k=>c.length-k) 0 (by omega) (sU) rfl fun k hk=>?_
 have b5:=hs.1
 rcases Nat.eq_or_lt_of_le hk with aC|ag
 ·subst aC
  rw[List.take_length]
  refine gE @aA ?_
  refine cF ?_
  refine gO ?_
  refine AE.freeze 0 (el:=119) (es:=3) (rows:=bP c) rfl (by simp only[go_sem,Nat.reduceAdd,Nat.reduceLeDiff,Nat.reduceSub,Int.reduceToNat,reduceCtorEq,aA];first|done|trivial|omega|(simp;done)|(simp;omega)) (by simp only[go_sem,Nat.reduceAdd,Nat.reduceLeDiff,Nat.reduceSub,Int.reduceToNat,reduceCtorEq,aA];first|done|trivial|omega|(simp;done)|(simp;omega)) ?_;simp only[go_sem,Nat.reduceAdd,Nat.reduceLeDiff,Nat.reduceSub,Int.reduceToNat,reduceCtorEq,aA]
  rw[List.take_of_length_le (by rw[aA];omega)]
  exact AE.aG rfl ⟨rfl,trivial⟩ rfl ⟨rfl,rfl⟩
 ·obtain⟨u,hu,aF⟩:=fT c k ag
  have hw:=wr (x:=(k:Int)+1) (by omega)
  have aY:=gP (l:=c) (k:=k) (by omega)
  have bH:=kZ hs hu
  have bc:=c7 hu
  refine gE @aA ?_
  refine cT ?_
  refine gE @aF ?_
  refine⟨by rw[aA];omega,?_⟩
  refine gE @ah ?_
  refine AP.hO 2 2 71 3 rfl rfl ?_
  refine sI ?_
  refine AP.loop rfl (α:=Nat) (fun j=>[(3,.os 0 3 0 k),(6,.ob 2 0),(9,aK c),(10,Iv c.length),(11,Iv k),(21,.im (.sl 3 (ax u.xs))),(22,Iv u.xs.length),(23,Iv j)]) (fun j=>[(3,.vec 71 3 (ax (u.xs.take j))),(2,.var 119 [Bv u.ng,Sv u.pd,.os 3 3 0 j]),(1,.var 61 [Bv u.ng,Sv u.pd,.im (.sl 3 (ax u.xs))]),(0,.vec 119 3 (bP (c.take k)))]) (fun j=>j<=u.xs.length) (fun j=>u.xs.length-j) 0 (by omega) (sU) rfl fun j hj=>?_
  rcases Nat.eq_or_lt_of_le hj with dV|fQ
  ·subst dV
   rw[List.take_length]
   refine gE @ah ?_
   refine cF ?_
   refine sI ?_
   refine AP.freeze 3 (el:=71) (es:=3) (rows:=ax u.xs) rfl (by simp only[go_sem,Nat.reduceAdd,Nat.reduceLeDiff,Nat.reduceSub,Int.reduceToNat,reduceCtorEq,ah];first|done|trivial|omega|(simp;done)|(simp;omega)) (by simp only[go_sem,Nat.reduceAdd,Nat.reduceLeDiff,Nat.reduceSub,Int.reduceToNat,reduceCtorEq,ah];first|done|trivial|omega|(simp;done)|(simp;omega)) ?_;simp only[go_sem,Nat.reduceAdd,Nat.reduceLeDiff,Nat.reduceSub,Int.reduceToNat,reduceCtorEq,ah]
   rw[show List.take u.xs.length (ax u.xs)=ax u.xs from List.take_of_length_le (by rw[ah];omega)]
   refine gO ?_
   refine AQ.append (hnb:=rfl) (rows:=bP (c.take k)) (es:=2) (by kernel_rfl) rfl rfl rfl (by rfl) Tryz.wK Tryz.wE (by show Option.map _ (az Tryz.prog 119)=_;rw[Tryz.wW];rfl) Tryz.tS (by first|rfl|(simp only[aA,aY,List.length_cons,List.length_nil];done)|(simp only[aA,aY,List.length_cons,List.length_nil];omega)) (by simp only[aA,aY,List.length_cons,List.length_nil];omega) (by simp only[aA,aY,List.length_cons,List.length_nil];omega) ?_
   refine sI ?_
   refine gE @hw ?_
   refine AE.dq [2,1] rfl ?_
   refine sE (an @aA @aY) ?_
   refine AE.round (k+1) (by omega) (by omega) (sU) ?_
   rw[bc,sT]
  ·obtain⟨v,hv,cg⟩:=cz u.xs j fQ
   have eH:=wr (x:=(j:Int)+1) (by have:=bH.2.1;omega)
   have fm:=gP (l:=u.xs) (k:=j) (by omega)
   have ih:=FE v (cA bH.2.2 hv)
   have gY:=c7 hv
   have mV:=bH.2.1
   refine gE @ah ?_
   refine cT ?_
   refine gE @cg ?_
   refine⟨by rw[ah];omega,?_⟩
   refine gO ?_
   refine AP.cu 8 (Tree.node [] [0,1,2] [3] [Tree.node [0,1] [] [4] [Tree.node [0,1] [] [5] [Tree.node [] [6] [7] [Tree.node [] [] [] []]]]]) (by kernel_rfl) rfl (by kernel_rfl) (by kernel_rfl) ?_
   refine cr ?_
   refine sI ?_
   refine AQ.fn (by kernel_rfl) rfl rfl rfl (ih) rfl ?_
   refine sI ?_
   refine AQ.nx rfl ?_
   refine sI ?_
   refine AQ.go (by kernel_rfl) ?_
   refine sI ?_
   refine AQ.nx rfl ?_
   refine sI ?_
   refine AQ.kill 3 ?_
   refine sI ?_
   refine AQ.append (hnb:=rfl) (rows:=ax (u.xs.take j)) (es:=2) (by kernel_rfl) rfl rfl rfl (by rfl) Tryz.p8 Tryz.p7 (by show Option.map _ (az Tryz.prog 71)=_;rw[Tryz.qb];rfl) Tryz.oY (by first|rfl|(simp only[ah,fm,List.length_cons,List.length_nil];done)|(simp only[ah,fm,List.length_cons,List.length_nil];omega)) (by simp only[ah,fm,List.length_cons,List.length_nil];omega) (by simp only[ah,fm,List.length_cons,List.length_nil];omega) ?_
   refine sI ?_
   refine AQ.nx rfl ?_
   refine sI ?_
   refine AQ.go (by kernel_rfl) ?_
   refine sI ?_
   refine AQ.nx rfl ?_
   refine sI ?_
   refine AQ.done ?_
   refine gE @eH ?_
   refine AE.dq [4] rfl ?_
   refine sI ?_
   refine AE.round (j+1) (by omega) (by omega) (sU) ?_
   rw[gY,ni,ah,fm]
theorem M1 (c:List Lt) (hs:cC c):aP Tryz.prog 45 [aK c] (aK c):=by
 refine aj.walk [0,2,3,5,6,8,9,10,11,12,21,22,23,24] [5,6,8] Tryz.func45 rfl Tryz.ntmps45 (by kernel_rfl) (by rfl) rfl fun W own I0 aq lay=>?_
 refine gE @aA ?_
 refine AP.own 3 61 3 rfl ?_
 refine sI ?_
 refine AP.loop rfl (α:=Nat) (fun k=>[(3,.os 0 3 0 k),(9,aK c),(10,Iv c.length),(11,Iv k)]) (fun k=>[(0,.vec 61 3 (bP (c.take k)))]) (fun k=>k<=c.length) (fun k=>c.length-k) 0 (by omega) (sU) rfl fun k hk=>?_
 have b5:=hs.1
 rcases Nat.eq_or_lt_of_le hk with aC|ag
 ·subst aC
  rw[List.take_length]
  refine gE @aA ?_
  refine cF ?_
  refine gO ?_
  refine AE.freeze 0 (el:=61) (es:=3) (rows:=bP c) rfl (by simp only[go_sem,Nat.reduceAdd,Nat.reduceLeDiff,Nat.reduceSub,Int.reduceToNat,reduceCtorEq,aA];first|done|trivial|omega|(simp;done)|(simp;omega)) (by simp only[go_sem,Nat.reduceAdd,Nat.reduceLeDiff,Nat.reduceSub,Int.reduceToNat,reduceCtorEq,aA];first|done|trivial|omega|(simp;done)|(simp;omega)) ?_;simp only[go_sem,Nat.reduceAdd,Nat.reduceLeDiff,Nat.reduceSub,Int.reduceToNat,reduceCtorEq,aA]
  rw[List.take_of_length_le (by rw[aA];omega)]
  exact AE.aG rfl ⟨rfl,trivial⟩ rfl ⟨rfl,rfl⟩
 ·obtain⟨u,hu,aF⟩:=fT c k ag
  have hw:=wr (x:=(k:Int)+1) (by omega)
  have aY:=gP (l:=c) (k:=k) (by omega)
  have bH:=kZ hs hu
  have bc:=c7 hu
  refine gE @aA ?_
  refine cT ?_
  refine gE @aF ?_
  refine⟨by rw[aA];omega,?_⟩
  refine gE @ah ?_
  refine AP.hO 2 2 57 3 rfl rfl ?_
  refine sI ?_
  refine AP.loop rfl (α:=Nat) (fun j=>[(3,.os 0 3 0 k),(6,.ob 2 0),(9,aK c),(10,Iv c.length),(11,Iv k),(21,.im (.sl 3 (ax u.xs))),(22,Iv u.xs.length),(23,Iv j)]) (fun j=>[(3,.vec 57 3 (ax (u.xs.take j))),(2,.var 61 [Bv u.ng,Sv u.pd,.os 3 3 0 j]),(1,.var 119 [Bv u.ng,Sv u.pd,.im (.sl 3 (ax u.xs))]),(0,.vec 61 3 (bP (c.take k)))]) (fun j=>j<=u.xs.length) (fun j=>u.xs.length-j) 0 (by omega) (sU) rfl fun j hj=>?_
  rcases Nat.eq_or_lt_of_le hj with dV|fQ
  ·subst dV
   rw[List.take_length]
   refine gE @ah ?_
   refine cF ?_
   refine sI ?_
   refine AP.freeze 3 (el:=57) (es:=3) (rows:=ax u.xs) rfl (by simp only[go_sem,Nat.reduceAdd,Nat.reduceLeDiff,Nat.reduceSub,Int.reduceToNat,reduceCtorEq,ah];first|done|trivial|omega|(simp;done)|(simp;omega)) (by simp only[go_sem,Nat.reduceAdd,Nat.reduceLeDiff,Nat.reduceSub,Int.reduceToNat,reduceCtorEq,ah];first|done|trivial|omega|(simp;done)|(simp;omega)) ?_;simp only[go_sem,Nat.reduceAdd,Nat.reduceLeDiff,Nat.reduceSub,Int.reduceToNat,reduceCtorEq,ah]
   rw[show List.take u.xs.length (ax u.xs)=ax u.xs from List.take_of_length_le (by rw[ah];omega)]
   refine gO ?_
   refine AQ.append (hnb:=rfl) (rows:=bP (c.take k)) (es:=2) (by kernel_rfl) rfl rfl rfl (by rfl) Tryz.TQ Tryz.TJ (by show Option.map _ (az Tryz.prog 61)=_;rw[Tryz.UK];rfl) Tryz.Nk (by first|rfl|(simp only[aA,aY,List.length_cons,List.length_nil];done)|(simp only[aA,aY,List.length_cons,List.length_nil];omega)) (by simp only[aA,aY,List.length_cons,List.length_nil];omega) (by simp only[aA,aY,List.length_cons,List.length_nil];omega) ?_
   refine sI ?_
   refine gE @hw ?_
   refine AE.dq [2,1] rfl ?_
   refine sE (an @aA @aY) ?_
   refine AE.round (k+1) (by omega) (by omega) (sU) ?_
   rw[bc,sT]
  ·obtain⟨v,hv,cg⟩:=cz u.xs j fQ
   have eH:=wr (x:=(j:Int)+1) (by have:=bH.2.1;omega)
   have fm:=gP (l:=u.xs) (k:=j) (by omega)
   have ih:=An v (cA bH.2.2 hv)
   have gY:=c7 hv
   have mV:=bH.2.1
   refine gE @ah ?_
   refine cT ?_
   refine gE @cg ?_
   refine⟨by rw[ah];omega,?_⟩
   refine gO ?_
   refine AP.cu 8 (Tree.node [] [0,1,2] [3] [Tree.node [0,1] [] [4] [Tree.node [0,1] [] [5] [Tree.node [] [6] [7] [Tree.node [] [] [] []]]]]) (by kernel_rfl) rfl (by kernel_rfl) (by kernel_rfl) ?_
   refine cr ?_
   refine sI ?_
   refine AQ.fn (by kernel_rfl) rfl rfl rfl (ih) rfl ?_
   refine sI ?_
   refine AQ.nx rfl ?_
   refine sI ?_
   refine AQ.go (by kernel_rfl) ?_
   refine sI ?_
   refine AQ.nx rfl ?_
   refine sI ?_
   refine AQ.kill 3 ?_
   refine sI ?_
   refine AQ.append (hnb:=rfl) (rows:=ax (u.xs.take j)) (es:=2) (by kernel_rfl) rfl rfl rfl (by rfl) Tryz.Lq Tryz.Ln (by show Option.map _ (az Tryz.prog 57)=_;rw[Tryz.L8];rfl) Tryz.Fe (by first|rfl|(simp only[ah,fm,List.length_cons,List.length_nil];done)|(simp only[ah,fm,List.length_cons,List.length_nil];omega)) (by simp only[ah,fm,List.length_cons,List.length_nil];omega) (by simp only[ah,fm,List.length_cons,List.length_nil];omega) ?_
   refine sI ?_
   refine AQ.nx rfl ?_
   refine sI ?_
   refine AQ.go (by kernel_rfl) ?_
   refine sI ?_
   refine AQ.nx rfl ?_
   refine sI ?_
   refine AQ.done ?_
   refine gE @eH ?_
   refine AE.dq [4] rfl ?_
   refine sI ?_
   refine AE.round (j+1) (by omega) (by omega) (sU) ?_
   rw[gY,ni,ah,fm]
def dO {α:Type} (p:α->α->Bool):List α->List α->Bool
 |[],[]=>true
 |a::l,b::m=>p a b&&dO p l m
 |_,_=>false
theorem tJ {α:Type} (p:α->α->Bool):∀(l m:List α),l.length≠m.length->dO p l m=false
 |[],[],h=>by simp at h
 |[],_::_,_=>rfl
 |_::_,[],_=>rfl
 |a::l,b::m,h=>by rw[dO,tJ p l m (by simpa using h),Bool.and_false]
theorem xr {α:Type} (p:α->α->Bool) (l m:List α) (k:Nat) (t u:α) (ht:l[k]?=some t) (hu:m[k]?=some u):dO p (l.drop k) (m.drop k)=(p t u&&dO p (l.drop (k+1)) (m.drop (k+1))):=by
 obtain⟨U,e1⟩:=List.getElem?_eq_some_iff.1 ht
 obtain⟨h2,e2⟩:=List.getElem?_eq_some_iff.1 hu
 rw[List.drop_eq_getElem_cons U,List.drop_eq_getElem_cons h2,e1,e2,dO]
theorem A1:∀l m:List Tm,kk l m=dO cX l m
 |[],[]=>by rw[kk,dO]
 |[],_::_=>by rw[kk,dO]<;>simp
 |_::_,[]=>by rw[kk,dO]<;>simp
 |a::l,b::m=>by rw[kk,dO,A1 l m]
theorem Gh (t u:Tm):cX t u=((t.nm==u.nm&&t.ix==u.ix)&&dO cX t.xs u.xs):=by cases t;rw[cX,A1];rfl
theorem zQ (t v:Tm) (hs:aU t):aP Tryz.prog 39 [bp t,bp v] (Bv (cX t v)):=by
 have cM:=eU.1 hs
 have he:=Gh t v
 refine aj.walk [0,1,2,3,4,5,26,31,45] [] Tryz.func39 rfl Tryz.ntmps39 (by kernel_rfl) (by rfl) rfl fun W own I0 aq lay=>?_
 refine gE @ah ?_
 refine AP.cond rfl rfl (fun h=>?_) (fun h=>?_)
 ·have:cX t v=false:=by
   rw[he]
   by_cases hl:t.xs.length=v.xs.length
   ·have:(t.nm==v.nm&&t.ix==v.ix)=false:=by
     by_cases hA:t.nm=v.nm
     ·by_cases hB:t.ix=v.ix
      ·simp[hA,hB,hl]at h
      ·simp[hB]
     ·simp[hA]
    rw[this,Bool.false_and]
   ·rw[tJ cX _ _ hl,Bool.and_false]
  refine gO ?_
  exact AE.aG rfl ⟨rfl,trivial⟩ rfl ⟨rfl,by rw[this];rfl⟩
 have hA:t.nm=v.nm:=Classical.byContradiction fun hc=>by simp[hc]at h
 have hB:t.ix=v.ix:=Classical.byContradiction fun hc=>by simp[hc]at h
 have hl:t.xs.length=v.xs.length:=Classical.byContradiction fun hc=>by simp[hA,hB]at h;omega
 have he:cX t v=dO cX t.xs v.xs:=by rw[he,hA,hB];simp
 refine gO ?_
 refine AP.loop rfl (α:=Nat) (fun k=>[(2,.im (kQ t)),(3,.im (kQ v)),(5,Iv k)]) (fun _=>[]) (fun k=>k<=t.xs.length/\cX t v=dO cX (t.xs.drop k) (v.xs.drop k)) (fun k=>t.xs.length-k) 0 ⟨by omega,he⟩ (sU) rfl fun k ⟨hk,hm⟩=>?_
 rcases Nat.eq_or_lt_of_le hk with aC|ag
 ·rw[aC,List.drop_length,hl,List.drop_length,dO]at hm
  refine gE @ah ?_
  refine cF ?_
  refine gO ?_
  exact AE.aG rfl ⟨rfl,trivial⟩ rfl ⟨rfl,by rw[hm];rfl⟩
 ·obtain⟨u,hu,aF⟩:=cz t.xs k ag
  obtain⟨w,b8,cg⟩:=cz v.xs k (by omega)
  rw[xr cX t.xs v.xs k u w hu b8]at hm
  have hw:=wr (x:=(k:Int)+1) (by omega)
  refine gE @ah ?_
  refine cT ?_
  refine gO ?_
  refine AP.cu 12 (Tree.node [] [0,1,2,3,4,5,6,7,8,9] [10] [Tree.node [] [11] [] []]) (by kernel_rfl) rfl (by kernel_rfl) (by kernel_rfl) ?_
  refine cr ?_
  refine sE (an @aF (an @cg @ah)) ?_
  refine⟨by omega,by omega,?_⟩
  refine AQ.fn (by kernel_rfl) rfl rfl rfl (zQ u w (cA cM.2.2 hu)) rfl ?_
  refine sI ?_
  refine AQ.nx rfl ?_
  refine sI ?_
  refine AQ.done ?_
  refine gO ?_
  refine AP.cond rfl rfl (fun h5=>?_) (fun h5=>?_)
  ·have h5:cX u w=false:=by simpa using h5
   rw[h5,Bool.false_and]at hm
   refine gO ?_
   exact AE.aG rfl ⟨rfl,trivial⟩ rfl ⟨rfl,by rw[hm];rfl⟩
  ·have h5:cX u w=true:=by simpa using h5
   rw[h5,Bool.true_and]at hm
   refine gE @hw ?_
   exact AE.round (k+1) ⟨by omega,hm⟩ (by omega) (sU) rfl
termination_by SizeOf.sizeOf t
decreasing_by exact iF hu
theorem KD (t v:Lt):dX t v=((t.ng==v.ng&&t.pd==v.pd)&&dO cX t.xs v.xs):=by rw[dX,A1]
theorem S7 (t v:Lt) (cM:iZ t):aP Tryz.prog 48 [jC t,jC v] (Bv (dX t v)):=by
 have he:=KD t v
 refine aj.walk [0,1,2,3,4,5,26,31,45] [] Tryz.func48 rfl Tryz.ntmps48 (by kernel_rfl) (by rfl) rfl fun W own I0 aq lay=>?_
 refine gE @ah ?_
 refine AP.cond rfl rfl (fun h=>?_) (fun h=>?_)
 ·have:dX t v=false:=by
   rw[he]
   by_cases hl:t.xs.length=v.xs.length
   ·have:(t.ng==v.ng&&t.pd==v.pd)=false:=by
     by_cases hA:t.ng=v.ng
     ·by_cases hB:t.pd=v.pd
      ·simp[hA,hB,hl]at h
      ·simp[hB]
     ·simp[hA]
    rw[this,Bool.false_and]
   ·rw[tJ cX _ _ hl,Bool.and_false]
  refine gO ?_
  exact AE.aG rfl ⟨rfl,trivial⟩ rfl ⟨rfl,by rw[this];rfl⟩
 have hA:t.ng=v.ng:=Classical.byContradiction fun hc=>by simp[hc]at h
 have hB:t.pd=v.pd:=Classical.byContradiction fun hc=>by simp[hc]at h
 have hl:t.xs.length=v.xs.length:=Classical.byContradiction fun hc=>by simp[hA,hB]at h;omega
 have he:dX t v=dO cX t.xs v.xs:=by rw[he,hA,hB];simp
 refine gO ?_
 refine AP.loop rfl (α:=Nat) (fun k=>[(2,.im (sS t)),(3,.im (sS v)),(5,Iv k)]) (fun _=>[]) (fun k=>k<=t.xs.length/\dX t v=dO cX (t.xs.drop k) (v.xs.drop k)) (fun k=>t.xs.length-k) 0 ⟨by omega,he⟩ (sU) rfl fun k ⟨hk,hm⟩=>?_
 have lu:=cM.2.1
 rcases Nat.eq_or_lt_of_le hk with aC|ag
 ·rw[aC,List.drop_length,hl,List.drop_length,dO]at hm
  refine gE @ah ?_
  refine cF ?_
  refine gO ?_
  exact AE.aG rfl ⟨rfl,trivial⟩ rfl ⟨rfl,by rw[hm];rfl⟩
 ·obtain⟨u,hu,aF⟩:=cz t.xs k ag
  obtain⟨w,b8,cg⟩:=cz v.xs k (by omega)
  rw[xr cX t.xs v.xs k u w hu b8]at hm
  have hw:=wr (x:=(k:Int)+1) (by omega)
  refine gE @ah ?_
  refine cT ?_
  refine gO ?_
  refine AP.cu 12 (Tree.node [] [0,1,2,3,4,5,6,7,8,9] [10] [Tree.node [] [11] [] []]) (by kernel_rfl) rfl (by kernel_rfl) (by kernel_rfl) ?_
  refine cr ?_
  refine sE (an @aF (an @cg @ah)) ?_
  refine⟨by omega,by omega,?_⟩
  refine AQ.fn (by kernel_rfl) rfl rfl rfl (zQ u w (cA cM.2.2 hu)) rfl ?_
  refine sI ?_
  refine AQ.nx rfl ?_
  refine sI ?_
  refine AQ.done ?_
  refine gO ?_
  refine AP.cond rfl rfl (fun h5=>?_) (fun h5=>?_)
  ·have h5:cX u w=false:=by simpa using h5
   rw[h5,Bool.false_and]at hm
   refine gO ?_
   exact AE.aG rfl ⟨rfl,trivial⟩ rfl ⟨rfl,by rw[hm];rfl⟩
  ·have h5:cX u w=true:=by simpa using h5
   rw[h5,Bool.true_and]at hm
   refine gE @hw ?_
   exact AE.round (k+1) ⟨by omega,hm⟩ (by omega) (sU) rfl
theorem Gi (f:FuncId) (p:Tm->Tm->Bool) (xs ys:List Tm) (hx:xs.length<=9223372036854775807) (h:∀(k:Nat) (t u:Tm),xs[k]?=some t->ys[k]?=some u->aP Tryz.prog f [bp t,bp u] (Bv (p t u))):
  aP Tryz.prog 163 [.im (.sl 3 (ax xs)),.im (.sl 3 (ax ys)),.fn f [] []] (Bv (dO p xs ys)):=by
 refine aj.walk [0,1,2,6,7,8,9,14,15,16,17,18,30] [8,9] Tryz.func163 rfl Tryz.ntmps163 (by kernel_rfl) (by rfl) rfl fun W own I0 aq lay=>?_
 refine gE @ah ?_
 refine AP.cond rfl rfl (fun U=>?_) (fun U=>?_)
 ·refine gO ?_
  exact AE.aG rfl ⟨rfl,trivial⟩ rfl ⟨rfl,by rw[tJ p xs ys (by simp at U;omega)];rfl⟩
 ·have U:xs.length=ys.length:=by simp at U;omega
  refine gE @ah ?_
  refine AP.loop rfl (α:=Nat) (fun k=>[(1,.im (.sl 3 (ax ys))),(2,.fn f [] []),(15,.im (.sl 3 (ax xs))),(16,Iv xs.length),(17,Iv k)]) (fun _=>[]) (fun k=>k<=xs.length/\dO p xs ys=dO p (xs.drop k) (ys.drop k)) (fun k=>xs.length-k) 0 ⟨by omega,rfl⟩ (sU) rfl fun k ⟨hk,hm⟩=>?_
  rcases Nat.eq_or_lt_of_le hk with aC|ag
  ·refine gO ?_
   refine cF ?_
   refine gO ?_
   exact AE.aG rfl ⟨rfl,trivial⟩ rfl ⟨rfl,by rw[hm,aC,List.drop_length,U,List.drop_length,dO];rfl⟩
  ·obtain⟨t,ht,aF⟩:=cz xs k ag
   obtain⟨u,hu,cg⟩:=cz ys k (by omega)
   have cK:=xr p xs ys k t u ht hu
   have hw:=wr (x:=(k:Int)+1) (by omega)
   refine gO ?_
   refine cT ?_
   refine gE @aF ?_
   refine⟨by rw[ah];omega,?_⟩
   refine gE @cg ?_
   refine⟨by rw[ah];omega,?_⟩
   refine gO ?_
   refine AQ.rK [] (by kernel_rfl) rfl rfl rfl rfl rfl rfl (fun k=>by exact trivial) (fun k=>rfl) (fun k=>rfl) (h k t u ht hu) ?_
   refine gO ?_
   refine AP.cond rfl rfl (fun h2=>?_) (fun h2=>?_)
   ·refine gO ?_
    refine AE.aX [1,0] rfl ⟨rfl,trivial⟩ rfl ⟨rfl,?_⟩
    rw[hm,cK,show p t u=false by simpa using h2];rfl
   ·refine gE @hw ?_
    refine AE.dq [1,0] rfl ?_
    refine sI ?_
    exact AE.round (k+1) ⟨by omega,by rw[hm,cK,show p t u=true by simpa using h2,Bool.true_and]⟩ (by omega) (sU) rfl
theorem uh (t u:Tm) (hs:aU t):aP Tryz.prog 97 [bp t,bp u] (Bv (cX t u)):=by
 have cM:=eU.1 hs
 have hc:=Gi 97 cX t.xs u.xs (by omega) fun k a b ha hb=>uh a b (cA cM.2.2 ha)
 refine aj.walk [0,1,2,3,4] [] Tryz.func97 rfl Tryz.ntmps97 (by kernel_rfl) (by rfl) rfl fun W own I0 aq lay=>?_
 refine gO ?_
 refine AQ.mG (by kernel_rfl) rfl rfl (fun h=>by first|(simp[gs,AV.g];done)|(simp[gs,AV.g,bN];done)|(simp[gs,AV.g,bN,bw]at h⊢;done)|(simp[gs,AV.g,bN,bw]at h⊢;exact h)|(simp[gs,AV.g,bN,bw]at h⊢;simp[h];done)|(simp[bw]at h;done)|(simp[gs,AV.g,bw]at h⊢;simp[h];done)|(simp[gs,AV.g,bw]at h⊢;exact h.1)|(simp[gs,AV.g];rfl)|(simp[gs,AV.g,bw]at h⊢;rfl)|(simp[gs,AV.g,bw]at h⊢;simp[h];rfl)|(simp[gs,AV.g,bw]at h⊢;simp_all)) rfl (fun _=>hc) rfl ?_
 refine gO ?_
 exact AE.aG rfl ⟨rfl,trivial⟩ rfl ⟨rfl,by rw[Gh];rfl⟩
termination_by SizeOf.sizeOf t
decreasing_by exact iF ha
theorem S8 (t u:Lt) (hs:iZ t):aP Tryz.prog 89 [jC t,jC u] (Bv (dX t u)):=by
 have hx:=hs.2.1
 have hc:=Gi 97 cX t.xs u.xs (by omega) fun k a b ha hb=>uh a b (cA hs.2.2 ha)
 refine aj.walk [0,1,2,3,4] [] Tryz.func89 rfl Tryz.ntmps89 (by kernel_rfl) (by rfl) rfl fun W own I0 aq lay=>?_
 refine gO ?_
 refine AQ.mG (by kernel_rfl) rfl rfl (fun h=>by first|(simp[gs,AV.g];done)|(simp[gs,AV.g,bN];done)|(simp[gs,AV.g,bN,bw]at h⊢;done)|(simp[gs,AV.g,bN,bw]at h⊢;exact h)|(simp[gs,AV.g,bN,bw]at h⊢;simp[h];done)|(simp[bw]at h;done)|(simp[gs,AV.g,bw]at h⊢;simp[h];done)|(simp[gs,AV.g,bw]at h⊢;exact h.1)|(simp[gs,AV.g];rfl)|(simp[gs,AV.g,bw]at h⊢;rfl)|(simp[gs,AV.g,bw]at h⊢;simp[h];rfl)|(simp[gs,AV.g,bw]at h⊢;simp_all)) rfl (fun _=>hc) rfl ?_
 refine gO ?_
 exact AE.aG rfl ⟨rfl,trivial⟩ rfl ⟨rfl,by rw[KD];rfl⟩
mutual
def gN:Tm->Int->Int
 | .mk _ _ xs,m=>bj xs m 1
def bj:List Tm->Int->Int->Int
 |[],_,n=>n
 |t::l,m,n=>if m<n then n else bj l m (n+gN t (m-n))
end
theorem D5 (t:Tm) (m:Int):gN t m=bj t.xs m 1:=by cases t;rw[gN];rfl
theorem wH:∀(l:List Tm) (m n:Int),m<n->bj l m n=n
 |[],m,n,_=>by rw[bj]
 |t::l,m,n,h=>by rw[bj,if_pos h]
theorem rm:∀(l k:List Tm) (m n:Int),bj (l++k) m n=bj k m (bj l m n)
 |[],k,m,n=>by rw[List.nil_append,bj]
 |t::l,k,m,n=>by
  rw[List.cons_append,bj,bj]
  split
  ·rename_i h;rw[wH k m n h]
  ·exact rm l k m _
mutual
theorem rl:∀(t:Tm) (m:Int),0<=m->((wT t:Int)<=m->gN t m=wT t)/\(m<wT t->m<gN t m)/\1<=gN t m/\gN t m<=m+1
 | .mk _ _ xs,m,hm=>by
  have h:=wG xs m 1 hm (by omega) (by omega)
  rw[gN,wT]
  exact⟨fun hh=>by rw[h.1 (by omega)];omega,fun hh=>h.2.1 (by omega),h.2.2.1,h.2.2.2⟩
theorem wG:∀(l:List Tm) (m n:Int),0<=m->1<=n->n<=m+1->(n+(aw l:Int)<=m->bj l m n=n+aw l)/\(m<n+aw l->m<bj l m n)/\1<=bj l m n/\bj l m n<=m+1
 |[],m,n,hm,U,h2=>by
  rw[bj,aw]
  exact⟨fun _=>by omega,fun h=>by omega,U,h2⟩
 |t::l,m,n,hm,U,h2=>by
  rw[bj,aw]
  have hp:=Ep t
  split
  ·rename_i h
   exact⟨fun hh=>by omega,fun _=>h,U,h2⟩
  ·rename_i h
   obtain⟨a1,a2,a3,a4⟩:=rl t (m-n) (by omega)
   obtain⟨b1,b2,b3,b4⟩:=wG l m (n+gN t (m-n)) hm (by omega) (by omega)
   refine⟨fun hh=>?_,fun hh=>?_,b3,b4⟩
   ·rw[b1 (by rw[a1 (by omega)];omega),a1 (by omega)];omega
   ·by_cases hc:m-n<wT t
    ·have:=a2 hc
     rw[wH l m _ (by omega)];omega
    ·exact b2 (by rw[a1 (by omega)];omega)
end
def pN (c:List Lt) (m:Int):Int:=bj (c.flatMap (·.xs)) m c.length
theorem rz:∀l k:List Tm,aw (l++k)=aw l+aw k
 |[],k=>by rw[List.nil_append,aw];omega
 |t::l,k=>by rw[List.cons_append,aw,aw,rz l k];omega
theorem zp:∀c:List Lt,bC c=c.length+aw (c.flatMap (·.xs))
 |[]=>by rw[List.flatMap_nil,aw];rfl
 |l::c=>by rw[iB,List.flatMap_cons,rz,List.length_cons,zp c];omega
theorem Jw (c:List Lt) (m:Int) (hm:0<=m):((bC c:Int)<=m->pN c m=bC c)/\(m<bC c->m<pN c m):=by
 rw[pN,zp]
 by_cases h:m<c.length
 ·rw[wH _ _ _ h]
  exact⟨fun hh=>by omega,fun _=>h⟩
 ·by_cases h0:c.length=0
  ·rw[List.length_eq_zero_iff.1 h0,List.flatMap_nil,bj,aw]
   exact⟨fun _=>rfl,fun hh=>by simpa using hh⟩
  ·obtain⟨a,b,_⟩:=wG (c.flatMap (·.xs)) m c.length hm (by omega) (by omega)
   exact⟨fun hh=>by rw[a (by omega)];omega,fun hh=>b (by omega)⟩
theorem zX {l:List Tm} {k:Nat} {u:Tm} (h:l[k]?=some u) (m n:Int):bj (l.take (k+1)) m n=if m<bj (l.take k) m n then bj (l.take k) m n else bj (l.take k) m n+gN u (m-bj (l.take k) m n):=by
 rw[c7 h,rm,bj]
 split
 ·rfl
 ·rw[bj]
theorem D6 {l:List Tm} (k:Nat) (m n:Int) (h:m<bj (l.take k) m n):bj l m n=bj (l.take k) m n:=by
 conv=>lhs;rw[<-List.take_append_drop k l,rm]
 exact wH _ _ _ h
theorem wF:∀(l:List Tm) (m n:Int),0<=m->0<=n->n<=bj l m n/\(bj l m n<=n\/bj l m n<=m+1)
 |[],m,n,_,_=>by rw[bj];omega
 |t::l,m,n,hm,h=>by
  rw[bj]
  split
  ·omega
  ·have ha:=rl t (m-n) (by omega)
   have hb:=wF l m (n+gN t (m-n)) hm (by omega)
   omega
theorem Gv {c:List Lt} {k:Nat} {u:Lt} (h:c[k]?=some u):(c.take (k+1)).flatMap (·.xs)=(c.take k).flatMap (·.xs)++u.xs:=by
 rw[c7 h,List.flatMap_append];simp
theorem N9 {c:List Lt} {k j:Nat} {u:Lt} (h:c[k]?=some u) (m n:Int) (hn:m<bj (u.xs.take j) m (bj ((c.take k).flatMap (·.xs)) m n)):
  bj (c.flatMap (·.xs)) m n=bj (u.xs.take j) m (bj ((c.take k).flatMap (·.xs)) m n):=by
 have e:c.flatMap (·.xs)=(c.take k).flatMap (·.xs)++(u.xs.take j++(u.xs.drop j++(c.drop (k+1)).flatMap (·.xs))):=by
  have U:c=c.take k++(u::c.drop (k+1)):=by
   obtain⟨U,h2⟩:=List.getElem?_eq_some_iff.1 h
   rw[<-h2,<-List.drop_eq_getElem_cons U,List.take_append_drop]
  conv=>lhs;rw[U]
  rw[List.flatMap_append,List.flatMap_cons,<-List.append_assoc (u.xs.take j),List.take_append_drop]
 rw[e,rm,rm]
 exact wH _ _ _ hn
def dK {α:Type} (p:α->Bool):List α->Nat->Int
 |[],_=>-1
 |a::l,i=>if p a then i else dK p l (i+1)
theorem vJ {α:Type} (p:α->Bool):∀(l:List α) (i:Nat),decide (0<=dK p l i)=l.any p
 |[],i=>by rw[dK];rfl
 |a::l,i=>by
  rw[dK,List.any_cons]
  by_cases h:p a=true
  ·rw[if_pos h,h,Bool.true_or];exact decide_eq_true (by omega)
  ·rw[if_neg h,vJ p l (i+1),show p a=false by simpa using h,Bool.false_or]
theorem vK {α:Type} (p:α->Bool) {l:List α} {k:Nat} {u:α} (h:l[k]?=some u):dK p (l.drop k) k=if p u then(k:Int)else dK p (l.drop (k+1)) (k+1):=by
 obtain⟨U,h2⟩:=List.getElem?_eq_some_iff.1 h
 rw[List.drop_eq_getElem_cons U,h2,dK]
mutual
def iy:Tm->Bool
 | .mk n _ xs=>decide (100<n.length)||sP xs
def sP:List Tm->Bool
 |[]=>false
 |t::l=>iy t||sP l
end
theorem C3:∀l,sP l=l.any iy
 |[]=>rfl
 |t::l=>by rw[sP,C3 l,List.any_cons]
theorem Rm (t:Tm):iy t=(decide (100<t.nm.length)||t.xs.any iy):=by cases t;rw[iy,C3];rfl
def jB (l:Lt):Bool:=decide (100<l.pd.length)||l.xs.any iy
abbrev fE:aa:=[(0,.var 116 [.fn 67 [] [.ob 0 0]])]
abbrev Uv (c:UInt8):AV:= .im (.v (.int .u8 c.toNat))
theorem Ir (c:UInt8) (b:Bool):iW c b=((decide ((97:Int)<=c.toNat)&&decide ((c.toNat:Int)<=122)||decide ((65:Int)<=c.toNat)&&decide ((c.toNat:Int)<=90))||(!b&&((decide ((48:Int)<=c.toNat)&&decide ((c.toNat:Int)<=57)||decide ((c.toNat:Int)=95))||decide ((c.toNat:Int)=39)))):=by
 have U:(c==95)=decide ((c.toNat:Int)=95):=by
  rw[Bool.eq_iff_iff,beq_iff_eq,decide_eq_true_iff,<-UInt8.toNat_inj];show c.toNat=95↔_;omega
 have h2:(c==39)=decide ((c.toNat:Int)=39):=by
  rw[Bool.eq_iff_iff,beq_iff_eq,decide_eq_true_iff,<-UInt8.toNat_inj];show c.toNat=39↔_;omega
 have e:∀a d:Nat,decide (a<=d)=decide ((a:Int)<=(d:Int)):=fun a d=>by rw[decide_eq_decide];omega
 rw[iW,U,h2,e,e,e,e,e,e];rfl
theorem Is (c:UInt8) (b:Bool):aP Tryz.prog 148 [Uv c,Bv b] (Bv (iW c b)):=by
 refine aj.walk [0,1,4,5] [] Tryz.func148 rfl Tryz.ntmps148 (by kernel_rfl) (by rfl) rfl fun W own I0 aq lay=>?_
 refine gO ?_
 exact AE.aG rfl ⟨rfl,trivial⟩ rfl ⟨rfl,by rw[Ir];rfl⟩
theorem JA {t:List UInt8} {k:Nat} (h:k<t.length) (b:Bool):mY b (t.drop k)=(iW (t.getD k 0) b&&mY false (t.drop (k+1))):=by
 rw[List.drop_eq_getElem_cons h,mY,List.getD_eq_getElem?_getD,List.getElem?_eq_getElem h];rfl
theorem JB {t:List UInt8} (h:¬(t=[]\/60<t.length)):dW t=mY true t:=by
 have U:t≠[]:=fun e=>h (.inl e)
 have h2:t.length<=60:=by have:=fun e=>h (.inr e);omega
 rw[dW,decide_eq_true U,decide_eq_true h2];rfl
theorem JD {t:List UInt8} (h:t=[]\/60<t.length):dW t=false:=by
 rw[dW]
 rcases h with rfl|h
 ·rfl
 ·rw[show decide (t.length<=60)=false from decide_eq_false (by omega),Bool.and_false];rfl
theorem IE (t:List UInt8) (ht:t.length<=9223372036854775807):aP Tryz.prog 72 [Sv t] (Bv (dW t)):=by
 refine aj.walk [0,2,3,10,12,13,14,22] [] Tryz.func72 rfl Tryz.ntmps72 (by kernel_rfl) (by rfl) rfl fun W own I0 aq lay=>?_
 refine gO ?_
 refine AP.cond rfl rfl (fun h=>?_) (fun h=>?_)
 ·have h:t=[]\/60<t.length:=by
   simp at h;rcases h with h|h
   ·exact .inl h
   ·exact .inr (by omega)
  refine gO ?_
  exact AE.aG rfl ⟨rfl,trivial⟩ rfl ⟨rfl,by rw[JD h];rfl⟩
 ·have h:¬(t=[]\/60<t.length):=by
   intro h';simp at h;rcases h' with h'|h'
   ·exact h.1 h'
   ·omega
  have gI:=JB h
  refine gO ?_
  refine AP.loop rfl (α:=Nat) (fun k=>[(0,Sv t),(12,Iv t.length),(13,Iv k)]) (fun _=>[]) (fun k=>k<=t.length/\dW t=mY (decide (k=0)) (t.drop k)) (fun k=>t.length-k) 0 ⟨by omega,gI⟩ (sU) rfl fun k ⟨hk,hm⟩=>?_
  rcases Nat.eq_or_lt_of_le hk with aC|ag
  ·refine gO ?_
   refine cF ?_
   refine gO ?_
   exact AE.aG rfl ⟨rfl,trivial⟩ rfl ⟨rfl,by rw[hm,aC,List.drop_length,mY];rfl⟩
  ·have hw:=wr (x:=(k:Int)+1) (by omega)
   have cK:=JA ag (decide (k=0))
   refine gO ?_
   refine cT ?_
   refine gO ?_
   refine AQ.fn (by kernel_rfl) rfl rfl rfl (Is (t.getD k 0) (decide ((k:Int)=0))) rfl ?_
   refine sI ?_
   refine gO ?_
   have hd:decide (k=0)=decide ((k:Int)=0):=by rw[decide_eq_decide];omega
   rw[hd]at cK
   refine AP.cond rfl rfl (fun U=>?_) (fun U=>?_)
   ·refine gO ?_
    exact AE.aG rfl ⟨rfl,trivial⟩ rfl ⟨rfl,by rw[hm,hd,cK,show iW (t.getD k 0) (decide ((k:Int)=0))=false by simpa using U];rfl⟩
   ·refine gE @hw ?_
    refine AE.round (k+1) ⟨by omega,?_⟩ (by omega) (sU) rfl
    rw[hm,hd,cK,show iW (t.getD k 0) (decide ((k:Int)=0))=true by simpa using U];rfl
theorem Rk (c:UInt8) (b:Bool):aP Tryz.prog 151 [Uv c,Bv b] (Bv (iW c b)):=by
 refine aj.walk [0,1,4] [] Tryz.func151 rfl Tryz.ntmps151 (by kernel_rfl) (by rfl) rfl fun W own I0 aq lay=>?_
 refine gO ?_
 refine AE.aG rfl ⟨rfl,trivial⟩ rfl ⟨rfl,?_⟩
 rw[Ir,Bool.or_comm (decide ((97:Int)<=c.toNat)&&decide ((c.toNat:Int)<=122))];rfl
theorem IC (t:List UInt8) (ht:t.length<=9223372036854775807):aP Tryz.prog 77 [Sv t] (Bv (dW t)):=by
 refine aj.walk [0,2,3,11,15,24] [] Tryz.func77 rfl Tryz.ntmps77 (by kernel_rfl) (by rfl) rfl fun W own I0 aq lay=>?_
 refine gO ?_
 refine AP.cond rfl rfl (fun h=>?_) (fun h=>?_)
 ·have h:t=[]\/60<t.length:=by
   simp at h;rcases h with h|h
   ·exact .inl (List.length_eq_zero_iff.1 (by omega))
   ·exact .inr (by omega)
  refine gO ?_
  exact AE.aG rfl ⟨rfl,trivial⟩ rfl ⟨rfl,by rw[JD h];rfl⟩
 ·have h:¬(t=[]\/60<t.length):=by
   intro h';simp at h;rcases h' with h'|h'
   ·rw[h']at h;simp at h
   ·omega
  have gI:=JB h
  refine gO ?_
  refine AP.loop rfl (α:=Nat) (fun k=>[(0,Sv t),(3,Iv k)]) (fun _=>[]) (fun k=>k<=t.length/\dW t=mY (decide (k=0)) (t.drop k)) (fun k=>t.length-k) 0 ⟨by omega,gI⟩ (sU) rfl fun k ⟨hk,hm⟩=>?_
  rcases Nat.eq_or_lt_of_le hk with aC|ag
  ·refine gO ?_
   refine cF ?_
   refine gO ?_
   exact AE.aG rfl ⟨rfl,trivial⟩ rfl ⟨rfl,by rw[hm,aC,List.drop_length,mY];rfl⟩
  ·have hw:=wr (x:=(k:Int)+1) (by omega)
   have cK:=JA ag (decide (k=0))
   refine gO ?_
   refine cT ?_
   refine gO ?_
   refine AQ.fn (by kernel_rfl) rfl rfl rfl (Rk (t.getD k 0) (decide ((k:Int)=0))) rfl ?_
   refine sI ?_
   refine gO ?_
   have hd:decide (k=0)=decide ((k:Int)=0):=by rw[decide_eq_decide];omega
   rw[hd]at cK
   refine AP.cond rfl rfl (fun U=>?_) (fun U=>?_)
   ·refine gO ?_
    exact AE.aG rfl ⟨rfl,trivial⟩ rfl ⟨rfl,by rw[hm,hd,cK,show iW (t.getD k 0) (decide ((k:Int)=0))=false by simpa using U];rfl⟩
   ·refine gE @hw ?_
    refine AE.round (k+1) ⟨by omega,?_⟩ (by omega) (sU) rfl
    rw[hm,hd,cK,show iW (t.getD k 0) (decide ((k:Int)=0))=true by simpa using U];rfl
theorem GH (t:Tm) (hs:aU t):aP Tryz.prog 74 [bp t] (Iv (dp 2 3 t)):=by
 have cM:=eU.1 hs
 refine aj.walk [0,1,2,3,10,18,19] [] Tryz.func74 rfl Tryz.ntmps74 (by kernel_rfl) (by rfl) rfl fun W own I0 aq lay=>?_
 refine gO ?_
 refine AP.cond rfl rfl (fun h=>?_) (fun h=>?_)
 ·have hn:t.nm=[]:=by simpa using h
  refine gE @ah ?_
  refine AP.cond rfl rfl (fun U=>?_) (fun U=>?_)
  ·refine gO ?_
   exact AE.aG rfl ⟨rfl,trivial⟩ rfl ⟨rfl,by rw[dp,if_pos hn,if_pos (show t.xs≠[] by intro e;rw[e]at U;simp at U)];rfl⟩
  ·have hx:¬t.xs≠[]:=by simpa using U
   refine gO ?_
   refine AP.cond rfl rfl (fun h2=>?_) (fun h2=>?_)
   ·refine gO ?_
    exact AE.aG rfl ⟨rfl,trivial⟩ rfl ⟨rfl,by rw[dp,if_pos hn,if_neg hx,if_pos (by simpa using h2)];rfl⟩
   ·refine gO ?_
    exact AE.aG rfl ⟨rfl,trivial⟩ rfl ⟨rfl,by rw[dp,if_pos hn,if_neg hx,if_neg (by simpa using h2)];rfl⟩
 ·have hn:¬t.nm=[]:=by simpa using h
  refine gO ?_
  refine AQ.fn (by kernel_rfl) rfl rfl rfl (IE t.nm (by omega)) rfl ?_
  refine sI ?_
  refine gO ?_
  refine AP.cond rfl rfl (fun U=>?_) (fun U=>?_)
  ·refine gO ?_
   exact AE.aG rfl ⟨rfl,trivial⟩ rfl ⟨rfl,by rw[dp,if_neg hn,if_pos (by simpa using U)];rfl⟩
  ·refine gO ?_
   exact AE.aG rfl ⟨rfl,trivial⟩ rfl ⟨rfl,by rw[dp,if_neg hn,if_neg (by simpa using U)];rfl⟩
mutual
def ja:Tm->Int->Int×Int->Int×Int
 | .mk _ _ xs,k,s=>dF xs (k+1) (s.1+1,max s.2 k)
def dF:List Tm->Int->Int×Int->Int×Int
 |[],_,s=>s
 |t::l,k,s=>if 4000<s.1 then s else dF l k (ja t k s)
end
theorem K7 (t:Tm) (k:Int) (s:Int×Int):ja t k s=dF t.xs (k+1) (s.1+1,max s.2 k):=by cases t;rw[ja];rfl
theorem K9:∀(l:List Tm) (k:Int) (s:Int×Int),4000<s.1->dF l k s=s
 |[],_,_,_=>by rw[dF]
 |t::l,k,s,h=>by rw[dF,if_pos h]
theorem D4:∀(l m:List Tm) (k:Int) (s:Int×Int),dF (l++m) k s=dF m k (dF l k s)
 |[],m,k,s=>by rw[List.nil_append,dF]
 |t::l,m,k,s=>by
  rw[List.cons_append,dF,dF]
  split
  ·rename_i h;rw[K9 m k s h]
  ·exact D4 l m k _
mutual
theorem tj:∀(t:Tm) (k n d:Int),n+wT t<=4000->ja t k (n,d)=(n+wT t,max d (k-1+cG t))
 | .mk _ _ xs,k,n,d,h=>by
  rw[wT]at h
  rw[ja,wT,cG]
  simp only
  rw[K8 xs (k+1) (n+1) (max d k) (by omega) (by omega),Prod.mk.injEq]
  omega
theorem K8:∀(l:List Tm) (k n d:Int),k-1<=d->n+aw l<=4000->dF l k (n,d)=(n+aw l,max d (k-1+dm l))
 |[],k,n,d,hd,_=>by rw[dF,aw,dm,Prod.mk.injEq];omega
 |t::l,k,n,d,hd,h=>by
  rw[aw]at h
  rw[dF,if_neg (by simp only;omega),tj t k n d (by omega),K8 l k _ _ (by omega) (by omega),aw,dm,Prod.mk.injEq]
  omega
end
mutual
theorem K6:∀(t:Tm) (k n d:Int),n+1<=(ja t k (n,d)).1/\(ja t k (n,d)).1<=max (n+1) 4001/\(4000<n+wT t->4000<(ja t k (n,d)).1)
 | .mk _ _ xs,k,n,d=>by
  have h:=D3 xs (k+1) (n+1) (max d k)
  rw[ja,wT]
  simp only
  omega
theorem D3:∀(l:List Tm) (k n d:Int),n<=(dF l k (n,d)).1/\(dF l k (n,d)).1<=max n 4001/\(4000<n+aw l->4000<(dF l k (n,d)).1)
 |[],k,n,d=>by rw[dF,aw];simp only;omega
 |t::l,k,n,d=>by
  rw[dF]
  by_cases h:4000<(n,d).1
  ·rw[if_pos h];simp only at h⊢;omega
  ·rw[if_neg h,aw]
   simp only at h
   have U:=K6 t k n d
   obtain⟨n1,d1,he⟩:∃n1 d1,ja t k (n,d)=(n1,d1):=⟨_,_,rfl⟩
   have h2:=D3 l k n1 d1
   rw[he]
   have h3:n+wT t<=4000->n1=n+wT t:=fun hh=>by
    have:=tj t k n d hh
    rw[he,Prod.mk.injEq]at this;exact this.1
   rw[he]at U
   simp only at U
   by_cases hc:n+wT t<=4000
   ·have:=h3 hc;omega
   ·omega
end
theorem Tu {l:List Tm} {k:Nat} {u:Tm} (h:l[k]?=some u) (m:Int) (s:Int×Int):dF (l.take (k+1)) m s=if 4000<(dF (l.take k) m s).1 then dF (l.take k) m s else ja u m (dF (l.take k) m s):=by
 rw[c7 h,D4,dF]
 split
 ·rfl
 ·rw[dF]
theorem Tt {l:List Tm} (k:Nat) (m:Int) (s:Int×Int) (h:4000<(dF (l.take k) m s).1):dF l m s=dF (l.take k) m s:=by
 conv=>lhs;rw[<-List.take_append_drop k l,D4]
 exact K9 _ _ _ h
abbrev oL (s:Int×Int):aa:=[(0,.var 164 [Iv s.1,Iv s.2])]
theorem D1 (t:Tm) (k n d:Int) (hs:aU t) (hn:0<=n/\n<=1000000000000) (hk:0<=k/\k<=n+1):
  aj Tryz.prog 147 [.ob 0 0,bp t,Iv k] (oL (n,d)) (fun r H'=>r= .aM []/\H'=oL (ja t k (n,d))):=by
 have cM:=eU.1 hs
 have hx:=cM.2.1
 have CB:=wr (x:=n+1) (by omega)
 have vx:=wr (x:=k+1) (by omega)
 refine aj.walk [0,1,2,4,7,25,26,27,28,35] [7] Tryz.func147 rfl Tryz.ntmps147 (by kernel_rfl) (by rfl) rfl fun W own I0 aq lay=>?_
 refine gE (an @CB @ah) ?_
 refine AP.loop rfl (α:=Nat) (fun j=>[(0,.ob 0 0),(2,Iv k),(25,.im (.sl 3 (ax t.xs))),(26,Iv t.xs.length),(27,Iv j)]) (fun j=>oL (dF (t.xs.take j) (k+1) (n+1,max d k))) (fun j=>j<=t.xs.length) (fun j=>t.xs.length-j) 0 (by omega) (sU) (by rw[List.take_zero,dF,show max d k=if d<k then k else d from by split<;>omega];rfl) fun j hj=>?_
 have hb:=D3 (t.xs.take j) (k+1) (n+1) (max d k)
 rcases Nat.eq_or_lt_of_le hj with dV|ag
 ·subst dV
  rw[List.take_length]
  refine gO ?_
  refine cF ?_
  refine gO ?_
  exact AE.iL rfl trivial ⟨rfl,by rw[K7]⟩
 ·obtain⟨u,hu,aF⟩:=cz t.xs j ag
  have hw:=wr (x:=(j:Int)+1) (by omega)
  have bc:=Tu hu (k+1) (n+1,max d k)
  have oa:=fun h=>Tt (l:=t.xs) j (k+1) (n+1,max d k) h
  obtain⟨n1,d1,he⟩:∃n1 d1,dF (t.xs.take j) (k+1) (n+1,max d k)=(n1,d1):=⟨_,_,rfl⟩
  rw[he]at hb bc oa⊢
  simp only at hb bc oa
  simp only[go_sem,Nat.reduceAdd,Nat.reduceLeDiff,Nat.reduceSub,Int.reduceToNat,reduceCtorEq,oL]
  refine gO ?_
  refine cT ?_
  refine gE @aF ?_
  refine⟨by rw[ah];omega,?_⟩
  refine gO ?_
  refine AP.cond rfl rfl (fun U=>?_) (fun U=>?_)
  ·have U:4000<n1:=by simpa using U
   refine gO ?_
   refine AE.dq [1] rfl ?_
   refine sI ?_
   exact AE.ret rfl ⟨⟩ ⟨rfl,by rw[K7,oa U]⟩
  ·have U:¬4000<n1:=by simpa using U
   rw[if_neg U]at bc
   refine gE @vx ?_
   refine AQ.bz [(0,0)] (by kernel_rfl) rfl rfl rfl rfl rfl rfl (by exact⟨rfl,trivial⟩) rfl (D1 u (k+1) n1 d1 (cA cM.2.2 hu) (by omega) (by omega)) ?_
   rintro r H' ⟨rfl,rfl⟩
   refine⟨rfl,?_⟩
   simp only[go_sem,Nat.reduceAdd,Nat.reduceLeDiff,Nat.reduceSub,Int.reduceToNat,reduceCtorEq,oL,c6,eK,bZ,fh]
   refine gE @hw ?_
   refine AE.dq [1] rfl ?_
   refine sI ?_
   exact AE.round (j+1) (by omega) (by omega) (sU) (by rw[bc])
termination_by SizeOf.sizeOf t
decreasing_by exact iF hu
def eI:List Tm->Int×Int->Int×Int
 |[],s=>s
 |t::l,s=>eI l (ja t 1 s)
def fa:List Lt->Int×Int->Int×Int
 |[],s=>s
 |l::c,s=>fa c (eI l.xs (s.1+1,s.2))
theorem I_:∀(l m:List Tm) (s:Int×Int),eI (l++m) s=eI m (eI l s)
 |[],m,s=>rfl
 |t::l,m,s=>by rw[List.cons_append,eI,eI,I_ l m]
theorem I6:∀(c e:List Lt) (s:Int×Int),fa (c++e) s=fa e (fa c s)
 |[],e,s=>rfl
 |l::c,e,s=>by rw[List.cons_append,fa,fa,I6 c e]
theorem I9:∀(l:List Tm) (n d:Int),0<=d->n+aw l<=4000->eI l (n,d)=(n+aw l,max d (dm l))
 |[],n,d,h,_=>by rw[eI,aw,dm,Prod.mk.injEq];omega
 |t::l,n,d,hd,h=>by
  rw[aw]at h
  rw[eI,tj t 1 n d (by omega),I9 l _ _ (by omega) (by omega),aw,dm,Prod.mk.injEq];omega
theorem zj:∀(l:List Tm) (n d:Int),n<=(eI l (n,d)).1/\(eI l (n,d)).1<=max n 4000+l.length/\(4000<n+aw l->4000<(eI l (n,d)).1)
 |[],n,d=>by rw[eI,aw];simp only[List.length_nil];omega
 |t::l,n,d=>by
  have U:=K6 t 1 n d
  obtain⟨n1,d1,he⟩:∃n1 d1,ja t 1 (n,d)=(n1,d1):=⟨_,_,rfl⟩
  have h2:=zj l n1 d1
  have h3:n+wT t<=4000->n1=n+wT t:=fun hh=>by
   have:=tj t 1 n d hh
   rw[he,Prod.mk.injEq]at this;exact this.1
  rw[he]at U
  simp only at U
  rw[eI,he,aw,List.length_cons]
  by_cases hc:n+wT t<=4000
  ·have:=h3 hc;omega
  ·omega
theorem I5:∀(c:List Lt) (n d:Int),0<=d->n+bC c<=4000->fa c (n,d)=(n+bC c,max d (cW c))
 |[],n,d,h,_=>by rw[fa,cW,Prod.mk.injEq];simp only[bC,List.map_nil,List.sum_nil];omega
 |l::c,n,d,hd,h=>by
  rw[iB]at h
  rw[fa]
  simp only
  rw[I9 l.xs (n+1) d hd (by omega),I5 c _ _ (by omega) (by omega),iB,cW,Prod.mk.injEq];omega
theorem I8:∀(l:List Tm) (n d:Int),n+aw l<=4000->(eI l (n,d)).1=n+aw l
 |[],n,d,_=>by rw[eI,aw];simp
 |t::l,n,d,h=>by
  rw[aw]at h
  rw[eI,tj t 1 n d (by omega),I8 l _ _ (by omega),aw];omega
theorem Dc:∀(c:List Lt) (n d:Int),n<=(fa c (n,d)).1/\(4000<n+bC c->4000<(fa c (n,d)).1)
 |[],n,d=>by rw[fa];simp only[bC,List.map_nil,List.sum_nil];omega
 |l::c,n,d=>by
  have U:=zj l.xs (n+1) d
  have h3:=I8 l.xs (n+1) d
  obtain⟨n1,d1,he⟩:∃n1 d1,eI l.xs (n+1,d)=(n1,d1):=⟨_,_,rfl⟩
  have h2:=Dc c n1 d1
  rw[he]at U h3
  simp only at U h3
  rw[fa]
  simp only
  rw[he,iB]
  by_cases hc:n+1+aw l.xs<=4000
  ·have:=h3 hc;omega
  ·omega
theorem I7:∀(c:List Lt) (n d:Int),(∀l∈c,l.xs.length<=1000000000)->(fa c (n,d)).1<=max n 4000+c.length*1000000001
 |[],n,d,_=>by rw[fa];simp only[List.length_nil];omega
 |l::c,n,d,h=>by
  have U:=zj l.xs (n+1) d
  obtain⟨n1,d1,he⟩:∃n1 d1,eI l.xs (n+1,d)=(n1,d1):=⟨_,_,rfl⟩
  have h2:=I7 c n1 d1 fun m hm=>h m (by simp[hm])
  have h3:=h l (by simp)
  rw[he]at U
  simp only at U
  rw[fa]
  simp only
  rw[he,List.length_cons]
  omega
def mc (c:List Lt):Int:=if 40<c.length then 4 else if 4000<bC c then 4 else if 100<cW c then 9 else 0
theorem Rn (c:List Lt) (h:¬40<c.length):mc c=if 4000<(fa c (0,0)).1 then 4 else if 100<(fa c (0,0)).2 then 9 else 0:=by
 rw[mc,if_neg h]
 by_cases hc:4000<bC c
 ·rw[if_pos hc,if_pos ((Dc c 0 0).2 (by omega))]
 ·have:=I5 c 0 0 (by omega) (by omega)
  rw[if_neg hc,this]
  simp only
  by_cases hd:100<cW c
  ·rw[if_pos hd,if_neg (show¬(4000:Int)<0+(bC c:Int) by omega),if_pos (show(100:Int)<max 0 (cW c:Int) by omega)]
  ·rw[if_neg hd,if_neg (show¬(4000:Int)<0+(bC c:Int) by omega),if_neg (show¬(100:Int)<max 0 (cW c:Int) by omega)]
theorem Rw {l:List Tm} {k:Nat} {u:Tm} (h:l[k]?=some u) (s:Int×Int):eI (l.take (k+1)) s=ja u 1 (eI (l.take k) s):=by
 rw[c7 h,I_];rfl
theorem Rv {c:List Lt} {k:Nat} {u:Lt} (h:c[k]?=some u) (s:Int×Int):fa (c.take (k+1)) s=eI u.xs ((fa (c.take k) s).1+1,(fa (c.take k) s).2):=by
 rw[c7 h,I6];rfl
theorem Rp (c:List Lt) (hs:cC c):aP Tryz.prog 71 [aK c] (Iv (mc c)):=by
 refine aj.walk [0,2,3,5,7,10,13,14,15,16,27,28,29,30,42,47] [5,7,12] Tryz.func71 rfl Tryz.ntmps71 (by kernel_rfl) (by rfl) rfl fun W own I0 aq lay=>?_
 refine gE @aA ?_
 refine AP.cond rfl rfl (fun h=>?_) (fun h=>?_)
 ·have h:40<c.length:=by simp at h;omega
  refine gO ?_
  exact AE.aG rfl ⟨rfl,trivial⟩ rfl ⟨rfl,by rw[mc,if_pos h];rfl⟩
 have h:¬40<c.length:=by simp at h;omega
 have fk:=Rn c h
 refine gE @aA ?_
 refine AP.loop rfl (α:=Nat) (fun k=>[(3,.ob 0 0),(13,aK c),(14,Iv c.length),(15,Iv k)]) (fun k=>oL (fa (c.take k) (0,0))) (fun k=>k<=c.length) (fun k=>c.length-k) 0 (by omega) (sU) (by rw[List.take_zero,fa];rfl) fun k hk=>?_
 rcases Nat.eq_or_lt_of_le hk with aC|ag
 ·subst aC
  rw[List.take_length]
  refine gO ?_
  refine cF ?_
  obtain⟨n1,d1,he⟩:∃n1 d1,fa c (0,0)=(n1,d1):=⟨_,_,rfl⟩
  rw[he]at fk⊢
  simp only at fk
  simp only[go_sem,Nat.reduceAdd,Nat.reduceLeDiff,Nat.reduceSub,Int.reduceToNat,reduceCtorEq,oL]
  refine gO ?_
  refine AP.cond rfl rfl (fun U=>?_) (fun U=>?_)
  ·rw[if_pos (by simpa using U)]at fk
   refine gO ?_
   exact AE.aX [0] rfl ⟨rfl,trivial⟩ rfl ⟨rfl,by rw[fk];rfl⟩
  ·rw[if_neg (by simpa using U)]at fk
   refine gO ?_
   refine AP.cond rfl rfl (fun h2=>?_) (fun h2=>?_)
   ·rw[if_pos (by simpa using h2)]at fk
    refine gO ?_
    exact AE.aX [0] rfl ⟨rfl,trivial⟩ rfl ⟨rfl,by rw[fk];rfl⟩
   ·rw[if_neg (by simpa using h2)]at fk
    refine gO ?_
    exact AE.aX [0] rfl ⟨rfl,trivial⟩ rfl ⟨rfl,by rw[fk];rfl⟩
 ·obtain⟨u,hu,aF⟩:=fT c k ag
  have hw:=wr (x:=(k:Int)+1) (by omega)
  have bH:=kZ hs hu
  have mV:=bH.2.1
  have fC:=(Dc (c.take k) 0 0).1
  have H4:=I7 (c.take k) 0 0 fun l hl=>(hs.2 l (List.mem_of_mem_take hl)).2.1
  have Qq:(c.take k).length<=40:=by rw[List.length_take];omega
  have bc:=Rv hu (0,0)
  obtain⟨n1,d1,he⟩:∃n1 d1,fa (c.take k) (0,0)=(n1,d1):=⟨_,_,rfl⟩
  rw[he]at fC H4 bc⊢
  simp only at fC H4 bc
  have b8:=wr (x:=n1+1) (by omega)
  simp only[go_sem,Nat.reduceAdd,Nat.reduceLeDiff,Nat.reduceSub,Int.reduceToNat,reduceCtorEq,oL]
  refine gO ?_
  refine cT ?_
  refine gE @aF ?_
  refine⟨by rw[aA];omega,?_⟩
  refine gE (an @b8 @ah) ?_
  refine AP.loop rfl (α:=Nat) (fun j=>[(3,.ob 0 0),(13,aK c),(14,Iv c.length),(15,Iv k),(27,.im (.sl 3 (ax u.xs))),(28,Iv u.xs.length),(29,Iv j)]) (fun j=>[(1,.var 119 [Bv u.ng,Sv u.pd,.im (.sl 3 (ax u.xs))]),(0,.var 164 [Iv (eI (u.xs.take j) (n1+1,d1)).1,Iv (eI (u.xs.take j) (n1+1,d1)).2])]) (fun j=>j<=u.xs.length) (fun j=>u.xs.length-j) 0 (by omega) (sU) (by rw[List.take_zero,eI];rfl) fun j hj=>?_
  rcases Nat.eq_or_lt_of_le hj with dV|fQ
  ·subst dV
   rw[List.take_length]
   refine gO ?_
   refine cF ?_
   refine gE @hw ?_
   refine AE.dq [1] rfl ?_
   refine sI ?_
   exact AE.round (k+1) (by omega) (by omega) (sU) (by rw[bc])
  ·obtain⟨v,hv,cg⟩:=cz u.xs j fQ
   have eH:=wr (x:=(j:Int)+1) (by omega)
   have gY:=Rw hv (n1+1,d1)
   have jV:=zj (u.xs.take j) (n1+1) d1
   have WD:(u.xs.take j).length<=1000000000:=by rw[List.length_take];omega
   obtain⟨n2,d2,yp⟩:∃n2 d2,eI (u.xs.take j) (n1+1,d1)=(n2,d2):=⟨_,_,rfl⟩
   rw[yp]at jV gY⊢
   simp only at jV
   refine sI ?_
   refine gO ?_
   refine cT ?_
   refine gE @cg ?_
   refine⟨by rw[ah];omega,?_⟩
   refine gO ?_
   refine AQ.bz [(0,0)] (by kernel_rfl) rfl rfl rfl rfl rfl rfl (by exact⟨rfl,trivial⟩) rfl (D1 v 1 n2 d2 (cA bH.2.2 hv) (by omega) (by omega)) ?_
   rintro r H' ⟨rfl,rfl⟩
   refine⟨rfl,?_⟩
   simp only[go_sem,Nat.reduceAdd,Nat.reduceLeDiff,Nat.reduceSub,Int.reduceToNat,reduceCtorEq,oL,c6,eK,bZ,fh]
   refine gE @eH ?_
   refine AE.dq [2] rfl ?_
   refine sI ?_
   exact AE.round (j+1) (by omega) (by omega) (sU) (by rw[gY])
theorem JI (t:Tm) (m:Int) (hs:aU t) (hm:0<=m/\m<=1000000000):aP Tryz.prog 75 [bp t,Iv m] (Iv (gN t m)):=by
 have cM:=eU.1 hs
 refine aj.walk [0,1,2,4,5,6,16] [] Tryz.func75 rfl Tryz.ntmps75 (by kernel_rfl) (by rfl) rfl fun W own I0 aq lay=>?_
 refine gE @ah ?_
 refine AP.loop rfl (α:=Nat) (fun k=>[(1,Iv m),(2,.im (kQ t)),(5,Iv (bj (t.xs.take k) m 1)),(6,Iv k)]) (fun _=>[]) (fun k=>k<=t.xs.length) (fun k=>t.xs.length-k) 0 (by omega) (by rw[List.take_zero,bj];exact(sU)) rfl fun k hk=>?_
 have hx:=cM.2.1
 have hb:=wG (t.xs.take k) m 1 hm.1 (by omega) (by omega)
 have oa:=D6 (l:=t.xs) k m 1
 refine gE @ah ?_
 refine AP.cond rfl rfl (fun U=>?_) (fun U=>?_)
 ·have ag:k<t.xs.length:=by simp at U;omega
  have h2:¬m<bj (t.xs.take k) m 1:=by simp at U;omega
  obtain⟨u,hu,aF⟩:=cz t.xs k ag
  have hw:=wr (x:=(k:Int)+1) (by omega)
  have bc:=zX hu m 1
  rw[if_neg h2]at bc
  clear oa
  generalize hn:bj (t.xs.take k) m 1=n at*
  have ha:=rl u (m-n) (by omega)
  have b8:=wr (x:=m-n) (by omega)
  have eH:=wr (x:=n+gN u (m-n)) (by omega)
  refine gE (an @aF (an @b8 @ah)) ?_
  refine AQ.fn (by kernel_rfl) rfl rfl rfl (JI u (m-n) (cA cM.2.2 hu) (by omega)) rfl ?_
  refine sI ?_
  refine gE (an @hw @eH) ?_
  exact AE.round (k+1) (by omega) (by omega) (by rw[bc];exact(sU)) rfl
 ·have mK:gN t m=bj (t.xs.take k) m 1:=by
   rw[D5]
   by_cases h2:m<bj (t.xs.take k) m 1
   ·exact oa h2
   ·have:k=t.xs.length:=by simp at U;omega
    rw[this,List.take_length]
  refine gO ?_
  exact AE.aG rfl ⟨rfl,trivial⟩ rfl ⟨rfl,by rw[mK];rfl⟩
termination_by SizeOf.sizeOf t
decreasing_by exact iF hu
theorem F_:∀(l:List Tm) (m:Int),0<=m->decide (m<(dm l:Int))=l.any fun a=>decide (m<(cG a:Int))
 |[],m,h=>by rw[dm];exact decide_eq_false (by omega)
 |t::l,m,h=>by
  rw[List.any_cons,<-F_ l m h,dm,Bool.eq_iff_iff,Bool.or_eq_true,decide_eq_true_iff,decide_eq_true_iff,decide_eq_true_iff];omega
theorem MG {α:Type} (p:α->Bool) {l:List α} {k:Nat} {u:α} (h:l[k]?=some u):(l.drop k).any p=(p u||(l.drop (k+1)).any p):=by
 obtain⟨U,h2⟩:=List.getElem?_eq_some_iff.1 h
 rw[List.drop_eq_getElem_cons U,h2,List.any_cons]
theorem FO (t:Tm) (m:Int) (hs:aU t) (hm:0<=m/\m<=1000000000):aP Tryz.prog 76 [bp t,Iv m] (Bv (decide (m<(cG t:Int)))):=by
 have cM:=eU.1 hs
 have hx:=cM.2.1
 have hd:=F9 t
 refine aj.walk [0,1,2,4,5,7,12,22] [] Tryz.func76 rfl Tryz.ntmps76 (by kernel_rfl) (by rfl) rfl fun W own I0 aq lay=>?_
 refine gO ?_
 refine AP.cond rfl rfl (fun h=>?_) (fun h=>?_)
 ·have h:m<1:=by simpa using h
  refine gO ?_
  exact AE.aG rfl ⟨rfl,trivial⟩ rfl ⟨rfl,by rw[decide_eq_true (by omega)];rfl⟩
 have h:¬m<1:=by simpa using h
 have mK:decide (m<(cG t:Int))=t.xs.any fun a=>decide (m-1<(cG a:Int)):=by
  rw[<-F_ t.xs (m-1) (by omega),decide_eq_decide];omega
 have b8:=wr (x:=m-1) (by omega)
 refine gO ?_
 refine AP.loop rfl (α:=Nat) (fun k=>[(1,Iv m),(2,.im (kQ t)),(5,Iv k)]) (fun _=>[]) (fun k=>k<=t.xs.length/\decide (m<(cG t:Int))=(t.xs.drop k).any fun a=>decide (m-1<(cG a:Int))) (fun k=>t.xs.length-k) 0 ⟨by omega,mK⟩ (sU) rfl fun k ⟨hk,cZ⟩=>?_
 rcases Nat.eq_or_lt_of_le hk with aC|ag
 ·refine gE @ah ?_
  refine cF ?_
  refine gO ?_
  exact AE.aG rfl ⟨rfl,trivial⟩ rfl ⟨rfl,by rw[cZ,aC,List.drop_length];rfl⟩
 ·obtain⟨u,hu,aF⟩:=cz t.xs k ag
  have hw:=wr (x:=(k:Int)+1) (by omega)
  have cK:=MG (fun a=>decide (m-1<(cG a:Int))) hu
  refine gE @ah ?_
  refine cT ?_
  refine gE (an @aF (an @b8 @ah)) ?_
  refine AQ.fn (by kernel_rfl) rfl rfl rfl (FO u (m-1) (cA cM.2.2 hu) (by omega)) rfl ?_
  refine sI ?_
  refine gO ?_
  refine AP.cond rfl rfl (fun h5=>?_) (fun h5=>?_)
  ·refine gO ?_
   exact AE.aG rfl ⟨rfl,trivial⟩ rfl ⟨rfl,by rw[cZ,cK,show decide (m-1<(cG u:Int))=true by simpa using h5];rfl⟩
  ·refine gE @hw ?_
   exact AE.round (k+1) ⟨by omega,by rw[cZ,cK,show decide (m-1<(cG u:Int))=false by simpa using h5];rfl⟩ (by omega) (sU) rfl
termination_by SizeOf.sizeOf t
decreasing_by exact iF hu
theorem Bb {l:List Tm} {k:Nat} {u:Tm} (h:l[k]?=some u):cY 2 3 (l.drop k)=if gF 2 3 u≠0 then gF 2 3 u else cY 2 3 (l.drop (k+1)):=by
 obtain⟨U,h2⟩:=List.getElem?_eq_some_iff.1 h
 rw[List.drop_eq_getElem_cons U,h2,cY]
theorem GD (t:Tm) (hs:aU t):aP Tryz.prog 78 [bp t] (Iv (gF 2 3 t)):=by
 have cM:=eU.1 hs
 have hx:=cM.2.1
 have hf:=Od 2 3 t
 have kl:dp 2 3 t=_:=dp.eq_def 2 3 t
 refine aj.walk [0,1,2,3,4,7,11,19,28,33,43] [] Tryz.func78 rfl Tryz.ntmps78 (by kernel_rfl) (by rfl) rfl fun W own I0 aq lay=>?_
 refine gO ?_
 refine AP.cond rfl rfl (fun h=>?_) (fun h=>?_)
 ·have hn:t.nm=[]:=by simpa using h
  rw[if_pos hn]at kl
  refine gE @ah ?_
  refine AP.cond rfl rfl (fun U=>?_) (fun U=>?_)
  ·rw[if_pos (show t.xs≠[] by intro e;rw[e]at U;simp at U)]at kl
   rw[kl]at hf
   refine gO ?_
   exact AE.aG rfl ⟨rfl,trivial⟩ rfl ⟨rfl,by rw[hf];rfl⟩
  ·have py:t.xs=[]:=by simpa using U
   rw[if_neg (by simpa using py)]at kl
   refine gO ?_
   refine AP.cond rfl rfl (fun h2=>?_) (fun h2=>?_)
   ·rw[if_pos (by simp at h2;omega)]at kl
    rw[kl]at hf
    refine gO ?_
    exact AE.aG rfl ⟨rfl,trivial⟩ rfl ⟨rfl,by rw[hf];rfl⟩
   ·rw[if_neg (by simp at h2;omega)]at kl
    rw[kl,py,cY]at hf
    refine gO ?_
    exact AE.aG rfl ⟨rfl,trivial⟩ rfl ⟨rfl,by rw[hf];rfl⟩
 ·have hn:¬t.nm=[]:=by simpa using h
  rw[if_neg hn]at kl
  refine gO ?_
  refine AQ.fn (by kernel_rfl) rfl rfl rfl (IC t.nm (by omega)) rfl ?_
  refine sI ?_
  refine gO ?_
  refine AP.cond rfl rfl (fun U=>?_) (fun U=>?_)
  ·rw[if_pos (by simpa using U)]at kl
   rw[kl]at hf
   refine gO ?_
   exact AE.aG rfl ⟨rfl,trivial⟩ rfl ⟨rfl,by rw[hf];rfl⟩
  ·rw[if_neg (by simpa using U)]at kl
   rw[kl,if_neg (by decide)]at hf
   refine gO ?_
   refine AP.loop rfl (α:=Nat) (fun k=>[(1,.im (kQ t)),(3,Iv k)]) (fun _=>[]) (fun k=>k<=t.xs.length/\gF 2 3 t=cY 2 3 (t.xs.drop k)) (fun k=>t.xs.length-k) 0 ⟨by omega,hf⟩ (sU) rfl fun k ⟨hk,hm⟩=>?_
   rcases Nat.eq_or_lt_of_le hk with aC|ag
   ·refine gE @ah ?_
    refine cF ?_
    refine gO ?_
    exact AE.aG rfl ⟨rfl,trivial⟩ rfl ⟨rfl,by rw[hm,aC,List.drop_length,cY];rfl⟩
   ·obtain⟨u,hu,aF⟩:=cz t.xs k ag
    have hw:=wr (x:=(k:Int)+1) (by omega)
    have cK:=Bb hu
    refine gE @ah ?_
    refine cT ?_
    refine gE (an @aF @ah) ?_
    refine AQ.fn (by kernel_rfl) rfl rfl rfl (GD u (cA cM.2.2 hu)) rfl ?_
    refine sI ?_
    refine gO ?_
    refine AP.cond rfl rfl (fun h5=>?_) (fun h5=>?_)
    ·refine gO ?_
     exact AE.aG rfl ⟨rfl,trivial⟩ rfl ⟨rfl,by rw[hm,cK,if_pos (by simpa using h5)];rfl⟩
    ·refine gE @hw ?_
     exact AE.round (k+1) ⟨by omega,by rw[hm,cK,if_neg (by simpa using h5)]⟩ (by omega) (sU) rfl
termination_by SizeOf.sizeOf t
decreasing_by exact iF hu
theorem drop_cons {α:Type} {l:List α} {k:Nat} {u:α} (h:l[k]?=some u):l.drop k=u::l.drop (k+1):=by
 obtain⟨U,h2⟩:=List.getElem?_eq_some_iff.1 h
 rw[List.drop_eq_getElem_cons U,h2]
theorem Ba (l:Lt) (c:List Lt):fM 2 3 (l::c)=if(l.pd≠[61]/\dW l.pd=false)\/(l.pd=[61]/\l.xs.length≠2)then 2 else if cY 2 3 l.xs≠0 then cY 2 3 l.xs else fM 2 3 c:=by
 rw[fM,rY]
 by_cases h:(l.pd≠[61]/\dW l.pd=false)\/(l.pd=[61]/\l.xs.length≠2)
 ·rw[if_pos h,if_pos h,if_pos (by decide)]
 ·rw[if_neg h,if_neg h]
theorem GF (pd:List UInt8) (n:Nat) (b:Bool):(pd==[61]&&(n:Int)!=2||!(pd==[61])&&!b)=true↔(pd≠[61]/\b=false)\/(pd=[61]/\n≠2):=by
 have aD:((n:Int)=2)↔n=2:=by omega
 by_cases hp:pd=[61]<;>cases b<;>by_cases hl:n=2<;>simp[hp,hl,aD]
theorem AF (c:List Lt) (hs:cC c):aP Tryz.prog 16 [aK c] (Iv (aW 4 9 2 3 c)):=by
 have b5:=hs.1
 have dU:aW 4 9 2 3 c=_:=aW.eq_def 4 9 2 3 c
 have bg:=Jw c 4000 (by omega)
 rw[pN]at bg
 refine aj.walk [0,2,3,4,5,6,7,8,9,10,14,18,32,49,53,63,74,78,112,120,133] [] Tryz.func16 rfl Tryz.ntmps16 (by kernel_rfl) (by rfl) rfl fun W own I0 aq lay=>?_
 refine gE @aA ?_
 refine AP.cond rfl rfl (fun h=>?_) (fun h=>?_)
 ·rw[if_pos (by simp at h;omega)]at dU
  refine gO ?_
  exact AE.aG rfl ⟨rfl,trivial⟩ rfl ⟨rfl,by rw[dU];rfl⟩
 rw[if_neg (by simp at h;omega)]at dU
 have ye:c.length<=40:=by simp at h;omega
 refine gO ?_
 refine AP.loop rfl (α:=Nat) (fun k=>[(0,aK c),(3,Iv (bj ((c.take k).flatMap (·.xs)) 4000 c.length)),(4,Iv k)]) (fun _=>[]) (fun k=>k<=c.length) (fun k=>c.length-k) 0 (by omega) (by rw[List.take_zero,List.flatMap_nil,bj];exact(sU)) rfl fun k hk=>?_
 rcases Nat.eq_or_lt_of_le hk with aC|ag
 ·subst aC
  rw[List.take_length]
  refine gE @aA ?_
  refine cF ?_
  refine sI ?_
  refine gO ?_
  refine AP.cond rfl rfl (fun U=>?_) (fun U=>?_)
  ·have U:4000<bj (c.flatMap (·.xs)) 4000 c.length:=by simpa using U
   rw[if_pos (Classical.byContradiction fun hc=>by have:=bg.1 (by omega);omega)]at dU
   refine gO ?_
   exact AE.aG rfl ⟨rfl,trivial⟩ rfl ⟨rfl,by rw[dU];rfl⟩
  have U:¬4000<bj (c.flatMap (·.xs)) 4000 c.length:=by simpa using U
  rw[if_neg (fun hc=>U (bg.2 (by omega)))]at dU
  refine gO ?_
  refine AP.loop rfl (α:=Nat) (fun k=>[(0,aK c),(6,Iv k)]) (fun _=>[]) (fun k=>k<=c.length/\(100<cW c↔100<cW (c.drop k))) (fun k=>c.length-k) 0 ⟨by omega,Iff.rfl⟩ (sU) rfl fun k ⟨hk,hm⟩=>?_
  rcases Nat.eq_or_lt_of_le hk with aC|ag
  ·rw[aC,List.drop_length,cW]at hm
   rw[if_neg (fun hc=>by have:=hm.1 hc;omega)]at dU
   subst aC
   refine gE @aA ?_
   refine cF ?_
   refine sI ?_
   refine gO ?_
   refine AP.loop rfl (α:=Nat) (fun k=>[(0,aK c),(8,Iv k)]) (fun _=>[]) (fun k=>k<=c.length/\aW 4 9 2 3 c=fM 2 3 (c.drop k)) (fun k=>c.length-k) 0 ⟨by omega,dU⟩ (sU) rfl fun k ⟨hk,cZ⟩=>?_
   rcases Nat.eq_or_lt_of_le hk with aC|ag
   ·rw[aC,List.drop_length,fM]at cZ
    refine gE @aA ?_
    refine cF ?_
    refine gO ?_
    exact AE.aG rfl ⟨rfl,trivial⟩ rfl ⟨rfl,by rw[cZ];rfl⟩
   ·obtain⟨u,hu,aF⟩:=fT c k ag
    have hw:=wr (x:=(k:Int)+1) (by omega)
    have bH:=kZ hs hu
    have mV:=bH.2.1
    rw[drop_cons hu,Ba]at cZ
    refine gE @aA ?_
    refine cT ?_
    refine gE (an @aF (an @aA @ah)) ?_
    refine AQ.mG (by kernel_rfl) rfl rfl (fun h=>by first|(simp[gs,AV.g];done)|(simp[gs,AV.g,bN];done)|(simp[gs,AV.g,bN,bw]at h⊢;done)|(simp[gs,AV.g,bN,bw]at h⊢;exact h)|(simp[gs,AV.g,bN,bw]at h⊢;simp[h];done)|(simp[bw]at h;done)|(simp[gs,AV.g,bw]at h⊢;simp[h];done)|(simp[gs,AV.g,bw]at h⊢;exact h.1)|(simp[gs,AV.g];rfl)|(simp[gs,AV.g,bw]at h⊢;rfl)|(simp[gs,AV.g,bw]at h⊢;simp[h];rfl)|(simp[gs,AV.g,bw]at h⊢;simp_all)) rfl (fun _=>IC u.pd (by have:=bH.1;omega)) rfl ?_
    refine sI ?_
    refine gE (an @aF (an @aA @ah)) ?_
    refine AP.cond rfl rfl (fun h5=>?_) (fun h5=>?_)
    ·have h5:=(GF u.pd u.xs.length (dW u.pd)).1 h5
     rw[if_pos h5]at cZ
     refine gO ?_
     exact AE.aG rfl ⟨rfl,trivial⟩ rfl ⟨rfl,by rw[cZ];rfl⟩
    ·have h5:¬((u.pd≠[61]/\dW u.pd=false)\/(u.pd=[61]/\u.xs.length≠2)):=fun hh=>by
      have h6:=(GF u.pd u.xs.length (dW u.pd)).2 hh
      exact absurd (h6.symm.trans h5) (by decide)
     rw[if_neg h5]at cZ
     refine gO ?_
     refine AP.loop rfl (α:=Nat) (fun j=>[(0,aK c),(8,Iv k),(9,Iv j)]) (fun _=>[]) (fun j=>j<=u.xs.length/\aW 4 9 2 3 c=if cY 2 3 (u.xs.drop j)≠0 then cY 2 3 (u.xs.drop j)else fM 2 3 (c.drop (k+1))) (fun j=>u.xs.length-j) 0 ⟨by omega,cZ⟩ (sU) rfl fun j ⟨hj,iT⟩=>?_
     rcases Nat.eq_or_lt_of_le hj with dV|fQ
     ·rw[dV,List.drop_length,cY,if_neg (by decide)]at iT
      refine gE (an @aF (an @aA @ah)) ?_
      refine cF ?_
      refine gE @hw ?_
      exact AE.round (k+1) ⟨by omega,iT⟩ (by omega) (sU) rfl
     ·obtain⟨v,hv,cg⟩:=cz u.xs j fQ
      have eH:=wr (x:=(j:Int)+1) (by omega)
      rw[Bb hv]at iT
      refine gE (an @aF (an @aA @ah)) ?_
      refine cT ?_
      refine gE (an @aF (an @cg (an @aA @ah))) ?_
      refine AQ.fn (by kernel_rfl) rfl rfl rfl (GD v (cA bH.2.2 hv)) rfl ?_
      refine sI ?_
      refine gO ?_
      refine AP.cond rfl rfl (fun h6=>?_) (fun h6=>?_)
      ·have h6:gF 2 3 v≠0:=by simpa using h6
       rw[if_pos h6,if_pos h6]at iT
       refine gO ?_
       exact AE.aG rfl ⟨rfl,trivial⟩ rfl ⟨rfl,by rw[iT];rfl⟩
      ·have h6:¬gF 2 3 v≠0:=by simpa using h6
       rw[if_neg h6]at iT
       refine gE @eH ?_
       exact AE.round (j+1) ⟨by omega,iT⟩ (by omega) (sU) rfl
  ·obtain⟨u,hu,aF⟩:=fT c k ag
   have hw:=wr (x:=(k:Int)+1) (by omega)
   have bH:=kZ hs hu
   have mV:=bH.2.1
   have lh:100<cW c↔100<dm u.xs\/100<cW (c.drop (k+1)):=by rw[hm,drop_cons hu,cW];omega
   refine gE @aA ?_
   refine cT ?_
   refine gO ?_
   refine AP.loop rfl (α:=Nat) (fun j=>[(0,aK c),(6,Iv k),(7,Iv j)]) (fun _=>[]) (fun j=>j<=u.xs.length/\(100<cW c↔100<dm (u.xs.drop j)\/100<cW (c.drop (k+1)))) (fun j=>u.xs.length-j) 0 ⟨by omega,lh⟩ (sU) rfl fun j ⟨hj,iT⟩=>?_
   rcases Nat.eq_or_lt_of_le hj with dV|fQ
   ·rw[dV,List.drop_length,dm]at iT
    refine gE (an @aF (an @aA @ah)) ?_
    refine cF ?_
    refine gE @hw ?_
    exact AE.round (k+1) ⟨by omega,by omega⟩ (by omega) (sU) rfl
   ·obtain⟨v,hv,cg⟩:=cz u.xs j fQ
    have eH:=wr (x:=(j:Int)+1) (by omega)
    rw[drop_cons hv,dm]at iT
    refine gE (an @aF (an @aA @ah)) ?_
    refine cT ?_
    refine gE (an @aF (an @cg (an @aA @ah))) ?_
    refine AQ.fn (by kernel_rfl) rfl rfl rfl (FO v 100 (cA bH.2.2 hv) (by omega)) rfl ?_
    refine sI ?_
    refine gO ?_
    refine AP.cond rfl rfl (fun h5=>?_) (fun h5=>?_)
    ·have h5:(100:Int)<cG v:=by simpa using h5
     rw[if_pos (iT.2 (by omega))]at dU
     refine gO ?_
     exact AE.aG rfl ⟨rfl,trivial⟩ rfl ⟨rfl,by rw[dU];rfl⟩
    ·have h5:¬(100:Int)<cG v:=by simpa using h5
     refine gE @eH ?_
     exact AE.round (j+1) ⟨by omega,by rw[iT];omega⟩ (by omega) (sU) rfl
 ·obtain⟨u,hu,aF⟩:=fT c k ag
  have hw:=wr (x:=(k:Int)+1) (by omega)
  have bH:=kZ hs hu
  have mV:=bH.2.1
  have fe:=wF ((c.take k).flatMap (·.xs)) 4000 c.length (by omega) (by omega)
  have nZ:=Gv hu
  obtain⟨n0,n6⟩:∃n0,bj ((c.take k).flatMap (·.xs)) 4000 c.length=n0:=⟨_,rfl⟩
  rw[n6]at fe⊢
  refine gE @aA ?_
  refine cT ?_
  refine gO ?_
  refine AP.loop rfl (α:=Nat) (fun j=>[(0,aK c),(3,Iv (bj (u.xs.take j) 4000 n0)),(4,Iv k),(5,Iv j)]) (fun _=>[]) (fun j=>j<=u.xs.length) (fun j=>u.xs.length-j) 0 (by omega) (by rw[List.take_zero,bj];exact(sU)) rfl fun j hj=>?_
  have hb:=wF (u.xs.take j) 4000 n0 (by omega) (by omega)
  have oa:=D6 (l:=u.xs) j 4000 n0
  refine gE (an @aF (an @aA @ah)) ?_
  refine AP.cond rfl rfl (fun U=>?_) (fun U=>?_)
  ·have fQ:j<u.xs.length:=by simp at U;omega
   have h2:¬4000<bj (u.xs.take j) 4000 n0:=by simp at U;omega
   obtain⟨v,hv,cg⟩:=cz u.xs j fQ
   have eH:=wr (x:=(j:Int)+1) (by omega)
   have bc:=zX hv 4000 n0
   rw[if_neg h2]at bc
   clear oa
   generalize hn:bj (u.xs.take j) 4000 n0=n at*
   have ha:=rl v (4000-n) (by omega)
   have vw:=wr (x:=4000-n) (by omega)
   have sB:=wr (x:=n+gN v (4000-n)) (by omega)
   refine gE (an @aF (an @cg (an @vw (an @aA @ah)))) ?_
   refine AQ.fn (by kernel_rfl) rfl rfl rfl (JI v (4000-n) (cA bH.2.2 hv) (by omega)) rfl ?_
   refine sI ?_
   refine gE (an @eH @sB) ?_
   exact AE.round (j+1) (by omega) (by omega) (by rw[bc];exact(sU)) rfl
  ·have mK:bj ((c.take (k+1)).flatMap (·.xs)) 4000 c.length=bj (u.xs.take j) 4000 n0:=by
    rw[nZ,rm,n6]
    by_cases h2:4000<bj (u.xs.take j) 4000 n0
    ·exact oa h2
    ·have:j=u.xs.length:=by simp at U;omega
     rw[this,List.take_length]
   refine gE @hw ?_
   exact AE.round (k+1) (by omega) (by omega) (by rw[mK];exact(sU)) rfl
def dw (t:Tm):List Lt:=[⟨false,[80],[t]⟩]
theorem Tf {t:Tm} (h:aU t):cC (dw t):=by
 refine⟨by simp[dw],fun l hl=>?_⟩
 rw[dw,List.mem_singleton]at hl
 subst hl
 exact⟨by simp,by simp,by rw[cq,cq];exact⟨h,trivial⟩⟩
abbrev M3 (b:Int×Tm):List IV:=[Ii b.1,Si b.2.nm,Ii b.2.ix,.sl 3 (ax b.2.xs)]
def db (l:Bd):List (List IV):=l.map M3
abbrev cE (l:Bd):AV:= .im (.sl 4 (db l))
theorem aI (l:Bd):(db l).length=l.length:=by rw[db,List.length_map]
theorem qj (l:Bd) (k:Nat) (h:k<l.length):∃b,l[k]?=some b/\(db l).getD k []=[Ii b.1,Si b.2.nm,Ii b.2.ix,.sl 3 (ax b.2.xs)]:=by
 refine⟨l[k],List.getElem?_eq_getElem h,?_⟩
 rw[List.getD_eq_getElem?_getD,db,List.getElem?_map,List.getElem?_eq_getElem h];rfl
def je (l:Bd):Prop:=l.length<=1000000000/\∀b∈l,aU b.2
theorem find_spec (l:Bd) (v:Int) (hs:je l):aP Tryz.prog 170 [cE l,Iv v] (Iv (dK (fun b:Int×Tm=>decide (b.1=v)) l 0)):=by
 have hl:=hs.1
 refine aj.walk [0,1,4,5,9,18] [] Tryz.func170 rfl Tryz.ntmps170 (by kernel_rfl) (by rfl) rfl fun W own I0 aq lay=>?_
 refine gO ?_
 refine AP.loop rfl (α:=Nat) (fun k=>[(0,cE l),(1,Iv v),(5,Iv k)]) (fun _=>[]) (fun k=>k<=l.length/\dK (fun b:Int×Tm=>decide (b.1=v)) l 0=dK (fun b:Int×Tm=>decide (b.1=v)) (l.drop k) k) (fun k=>l.length-k) 0 ⟨by omega,rfl⟩ (sU) rfl fun k ⟨hk,hm⟩=>?_
 rcases Nat.eq_or_lt_of_le hk with aC|ag
 ·refine gE @aI ?_
  refine cF ?_
  refine gO ?_
  exact AE.aG rfl ⟨rfl,trivial⟩ rfl ⟨rfl,by rw[hm,aC,List.drop_length,dK];rfl⟩
 ·obtain⟨u,hu,aF⟩:=qj l k ag
  have hw:=wr (x:=(k:Int)+1) (by omega)
  have cK:=vK (fun b:Int×Tm=>decide (b.1=v)) hu
  refine gE @aI ?_
  refine cT ?_
  refine gE (an @aF @aI) ?_
  refine AP.cond rfl rfl (fun U=>?_) (fun U=>?_)
  ·refine gO ?_
   exact AE.aG rfl ⟨rfl,trivial⟩ rfl ⟨rfl,by rw[hm,cK,if_pos (by simpa using U)];rfl⟩
  ·refine gE @hw ?_
   exact AE.round (k+1) ⟨by omega,by rw[hm,cK,if_neg (by simpa using U)]⟩ (by omega) (sU) rfl
theorem IG:∀(l:Bd) (v:Int) (i:Nat),(dh l v=none->dK (fun b:Int×Tm=>decide (b.1=v)) l i=-1)/\(∀x,dh l v=some x->∃k,dK (fun b:Int×Tm=>decide (b.1=v)) l i=((i+k:Nat):Int)/\l[k]?=some (v,x))
 |[],v,i=>⟨fun _=>by rw[dK],fun x h=>by cases h⟩
 |b::l,v,i=>by
  rw[dh,dK]
  by_cases h:b.1=v
  ·rw[if_pos h,if_pos (decide_eq_true h)]
   refine⟨fun h'=>(by cases h'),fun x hx=>⟨0,rfl,?_⟩⟩
   simp only[Option.some.injEq]at hx
   rw[List.getElem?_cons_zero,<-h,<-hx]
  ·rw[if_neg h,if_neg (by simpa using h)]
   obtain⟨U,h2⟩:=IG l v (i+1)
   refine⟨U,fun x hx=>?_⟩
   obtain⟨k,e1,e2⟩:=h2 x hx
   exact⟨k+1,by rw[e1];congr 1;omega,by rw[List.getElem?_cons_succ];exact e2⟩
mutual
def ru (l:Bd):Tm->Tm
 | .mk n i xs=>if n=[]then(dh l i).getD (.mk n i xs)else .mk n 0 (nn l xs)
def nn (l:Bd):List Tm->List Tm
 |[]=>[]
 |t::k=>ru l t::nn l k
end
theorem Ua (l:Bd) (t:Tm):ru l t=if t.nm=[]then(dh l t.ix).getD t else .mk t.nm 0 (nn l t.xs):=by cases t;rw[ru];rfl
theorem wN (l:Bd):∀k,nn l k=k.map (ru l)
 |[]=>by rw[nn];rfl
 |t::k=>by rw[nn,wN l k];rfl
theorem T_ (l:Bd) {t:Tm} (h:Lf t):ru l t=aB (bo l) t:=by
 induction h with
 |mk t hx h0 k ih=>
  have ht:Lf t:=⟨t,hx,h0,k⟩
  rw[Ua,nJ]
  by_cases hn:t.nm=[]
  ·rw[if_pos hn,if_pos hn,bo]
   have:=ht.var hn
   cases dh l t.ix with
   |none=>exact this
   |some x=>rfl
  ·rw[if_neg hn,if_neg hn,wN,h_,List.map_congr_left ih]
mutual
def oI (l:Bd):Tm->Int
 | .mk n i xs=>if n=[]then(match dh l i with
   |some x=>min (gN x 5000) 5000
   |none=>1)else wy l xs 1
def wy (l:Bd):List Tm->Int->Int
 |[],a=>a
 |t::k,a=>wy l k (min (a+oI l t) 5000)
end
mutual
theorem DX (l:Bd):∀t:Tm,dE t=true->oI l t=min (wT (aB (bo l) t):Int) 5000
 | .mk n i xs,h=>by
  rw[dE]at h
  rw[oI,aB]
  by_cases hn:n=[]
  ·rw[if_pos hn,if_pos hn,bo]
   cases dh l i with
   |none=>simp only[Option.getD_none,cQ,wT,aw];omega
   |some x=>
    simp only[Option.getD_some]
    have:=rl x 5000 (by omega)
    by_cases hc:(wT x:Int)<=5000
    ·rw[this.1 hc]
    ·have:=this.2.1 (by omega);omega
  ·rw[if_neg hn,Bool.and_eq_true]at h
   rw[if_neg hn,if_neg hn,wT,KG l xs 1 h.2 (by omega)];omega
theorem KG (l:Bd):∀(k:List Tm) (a:Int),cf k=true->0<=a/\a<=5000->wy l k a=min (a+aw (bf (bo l) k)) 5000
 |[],a,_,ha=>by rw[wy,bf,aw];omega
 |t::k,a,h,ha=>by
  rw[cf,Bool.and_eq_true]at h
  rw[wy,bf,aw,DX l t h.1,KG l k _ h.2 (by omega)];omega
end
def fJ (p:Bd):Bd->Int
 |[]=>0
 |b::l=>if b.1<0\/999<b.1 then 3 else if(dh p b.1).isSome then 6 else if aW 4 9 2 3 (dw b.2)≠0 then aW 4 9 2 3 (dw b.2)else fJ (p++[b]) l
theorem M8 {l:Bd} {k:Nat} {u:Int×Tm} (h:l[k]?=some u):fJ (l.take k) (l.drop k)=if u.1<0\/999<u.1 then 3 else if(dh (l.take k) u.1).isSome then 6 else if aW 4 9 2 3 (dw u.2)≠0 then aW 4 9 2 3 (dw u.2)else fJ (l.take (k+1)) (l.drop (k+1)):=by
 rw[drop_cons h,fJ,c7 h]
def nE (l:Bd):List Tm->Int->Int
 |[],n=>n
 |t::k,n=>if 4000<n+oI l t then n+oI l t else nE l k (n+oI l t)
def Eb (l:Bd) (x:Lt):Lt:=⟨x.ng,x.pd,nn l x.xs⟩
theorem uj {c:List Lt} {k:Nat} {u:Lt} (h:c[k]?=some u) (j:Nat):∃r,c.flatMap (·.xs)=((c.take k).flatMap (·.xs)++u.xs.take j)++r:=by
 refine⟨u.xs.drop j++(c.drop (k+1)).flatMap (·.xs),?_⟩
 have U:c=c.take k++(u::c.drop (k+1)):=by rw[<-drop_cons h,List.take_append_drop]
 conv=>lhs;rw[U]
 rw[List.flatMap_append,List.flatMap_cons,List.append_assoc,<-List.append_assoc (u.xs.take j),List.take_append_drop]
def nG (c:List Lt) (l:Bd):List Lt:=c.map (Eb l)
def rI (c:List Lt) (l:Bd):Int:=if 4000<nE l (c.flatMap (·.xs)) c.length then 15 else if aW 4 9 2 3 (nG c l)=4\/aW 4 9 2 3 (nG c l)=9 then 15 else 0
def tL (c:List Lt) (l:Bd):List Lt:=if rI c l=0 then nG c l else[]
def tN (c:List Lt) (l:Bd):Int:=if aW 4 9 2 3 c≠0 then aW 4 9 2 3 c else if fJ [] l≠0 then fJ [] l else rI c l
def oW (c:List Lt) (l:Bd):List Lt:=if aW 4 9 2 3 c≠0 then[]else if fJ [] l≠0 then[]else tL c l
theorem Nz (x:AV) (w:World) (φ:al) (I:Nat->Prop) (v:Value) (h:AV.den w φ I (.aM [eL,x]) v):AV.den w φ I (.aM [aK [],x]) v:=by
 rw[AV.den]at h⊢
 obtain⟨us,hu,rfl⟩:=h
 refine⟨us,?_,rfl⟩
 rw[AV.ab]at hu⊢
 obtain⟨a,b,e,U,h2⟩:=hu
 exact⟨a,b,e,Dz 3 w φ I a U,h2⟩
structure Yields (P:Program) (nb l n:Nat) (args:Nat->List AV) (Hs:Nat->aa) (m:Nat) (Hx:aa):Prop where
 go:∀k,k<m->k<n->f_ P nb l (args k) (Hs k) (fun r H'=>r=Bv true/\H'=Hs (k+1))
 stop:m<n->f_ P nb l (args m) (Hs m) (fun r H'=>r=Bv false/\H'=Hx)
 low:∀k k',eJ nb (Hs k) (Hs k')
 Jc:∀k,eJ nb (Hs k) Hx
def L2 (Hs:Nat->aa) (m:Nat) (Hx:aa) (k:Nat) (r:AV) (H':aa):Prop:=
 (k<=m/\r=Bv true/\H'=Hs k)\/(m<k/\r=Bv false/\H'=Hx)
def DO (Hs:Nat->aa) (m:Nat) (Hx:aa) (n:Nat) (_:AV) (H':aa):Prop:=(n<=m/\H'=Hs n)\/(m<n/\H'=Hx)
def zZ (xs:List Tm) (k:Nat):List AV:=match xs[k]? with
 |some t=>[bp t]
 |none=>[]
theorem wL {xs:List Tm} {k:Nat} {t:Tm} (h:xs[k]?=some t):zZ xs k=[bp t]:=by rw[zZ,h]
theorem L3 {nb l m:Nat} {Hs:Nat->aa} {Hx:aa} {args:Nat->List AV} {n:Nat} (hy:Yields Tryz.prog nb l n args Hs m Hx) (k q:Nat) (r:AV) (H':aa) (h:L2 Hs m Hx q r H'):eJ nb (Hs k) H':=by
 rcases h with⟨_,_,rfl⟩|⟨_,_,rfl⟩
 ·exact hy.low k q
 ·exact hy.Jc k
abbrev qa (l b:Nat):Ob:= .var 219 [.fn 195 [] [.im (.pt [.v (.func (.yield l) #[] #[])]),.ob b 0]]
theorem DY:∀l m:List Tm,ck (l++m)=ck l++ck m
 |[],m=>by rw[ck];rfl
 |t::l,m=>by rw[List.cons_append,ck,ck,DY l m,List.append_assoc]
theorem Tb {l:List Tm} {j:Nat} {u:Tm} (h:l[j]?=some u):ck l=ck (l.take j)++(bQ u++ck (l.drop (j+1))):=by
 conv=>lhs;rw[<-List.take_append_drop j l,drop_cons h]
 rw[DY,ck]
theorem Td {l:List Tm} {j:Nat} {u:Tm} (h:l[j]?=some u):ck (l.take (j+1))=ck (l.take j)++bQ u:=by
 rw[c7 h,DY,ck,ck,List.append_nil]
theorem LW {nb l m b M:Nat} {Hs:Nat->aa} {Hx:aa} {xs:List Tm} (hy:Yields Tryz.prog nb l xs.length (zZ xs) Hs m Hx) (hb:∀k,lk (Hs k) b=some (qa l b)) (dJ:b<nb) (hM:nb<=M) (bg:∀k,cU (Hs k)=M) (e6:∀k r,iM M r (Hs k)=Hs k) (t:Tm) (ht:aU t) (k:Nat) (hk:k<=m) (hx:∀j,j<(bQ t).length->xs[k+j]?=(bQ t)[j]?):
  iJ Tryz.prog nb 195 [bp t,.im (.pt [.v (.func (.yield l) #[] #[])]),.ob b 0] (Hs k) (L2 Hs m Hx (k+(bQ t).length)):=by
 have yQ:=eU.1 ht
 have hit:xs[k]?=some t:=by
  have:=hx 0 (by rw[wz];simp)
  rw[Nat.add_zero]at this
  rw[this,wz];rfl
 have yC:k<xs.length:=(List.getElem?_eq_some_iff.1 hit).1
 have pz:∀j,j<(ck t.xs).length->xs[k+1+j]?=(ck t.xs)[j]?:=fun j hj=>by
  rw[show k+1+j=k+(j+1) by omega,hx (j+1) (by rw[wz];simpa using hj),wz];rfl
 have hlen:k+(bQ t).length=k+1+(ck t.xs).length:=by rw[wz,List.length_cons];omega
 rw[hlen]
 have fB:Nat.ble nb b=false:=by cases hq:Nat.ble nb b with|false=>rfl|true=>exact absurd (Nat.le_of_ble_eq_true hq) (by omega)
 have G7:Nat.ble nb M=true:=Nat.ble_eq_true_of_le hM
 have yf:Nat.beq M M=true:=by simp
 have Bw:Nat.beq M b=false:=by cases hq:Nat.beq M b with|false=>rfl|true=>exact absurd (Nat.eq_of_beq_eq_true hq) (by omega)
 have OU:Nat.beq b M=false:=by cases hq:Nat.beq b M with|false=>rfl|true=>exact absurd (Nat.eq_of_beq_eq_true hq) (by omega)
 refine iJ.walk [0,1,2,3,4,6,10,12,13,14,15,21] [6] Tryz.func195 rfl Tryz.ntmps195 (by kernel_rfl) (by rfl) fun W own I0 aq lay=>?_
 refine gO ?_
 have PQ:=fun k q r H' h=>L3 hy k q r H' h
 by_cases hm:k<m
 ·have vC:=hy.go k hm yC
  rw[wL hit]at vC
  refine AQ.wU nb (Nat.ble_eq_true_of_le (Nat.le_refl _)) (by kernel_rfl) rfl ⟨rfl,rfl⟩ rfl rfl vC (fun r H' h=>by rw[h.2];exact hy.low _ _) fun r H' h=>?_
  obtain⟨rfl,rfl⟩:=h
  refine sE @fB ?_
  refine AQ.go (by kernel_rfl) ?_
  refine gE (an @fB @ah) ?_
  refine AP.loop rfl (α:=Nat) (fun j=>[(1,.im (.pt [.v (.func (.yield l) #[] #[])])),(2,.ob b 0),(12,.im (.sl 3 (ax t.xs))),(13,Iv t.xs.length),(14,Iv j)]) (fun j=>Hs (k+1+(ck (t.xs.take j)).length)) (fun j=>j<=t.xs.length/\k+1+(ck (t.xs.take j)).length<=m) (fun j=>t.xs.length-j) 0 ⟨by omega,by rw[List.take_zero,ck];exact hm⟩ (sU) (by rw[List.take_zero,ck];rfl) fun j ⟨hj,jY⟩=>?_
  rcases Nat.eq_or_lt_of_le hj with dV|ag
  ·subst dV
   rw[List.take_length]at jY⊢
   refine gE @ah ?_
   refine cF ?_
   refine gO ?_
   exact AE.ret rfl ⟨rfl,trivial⟩ (.inl ⟨jY,rfl,rfl⟩)
  ·obtain⟨u,hu,aF⟩:=cz t.xs j ag
   have bH:=cA yQ.2.2 hu
   have hw:=wr (x:=(j:Int)+1) (by omega)
   have mU:=Tb hu
   have bx:=Td hu
   have ih:=LW hy hb dJ hM bg e6 u bH (k+1+(ck (t.xs.take j)).length) jY fun i hi=>by
    have hl:(ck t.xs).length=(ck (t.xs.take j)).length+((bQ u).length+(ck (t.xs.drop (j+1))).length):=by rw[mU,List.length_append,List.length_append]
    rw[Nat.add_assoc,pz _ (by omega),mU,List.getElem?_append_right (by omega),Nat.add_sub_cancel_left,List.getElem?_append_left hi]
   have hn:k+1+(ck (t.xs.take (j+1))).length=k+1+(ck (t.xs.take j)).length+(bQ u).length:=by rw[bx,List.length_append];omega
   have hle:(ck (t.xs.take (j+1))).length<=(ck t.xs).length:=by
    rw[bx,mU,List.length_append,List.length_append,List.length_append];omega
   refine gE @ah ?_
   refine cT ?_
   refine gE (an @aF (an @hb (an @bg (an @G7 (an @yf @Bw))))) ?_
   refine⟨by rw[ah];omega,?_⟩
   refine gE (an @aF (an @hb (an @bg (an @G7 (an @yf @Bw))))) ?_
   refine AQ.fix M (by simp only[lk,yf,cond_true];rfl) rfl ?_
   refine sE (an @yf (an @Bw (an @OU @e6))) ?_
   refine AQ.Fl nb (Nat.ble_eq_true_of_le (Nat.le_refl _)) (by kernel_rfl) rfl rfl rfl ih (fun r H' h=>PQ _ _ r H' h) fun r H' h=>?_
   rw[<-hn]at h
   rcases h with⟨U,rfl,rfl⟩|⟨U,rfl,rfl⟩
   ·refine sE @fB ?_
    refine AQ.go (by kernel_rfl) ?_
    refine gE (an @fB @hw) ?_
    exact AE.round (j+1) ⟨by omega,U⟩ (by omega) (sU) rfl
   ·refine sE @fB ?_
    refine AQ.go (by kernel_rfl) ?_
    refine gE @fB ?_
    exact AE.ret rfl ⟨rfl,trivial⟩ (.inr ⟨by omega,rfl,rfl⟩)
 ·have il:k=m:=by omega
  have vC:=hy.stop (by omega)
  rw[<-il,wL hit]at vC
  refine AQ.wU nb (Nat.ble_eq_true_of_le (Nat.le_refl _)) (by kernel_rfl) rfl ⟨rfl,rfl⟩ rfl rfl vC (fun r H' h=>by rw[h.2];exact hy.Jc _) fun r H' h=>?_
  obtain⟨rfl,rfl⟩:=h
  refine sE @fB ?_
  refine AQ.go (by kernel_rfl) ?_
  refine gE @fB ?_
  exact AE.ret rfl ⟨rfl,trivial⟩ (.inr ⟨by omega,rfl,rfl⟩)
termination_by SizeOf.sizeOf t
decreasing_by exact iF hu
theorem Lh {nb l m M:Nat} {Hs:Nat->aa} {Hx:aa} (t:Tm) (ht:aU t) (hy:Yields Tryz.prog (M+1) l (bQ t).length (zZ (bQ t)) (fun k=>(M,qa l M)::Hs k) m ((M,qa l M)::Hx)) (hM:Nat.ble nb M=true) (bg:∀k,cU (Hs k)=M) (e6:∀k r,iM (M+1) r (Hs k)=Hs k):
  iJ Tryz.prog nb 194 [Yl l,.im (kQ t)] (Hs 0) (DO (fun k=>(M,qa l M)::Hs k) m ((M,qa l M)::Hx) (bQ t).length):=by
 refine iJ.walk [0,1,2,3] [3] Tryz.func194 rfl Tryz.ntmps194 (by kernel_rfl) (by rfl) fun W own I0 aq lay=>?_
 refine gE (an @bg @hM) ?_
 have U:Nat.beq M (M+1)=false:=by cases hq:Nat.beq M (M+1)with|false=>rfl|true=>exact absurd (Nat.eq_of_beq_eq_true hq) (by omega)
 have h2:Nat.beq M M=true:=by simp
 have h3:Nat.ble M M=true:=Nat.ble_eq_true_of_le (Nat.le_refl _)
 have hw:=LW (k:=0) (xs:=bQ t) hy (fun k=>by simp only[lk,h2,cond_true]) (Nat.lt_succ_self _) (Nat.le_refl _) (fun k=>by simp only[cU,bg,h3,cond_true]) (fun k r=>by simp only[iM,o9,gU,fx,U,e6,cond_false]) t ht (Nat.zero_le _) (fun j _=>by rw[Nat.zero_add])
 rw[Nat.zero_add]at hw
 refine AQ.Fl (M+1) (Nat.ble_eq_true_of_le (Nat.le_succ_of_le (Nat.le_of_ble_eq_true hM))) (by kernel_rfl) rfl rfl rfl hw (fun r H' h=>L3 hy _ _ r H' h) fun r H' h=>?_
 rcases h with⟨h4,rfl,rfl⟩|⟨h4,rfl,rfl⟩
 ·refine sI ?_
  refine AQ.go (by kernel_rfl) ?_
  refine gO ?_
  exact AE.iL rfl trivial (.inl ⟨h4,rfl⟩)
 ·refine sI ?_
  refine AQ.go (by kernel_rfl) ?_
  refine gO ?_
  exact AE.iL rfl trivial (.inr ⟨h4,rfl⟩)
theorem Ll (t:Tm):aP Tryz.prog 150 [bp t] (.fn 194 [] [.im (kQ t)]):=by
 refine aj.walk [0,1,2] [] Tryz.func150 rfl Tryz.ntmps150 (by kernel_rfl) (by rfl) rfl fun W own I0 aq lay=>?_
 refine gO ?_
 exact AE.aG rfl ⟨rfl,trivial⟩ rfl ⟨rfl,rfl⟩
theorem TM (c:List Lt):aP Tryz.prog 73 [aK c] (.fn 149 [] [.im (.pt [.sl 3 (bP c)])]):=by
 refine aj.walk [0,1,2] [] Tryz.func73 rfl Tryz.ntmps73 (by kernel_rfl) (by rfl) rfl fun W own I0 aq lay=>?_
 refine gO ?_
 exact AE.aG rfl ⟨rfl,trivial⟩ rfl ⟨rfl,rfl⟩
theorem Nx (c:List Lt):aW 4 9 2 3 c=if mc c≠0 then mc c else fM 2 3 c:=by
 rw[aW,mc]
 by_cases U:40<c.length
 ·rw[if_pos U,if_pos U,if_pos (by decide)]
 ·rw[if_neg U,if_neg U]
  by_cases h2:4000<bC c
  ·rw[if_pos h2,if_pos h2,if_pos (by decide)]
  ·rw[if_neg h2,if_neg h2]
   by_cases h3:100<cW c
   ·rw[if_pos h3,if_pos h3,if_pos (by decide)]
   ·rw[if_neg h3,if_neg h3,if_neg (by decide)]
theorem Ro {c:List Lt} (h:¬mc c≠0):c.length<=40:=Classical.byContradiction fun hc=>h (by rw[mc,if_pos (by omega)];decide)
theorem GG (pd:List UInt8) (n:Nat) (b:Bool):((!(pd==[61])&&!b)||(pd==[61]&&(n:Int)!=2))=true↔(pd≠[61]/\b=false)\/(pd=[61]/\n≠2):=by
 have aD:((n:Int)=2)↔n=2:=by omega
 by_cases hp:pd=[61]<;>cases b<;>by_cases hl:n=2<;>simp[hp,hl,aD]
noncomputable def fK (l:Nat) (st:gA):Ob:= .lp l 53 st Tryz.f15 [0,1,1,1,0,0,1,1,0,0,1,0,1,1] [46] [(2,.ob 0 0)]
noncomputable def oO (l l2:Nat) (st:gA):Ob:= .lp l2 30 st Tryz.f149 [0,1,1,0,0,1,1,0,0,1,1,0,0,1,1,0,0,1,1] [23] [(2,.im (.pt [.v (.func (.yield l) #[] #[])]))]
noncomputable def gS (l l2:Nat) (Tr st:gA) (e:Int):aa:=[(3,qa l2 3),(2,oO l l2 Tr),(1,fK l st),(0,.var 30 [Iv e])]
theorem Nv (nb l l2:Nat) (t:Tm) (ht:aU t) (hf:dp 2 3 t=0) (hnb:Nat.ble nb 4=true):f_ Tryz.prog nb l [bp t] (gS l l2 .busy .ready 0) (fun r H'=>r=Bv true/\H'=gS l l2 .busy .ready 0):=by
 refine f_.walk (b:=1) [2,6,7,46,50] [2] rfl rfl rfl fun w own I0 aq lay=>?_
 simp only[go_sem,Nat.reduceAdd,Nat.reduceLeDiff,Nat.reduceSub,Int.reduceToNat,reduceCtorEq,nw,gS,fK,oO]
 refine gE @hnb ?_
 refine AE.begin (b:=1) rfl rfl _ ?_
 refine sI ?_
 refine gO ?_
 refine AQ.fn (by kernel_rfl) rfl rfl rfl (GH t ht) rfl ?_
 refine sI ?_
 refine gE @hf ?_
 refine AE.dq [4] rfl ?_
 refine sI ?_
 exact AE.td (b:=1) rfl ⟨rfl,rfl⟩
theorem Nw (nb l l2:Nat) (t:Tm) (ht:aU t) (hf:dp 2 3 t≠0) (hnb:Nat.ble nb 4=true):f_ Tryz.prog nb l [bp t] (gS l l2 .busy .ready 0) (fun r H'=>r=Bv false/\H'=gS l l2 .busy (.done .ret) (dp 2 3 t)):=by
 refine f_.walk (b:=1) [2,6,7,46,50] [2] rfl rfl rfl fun w own I0 aq lay=>?_
 simp only[go_sem,Nat.reduceAdd,Nat.reduceLeDiff,Nat.reduceSub,Int.reduceToNat,reduceCtorEq,nw,gS,fK,oO]
 refine gE @hnb ?_
 refine AE.begin (b:=1) rfl rfl _ ?_
 refine sI ?_
 refine gO ?_
 refine AQ.fn (by kernel_rfl) rfl rfl rfl (GH t ht) rfl ?_
 refine sI ?_
 refine gO ?_
 refine AP.cond rfl rfl (fun h=>?_) (fun h=>?_)
 ·refine gO ?_
  refine AE.dq [4] rfl ?_
  refine sI ?_
  exact AE.Ko (b:=1) rfl ⟨rfl,rfl⟩
 ·exact absurd (by simpa using h) hf
theorem TX (l l2:Nat) (t:Tm) (ht:aU t) (hf:dp 2 3 t=0):f_ Tryz.prog 4 l2 [bp t] (gS l l2 .ready .ready 0) (fun r H'=>r=Bv true/\H'=gS l l2 .ready .ready 0):=by
 have hy:=Nv 4 l l2 t ht hf rfl
 refine f_.walk (b:=2) [2,7,23,26,27] [] rfl rfl rfl fun w own I0 aq lay=>?_
 simp only[go_sem,Nat.reduceAdd,Nat.reduceLeDiff,Nat.reduceSub,Int.reduceToNat,reduceCtorEq,nw,gS,fK,oO]
 refine gO ?_
 refine AE.begin (b:=2) rfl rfl _ ?_
 refine sI ?_
 refine gO ?_
 refine AQ.fix 4 rfl rfl ?_
 refine sI ?_
 refine AQ.wU 4 (Nat.ble_eq_true_of_le (Nat.le_refl _)) (by kernel_rfl) rfl ⟨rfl,rfl⟩ rfl rfl hy (fun r H' h=>by rw[h.2];exact eJ.of _ _ _ rfl) fun r H' h=>?_
 obtain⟨rfl,rfl⟩:=h
 simp only[go_sem,Nat.reduceAdd,Nat.reduceLeDiff,Nat.reduceSub,Int.reduceToNat,reduceCtorEq,gS,fK,oO]
 refine AQ.go (by kernel_rfl) ?_
 refine gO ?_
 exact AE.td (b:=2) rfl ⟨rfl,rfl⟩
theorem TY (l l2:Nat) (t:Tm) (ht:aU t) (hf:dp 2 3 t≠0):f_ Tryz.prog 4 l2 [bp t] (gS l l2 .ready .ready 0) (fun r H'=>r=Bv false/\H'=gS l l2 (.done .ret) (.done .ret) (dp 2 3 t)):=by
 have hy:=Nw 4 l l2 t ht hf rfl
 refine f_.walk (b:=2) [2,7,23,26,27] [] rfl rfl rfl fun w own I0 aq lay=>?_
 simp only[go_sem,Nat.reduceAdd,Nat.reduceLeDiff,Nat.reduceSub,Int.reduceToNat,reduceCtorEq,nw,gS,fK,oO]
 refine gO ?_
 refine AE.begin (b:=2) rfl rfl _ ?_
 refine sI ?_
 refine gO ?_
 refine AQ.fix 4 rfl rfl ?_
 refine sI ?_
 refine AQ.wU 4 (Nat.ble_eq_true_of_le (Nat.le_refl _)) (by kernel_rfl) rfl ⟨rfl,rfl⟩ rfl rfl hy (fun r H' h=>by rw[h.2];exact eJ.of _ _ _ rfl) fun r H' h=>?_
 obtain⟨rfl,rfl⟩:=h
 simp only[go_sem,Nat.reduceAdd,Nat.reduceLeDiff,Nat.reduceSub,Int.reduceToNat,reduceCtorEq,gS,fK,oO]
 refine AQ.go (by kernel_rfl) ?_
 refine gO ?_
 exact AE.Ko (b:=2) rfl ⟨rfl,rfl⟩
def qy (f:Tm->Int):List Tm->Nat
 |[]=>0
 |t::l=>if f t≠0 then 0 else qy f l+1
theorem GM (f:Tm->Int):∀l:List Tm,(∀k,k<qy f l->∃t,l[k]?=some t/\f t=0)/\(qy f l<l.length->∃t,l[qy f l]?=some t/\f t≠0/\iN f l=f t)/\(l.length<=qy f l->iN f l=0)
 |[]=>⟨fun k h=>absurd h (Nat.not_lt_zero _),fun h=>absurd h (Nat.not_lt_zero _),fun _=>rfl⟩
 |t::l=>by
  obtain⟨U,h2,h3⟩:=GM f l
  rw[qy,iN]
  by_cases h:f t≠0
  ·rw[if_pos h,if_pos h]
   exact⟨fun k h=>absurd h (Nat.not_lt_zero _),fun _=>⟨t,rfl,h,rfl⟩,fun h=>absurd h (by simp)⟩
  ·rw[if_neg h,if_neg h]
   refine⟨fun k hk=>?_,fun hk=>?_,fun hk=>h3 (by simpa using hk)⟩
   ·cases k with
    |zero=>exact⟨t,rfl,by simpa using h⟩
    |succ k=>obtain⟨u,h4,h5⟩:=U k (by omega);exact⟨u,h4,h5⟩
   ·obtain⟨u,h4,h5⟩:=h2 (by simpa using hk)
    exact⟨u,by rw[List.getElem?_cons_succ];exact h4,h5⟩
mutual
theorem Lr:∀t,aU t->∀u∈bQ t,aU u
 | .mk n i xs,h,u,hu=>by
  rw[bQ]at hu
  rcases List.mem_cons.1 hu with rfl|hu
  ·exact h
  ·rw[aU]at h;exact Lu xs h.2.2 u hu
theorem Lu:∀l,cq l->∀u∈ck l,aU u
 |[],_,u,hu=>by rw[ck]at hu;cases hu
 |t::l,h,u,hu=>by
  rw[ck]at hu
  rw[cq]at h
  rcases List.mem_append.1 hu with hu|hu
  ·exact Lr t h.1 u hu
  ·exact Lu l h.2 u hu
end
theorem TN (l:Nat) (u:Lt) (hu:iZ u):iJ Tryz.prog 1 149 [Yl l,.im (.pt [.sl 3 (bP [u])])] [(1,fK l .ready),(0,.var 30 [Iv 0])] (fun _ H'=>H'=[(1,fK l (if cY 2 3 u.xs=0 then .ready else .done .ret)),(0,.var 30 [Iv (cY 2 3 u.xs)])]):=by
 have lu:=hu.2.1
 have va:bP [u]=[j8 u]:=rfl
 rw[va]
 refine iJ.walk [0,1,2,4,6,7,8,9,10,11,15,16,17,18,22,23,27] [4,6,7] Tryz.func149 rfl Tryz.ntmps149 (by kernel_rfl) (by rfl) fun W own I0 aq lay=>?_
 simp only[go_sem,Nat.reduceAdd,Nat.reduceLeDiff,Nat.reduceSub,Int.reduceToNat,reduceCtorEq,fK]
 refine gO ?_
 refine AP.loop rfl (α:=Nat) (fun k=>[(2,.im (.pt [.v (.func (.yield l) #[] #[])])),(8,.im (.sl 3 [j8 u])),(9,Iv 1),(10,Iv k)]) (fun k=>[(1,fK l .ready),(0,.var 30 [Iv 0])]) (fun k=>k<=1/\(k=1->cY 2 3 u.xs=0)) (fun k=>1-k) 0 ⟨by omega,by omega⟩ (sU) rfl fun k ⟨hk,lb⟩=>?_
 rcases Nat.eq_or_lt_of_le hk with aC|ag
 ·subst aC
  simp only[go_sem,Nat.reduceAdd,Nat.reduceLeDiff,Nat.reduceSub,Int.reduceToNat,reduceCtorEq,fK]
  refine gO ?_
  refine AE.iL rfl trivial ?_
  rw[lb rfl];rfl
 ·have ku:k=0:=by omega
  subst ku
  have jo:[j8 u].getD 0 []=[Bi u.ng,Si u.pd,.sl 3 (ax u.xs)]:=rfl
  simp only[go_sem,Nat.reduceAdd,Nat.reduceLeDiff,Nat.reduceSub,Int.reduceToNat,reduceCtorEq,fK]
  refine gE (an @ah @jo) ?_
  refine AP.fix 2 rfl rfl ?_
  refine sI ?_
  refine AP.loop rfl (α:=Nat) (fun j=>[(2,.im (.pt [.v (.func (.yield l) #[] #[])])),(8,.im (.sl 3 [j8 u])),(9,Iv 1),(10,Iv 0),(15,.im (.sl 3 (ax u.xs))),(16,Iv u.xs.length),(17,Iv j)]) (fun j=>[(1,fK l .ready),(0,.var 30 [Iv 0])]) (fun j=>j<=u.xs.length/\cY 2 3 u.xs=cY 2 3 (u.xs.drop j)) (fun j=>u.xs.length-j) 0 ⟨by omega,rfl⟩ (sU) rfl fun j ⟨hj,jY⟩=>?_
  rcases Nat.eq_or_lt_of_le hj with dV|fQ
  ·subst dV
   simp only[go_sem,Nat.reduceAdd,Nat.reduceLeDiff,Nat.reduceSub,Int.reduceToNat,reduceCtorEq,fK]
   refine gO ?_
   refine cF ?_
   refine gO ?_
   rw[List.drop_length,cY]at jY
   exact AE.round 1 ⟨by omega,fun _=>jY⟩ (by omega) (sU) rfl
  ·obtain⟨v,hv,cg⟩:=cz u.xs j fQ
   have eH:=wr (x:=(j:Int)+1) (by omega)
   simp only[go_sem,Nat.reduceAdd,Nat.reduceLeDiff,Nat.reduceSub,Int.reduceToNat,reduceCtorEq,fK]
   refine gE @ah ?_
   refine cT ?_
   refine gE (an @cg @ah) ?_
   refine AQ.fix 2 rfl rfl ?_
   refine sI ?_
   refine AQ.fn (by kernel_rfl) rfl rfl rfl (Ll v) rfl ?_
   refine sI ?_
   refine gO ?_
   have fo:=cA hu.2.2 hv
   rw[Bb hv,Gy]at jY
   obtain⟨lh,cZ,iT⟩:=GM (dp 2 3) (bQ v)
   have mU:=Lr v fo
   refine AP.zH 2 1 2 [(2,.im (.pt [.v (.func (.yield l) #[] #[])]))] (R:=fun l2=>DO (fun _=>gS l l2 .ready .ready 0) (qy (dp 2 3) (bQ v)) (gS l l2 (.done .ret) (.done .ret) (iN (dp 2 3) (bQ v))) (bQ v).length) rfl rfl (by kernel_rfl) (sU) rfl rfl (fun l2=>?_) (fun l2 r H' hR=>?_)
   ·refine Lh (M:=3) (Hs:=fun _=>[(2,oO l l2 .ready),(1,fK l .ready),(0,.var 30 [Iv 0])]) (Hx:=[(2,oO l l2 (.done .ret)),(1,fK l (.done .ret)),(0,.var 30 [Iv (iN (dp 2 3) (bQ v))])]) v fo ⟨fun k hk yC=>?_,fun hk=>?_,fun _ _=>eJ.of _ _ _ rfl,fun k=>eJ.of _ _ _ rfl⟩ rfl (fun _=>rfl) (fun _ _=>rfl)
    ·obtain⟨t,ht,hf⟩:=lh k hk
     rw[wL ht]
     exact TX l l2 t (mU t (List.mem_of_getElem? ht)) hf
    ·obtain⟨t,ht,hf,he⟩:=cZ hk
     rw[wL ht,he]
     exact TY l l2 t (mU t (List.mem_of_getElem? ht)) hf
   ·rcases hR with⟨U,rfl⟩|⟨U,rfl⟩
    ·refine⟨eJ.of _ _ _ rfl,.ready,_,rfl,rfl,?_⟩
     rw[iT U,if_neg (by decide)]at jY
     simp only[go_sem,Nat.reduceAdd,Nat.reduceLeDiff,Nat.reduceSub,Int.reduceToNat,reduceCtorEq,gS,fK]
     refine gE @eH ?_
     refine AE.dq [3] rfl ?_
     refine sI ?_
     exact AE.round (j+1) ⟨by omega,jY⟩ (by omega) (sU) rfl
    ·refine⟨eJ.of _ _ _ rfl,.done .ret,_,rfl,rfl,?_⟩
     obtain⟨t,ht,hf,he⟩:=cZ U
     rw[he,if_pos hf,<-he]at jY
     have aR:cY 2 3 u.xs≠0:=by rw[jY,he];exact hf
     simp only[go_sem,Nat.reduceAdd,Nat.reduceLeDiff,Nat.reduceSub,Int.reduceToNat,reduceCtorEq,gS,fK]
     refine gO ?_
     refine AE.aX [3] rfl trivial rfl ?_
     rw[if_neg aR,jY];rfl
theorem oZ (c:List Lt) (hs:cC c):aP Tryz.prog 15 [aK c] (Iv (aW 4 9 2 3 c)):=by
 have b5:=hs.1
 have dU:=Nx c
 refine aj.walk [0,2,3,4,5,6,7,11,13,14,15,16,39,45,46,50] [2,5,6] Tryz.func15 rfl Tryz.ntmps15 (by kernel_rfl) (by rfl) rfl fun W own I0 aq lay=>?_
 refine gE @aA ?_
 refine AQ.fn (by kernel_rfl) rfl rfl rfl (Rp c hs) rfl ?_
 refine sI ?_
 refine gO ?_
 refine AP.cond rfl rfl (fun h=>?_) (fun h=>?_)
 ·have h:mc c≠0:=by simpa using h
  refine gO ?_
  exact AE.aX [0] rfl ⟨⟨rfl,Nat.le_of_ble_eq_true (by kernel_rfl)⟩,trivial⟩ rfl ⟨rfl,by rw[dU,if_pos h];rfl⟩
 have h:¬mc c≠0:=by simpa using h
 rw[if_neg h]at dU
 have ye:c.length<=40:=Ro h
 refine gE @aA ?_
 refine AP.loop rfl (α:=Nat) (fun k=>[(0,aK c),(2,.ob 0 0),(13,aK c),(14,Iv c.length),(15,Iv k)]) (fun k=>[(0,.var 30 [Iv 0])]) (fun k=>k<=c.length/\aW 4 9 2 3 c=fM 2 3 (c.drop k)) (fun k=>c.length-k) 0 ⟨by omega,dU⟩ (sU) rfl fun k ⟨hk,hm⟩=>?_
 rcases Nat.eq_or_lt_of_le hk with aC|ag
 ·rw[aC,List.drop_length,fM]at hm
  refine gO ?_
  refine cF ?_
  refine gO ?_
  exact AE.aX [0] rfl ⟨⟨rfl,Nat.le_of_ble_eq_true (by kernel_rfl)⟩,trivial⟩ rfl ⟨rfl,by rw[hm];rfl⟩
 ·obtain⟨u,hu,aF⟩:=fT c k ag
  have hw:=wr (x:=(k:Int)+1) (by omega)
  have bH:=kZ hs hu
  have mV:=bH.2.1
  rw[drop_cons hu,Ba]at hm
  refine gE @aA ?_
  refine cT ?_
  refine gE (an @aF (an @aA @ah)) ?_
  refine AQ.mG (by kernel_rfl) rfl rfl (fun h=>by first|(simp[gs,AV.g];done)|(simp[gs,AV.g,bN];done)|(simp[gs,AV.g,bN,bw]at h⊢;done)|(simp[gs,AV.g,bN,bw]at h⊢;exact h)|(simp[gs,AV.g,bN,bw]at h⊢;simp[h];done)|(simp[bw]at h;done)|(simp[gs,AV.g,bw]at h⊢;simp[h];done)|(simp[gs,AV.g,bw]at h⊢;exact h.1)|(simp[gs,AV.g];rfl)|(simp[gs,AV.g,bw]at h⊢;rfl)|(simp[gs,AV.g,bw]at h⊢;simp[h];rfl)|(simp[gs,AV.g,bw]at h⊢;simp_all)) rfl (fun _=>IE u.pd (by have:=bH.1;omega)) rfl ?_
  refine sI ?_
  refine gE @ah ?_
  refine AP.cond rfl rfl (fun h5=>?_) (fun h5=>?_)
  ·have h5:=(GG u.pd u.xs.length (dW u.pd)).1 h5
   rw[if_pos h5]at hm
   refine gO ?_
   exact AE.aX [1,0] rfl ⟨⟨rfl,Nat.le_of_ble_eq_true (by kernel_rfl)⟩,trivial⟩ rfl ⟨rfl,by rw[hm];rfl⟩
  ·have h5:¬((u.pd≠[61]/\dW u.pd=false)\/(u.pd=[61]/\u.xs.length≠2)):=fun hh=>by
    have h6:=(GG u.pd u.xs.length (dW u.pd)).2 hh
    exact absurd (h6.symm.trans h5) (by decide)
   rw[if_neg h5]at hm
   have Ct:List.drop k (List.take (k+1) (bP c))=bP [u]:=by
    rw[bP,<-List.map_take,<-List.map_drop,c7 hu,List.drop_append_of_le_length (by rw[List.length_take];omega),List.drop_take_self];rfl
   have vx:((k:Int)+1).toNat=k+1:=by omega
   refine gE @aA ?_
   rw[hw]
   refine AQ.fix 1 rfl rfl ?_
   refine sE (an @vx @Ct) ?_
   refine AQ.fn (by kernel_rfl) rfl rfl rfl (TM [u]) rfl ?_
   refine sI ?_
   refine gO ?_
   have ht:=fun l=>TN l u bH
   refine AP.zH 1 0 1 [(2,.ob 0 0)] (R:=fun l _ H'=>H'=[(1,fK l (if cY 2 3 u.xs=0 then .ready else .done .ret)),(0,.var 30 [Iv (cY 2 3 u.xs)])]) rfl rfl (by kernel_rfl) (sU) rfl rfl ht (fun l r H' hR=>?_)
   subst hR
   by_cases hf:cY 2 3 u.xs=0
   ·rw[if_neg (by simpa using hf)]at hm
    rw[if_pos hf,hf]
    refine⟨eJ.of _ _ _ rfl,.ready,_,rfl,rfl,?_⟩
    refine sI ?_
    refine gE @hw ?_
    exact AE.round (k+1) ⟨by omega,hm⟩ (by omega) (sU) rfl
   ·rw[if_pos hf]at hm
    rw[if_neg hf]
    refine⟨eJ.of _ _ _ rfl,.done .ret,_,rfl,rfl,?_⟩
    refine sI ?_
    refine gO ?_
    exact AE.aX [0] rfl ⟨⟨rfl,Nat.le_of_ble_eq_true (by kernel_rfl)⟩,trivial⟩ rfl ⟨rfl,by rw[hm];rfl⟩
def de {α:Type}:List (Int×α)->Int->Option Nat
 |[],_=>none
 |p::m,v=>if p.1=v then some 0 else(de m v).map (·+1)
def bh {α:Type}:List (Int×α)->Int->Option α
 |[],_=>none
 |p::m,v=>if p.1=v then some p.2 else bh m v
def lB {α:Type} (m:List (Int×α)) (v:Int) (x:α):List (Int×α):=match de m v with
 |some j=>m.set j (v,x)
 |none=>m++[(v,x)]
theorem l_ {α:Type}:∀{m:List (Int×α)} {v:Int} {j:Nat},de m v=some j->∃x,m[j]?=some (v,x)/\bh m v=some x
 |[],v,j,h=>by cases h
 |p::m,v,j,h=>by
  rw[de]at h
  rw[bh]
  by_cases hp:p.1=v
  ·rw[if_pos hp]at h⊢
   cases h
   exact⟨p.2,by rw[List.getElem?_cons_zero,<-hp],rfl⟩
  ·rw[if_neg hp]at h⊢
   cases hq:de m v with
   |none=>rw[hq]at h;cases h
   |some i=>
    rw[hq]at h;cases h
    obtain⟨x,U,h2⟩:=l_ hq
    exact⟨x,by rw[List.getElem?_cons_succ];exact U,h2⟩
theorem kK {α:Type}:∀{m:List (Int×α)} {v:Int},de m v=none->bh m v=none/\v∉m.map (·.1)
 |[],v,h=>⟨rfl,by simp⟩
 |p::m,v,h=>by
  rw[de]at h
  rw[bh]
  by_cases hp:p.1=v
  ·rw[if_pos hp]at h;cases h
  ·rw[if_neg hp]at h⊢
   cases hq:de m v with
   |some i=>rw[hq]at h;cases h
   |none=>
    obtain⟨U,h2⟩:=kK hq
    exact⟨U,by rw[List.map_cons,List.mem_cons];rintro(h|h);exact hp h.symm;exact h2 h⟩
theorem Rs {α:Type} {m:List (Int×α)} {v:Int}:bh m v=none↔de m v=none:=by
 constructor
 ·intro h
  cases hq:de m v with
  |none=>rfl
  |some j=>obtain⟨x,_,h2⟩:=l_ hq;rw[h]at h2;cases h2
 ·exact fun h=>(kK h).1
theorem C5 {α:Type} {m:List (Int×α)} {v:Int} {x:α} (h:bh m v=some x):∃j,de m v=some j/\m[j]?=some (v,x):=by
 cases hq:de m v with
 |none=>rw[(kK hq).1]at h;cases h
 |some j=>
  obtain⟨y,U,h2⟩:=l_ hq
  rw[h]at h2;cases h2
  exact⟨j,rfl,U⟩
theorem IT {α:Type} (m:List (Int×α)) (v:Int) (x:α) (w:Int):bh (lB m v x) w=if w=v then some x else bh m w:=by
 rw[lB]
 have bG:∀(m:List (Int×α)) (j:Nat),de m v=some j->bh (m.set j (v,x)) w=if w=v then some x else bh m w:=by
  intro m
  induction m with
  |nil=>intro j h;cases h
  |cons p m ih=>
   intro j h
   rw[de]at h
   by_cases hp:p.1=v
   ·rw[if_pos hp]at h;cases h
    rw[List.set_cons_zero,bh,bh]
    by_cases hw:w=v
    ·rw[if_pos hw,if_pos hw.symm]
    ·rw[if_neg hw,if_neg (fun h=>hw h.symm),if_neg (fun h=>hw (h.symm.trans hp))]
   ·rw[if_neg hp]at h
    cases hq:de m v with
    |none=>rw[hq]at h;cases h
    |some i=>
     rw[hq]at h;cases h
     rw[List.set_cons_succ,bh,bh,ih i hq]
     by_cases hw:w=v
     ·rw[if_pos hw,if_neg (fun h=>hp (h.trans hw)),if_pos hw]
     ·rw[if_neg hw,if_neg hw]
 cases hq:de m v with
 |some j=>exact bG m j hq
 |none=>
  have h0:=(kK hq).1
  have BD:∀m:List (Int×α),bh (m++[(v,x)]) w=match bh m w with
   |some y=>some y
   |none=>if v=w then some x else none:=by
   intro m
   induction m with
   |nil=>rw[List.nil_append,bh,bh,bh]
   |cons p m ih=>
    rw[List.cons_append,bh,bh]
    by_cases hp:p.1=w
    ·rw[if_pos hp,if_pos hp]
    ·rw[if_neg hp,if_neg hp,ih]
  rw[BD]
  by_cases hw:w=v
  ·subst hw;simp only[h0,if_pos]
  ·rw[if_neg hw]
   cases bh m w with
   |some y=>rfl
   |none=>simp only[if_neg (fun h=>hw (Eq.symm h))]
def kI {α:Type} (m:List (Int×α)):List Value:=m.map fun p=> .int .i64 p.1
theorem sL {α:Type} (m:List (Int×α)):(kI m).length=m.length:=List.length_map ..
theorem ft {α:Type} (m:List (Int×α)):oT (.int .i64) (kI m):=fun v hv=>by
 obtain⟨p,_,rfl⟩:=List.mem_map.1 hv
 rfl
theorem CT {α:Type} (m:List (Int×α)):∀k∈kI m,k.oneCell'=true:=fun v hv=>by
 obtain⟨p,_,rfl⟩:=List.mem_map.1 hv
 rfl
theorem lx {α:Type} {m:List (Int×α)} {v:Int} (h:de m v=none):Value.int .i64 v∉kI m:=fun hc=>by
 obtain⟨p,hp,e⟩:=List.mem_map.1 hc
 cases e
 exact(kK h).2 (List.mem_map.2 ⟨p,hp,rfl⟩)
theorem ma {α:Type} {m:List (Int×α)} {j:Nat} {p:Int×α} (h:m[j]?=some p):(kI m)[j]?=some (.int .i64 p.1):=by rw[kI,List.getElem?_map,h];rfl
theorem y7 {α:Type} {m:List (Int×α)} {j:Nat} {k:Value} (h:(kI m)[j]?=some k):∃p,m[j]?=some p/\k= .int .i64 p.1:=by
 rw[kI,List.getElem?_map]at h
 cases hq:m[j]? with
 |none=>rw[hq]at h;cases h
 |some p=>rw[hq]at h;exact⟨p,rfl,by simpa using h.symm⟩
def cN {α:Type} (m:List (Int×α)):Prop:=(m.map (·.1)).Nodup
theorem mb {α:Type} {m:List (Int×α)} (bg:cN m) {v:Int} {x:α} {j i:Nat} (hj:m[j]?=some (v,x)) (hi:(kI m)[i]?=some (.int .i64 v)):i=j:=by
 obtain⟨p,hp,e⟩:=y7 hi
 cases e
 have U:(m.map (·.1))[i]?=some p.1:=by rw[List.getElem?_map,hp];rfl
 have h2:(m.map (·.1))[j]?=some p.1:=by rw[List.getElem?_map,hj];rfl
 obtain⟨a1,b1⟩:=List.getElem?_eq_some_iff.1 U
 obtain⟨a2,b2⟩:=List.getElem?_eq_some_iff.1 h2
 exact(List.getElem_inj bg).1 (b1.trans b2.symm)
theorem CU {α:Type} (m:List (Int×α)) (v:Int) (x:α):kI (lB m v x)=match de m v with
  |some _=>kI m
  |none=>kI m++[.int .i64 v]:=by
 rw[lB]
 cases h:de m v with
 |none=>simp[kI]
 |some j=>
  obtain⟨y,U,_⟩:=l_ h
  simp only[kI,List.map_set]
  exact List.ext_getElem? fun i=>by
   rw[List.getElem?_set]
   by_cases iS:j=i
   ·subst iS
    rw[if_pos rfl,List.getElem?_map,U]
    have:=(List.getElem?_eq_some_iff.1 U).1
    rw[if_pos (by simpa using this)];rfl
   ·rw[if_neg iS]
theorem Dw {α:Type} {m:List (Int×α)} (h:cN m) (v:Int) (x:α):cN (lB m v x):=by
 have hk:(lB m v x).map (·.1)=match de m v with
  |some _=>m.map (·.1)
  |none=>m.map (·.1)++[v]:=by
  have:=CU m v x
  have hi:∀m:List (Int×α),(kI m).map (fun u=>match u with| .int _ n=>n|_=>0)=m.map (·.1):=fun m=>by simp[kI,Function.comp_def]
  rw[<-hi (lB m v x),this]
  cases de m v with
  |some j=>exact hi m
  |none=>rw[List.map_append,hi];rfl
 rw[cN,hk]
 cases hq:de m v with
 |some j=>exact h
 |none=>
  refine List.nodup_append.2 ⟨h,by simp,fun a ha b hb=>?_⟩
  rw[List.mem_singleton]at hb
  subst hb
  exact fun e=>(kK hq).2 (e▸ha)
theorem Dv {α:Type}:∀{m:List (Int×α)} {v:Int} {x:α},cN m->(v,x)∈m->bh m v=some x
 |[],v,x,_,h=>by cases h
 |p::m,v,x,bg,h=>by
  rw[cN,List.map_cons,List.nodup_cons]at bg
  rw[bh]
  rcases List.mem_cons.1 h with rfl|h
  ·rw[if_pos rfl]
  ·rw[if_neg (fun e=>bg.1 (List.mem_map.2 ⟨(v,x),h,e.symm⟩)),Dv bg.2 h]
theorem vO {α:Type} {m:List (Int×α)} {v:Int} {x:α} (h:bh m v=some x):(v,x)∈m:=by
 obtain⟨j,_,h2⟩:=C5 h
 exact List.mem_of_getElem? h2
def vN (m:List (Int×Int)):List AV:=m.map fun p=>Iv p.2
theorem Ue (m:List (Int×Int)):(vN m).length=m.length:=List.length_map ..
@[go_sem] theorem wq (ρ:Nat->Nat):∀m:List (Int×Int),AV.cd ρ (vN m)=vN m
 |[]=>rfl
 |_::m=>by rw[vN,List.map_cons,AV.cd,<-vN,wq ρ m];rfl
@[go_sem] theorem Q6 (b:Nat):∀m:List (Int×Int),lz b (vN m)=vN m
 |[]=>rfl
 |_::m=>by rw[vN,List.map_cons,lz,<-vN,Q6 b m];rfl
@[go_sem] theorem gr (b:Nat):∀m:List (Int×Int),AV.mens b (vN m)=false
 |[]=>rfl
 |_::m=>by rw[vN,List.map_cons,AV.mens,<-vN,gr b m];rfl
@[go_sem] theorem OA (b:Nat):∀m:List (Int×Int),AV.iP b (vN m)=false
 |[]=>rfl
 |_::m=>by rw[vN,List.map_cons,AV.iP,<-vN,OA b m];rfl
@[go_sem] theorem GK (b:Nat) (l:List IV):∀m:List (Int×Int),gU b l (vN m)=vN m
 |[]=>rfl
 |_::m=>by rw[vN,List.map_cons,gU,<-vN,GK b l m];rfl
@[go_sem] theorem Oo (b es:Nat) (rows:List (List IV)):∀m:List (Int×Int),ib b es rows (vN m)=vN m
 |[]=>rfl
 |_::m=>by rw[vN,List.map_cons,ib,<-vN,Oo b es rows m];rfl
@[go_sem] theorem Ol (b:Nat) (rows:List (List IV)):∀m:List (Int×Int),gW b rows (vN m)=True
 |[]=>rfl
 |_::m=>by rw[vN,List.map_cons,gW,<-vN,Ol b rows m];simp[gV]
theorem z8 {m:List (Int×Int)} {j:Nat} {p:Int×Int} (h:m[j]?=some p):(vN m)[j]?=some (Iv p.2):=by rw[vN,List.getElem?_map,h];rfl
theorem LG (m:List (Int×Int)) (v:Int) (x:Int):vN (lB m v x)=match de m v with
  |some j=>(vN m).set j ((fun p:Int×Int=>Iv p.2) (v,x))
  |none=>vN m++[(fun p:Int×Int=>Iv p.2) (v,x)]:=by
 rw[lB]
 cases de m v with
 |none=>simp only[vN,List.map_append];rfl
 |some j=>simp[vN,List.map_set]
def vT (m:List (Int×Tm)):List AV:=m.map fun p=>bp p.2
theorem Ei (m:List (Int×Tm)):(vT m).length=m.length:=List.length_map ..
@[go_sem] theorem jH (ρ:Nat->Nat):∀m:List (Int×Tm),AV.cd ρ (vT m)=vT m
 |[]=>rfl
 |_::m=>by rw[vT,List.map_cons,AV.cd,<-vT,jH ρ m];rfl
@[go_sem] theorem Q7 (b:Nat):∀m:List (Int×Tm),lz b (vT m)=vT m
 |[]=>rfl
 |_::m=>by rw[vT,List.map_cons,lz,<-vT,Q7 b m];rfl
@[go_sem] theorem cp (b:Nat):∀m:List (Int×Tm),AV.mens b (vT m)=false
 |[]=>rfl
 |_::m=>by rw[vT,List.map_cons,AV.mens,<-vT,cp b m];rfl
@[go_sem] theorem OB (b:Nat):∀m:List (Int×Tm),AV.iP b (vT m)=false
 |[]=>rfl
 |_::m=>by rw[vT,List.map_cons,AV.iP,<-vT,OB b m];rfl
@[go_sem] theorem Oi (b:Nat) (l:List IV):∀m:List (Int×Tm),gU b l (vT m)=vT m
 |[]=>rfl
 |_::m=>by rw[vT,List.map_cons,gU,<-vT,Oi b l m];rfl
@[go_sem] theorem Oq (b es:Nat) (rows:List (List IV)):∀m:List (Int×Tm),ib b es rows (vT m)=vT m
 |[]=>rfl
 |_::m=>by rw[vT,List.map_cons,ib,<-vT,Oq b es rows m];rfl
@[go_sem] theorem Om (b:Nat) (rows:List (List IV)):∀m:List (Int×Tm),gW b rows (vT m)=True
 |[]=>rfl
 |_::m=>by rw[vT,List.map_cons,gW,<-vT,Om b rows m];simp[gV,gW]
theorem wP {m:List (Int×Tm)} {j:Nat} {p:Int×Tm} (h:m[j]?=some p):(vT m)[j]?=some (bp p.2):=by rw[vT,List.getElem?_map,h];rfl
def vZ (m:List (Int×Int×Int)):List AV:=m.map fun p=> .agg [Iv p.2.1,Iv p.2.2]
@[go_sem] theorem DS (ρ:Nat->Nat):∀m:List (Int×Int×Int),AV.cd ρ (vZ m)=vZ m
 |[]=>rfl
 |_::m=>by rw[vZ,List.map_cons,AV.cd,<-vZ,DS ρ m];rfl
@[go_sem] theorem Q8 (b:Nat):∀m:List (Int×Int×Int),lz b (vZ m)=vZ m
 |[]=>rfl
 |_::m=>by rw[vZ,List.map_cons,lz,<-vZ,Q8 b m];rfl
@[go_sem] theorem gK (b:Nat):∀m:List (Int×Int×Int),AV.mens b (vZ m)=false
 |[]=>rfl
 |_::m=>by rw[vZ,List.map_cons,AV.mens,<-vZ,gK b m];rfl
@[go_sem] theorem OC (b:Nat):∀m:List (Int×Int×Int),AV.iP b (vZ m)=false
 |[]=>rfl
 |_::m=>by rw[vZ,List.map_cons,AV.iP,<-vZ,OC b m];rfl
@[go_sem] theorem Oj (b:Nat) (l:List IV):∀m:List (Int×Int×Int),gU b l (vZ m)=vZ m
 |[]=>rfl
 |_::m=>by rw[vZ,List.map_cons,gU,<-vZ,Oj b l m];rfl
@[go_sem] theorem Ot (b es:Nat) (rows:List (List IV)):∀m:List (Int×Int×Int),ib b es rows (vZ m)=vZ m
 |[]=>rfl
 |_::m=>by rw[vZ,List.map_cons,ib,<-vZ,Ot b es rows m];rfl
@[go_sem] theorem On (b:Nat) (rows:List (List IV)):∀m:List (Int×Int×Int),gW b rows (vZ m)=True
 |[]=>rfl
 |_::m=>by rw[vZ,List.map_cons,gW,<-vZ,On b rows m];simp[gV,gW]
theorem Uf {m:List (Int×Int×Int)} {j:Nat} {p:Int×Int×Int} (h:m[j]?=some p):(vZ m)[j]?=some (.agg [Iv p.2.1,Iv p.2.2]):=by rw[vZ,List.getElem?_map,h];rfl
section
open Go.MapKept
variable {C:Cx} {K:List PK} {E:Env} {H:aa}
theorem AQ.zk {ds:List (Nat×Nat)} {i:Nat} {d:Option Nat} {ty t kt et:TypeId} {pos:String} {af:Array Edge} {os:List Oper} {m k:Operand} {ok:Bool} {b:Nat} {ks:List Value} {cs:List AV} {kv z:Value} {dk:TypeDesc} (xz:AV)
  (ai:bl C.n ({dst:=d,op:= .lookup t m k ok,type:=ty,pos:=pos,after:=af,guard:=none}::os)=true)
  (hm:ev E m=some (.mp b)) (hk:ev E k=some (.im (.v kv))) (hH:lk H b=some (.var (.map ks) cs)) (ht:C.P.underlying t=some (.map kt et)) (hd:C.P.underlying kt=some dk)
  (ky:oT dk ks) (fR:Go.MapKept.IsKey dk kv) (cL:kv∉ks) (hz:(C.P.info? et).bind (·.zero)=some z) (jw:∀w φ I,AV.den w φ I xz z)
  (h:vq C K os (aZ d i ds) (i+1) (a6 d (bif ok then .aM [xz,.im (.v (.bool false))]else xz) E) H):
  AQ C ds i ({dst:=d,op:= .lookup t m k ok,type:=ty,pos:=pos,after:=af,guard:=none}::os) K E H:=by
 refine AQ.val (bif ok then .aM [xz,.im (.v (.bool false))]else xz) ai rfl (fun φ I a w hs=>?_) h
 obtain⟨g,es,clock,il,hg,hh,aC,iQ,k7⟩:=pJ hs.st.real hH (aS hs.env hm)
 have ij:=aS hs.env hk
 simp only[AV.den,IV.den]at ij
 rcases sV aC ky fR with⟨U,_⟩|⟨j',e,U,h2,h3,h4⟩
 ·have CJ:(zeroValue et).run C.P w= .ok z w:=by
   cases hi:C.P.info? et with
   |none=>rw[hi]at hz;cases hz
   |some inf=>
    rw[hi]at hz
    simp only[Option.bind_some]at hz
    simp[zeroValue,typeInfo,hi,hz]
  have aE:(Instr.lookup t (a.eval m) (a.eval k) ok).run C.P w= .ok (if ok then .tuple #[z,.bool false]else z) w:=by
   rw[il,ij.1]
   cases ok<;>simp[Instr.lookup,run_underlying ht,MapKept.run_getObj_map hh,run_checkKey hd fR,run_findKey hd U,CJ,Result.andThen]
  refine⟨if ok then .tuple #[z,.bool false]else z,by simp only[execOp,Sem.run_bind,Sem.run_map,aE,Result.andThen_ok,Sem.run_pure],?_⟩
  cases ok with
  |true=>simp only[cond_true,if_true,AV.den,AV.ab,IV.den];exact⟨_,⟨_,_,rfl,jw _ _ _,_,_,rfl,⟨rfl,rfl⟩,rfl⟩,rfl⟩
  |false=>simp only[cond_false,Bool.false_eq_true,if_false];exact jw _ _ _
 ·exact absurd (List.mem_of_getElem? h4) cL
end
theorem u3:Tryz.prog.underlying 3=some (.int .i64):=by kernel_rfl
theorem my:Tryz.prog.underlying 149=some (.map 3 3):=by kernel_rfl
def bump (m:List (Int×Int)) (v:Int):List (Int×Int):=lB m v ((bh m v).getD 0+1)
def stM (m:List (Int×Int)) (x:Tm):List (Int×Int):=if x.nm=[]then bump m x.ix else m
def dR (xs:List Tm):List (Int×Int):=xs.foldl stM []
def jL (xs:List Tm):List Int:=xs.flatMap fun x=>if x.nm=[]then[x.ix]else[]
theorem NA (xs:List Tm) (x:Tm):dR (xs++[x])=stM (dR xs) x:=by rw[dR,List.foldl_append];rfl
theorem GC:∀(xs:List Tm) (m:List (Int×Int)),cN m->cN (xs.foldl stM m)
 |[],m,h=>h
 |x::xs,m,h=>GC xs _ (by
   rw[stM]
   by_cases hx:x.nm=[]
   ·rw[if_pos hx];exact Dw h _ _
   ·rw[if_neg hx];exact h)
theorem xO (xs:List Tm):cN (dR xs):=GC xs [] List.nodup_nil
theorem GB:∀(xs:List Tm) (m:List (Int×Int)) (v:Int),(∀v,(bh m v).getD 0≥0/\(bh m v=none\/(bh m v).getD 0>0))->
  (bh (xs.foldl stM m) v).getD 0=(bh m v).getD 0+(jL xs).count v/\(bh (xs.foldl stM m) v=none\/(bh (xs.foldl stM m) v).getD 0>0)
 |[],m,v,h=>⟨by simp[jL],(h v).2⟩
 |x::xs,m,v,h=>by
  have U:∀v,(bh (stM m x) v).getD 0=(bh m v).getD 0+((if x.nm=[]then[x.ix]else[]):List Int).count v:=fun v=>by
   rw[stM]
   by_cases hx:x.nm=[]
   ·rw[if_pos hx,if_pos hx,bump,IT]
    by_cases hv:v=x.ix
    ·subst hv;rw[if_pos rfl];simp
    ·rw[if_neg hv,List.count_cons_of_ne (fun e=>hv e.symm)];simp
   ·rw[if_neg hx,if_neg hx];simp
  have h2:∀v,(bh (stM m x) v).getD 0≥0/\(bh (stM m x) v=none\/(bh (stM m x) v).getD 0>0):=fun v=>by
   refine⟨by rw[U];have:=(h v).1;omega,?_⟩
   by_cases hx:x.nm=[]
   ·by_cases hv:v=x.ix
    ·refine .inr ?_
     rw[U,if_pos hx,<-hv]
     have:=(h v).1
     simp;omega
    ·rw[stM,if_pos hx,bump,IT,if_neg hv];exact(h v).2
   ·rw[stM,if_neg hx];exact(h v).2
  obtain⟨a,b⟩:=GB xs (stM m x) v h2
  rw[List.foldl_cons]
  refine⟨?_,b⟩
  rw[a,U,show jL (x::xs)=(if x.nm=[]then[x.ix]else[])++jL xs by simp[jL],List.count_append]
  omega
theorem tY (xs:List Tm) (v:Int):(bh (dR xs) v).getD 0=(jL xs).count v:=by
 have:=(GB xs [] v fun v=>⟨by simp[bh],.inl rfl⟩).1
 rw[dR,this];simp[bh]
mutual
theorem wQ:∀t,dG t=jL (bQ t)
 | .mk n i xs=>by
  rw[dG,bQ,LP xs]
  by_cases h:n=[]<;>simp[jL,Tm.nm,Tm.ix,h]
theorem LP:∀l,bM l=jL (ck l)
 |[]=>by rw[bM,ck];rfl
 |t::l=>by rw[bM,ck,wQ t,LP l];simp[jL]
end
mutual
theorem LR:∀t,wT t=(bQ t).length
 | .mk n i xs=>by rw[wT,bQ,LU xs,List.length_cons];omega
theorem LU:∀l,aw l=(ck l).length
 |[]=>by rw[aw,ck];rfl
 |t::l=>by rw[aw,ck,LR t,LU l,List.length_append]
end
theorem count_le (xs:List Tm) (v:Int):(jL xs).count v<=xs.length:=by
 induction xs with
 |nil=>simp[jL]
 |cons x xs ih=>
  rw[show jL (x::xs)=(if x.nm=[]then[x.ix]else[])++jL xs by simp[jL],List.count_append,List.length_cons]
  have:((if x.nm=[]then[x.ix]else[]):List Int).count v<=1:=by
   by_cases hx:x.nm=[]
   ·rw[if_pos hx];exact Nat.le_trans (List.count_le_length) (by simp)
   ·rw[if_neg hx];simp
  omega
noncomputable def qm (l:Nat) (st:gA):Ob:= .lp l 23 st Tryz.f208 [0,1,0,1,1] [10] [(4,.ob 1 0),(5,.ob 2 0)]
noncomputable def o3 (l:Nat) (st:gA) (xs:List Tm):aa:=[(4,qa l 4),(3,qm l st),(2,.var 3 [Iv xs.length]),(1,.var 149 [.mp 0]),(0,.var (.map (kI (dR xs))) (vN (dR xs)))]
theorem NF (l:Nat) (xs:List Tm) (x:Tm) (hx:xs.length<=1000000):f_ Tryz.prog 5 l [bp x] (o3 l .ready xs) (fun r H'=>r=Bv true/\H'=o3 l .ready (xs++[x])):=by
 have hw:=wr (x:=(xs.length:Int)+1) (by omega)
 have bc:=NA xs x
 have bg:=xO xs
 have fA:∀v,(0:Int)<=(bh (dR xs) v).getD 0/\(bh (dR xs) v).getD 0<=xs.length:=fun v=>by rw[tY];have:=count_le xs v;omega
 have hlen:((xs.length:Int)+1)=((xs++[x]).length:Nat):=by simp
 refine f_.walk (b:=3) [4,5,6,10,15] [4,5] rfl rfl rfl fun w own I0 aq lay=>?_
 simp only[go_sem,Nat.reduceAdd,Nat.reduceLeDiff,Nat.reduceSub,Int.reduceToNat,reduceCtorEq,nw,o3,qm]
 refine gO ?_
 refine AE.begin (b:=3) rfl rfl _ ?_
 refine sI ?_
 refine gE @hw ?_
 refine AP.fix 5 rfl rfl ?_
 refine sI ?_
 refine AP.cond rfl rfl (fun h=>?_) (fun h=>?_)
 ·have h:x.nm=[]:=by simpa using h
  rw[stM,if_pos h,bump]at bc
  refine gO ?_
  cases hq:de (dR xs) x.ix with
  |none=>
   have l7:(bh (dR xs) x.ix).getD 0=0:=by rw[(kK hq).1];rfl
   rw[l7]at bc
   refine AQ.Df (by kernel_rfl) rfl rfl rfl my u3 (ft _) rfl (lx hq) rfl rfl ?_
   refine sI ?_
   refine gO ?_
   refine AQ.v7 (by kernel_rfl) rfl rfl rfl rfl my u3 (ft _) rfl (lx hq) ?_
   refine sI ?_
   refine gO ?_
   refine AE.td (b:=3) rfl ⟨rfl,?_⟩
   have e1:=CU (dR xs) x.ix (0+1)
   have e2:=LG (dR xs) x.ix (0+1)
   rw[hq]at e1 e2
   rw[bc,<-hlen,e1,e2];rfl
  |some j=>
   obtain⟨y,U,h2⟩:=l_ hq
   refine AQ.pI j (by kernel_rfl) rfl rfl rfl my u3 (ft _) rfl (List.mem_of_getElem? (ma U)) (fun i hi=>mb bg U hi) (z8 U) ?_
   have hy:=fA x.ix
   rw[h2]at bc hy
   have H8:=wr (x:=y+1) (by simp only[Option.getD_some]at hy;omega)
   refine sI ?_
   refine gE @H8 ?_
   refine AQ.RU j (by kernel_rfl) rfl rfl rfl rfl my u3 (ft _) rfl (List.mem_of_getElem? (ma U)) (fun i hi=>mb bg U hi) ?_
   refine sI ?_
   refine gO ?_
   refine AE.td (b:=3) rfl ⟨rfl,?_⟩
   have e1:=CU (dR xs) x.ix (y+1)
   have e2:=LG (dR xs) x.ix (y+1)
   rw[hq]at e1 e2
   rw[bc,<-hlen,Option.getD_some,e1,e2,H8];rfl
 ·have h:¬x.nm=[]:=by simpa using h
  rw[stM,if_neg h]at bc
  refine gO ?_
  exact AE.td (b:=3) rfl ⟨rfl,by rw[bc,<-hlen];rfl⟩
theorem FI (t:Tm) (ht:aU t) (hw:wT t<=1000000):aj Tryz.prog 208 [bp t] [] (fun r H'=>r= .aM [.mp 0,Iv (wT t)]/\H'=[(0,.var (.map (kI (dR (bQ t)))) (vN (dR (bQ t))))]):=by
 refine aj.walk [0,1,2,3,4,5,6,9,10,15] [4,5,6] Tryz.func208 rfl Tryz.ntmps208 (by kernel_rfl) (by rfl) rfl fun W own I0 aq lay=>?_
 refine gO ?_
 refine AQ.vY (by kernel_rfl) ?_
 refine sI ?_
 refine gO ?_
 refine AQ.fn (by kernel_rfl) rfl rfl rfl (Ll t) rfl ?_
 refine sI ?_
 refine gO ?_
 have hlen:=LR t
 have kB:∀l k k',eJ 5 (o3 l .ready ((bQ t).take k)) (o3 l .ready ((bQ t).take k')):=fun l k k'=>eJ.of _ _ _ rfl
 refine AP.zH 3 0 3 [(4,.ob 1 0),(5,.ob 2 0)] (R:=fun l=>DO (fun k=>o3 l .ready ((bQ t).take k)) (bQ t).length [(4,qa l 4),(3,qm l .ready),(2,.var 3 []),(1,.var 3 []),(0,.var 3 [])] (bQ t).length) rfl rfl (by kernel_rfl) (sU) rfl rfl (fun l=>?_) (fun l r H' hR=>?_)
 ·refine Lh (nb:=3) (M:=4) (m:=(bQ t).length) (Hs:=fun k=>[(3,qm l .ready),(2,.var 3 [Iv ((bQ t).take k).length]),(1,.var 149 [.mp 0]),(0,.var (.map (kI (dR ((bQ t).take k)))) (vN (dR ((bQ t).take k))))]) (Hx:=[(3,qm l .ready),(2,.var 3 []),(1,.var 3 []),(0,.var 3 [])]) t ht ⟨fun k hk yC=>?_,fun hk=>absurd hk (Nat.lt_irrefl _),fun k k'=>kB l k k',fun k=>eJ.of _ _ _ rfl⟩ rfl (fun _=>rfl) (fun _ _=>?_)
  ·obtain⟨u,hu⟩:∃u,(bQ t)[k]?=some u:=⟨_,List.getElem?_eq_getElem yC⟩
   have:=NF l ((bQ t).take k) u (by rw[List.length_take];omega)
   rw[wL hu]
   rw[<-c7 hu]at this
   exact this
  ·simp only[iM,o9,gU,fx,GK];rfl
 ·rcases hR with⟨U,rfl⟩|⟨U,rfl⟩
  ·refine⟨eJ.of _ _ _ rfl,.ready,_,rfl,by simp only[go_sem,Nat.reduceAdd,Nat.reduceLeDiff,Nat.reduceSub,Int.reduceToNat,reduceCtorEq,o3,qm,noMen,AV.mens,AV.men,gr,Bool.or_false];first|done|rfl,?_⟩
   simp only[go_sem,Nat.reduceAdd,Nat.reduceLeDiff,Nat.reduceSub,Int.reduceToNat,reduceCtorEq,o3,qm,List.take_length]
   refine gO ?_
   exact AE.aX [4,2,1] rfl ⟨rfl,rfl,trivial⟩ (by simp only[go_sem,Nat.reduceAdd,Nat.reduceLeDiff,Nat.reduceSub,Int.reduceToNat,reduceCtorEq,ba,noMen,AV.mens,AV.men,gr,Bool.or_false];first|done|rfl) ⟨by rw[hlen];rfl,rfl⟩
  ·exact absurd U (Nat.lt_irrefl _)
def oQ (bs seen:List Nat):Nat:=(bs.filter fun n=>decide (n∉seen)).length
theorem Ee {bs seen:List Nat} {n:Nat} (h:n∈bs) (hs:n∉seen):oQ bs (seen++[n])<oQ bs seen:=by
 induction bs with
 |nil=>cases h
 |cons a l ih=>
  have hle:∀l:List Nat,oQ l (seen++[n])<=oQ l seen:=fun l=>by
   induction l with
   |nil=>exact Nat.le_refl _
   |cons b m Iq=>
    unfold oQ at Iq⊢
    by_cases hb:b∈seen
    ·rw[List.filter_cons_of_neg (by simp[hb]),List.filter_cons_of_neg (by simp[hb])];exact Iq
    ·by_cases dJ:b=n
     ·rw[List.filter_cons_of_neg (by simp[dJ]),List.filter_cons_of_pos (by simp[hb]),List.length_cons];omega
     ·rw[List.filter_cons_of_pos (by simp[hb,dJ]),List.filter_cons_of_pos (by simp[hb]),List.length_cons,List.length_cons];omega
  by_cases uz:a=n
  ·subst uz
   have:=hle l
   unfold oQ at this⊢
   rw[List.filter_cons_of_neg (by simp),List.filter_cons_of_pos (by simp[hs]),List.length_cons];omega
  ·have U:n∈l:=by rcases List.mem_cons.1 h with e|e;exact absurd e.symm uz;exact e
   have h2:=ih U
   unfold oQ at h2⊢
   by_cases ha:a∈seen
   ·rw[List.filter_cons_of_neg (by simp[ha]),List.filter_cons_of_neg (by simp[ha])];exact h2
   ·rw[List.filter_cons_of_pos (by simp[ha,uz]),List.filter_cons_of_pos (by simp[ha]),List.length_cons,List.length_cons];omega
def nN (a b:List (Int×Int)):Bool:=b.all fun p=>decide (p.2<=(bh a p.1).getD 0)
theorem NR (a b:List (Int×Int)) (ha:cN a) (hb:cN b):aj Tryz.prog 209 [.mp 0,.mp 1] [(1,.var (.map (kI b)) (vN b)),(0,.var (.map (kI a)) (vN a))] (fun r H'=>r=Bv (nN a b)/\H'=[(1,.var (.map (kI b)) (vN b)),(0,.var (.map (kI a)) (vN a))]):=by
 refine aj.walk [0,1,4,5,6,8,10,18] [] Tryz.func209 rfl Tryz.ntmps209 (by kernel_rfl) (by rfl) rfl fun W own I0 aq lay=>?_
 refine gO ?_
 refine AQ.Dl (by kernel_rfl) rfl rfl my fun bs clock bx=>?_
 have b5:(vN b).length=bs.length:=by rw[<-bx.len,Ue,sL]
 have jn:=CT b
 refine sI ?_
 refine gO ?_
 refine AP.loop rfl (α:=List Nat) (fun _=>[(0,.mp 0),(8,.ob 2 0)]) (fun seen=>[(2,.var (.raw (iX clock seen clock)) [.mp 1]),(1,.var (.raw (jD (kI b) bs clock)) (vN b)),(0,.var (.map (kI a)) (vN a))])
  (fun seen=>∀(j n:Nat) (p:Int×Int),bs[j]?=some n->n∈seen->b[j]?=some p->p.2<=(bh a p.1).getD 0) (fun seen=>oQ bs seen) [] (fun _ _ _ _ h _=>by cases h) (sU) rfl fun seen Cr=>?_
 refine gO ?_
 refine AQ.Dj (by kernel_rfl) rfl rfl rfl bx rfl rfl jn b5 (fun gG=>?_) (fun j n key y dJ n9 mM hy=>?_)
 ·have la:nN a b=true:=by
   rw[nN,List.all_eq_true]
   intro p hp
   obtain⟨j,hj⟩:=List.mem_iff_getElem?.1 hp
   have jX:j<bs.length:=by have:=(List.getElem?_eq_some_iff.1 hj).1;rw[<-bx.len,sL];exact this
   exact decide_eq_true (Cr j bs[j] p (List.getElem?_eq_getElem jX) (gG _ (List.getElem_mem _)) hj)
  refine sI ?_
  refine gO ?_
  refine AE.mf 1 rfl bx b5 ?_
  refine sI ?_
  exact AE.aX [2] rfl ⟨rfl,trivial⟩ (by simp only[go_sem,Nat.reduceAdd,Nat.reduceLeDiff,Nat.reduceSub,Int.reduceToNat,reduceCtorEq,ba,noMen,AV.mens,AV.men,gr,Bool.or_false];first|done|rfl) ⟨by rw[la];rfl,rfl⟩
 ·obtain⟨p,hp,rfl⟩:=y7 mM
  have vA:=z8 hp
  rw[hy]at vA
  cases vA
  refine sI ?_
  refine gO ?_
  refine AQ.Di (by kernel_rfl) rfl rfl rfl bx jn b5 dJ mM hy ?_
  refine sI ?_
  refine gO ?_
  cases hq:de a p.1 with
  |none=>
   refine AQ.Df (by kernel_rfl) rfl rfl rfl my u3 (ft _) rfl (lx hq) rfl rfl ?_
   have hv:(bh a p.1).getD 0=0:=by rw[(kK hq).1];rfl
   refine sI ?_
   refine gO ?_
   refine AP.cond rfl rfl (fun h5=>?_) (fun h5=>?_)
   ·have h5:¬p.2<=(bh a p.1).getD 0:=by rw[hv];simp at h5;omega
    have la:nN a b=false:=by
     rw[<-Bool.not_eq_true,nN,List.all_eq_true]
     exact fun hc=>h5 (by simpa using hc p (List.mem_of_getElem? hp))
    refine gO ?_
    refine AE.mf 1 rfl bx b5 ?_
    refine sI ?_
    exact AE.aX [2] rfl ⟨rfl,trivial⟩ (by simp only[go_sem,Nat.reduceAdd,Nat.reduceLeDiff,Nat.reduceSub,Int.reduceToNat,reduceCtorEq,ba,noMen,AV.mens,AV.men,gr,Bool.or_false];first|done|rfl) ⟨by rw[la];rfl,rfl⟩
   ·have h5:p.2<=(bh a p.1).getD 0:=by rw[hv];simp at h5;omega
    refine gO ?_
    refine AE.round (seen++[n]) (fun j' n' v' h7 h8 h9=>?_) (Ee (List.mem_of_getElem? dJ) n9) (sU) rfl
    rcases List.mem_append.1 h8 with h8|h8
    ·exact Cr j' n' v' h7 h8 h9
    ·have e1:n'=n:=by simpa using h8
     subst e1
     have e2:j'=j:=by
      obtain⟨a1,b1⟩:=List.getElem?_eq_some_iff.1 h7
      obtain⟨a2,b2⟩:=List.getElem?_eq_some_iff.1 dJ
      exact(List.getElem_inj bx.nd).1 (b1.trans b2.symm)
     subst e2
     rw[hp]at h9
     cases h9
     exact h5
  |some j'=>
   obtain⟨x,U,h2⟩:=l_ hq
   have hv:(bh a p.1).getD 0=x:=by rw[h2];rfl
   refine AQ.pI j' (by kernel_rfl) rfl rfl rfl my u3 (ft _) rfl (List.mem_of_getElem? (show(kI a)[j']?=some (.int .i64 p.1) from ma (p:=(p.1,x)) U)) (fun i hi=>mb ha U hi) (show(vN a)[j']?=some (Iv x) from z8 (p:=(p.1,x)) U) ?_
   refine sI ?_
   refine gO ?_
   refine AP.cond rfl rfl (fun h5=>?_) (fun h5=>?_)
   ·have h5:¬p.2<=(bh a p.1).getD 0:=by rw[hv];simp at h5;omega
    have la:nN a b=false:=by
     rw[<-Bool.not_eq_true,nN,List.all_eq_true]
     exact fun hc=>h5 (by simpa using hc p (List.mem_of_getElem? hp))
    refine gO ?_
    refine AE.mf 1 rfl bx b5 ?_
    refine sI ?_
    exact AE.aX [2] rfl ⟨rfl,trivial⟩ (by simp only[go_sem,Nat.reduceAdd,Nat.reduceLeDiff,Nat.reduceSub,Int.reduceToNat,reduceCtorEq,ba,noMen,AV.mens,AV.men,gr,Bool.or_false];first|done|rfl) ⟨by rw[la];rfl,rfl⟩
   ·have h5:p.2<=(bh a p.1).getD 0:=by rw[hv];simp at h5;omega
    refine gO ?_
    refine AE.round (seen++[n]) (fun j' n' v' h7 h8 h9=>?_) (Ee (List.mem_of_getElem? dJ) n9) (sU) rfl
    rcases List.mem_append.1 h8 with h8|h8
    ·exact Cr j' n' v' h7 h8 h9
    ·have e1:n'=n:=by simpa using h8
     subst e1
     have e2:j'=j:=by
      obtain⟨a1,b1⟩:=List.getElem?_eq_some_iff.1 h7
      obtain⟨a2,b2⟩:=List.getElem?_eq_some_iff.1 dJ
      exact(List.getElem_inj bx.nd).1 (b1.trans b2.symm)
     subst e2
     rw[hp]at h9
     cases h9
     exact h5
theorem NO (s t:Tm):nN (dR (bQ s)) (dR (bQ t))=t_ s t:=by
 rw[Bool.eq_iff_iff,NP,nN,List.all_eq_true]
 constructor
 ·intro h v
  rw[wQ,wQ]
  have U:=tY (bQ t) v
  have h2:=tY (bQ s) v
  cases hq:bh (dR (bQ t)) v with
  |none=>rw[hq]at U;simp only[Option.getD_none]at U;omega
  |some x=>
   rw[hq]at U
   have:=h (v,x) (vO hq)
   simp only[decide_eq_true_eq,h2]at this
   simp only[Option.getD_some]at U
   omega
 ·intro h p hp
  have U:=tY (bQ t) p.1
  rw[Dv (xO _) hp,Option.getD_some]at U
  rw[decide_eq_true_eq,tY,U]
  have:=h p.1
  rw[wQ,wQ]at this
  omega
theorem Jt (a:Int):aP Tryz.prog 229 [Iv a] (Bv false):=by
 refine aj.walk [0,2] [] Tryz.func229 rfl Tryz.ntmps229 (by kernel_rfl) (by rfl) rfl fun W own I0 aq lay=>?_
 refine gO ?_
 exact AE.aG rfl ⟨rfl,trivial⟩ rfl ⟨rfl,by simp[dZ];rfl⟩
theorem Ju (a:List UInt8):aP Tryz.prog 165 [Sv a] (Bv false):=by
 refine aj.walk [0,2] [] Tryz.func165 rfl Tryz.ntmps165 (by kernel_rfl) (by rfl) rfl fun W own I0 aq lay=>?_
 refine gO ?_
 exact AE.aG rfl ⟨rfl,trivial⟩ rfl ⟨rfl,by simp[dZ];rfl⟩
def lR (a b:Int):Int:=if a<b then-1 else if b<a then 1 else 0
def k0 (a b:List UInt8):Int:=if a<b then-1 else if b<a then 1 else 0
theorem NB (a b:Int):aP Tryz.prog 211 [Iv a,Iv b] (Iv (lR a b)):=by
 refine aj.walk [0,1,4,5,6,11,12,13,16,19] [] Tryz.func211 rfl Tryz.ntmps211 (by kernel_rfl) (by rfl) rfl fun W own I0 aq lay=>?_
 refine gO ?_
 refine AQ.fn (by kernel_rfl) rfl rfl rfl (Jt a) rfl ?_
 refine sI ?_
 refine gO ?_
 refine AQ.fn (by kernel_rfl) rfl rfl rfl (Jt b) rfl ?_
 refine sI ?_
 refine gO ?_
 refine AP.cond rfl rfl (fun h=>?_) (fun h=>?_)
 ·refine gO ?_
  exact AE.aG rfl ⟨rfl,trivial⟩ rfl ⟨rfl,by rw[lR,if_pos (by simpa using h)];rfl⟩
 ·refine gO ?_
  refine AP.cond rfl rfl (fun h2=>?_) (fun h2=>?_)
  ·refine gO ?_
   exact AE.aG rfl ⟨rfl,trivial⟩ rfl ⟨rfl,by rw[lR,if_neg (by simpa using h),if_pos (by simpa using h2)];rfl⟩
  ·refine gO ?_
   exact AE.aG rfl ⟨rfl,trivial⟩ rfl ⟨rfl,by rw[lR,if_neg (by simpa using h),if_neg (by simpa using h2)];rfl⟩
theorem vM:∀a b:List UInt8,Op.bytesLess a b=decide (a<b)
 |[],[]=>by simp[Op.bytesLess]
 |[],_::_=>by simp[Op.bytesLess]
 |_::_,[]=>by simp[Op.bytesLess]
 |x::a,y::b=>by
  rw[Op.bytesLess,vM a b,Bool.eq_iff_iff]
  simp only[Bool.or_eq_true,Bool.and_eq_true,decide_eq_true_eq,beq_iff_eq,List.cons_lt_cons_iff]
theorem RC {a b:List UInt8} (_:Op.bytesLess a b=false) (h2:(!(Op.bytesLess a b||a==b))=true):b<a:=by
 simp only[vM,Bool.not_eq_true',Bool.or_eq_false_iff,decide_eq_false_iff_not,beq_eq_false_iff_ne]at h2
 rcases zl a b with h|h|h
 ·exact absurd h h2.1
 ·exact absurd h h2.2
 ·exact h
theorem RB {a b:List UInt8} (U:Op.bytesLess a b=false) (h2:(!(Op.bytesLess a b||a==b))=false):¬b<a:=by
 intro hc
 rw[U,Bool.false_or,Bool.not_eq_false',beq_iff_eq]at h2
 subst h2
 exact List.lt_irrefl _ hc
theorem FC (a b:List UInt8):aP Tryz.prog 92 [Sv a,Sv b] (Iv (k0 a b)):=by
 refine aj.walk [0,1,4,5,6,11,12,13,16,19] [] Tryz.func92 rfl Tryz.ntmps92 (by kernel_rfl) (by rfl) rfl fun W own I0 aq lay=>?_
 refine gO ?_
 refine AQ.fn (by kernel_rfl) rfl rfl rfl (Ju a) rfl ?_
 refine sI ?_
 refine gO ?_
 refine AQ.fn (by kernel_rfl) rfl rfl rfl (Ju b) rfl ?_
 refine sI ?_
 refine gO ?_
 refine AP.cond rfl rfl (fun h=>?_) (fun h=>?_)
 ·refine gO ?_
  exact AE.aG rfl ⟨rfl,trivial⟩ rfl ⟨rfl,by rw[k0,if_pos (by simpa[vM]using h)];rfl⟩
 ·refine gO ?_
  refine AP.cond rfl rfl (fun h2=>?_) (fun h2=>?_)
  ·refine gO ?_
   exact AE.aG rfl ⟨rfl,trivial⟩ rfl ⟨rfl,by rw[k0,if_neg (by simpa[vM]using h),if_pos (RC h h2)];rfl⟩
  ·refine gO ?_
   exact AE.aG rfl ⟨rfl,trivial⟩ rfl ⟨rfl,by rw[k0,if_neg (by simpa[vM]using h),if_neg (RB h h2)];rfl⟩
@[go_sem] theorem Tj (k:Nat):∀m:List (Int×Int),AV.jJ k (vN m)=vN m
 |[]=>rfl
 |_::m=>by rw[vN,List.map_cons,AV.jJ,<-vN,Tj k m];rfl
theorem Sr (a b:Int):aP Tryz.prog 210 [.im (.sl 1 [[Ii a],[Ii b]])] (Iv (if a≠0 then a else b)):=by
 refine aj.walk [0,2,3,5,6,7,8,9,14] [] Tryz.func210 rfl Tryz.ntmps210 (by kernel_rfl) (by rfl) rfl fun W own I0 aq lay=>?_
 refine gO ?_
 refine AP.loop rfl (α:=Nat) (fun k=>[(3,Iv 0),(6,.im (.sl 1 [[Ii a],[Ii b]])),(7,Iv 2),(8,Iv k)]) (fun _=>[]) (fun k=>k<=2/\(0<k->a=0)/\(1<k->b=0)) (fun k=>2-k) 0 ⟨by omega,by omega,by omega⟩ (sU) rfl fun k ⟨hk,U,h2⟩=>?_
 have hw:=wr (x:=(k:Int)+1) (by omega)
 obtain rfl|rfl|rfl:k=0\/k=1\/k=2:=by omega
 ·refine gE (an @List.getD_cons_zero.{0} (an @List.length_cons.{0} @List.length_nil.{0})) ?_
  refine AP.cond rfl rfl (fun h=>?_) (fun h=>?_)
  ·refine gO ?_
   exact AE.aG rfl ⟨rfl,trivial⟩ rfl ⟨rfl,by rw[if_pos (by simpa using h)];rfl⟩
  ·refine gO ?_
   exact AE.round 1 ⟨by omega,fun _=>by simpa using h,by omega⟩ (by omega) (sU) rfl
 ·refine gE (an @List.getD_cons_zero.{0} (an @List.getD_cons_succ.{0} (an @List.length_cons.{0} @List.length_nil.{0}))) ?_
  have ha:=U (by omega)
  refine AP.cond rfl rfl (fun h=>?_) (fun h=>?_)
  ·refine gO ?_
   exact AE.aG rfl ⟨rfl,trivial⟩ rfl ⟨rfl,by rw[if_neg (by simpa using ha)];rfl⟩
  ·refine gO ?_
   exact AE.round 2 ⟨by omega,fun _=>ha,fun _=>by simpa using h⟩ (by omega) (sU) rfl
 ·have ha:=U (by omega)
  have hb:=h2 (by omega)
  refine gO ?_
  exact AE.aG rfl ⟨rfl,trivial⟩ rfl ⟨rfl,by rw[if_neg (by simpa using ha),hb];rfl⟩
theorem ND {s t:Tm} {q:Int} (hg:mI s t=if s.xs.length≠t.xs.length then decide (t.xs.length<s.xs.length)else if s.nm≠t.nm then decide (t.nm<s.nm)else o_ s.xs t.xs)
  (hq:(if lR s.xs.length t.xs.length≠0 then lR s.xs.length t.xs.length else k0 s.nm t.nm)=q):(q≠0->mI s t=decide (0<q))/\(q=0->s.xs.length=t.xs.length/\s.nm=t.nm/\mI s t=o_ s.xs t.xs):=by
 have hI:lR s.xs.length t.xs.length=if s.xs.length<t.xs.length then-1 else if t.xs.length<s.xs.length then 1 else 0:=by
  rw[lR];simp only[Int.ofNat_lt]
 rw[hI,k0]at hq
 by_cases U:s.xs.length=t.xs.length
 ·rw[if_neg (by omega:¬s.xs.length<t.xs.length),if_neg (by omega:¬t.xs.length<s.xs.length),if_neg (by decide)]at hq
  rw[if_neg (by omega)]at hg
  rcases zl s.nm t.nm with h2|h2|h2
  ·rw[if_pos h2]at hq
   rw[if_pos (fun e=>by rw[e]at h2;exact List.lt_irrefl _ h2),decide_eq_false (fun h3=>List.lt_asymm h2 h3)]at hg
   subst hq
   exact⟨fun _=>hg,fun h=>absurd h (by decide)⟩
  ·rw[h2,if_neg (List.lt_irrefl _),if_neg (List.lt_irrefl _)]at hq
   rw[if_neg (by simpa using h2)]at hg
   subst hq
   exact⟨fun h=>absurd rfl h,fun _=>⟨U,h2,hg⟩⟩
  ·rw[if_neg (fun h3=>List.lt_asymm h2 h3),if_pos h2]at hq
   rw[if_pos (fun e=>by rw[e]at h2;exact List.lt_irrefl _ h2),decide_eq_true h2]at hg
   subst hq
   exact⟨fun _=>hg,fun h=>absurd h (by decide)⟩
 ·rw[if_pos U]at hg
  by_cases h2:s.xs.length<t.xs.length
  ·rw[if_pos h2,if_pos (by decide)]at hq
   rw[decide_eq_false (by omega)]at hg
   subst hq
   exact⟨fun _=>hg,fun h=>absurd h (by decide)⟩
  ·rw[if_neg h2,if_pos (show t.xs.length<s.xs.length by omega),if_pos (by decide)]at hq
   rw[decide_eq_true (by omega)]at hg
   subst hq
   exact⟨fun _=>hg,fun h=>absurd h (by decide)⟩
theorem Bl (s t:Tm) (hs:aU s) (ht:aU t) (pq:wT s<=1000000) (yS:wT t<=1000000):aP Tryz.prog 168 [bp s,bp t] (Bv (mI s t)):=by
 have cM:=eU.1 hs
 have yQ:=eU.1 ht
 have hg:=OK s t
 have pg:=FI s hs pq
 have r8:=FI t ht yS
 have gj:=NR (dR (bQ s)) (dR (bQ t)) (xO _) (xO _)
 rw[NO]at gj
 refine aj.walk [0,1,2,3,4,5,6,7,8,9,10,21,26,33,57,62,63,64,77] [] Tryz.func168 rfl Tryz.ntmps168 (by kernel_rfl) (by rfl) rfl fun W own I0 aq lay=>?_
 refine gO ?_
 refine AQ.Ax (by kernel_rfl) rfl rfl rfl pg fun r' H' ⟨e1,e2⟩=>?_
 subst e1;subst e2
 refine sI ?_
 refine gO ?_
 refine AQ.Ax (by kernel_rfl) rfl rfl rfl r8 fun r' H' ⟨e1,e2⟩=>?_
 subst e1;subst e2
 refine sI ?_
 refine gO ?_
 refine AQ.bz [(1,1),(0,0)] (by kernel_rfl) rfl rfl rfl rfl rfl rfl (by refine⟨?_,?_,trivial⟩<;>(rw[cH,wq];rfl)) rfl gj fun r' H' ⟨e1,e2⟩=>?_
 subst e1;subst e2
 refine sH ?_
 refine gO ?_
 refine AP.cond rfl rfl (fun U=>?_) (fun U=>?_)
 ·refine gO ?_
  exact AE.aX [1,0] rfl ⟨rfl,trivial⟩ (by simp only[go_sem,Nat.reduceAdd,Nat.reduceLeDiff,Nat.reduceSub,Int.reduceToNat,reduceCtorEq,ba,noMen,AV.mens,AV.men,gr,Bool.or_false];first|done|rfl) ⟨rfl,by rw[hg,if_pos (by simpa using U)];rfl⟩
 rw[if_neg (by simpa using U)]at hg
 refine gO ?_
 refine AP.cond rfl rfl (fun h2=>?_) (fun h2=>?_)
 ·refine gO ?_
  refine AE.aX [1,0] rfl ⟨rfl,trivial⟩ (by simp only[go_sem,Nat.reduceAdd,Nat.reduceLeDiff,Nat.reduceSub,Int.reduceToNat,reduceCtorEq,ba,noMen,AV.mens,AV.men,gr,Bool.or_false];first|done|rfl) ⟨rfl,?_⟩
  rw[hg,if_pos (by simp at h2;omega),show decide (wT t<wT s)=decide ((wT t:Int)<wT s) by rw[decide_eq_decide];omega]
  simp[dZ];rfl
 rw[if_neg (by simp at h2;omega)]at hg
 refine gO ?_
 refine AP.cond rfl rfl (fun h3=>?_) (fun h3=>?_)
 ·refine gO ?_
  exact AE.aX [1,0] rfl ⟨rfl,trivial⟩ (by simp only[go_sem,Nat.reduceAdd,Nat.reduceLeDiff,Nat.reduceSub,Int.reduceToNat,reduceCtorEq,ba,noMen,AV.mens,AV.men,gr,Bool.or_false];first|done|rfl) ⟨rfl,by rw[hg,if_pos (by simpa using h3)];rfl⟩
 rw[if_neg (by simpa using h3)]at hg
 refine gE @ah ?_
 refine AP.cu 15 (Tree.node [] [0,1,2,3,4,5,7,8,9,10] [6] [Tree.node [7,8,9,10] [] [11] [Tree.node [] [] [12] [Tree.node [] [] [13] [Tree.node [] [14] [] []]]]]) (by kernel_rfl) rfl (by kernel_rfl) (by kernel_rfl) ?_
 refine cr ?_
 refine sE @ah ?_
 refine AQ.fn (by kernel_rfl) rfl rfl rfl (NB s.xs.length t.xs.length) rfl ?_
 refine sI ?_
 refine AQ.nx rfl ?_
 refine sI ?_
 refine AQ.fn (by kernel_rfl) rfl rfl rfl (FC s.nm t.nm) rfl ?_
 refine sI ?_
 refine AQ.nx rfl ?_
 refine sI ?_
 refine AQ.go (by kernel_rfl) ?_
 refine sI ?_
 refine AQ.nx rfl ?_
 refine sI ?_
 refine AQ.fn (by kernel_rfl) rfl rfl rfl (Sr (lR s.xs.length t.xs.length) (k0 s.nm t.nm)) rfl ?_
 refine sI ?_
 refine AQ.nx rfl ?_
 refine sI ?_
 refine AQ.done ?_
 obtain⟨q,hq⟩:∃q,(if lR s.xs.length t.xs.length≠0 then lR s.xs.length t.xs.length else k0 s.nm t.nm)=q:=⟨_,rfl⟩
 obtain⟨q1,q2⟩:=ND hg hq
 rw[hq]
 refine gO ?_
 refine AP.cond rfl rfl (fun h4=>?_) (fun h4=>?_)
 ·refine gO ?_
  exact AE.aX [1,0] rfl ⟨rfl,trivial⟩ (by simp only[go_sem,Nat.reduceAdd,Nat.reduceLeDiff,Nat.reduceSub,Int.reduceToNat,reduceCtorEq,ba,noMen,AV.mens,AV.men,gr,Bool.or_false];first|done|rfl) ⟨rfl,by rw[q1 (by simpa using h4)];simp[dZ];rfl⟩
 obtain⟨hl,hn,hm⟩:=q2 (by simpa using h4)
 refine gE @ah ?_
 refine AP.loop rfl (α:=Nat) (fun k=>[(2,.im (kQ s)),(3,.im (kQ t)),(62,Iv s.xs.length),(63,Iv k)]) (fun _=>[(1,.var (.map (kI (dR (bQ t)))) (vN (dR (bQ t)))),(0,.var (.map (kI (dR (bQ s)))) (vN (dR (bQ s))))]) (fun k=>k<=s.xs.length/\mI s t=o_ (s.xs.drop k) (t.xs.drop k)) (fun k=>s.xs.length-k) 0 ⟨by omega,hm⟩ (sU) rfl fun k ⟨hk,hm⟩=>?_
 rcases Nat.eq_or_lt_of_le hk with aC|ag
 ·rw[aC,List.drop_length,hl,List.drop_length,o_]at hm
  refine gE @ah ?_
  refine cF ?_
  refine gO ?_
  exact AE.aX [1,0] rfl ⟨rfl,trivial⟩ (by simp only[go_sem,Nat.reduceAdd,Nat.reduceLeDiff,Nat.reduceSub,Int.reduceToNat,reduceCtorEq,ba,noMen,AV.mens,AV.men,gr,Bool.or_false];first|done|rfl) ⟨rfl,by rw[hm];rfl⟩
  all_goals simp
 ·obtain⟨u,hu,aF⟩:=cz s.xs k ag
  obtain⟨w,b8,cg⟩:=cz t.xs k (by omega)
  rw[drop_cons hu,drop_cons b8,o_]at hm
  have hw:=wr (x:=(k:Int)+1) (by omega)
  have bH:=cA cM.2.2 hu
  have kF:=cA yQ.2.2 b8
  have Qu:wT u<wT s:=Ac (List.mem_of_getElem? hu)
  have WG:wT w<wT t:=Ac (List.mem_of_getElem? b8)
  refine gE @ah ?_
  refine cT ?_
  refine gO ?_
  refine AP.cu 12 (Tree.node [] [0,1,2,3,4,5,6,7,8,9] [10] [Tree.node [] [11] [] []]) (by kernel_rfl) rfl (by kernel_rfl) (by kernel_rfl) ?_
  refine cr ?_
  refine sE (an @aF (an @cg @ah)) ?_
  refine⟨by omega,by omega,?_⟩
  refine AQ.fn (by kernel_rfl) rfl rfl rfl (uh u w bH) rfl ?_
  refine sI ?_
  refine AQ.nx rfl ?_
  refine sI ?_
  refine AQ.done ?_
  refine gO ?_
  refine AP.cond rfl rfl (fun h5=>?_) (fun h5=>?_)
  ·have h5:cX u w=false:=by simpa using h5
   rw[h5,if_neg (by decide)]at hm
   refine gO ?_
   refine AP.cu 12 (Tree.node [] [0,1,2,3,4,5,6,7,8,9] [10] [Tree.node [] [11] [] []]) (by kernel_rfl) rfl (by kernel_rfl) (by kernel_rfl) ?_
   refine cr ?_
   refine sE (an @aF (an @cg @ah)) ?_
   refine⟨by omega,by omega,?_⟩
   refine AQ.fn (by kernel_rfl) rfl rfl rfl (Bl u w bH kF (by omega) (by omega)) rfl ?_
   refine sI ?_
   refine AQ.nx rfl ?_
   refine sI ?_
   refine AQ.done ?_
   refine gO ?_
   exact AE.aX [1,0] rfl ⟨rfl,trivial⟩ (by simp only[go_sem,Nat.reduceAdd,Nat.reduceLeDiff,Nat.reduceSub,Int.reduceToNat,reduceCtorEq,ba,noMen,AV.mens,AV.men,gr,Bool.or_false];first|done|rfl) ⟨rfl,by rw[hm];rfl⟩
  ·have h5:cX u w=true:=by simpa using h5
   rw[if_pos h5]at hm
   refine gE @hw ?_
   exact AE.round (k+1) ⟨by omega,hm⟩ (by omega) (sU) rfl
termination_by SizeOf.sizeOf s
decreasing_by exact iF hu
theorem NM (s t:Tm) (hs:aU s) (ht:aU t) (pq:wT s<=1000000) (yS:wT t<=1000000):aP Tryz.prog 101 [bp s,bp t] (Iv (rL s t)):=by
 refine aj.walk [0,1,2,3,4,5,9,13] [] Tryz.func101 rfl Tryz.ntmps101 (by kernel_rfl) (by rfl) rfl fun W own I0 aq lay=>?_
 refine gO ?_
 refine AQ.fn (by kernel_rfl) rfl rfl rfl (uh s t hs) rfl ?_
 refine sI ?_
 refine gO ?_
 refine AP.cond rfl rfl (fun U=>?_) (fun U=>?_)
 ·refine gO ?_
  exact AE.aG rfl ⟨rfl,trivial⟩ rfl ⟨rfl,by rw[rL,if_pos (by simpa using U)];rfl⟩
 refine gO ?_
 refine AQ.fn (by kernel_rfl) rfl rfl rfl (Bl s t hs ht pq yS) rfl ?_
 refine sI ?_
 refine gO ?_
 refine AP.cond rfl rfl (fun h2=>?_) (fun h2=>?_)
 ·refine gO ?_
  exact AE.aG rfl ⟨rfl,trivial⟩ rfl ⟨rfl,by rw[rL,if_neg (by simpa using U),if_pos (by simpa using h2)];rfl⟩
 refine gO ?_
 refine AQ.fn (by kernel_rfl) rfl rfl rfl (Bl t s ht hs yS pq) rfl ?_
 refine sI ?_
 refine gO ?_
 refine AP.cond rfl rfl (fun h3=>?_) (fun h3=>?_)
 ·refine gO ?_
  exact AE.aG rfl ⟨rfl,trivial⟩ rfl ⟨rfl,by rw[rL,if_neg (by simpa using U),if_neg (by simpa using h2),if_pos (by simpa using h3)];rfl⟩
 ·refine gO ?_
  exact AE.aG rfl ⟨rfl,trivial⟩ rfl ⟨rfl,by rw[rL,if_neg (by simpa using U),if_neg (by simpa using h2),if_neg (by simpa using h3)];rfl⟩
theorem Tl (t:Tm):aP Tryz.prog 173 [bp t] (aK (dw t)):=by
 have e:aK (dw t)= .im (.sl 3 [[Bi false,Si [80],.sl 3 [[Si t.nm,Ii t.ix,.sl 3 (ax t.xs)]]]]):=by
  rw[aK,bP,dw,List.map_cons,List.map_nil,j8]
  simp only[ax,oN]
 rw[e]
 refine aj.walk [0,1,2] [] Tryz.func173 rfl Tryz.ntmps173 (by kernel_rfl) (by rfl) rfl fun W own I0 aq lay=>?_
 refine gO ?_
 exact AE.aG rfl ⟨rfl,trivial⟩ rfl ⟨rfl,rfl⟩
def jf:List Tm->Int
 |[]=>0
 |t::l=>if aW 4 9 2 3 (dw t)≠0 then aW 4 9 2 3 (dw t)else jf l
theorem Fy (l:List Tm) (hl:l.length<=1000000) (hs:∀t∈l,aU t):aP Tryz.prog 111 [.im (.sl 3 (ax l))] (Iv (jf l)):=by
 refine aj.walk [0,2,4,5,6,7,8,9,16] [4] Tryz.func111 rfl Tryz.ntmps111 (by kernel_rfl) (by rfl) rfl fun W own I0 aq lay=>?_
 refine gE @ah ?_
 refine AP.loop rfl (α:=Nat) (fun k=>[(6,.im (.sl 3 (ax l))),(7,Iv l.length),(8,Iv k)]) (fun _=>[]) (fun k=>k<=l.length/\jf l=jf (l.drop k)) (fun k=>l.length-k) 0 ⟨by omega,rfl⟩ (sU) rfl fun k ⟨hk,hm⟩=>?_
 rcases Nat.eq_or_lt_of_le hk with aC|ag
 ·rw[aC,List.drop_length,jf]at hm
  refine gO ?_
  refine cF ?_
  refine gO ?_
  exact AE.aG rfl ⟨rfl,trivial⟩ rfl ⟨rfl,by rw[hm];rfl⟩
 ·obtain⟨u,hu,aF⟩:=cz l k ag
  have hw:=wr (x:=(k:Int)+1) (by omega)
  rw[drop_cons hu,jf]at hm
  refine gE @ah ?_
  refine cT ?_
  refine gE (an @aF @ah) ?_
  refine AQ.fix 0 rfl rfl ?_
  refine sI ?_
  refine AQ.fn (by kernel_rfl) rfl rfl rfl (Tl u) rfl ?_
  refine sI ?_
  refine gO ?_
  refine AQ.fn (by kernel_rfl) rfl rfl rfl (oZ (dw u) (Tf (hs u (List.mem_of_getElem? hu)))) rfl ?_
  refine sI ?_
  refine gO ?_
  refine AP.cond rfl rfl (fun h=>?_) (fun h=>?_)
  ·rw[if_pos (by simpa using h)]at hm
   refine gO ?_
   exact AE.aG rfl ⟨rfl,trivial⟩ rfl ⟨rfl,by rw[hm];rfl⟩
  ·rw[if_neg (by simpa using h)]at hm
   refine gE @hw ?_
   exact AE.round (k+1) ⟨by omega,hm⟩ (by omega) (sU) rfl
def tZ (s t:Tm):Int×Int:=if jf [s,t]≠0 then(0,jf [s,t])else(rL s t,0)
theorem Fz {s:Tm} (h:¬aW 4 9 2 3 (dw s)≠0):wT s<=4000:=by
 have h0:aW 4 9 2 3 (dw s)=0:=by simpa using h
 rw[xN (by decide) (by decide) (by decide) (by decide)]at h0
 have:=h0.2.1
 simp only[dw,bC,jE,List.map_cons,List.map_nil,List.sum_cons,List.sum_nil,aw]at this
 omega
theorem Md (s t:Tm) (hs:aU s) (ht:aU t):aP Tryz.prog 37 [bp s,bp t] (.aM [Iv (tZ s t).1,Iv (tZ s t).2]):=by
 have hc:=Fy [s,t] (by simp) (fun u hu=>by
  rcases List.mem_cons.1 hu with rfl|hu
  ·exact hs
  ·rcases List.mem_cons.1 hu with rfl|hu
   ·exact ht
   ·cases hu)
 have e:(.im (.sl 3 (ax [s,t])):AV)= .im (.sl 3 [[Si s.nm,Ii s.ix,.sl 3 (ax s.xs)],[Si t.nm,Ii t.ix,.sl 3 (ax t.xs)]]):=by simp only[ax,oN]
 rw[e]at hc
 refine aj.walk [0,1,2,3,4,5,6,12] [] Tryz.func37 rfl Tryz.ntmps37 (by kernel_rfl) (by rfl) rfl fun W own I0 aq lay=>?_
 refine gO ?_
 refine AQ.fn (by kernel_rfl) rfl rfl rfl (hc) rfl ?_
 refine sI ?_
 refine gO ?_
 refine AP.cond rfl rfl (fun h=>?_) (fun h=>?_)
 ·refine gO ?_
  exact AE.aG rfl ⟨rfl,rfl,trivial⟩ rfl ⟨rfl,by rw[tZ,if_pos (by simpa using h)];rfl⟩
 ·have h:¬jf [s,t]≠0:=by simpa using h
  have hb:wT s<=4000/\wT t<=4000:=by
   rw[jf,jf,jf]at h
   have U:¬aW 4 9 2 3 (dw s)≠0:=fun hc=>h (by rw[if_pos hc];exact hc)
   rw[if_neg U]at h
   have h2:¬aW 4 9 2 3 (dw t)≠0:=fun hc=>h (by rw[if_pos hc];exact hc)
   exact⟨Fz U,Fz h2⟩
  refine gO ?_
  refine AQ.fn (by kernel_rfl) rfl rfl rfl (NM s t hs ht (by omega) (by omega)) rfl ?_
  refine sI ?_
  refine gO ?_
  exact AE.aG rfl ⟨rfl,rfl,trivial⟩ rfl ⟨rfl,by rw[tZ,if_neg h];rfl⟩
theorem Ug (n:Int):aP Tryz.prog 95 [Iv n] (.agg [Sv [],Iv n,eL]):=by
 refine aj.walk [0,2] [2] Tryz.func95 rfl Tryz.ntmps95 (by kernel_rfl) (by rfl) rfl fun W own I0 aq lay=>?_
 refine gO ?_
 exact AE.aX [0] rfl ⟨⟨rfl,Nat.le_of_ble_eq_true (by kernel_rfl)⟩,trivial⟩ rfl ⟨rfl,rfl⟩
theorem z_ (n:Int):aP Tryz.prog 95 [Iv n] (bp (cQ n)):=(show aP Tryz.prog 95 [Iv n] (.agg [Sv [],Iv n,.im (.sl 3 [])]) from aP.told (Ug n) (by repeat' (first|with_reducible exact dj.refl _|with_reducible exact fZ.refl _|exact fZ.nil _|with_reducible exact bY.refl _|with_reducible exact lC.refl _|with_reducible exact lD.refl _|refine bY.nM ?_ ?_|refine dj.agg ?_|refine dj.im ?_|refine fZ.sl ?_|refine lD.cons ?_ ?_|refine lC.cons ?_ ?_)))
theorem Fx (f:FuncId) (g:Int->Tm) (hg:∀n,aP Tryz.prog f [Iv n] (bp (g n))) (x:Tm) (hs:aU x):aP Tryz.prog 140 [bp x,.fn f [] []] (bp (aB g x)):=by
 have cM:=eU.1 hs
 have hc:=nJ g x
 refine aj.walk [0,1,2,4,5,7,10,19,20,21,22] [4,5,7] Tryz.func140 rfl Tryz.ntmps140 (by kernel_rfl) (by rfl) rfl fun W own I0 aq lay=>?_
 refine gO ?_
 refine AP.cond rfl rfl (fun h=>?_) (fun h=>?_)
 ·rw[if_pos (by simpa using h)]at hc
  refine gO ?_
  refine AQ.rK [] (by kernel_rfl) rfl rfl rfl rfl rfl rfl (fun k=>by exact trivial) (fun k=>rfl) (fun k=>rfl) (hg x.ix) ?_
  refine sI ?_
  refine gO ?_
  exact AE.aX [0] rfl ⟨⟨rfl,Nat.le_of_ble_eq_true (by kernel_rfl)⟩,trivial⟩ rfl ⟨rfl,by rw[hc];rfl⟩
 rw[if_neg (by simpa using h)]at hc
 refine gE @ah ?_
 rw[h_]at hc
 refine AP.hO 1 2 71 3 rfl rfl ?_
 refine sI ?_
 refine AP.loop rfl (α:=Nat) (fun k=>[(1,.fn f [] []),(4,.ob 0 0),(5,.ob 1 0),(19,.im (.sl 3 (ax x.xs))),(20,Iv x.xs.length),(21,Iv k)]) (fun k=>[(2,.vec 71 3 (ax ((x.xs.take k).map (aB g)))),(1,.var 71 [Sv x.nm,Iv 0,.os 2 3 0 k]),(0,.var 71 [Sv [],Iv 0,eL])]) (fun k=>k<=x.xs.length) (fun k=>x.xs.length-k) 0 (by omega) (sU) rfl fun k hk=>?_
 rcases Nat.eq_or_lt_of_le hk with aC|ag
 ·subst aC
  rw[List.take_length]
  refine gE @ah ?_
  refine cF ?_
  refine gO ?_
  refine AE.freeze 2 (el:=71) (es:=3) (rows:=ax (x.xs.map (aB g))) rfl (by simp only[go_sem,Nat.reduceAdd,Nat.reduceLeDiff,Nat.reduceSub,Int.reduceToNat,reduceCtorEq,ah,List.length_map];first|done|trivial|omega|(simp;done)|(simp;omega)) (by simp only[go_sem,Nat.reduceAdd,Nat.reduceLeDiff,Nat.reduceSub,Int.reduceToNat,reduceCtorEq,ah,List.length_map];first|done|trivial|omega|(simp;done)|(simp;omega)) ?_;simp only[go_sem,Nat.reduceAdd,Nat.reduceLeDiff,Nat.reduceSub,Int.reduceToNat,reduceCtorEq,ah,List.length_map]
  rw[List.take_of_length_le (by rw[ah,List.length_map];omega)]
  exact AE.aX [1,0] rfl ⟨⟨rfl,Nat.le_of_ble_eq_true (by kernel_rfl)⟩,trivial⟩ rfl ⟨rfl,by rw[hc];rfl⟩
 ·obtain⟨u,hu,aF⟩:=cz x.xs k ag
  have hw:=wr (x:=(k:Int)+1) (by omega)
  have aY:=gP (l:=x.xs) (k:=k) (by omega)
  have ih:=Fx f g hg u (cA cM.2.2 hu)
  have bc:=q5 (aB g) hu
  obtain⟨w,oh⟩:∃w,aB g u=w:=⟨_,rfl⟩
  rw[oh]at ih bc
  refine gE @ah ?_
  refine cT ?_
  refine gE @aF ?_
  refine⟨by rw[ah];omega,?_⟩
  refine gO ?_
  refine AP.cu 9 (Tree.node [] [0,1,2,3] [4] [Tree.node [0,1] [] [5] [Tree.node [0,1] [] [6] [Tree.node [] [7] [8] [Tree.node [] [] [] []]]]]) (by kernel_rfl) rfl (by kernel_rfl) (by kernel_rfl) ?_
  refine cr ?_
  refine sI ?_
  refine AQ.fn (by kernel_rfl) rfl rfl rfl (ih) rfl ?_
  refine sI ?_
  refine AQ.nx rfl ?_
  refine sI ?_
  refine AQ.go (by kernel_rfl) ?_
  refine sI ?_
  refine AQ.nx rfl ?_
  refine sI ?_
  refine AQ.kill 2 ?_
  refine sI ?_
  refine AQ.append (hnb:=rfl) (rows:=ax ((x.xs.take k).map (aB g))) (es:=2) (by kernel_rfl) rfl rfl rfl (by rfl) Tryz.p8 Tryz.p7 (by show Option.map _ (az Tryz.prog 71)=_;rw[Tryz.qb];rfl) Tryz.oY (by first|rfl|(simp only[ah,List.length_map,aY,List.length_cons,List.length_nil];done)|(simp only[ah,List.length_map,aY,List.length_cons,List.length_nil];omega)) (by simp only[ah,List.length_map,aY,List.length_cons,List.length_nil];omega) (by simp only[ah,List.length_map,aY,List.length_cons,List.length_nil];omega) ?_
  refine sI ?_
  refine AQ.nx rfl ?_
  refine sI ?_
  refine AQ.go (by kernel_rfl) ?_
  refine sI ?_
  refine AQ.nx rfl ?_
  refine sI ?_
  refine AQ.done ?_
  refine gE @hw ?_
  refine AE.dq [3] rfl ?_
  refine sI ?_
  refine AE.round (k+1) (by omega) (by omega) (sU) ?_
  rw[bc,ni,ah,List.length_map,aY]
termination_by SizeOf.sizeOf x
decreasing_by exact iF hu
theorem FF (x:Tm) (hs:aU x):aP Tryz.prog 108 [bp x] (bp (aB cQ x)):=by
 have h:=Fx 95 cQ z_ x hs
 refine aj.walk [0,1,2] [2] Tryz.func108 rfl Tryz.ntmps108 (by kernel_rfl) (by rfl) rfl fun W own I0 aq lay=>?_
 refine gO ?_
 refine AQ.fn (by kernel_rfl) rfl rfl rfl (h) rfl ?_
 refine sI ?_
 refine gO ?_
 exact AE.aX [0] rfl ⟨⟨rfl,Nat.le_of_ble_eq_true (by kernel_rfl)⟩,trivial⟩ rfl ⟨rfl,rfl⟩
theorem q4:∀(l:Bd) (v:Int),dh l v=bh l v
 |[],v=>rfl
 |b::l,v=>by rw[dh,bh,q4 l v]
theorem kS:Tryz.prog.underlying 158=some (.map 3 71):=by kernel_rfl
theorem Ex:(Tryz.prog.info? 71).bind (·.zero)=some (.agg #[.string (BA []),.int .i64 0,.slice none 0 0]):=by kernel_rfl
theorem Ey (w:World) (φ:al) (I:Nat->Prop):AV.den w φ I (.agg [Sv [],Iv 0,eL]) (.agg #[.string (BA []),.int .i64 0,.slice none 0 0]):=by
 simp only[AV.den,AV.ab,IV.den]
 exact⟨[_,_,_],⟨_,_,rfl,⟨rfl,rfl⟩,_,_,rfl,⟨rfl,rfl⟩,_,_,rfl,⟨rfl,rfl⟩,rfl⟩,rfl,by simp[Value.oneCell']⟩
theorem Ke {α:Type} {m:List (Int×α)} {v:Int} (x:α) (h:de m v=none):lB m v x=m++[(v,x)]:=by rw[lB,h]
theorem M4 (l:Bd) (hs:je l):aj Tryz.prog 104 [cE l] [] (fun r H'=>(fJ [] l=0/\cN l/\r= .aM [.mp 0,Iv 0]/\H'=[(0,.var (.map (kI l)) (vT l))])\/(fJ [] l≠0/\r= .aM [.im (.v (.map none)),Iv (fJ [] l)]/\H'=[])):=by
 have hl:=hs.1
 refine aj.walk [0,2,3,4,6,8,9,11,12,13,14,24,33,40] [6,7] Tryz.func104 rfl Tryz.ntmps104 (by kernel_rfl) (by rfl) rfl fun W own I0 aq lay=>?_
 refine gO ?_
 refine AQ.vY (by kernel_rfl) ?_
 refine sI ?_
 refine gE @aI ?_
 refine AP.loop rfl (α:=Nat) (fun k=>[(4,.mp 0),(11,cE l),(12,Iv l.length),(13,Iv k)]) (fun k=>[(0,.var (.map (kI (l.take k))) (vT (l.take k)))]) (fun k=>k<=l.length/\cN (l.take k)/\fJ [] l=fJ (l.take k) (l.drop k)) (fun k=>l.length-k) 0 ⟨by omega,List.nodup_nil,rfl⟩ (sU) rfl fun k ⟨hk,bg,hm⟩=>?_
 rcases Nat.eq_or_lt_of_le hk with aC|ag
 ·rw[aC,List.take_length,List.drop_length,fJ]at hm
  rw[aC,List.take_length]at bg
  subst aC
  rw[List.take_length]
  refine gO ?_
  refine cF ?_
  refine gO ?_
  exact AE.aX [] rfl ⟨rfl,rfl,trivial⟩ rfl (.inl ⟨hm,bg,rfl,rfl⟩)
 ·obtain⟨u,hu,aF⟩:=qj l k ag
  have hw:=wr (x:=(k:Int)+1) (by omega)
  rw[M8 hu,q4]at hm
  have bH:=hs.2 u (List.mem_of_getElem? hu)
  have BL:=Fy [u.2] (by simp) (fun t ht=>by rw[List.mem_singleton]at ht;subst ht;exact bH)
  have e:(.im (.sl 3 (ax [u.2])):AV)= .im (.sl 3 [[Si u.2.nm,Ii u.2.ix,.sl 3 (ax u.2.xs)]]):=by simp only[ax,oN]
  rw[e]at BL
  have pg:jf [u.2]=aW 4 9 2 3 (dw u.2):=by
   rw[jf,jf]
   by_cases h:aW 4 9 2 3 (dw u.2)≠0
   ·rw[if_pos h]
   ·rw[if_neg h];exact(Classical.byContradiction fun hc=>h (fun h2=>hc h2.symm))
  rw[pg]at BL
  refine gE @aI ?_
  refine cT ?_
  refine gE (an @aF @aI) ?_
  cases hq:de (l.take k) u.1 with
  |some j=>
   obtain⟨x,U,h2⟩:=l_ hq
   rw[h2]at hm
   refine AQ.pI j (by kernel_rfl) rfl rfl rfl kS u3 (ft _) rfl (List.mem_of_getElem? (show(kI (l.take k))[j]?=some (.int .i64 u.1) from ma (p:=(u.1,x)) U)) (fun i hi=>mb bg U hi) (show(vT (l.take k))[j]?=some (bp x) from wP (p:=(u.1,x)) U) ?_
   refine sI ?_
   refine gO ?_
   refine AP.cond rfl rfl (fun h3=>?_) (fun h3=>?_)
   ·rw[if_pos (by simp at h3;omega)]at hm
    refine gO ?_
    exact AE.aX [2,1,0] rfl ⟨rfl,rfl,trivial⟩ (by simp only[go_sem,Nat.reduceAdd,Nat.reduceLeDiff,Nat.reduceSub,Int.reduceToNat,reduceCtorEq,ba,noMen,AV.mens,AV.men,cp,Bool.or_false];first|done|rfl) (.inr ⟨by rw[hm];decide,by rw[hm];rfl,rfl⟩)
   ·rw[if_neg (by simp at h3;omega),if_pos (show(some x).isSome=true from rfl)]at hm
    refine gO ?_
    exact AE.aX [2,1,0] rfl ⟨rfl,rfl,trivial⟩ (by simp only[go_sem,Nat.reduceAdd,Nat.reduceLeDiff,Nat.reduceSub,Int.reduceToNat,reduceCtorEq,ba,noMen,AV.mens,AV.men,cp,Bool.or_false];first|done|rfl) (.inr ⟨by rw[hm];decide,by rw[hm];rfl,rfl⟩)
  |none=>
   have Cb:cN (l.take (k+1)):=by
    have:=Dw bg u.1 u.2
    rw[Ke _ hq]at this
    rw[c7 hu];exact this
   rw[(kK hq).1]at hm
   refine AQ.zk (.agg [Sv [],Iv 0,eL]) (by kernel_rfl) rfl rfl rfl kS u3 (ft _) rfl (lx hq) Ex Ey ?_
   refine sI ?_
   refine gO ?_
   refine AP.cond rfl rfl (fun h3=>?_) (fun h3=>?_)
   ·rw[if_pos (by simp at h3;omega)]at hm
    refine gO ?_
    exact AE.aX [2,1,0] rfl ⟨rfl,rfl,trivial⟩ (by simp only[go_sem,Nat.reduceAdd,Nat.reduceLeDiff,Nat.reduceSub,Int.reduceToNat,reduceCtorEq,ba,noMen,AV.mens,AV.men,cp,Bool.or_false];first|done|rfl) (.inr ⟨by rw[hm];decide,by rw[hm];rfl,rfl⟩)
   ·rw[if_neg (by simp at h3;omega),if_neg (by simp)]at hm
    refine gO ?_
    refine AQ.fn (by kernel_rfl) rfl rfl rfl (BL) rfl ?_
    refine sI ?_
    refine gO ?_
    refine AP.cond rfl rfl (fun h4=>?_) (fun h4=>?_)
    ·have h4:aW 4 9 2 3 (dw u.2)≠0:=by simpa using h4
     rw[if_pos h4]at hm
     refine gO ?_
     exact AE.aX [2,1,0] rfl ⟨rfl,rfl,trivial⟩ (by simp only[go_sem,Nat.reduceAdd,Nat.reduceLeDiff,Nat.reduceSub,Int.reduceToNat,reduceCtorEq,ba,noMen,AV.mens,AV.men,cp,Bool.or_false];first|done|rfl) (.inr ⟨by rw[hm];exact h4,by rw[hm];rfl,rfl⟩)
    ·have h4:¬aW 4 9 2 3 (dw u.2)≠0:=by simpa using h4
     rw[if_neg h4]at hm
     refine gO ?_
     refine AQ.v7 (by kernel_rfl) rfl rfl rfl rfl kS u3 (ft _) rfl (lx hq) ?_
     refine sI ?_
     refine gE @hw ?_
     have e1:vT (l.take k)++[bp u.2]=vT (l.take (k+1)):=by rw[c7 hu];simp only[vT,List.map_append];rfl
     have e2:kI (l.take k)++[.int .i64 u.1]=kI (l.take (k+1)):=by rw[c7 hu];simp only[kI,List.map_append];rfl
     rw[e1,e2]
     refine AE.dq [2,1] (by simp only[go_sem,Nat.reduceAdd,Nat.reduceLeDiff,Nat.reduceSub,Int.reduceToNat,reduceCtorEq,ba,noMen,AV.mens,AV.men,cp,Bool.or_false];first|done|rfl) ?_
     refine sI ?_
     exact AE.round (k+1) ⟨by omega,Cb,hm⟩ (by omega) (sU) rfl
def lE (t:Tm):Int×Int:=(wT t,cG t)
theorem Ea:Tryz.prog.underlying 161=some (.map 3 164):=by kernel_rfl
theorem Ts (t:Tm) (h:wT t<=4000):ja t 1 (0,0)=lE t:=by
 rw[tj t 1 0 0 (by omega),lE]
 have:(0:Int)<=cG t:=by omega
 simp only[Prod.mk.injEq];omega
theorem QX {α:Type} {m:List (Int×α)} {v:Int} (h:v∉m.map (·.1)):de m v=none:=by
 cases hq:de m v with
 |none=>rfl
 |some j=>
  obtain⟨x,U,_⟩:=l_ hq
  exact absurd (List.mem_map.2 ⟨(v,x),List.mem_of_getElem? U,rfl⟩) h
theorem Ur (l:Bd) (bg:cN l) (hs:je l) (aO:∀p∈l,wT p.2<=4000):aj Tryz.prog 105 [.mp 0] [(0,.var (.map (kI l)) (vT l))] (fun r H'=>∃m,cN m/\(∀v,bh m v=(bh l v).map lE)/\r= .mp 1/\H'=[(1,.var (.map (kI m)) (vZ m)),(0,.var (.map (kI l)) (vT l))]):=by
 refine aj.walk [0,2,3,4,5,6,9,11] [5,6] Tryz.func105 rfl Tryz.ntmps105 (by kernel_rfl) (by rfl) rfl fun W own I0 aq lay=>?_
 refine gO ?_
 refine AQ.vY (by kernel_rfl) ?_
 refine sI ?_
 refine gO ?_
 refine AQ.Dl (by kernel_rfl) rfl rfl kS fun bs clock bx=>?_
 have b5:(vT l).length=bs.length:=by rw[<-bx.len,Ei,sL]
 have jn:=CT l
 refine sI ?_
 refine gO ?_
 refine AP.loop rfl (α:=List Nat×List (Int×Int×Int)) (fun _=>[(3,.mp 1),(9,.ob 2 0)]) (fun s=>[(2,.var (.raw (iX clock s.1 clock)) [.mp 0]),(1,.var (.map (kI s.2)) (vZ s.2)),(0,.var (.raw (jD (kI l) bs clock)) (vT l))])
  (fun s=>cN s.2/\(∀p∈s.2,∃t,(p.1,t)∈l/\p.2=lE t)/\∀(j n:Nat) (p:Int×Tm),bs[j]?=some n->l[j]?=some p->(n∈s.1↔p.1∈s.2.map (·.1))) (fun s=>oQ bs s.1) ([],[]) ⟨List.nodup_nil,fun p hp=>(by cases hp),fun j n p _ _=>⟨fun h=>(by cases h),fun h=>(by cases h)⟩⟩ (sU) rfl fun⟨seen,m⟩ ⟨U,h2,h3⟩=>?_
 simp only at U h2 h3⊢
 refine gO ?_
 refine AQ.Dj (by kernel_rfl) rfl rfl rfl bx rfl rfl jn b5 (fun gG=>?_) (fun j n key y dJ n9 mM hy=>?_)
 ·have fS:∀v,bh m v=(bh l v).map lE:=fun v=>by
   cases hq:bh m v with
   |some y=>
    obtain⟨t,ht,e⟩:=h2 _ (vO hq)
    rw[Dv bg ht]
    simp only at e
    rw[e];rfl
   |none=>
    cases hp:bh l v with
    |none=>rfl
    |some t=>
     obtain⟨j,_,hj⟩:=C5 hp
     have jX:j<bs.length:=by have:=(List.getElem?_eq_some_iff.1 hj).1;rw[<-bx.len,sL];exact this
     have:=(h3 j bs[j] (v,t) (List.getElem?_eq_getElem jX) hj).1 (gG _ (List.getElem_mem _))
     rw[Rs]at hq
     exact absurd this (kK hq).2
  refine sI ?_
  refine gO ?_
  refine AE.mf 0 rfl bx b5 ?_
  refine sI ?_
  exact AE.aX [2] rfl ⟨rfl,trivial⟩ (by simp only[go_sem,Nat.reduceAdd,Nat.reduceLeDiff,Nat.reduceSub,Int.reduceToNat,reduceCtorEq,ba,noMen,AV.mens,AV.men,cp,gK,Bool.or_false];first|done|rfl) ⟨m,U,fS,rfl,rfl⟩
 ·obtain⟨p,hp,rfl⟩:=y7 mM
  have vA:=wP hp
  rw[hy]at vA
  cases vA
  have j5:=List.mem_of_getElem? hp
  have qT:=D1 p.2 1 0 0 (hs.2 p j5) (by omega) (by omega)
  rw[Ts p.2 (aO p j5)]at qT
  have iU:p.1∉m.map (·.1):=fun hc=>n9 ((h3 j n p dJ hp).2 hc)
  have hq:=QX iU
  refine sI ?_
  refine gO ?_
  refine AQ.Di (by kernel_rfl) rfl rfl rfl bx jn b5 dJ mM hy ?_
  refine sI ?_
  refine gO ?_
  refine AQ.bz [(0,4)] (by kernel_rfl) rfl rfl rfl rfl rfl rfl (by exact⟨rfl,trivial⟩) rfl qT fun r' H' ⟨e1,e2⟩=>?_
  subst e1;subst e2
  refine sH ?_
  refine gO ?_
  refine AQ.v7 (by kernel_rfl) rfl rfl rfl rfl Ea u3 (ft _) rfl (lx hq) ?_
  refine sI ?_
  refine gO ?_
  have e1:vZ m++[.agg [Iv (lE p.2).1,Iv (lE p.2).2]]=vZ (m++[(p.1,lE p.2)]):=by simp only[vZ,List.map_append];rfl
  have e2:kI m++[.int .i64 p.1]=kI (m++[(p.1,lE p.2)]):=by simp only[kI,List.map_append];rfl
  rw[e1,e2]
  refine AE.dq [4,3] (by simp only[go_sem,Nat.reduceAdd,Nat.reduceLeDiff,Nat.reduceSub,Int.reduceToNat,reduceCtorEq,ba,noMen,AV.mens,AV.men,cp,gK,Bool.or_false];first|done|rfl) ?_
  refine sI ?_
  have Cb:cN (m++[(p.1,lE p.2)]):=by
   have:=Dw U p.1 (lE p.2)
   rw[Ke _ hq]at this
   exact this
  refine AE.round (seen++[n],m++[(p.1,lE p.2)]) ⟨Cb,fun q gJ=>?_,fun j' n' p' h7 h9=>?_⟩ (Ee (List.mem_of_getElem? dJ) n9) (sU) rfl
  ·rcases List.mem_append.1 gJ with h|h
   ·exact h2 q h
   ·rw[List.mem_singleton]at h
    subst h
    exact⟨p.2,j5,rfl⟩
  ·have h8:=h3 j' n' p' h7 h9
   simp only[List.map_append,List.mem_append,List.map_cons,List.map_nil,List.mem_singleton]
   rw[h8]
   constructor
   ·rintro(h|h)
    ·exact .inl h
    ·subst h
     have e2:j'=j:=by
      obtain⟨a1,b1⟩:=List.getElem?_eq_some_iff.1 h7
      obtain⟨a2,b2⟩:=List.getElem?_eq_some_iff.1 dJ
      exact(List.getElem_inj bx.nd).1 (b1.trans b2.symm)
     subst e2
     rw[hp]at h9;cases h9
     exact .inr rfl
   ·rintro(h|h)
    ·exact .inl h
    ·right
     have e1:(l.map (·.1))[j']?=some p'.1:=by rw[List.getElem?_map,h9];rfl
     have e2:(l.map (·.1))[j]?=some p.1:=by rw[List.getElem?_map,hp];rfl
     rw[h]at e1
     obtain⟨a1,b1⟩:=List.getElem?_eq_some_iff.1 e1
     obtain⟨a2,b2⟩:=List.getElem?_eq_some_iff.1 e2
     have:=(List.getElem_inj bg).1 (b1.trans b2.symm)
     subst this
     rw[dJ]at h7;cases h7;rfl
end Go.Proofs.YtpfohmboflcneaaGreatDoor
end
