import Derived.Test.YtpfohmboflcneaaGreatDoorAl3
import Derived.Test.YtpfohmboflcneaaGreatDoorChecked
import Derived.KernelRfl
import Derived.Lib.ItoaMem
set_option linter.unusedSimpArgs false
set_option linter.unusedVariables false
set_option linter.unnecessarySimpa false
section

end
section
namespace Go.Proofs.YtpfohmboflcneaaGreatDoor
open Go Go.AL
@[go_sem] theorem Tryz.X6:tk Tryz.prog 1= .func:=by kernel_rfl
@[go_sem] theorem Tryz.WW:sz Tryz.prog 1=some 1:=by kernel_rfl
@[go_sem] theorem Tryz.U7:aW Tryz.prog 1=some 8:=by kernel_rfl
@[go_sem] theorem Tryz.Zr:aC Tryz.prog 1=some ([.nilFunc]):=by kernel_rfl
@[go_sem] theorem Tryz.Yq:tk Tryz.prog 2= .int .i64:=by kernel_rfl
@[go_sem] theorem Tryz.Xe:sz Tryz.prog 2=some 1:=by kernel_rfl
@[go_sem] theorem Tryz.Vp:aW Tryz.prog 2=some 8:=by kernel_rfl
@[go_sem] theorem Tryz.Zf:(Tryz.prog.underlying 2).isSome=true:=by kernel_rfl
@[go_sem] theorem Tryz.ZK:aC Tryz.prog 2=some ([.int .i64 0]):=by kernel_rfl
@[go_sem] theorem Tryz.YF:tk Tryz.prog 3= .int .i64:=by kernel_rfl
@[go_sem] theorem Tryz.Ae:sz Tryz.prog 3=some 1:=by kernel_rfl
@[go_sem] theorem Tryz.x7:aW Tryz.prog 3=some 8:=by kernel_rfl
@[go_sem] theorem Tryz.Zi:(Tryz.prog.underlying 3).isSome=true:=by kernel_rfl
@[go_sem] theorem Tryz.Az:aC Tryz.prog 3=some ([.int .i64 0]):=by kernel_rfl
@[go_sem] theorem Tryz.YV:tk Tryz.prog 4= .bool:=by kernel_rfl
@[go_sem] theorem Tryz.XN:sz Tryz.prog 4=some 1:=by kernel_rfl
@[go_sem] theorem Tryz.VX:aW Tryz.prog 4=some 1:=by kernel_rfl
@[go_sem] theorem Tryz.Zn:(Tryz.prog.underlying 4).isSome=true:=by kernel_rfl
@[go_sem] theorem Tryz.zr4:aC Tryz.prog 4=some ([.bool false]):=by kernel_rfl
@[go_sem] theorem Tryz.YX:tk Tryz.prog 5= .int .u8:=by kernel_rfl
@[go_sem] theorem Tryz.T3:sz Tryz.prog 5=some 1:=by kernel_rfl
@[go_sem] theorem Tryz.Nj:aW Tryz.prog 5=some 1:=by kernel_rfl
@[go_sem] theorem Tryz.Zo:(Tryz.prog.underlying 5).isSome=true:=by kernel_rfl
@[go_sem] theorem Tryz.U4:aC Tryz.prog 5=some ([.int .u8 0]):=by kernel_rfl
@[go_sem] theorem Tryz.Y0:tk Tryz.prog 6= .int .u8:=by kernel_rfl
@[go_sem] theorem Tryz.XS:sz Tryz.prog 6=some 1:=by kernel_rfl
@[go_sem] theorem Tryz.V2:aW Tryz.prog 6=some 1:=by kernel_rfl
@[go_sem] theorem Tryz.Zp:(Tryz.prog.underlying 6).isSome=true:=by kernel_rfl
@[go_sem] theorem Tryz.zr6:aC Tryz.prog 6=some ([.int .u8 0]):=by kernel_rfl
@[go_sem] theorem Tryz.Y6:tk Tryz.prog 7= .struct [(0,2),(1,3),(2,4),(3,6)]:=by kernel_rfl
@[go_sem] theorem Tryz.XZ:sz Tryz.prog 7=some 4:=by kernel_rfl
@[go_sem] theorem Tryz.V8:aW Tryz.prog 7=some 24:=by kernel_rfl
@[go_sem] theorem Tryz.Wo:kB Tryz.prog 7=true:=by kernel_rfl
@[go_sem] theorem Tryz.zr7:aC Tryz.prog 7=some ([.int .i64 0,.int .i64 0,.bool false,.int .u8 0]):=by kernel_rfl
@[go_sem] theorem Tryz.Y8:tk Tryz.prog 8= .struct [(0,2),(1,3),(2,4),(3,6)]:=by kernel_rfl
@[go_sem] theorem Tryz.X0:sz Tryz.prog 8=some 4:=by kernel_rfl
@[go_sem] theorem Tryz.V9:aW Tryz.prog 8=some 24:=by kernel_rfl
@[go_sem] theorem Tryz.Wp:kB Tryz.prog 8=true:=by kernel_rfl
@[go_sem] theorem Tryz.zr8:aC Tryz.prog 8=some ([.int .i64 0,.int .i64 0,.bool false,.int .u8 0]):=by kernel_rfl
@[go_sem] theorem Tryz.Za:tk Tryz.prog 9= .str:=by kernel_rfl
@[go_sem] theorem Tryz.X3:sz Tryz.prog 9=some 1:=by kernel_rfl
@[go_sem] theorem Tryz.Wb:aW Tryz.prog 9=some 16:=by kernel_rfl
@[go_sem] theorem Tryz.Zq:(Tryz.prog.underlying 9).isSome=true:=by kernel_rfl
@[go_sem] theorem Tryz.zr9:aC Tryz.prog 9=some ([.string ⟨#[]⟩]):=by kernel_rfl
@[go_sem] theorem Tryz.X7:tk Tryz.prog 10= .str:=by kernel_rfl
@[go_sem] theorem Tryz.WX:sz Tryz.prog 10=some 1:=by kernel_rfl
@[go_sem] theorem Tryz.U8:aW Tryz.prog 10=some 16:=by kernel_rfl
@[go_sem] theorem Tryz.Zd:(Tryz.prog.underlying 10).isSome=true:=by kernel_rfl
@[go_sem] theorem Tryz.Zs:aC Tryz.prog 10=some ([.string ⟨#[]⟩]):=by kernel_rfl
@[go_sem] theorem Tryz.X8:tk Tryz.prog 11= .str:=by kernel_rfl
@[go_sem] theorem Tryz.WY:sz Tryz.prog 11=some 1:=by kernel_rfl
@[go_sem] theorem Tryz.U9:aW Tryz.prog 11=some 16:=by kernel_rfl
@[go_sem] theorem Tryz.Ze:(Tryz.prog.underlying 11).isSome=true:=by kernel_rfl
@[go_sem] theorem Tryz.Zt:aC Tryz.prog 11=some ([.string ⟨#[]⟩]):=by kernel_rfl
@[go_sem] theorem Tryz.Yr:tk Tryz.prog 20= .iface:=by kernel_rfl
@[go_sem] theorem Tryz.Xf:sz Tryz.prog 20=some 1:=by kernel_rfl
@[go_sem] theorem Tryz.Vq:aW Tryz.prog 20=some 16:=by kernel_rfl
@[go_sem] theorem Tryz.ZL:aC Tryz.prog 20=some ([.nilIface]):=by kernel_rfl
@[go_sem] theorem Tryz.Ys:tk Tryz.prog 21= .int .i32:=by kernel_rfl
@[go_sem] theorem Tryz.Xg:sz Tryz.prog 21=some 1:=by kernel_rfl
@[go_sem] theorem Tryz.Vr:aW Tryz.prog 21=some 4:=by kernel_rfl
@[go_sem] theorem Tryz.Zg:(Tryz.prog.underlying 21).isSome=true:=by kernel_rfl
@[go_sem] theorem Tryz.ZM:aC Tryz.prog 21=some ([.int .i32 0]):=by kernel_rfl
@[go_sem] theorem Tryz.gf:tk Tryz.prog 23= .slice 61:=by kernel_rfl
@[go_sem] theorem Tryz.Xl:sz Tryz.prog 23=some 1:=by kernel_rfl
@[go_sem] theorem Tryz.Vw:aW Tryz.prog 23=some 24:=by kernel_rfl
@[go_sem] theorem Tryz.ZR:aC Tryz.prog 23=some ([.slice none 0 0]):=by kernel_rfl
@[go_sem] theorem Tryz.YA:tk Tryz.prog 24= .func:=by kernel_rfl
@[go_sem] theorem Tryz.Xq:sz Tryz.prog 24=some 1:=by kernel_rfl
@[go_sem] theorem Tryz.VB:aW Tryz.prog 24=some 8:=by kernel_rfl
@[go_sem] theorem Tryz.ZW:aC Tryz.prog 24=some ([.nilFunc]):=by kernel_rfl
@[go_sem] theorem Tryz.Ah:tk Tryz.prog 27= .slice 119:=by kernel_rfl
@[go_sem] theorem Tryz.Xt:sz Tryz.prog 27=some 1:=by kernel_rfl
@[go_sem] theorem Tryz.VE:aW Tryz.prog 27=some 24:=by kernel_rfl
@[go_sem] theorem Tryz.ZZ:aC Tryz.prog 27=some ([.slice none 0 0]):=by kernel_rfl
@[go_sem] theorem Tryz.YG:tk Tryz.prog 30= .int .i64:=by kernel_rfl
@[go_sem] theorem Tryz.Xw:sz Tryz.prog 30=some 1:=by kernel_rfl
@[go_sem] theorem Tryz.VH:aW Tryz.prog 30=some 8:=by kernel_rfl
@[go_sem] theorem Tryz.Zj:(Tryz.prog.underlying 30).isSome=true:=by kernel_rfl
@[go_sem] theorem Tryz.Z2:aC Tryz.prog 30=some ([.int .i64 0]):=by kernel_rfl
@[go_sem] theorem Tryz.YL:tk Tryz.prog 32= .func:=by kernel_rfl
@[go_sem] theorem Tryz.XC:sz Tryz.prog 32=some 1:=by kernel_rfl
@[go_sem] theorem Tryz.VN:aW Tryz.prog 32=some 8:=by kernel_rfl
@[go_sem] theorem Tryz.Z7:aC Tryz.prog 32=some ([.nilFunc]):=by kernel_rfl
@[go_sem] theorem Tryz.YW:tk Tryz.prog 40= .func:=by kernel_rfl
@[go_sem] theorem Tryz.XO:sz Tryz.prog 40=some 1:=by kernel_rfl
@[go_sem] theorem Tryz.VY:aW Tryz.prog 40=some 8:=by kernel_rfl
@[go_sem] theorem Tryz.aag:aC Tryz.prog 40=some ([.nilFunc]):=by kernel_rfl
@[go_sem] theorem Tryz.Ai:tk Tryz.prog 46= .slice 3:=by kernel_rfl
@[go_sem] theorem Tryz.XP:sz Tryz.prog 46=some 1:=by kernel_rfl
@[go_sem] theorem Tryz.VZ:aW Tryz.prog 46=some 24:=by kernel_rfl
@[go_sem] theorem Tryz.aah:aC Tryz.prog 46=some ([.slice none 0 0]):=by kernel_rfl
@[go_sem] theorem Tryz.Ub:tk Tryz.prog 52= .slice 59:=by kernel_rfl
@[go_sem] theorem Tryz.XQ:sz Tryz.prog 52=some 1:=by kernel_rfl
@[go_sem] theorem Tryz.V0:aW Tryz.prog 52=some 24:=by kernel_rfl
@[go_sem] theorem Tryz.aai:aC Tryz.prog 52=some ([.slice none 0 0]):=by kernel_rfl
@[go_sem] theorem Tryz.wX:tk Tryz.prog 55= .slice 57:=by kernel_rfl
@[go_sem] theorem Tryz.XR:sz Tryz.prog 55=some 1:=by kernel_rfl
@[go_sem] theorem Tryz.V1:aW Tryz.prog 55=some 24:=by kernel_rfl
@[go_sem] theorem Tryz.aaj:aC Tryz.prog 55=some ([.slice none 0 0]):=by kernel_rfl
@[go_sem] theorem Tryz.YY:tk Tryz.prog 57= .struct [(0,9),(1,3),(2,55)]:=by kernel_rfl
@[go_sem] theorem Tryz.wR:sz Tryz.prog 57=some 3:=by kernel_rfl
@[go_sem] theorem Tryz.um:aW Tryz.prog 57=some 48:=by kernel_rfl
@[go_sem] theorem Tryz.xg:aC Tryz.prog 57=some ([.string ⟨#[]⟩,.int .i64 0,.slice none 0 0]):=by kernel_rfl
@[go_sem] theorem Tryz.YZ:tk Tryz.prog 59= .struct [(0,3),(1,57)]:=by kernel_rfl
@[go_sem] theorem Tryz.T4:sz Tryz.prog 59=some 4:=by kernel_rfl
@[go_sem] theorem Tryz.Nk:aW Tryz.prog 59=some 56:=by kernel_rfl
@[go_sem] theorem Tryz.U5:aC Tryz.prog 59=some ([.int .i64 0,.string ⟨#[]⟩,.int .i64 0,.slice none 0 0]):=by kernel_rfl
@[go_sem] theorem Tryz.Y1:tk Tryz.prog 61= .struct [(0,4),(1,9),(2,55)]:=by kernel_rfl
@[go_sem] theorem Tryz.gb:sz Tryz.prog 61=some 3:=by kernel_rfl
@[go_sem] theorem Tryz.fV:aW Tryz.prog 61=some 48:=by kernel_rfl
@[go_sem] theorem Tryz.gi:aC Tryz.prog 61=some ([.bool false,.string ⟨#[]⟩,.slice none 0 0]):=by kernel_rfl
@[go_sem] theorem Tryz.Y2:tk Tryz.prog 63= .func:=by kernel_rfl
@[go_sem] theorem Tryz.XU:sz Tryz.prog 63=some 1:=by kernel_rfl
@[go_sem] theorem Tryz.V3:aW Tryz.prog 63=some 8:=by kernel_rfl
@[go_sem] theorem Tryz.aak:aC Tryz.prog 63=some ([.nilFunc]):=by kernel_rfl
@[go_sem] theorem Tryz.Y3:tk Tryz.prog 64= .slice 98:=by kernel_rfl
@[go_sem] theorem Tryz.XV:sz Tryz.prog 64=some 1:=by kernel_rfl
@[go_sem] theorem Tryz.V4:aW Tryz.prog 64=some 24:=by kernel_rfl
@[go_sem] theorem Tryz.aal:aC Tryz.prog 64=some ([.slice none 0 0]):=by kernel_rfl
@[go_sem] theorem Tryz.Y4:tk Tryz.prog 65= .func:=by kernel_rfl
@[go_sem] theorem Tryz.XW:sz Tryz.prog 65=some 1:=by kernel_rfl
@[go_sem] theorem Tryz.V5:aW Tryz.prog 65=some 8:=by kernel_rfl
@[go_sem] theorem Tryz.aam:aC Tryz.prog 65=some ([.nilFunc]):=by kernel_rfl
@[go_sem] theorem Tryz.Y5:tk Tryz.prog 67= .func:=by kernel_rfl
@[go_sem] theorem Tryz.XX:sz Tryz.prog 67=some 1:=by kernel_rfl
@[go_sem] theorem Tryz.V6:aW Tryz.prog 67=some 8:=by kernel_rfl
@[go_sem] theorem Tryz.aan:aC Tryz.prog 67=some ([.nilFunc]):=by kernel_rfl
@[go_sem] theorem Tryz.wY:tk Tryz.prog 69= .slice 71:=by kernel_rfl
@[go_sem] theorem Tryz.XY:sz Tryz.prog 69=some 1:=by kernel_rfl
@[go_sem] theorem Tryz.V7:aW Tryz.prog 69=some 24:=by kernel_rfl
@[go_sem] theorem Tryz.aao:aC Tryz.prog 69=some ([.slice none 0 0]):=by kernel_rfl
@[go_sem] theorem Tryz.Y7:tk Tryz.prog 71= .struct [(0,9),(1,3),(2,69)]:=by kernel_rfl
@[go_sem] theorem Tryz.wS:sz Tryz.prog 71=some 3:=by kernel_rfl
@[go_sem] theorem Tryz.uo:aW Tryz.prog 71=some 48:=by kernel_rfl
@[go_sem] theorem Tryz.xh:aC Tryz.prog 71=some ([.string ⟨#[]⟩,.int .i64 0,.slice none 0 0]):=by kernel_rfl
@[go_sem] theorem Tryz.Y9:tk Tryz.prog 88= .func:=by kernel_rfl
@[go_sem] theorem Tryz.X1:sz Tryz.prog 88=some 1:=by kernel_rfl
@[go_sem] theorem Tryz.V_:aW Tryz.prog 88=some 8:=by kernel_rfl
@[go_sem] theorem Tryz.aap:aC Tryz.prog 88=some ([.nilFunc]):=by kernel_rfl
@[go_sem] theorem Tryz.Y_:tk Tryz.prog 89= .func:=by kernel_rfl
@[go_sem] theorem Tryz.X2:sz Tryz.prog 89=some 1:=by kernel_rfl
@[go_sem] theorem Tryz.Wa:aW Tryz.prog 89=some 8:=by kernel_rfl
@[go_sem] theorem Tryz.aaq:aC Tryz.prog 89=some ([.nilFunc]):=by kernel_rfl
@[go_sem] theorem Tryz.Zb:tk Tryz.prog 94= .func:=by kernel_rfl
@[go_sem] theorem Tryz.X4:sz Tryz.prog 94=some 1:=by kernel_rfl
@[go_sem] theorem Tryz.Wc:aW Tryz.prog 94=some 8:=by kernel_rfl
@[go_sem] theorem Tryz.aar:aC Tryz.prog 94=some ([.nilFunc]):=by kernel_rfl
@[go_sem] theorem Tryz.Zc:tk Tryz.prog 98= .struct [(0,3),(1,71)]:=by kernel_rfl
@[go_sem] theorem Tryz.X5:sz Tryz.prog 98=some 4:=by kernel_rfl
@[go_sem] theorem Tryz.Wd:aW Tryz.prog 98=some 56:=by kernel_rfl
@[go_sem] theorem Tryz.aas:aC Tryz.prog 98=some ([.int .i64 0,.string ⟨#[]⟩,.int .i64 0,.slice none 0 0]):=by kernel_rfl
@[go_sem] theorem Tryz.X9:tk Tryz.prog 116= .func:=by kernel_rfl
@[go_sem] theorem Tryz.WZ:sz Tryz.prog 116=some 1:=by kernel_rfl
@[go_sem] theorem Tryz.U_:aW Tryz.prog 116=some 8:=by kernel_rfl
@[go_sem] theorem Tryz.Zu:aC Tryz.prog 116=some ([.nilFunc]):=by kernel_rfl
@[go_sem] theorem Tryz.X_:tk Tryz.prog 119= .struct [(0,4),(1,9),(2,69)]:=by kernel_rfl
@[go_sem] theorem Tryz.Ad:sz Tryz.prog 119=some 3:=by kernel_rfl
@[go_sem] theorem Tryz.x6:aW Tryz.prog 119=some 48:=by kernel_rfl
@[go_sem] theorem Tryz.Ay:aC Tryz.prog 119=some ([.bool false,.string ⟨#[]⟩,.slice none 0 0]):=by kernel_rfl
@[go_sem] theorem Tryz.Ya:tk Tryz.prog 123= .func:=by kernel_rfl
@[go_sem] theorem Tryz.W0:sz Tryz.prog 123=some 1:=by kernel_rfl
@[go_sem] theorem Tryz.Va:aW Tryz.prog 123=some 8:=by kernel_rfl
@[go_sem] theorem Tryz.Zv:aC Tryz.prog 123=some ([.nilFunc]):=by kernel_rfl
@[go_sem] theorem Tryz.Yb:tk Tryz.prog 124= .func:=by kernel_rfl
@[go_sem] theorem Tryz.W1:sz Tryz.prog 124=some 1:=by kernel_rfl
@[go_sem] theorem Tryz.Vb:aW Tryz.prog 124=some 8:=by kernel_rfl
@[go_sem] theorem Tryz.Zw:aC Tryz.prog 124=some ([.nilFunc]):=by kernel_rfl
@[go_sem] theorem Tryz.Yc:tk Tryz.prog 131= .struct []:=by kernel_rfl
@[go_sem] theorem Tryz.W2:sz Tryz.prog 131=some 0:=by kernel_rfl
@[go_sem] theorem Tryz.Vc:aW Tryz.prog 131=some 0:=by kernel_rfl
@[go_sem] theorem Tryz.Zx:aC Tryz.prog 131=some ([]):=by kernel_rfl
@[go_sem] theorem Tryz.Yd:tk Tryz.prog 133= .ptr 135:=by kernel_rfl
@[go_sem] theorem Tryz.W3:sz Tryz.prog 133=some 1:=by kernel_rfl
@[go_sem] theorem Tryz.Vd:aW Tryz.prog 133=some 8:=by kernel_rfl
@[go_sem] theorem Tryz.Zy:aC Tryz.prog 133=some ([.pointer none]):=by kernel_rfl
@[go_sem] theorem Tryz.Ye:tk Tryz.prog 135= .struct [(0,9),(1,3)]:=by kernel_rfl
@[go_sem] theorem Tryz.W4:sz Tryz.prog 135=some 2:=by kernel_rfl
@[go_sem] theorem Tryz.Ve:aW Tryz.prog 135=some 24:=by kernel_rfl
@[go_sem] theorem Tryz.Wf:kB Tryz.prog 135=true:=by kernel_rfl
@[go_sem] theorem Tryz.Zz:aC Tryz.prog 135=some ([.string ⟨#[]⟩,.int .i64 0]):=by kernel_rfl
@[go_sem] theorem Tryz.T_:tk Tryz.prog 140= .slice 145:=by kernel_rfl
@[go_sem] theorem Tryz.W5:sz Tryz.prog 140=some 1:=by kernel_rfl
@[go_sem] theorem Tryz.Vf:aW Tryz.prog 140=some 24:=by kernel_rfl
@[go_sem] theorem Tryz.ZA:aC Tryz.prog 140=some ([.slice none 0 0]):=by kernel_rfl
@[go_sem] theorem Tryz.Yf:tk Tryz.prog 143= .func:=by kernel_rfl
@[go_sem] theorem Tryz.W6:sz Tryz.prog 143=some 1:=by kernel_rfl
@[go_sem] theorem Tryz.Vg:aW Tryz.prog 143=some 8:=by kernel_rfl
@[go_sem] theorem Tryz.ZB:aC Tryz.prog 143=some ([.nilFunc]):=by kernel_rfl
@[go_sem] theorem Tryz.Yg:tk Tryz.prog 145= .struct [(0,119),(3,9)]:=by kernel_rfl
@[go_sem] theorem Tryz.T2:sz Tryz.prog 145=some 4:=by kernel_rfl
@[go_sem] theorem Tryz.Ni:aW Tryz.prog 145=some 64:=by kernel_rfl
@[go_sem] theorem Tryz.U3:aC Tryz.prog 145=some ([.bool false,.string ⟨#[]⟩,.slice none 0 0,.string ⟨#[]⟩]):=by kernel_rfl
@[go_sem] theorem Tryz.Yh:tk Tryz.prog 148= .func:=by kernel_rfl
@[go_sem] theorem Tryz.W7:sz Tryz.prog 148=some 1:=by kernel_rfl
@[go_sem] theorem Tryz.Vh:aW Tryz.prog 148=some 8:=by kernel_rfl
@[go_sem] theorem Tryz.ZC:aC Tryz.prog 148=some ([.nilFunc]):=by kernel_rfl
@[go_sem] theorem Tryz.Yi:tk Tryz.prog 149= .map 3 3:=by kernel_rfl
@[go_sem] theorem Tryz.W8:sz Tryz.prog 149=some 1:=by kernel_rfl
@[go_sem] theorem Tryz.Vi:aW Tryz.prog 149=some 8:=by kernel_rfl
@[go_sem] theorem Tryz.ZD:aC Tryz.prog 149=some ([.map none]):=by kernel_rfl
@[go_sem] theorem Tryz.Yj:tk Tryz.prog 151= .func:=by kernel_rfl
@[go_sem] theorem Tryz.W9:sz Tryz.prog 151=some 1:=by kernel_rfl
@[go_sem] theorem Tryz.Vj:aW Tryz.prog 151=some 8:=by kernel_rfl
@[go_sem] theorem Tryz.ZE:aC Tryz.prog 151=some ([.nilFunc]):=by kernel_rfl
@[go_sem] theorem Tryz.Yk:tk Tryz.prog 153= .func:=by kernel_rfl
@[go_sem] theorem Tryz.W_:sz Tryz.prog 153=some 1:=by kernel_rfl
@[go_sem] theorem Tryz.Vk:aW Tryz.prog 153=some 8:=by kernel_rfl
@[go_sem] theorem Tryz.ZF:aC Tryz.prog 153=some ([.nilFunc]):=by kernel_rfl
@[go_sem] theorem Tryz.Ym:tk Tryz.prog 154= .func:=by kernel_rfl
@[go_sem] theorem Tryz.Xa:sz Tryz.prog 154=some 1:=by kernel_rfl
@[go_sem] theorem Tryz.Vl:aW Tryz.prog 154=some 8:=by kernel_rfl
@[go_sem] theorem Tryz.ZG:aC Tryz.prog 154=some ([.nilFunc]):=by kernel_rfl
@[go_sem] theorem Tryz.Yn:tk Tryz.prog 164= .struct [(0,3),(1,3)]:=by kernel_rfl
@[go_sem] theorem Tryz.Xb:sz Tryz.prog 164=some 2:=by kernel_rfl
@[go_sem] theorem Tryz.Vm:aW Tryz.prog 164=some 16:=by kernel_rfl
@[go_sem] theorem Tryz.Wg:kB Tryz.prog 164=true:=by kernel_rfl
@[go_sem] theorem Tryz.ZH:aC Tryz.prog 164=some ([.int .i64 0,.int .i64 0]):=by kernel_rfl
@[go_sem] theorem Tryz.Yo:tk Tryz.prog 194= .struct [(0,4),(1,164)]:=by kernel_rfl
@[go_sem] theorem Tryz.Xc:sz Tryz.prog 194=some 3:=by kernel_rfl
@[go_sem] theorem Tryz.Vn:aW Tryz.prog 194=some 24:=by kernel_rfl
@[go_sem] theorem Tryz.ZI:aC Tryz.prog 194=some ([.bool false,.int .i64 0,.int .i64 0]):=by kernel_rfl
@[go_sem] theorem Tryz.Yp:tk Tryz.prog 195= .func:=by kernel_rfl
@[go_sem] theorem Tryz.Xd:sz Tryz.prog 195=some 1:=by kernel_rfl
@[go_sem] theorem Tryz.Vo:aW Tryz.prog 195=some 8:=by kernel_rfl
@[go_sem] theorem Tryz.ZJ:aC Tryz.prog 195=some ([.nilFunc]):=by kernel_rfl
@[go_sem] theorem Tryz.Yt:tk Tryz.prog 219= .func:=by kernel_rfl
@[go_sem] theorem Tryz.Xh:sz Tryz.prog 219=some 1:=by kernel_rfl
@[go_sem] theorem Tryz.Vs:aW Tryz.prog 219=some 8:=by kernel_rfl
@[go_sem] theorem Tryz.ZN:aC Tryz.prog 219=some ([.nilFunc]):=by kernel_rfl
@[go_sem] theorem Tryz.Yu:tk Tryz.prog 225= .ptr 164:=by kernel_rfl
@[go_sem] theorem Tryz.Xi:sz Tryz.prog 225=some 1:=by kernel_rfl
@[go_sem] theorem Tryz.Vt:aW Tryz.prog 225=some 8:=by kernel_rfl
@[go_sem] theorem Tryz.ZO:aC Tryz.prog 225=some ([.pointer none]):=by kernel_rfl
@[go_sem] theorem Tryz.Yv:tk Tryz.prog 228= .ptr 234:=by kernel_rfl
@[go_sem] theorem Tryz.Xj:sz Tryz.prog 228=some 1:=by kernel_rfl
@[go_sem] theorem Tryz.Vu:aW Tryz.prog 228=some 8:=by kernel_rfl
@[go_sem] theorem Tryz.ZP:aC Tryz.prog 228=some ([.pointer none]):=by kernel_rfl
@[go_sem] theorem Tryz.Yw:tk Tryz.prog 229= .ptr 232:=by kernel_rfl
@[go_sem] theorem Tryz.Xk:sz Tryz.prog 229=some 1:=by kernel_rfl
@[go_sem] theorem Tryz.Vv:aW Tryz.prog 229=some 8:=by kernel_rfl
@[go_sem] theorem Tryz.ZQ:aC Tryz.prog 229=some ([.pointer none]):=by kernel_rfl
@[go_sem] theorem Tryz.Ua:tk Tryz.prog 230= .slice 5:=by kernel_rfl
@[go_sem] theorem Tryz.Xm:sz Tryz.prog 230=some 1:=by kernel_rfl
@[go_sem] theorem Tryz.Vx:aW Tryz.prog 230=some 24:=by kernel_rfl
@[go_sem] theorem Tryz.ZS:aC Tryz.prog 230=some ([.slice none 0 0]):=by kernel_rfl
@[go_sem] theorem Tryz.Yx:tk Tryz.prog 232= .struct [(0,229),(1,230)]:=by kernel_rfl
@[go_sem] theorem Tryz.Xn:sz Tryz.prog 232=some 2:=by kernel_rfl
@[go_sem] theorem Tryz.Vy:aW Tryz.prog 232=some 32:=by kernel_rfl
@[go_sem] theorem Tryz.ZT:aC Tryz.prog 232=some ([.pointer none,.slice none 0 0]):=by kernel_rfl
@[go_sem] theorem Tryz.Yy:tk Tryz.prog 234= .struct [(0,232),(2,4)]:=by kernel_rfl
@[go_sem] theorem Tryz.Xo:sz Tryz.prog 234=some 3:=by kernel_rfl
@[go_sem] theorem Tryz.Vz:aW Tryz.prog 234=some 40:=by kernel_rfl
@[go_sem] theorem Tryz.ZU:aC Tryz.prog 234=some ([.pointer none,.slice none 0 0,.bool false]):=by kernel_rfl
@[go_sem] theorem Tryz.Yz:tk Tryz.prog 236= .iface:=by kernel_rfl
@[go_sem] theorem Tryz.Xp:sz Tryz.prog 236=some 1:=by kernel_rfl
@[go_sem] theorem Tryz.VA:aW Tryz.prog 236=some 16:=by kernel_rfl
@[go_sem] theorem Tryz.ZV:aC Tryz.prog 236=some ([.nilIface]):=by kernel_rfl
@[go_sem] theorem Tryz.YB:tk Tryz.prog 244= .struct [(0,9),(1,4)]:=by kernel_rfl
@[go_sem] theorem Tryz.Xr:sz Tryz.prog 244=some 2:=by kernel_rfl
@[go_sem] theorem Tryz.VC:aW Tryz.prog 244=some 24:=by kernel_rfl
@[go_sem] theorem Tryz.Wh:kB Tryz.prog 244=true:=by kernel_rfl
@[go_sem] theorem Tryz.ZX:aC Tryz.prog 244=some ([.string ⟨#[]⟩,.bool false]):=by kernel_rfl
@[go_sem] theorem Tryz.YC:tk Tryz.prog 245= .slice 244:=by kernel_rfl
@[go_sem] theorem Tryz.Xs:sz Tryz.prog 245=some 1:=by kernel_rfl
@[go_sem] theorem Tryz.VD:aW Tryz.prog 245=some 24:=by kernel_rfl
@[go_sem] theorem Tryz.ZY:aC Tryz.prog 245=some ([.slice none 0 0]):=by kernel_rfl
@[go_sem] theorem Tryz.YD:tk Tryz.prog 278= .ptr 5:=by kernel_rfl
@[go_sem] theorem Tryz.Xu:sz Tryz.prog 278=some 1:=by kernel_rfl
@[go_sem] theorem Tryz.VF:aW Tryz.prog 278=some 8:=by kernel_rfl
@[go_sem] theorem Tryz.Z0:aC Tryz.prog 278=some ([.pointer none]):=by kernel_rfl
@[go_sem] theorem Tryz.YE:tk Tryz.prog 295= .int .u64:=by kernel_rfl
@[go_sem] theorem Tryz.Xv:sz Tryz.prog 295=some 1:=by kernel_rfl
@[go_sem] theorem Tryz.VG:aW Tryz.prog 295=some 8:=by kernel_rfl
@[go_sem] theorem Tryz.Zh:(Tryz.prog.underlying 295).isSome=true:=by kernel_rfl
@[go_sem] theorem Tryz.Z1:aC Tryz.prog 295=some ([.int .u64 0]):=by kernel_rfl
@[go_sem] theorem Tryz.YH:tk Tryz.prog 300= .other:=by kernel_rfl
@[go_sem] theorem Tryz.Xx:sz Tryz.prog 300=some 1:=by kernel_rfl
@[go_sem] theorem Tryz.VI:aW Tryz.prog 300=some 8:=by kernel_rfl
@[go_sem] theorem Tryz.Z3:aC Tryz.prog 300=some ([.pointer none]):=by kernel_rfl
@[go_sem] theorem Tryz.YI:tk Tryz.prog 312= .int .u32:=by kernel_rfl
@[go_sem] theorem Tryz.Xy:sz Tryz.prog 312=some 1:=by kernel_rfl
@[go_sem] theorem Tryz.VJ:aW Tryz.prog 312=some 4:=by kernel_rfl
@[go_sem] theorem Tryz.Zk:(Tryz.prog.underlying 312).isSome=true:=by kernel_rfl
@[go_sem] theorem Tryz.Z4:aC Tryz.prog 312=some ([.int .u32 0]):=by kernel_rfl
@[go_sem] theorem Tryz.YJ:tk Tryz.prog 314= .int .u64:=by kernel_rfl
@[go_sem] theorem Tryz.Xz:sz Tryz.prog 314=some 1:=by kernel_rfl
@[go_sem] theorem Tryz.VL:aW Tryz.prog 314=some 8:=by kernel_rfl
@[go_sem] theorem Tryz.Zl:(Tryz.prog.underlying 314).isSome=true:=by kernel_rfl
@[go_sem] theorem Tryz.Z5:aC Tryz.prog 314=some ([.int .u64 0]):=by kernel_rfl
@[go_sem] theorem Tryz.YK:tk Tryz.prog 319= .int .i64:=by kernel_rfl
@[go_sem] theorem Tryz.XB:sz Tryz.prog 319=some 1:=by kernel_rfl
@[go_sem] theorem Tryz.VM:aW Tryz.prog 319=some 8:=by kernel_rfl
@[go_sem] theorem Tryz.Zm:(Tryz.prog.underlying 319).isSome=true:=by kernel_rfl
@[go_sem] theorem Tryz.Z6:aC Tryz.prog 319=some ([.int .i64 0]):=by kernel_rfl
@[go_sem] theorem Tryz.YM:tk Tryz.prog 322= .ptr 336:=by kernel_rfl
@[go_sem] theorem Tryz.XD:sz Tryz.prog 322=some 1:=by kernel_rfl
@[go_sem] theorem Tryz.VO:aW Tryz.prog 322=some 8:=by kernel_rfl
@[go_sem] theorem Tryz.Z8:aC Tryz.prog 322=some ([.pointer none]):=by kernel_rfl
@[go_sem] theorem Tryz.YN:tk Tryz.prog 336= .struct [(0,9),(1,9),(2,236)]:=by kernel_rfl
@[go_sem] theorem Tryz.XE:sz Tryz.prog 336=some 3:=by kernel_rfl
@[go_sem] theorem Tryz.VP:aW Tryz.prog 336=some 48:=by kernel_rfl
@[go_sem] theorem Tryz.Z9:aC Tryz.prog 336=some ([.string ⟨#[]⟩,.string ⟨#[]⟩,.nilIface]):=by kernel_rfl
@[go_sem] theorem Tryz.YO:tk Tryz.prog 338= .arr 24 5:=by kernel_rfl
@[go_sem] theorem Tryz.XF:sz Tryz.prog 338=some 24:=by kernel_rfl
@[go_sem] theorem Tryz.VQ:aW Tryz.prog 338=some 24:=by kernel_rfl
@[go_sem] theorem Tryz.Wi:kB Tryz.prog 338=true:=by kernel_rfl
@[go_sem] theorem Tryz.Z_:aC Tryz.prog 338=some (List.replicate 24 (.int .u8 0)):=by kernel_rfl
@[go_sem] theorem Tryz.YP:tk Tryz.prog 346= .ptr 348:=by kernel_rfl
@[go_sem] theorem Tryz.XG:sz Tryz.prog 346=some 1:=by kernel_rfl
@[go_sem] theorem Tryz.VR:aW Tryz.prog 346=some 8:=by kernel_rfl
@[go_sem] theorem Tryz.aaa:aC Tryz.prog 346=some ([.pointer none]):=by kernel_rfl
@[go_sem] theorem Tryz.YQ:tk Tryz.prog 348= .struct [(0,9)]:=by kernel_rfl
@[go_sem] theorem Tryz.XH:sz Tryz.prog 348=some 1:=by kernel_rfl
@[go_sem] theorem Tryz.VS:aW Tryz.prog 348=some 16:=by kernel_rfl
@[go_sem] theorem Tryz.Wj:kB Tryz.prog 348=true:=by kernel_rfl
@[go_sem] theorem Tryz.aab:aC Tryz.prog 348=some ([.string ⟨#[]⟩]):=by kernel_rfl
@[go_sem] theorem Tryz.YR:tk Tryz.prog 350= .arr 20 314:=by kernel_rfl
@[go_sem] theorem Tryz.XI:sz Tryz.prog 350=some 20:=by kernel_rfl
@[go_sem] theorem Tryz.VT:aW Tryz.prog 350=some 160:=by kernel_rfl
@[go_sem] theorem Tryz.Wk:kB Tryz.prog 350=true:=by kernel_rfl
@[go_sem] theorem Tryz.aac:aC Tryz.prog 350=some (List.replicate 20 (.int .u64 0)):=by kernel_rfl
@[go_sem] theorem Tryz.YS:tk Tryz.prog 351= .arr 65 5:=by kernel_rfl
@[go_sem] theorem Tryz.XJ:sz Tryz.prog 351=some 65:=by kernel_rfl
@[go_sem] theorem Tryz.VU:aW Tryz.prog 351=some 65:=by kernel_rfl
@[go_sem] theorem Tryz.Wl:kB Tryz.prog 351=true:=by kernel_rfl
@[go_sem] theorem Tryz.aad:aC Tryz.prog 351=some (List.replicate 65 (.int .u8 0)):=by kernel_rfl
@[go_sem] theorem Tryz.YT:tk Tryz.prog 352= .arr 32 5:=by kernel_rfl
@[go_sem] theorem Tryz.XK:sz Tryz.prog 352=some 32:=by kernel_rfl
@[go_sem] theorem Tryz.VV:aW Tryz.prog 352=some 32:=by kernel_rfl
@[go_sem] theorem Tryz.Wm:kB Tryz.prog 352=true:=by kernel_rfl
@[go_sem] theorem Tryz.aae:aC Tryz.prog 352=some (List.replicate 32 (.int .u8 0)):=by kernel_rfl
@[go_sem] theorem Tryz.YU:tk Tryz.prog 353= .arr 64 5:=by kernel_rfl
@[go_sem] theorem Tryz.XM:sz Tryz.prog 353=some 64:=by kernel_rfl
@[go_sem] theorem Tryz.VW:aW Tryz.prog 353=some 64:=by kernel_rfl
@[go_sem] theorem Tryz.Wn:kB Tryz.prog 353=true:=by kernel_rfl
@[go_sem] theorem Tryz.aaf:aC Tryz.prog 353=some (List.replicate 64 (.int .u8 0)):=by kernel_rfl
end Go.Proofs.YtpfohmboflcneaaGreatDoor
end
section
namespace Go.Proofs.YtpfohmboflcneaaGreatDoor
open Go Go.AL Go.RowKit
set_option maxRecDepth 10000
set_option maxHeartbeats 4000000
inductive Tm where
 |mk (nm:List UInt8) (ix:Int) (xs:List Tm)
def Tm.nm:Tm->List UInt8| .mk n _ _=>n
def Tm.ix:Tm->Int| .mk _ i _=>i
def Tm.xs:Tm->List Tm| .mk _ _ a=>a
mutual
def cS:Tm->Tm->Bool
 | .mk n i xs,u=>(n==u.nm&&i==u.ix)&&kC xs u.xs
def kC:List Tm->List Tm->Bool
 |[],[]=>true
 |a::l,b::m=>cS a b&&kC l m
 |_,_=>false
end
mutual
def nF:Tm->List IV
 | .mk nm ix xs=>[Si nm,Ii ix,.sl 3 (aw xs)]
def aw:List Tm->List (List IV)
 |[]=>[]
 |t::l=>nF t::aw l
end
theorem lX (t:Tm):nF t=[Si t.nm,Ii t.ix,.sl 3 (aw t.xs)]:=by cases t;rfl
theorem rG:∀l:List Tm,aw l=l.map nF
 |[]=>rfl
 |t::l=>by rw[aw,rG l];rfl
theorem ai (l:List Tm):(aw l).length=l.length:=by rw[rG,List.length_map]
theorem cm (l:List Tm) (k:Nat) (h:k<l.length):∃t,l[k]?=some t/\(aw l).getD k []=[Si t.nm,Ii t.ix,.sl 3 (aw t.xs)]:=by
 refine⟨l[k],List.getElem?_eq_getElem h,?_⟩
 rw[List.getD_eq_getElem?_getD,rG,List.getElem?_map,List.getElem?_eq_getElem h,<-lX];rfl
abbrev bq (t:Tm):AV:= .agg [Sv t.nm,Iv t.ix,.im (.sl 3 (aw t.xs))]
mutual
def tM:Tm->Prop
 | .mk nm _ xs=>nm.length<=9223372036854775807/\xs.length<=9223372036854775807/\rH xs
def rH:List Tm->Prop
 |[]=>True
 |t::l=>tM t/\rH l
end
theorem gX {t u:Tm} {k:Nat} (h:t.xs[k]?=some u):SizeOf.sizeOf u<SizeOf.sizeOf t:=by
 cases t with
 |mk nm ix xs=>
  have:=List.sizeOf_lt_of_mem (List.mem_of_getElem? h)
  simp only[Tm.xs]at this
  simp;omega
theorem ak.told {P:Program} {f:FuncId} {xs:List AV} {H:aa} {R R':AV->aa->Prop} (h:ak P f xs H R) (hr:∀r H',R r H'->∃r',R' r' H'/\∀w φ I v,AV.den w φ I r v->AV.den w φ I r' v):ak P f xs H R':=
 ⟨h.gl,fun w φ I vs hd hR hV=>(h.run w φ I vs hd hR hV).mono fun _ _ ⟨r,H',φ',I',v,h1,h2,h3,h4⟩=>by
  obtain⟨r',ov,eM⟩:=hr _ _ h1
  exact⟨r',H',φ',I',v,ov,h2,eM _ _ _ _ h3,h4⟩⟩
theorem aI.told {P:Program} {f:FuncId} {xs:List AV} {r r':AV} (h:aI P f xs r) (hr:∀w φ I v,AV.den w φ I r v->AV.den w φ I r' v):aI P f xs r':=
 ak.told h fun _ _ ⟨hH,he⟩=>⟨r',⟨hH,rfl⟩,by subst he;exact hr⟩
abbrev dm:AV:= .im (.v (.slice none 0 0))
theorem DG (es:Nat) (w:World) (φ:aq) (I:Nat->Prop) (v:Value) (h:AV.den w φ I dm v):AV.den w φ I (.im (.sl es [])) v:=by
 simp only[AV.den]at h⊢
 exact DF h
@[go_sem] theorem Tl (ρ:Nat->Nat):∀cs:List IV,AV.dJ ρ (cs.map AV.im)=cs.map AV.im
 |[]=>rfl
 |c::cs=>by rw[List.map_cons,AV.dJ,Tl ρ cs];rfl
mutual
def bz:Tm->Prop
 | .mk nm _ xs=>nm.length<=1000000000/\xs.length<=1000000000/\cf xs
def cf:List Tm->Prop
 |[]=>True
 |t::l=>bz t/\cf l
end
theorem eT {t:Tm}:bz t↔t.nm.length<=1000000000/\t.xs.length<=1000000000/\cf t.xs:=by cases t;rw[bz];rfl
theorem cN:∀{l:List Tm} {k:Nat} {t:Tm},cf l->l[k]?=some t->bz t
 |[],k,t,_,h=>by simp at h
 |u::l,0,t,hs,h=>by rw[cf]at hs;simp at h;exact h▸hs.1
 |u::l,k+1,t,hs,h=>by rw[cf]at hs;simp at h;exact cN hs.2 h
abbrev qe (w:Tm):List IV:=[Si w.nm,Ii w.ix,.sl 3 (aw w.xs)]
abbrev gW (t:Tm):IV:= .pt (qe t)
theorem cK {α:Type} {l:List α} {k:Nat} {u:α} (h:l[k]?=some u):l.take (k+1)=l.take k++[u]:=by rw[List.take_add_one,h];rfl
theorem k7 {α:Type} {l:List α} {k:Nat} (h:k<=l.length):(l.take k).length=k:=by rw[List.length_take];omega
theorem te {α β:Type} (f:α->β) {l:List α} {k:Nat} {u:α} (h:l[k]?=some u):(l.take (k+1)).map f=(l.take k).map f++[f u]:=by
 rw[cK h,List.map_append];rfl
theorem nG (l:List Tm) (w:Tm):aw (l++[w])=aw l++[qe w]:=by
 rw[rG,List.map_append,<-rG,List.map_cons,List.map_nil,lX]
theorem FP (x:Tm) (hs:bz x):aI Tryz.prog 38 [bq x] (bq x):=by
 have cq:=eT.1 hs
 refine ak.walk [0,1,2,3,5,12,13,14,15] [2,3,5] Tryz.func38 rfl Tryz.ntmps38 (by kernel_rfl) (by rfl) rfl fun W own I0 ax lay=>?_
 refine gE @ai ?_
 refine AP.jN 1 2 71 3 rfl rfl ?_
 refine sI ?_
 refine AP.loop rfl (α:=Nat) (fun k=>[(2,.ob 0 0),(3,.ob 1 0),(12,.im (.sl 3 (aw x.xs))),(13,Iv x.xs.length),(14,Iv k)]) (fun k=>[(2,.vec 71 3 (aw (x.xs.take k))),(1,.var 71 [Sv x.nm,Iv x.ix,.os 2 3 0 k]),(0,.var 71 [Sv [],Iv 0,dm])]) (fun k=>k<=x.xs.length) (fun k=>x.xs.length-k) 0 (by omega) (sU) rfl fun k hk=>?_
 rcases Nat.eq_or_lt_of_le hk with aG|ah
 ·subst aG
  rw[List.take_length]
  refine gE @ai ?_
  refine cF ?_
  refine gO ?_
  refine AE.freeze 2 (el:=71) (es:=3) (rows:=aw x.xs) rfl (by simp only[go_sem,Nat.reduceAdd,Nat.reduceLeDiff,Nat.reduceSub,Int.reduceToNat,reduceCtorEq,ai];first|done|trivial|omega|(simp;done)|(simp;omega)) (by simp only[go_sem,Nat.reduceAdd,Nat.reduceLeDiff,Nat.reduceSub,Int.reduceToNat,reduceCtorEq,ai];first|done|trivial|omega|(simp;done)|(simp;omega)) ?_;simp only[go_sem,Nat.reduceAdd,Nat.reduceLeDiff,Nat.reduceSub,Int.reduceToNat,reduceCtorEq,ai]
  rw[List.take_of_length_le (by rw[ai];omega)]
  exact AE.aV [1,0] rfl ⟨⟨rfl,Nat.le_of_ble_eq_true (by kernel_rfl)⟩,trivial⟩ rfl ⟨rfl,by cases x;rfl⟩
 ·obtain⟨u,hu,aj⟩:=cm x.xs k ah
  have hw:=wr (x:=(k:Int)+1) (by omega)
  have bF:=k7 (l:=x.xs) (k:=k) (by omega)
  have ih:=FP u (cN cq.2.2 hu)
  have aS:=cK hu
  refine gE @ai ?_
  refine cT ?_
  refine gE @aj ?_
  refine⟨by rw[ai];omega,?_⟩
  refine gO ?_
  refine AP.bC 8 (Tree.node [] [0,1,2] [3] [Tree.node [0,1] [] [4] [Tree.node [0,1] [] [5] [Tree.node [] [6] [7] [Tree.node [] [] [] []]]]]) (by kernel_rfl) rfl (by kernel_rfl) (by kernel_rfl) ?_
  refine bA ?_
  refine sI ?_
  refine AQ.fn (by kernel_rfl) rfl rfl rfl (ih) rfl ?_
  refine sI ?_
  refine AQ.nx rfl ?_
  refine sI ?_
  refine AQ.go (by kernel_rfl) ?_
  refine sI ?_
  refine AQ.nx rfl ?_
  refine sI ?_
  refine AQ.kill 2 ?_
  refine sI ?_
  refine AQ.append (hnb:=rfl) (rows:=aw (x.xs.take k)) (es:=2) (by kernel_rfl) rfl rfl rfl (by rfl) Tryz.wY Tryz.wS (by show Option.map _ (aC Tryz.prog 71)=_;rw[Tryz.xh];rfl) Tryz.uo (by first|rfl|(simp only[ai,bF,List.length_cons,List.length_nil];done)|(simp only[ai,bF,List.length_cons,List.length_nil];omega)) (by simp only[ai,bF,List.length_cons,List.length_nil];omega) (by simp only[ai,bF,List.length_cons,List.length_nil];omega) ?_
  refine sI ?_
  refine AQ.nx rfl ?_
  refine sI ?_
  refine AQ.go (by kernel_rfl) ?_
  refine sI ?_
  refine AQ.nx rfl ?_
  refine sI ?_
  refine AQ.done ?_
  refine gE @hw ?_
  refine AE.ew [3] rfl ?_
  refine sI ?_
  refine AE.round (k+1) (by omega) (by omega) (sU) ?_
  rw[aS,nG,ai,bF]
termination_by SizeOf.sizeOf x
decreasing_by exact gX hu
theorem Fv (x:Tm) (hs:bz x):aI Tryz.prog 112 [bq x] (bq x):=by
 have cq:=eT.1 hs
 refine ak.walk [0,1,2,3,5,12,13,14,15] [2,3,5] Tryz.func112 rfl Tryz.ntmps112 (by kernel_rfl) (by rfl) rfl fun W own I0 ax lay=>?_
 refine gE @ai ?_
 refine AP.jN 1 2 57 3 rfl rfl ?_
 refine sI ?_
 refine AP.loop rfl (α:=Nat) (fun k=>[(2,.ob 0 0),(3,.ob 1 0),(12,.im (.sl 3 (aw x.xs))),(13,Iv x.xs.length),(14,Iv k)]) (fun k=>[(2,.vec 57 3 (aw (x.xs.take k))),(1,.var 57 [Sv x.nm,Iv x.ix,.os 2 3 0 k]),(0,.var 57 [Sv [],Iv 0,dm])]) (fun k=>k<=x.xs.length) (fun k=>x.xs.length-k) 0 (by omega) (sU) rfl fun k hk=>?_
 rcases Nat.eq_or_lt_of_le hk with aG|ah
 ·subst aG
  rw[List.take_length]
  refine gE @ai ?_
  refine cF ?_
  refine gO ?_
  refine AE.freeze 2 (el:=57) (es:=3) (rows:=aw x.xs) rfl (by simp only[go_sem,Nat.reduceAdd,Nat.reduceLeDiff,Nat.reduceSub,Int.reduceToNat,reduceCtorEq,ai];first|done|trivial|omega|(simp;done)|(simp;omega)) (by simp only[go_sem,Nat.reduceAdd,Nat.reduceLeDiff,Nat.reduceSub,Int.reduceToNat,reduceCtorEq,ai];first|done|trivial|omega|(simp;done)|(simp;omega)) ?_;simp only[go_sem,Nat.reduceAdd,Nat.reduceLeDiff,Nat.reduceSub,Int.reduceToNat,reduceCtorEq,ai]
  rw[List.take_of_length_le (by rw[ai];omega)]
  exact AE.aV [1,0] rfl ⟨⟨rfl,Nat.le_of_ble_eq_true (by kernel_rfl)⟩,trivial⟩ rfl ⟨rfl,by cases x;rfl⟩
 ·obtain⟨u,hu,aj⟩:=cm x.xs k ah
  have hw:=wr (x:=(k:Int)+1) (by omega)
  have bF:=k7 (l:=x.xs) (k:=k) (by omega)
  have ih:=Fv u (cN cq.2.2 hu)
  have aS:=cK hu
  refine gE @ai ?_
  refine cT ?_
  refine gE @aj ?_
  refine⟨by rw[ai];omega,?_⟩
  refine gO ?_
  refine AP.bC 8 (Tree.node [] [0,1,2] [3] [Tree.node [0,1] [] [4] [Tree.node [0,1] [] [5] [Tree.node [] [6] [7] [Tree.node [] [] [] []]]]]) (by kernel_rfl) rfl (by kernel_rfl) (by kernel_rfl) ?_
  refine bA ?_
  refine sI ?_
  refine AQ.fn (by kernel_rfl) rfl rfl rfl (ih) rfl ?_
  refine sI ?_
  refine AQ.nx rfl ?_
  refine sI ?_
  refine AQ.go (by kernel_rfl) ?_
  refine sI ?_
  refine AQ.nx rfl ?_
  refine sI ?_
  refine AQ.kill 2 ?_
  refine sI ?_
  refine AQ.append (hnb:=rfl) (rows:=aw (x.xs.take k)) (es:=2) (by kernel_rfl) rfl rfl rfl (by rfl) Tryz.wX Tryz.wR (by show Option.map _ (aC Tryz.prog 57)=_;rw[Tryz.xg];rfl) Tryz.um (by first|rfl|(simp only[ai,bF,List.length_cons,List.length_nil];done)|(simp only[ai,bF,List.length_cons,List.length_nil];omega)) (by simp only[ai,bF,List.length_cons,List.length_nil];omega) (by simp only[ai,bF,List.length_cons,List.length_nil];omega) ?_
  refine sI ?_
  refine AQ.nx rfl ?_
  refine sI ?_
  refine AQ.go (by kernel_rfl) ?_
  refine sI ?_
  refine AQ.nx rfl ?_
  refine sI ?_
  refine AQ.done ?_
  refine gE @hw ?_
  refine AE.ew [3] rfl ?_
  refine sI ?_
  refine AE.round (k+1) (by omega) (by omega) (sU) ?_
  rw[aS,nG,ai,bF]
termination_by SizeOf.sizeOf x
decreasing_by exact gX hu
end Go.Proofs.YtpfohmboflcneaaGreatDoor
end
section
namespace Go.Proofs.YtpfohmboflcneaaGreatDoor
set_option maxHeartbeats 1000000
mutual
theorem N0:∀s t:Tm,cS s t=true↔s=t
 | .mk n i xs,.mk m k ys=>by
  rw[cS]
  simp only[Bool.and_eq_true,beq_iff_eq,Tm.nm,Tm.ix,Tm.xs,Br xs ys,Tm.mk.injEq,and_assoc]
theorem Br:∀s t:List Tm,kC s t=true↔s=t
 |[],[]=>by simp[kC]
 |[],_::_=>by simp[kC]
 |_::_,[]=>by simp[kC]
 |a::l,b::m=>by
  rw[kC]
  simp only[Bool.and_eq_true,N0 a b,Br l m,List.cons.injEq]
end
mutual
def bR:Tm->List Int
 | .mk n i xs=>(if n=[]then[i]else[])++aM xs
def aM:List Tm->List Int
 |[]=>[]
 |t::l=>bR t++aM l
end
mutual
def wT:Tm->Nat
 | .mk _ _ xs=>1+aH xs
def aH:List Tm->Nat
 |[]=>0
 |t::l=>wT t+aH l
end
theorem EM (t:Tm):bR t=(if t.nm=[]then[t.ix]else[])++aM t.xs:=by cases t;rw[bR];rfl
theorem w_ (t:Tm):wT t=1+aH t.xs:=by cases t;rw[wT];rfl
theorem UM (t:Tm):1<=wT t:=by rw[w_];omega
theorem qh:∀(l:List Tm) (a:Tm),a∈l->wT a<=aH l
 |[],_,h=>by cases h
 |t::l,a,h=>by
  rw[aH]
  rcases List.mem_cons.1 h with rfl|h
  ·omega
  ·have:=qh l a h;omega
theorem As {t a:Tm} (h:a∈t.xs):wT a<wT t:=by
 rw[w_ t];have:=qh t.xs a h;omega
def nT (s t:Tm):Bool:=(bR t).all fun v=>decide ((bR t).count v<=(bR s).count v)
theorem NP (s t:Tm):nT s t=true↔∀v,(bR t).count v<=(bR s).count v:=by
 rw[nT,List.all_eq_true]
 constructor
 ·intro h v
  by_cases hv:v∈bR t
  ·exact of_decide_eq_true (h v hv)
  ·rw[List.count_eq_zero_of_not_mem hv];omega
 ·intro h v _;exact decide_eq_true (h v)
mutual
def lx:Tm->Tm->Bool
 | .mk n i xs,t=>
  if nT (.mk n i xs) t=false then false
  else if wT (.mk n i xs)≠wT t then decide (wT t<wT (.mk n i xs))
  else if n=[]\/t.nm=[]then false
  else if xs.length≠t.xs.length then decide (t.xs.length<xs.length)
  else if n≠t.nm then decide (t.nm<n)
  else mj xs t.xs
def mj:List Tm->List Tm->Bool
 |a::l,b::m=>if cS a b then mj l m else lx a b
 |_,_=>false
end
theorem GX (s t:Tm):lx s t=if nT s t=false then false
  else if wT s≠wT t then decide (wT t<wT s)
  else if s.nm=[]\/t.nm=[]then false
  else if s.xs.length≠t.xs.length then decide (t.xs.length<s.xs.length)
  else if s.nm≠t.nm then decide (t.nm<s.nm)
  else mj s.xs t.xs:=by cases s;rw[lx];rfl
theorem rj (a b:List UInt8):a<b\/a=b\/b<a:=by
 rcases List.le_total a b with h|h
 ·rcases List.le_iff_lt_or_eq.1 h with h|h
  ·exact .inl h
  ·exact .inr (.inl h)
 ·rcases List.le_iff_lt_or_eq.1 h with h|h
  ·exact .inr (.inr h)
  ·exact .inr (.inl h.symm)
inductive Lf:Tm->Prop
 |mk (t:Tm) (h:t.nm=[]->t.xs=[]) (h0:t.nm≠[]->t.ix=0) (k:∀a∈t.xs,Lf a):Lf t
mutual
def aO (f:Int->Tm):Tm->Tm
 | .mk n i xs=>if n=[]then f i else .mk n 0 (bk f xs)
def bk (f:Int->Tm):List Tm->List Tm
 |[]=>[]
 |t::l=>aO f t::bk f l
end
theorem pa (f:Int->Tm) (t:Tm):aO f t=if t.nm=[]then f t.ix else .mk t.nm 0 (bk f t.xs):=by cases t;rw[aO];rfl
theorem mc (f:Int->Tm):∀l,bk f l=l.map (aO f)
 |[]=>by rw[bk];rfl
 |t::l=>by rw[bk,mc f l];rfl
def gL (s t:Tm):Int:=if cS s t then 0 else if lx s t then 1 else if lx t s then-1 else 2
end Go.Proofs.YtpfohmboflcneaaGreatDoor
end
section
namespace Go.Proofs.YtpfohmboflcneaaGreatDoor
open Go
def dF (c:UInt8):Bool:=decide (48<=c.toNat)&&decide (c.toNat<=57)
def dQ (l:List UInt8):Nat:=l.foldl (fun n c=>10*n+(c.toNat-48)) 0
theorem Bj (l:List UInt8) (c:UInt8):dQ (l++[c])=10*dQ l+(c.toNat-48):=by simp[dQ,List.foldl_append]
theorem wv (d:Nat) (h:d<10):(UInt8.ofNat (48+d)).toNat=48+d:=by
 rw[UInt8.toNat_ofNat'];omega
theorem yd:∀(u:Nat),dQ (Lib.decDigits u)=u/\(∀c∈Lib.decDigits u,dF c=true)/\Lib.decDigits u≠[]/\(∀k,1<=k->u<10^k->(Lib.decDigits u).length<=k)/\(u≠0->((Lib.decDigits u).getD 0 0).toNat≠48)/\(1<(Lib.decDigits u).length->u≠0):=by
 intro u
 induction u using Nat.strongRecOn with
 |_ u ih=>
  rw[Lib.decDigits]
  by_cases h:u<10
  ·rw[dif_pos h]
   refine⟨?_,?_,by simp,?_,?_,by simp⟩
   ·simp only[dQ,List.foldl_cons,List.foldl_nil,wv u h];omega
   ·intro c hc
    simp only[List.mem_singleton]at hc
    subst hc
    simp only[dF,wv u h,Bool.and_eq_true,decide_eq_true_eq];omega
   ·intro k hk _;simpa using hk
   ·intro h0;simp only[List.getD_cons_zero,wv u h];omega
  ·rw[dif_neg h]
   obtain⟨h1,h2,h3,h4,h5,h6⟩:=ih (u/10) (by omega)
   have hm:u%10<10:=Nat.mod_lt _ (by decide)
   refine⟨?_,?_,by simp,?_,?_,fun _=>by omega⟩
   ·rw[Bj,h1,wv _ hm];omega
   ·intro c hc
    rcases List.mem_append.1 hc with hc|hc
    ·exact h2 c hc
    ·simp only[List.mem_singleton]at hc
     subst hc
     simp only[dF,wv _ hm,Bool.and_eq_true,decide_eq_true_eq];omega
   ·intro k hk hu
    match k,hk with
    |1,_=>omega
    |k+2,_=>
     have:=h4 (k+1) (by omega) (by rw[Nat.pow_succ]at hu;omega)
     rw[List.length_append,List.length_singleton];omega
   ·intro _
    have h7:=h5 (by omega)
    match hd:Lib.decDigits (u/10),h3 with
    |x::r,_=>rw[hd]at h7;simpa using h7
theorem Bg:∀(n:Nat) (l:List UInt8),l.length=n+1->(∀c∈l,dF c=true)->(1<l.length->(l.getD 0 0).toNat≠48)->Lib.decDigits (dQ l)=l/\((l.getD 0 0).toNat≠48->dQ l≠0)
 |0,l,hl,hd,_=>by
  match l,hl with
  |[c],_=>
   have hc:=hd c (by simp)
   simp only[dF,Bool.and_eq_true,decide_eq_true_eq]at hc
   have e:dQ [c]=c.toNat-48:=by simp[dQ]
   rw[e]
   refine⟨?_,fun h=>by simp only[List.getD_cons_zero]at h;omega⟩
   rw[Lib.decDigits,dif_pos (by omega)]
   have:UInt8.ofNat (48+(c.toNat-48))=c:=by
    rw[show 48+(c.toNat-48)=c.toNat by omega];simp
   rw[this]
 |n+1,l,hl,hd,hz=>by
  obtain⟨r,c,rfl⟩:∃r c,l=r++[c]:=by
   rcases List.eq_nil_or_concat l with rfl|⟨r,c,rfl⟩
   ·simp at hl
   ·exact⟨r,c,List.concat_eq_append⟩
  have pO:r.length=n+1:=by simp at hl;omega
  have hg:(r++[c]).getD 0 0=r.getD 0 0:=by
   match r,pO with
   |x::r,_=>rfl
  rw[hg]at hz⊢
  have h0:=hz (by rw[List.length_append,List.length_singleton];omega)
  obtain⟨h1,h2⟩:=Bg n r pO (fun d eM=>hd d (by simp[eM])) (fun _=>h0)
  have hc:=hd c (by simp)
  simp only[dF,Bool.and_eq_true,decide_eq_true_eq]at hc
  have h3:=h2 h0
  rw[Bj]
  refine⟨?_,fun _=>by omega⟩
  rw[Lib.decDigits,dif_neg (by omega),show(10*dQ r+(c.toNat-48))/10=dQ r by omega,h1,show(10*dQ r+(c.toNat-48))%10=c.toNat-48 by omega]
  have:UInt8.ofNat (48+(c.toNat-48))=c:=by
   rw[show 48+(c.toNat-48)=c.toNat by omega];simp
  rw[this]
def jc (c:UInt8) (first:Bool):Bool:=
 (decide (97<=c.toNat)&&decide (c.toNat<=122)||decide (65<=c.toNat)&&decide (c.toNat<=90))||!first&&((decide (48<=c.toNat)&&decide (c.toNat<=57)||c==95)||c==39)
def b6:Bool->List UInt8->Nat
 |_,[]=>0
 |b,c::l=>if jc c b then 1+b6 false l else 0
def df:List UInt8->Nat
 |[]=>0
 |c::l=>if dF c then 1+df l else 0
def np:Bool->List UInt8->Bool
 |_,[]=>true
 |b,c::l=>jc c b&&np false l
def dV (n:List UInt8):Bool:=decide (n≠[])&&decide (n.length<=60)&&np true n
theorem wm:∀b l,b6 b l<=l.length
 |_,[]=>Nat.zero_le _
 |b,c::l=>by
  rw[b6];split
  ·have:=wm false l;rw[List.length_cons];omega
  ·exact Nat.zero_le _
theorem uD:∀l,df l<=l.length
 |[]=>Nat.zero_le _
 |c::l=>by
  rw[df];split
  ·have:=uD l;rw[List.length_cons];omega
  ·exact Nat.zero_le _
theorem Gc:∀l:List UInt8,∀c∈l.take (df l),dF c=true
 |[]=>by simp
 |c::l=>by
  rw[df]
  split
  ·rename_i h
   rw[Nat.add_comm,List.take_succ_cons]
   intro d hd
   rcases List.mem_cons.1 hd with rfl|hd
   ·exact h
   ·exact Gc l d hd
  ·simp
structure Lt where
 ng:Bool
 pd:List UInt8
 xs:List Tm
mutual
def dn (sh:Bool):Tm->List UInt8
 | .mk n i xs=>if n=[]then 63::(if sh then[]else Lib.itoa i)else n++eU sh xs
def eU (sh:Bool):List Tm->List UInt8
 |[]=>[]
 |t::l=>40::(dn sh t++k8 sh l)
def k8 (sh:Bool):List Tm->List UInt8
 |[]=>[41]
 |t::l=>44::32::(dn sh t++k8 sh l)
end
theorem Ew (sh:Bool) (t:Tm):dn sh t=if t.nm=[]then 63::(if sh then[]else Lib.itoa t.ix)else t.nm++eU sh t.xs:=by cases t;rw[dn];rfl
def ln (ng:Bool):List UInt8:=if ng then[32,33,61,32]else[32,61,32]
def fD (sh:Bool) (l:Lt):List UInt8:=
 if l.pd=[61]then dn sh (l.xs.getD 0 (.mk [] 0 []))++(ln l.ng++dn sh (l.xs.getD 1 (.mk [] 0 [])))
 else(if l.ng then[126]else[])++(l.pd++eU sh l.xs)
def jk (sh:Bool):List Lt->List UInt8
 |[]=>[]
 |l::r=>32::124::32::(fD sh l++jk sh r)
def kq (sh:Bool):List Lt->List UInt8
 |[]=>[91,93]
 |l::r=>fD sh l++jk sh r
def bt (s:List UInt8) (i:Nat) (w:List UInt8):Bool:=w.isPrefixOf (s.drop i)
def en (d:List UInt8):Bool:=decide (1<=d.length)&&decide (d.length<=9)&&(decide (d.length=1)||decide ((d.getD 0 0).toNat≠48))
def pV (s:List UInt8) (i:Nat):Option (Tm×Nat):=
 if en ((s.drop i).take (df (s.drop i)))then some (.mk [] (dQ ((s.drop i).take (df (s.drop i)))) [],i+df (s.drop i))else none
mutual
def pT (s:List UInt8):Nat->Nat->Option (Tm×Nat)
 |0,_=>none
 |f+1,i=>if bt s i [63]then pV s (i+1)else
  if b6 true (s.drop i)=0 then none else
  if bt s (i+b6 true (s.drop i)) [40]then
   match pT s f (i+b6 true (s.drop i)+1)with
   |none=>none
   |some (t,j)=>match pR s f j with
    |none=>none
    |some (l,k)=>some (.mk ((s.drop i).take (b6 true (s.drop i))) 0 (t::l),k)
  else some (.mk ((s.drop i).take (b6 true (s.drop i))) 0 [],i+b6 true (s.drop i))
def pR (s:List UInt8):Nat->Nat->Option (List Tm×Nat)
 |0,_=>none
 |f+1,i=>if bt s i [44,32]then
   match pT s f (i+2)with
   |none=>none
   |some (t,j)=>match pR s f j with
    |none=>none
    |some (l,k)=>some (t::l,k)
  else if bt s i [41]then some ([],i+1)else none
end
def pA (s:List UInt8) (f i:Nat):Option (List Tm×Nat):=
 if bt s i [40]then
  match pT s f (i+1)with
  |none=>none
  |some (t,j)=>match pR s f j with
   |none=>none
   |some (l,k)=>some (t::l,k)
 else some ([],i)
theorem zN (s:List UInt8) (f i:Nat):pT s (f+1) i=if bt s i [63]then pV s (i+1)else
  if b6 true (s.drop i)=0 then none else
  match pA s f (i+b6 true (s.drop i))with
  |none=>none
  |some (l,k)=>some (.mk ((s.drop i).take (b6 true (s.drop i))) 0 l,k):=by
 rw[pT,pA]
 split
 ·rfl
 ·split
  ·rfl
  ·split
   ·cases pT s f (i+b6 true (s.drop i)+1)with
    |none=>rfl
    |some x=>
     obtain⟨t,j⟩:=x
     simp only
     cases pR s f j with
     |none=>rfl
     |some y=>rfl
   ·rfl
def pL (s:List UInt8) (i:Nat):Option (Lt×Nat):=
 if bt s i [126]then
  if b6 true (s.drop (i+1))=0 then none else
  match pA s (s.length+1) (i+1+b6 true (s.drop (i+1)))with
  |none=>none
  |some (l,k)=>some (⟨true,(s.drop (i+1)).take (b6 true (s.drop (i+1))),l⟩,k)
 else match pT s (s.length+1) i with
  |none=>none
  |some (t,j)=>
   if bt s j [32,61,32]then(match pT s (s.length+1) (j+3)with
    |none=>none
    |some (u,k)=>some (⟨false,[61],[t,u]⟩,k))
   else if bt s j [32,33,61,32]then(match pT s (s.length+1) (j+4)with
    |none=>none
    |some (u,k)=>some (⟨true,[61],[t,u]⟩,k))
   else if t.nm=[]then none else some (⟨false,t.nm,t.xs⟩,j)
def pS (s:List UInt8):Nat->Nat->Option (List Lt)
 |0,_=>none
 |f+1,i=>match pL s i with
  |none=>none
  |some (l,j)=>if bt s j [32,124,32]then(match pS s f (j+3)with
    |none=>none
    |some r=>some (l::r))
   else if j<s.length then none else some [l]
def pC (s:List UInt8):Option (List Lt):=if s=[91,93]then some []else pS s (s.length+1) 0
theorem iD {s:List UInt8} {i:Nat} {w:List UInt8} (h:bt s i w=true):s.drop i=w++s.drop (i+w.length):=by
 obtain⟨r,hr⟩:=List.isPrefixOf_iff_prefix.1 h
 rw[<-List.drop_drop,<-hr,List.drop_left]
theorem Fl {s:List UInt8} {i:Nat} {w:List UInt8} (h:bt s i w=true):i+w.length<=s.length\/w=[]:=by
 have:=congrArg List.length (iD h)
 rw[List.length_append,List.length_drop,List.length_drop]at this
 rcases w with _|⟨c,w⟩
 ·exact .inr rfl
 ·left;rw[List.length_cons]at*;omega
theorem Ra {d:List UInt8} (h:en d=true) (k:∀c∈d,dF c=true):Lib.itoa (dQ d:Int)=d:=by
 simp only[en,Bool.and_eq_true,Bool.or_eq_true,decide_eq_true_eq]at h
 rw[Lib.itoa_nonneg]
 exact(Bg (d.length-1) d (by omega) k (fun h1=>by rcases h.2 with h2|h2;omega;exact h2)).1
theorem DW {s:List UInt8} {i j:Nat} {t:Tm} (h:pV s i=some (t,j)):t.nm=[]/\s.drop i=Lib.itoa t.ix++s.drop j/\i<j/\j<=s.length:=by
 rw[pV]at h
 split at h
 ·rename_i hn
  simp only[Option.some.injEq,Prod.mk.injEq]at h
  obtain⟨rfl,rfl⟩:=h
  have hl:=uD (s.drop i)
  have h1:1<=df (s.drop i):=by
   simp only[en,Bool.and_eq_true,decide_eq_true_eq,List.length_take]at hn;omega
  rw[List.length_drop]at hl
  refine⟨rfl,?_,by omega,by omega⟩
  show _=Lib.itoa (dQ _:Int)++_
  rw[Ra hn (Gc _),<-List.drop_drop,List.take_append_drop]
 ·cases h
theorem DV (s:List UInt8):∀f,(∀i t j,pT s f i=some (t,j)->s.drop i=dn false t++s.drop j/\i<j/\j<=s.length)/\
  (∀i l j,pR s f i=some (l,j)->s.drop i=k8 false l++s.drop j/\i<j/\j<=s.length)
 |0=>⟨fun i t j h=>(by rw[pT]at h;cases h),fun i l j h=>(by rw[pR]at h;cases h)⟩
 |f+1=>by
  obtain⟨Io,Im⟩:=DV s f
  refine⟨fun i t j h=>?_,fun i l j h=>?_⟩
  ·rw[pT]at h
   split at h
   ·rename_i hq
    obtain⟨h1,h2,h3,h4⟩:=DW h
    refine⟨?_,by omega,h4⟩
    rw[iD hq,Ew,if_pos h1,show i+[(63:UInt8)].length=i+1 from rfl,h2];rfl
   ·split at h
    ·cases h
    ·rename_i hn
     have e7:=wm true (s.drop i)
     rw[List.length_drop]at e7
     have aT:(s.drop i).take (b6 true (s.drop i))≠[]:=by
      intro e
      have:=congrArg List.length e
      rw[List.length_take,List.length_drop,List.length_nil]at this
      omega
     split at h
     ·rename_i ho
      split at h
      ·cases h
      ·rename_i t1 j1 e1
       split at h
       ·cases h
       ·rename_i l1 k1 e2
        simp only[Option.some.injEq,Prod.mk.injEq]at h
        obtain⟨rfl,rfl⟩:=h
        obtain⟨g1,g2,g3⟩:=Io _ _ _ e1
        obtain⟨g4,g5,g6⟩:=Im _ _ _ e2
        refine⟨?_,by omega,g6⟩
        rw[dn,if_neg aT,eU]
        have e3:=iD ho
        rw[show i+b6 true (s.drop i)+[(40:UInt8)].length=i+b6 true (s.drop i)+1 from rfl,g1,g4]at e3
        have e4:s.drop i=(s.drop i).take (b6 true (s.drop i))++s.drop (i+b6 true (s.drop i)):=by
         rw[<-List.drop_drop,List.take_append_drop]
        rw[e3]at e4
        simp only[List.cons_append,List.append_assoc,List.nil_append]at e4⊢
        exact e4
     ·simp only[Option.some.injEq,Prod.mk.injEq]at h
      obtain⟨rfl,rfl⟩:=h
      refine⟨?_,by omega,by omega⟩
      rw[dn,if_neg aT,eU,List.append_nil,<-List.drop_drop,List.take_append_drop]
  ·rw[pR]at h
   split at h
   ·rename_i ho
    split at h
    ·cases h
    ·rename_i t1 j1 e1
     split at h
     ·cases h
     ·rename_i l1 k1 e2
      simp only[Option.some.injEq,Prod.mk.injEq]at h
      obtain⟨rfl,rfl⟩:=h
      obtain⟨g1,g2,g3⟩:=Io _ _ _ e1
      obtain⟨g4,g5,g6⟩:=Im _ _ _ e2
      refine⟨?_,by omega,g6⟩
      rw[iD ho,show i+[(44:UInt8),32].length=i+2 from rfl,g1,g4,k8]
      simp only[List.cons_append,List.append_assoc,List.nil_append]
   ·split at h
    ·rename_i ho
     simp only[Option.some.injEq,Prod.mk.injEq]at h
     obtain⟨rfl,rfl⟩:=h
     refine⟨by rw[iD ho,k8];rfl,by omega,?_⟩
     have:=Fl ho
     simpa using this
    ·cases h
theorem nA {s:List UInt8} {f i j:Nat} {t:Tm} (h:pT s f i=some (t,j)):s.drop i=dn false t++s.drop j/\i<j/\j<=s.length:=(DV s f).1 i t j h
theorem DU {s:List UInt8} {f i j:Nat} {l:List Tm} (h:pR s f i=some (l,j)):s.drop i=k8 false l++s.drop j/\i<j/\j<=s.length:=(DV s f).2 i l j h
theorem SV {s:List UInt8} {f i j:Nat} {l:List Tm} (h:pA s f i=some (l,j)) (hi:i<=s.length):s.drop i=eU false l++s.drop j/\i<=j/\j<=s.length:=by
 rw[pA]at h
 split at h
 ·rename_i ho
  split at h
  ·cases h
  ·rename_i t1 j1 e1
   split at h
   ·cases h
   ·rename_i l1 k1 e2
    simp only[Option.some.injEq,Prod.mk.injEq]at h
    obtain⟨rfl,rfl⟩:=h
    obtain⟨g1,g2,g3⟩:=nA e1
    obtain⟨g4,g5,g6⟩:=DU e2
    refine⟨?_,by omega,g6⟩
    rw[iD ho,show i+[(40:UInt8)].length=i+1 from rfl,g1,g4,eU]
    simp only[List.cons_append,List.append_assoc,List.nil_append]
 ·simp only[Option.some.injEq,Prod.mk.injEq]at h
  obtain⟨rfl,rfl⟩:=h
  exact⟨by rw[eU];rfl,Nat.le_refl _,hi⟩
end Go.Proofs.YtpfohmboflcneaaGreatDoor
end
section
namespace Go.Proofs.YtpfohmboflcneaaGreatDoor
open Go
set_option maxHeartbeats 1000000
mutual
def cw:Tm->Bool
 | .mk n i xs=>if n=[]then xs.isEmpty&&(decide (0<=i)&&decide (i<1000))else(dV n&&i==0)&&bL xs
def bL:List Tm->Bool
 |[]=>true
 |t::l=>cw t&&bL l
end
theorem DP (t:Tm):cw t=if t.nm=[]then t.xs.isEmpty&&(decide (0<=t.ix)&&decide (t.ix<1000))else(dV t.nm&&t.ix==0)&&bL t.xs:=by cases t;rw[cw];rfl
theorem wx:∀{l:List Tm},bL l=true->∀a∈l,cw a=true
 |[],_,a,h=>by cases h
 |t::l,h,a,ha=>by
  rw[bL,Bool.and_eq_true]at h
  rcases List.mem_cons.1 ha with rfl|ha
  ·exact h.1
  ·exact wx h.2 a ha
def cu (l:Lt):Bool:=if l.pd=[61]then decide (l.xs.length=2)&&bL l.xs else dV l.pd&&bL l.xs
theorem DL {l:List UInt8} (h:b6 true l≠0):∃c r,l.take (b6 true l)=c::r/\jc c true=true:=by
 match l,h with
 |[],h=>exact absurd rfl h
 |c::l,h=>
  rw[b6]at h⊢
  split at h
  ·rename_i hc
   rw[if_pos hc,Nat.add_comm,List.take_succ_cons]
   exact⟨c,_,rfl,hc⟩
  ·exact absurd rfl h
theorem Jz {c:UInt8} {r:List UInt8} (h:jc c true=true):c::r≠[61]:=by
 intro e
 rw[List.cons.injEq]at e
 rw[e.1]at h
 revert h;decide
theorem SZ {s:List UInt8} {f i j:Nat} {t:Tm} (h:pT s f i=some (t,j)) (hn:t.nm≠[]):t.ix=0/\t.nm≠[61]:=by
 match f,h with
 |0,h=>rw[pT]at h;cases h
 |f+1,h=>
  rw[zN]at h
  split at h
  ·exact absurd (DW h).1 hn
  ·split at h
   ·cases h
   ·rename_i h0
    obtain⟨c,r,e,hc⟩:=DL h0
    split at h
    ·cases h
    ·simp only[Option.some.injEq,Prod.mk.injEq]at h
     obtain⟨rfl,rfl⟩:=h
     exact⟨rfl,by show List.take _ _≠_;rw[e];exact Jz hc⟩
theorem Un {t:Tm} (h:t.nm≠[]):dn false t=t.nm++eU false t.xs:=by rw[Ew,if_neg h]
theorem DT {s:List UInt8} {i j:Nat} {l:Lt} (h:pL s i=some (l,j)):s.drop i=fD false l++s.drop j/\i<j/\j<=s.length:=by
 rw[pL]at h
 split at h
 ·rename_i h1
  split at h
  ·cases h
  ·rename_i h0
   obtain⟨c,r,e,hc⟩:=DL h0
   have e7:=wm true (s.drop (i+1))
   rw[List.length_drop]at e7
   split at h
   ·cases h
   ·rename_i x k e2
    simp only[Option.some.injEq,Prod.mk.injEq]at h
    obtain⟨rfl,rfl⟩:=h
    obtain⟨g1,g2,g3⟩:=SV e2 (by omega)
    refine⟨?_,by omega,g3⟩
    rw[fD]
    simp only
    rw[if_neg (by rw[e];exact Jz hc),iD h1]
    simp only[if_true,List.length_singleton,List.append_assoc]
    rw[<-g1,<-List.drop_drop (i:=b6 true (s.drop (i+1))),List.take_append_drop]
 ·split at h
  ·cases h
  ·rename_i t k e1
   obtain⟨g1,g2,g3⟩:=nA e1
   split at h
   ·rename_i h2
    split at h
    ·cases h
    ·rename_i u m e2
     simp only[Option.some.injEq,Prod.mk.injEq]at h
     obtain⟨rfl,rfl⟩:=h
     obtain⟨g4,g5,g6⟩:=nA e2
     refine⟨?_,by omega,g6⟩
     have:=iD h2
     rw[show k+[(32:UInt8),61,32].length=k+3 from rfl,g4]at this
     rw[fD,if_pos rfl,g1,this]
     simp[ln]
   ·split at h
    ·rename_i h2
     split at h
     ·cases h
     ·rename_i u m e2
      simp only[Option.some.injEq,Prod.mk.injEq]at h
      obtain⟨rfl,rfl⟩:=h
      obtain⟨g4,g5,g6⟩:=nA e2
      refine⟨?_,by omega,g6⟩
      have:=iD h2
      rw[show k+[(32:UInt8),33,61,32].length=k+4 from rfl,g4]at this
      rw[fD,if_pos rfl,g1,this]
      simp[ln]
    ·split at h
     ·cases h
     ·rename_i hn
      simp only[Option.some.injEq,Prod.mk.injEq]at h
      obtain⟨rfl,rfl⟩:=h
      refine⟨?_,g2,g3⟩
      rw[fD,if_neg (SZ e1 hn).2,g1,Un hn];rfl
mutual
def fG:Tm->Nat
 | .mk _ _ xs=>1+fi xs
def fi:List Tm->Nat
 |[]=>0
 |t::l=>max (fG t) (fi l)
end
theorem NW (t:Tm):fG t=1+fi t.xs:=by cases t;rw[fG];rfl
def lQ (l:Lt):Nat:=1+aH l.xs
def b5 (c:List Lt):Nat:=(c.map lQ).sum
def dC:List Lt->Nat
 |[]=>0
 |l::c=>max (fi l.xs) (dC c)
def dR (eF eR:Int) (t:Tm):Int:=
 if t.nm=[]then(if t.xs≠[]then eF else if t.ix<0\/1000<=t.ix then eR else 0)
 else if dV t.nm=false\/t.ix≠0 then eF else 0
mutual
def jw (eF eR:Int):Tm->Int
 | .mk n i xs=>if dR eF eR (.mk n i xs)≠0 then dR eF eR (.mk n i xs)else dr eF eR xs
def dr (eF eR:Int):List Tm->Int
 |[]=>0
 |t::l=>if jw eF eR t≠0 then jw eF eR t else dr eF eR l
end
theorem Oa (eF eR:Int) (t:Tm):jw eF eR t=if dR eF eR t≠0 then dR eF eR t else dr eF eR t.xs:=by cases t;rw[jw];rfl
mutual
def b7:Tm->List Tm
 | .mk n i xs=> .mk n i xs::cA xs
def cA:List Tm->List Tm
 |[]=>[]
 |t::l=>b7 t++cA l
end
theorem wK (t:Tm):b7 t=t::cA t.xs:=by cases t;rw[b7];rfl
def iY (f:Tm->Int):List Tm->Int
 |[]=>0
 |t::l=>if f t≠0 then f t else iY f l
theorem GR (f:Tm->Int):∀l m,iY f (l++m)=if iY f l≠0 then iY f l else iY f m
 |[],m=>by rw[List.nil_append,iY,if_neg (by decide)]
 |t::l,m=>by
  rw[List.cons_append,iY,iY,GR f l m]
  by_cases h:f t≠0
  ·rw[if_pos h,if_pos h,if_pos h]
  ·rw[if_neg h,if_neg h]
mutual
theorem GC (eF eR:Int):∀t,jw eF eR t=iY (dR eF eR) (b7 t)
 | .mk n i xs=>by rw[jw,b7,iY,GD eF eR xs]
theorem GD (eF eR:Int):∀l,dr eF eR l=iY (dR eF eR) (cA l)
 |[]=>by rw[dr,cA];rfl
 |t::l=>by rw[dr,cA,GR,GC eF eR t,GD eF eR l]
end
def r7 (eF eR:Int) (l:Lt):Int:=if(l.pd≠[61]/\dV l.pd=false)\/(l.pd=[61]/\l.xs.length≠2)then eF else dr eF eR l.xs
def j2 (eF eR:Int):List Lt->Int
 |[]=>0
 |l::c=>if r7 eF eR l≠0 then r7 eF eR l else j2 eF eR c
def bl (eS eD eF eR:Int) (c:List Lt):Int:=
 if 40<c.length then eS else if 4000<b5 c then eS else if 100<dC c then eD else j2 eF eR c
theorem N9 {eF eR:Int} (hF:eF≠0) (hR:eR≠0) (t:Tm):dR eF eR t=0↔if t.nm=[]then t.xs=[]/\0<=t.ix/\t.ix<1000 else dV t.nm=true/\t.ix=0:=by
 rw[dR]
 by_cases hn:t.nm=[]
 ·rw[if_pos hn,if_pos hn]
  by_cases hx:t.xs=[]
  ·rw[if_neg (by simpa using hx)]
   by_cases hi:t.ix<0\/1000<=t.ix
   ·rw[if_pos hi];exact⟨fun h=>absurd h hR,fun h=>by omega⟩
   ·rw[if_neg hi];exact⟨fun _=>⟨hx,by omega⟩,fun _=>rfl⟩
  ·rw[if_pos hx];exact⟨fun h=>absurd h hF,fun h=>absurd h.1 hx⟩
 ·rw[if_neg hn,if_neg hn]
  by_cases hb:dV t.nm=false\/t.ix≠0
  ·rw[if_pos hb]
   refine⟨fun h=>absurd h hF,fun h=>?_⟩
   rcases hb with hb|hb
   ·rw[h.1]at hb;cases hb
   ·exact absurd h.2 hb
  ·rw[if_neg hb]
   refine⟨fun _=>⟨?_,?_⟩,fun _=>rfl⟩
   ·rw[<-Bool.not_eq_false];exact fun h=>hb (.inl h)
   ·exact Decidable.byContradiction fun h=>hb (.inr h)
mutual
theorem Oc {eF eR:Int} (hF:eF≠0) (hR:eR≠0):∀t,jw eF eR t=0↔cw t=true
 | .mk n i xs=>by
  have h1:dR eF eR (.mk n i xs)=0↔if n=[]then xs=[]/\0<=i/\i<1000 else dV n=true/\i=0:=N9 hF hR (.mk n i xs)
  have h2:=BD hF hR xs
  rw[jw,cw]
  by_cases hn:n=[]
  ·rw[if_pos hn]at h1⊢
   rw[Bool.and_eq_true,Bool.and_eq_true,List.isEmpty_iff,decide_eq_true_iff,decide_eq_true_iff]
   by_cases h0:dR eF eR (.mk n i xs)=0
   ·rw[if_neg (by simpa using h0)]
    have h3:=h1.1 h0
    rw[h3.1,dr];exact⟨fun _=>⟨rfl,h3.2⟩,fun _=>rfl⟩
   ·rw[if_pos h0]
    exact⟨fun h=>absurd h h0,fun h=>absurd (h1.2 h) h0⟩
  ·rw[if_neg hn]at h1⊢
   rw[Bool.and_eq_true,Bool.and_eq_true,beq_iff_eq,<-h2]
   by_cases h0:dR eF eR (.mk n i xs)=0
   ·rw[if_neg (by simpa using h0)]
    exact⟨fun h=>⟨h1.1 h0,h⟩,fun h=>h.2⟩
   ·rw[if_pos h0]
    exact⟨fun h=>absurd h h0,fun h=>absurd (h1.2 h.1) h0⟩
theorem BD {eF eR:Int} (hF:eF≠0) (hR:eR≠0):∀l,dr eF eR l=0↔bL l=true
 |[]=>by rw[dr,bL];simp
 |t::l=>by
  have h1:=Oc hF hR t
  have h2:=BD hF hR l
  rw[dr,bL,Bool.and_eq_true,<-h1,<-h2]
  by_cases h0:jw eF eR t=0
  ·rw[if_neg (by simpa using h0)]
   exact⟨fun h=>⟨h0,h⟩,fun h=>h.2⟩
  ·rw[if_pos h0]
   exact⟨fun h=>absurd h h0,fun h=>absurd h.1 h0⟩
end
theorem N_ {eF eR:Int} (hF:eF≠0) (hR:eR≠0) (l:Lt):r7 eF eR l=0↔cu l=true:=by
 have h2:=BD hF hR l.xs
 rw[r7,cu]
 by_cases hp:l.pd=[61]
 ·rw[if_pos hp,Bool.and_eq_true,decide_eq_true_iff,<-h2]
  by_cases hl:l.xs.length=2
  ·rw[if_neg (by rintro(h|h);exact h.1 hp;exact h.2 hl)]
   exact⟨fun h=>⟨hl,h⟩,fun h=>h.2⟩
  ·rw[if_pos (.inr ⟨hp,hl⟩)]
   exact⟨fun h=>absurd h hF,fun h=>absurd h.1 hl⟩
 ·rw[if_neg hp,Bool.and_eq_true,<-h2]
  by_cases hb:dV l.pd=false
  ·rw[if_pos (.inl ⟨hp,hb⟩)]
   exact⟨fun h=>absurd h hF,fun h=>by rw[hb]at h;cases h.1⟩
  ·rw[if_neg (by rintro(h|h);exact hb h.2;exact hp h.1)]
   exact⟨fun h=>⟨by simpa using hb,h⟩,fun h=>h.2⟩
theorem GB {eF eR:Int} (hF:eF≠0) (hR:eR≠0):∀c,j2 eF eR c=0↔c.all cu=true
 |[]=>by rw[j2];simp
 |l::c=>by
  have h1:=N_ hF hR l
  have h2:=GB hF hR c
  rw[j2,List.all_cons,Bool.and_eq_true,<-h1,<-h2]
  by_cases h0:r7 eF eR l=0
  ·rw[if_neg (by simpa using h0)]
   exact⟨fun h=>⟨h0,h⟩,fun h=>h.2⟩
  ·rw[if_pos h0]
   exact⟨fun h=>absurd h h0,fun h=>absurd h.1 h0⟩
theorem A_ {eS eD eF eR:Int} (hS:eS≠0) (hD:eD≠0) (hF:eF≠0) (hR:eR≠0) (c:List Lt):
  bl eS eD eF eR c=0↔c.length<=40/\b5 c<=4000/\dC c<=100/\c.all cu=true:=by
 rw[bl,<-GB hF hR]
 by_cases h1:40<c.length
 ·rw[if_pos h1];exact⟨fun h=>absurd h hS,fun h=>by omega⟩
 ·rw[if_neg h1]
  by_cases h2:4000<b5 c
  ·rw[if_pos h2];exact⟨fun h=>absurd h hS,fun h=>by omega⟩
  ·rw[if_neg h2]
   by_cases h3:100<dC c
   ·rw[if_pos h3];exact⟨fun h=>absurd h hD,fun h=>by omega⟩
   ·rw[if_neg h3];exact⟨fun h=>⟨by omega,by omega,by omega,h⟩,fun h=>h.2.2.2⟩
def cy (a b:Lt):Bool:=(a.ng==b.ng&&a.pd==b.pd)&&kC a.xs b.xs
theorem z6 (a b:Lt):cy a b=true↔a=b:=by
 rw[cy,Bool.and_eq_true,Bool.and_eq_true,beq_iff_eq,beq_iff_eq,Br]
 cases a;cases b
 simp only[Lt.mk.injEq,and_assoc]
def dp (p:List Lt):List Lt->List Lt
 |[]=>[]
 |x::r=>if p.any (cy x)then dp (p++[x]) r else x::dp (p++[x]) r
def aA (l:Lt):List UInt8:=fD true l
def ga (x:Lt):List Lt->List Lt
 |[]=>[x]
 |y::o=>if aA x<aA y then x::y::o else y::ga x o
def aR (o:List Lt):List Lt->List Lt
 |[]=>o
 |x::r=>aR (ga x o) r
def jX (f:Int->Tm) (l:Lt):Lt:=⟨l.ng,l.pd,bk f l.xs⟩
def bQ (c:List Lt):List Int:=c.flatMap fun l=>aM l.xs
def bg (o:List Int):List Int->List Int
 |[]=>o
 |v::l=>bg (if v∈o then o else o++[v]) l
def bW (i:Int):Tm:= .mk [] i []
def bx (c:List Lt):List Lt:=aR [] (dp [] c)
def tA (c:List Lt) (v:Int):Tm:=bW ((bg [] (bQ c)).idxOf v:Nat)
def gC (c:List Lt):List Lt:=(bx c).map (jX (tA (bx c)))
theorem JL:∀(l o:List Int),∃r,bg o l=o++r
 |[],o=>⟨[],by rw[bg,List.append_nil]⟩
 |v::l,o=>by
  rw[bg]
  obtain⟨r,hr⟩:=JL l (if v∈o then o else o++[v])
  rw[hr]
  split
  ·exact⟨r,rfl⟩
  ·exact⟨v::r,by rw[List.append_assoc];rfl⟩
theorem wq:∀(l o:List Int) (v:Int),v∈bg o l↔v∈o\/v∈l
 |[],o,v=>by rw[bg];simp
 |w::l,o,v=>by
  rw[bg,wq l]
  split
  ·rename_i h
   rw[List.mem_cons]
   exact⟨fun h=>h.elim .inl fun h=> .inr (.inr h),fun h'=>h'.elim .inl fun h'=>h'.elim (fun e=> .inl (e▸h)) .inr⟩
  ·rw[List.mem_append,List.mem_singleton,List.mem_cons,or_assoc]
theorem wu:∀(l o:List Int),o.Nodup->(bg o l).Nodup
 |[],o,h=>h
 |w::l,o,h=>by
  rw[bg]
  refine wu l _ ?_
  split
  ·exact h
  ·rename_i hw
   rw[List.nodup_append]
   exact⟨h,by simp,fun a ha b hb e=>hw (by rw[List.mem_singleton]at hb;rw[<-hb,<-e];exact ha)⟩
mutual
theorem uu (f g:Int->Tm):∀t:Tm,aO g (aO f t)=aO (fun v=>aO g (f v)) t
 | .mk n i xs=>by
  rw[aO,aO]
  by_cases hn:n=[]
  ·rw[if_pos hn,if_pos hn]
  ·rw[if_neg hn,if_neg hn,aO,if_neg hn,FI f g xs]
theorem FI (f g:Int->Tm):∀l:List Tm,bk g (bk f l)=bk (fun v=>aO g (f v)) l
 |[]=>by rw[bk,bk,bk]
 |t::l=>by rw[bk,bk,bk,uu f g t,FI f g l]
end
theorem uw (g:Int->Tm) (v:Int):aO g (bW v)=g v:=by rw[bW,aO,if_pos rfl]
theorem Ns (f:Int->Tm) (l:List Tm):(bk f l).length=l.length:=by rw[mc,List.length_map]
theorem tt {l:Lt} (h:cu l=true):bL l.xs=true:=by
 rw[cu]at h
 split at h<;>(rw[Bool.and_eq_true]at h;exact h.2)
theorem LG (l:Lt) (c:List Lt):bQ (l::c)=aM l.xs++bQ c:=by rw[bQ,List.flatMap_cons];rfl
theorem Fj {p:List Lt} {x:Lt}:p.any (cy x)=true↔x∈p:=by
 rw[List.any_eq_true]
 constructor
 ·rintro⟨y,hy,e⟩
  rw[(z6 x y).1 e];exact hy
 ·intro h;exact⟨x,h,(z6 x x).2 rfl⟩
theorem mf:∀(c p:List Lt),(dp p c).Sublist c
 |[],p=>by rw[dp];exact List.Sublist.refl _
 |x::r,p=>by
  rw[dp]
  split
  ·exact(mf r _).cons x
  ·exact(mf r _).cons_cons x
theorem Be:∀(c p:List Lt),∀x∈c,x∈p\/x∈dp p c
 |[],p,x,h=>by cases h
 |y::r,p,x,h=>by
  rw[dp]
  split
  ·rename_i hy
   rcases List.mem_cons.1 h with rfl|h
   ·exact .inl (Fj.1 hy)
   ·rcases Be r (p++[y]) x h with h|h
    ·rcases List.mem_append.1 h with h|h
     ·exact .inl h
     ·rw[List.mem_singleton]at h;exact .inl (h▸Fj.1 hy)
    ·exact .inr h
  ·rcases List.mem_cons.1 h with rfl|h
   ·exact .inr (by simp)
   ·rcases Be r (p++[y]) x h with h|h
    ·rcases List.mem_append.1 h with h|h
     ·exact .inl h
     ·rw[List.mem_singleton]at h;exact .inr (by simp[h])
    ·exact .inr (by simp[h])
def eG (a b:Lt):Prop:=¬aA b<aA a
theorem IC {a b c:Lt} (h:eG a b) (k:eG b c):eG a c:=by
 intro hc
 rcases rj (aA b) (aA c)with h1|h1|h1
 ·exact h (List.lt_trans h1 hc)
 ·exact h (h1▸hc)
 ·exact k h1
theorem C3 (x:Lt):∀o,(ga x o).Perm (x::o)
 |[]=>List.Perm.refl _
 |y::o=>by
  rw[ga]
  split
  ·exact List.Perm.refl _
  ·exact((C3 x o).cons y).trans (List.Perm.swap x y o)
theorem kn:∀(c o:List Lt),(aR o c).Perm (o++c)
 |[],o=>by rw[aR,List.append_nil]
 |x::c,o=>by
  rw[aR]
  refine(kn c _).trans (((C3 x o).append_right c).trans ?_)
  exact(List.perm_middle (a:=x) (l₁:=o) (l₂:=c)).symm
theorem It (x:Lt):∀o,o.Pairwise eG->(ga x o).Pairwise eG
 |[],_=>List.pairwise_singleton _ _
 |y::o,h=>by
  rw[List.pairwise_cons]at h
  rw[ga]
  split
  ·rename_i hx
   have fl:eG x y:=fun h'=>List.lt_irrefl _ (List.lt_trans hx h')
   rw[List.pairwise_cons,List.pairwise_cons]
   exact⟨fun z hz=>(List.mem_cons.1 hz).elim (fun e=>e▸fl) fun hz=>IC fl (h.1 z hz),h⟩
  ·rename_i hx
   rw[List.pairwise_cons]
   refine⟨fun z hz=>?_,It x o h.2⟩
   rcases List.mem_cons.1 ((C3 x o).mem_iff.1 hz)with rfl|hz
   ·exact hx
   ·exact h.1 z hz
theorem wN:∀(c o:List Lt),o.Pairwise eG->(aR o c).Pairwise eG
 |[],o,h=>h
 |x::c,o,h=>wN c _ (It x o h)
theorem Is (x:Lt):∀o,(∀y∈o,eG y x)->ga x o=o++[x]
 |[],_=>rfl
 |y::o,h=>by
  rw[ga,if_neg (h y (by simp)),Is x o fun z hz=>h z (by simp[hz])];rfl
theorem wM:∀(c o:List Lt),(o++c).Pairwise eG->aR o c=o++c
 |[],o,_=>by rw[aR,List.append_nil]
 |x::c,o,h=>by
  have h':=List.pairwise_append.1 h
  rw[aR,Is x o fun y hy=>h'.2.2 y hy x (by simp),wM c (o++[x]) (by rw[List.append_assoc];exact h),List.append_assoc];rfl
theorem rq {c:List Lt} {x:Lt}:x∈bx c↔x∈c:=by
 rw[bx,(kn _ _).mem_iff,List.nil_append]
 constructor
 ·exact fun h=>(mf c []).subset h
 ·intro h
  rcases Be c [] x h with h|h
  ·cases h
  ·exact h
theorem wz {c:List Lt} (h:c.all cu=true):(bx c).all cu=true:=by
 rw[List.all_eq_true]at h⊢
 exact fun x hx=>h x (rq.1 hx)
def tm (c:List Lt) (v:Int):Int:=((bg [] (bQ c)).idxOf v:Nat)
theorem Th (c:List Lt):tA c=fun v=>bW (tm c v):=rfl
theorem LI {c:List Lt} {l:Lt} (h:l∈c) {v:Int} (hv:v∈aM l.xs):v∈bQ c:=by
 rw[bQ,List.mem_flatMap];exact⟨l,h,hv⟩
theorem JC:∀(k:Nat) (l:List Int),l.Nodup->(∀v∈l,0<=v/\v<k)->l.length<=k
 |0,l,_,h=>by
  match l,h with
  |[],_=>exact Nat.le_refl _
  |a::l,h=>have:=h a (by simp);omega
 |k+1,l,hn,h=>by
  have h1:=JC k (l.erase (k:Int)) (hn.erase _) fun v hv=>by
   have h2:=(hn.mem_erase_iff).1 hv
   have h3:=h v h2.2
   have h4:=h2.1
   omega
  have h5:l.length<=(l.erase (k:Int)).length+1:=by
   rw[List.length_erase];split<;>omega
  omega
mutual
theorem UK:∀t:Tm,cw t=true->∀v∈bR t,0<=v/\v<1000
 | .mk n i xs,h,v,hv=>by
  rw[cw]at h
  rw[bR]at hv
  by_cases hn:n=[]
  ·rw[if_pos hn,Bool.and_eq_true,Bool.and_eq_true,List.isEmpty_iff,decide_eq_true_iff,decide_eq_true_iff]at h
   rw[if_pos hn,h.1,aM,List.append_nil,List.mem_singleton]at hv
   rw[hv];exact h.2
  ·rw[if_neg hn,Bool.and_eq_true]at h
   rw[if_neg hn,List.nil_append]at hv
   exact EO xs h.2 v hv
theorem EO:∀l:List Tm,bL l=true->∀v∈aM l,0<=v/\v<1000
 |[],_,v,hv=>by rw[aM]at hv;cases hv
 |t::l,h,v,hv=>by
  rw[bL,Bool.and_eq_true]at h
  rw[aM]at hv
  rcases List.mem_append.1 hv with hv|hv
  ·exact UK t h.1 v hv
  ·exact EO l h.2 v hv
end
theorem UG {c:List Lt} (h:c.all cu=true):∀v∈bQ c,0<=v/\v<1000:=by
 intro v hv
 rw[bQ,List.mem_flatMap]at hv
 obtain⟨l,hl,hv⟩:=hv
 exact EO l.xs (tt (List.all_eq_true.1 h l hl)) v hv
theorem Sj {c:List Lt} (h:c.all cu=true) {v:Int} (hv:v∈bQ c):0<=tm c v/\tm c v<1000:=by
 have hm:v∈bg [] (bQ c):=(wq _ _ _).2 (.inr hv)
 have h1:=List.idxOf_lt_length_of_mem hm
 have h2:=JC 1000 (bg [] (bQ c)) (wu _ _ List.nodup_nil) fun w hw=>by
  rcases(wq _ _ _).1 hw with hw|hw
  ·cases hw
  ·exact UG h w hw
 rw[tm];omega
mutual
theorem SH (f:Int->Tm):∀t:Tm,cw t=true->(∀v∈bR t,cw (f v)=true)->cw (aO f t)=true
 | .mk n i xs,h,k=>by
  rw[cw]at h
  rw[bR]at k
  rw[aO]
  by_cases hn:n=[]
  ·rw[if_pos hn]at k⊢;exact k i (by simp)
  ·rw[if_neg hn,Bool.and_eq_true,Bool.and_eq_true]at h
   rw[if_neg hn]at k⊢
   rw[cw,if_neg hn,h.1.1,DQ f xs h.2 fun v hv=>k v (by simpa using hv)];rfl
theorem DQ (f:Int->Tm):∀l:List Tm,bL l=true->(∀v∈aM l,cw (f v)=true)->bL (bk f l)=true
 |[],_,_=>by rw[bk,bL]
 |t::l,h,k=>by
  rw[bL,Bool.and_eq_true]at h
  rw[aM]at k
  rw[bk,bL,SH f t h.1 fun v hv=>k v (List.mem_append_left _ hv),DQ f l h.2 fun v hv=>k v (List.mem_append_right _ hv)];rfl
end
theorem SG (ng:Bool) (pd:List UInt8) (xs:List Tm):cu ⟨ng,pd,xs⟩=if pd=[61]then decide (xs.length=2)&&bL xs else dV pd&&bL xs:=rfl
theorem SF (f:Int->Tm) {l:Lt} (h:cu l=true) (k:∀v∈aM l.xs,cw (f v)=true):cu (jX f l)=true:=by
 obtain⟨ng,pd,xs⟩:=l
 have hx:=DQ f xs (tt h) k
 show cu ⟨ng,pd,bk f xs⟩=true
 rw[SG]at h⊢
 by_cases hp:pd=[61]
 ·rw[if_pos hp,Bool.and_eq_true,decide_eq_true_iff]at h⊢
  exact⟨by rw[Ns];exact h.1,hx⟩
 ·rw[if_neg hp,Bool.and_eq_true]at h⊢
  exact⟨h.1,hx⟩
theorem SI {i:Int} (h:0<=i/\i<1000):cw (bW i)=true:=by
 rw[bW,cw,if_pos rfl,decide_eq_true h.1,decide_eq_true h.2];rfl
theorem Ss {c:List Lt} (h:c.all cu=true):(gC c).all cu=true:=by
 have ho:=wz h
 rw[List.all_eq_true]
 intro x hx
 rw[gC]at hx
 obtain⟨l,hl,rfl⟩:=List.mem_map.1 hx
 refine SF _ (List.all_eq_true.1 ho l hl) fun v hv=>?_
 rw[Th]
 exact SI (Sj ho (LI hl hv))
abbrev Bd:=List (Int×Tm)
def iQ:Bd->Int->Option Tm
 |[],_=>none
 |b::m,v=>if b.1=v then some b.2 else iQ m v
mutual
def DA:Tm->Tm->Bd->Bd×Bool
 | .mk n i xs,t,m=>if n=[]then(match iQ m i with
   |some x=>(m,cS x t)
   |none=>(m++[(i,t)],true))
  else if n≠t.nm\/xs.length≠t.xs.length then(m,false)else DB xs t.xs m
def DB:List Tm->List Tm->Bd->Bd×Bool
 |a::l,b::k,m=>if(DA a b m).2 then DB l k (DA a b m).1 else DA a b m
 |_,_,m=>(m,true)
end
def xk (m m':Bd):Prop:=(∃r,m'=m++r)/\((m.map (·.1)).Nodup->(m'.map (·.1)).Nodup)
theorem xk.trans {a b c:Bd} (h:xk a b) (k:xk b c):xk a c:=by
 obtain⟨⟨r,rfl⟩,h2⟩:=h
 obtain⟨⟨q,rfl⟩,k2⟩:=k
 exact⟨⟨r++q,by rw[List.append_assoc]⟩,fun h=>k2 (h2 h)⟩
def MF (x y:Lt):Bool:=(x.ng==y.ng&&x.pd==y.pd)&&decide (x.xs.length=y.xs.length)
section
variable {α:Type} (key:α->List UInt8)
def dO (a b:α):Prop:=¬key b<key a
def dW (k:List UInt8) (l:List α):List α:=l.filter fun x=>key x==k
def cO (l m:List α):Prop:=m.Pairwise (dO key)/\∀k,dW key k m=dW key k l
theorem dO.trans {a b c:α} (h:dO key a b) (k:dO key b c):dO key a c:=by
 intro hc
 rcases rj (key b) (key c)with h1|h1|h1
 ·exact h (List.lt_trans h1 hc)
 ·exact h (h1▸hc)
 ·exact k h1
theorem dO.antisymm {a b:α} (h:dO key a b) (k:dO key b a):key a=key b:=by
 rcases rj (key a) (key b)with h1|h1|h1
 ·exact absurd h1 k
 ·exact h1
 ·exact absurd h1 h
theorem lR (k:List UInt8) (l m:List α):dW key k (l++m)=dW key k l++dW key k m:=List.filter_append ..
theorem p8 {k:List UInt8} {l:List α} {x:α}:x∈dW key k l↔x∈l/\key x=k:=by
 rw[dW,List.mem_filter,beq_iff_eq]
theorem p7 (k:List UInt8) (x:α) (l:List α):dW key k (x::l)=if key x=k then x::dW key k l else dW key k l:=by
 rw[dW,List.filter_cons]
 by_cases h:key x=k
 ·rw[if_pos h,if_pos (by simpa using h)];rfl
 ·rw[if_neg h,if_neg (by simpa using h)];rfl
theorem cO.mem {l m:List α} (h:cO key l m) {x:α}:x∈m↔x∈l:=by
 have:=h.2 (key x)
 have h1:x∈dW key (key x) m↔x∈m:=by rw[p8];exact⟨fun h=>h.1,fun h=>⟨h,rfl⟩⟩
 have h2:x∈dW key (key x) l↔x∈l:=by rw[p8];exact⟨fun h=>h.1,fun h=>⟨h,rfl⟩⟩
 rw[<-h1,<-h2,this]
theorem K6:∀(m n:List α),m.Pairwise (dO key)->n.Pairwise (dO key)->(∀k,dW key k m=dW key k n)->m=n
 |[],[],_,_,_=>rfl
 |[],b::n,_,_,h=>by
  have:=h (key b)
  rw[p7,if_pos rfl]at this;cases this
 |a::m,[],_,_,h=>by
  have:=h (key a)
  rw[p7,if_pos rfl]at this;cases this
 |a::m,b::n,hm,hn,h=>by
  rw[List.pairwise_cons]at hm hn
  have hb:b∈a::m:=by
   have:b∈dW key (key b) (a::m):=by rw[h,p8];exact⟨by simp,rfl⟩
   exact((p8 key).1 this).1
  have ha:a∈b::n:=by
   have:a∈dW key (key a) (b::n):=by rw[<-h,p8];exact⟨by simp,rfl⟩
   exact((p8 key).1 this).1
  have h1:dO key a b:=by
   rcases List.mem_cons.1 hb with e|hb
   ·rw[e];exact List.lt_irrefl _
   ·exact hm.1 b hb
  have h2:dO key b a:=by
   rcases List.mem_cons.1 ha with e|ha
   ·rw[e];exact List.lt_irrefl _
   ·exact hn.1 a ha
  have hk:=dO.antisymm key h1 h2
  have h3:=h (key a)
  rw[p7,p7,if_pos rfl,if_pos hk.symm,List.cons.injEq]at h3
  obtain⟨rfl,h3⟩:=h3
  rw[K6 m n hm.2 hn.2]
  intro k
  have h4:=h k
  rw[p7,p7]at h4
  by_cases e:key a=k
  ·rw[if_pos e,if_pos e,List.cons.injEq]at h4;exact h4.2
  ·rw[if_neg e,if_neg e]at h4;exact h4
theorem cO.uniq {l m n:List α} (h:cO key l m) (k:cO key l n):m=n:=K6 key m n h.1 k.1 fun x=>(h.2 x).trans (k.2 x).symm
theorem cO.congr {l l' m:List α} (h:cO key l m) (e:∀k,dW key k l=dW key k l'):cO key l' m:=⟨h.1,fun k=>(h.2 k).trans (e k)⟩
theorem cO.ins {l o1 o2:List α} {x:α} (h:cO key l (o1++o2)) (h1:∀y∈o1,dO key y x) (h2:∀y∈o2,key x<key y):cO key (l++[x]) (o1++x::o2):=by
 have hp:=List.pairwise_append.1 h.1
 constructor
 ·rw[List.pairwise_append,List.pairwise_cons]
  refine⟨hp.1,⟨fun y hy h'=>List.lt_irrefl _ (List.lt_trans h' (h2 y hy)),hp.2.1⟩,fun a ha b hb=>?_⟩
  rcases List.mem_cons.1 hb with rfl|hb
  ·exact h1 a ha
  ·exact hp.2.2 a ha b hb
 ·intro k
  have:=h.2 k
  rw[lR]at this⊢
  rw[lR,<-this,p7,p7,List.append_assoc]
  by_cases e:key x=k
  ·have h3:dW key k o2=[]:=by
    rw[dW,List.filter_eq_nil_iff]
    intro y hy lM
    rw[beq_iff_eq]at lM
    have:=h2 y hy
    rw[lM,e]at this
    exact List.lt_irrefl _ this
   rw[if_pos e,if_pos e,h3];rfl
  ·rw[if_neg e,if_neg e];simp[dW]
theorem cO.merge {L1 L2 R1 R2 M1 M2:List α} (hL:(L1++L2).Pairwise (dO key)) (hR:(R1++R2).Pairwise (dO key))
  (h1:∀l∈L2,∀r∈R1,key r<key l) (h2:∀l∈L1,∀r∈R2,dO key l r) (m1:cO key (L1++R1) M1) (m2:cO key (L2++R2) M2):
  cO key (L1++L2++(R1++R2)) (M1++M2):=by
 have pL:=List.pairwise_append.1 hL
 have pR:=List.pairwise_append.1 hR
 constructor
 ·rw[List.pairwise_append]
  refine⟨m1.1,m2.1,fun a ha b hb=>?_⟩
  have ha:=(m1.mem key).1 ha
  have hb:=(m2.mem key).1 hb
  rcases List.mem_append.1 ha with ha|ha<;>rcases List.mem_append.1 hb with hb|hb
  ·exact pL.2.2 a ha b hb
  ·exact h2 a ha b hb
  ·exact fun h'=>List.lt_irrefl _ (List.lt_trans h' (h1 b hb a ha))
  ·exact pR.2.2 a ha b hb
 ·intro k
  rw[lR,m1.2,m2.2,lR,lR,lR,lR,lR]
  have hc:dW key k R1++dW key k L2=dW key k L2++dW key k R1:=by
   by_cases e:dW key k R1=[]
   ·rw[e,List.append_nil,List.nil_append]
   ·by_cases e2:dW key k L2=[]
    ·rw[e2,List.append_nil,List.nil_append]
    ·obtain⟨r,hr⟩:=List.exists_mem_of_ne_nil _ e
     obtain⟨l,hl⟩:=List.exists_mem_of_ne_nil _ e2
     have hr:=(p8 key).1 hr
     have hl:=(p8 key).1 hl
     have:=h1 l hl.1 r hr.1
     rw[hr.2,hl.2]at this
     exact absurd this (List.lt_irrefl _)
  simp only[List.append_assoc]
  rw[<-List.append_assoc (dW key k R1),hc,List.append_assoc]
theorem cO.self {l:List α} (h:l.Pairwise (dO key)):cO key l l:=⟨h,fun _=>rfl⟩
theorem cO.append {l m p q:List α} (h:cO key l m) (k:cO key (m++p) q):cO key (l++p) q:=
 ⟨k.1,fun x=>by rw[k.2,lR,lR,h.2]⟩
theorem cO.both {l m p q r:List α} (h:cO key l m) (k:cO key p q) (j:cO key (m++q) r):cO key (l++p) r:=
 ⟨j.1,fun x=>by rw[j.2,lR,lR,h.2,k.2]⟩
end
theorem KX:∀(c o p:List Lt),cO aA p o->cO aA (p++c) (aR o c)
 |[],o,p,h=>by rw[aR,List.append_nil];exact h
 |x::c,o,p,h=>by
  rw[aR,show p++x::c=(p++[x])++c by simp]
  refine KX c _ _ ?_
  suffices hs:∀o:List Lt,o.Pairwise (dO aA)->∃o1 o2,o=o1++o2/\ga x o=o1++x::o2/\(∀y∈o1,dO aA y x)/\(∀y∈o2,aA x<aA y) by
   obtain⟨o1,o2,rfl,e,h1,h2⟩:=hs o h.1
   rw[e]
   exact h.ins aA h1 h2
  intro o
  induction o with
  |nil=>intro _;exact⟨[],[],rfl,rfl,by simp,by simp⟩
  |cons y o ih=>
   intro hp
   rw[List.pairwise_cons]at hp
   rw[ga]
   split
   ·rename_i hx
    refine⟨[],y::o,rfl,rfl,by simp,fun z hz=>?_⟩
    rcases List.mem_cons.1 hz with rfl|hz
    ·exact hx
    ·rcases rj (aA x) (aA z)with h1|h1|h1
     ·exact h1
     ·exact absurd (h1▸hx) (hp.1 z hz)
     ·exact absurd (List.lt_trans h1 hx) (hp.1 z hz)
   ·rename_i hx
    obtain⟨o1,o2,e1,e2,h1,h2⟩:=ih hp.2
    refine⟨y::o1,o2,by rw[e1];rfl,by rw[e2];rfl,fun z hz=>?_,h2⟩
    rcases List.mem_cons.1 hz with rfl|hz
    ·exact hx
    ·exact h1 z hz
theorem tI (c:List Lt):cO aA c (aR [] c):=KX c [] [] ⟨List.Pairwise.nil,fun _=>rfl⟩
def lT (l:Bd) (v:Int):Tm:=(iQ l v).getD (bW v)
mutual
def BG (w:Int->Nat):Tm->Nat
 | .mk n i xs=>if n=[]then w i else GW w 1 xs
def GW (w:Int->Nat) (a:Nat):List Tm->Nat
 |[]=>a
 |t::l=>GW w (min (a+BG w t) 4001) l
end
mutual
def GU (w:Int->Nat):Tm->Nat
 | .mk n i xs=>if n=[]then w i else GV w 1 xs
def GV (w:Int->Nat) (a:Nat):List Tm->Nat
 |[]=>a
 |t::l=>GV w (max a (GU w t+1)) l
end
def o7 (f:Int->Tm) (c:List Lt):List Lt:=c.map (jX f)
theorem jd (l:Lt) (c:List Lt):b5 (l::c)=1+aH l.xs+b5 c:=by rw[b5,List.map_cons,List.sum_cons];rfl
theorem Jr:∀(c:List Lt) (l:Lt),l∈c->lQ l<=b5 c
 |[],_,h=>by cases h
 |m::c,l,h=>by
  rw[jd]
  rcases List.mem_cons.1 h with rfl|h
  ·rw[lQ];omega
  ·have:=Jr c l h;omega
theorem Gh:∀(c:List Lt) (l:Lt),l∈c->fi l.xs<=dC c
 |[],_,h=>by cases h
 |m::c,l,h=>by
  rw[dC]
  rcases List.mem_cons.1 h with rfl|h
  ·omega
  ·have:=Gh c l h;omega
theorem Gg:∀(c:List Lt) (k:Nat),(∀l∈c,fi l.xs<=k)->dC c<=k
 |[],_,_=>Nat.zero_le _
 |l::c,k,h=>by
  rw[dC]
  have h1:=h l (by simp)
  have h2:=Gg c k fun m hm=>h m (by simp[hm])
  omega
theorem DD {a b:List Lt} (h:a.Perm b):b5 a=b5 b:=(h.map lQ).sum_nat
theorem wk {a b:List Lt} (h:a.Sublist b):b5 a<=b5 b:=by
 induction h with
 |slnil=>exact Nat.le_refl _
 |cons a _ ih=>rw[jd];omega
 |cons_cons a _ ih=>rw[jd,jd];omega
mutual
theorem LR (g:Int->Int):∀t:Tm,cw t=true->wT (aO (fun v=>bW (g v)) t)=wT t/\fG (aO (fun v=>bW (g v)) t)=fG t
 | .mk n i xs,h=>by
  rw[cw]at h
  rw[aO]
  by_cases hn:n=[]
  ·rw[if_pos hn,Bool.and_eq_true,List.isEmpty_iff]at h
   rw[if_pos hn,h.1,bW,wT,wT,aH,fG,fG,fi];exact⟨rfl,rfl⟩
  ·rw[if_neg hn,Bool.and_eq_true]at h
   rw[if_neg hn,wT,wT,fG,fG,(xd g xs h.2).1,(xd g xs h.2).2];exact⟨rfl,rfl⟩
theorem xd (g:Int->Int):∀l:List Tm,bL l=true->aH (bk (fun v=>bW (g v)) l)=aH l/\fi (bk (fun v=>bW (g v)) l)=fi l
 |[],_=>by rw[bk];exact⟨rfl,rfl⟩
 |t::l,h=>by
  rw[bL,Bool.and_eq_true]at h
  rw[bk,aH,aH,fi,fi,(LR g t h.1).1,(LR g t h.1).2,(xd g l h.2).1,(xd g l h.2).2];exact⟨rfl,rfl⟩
end
theorem Js (g:Int->Int):∀c:List Lt,c.all cu=true->b5 (o7 (fun v=>bW (g v)) c)=b5 c/\dC (o7 (fun v=>bW (g v)) c)=dC c
 |[],_=>⟨rfl,rfl⟩
 |l::c,h=>by
  rw[List.all_cons,Bool.and_eq_true]at h
  obtain⟨h1,h2⟩:=xd g l.xs (tt h.1)
  obtain⟨h3,h4⟩:=Js g c h.2
  have e:o7 (fun v=>bW (g v)) (l::c)=jX (fun v=>bW (g v)) l::o7 (fun v=>bW (g v)) c:=rfl
  rw[e,jd,jd,dC,dC,h3,h4]
  have e2:(jX (fun v=>bW (g v)) l).xs=bk (fun v=>bW (g v)) l.xs:=rfl
  rw[e2,h1,h2];exact⟨rfl,rfl⟩
theorem JG {c:List Lt} (h:c.all cu=true):(gC c).length<=c.length/\b5 (gC c)<=b5 c/\dC (gC c)<=dC c:=by
 have ho:=wz h
 have hp:=kn (dp [] c) []
 rw[List.nil_append]at hp
 obtain⟨h1,h2⟩:=Js (tm (bx c)) (bx c) ho
 have e:gC c=o7 (fun v=>bW (tm (bx c) v)) (bx c):=rfl
 refine⟨?_,?_,?_⟩
 ·rw[e,o7,List.length_map,bx,hp.length_eq];exact(mf c []).length_le
 ·rw[e,h1,bx,DD hp];exact wk (mf c [])
 ·rw[e,h2]
  exact Gg _ _ fun l hl=>Gh c l (rq.1 hl)
theorem Sr {eS eD eF eR:Int} (hS:eS≠0) (hD:eD≠0) (hF:eF≠0) (hR:eR≠0) {c:List Lt} (h:bl eS eD eF eR c=0):bl eS eD eF eR (gC c)=0:=by
 rw[A_ hS hD hF hR]at h⊢
 obtain⟨h1,h2,h3,h4⟩:=h
 obtain⟨g1,g2,g3⟩:=JG h4
 exact⟨by omega,by omega,by omega,Ss h4⟩
def tU (s t:Tm) (f:Int->Tm):Prop:=aO f s=aO f t
structure AG (s t:Tm) (f:Int->Tm):Prop where
 u:tU s t f
 m:∀g,tU s t g->∀v,aO g (f v)=g v
 r:∀v,(f v).nm=[]->(f v).ix<=v
 l:∀v,Lf (f v)
theorem Lf.var {t:Tm} (h:Lf t) (hn:t.nm=[]):t=bW t.ix:=by
 obtain⟨_,hx,_,_⟩:=h
 cases t
 simp only[Tm.nm,Tm.xs,Tm.ix]at hn hx⊢
 rw[bW,hn,hx hn]
theorem Lf.args {t:Tm} (h:Lf t):∀a∈t.xs,Lf a:=by obtain⟨_,_,_,k⟩:=h;exact k
theorem Lf.zero {t:Tm} (h:Lf t) (hn:t.nm≠[]):t.ix=0:=by obtain⟨_,_,k,_⟩:=h;exact k hn
theorem AF (v:Int):Lf (bW v):=⟨_,fun _=>rfl,fun h=>absurd rfl h,fun a ha=>by cases ha⟩
theorem uv (f:Int->Tm) {t:Tm} (h:t.nm≠[]):(aO f t).nm=t.nm/\(aO f t).xs=bk f t.xs/\(aO f t).ix=0:=by
 rw[pa,if_neg h];exact⟨rfl,rfl,rfl⟩
theorem Uu (f g:Int->Tm) (hf:∀v,(f v).nm=[]->(f v).ix<=v) (hg:∀v,(g v).nm=[]->(g v).ix<=v) {a:Tm} (ha:Lf a):
  ∀b:Tm,Lf b->aO g a=b->aO f b=a->a=b:=by
 induction ha with
 |mk a hx h0 k ih=>
  intro b hb e1 e2
  have ha:Lf a:=⟨a,hx,h0,k⟩
  by_cases hn:a.nm=[]
  ·rw[pa,if_pos hn]at e1
   have fj:b.nm=[]:=by
    by_cases h:b.nm=[]
    ·exact h
    ·have:=(uv f h).1
     rw[e2,hn]at this;exact absurd this.symm h
   rw[pa,if_pos fj]at e2
   have h1:=hg a.ix (by rw[e1];exact fj)
   have h2:=hf b.ix (by rw[e2];exact hn)
   rw[e1]at h1
   rw[e2]at h2
   rw[ha.var hn,hb.var fj,show a.ix=b.ix by omega]
  ·obtain⟨n1,n2,n3⟩:=uv g hn
   rw[e1]at n1 n2 n3
   have fj:b.nm≠[]:=by rw[n1];exact hn
   obtain⟨m1,m2,m3⟩:=uv f fj
   rw[e2]at m2 m3
   have lL:a.xs=b.xs:=by
    rw[n2]
    rw[n2]at m2
    suffices H:∀l:List Tm,(∀x∈l,x∈a.xs)->(∀x∈bk g l,Lf x)->l=bk f (bk g l)->l=bk g l from
     H a.xs (fun _ h=>h) (fun x hx=>hb.args x (by rw[n2];exact hx)) m2
    intro l
    induction l with
    |nil=>intro _ _ _;rw[bk]
    |cons x l vS=>
     intro hm Cq hl
     rw[bk]at Cq
     rw[bk,bk,List.cons.injEq]at hl
     rw[bk,<-ih x (hm x (by simp)) (aO g x) (Cq _ (by simp)) rfl hl.1.symm,<-vS (fun y hy=>hm y (by simp[hy])) (fun y hy=>Cq y (by simp[hy])) hl.2]
   have z1:=ha.zero hn
   cases a;cases b
   simp only[Tm.nm,Tm.xs,Tm.ix]at*
   rw[n1,lL,z1,n3]
theorem AG.uniq {s t:Tm} {f g:Int->Tm} (h:AG s t f) (k:AG s t g) (v:Int):f v=g v:=
 Uu f g h.r k.r (h.l v) (g v) (k.l v) (h.m g k.u v) (k.m f h.u v)
def rS (l:Bd) (g:Int->Tm):Prop:=∀b∈l,aO g b.2=g b.1
structure nM (l:Bd) (f:Int->Tm):Prop where
 s:rS l f
 m:∀g,rS l g->∀v,aO g (f v)=g v
 r:∀v,(f v).nm=[]->(f v).ix<=v
 lf:∀v,Lf (f v)
 b:∀v,f v≠bW v↔∃x,(v,x)∈l
theorem nM.nil:nM [] bW:=by
 refine⟨fun b h=>?_,fun g _ v=>uw g v,fun v _=>Int.le_refl _,AF,fun v=>⟨fun h=>absurd rfl h,?_⟩⟩
 ·cases h
 ·rintro⟨x,h⟩;cases h
theorem nM.idem {l:Bd} {f:Int->Tm} (h:nM l f) (v:Int):aO f (f v)=f v:=h.m f h.s v
theorem nM.under {l:Bd} {f g:Int->Tm} (h:nM l f) (hg:rS l g) (t:Tm):aO g (aO f t)=aO g t:=by
 rw[uu,show(fun v=>aO g (f v))=g from funext (h.m g hg)]
def mI (v:Int) (t:Tm) (w:Int):Tm:=if w=v then t else bW w
theorem wy (v:Int) (t:Tm):mI v t v=t:=if_pos rfl
theorem tu {v w:Int} (t:Tm) (h:w≠v):mI v t w=bW w:=if_neg h
mutual
theorem FH (f:Int->Tm):∀t:Tm,Lf t->(∀v∈bR t,f v=bW v)->aO f t=t
 | .mk n i xs,h,hv=>by
  rw[bR]at hv
  rw[aO]
  have h0:=h.zero
  have hk:=h.args
  by_cases hn:n=[]
  ·rw[if_pos hn]at hv⊢
   rw[hv i (by simp)];exact(h.var hn).symm
  ·rw[if_neg hn]at hv⊢
   rw[FJ f xs hk fun v hm=>hv v (by simpa using hm),show i=0 from h0 hn]
theorem FJ (f:Int->Tm):∀l:List Tm,(∀a∈l,Lf a)->(∀v∈aM l,f v=bW v)->bk f l=l
 |[],_,_=>by rw[bk]
 |t::l,h,hv=>by
  rw[aM]at hv
  rw[bk,FH f t (h t (by simp)) fun v hm=>hv v (List.mem_append_left _ hm),FJ f l (fun a ha=>h a (by simp[ha])) fun v hm=>hv v (List.mem_append_right _ hm)]
end
theorem E0 {f:Int->Tm} (hf:∀v,Lf (f v)) {t:Tm} (h:Lf t):Lf (aO f t):=by
 induction h with
 |mk t hx h0 k ih=>
  rw[pa]
  by_cases hn:t.nm=[]
  ·rw[if_pos hn];exact hf _
  ·rw[if_neg hn]
   refine⟨_,fun h=>absurd h hn,fun _=>rfl,fun a ha=>?_⟩
   rw[show(Tm.mk t.nm 0 (bk f t.xs)).xs=bk f t.xs from rfl,mc]at ha
   obtain⟨b,hb,rfl⟩:=List.mem_map.1 ha
   exact ih b hb
theorem nM.bind {l:Bd} {f:Int->Tm} (h:nM l f) {v:Int} {t:Tm} (hv:f v=bW v) (ht:Lf t) (ho:v∉bR (aO f t))
  (hr:(aO f t).nm=[]->(aO f t).ix<v):nM (l++[(v,t)]) (fun w=>aO (mI v (aO f t)) (f w)):=by
 have hl:Lf (aO f t):=E0 h.lf ht
 have hk:aO (mI v (aO f t)) (aO f t)=aO f t:=FH _ _ hl fun w hw=>tu _ fun e=>ho (e▸hw)
 have so:aO (mI v (aO f t)) (f v)=aO f t:=by rw[hv,uw,wy]
 have kL:∀w,Lf (mI v (aO f t) w):=fun w=>by
  by_cases e:w=v
  ·rw[e,wy];exact hl
  ·rw[tu _ e];exact AF w
 refine⟨fun b hb=>?_,fun g hg w=>?_,fun w hw=>?_,fun w=>E0 kL (h.lf w),fun w=>?_⟩
 ·rcases List.mem_append.1 hb with hb|hb
  ·have:=h.s b hb
   rw[<-uu,this]
  ·rw[List.mem_singleton]at hb
   rw[hb]
   show aO _ t=aO _ (f v)
   rw[<-uu,hk,so]
 ·have iK:rS l g:=fun b hb=>hg b (List.mem_append_left _ hb)
  have mm:aO g t=g v:=hg (v,t) (by simp)
  have e:(fun u=>aO g (mI v (aO f t) u))=g:=funext fun u=>by
   by_cases e:u=v
   ·rw[e,wy,h.under iK,mm]
   ·rw[tu _ e,uw]
  show aO g (aO _ (f w))=_
  rw[uu,e,h.m g iK]
 ·have vE:(aO (mI v (aO f t)) (f w)).nm=[]:=hw
  show(aO (mI v (aO f t)) (f w)).ix<=w
  have hn:(f w).nm=[]:=by
   by_cases e:(f w).nm=[]
   ·exact e
   ·rw[(uv _ e).1]at vE;exact vE
  have h1:=h.r w hn
  rw[pa,if_pos hn]at vE⊢
  by_cases e:(f w).ix=v
  ·rw[e,wy]at vE⊢
   have:=hr vE
   omega
  ·rw[tu _ e];exact h1
 ·show aO (mI v (aO f t)) (f w)≠bW w↔_
  constructor
  ·intro aT
   by_cases e:f w=bW w
   ·rw[e,uw]at aT
    by_cases e2:w=v
    ·exact⟨t,by simp[e2]⟩
    ·exact absurd (tu _ e2) aT
   ·obtain⟨x,hx⟩:=(h.b w).1 e
    exact⟨x,List.mem_append_left _ hx⟩
  ·rintro⟨x,hx⟩ e
   rcases List.mem_append.1 hx with hx|hx
   ·have aT:=(h.b w).2 ⟨x,hx⟩
    have hn:(f w).nm=[]:=by
     by_cases e3:(f w).nm=[]
     ·exact e3
     ·have:=(uv (mI v (aO f t)) e3).1
      rw[e]at this;exact this.symm
    have yM:=(h.lf w).var hn
    have WA:=h.idem w
    rw[yM,uw]at e
    by_cases e4:(f w).ix=v
    ·rw[e4,wy]at e
     have h5:=hr (by rw[e];rfl)
     rw[e]at h5
     have h6:=h.r w hn
     rw[e4]at h6
     have:(bW w).ix=w:=rfl
     omega
    ·rw[tu _ e4]at e
     exact aT (yM.trans e)
   ·rw[List.mem_singleton,Prod.mk.injEq]at hx
    obtain⟨rfl,rfl⟩:=hx
    rw[so]at e
    exact ho (by rw[e,bW,bR,if_pos rfl];simp)
theorem rS.nil (g:Int->Tm):rS [] g:=fun b h=>by cases h
theorem tU.fn {s t:Tm} {g:Int->Tm} (hs:s.nm≠[]) (ht:t.nm≠[]):tU s t g↔s.nm=t.nm/\bk g s.xs=bk g t.xs:=by
 rw[tU,pa,pa g t,if_neg hs,if_neg ht,Tm.mk.injEq]
 exact⟨fun h=>⟨h.1,h.2.2⟩,fun h=>⟨h.1,rfl,h.2⟩⟩
theorem Bf:∀(c p:List Lt) (x:Lt),dp p (c++[x])=dp p c++(if(p++c).any (cy x)then[]else[x])
 |[],p,x=>by
  rw[List.nil_append,List.append_nil,dp,dp,dp,List.nil_append]
 |y::c,p,x=>by
  rw[List.cons_append,dp,dp,Bf c,List.append_assoc]
  split<;>rfl
theorem Ef:∀(c o:List Lt) (x:Lt),aR o (c++[x])=ga x (aR o c)
 |[],o,x=>rfl
 |y::c,o,x=>by rw[List.cons_append,aR,aR,Ef c]
theorem SS (c:List Lt) (x:Lt):bx (c++[x])=if c.any (cy x)then bx c else ga x (bx c):=by
 rw[bx,bx,Bf,List.nil_append]
 split
 ·rw[List.append_nil]
 ·rw[Ef]
theorem SR (c:List Lt):(bx c).Pairwise eG:=wN _ _ List.Pairwise.nil
theorem vX:∀(o1 o2:List Lt) (x:Lt),(o1++o2).Pairwise eG->(∀y∈o2,aA x<aA y)->(∀y,o1.getLast?=some y->eG y x)->ga x (o1++o2)=o1++x::o2
 |[],[],x,_,_,_=>rfl
 |[],y::o2,x,_,h,_=>by rw[List.nil_append,ga,if_pos (h y (by simp))];rfl
 |z::o1,o2,x,hp,h,hl=>by
  rw[List.cons_append,List.pairwise_cons]at hp
  have hz:eG z x:=by
   cases o1 with
   |nil=>exact hl z rfl
   |cons w o1=>
    have lE:∃y,(w::o1).getLast?=some y/\y∈w::o1:=by
     refine⟨(w::o1).getLast (by simp),List.getLast?_eq_some_getLast (by simp),List.getLast_mem (by simp)⟩
    obtain⟨y,e,hy⟩:=lE
    have h1:eG y x:=hl y (by rw[List.getLast?_cons_cons];exact e)
    exact IC (hp.1 y (List.mem_append_left _ hy)) h1
  rw[List.cons_append,ga,if_neg hz,vX o1 o2 x hp.2 h fun y hy=>?_]
  ·rfl
  ·cases o1 with
   |nil=>cases hy
   |cons w o1=>exact hl y (by rw[List.getLast?_cons_cons];exact hy)
def mE (l:Lt):Lt:=⟨!l.ng,l.pd,l.xs⟩
def wQ (l:Lt):Lt:=⟨l.ng,l.pd,[l.xs.getD 1 (bW 0),l.xs.getD 0 (bW 0)]⟩
def Lb (p:List Lt) (x:Lt):Bool:=
 (decide (x.pd=[61])&&!x.ng&&cS (x.xs.getD 0 (bW 0)) (x.xs.getD 1 (bW 0)))||p.any fun y=>cy x (mE y)||(decide (x.pd=[61])&&decide (y.pd=[61])&&cy x (wQ (mE y)))
def jj (p:List Lt):List Lt->Bool
 |[]=>false
 |x::c=>Lb p x||jj (p++[x]) c
def dZ (l:Lt):Tm:= .mk l.pd 0 l.xs
def ti (c:List Lt) (x:Lt):Bool:=!c.any fun y=>decide (gL (dZ x) (dZ y)=-1)
def dw (c:List Lt):Nat->List Lt->List Int
 |_,[]=>[]
 |i,x::r=>if ti c x then(i:Int)::dw c (i+1) r else dw c (i+1) r
theorem Je (c:List Lt):∀(r q:List Lt) (i:Nat),dw c i (r++q)=dw c i r++dw c (i+r.length) q
 |[],q,i=>by rw[List.nil_append,dw,List.nil_append];rfl
 |x::r,q,i=>by
  rw[List.cons_append,dw,dw,Je c r q (i+1),List.length_cons,show i+(r.length+1)=i+1+r.length by omega]
  split<;>rfl
end Go.Proofs.YtpfohmboflcneaaGreatDoor
end
section
namespace Go.Proofs.YtpfohmboflcneaaGreatDoor
open Go
set_option maxHeartbeats 1000000
structure Nd where
 nm:List UInt8
 num:Int
 ks:List Nat
inductive iA (rt:Nat->Nat) (D:List (Nat×Nat)):Nat->Nat->Prop
 |rt {a b:Nat}:rt a=rt b->iA rt D a b
 |pr {a b:Nat}:(a,b)∈D->iA rt D a b
 |symm {a b:Nat}:iA rt D a b->iA rt D b a
 |trans {a b c:Nat}:iA rt D a b->iA rt D b c->iA rt D a c
theorem iA.mono {r r':Nat->Nat} {D D':List (Nat×Nat)} (h1:∀a b,r a=r b->iA r' D' a b) (h2:∀p∈D,iA r' D' p.1 p.2) {a b:Nat} (h:iA r D a b):iA r' D' a b:=by
 induction h with
 |rt h=>exact h1 _ _ h
 |pr h=>exact h2 _ h
 |symm _ ih=>exact ih.symm
 |trans _ _ i1 i2=>exact i1.trans i2
theorem iA.nil {r:Nat->Nat} {a b:Nat} (h:iA r [] a b):r a=r b:=by
 induction h with
 |rt h=>exact h
 |pr h=>cases h
 |symm _ ih=>exact ih.symm
 |trans _ _ i1 i2=>exact i1.trans i2
def dX (rt:Nat->Nat) (D:List (Nat×Nat)):List Nat->List Nat->Prop
 |[],[]=>True
 |a::l,b::m=>iA rt D a b/\dX rt D l m
 |_,_=>False
theorem dX.mono {r r':Nat->Nat} {D D':List (Nat×Nat)} (h1:∀a b,r a=r b->iA r' D' a b) (h2:∀p∈D,iA r' D' p.1 p.2):∀{l m:List Nat},dX r D l m->dX r' D' l m
 |[],[],_=>trivial
 |a::l,b::m,h=>⟨h.1.mono h1 h2,dX.mono h1 h2 h.2⟩
 |[],_::_,h=>h.elim
 |_::_,[],h=>h.elim
theorem dX.symm {r:Nat->Nat} {D:List (Nat×Nat)}:∀{l m:List Nat},dX r D l m->dX r D m l
 |[],[],_=>trivial
 |a::l,b::m,h=>⟨h.1.symm,dX.symm h.2⟩
 |[],_::_,h=>h.elim
 |_::_,[],h=>h.elim
theorem dX.trans {r:Nat->Nat} {D:List (Nat×Nat)}:∀{l m k:List Nat},dX r D l m->dX r D m k->dX r D l k
 |[],[],[],_,_=>trivial
 |a::l,b::m,c::k,h,g=>⟨h.1.trans g.1,dX.trans h.2 g.2⟩
 |[],[],_::_,_,g=>g.elim
 |[],_::_,_,h,_=>h.elim
 |_::_,[],_,h,_=>h.elim
 |_::_,_::_,[],_,g=>g.elim
theorem dX.refl {r:Nat->Nat} {D:List (Nat×Nat)}:∀l:List Nat,dX r D l l
 |[]=>trivial
 |_::l=>⟨.rt rfl,dX.refl l⟩
theorem dX.zip {r:Nat->Nat} {D:List (Nat×Nat)}:∀{l m:List Nat},l.length=m.length->(∀p∈l.zip m,p∈D)->dX r D l m
 |[],[],_,_=>trivial
 |a::l,b::m,h,k=>⟨.pr (k (a,b) (by simp)),dX.zip (by simpa using h) fun p hp=>k p (by simp[hp])⟩
 |[],_::_,h,_=>by simp at h
 |_::_,[],h,_=>by simp at h
theorem dX.nil {r:Nat->Nat}:∀{l m:List Nat},dX r [] l m->l.map r=m.map r
 |[],[],_=>rfl
 |a::l,b::m,h=>by rw[List.map_cons,List.map_cons,h.1.nil,dX.nil h.2]
 |[],_::_,h=>h.elim
 |_::_,[],h=>h.elim
structure Good (cl:Nat->Nd) (rt:Nat->Nat) (D:List (Nat×Nat)):Prop where
 i:∀a,rt (rt a)=rt a
 v:∀a,(cl (rt a)).nm=[]->(cl a).nm=[]/\(cl (rt a)).num<=(cl a).num
 f:∀a b,rt a=rt b->(cl a).nm≠[]->(cl b).nm≠[]->(cl a).nm=(cl b).nm/\dX rt D (cl a).ks (cl b).ks
def eQ (rt:Nat->Nat) (x y:Nat) (c:Nat):Nat:=if rt c=x then y else rt c
theorem Jk {rt:Nat->Nat} {x y a b:Nat} (h:rt a=rt b):eQ rt x y a=eQ rt x y b:=by rw[eQ,eQ,h]
variable {cl:Nat->Nd} {rt:Nat->Nat} {D:List (Nat×Nat)}
theorem Jl (h:Good cl rt D) {a b:Nat} (hn:rt a≠rt b) (c:Nat):eQ rt (rt b) (rt a) (eQ rt (rt b) (rt a) c)=eQ rt (rt b) (rt a) c:=by
 rw[eQ,eQ]
 by_cases hc:rt c=rt b
 ·rw[if_pos hc,h.i,if_neg hn]
 ·rw[if_neg hc,h.i,if_neg hc]
theorem Good.same {a b:Nat} (h:Good cl rt ((a,b)::D)) (e:rt a=rt b):Good cl rt D:=
 ⟨h.i,h.v,fun x y fl hx hy=>⟨(h.f x y fl hx hy).1,(h.f x y fl hx hy).2.mono (fun _ _=> .rt) fun p hp=>by
  rcases List.mem_cons.1 hp with rfl|hp
  ·exact .rt e
  ·exact .pr hp⟩⟩
theorem Good.swap {a b:Nat} (h:Good cl rt ((a,b)::D)):Good cl rt ((b,a)::D):=
 ⟨h.i,h.v,fun x y fl hx hy=>⟨(h.f x y fl hx hy).1,(h.f x y fl hx hy).2.mono (fun _ _=> .rt) fun p hp=>by
  rcases List.mem_cons.1 hp with rfl|hp
  ·exact .symm (.pr (by simp))
  ·exact .pr (by simp[hp])⟩⟩
theorem Good.var {a b:Nat} (h:Good cl rt ((a,b)::D)) (hn:rt a≠rt b) (hb:(cl (rt b)).nm=[]) (ho:(cl (rt a)).nm=[]->(cl (rt a)).num<=(cl (rt b)).num):
  Good cl (eQ rt (rt b) (rt a)) D:=by
 refine⟨Jl h hn,fun c hc=>?_,fun x y fl hx hy=>?_⟩
 ·rw[eQ]at hc⊢
  by_cases e:rt c=rt b
  ·rw[if_pos e]at hc⊢
   have h1:=h.v c (by rw[e];exact hb)
   rw[e]at h1
   have:=ho hc
   exact⟨h1.1,by omega⟩
  ·rw[if_neg e]at hc⊢
   exact h.v c hc
 ·have nx:rt x≠rt b:=fun e=>hx (h.v x (by rw[e];exact hb)).1
  have ny:rt y≠rt b:=fun e=>hy (h.v y (by rw[e];exact hb)).1
  rw[eQ,eQ,if_neg nx,if_neg ny]at fl
  refine⟨(h.f x y fl hx hy).1,(h.f x y fl hx hy).2.mono (fun _ _ e=> .rt (Jk e)) fun p hp=>?_⟩
  rcases List.mem_cons.1 hp with rfl|hp
  ·exact .rt (by rw[eQ,eQ,if_neg hn,if_pos rfl])
  ·exact .pr hp
theorem Good.fn {a b:Nat} (h:Good cl rt ((a,b)::D)) (hn:rt a≠rt b) (ha:(cl (rt a)).nm≠[]) (hb:(cl (rt b)).nm≠[]) (hm:(cl (rt a)).nm=(cl (rt b)).nm) (hl:(cl (rt a)).ks.length=(cl (rt b)).ks.length):
  Good cl (eQ rt (rt b) (rt a)) ((cl (rt a)).ks.zip (cl (rt b)).ks++D):=by
 have sG:∀{l m:List Nat},dX rt ((a,b)::D) l m->dX (eQ rt (rt b) (rt a)) ((cl (rt a)).ks.zip (cl (rt b)).ks++D) l m:=fun k=>
  k.mono (fun _ _ e=> .rt (Jk e)) fun p hp=>by
   rcases List.mem_cons.1 hp with rfl|hp
   ·exact .rt (by rw[eQ,eQ,if_neg hn,if_pos rfl])
   ·exact .pr (List.mem_append_right _ hp)
 have hz:dX (eQ rt (rt b) (rt a)) ((cl (rt a)).ks.zip (cl (rt b)).ks++D) (cl (rt a)).ks (cl (rt b)).ks:=dX.zip hl fun p hp=>List.mem_append_left _ hp
 refine⟨Jl h hn,fun c hc=>?_,fun x y fl hx hy=>?_⟩
 ·rw[eQ]at hc⊢
  by_cases e:rt c=rt b
  ·rw[if_pos e]at hc;exact absurd hc ha
  ·rw[if_neg e]at hc⊢;exact h.v c hc
 ·rw[eQ,eQ]at fl
  by_cases ex:rt x=rt b<;>by_cases ey:rt y=rt b
  ·have:=h.f x y (ex.trans ey.symm) hx hy
   exact⟨this.1,sG this.2⟩
  ·rw[if_pos ex,if_neg ey]at fl
   have h1:=h.f x (rt b) (by rw[ex,h.i]) hx hb
   have h2:=h.f (rt a) y (by rw[h.i];exact fl) ha hy
   exact⟨h1.1.trans (hm.symm.trans h2.1),((sG h1.2).trans hz.symm).trans (sG h2.2)⟩
  ·rw[if_neg ex,if_pos ey]at fl
   have h1:=h.f x (rt a) (by rw[fl,h.i]) hx ha
   have h2:=h.f (rt b) y (by rw[h.i,ey]) hb hy
   exact⟨h1.1.trans (hm.trans h2.1),((sG h1.2).trans hz).trans (sG h2.2)⟩
  ·rw[if_neg ex,if_neg ey]at fl
   have:=h.f x y fl hx hy
   exact⟨this.1,sG this.2⟩
def Dn (cl:Nat->Nd) (d:Nat->Tm):Prop:=∀c,d c=if(cl c).nm=[]then bW (cl c).num else .mk (cl c).nm 0 ((cl c).ks.map d)
def tT (d:Nat->Tm) (rt:Nat->Nat) (g:Int->Tm):Prop:=∀c,aO g (d c)=aO g (d (rt c))
theorem tT.eQ {d:Nat->Tm} {g:Int->Tm} {a b:Nat} (h:tT d rt g) (e:aO g (d a)=aO g (d b)):tT d (eQ rt (rt b) (rt a)) g:=by
 intro c
 rw[Go.Proofs.YtpfohmboflcneaaGreatDoor.eQ]
 by_cases hc:rt c=rt b
 ·rw[if_pos hc,<-h a,e,h b,<-hc,<-h c]
 ·rw[if_neg hc];exact h c
theorem Dn.fn {d:Nat->Tm} (hd:Dn cl d) {c:Nat} (h:(cl c).nm≠[]) (g:Int->Tm):aO g (d c)= .mk (cl c).nm 0 ((cl c).ks.map fun x=>aO g (d x)):=by
 rw[hd c,if_neg h,aO,if_neg h,mc,List.map_map];rfl
theorem tT.args {d:Nat->Tm} {g:Int->Tm} {a b:Nat} (hd:Dn cl d) (h:tT d rt g) (e:aO g (d a)=aO g (d b)) (ha:(cl (rt a)).nm≠[]) (hb:(cl (rt b)).nm≠[]):
  (cl (rt a)).nm=(cl (rt b)).nm/\(cl (rt a)).ks.length=(cl (rt b)).ks.length/\∀p∈(cl (rt a)).ks.zip (cl (rt b)).ks,aO g (d p.1)=aO g (d p.2):=by
 rw[h a,h b,hd.fn ha g,hd.fn hb g,Tm.mk.injEq]at e
 obtain⟨e1,_,e2⟩:=e
 have hl:=congrArg List.length e2
 rw[List.length_map,List.length_map]at hl
 refine⟨e1,hl,?_⟩
 suffices H:∀l m:List Nat,(l.map fun x=>aO g (d x))=(m.map fun x=>aO g (d x))->∀p∈l.zip m,aO g (d p.1)=aO g (d p.2) from H _ _ e2
 intro l
 induction l with
 |nil=>intro m _ p hp;simp at hp
 |cons x l ih=>
  intro m hm p hp
  cases m with
  |nil=>simp at hp
  |cons y m=>
   rw[List.map_cons,List.map_cons,List.cons.injEq]at hm
   rw[List.zip_cons_cons]at hp
   rcases List.mem_cons.1 hp with rfl|hp
   ·exact hm.1
   ·exact ih m hm.2 p hp
inductive Tc (cl:Nat->Nd) (rt:Nat->Nat):Nat->Tm->Prop
 |var {c:Nat}:(cl (rt c)).nm=[]->Tc cl rt c (bW (cl (rt c)).num)
 |fn {c:Nat} {ts:List Tm}:(cl (rt c)).nm≠[]->ts.length=(cl (rt c)).ks.length->(∀(k:Nat) (x:Nat) (t:Tm),(cl (rt c)).ks[k]?=some x->ts[k]?=some t->Tc cl rt x t)->Tc cl rt c (.mk (cl (rt c)).nm 0 ts)
theorem Tc.lf {c:Nat} {t:Tm} (k:Tc cl rt c t):Lf t:=by
 induction k with
 |var _=>exact AF _
 |@fn c ts hn hl _ ih=>
  refine⟨_,fun h=>absurd h hn,fun _=>rfl,fun a ha=>?_⟩
  obtain⟨i,hi,e⟩:=List.getElem_of_mem ha
  have sq:i<ts.length:=hi
  have h1:ts[i]?=some a:=by rw[List.getElem?_eq_getElem sq,<-e];rfl
  exact ih i _ a (List.getElem?_eq_getElem (by omega)) h1
end Go.Proofs.YtpfohmboflcneaaGreatDoor
end
section
namespace Go.Proofs.YtpfohmboflcneaaGreatDoor
open Go Go.AL Go.RowKit
set_option maxRecDepth 10000
set_option maxHeartbeats 4000000
abbrev Bi (b:Bool):IV:= .v (.bool b)
abbrev iR (l:Lt):List IV:=[Bi l.ng,Si l.pd,.sl 3 (aw l.xs)]
abbrev kW (l:Lt):IV:= .pt (iR l)
abbrev fc (l:Lt):AV:= .agg [Bv l.ng,Sv l.pd,.im (.sl 3 (aw l.xs))]
def aF (c:List Lt):List (List IV):=c.map iR
abbrev aJ (c:List Lt):AV:= .im (.sl 3 (aF c))
theorem ae (l:List Lt):(aF l).length=l.length:=by rw[aF,List.length_map]
theorem dI (l:List Lt) (k:Nat) (h:k<l.length):∃t,l[k]?=some t/\(aF l).getD k []=[Bi t.ng,Si t.pd,.sl 3 (aw t.xs)]:=by
 refine⟨l[k],List.getElem?_eq_getElem h,?_⟩
 rw[List.getD_eq_getElem?_getD,aF,List.getElem?_map,List.getElem?_eq_getElem h];rfl
theorem tc (l:List Lt) (w:Lt):aF (l++[w])=aF l++[iR w]:=by
 rw[aF,List.map_append];rfl
def gA (l:Lt):Prop:=l.pd.length<=1000000000/\l.xs.length<=1000000000/\cf l.xs
def cG (c:List Lt):Prop:=c.length<=1000000000/\∀l∈c,gA l
theorem jt {c:List Lt} {k:Nat} {l:Lt} (h:cG c) (hk:c[k]?=some l):gA l:=h.2 l (List.mem_of_getElem? hk)
theorem ND (c:List Lt) (hs:cG c):aI Tryz.prog 13 [aJ c] (aJ c):=by
 refine ak.walk [0,2,3,5,6,8,9,10,11,12,21,22,23,24] [5,6,8] Tryz.func13 rfl Tryz.ntmps13 (by kernel_rfl) (by rfl) rfl fun W own I0 ax lay=>?_
 refine gE @ae ?_
 refine AP.own 3 119 3 rfl ?_
 refine sI ?_
 refine AP.loop rfl (α:=Nat) (fun k=>[(3,.os 0 3 0 k),(9,aJ c),(10,Iv c.length),(11,Iv k)]) (fun k=>[(0,.vec 119 3 (aF (c.take k)))]) (fun k=>k<=c.length) (fun k=>c.length-k) 0 (by omega) (sU) rfl fun k hk=>?_
 have cB:=hs.1
 rcases Nat.eq_or_lt_of_le hk with aG|ah
 ·subst aG
  rw[List.take_length]
  refine gE @ae ?_
  refine cF ?_
  refine gO ?_
  refine AE.freeze 0 (el:=119) (es:=3) (rows:=aF c) rfl (by simp only[go_sem,Nat.reduceAdd,Nat.reduceLeDiff,Nat.reduceSub,Int.reduceToNat,reduceCtorEq,ae];first|done|trivial|omega|(simp;done)|(simp;omega)) (by simp only[go_sem,Nat.reduceAdd,Nat.reduceLeDiff,Nat.reduceSub,Int.reduceToNat,reduceCtorEq,ae];first|done|trivial|omega|(simp;done)|(simp;omega)) ?_;simp only[go_sem,Nat.reduceAdd,Nat.reduceLeDiff,Nat.reduceSub,Int.reduceToNat,reduceCtorEq,ae]
  rw[List.take_of_length_le (by rw[ae];omega)]
  exact AE.ay rfl ⟨rfl,trivial⟩ rfl ⟨rfl,rfl⟩
 ·obtain⟨u,hu,aj⟩:=dI c k ah
  have hw:=wr (x:=(k:Int)+1) (by omega)
  have bF:=k7 (l:=c) (k:=k) (by omega)
  have bM:=jt hs hu
  have aS:=cK hu
  refine gE @ae ?_
  refine cT ?_
  refine gE @aj ?_
  refine⟨by rw[ae];omega,?_⟩
  refine gE @ai ?_
  refine AP.jN 2 2 71 3 rfl rfl ?_
  refine sI ?_
  refine AP.loop rfl (α:=Nat) (fun j=>[(3,.os 0 3 0 k),(6,.ob 2 0),(9,aJ c),(10,Iv c.length),(11,Iv k),(21,.im (.sl 3 (aw u.xs))),(22,Iv u.xs.length),(23,Iv j)]) (fun j=>[(3,.vec 71 3 (aw (u.xs.take j))),(2,.var 119 [Bv u.ng,Sv u.pd,.os 3 3 0 j]),(1,.var 61 [Bv u.ng,Sv u.pd,.im (.sl 3 (aw u.xs))]),(0,.vec 119 3 (aF (c.take k)))]) (fun j=>j<=u.xs.length) (fun j=>u.xs.length-j) 0 (by omega) (sU) rfl fun j hj=>?_
  rcases Nat.eq_or_lt_of_le hj with cY|fZ
  ·subst cY
   rw[List.take_length]
   refine gE @ai ?_
   refine cF ?_
   refine sI ?_
   refine AP.freeze 3 (el:=71) (es:=3) (rows:=aw u.xs) rfl (by simp only[go_sem,Nat.reduceAdd,Nat.reduceLeDiff,Nat.reduceSub,Int.reduceToNat,reduceCtorEq,ai];first|done|trivial|omega|(simp;done)|(simp;omega)) (by simp only[go_sem,Nat.reduceAdd,Nat.reduceLeDiff,Nat.reduceSub,Int.reduceToNat,reduceCtorEq,ai];first|done|trivial|omega|(simp;done)|(simp;omega)) ?_;simp only[go_sem,Nat.reduceAdd,Nat.reduceLeDiff,Nat.reduceSub,Int.reduceToNat,reduceCtorEq,ai]
   rw[show List.take u.xs.length (aw u.xs)=aw u.xs from List.take_of_length_le (by rw[ai];omega)]
   refine gO ?_
   refine AQ.append (hnb:=rfl) (rows:=aF (c.take k)) (es:=2) (by kernel_rfl) rfl rfl rfl (by rfl) Tryz.Ah Tryz.Ad (by show Option.map _ (aC Tryz.prog 119)=_;rw[Tryz.Ay];rfl) Tryz.x6 (by first|rfl|(simp only[ae,bF,List.length_cons,List.length_nil];done)|(simp only[ae,bF,List.length_cons,List.length_nil];omega)) (by simp only[ae,bF,List.length_cons,List.length_nil];omega) (by simp only[ae,bF,List.length_cons,List.length_nil];omega) ?_
   refine sI ?_
   refine gE @hw ?_
   refine AE.ew [2,1] rfl ?_
   refine sE (an @ae @bF) ?_
   refine AE.round (k+1) (by omega) (by omega) (sU) ?_
   rw[aS,tc]
  ·obtain⟨v,hv,cg⟩:=cm u.xs j fZ
   have cJ:=wr (x:=(j:Int)+1) (by have:=bM.2.1;omega)
   have fA:=k7 (l:=u.xs) (k:=j) (by omega)
   have ih:=FP v (cN bM.2.2 hv)
   have lG:=cK hv
   have lI:=bM.2.1
   refine gE @ai ?_
   refine cT ?_
   refine gE @cg ?_
   refine⟨by rw[ai];omega,?_⟩
   refine gO ?_
   refine AP.bC 8 (Tree.node [] [0,1,2] [3] [Tree.node [0,1] [] [4] [Tree.node [0,1] [] [5] [Tree.node [] [6] [7] [Tree.node [] [] [] []]]]]) (by kernel_rfl) rfl (by kernel_rfl) (by kernel_rfl) ?_
   refine bA ?_
   refine sI ?_
   refine AQ.fn (by kernel_rfl) rfl rfl rfl (ih) rfl ?_
   refine sI ?_
   refine AQ.nx rfl ?_
   refine sI ?_
   refine AQ.go (by kernel_rfl) ?_
   refine sI ?_
   refine AQ.nx rfl ?_
   refine sI ?_
   refine AQ.kill 3 ?_
   refine sI ?_
   refine AQ.append (hnb:=rfl) (rows:=aw (u.xs.take j)) (es:=2) (by kernel_rfl) rfl rfl rfl (by rfl) Tryz.wY Tryz.wS (by show Option.map _ (aC Tryz.prog 71)=_;rw[Tryz.xh];rfl) Tryz.uo (by first|rfl|(simp only[ai,fA,List.length_cons,List.length_nil];done)|(simp only[ai,fA,List.length_cons,List.length_nil];omega)) (by simp only[ai,fA,List.length_cons,List.length_nil];omega) (by simp only[ai,fA,List.length_cons,List.length_nil];omega) ?_
   refine sI ?_
   refine AQ.nx rfl ?_
   refine sI ?_
   refine AQ.go (by kernel_rfl) ?_
   refine sI ?_
   refine AQ.nx rfl ?_
   refine sI ?_
   refine AQ.done ?_
   refine gE @cJ ?_
   refine AE.ew [4] rfl ?_
   refine sI ?_
   refine AE.round (j+1) (by omega) (by omega) (sU) ?_
   rw[lG,nG,ai,fA]
theorem M5 (c:List Lt) (hs:cG c):aI Tryz.prog 45 [aJ c] (aJ c):=by
 refine ak.walk [0,2,3,5,6,8,9,10,11,12,21,22,23,24] [5,6,8] Tryz.func45 rfl Tryz.ntmps45 (by kernel_rfl) (by rfl) rfl fun W own I0 ax lay=>?_
 refine gE @ae ?_
 refine AP.own 3 61 3 rfl ?_
 refine sI ?_
 refine AP.loop rfl (α:=Nat) (fun k=>[(3,.os 0 3 0 k),(9,aJ c),(10,Iv c.length),(11,Iv k)]) (fun k=>[(0,.vec 61 3 (aF (c.take k)))]) (fun k=>k<=c.length) (fun k=>c.length-k) 0 (by omega) (sU) rfl fun k hk=>?_
 have cB:=hs.1
 rcases Nat.eq_or_lt_of_le hk with aG|ah
 ·subst aG
  rw[List.take_length]
  refine gE @ae ?_
  refine cF ?_
  refine gO ?_
  refine AE.freeze 0 (el:=61) (es:=3) (rows:=aF c) rfl (by simp only[go_sem,Nat.reduceAdd,Nat.reduceLeDiff,Nat.reduceSub,Int.reduceToNat,reduceCtorEq,ae];first|done|trivial|omega|(simp;done)|(simp;omega)) (by simp only[go_sem,Nat.reduceAdd,Nat.reduceLeDiff,Nat.reduceSub,Int.reduceToNat,reduceCtorEq,ae];first|done|trivial|omega|(simp;done)|(simp;omega)) ?_;simp only[go_sem,Nat.reduceAdd,Nat.reduceLeDiff,Nat.reduceSub,Int.reduceToNat,reduceCtorEq,ae]
  rw[List.take_of_length_le (by rw[ae];omega)]
  exact AE.ay rfl ⟨rfl,trivial⟩ rfl ⟨rfl,rfl⟩
 ·obtain⟨u,hu,aj⟩:=dI c k ah
  have hw:=wr (x:=(k:Int)+1) (by omega)
  have bF:=k7 (l:=c) (k:=k) (by omega)
  have bM:=jt hs hu
  have aS:=cK hu
  refine gE @ae ?_
  refine cT ?_
  refine gE @aj ?_
  refine⟨by rw[ae];omega,?_⟩
  refine gE @ai ?_
  refine AP.jN 2 2 57 3 rfl rfl ?_
  refine sI ?_
  refine AP.loop rfl (α:=Nat) (fun j=>[(3,.os 0 3 0 k),(6,.ob 2 0),(9,aJ c),(10,Iv c.length),(11,Iv k),(21,.im (.sl 3 (aw u.xs))),(22,Iv u.xs.length),(23,Iv j)]) (fun j=>[(3,.vec 57 3 (aw (u.xs.take j))),(2,.var 61 [Bv u.ng,Sv u.pd,.os 3 3 0 j]),(1,.var 119 [Bv u.ng,Sv u.pd,.im (.sl 3 (aw u.xs))]),(0,.vec 61 3 (aF (c.take k)))]) (fun j=>j<=u.xs.length) (fun j=>u.xs.length-j) 0 (by omega) (sU) rfl fun j hj=>?_
  rcases Nat.eq_or_lt_of_le hj with cY|fZ
  ·subst cY
   rw[List.take_length]
   refine gE @ai ?_
   refine cF ?_
   refine sI ?_
   refine AP.freeze 3 (el:=57) (es:=3) (rows:=aw u.xs) rfl (by simp only[go_sem,Nat.reduceAdd,Nat.reduceLeDiff,Nat.reduceSub,Int.reduceToNat,reduceCtorEq,ai];first|done|trivial|omega|(simp;done)|(simp;omega)) (by simp only[go_sem,Nat.reduceAdd,Nat.reduceLeDiff,Nat.reduceSub,Int.reduceToNat,reduceCtorEq,ai];first|done|trivial|omega|(simp;done)|(simp;omega)) ?_;simp only[go_sem,Nat.reduceAdd,Nat.reduceLeDiff,Nat.reduceSub,Int.reduceToNat,reduceCtorEq,ai]
   rw[show List.take u.xs.length (aw u.xs)=aw u.xs from List.take_of_length_le (by rw[ai];omega)]
   refine gO ?_
   refine AQ.append (hnb:=rfl) (rows:=aF (c.take k)) (es:=2) (by kernel_rfl) rfl rfl rfl (by rfl) Tryz.gf Tryz.gb (by show Option.map _ (aC Tryz.prog 61)=_;rw[Tryz.gi];rfl) Tryz.fV (by first|rfl|(simp only[ae,bF,List.length_cons,List.length_nil];done)|(simp only[ae,bF,List.length_cons,List.length_nil];omega)) (by simp only[ae,bF,List.length_cons,List.length_nil];omega) (by simp only[ae,bF,List.length_cons,List.length_nil];omega) ?_
   refine sI ?_
   refine gE @hw ?_
   refine AE.ew [2,1] rfl ?_
   refine sE (an @ae @bF) ?_
   refine AE.round (k+1) (by omega) (by omega) (sU) ?_
   rw[aS,tc]
  ·obtain⟨v,hv,cg⟩:=cm u.xs j fZ
   have cJ:=wr (x:=(j:Int)+1) (by have:=bM.2.1;omega)
   have fA:=k7 (l:=u.xs) (k:=j) (by omega)
   have ih:=Fv v (cN bM.2.2 hv)
   have lG:=cK hv
   have lI:=bM.2.1
   refine gE @ai ?_
   refine cT ?_
   refine gE @cg ?_
   refine⟨by rw[ai];omega,?_⟩
   refine gO ?_
   refine AP.bC 8 (Tree.node [] [0,1,2] [3] [Tree.node [0,1] [] [4] [Tree.node [0,1] [] [5] [Tree.node [] [6] [7] [Tree.node [] [] [] []]]]]) (by kernel_rfl) rfl (by kernel_rfl) (by kernel_rfl) ?_
   refine bA ?_
   refine sI ?_
   refine AQ.fn (by kernel_rfl) rfl rfl rfl (ih) rfl ?_
   refine sI ?_
   refine AQ.nx rfl ?_
   refine sI ?_
   refine AQ.go (by kernel_rfl) ?_
   refine sI ?_
   refine AQ.nx rfl ?_
   refine sI ?_
   refine AQ.kill 3 ?_
   refine sI ?_
   refine AQ.append (hnb:=rfl) (rows:=aw (u.xs.take j)) (es:=2) (by kernel_rfl) rfl rfl rfl (by rfl) Tryz.wX Tryz.wR (by show Option.map _ (aC Tryz.prog 57)=_;rw[Tryz.xg];rfl) Tryz.um (by first|rfl|(simp only[ai,fA,List.length_cons,List.length_nil];done)|(simp only[ai,fA,List.length_cons,List.length_nil];omega)) (by simp only[ai,fA,List.length_cons,List.length_nil];omega) (by simp only[ai,fA,List.length_cons,List.length_nil];omega) ?_
   refine sI ?_
   refine AQ.nx rfl ?_
   refine sI ?_
   refine AQ.go (by kernel_rfl) ?_
   refine sI ?_
   refine AQ.nx rfl ?_
   refine sI ?_
   refine AQ.done ?_
   refine gE @cJ ?_
   refine AE.ew [4] rfl ?_
   refine sI ?_
   refine AE.round (j+1) (by omega) (by omega) (sU) ?_
   rw[lG,nG,ai,fA]
def dc {α:Type} (p:α->α->Bool):List α->List α->Bool
 |[],[]=>true
 |a::l,b::m=>p a b&&dc p l m
 |_,_=>false
theorem ub {α:Type} (p:α->α->Bool):∀(l m:List α),l.length≠m.length->dc p l m=false
 |[],[],h=>by simp at h
 |[],_::_,_=>rfl
 |_::_,[],_=>rfl
 |a::l,b::m,h=>by rw[dc,ub p l m (by simpa using h),Bool.and_false]
theorem xY {α:Type} (p:α->α->Bool) (l m:List α) (k:Nat) (t u:α) (ht:l[k]?=some t) (hu:m[k]?=some u):dc p (l.drop k) (m.drop k)=(p t u&&dc p (l.drop (k+1)) (m.drop (k+1))):=by
 obtain⟨h1,e1⟩:=List.getElem?_eq_some_iff.1 ht
 obtain⟨h2,e2⟩:=List.getElem?_eq_some_iff.1 hu
 rw[List.drop_eq_getElem_cons h1,List.drop_eq_getElem_cons h2,e1,e2,dc]
theorem Bq:∀l m:List Tm,kC l m=dc cS l m
 |[],[]=>by rw[kC,dc]
 |[],_::_=>by rw[kC,dc]<;>simp
 |_::_,[]=>by rw[kC,dc]<;>simp
 |a::l,b::m=>by rw[kC,dc,Bq l m]
theorem Gq (t u:Tm):cS t u=((t.nm==u.nm&&t.ix==u.ix)&&dc cS t.xs u.xs):=by cases t;rw[cS,Bq];rfl
theorem wJ (t v:Tm) (hs:bz t):aI Tryz.prog 39 [bq t,bq v] (Bv (cS t v)):=by
 have cq:=eT.1 hs
 have he:=Gq t v
 refine ak.walk [0,1,2,3,4,5,26,31,45] [] Tryz.func39 rfl Tryz.ntmps39 (by kernel_rfl) (by rfl) rfl fun W own I0 ax lay=>?_
 refine gE @ai ?_
 refine AP.cond rfl rfl (fun h=>?_) (fun h=>?_)
 ·have:cS t v=false:=by
   rw[he]
   by_cases hl:t.xs.length=v.xs.length
   ·have:(t.nm==v.nm&&t.ix==v.ix)=false:=by
     by_cases hA:t.nm=v.nm
     ·by_cases hB:t.ix=v.ix
      ·simp[hA,hB,hl]at h
      ·simp[hB]
     ·simp[hA]
    rw[this,Bool.false_and]
   ·rw[ub cS _ _ hl,Bool.and_false]
  refine gO ?_
  exact AE.ay rfl ⟨rfl,trivial⟩ rfl ⟨rfl,by rw[this];rfl⟩
 have hA:t.nm=v.nm:=Classical.byContradiction fun hc=>by simp[hc]at h
 have hB:t.ix=v.ix:=Classical.byContradiction fun hc=>by simp[hc]at h
 have hl:t.xs.length=v.xs.length:=Classical.byContradiction fun hc=>by simp[hA,hB]at h;omega
 have he:cS t v=dc cS t.xs v.xs:=by rw[he,hA,hB];simp
 refine gO ?_
 refine AP.loop rfl (α:=Nat) (fun k=>[(2,.im (gW t)),(3,.im (gW v)),(5,Iv k)]) (fun _=>[]) (fun k=>k<=t.xs.length/\cS t v=dc cS (t.xs.drop k) (v.xs.drop k)) (fun k=>t.xs.length-k) 0 ⟨by omega,he⟩ (sU) rfl fun k ⟨hk,hm⟩=>?_
 rcases Nat.eq_or_lt_of_le hk with aG|ah
 ·rw[aG,List.drop_length,hl,List.drop_length,dc]at hm
  refine gE @ai ?_
  refine cF ?_
  refine gO ?_
  exact AE.ay rfl ⟨rfl,trivial⟩ rfl ⟨rfl,by rw[hm];rfl⟩
 ·obtain⟨u,hu,aj⟩:=cm t.xs k ah
  obtain⟨w,a8,cg⟩:=cm v.xs k (by omega)
  rw[xY cS t.xs v.xs k u w hu a8]at hm
  have hw:=wr (x:=(k:Int)+1) (by omega)
  refine gE @ai ?_
  refine cT ?_
  refine gO ?_
  refine AP.bC 12 (Tree.node [] [0,1,2,3,4,5,6,7,8,9] [10] [Tree.node [] [11] [] []]) (by kernel_rfl) rfl (by kernel_rfl) (by kernel_rfl) ?_
  refine bA ?_
  refine sE (an @aj (an @cg @ai)) ?_
  refine⟨by omega,by omega,?_⟩
  refine AQ.fn (by kernel_rfl) rfl rfl rfl (wJ u w (cN cq.2.2 hu)) rfl ?_
  refine sI ?_
  refine AQ.nx rfl ?_
  refine sI ?_
  refine AQ.done ?_
  refine gO ?_
  refine AP.cond rfl rfl (fun h5=>?_) (fun h5=>?_)
  ·have h5:cS u w=false:=by simpa using h5
   rw[h5,Bool.false_and]at hm
   refine gO ?_
   exact AE.ay rfl ⟨rfl,trivial⟩ rfl ⟨rfl,by rw[hm];rfl⟩
  ·have h5:cS u w=true:=by simpa using h5
   rw[h5,Bool.true_and]at hm
   refine gE @hw ?_
   exact AE.round (k+1) ⟨by omega,hm⟩ (by omega) (sU) rfl
termination_by SizeOf.sizeOf t
decreasing_by exact gX hu
theorem KC (t v:Lt):cy t v=((t.ng==v.ng&&t.pd==v.pd)&&dc cS t.xs v.xs):=by rw[cy,Bq]
theorem z7 (t v:Lt) (cq:gA t):aI Tryz.prog 48 [fc t,fc v] (Bv (cy t v)):=by
 have he:=KC t v
 refine ak.walk [0,1,2,3,4,5,26,31,45] [] Tryz.func48 rfl Tryz.ntmps48 (by kernel_rfl) (by rfl) rfl fun W own I0 ax lay=>?_
 refine gE @ai ?_
 refine AP.cond rfl rfl (fun h=>?_) (fun h=>?_)
 ·have:cy t v=false:=by
   rw[he]
   by_cases hl:t.xs.length=v.xs.length
   ·have:(t.ng==v.ng&&t.pd==v.pd)=false:=by
     by_cases hA:t.ng=v.ng
     ·by_cases hB:t.pd=v.pd
      ·simp[hA,hB,hl]at h
      ·simp[hB]
     ·simp[hA]
    rw[this,Bool.false_and]
   ·rw[ub cS _ _ hl,Bool.and_false]
  refine gO ?_
  exact AE.ay rfl ⟨rfl,trivial⟩ rfl ⟨rfl,by rw[this];rfl⟩
 have hA:t.ng=v.ng:=Classical.byContradiction fun hc=>by simp[hc]at h
 have hB:t.pd=v.pd:=Classical.byContradiction fun hc=>by simp[hc]at h
 have hl:t.xs.length=v.xs.length:=Classical.byContradiction fun hc=>by simp[hA,hB]at h;omega
 have he:cy t v=dc cS t.xs v.xs:=by rw[he,hA,hB];simp
 refine gO ?_
 refine AP.loop rfl (α:=Nat) (fun k=>[(2,.im (kW t)),(3,.im (kW v)),(5,Iv k)]) (fun _=>[]) (fun k=>k<=t.xs.length/\cy t v=dc cS (t.xs.drop k) (v.xs.drop k)) (fun k=>t.xs.length-k) 0 ⟨by omega,he⟩ (sU) rfl fun k ⟨hk,hm⟩=>?_
 have mB:=cq.2.1
 rcases Nat.eq_or_lt_of_le hk with aG|ah
 ·rw[aG,List.drop_length,hl,List.drop_length,dc]at hm
  refine gE @ai ?_
  refine cF ?_
  refine gO ?_
  exact AE.ay rfl ⟨rfl,trivial⟩ rfl ⟨rfl,by rw[hm];rfl⟩
 ·obtain⟨u,hu,aj⟩:=cm t.xs k ah
  obtain⟨w,a8,cg⟩:=cm v.xs k (by omega)
  rw[xY cS t.xs v.xs k u w hu a8]at hm
  have hw:=wr (x:=(k:Int)+1) (by omega)
  refine gE @ai ?_
  refine cT ?_
  refine gO ?_
  refine AP.bC 12 (Tree.node [] [0,1,2,3,4,5,6,7,8,9] [10] [Tree.node [] [11] [] []]) (by kernel_rfl) rfl (by kernel_rfl) (by kernel_rfl) ?_
  refine bA ?_
  refine sE (an @aj (an @cg @ai)) ?_
  refine⟨by omega,by omega,?_⟩
  refine AQ.fn (by kernel_rfl) rfl rfl rfl (wJ u w (cN cq.2.2 hu)) rfl ?_
  refine sI ?_
  refine AQ.nx rfl ?_
  refine sI ?_
  refine AQ.done ?_
  refine gO ?_
  refine AP.cond rfl rfl (fun h5=>?_) (fun h5=>?_)
  ·have h5:cS u w=false:=by simpa using h5
   rw[h5,Bool.false_and]at hm
   refine gO ?_
   exact AE.ay rfl ⟨rfl,trivial⟩ rfl ⟨rfl,by rw[hm];rfl⟩
  ·have h5:cS u w=true:=by simpa using h5
   rw[h5,Bool.true_and]at hm
   refine gE @hw ?_
   exact AE.round (k+1) ⟨by omega,hm⟩ (by omega) (sU) rfl
theorem Tz (c d:List Lt) (hs:cG c):aI Tryz.prog 86 [aJ c,aJ d] (Bv (dc cy c d)):=by
 refine ak.walk [0,1,4,5,10,14,26] [] Tryz.func86 rfl Tryz.ntmps86 (by kernel_rfl) (by rfl) rfl fun W own I0 ax lay=>?_
 refine gE @ae ?_
 have cB:=hs.1
 refine AP.cond rfl rfl (fun h=>?_) (fun h=>?_)
 ·have hl:¬c.length=d.length:=by simp at h;omega
  refine gO ?_
  exact AE.ay rfl ⟨rfl,trivial⟩ rfl ⟨rfl,by rw[ub cy _ _ hl];rfl⟩
 have hl:c.length=d.length:=by simp at h;omega
 refine gO ?_
 refine AP.loop rfl (α:=Nat) (fun k=>[(0,aJ c),(1,aJ d),(5,Iv k)]) (fun _=>[]) (fun k=>k<=c.length/\dc cy c d=dc cy (c.drop k) (d.drop k)) (fun k=>c.length-k) 0 ⟨by omega,rfl⟩ (sU) rfl fun k ⟨hk,hm⟩=>?_
 rcases Nat.eq_or_lt_of_le hk with aG|ah
 ·rw[aG,List.drop_length,hl,List.drop_length,dc]at hm
  refine gE @ae ?_
  refine cF ?_
  refine gO ?_
  exact AE.ay rfl ⟨rfl,trivial⟩ rfl ⟨rfl,by rw[hm];rfl⟩
 ·obtain⟨u,hu,aj⟩:=dI c k ah
  obtain⟨w,a8,cg⟩:=dI d k (by omega)
  rw[xY cy c d k u w hu a8]at hm
  have hw:=wr (x:=(k:Int)+1) (by omega)
  refine gE @ae ?_
  refine cT ?_
  refine gO ?_
  refine AP.bC 10 (Tree.node [] [0,1,2,3,4,5,6,7] [8] [Tree.node [] [9] [] []]) (by kernel_rfl) rfl (by kernel_rfl) (by kernel_rfl) ?_
  refine bA ?_
  refine sE (an @aj (an @cg @ae)) ?_
  refine⟨by omega,by omega,?_⟩
  refine AQ.fn (by kernel_rfl) rfl rfl rfl (z7 u w (jt hs hu)) rfl ?_
  refine sI ?_
  refine AQ.nx rfl ?_
  refine sI ?_
  refine AQ.done ?_
  refine gO ?_
  refine AP.cond rfl rfl (fun h5=>?_) (fun h5=>?_)
  ·have h5:cy u w=false:=by simpa using h5
   rw[h5,Bool.false_and]at hm
   refine gO ?_
   exact AE.ay rfl ⟨rfl,trivial⟩ rfl ⟨rfl,by rw[hm];rfl⟩
  ·have h5:cy u w=true:=by simpa using h5
   rw[h5,Bool.true_and]at hm
   refine gE @hw ?_
   exact AE.round (k+1) ⟨by omega,hm⟩ (by omega) (sU) rfl
theorem Ff:∀c d:List Lt,dc cy c d=true↔c=d
 |[],[]=>by rw[dc];simp
 |[],_::_=>by rw[dc]<;>simp
 |_::_,[]=>by rw[dc]<;>simp
 |a::l,b::m=>by rw[dc,Bool.and_eq_true,z6,Ff l m,List.cons.injEq]
theorem KD (c d:List Lt) (hs:cG c):aI Tryz.prog 21 [aJ c,aJ d] (Bv (dc cy c d)):=by
 refine ak.walk [0,1,4] [] Tryz.func21 rfl Tryz.ntmps21 (by kernel_rfl) (by rfl) rfl fun W own I0 ax lay=>?_
 refine gO ?_
 refine AQ.fn (by kernel_rfl) rfl rfl rfl (M5 c hs) rfl ?_
 refine sI ?_
 refine gO ?_
 refine AQ.fn (by kernel_rfl) rfl rfl rfl (Tz c d hs) rfl ?_
 refine sI ?_
 refine gO ?_
 exact AE.ay rfl ⟨rfl,trivial⟩ rfl ⟨rfl,rfl⟩
theorem Gr (f:FuncId) (p:Tm->Tm->Bool) (xs ys:List Tm) (hx:xs.length<=9223372036854775807) (h:∀(k:Nat) (t u:Tm),xs[k]?=some t->ys[k]?=some u->aI Tryz.prog f [bq t,bq u] (Bv (p t u))):
  aI Tryz.prog 163 [.im (.sl 3 (aw xs)),.im (.sl 3 (aw ys)),.fn f [] []] (Bv (dc p xs ys)):=by
 refine ak.walk [0,1,2,6,7,8,9,14,15,16,17,18,30] [8,9] Tryz.func163 rfl Tryz.ntmps163 (by kernel_rfl) (by rfl) rfl fun W own I0 ax lay=>?_
 refine gE @ai ?_
 refine AP.cond rfl rfl (fun h1=>?_) (fun h1=>?_)
 ·refine gO ?_
  exact AE.ay rfl ⟨rfl,trivial⟩ rfl ⟨rfl,by rw[ub p xs ys (by simp at h1;omega)];rfl⟩
 ·have h1:xs.length=ys.length:=by simp at h1;omega
  refine gE @ai ?_
  refine AP.loop rfl (α:=Nat) (fun k=>[(1,.im (.sl 3 (aw ys))),(2,.fn f [] []),(15,.im (.sl 3 (aw xs))),(16,Iv xs.length),(17,Iv k)]) (fun _=>[]) (fun k=>k<=xs.length/\dc p xs ys=dc p (xs.drop k) (ys.drop k)) (fun k=>xs.length-k) 0 ⟨by omega,rfl⟩ (sU) rfl fun k ⟨hk,hm⟩=>?_
  rcases Nat.eq_or_lt_of_le hk with aG|ah
  ·refine gO ?_
   refine cF ?_
   refine gO ?_
   exact AE.ay rfl ⟨rfl,trivial⟩ rfl ⟨rfl,by rw[hm,aG,List.drop_length,h1,List.drop_length,dc];rfl⟩
  ·obtain⟨t,ht,aj⟩:=cm xs k ah
   obtain⟨u,hu,cg⟩:=cm ys k (by omega)
   have cV:=xY p xs ys k t u ht hu
   have hw:=wr (x:=(k:Int)+1) (by omega)
   refine gO ?_
   refine cT ?_
   refine gE @aj ?_
   refine⟨by rw[ai];omega,?_⟩
   refine gE @cg ?_
   refine⟨by rw[ai];omega,?_⟩
   refine gO ?_
   refine AQ.nQ [] (by kernel_rfl) rfl rfl rfl rfl rfl rfl (fun k=>by exact trivial) (fun k=>rfl) (fun k=>rfl) (h k t u ht hu) ?_
   refine gO ?_
   refine AP.cond rfl rfl (fun h2=>?_) (fun h2=>?_)
   ·refine gO ?_
    refine AE.aV [1,0] rfl ⟨rfl,trivial⟩ rfl ⟨rfl,?_⟩
    rw[hm,cV,show p t u=false by simpa using h2];rfl
   ·refine gE @hw ?_
    refine AE.ew [1,0] rfl ?_
    refine sI ?_
    exact AE.round (k+1) ⟨by omega,by rw[hm,cV,show p t u=true by simpa using h2,Bool.true_and]⟩ (by omega) (sU) rfl
theorem uH (t u:Tm) (hs:bz t):aI Tryz.prog 97 [bq t,bq u] (Bv (cS t u)):=by
 have cq:=eT.1 hs
 have hc:=Gr 97 cS t.xs u.xs (by omega) fun k a b ha hb=>uH a b (cN cq.2.2 ha)
 refine ak.walk [0,1,2,3,4] [] Tryz.func97 rfl Tryz.ntmps97 (by kernel_rfl) (by rfl) rfl fun W own I0 ax lay=>?_
 refine gO ?_
 refine AQ.lu (by kernel_rfl) rfl rfl (fun h=>by first|(simp[gs,AV.g];done)|(simp[gs,AV.g,bH];done)|(simp[gs,AV.g,bH,bw]at h⊢;done)|(simp[gs,AV.g,bH,bw]at h⊢;exact h)|(simp[gs,AV.g,bH,bw]at h⊢;simp[h];done)|(simp[bw]at h;done)|(simp[gs,AV.g,bw]at h⊢;simp[h];done)|(simp[gs,AV.g,bw]at h⊢;exact h.1)|(simp[gs,AV.g];rfl)|(simp[gs,AV.g,bw]at h⊢;rfl)|(simp[gs,AV.g,bw]at h⊢;simp[h];rfl)|(simp[gs,AV.g,bw]at h⊢;simp_all)) rfl (fun _=>hc) rfl ?_
 refine gO ?_
 exact AE.ay rfl ⟨rfl,trivial⟩ rfl ⟨rfl,by rw[Gq];rfl⟩
termination_by SizeOf.sizeOf t
decreasing_by exact gX ha
theorem D_ (t u:Lt) (hs:gA t):aI Tryz.prog 89 [fc t,fc u] (Bv (cy t u)):=by
 have hx:=hs.2.1
 have hc:=Gr 97 cS t.xs u.xs (by omega) fun k a b ha hb=>uH a b (cN hs.2.2 ha)
 refine ak.walk [0,1,2,3,4] [] Tryz.func89 rfl Tryz.ntmps89 (by kernel_rfl) (by rfl) rfl fun W own I0 ax lay=>?_
 refine gO ?_
 refine AQ.lu (by kernel_rfl) rfl rfl (fun h=>by first|(simp[gs,AV.g];done)|(simp[gs,AV.g,bH];done)|(simp[gs,AV.g,bH,bw]at h⊢;done)|(simp[gs,AV.g,bH,bw]at h⊢;exact h)|(simp[gs,AV.g,bH,bw]at h⊢;simp[h];done)|(simp[bw]at h;done)|(simp[gs,AV.g,bw]at h⊢;simp[h];done)|(simp[gs,AV.g,bw]at h⊢;exact h.1)|(simp[gs,AV.g];rfl)|(simp[gs,AV.g,bw]at h⊢;rfl)|(simp[gs,AV.g,bw]at h⊢;simp[h];rfl)|(simp[gs,AV.g,bw]at h⊢;simp_all)) rfl (fun _=>hc) rfl ?_
 refine gO ?_
 exact AE.ay rfl ⟨rfl,trivial⟩ rfl ⟨rfl,by rw[KC];rfl⟩
mutual
def fC:Tm->Int->Int
 | .mk _ _ xs,m=>bm xs m 1
def bm:List Tm->Int->Int->Int
 |[],_,n=>n
 |t::l,m,n=>if m<n then n else bm l m (n+fC t (m-n))
end
theorem El (t:Tm) (m:Int):fC t m=bm t.xs m 1:=by cases t;rw[fC];rfl
theorem wW:∀(l:List Tm) (m n:Int),m<n->bm l m n=n
 |[],m,n,_=>by rw[bm]
 |t::l,m,n,h=>by rw[bm,if_pos h]
theorem rE:∀(l k:List Tm) (m n:Int),bm (l++k) m n=bm k m (bm l m n)
 |[],k,m,n=>by rw[List.nil_append,bm]
 |t::l,k,m,n=>by
  rw[List.cons_append,bm,bm]
  split
  ·rename_i h;rw[wW k m n h]
  ·exact rE l k m _
mutual
theorem mL:∀(t:Tm) (m:Int),0<=m->((wT t:Int)<=m->fC t m=wT t)/\(m<wT t->m<fC t m)/\1<=fC t m/\fC t m<=m+1
 | .mk _ _ xs,m,hm=>by
  have h:=wV xs m 1 hm (by omega) (by omega)
  rw[fC,wT]
  exact⟨fun hh=>by rw[h.1 (by omega)];omega,fun hh=>h.2.1 (by omega),h.2.2.1,h.2.2.2⟩
theorem wV:∀(l:List Tm) (m n:Int),0<=m->1<=n->n<=m+1->(n+(aH l:Int)<=m->bm l m n=n+aH l)/\(m<n+aH l->m<bm l m n)/\1<=bm l m n/\bm l m n<=m+1
 |[],m,n,hm,h1,h2=>by
  rw[bm,aH]
  exact⟨fun _=>by omega,fun h=>by omega,h1,h2⟩
 |t::l,m,n,hm,h1,h2=>by
  rw[bm,aH]
  have hp:=UM t
  split
  ·rename_i h
   exact⟨fun hh=>by omega,fun _=>h,h1,h2⟩
  ·rename_i h
   obtain⟨a1,a2,a3,a4⟩:=mL t (m-n) (by omega)
   obtain⟨b1,b2,b3,b4⟩:=wV l m (n+fC t (m-n)) hm (by omega) (by omega)
   refine⟨fun hh=>?_,fun hh=>?_,b3,b4⟩
   ·rw[b1 (by rw[a1 (by omega)];omega),a1 (by omega)];omega
   ·by_cases hc:m-n<wT t
    ·have:=a2 hc
     rw[wW l m _ (by omega)];omega
    ·exact b2 (by rw[a1 (by omega)];omega)
end
def tl (c:List Lt) (m:Int):Int:=bm (c.flatMap (·.xs)) m c.length
theorem EP:∀l k:List Tm,aH (l++k)=aH l+aH k
 |[],k=>by rw[List.nil_append,aH];omega
 |t::l,k=>by rw[List.cons_append,aH,aH,EP l k];omega
theorem Jq:∀c:List Lt,b5 c=c.length+aH (c.flatMap (·.xs))
 |[]=>by rw[List.flatMap_nil,aH];rfl
 |l::c=>by rw[jd,List.flatMap_cons,EP,List.length_cons,Jq c];omega
theorem Se (c:List Lt) (m:Int) (hm:0<=m):((b5 c:Int)<=m->tl c m=b5 c)/\(m<b5 c->m<tl c m):=by
 rw[tl,Jq]
 by_cases h:m<c.length
 ·rw[wW _ _ _ h]
  exact⟨fun hh=>by omega,fun _=>h⟩
 ·by_cases h0:c.length=0
  ·rw[List.length_eq_zero_iff.1 h0,List.flatMap_nil,bm,aH]
   exact⟨fun _=>rfl,fun hh=>by simpa using hh⟩
  ·obtain⟨a,b,_⟩:=wV (c.flatMap (·.xs)) m c.length hm (by omega) (by omega)
   exact⟨fun hh=>by rw[a (by omega)];omega,fun hh=>b (by omega)⟩
theorem Af {l:List Tm} {k:Nat} {u:Tm} (h:l[k]?=some u) (m n:Int):bm (l.take (k+1)) m n=if m<bm (l.take k) m n then bm (l.take k) m n else bm (l.take k) m n+fC u (m-bm (l.take k) m n):=by
 rw[cK h,rE,bm]
 split
 ·rfl
 ·rw[bm]
theorem Em {l:List Tm} (k:Nat) (m n:Int) (h:m<bm (l.take k) m n):bm l m n=bm (l.take k) m n:=by
 conv=>lhs;rw[<-List.take_append_drop k l,rE]
 exact wW _ _ _ h
theorem KU (t:Tm) (m:Int) (hs:bz t) (hm:0<=m/\m<=1000000000):aI Tryz.prog 70 [bq t,Iv m] (Iv (fC t m)):=by
 have cq:=eT.1 hs
 refine ak.walk [0,1,2,4,5,7,9,10,11,12,17] [7] Tryz.func70 rfl Tryz.ntmps70 (by kernel_rfl) (by rfl) rfl fun W own I0 ax lay=>?_
 refine gE @ai ?_
 refine AP.loop rfl (α:=Nat) (fun k=>[(1,Iv m),(5,Iv (bm (t.xs.take k) m 1)),(9,.im (.sl 3 (aw t.xs))),(10,Iv t.xs.length),(11,Iv k)]) (fun _=>[]) (fun k=>k<=t.xs.length) (fun k=>t.xs.length-k) 0 (by omega) (by rw[List.take_zero,bm];exact(sU)) rfl fun k hk=>?_
 have hx:=cq.2.1
 have hb:=wV (t.xs.take k) m 1 hm.1 (by omega) (by omega)
 rcases Nat.eq_or_lt_of_le hk with aG|ah
 ·subst aG
  rw[List.take_length]at hb⊢
  refine gO ?_
  refine cF ?_
  refine gO ?_
  exact AE.ay rfl ⟨rfl,trivial⟩ rfl ⟨rfl,by rw[El];rfl⟩
 ·obtain⟨u,hu,aj⟩:=cm t.xs k ah
  have hw:=wr (x:=(k:Int)+1) (by omega)
  have aS:=Af hu m 1
  refine gO ?_
  refine cT ?_
  refine gE @aj ?_
  refine⟨by rw[ai];omega,?_⟩
  refine gO ?_
  refine AP.cond rfl rfl (fun h1=>?_) (fun h1=>?_)
  ·have h1:m<bm (t.xs.take k) m 1:=by simpa using h1
   refine gO ?_
   refine AE.aV [0] rfl ⟨rfl,trivial⟩ rfl ⟨rfl,by rw[El,Em k m 1 h1];rfl⟩
  ·have h1:¬m<bm (t.xs.take k) m 1:=by simpa using h1
   rw[if_neg h1]at aS
   generalize hn:bm (t.xs.take k) m 1=n at*
   have ha:=mL u (m-n) (by omega)
   have a8:=wr (x:=m-n) (by omega)
   have cJ:=wr (x:=n+fC u (m-n)) (by omega)
   refine gE @a8 ?_
   refine AQ.fn (by kernel_rfl) rfl rfl rfl (KU u (m-n) (cN cq.2.2 hu) (by omega)) rfl ?_
   refine sI ?_
   refine gE (an @hw @cJ) ?_
   refine AE.ew [0] rfl ?_
   refine sI ?_
   exact AE.round (k+1) (by omega) (by omega) (by rw[aS];exact(sU)) rfl
termination_by SizeOf.sizeOf t
decreasing_by exact gX hu
theorem wU:∀(l:List Tm) (m n:Int),0<=m->0<=n->n<=bm l m n/\(bm l m n<=n\/bm l m n<=m+1)
 |[],m,n,_,_=>by rw[bm];omega
 |t::l,m,n,hm,h=>by
  rw[bm]
  split
  ·omega
  ·have ha:=mL t (m-n) (by omega)
   have hb:=wU l m (n+fC t (m-n)) hm (by omega)
   omega
theorem BB {c:List Lt} {k:Nat} {u:Lt} (h:c[k]?=some u):(c.take (k+1)).flatMap (·.xs)=(c.take k).flatMap (·.xs)++u.xs:=by
 rw[cK h,List.flatMap_append];simp
theorem N8 {c:List Lt} {k j:Nat} {u:Lt} (h:c[k]?=some u) (m n:Int) (hn:m<bm (u.xs.take j) m (bm ((c.take k).flatMap (·.xs)) m n)):
  bm (c.flatMap (·.xs)) m n=bm (u.xs.take j) m (bm ((c.take k).flatMap (·.xs)) m n):=by
 have e:c.flatMap (·.xs)=(c.take k).flatMap (·.xs)++(u.xs.take j++(u.xs.drop j++(c.drop (k+1)).flatMap (·.xs))):=by
  have h1:c=c.take k++(u::c.drop (k+1)):=by
   obtain⟨h1,h2⟩:=List.getElem?_eq_some_iff.1 h
   rw[<-h2,<-List.drop_eq_getElem_cons h1,List.take_append_drop]
  conv=>lhs;rw[h1]
  rw[List.flatMap_append,List.flatMap_cons,<-List.append_assoc (u.xs.take j),List.take_append_drop]
 rw[e,rE,rE]
 exact wW _ _ _ hn
theorem Sk (c:List Lt) (m:Int) (hs:cG c) (hm:0<=m/\m<=1000000000):aI Tryz.prog 14 [aJ c,Iv m] (Iv (tl c m)):=by
 have cB:=hs.1
 refine ak.walk [0,1,4,5,7,9,12,13,14,15,19,20,21,22,27] [7,9] Tryz.func14 rfl Tryz.ntmps14 (by kernel_rfl) (by rfl) rfl fun W own I0 ax lay=>?_
 refine gE @ae ?_
 refine AP.loop rfl (α:=Nat) (fun k=>[(1,Iv m),(5,Iv (bm ((c.take k).flatMap (·.xs)) m c.length)),(12,aJ c),(13,Iv c.length),(14,Iv k)]) (fun _=>[]) (fun k=>k<=c.length) (fun k=>c.length-k) 0 (by omega) (by rw[List.take_zero,List.flatMap_nil,bm];exact(sU)) rfl fun k hk=>?_
 rcases Nat.eq_or_lt_of_le hk with aG|ah
 ·subst aG
  rw[List.take_length]
  refine gO ?_
  refine cF ?_
  refine gO ?_
  exact AE.ay rfl ⟨rfl,trivial⟩ rfl ⟨rfl,rfl⟩
 ·obtain⟨u,hu,aj⟩:=dI c k ah
  have hw:=wr (x:=(k:Int)+1) (by omega)
  have bM:=jt hs hu
  have lI:=bM.2.1
  have eL:=wU ((c.take k).flatMap (·.xs)) m c.length hm.1 (by omega)
  have lB:=BB hu
  have eZ:=fun j=>N8 (j:=j) hu m c.length
  obtain⟨n0,jC⟩:∃n0,bm ((c.take k).flatMap (·.xs)) m c.length=n0:=⟨_,rfl⟩
  rw[jC]at eL eZ⊢
  refine gO ?_
  refine cT ?_
  refine gE @aj ?_
  refine⟨by rw[ae];omega,?_⟩
  refine gE @ai ?_
  refine AP.loop rfl (α:=Nat) (fun j=>[(1,Iv m),(5,Iv (bm (u.xs.take j) m n0)),(12,aJ c),(13,Iv c.length),(14,Iv k),(19,.im (.sl 3 (aw u.xs))),(20,Iv u.xs.length),(21,Iv j)]) (fun _=>[(0,.var 61 [Bv u.ng,Sv u.pd,.im (.sl 3 (aw u.xs))])]) (fun j=>j<=u.xs.length) (fun j=>u.xs.length-j) 0 (by omega) (by rw[List.take_zero,bm];exact(sU)) rfl fun j hj=>?_
  have hb:=wU (u.xs.take j) m n0 hm.1 (by omega)
  rcases Nat.eq_or_lt_of_le hj with cY|fZ
  ·subst cY
   rw[List.take_length]at hb⊢
   refine gO ?_
   refine cF ?_
   refine gE @hw ?_
   refine AE.ew [0] rfl ?_
   refine sI ?_
   refine AE.round (k+1) (by omega) (by omega) (by rw[lB,rE,jC];exact(sU)) rfl
  ·obtain⟨v,hv,cg⟩:=cm u.xs j fZ
   have cJ:=wr (x:=(j:Int)+1) (by omega)
   have aS:=Af hv m n0
   refine gO ?_
   refine cT ?_
   refine gE @cg ?_
   refine⟨by rw[ai];omega,?_⟩
   refine gO ?_
   refine AP.cond rfl rfl (fun h1=>?_) (fun h1=>?_)
   ·have h1:m<bm (u.xs.take j) m n0:=by simpa using h1
    refine gO ?_
    refine AE.aV [1,0] rfl ⟨rfl,trivial⟩ rfl ⟨rfl,by rw[tl,eZ j h1];rfl⟩
   ·have h1:¬m<bm (u.xs.take j) m n0:=by simpa using h1
    rw[if_neg h1]at aS
    clear eZ
    generalize hn:bm (u.xs.take j) m n0=n at*
    have ha:=mL v (m-n) (by omega)
    have lJ:=wr (x:=m-n) (by omega)
    have q8:=wr (x:=n+fC v (m-n)) (by omega)
    refine gE @lJ ?_
    refine AQ.fn (by kernel_rfl) rfl rfl rfl (KU v (m-n) (cN bM.2.2 hv) (by omega)) rfl ?_
    refine sI ?_
    refine gE (an @cJ @q8) ?_
    refine AE.ew [1] rfl ?_
    refine sI ?_
    exact AE.round (j+1) (by omega) (by omega) (by rw[aS];exact(sU)) rfl
def dG {α:Type} (p:α->Bool):List α->Nat->Int
 |[],_=>-1
 |a::l,i=>if p a then i else dG p l (i+1)
theorem v8 {α:Type} (p:α->Bool):∀(l:List α) (i:Nat),decide (0<=dG p l i)=l.any p
 |[],i=>by rw[dG];rfl
 |a::l,i=>by
  rw[dG,List.any_cons]
  by_cases h:p a=true
  ·rw[if_pos h,h,Bool.true_or];exact decide_eq_true (by omega)
  ·rw[if_neg h,v8 p l (i+1),show p a=false by simpa using h,Bool.false_or]
theorem v_ {α:Type} (p:α->Bool) {l:List α} {k:Nat} {u:α} (h:l[k]?=some u):dG p (l.drop k) k=if p u then(k:Int)else dG p (l.drop (k+1)) (k+1):=by
 obtain⟨h1,h2⟩:=List.getElem?_eq_some_iff.1 h
 rw[List.drop_eq_getElem_cons h1,h2,dG]
mutual
def jL:Tm->Bool
 | .mk n _ xs=>decide (100<n.length)||zp xs
def zp:List Tm->Bool
 |[]=>false
 |t::l=>jL t||zp l
end
theorem IJ:∀l,zp l=l.any jL
 |[]=>rfl
 |t::l=>by rw[zp,IJ l,List.any_cons]
theorem Rx (t:Tm):jL t=(decide (100<t.nm.length)||t.xs.any jL):=by cases t;rw[jL,IJ];rfl
def mC (l:Lt):Bool:=decide (100<l.pd.length)||l.xs.any jL
abbrev fR:aa:=[(0,.var 116 [.fn 67 [] [.ob 0 0]])]
theorem Rg (l:List Tm) (hl:l.length<=1000000000) (h:∀(k:Nat) (t:Tm),l[k]?=some t->ak Tryz.prog 67 [bq t,.ob 0 0] fR (fun r H'=>H'=fR/\r=Bv (jL t))):
  ak Tryz.prog 146 [.im (.sl 3 (aw l)),.fn 67 [] [.ob 0 0]] fR (fun r H'=>H'=fR/\r=Iv (dG jL l 0)):=by
 refine ak.walk [0,1,4,5,7,8,9,16] [] Tryz.func146 rfl Tryz.ntmps146 (by kernel_rfl) (by rfl) rfl fun W own I0 ax lay=>?_
 refine gE @ai ?_
 refine AP.loop rfl (α:=Nat) (fun k=>[(0,.im (.sl 3 (aw l))),(1,.fn 67 [] [.ob 0 0]),(7,Iv l.length),(8,Iv k)]) (fun _=>fR) (fun k=>k<=l.length/\dG jL l 0=dG jL (l.drop k) k) (fun k=>l.length-k) 0 ⟨by omega,rfl⟩ (sU) rfl fun k ⟨hk,hm⟩=>?_
 rcases Nat.eq_or_lt_of_le hk with aG|ah
 ·refine gO ?_
  refine cF ?_
  refine gO ?_
  exact AE.ret rfl ⟨rfl,trivial⟩ ⟨rfl,by rw[hm,aG,List.drop_length,dG];rfl⟩
 ·obtain⟨u,hu,aj⟩:=cm l k ah
  have hw:=wr (x:=(k:Int)+1) (by omega)
  have cV:=v_ jL hu
  refine gO ?_
  refine cT ?_
  refine gE @aj ?_
  refine⟨by rw[ai];omega,?_⟩
  refine gO ?_
  refine AQ.ur (by kernel_rfl) rfl rfl rfl (h k u hu) ?_
  refine sI ?_
  refine gO ?_
  refine AP.cond rfl rfl (fun h1=>?_) (fun h1=>?_)
  ·refine gO ?_
   exact AE.ret rfl ⟨rfl,trivial⟩ ⟨rfl,by rw[hm,cV,if_pos (by simpa using h1)];rfl⟩
  ·refine gE @hw ?_
   exact AE.round (k+1) ⟨by omega,by rw[hm,cV,if_neg (by simpa using h1)]⟩ (by omega) (sU) rfl
theorem Fi (l:List Tm) (hl:l.length<=1000000000) (h:∀(k:Nat) (t:Tm),l[k]?=some t->ak Tryz.prog 67 [bq t,.ob 0 0] fR (fun r H'=>H'=fR/\r=Bv (jL t))):
  ak Tryz.prog 68 [.im (.sl 3 (aw l)),.fn 67 [] [.ob 0 0]] fR (fun r H'=>H'=fR/\r=Bv (l.any jL)):=by
 refine ak.walk [0,1,4] [] Tryz.func68 rfl Tryz.ntmps68 (by kernel_rfl) (by rfl) rfl fun W own I0 ax lay=>?_
 refine gO ?_
 refine AQ.ur (by kernel_rfl) rfl rfl rfl (Rg l hl h) ?_
 refine sI ?_
 refine gO ?_
 exact AE.ret rfl ⟨rfl,trivial⟩ ⟨rfl,by rw[<-v8 jL l 0];rfl⟩
theorem I7 (t:Tm) (hs:bz t):ak Tryz.prog 67 [bq t,.ob 0 0] fR (fun r H'=>H'=fR/\r=Bv (jL t)):=by
 have cq:=eT.1 hs
 have ha:=Fi t.xs cq.2.1 fun k u hu=>I7 u (cN cq.2.2 hu)
 refine ak.walk [0,1,2,3] [] Tryz.func67 rfl Tryz.ntmps67 (by kernel_rfl) (by rfl) rfl fun W own I0 ax lay=>?_
 refine gO ?_
 refine AQ.FF (by kernel_rfl) rfl rfl rfl (fun h=>by first|(simp[gs,AV.g];done)|(simp[gs,AV.g,bH];done)|(simp[gs,AV.g,bH,bw]at h⊢;done)|(simp[gs,AV.g,bH,bw]at h⊢;exact h)|(simp[gs,AV.g,bH,bw]at h⊢;simp[h];done)|(simp[bw]at h;done)|(simp[gs,AV.g,bw]at h⊢;simp[h];done)|(simp[gs,AV.g,bw]at h⊢;exact h.1)|(simp[gs,AV.g];rfl)|(simp[gs,AV.g,bw]at h⊢;rfl)|(simp[gs,AV.g,bw]at h⊢;simp[h];rfl)|(simp[gs,AV.g,bw]at h⊢;simp_all)) (fun _=>ha) ?_
 refine sI ?_
 refine gO ?_
 exact AE.ret rfl ⟨rfl,trivial⟩ ⟨rfl,by rw[Rx,show decide (100<t.nm.length)=decide ((100:Int)<t.nm.length) from by rw[decide_eq_decide];omega];rfl⟩
termination_by SizeOf.sizeOf t
decreasing_by exact gX hu
theorem RI (l:Lt) (hs:gA l):ak Tryz.prog 69 [fc l,.ob 0 0] fR (fun r H'=>H'=fR/\r=Bv (mC l)):=by
 have ha:=Fi l.xs hs.2.1 fun k u hu=>I7 u (cN hs.2.2 hu)
 refine ak.walk [0,1,2,3] [] Tryz.func69 rfl Tryz.ntmps69 (by kernel_rfl) (by rfl) rfl fun W own I0 ax lay=>?_
 refine gO ?_
 refine AQ.FF (by kernel_rfl) rfl rfl rfl (fun h=>by first|(simp[gs,AV.g];done)|(simp[gs,AV.g,bH];done)|(simp[gs,AV.g,bH,bw]at h⊢;done)|(simp[gs,AV.g,bH,bw]at h⊢;exact h)|(simp[gs,AV.g,bH,bw]at h⊢;simp[h];done)|(simp[bw]at h;done)|(simp[gs,AV.g,bw]at h⊢;simp[h];done)|(simp[gs,AV.g,bw]at h⊢;exact h.1)|(simp[gs,AV.g];rfl)|(simp[gs,AV.g,bw]at h⊢;rfl)|(simp[gs,AV.g,bw]at h⊢;simp[h];rfl)|(simp[gs,AV.g,bw]at h⊢;simp_all)) (fun _=>ha) ?_
 refine sI ?_
 refine gO ?_
 exact AE.ret rfl ⟨rfl,trivial⟩ ⟨rfl,by rw[mC,show decide (100<l.pd.length)=decide ((100:Int)<l.pd.length) from by rw[decide_eq_decide];omega];rfl⟩
theorem Rc (l:List Lt) (hl:l.length<=1000000000) (h:∀(k:Nat) (t:Lt),l[k]?=some t->ak Tryz.prog 69 [fc t,.ob 0 0] fR (fun r H'=>H'=fR/\r=Bv (mC t))):
  ak Tryz.prog 118 [.im (.sl 3 (aF l)),.fn 69 [] [.ob 0 0]] fR (fun r H'=>H'=fR/\r=Iv (dG mC l 0)):=by
 refine ak.walk [0,1,4,5,7,8,9,16] [] Tryz.func118 rfl Tryz.ntmps118 (by kernel_rfl) (by rfl) rfl fun W own I0 ax lay=>?_
 refine gE @ae ?_
 refine AP.loop rfl (α:=Nat) (fun k=>[(0,.im (.sl 3 (aF l))),(1,.fn 69 [] [.ob 0 0]),(7,Iv l.length),(8,Iv k)]) (fun _=>fR) (fun k=>k<=l.length/\dG mC l 0=dG mC (l.drop k) k) (fun k=>l.length-k) 0 ⟨by omega,rfl⟩ (sU) rfl fun k ⟨hk,hm⟩=>?_
 rcases Nat.eq_or_lt_of_le hk with aG|ah
 ·refine gO ?_
  refine cF ?_
  refine gO ?_
  exact AE.ret rfl ⟨rfl,trivial⟩ ⟨rfl,by rw[hm,aG,List.drop_length,dG];rfl⟩
 ·obtain⟨u,hu,aj⟩:=dI l k ah
  have hw:=wr (x:=(k:Int)+1) (by omega)
  have cV:=v_ mC hu
  refine gO ?_
  refine cT ?_
  refine gE @aj ?_
  refine⟨by rw[ae];omega,?_⟩
  refine gO ?_
  refine AQ.ur (by kernel_rfl) rfl rfl rfl (h k u hu) ?_
  refine sI ?_
  refine gO ?_
  refine AP.cond rfl rfl (fun h1=>?_) (fun h1=>?_)
  ·refine gO ?_
   exact AE.ret rfl ⟨rfl,trivial⟩ ⟨rfl,by rw[hm,cV,if_pos (by simpa using h1)];rfl⟩
  ·refine gE @hw ?_
   exact AE.round (k+1) ⟨by omega,by rw[hm,cV,if_neg (by simpa using h1)]⟩ (by omega) (sU) rfl
theorem MH (l:List Lt) (hl:l.length<=1000000000) (h:∀(k:Nat) (t:Lt),l[k]?=some t->ak Tryz.prog 69 [fc t,.ob 0 0] fR (fun r H'=>H'=fR/\r=Bv (mC t))):
  ak Tryz.prog 46 [.im (.sl 3 (aF l)),.fn 69 [] [.ob 0 0]] fR (fun r H'=>H'=fR/\r=Bv (l.any mC)):=by
 refine ak.walk [0,1,4] [] Tryz.func46 rfl Tryz.ntmps46 (by kernel_rfl) (by rfl) rfl fun W own I0 ax lay=>?_
 refine gO ?_
 refine AQ.ur (by kernel_rfl) rfl rfl rfl (Rc l hl h) ?_
 refine sI ?_
 refine gO ?_
 exact AE.ret rfl ⟨rfl,trivial⟩ ⟨rfl,by rw[<-v8 mC l 0];rfl⟩
theorem Sc (c:List Lt) (hs:cG c):aI Tryz.prog 11 [aJ c] (Bv (!c.any mC)):=by
 have ha:=MH c hs.1 fun k u hu=>RI u (jt hs hu)
 refine ak.walk [0,2,3] [3] Tryz.func11 rfl Tryz.ntmps11 (by kernel_rfl) (by rfl) rfl fun W own I0 ax lay=>?_
 refine gO ?_
 refine AQ.ur (by kernel_rfl) rfl rfl rfl (ha) ?_
 refine sI ?_
 refine gO ?_
 exact AE.aV [0] rfl ⟨rfl,trivial⟩ rfl ⟨rfl,rfl⟩
abbrev Uv (c:UInt8):AV:= .im (.v (.int .u8 c.toNat))
theorem Iq (c:UInt8) (b:Bool):jc c b=((decide ((97:Int)<=c.toNat)&&decide ((c.toNat:Int)<=122)||decide ((65:Int)<=c.toNat)&&decide ((c.toNat:Int)<=90))||(!b&&((decide ((48:Int)<=c.toNat)&&decide ((c.toNat:Int)<=57)||decide ((c.toNat:Int)=95))||decide ((c.toNat:Int)=39)))):=by
 have h1:(c==95)=decide ((c.toNat:Int)=95):=by
  rw[Bool.eq_iff_iff,beq_iff_eq,decide_eq_true_iff,<-UInt8.toNat_inj];show c.toNat=95↔_;omega
 have h2:(c==39)=decide ((c.toNat:Int)=39):=by
  rw[Bool.eq_iff_iff,beq_iff_eq,decide_eq_true_iff,<-UInt8.toNat_inj];show c.toNat=39↔_;omega
 have e:∀a d:Nat,decide (a<=d)=decide ((a:Int)<=(d:Int)):=fun a d=>by rw[decide_eq_decide];omega
 rw[jc,h1,h2,e,e,e,e,e,e];rfl
theorem Ir (c:UInt8) (b:Bool):aI Tryz.prog 148 [Uv c,Bv b] (Bv (jc c b)):=by
 refine ak.walk [0,1,4,5] [] Tryz.func148 rfl Tryz.ntmps148 (by kernel_rfl) (by rfl) rfl fun W own I0 ax lay=>?_
 refine gO ?_
 exact AE.ay rfl ⟨rfl,trivial⟩ rfl ⟨rfl,by rw[Iq];rfl⟩
theorem Jv {t:List UInt8} {k:Nat} (h:k<t.length) (b:Bool):np b (t.drop k)=(jc (t.getD k 0) b&&np false (t.drop (k+1))):=by
 rw[List.drop_eq_getElem_cons h,np,List.getD_eq_getElem?_getD,List.getElem?_eq_getElem h];rfl
theorem Jw {t:List UInt8} (h:¬(t=[]\/60<t.length)):dV t=np true t:=by
 have h1:t≠[]:=fun e=>h (.inl e)
 have h2:t.length<=60:=by have:=fun e=>h (.inr e);omega
 rw[dV,decide_eq_true h1,decide_eq_true h2];rfl
theorem Jx {t:List UInt8} (h:t=[]\/60<t.length):dV t=false:=by
 rw[dV]
 rcases h with rfl|h
 ·rfl
 ·rw[show decide (t.length<=60)=false from decide_eq_false (by omega),Bool.and_false];rfl
theorem Iy (t:List UInt8) (ht:t.length<=9223372036854775807):aI Tryz.prog 72 [Sv t] (Bv (dV t)):=by
 refine ak.walk [0,2,3,10,12,13,14,22] [] Tryz.func72 rfl Tryz.ntmps72 (by kernel_rfl) (by rfl) rfl fun W own I0 ax lay=>?_
 refine gO ?_
 refine AP.cond rfl rfl (fun h=>?_) (fun h=>?_)
 ·have h:t=[]\/60<t.length:=by
   simp at h;rcases h with h|h
   ·exact .inl h
   ·exact .inr (by omega)
  refine gO ?_
  exact AE.ay rfl ⟨rfl,trivial⟩ rfl ⟨rfl,by rw[Jx h];rfl⟩
 ·have h:¬(t=[]\/60<t.length):=by
   intro h';simp at h;rcases h' with h'|h'
   ·exact h.1 h'
   ·omega
  have gQ:=Jw h
  refine gO ?_
  refine AP.loop rfl (α:=Nat) (fun k=>[(0,Sv t),(12,Iv t.length),(13,Iv k)]) (fun _=>[]) (fun k=>k<=t.length/\dV t=np (decide (k=0)) (t.drop k)) (fun k=>t.length-k) 0 ⟨by omega,gQ⟩ (sU) rfl fun k ⟨hk,hm⟩=>?_
  rcases Nat.eq_or_lt_of_le hk with aG|ah
  ·refine gO ?_
   refine cF ?_
   refine gO ?_
   exact AE.ay rfl ⟨rfl,trivial⟩ rfl ⟨rfl,by rw[hm,aG,List.drop_length,np];rfl⟩
  ·have hw:=wr (x:=(k:Int)+1) (by omega)
   have cV:=Jv ah (decide (k=0))
   refine gO ?_
   refine cT ?_
   refine gO ?_
   refine AQ.fn (by kernel_rfl) rfl rfl rfl (Ir (t.getD k 0) (decide ((k:Int)=0))) rfl ?_
   refine sI ?_
   refine gO ?_
   have hd:decide (k=0)=decide ((k:Int)=0):=by rw[decide_eq_decide];omega
   rw[hd]at cV
   refine AP.cond rfl rfl (fun h1=>?_) (fun h1=>?_)
   ·refine gO ?_
    exact AE.ay rfl ⟨rfl,trivial⟩ rfl ⟨rfl,by rw[hm,hd,cV,show jc (t.getD k 0) (decide ((k:Int)=0))=false by simpa using h1];rfl⟩
   ·refine gE @hw ?_
    refine AE.round (k+1) ⟨by omega,?_⟩ (by omega) (sU) rfl
    rw[hm,hd,cV,show jc (t.getD k 0) (decide ((k:Int)=0))=true by simpa using h1];rfl
theorem II (c:UInt8) (b:Bool):aI Tryz.prog 151 [Uv c,Bv b] (Bv (jc c b)):=by
 refine ak.walk [0,1,4] [] Tryz.func151 rfl Tryz.ntmps151 (by kernel_rfl) (by rfl) rfl fun W own I0 ax lay=>?_
 refine gO ?_
 refine AE.ay rfl ⟨rfl,trivial⟩ rfl ⟨rfl,?_⟩
 rw[Iq,Bool.or_comm (decide ((97:Int)<=c.toNat)&&decide ((c.toNat:Int)<=122))];rfl
theorem Ix (t:List UInt8) (ht:t.length<=9223372036854775807):aI Tryz.prog 77 [Sv t] (Bv (dV t)):=by
 refine ak.walk [0,2,3,11,15,24] [] Tryz.func77 rfl Tryz.ntmps77 (by kernel_rfl) (by rfl) rfl fun W own I0 ax lay=>?_
 refine gO ?_
 refine AP.cond rfl rfl (fun h=>?_) (fun h=>?_)
 ·have h:t=[]\/60<t.length:=by
   simp at h;rcases h with h|h
   ·exact .inl (List.length_eq_zero_iff.1 (by omega))
   ·exact .inr (by omega)
  refine gO ?_
  exact AE.ay rfl ⟨rfl,trivial⟩ rfl ⟨rfl,by rw[Jx h];rfl⟩
 ·have h:¬(t=[]\/60<t.length):=by
   intro h';simp at h;rcases h' with h'|h'
   ·rw[h']at h;simp at h
   ·omega
  have gQ:=Jw h
  refine gO ?_
  refine AP.loop rfl (α:=Nat) (fun k=>[(0,Sv t),(3,Iv k)]) (fun _=>[]) (fun k=>k<=t.length/\dV t=np (decide (k=0)) (t.drop k)) (fun k=>t.length-k) 0 ⟨by omega,gQ⟩ (sU) rfl fun k ⟨hk,hm⟩=>?_
  rcases Nat.eq_or_lt_of_le hk with aG|ah
  ·refine gO ?_
   refine cF ?_
   refine gO ?_
   exact AE.ay rfl ⟨rfl,trivial⟩ rfl ⟨rfl,by rw[hm,aG,List.drop_length,np];rfl⟩
  ·have hw:=wr (x:=(k:Int)+1) (by omega)
   have cV:=Jv ah (decide (k=0))
   refine gO ?_
   refine cT ?_
   refine gO ?_
   refine AQ.fn (by kernel_rfl) rfl rfl rfl (II (t.getD k 0) (decide ((k:Int)=0))) rfl ?_
   refine sI ?_
   refine gO ?_
   have hd:decide (k=0)=decide ((k:Int)=0):=by rw[decide_eq_decide];omega
   rw[hd]at cV
   refine AP.cond rfl rfl (fun h1=>?_) (fun h1=>?_)
   ·refine gO ?_
    exact AE.ay rfl ⟨rfl,trivial⟩ rfl ⟨rfl,by rw[hm,hd,cV,show jc (t.getD k 0) (decide ((k:Int)=0))=false by simpa using h1];rfl⟩
   ·refine gE @hw ?_
    refine AE.round (k+1) ⟨by omega,?_⟩ (by omega) (sU) rfl
    rw[hm,hd,cV,show jc (t.getD k 0) (decide ((k:Int)=0))=true by simpa using h1];rfl
theorem GL (t:Tm) (hs:bz t):aI Tryz.prog 74 [bq t] (Iv (dR 2 3 t)):=by
 have cq:=eT.1 hs
 refine ak.walk [0,1,2,3,10,18,19] [] Tryz.func74 rfl Tryz.ntmps74 (by kernel_rfl) (by rfl) rfl fun W own I0 ax lay=>?_
 refine gO ?_
 refine AP.cond rfl rfl (fun h=>?_) (fun h=>?_)
 ·have hn:t.nm=[]:=by simpa using h
  refine gE @ai ?_
  refine AP.cond rfl rfl (fun h1=>?_) (fun h1=>?_)
  ·refine gO ?_
   exact AE.ay rfl ⟨rfl,trivial⟩ rfl ⟨rfl,by rw[dR,if_pos hn,if_pos (show t.xs≠[] by intro e;rw[e]at h1;simp at h1)];rfl⟩
  ·have hx:¬t.xs≠[]:=by simpa using h1
   refine gO ?_
   refine AP.cond rfl rfl (fun h2=>?_) (fun h2=>?_)
   ·refine gO ?_
    exact AE.ay rfl ⟨rfl,trivial⟩ rfl ⟨rfl,by rw[dR,if_pos hn,if_neg hx,if_pos (by simpa using h2)];rfl⟩
   ·refine gO ?_
    exact AE.ay rfl ⟨rfl,trivial⟩ rfl ⟨rfl,by rw[dR,if_pos hn,if_neg hx,if_neg (by simpa using h2)];rfl⟩
 ·have hn:¬t.nm=[]:=by simpa using h
  refine gO ?_
  refine AQ.fn (by kernel_rfl) rfl rfl rfl (Iy t.nm (by omega)) rfl ?_
  refine sI ?_
  refine gO ?_
  refine AP.cond rfl rfl (fun h1=>?_) (fun h1=>?_)
  ·refine gO ?_
   exact AE.ay rfl ⟨rfl,trivial⟩ rfl ⟨rfl,by rw[dR,if_neg hn,if_pos (by simpa using h1)];rfl⟩
  ·refine gO ?_
   exact AE.ay rfl ⟨rfl,trivial⟩ rfl ⟨rfl,by rw[dR,if_neg hn,if_neg (by simpa using h1)];rfl⟩
mutual
def jS:Tm->Int->Int×Int->Int×Int
 | .mk _ _ xs,k,s=>dA xs (k+1) (s.1+1,max s.2 k)
def dA:List Tm->Int->Int×Int->Int×Int
 |[],_,s=>s
 |t::l,k,s=>if 4000<s.1 then s else dA l k (jS t k s)
end
theorem K2 (t:Tm) (k:Int) (s:Int×Int):jS t k s=dA t.xs (k+1) (s.1+1,max s.2 k):=by cases t;rw[jS];rfl
theorem K4:∀(l:List Tm) (k:Int) (s:Int×Int),4000<s.1->dA l k s=s
 |[],_,_,_=>by rw[dA]
 |t::l,k,s,h=>by rw[dA,if_pos h]
theorem Eh:∀(l m:List Tm) (k:Int) (s:Int×Int),dA (l++m) k s=dA m k (dA l k s)
 |[],m,k,s=>by rw[List.nil_append,dA]
 |t::l,m,k,s=>by
  rw[List.cons_append,dA,dA]
  split
  ·rename_i h;rw[K4 m k s h]
  ·exact Eh l m k _
mutual
theorem wO:∀(t:Tm) (k n d:Int),n+wT t<=4000->jS t k (n,d)=(n+wT t,max d (k-1+fG t))
 | .mk _ _ xs,k,n,d,h=>by
  rw[wT]at h
  rw[jS,wT,fG]
  simp only
  rw[K3 xs (k+1) (n+1) (max d k) (by omega) (by omega),Prod.mk.injEq]
  omega
theorem K3:∀(l:List Tm) (k n d:Int),k-1<=d->n+aH l<=4000->dA l k (n,d)=(n+aH l,max d (k-1+fi l))
 |[],k,n,d,hd,_=>by rw[dA,aH,fi,Prod.mk.injEq];omega
 |t::l,k,n,d,hd,h=>by
  rw[aH]at h
  rw[dA,if_neg (by simp only;omega),wO t k n d (by omega),K3 l k _ _ (by omega) (by omega),aH,fi,Prod.mk.injEq]
  omega
end
mutual
theorem KZ:∀(t:Tm) (k n d:Int),n+1<=(jS t k (n,d)).1/\(jS t k (n,d)).1<=max (n+1) 4001/\(4000<n+wT t->4000<(jS t k (n,d)).1)
 | .mk _ _ xs,k,n,d=>by
  have h:=Eg xs (k+1) (n+1) (max d k)
  rw[jS,wT]
  simp only
  omega
theorem Eg:∀(l:List Tm) (k n d:Int),n<=(dA l k (n,d)).1/\(dA l k (n,d)).1<=max n 4001/\(4000<n+aH l->4000<(dA l k (n,d)).1)
 |[],k,n,d=>by rw[dA,aH];simp only;omega
 |t::l,k,n,d=>by
  rw[dA]
  by_cases h:4000<(n,d).1
  ·rw[if_pos h];simp only at h⊢;omega
  ·rw[if_neg h,aH]
   simp only at h
   have h1:=KZ t k n d
   obtain⟨n1,d1,he⟩:∃n1 d1,jS t k (n,d)=(n1,d1):=⟨_,_,rfl⟩
   have h2:=Eg l k n1 d1
   rw[he]
   have h3:n+wT t<=4000->n1=n+wT t:=fun hh=>by
    have:=wO t k n d hh
    rw[he,Prod.mk.injEq]at this;exact this.1
   rw[he]at h1
   simp only at h1
   by_cases hc:n+wT t<=4000
   ·have:=h3 hc;omega
   ·omega
end
theorem TT {l:List Tm} {k:Nat} {u:Tm} (h:l[k]?=some u) (m:Int) (s:Int×Int):dA (l.take (k+1)) m s=if 4000<(dA (l.take k) m s).1 then dA (l.take k) m s else jS u m (dA (l.take k) m s):=by
 rw[cK h,Eh,dA]
 split
 ·rfl
 ·rw[dA]
theorem TS {l:List Tm} (k:Nat) (m:Int) (s:Int×Int) (h:4000<(dA (l.take k) m s).1):dA l m s=dA (l.take k) m s:=by
 conv=>lhs;rw[<-List.take_append_drop k l,Eh]
 exact K4 _ _ _ h
abbrev oU (s:Int×Int):aa:=[(0,.var 164 [Iv s.1,Iv s.2])]
theorem KV (t:Tm) (k n d:Int) (hs:bz t) (hn:0<=n/\n<=1000000000000) (hk:0<=k/\k<=n+1):
  ak Tryz.prog 147 [.ob 0 0,bq t,Iv k] (oU (n,d)) (fun r H'=>r= .aD []/\H'=oU (jS t k (n,d))):=by
 have cq:=eT.1 hs
 have hx:=cq.2.1
 have CU:=wr (x:=n+1) (by omega)
 have gz:=wr (x:=k+1) (by omega)
 refine ak.walk [0,1,2,4,7,25,26,27,28,35] [7] Tryz.func147 rfl Tryz.ntmps147 (by kernel_rfl) (by rfl) rfl fun W own I0 ax lay=>?_
 refine gE (an @CU @ai) ?_
 refine AP.loop rfl (α:=Nat) (fun j=>[(0,.ob 0 0),(2,Iv k),(25,.im (.sl 3 (aw t.xs))),(26,Iv t.xs.length),(27,Iv j)]) (fun j=>oU (dA (t.xs.take j) (k+1) (n+1,max d k))) (fun j=>j<=t.xs.length) (fun j=>t.xs.length-j) 0 (by omega) (sU) (by rw[List.take_zero,dA,show max d k=if d<k then k else d from by split<;>omega];rfl) fun j hj=>?_
 have hb:=Eg (t.xs.take j) (k+1) (n+1) (max d k)
 rcases Nat.eq_or_lt_of_le hj with cY|ah
 ·subst cY
  rw[List.take_length]
  refine gO ?_
  refine cF ?_
  refine gO ?_
  exact AE.fv rfl trivial ⟨rfl,by rw[K2]⟩
 ·obtain⟨u,hu,aj⟩:=cm t.xs j ah
  have hw:=wr (x:=(j:Int)+1) (by omega)
  have aS:=TT hu (k+1) (n+1,max d k)
  have oz:=fun h=>TS (l:=t.xs) j (k+1) (n+1,max d k) h
  obtain⟨n1,d1,he⟩:∃n1 d1,dA (t.xs.take j) (k+1) (n+1,max d k)=(n1,d1):=⟨_,_,rfl⟩
  rw[he]at hb aS oz⊢
  simp only at hb aS oz
  simp only[go_sem,Nat.reduceAdd,Nat.reduceLeDiff,Nat.reduceSub,Int.reduceToNat,reduceCtorEq,oU]
  refine gO ?_
  refine cT ?_
  refine gE @aj ?_
  refine⟨by rw[ai];omega,?_⟩
  refine gO ?_
  refine AP.cond rfl rfl (fun h1=>?_) (fun h1=>?_)
  ·have h1:4000<n1:=by simpa using h1
   refine gO ?_
   refine AE.ew [1] rfl ?_
   refine sI ?_
   exact AE.ret rfl ⟨⟩ ⟨rfl,by rw[K2,oz h1]⟩
  ·have h1:¬4000<n1:=by simpa using h1
   rw[if_neg h1]at aS
   refine gE @gz ?_
   refine AQ.bN [(0,0)] (by kernel_rfl) rfl rfl rfl rfl rfl rfl (by exact⟨rfl,trivial⟩) rfl (KV u (k+1) n1 d1 (cN cq.2.2 hu) (by omega) (by omega)) ?_
   rintro r H' ⟨rfl,rfl⟩
   refine⟨rfl,?_⟩
   simp only[go_sem,Nat.reduceAdd,Nat.reduceLeDiff,Nat.reduceSub,Int.reduceToNat,reduceCtorEq,oU,eh,ir,cP,jJ]
   refine gE @hw ?_
   refine AE.ew [1] rfl ?_
   refine sI ?_
   exact AE.round (j+1) (by omega) (by omega) (sU) (by rw[aS])
termination_by SizeOf.sizeOf t
decreasing_by exact gX hu
def eH:List Tm->Int×Int->Int×Int
 |[],s=>s
 |t::l,s=>eH l (jS t 1 s)
def fa:List Lt->Int×Int->Int×Int
 |[],s=>s
 |l::c,s=>fa c (eH l.xs (s.1+1,s.2))
theorem I5:∀(l m:List Tm) (s:Int×Int),eH (l++m) s=eH m (eH l s)
 |[],m,s=>rfl
 |t::l,m,s=>by rw[List.cons_append,eH,eH,I5 l m]
theorem IY:∀(c e:List Lt) (s:Int×Int),fa (c++e) s=fa e (fa c s)
 |[],e,s=>rfl
 |l::c,e,s=>by rw[List.cons_append,fa,fa,IY c e]
theorem I4:∀(l:List Tm) (n d:Int),0<=d->n+aH l<=4000->eH l (n,d)=(n+aH l,max d (fi l))
 |[],n,d,h,_=>by rw[eH,aH,fi,Prod.mk.injEq];omega
 |t::l,n,d,hd,h=>by
  rw[aH]at h
  rw[eH,wO t 1 n d (by omega),I4 l _ _ (by omega) (by omega),aH,fi,Prod.mk.injEq];omega
theorem zy:∀(l:List Tm) (n d:Int),n<=(eH l (n,d)).1/\(eH l (n,d)).1<=max n 4000+l.length/\(4000<n+aH l->4000<(eH l (n,d)).1)
 |[],n,d=>by rw[eH,aH];simp only[List.length_nil];omega
 |t::l,n,d=>by
  have h1:=KZ t 1 n d
  obtain⟨n1,d1,he⟩:∃n1 d1,jS t 1 (n,d)=(n1,d1):=⟨_,_,rfl⟩
  have h2:=zy l n1 d1
  have h3:n+wT t<=4000->n1=n+wT t:=fun hh=>by
   have:=wO t 1 n d hh
   rw[he,Prod.mk.injEq]at this;exact this.1
  rw[he]at h1
  simp only at h1
  rw[eH,he,aH,List.length_cons]
  by_cases hc:n+wT t<=4000
  ·have:=h3 hc;omega
  ·omega
theorem IX:∀(c:List Lt) (n d:Int),0<=d->n+b5 c<=4000->fa c (n,d)=(n+b5 c,max d (dC c))
 |[],n,d,h,_=>by rw[fa,dC,Prod.mk.injEq];simp only[b5,List.map_nil,List.sum_nil];omega
 |l::c,n,d,hd,h=>by
  rw[jd]at h
  rw[fa]
  simp only
  rw[I4 l.xs (n+1) d hd (by omega),IX c _ _ (by omega) (by omega),jd,dC,Prod.mk.injEq];omega
theorem I2:∀(l:List Tm) (n d:Int),n+aH l<=4000->(eH l (n,d)).1=n+aH l
 |[],n,d,_=>by rw[eH,aH];simp
 |t::l,n,d,h=>by
  rw[aH]at h
  rw[eH,wO t 1 n d (by omega),I2 l _ _ (by omega),aH];omega
theorem Du:∀(c:List Lt) (n d:Int),n<=(fa c (n,d)).1/\(4000<n+b5 c->4000<(fa c (n,d)).1)
 |[],n,d=>by rw[fa];simp only[b5,List.map_nil,List.sum_nil];omega
 |l::c,n,d=>by
  have h1:=zy l.xs (n+1) d
  have h3:=I2 l.xs (n+1) d
  obtain⟨n1,d1,he⟩:∃n1 d1,eH l.xs (n+1,d)=(n1,d1):=⟨_,_,rfl⟩
  have h2:=Du c n1 d1
  rw[he]at h1 h3
  simp only at h1 h3
  rw[fa]
  simp only
  rw[he,jd]
  by_cases hc:n+1+aH l.xs<=4000
  ·have:=h3 hc;omega
  ·omega
theorem IZ:∀(c:List Lt) (n d:Int),(∀l∈c,l.xs.length<=1000000000)->(fa c (n,d)).1<=max n 4000+c.length*1000000001
 |[],n,d,_=>by rw[fa];simp only[List.length_nil];omega
 |l::c,n,d,h=>by
  have h1:=zy l.xs (n+1) d
  obtain⟨n1,d1,he⟩:∃n1 d1,eH l.xs (n+1,d)=(n1,d1):=⟨_,_,rfl⟩
  have h2:=IZ c n1 d1 fun m hm=>h m (by simp[hm])
  have h3:=h l (by simp)
  rw[he]at h1
  simp only at h1
  rw[fa]
  simp only
  rw[he,List.length_cons]
  omega
def mD (c:List Lt):Int:=if 40<c.length then 4 else if 4000<b5 c then 4 else if 100<dC c then 9 else 0
theorem Ry (c:List Lt) (h:¬40<c.length):mD c=if 4000<(fa c (0,0)).1 then 4 else if 100<(fa c (0,0)).2 then 9 else 0:=by
 rw[mD,if_neg h]
 by_cases hc:4000<b5 c
 ·rw[if_pos hc,if_pos ((Du c 0 0).2 (by omega))]
 ·have:=IX c 0 0 (by omega) (by omega)
  rw[if_neg hc,this]
  simp only
  by_cases hd:100<dC c
  ·rw[if_pos hd,if_neg (show¬(4000:Int)<0+(b5 c:Int) by omega),if_pos (show(100:Int)<max 0 (dC c:Int) by omega)]
  ·rw[if_neg hd,if_neg (show¬(4000:Int)<0+(b5 c:Int) by omega),if_neg (show¬(100:Int)<max 0 (dC c:Int) by omega)]
theorem RG {l:List Tm} {k:Nat} {u:Tm} (h:l[k]?=some u) (s:Int×Int):eH (l.take (k+1)) s=jS u 1 (eH (l.take k) s):=by
 rw[cK h,I5];rfl
theorem RF {c:List Lt} {k:Nat} {u:Lt} (h:c[k]?=some u) (s:Int×Int):fa (c.take (k+1)) s=eH u.xs ((fa (c.take k) s).1+1,(fa (c.take k) s).2):=by
 rw[cK h,IY];rfl
theorem RB (c:List Lt) (hs:cG c):aI Tryz.prog 71 [aJ c] (Iv (mD c)):=by
 refine ak.walk [0,2,3,5,7,10,13,14,15,16,27,28,29,30,42,47] [5,7,12] Tryz.func71 rfl Tryz.ntmps71 (by kernel_rfl) (by rfl) rfl fun W own I0 ax lay=>?_
 refine gE @ae ?_
 refine AP.cond rfl rfl (fun h=>?_) (fun h=>?_)
 ·have h:40<c.length:=by simp at h;omega
  refine gO ?_
  exact AE.ay rfl ⟨rfl,trivial⟩ rfl ⟨rfl,by rw[mD,if_pos h];rfl⟩
 have h:¬40<c.length:=by simp at h;omega
 have eA:=Ry c h
 refine gE @ae ?_
 refine AP.loop rfl (α:=Nat) (fun k=>[(3,.ob 0 0),(13,aJ c),(14,Iv c.length),(15,Iv k)]) (fun k=>oU (fa (c.take k) (0,0))) (fun k=>k<=c.length) (fun k=>c.length-k) 0 (by omega) (sU) (by rw[List.take_zero,fa];rfl) fun k hk=>?_
 rcases Nat.eq_or_lt_of_le hk with aG|ah
 ·subst aG
  rw[List.take_length]
  refine gO ?_
  refine cF ?_
  obtain⟨n1,d1,he⟩:∃n1 d1,fa c (0,0)=(n1,d1):=⟨_,_,rfl⟩
  rw[he]at eA⊢
  simp only at eA
  simp only[go_sem,Nat.reduceAdd,Nat.reduceLeDiff,Nat.reduceSub,Int.reduceToNat,reduceCtorEq,oU]
  refine gO ?_
  refine AP.cond rfl rfl (fun h1=>?_) (fun h1=>?_)
  ·rw[if_pos (by simpa using h1)]at eA
   refine gO ?_
   exact AE.aV [0] rfl ⟨rfl,trivial⟩ rfl ⟨rfl,by rw[eA];rfl⟩
  ·rw[if_neg (by simpa using h1)]at eA
   refine gO ?_
   refine AP.cond rfl rfl (fun h2=>?_) (fun h2=>?_)
   ·rw[if_pos (by simpa using h2)]at eA
    refine gO ?_
    exact AE.aV [0] rfl ⟨rfl,trivial⟩ rfl ⟨rfl,by rw[eA];rfl⟩
   ·rw[if_neg (by simpa using h2)]at eA
    refine gO ?_
    exact AE.aV [0] rfl ⟨rfl,trivial⟩ rfl ⟨rfl,by rw[eA];rfl⟩
 ·obtain⟨u,hu,aj⟩:=dI c k ah
  have hw:=wr (x:=(k:Int)+1) (by omega)
  have bM:=jt hs hu
  have lI:=bM.2.1
  have fN:=(Du (c.take k) 0 0).1
  have HY:=IZ (c.take k) 0 0 fun l hl=>(hs.2 l (List.mem_of_mem_take hl)).2.1
  have oA:(c.take k).length<=40:=by rw[List.length_take];omega
  have aS:=RF hu (0,0)
  obtain⟨n1,d1,he⟩:∃n1 d1,fa (c.take k) (0,0)=(n1,d1):=⟨_,_,rfl⟩
  rw[he]at fN HY aS⊢
  simp only at fN HY aS
  have a8:=wr (x:=n1+1) (by omega)
  simp only[go_sem,Nat.reduceAdd,Nat.reduceLeDiff,Nat.reduceSub,Int.reduceToNat,reduceCtorEq,oU]
  refine gO ?_
  refine cT ?_
  refine gE @aj ?_
  refine⟨by rw[ae];omega,?_⟩
  refine gE (an @a8 @ai) ?_
  refine AP.loop rfl (α:=Nat) (fun j=>[(3,.ob 0 0),(13,aJ c),(14,Iv c.length),(15,Iv k),(27,.im (.sl 3 (aw u.xs))),(28,Iv u.xs.length),(29,Iv j)]) (fun j=>[(1,.var 119 [Bv u.ng,Sv u.pd,.im (.sl 3 (aw u.xs))]),(0,.var 164 [Iv (eH (u.xs.take j) (n1+1,d1)).1,Iv (eH (u.xs.take j) (n1+1,d1)).2])]) (fun j=>j<=u.xs.length) (fun j=>u.xs.length-j) 0 (by omega) (sU) (by rw[List.take_zero,eH];rfl) fun j hj=>?_
  rcases Nat.eq_or_lt_of_le hj with cY|fZ
  ·subst cY
   rw[List.take_length]
   refine gO ?_
   refine cF ?_
   refine gE @hw ?_
   refine AE.ew [1] rfl ?_
   refine sI ?_
   exact AE.round (k+1) (by omega) (by omega) (sU) (by rw[aS])
  ·obtain⟨v,hv,cg⟩:=cm u.xs j fZ
   have cJ:=wr (x:=(j:Int)+1) (by omega)
   have lG:=RG hv (n1+1,d1)
   have eW:=zy (u.xs.take j) (n1+1) d1
   have WJ:(u.xs.take j).length<=1000000000:=by rw[List.length_take];omega
   obtain⟨n2,d2,yJ⟩:∃n2 d2,eH (u.xs.take j) (n1+1,d1)=(n2,d2):=⟨_,_,rfl⟩
   rw[yJ]at eW lG⊢
   simp only at eW
   refine sI ?_
   refine gO ?_
   refine cT ?_
   refine gE @cg ?_
   refine⟨by rw[ai];omega,?_⟩
   refine gO ?_
   refine AQ.bN [(0,0)] (by kernel_rfl) rfl rfl rfl rfl rfl rfl (by exact⟨rfl,trivial⟩) rfl (KV v 1 n2 d2 (cN bM.2.2 hv) (by omega) (by omega)) ?_
   rintro r H' ⟨rfl,rfl⟩
   refine⟨rfl,?_⟩
   simp only[go_sem,Nat.reduceAdd,Nat.reduceLeDiff,Nat.reduceSub,Int.reduceToNat,reduceCtorEq,oU,eh,ir,cP,jJ]
   refine gE @cJ ?_
   refine AE.ew [2] rfl ?_
   refine sI ?_
   exact AE.round (j+1) (by omega) (by omega) (sU) (by rw[lG])
theorem wo (t:Tm) (m:Int) (hs:bz t) (hm:0<=m/\m<=1000000000):aI Tryz.prog 75 [bq t,Iv m] (Iv (fC t m)):=by
 have cq:=eT.1 hs
 refine ak.walk [0,1,2,4,5,6,16] [] Tryz.func75 rfl Tryz.ntmps75 (by kernel_rfl) (by rfl) rfl fun W own I0 ax lay=>?_
 refine gE @ai ?_
 refine AP.loop rfl (α:=Nat) (fun k=>[(1,Iv m),(2,.im (gW t)),(5,Iv (bm (t.xs.take k) m 1)),(6,Iv k)]) (fun _=>[]) (fun k=>k<=t.xs.length) (fun k=>t.xs.length-k) 0 (by omega) (by rw[List.take_zero,bm];exact(sU)) rfl fun k hk=>?_
 have hx:=cq.2.1
 have hb:=wV (t.xs.take k) m 1 hm.1 (by omega) (by omega)
 have oz:=Em (l:=t.xs) k m 1
 refine gE @ai ?_
 refine AP.cond rfl rfl (fun h1=>?_) (fun h1=>?_)
 ·have ah:k<t.xs.length:=by simp at h1;omega
  have h2:¬m<bm (t.xs.take k) m 1:=by simp at h1;omega
  obtain⟨u,hu,aj⟩:=cm t.xs k ah
  have hw:=wr (x:=(k:Int)+1) (by omega)
  have aS:=Af hu m 1
  rw[if_neg h2]at aS
  clear oz
  generalize hn:bm (t.xs.take k) m 1=n at*
  have ha:=mL u (m-n) (by omega)
  have a8:=wr (x:=m-n) (by omega)
  have cJ:=wr (x:=n+fC u (m-n)) (by omega)
  refine gE (an @aj (an @a8 @ai)) ?_
  refine AQ.fn (by kernel_rfl) rfl rfl rfl (wo u (m-n) (cN cq.2.2 hu) (by omega)) rfl ?_
  refine sI ?_
  refine gE (an @hw @cJ) ?_
  exact AE.round (k+1) (by omega) (by omega) (by rw[aS];exact(sU)) rfl
 ·have j7:fC t m=bm (t.xs.take k) m 1:=by
   rw[El]
   by_cases h2:m<bm (t.xs.take k) m 1
   ·exact oz h2
   ·have:k=t.xs.length:=by simp at h1;omega
    rw[this,List.take_length]
  refine gO ?_
  exact AE.ay rfl ⟨rfl,trivial⟩ rfl ⟨rfl,by rw[j7];rfl⟩
termination_by SizeOf.sizeOf t
decreasing_by exact gX hu
theorem Gi:∀(l:List Tm) (m:Int),0<=m->decide (m<(fi l:Int))=l.any fun a=>decide (m<(fG a:Int))
 |[],m,h=>by rw[fi];exact decide_eq_false (by omega)
 |t::l,m,h=>by
  rw[List.any_cons,<-Gi l m h,fi,Bool.eq_iff_iff,Bool.or_eq_true,decide_eq_true_iff,decide_eq_true_iff,decide_eq_true_iff];omega
theorem MK {α:Type} (p:α->Bool) {l:List α} {k:Nat} {u:α} (h:l[k]?=some u):(l.drop k).any p=(p u||(l.drop (k+1)).any p):=by
 obtain⟨h1,h2⟩:=List.getElem?_eq_some_iff.1 h
 rw[List.drop_eq_getElem_cons h1,h2,List.any_cons]
theorem FY (t:Tm) (m:Int) (hs:bz t) (hm:0<=m/\m<=1000000000):aI Tryz.prog 76 [bq t,Iv m] (Bv (decide (m<(fG t:Int)))):=by
 have cq:=eT.1 hs
 have hx:=cq.2.1
 have hd:=NW t
 refine ak.walk [0,1,2,4,5,7,12,22] [] Tryz.func76 rfl Tryz.ntmps76 (by kernel_rfl) (by rfl) rfl fun W own I0 ax lay=>?_
 refine gO ?_
 refine AP.cond rfl rfl (fun h=>?_) (fun h=>?_)
 ·have h:m<1:=by simpa using h
  refine gO ?_
  exact AE.ay rfl ⟨rfl,trivial⟩ rfl ⟨rfl,by rw[decide_eq_true (by omega)];rfl⟩
 have h:¬m<1:=by simpa using h
 have j7:decide (m<(fG t:Int))=t.xs.any fun a=>decide (m-1<(fG a:Int)):=by
  rw[<-Gi t.xs (m-1) (by omega),decide_eq_decide];omega
 have a8:=wr (x:=m-1) (by omega)
 refine gO ?_
 refine AP.loop rfl (α:=Nat) (fun k=>[(1,Iv m),(2,.im (gW t)),(5,Iv k)]) (fun _=>[]) (fun k=>k<=t.xs.length/\decide (m<(fG t:Int))=(t.xs.drop k).any fun a=>decide (m-1<(fG a:Int))) (fun k=>t.xs.length-k) 0 ⟨by omega,j7⟩ (sU) rfl fun k ⟨hk,fO⟩=>?_
 rcases Nat.eq_or_lt_of_le hk with aG|ah
 ·refine gE @ai ?_
  refine cF ?_
  refine gO ?_
  exact AE.ay rfl ⟨rfl,trivial⟩ rfl ⟨rfl,by rw[fO,aG,List.drop_length];rfl⟩
 ·obtain⟨u,hu,aj⟩:=cm t.xs k ah
  have hw:=wr (x:=(k:Int)+1) (by omega)
  have cV:=MK (fun a=>decide (m-1<(fG a:Int))) hu
  refine gE @ai ?_
  refine cT ?_
  refine gE (an @aj (an @a8 @ai)) ?_
  refine AQ.fn (by kernel_rfl) rfl rfl rfl (FY u (m-1) (cN cq.2.2 hu) (by omega)) rfl ?_
  refine sI ?_
  refine gO ?_
  refine AP.cond rfl rfl (fun h5=>?_) (fun h5=>?_)
  ·refine gO ?_
   exact AE.ay rfl ⟨rfl,trivial⟩ rfl ⟨rfl,by rw[fO,cV,show decide (m-1<(fG u:Int))=true by simpa using h5];rfl⟩
  ·refine gE @hw ?_
   exact AE.round (k+1) ⟨by omega,by rw[fO,cV,show decide (m-1<(fG u:Int))=false by simpa using h5];rfl⟩ (by omega) (sU) rfl
termination_by SizeOf.sizeOf t
decreasing_by exact gX hu
theorem BC {l:List Tm} {k:Nat} {u:Tm} (h:l[k]?=some u):dr 2 3 (l.drop k)=if jw 2 3 u≠0 then jw 2 3 u else dr 2 3 (l.drop (k+1)):=by
 obtain⟨h1,h2⟩:=List.getElem?_eq_some_iff.1 h
 rw[List.drop_eq_getElem_cons h1,h2,dr]
theorem GI (t:Tm) (hs:bz t):aI Tryz.prog 78 [bq t] (Iv (jw 2 3 t)):=by
 have cq:=eT.1 hs
 have hx:=cq.2.1
 have hf:=Oa 2 3 t
 have kE:dR 2 3 t=_:=dR.eq_def 2 3 t
 refine ak.walk [0,1,2,3,4,7,11,19,28,33,43] [] Tryz.func78 rfl Tryz.ntmps78 (by kernel_rfl) (by rfl) rfl fun W own I0 ax lay=>?_
 refine gO ?_
 refine AP.cond rfl rfl (fun h=>?_) (fun h=>?_)
 ·have hn:t.nm=[]:=by simpa using h
  rw[if_pos hn]at kE
  refine gE @ai ?_
  refine AP.cond rfl rfl (fun h1=>?_) (fun h1=>?_)
  ·rw[if_pos (show t.xs≠[] by intro e;rw[e]at h1;simp at h1)]at kE
   rw[kE]at hf
   refine gO ?_
   exact AE.ay rfl ⟨rfl,trivial⟩ rfl ⟨rfl,by rw[hf];rfl⟩
  ·have nj:t.xs=[]:=by simpa using h1
   rw[if_neg (by simpa using nj)]at kE
   refine gO ?_
   refine AP.cond rfl rfl (fun h2=>?_) (fun h2=>?_)
   ·rw[if_pos (by simp at h2;omega)]at kE
    rw[kE]at hf
    refine gO ?_
    exact AE.ay rfl ⟨rfl,trivial⟩ rfl ⟨rfl,by rw[hf];rfl⟩
   ·rw[if_neg (by simp at h2;omega)]at kE
    rw[kE,nj,dr]at hf
    refine gO ?_
    exact AE.ay rfl ⟨rfl,trivial⟩ rfl ⟨rfl,by rw[hf];rfl⟩
 ·have hn:¬t.nm=[]:=by simpa using h
  rw[if_neg hn]at kE
  refine gO ?_
  refine AQ.fn (by kernel_rfl) rfl rfl rfl (Ix t.nm (by omega)) rfl ?_
  refine sI ?_
  refine gO ?_
  refine AP.cond rfl rfl (fun h1=>?_) (fun h1=>?_)
  ·rw[if_pos (by simpa using h1)]at kE
   rw[kE]at hf
   refine gO ?_
   exact AE.ay rfl ⟨rfl,trivial⟩ rfl ⟨rfl,by rw[hf];rfl⟩
  ·rw[if_neg (by simpa using h1)]at kE
   rw[kE,if_neg (by decide)]at hf
   refine gO ?_
   refine AP.loop rfl (α:=Nat) (fun k=>[(1,.im (gW t)),(3,Iv k)]) (fun _=>[]) (fun k=>k<=t.xs.length/\jw 2 3 t=dr 2 3 (t.xs.drop k)) (fun k=>t.xs.length-k) 0 ⟨by omega,hf⟩ (sU) rfl fun k ⟨hk,hm⟩=>?_
   rcases Nat.eq_or_lt_of_le hk with aG|ah
   ·refine gE @ai ?_
    refine cF ?_
    refine gO ?_
    exact AE.ay rfl ⟨rfl,trivial⟩ rfl ⟨rfl,by rw[hm,aG,List.drop_length,dr];rfl⟩
   ·obtain⟨u,hu,aj⟩:=cm t.xs k ah
    have hw:=wr (x:=(k:Int)+1) (by omega)
    have cV:=BC hu
    refine gE @ai ?_
    refine cT ?_
    refine gE (an @aj @ai) ?_
    refine AQ.fn (by kernel_rfl) rfl rfl rfl (GI u (cN cq.2.2 hu)) rfl ?_
    refine sI ?_
    refine gO ?_
    refine AP.cond rfl rfl (fun h5=>?_) (fun h5=>?_)
    ·refine gO ?_
     exact AE.ay rfl ⟨rfl,trivial⟩ rfl ⟨rfl,by rw[hm,cV,if_pos (by simpa using h5)];rfl⟩
    ·refine gE @hw ?_
     exact AE.round (k+1) ⟨by omega,by rw[hm,cV,if_neg (by simpa using h5)]⟩ (by omega) (sU) rfl
termination_by SizeOf.sizeOf t
decreasing_by exact gX hu
theorem drop_cons {α:Type} {l:List α} {k:Nat} {u:α} (h:l[k]?=some u):l.drop k=u::l.drop (k+1):=by
 obtain⟨h1,h2⟩:=List.getElem?_eq_some_iff.1 h
 rw[List.drop_eq_getElem_cons h1,h2]
theorem GA (l:Lt) (c:List Lt):j2 2 3 (l::c)=if(l.pd≠[61]/\dV l.pd=false)\/(l.pd=[61]/\l.xs.length≠2)then 2 else if dr 2 3 l.xs≠0 then dr 2 3 l.xs else j2 2 3 c:=by
 rw[j2,r7]
 by_cases h:(l.pd≠[61]/\dV l.pd=false)\/(l.pd=[61]/\l.xs.length≠2)
 ·rw[if_pos h,if_pos h,if_pos (by decide)]
 ·rw[if_neg h,if_neg h]
theorem GJ (pd:List UInt8) (n:Nat) (b:Bool):(pd==[61]&&(n:Int)!=2||!(pd==[61])&&!b)=true↔(pd≠[61]/\b=false)\/(pd=[61]/\n≠2):=by
 have aE:((n:Int)=2)↔n=2:=by omega
 by_cases hp:pd=[61]<;>cases b<;>by_cases hl:n=2<;>simp[hp,hl,aE]
theorem pb (c:List Lt) (hs:cG c):aI Tryz.prog 16 [aJ c] (Iv (bl 4 9 2 3 c)):=by
 have cB:=hs.1
 have bD:bl 4 9 2 3 c=_:=bl.eq_def 4 9 2 3 c
 have eg:=Se c 4000 (by omega)
 rw[tl]at eg
 refine ak.walk [0,2,3,4,5,6,7,8,9,10,14,18,32,49,53,63,74,78,112,120,133] [] Tryz.func16 rfl Tryz.ntmps16 (by kernel_rfl) (by rfl) rfl fun W own I0 ax lay=>?_
 refine gE @ae ?_
 refine AP.cond rfl rfl (fun h=>?_) (fun h=>?_)
 ·rw[if_pos (by simp at h;omega)]at bD
  refine gO ?_
  exact AE.ay rfl ⟨rfl,trivial⟩ rfl ⟨rfl,by rw[bD];rfl⟩
 rw[if_neg (by simp at h;omega)]at bD
 have uN:c.length<=40:=by simp at h;omega
 refine gO ?_
 refine AP.loop rfl (α:=Nat) (fun k=>[(0,aJ c),(3,Iv (bm ((c.take k).flatMap (·.xs)) 4000 c.length)),(4,Iv k)]) (fun _=>[]) (fun k=>k<=c.length) (fun k=>c.length-k) 0 (by omega) (by rw[List.take_zero,List.flatMap_nil,bm];exact(sU)) rfl fun k hk=>?_
 rcases Nat.eq_or_lt_of_le hk with aG|ah
 ·subst aG
  rw[List.take_length]
  refine gE @ae ?_
  refine cF ?_
  refine sI ?_
  refine gO ?_
  refine AP.cond rfl rfl (fun h1=>?_) (fun h1=>?_)
  ·have h1:4000<bm (c.flatMap (·.xs)) 4000 c.length:=by simpa using h1
   rw[if_pos (Classical.byContradiction fun hc=>by have:=eg.1 (by omega);omega)]at bD
   refine gO ?_
   exact AE.ay rfl ⟨rfl,trivial⟩ rfl ⟨rfl,by rw[bD];rfl⟩
  have h1:¬4000<bm (c.flatMap (·.xs)) 4000 c.length:=by simpa using h1
  rw[if_neg (fun hc=>h1 (eg.2 (by omega)))]at bD
  refine gO ?_
  refine AP.loop rfl (α:=Nat) (fun k=>[(0,aJ c),(6,Iv k)]) (fun _=>[]) (fun k=>k<=c.length/\(100<dC c↔100<dC (c.drop k))) (fun k=>c.length-k) 0 ⟨by omega,Iff.rfl⟩ (sU) rfl fun k ⟨hk,hm⟩=>?_
  rcases Nat.eq_or_lt_of_le hk with aG|ah
  ·rw[aG,List.drop_length,dC]at hm
   rw[if_neg (fun hc=>by have:=hm.1 hc;omega)]at bD
   subst aG
   refine gE @ae ?_
   refine cF ?_
   refine sI ?_
   refine gO ?_
   refine AP.loop rfl (α:=Nat) (fun k=>[(0,aJ c),(8,Iv k)]) (fun _=>[]) (fun k=>k<=c.length/\bl 4 9 2 3 c=j2 2 3 (c.drop k)) (fun k=>c.length-k) 0 ⟨by omega,bD⟩ (sU) rfl fun k ⟨hk,fO⟩=>?_
   rcases Nat.eq_or_lt_of_le hk with aG|ah
   ·rw[aG,List.drop_length,j2]at fO
    refine gE @ae ?_
    refine cF ?_
    refine gO ?_
    exact AE.ay rfl ⟨rfl,trivial⟩ rfl ⟨rfl,by rw[fO];rfl⟩
   ·obtain⟨u,hu,aj⟩:=dI c k ah
    have hw:=wr (x:=(k:Int)+1) (by omega)
    have bM:=jt hs hu
    have lI:=bM.2.1
    rw[drop_cons hu,GA]at fO
    refine gE @ae ?_
    refine cT ?_
    refine gE (an @aj (an @ae @ai)) ?_
    refine AQ.lu (by kernel_rfl) rfl rfl (fun h=>by first|(simp[gs,AV.g];done)|(simp[gs,AV.g,bH];done)|(simp[gs,AV.g,bH,bw]at h⊢;done)|(simp[gs,AV.g,bH,bw]at h⊢;exact h)|(simp[gs,AV.g,bH,bw]at h⊢;simp[h];done)|(simp[bw]at h;done)|(simp[gs,AV.g,bw]at h⊢;simp[h];done)|(simp[gs,AV.g,bw]at h⊢;exact h.1)|(simp[gs,AV.g];rfl)|(simp[gs,AV.g,bw]at h⊢;rfl)|(simp[gs,AV.g,bw]at h⊢;simp[h];rfl)|(simp[gs,AV.g,bw]at h⊢;simp_all)) rfl (fun _=>Ix u.pd (by have:=bM.1;omega)) rfl ?_
    refine sI ?_
    refine gE (an @aj (an @ae @ai)) ?_
    refine AP.cond rfl rfl (fun h5=>?_) (fun h5=>?_)
    ·have h5:=(GJ u.pd u.xs.length (dV u.pd)).1 h5
     rw[if_pos h5]at fO
     refine gO ?_
     exact AE.ay rfl ⟨rfl,trivial⟩ rfl ⟨rfl,by rw[fO];rfl⟩
    ·have h5:¬((u.pd≠[61]/\dV u.pd=false)\/(u.pd=[61]/\u.xs.length≠2)):=fun hh=>by
      have h6:=(GJ u.pd u.xs.length (dV u.pd)).2 hh
      exact absurd (h6.symm.trans h5) (by decide)
     rw[if_neg h5]at fO
     refine gO ?_
     refine AP.loop rfl (α:=Nat) (fun j=>[(0,aJ c),(8,Iv k),(9,Iv j)]) (fun _=>[]) (fun j=>j<=u.xs.length/\bl 4 9 2 3 c=if dr 2 3 (u.xs.drop j)≠0 then dr 2 3 (u.xs.drop j)else j2 2 3 (c.drop (k+1))) (fun j=>u.xs.length-j) 0 ⟨by omega,fO⟩ (sU) rfl fun j ⟨hj,ja⟩=>?_
     rcases Nat.eq_or_lt_of_le hj with cY|fZ
     ·rw[cY,List.drop_length,dr,if_neg (by decide)]at ja
      refine gE (an @aj (an @ae @ai)) ?_
      refine cF ?_
      refine gE @hw ?_
      exact AE.round (k+1) ⟨by omega,ja⟩ (by omega) (sU) rfl
     ·obtain⟨v,hv,cg⟩:=cm u.xs j fZ
      have cJ:=wr (x:=(j:Int)+1) (by omega)
      rw[BC hv]at ja
      refine gE (an @aj (an @ae @ai)) ?_
      refine cT ?_
      refine gE (an @aj (an @cg (an @ae @ai))) ?_
      refine AQ.fn (by kernel_rfl) rfl rfl rfl (GI v (cN bM.2.2 hv)) rfl ?_
      refine sI ?_
      refine gO ?_
      refine AP.cond rfl rfl (fun h6=>?_) (fun h6=>?_)
      ·have h6:jw 2 3 v≠0:=by simpa using h6
       rw[if_pos h6,if_pos h6]at ja
       refine gO ?_
       exact AE.ay rfl ⟨rfl,trivial⟩ rfl ⟨rfl,by rw[ja];rfl⟩
      ·have h6:¬jw 2 3 v≠0:=by simpa using h6
       rw[if_neg h6]at ja
       refine gE @cJ ?_
       exact AE.round (j+1) ⟨by omega,ja⟩ (by omega) (sU) rfl
  ·obtain⟨u,hu,aj⟩:=dI c k ah
   have hw:=wr (x:=(k:Int)+1) (by omega)
   have bM:=jt hs hu
   have lI:=bM.2.1
   have mY:100<dC c↔100<fi u.xs\/100<dC (c.drop (k+1)):=by rw[hm,drop_cons hu,dC];omega
   refine gE @ae ?_
   refine cT ?_
   refine gO ?_
   refine AP.loop rfl (α:=Nat) (fun j=>[(0,aJ c),(6,Iv k),(7,Iv j)]) (fun _=>[]) (fun j=>j<=u.xs.length/\(100<dC c↔100<fi (u.xs.drop j)\/100<dC (c.drop (k+1)))) (fun j=>u.xs.length-j) 0 ⟨by omega,mY⟩ (sU) rfl fun j ⟨hj,ja⟩=>?_
   rcases Nat.eq_or_lt_of_le hj with cY|fZ
   ·rw[cY,List.drop_length,fi]at ja
    refine gE (an @aj (an @ae @ai)) ?_
    refine cF ?_
    refine gE @hw ?_
    exact AE.round (k+1) ⟨by omega,by omega⟩ (by omega) (sU) rfl
   ·obtain⟨v,hv,cg⟩:=cm u.xs j fZ
    have cJ:=wr (x:=(j:Int)+1) (by omega)
    rw[drop_cons hv,fi]at ja
    refine gE (an @aj (an @ae @ai)) ?_
    refine cT ?_
    refine gE (an @aj (an @cg (an @ae @ai))) ?_
    refine AQ.fn (by kernel_rfl) rfl rfl rfl (FY v 100 (cN bM.2.2 hv) (by omega)) rfl ?_
    refine sI ?_
    refine gO ?_
    refine AP.cond rfl rfl (fun h5=>?_) (fun h5=>?_)
    ·have h5:(100:Int)<fG v:=by simpa using h5
     rw[if_pos (ja.2 (by omega))]at bD
     refine gO ?_
     exact AE.ay rfl ⟨rfl,trivial⟩ rfl ⟨rfl,by rw[bD];rfl⟩
    ·have h5:¬(100:Int)<fG v:=by simpa using h5
     refine gE @cJ ?_
     exact AE.round (j+1) ⟨by omega,by rw[ja];omega⟩ (by omega) (sU) rfl
 ·obtain⟨u,hu,aj⟩:=dI c k ah
  have hw:=wr (x:=(k:Int)+1) (by omega)
  have bM:=jt hs hu
  have lI:=bM.2.1
  have eL:=wU ((c.take k).flatMap (·.xs)) 4000 c.length (by omega) (by omega)
  have lB:=BB hu
  obtain⟨n0,jC⟩:∃n0,bm ((c.take k).flatMap (·.xs)) 4000 c.length=n0:=⟨_,rfl⟩
  rw[jC]at eL⊢
  refine gE @ae ?_
  refine cT ?_
  refine gO ?_
  refine AP.loop rfl (α:=Nat) (fun j=>[(0,aJ c),(3,Iv (bm (u.xs.take j) 4000 n0)),(4,Iv k),(5,Iv j)]) (fun _=>[]) (fun j=>j<=u.xs.length) (fun j=>u.xs.length-j) 0 (by omega) (by rw[List.take_zero,bm];exact(sU)) rfl fun j hj=>?_
  have hb:=wU (u.xs.take j) 4000 n0 (by omega) (by omega)
  have oz:=Em (l:=u.xs) j 4000 n0
  refine gE (an @aj (an @ae @ai)) ?_
  refine AP.cond rfl rfl (fun h1=>?_) (fun h1=>?_)
  ·have fZ:j<u.xs.length:=by simp at h1;omega
   have h2:¬4000<bm (u.xs.take j) 4000 n0:=by simp at h1;omega
   obtain⟨v,hv,cg⟩:=cm u.xs j fZ
   have cJ:=wr (x:=(j:Int)+1) (by omega)
   have aS:=Af hv 4000 n0
   rw[if_neg h2]at aS
   clear oz
   generalize hn:bm (u.xs.take j) 4000 n0=n at*
   have ha:=mL v (4000-n) (by omega)
   have lJ:=wr (x:=4000-n) (by omega)
   have q8:=wr (x:=n+fC v (4000-n)) (by omega)
   refine gE (an @aj (an @cg (an @lJ (an @ae @ai)))) ?_
   refine AQ.fn (by kernel_rfl) rfl rfl rfl (wo v (4000-n) (cN bM.2.2 hv) (by omega)) rfl ?_
   refine sI ?_
   refine gE (an @cJ @q8) ?_
   exact AE.round (j+1) (by omega) (by omega) (by rw[aS];exact(sU)) rfl
  ·have j7:bm ((c.take (k+1)).flatMap (·.xs)) 4000 c.length=bm (u.xs.take j) 4000 n0:=by
    rw[lB,rE,jC]
    by_cases h2:4000<bm (u.xs.take j) 4000 n0
    ·exact oz h2
    ·have:j=u.xs.length:=by simp at h1;omega
     rw[this,List.take_length]
   refine gE @hw ?_
   exact AE.round (k+1) (by omega) (by omega) (by rw[j7];exact(sU)) rfl
def kl (t:Tm):List Lt:=[⟨false,[80],[t]⟩]
theorem TF {t:Tm} (h:bz t):cG (kl t):=by
 refine⟨by simp[kl],fun l hl=>?_⟩
 rw[kl,List.mem_singleton]at hl
 subst hl
 exact⟨by simp,by simp,by rw[cf,cf];exact⟨h,trivial⟩⟩
abbrev M7 (b:Int×Tm):List IV:=[Ii b.1,Si b.2.nm,Ii b.2.ix,.sl 3 (aw b.2.xs)]
def jo (l:Bd):List (List IV):=l.map M7
abbrev l8 (l:Bd):AV:= .im (.sl 4 (jo l))
theorem jq (l:Bd):(jo l).length=l.length:=by rw[jo,List.length_map]
theorem AT (l:Bd) (k:Nat) (h:k<l.length):∃b,l[k]?=some b/\(jo l).getD k []=[Ii b.1,Si b.2.nm,Ii b.2.ix,.sl 3 (aw b.2.xs)]:=by
 refine⟨l[k],List.getElem?_eq_getElem h,?_⟩
 rw[List.getD_eq_getElem?_getD,jo,List.getElem?_map,List.getElem?_eq_getElem h];rfl
def uh (l:Bd):Prop:=l.length<=1000000000/\∀b∈l,bz b.2
theorem find_spec (l:Bd) (v:Int) (hs:uh l):aI Tryz.prog 170 [l8 l,Iv v] (Iv (dG (fun b:Int×Tm=>decide (b.1=v)) l 0)):=by
 have hl:=hs.1
 refine ak.walk [0,1,4,5,9,18] [] Tryz.func170 rfl Tryz.ntmps170 (by kernel_rfl) (by rfl) rfl fun W own I0 ax lay=>?_
 refine gO ?_
 refine AP.loop rfl (α:=Nat) (fun k=>[(0,l8 l),(1,Iv v),(5,Iv k)]) (fun _=>[]) (fun k=>k<=l.length/\dG (fun b:Int×Tm=>decide (b.1=v)) l 0=dG (fun b:Int×Tm=>decide (b.1=v)) (l.drop k) k) (fun k=>l.length-k) 0 ⟨by omega,rfl⟩ (sU) rfl fun k ⟨hk,hm⟩=>?_
 rcases Nat.eq_or_lt_of_le hk with aG|ah
 ·refine gE @jq ?_
  refine cF ?_
  refine gO ?_
  exact AE.ay rfl ⟨rfl,trivial⟩ rfl ⟨rfl,by rw[hm,aG,List.drop_length,dG];rfl⟩
 ·obtain⟨u,hu,aj⟩:=AT l k ah
  have hw:=wr (x:=(k:Int)+1) (by omega)
  have cV:=v_ (fun b:Int×Tm=>decide (b.1=v)) hu
  refine gE @jq ?_
  refine cT ?_
  refine gE (an @aj @jq) ?_
  refine AP.cond rfl rfl (fun h1=>?_) (fun h1=>?_)
  ·refine gO ?_
   exact AE.ay rfl ⟨rfl,trivial⟩ rfl ⟨rfl,by rw[hm,cV,if_pos (by simpa using h1)];rfl⟩
  ·refine gE @hw ?_
   exact AE.round (k+1) ⟨by omega,by rw[hm,cV,if_neg (by simpa using h1)]⟩ (by omega) (sU) rfl
theorem C_:∀(l:Bd) (v:Int) (i:Nat),(iQ l v=none->dG (fun b:Int×Tm=>decide (b.1=v)) l i=-1)/\(∀x,iQ l v=some x->∃k,dG (fun b:Int×Tm=>decide (b.1=v)) l i=((i+k:Nat):Int)/\l[k]?=some (v,x))
 |[],v,i=>⟨fun _=>by rw[dG],fun x h=>by cases h⟩
 |b::l,v,i=>by
  rw[iQ,dG]
  by_cases h:b.1=v
  ·rw[if_pos h,if_pos (decide_eq_true h)]
   refine⟨fun h'=>(by cases h'),fun x hx=>⟨0,rfl,?_⟩⟩
   simp only[Option.some.injEq]at hx
   rw[List.getElem?_cons_zero,<-h,<-hx]
  ·rw[if_neg h,if_neg (by simpa using h)]
   obtain⟨h1,h2⟩:=C_ l v (i+1)
   refine⟨h1,fun x hx=>?_⟩
   obtain⟨k,e1,e2⟩:=h2 x hx
   exact⟨k+1,by rw[e1];congr 1;omega,by rw[List.getElem?_cons_succ];exact e2⟩
mutual
def gY (l:Bd):Tm->Tm
 | .mk n i xs=>if n=[]then(iQ l i).getD (.mk n i xs)else .mk n 0 (nH l xs)
def nH (l:Bd):List Tm->List Tm
 |[]=>[]
 |t::k=>gY l t::nH l k
end
theorem Ur (l:Bd) (t:Tm):gY l t=if t.nm=[]then(iQ l t.ix).getD t else .mk t.nm 0 (nH l t.xs):=by cases t;rw[gY];rfl
theorem Ez (l:Bd):∀k,nH l k=k.map (gY l)
 |[]=>by rw[nH];rfl
 |t::k=>by rw[nH,Ez l k];rfl
theorem Ls (x:Tm) (l:Bd) (hs:bz x) (hl:uh l):aI Tryz.prog 172 [bq x,l8 l] (bq (gY l x)):=by
 have cq:=eT.1 hs
 have he:=Ur l x
 refine ak.walk [0,1,2,4,5,6,7,10,16,30] [4,6] Tryz.func172 rfl Tryz.ntmps172 (by kernel_rfl) (by rfl) rfl fun W own I0 ax lay=>?_
 refine gO ?_
 refine AP.cond rfl rfl (fun h=>?_) (fun h=>?_)
 ·have hn:x.nm=[]:=by simpa using h
  rw[if_pos hn]at he
  obtain⟨f1,f2⟩:=C_ l x.ix 0
  refine gO ?_
  refine AQ.fn (by kernel_rfl) rfl rfl rfl (find_spec l x.ix hl) rfl ?_
  refine sI ?_
  refine gO ?_
  refine AP.cond rfl rfl (fun h1=>?_) (fun h1=>?_)
  ·cases hk:iQ l x.ix with
   |none=>rw[f1 hk]at h1;simp at h1
   |some y=>
    obtain⟨k,e1,e2⟩:=f2 y hk
    rw[Nat.zero_add]at e1
    obtain⟨ah,_⟩:=List.getElem?_eq_some_iff.1 e2
    obtain⟨b,hb,aj⟩:=AT l k ah
    rw[e2]at hb
    simp only[Option.some.injEq]at hb
    subst hb
    rw[hk,Option.getD_some]at he
    have kK:=hl.1
    rw[e1]
    refine gE (an @aj @jq) ?_
    exact AE.aV [0] rfl ⟨⟨rfl,Nat.le_of_ble_eq_true (by kernel_rfl)⟩,trivial⟩ rfl ⟨rfl,by rw[he];rfl⟩
  ·cases hk:iQ l x.ix with
   |none=>
    rw[hk,Option.getD_none]at he
    refine gO ?_
    exact AE.aV [0] rfl ⟨⟨rfl,Nat.le_of_ble_eq_true (by kernel_rfl)⟩,trivial⟩ rfl ⟨rfl,by rw[he];rfl⟩
   |some y=>
    obtain⟨k,e1,e2⟩:=f2 y hk
    rw[e1]at h1;simp at h1
 ·have hn:¬x.nm=[]:=by simpa using h
  rw[if_neg hn,Ez]at he
  refine gO ?_
  refine AP.jN 1 2 57 3 rfl rfl ?_
  refine sI ?_
  refine AP.loop rfl (α:=Nat) (fun k=>[(1,l8 l),(2,.im (gW x)),(4,.ob 0 0),(6,.ob 1 0),(7,Iv k)]) (fun k=>[(2,.vec 57 3 (aw ((x.xs.take k).map (gY l)))),(1,.var 57 [Sv x.nm,Iv 0,.os 2 3 0 k]),(0,.var 57 [Sv [],Iv 0,dm])]) (fun k=>k<=x.xs.length) (fun k=>x.xs.length-k) 0 (by omega) (sU) rfl fun k hk=>?_
  have mB:=cq.2.1
  rcases Nat.eq_or_lt_of_le hk with aG|ah
  ·subst aG
   rw[List.take_length]
   refine gE @ai ?_
   refine cF ?_
   refine gO ?_
   refine AE.freeze 2 (el:=57) (es:=3) (rows:=aw (x.xs.map (gY l))) rfl (by simp only[go_sem,Nat.reduceAdd,Nat.reduceLeDiff,Nat.reduceSub,Int.reduceToNat,reduceCtorEq,ai,List.length_map];first|done|trivial|omega|(simp;done)|(simp;omega)) (by simp only[go_sem,Nat.reduceAdd,Nat.reduceLeDiff,Nat.reduceSub,Int.reduceToNat,reduceCtorEq,ai,List.length_map];first|done|trivial|omega|(simp;done)|(simp;omega)) ?_;simp only[go_sem,Nat.reduceAdd,Nat.reduceLeDiff,Nat.reduceSub,Int.reduceToNat,reduceCtorEq,ai,List.length_map]
   rw[List.take_of_length_le (by rw[ai,List.length_map];omega)]
   exact AE.aV [1,0] rfl ⟨⟨rfl,Nat.le_of_ble_eq_true (by kernel_rfl)⟩,trivial⟩ rfl ⟨rfl,by rw[he];rfl⟩
  ·obtain⟨u,hu,aj⟩:=cm x.xs k ah
   have hw:=wr (x:=(k:Int)+1) (by omega)
   have bF:=k7 (l:=x.xs) (k:=k) (by omega)
   have ih:=Ls u l (cN cq.2.2 hu) hl
   have aS:=te (gY l) hu
   obtain⟨w,oC⟩:∃w,gY l u=w:=⟨_,rfl⟩
   rw[oC]at ih aS
   refine gE @ai ?_
   refine cT ?_
   refine gO ?_
   refine AP.bC 13 (Tree.node [] [0,1,2,3,4,5,6,7] [8] [Tree.node [0,1] [] [9] [Tree.node [0,1] [] [10] [Tree.node [] [11] [12] [Tree.node [] [] [] []]]]]) (by kernel_rfl) rfl (by kernel_rfl) (by kernel_rfl) ?_
   refine bA ?_
   refine sE (an @aj @ai) ?_
   refine⟨by omega,?_⟩
   refine AQ.fn (by kernel_rfl) rfl rfl rfl (ih) rfl ?_
   refine sI ?_
   refine AQ.nx rfl ?_
   refine sI ?_
   refine AQ.go (by kernel_rfl) ?_
   refine sI ?_
   refine AQ.nx rfl ?_
   refine sI ?_
   refine AQ.kill 2 ?_
   refine sI ?_
   refine AQ.append (hnb:=rfl) (rows:=aw ((x.xs.take k).map (gY l))) (es:=2) (by kernel_rfl) rfl rfl rfl (by rfl) Tryz.wX Tryz.wR (by show Option.map _ (aC Tryz.prog 57)=_;rw[Tryz.xg];rfl) Tryz.um (by first|rfl|(simp only[ai,List.length_map,bF,List.length_cons,List.length_nil];done)|(simp only[ai,List.length_map,bF,List.length_cons,List.length_nil];omega)) (by simp only[ai,List.length_map,bF,List.length_cons,List.length_nil];omega) (by simp only[ai,List.length_map,bF,List.length_cons,List.length_nil];omega) ?_
   refine sI ?_
   refine AQ.nx rfl ?_
   refine sI ?_
   refine AQ.go (by kernel_rfl) ?_
   refine sI ?_
   refine AQ.nx rfl ?_
   refine sI ?_
   refine AQ.done ?_
   refine gE @hw ?_
   refine AE.round (k+1) (by omega) (by omega) (sU) ?_
   rw[aS,nG,ai,List.length_map,bF]
termination_by SizeOf.sizeOf x
decreasing_by exact gX hu
mutual
def fq (l:Bd):Tm->Int
 | .mk n i xs=>if n=[]then(match iQ l i with
   |some x=>min (fC x 5000) 5000
   |none=>1)else fB l xs 1
def fB (l:Bd):List Tm->Int->Int
 |[],a=>a
 |t::k,a=>fB l k (min (a+fq l t) 5000)
end
theorem TA (l:Bd) (t:Tm):fq l t=if t.nm=[]then(match iQ l t.ix with
   |some x=>min (fC x 5000) 5000
   |none=>1)else fB l t.xs 1:=by cases t;rw[fq];rfl
theorem KF (l:Bd):∀(k m:List Tm) (a:Int),fB l (k++m) a=fB l m (fB l k a)
 |[],m,a=>by rw[List.nil_append,fB]
 |t::k,m,a=>by rw[List.cons_append,fB,fB,KF l k m]
mutual
theorem KE (l:Bd):∀t:Tm,cw t=true->fq l t=min (wT (aO (lT l) t):Int) 5000
 | .mk n i xs,h=>by
  rw[cw]at h
  rw[fq,aO]
  by_cases hn:n=[]
  ·rw[if_pos hn,if_pos hn,lT]
   cases iQ l i with
   |none=>simp only[Option.getD_none,bW,wT,aH];omega
   |some x=>
    simp only[Option.getD_some]
    have:=mL x 5000 (by omega)
    by_cases hc:(wT x:Int)<=5000
    ·rw[this.1 hc]
    ·have:=this.2.1 (by omega);omega
  ·rw[if_neg hn,Bool.and_eq_true]at h
   rw[if_neg hn,if_neg hn,wT,KG l xs 1 h.2 (by omega)];omega
theorem KG (l:Bd):∀(k:List Tm) (a:Int),bL k=true->0<=a/\a<=5000->fB l k a=min (a+aH (bk (lT l) k)) 5000
 |[],a,_,ha=>by rw[fB,bk,aH];omega
 |t::k,a,h,ha=>by
  rw[bL,Bool.and_eq_true]at h
  rw[fB,bk,aH,KE l t h.1,KG l k _ h.2 (by omega)];omega
end
mutual
theorem z8 (l:Bd):∀t:Tm,1<=fq l t/\fq l t<=5000
 | .mk n i xs=>by
  rw[fq]
  split
  ·split
   ·rename_i x _
    have:=mL x 5000 (by omega);omega
   ·omega
  ·exact Ea l xs 1 (by omega)
theorem Ea (l:Bd):∀(k:List Tm) (a:Int),1<=a/\a<=5000->1<=fB l k a/\fB l k a<=5000
 |[],a,h=>by rw[fB];exact h
 |t::k,a,h=>by
  have:=z8 l t
  rw[fB];exact Ea l k _ (by omega)
end
theorem TB (l:Bd) {k:List Tm} {j:Nat} {u:Tm} (h:k[j]?=some u) (a:Int):fB l (k.take (j+1)) a=min (fB l (k.take j) a+fq l u) 5000:=by
 rw[cK h,KF,fB,fB]
theorem KT (x:Tm) (l:Bd) (hs:bz x) (hl:uh l):aI Tryz.prog 171 [bq x,l8 l] (Iv (fq l x)):=by
 have cq:=eT.1 hs
 have he:=TA l x
 refine ak.walk [0,1,2,4,5,6,7,10,16,28] [] Tryz.func171 rfl Tryz.ntmps171 (by kernel_rfl) (by rfl) rfl fun W own I0 ax lay=>?_
 refine gO ?_
 refine AP.cond rfl rfl (fun h=>?_) (fun h=>?_)
 ·have hn:x.nm=[]:=by simpa using h
  rw[if_pos hn]at he
  obtain⟨f1,f2⟩:=C_ l x.ix 0
  refine gO ?_
  refine AQ.fn (by kernel_rfl) rfl rfl rfl (find_spec l x.ix hl) rfl ?_
  refine sI ?_
  refine gO ?_
  refine AP.cond rfl rfl (fun h1=>?_) (fun h1=>?_)
  ·cases hk:iQ l x.ix with
   |none=>rw[f1 hk]at h1;simp at h1
   |some y=>
    obtain⟨k,e1,e2⟩:=f2 y hk
    rw[Nat.zero_add]at e1
    obtain⟨ah,_⟩:=List.getElem?_eq_some_iff.1 e2
    obtain⟨b,hb,aj⟩:=AT l k ah
    rw[e2]at hb
    simp only[Option.some.injEq]at hb
    subst hb
    rw[hk]at he
    simp only at he
    have kK:=hl.1
    have hy:=hl.2 _ (List.mem_of_getElem? e2)
    have a7:=mL y 5000 (by omega)
    rw[e1]
    refine gE (an @aj @jq) ?_
    refine AQ.fn (by kernel_rfl) rfl rfl rfl (wo y 5000 hy (by omega)) rfl ?_
    refine sI ?_
    refine gO ?_
    exact AE.ay rfl ⟨rfl,trivial⟩ rfl ⟨rfl,by rw[he,show min (fC y 5000) 5000=if(5000:Int)<fC y 5000 then 5000 else fC y 5000 from by split<;>omega];rfl⟩
  ·cases hk:iQ l x.ix with
   |none=>
    rw[hk]at he
    simp only at he
    refine gO ?_
    exact AE.ay rfl ⟨rfl,trivial⟩ rfl ⟨rfl,by rw[he];rfl⟩
   |some y=>
    obtain⟨k,e1,e2⟩:=f2 y hk
    rw[e1]at h1;simp at h1
 ·have hn:¬x.nm=[]:=by simpa using h
  rw[if_neg hn]at he
  refine gO ?_
  refine AP.loop rfl (α:=Nat) (fun k=>[(1,l8 l),(2,.im (gW x)),(6,Iv (fB l (x.xs.take k) 1)),(7,Iv k)]) (fun _=>[]) (fun k=>k<=x.xs.length) (fun k=>x.xs.length-k) 0 (by omega) (by rw[List.take_zero,fB];exact(sU)) rfl fun k hk=>?_
  have mB:=cq.2.1
  rcases Nat.eq_or_lt_of_le hk with aG|ah
  ·subst aG
   rw[List.take_length]
   refine gE @ai ?_
   refine cF ?_
   refine gO ?_
   exact AE.ay rfl ⟨rfl,trivial⟩ rfl ⟨rfl,by rw[he];rfl⟩
  ·obtain⟨u,hu,aj⟩:=cm x.xs k ah
   have hw:=wr (x:=(k:Int)+1) (by omega)
   have ih:=KT u l (cN cq.2.2 hu) hl
   have aS:=TB l hu 1
   have cQ:=z8 l u
   have eW:=Ea l (x.xs.take k) 1 (by omega)
   generalize fB l (x.xs.take k) 1=a at*
   have cJ:=wr (x:=a+fq l u) (by omega)
   refine gE @ai ?_
   refine cT ?_
   refine gE (an @aj @ai) ?_
   refine AQ.fn (by kernel_rfl) rfl rfl rfl (ih) rfl ?_
   refine sI ?_
   refine gE (an @hw @cJ) ?_
   refine AE.round (k+1) (by omega) (by omega) ?_ rfl
   rw[aS,show min (a+fq l u) 5000=if(5000:Int)<a+fq l u then 5000 else a+fq l u from by split<;>omega]
   exact(sU)
termination_by SizeOf.sizeOf x
decreasing_by exact gX hu

def db (l:Bd):List Tm->Int->Int
 |[],n=>n
 |t::k,n=>if 4000<n+fq l t then n+fq l t else db l k (n+fq l t)
theorem xX (l:Bd):∀(k m:List Tm) (n:Int),n<=4000->db l (k++m) n=if 4000<db l k n then db l k n else db l m (db l k n)
 |[],m,n,h=>by rw[List.nil_append,db,if_neg (by omega)]
 |t::k,m,n,h=>by
  rw[List.cons_append,db,db]
  by_cases hc:4000<n+fq l t
  ·rw[if_pos hc,if_pos hc,if_pos hc]
  ·rw[if_neg hc,if_neg hc,xX l k m _ (by omega)]
theorem AK (l:Bd):∀(k:List Tm) (n:Int),0<=n->n<=4000->n<=db l k n/\db l k n<=9000
 |[],n,h0,h=>by rw[db];omega
 |t::k,n,h0,h=>by
  have hb:=z8 l t
  rw[db]
  by_cases hc:4000<n+fq l t
  ·rw[if_pos hc];omega
  ·rw[if_neg hc];have:=AK l k (n+fq l t) (by omega) (by omega);omega
def w7 (l:Bd) (x:Lt):Lt:=⟨x.ng,x.pd,nH l x.xs⟩
theorem ME (l:Bd) {k:List Tm} {j:Nat} {u:Tm} (h:k[j]?=some u) {n:Int} (hn:n<=4000) (hj:¬4000<db l (k.take j) n):db l (k.take (j+1)) n=db l (k.take j) n+fq l u:=by
 rw[cK h,xX l _ _ n hn,if_neg hj,db]
 split
 ·rfl
 ·rw[db]
theorem r6 {c:List Lt} {k:Nat} {u:Lt} (h:c[k]?=some u) (j:Nat):∃r,c.flatMap (·.xs)=((c.take k).flatMap (·.xs)++u.xs.take j)++r:=by
 refine⟨u.xs.drop j++(c.drop (k+1)).flatMap (·.xs),?_⟩
 have h1:c=c.take k++(u::c.drop (k+1)):=by rw[<-drop_cons h,List.take_append_drop]
 conv=>lhs;rw[h1]
 rw[List.flatMap_append,List.flatMap_cons,List.append_assoc,<-List.append_assoc (u.xs.take j),List.take_append_drop]
def hQ (c:List Lt) (l:Bd):List Lt:=c.map (w7 l)
def mO (c:List Lt) (l:Bd):Int:=if 4000<db l (c.flatMap (·.xs)) c.length then 15 else if bl 4 9 2 3 (hQ c l)=4\/bl 4 9 2 3 (hQ c l)=9 then 15 else 0
def ud (c:List Lt) (l:Bd):List Lt:=if mO c l=0 then hQ c l else[]
theorem MP (c:List Lt) (l:Bd) (hs:cG c) (hl:uh l) (uN:c.length<=40) (ho:cG (hQ c l)):aI Tryz.prog 110 [aJ c,l8 l] (.aD [aJ (ud c l),Iv (mO c l)]):=by
 have hE:mO c l=_:=mO.eq_def c l
 have hR:ud c l=_:=ud.eq_def c l
 refine aI.told (r:= .aD [if mO c l=0 then aJ (hQ c l)else dm,Iv (mO c l)]) ?_ (by
  rw[hR]
  by_cases h0:mO c l=0
  ·rw[if_pos h0,if_pos h0];exact fun _ _ _ _ h=>h
  ·rw[if_neg h0,if_neg h0]
   intro w φ I v h
   rw[AV.den]at h⊢
   obtain⟨us,hu,rfl⟩:=h
   refine⟨us,?_,rfl⟩
   rw[AV.ab]at hu⊢
   obtain⟨a,b,e,h1,h2⟩:=hu
   exact⟨a,b,e,DG 3 w φ I a h1,h2⟩)
 refine ak.walk [0,1,4,5,6,7,8,9,10,11,12,13,19,29,45,50,71,100] [11,46] Tryz.func110 rfl Tryz.ntmps110 (by kernel_rfl) (by rfl) rfl fun W own I0 ax lay=>?_
 refine gE @ae ?_
 refine AP.loop rfl (α:=Nat) (fun k=>[(0,aJ c),(1,l8 l),(6,Iv (db l ((c.take k).flatMap (·.xs)) c.length)),(7,Iv k)]) (fun _=>[]) (fun k=>k<=c.length/\¬4000<db l ((c.take k).flatMap (·.xs)) c.length) (fun k=>c.length-k) 0 ⟨by omega,by rw[List.take_zero,List.flatMap_nil,db];omega⟩ (by rw[List.take_zero,List.flatMap_nil,db];exact(sU)) rfl fun k ⟨hk,bj⟩=>?_
 rcases Nat.eq_or_lt_of_le hk with aG|ah
 ·subst aG
  rw[List.take_length]at bj
  rw[if_neg bj]at hE
  refine gE @ae ?_
  refine cF ?_
  refine sI ?_
  refine gO ?_
  refine AP.loop rfl (α:=Nat) (fun k=>[(0,aJ c),(1,l8 l),(9,.os 0 3 0 k),(10,Iv k)]) (fun k=>[(0,.vec 61 3 (aF (hQ (c.take k) l)))]) (fun k=>k<=c.length) (fun k=>c.length-k) 0 (by omega) (sU) rfl fun k hk=>?_
  rcases Nat.eq_or_lt_of_le hk with aG|ah
  ·subst aG
   rw[List.take_length]
   refine gE @ae ?_
   refine cF ?_
   refine sI ?_
   have hlen:(hQ c l).length=c.length:=by rw[hQ,List.length_map]
   refine AP.freeze 0 (el:=61) (es:=3) (rows:=aF (hQ c l)) rfl (by simp only[go_sem,Nat.reduceAdd,Nat.reduceLeDiff,Nat.reduceSub,Int.reduceToNat,reduceCtorEq,ae,hlen];first|done|trivial|omega|(simp;done)|(simp;omega)) (by simp only[go_sem,Nat.reduceAdd,Nat.reduceLeDiff,Nat.reduceSub,Int.reduceToNat,reduceCtorEq,ae,hlen];first|done|trivial|omega|(simp;done)|(simp;omega)) ?_;simp only[go_sem,Nat.reduceAdd,Nat.reduceLeDiff,Nat.reduceSub,Int.reduceToNat,reduceCtorEq,ae,hlen]
   rw[List.take_of_length_le (by rw[ae,hlen];omega)]
   refine gO ?_
   refine AQ.fn (by kernel_rfl) rfl rfl rfl (pb (hQ c l) ho) rfl ?_
   refine sI ?_
   refine gO ?_
   refine AP.cond rfl rfl (fun h1=>?_) (fun h1=>?_)
   ·rw[if_pos (by simpa using h1)]at hE
    refine gO ?_
    exact AE.ay rfl ⟨rfl,rfl,trivial⟩ rfl ⟨rfl,by rw[hE];rfl⟩
   ·rw[if_neg (by simpa using h1)]at hE
    refine gO ?_
    exact AE.ay rfl ⟨rfl,rfl,trivial⟩ rfl ⟨rfl,by rw[hE];rfl⟩
  ·obtain⟨u,hu,aj⟩:=dI c k ah
   have hw:=wr (x:=(k:Int)+1) (by omega)
   have bM:=jt hs hu
   have lI:=bM.2.1
   have bF:(hQ (c.take k) l).length=k:=by rw[hQ,List.length_map,k7 (by omega)]
   have aS:hQ (c.take (k+1)) l=hQ (c.take k) l++[w7 l u]:=te (w7 l) hu
   refine gE @ae ?_
   refine cT ?_
   refine gE (an @aj @ae) ?_
   refine AP.bC 13 (Tree.node [] [0,1,2,3,4,5,6,7,8,9,10] [11] [Tree.node [0,1,2,3,4,5,6,7,8,9,10] [] [12] [Tree.node [] [] [] []]]) (by kernel_rfl) rfl (by kernel_rfl) (by kernel_rfl) ?_
   refine bA ?_
   refine sE (an @aj @ae) ?_
   refine⟨by omega,by omega,?_⟩
   refine AQ.go (by kernel_rfl) ?_
   refine sI ?_
   refine AQ.nx rfl ?_
   refine sI ?_
   refine⟨⟨⟨⟨by omega,by rw[ae];omega⟩,by rw[aj]⟩,⟨⟨by omega,by rw[ae];omega⟩,by rw[aj]⟩⟩,?_⟩
   refine AQ.go (by kernel_rfl) ?_
   refine sI ?_
   refine AQ.nx rfl ?_
   refine sI ?_
   refine AQ.done ?_
   refine gO ?_
   refine AP.jN 1 2 57 3 rfl rfl ?_
   refine sI ?_
   refine AP.loop rfl (α:=Nat) (fun j=>[(0,aJ c),(1,l8 l),(9,.os 0 3 0 k),(10,Iv k),(11,.ob 1 0),(12,Iv j)]) (fun j=>[(2,.vec 57 3 (aw ((u.xs.take j).map (gY l)))),(1,.var 61 [Bv u.ng,Sv u.pd,.os 2 3 0 j]),(0,.vec 61 3 (aF (hQ (c.take k) l)))]) (fun j=>j<=u.xs.length) (fun j=>u.xs.length-j) 0 (by omega) (sU) rfl fun j hj=>?_
   rcases Nat.eq_or_lt_of_le hj with cY|fZ
   ·subst cY
    rw[List.take_length]
    refine gE (an @aj (an @ae @ai)) ?_
    refine cF ?_
    refine sI ?_
    refine AP.freeze 2 (el:=57) (es:=3) (rows:=aw (u.xs.map (gY l))) rfl (by simp only[go_sem,Nat.reduceAdd,Nat.reduceLeDiff,Nat.reduceSub,Int.reduceToNat,reduceCtorEq,ai,List.length_map];first|done|trivial|omega|(simp;done)|(simp;omega)) (by simp only[go_sem,Nat.reduceAdd,Nat.reduceLeDiff,Nat.reduceSub,Int.reduceToNat,reduceCtorEq,ai,List.length_map];first|done|trivial|omega|(simp;done)|(simp;omega)) ?_;simp only[go_sem,Nat.reduceAdd,Nat.reduceLeDiff,Nat.reduceSub,Int.reduceToNat,reduceCtorEq,ai,List.length_map]
    rw[show List.take u.xs.length (aw (u.xs.map (gY l)))=aw (u.xs.map (gY l)) from List.take_of_length_le (by rw[ai,List.length_map];omega)]
    refine gO ?_
    refine AQ.append (hnb:=rfl) (rows:=aF (hQ (c.take k) l)) (es:=2) (by kernel_rfl) rfl rfl rfl (by rfl) Tryz.gf Tryz.gb (by show Option.map _ (aC Tryz.prog 61)=_;rw[Tryz.gi];rfl) Tryz.fV (by first|rfl|(simp only[ae,bF,List.length_cons,List.length_nil];done)|(simp only[ae,bF,List.length_cons,List.length_nil];omega)) (by simp only[ae,bF,List.length_cons,List.length_nil];omega) (by simp only[ae,bF,List.length_cons,List.length_nil];omega) ?_
    refine sI ?_
    refine gE @hw ?_
    refine AE.ew [1] rfl ?_
    refine sE (an @ae @bF) ?_
    refine AE.round (k+1) (by omega) (by omega) (sU) ?_
    rw[aS,tc,iR,w7,Ez]
   ·obtain⟨v,hv,cg⟩:=cm u.xs j fZ
    have cJ:=wr (x:=(j:Int)+1) (by omega)
    have fA:=k7 (l:=u.xs) (k:=j) (by omega)
    have ih:=Ls v l (cN bM.2.2 hv) hl
    have lG:=te (gY l) hv
    obtain⟨w,oC⟩:∃w,gY l v=w:=⟨_,rfl⟩
    rw[oC]at ih lG
    refine gE (an @aj (an @ae @ai)) ?_
    refine cT ?_
    refine gE (an @aj (an @ae @ai)) ?_
    refine AP.bC 16 (Tree.node [] [0,1,2,3,4,5,6,7,8,9,10] [11] [Tree.node [0,1] [] [12] [Tree.node [0,1] [] [13] [Tree.node [] [14] [15] [Tree.node [] [] [] []]]]]) (by kernel_rfl) rfl (by kernel_rfl) (by kernel_rfl) ?_
    refine bA ?_
    refine sE (an @aj (an @cg (an @ae @ai))) ?_
    refine⟨by omega,by omega,?_⟩
    refine AQ.fn (by kernel_rfl) rfl rfl rfl (ih) rfl ?_
    refine sI ?_
    refine AQ.nx rfl ?_
    refine sI ?_
    refine AQ.go (by kernel_rfl) ?_
    refine sI ?_
    refine AQ.nx rfl ?_
    refine sI ?_
    refine AQ.kill 2 ?_
    refine sI ?_
    refine AQ.append (hnb:=rfl) (rows:=aw ((u.xs.take j).map (gY l))) (es:=2) (by kernel_rfl) rfl rfl rfl (by rfl) Tryz.wX Tryz.wR (by show Option.map _ (aC Tryz.prog 57)=_;rw[Tryz.xg];rfl) Tryz.um (by first|rfl|(simp only[ai,List.length_map,fA,List.length_cons,List.length_nil];done)|(simp only[ai,List.length_map,fA,List.length_cons,List.length_nil];omega)) (by simp only[ai,List.length_map,fA,List.length_cons,List.length_nil];omega) (by simp only[ai,List.length_map,fA,List.length_cons,List.length_nil];omega) ?_
    refine sI ?_
    refine AQ.nx rfl ?_
    refine sI ?_
    refine AQ.go (by kernel_rfl) ?_
    refine sI ?_
    refine AQ.nx rfl ?_
    refine sI ?_
    refine AQ.done ?_
    refine gE @cJ ?_
    refine AE.round (j+1) (by omega) (by omega) (sU) ?_
    rw[lG,nG,ai,List.length_map,fA]
 ·obtain⟨u,hu,aj⟩:=dI c k ah
  have hw:=wr (x:=(k:Int)+1) (by omega)
  have bM:=jt hs hu
  have lI:=bM.2.1
  have lB:=BB hu
  have PE:=fun j=>r6 hu j
  have eL:=AK l ((c.take k).flatMap (·.xs)) c.length (by omega) (by omega)
  have qJ:=fun m=>xX l ((c.take k).flatMap (·.xs)) m (n:=c.length) (by omega)
  have Pb:=fun r n h=>xX l r n (n:=c.length) h
  obtain⟨n0,jC⟩:∃n0,db l ((c.take k).flatMap (·.xs)) c.length=n0:=⟨_,rfl⟩
  simp only[jC,if_neg (jC▸bj)]at qJ
  rw[jC]at eL bj⊢
  refine gE @ae ?_
  refine cT ?_
  refine gO ?_
  refine AP.loop rfl (α:=Nat) (fun j=>[(0,aJ c),(1,l8 l),(6,Iv (db l (u.xs.take j) n0)),(7,Iv k),(8,Iv j)]) (fun _=>[]) (fun j=>j<=u.xs.length/\¬4000<db l (u.xs.take j) n0) (fun j=>u.xs.length-j) 0 ⟨by omega,by rw[List.take_zero,db];omega⟩ (by rw[List.take_zero,db];exact(sU)) rfl fun j ⟨hj,mu⟩=>?_
  rcases Nat.eq_or_lt_of_le hj with cY|fZ
  ·subst cY
   rw[List.take_length]at mu⊢
   refine gE (an @aj (an @ae @ai)) ?_
   refine cF ?_
   refine gE @hw ?_
   refine AE.round (k+1) ⟨by omega,by rw[lB,qJ];exact mu⟩ (by omega) (by rw[lB,qJ];exact(sU)) rfl
  ·obtain⟨v,hv,cg⟩:=cm u.xs j fZ
   have cJ:=wr (x:=(j:Int)+1) (by omega)
   have aS:=ME l hv (n:=n0) (by omega) mu
   have hb:=z8 l v
   have eW:=AK l (u.xs.take j) n0 (by omega) (by omega)
   have Ph:4000<db l (u.xs.take j) n0+fq l v->4000<db l (c.flatMap (·.xs)) c.length:=fun hh=>by
    obtain⟨r,er⟩:=PE (j+1)
    rw[er,Pb _ _ (by omega),qJ,aS,if_pos hh];exact hh
   have lJ:=wr (x:=db l (u.xs.take j) n0+fq l v) (by omega)
   refine gE (an @aj (an @ae @ai)) ?_
   refine cT ?_
   refine gE (an @aj (an @cg (an @ae @ai))) ?_
   refine AQ.fn (by kernel_rfl) rfl rfl rfl (KT v l (cN bM.2.2 hv) hl) rfl ?_
   refine sI ?_
   refine gE @lJ ?_
   refine AP.cond rfl rfl (fun h1=>?_) (fun h1=>?_)
   ·rw[if_pos (Ph (by simpa using h1))]at hE
    refine gO ?_
    exact AE.ay rfl ⟨rfl,rfl,trivial⟩ rfl ⟨rfl,by rw[hE];rfl⟩
   ·refine gE @cJ ?_
    exact AE.round (j+1) ⟨by omega,by rw[aS];simpa using h1⟩ (by omega) (by rw[aS];exact(sU)) rfl
theorem Ny (x:AV) (w:World) (φ:aq) (I:Nat->Prop) (v:Value) (h:AV.den w φ I (.aD [dm,x]) v):AV.den w φ I (.aD [aJ [],x]) v:=by
 rw[AV.den]at h⊢
 obtain⟨us,hu,rfl⟩:=h
 refine⟨us,?_,rfl⟩
 rw[AV.ab]at hu⊢
 obtain⟨a,b,e,h1,h2⟩:=hu
 exact⟨a,b,e,DG 3 w φ I a h1,h2⟩
structure Yields (P:Program) (nb l n:Nat) (args:Nat->List AV) (Hs:Nat->aa) (m:Nat) (Hx:aa):Prop where
 go:∀k,k<m->k<n->g_ P nb l (args k) (Hs k) (fun r H'=>r=Bv true/\H'=Hs (k+1))
 stop:m<n->g_ P nb l (args m) (Hs m) (fun r H'=>r=Bv false/\H'=Hx)
 low:∀k k',fb nb (Hs k) (Hs k')
 I8:∀k,fb nb (Hs k) Hx
def L6 (Hs:Nat->aa) (m:Nat) (Hx:aa) (k:Nat) (r:AV) (H':aa):Prop:=
 (k<=m/\r=Bv true/\H'=Hs k)\/(m<k/\r=Bv false/\H'=Hx)
def D3 (Hs:Nat->aa) (m:Nat) (Hx:aa) (n:Nat) (_:AV) (H':aa):Prop:=(n<=m/\H'=Hs n)\/(m<n/\H'=Hx)
def Ak (xs:List Tm) (k:Nat):List AV:=match xs[k]? with
 |some t=>[bq t]
 |none=>[]
theorem wZ {xs:List Tm} {k:Nat} {t:Tm} (h:xs[k]?=some t):Ak xs k=[bq t]:=by rw[Ak,h]
theorem L7 {nb l m:Nat} {Hs:Nat->aa} {Hx:aa} {args:Nat->List AV} {n:Nat} (hy:Yields Tryz.prog nb l n args Hs m Hx) (k q:Nat) (r:AV) (H':aa) (h:L6 Hs m Hx q r H'):fb nb (Hs k) H':=by
 rcases h with⟨_,_,rfl⟩|⟨_,_,rfl⟩
 ·exact hy.low k q
 ·exact hy.I8 k
abbrev qi (l b:Nat):Ob:= .var 219 [.fn 195 [] [.im (.pt [.v (.func (.yield l) #[] #[])]),.ob b 0]]
theorem Eb:∀l m:List Tm,cA (l++m)=cA l++cA m
 |[],m=>by rw[cA];rfl
 |t::l,m=>by rw[List.cons_append,cA,cA,Eb l m,List.append_assoc]
theorem TC {l:List Tm} {j:Nat} {u:Tm} (h:l[j]?=some u):cA l=cA (l.take j)++(b7 u++cA (l.drop (j+1))):=by
 conv=>lhs;rw[<-List.take_append_drop j l,drop_cons h]
 rw[Eb,cA]
theorem TD {l:List Tm} {j:Nat} {u:Tm} (h:l[j]?=some u):cA (l.take (j+1))=cA (l.take j)++b7 u:=by
 rw[cK h,Eb,cA,cA,List.append_nil]
theorem LY {nb l m b M:Nat} {Hs:Nat->aa} {Hx:aa} {xs:List Tm} (hy:Yields Tryz.prog nb l xs.length (Ak xs) Hs m Hx) (hb:∀k,lk (Hs k) b=some (qi l b)) (fj:b<nb) (hM:nb<=M) (eg:∀k,cW (Hs k)=M) (eZ:∀k r,iX M r (Hs k)=Hs k) (t:Tm) (ht:bz t) (k:Nat) (hk:k<=m) (hx:∀j,j<(b7 t).length->xs[k+j]?=(b7 t)[j]?):
  jU Tryz.prog nb 195 [bq t,.im (.pt [.v (.func (.yield l) #[] #[])]),.ob b 0] (Hs k) (L6 Hs m Hx (k+(b7 t).length)):=by
 have sP:=eT.1 ht
 have hit:xs[k]?=some t:=by
  have:=hx 0 (by rw[wK];simp)
  rw[Nat.add_zero]at this
  rw[this,wK];rfl
 have yU:k<xs.length:=(List.getElem?_eq_some_iff.1 hit).1
 have lL:∀j,j<(cA t.xs).length->xs[k+1+j]?=(cA t.xs)[j]?:=fun j hj=>by
  rw[show k+1+j=k+(j+1) by omega,hx (j+1) (by rw[wK];simpa using hj),wK];rfl
 have hlen:k+(b7 t).length=k+1+(cA t.xs).length:=by rw[wK,List.length_cons];omega
 rw[hlen]
 have fM:Nat.ble nb b=false:=by cases hq:Nat.ble nb b with|false=>rfl|true=>exact absurd (Nat.le_of_ble_eq_true hq) (by omega)
 have G9:Nat.ble nb M=true:=Nat.ble_eq_true_of_le hM
 have yz:Nat.beq M M=true:=by simp
 have BQ:Nat.beq M b=false:=by cases hq:Nat.beq M b with|false=>rfl|true=>exact absurd (Nat.eq_of_beq_eq_true hq) (by omega)
 have OV:Nat.beq b M=false:=by cases hq:Nat.beq b M with|false=>rfl|true=>exact absurd (Nat.eq_of_beq_eq_true hq) (by omega)
 refine jU.walk [0,1,2,3,4,6,10,12,13,14,15,21] [6] Tryz.func195 rfl Tryz.ntmps195 (by kernel_rfl) (by rfl) fun W own I0 ax lay=>?_
 refine gO ?_
 have PX:=fun k q r H' h=>L7 hy k q r H' h
 by_cases hm:k<m
 ·have vM:=hy.go k hm yU
  rw[wZ hit]at vM
  refine AQ.Ax nb (Nat.ble_eq_true_of_le (Nat.le_refl _)) (by kernel_rfl) rfl ⟨rfl,rfl⟩ rfl rfl vM (fun r H' h=>by rw[h.2];exact hy.low _ _) fun r H' h=>?_
  obtain⟨rfl,rfl⟩:=h
  refine sE @fM ?_
  refine AQ.go (by kernel_rfl) ?_
  refine gE (an @fM @ai) ?_
  refine AP.loop rfl (α:=Nat) (fun j=>[(1,.im (.pt [.v (.func (.yield l) #[] #[])])),(2,.ob b 0),(12,.im (.sl 3 (aw t.xs))),(13,Iv t.xs.length),(14,Iv j)]) (fun j=>Hs (k+1+(cA (t.xs.take j)).length)) (fun j=>j<=t.xs.length/\k+1+(cA (t.xs.take j)).length<=m) (fun j=>t.xs.length-j) 0 ⟨by omega,by rw[List.take_zero,cA];exact hm⟩ (sU) (by rw[List.take_zero,cA];rfl) fun j ⟨hj,lD⟩=>?_
  rcases Nat.eq_or_lt_of_le hj with cY|ah
  ·subst cY
   rw[List.take_length]at lD⊢
   refine gE @ai ?_
   refine cF ?_
   refine gO ?_
   exact AE.ret rfl ⟨rfl,trivial⟩ (.inl ⟨lD,rfl,rfl⟩)
  ·obtain⟨u,hu,aj⟩:=cm t.xs j ah
   have bM:=cN sP.2.2 hu
   have hw:=wr (x:=(j:Int)+1) (by omega)
   have kc:=TC hu
   have ca:=TD hu
   have ih:=LY hy hb fj hM eg eZ u bM (k+1+(cA (t.xs.take j)).length) lD fun i hi=>by
    have hl:(cA t.xs).length=(cA (t.xs.take j)).length+((b7 u).length+(cA (t.xs.drop (j+1))).length):=by rw[kc,List.length_append,List.length_append]
    rw[Nat.add_assoc,lL _ (by omega),kc,List.getElem?_append_right (by omega),Nat.add_sub_cancel_left,List.getElem?_append_left hi]
   have hn:k+1+(cA (t.xs.take (j+1))).length=k+1+(cA (t.xs.take j)).length+(b7 u).length:=by rw[ca,List.length_append];omega
   have hle:(cA (t.xs.take (j+1))).length<=(cA t.xs).length:=by
    rw[ca,kc,List.length_append,List.length_append,List.length_append];omega
   refine gE @ai ?_
   refine cT ?_
   refine gE (an @aj (an @hb (an @eg (an @G9 (an @yz @BQ))))) ?_
   refine⟨by rw[ai];omega,?_⟩
   refine gE (an @aj (an @hb (an @eg (an @G9 (an @yz @BQ))))) ?_
   refine AQ.fix M (by simp only[lk,yz,cond_true];rfl) rfl ?_
   refine sE (an @yz (an @BQ (an @OV @eZ))) ?_
   refine AQ.FG nb (Nat.ble_eq_true_of_le (Nat.le_refl _)) (by kernel_rfl) rfl rfl rfl ih (fun r H' h=>PX _ _ r H' h) fun r H' h=>?_
   rw[<-hn]at h
   rcases h with⟨h1,rfl,rfl⟩|⟨h1,rfl,rfl⟩
   ·refine sE @fM ?_
    refine AQ.go (by kernel_rfl) ?_
    refine gE (an @fM @hw) ?_
    exact AE.round (j+1) ⟨by omega,h1⟩ (by omega) (sU) rfl
   ·refine sE @fM ?_
    refine AQ.go (by kernel_rfl) ?_
    refine gE @fM ?_
    exact AE.ret rfl ⟨rfl,trivial⟩ (.inr ⟨by omega,rfl,rfl⟩)
 ·have kN:k=m:=by omega
  have vM:=hy.stop (by omega)
  rw[<-kN,wZ hit]at vM
  refine AQ.Ax nb (Nat.ble_eq_true_of_le (Nat.le_refl _)) (by kernel_rfl) rfl ⟨rfl,rfl⟩ rfl rfl vM (fun r H' h=>by rw[h.2];exact hy.I8 _) fun r H' h=>?_
  obtain⟨rfl,rfl⟩:=h
  refine sE @fM ?_
  refine AQ.go (by kernel_rfl) ?_
  refine gE @fM ?_
  exact AE.ret rfl ⟨rfl,trivial⟩ (.inr ⟨by omega,rfl,rfl⟩)
termination_by SizeOf.sizeOf t
decreasing_by exact gX hu
theorem K9 {nb l m M:Nat} {Hs:Nat->aa} {Hx:aa} (t:Tm) (ht:bz t) (hy:Yields Tryz.prog (M+1) l (b7 t).length (Ak (b7 t)) (fun k=>(M,qi l M)::Hs k) m ((M,qi l M)::Hx)) (hM:Nat.ble nb M=true) (eg:∀k,cW (Hs k)=M) (eZ:∀k r,iX (M+1) r (Hs k)=Hs k):
  jU Tryz.prog nb 194 [Yl l,.im (gW t)] (Hs 0) (D3 (fun k=>(M,qi l M)::Hs k) m ((M,qi l M)::Hx) (b7 t).length):=by
 refine jU.walk [0,1,2,3] [3] Tryz.func194 rfl Tryz.ntmps194 (by kernel_rfl) (by rfl) fun W own I0 ax lay=>?_
 refine gE (an @eg @hM) ?_
 have h1:Nat.beq M (M+1)=false:=by cases hq:Nat.beq M (M+1)with|false=>rfl|true=>exact absurd (Nat.eq_of_beq_eq_true hq) (by omega)
 have h2:Nat.beq M M=true:=by simp
 have h3:Nat.ble M M=true:=Nat.ble_eq_true_of_le (Nat.le_refl _)
 have hw:=LY (k:=0) (xs:=b7 t) hy (fun k=>by simp only[lk,h2,cond_true]) (Nat.lt_succ_self _) (Nat.le_refl _) (fun k=>by simp only[cW,eg,h3,cond_true]) (fun k r=>by simp only[iX,pq,h_,fH,h1,eZ,cond_false]) t ht (Nat.zero_le _) (fun j _=>by rw[Nat.zero_add])
 rw[Nat.zero_add]at hw
 refine AQ.FG (M+1) (Nat.ble_eq_true_of_le (Nat.le_succ_of_le (Nat.le_of_ble_eq_true hM))) (by kernel_rfl) rfl rfl rfl hw (fun r H' h=>L7 hy _ _ r H' h) fun r H' h=>?_
 rcases h with⟨h4,rfl,rfl⟩|⟨h4,rfl,rfl⟩
 ·refine sI ?_
  refine AQ.go (by kernel_rfl) ?_
  refine gO ?_
  exact AE.fv rfl trivial (.inl ⟨h4,rfl⟩)
 ·refine sI ?_
  refine AQ.go (by kernel_rfl) ?_
  refine gO ?_
  exact AE.fv rfl trivial (.inr ⟨h4,rfl⟩)
theorem K_ (t:Tm):aI Tryz.prog 150 [bq t] (.fn 194 [] [.im (gW t)]):=by
 refine ak.walk [0,1,2] [] Tryz.func150 rfl Tryz.ntmps150 (by kernel_rfl) (by rfl) rfl fun W own I0 ax lay=>?_
 refine gO ?_
 exact AE.ay rfl ⟨rfl,trivial⟩ rfl ⟨rfl,rfl⟩
theorem T7 (c:List Lt):aI Tryz.prog 73 [aJ c] (.fn 149 [] [.im (.pt [.sl 3 (aF c)])]):=by
 refine ak.walk [0,1,2] [] Tryz.func73 rfl Tryz.ntmps73 (by kernel_rfl) (by rfl) rfl fun W own I0 ax lay=>?_
 refine gO ?_
 exact AE.ay rfl ⟨rfl,trivial⟩ rfl ⟨rfl,rfl⟩
theorem Nx (c:List Lt):bl 4 9 2 3 c=if mD c≠0 then mD c else j2 2 3 c:=by
 rw[bl,mD]
 by_cases h1:40<c.length
 ·rw[if_pos h1,if_pos h1,if_pos (by decide)]
 ·rw[if_neg h1,if_neg h1]
  by_cases h2:4000<b5 c
  ·rw[if_pos h2,if_pos h2,if_pos (by decide)]
  ·rw[if_neg h2,if_neg h2]
   by_cases h3:100<dC c
   ·rw[if_pos h3,if_pos h3,if_pos (by decide)]
   ·rw[if_neg h3,if_neg h3,if_neg (by decide)]
theorem Rz {c:List Lt} (h:¬mD c≠0):c.length<=40:=Classical.byContradiction fun hc=>h (by rw[mD,if_pos (by omega)];decide)
theorem GK (pd:List UInt8) (n:Nat) (b:Bool):((!(pd==[61])&&!b)||(pd==[61]&&(n:Int)!=2))=true↔(pd≠[61]/\b=false)\/(pd=[61]/\n≠2):=by
 have aE:((n:Int)=2)↔n=2:=by omega
 by_cases hp:pd=[61]<;>cases b<;>by_cases hl:n=2<;>simp[hp,hl,aE]
noncomputable def fW (l:Nat) (st:gZ):Ob:= .lp l 53 st Tryz.f15 [0,1,1,1,0,0,1,1,0,0,1,0,1,1] [46] [(2,.ob 0 0)]
noncomputable def oY (l l2:Nat) (st:gZ):Ob:= .lp l2 30 st Tryz.f149 [0,1,1,0,0,1,1,0,0,1,1,0,0,1,1,0,0,1,1] [23] [(2,.im (.pt [.v (.func (.yield l) #[] #[])]))]
noncomputable def hY (l l2:Nat) (TR st:gZ) (e:Int):aa:=[(3,qi l2 3),(2,oY l l2 TR),(1,fW l st),(0,.var 30 [Iv e])]
theorem Nv (nb l l2:Nat) (t:Tm) (ht:bz t) (hf:dR 2 3 t=0) (hnb:Nat.ble nb 4=true):g_ Tryz.prog nb l [bq t] (hY l l2 .busy .ready 0) (fun r H'=>r=Bv true/\H'=hY l l2 .busy .ready 0):=by
 refine g_.walk (b:=1) [2,6,7,46,50] [2] rfl rfl rfl fun w own I0 ax lay=>?_
 simp only[go_sem,Nat.reduceAdd,Nat.reduceLeDiff,Nat.reduceSub,Int.reduceToNat,reduceCtorEq,o5,hY,fW,oY]
 refine gE @hnb ?_
 refine AE.begin (b:=1) rfl rfl _ ?_
 refine sI ?_
 refine gO ?_
 refine AQ.fn (by kernel_rfl) rfl rfl rfl (GL t ht) rfl ?_
 refine sI ?_
 refine gE @hf ?_
 refine AE.ew [4] rfl ?_
 refine sI ?_
 exact AE.wH (b:=1) rfl ⟨rfl,rfl⟩
theorem Nw (nb l l2:Nat) (t:Tm) (ht:bz t) (hf:dR 2 3 t≠0) (hnb:Nat.ble nb 4=true):g_ Tryz.prog nb l [bq t] (hY l l2 .busy .ready 0) (fun r H'=>r=Bv false/\H'=hY l l2 .busy (.done .ret) (dR 2 3 t)):=by
 refine g_.walk (b:=1) [2,6,7,46,50] [2] rfl rfl rfl fun w own I0 ax lay=>?_
 simp only[go_sem,Nat.reduceAdd,Nat.reduceLeDiff,Nat.reduceSub,Int.reduceToNat,reduceCtorEq,o5,hY,fW,oY]
 refine gE @hnb ?_
 refine AE.begin (b:=1) rfl rfl _ ?_
 refine sI ?_
 refine gO ?_
 refine AQ.fn (by kernel_rfl) rfl rfl rfl (GL t ht) rfl ?_
 refine sI ?_
 refine gO ?_
 refine AP.cond rfl rfl (fun h=>?_) (fun h=>?_)
 ·refine gO ?_
  refine AE.ew [4] rfl ?_
  refine sI ?_
  exact AE.Kl (b:=1) rfl ⟨rfl,rfl⟩
 ·exact absurd (by simpa using h) hf
theorem Ui (l l2:Nat) (t:Tm) (ht:bz t) (hf:dR 2 3 t=0):g_ Tryz.prog 4 l2 [bq t] (hY l l2 .ready .ready 0) (fun r H'=>r=Bv true/\H'=hY l l2 .ready .ready 0):=by
 have hy:=Nv 4 l l2 t ht hf rfl
 refine g_.walk (b:=2) [2,7,23,26,27] [] rfl rfl rfl fun w own I0 ax lay=>?_
 simp only[go_sem,Nat.reduceAdd,Nat.reduceLeDiff,Nat.reduceSub,Int.reduceToNat,reduceCtorEq,o5,hY,fW,oY]
 refine gO ?_
 refine AE.begin (b:=2) rfl rfl _ ?_
 refine sI ?_
 refine gO ?_
 refine AQ.fix 4 rfl rfl ?_
 refine sI ?_
 refine AQ.Ax 4 (Nat.ble_eq_true_of_le (Nat.le_refl _)) (by kernel_rfl) rfl ⟨rfl,rfl⟩ rfl rfl hy (fun r H' h=>by rw[h.2];exact fb.of _ _ _ rfl) fun r H' h=>?_
 obtain⟨rfl,rfl⟩:=h
 simp only[go_sem,Nat.reduceAdd,Nat.reduceLeDiff,Nat.reduceSub,Int.reduceToNat,reduceCtorEq,hY,fW,oY]
 refine AQ.go (by kernel_rfl) ?_
 refine gO ?_
 exact AE.wH (b:=2) rfl ⟨rfl,rfl⟩
theorem Uj (l l2:Nat) (t:Tm) (ht:bz t) (hf:dR 2 3 t≠0):g_ Tryz.prog 4 l2 [bq t] (hY l l2 .ready .ready 0) (fun r H'=>r=Bv false/\H'=hY l l2 (.done .ret) (.done .ret) (dR 2 3 t)):=by
 have hy:=Nw 4 l l2 t ht hf rfl
 refine g_.walk (b:=2) [2,7,23,26,27] [] rfl rfl rfl fun w own I0 ax lay=>?_
 simp only[go_sem,Nat.reduceAdd,Nat.reduceLeDiff,Nat.reduceSub,Int.reduceToNat,reduceCtorEq,o5,hY,fW,oY]
 refine gO ?_
 refine AE.begin (b:=2) rfl rfl _ ?_
 refine sI ?_
 refine gO ?_
 refine AQ.fix 4 rfl rfl ?_
 refine sI ?_
 refine AQ.Ax 4 (Nat.ble_eq_true_of_le (Nat.le_refl _)) (by kernel_rfl) rfl ⟨rfl,rfl⟩ rfl rfl hy (fun r H' h=>by rw[h.2];exact fb.of _ _ _ rfl) fun r H' h=>?_
 obtain⟨rfl,rfl⟩:=h
 simp only[go_sem,Nat.reduceAdd,Nat.reduceLeDiff,Nat.reduceSub,Int.reduceToNat,reduceCtorEq,hY,fW,oY]
 refine AQ.go (by kernel_rfl) ?_
 refine gO ?_
 exact AE.Kl (b:=2) rfl ⟨rfl,rfl⟩
def qB (f:Tm->Int):List Tm->Nat
 |[]=>0
 |t::l=>if f t≠0 then 0 else qB f l+1
theorem GQ (f:Tm->Int):∀l:List Tm,(∀k,k<qB f l->∃t,l[k]?=some t/\f t=0)/\(qB f l<l.length->∃t,l[qB f l]?=some t/\f t≠0/\iY f l=f t)/\(l.length<=qB f l->iY f l=0)
 |[]=>⟨fun k h=>absurd h (Nat.not_lt_zero _),fun h=>absurd h (Nat.not_lt_zero _),fun _=>rfl⟩
 |t::l=>by
  obtain⟨h1,h2,h3⟩:=GQ f l
  rw[qB,iY]
  by_cases h:f t≠0
  ·rw[if_pos h,if_pos h]
   exact⟨fun k h=>absurd h (Nat.not_lt_zero _),fun _=>⟨t,rfl,h,rfl⟩,fun h=>absurd h (by simp)⟩
  ·rw[if_neg h,if_neg h]
   refine⟨fun k hk=>?_,fun hk=>?_,fun hk=>h3 (by simpa using hk)⟩
   ·cases k with
    |zero=>exact⟨t,rfl,by simpa using h⟩
    |succ k=>obtain⟨u,h4,h5⟩:=h1 k (by omega);exact⟨u,h4,h5⟩
   ·obtain⟨u,h4,h5⟩:=h2 (by simpa using hk)
    exact⟨u,by rw[List.getElem?_cons_succ];exact h4,h5⟩
mutual
theorem Lh:∀t,bz t->∀u∈b7 t,bz u
 | .mk n i xs,h,u,hu=>by
  rw[b7]at hu
  rcases List.mem_cons.1 hu with rfl|hu
  ·exact h
  ·rw[bz]at h;exact Li xs h.2.2 u hu
theorem Li:∀l,cf l->∀u∈cA l,bz u
 |[],_,u,hu=>by rw[cA]at hu;cases hu
 |t::l,h,u,hu=>by
  rw[cA]at hu
  rw[cf]at h
  rcases List.mem_append.1 hu with hu|hu
  ·exact Lh t h.1 u hu
  ·exact Li l h.2 u hu
end
theorem T8 (l:Nat) (u:Lt) (hu:gA u):jU Tryz.prog 1 149 [Yl l,.im (.pt [.sl 3 (aF [u])])] [(1,fW l .ready),(0,.var 30 [Iv 0])] (fun _ H'=>H'=[(1,fW l (if dr 2 3 u.xs=0 then .ready else .done .ret)),(0,.var 30 [Iv (dr 2 3 u.xs)])]):=by
 have mB:=hu.2.1
 have sM:aF [u]=[iR u]:=rfl
 rw[sM]
 refine jU.walk [0,1,2,4,6,7,8,9,10,11,15,16,17,18,22,23,27] [4,6,7] Tryz.func149 rfl Tryz.ntmps149 (by kernel_rfl) (by rfl) fun W own I0 ax lay=>?_
 simp only[go_sem,Nat.reduceAdd,Nat.reduceLeDiff,Nat.reduceSub,Int.reduceToNat,reduceCtorEq,fW]
 refine gO ?_
 refine AP.loop rfl (α:=Nat) (fun k=>[(2,.im (.pt [.v (.func (.yield l) #[] #[])])),(8,.im (.sl 3 [iR u])),(9,Iv 1),(10,Iv k)]) (fun k=>[(1,fW l .ready),(0,.var 30 [Iv 0])]) (fun k=>k<=1/\(k=1->dr 2 3 u.xs=0)) (fun k=>1-k) 0 ⟨by omega,by omega⟩ (sU) rfl fun k ⟨hk,mq⟩=>?_
 rcases Nat.eq_or_lt_of_le hk with aG|ah
 ·subst aG
  simp only[go_sem,Nat.reduceAdd,Nat.reduceLeDiff,Nat.reduceSub,Int.reduceToNat,reduceCtorEq,fW]
  refine gO ?_
  refine AE.fv rfl trivial ?_
  rw[mq rfl];rfl
 ·have dE:k=0:=by omega
  subst dE
  have ow:[iR u].getD 0 []=[Bi u.ng,Si u.pd,.sl 3 (aw u.xs)]:=rfl
  simp only[go_sem,Nat.reduceAdd,Nat.reduceLeDiff,Nat.reduceSub,Int.reduceToNat,reduceCtorEq,fW]
  refine gE (an @ai @ow) ?_
  refine AP.fix 2 rfl rfl ?_
  refine sI ?_
  refine AP.loop rfl (α:=Nat) (fun j=>[(2,.im (.pt [.v (.func (.yield l) #[] #[])])),(8,.im (.sl 3 [iR u])),(9,Iv 1),(10,Iv 0),(15,.im (.sl 3 (aw u.xs))),(16,Iv u.xs.length),(17,Iv j)]) (fun j=>[(1,fW l .ready),(0,.var 30 [Iv 0])]) (fun j=>j<=u.xs.length/\dr 2 3 u.xs=dr 2 3 (u.xs.drop j)) (fun j=>u.xs.length-j) 0 ⟨by omega,rfl⟩ (sU) rfl fun j ⟨hj,lD⟩=>?_
  rcases Nat.eq_or_lt_of_le hj with cY|fZ
  ·subst cY
   simp only[go_sem,Nat.reduceAdd,Nat.reduceLeDiff,Nat.reduceSub,Int.reduceToNat,reduceCtorEq,fW]
   refine gO ?_
   refine cF ?_
   refine gO ?_
   rw[List.drop_length,dr]at lD
   exact AE.round 1 ⟨by omega,fun _=>lD⟩ (by omega) (sU) rfl
  ·obtain⟨v,hv,cg⟩:=cm u.xs j fZ
   have cJ:=wr (x:=(j:Int)+1) (by omega)
   simp only[go_sem,Nat.reduceAdd,Nat.reduceLeDiff,Nat.reduceSub,Int.reduceToNat,reduceCtorEq,fW]
   refine gE @ai ?_
   refine cT ?_
   refine gE (an @cg @ai) ?_
   refine AQ.fix 2 rfl rfl ?_
   refine sI ?_
   refine AQ.fn (by kernel_rfl) rfl rfl rfl (K_ v) rfl ?_
   refine sI ?_
   refine gO ?_
   have eC:=cN hu.2.2 hv
   rw[BC hv,GC]at lD
   obtain⟨mY,fO,ja⟩:=GQ (dR 2 3) (b7 v)
   have kc:=Lh v eC
   refine AP.D4 2 1 2 [(2,.im (.pt [.v (.func (.yield l) #[] #[])]))] (R:=fun l2=>D3 (fun _=>hY l l2 .ready .ready 0) (qB (dR 2 3) (b7 v)) (hY l l2 (.done .ret) (.done .ret) (iY (dR 2 3) (b7 v))) (b7 v).length) rfl rfl (by kernel_rfl) (sU) rfl rfl (fun l2=>?_) (fun l2 r H' hR=>?_)
   ·refine K9 (M:=3) (Hs:=fun _=>[(2,oY l l2 .ready),(1,fW l .ready),(0,.var 30 [Iv 0])]) (Hx:=[(2,oY l l2 (.done .ret)),(1,fW l (.done .ret)),(0,.var 30 [Iv (iY (dR 2 3) (b7 v))])]) v eC ⟨fun k hk yU=>?_,fun hk=>?_,fun _ _=>fb.of _ _ _ rfl,fun k=>fb.of _ _ _ rfl⟩ rfl (fun _=>rfl) (fun _ _=>rfl)
    ·obtain⟨t,ht,hf⟩:=mY k hk
     rw[wZ ht]
     exact Ui l l2 t (kc t (List.mem_of_getElem? ht)) hf
    ·obtain⟨t,ht,hf,he⟩:=fO hk
     rw[wZ ht,he]
     exact Uj l l2 t (kc t (List.mem_of_getElem? ht)) hf
   ·rcases hR with⟨h1,rfl⟩|⟨h1,rfl⟩
    ·refine⟨fb.of _ _ _ rfl,.ready,_,rfl,rfl,?_⟩
     rw[ja h1,if_neg (by decide)]at lD
     simp only[go_sem,Nat.reduceAdd,Nat.reduceLeDiff,Nat.reduceSub,Int.reduceToNat,reduceCtorEq,hY,fW]
     refine gE @cJ ?_
     refine AE.ew [3] rfl ?_
     refine sI ?_
     exact AE.round (j+1) ⟨by omega,lD⟩ (by omega) (sU) rfl
    ·refine⟨fb.of _ _ _ rfl,.done .ret,_,rfl,rfl,?_⟩
     obtain⟨t,ht,hf,he⟩:=fO h1
     rw[he,if_pos hf,<-he]at lD
     have aT:dr 2 3 u.xs≠0:=by rw[lD,he];exact hf
     simp only[go_sem,Nat.reduceAdd,Nat.reduceLeDiff,Nat.reduceSub,Int.reduceToNat,reduceCtorEq,hY,fW]
     refine gO ?_
     refine AE.aV [3] rfl trivial rfl ?_
     rw[if_neg aT,lD];rfl
theorem nR (c:List Lt) (hs:cG c):aI Tryz.prog 15 [aJ c] (Iv (bl 4 9 2 3 c)):=by
 have cB:=hs.1
 have bD:=Nx c
 refine ak.walk [0,2,3,4,5,6,7,11,13,14,15,16,39,45,46,50] [2,5,6] Tryz.func15 rfl Tryz.ntmps15 (by kernel_rfl) (by rfl) rfl fun W own I0 ax lay=>?_
 refine gE @ae ?_
 refine AQ.fn (by kernel_rfl) rfl rfl rfl (RB c hs) rfl ?_
 refine sI ?_
 refine gO ?_
 refine AP.cond rfl rfl (fun h=>?_) (fun h=>?_)
 ·have h:mD c≠0:=by simpa using h
  refine gO ?_
  exact AE.aV [0] rfl ⟨⟨rfl,Nat.le_of_ble_eq_true (by kernel_rfl)⟩,trivial⟩ rfl ⟨rfl,by rw[bD,if_pos h];rfl⟩
 have h:¬mD c≠0:=by simpa using h
 rw[if_neg h]at bD
 have uN:c.length<=40:=Rz h
 refine gE @ae ?_
 refine AP.loop rfl (α:=Nat) (fun k=>[(0,aJ c),(2,.ob 0 0),(13,aJ c),(14,Iv c.length),(15,Iv k)]) (fun k=>[(0,.var 30 [Iv 0])]) (fun k=>k<=c.length/\bl 4 9 2 3 c=j2 2 3 (c.drop k)) (fun k=>c.length-k) 0 ⟨by omega,bD⟩ (sU) rfl fun k ⟨hk,hm⟩=>?_
 rcases Nat.eq_or_lt_of_le hk with aG|ah
 ·rw[aG,List.drop_length,j2]at hm
  refine gO ?_
  refine cF ?_
  refine gO ?_
  exact AE.aV [0] rfl ⟨⟨rfl,Nat.le_of_ble_eq_true (by kernel_rfl)⟩,trivial⟩ rfl ⟨rfl,by rw[hm];rfl⟩
 ·obtain⟨u,hu,aj⟩:=dI c k ah
  have hw:=wr (x:=(k:Int)+1) (by omega)
  have bM:=jt hs hu
  have lI:=bM.2.1
  rw[drop_cons hu,GA]at hm
  refine gE @ae ?_
  refine cT ?_
  refine gE (an @aj (an @ae @ai)) ?_
  refine AQ.lu (by kernel_rfl) rfl rfl (fun h=>by first|(simp[gs,AV.g];done)|(simp[gs,AV.g,bH];done)|(simp[gs,AV.g,bH,bw]at h⊢;done)|(simp[gs,AV.g,bH,bw]at h⊢;exact h)|(simp[gs,AV.g,bH,bw]at h⊢;simp[h];done)|(simp[bw]at h;done)|(simp[gs,AV.g,bw]at h⊢;simp[h];done)|(simp[gs,AV.g,bw]at h⊢;exact h.1)|(simp[gs,AV.g];rfl)|(simp[gs,AV.g,bw]at h⊢;rfl)|(simp[gs,AV.g,bw]at h⊢;simp[h];rfl)|(simp[gs,AV.g,bw]at h⊢;simp_all)) rfl (fun _=>Iy u.pd (by have:=bM.1;omega)) rfl ?_
  refine sI ?_
  refine gE @ai ?_
  refine AP.cond rfl rfl (fun h5=>?_) (fun h5=>?_)
  ·have h5:=(GK u.pd u.xs.length (dV u.pd)).1 h5
   rw[if_pos h5]at hm
   refine gO ?_
   exact AE.aV [1,0] rfl ⟨⟨rfl,Nat.le_of_ble_eq_true (by kernel_rfl)⟩,trivial⟩ rfl ⟨rfl,by rw[hm];rfl⟩
  ·have h5:¬((u.pd≠[61]/\dV u.pd=false)\/(u.pd=[61]/\u.xs.length≠2)):=fun hh=>by
    have h6:=(GK u.pd u.xs.length (dV u.pd)).2 hh
    exact absurd (h6.symm.trans h5) (by decide)
   rw[if_neg h5]at hm
   have vx:List.drop k (List.take (k+1) (aF c))=aF [u]:=by
    rw[aF,<-List.map_take,<-List.map_drop,cK hu,List.drop_append_of_le_length (by rw[List.length_take];omega),List.drop_take_self];rfl
   have gz:((k:Int)+1).toNat=k+1:=by omega
   refine gE @ae ?_
   rw[hw]
   refine AQ.fix 1 rfl rfl ?_
   refine sE (an @gz @vx) ?_
   refine AQ.fn (by kernel_rfl) rfl rfl rfl (T7 [u]) rfl ?_
   refine sI ?_
   refine gO ?_
   have ht:=fun l=>T8 l u bM
   refine AP.D4 1 0 1 [(2,.ob 0 0)] (R:=fun l _ H'=>H'=[(1,fW l (if dr 2 3 u.xs=0 then .ready else .done .ret)),(0,.var 30 [Iv (dr 2 3 u.xs)])]) rfl rfl (by kernel_rfl) (sU) rfl rfl ht (fun l r H' hR=>?_)
   subst hR
   by_cases hf:dr 2 3 u.xs=0
   ·rw[if_neg (by simpa using hf)]at hm
    rw[if_pos hf,hf]
    refine⟨fb.of _ _ _ rfl,.ready,_,rfl,rfl,?_⟩
    refine sI ?_
    refine gE @hw ?_
    exact AE.round (k+1) ⟨by omega,hm⟩ (by omega) (sU) rfl
   ·rw[if_pos hf]at hm
    rw[if_neg hf]
    refine⟨fb.of _ _ _ rfl,.done .ret,_,rfl,rfl,?_⟩
    refine sI ?_
    refine gO ?_
    exact AE.aV [0] rfl ⟨⟨rfl,Nat.le_of_ble_eq_true (by kernel_rfl)⟩,trivial⟩ rfl ⟨rfl,by rw[hm];rfl⟩
def eO {α:Type}:List (Int×α)->Int->Option Nat
 |[],_=>none
 |p::m,v=>if p.1=v then some 0 else(eO m v).map (·+1)
def bY {α:Type}:List (Int×α)->Int->Option α
 |[],_=>none
 |p::m,v=>if p.1=v then some p.2 else bY m v
def nC {α:Type} (m:List (Int×α)) (v:Int) (x:α):List (Int×α):=match eO m v with
 |some j=>m.set j (v,x)
 |none=>m++[(v,x)]
theorem wa {α:Type}:∀{m:List (Int×α)} {v:Int} {j:Nat},eO m v=some j->∃x,m[j]?=some (v,x)/\bY m v=some x
 |[],v,j,h=>by cases h
 |p::m,v,j,h=>by
  rw[eO]at h
  rw[bY]
  by_cases hp:p.1=v
  ·rw[if_pos hp]at h⊢
   cases h
   exact⟨p.2,by rw[List.getElem?_cons_zero,<-hp],rfl⟩
  ·rw[if_neg hp]at h⊢
   cases hq:eO m v with
   |none=>rw[hq]at h;cases h
   |some i=>
    rw[hq]at h;cases h
    obtain⟨x,h1,h2⟩:=wa hq
    exact⟨x,by rw[List.getElem?_cons_succ];exact h1,h2⟩
theorem re {α:Type}:∀{m:List (Int×α)} {v:Int},eO m v=none->bY m v=none/\v∉m.map (·.1)
 |[],v,h=>⟨rfl,by simp⟩
 |p::m,v,h=>by
  rw[eO]at h
  rw[bY]
  by_cases hp:p.1=v
  ·rw[if_pos hp]at h;cases h
  ·rw[if_neg hp]at h⊢
   cases hq:eO m v with
   |some i=>rw[hq]at h;cases h
   |none=>
    obtain⟨h1,h2⟩:=re hq
    exact⟨h1,by rw[List.map_cons,List.mem_cons];rintro(h|h);exact hp h.symm;exact h2 h⟩
theorem IL {α:Type} {m:List (Int×α)} {v:Int} {x:α} (h:bY m v=some x):∃j,eO m v=some j/\m[j]?=some (v,x):=by
 cases hq:eO m v with
 |none=>rw[(re hq).1]at h;cases h
 |some j=>
  obtain⟨y,h1,h2⟩:=wa hq
  rw[h]at h2;cases h2
  exact⟨j,rfl,h1⟩
theorem IM {α:Type} (m:List (Int×α)) (v:Int) (x:α) (w:Int):bY (nC m v x) w=if w=v then some x else bY m w:=by
 rw[nC]
 have bK:∀(m:List (Int×α)) (j:Nat),eO m v=some j->bY (m.set j (v,x)) w=if w=v then some x else bY m w:=by
  intro m
  induction m with
  |nil=>intro j h;cases h
  |cons p m ih=>
   intro j h
   rw[eO]at h
   by_cases hp:p.1=v
   ·rw[if_pos hp]at h;cases h
    rw[List.set_cons_zero,bY,bY]
    by_cases hw:w=v
    ·rw[if_pos hw,if_pos hw.symm]
    ·rw[if_neg hw,if_neg (fun h=>hw h.symm),if_neg (fun h=>hw (h.symm.trans hp))]
   ·rw[if_neg hp]at h
    cases hq:eO m v with
    |none=>rw[hq]at h;cases h
    |some i=>
     rw[hq]at h;cases h
     rw[List.set_cons_succ,bY,bY,ih i hq]
     by_cases hw:w=v
     ·rw[if_pos hw,if_neg (fun h=>hp (h.trans hw)),if_pos hw]
     ·rw[if_neg hw,if_neg hw]
 cases hq:eO m v with
 |some j=>exact bK m j hq
 |none=>
  have h0:=(re hq).1
  have uU:∀m:List (Int×α),bY (m++[(v,x)]) w=match bY m w with
   |some y=>some y
   |none=>if v=w then some x else none:=by
   intro m
   induction m with
   |nil=>rw[List.nil_append,bY,bY,bY]
   |cons p m ih=>
    rw[List.cons_append,bY,bY]
    by_cases hp:p.1=w
    ·rw[if_pos hp,if_pos hp]
    ·rw[if_neg hp,if_neg hp,ih]
  rw[uU]
  by_cases hw:w=v
  ·subst hw;simp only[h0,if_pos]
  ·rw[if_neg hw]
   cases bY m w with
   |some y=>rfl
   |none=>simp only[if_neg (fun h=>hw (Eq.symm h))]
def kI {α:Type} (m:List (Int×α)):List Value:=m.map fun p=> .int .i64 p.1
theorem Da {α:Type} (m:List (Int×α)):(kI m).length=m.length:=List.length_map ..
theorem oF {α:Type} (m:List (Int×α)):rQ (.int .i64) (kI m):=fun v hv=>by
 obtain⟨p,_,rfl⟩:=List.mem_map.1 hv
 rfl
theorem Rh {α:Type} (m:List (Int×α)):∀k∈kI m,k.oneCell'=true:=fun v hv=>by
 obtain⟨p,_,rfl⟩:=List.mem_map.1 hv
 rfl
theorem wb {α:Type} {m:List (Int×α)} {v:Int} (h:eO m v=none):Value.int .i64 v∉kI m:=fun hc=>by
 obtain⟨p,hp,e⟩:=List.mem_map.1 hc
 cases e
 exact(re h).2 (List.mem_map.2 ⟨p,hp,rfl⟩)
theorem zj {α:Type} {m:List (Int×α)} {j:Nat} {p:Int×α} (h:m[j]?=some p):(kI m)[j]?=some (.int .i64 p.1):=by rw[kI,List.getElem?_map,h];rfl
theorem IB {α:Type} {m:List (Int×α)} {j:Nat} {k:Value} (h:(kI m)[j]?=some k):∃p,m[j]?=some p/\k= .int .i64 p.1:=by
 rw[kI,List.getElem?_map]at h
 cases hq:m[j]? with
 |none=>rw[hq]at h;cases h
 |some p=>rw[hq]at h;exact⟨p,rfl,by simpa using h.symm⟩
def kZ {α:Type} (m:List (Int×α)):Prop:=(m.map (·.1)).Nodup
theorem zk {α:Type} {m:List (Int×α)} (eg:kZ m) {v:Int} {x:α} {j i:Nat} (hj:m[j]?=some (v,x)) (hi:(kI m)[i]?=some (.int .i64 v)):i=j:=by
 obtain⟨p,hp,e⟩:=IB hi
 cases e
 have h1:(m.map (·.1))[i]?=some p.1:=by rw[List.getElem?_map,hp];rfl
 have h2:(m.map (·.1))[j]?=some p.1:=by rw[List.getElem?_map,hj];rfl
 obtain⟨a1,b1⟩:=List.getElem?_eq_some_iff.1 h1
 obtain⟨a2,b2⟩:=List.getElem?_eq_some_iff.1 h2
 exact(List.getElem_inj eg).1 (b1.trans b2.symm)
theorem Db {α:Type} (m:List (Int×α)) (v:Int) (x:α):kI (nC m v x)=match eO m v with
  |some _=>kI m
  |none=>kI m++[.int .i64 v]:=by
 rw[nC]
 cases h:eO m v with
 |none=>simp[kI]
 |some j=>
  obtain⟨y,h1,_⟩:=wa h
  simp only[kI,List.map_set]
  exact List.ext_getElem? fun i=>by
   rw[List.getElem?_set]
   by_cases ig:j=i
   ·subst ig
    rw[if_pos rfl,List.getElem?_map,h1]
    have:=(List.getElem?_eq_some_iff.1 h1).1
    rw[if_pos (by simpa using this)];rfl
   ·rw[if_neg ig]
theorem Sd {α:Type} {m:List (Int×α)} (h:kZ m) (v:Int) (x:α):kZ (nC m v x):=by
 have hk:(nC m v x).map (·.1)=match eO m v with
  |some _=>m.map (·.1)
  |none=>m.map (·.1)++[v]:=by
  have:=Db m v x
  have hi:∀m:List (Int×α),(kI m).map (fun u=>match u with| .int _ n=>n|_=>0)=m.map (·.1):=fun m=>by simp[kI,Function.comp_def]
  rw[<-hi (nC m v x),this]
  cases eO m v with
  |some j=>exact hi m
  |none=>rw[List.map_append,hi];rfl
 rw[kZ,hk]
 cases hq:eO m v with
 |some j=>exact h
 |none=>
  refine List.nodup_append.2 ⟨h,by simp,fun a ha b hb=>?_⟩
  rw[List.mem_singleton]at hb
  subst hb
  exact fun e=>(re hq).2 (e▸ha)
theorem Jt {α:Type}:∀{m:List (Int×α)} {v:Int} {x:α},kZ m->(v,x)∈m->bY m v=some x
 |[],v,x,_,h=>by cases h
 |p::m,v,x,eg,h=>by
  rw[kZ,List.map_cons,List.nodup_cons]at eg
  rw[bY]
  rcases List.mem_cons.1 h with rfl|h
  ·rw[if_pos rfl]
  ·rw[if_neg (fun e=>eg.1 (List.mem_map.2 ⟨(v,x),h,e.symm⟩)),Jt eg.2 h]
theorem RC {α:Type} {m:List (Int×α)} {v:Int} {x:α} (h:bY m v=some x):(v,x)∈m:=by
 obtain⟨j,_,h2⟩:=IL h
 exact List.mem_of_getElem? h2
def vN (m:List (Int×Int)):List AV:=m.map fun p=>Iv p.2
theorem Uy (m:List (Int×Int)):(vN m).length=m.length:=List.length_map ..
@[go_sem] theorem wG (ρ:Nat->Nat):∀m:List (Int×Int),AV.dJ ρ (vN m)=vN m
 |[]=>rfl
 |_::m=>by rw[vN,List.map_cons,AV.dJ,<-vN,wG ρ m];rfl
@[go_sem] theorem Ri (b:Nat):∀m:List (Int×Int),lP b (vN m)=vN m
 |[]=>rfl
 |_::m=>by rw[vN,List.map_cons,lP,<-vN,Ri b m];rfl
@[go_sem] theorem gB (b:Nat):∀m:List (Int×Int),AV.mens b (vN m)=false
 |[]=>rfl
 |_::m=>by rw[vN,List.map_cons,AV.mens,<-vN,gB b m];rfl
@[go_sem] theorem Oy (b:Nat):∀m:List (Int×Int),AV.i_ b (vN m)=false
 |[]=>rfl
 |_::m=>by rw[vN,List.map_cons,AV.i_,<-vN,Oy b m];rfl
@[go_sem] theorem GO (b:Nat) (l:List IV):∀m:List (Int×Int),h_ b l (vN m)=vN m
 |[]=>rfl
 |_::m=>by rw[vN,List.map_cons,h_,<-vN,GO b l m];rfl
@[go_sem] theorem Om (b es:Nat) (rows:List (List IV)):∀m:List (Int×Int),iH b es rows (vN m)=vN m
 |[]=>rfl
 |_::m=>by rw[vN,List.map_cons,iH,<-vN,Om b es rows m];rfl
@[go_sem] theorem Oi (b:Nat) (rows:List (List IV)):∀m:List (Int×Int),ib b rows (vN m)=True
 |[]=>rfl
 |_::m=>by rw[vN,List.map_cons,ib,<-vN,Oi b rows m];simp[ia]
theorem An {m:List (Int×Int)} {j:Nat} {p:Int×Int} (h:m[j]?=some p):(vN m)[j]?=some (Iv p.2):=by rw[vN,List.getElem?_map,h];rfl
theorem Lv (m:List (Int×Int)) (v:Int) (x:Int):vN (nC m v x)=match eO m v with
  |some j=>(vN m).set j ((fun p:Int×Int=>Iv p.2) (v,x))
  |none=>vN m++[(fun p:Int×Int=>Iv p.2) (v,x)]:=by
 rw[nC]
 cases eO m v with
 |none=>simp only[vN,List.map_append];rfl
 |some j=>simp[vN,List.map_set]
def vT (m:List (Int×Tm)):List AV:=m.map fun p=>bq p.2
@[go_sem] theorem Tn (ρ:Nat->Nat):∀m:List (Int×Tm),AV.dJ ρ (vT m)=vT m
 |[]=>rfl
 |_::m=>by rw[vT,List.map_cons,AV.dJ,<-vT,Tn ρ m];rfl
@[go_sem] theorem Rj (b:Nat):∀m:List (Int×Tm),lP b (vT m)=vT m
 |[]=>rfl
 |_::m=>by rw[vT,List.map_cons,lP,<-vT,Rj b m];rfl
@[go_sem] theorem R0 (b:Nat):∀m:List (Int×Tm),AV.mens b (vT m)=false
 |[]=>rfl
 |_::m=>by rw[vT,List.map_cons,AV.mens,<-vT,R0 b m];rfl
@[go_sem] theorem Oz (b:Nat):∀m:List (Int×Tm),AV.i_ b (vT m)=false
 |[]=>rfl
 |_::m=>by rw[vT,List.map_cons,AV.i_,<-vT,Oz b m];rfl
@[go_sem] theorem Og (b:Nat) (l:List IV):∀m:List (Int×Tm),h_ b l (vT m)=vT m
 |[]=>rfl
 |_::m=>by rw[vT,List.map_cons,h_,<-vT,Og b l m];rfl
@[go_sem] theorem On (b es:Nat) (rows:List (List IV)):∀m:List (Int×Tm),iH b es rows (vT m)=vT m
 |[]=>rfl
 |_::m=>by rw[vT,List.map_cons,iH,<-vT,On b es rows m];rfl
@[go_sem] theorem Oj (b:Nat) (rows:List (List IV)):∀m:List (Int×Tm),ib b rows (vT m)=True
 |[]=>rfl
 |_::m=>by rw[vT,List.map_cons,ib,<-vT,Oj b rows m];simp[ia,ib]
def vZ (m:List (Int×Int×Int)):List AV:=m.map fun p=> .agg [Iv p.2.1,Iv p.2.2]
@[go_sem] theorem To (ρ:Nat->Nat):∀m:List (Int×Int×Int),AV.dJ ρ (vZ m)=vZ m
 |[]=>rfl
 |_::m=>by rw[vZ,List.map_cons,AV.dJ,<-vZ,To ρ m];rfl
@[go_sem] theorem Rk (b:Nat):∀m:List (Int×Int×Int),lP b (vZ m)=vZ m
 |[]=>rfl
 |_::m=>by rw[vZ,List.map_cons,lP,<-vZ,Rk b m];rfl
@[go_sem] theorem R3 (b:Nat):∀m:List (Int×Int×Int),AV.mens b (vZ m)=false
 |[]=>rfl
 |_::m=>by rw[vZ,List.map_cons,AV.mens,<-vZ,R3 b m];rfl
@[go_sem] theorem OA (b:Nat):∀m:List (Int×Int×Int),AV.i_ b (vZ m)=false
 |[]=>rfl
 |_::m=>by rw[vZ,List.map_cons,AV.i_,<-vZ,OA b m];rfl
@[go_sem] theorem Oh (b:Nat) (l:List IV):∀m:List (Int×Int×Int),h_ b l (vZ m)=vZ m
 |[]=>rfl
 |_::m=>by rw[vZ,List.map_cons,h_,<-vZ,Oh b l m];rfl
@[go_sem] theorem Oo (b es:Nat) (rows:List (List IV)):∀m:List (Int×Int×Int),iH b es rows (vZ m)=vZ m
 |[]=>rfl
 |_::m=>by rw[vZ,List.map_cons,iH,<-vZ,Oo b es rows m];rfl
@[go_sem] theorem Ol (b:Nat) (rows:List (List IV)):∀m:List (Int×Int×Int),ib b rows (vZ m)=True
 |[]=>rfl
 |_::m=>by rw[vZ,List.map_cons,ib,<-vZ,Ol b rows m];simp[ia,ib]
section
open Go.MapKept
variable {C:Cx} {K:List PK} {E:Env} {H:aa}
end
theorem u3:Tryz.prog.underlying 3=some (.int .i64):=by kernel_rfl
theorem mM:Tryz.prog.underlying 149=some (.map 3 3):=by kernel_rfl
def bump (m:List (Int×Int)) (v:Int):List (Int×Int):=nC m v ((bY m v).getD 0+1)
def stM (m:List (Int×Int)) (x:Tm):List (Int×Int):=if x.nm=[]then bump m x.ix else m
def dP (xs:List Tm):List (Int×Int):=xs.foldl stM []
def jT (xs:List Tm):List Int:=xs.flatMap fun x=>if x.nm=[]then[x.ix]else[]
theorem NF (xs:List Tm) (x:Tm):dP (xs++[x])=stM (dP xs) x:=by rw[dP,List.foldl_append];rfl
theorem GH:∀(xs:List Tm) (m:List (Int×Int)),kZ m->kZ (xs.foldl stM m)
 |[],m,h=>h
 |x::xs,m,h=>GH xs _ (by
   rw[stM]
   by_cases hx:x.nm=[]
   ·rw[if_pos hx];exact Sd h _ _
   ·rw[if_neg hx];exact h)
theorem x9 (xs:List Tm):kZ (dP xs):=GH xs [] List.nodup_nil
theorem GG:∀(xs:List Tm) (m:List (Int×Int)) (v:Int),(∀v,(bY m v).getD 0≥0/\(bY m v=none\/(bY m v).getD 0>0))->
  (bY (xs.foldl stM m) v).getD 0=(bY m v).getD 0+(jT xs).count v/\(bY (xs.foldl stM m) v=none\/(bY (xs.foldl stM m) v).getD 0>0)
 |[],m,v,h=>⟨by simp[jT],(h v).2⟩
 |x::xs,m,v,h=>by
  have h1:∀v,(bY (stM m x) v).getD 0=(bY m v).getD 0+((if x.nm=[]then[x.ix]else[]):List Int).count v:=fun v=>by
   rw[stM]
   by_cases hx:x.nm=[]
   ·rw[if_pos hx,if_pos hx,bump,IM]
    by_cases hv:v=x.ix
    ·subst hv;rw[if_pos rfl];simp
    ·rw[if_neg hv,List.count_cons_of_ne (fun e=>hv e.symm)];simp
   ·rw[if_neg hx,if_neg hx];simp
  have h2:∀v,(bY (stM m x) v).getD 0≥0/\(bY (stM m x) v=none\/(bY (stM m x) v).getD 0>0):=fun v=>by
   refine⟨by rw[h1];have:=(h v).1;omega,?_⟩
   by_cases hx:x.nm=[]
   ·by_cases hv:v=x.ix
    ·refine .inr ?_
     rw[h1,if_pos hx,<-hv]
     have:=(h v).1
     simp;omega
    ·rw[stM,if_pos hx,bump,IM,if_neg hv];exact(h v).2
   ·rw[stM,if_neg hx];exact(h v).2
  obtain⟨a,b⟩:=GG xs (stM m x) v h2
  rw[List.foldl_cons]
  refine⟨?_,b⟩
  rw[a,h1,show jT (x::xs)=(if x.nm=[]then[x.ix]else[])++jT xs by simp[jT],List.count_append]
  omega
theorem ux (xs:List Tm) (v:Int):(bY (dP xs) v).getD 0=(jT xs).count v:=by
 have:=(GG xs [] v fun v=>⟨by simp[bY],.inl rfl⟩).1
 rw[dP,this];simp[bY]
mutual
theorem w9:∀t,bR t=jT (b7 t)
 | .mk n i xs=>by
  rw[bR,b7,LK xs]
  by_cases h:n=[]<;>simp[jT,Tm.nm,Tm.ix,h]
theorem LK:∀l,aM l=jT (cA l)
 |[]=>by rw[aM,cA];rfl
 |t::l=>by rw[aM,cA,w9 t,LK l];simp[jT]
end
mutual
theorem LQ:∀t,wT t=(b7 t).length
 | .mk n i xs=>by rw[wT,b7,LW xs,List.length_cons];omega
theorem LW:∀l,aH l=(cA l).length
 |[]=>by rw[aH,cA];rfl
 |t::l=>by rw[aH,cA,LQ t,LW l,List.length_append]
end
theorem count_le (xs:List Tm) (v:Int):(jT xs).count v<=xs.length:=by
 induction xs with
 |nil=>simp[jT]
 |cons x xs ih=>
  rw[show jT (x::xs)=(if x.nm=[]then[x.ix]else[])++jT xs by simp[jT],List.count_append,List.length_cons]
  have:((if x.nm=[]then[x.ix]else[]):List Int).count v<=1:=by
   by_cases hx:x.nm=[]
   ·rw[if_pos hx];exact Nat.le_trans (List.count_le_length) (by simp)
   ·rw[if_neg hx];simp
  omega
noncomputable def qs (l:Nat) (st:gZ):Ob:= .lp l 23 st Tryz.f208 [0,1,0,1,1] [10] [(4,.ob 1 0),(5,.ob 2 0)]
noncomputable def pe (l:Nat) (st:gZ) (xs:List Tm):aa:=[(4,qi l 4),(3,qs l st),(2,.var 3 [Iv xs.length]),(1,.var 149 [.mp 0]),(0,.var (.map (kI (dP xs))) (vN (dP xs)))]
theorem NI (l:Nat) (xs:List Tm) (x:Tm) (hx:xs.length<=1000000):g_ Tryz.prog 5 l [bq x] (pe l .ready xs) (fun r H'=>r=Bv true/\H'=pe l .ready (xs++[x])):=by
 have hw:=wr (x:=(xs.length:Int)+1) (by omega)
 have aS:=NF xs x
 have eg:=x9 xs
 have gn:∀v,(0:Int)<=(bY (dP xs) v).getD 0/\(bY (dP xs) v).getD 0<=xs.length:=fun v=>by rw[ux];have:=count_le xs v;omega
 have hlen:((xs.length:Int)+1)=((xs++[x]).length:Nat):=by simp
 refine g_.walk (b:=3) [4,5,6,10,15] [4,5] rfl rfl rfl fun w own I0 ax lay=>?_
 simp only[go_sem,Nat.reduceAdd,Nat.reduceLeDiff,Nat.reduceSub,Int.reduceToNat,reduceCtorEq,o5,pe,qs]
 refine gO ?_
 refine AE.begin (b:=3) rfl rfl _ ?_
 refine sI ?_
 refine gE @hw ?_
 refine AP.fix 5 rfl rfl ?_
 refine sI ?_
 refine AP.cond rfl rfl (fun h=>?_) (fun h=>?_)
 ·have h:x.nm=[]:=by simpa using h
  rw[stM,if_pos h,bump]at aS
  refine gO ?_
  cases hq:eO (dP xs) x.ix with
  |none=>
   have oh:(bY (dP xs) x.ix).getD 0=0:=by rw[(re hq).1];rfl
   rw[oh]at aS
   refine AQ.Dx (by kernel_rfl) rfl rfl rfl mM u3 (oF _) rfl (wb hq) rfl rfl ?_
   refine sI ?_
   refine gO ?_
   refine AQ.Jm (by kernel_rfl) rfl rfl rfl rfl mM u3 (oF _) rfl (wb hq) ?_
   refine sI ?_
   refine gO ?_
   refine AE.wH (b:=3) rfl ⟨rfl,?_⟩
   have e1:=Db (dP xs) x.ix (0+1)
   have e2:=Lv (dP xs) x.ix (0+1)
   rw[hq]at e1 e2
   rw[aS,<-hlen,e1,e2];rfl
  |some j=>
   obtain⟨y,h1,h2⟩:=wa hq
   refine AQ.Dw j (by kernel_rfl) rfl rfl rfl mM u3 (oF _) rfl (List.mem_of_getElem? (zj h1)) (fun i hi=>zk eg h1 hi) (An h1) ?_
   have hy:=gn x.ix
   rw[h2]at aS hy
   have CW:=wr (x:=y+1) (by simp only[Option.getD_some]at hy;omega)
   refine sI ?_
   refine gE @CW ?_
   refine AQ.Sb j (by kernel_rfl) rfl rfl rfl rfl mM u3 (oF _) rfl (List.mem_of_getElem? (zj h1)) (fun i hi=>zk eg h1 hi) ?_
   refine sI ?_
   refine gO ?_
   refine AE.wH (b:=3) rfl ⟨rfl,?_⟩
   have e1:=Db (dP xs) x.ix (y+1)
   have e2:=Lv (dP xs) x.ix (y+1)
   rw[hq]at e1 e2
   rw[aS,<-hlen,Option.getD_some,e1,e2,CW];rfl
 ·have h:¬x.nm=[]:=by simpa using h
  rw[stM,if_neg h]at aS
  refine gO ?_
  exact AE.wH (b:=3) rfl ⟨rfl,by rw[aS,<-hlen];rfl⟩
theorem FT (t:Tm) (ht:bz t) (hw:wT t<=1000000):ak Tryz.prog 208 [bq t] [] (fun r H'=>r= .aD [.mp 0,Iv (wT t)]/\H'=[(0,.var (.map (kI (dP (b7 t)))) (vN (dP (b7 t))))]):=by
 refine ak.walk [0,1,2,3,4,5,6,9,10,15] [4,5,6] Tryz.func208 rfl Tryz.ntmps208 (by kernel_rfl) (by rfl) rfl fun W own I0 ax lay=>?_
 refine gO ?_
 refine AQ.Ji (by kernel_rfl) ?_
 refine sI ?_
 refine gO ?_
 refine AQ.fn (by kernel_rfl) rfl rfl rfl (K_ t) rfl ?_
 refine sI ?_
 refine gO ?_
 have hlen:=LQ t
 have kM:∀l k k',fb 5 (pe l .ready ((b7 t).take k)) (pe l .ready ((b7 t).take k')):=fun l k k'=>fb.of _ _ _ rfl
 refine AP.D4 3 0 3 [(4,.ob 1 0),(5,.ob 2 0)] (R:=fun l=>D3 (fun k=>pe l .ready ((b7 t).take k)) (b7 t).length [(4,qi l 4),(3,qs l .ready),(2,.var 3 []),(1,.var 3 []),(0,.var 3 [])] (b7 t).length) rfl rfl (by kernel_rfl) (sU) rfl rfl (fun l=>?_) (fun l r H' hR=>?_)
 ·refine K9 (nb:=3) (M:=4) (m:=(b7 t).length) (Hs:=fun k=>[(3,qs l .ready),(2,.var 3 [Iv ((b7 t).take k).length]),(1,.var 149 [.mp 0]),(0,.var (.map (kI (dP ((b7 t).take k)))) (vN (dP ((b7 t).take k))))]) (Hx:=[(3,qs l .ready),(2,.var 3 []),(1,.var 3 []),(0,.var 3 [])]) t ht ⟨fun k hk yU=>?_,fun hk=>absurd hk (Nat.lt_irrefl _),fun k k'=>kM l k k',fun k=>fb.of _ _ _ rfl⟩ rfl (fun _=>rfl) (fun _ _=>?_)
  ·obtain⟨u,hu⟩:∃u,(b7 t)[k]?=some u:=⟨_,List.getElem?_eq_getElem yU⟩
   have:=NI l ((b7 t).take k) u (by rw[List.length_take];omega)
   rw[wZ hu]
   rw[<-cK hu]at this
   exact this
  ·simp only[iX,pq,h_,fH,GO];rfl
 ·rcases hR with⟨h1,rfl⟩|⟨h1,rfl⟩
  ·refine⟨fb.of _ _ _ rfl,.ready,_,rfl,by simp only[go_sem,Nat.reduceAdd,Nat.reduceLeDiff,Nat.reduceSub,Int.reduceToNat,reduceCtorEq,pe,qs,noMen,AV.mens,AV.men,gB,Bool.or_false];first|done|rfl,?_⟩
   simp only[go_sem,Nat.reduceAdd,Nat.reduceLeDiff,Nat.reduceSub,Int.reduceToNat,reduceCtorEq,pe,qs,List.take_length]
   refine gO ?_
   exact AE.aV [4,2,1] rfl ⟨rfl,rfl,trivial⟩ (by simp only[go_sem,Nat.reduceAdd,Nat.reduceLeDiff,Nat.reduceSub,Int.reduceToNat,reduceCtorEq,dK,noMen,AV.mens,AV.men,gB,Bool.or_false];first|done|rfl) ⟨by rw[hlen];rfl,rfl⟩
  ·exact absurd h1 (Nat.lt_irrefl _)
def qf (bs seen:List Nat):Nat:=(bs.filter fun n=>decide (n∉seen)).length
theorem Lu {bs seen:List Nat} {n:Nat} (h:n∈bs) (hs:n∉seen):qf bs (seen++[n])<qf bs seen:=by
 induction bs with
 |nil=>cases h
 |cons a l ih=>
  have hle:∀l:List Nat,qf l (seen++[n])<=qf l seen:=fun l=>by
   induction l with
   |nil=>exact Nat.le_refl _
   |cons b m Ip=>
    unfold qf at Ip⊢
    by_cases hb:b∈seen
    ·rw[List.filter_cons_of_neg (by simp[hb]),List.filter_cons_of_neg (by simp[hb])];exact Ip
    ·by_cases fj:b=n
     ·rw[List.filter_cons_of_neg (by simp[fj]),List.filter_cons_of_pos (by simp[hb]),List.length_cons];omega
     ·rw[List.filter_cons_of_pos (by simp[hb,fj]),List.filter_cons_of_pos (by simp[hb]),List.length_cons,List.length_cons];omega
  by_cases BW:a=n
  ·subst BW
   have:=hle l
   unfold qf at this⊢
   rw[List.filter_cons_of_neg (by simp),List.filter_cons_of_pos (by simp[hs]),List.length_cons];omega
  ·have h1:n∈l:=by rcases List.mem_cons.1 h with e|e;exact absurd e.symm BW;exact e
   have h2:=ih h1
   unfold qf at h2⊢
   by_cases ha:a∈seen
   ·rw[List.filter_cons_of_neg (by simp[ha]),List.filter_cons_of_neg (by simp[ha])];exact h2
   ·rw[List.filter_cons_of_pos (by simp[ha,BW]),List.filter_cons_of_pos (by simp[ha]),List.length_cons,List.length_cons];omega
def nS (a b:List (Int×Int)):Bool:=b.all fun p=>decide (p.2<=(bY a p.1).getD 0)
theorem NR (a b:List (Int×Int)) (ha:kZ a) (hb:kZ b):ak Tryz.prog 209 [.mp 0,.mp 1] [(1,.var (.map (kI b)) (vN b)),(0,.var (.map (kI a)) (vN a))] (fun r H'=>r=Bv (nS a b)/\H'=[(1,.var (.map (kI b)) (vN b)),(0,.var (.map (kI a)) (vN a))]):=by
 refine ak.walk [0,1,4,5,6,8,10,18] [] Tryz.func209 rfl Tryz.ntmps209 (by kernel_rfl) (by rfl) rfl fun W own I0 ax lay=>?_
 refine gO ?_
 refine AQ.Sa (by kernel_rfl) rfl rfl mM fun bs clock ca=>?_
 have cB:(vN b).length=bs.length:=by rw[<-ca.len,Uy,Da]
 have ou:=Rh b
 refine sI ?_
 refine gO ?_
 refine AP.loop rfl (α:=List Nat) (fun _=>[(0,.mp 0),(8,.ob 2 0)]) (fun seen=>[(2,.var (.raw (kg clock seen clock)) [.mp 1]),(1,.var (.raw (kX (kI b) bs clock)) (vN b)),(0,.var (.map (kI a)) (vN a))])
  (fun seen=>∀(j n:Nat) (p:Int×Int),bs[j]?=some n->n∈seen->b[j]?=some p->p.2<=(bY a p.1).getD 0) (fun seen=>qf bs seen) [] (fun _ _ _ _ h _=>by cases h) (sU) rfl fun seen CN=>?_
 refine gO ?_
 refine AQ.R_ (by kernel_rfl) rfl rfl rfl ca rfl rfl ou cB (fun fK=>?_) (fun j n key y fj sK yT hy=>?_)
 ·have jB:nS a b=true:=by
   rw[nS,List.all_eq_true]
   intro p hp
   obtain⟨j,hj⟩:=List.mem_iff_getElem?.1 hp
   have vf:j<bs.length:=by have:=(List.getElem?_eq_some_iff.1 hj).1;rw[<-ca.len,Da];exact this
   exact decide_eq_true (CN j bs[j] p (List.getElem?_eq_getElem vf) (fK _ (List.getElem_mem _)) hj)
  refine sI ?_
  refine gO ?_
  refine AE.oI 1 rfl ca cB ?_
  refine sI ?_
  exact AE.aV [2] rfl ⟨rfl,trivial⟩ (by simp only[go_sem,Nat.reduceAdd,Nat.reduceLeDiff,Nat.reduceSub,Int.reduceToNat,reduceCtorEq,dK,noMen,AV.mens,AV.men,gB,Bool.or_false];first|done|rfl) ⟨by rw[jB];rfl,rfl⟩
 ·obtain⟨p,hp,rfl⟩:=IB yT
  have lM:=An hp
  rw[hy]at lM
  cases lM
  refine sI ?_
  refine gO ?_
  refine AQ.R4 (by kernel_rfl) rfl rfl rfl ca ou cB fj yT hy ?_
  refine sI ?_
  refine gO ?_
  cases hq:eO a p.1 with
  |none=>
   refine AQ.Dx (by kernel_rfl) rfl rfl rfl mM u3 (oF _) rfl (wb hq) rfl rfl ?_
   have hv:(bY a p.1).getD 0=0:=by rw[(re hq).1];rfl
   refine sI ?_
   refine gO ?_
   refine AP.cond rfl rfl (fun h5=>?_) (fun h5=>?_)
   ·have h5:¬p.2<=(bY a p.1).getD 0:=by rw[hv];simp at h5;omega
    have jB:nS a b=false:=by
     rw[<-Bool.not_eq_true,nS,List.all_eq_true]
     exact fun hc=>h5 (by simpa using hc p (List.mem_of_getElem? hp))
    refine gO ?_
    refine AE.oI 1 rfl ca cB ?_
    refine sI ?_
    exact AE.aV [2] rfl ⟨rfl,trivial⟩ (by simp only[go_sem,Nat.reduceAdd,Nat.reduceLeDiff,Nat.reduceSub,Int.reduceToNat,reduceCtorEq,dK,noMen,AV.mens,AV.men,gB,Bool.or_false];first|done|rfl) ⟨by rw[jB];rfl,rfl⟩
   ·have h5:p.2<=(bY a p.1).getD 0:=by rw[hv];simp at h5;omega
    refine gO ?_
    refine AE.round (seen++[n]) (fun j' n' v' h7 h8 h9=>?_) (Lu (List.mem_of_getElem? fj) sK) (sU) rfl
    rcases List.mem_append.1 h8 with h8|h8
    ·exact CN j' n' v' h7 h8 h9
    ·have e1:n'=n:=by simpa using h8
     subst e1
     have e2:j'=j:=by
      obtain⟨a1,b1⟩:=List.getElem?_eq_some_iff.1 h7
      obtain⟨a2,b2⟩:=List.getElem?_eq_some_iff.1 fj
      exact(List.getElem_inj ca.nd).1 (b1.trans b2.symm)
     subst e2
     rw[hp]at h9
     cases h9
     exact h5
  |some j'=>
   obtain⟨x,h1,h2⟩:=wa hq
   have hv:(bY a p.1).getD 0=x:=by rw[h2];rfl
   refine AQ.Dw j' (by kernel_rfl) rfl rfl rfl mM u3 (oF _) rfl (List.mem_of_getElem? (show(kI a)[j']?=some (.int .i64 p.1) from zj (p:=(p.1,x)) h1)) (fun i hi=>zk ha h1 hi) (show(vN a)[j']?=some (Iv x) from An (p:=(p.1,x)) h1) ?_
   refine sI ?_
   refine gO ?_
   refine AP.cond rfl rfl (fun h5=>?_) (fun h5=>?_)
   ·have h5:¬p.2<=(bY a p.1).getD 0:=by rw[hv];simp at h5;omega
    have jB:nS a b=false:=by
     rw[<-Bool.not_eq_true,nS,List.all_eq_true]
     exact fun hc=>h5 (by simpa using hc p (List.mem_of_getElem? hp))
    refine gO ?_
    refine AE.oI 1 rfl ca cB ?_
    refine sI ?_
    exact AE.aV [2] rfl ⟨rfl,trivial⟩ (by simp only[go_sem,Nat.reduceAdd,Nat.reduceLeDiff,Nat.reduceSub,Int.reduceToNat,reduceCtorEq,dK,noMen,AV.mens,AV.men,gB,Bool.or_false];first|done|rfl) ⟨by rw[jB];rfl,rfl⟩
   ·have h5:p.2<=(bY a p.1).getD 0:=by rw[hv];simp at h5;omega
    refine gO ?_
    refine AE.round (seen++[n]) (fun j' n' v' h7 h8 h9=>?_) (Lu (List.mem_of_getElem? fj) sK) (sU) rfl
    rcases List.mem_append.1 h8 with h8|h8
    ·exact CN j' n' v' h7 h8 h9
    ·have e1:n'=n:=by simpa using h8
     subst e1
     have e2:j'=j:=by
      obtain⟨a1,b1⟩:=List.getElem?_eq_some_iff.1 h7
      obtain⟨a2,b2⟩:=List.getElem?_eq_some_iff.1 fj
      exact(List.getElem_inj ca.nd).1 (b1.trans b2.symm)
     subst e2
     rw[hp]at h9
     cases h9
     exact h5
theorem NO (s t:Tm):nS (dP (b7 s)) (dP (b7 t))=nT s t:=by
 rw[Bool.eq_iff_iff,NP,nS,List.all_eq_true]
 constructor
 ·intro h v
  rw[w9,w9]
  have h1:=ux (b7 t) v
  have h2:=ux (b7 s) v
  cases hq:bY (dP (b7 t)) v with
  |none=>rw[hq]at h1;simp only[Option.getD_none]at h1;omega
  |some x=>
   rw[hq]at h1
   have:=h (v,x) (RC hq)
   simp only[decide_eq_true_eq,h2]at this
   simp only[Option.getD_some]at h1
   omega
 ·intro h p hp
  have h1:=ux (b7 t) p.1
  rw[Jt (x9 _) hp,Option.getD_some]at h1
  rw[decide_eq_true_eq,ux,h1]
  have:=h p.1
  rw[w9,w9]at this
  omega
theorem Jo (a:Int):aI Tryz.prog 229 [Iv a] (Bv false):=by
 refine ak.walk [0,2] [] Tryz.func229 rfl Tryz.ntmps229 (by kernel_rfl) (by rfl) rfl fun W own I0 ax lay=>?_
 refine gO ?_
 exact AE.ay rfl ⟨rfl,trivial⟩ rfl ⟨rfl,by simp[dN];rfl⟩
theorem Jp (a:List UInt8):aI Tryz.prog 165 [Sv a] (Bv false):=by
 refine ak.walk [0,2] [] Tryz.func165 rfl Tryz.ntmps165 (by kernel_rfl) (by rfl) rfl fun W own I0 ax lay=>?_
 refine gO ?_
 exact AE.ay rfl ⟨rfl,trivial⟩ rfl ⟨rfl,by simp[dN];rfl⟩
def me (a b:Int):Int:=if a<b then-1 else if b<a then 1 else 0
def jY (a b:List UInt8):Int:=if a<b then-1 else if b<a then 1 else 0
theorem NG (a b:Int):aI Tryz.prog 211 [Iv a,Iv b] (Iv (me a b)):=by
 refine ak.walk [0,1,4,5,6,11,12,13,16,19] [] Tryz.func211 rfl Tryz.ntmps211 (by kernel_rfl) (by rfl) rfl fun W own I0 ax lay=>?_
 refine gO ?_
 refine AQ.fn (by kernel_rfl) rfl rfl rfl (Jo a) rfl ?_
 refine sI ?_
 refine gO ?_
 refine AQ.fn (by kernel_rfl) rfl rfl rfl (Jo b) rfl ?_
 refine sI ?_
 refine gO ?_
 refine AP.cond rfl rfl (fun h=>?_) (fun h=>?_)
 ·refine gO ?_
  exact AE.ay rfl ⟨rfl,trivial⟩ rfl ⟨rfl,by rw[me,if_pos (by simpa using h)];rfl⟩
 ·refine gO ?_
  refine AP.cond rfl rfl (fun h2=>?_) (fun h2=>?_)
  ·refine gO ?_
   exact AE.ay rfl ⟨rfl,trivial⟩ rfl ⟨rfl,by rw[me,if_neg (by simpa using h),if_pos (by simpa using h2)];rfl⟩
  ·refine gO ?_
   exact AE.ay rfl ⟨rfl,trivial⟩ rfl ⟨rfl,by rw[me,if_neg (by simpa using h),if_neg (by simpa using h2)];rfl⟩
theorem s8:∀a b:List UInt8,Op.bytesLess a b=decide (a<b)
 |[],[]=>by simp[Op.bytesLess]
 |[],_::_=>by simp[Op.bytesLess]
 |_::_,[]=>by simp[Op.bytesLess]
 |x::a,y::b=>by
  rw[Op.bytesLess,s8 a b,Bool.eq_iff_iff]
  simp only[Bool.or_eq_true,Bool.and_eq_true,decide_eq_true_eq,beq_iff_eq,List.cons_lt_cons_iff]
theorem RO {a b:List UInt8} (_:Op.bytesLess a b=false) (h2:(!(Op.bytesLess a b||a==b))=true):b<a:=by
 simp only[s8,Bool.not_eq_true',Bool.or_eq_false_iff,decide_eq_false_iff_not,beq_eq_false_iff_ne]at h2
 rcases rj a b with h|h|h
 ·exact absurd h h2.1
 ·exact absurd h h2.2
 ·exact h
theorem RN {a b:List UInt8} (h1:Op.bytesLess a b=false) (h2:(!(Op.bytesLess a b||a==b))=false):¬b<a:=by
 intro hc
 rw[h1,Bool.false_or,Bool.not_eq_false',beq_iff_eq]at h2
 subst h2
 exact List.lt_irrefl _ hc
theorem FM (a b:List UInt8):aI Tryz.prog 92 [Sv a,Sv b] (Iv (jY a b)):=by
 refine ak.walk [0,1,4,5,6,11,12,13,16,19] [] Tryz.func92 rfl Tryz.ntmps92 (by kernel_rfl) (by rfl) rfl fun W own I0 ax lay=>?_
 refine gO ?_
 refine AQ.fn (by kernel_rfl) rfl rfl rfl (Jp a) rfl ?_
 refine sI ?_
 refine gO ?_
 refine AQ.fn (by kernel_rfl) rfl rfl rfl (Jp b) rfl ?_
 refine sI ?_
 refine gO ?_
 refine AP.cond rfl rfl (fun h=>?_) (fun h=>?_)
 ·refine gO ?_
  exact AE.ay rfl ⟨rfl,trivial⟩ rfl ⟨rfl,by rw[jY,if_pos (by simpa[s8]using h)];rfl⟩
 ·refine gO ?_
  refine AP.cond rfl rfl (fun h2=>?_) (fun h2=>?_)
  ·refine gO ?_
   exact AE.ay rfl ⟨rfl,trivial⟩ rfl ⟨rfl,by rw[jY,if_neg (by simpa[s8]using h),if_pos (RO h h2)];rfl⟩
  ·refine gO ?_
   exact AE.ay rfl ⟨rfl,trivial⟩ rfl ⟨rfl,by rw[jY,if_neg (by simpa[s8]using h),if_neg (RN h h2)];rfl⟩
end Go.Proofs.YtpfohmboflcneaaGreatDoor
end
